/- sapperref01's Own: lists with memory of their own. Conditions: at most 1000 lists of fewer than 2^46 bytes. -/
import Derived.Test.YtbfdokklhdmmoaaLend8
set_option linter.unusedVariables false
set_option linter.unusedSimpArgs false
set_option maxRecDepth 100000
namespace Go.Proofs.Ytbfdokklhdmmoaa.Bits
open Go.RowKit Go.Proofs.Ytbfdokklhdmmoaa.Lib Go.Proofs.Ytbfdokklhdmmoaa.Num

/-- as run_append_sl, and: a row that moved left the old one as it was -/
theorem run_append_two {P : Program} (w : World) (t ty e : TypeId) (base : Nat) (i : TypeInfo) (z : Value) (size bytes : Nat) (ht : P.underlying t = some (.slice e)) (hi : P.info? e = some i) (hz : i.zero = some z)
    (hsize : i.size = size) (hby : i.bytes = bytes) (hzs : z.cells.size = size) (hsz : 0 < size)
    (v : Value) (n : Nat) (xs : List Value) (hown : w.ownsRow base e size v n xs)
    (ad : Addr) (m c : Nat) (news : List Value) (q : Option Nat) (hl : news.length = m * size) (hnews : Sl w (some ad) news q) (h1 : ∀ u ∈ news, u.oneCell' = true)
    (h63 : n + m ≤ maxLen) (hbytes : (n + m) * bytes ≤ 140737488355328) (hbase : base ≤ w.heap.size) :
    ∃ v' w', (Builtin.append_ #[t, t] ty #[v, .slice (some ad) m c]).run P w = .ok v' w' ∧ w'.ownsRow base e size v' (n + m) (xs ++ news) ∧ w.grownBy w' v.ownBlock ∧ Aft w v.ownBlock v'.ownBlock ∧ w.grownBy w' v'.ownBlock := by
  obtain ⟨v', w', hr, h2, h3, _, h5⟩ := run_append_own_at (P := P) w base t ty e i z size bytes ht hi hz hsize hby hzs hsz v n xs hown ad m c news hl (hnews.news rfl) h1 h63 hbytes hbase
  have hA : Aft w v.ownBlock v'.ownBlock := by
    rcases h5 with h5 | h5
    · exact .inl h5
    · exact .inr ⟨_, h5, Nat.le_refl _⟩
  refine ⟨v', w', hr, h2, h3, hA, ?_⟩
  rcases h5 with h5 | h5
  · rw [h5]; exact h3
  · subst hsize
    have hsmall : n + m ≤ 9223372036854775807 := by simp only [maxLen] at h63; omega
    rcases hown.2 with ⟨rfl, rfl⟩ | ⟨g, cap, cur, rfl, hbg, hg, hnc, hcm, hcs, htake⟩
    · exact ⟨h3.os, h3.tape, h3.output, h3.size, fun k hk _ => h3.block k hk (by simp [Value.ownBlock])⟩
    · by_cases hroom : n + m ≤ cap
      · have hfit : n * i.size + news.length ≤ cur.size := by rw [hl, hcs, ← Nat.add_mul]; exact Nat.mul_le_mul_right _ hroom
        have hr' := run_append_room (P := P) w t ty e i ht hi g n cap cur hg ad m c news hl (hnews.news rfl) h1 hroom hfit
        rw [hr] at hr'
        injection hr' with e1 e2
        subst e1
        simp only [Value.ownBlock, Option.some.injEq] at h5
        have := blk_lt hg
        omega
      · have hr' := run_append_grow (P := P) w t ty e i z ht hi hz ⟨g, 0, none⟩ n cap xs hown.1 (hown.cells (g := g) rfl) ad m c news hl (hnews.news rfl) (by omega) (by omega) (growslice_fits (by omega) (by rw [hby]; exact hbytes))
        rw [hr] at hr'
        injection hr' with e1 e2
        subst e2
        exact ⟨rfl, rfl, rfl, h3.size, fun k hk _ => heap_alloc_old w.drew _ hk⟩
theorem wpList_append_two {P : Program} {w : World} {ops : Array Oper} {rest : List Oper} {o : Oper} {a : Act} {Q : Exit → Act → World → Prop} (hgd : o.guard = none) (s x : Operand) (t : TypeId) (ho : o.op = .call { callee := .builtin .append, args := #[s, x], argTypes := #[t, t] })
    (e : TypeId) (i : TypeInfo) (z : Value) (size bytes : Nat) (ht : P.underlying t = some (.slice e)) (hi : P.info? e = some i) (hz : i.zero = some z)
    (hsize : i.size = size) (hby : i.bytes = bytes) (hzs : z.cells.size = size) (hsz : 0 < size)
    (v : Value) (n : Nat) (xs : List Value) (hs : a.eval s = v) (hown : w.ownsRow 0 e size v n xs)
    (ad : Addr) (m c : Nat) (news : List Value) (q : Option Nat) (hx : a.eval x = .slice (some ad) m c) (hl : news.length = m * size) (hnews : Sl w (some ad) news q) (h1 : ∀ u ∈ news, u.oneCell' = true)
    (h63 : n + m ≤ maxLen) (hbytes : (n + m) * bytes ≤ 140737488355328)
    (h : ∀ A' c' w', w'.ownsRow 0 e size (.slice A' (n + m) c') (n + m) (xs ++ news) → w.grownBy w' v.ownBlock → Aft w v.ownBlock (Value.slice A' (n + m) c').ownBlock → w.grownBy w' (Value.slice A' (n + m) c').ownBlock → wpList P ops Q rest (a.put o.dst (.slice A' (n + m) c')) w') : wpList P ops Q (o :: rest) a w := by
  refine wpList_plain hgd fun K hK => ?_
  obtain ⟨v', w', hr, h2, h3, h4, h5⟩ := run_append_two (P := P) w t o.type e 0 i z size bytes ht hi hz hsize hby hzs hsz v n xs hown ad m c news q hl hnews h1 h63 hbytes (Nat.zero_le _)
  obtain ⟨A', c', rfl, _⟩ := own_slice h2
  unfold Oper.wp execOp
  simp only [ho, resolve, invoke, builtin, Sem.run_bind, Sem.run_pure, Result.andThen_ok, List.map_toArray, List.map_cons, List.map_nil, hs, hx, hr]
  exact hK _ _ (h A' c' w' h2 h3 h4 h5)

/-- a list that is handed to Own -/
structure Pc where
  A : Option Addr
  n : Nat
  c : Nat
def Pc.v (p : Pc) : Value := .slice p.A p.n p.c
def owns (ps : List Pc) : List Nat := ps.filterMap fun p => p.v.ownBlock
theorem mem_owns {ps : List Pc} {i k : Nat} (h : i < ps.length) (hk : ps[i].v.ownBlock = some k) : k ∈ owns ps := by
  simp only [owns, List.mem_filterMap]
  exact ⟨_, List.getElem_mem h, hk⟩
theorem of_owns {ps : List Pc} {k : Nat} (hk : k ∈ owns ps) : ∃ i, ∃ h : i < ps.length, ps[i].v.ownBlock = some k := by
  simp only [owns, List.mem_filterMap] at hk
  obtain ⟨p, hp, h⟩ := hk
  obtain ⟨i, hi, rfl⟩ := List.getElem_of_mem hp
  exact ⟨i, hi, h⟩
def mk (i n : Nat) : List Int := (List.range n).map fun k => (((i + 7 * k) % 256 : Nat) : Int)
def mr (i n : Nat) : List Int := (List.range n).map fun k => (((i + 131 + 3 * k) % 256 : Nat) : Int)
def Apart (ps : List Pc) : Prop := ∀ i j (hi : i < ps.length) (hj : j < ps.length), i ≠ j → ∀ k, ps[i].v.ownBlock = some k → ps[j].v.ownBlock ≠ some k
def Rows (w : World) (ps : List Pc) (rows : Nat → List Int) : Prop := ∀ i (h : i < ps.length), w.ownsRow 0 5 1 ps[i].v ps[i].n (u8s (rows i))
theorem Rows.len {w : World} {ps : List Pc} {rows : Nat → List Int} (h : Rows w ps rows) {i : Nat} (hi : i < ps.length) : (rows i).length = ps[i].n := by
  have := (h i hi).1
  simpa [u8s] using this
/-- one byte of one list is set -/
theorem Rows.set {w : World} {ps : List Pc} {rows : Nat → List Int} (h : Rows w ps rows) (ha : Apart ps) {j k g : Nat} (hj : j < ps.length) (hg : ps[j].A = some ⟨g, 0, none⟩) (x : Int) :
    Rows (w.setCell ⟨g, k, none⟩ (.int .u8 x)) ps (fun i => if i = j then (rows j).set k x else rows i) := by
  intro i hi
  by_cases e : i = j
  · subst e
    have h1 := h i hj
    unfold Pc.v at h1 ⊢
    rw [hg] at h1 ⊢
    have h2 := (h1.stored k (.int .u8 x)).1
    simp only [if_pos]
    unfold u8s at h2 ⊢
    rw [List.map_set]
    exact h2
  · simp only [if_neg e]
    refine own_setFar (h i hi) _ ?_
    refine ha j i hj hi (fun e' => e e'.symm) g ?_
    unfold Pc.v
    rw [hg]
    rfl
theorem mk_len (i n : Nat) : (mk i n).length = n := by simp [mk]
theorem mk_get {i n k : Nat} (h : k < n) : (mk i n)[k]? = some (((i + 7 * k) % 256 : Nat) : Int) := by simp [mk, h]
theorem mr_len (i n : Nat) : (mr i n).length = n := by simp [mr]
theorem mr_snoc (i n : Nat) : mr i (n + 1) = mr i n ++ [(((i + 131 + 3 * n) % 256 : Nat) : Int)] := by simp [mr, List.range_succ]
theorem mr_get {i n k : Nat} (h : k < n) : (mr i n)[k]? = some (((i + 131 + 3 * k) % 256 : Nat) : Int) := by simp [mr, h]
theorem infoRow : (Try.prog.info? 32).map (fun i => (i.zero, i.size, i.bytes)) = some (some (.slice none 0 0), 1, 24) := by kernel_rfl
theorem sl_two {w w2 : World} {pa A' : Option Addr} {pn pc m c' : Nat} {fs ex : List Int} (hpa : 0 < pn → ∃ g, pa = some ⟨g, 0, none⟩) (hs : Sl w pa (u8s fs) (Value.slice pa pn pc).ownBlock) (hfs : fs.length = pn)
    (hown : w2.ownsRow 0 5 1 (.slice A' m c') m (u8s (fs ++ ex))) (hg : w.grownBy w2 (Value.slice A' m c').ownBlock) : Sl w2 pa (u8s fs) (Value.slice pa pn pc).ownBlock := by
  by_cases h0 : pn = 0
  · intro hx
    simp [u8s] at hx
    omega
  · obtain ⟨g, rfl⟩ := hpa (by omega)
    by_cases h1 : (Value.slice A' m c').ownBlock = some g
    · have hm : 0 < m := by
        have := hown.1
        simp [u8s] at this
        omega
      obtain ⟨g', d, e, _⟩ := own_some hown hm
      injection e with ea _ ed
      subst ea ed
      have hs2 := (sl_of_own hown).take pn
      rw [u8s_app, List.take_left' (by simp [u8s]; exact hfs), h1] at hs2
      simp only [Value.ownBlock, Option.some.injEq] at h1
      subst h1
      exact hs2
    · exact hs.frame ((Fr.refl w (Value.slice A' m c').ownBlock.toList).grown hg (fun k hk => .inl (by simp [hk]))) (by
        intro k hk
        simp only [Value.ownBlock, Option.some.injEq] at hk
        subst hk
        simpa using h1)
/-- a list that has been grown -/
def Done (w1 w : World) (ps : List Pc) (gg i : Nat) : Prop := ∃ (h : i < ps.length) (A' : Option Addr) (c' q' : Nat), w.cell? ⟨gg, i, none⟩ = some (.slice A' (ps[i].n + 24) c') ∧ Sl w A' (u8s (mk i ps[i].n ++ mr i 24)) (some q') ∧ q' < w.heap.size ∧
  (ps[i].v.ownBlock = some q' ∨ w1.heap.size ≤ q') ∧ Sl w ps[i].A (u8s (mk i ps[i].n)) ps[i].v.ownBlock
theorem Done.step {w1 w w' : World} {ps : List Pc} {gg i : Nat} {F : List Nat} (d : Done w1 w ps gg i) (hf : Fr w w' F) (hc : w'.cell? ⟨gg, i, none⟩ = w.cell? ⟨gg, i, none⟩)
    (h1 : ∀ h : i < ps.length, ∀ q', q' < w.heap.size → (ps[i].v.ownBlock = some q' ∨ w1.heap.size ≤ q') → q' ∉ F) (h2 : ∀ h : i < ps.length, ∀ k, ps[i].v.ownBlock = some k → k ∉ F) : Done w1 w' ps gg i := by
  obtain ⟨h, A', c', q', a, b, c, d, e⟩ := d
  refine ⟨h, A', c', q', hc.trans a, b.frame hf (fun k hk => ?_), Nat.lt_of_lt_of_le c hf.size, d, e.frame hf (h2 h)⟩
  cases hk
  exact h1 h q' c d
/-- one list on its way: k bytes have been put behind it -/
def Grow (ws wr : World) (gg j m : Nat) (pa : Option Addr) (pn pc k : Nat) : Prop := Fr ws wr (gg :: (Value.slice pa pn pc).ownBlock.toList) ∧ (∀ i : Nat, i ≠ j → wr.cell? ⟨gg, i, none⟩ = ws.cell? ⟨gg, i, none⟩) ∧
  ∃ (A' : Option Addr) (c' : Nat) (gs : Array Value), gs.size = m ∧ wr.heap[gg]? = some (.cells gs 32 (0, 0)) ∧ gs[j]? = some (.slice A' (pn + k) c') ∧
    wr.ownsRow 0 5 1 (.slice A' (pn + k) c') (pn + k) (u8s (mk j pn ++ mr j k)) ∧ (∀ x, (Value.slice A' (pn + k) c').ownBlock = some x → (Value.slice pa pn pc).ownBlock = some x ∨ ws.heap.size ≤ x) ∧ Sl wr pa (u8s (mk j pn)) (Value.slice pa pn pc).ownBlock
theorem own_any (w : World) (O : Option Addr) (l c : Nat) (ps : List Pc) (qo : Option Nat) (rows : Nat → List Int) (hl : ps.length = l) (hO : Sl w O (ps.map Pc.v) qo) (hq : ∀ k, qo = some k → k ∉ owns ps) (hqlt : ∀ k, qo = some k → k < w.heap.size) (hR : Rows w ps rows) (hA : Apart ps)
    (hn : ∀ i (h : i < ps.length), ps[i].n ≤ 70368744177664) (hl1 : l ≤ 1000) :
    Calls Try.prog 21 #[.slice O l c] w fun e w' => e = .returned (.bool true) ∧ Fr w w' (owns ps) := by
  obtain ⟨i0, hi0, hz0, hz1, hz2⟩ := info_parts infoRow
  obtain ⟨j0, hj0, hy0, hy1, hy2⟩ := info_parts infoU8
  subst hl
  have HO := Hd.mk hO
  have HQ := Hd.mk hq
  have HQL := Hd.mk hqlt
  have HR := Hd.mk hR
  have HA := Hd.mk hA
  have HN := Hd.mk hn
  have hlo : Hd (∀ k, k ∈ owns ps → k < w.heap.size) := ⟨fun k hk => by
    obtain ⟨i, hi, e⟩ := of_owns hk
    exact own_lt (hR i hi) e⟩
  clear hO hq hqlt hR hA hn
  go_enter Try.func21, Try.ntmps21
  go_wp2_with (refine wpList_make_full _ rfl _ _ 79 rfl 0 32 i0 (.slice none 0 0) 1 Try.underlying79 hi0 hz0 hz1 .i64 .i64 _ _ ps.length rfl rfl rfl rfl (by rw [hz2]; omega) (by unfold maxLen; omega) (Nat.zero_le _) ?_; intro w1 hown1 hgrow1; have O1 := Hd.mk hown1; have G1 := Hd.mk hgrow1; clear hown1 hgrow1)
  have HF1 : Hd (Fr w w1 []) := ⟨(Fr.refl w []).grown G1.out (by simp)⟩
  obtain ⟨gg, hgg⟩ : ∃ gg, gg = w.heap.size := ⟨_, rfl⟩
  rw [← hgg] at O1 ⊢
  have hgn : Hd (gg ∉ owns ps) := ⟨fun e => by have := hlo.out _ e; omega⟩
  have hgw : Hd (gg < w1.heap.size) := ⟨own_lt O1.out rfl⟩
  have HGB : Hd (∃ gs : Array Value, gs.size = ps.length ∧ w1.heap[gg]? = some (.cells gs 32 (0, 0))) := ⟨by
    rcases O1.out.2 with ⟨h, _⟩ | ⟨g, cap, cur, h, hb, hg, hnc, hcm, hcs, ht⟩
    · cases h
    · injection h with e1 e2 e3
      injection e1 with e1
      injection e1 with e1
      subst e1
      exact ⟨cur, by omega, hg⟩⟩
  clear O1
  have HGG := Hd.mk hgg
  clear hgg
  go_loopg [19] ps.length (fun kq jv wr => ∃ j : Nat, jv = .int .i64 (j : Nat) ∧ j + kq = ps.length ∧ Hd (∃ rs, Rows wr ps rs ∧ ∀ i (h : i < ps.length), i < j → rs i = mk i ps[i].n) ∧ Hd (Fr w1 wr (owns ps)))
  case atStart => exact ⟨0, rfl, by omega, ⟨rows, fun i h => own_frame (HR.out i h) HF1.out (by simp), fun i _ h => absurd h (Nat.not_lt_zero _)⟩, ⟨Fr.refl _ _⟩⟩
  case round =>
    obtain ⟨wo, rfl⟩ : ∃ wo : World, wo = wr := ⟨_, rfl⟩
    obtain ⟨gx, rfl⟩ : ∃ gx : Nat, gx = gk := ⟨_, rfl⟩
    obtain ⟨j, rfl, hj, HRW, HFW⟩ := hrel
    by_cases hlt : j < ps.length
    · obtain ⟨b, off, rfl, hqb, hcell⟩ := ((HO.out.frame HF1.out (by simp)).frame HFW.out HQ.out) (by simp; omega)
      have hcj : wo.cell? ⟨b, off + j, none⟩ = some ps[j].v := (hcell j (by simpa using hlt)).trans (by rw [List.getElem?_map, List.getElem?_eq_getElem hlt]; rfl)
      obtain ⟨p, hp⟩ : ∃ p, p = ps[j] := ⟨_, rfl⟩
      have hpn := HN.out j hlt
      rw [← hp] at hcj hpn
      have HP := Hd.mk hp
      obtain ⟨pa, pn, pc⟩ := p
      simp only [Pc.v] at hcj hpn
      clear hcell hp
      go_wp2
      go_loopg [26] pn (fun kq iv wr => ∃ k : Nat, iv = .int .i64 (k : Nat) ∧ k + kq = pn ∧ Hd (∃ rs, Rows wr ps rs ∧ (∀ i (h : i < ps.length), i < j → rs i = mk i ps[i].n) ∧ (rs j).take k = (mk j pn).take k) ∧ Hd (Fr w1 wr (owns ps)))
      case atStart =>
        obtain ⟨rs, h1, h2⟩ := HRW.out
        exact ⟨0, rfl, by omega, ⟨rs, h1, h2, rfl⟩, HFW⟩
      case round =>
        obtain ⟨k, rfl, hk, HRI, HFI⟩ := hrel
        by_cases hlk : k < pn
        · obtain ⟨rs, h1, h2, h3⟩ := HRI.out
          have ho := h1 j hlt
          rw [← HP.out] at ho
          simp only [Pc.v] at ho
          obtain ⟨g, d, e, hd⟩ := own_some ho (by omega)
          injection e with ea _ ed
          subst ea ed
          have HH := Hd.mk (⟨h1, h2, h3⟩ : _ ∧ _ ∧ _)
          obtain ⟨ds, hds⟩ := own_type ho (k := g) rfl
          have hfz := blk_frozen hds k
          obtain ⟨_, _, e1, _, hc⟩ := sl_of_own ho (by have := ho.1; omega)
          injection e1 with e1
          injection e1 with e1 e2
          subst e1 e2
          obtain ⟨z, hck⟩ : ∃ z, wr.cell? ⟨g, k, none⟩ = some z := by
            have hck := hc k (by have := ho.1; omega)
            rw [Nat.zero_add, List.getElem?_eq_getElem (by have := ho.1; omega)] at hck
            exact ⟨_, hck⟩
          clear ho hc h1 h2 h3 hds hd
          go_wp2
          go_roundg (gk - 1)
          case measure => omega
          case rel =>
            obtain ⟨h1, h2, h3⟩ := HH.out
            have hpa : ps[j].A = some ⟨g, 0, none⟩ := by rw [← HP.out]
            have e : ((j : Int) + 7 * (k : Int)) % 256 = (((j + 7 * k) % 256 : Nat) : Int) := by omega
            have hset := h1.set HA.out (k := k) hlt hpa ((j : Int) + 7 * (k : Int) : Int)
            have hset := h1.set HA.out (k := k) hlt hpa (((j + 7 * k) % 256 : Nat) : Int)
            refine ⟨k + 1, by go_num, by omega, ⟨_, by rw [e]; exact hset, fun i hi hij => ?_, ?_⟩, ⟨HFI.out.setCell _ (.inl (mem_owns hlt (by rw [← HP.out]; rfl)))⟩⟩
            · rw [if_neg (by omega)]; exact h2 i hi hij
            · have hrl := h1.len hlt
              rw [← HP.out] at hrl
              simp only at hrl
              rw [if_pos rfl, List.take_succ_eq_append_getElem (by rw [List.length_set]; omega), List.take_succ_eq_append_getElem (by rw [mk_len]; omega), List.take_set_of_le (Nat.le_refl _), h3]
              congr 1
              rw [List.getElem_set_self]
              have := mk_get (i := j) hlk
              rw [List.getElem?_eq_getElem (by rw [mk_len]; omega)] at this
              injection this with this
              rw [this]
        · obtain rfl : k = pn := by omega
          go_wp2
          go_roundg (gx - 1)
          case measure => omega
          case rel =>
            obtain ⟨rs, h1, h2, h3⟩ := HRI.out
            refine ⟨j + 1, by go_num, by omega, ⟨rs, h1, fun i hi hij => ?_⟩, HFI⟩
            by_cases e : i = j
            · subst e
              have hrl := h1.len hlt
              rw [← HP.out] at hrl ⊢
              simp only at hrl ⊢
              rwa [List.take_of_length_le (by omega), List.take_of_length_le (by rw [mk_len]; omega)] at h3
            · exact h2 i hi (by omega)
    · obtain rfl : j = ps.length := by omega
      have HRW2 : Hd (∀ i (h : i < ps.length), wo.ownsRow 0 5 1 ps[i].v ps[i].n (u8s (mk i ps[i].n))) := ⟨by
        obtain ⟨rs, h1, h2⟩ := HRW.out
        intro i hi
        rw [← h2 i hi hi]
        exact h1 i hi⟩
      have hw1o : w1.heap.size ≤ wo.heap.size := HFW.out.size
      have HGB2 : Hd (∃ gs : Array Value, gs.size = ps.length ∧ wo.heap[gg]? = some (.cells gs 32 (0, 0))) := ⟨by
        obtain ⟨gs, h1, h2⟩ := HGB.out
        exact ⟨gs, h1, HFW.out.blk h2 hgn.out⟩⟩
      clear HRW HGB hj
      go_wp2
      go_loopg [41] ps.length (fun kq jv wr => ∃ j : Nat, jv = .int .i64 (j : Nat) ∧ j + kq = ps.length ∧ Hd (∀ i (h : i < ps.length), j ≤ i → wr.ownsRow 0 5 1 ps[i].v ps[i].n (u8s (mk i ps[i].n))) ∧ Hd (∀ i, i < j → Done w1 wr ps gg i) ∧ Hd (∃ gs : Array Value, gs.size = ps.length ∧ wr.heap[gg]? = some (.cells gs 32 (0, 0))) ∧ Hd (Fr w1 wr (gg :: owns ps)))
      case atStart => exact ⟨0, rfl, by omega, ⟨fun i h _ => HRW2.out i h⟩, ⟨fun i h => absurd h (Nat.not_lt_zero _)⟩, HGB2, ⟨HFW.out.mono (fun k _ hk => List.mem_cons_of_mem _ hk)⟩⟩
      case round =>
        obtain ⟨ws, rfl⟩ : ∃ ws : World, ws = wr := ⟨_, rfl⟩
        obtain ⟨gy, rfl⟩ : ∃ gy : Nat, gy = gk := ⟨_, rfl⟩
        obtain ⟨j, rfl, hj, HRS, HDS, HGS, HFS⟩ := hrel
        have hOs : Hd (Sl ws O (ps.map Pc.v) qo) := ⟨(HO.out.frame HF1.out (by simp)).frame HFS.out (fun k hk e => by
          rcases List.mem_cons.1 e with rfl | e
          · have := HGG.out; have := HQL.out _ hk; omega
          · exact HQ.out k hk e)⟩
        by_cases hlt : j < ps.length
        · obtain ⟨b, off, rfl, hqb, hcell⟩ := hOs.out (by simp; omega)
          have hcj : ws.cell? ⟨b, off + j, none⟩ = some ps[j].v := (hcell j (by simpa using hlt)).trans (by rw [List.getElem?_map, List.getElem?_eq_getElem hlt]; rfl)
          obtain ⟨p, hp⟩ : ∃ p, p = ps[j] := ⟨_, rfl⟩
          have hpn := HN.out j hlt
          rw [← hp] at hcj hpn
          have HP := Hd.mk hp
          obtain ⟨pa, pn, pc⟩ := p
          simp only [Pc.v] at hcj hpn
          have hrj := HRS.out j hlt (Nat.le_refl _)
          rw [← HP.out] at hrj
          simp only [Pc.v] at hrj
          have HRJ := Hd.mk hrj
          obtain ⟨gs, hgs, hgb⟩ := HGS.out
          have HGB3 := Hd.mk hgb
          have hfz := blk_frozen hgb j
          obtain ⟨z0, hcg⟩ : ∃ z0, ws.cell? ⟨gg, j, none⟩ = some z0 := by
            have hcg := blk_cell hgb j
            rw [Array.getElem?_eq_getElem (by omega)] at hcg
            exact ⟨_, hcg⟩
          have Hgs := Hd.mk hgs
          have hshape : Hd (0 < pn → ∃ g, pa = some ⟨g, 0, none⟩) := ⟨fun h => by
            obtain ⟨g, d, e, _⟩ := own_some hrj h
            injection e with e1 _ _
            exact ⟨g, e1⟩⟩
          have hgo : Hd ((Value.slice pa pn pc).ownBlock ≠ some gg) := ⟨own_ne hrj hgb (by decide)⟩
          clear hcell hp hgb hrj hgs
          go_wp2
          go_loopg [9] 24 (fun kq iv wr => ∃ k : Nat, iv = .int .i64 (k : Nat) ∧ k + kq = 24 ∧ Hd (Grow ws wr gg j ps.length pa pn pc k))
          case atStart =>
            have hgo2 : (Value.slice pa pn pc).ownBlock ≠ some gg := hgo.out
            refine ⟨0, rfl, by omega, ⟨(Fr.refl _ _).setCell _ (.inl (by simp)), fun i hi => ?_, pa, pc, gs.setIfInBounds j (.slice pa pn pc), by simpa using Hgs.out, blk_set HGB3.out _ _, ?_, ?_, fun x hx => .inl hx, ?_⟩⟩
            · rw [blk_cell (blk_set HGB3.out _ _), blk_cell HGB3.out, Array.getElem?_setIfInBounds_ne (fun e => hi e.symm)]
            · have := Hgs.out
              simp [hlt, this]
            · have := own_setFar HRJ.out (a := ⟨gg, j, none⟩) (.slice pa pn pc) hgo2
              simpa [mr] using this
            · have := own_setFar HRJ.out (a := ⟨gg, j, none⟩) (.slice pa pn pc) hgo2
              exact sl_of_own this
          case round =>
            obtain ⟨k, rfl, hk, HGR⟩ := hrel
            by_cases hlk : k < 24
            · obtain ⟨g1, g2, A', c', gt, hgt, hgtb, hgtj, g3, g4, g5⟩ := HGR.out
              have HOW := Hd.mk g3
              have hc2 := (blk_cell hgtb j).trans hgtj
              have HGT := Hd.mk (⟨hgt, hgtb⟩ : _ ∧ _)
              have hgo3 : Hd ((Value.slice A' (pn + k) c').ownBlock ≠ some gg) := ⟨own_ne HOW.out hgtb (by decide)⟩
              have hg1 := g1.size
              clear hgt hgtb hgtj g1 g2 g3 g4 g5
              go_wp2_with (at_builtin; refine wpList_append_two rfl (.tmp 59) (.tmp 66) 32 rfl 5 j0 (.int .u8 0) 1 1 Try.underlying32 hj0 hy0 hy1 hy2 rfl (by decide) (.slice A' (pn + k) c') (pn + k) _ rfl (by exact HOW.out.alloc _) ⟨wr.heap.size, 0, none⟩ 1 1 [.int .u8 (((j : Int) + 131 + 3 * (k : Int)) % 256)] (some wr.heap.size) rfl rfl (by exact sl_of_blk (blk_new _ _)) (by intro u hu; simp at hu; subst hu; rfl) (by unfold maxLen; omega) (by omega) ?_; intro A2 c2 w2 hown2 hgrow haft hgrow2; have hb1 := blk_grown hgrow (by exact blk_alloc HGT.out.2 _) hgo3.out.symm; have k1 : w2.cell? ⟨gg, j, none⟩ = some (.slice A' (pn + k) c') := (blk_cell hb1 j).trans ((blk_cell HGT.out.2 j).symm.trans hc2); have f1 := blk_frozen hb1 j; have OW2 := Hd.mk hown2; have GR := Hd.mk hgrow; have GR2 := Hd.mk hgrow2; have AF := Hd.mk haft; have HB1 := Hd.mk hb1; clear hown2 hgrow haft hgrow2 hb1)
              go_roundg (gk - 1)
              case measure => omega
              case rel =>
                obtain ⟨g1, g2, A1, c1, gt1, hgt, hgtb, hgtj, g3, g4, g5⟩ := HGR.out
                have e1 : gt1 = gt := by
                  have h1 := HGT.out.2
                  rw [hgtb] at h1
                  injection h1 with h1
                  injection h1
                subst e1
                have e2 : A1 = A' ∧ c1 = c' := by
                  have h1 := blk_cell hgtb j
                  rw [hc2, hgtj] at h1
                  injection h1 with h1
                  injection h1 with h1 _ h2
                  exact ⟨h1.symm, h2.symm⟩
                obtain ⟨rfl, rfl⟩ := e2
                have e3 : ((j : Int) + 131 + 3 * (k : Int)) % 256 = (((j + 131 + 3 * k) % 256 : Nat) : Int) := by omega
                have hown3 : w2.ownsRow 0 5 1 (.slice A2 (pn + (k + 1)) c2) (pn + (k + 1)) (u8s (mk j pn ++ mr j (k + 1))) := by
                  have := OW2.out
                  rw [e3] at this
                  rw [mr_snoc, ← List.append_assoc, u8s_app (mk j pn ++ mr j k)]
                  exact this
                have hne := own_ne hown3 HB1.out (by decide)
                refine ⟨k + 1, by go_num, by omega, ⟨?_, fun i hi => ?_, A2, c2, _, ?_, blk_set HB1.out j _, ?_, own_setFar hown3 _ hne, fun x hx => ?_, ?_⟩⟩
                · refine ((g1.alloc _).grown GR.out (fun x hx => ?_)).setCell _ (.inl (by simp))
                  rcases g4 x hx with h | h
                  · exact .inl (by simp [h])
                  · exact .inr h
                · rw [← g2 i hi, blk_cell (blk_set HB1.out j _), blk_cell hgtb, Array.getElem?_setIfInBounds_ne (fun e => hi e.symm)]
                · simpa using hgt
                · simp [hgt, hlt]; rfl
                · rcases AF.out with h | ⟨y, h, hy⟩
                  · rw [← h] at g4; exact g4 x hx
                  · have hx' : (Value.slice A2 (pn + k + 1) c2).ownBlock = some x := hx
                    rw [h] at hx'; cases hx'
                    simp at hy
                    exact .inr (by omega)
                · have h1 := sl_two (w := wr.alloc (.cells #[.int .u8 (((j : Int) + 131 + 3 * (k : Int)) % 256)] 5)) hshape.out (g5.alloc _) (mk_len _ _) hown3 GR2.out
                  exact h1.frame ((Fr.refl w2 [gg]).setCell _ (.inl (by simp))) (by intro x hx; simp; rintro rfl; exact hgo.out hx)
            · obtain rfl : k = 24 := by omega
              go_wp2
              go_roundg (gy - 1)
              case measure => omega
              case rel =>
                obtain ⟨g1, g2, A', c', gt, hgt, hgtb, hgtj, g3, g4, g5⟩ := HGR.out
                have hjo : ps[j].v = .slice pa pn pc := by rw [← HP.out]; rfl
                have hjn : ps[j].n = pn := by rw [← HP.out]
                have hja : ps[j].A = pa := by rw [← HP.out]
                have hF : ∀ x, x ∈ gg :: (Value.slice pa pn pc).ownBlock.toList → x = gg ∨ (Value.slice pa pn pc).ownBlock = some x := by
                  intro x hx
                  simpa using hx
                have hI : ∀ i (h : i < ps.length), i ≠ j → ∀ x, ps[i].v.ownBlock = some x → x ∉ gg :: (Value.slice pa pn pc).ownBlock.toList := by
                  intro i h hij x hx hm
                  rcases hF x hm with rfl | e
                  · exact hgn.out (mem_owns h hx)
                  · rw [← hjo] at e
                    exact HA.out i j h hlt hij x hx e
                refine ⟨j + 1, by go_num, by omega, ⟨fun i h hi => own_frame (HRS.out i h (by omega)) g1 (hI i h (by omega))⟩, ⟨fun i hi => ?_⟩, ⟨gt, hgt, hgtb⟩, ⟨HFS.out.trans g1 (fun x _ hx => ?_)⟩⟩
                · by_cases e : i = j
                  · subst e
                    obtain ⟨q', d, eA, _⟩ := own_some g3 (by omega)
                    injection eA with e1 _ e2
                    subst e1 e2
                    refine ⟨hlt, some ⟨q', 0, none⟩, c', q', ?_, ?_, own_lt g3 rfl, ?_, ?_⟩
                    · rw [blk_cell hgtb, hgtj, hjn]
                    · rw [hjn]; exact sl_of_own g3
                    · rw [hjo]
                      rcases g4 q' rfl with h | h
                      · exact .inl h
                      · exact .inr (by have := HFS.out.size; omega)
                    · rw [hjn, hja, hjo]; exact g5
                  · refine (HDS.out i (by omega)).step g1 (g2 i e) (fun h q' hq hor hm => ?_) (fun h => hI i h e)
                    rcases hor with h1 | h1
                    · exact hI i h e q' h1 hm
                    · rcases hF q' hm with rfl | e1
                      · have := hgw.out; omega
                      · have h2 := hlo.out q' (mem_owns hlt (by rw [hjo]; exact e1))
                        have := HF1.out.size
                        omega
                · rcases hF x hx with rfl | e
                  · simp
                  · exact List.mem_cons_of_mem _ (mem_owns hlt (by rw [hjo]; exact e))
        · obtain rfl : j = ps.length := by omega
          clear HRS
          go_wp2
          go_loopg [72] ps.length (fun kq jv wr => ∃ j : Nat, jv = .int .i64 (j : Nat) ∧ j + kq = ps.length ∧ wr = ws)
          case atStart => exact ⟨0, rfl, by omega, rfl⟩
          case round =>
            obtain ⟨gz, rfl⟩ : ∃ gz : Nat, gz = gk := ⟨_, rfl⟩
            obtain ⟨j, rfl, hj3, rfl⟩ := hrel
            by_cases hlt3 : j < ps.length
            · obtain ⟨b, off, rfl, hqb, hcell⟩ := hOs.out (by simp; omega)
              have hcj : wr.cell? ⟨b, off + j, none⟩ = some ps[j].v := (hcell j (by simpa using hlt3)).trans (by rw [List.getElem?_map, List.getElem?_eq_getElem hlt3]; rfl)
              obtain ⟨_, A', c', q', hgc, hsl, _, _, hsb⟩ := HDS.out j hlt3
              obtain ⟨p, hp⟩ : ∃ p, p = ps[j] := ⟨_, rfl⟩
              have hpn := HN.out j hlt3
              rw [← hp] at hcj hpn hgc hsl hsb
              obtain ⟨pa, pn, pc⟩ := p
              simp only [Pc.v] at hcj hpn hgc hsl hsb
              have HSL := Hd.mk hsl
              have HSB := Hd.mk hsb
              clear hcell hp hsl hsb
              go_wp2
              go_loopg [79] pn (fun kq iv w' => ∃ k : Nat, iv = .int .i64 (k : Nat) ∧ k + kq = pn ∧ w' = wr)
              case atStart => exact ⟨0, rfl, by omega, rfl⟩
              case round =>
                obtain ⟨k, rfl, hk, rfl⟩ := hrel
                by_cases hlk : k < pn
                · obtain ⟨g, o2, rfl, _, hc⟩ := HSB.out (by simp [u8s, mk_len]; omega)
                  have hck := (hc k (by simp [u8s, mk_len]; omega)).trans (show _ = some (Value.int .u8 (((j + 7 * k) % 256 : Nat) : Int)) from by rw [u8s_get, mk_get hlk]; rfl)
                  have e : (((j + 7 * k) % 256 : Nat) : Int) = ((j : Int) + 7 * (k : Int)) % 256 := by omega
                  rw [e] at hck
                  clear hc e
                  go_wp2
                  go_roundg (gk - 1)
                  case measure => omega
                  case rel => exact ⟨k + 1, by go_num, by omega, rfl⟩
                · go_wp2
                  go_loopg [13] 24 (fun kq iv w' => ∃ k : Nat, iv = .int .i64 (k : Nat) ∧ k + kq = 24 ∧ w' = wr)
                  case atStart => exact ⟨0, rfl, by omega, rfl⟩
                  case round =>
                    obtain ⟨k, rfl, hk, rfl⟩ := hrel
                    by_cases hlk : k < 24
                    · obtain ⟨g, o2, rfl, _, hc⟩ := HSL.out (by simp [u8s, mk_len, mr_len])
                      have hck := (hc (pn + k) (by simp [u8s, mk_len, mr_len]; omega)).trans (show _ = some (Value.int .u8 (((j + 131 + 3 * k) % 256 : Nat) : Int)) from by rw [u8s_get, List.getElem?_append_right (by rw [mk_len]; omega), mk_len, Nat.add_sub_cancel_left, mr_get hlk]; rfl)
                      have e : (((j + 131 + 3 * k) % 256 : Nat) : Int) = ((j : Int) + 131 + 3 * (k : Int)) % 256 := by omega
                      rw [e] at hck
                      clear hc e
                      go_wp2
                      go_roundg (gk - 1)
                      case measure => omega
                      case rel => exact ⟨k + 1, by go_num, by omega, rfl⟩
                    · go_wp2
                      go_roundg (gz - 1)
                      case measure => omega
                      case rel => exact ⟨j + 1, by go_num, by omega, rfl⟩
            · go_wp2
              go_ret
              have := HGG.out
              exact ⟨rfl, (HF1.out.mono (by simp)).trans HFS.out (fun x hx hm => by
                rcases List.mem_cons.1 hm with rfl | e
                · omega
                · exact e)⟩
end Go.Proofs.Ytbfdokklhdmmoaa.Bits
