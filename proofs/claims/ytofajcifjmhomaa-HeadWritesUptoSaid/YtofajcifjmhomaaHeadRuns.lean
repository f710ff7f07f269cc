/- The document's Runs. Conditions: none but what memory bounds. -/
import Derived.Test.YtofajcifjmhomaaHeadRow
import Derived.Deep.CutBlock
set_option linter.unusedVariables false
set_option linter.unusedSimpArgs false
set_option maxRecDepth 100000
namespace Go.Proofs.Ytofajcifjmhomaa.Head
open Go.RowKit Go.Proofs.Ytofajcifjmhomaa.Lib Go.Proofs.Ytofajcifjmhomaa.Ints Go.Proofs.Ytofajcifjmhomaa.Runs

/-- is there one that is out of bounds? -/
def out (hi : Int) (xs : List Int) : Bool := xs.any fun x => decide (x < 0 ∨ hi < x)
theorem out_true {hi : Int} {xs : List Int} {j : Nat} (h : j < xs.length) (hx : xs[j] < 0 ∨ hi < xs[j]) : out hi xs = true := by
  simp only [out, List.any_eq_true, decide_eq_true_eq]
  exact ⟨_, List.getElem_mem h, hx⟩
theorem out_false {hi : Int} {xs : List Int} (h : ∀ i, (hi' : i < xs.length) → 0 ≤ xs[i] ∧ xs[i] ≤ hi) : out hi xs = false := by
  rw [Bool.eq_false_iff]
  intro hc
  simp only [out, List.any_eq_true, decide_eq_true_eq] at hc
  obtain ⟨x, hx, h1⟩ := hc
  obtain ⟨i, hi', rfl⟩ := List.getElem_of_mem hx
  have := h i hi'
  omega
def bad (xs : List Int) : Bool := decide (320 < xs.length) || out 15 xs
theorem sixes_sum (f k : Nat) : ((sixes f k).map fun r => r.2).sum = (sixed f k : Nat) := by
  induction f generalizing k with
  | zero => rfl
  | succ f ih =>
    simp only [sixes, sixed]
    split
    · rfl
    · rw [List.map_cons, List.sum_cons, ih]; omega
theorem rowLen_sum (v : Int) (k : Nat) : ((rowOf v k).map fun r => r.2).sum = (Runs.rowLen v k : Nat) := by
  unfold rowOf Runs.rowLen
  split
  · split
    · simp
    · split <;> simp
  · rw [List.map_cons, List.sum_cons, sixes_sum]; omega
theorem row_ne (v : Int) (k : Nat) : rowOf v k ≠ [] := by
  unfold rowOf
  split
  · split
    · simp
    · split <;> simp
  · simp
theorem row_len (v : Int) {k : Nat} (h : 1 ≤ k) : (rowOf v k).length ≤ Runs.rowLen v k := by
  have hs : ∀ f k, (sixes f k).length ≤ sixed f k := by
    intro f
    induction f with
    | zero => intro k; exact Nat.le_refl _
    | succ f ih =>
      intro k
      simp only [sixes, sixed]
      split
      · exact Nat.le_refl _
      · have := ih (k - min k 6); simp only [List.length_cons]; omega
  unfold rowOf Runs.rowLen
  split
  · split
    · simp; omega
    · split <;> simp <;> omega
  · have := hs (k - 1) (k - 1); simp only [List.length_cons]; omega
/-- how far the first x runs of a row reach -/
def reach (rs : List (Int × Int)) (x : Nat) : Int := ((rs.take x).map fun r => r.2).sum
theorem reach_succ {rs : List (Int × Int)} {x : Nat} (h : x < rs.length) : reach rs (x + 1) = reach rs x + (rs[x]).2 := by
  unfold reach
  rw [List.take_succ_eq_append_getElem h, List.map_append, List.sum_append]
  simp
theorem row_pos {v : Int} {k : Nat} (hk : 1 ≤ k) : ∀ r ∈ rowOf v k, 0 ≤ r.2 := by
  have hs : ∀ f k, ∀ r ∈ sixes f k, 0 ≤ r.2 := by
    intro f
    induction f with
    | zero => intro k r hr; simp [sixes] at hr
    | succ f ih =>
      intro k r hr
      simp only [sixes] at hr
      split at hr
      · simp at hr
      · rcases List.mem_cons.1 hr with rfl | h
        · exact Int.natCast_nonneg _
        · exact ih _ r h
  intro r hr
  unfold rowOf at hr
  split at hr
  · split at hr
    · simp at hr; subst hr; exact Int.natCast_nonneg _
    · split at hr
      · simp at hr; subst hr; exact Int.natCast_nonneg _
      · simp at hr; subst hr; decide
  · rcases List.mem_cons.1 hr with rfl | h
    · exact Int.le.intro_sub 1 rfl
    · exact hs _ _ r h
theorem reach_mono {rs : List (Int × Int)} (h : ∀ r ∈ rs, 0 ≤ r.2) : ∀ x, 0 ≤ reach rs x ∧ reach rs x ≤ (rs.map fun r => r.2).sum := by
  induction rs with
  | nil => intro x; simp [reach]
  | cons a t ih =>
    intro x
    have h0 := h a (by simp)
    have ht := ih (fun r hr => h r (by simp [hr]))
    cases x with
    | zero =>
      have := (ht t.length).2
      have h2 := (ht t.length).1
      simp only [reach, List.take_length] at h2
      simp only [reach, List.take_zero, List.map_nil, List.sum_nil, List.map_cons, List.sum_cons]
      omega
    | succ x =>
      have := ht x
      simp only [reach, List.take_succ_cons, List.map_cons, List.sum_cons] at this ⊢
      omega
theorem sl_of_own2 {w : World} {base : Nat} {e : TypeId} {size : Nat} {A : Option Addr} {n c : Nat} {xs : List Value} (h : w.ownsRow base e size (.slice A n c) n xs) (hn : 0 < n) : Sl w A xs (Value.slice A n c).ownBlock := by
  intro hx
  obtain ⟨g, d, e1, _⟩ := own_some h hn
  injection e1 with e1 _ e2
  subst e1 e2
  refine ⟨g, 0, rfl, rfl, fun j hj => ?_⟩
  have := h.cells (g := g) rfl j xs[j] (by simp)
  rw [List.getElem?_eq_getElem hj, ← this]
  congr 1
  unfold Addr.add
  by_cases e2 : j = 0 <;> simp [e2]
theorem alloc_cell (w : World) (o : Obj) {b j : Nat} (hb : b < w.heap.size) : (w.alloc o).cell? ⟨b, j, none⟩ = w.cell? ⟨b, j, none⟩ := World.cell?_of_block (Below.heap_alloc w o b hb)
theorem rruns_any (w : World) (A : Option Addr) (n c : Nat) (xs : List Int) (p : Option Nat) (hn : xs.length = n) (hS : Sl w A (i64s xs) p) (hn1 : n ≤ 4611686018427387904) (ec : Int) (rs : List (Int × Int)) (hec : ec = if bad xs then 80 else 0) (hrs : rs = if bad xs then [] else runs xs) :
    Calls Try.prog 12 #[.slice A n c] w fun e w' => ∃ A' m d, e = .returned (.tuple #[.slice A' m d, .int .i64 ec]) ∧
      w'.ownsRow 0 38 2 (.slice A' m d) m (cells rs) ∧ (∀ j, (Value.slice A' m d).ownBlock = some j → w.heap.size ≤ j) ∧ Fr w w' [] := by
  obtain ⟨i0, hi0, hz0, hz1, hz2⟩ := info_parts infoRun
  subst hn
  have HS := Hd.mk hS
  have HEC := Hd.mk hec
  have HRS := Hd.mk hrs
  clear hS hec hrs
  by_cases hbig : 320 < xs.length
  · have hc : Hd (bad xs = true) := ⟨by unfold bad; rw [decide_eq_true hbig]; rfl⟩
    go_enter Try.func12, Try.ntmps12
    go_wp2
    go_ret2
    exact ⟨none, 0, 0, by rw [HEC.out, hc.out]; rfl, by rw [HRS.out, hc.out]; exact own_nil _ _ _ _, (by intro j hj; cases hj), Fr.refl _ _⟩
  · go_enter Try.func12, Try.ntmps12
    go_wp2
    go_loopg [4] xs.length (fun kq jv wr => ∃ j : Nat, jv = .int .i64 (j : Nat) ∧ j + kq = xs.length ∧ wr = w ∧ Hd (∀ i, i < j → (h : i < xs.length) → 0 ≤ xs[i] ∧ xs[i] ≤ 15))
    case atStart => exact ⟨0, rfl, by omega, rfl, ⟨fun i h => absurd h (Nat.not_lt_zero _)⟩⟩
    case round =>
      obtain ⟨j, rfl, hj, rfl, HA⟩ := hrel
      by_cases h1 : j < xs.length
      · obtain ⟨a, o1, rfl, _, ha⟩ := HS.out (by simp [i64s]; omega)
        obtain ⟨x, hx⟩ : ∃ x, x = xs[j] := ⟨_, rfl⟩
        have ca := (ha j (by simp [i64s]; omega)).trans (by rw [i64s_get, List.getElem?_eq_getElem (by omega), ← hx])
        have HX := Hd.mk hx
        clear ha hx
        by_cases h2 : x < 0
        · have hc : Hd (bad xs = true) := ⟨by unfold bad; rw [out_true h1 (by rw [← HX.out]; exact .inl h2), Bool.or_true]⟩
          go_wp2
          go_ret2
          exact ⟨none, 0, 0, by rw [HEC.out, hc.out]; rfl, by rw [HRS.out, hc.out]; exact own_nil _ _ _ _, (by intro j hj; cases hj), Fr.refl _ _⟩
        · by_cases h3 : 15 < x
          · have hc : Hd (bad xs = true) := ⟨by unfold bad; rw [out_true h1 (by rw [← HX.out]; exact .inr h3), Bool.or_true]⟩
            go_wp2
            go_ret2
            exact ⟨none, 0, 0, by rw [HEC.out, hc.out]; rfl, by rw [HRS.out, hc.out]; exact own_nil _ _ _ _, (by intro j hj; cases hj), Fr.refl _ _⟩
          · go_wp2
            go_roundg (gk - 1)
            case measure => omega
            case rel => exact ⟨j + 1, by go_num, by omega, rfl, ⟨fun i hi h => by
              by_cases e : i = j
              · subst e; rw [← HX.out]; omega
              · exact HA.out i (by omega) h⟩⟩
      · have hc : Hd (bad xs = false) := ⟨by unfold bad; rw [out_false (fun i hi => HA.out i (by omega) hi), decide_eq_false hbig]; rfl⟩
        clear HA
        obtain ⟨wo, rfl⟩ : ∃ wo : World, wo = wr := ⟨_, rfl⟩
        go_wp2
        go_loopg [5, 6] xs.length (fun kq sv iv wr => ∃ (i : Nat) (A' : Option Addr) (m d : Nat) (P : List (Int × Int)), sv = .slice A' m d ∧ iv = .int .i64 (i : Nat) ∧ i + kq = xs.length ∧ m ≤ i ∧ Hd (P ++ runs (xs.drop i) = runs xs) ∧ Hd (wr.ownsRow 0 38 2 (.slice A' m d) m (cells P)) ∧ Hd (∀ x, (Value.slice A' m d).ownBlock = some x → wo.heap.size ≤ x) ∧ Hd (Fr wo wr []))
        case atStart => exact ⟨0, none, 0, 0, [], rfl, rfl, by omega, by omega, ⟨rfl⟩, ⟨own_nil _ _ _ _⟩, ⟨by intro x hx; cases hx⟩, ⟨Fr.refl _ _⟩⟩
        case round =>
          obtain ⟨ws, rfl⟩ : ∃ ws : World, ws = wr := ⟨_, rfl⟩
          obtain ⟨gx, rfl⟩ : ∃ gx : Nat, gx = gk := ⟨_, rfl⟩
          obtain ⟨i, A', m, d, P, rfl, rfl, hi, hmi, HP, HO, HB, HF⟩ := hrel
          by_cases h1 : i < xs.length
          · obtain ⟨a, o1, rfl, _, ha⟩ := (HS.out.frame HF.out (by simp)) (by simp [i64s]; omega)
            obtain ⟨x, hx⟩ : ∃ x, x = xs[i] := ⟨_, rfl⟩
            have ca := (ha i (by simp [i64s]; omega)).trans (by rw [i64s_get, List.getElem?_eq_getElem (by omega), ← hx])
            have HX := Hd.mk hx
            have HC := Hd.mk ha
            clear ha hx
            go_upto_block 4 with (fail)
            go_cut [8] from 40 to 57 (fun s8 wc => ∃ k : Nat, s8 = .int .i64 (k : Nat) ∧ wc = ws ∧ 1 ≤ k ∧ i + k ≤ xs.length ∧ Hd (k = lead x (xs.drop (i + 1)) + 1))
            case first =>
              go_wp2_with (fail)
              go_loopg [8] (xs.length - i) (fun kq kv wr => ∃ k : Nat, kv = .int .i64 (k : Nat) ∧ i + k + kq = xs.length + 1 ∧ 1 ≤ k ∧ i + k ≤ xs.length ∧ wr = ws ∧ Hd (∀ j, j + 1 < k → (xs.drop (i + 1))[j]? = some x))
              case atStart => exact ⟨1, rfl, by omega, by omega, by omega, rfl, ⟨fun j hj => by omega⟩⟩
              case round =>
                obtain ⟨k, rfl, hk, hk1, hk2, rfl, HE⟩ := hrel
                by_cases h2 : i + k < xs.length
                · obtain ⟨y, hy⟩ : ∃ y, y = xs[i + k] := ⟨_, rfl⟩
                  have cb := (HC.out (i + k) (by simp [i64s]; omega)).trans (by rw [i64s_get, List.getElem?_eq_getElem (by omega), ← hy])
                  have hdr : Hd ((xs.drop (i + 1))[k - 1]? = some y) := ⟨by rw [List.getElem?_drop, show i + 1 + (k - 1) = i + k from by omega, List.getElem?_eq_getElem h2, hy]⟩
                  clear hy
                  by_cases h3 : y = x
                  · subst h3
                    go_wp2
                    go_roundg (gk - 1)
                    case measure => omega
                    case rel => exact ⟨k + 1, by go_num, by omega, by omega, by omega, rfl, ⟨fun j hj => by
                      by_cases e : j + 1 = k
                      · rw [show j = k - 1 from by omega]; exact hdr.out
                      · exact HE.out j (by omega)⟩⟩
                  · have hbq : (y == x) = false := by simpa using h3
                    go_wp2
                    go_meet
                    refine ⟨k, rfl, rfl, hk1, hk2, ⟨?_⟩⟩
                    rw [lead_eq (k := k - 1) (by rw [List.length_drop]; omega) (fun j hj => HE.out j (by omega)) (fun _ e => by rw [hdr.out] at e; injection e with e; exact h3 e)]
                    omega
                · go_wp2
                  go_meet
                  refine ⟨k, rfl, rfl, hk1, hk2, ⟨?_⟩⟩
                  rw [lead_eq (k := k - 1) (by rw [List.length_drop]; omega) (fun j hj => HE.out j (by omega)) (fun h => by rw [List.length_drop] at h; omega)]
                  omega
            case rest =>
              obtain ⟨k, rfl, rfl, hk1, hk2, HK⟩ := hcut
              obtain ⟨R, hR⟩ : ∃ R, R = rowOf x k := ⟨_, rfl⟩
              obtain ⟨L, hL⟩ : ∃ L, L = Runs.rowLen x k := ⟨_, rfl⟩
              have HR := Hd.mk hR
              have HL := Hd.mk hL
              have hL1 : 1 ≤ L := by rw [hL]; exact rowLen_pos _ _
              have hLk : L ≤ k := by rw [hL]; exact rowLen_le _ hk1
              have hRL : R.length ≤ L := by rw [hR, hL]; exact row_len _ hk1
              have hM : Hd (∀ t, 0 ≤ reach R t ∧ reach R t ≤ (L : Int)) := ⟨by
                intro t
                have := reach_mono (row_pos (v := x) hk1) t
                rw [rowLen_sum, ← hL, ← hR] at this
                exact this⟩
              have hfin : Hd (reach R R.length = (L : Int)) := ⟨by unfold reach; rw [List.take_length, hR, rowLen_sum, hL]⟩
              clear hR hL ca
              go_wp2_with (fail)
              refine (row_any wc x k hk1 (by omega)).mono ?_
              rintro e w2 ⟨B, n2, c2, rfl, g1, g2, g3⟩
              rw [← HR.out] at g1
              have hn2 : n2 = R.length := by have := g1.1; rw [cells_len] at this; omega
              subst hn2
              have HO2 := Hd.mk (own_frame HO.out g3 (by simp))
              have HF2 := Hd.mk (HF.out.trans g3 (by simp))
              have HRB := Hd.mk g1
              have HRN := Hd.mk g2
              have hold : Hd (∀ y, (Value.slice A' m d).ownBlock = some y → y < wc.heap.size) := ⟨fun y hy => own_lt HO.out hy⟩
              have hws := HF.out.size
              have hw2 := g3.size
              clear g1 g2 g3
              have hR0 : Hd (0 < R.length) := ⟨by rw [HR.out]; exact List.length_pos_iff.2 (row_ne _ _)⟩
              go_wp2
              go_loopg [5, 6, 10] R.length (fun kq sv iv tv wr => ∃ (t i2 m2 : Nat) (A2 : Option Addr) (d2 : Nat), sv = .slice A2 m2 d2 ∧ iv = .int .i64 (i2 : Nat) ∧ tv = .int .i64 (t : Nat) ∧ t + kq = R.length ∧ m2 = m + t ∧ i2 ≤ i + L ∧ Hd ((i2 : Int) = i + reach R t) ∧
                Hd (wr.ownsRow 0 38 2 (.slice A2 m2 d2) m2 (cells (P ++ R.take t))) ∧ Hd (∀ y, (Value.slice A2 m2 d2).ownBlock = some y → (Value.slice A' m d).ownBlock = some y ∨ w2.heap.size ≤ y) ∧ Hd (Fr w2 wr (Value.slice A' m d).ownBlock.toList))
              case atStart => exact ⟨0, i, m, A', d, rfl, rfl, rfl, by omega, by omega, by omega, ⟨by simp [reach]⟩, ⟨by simpa using HO2.out⟩, ⟨fun y hy => .inl hy⟩, ⟨Fr.refl _ _⟩⟩
              case round =>
                obtain ⟨t, i2, m2, A2, d2, rfl, rfl, rfl, ht, hm2, hi2, HI, HO3, HB3, HF3⟩ := hrel
                by_cases h4 : t < R.length
                · have hrow : Sl wr B (cells R) (Value.slice B R.length c2).ownBlock := (sl_of_own2 HRB.out hR0.out).frame HF3.out (fun y hy hm => by
                    have := HRN.out y hy
                    have := hold.out y (by simpa using hm)
                    omega)
                  obtain ⟨b, off, rfl, hqb, hcl⟩ := Sl.row (enc := enc) (sz := 2) (fun _ => rfl) hrow h4 (by decide)
                  obtain ⟨r, hr⟩ : ∃ r, r = R[t] := ⟨_, rfl⟩
                  rw [← hr] at hcl
                  have c0 := hcl 0 (by decide)
                  have c1 := hcl 1 (by decide)
                  obtain ⟨ra, rb⟩ := r
                  simp only [enc, List.getElem?_cons_zero, List.getElem?_cons_succ, Nat.add_zero] at c0 c1
                  have hsum := reach_succ h4
                  have hm1 := hM.out (t + 1)
                  have hm0 := hM.out t
                  rw [← hr] at hsum
                  simp only at hsum
                  have hi3 := HI.out
                  have hrb0 : 0 ≤ rb := by have := row_pos (v := x) hk1 (ra, rb) (by rw [← HR.out, hr]; exact List.getElem_mem h4); exact this
                  obtain ⟨rb, rfl⟩ := Int.eq_ofNat_of_zero_le hrb0
                  have hb3 : i2 + rb ≤ i + L := by omega
                  have Hsum := Hd.mk hsum
                  have Hr := Hd.mk hr
                  have hbl : b < wr.heap.size := World.block_lt_of_cell? wr _ c0
                  have hbn : Hd (some b ≠ (Value.slice A2 m2 d2).ownBlock) := ⟨fun e => by
                    have h5 := HRN.out b hqb
                    have h6 := own_lt HRB.out hqb
                    rcases HB3.out b e.symm with h | h
                    · have := hold.out b h; omega
                    · omega⟩
                  have HC1 := Hd.mk c1
                  clear hrow hcl hr hsum hm1 hm0 hi3 hrb0 hqb
                  go_wp2_with (at_builtin; refine wpList_append_sl rfl (.tmp 67) (.tmp 72) 23 rfl 38 i0 (.agg #[.int .i64 0, .int .i64 0]) 2 16 Try.underlying23 hi0 hz0 hz1 hz2 rfl (by decide) (.slice A2 m2 d2) m2 _ rfl (by exact HO3.out.alloc _) (some ⟨wr.heap.size, 0, none⟩) 1 1 [.int .i64 ra, .int .i64 (rb : Nat)] (some wr.heap.size) rfl rfl (by exact sl_of_blk (blk_new _ _)) (by intro h; cases h) (by intro u hu; simp at hu; rcases hu with rfl | rfl <;> rfl) (by unfold maxLen; omega) (by omega) ?_; intro A3 d3 w3 hown' hgrow haft; have O3 := Hd.mk hown'; have G3 := Hd.mk hgrow; have F3 := Hd.mk haft; have k1 := (hgrow.cell_far ⟨b, off + t * 2 + 1, none⟩ (by simp; omega) hbn.out).trans ((alloc_cell wr _ hbl).trans HC1.out); clear hown' hgrow haft)
                  go_roundg (gk - 1)
                  case measure => omega
                  case rel =>
                    refine ⟨t + 1, i2 + rb, m2 + 1, A3, d3, by subst hm2; rfl, by go_num, by go_num, by omega, by omega, hb3, ⟨?_⟩, ⟨?_⟩, ⟨fun y hy => ?_⟩, ⟨(HF3.out.alloc _).grown G3.out (fun y hy => ?_)⟩⟩
                    · have := HI.out; have := Hsum.out; omega
                    · have := O3.out
                      rw [List.take_succ_eq_append_getElem h4, ← Hr.out, ← List.append_assoc, cells_app (P ++ R.take t)]
                      exact this
                    · rcases F3.out with h | ⟨z, h, hz⟩
                      · rw [← h] at HB3; exact HB3.out y hy
                      · rw [h] at hy; cases hy
                        have := HF3.out.size
                        simp at hz
                        exact .inr (by omega)
                    · rcases HB3.out y hy with h | h
                      · exact .inl (by simp [h])
                      · exact .inr h
                · obtain rfl : t = R.length := by omega
                  have hi4 : i2 = i + L := by have := HI.out; have := hfin.out; omega
                  subst hi4
                  go_wp2
                  go_roundg (gx - L)
                  case measure => omega
                  case rel =>
                    refine ⟨i + L, A2, m2, d2, P ++ R, rfl, by go_num, by omega, by omega, ⟨?_⟩, ⟨?_⟩, ⟨fun y hy => ?_⟩, ⟨HF2.out.trans HF3.out (fun y hy hm => ?_)⟩⟩
                    · rw [← HP.out, List.append_assoc, List.drop_eq_getElem_cons h1, ← HX.out, runs_cons, ← HK.out, ← HR.out, ← HL.out]
                      congr 2
                      rw [HX.out, ← List.drop_eq_getElem_cons h1, List.drop_drop]
                    · have := HO3.out
                      rw [List.take_length] at this
                      exact this
                    · rcases HB3.out y hy with h | h
                      · exact HB.out y h
                      · omega
                    · have := HB.out y (by simpa using hm); omega
          · obtain rfl : i = xs.length := by omega
            have hp := HP.out
            rw [List.drop_length, runs_nil, List.append_nil] at hp
            have hrs2 : Hd (rs = P) := ⟨by rw [HRS.out, hc.out, hp]; rfl⟩
            have hec2 : Hd (ec = 0) := ⟨by rw [HEC.out, hc.out]; rfl⟩
            go_wp2
            go_ret2
            rw [hrs2.out, hec2.out]
            exact ⟨A', m, d, rfl, HO.out, HB.out, HF.out⟩
end Go.Proofs.Ytofajcifjmhomaa.Head
