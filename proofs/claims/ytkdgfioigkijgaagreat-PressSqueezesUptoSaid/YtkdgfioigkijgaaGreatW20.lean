import Derived.Test.YtkdgfioigkijgaaGreatW01
import Derived.Test.YtkdgfioigkijgaaGreatW02
import Derived.Test.YtkdgfioigkijgaaGreatW04
import Derived.Test.YtkdgfioigkijgaaGreatW05
import Derived.Test.YtkdgfioigkijgaaGreatW08
import Derived.Test.YtkdgfioigkijgaaGreatW09
import Derived.Test.YtkdgfioigkijgaaGreatW10
import Derived.Test.YtkdgfioigkijgaaGreatW11
import Derived.Test.YtkdgfioigkijgaaGreatW19
import Derived.Deep.RegionHeld3
import Derived.Deep.CutRange
import Derived.Deep.Light
set_option linter.unusedVariables false
set_option linter.unusedSimpArgs false
set_option maxRecDepth 100000
namespace Go.Proofs.YtkdgfioigkijgaaGreat.Lens
open Go.RowKit Go.Proofs.YtkdgfioigkijgaaGreat.Lib Go.Proofs.YtkdgfioigkijgaaGreat.Ints Go.Proofs.YtkdgfioigkijgaaGreat.Sorts Go.Proofs.YtkdgfioigkijgaaGreat.Sort Go.Proofs.YtkdgfioigkijgaaGreat.Pm Go.Proofs.YtkdgfioigkijgaaGreat.Num
structure RI where
  t : T
  b : Bool
  g : Nat
def renc (N : Nat) (p : RI) : List Value := [.int .i64 p.t.wt, .bool p.b, .slice (some ⟨p.g, 0, none⟩) N N]
def rencs (N : Nat) (ps : List RI) : List Value := ps.flatMap (renc N)
theorem rencs_len (N : Nat) (ps : List RI) : (rencs N ps).length = ps.length * 3 := flat_len (renc N) 3 (fun _ => rfl) ps
theorem rencs_app (N : Nat) (a b : List RI) : rencs N (a ++ b) = rencs N a ++ rencs N b := by simp [rencs]
theorem rencs_one (N : Nat) (a : List RI) : ∀ u ∈ rencs N a, u.oneCell' = true := by
  intro u hu
  simp only [rencs, List.mem_flatMap, renc] at hu
  obtain ⟨r, _, h⟩ := hu
  simp at h
  rcases h with rfl | rfl | rfl <;> rfl
def ROk (w : World) (N : Nat) (p : RI) : Prop := Cnt w p.g N (fun s => p.t.cnt s)
theorem ROk.frame {w w' : World} {N : Nat} {p : RI} (h : ROk w N p) {F : List Nat} (hf : Fr w w' F) (hg : p.g ∉ F) : ROk w' N p := Cnt.frame h hf hg
theorem infoRItem : (Tryz.prog.info? 251).map (fun i => (i.zero, i.size, i.bytes)) = some (some (.agg #[.int .i64 0, .bool false, .slice none 0 0]), 3, 40) := by kernel_rfl
theorem run_made (N : Nat) (h : N ≤ 1000) : ∀ W : World, (Instr.makeSlice 79 (.int .i64 (N : Int)) (.int .i64 (N : Int))).run Tryz.prog W = .ok (.slice (some ⟨W.heap.size, 0, none⟩) N N) (W.alloc (.cells (cv N fun _ => 0) 3)) := by
  intro W
  obtain ⟨j0, hj0, hj1, hj2, hj3⟩ := info_parts infoI64
  have := run_make (P := Tryz.prog) W 79 3 j0 (.int .i64 0) Tryz.underlying79 hj0 hj1 .i64 .i64 (N : Int) (N : Int) (by omega) (Int.le_refl _) (by rw [hj3]; omega) (by omega)
  rw [this, hj2, Int.toNat_natCast]
  have e : madeCells (Value.int .i64 0).cells (N * 1) = cv N fun _ => 0 := by
    have e1 := toList_madeCells_one (Value.int .i64 0) (N * 1)
    apply Array.toList_inj.1
    refine e1.trans ?_
    unfold cv
    rw [eq_comm, List.eq_replicate_iff]
    simp
  rw [e]
theorem two_new (w : World) (o1 o2 : Obj) : ((w.alloc o1).alloc o2).heap[w.heap.size]? = some o1 ∧ ((w.alloc o1).alloc o2).heap[w.heap.size + 1]? = some o2 := by
  refine ⟨blk_alloc (blk_new w o1) o2, ?_⟩
  have := blk_new (w.alloc o1) o2
  simpa using this
theorem while_at {α : Type} {p : α → Bool} : ∀ {l : List α} {k : Nat}, k ≤ l.length → (∀ i, i < k → (h : i < l.length) → p l[i] = true) → (∀ h : k < l.length, p l[k] = false) → l.takeWhile p = l.take k ∧ l.dropWhile p = l.drop k
  | [], k, h, _, _ => by simp
  | x :: l, 0, _, _, h2 => by
    have := h2 (by simp)
    simp only [List.getElem_cons_zero] at this
    rw [List.takeWhile_cons_of_neg (by simp [this]), List.dropWhile_cons_of_neg (by simp [this])]
    simp
  | x :: l, k + 1, h, h1, h2 => by
    have h0 := h1 0 (by omega) (by simp)
    simp only [List.getElem_cons_zero] at h0
    have ih := while_at (l := l) (k := k) (by simpa using h) (fun i hi hl => by have := h1 (i + 1) (by omega) (by simpa using hl); simpa using this) (fun hl => by have := h2 (by simpa using hl); simpa using this)
    rw [List.takeWhile_cons_of_pos h0, List.dropWhile_cons_of_pos h0, ih.1, ih.2]
    simp
theorem sl_of_own3 {w : World} {base : Nat} {e : TypeId} {A : Option Addr} {n c : Nat} {xs : List Value} (h : w.ownsRow base e 3 (.slice A n c) n xs) : Sl w A xs (Value.slice A n c).ownBlock := by
  intro hx
  rcases h.2 with ⟨h', rfl⟩ | ⟨g, cap, cur, h', hb, hh, hnc, hcm, hcs, ht⟩
  · have := h.1; simp only [Nat.zero_mul] at this; omega
  · injection h' with h1 h2 h3
    subst h1
    refine ⟨g, 0, rfl, rfl, fun j hj => ?_⟩
    rw [Nat.zero_add, blk_cell hh, ← ht, List.getElem?_take]
    have hl := h.1
    rw [if_pos (by omega)]
    simp
def On (bb : Bool) (ps : List RI) (k y : Nat) : Prop := bb = true ↔ ∃ hi : k < ps.length, (ps[k]).t.wt ≤ y
def rins (k : Nat) (x : RI) (ps : List RI) : List RI := ps.take k ++ x :: ps.drop k
theorem rins_map {k y j : Nat} {x : RI} {ps : List RI} {l : List (Nat × Nat)} (hx : x.t = .leaf y j) (h : ps.map (·.t) = l.map fun z => T.leaf z.1 z.2) (hk : k ≤ ps.length) (h1 : ∀ i, i < k → (hi : i < ps.length) → (ps[i]).t.wt ≤ y) (h2 : ∀ hi : k < ps.length, y < (ps[k]).t.wt) :
    (rins k x ps).map (·.t) = (ins (y, j) l).map fun z => T.leaf z.1 z.2 := by
  have hl : ps.length = l.length := by have := congrArg List.length h; simpa using this
  have hg : ∀ i (hi : i < ps.length), (ps[i]).t = .leaf (l[i]'(by omega)).1 (l[i]'(by omega)).2 := fun i hi => by
    have := congrArg (fun z => z[i]?) h
    simp only [List.getElem?_map, List.getElem?_eq_getElem hi, List.getElem?_eq_getElem (show i < l.length by omega), Option.map_some] at this
    injection this
  have hw := while_at (p := fun z : Nat × Nat => decide (z.1 ≤ y)) (l := l) (k := k) (by omega) (fun i hi hil => by
    have := h1 i hi (by omega)
    rw [hg i (by omega)] at this
    simpa [T.wt] using this) (fun hil => by
    have := h2 (by omega)
    rw [hg k (by omega)] at this
    simp only [T.wt] at this
    simp; omega)
  unfold rins ins
  rw [hw.1, hw.2, List.map_append, List.map_append, List.map_cons, List.map_cons, hx, List.map_take, List.map_drop, h, List.map_take, List.map_drop]
theorem set3 (A R : List Value) (a b c x y z : Value) : (((A ++ [a, b, c] ++ R).set A.length x).set (A.length + 1) y).set (A.length + 2) z = A ++ [x, y, z] ++ R := by
  rw [List.append_assoc, List.set_append_right _ _ (Nat.le_refl _), List.set_append_right _ _ (by omega), List.set_append_right _ _ (by omega)]
  simp
theorem row_in {N k m cap : Nat} {ps : List RI} {cur : Array Value} {zs : List Value} (x : RI) (hl : ps.length = m) (hk : k ≤ m) (hc : m + 1 ≤ cap) (hs : cur.size = cap * 3) (hz : zs.length = 3) (ht : cur.toList.take ((m + 1) * 3) = rencs N ps ++ zs) :
    ∃ cur' : Array Value, (((cur.toList.take ((k + 1) * 3) ++ rencs N (ps.drop k) ++ cur.toList.drop ((k + 1) * 3 + (rencs N (ps.drop k)).length)).toArray.setIfInBounds (k * 3) (.int .i64 x.t.wt)).setIfInBounds (k * 3 + 1) (.bool x.b)).setIfInBounds (k * 3 + 2) (.slice (some ⟨x.g, 0, none⟩) N N) = cur' ∧ cur'.size = cap * 3 ∧ cur'.toList.take ((m + 1) * 3) = rencs N (rins k x ps) := by
  have hsl : cur.toList.length = cap * 3 := by simp [hs]
  have e1 : cur.toList.take ((k + 1) * 3) = rencs N (ps.take k) ++ ((cur.toList.drop (k * 3)).take 3) := by
    have h1 : (k + 1) * 3 = k * 3 + 3 := by omega
    rw [h1, List.take_add]
    congr 1
    have h2 : cur.toList.take (k * 3) = (cur.toList.take ((m + 1) * 3)).take (k * 3) := by rw [List.take_take, Nat.min_eq_left (by omega)]
    have h3 : rencs N ps = rencs N (ps.take k) ++ rencs N (ps.drop k) := by rw [← rencs_app, List.take_append_drop]
    rw [h2, ht, h3, List.append_assoc, List.take_left' (by rw [rencs_len, List.length_take]; omega)]
  have e2 : ∃ a b c, (cur.toList.drop (k * 3)).take 3 = [a, b, c] := by
    have hl3 : ((cur.toList.drop (k * 3)).take 3).length = 3 := by rw [List.length_take, List.length_drop, hsl]; omega
    match hq : (cur.toList.drop (k * 3)).take 3, hl3 with
    | [a, b, c], _ => exact ⟨a, b, c, rfl⟩
  obtain ⟨a, b, c, e2⟩ := e2
  have hlen : (rencs N (ps.take k)).length = k * 3 := by rw [rencs_len, List.length_take]; omega
  refine ⟨_, rfl, ?_, ?_⟩
  · simp only [Array.size_setIfInBounds, List.size_toArray, List.length_append, List.length_take, List.length_drop, hsl, rencs_len, hl]
    omega
  · have e3 : ((((cur.toList.take ((k + 1) * 3) ++ rencs N (ps.drop k) ++ cur.toList.drop ((k + 1) * 3 + (rencs N (ps.drop k)).length)).toArray.setIfInBounds (k * 3) (.int .i64 x.t.wt)).setIfInBounds (k * 3 + 1) (.bool x.b)).setIfInBounds (k * 3 + 2) (.slice (some ⟨x.g, 0, none⟩) N N)).toList
        = rencs N (ps.take k) ++ renc N x ++ (rencs N (ps.drop k) ++ cur.toList.drop ((k + 1) * 3 + (rencs N (ps.drop k)).length)) := by
      simp only [Array.toList_setIfInBounds]
      rw [e1, e2, List.append_assoc (rencs N (ps.take k) ++ [a, b, c])]
      have := set3 (rencs N (ps.take k)) (rencs N (ps.drop k) ++ cur.toList.drop ((k + 1) * 3 + (rencs N (ps.drop k)).length)) a b c (.int .i64 x.t.wt) (.bool x.b) (.slice (some ⟨x.g, 0, none⟩) N N)
      rw [hlen] at this
      exact this
    rw [e3]
    have e4 : rencs N (rins k x ps) = rencs N (ps.take k) ++ renc N x ++ rencs N (ps.drop k) := by
      unfold rins
      rw [rencs_app, List.append_assoc]; rfl
    rw [e4, ← List.append_assoc, List.take_left' (by simp only [List.length_append, hlen, rencs_len, List.length_drop, renc, List.length_cons, List.length_nil]; omega)]
def RPost (w : World) (N : Nat) (ts : List T) (e : Ending) (w' : World) : Prop :=
  ∃ B m d ps, e = .returned (.slice B m d) ∧ ps.map (·.t) = ts ∧ ps.length = m ∧ w'.ownsRow 0 251 3 (.slice B m d) m (rencs N ps) ∧ (∀ k, (Value.slice B m d).ownBlock = some k → w.heap.size ≤ k) ∧ (∀ p ∈ ps, ROk w' N p ∧ w.heap.size ≤ p.g) ∧ Fr w w' []
set_option maxHeartbeats 4000000 in
theorem rleaves_any (w : World) (A : Option Addr) (n c : Nat) (fs : List Int) (p : Option Nat) (hn : fs.length = n) (hS : Sl w A (i64s fs) p) (hn1 : n ≤ 288) (hf : out 1099511627776 fs = false) :
    Calls Tryz.prog 147 #[.slice A n c] w (RPost w n (lvs fs)) := by
  subst hn
  have HS := Hd.mk hS
  have HO := Hd.mk hf
  clear hS hf
  obtain ⟨i0, hi0, hz0, hz1, hz2⟩ := info_parts infoRItem
  obtain ⟨j0, hj0, hj1, hj2, hj3⟩ := info_parts infoI64
  go_enter Tryz.func147, Tryz.ntmps147
  go_wp2
  go_loopg [3, 4] fs.length (fun kq sv jv wr => ∃ (j : Nat) (B : Option Addr) (m d : Nat) (ps : List RI), jv = .int .i64 (j : Nat) ∧ sv = .slice B m d ∧ j + kq = fs.length ∧ m ≤ j ∧ Hd (ps.length = m) ∧ Hd (ps.map (·.t) = (srt (lv (fs.take j) 0)).map fun x => T.leaf x.1 x.2) ∧ Hd (wr.ownsRow 0 251 3 (.slice B m d) m (rencs fs.length ps)) ∧ Hd (∀ k, (Value.slice B m d).ownBlock = some k → w.heap.size ≤ k) ∧ Hd (∀ p ∈ ps, ROk wr fs.length p ∧ w.heap.size ≤ p.g) ∧ Hd (Fr w wr []))
  case atStart => exact ⟨0, none, 0, 0, [], rfl, rfl, by omega, by omega, ⟨rfl⟩, ⟨by simp [lv, srt]⟩, ⟨own_nil _ _ _ _⟩, ⟨fun k hk => by simp [Value.ownBlock] at hk⟩, ⟨fun p hp => by simp at hp⟩, ⟨Fr.refl _ _⟩⟩
  case round =>
    obtain ⟨j, B, m, d, ps, rfl, rfl, hj, hm, HL, HP, HW, HB, HK, HF⟩ := hrel
    obtain ⟨gko, rfl⟩ : ∃ gko, gko = gk := ⟨_, rfl⟩
    by_cases h1 : j < fs.length
    · obtain ⟨a, o1, rfl, _, ha⟩ := (HS.out.frame HF.out (by simp)) (by simp [i64s]; omega)
      obtain ⟨x, hx⟩ : ∃ x, x = fs[j] := ⟨_, rfl⟩
      have ca := (ha j (by simp [i64s]; omega)).trans (by rw [i64s_get, List.getElem?_eq_getElem (by omega), ← hx])
      have hsn := lv_snoc h1
      rw [← hx] at hsn
      have HSN := Hd.mk hsn
      have hbd := of_out HO.out h1
      rw [← hx] at hbd
      simp only [Option.map_some] at ca
      clear ha hx hsn
      by_cases hx0 : x = 0
      · have e1 : (x == 0) = true := by simpa using hx0
        have hlv : Hd (lv (fs.take (j + 1)) 0 = lv (fs.take j) 0) := ⟨by rw [HSN.out, if_neg (by omega), List.append_nil]⟩
        clear hx0 HSN
        go_wp2
        go_roundg (gko - 1)
        case measure => go_light; omega
        case rel => go_light; exact ⟨j + 1, B, m, d, ps, by go_num, rfl, by omega, by omega, HL, by rw [hlv.out]; exact HP, HW, HB, HK, HF⟩
      · have e1 : (x == 0) = false := by simpa using hx0
        have h2 : 0 < x := by omega
        have hxn : (x : Int) = ((x.toNat : Nat) : Int) := by omega
        obtain ⟨y, hy⟩ : ∃ y, y = x.toNat := ⟨_, rfl⟩
        rw [← hy] at hxn
        have HY := Hd.mk hy
        clear hy hx0
        subst hxn
        have h3 : Hd (lv (fs.take (j + 1)) 0 = lv (fs.take j) 0 ++ [(y, j)]) := ⟨by rw [HSN.out, if_pos h2, ← HY.out]⟩
        clear HSN HY
        have hmk := run_made fs.length (by omega)
        have n1 : (j : Int) < fs.length := by omega
        go_upto_region 6 with (fail)
        go_cut [5] from 18 to 25 (fun s5 wc => ∃ gx gc, s5 = .pointer (some ⟨gx, 0, none⟩) ∧ Hd (wc.heap[gx]? = some (.cells #[.int .i64 (y : Nat), .bool true, .slice (some ⟨gc, 0, none⟩) fs.length fs.length] 251 (0, 0))) ∧ Hd (Cnt wc gc fs.length fun _ => 0) ∧ Hd (wr.heap.size ≤ gx ∧ wr.heap.size ≤ gc) ∧ Hd (Fr wr wc []))
        case first =>
          have hne := World.new_ne wr _ ca
          go_region_held3 (fun w' => w'.cell? ⟨a, o1 + j, none⟩ = some (.int .i64 (y : Nat))) (go_keep) (fail)
          · go_wp2
            go_meet
            case rel =>
              go_light
              have h5 := two_new wr (.cells (cv fs.length fun _ => 0) 3) (.cells #[.int .i64 (y : Nat), .bool true, .slice (some ⟨wr.heap.size, 0, none⟩) fs.length fs.length] 251)
              exact ⟨wr.heap.size + 1, wr.heap.size, rfl, ⟨h5.2⟩, ⟨h5.1⟩, ⟨by omega⟩, ⟨(((Fr.refl wr []).alloc _).alloc _).drew⟩⟩
          · go_wp2
            go_meet
            case rel =>
              go_light
              have h5 := two_new wr (.cells #[.int .i64 (y : Nat), .bool true, .slice (some ⟨wr.heap.size + 1, 0, none⟩) fs.length fs.length] 251) (.cells (cv fs.length fun _ => 0) 3)
              exact ⟨wr.heap.size, wr.heap.size + 1, rfl, ⟨h5.1⟩, ⟨h5.2⟩, ⟨by omega⟩, ⟨(((Fr.refl wr []).alloc _).alloc _).drew⟩⟩
        case rest =>
        obtain ⟨gx, gc, rfl, HX, HC, HG, HFc⟩ := hcut
        clear hmk
        have WC := Hd.mk (own_frame HW.out HFc.out (by simp))
        have KC : Hd (∀ p ∈ ps, ROk wc fs.length p ∧ w.heap.size ≤ p.g) := ⟨fun p hp => ⟨(HK.out p hp).1.frame HFc.out (by simp), (HK.out p hp).2⟩⟩
        have FC := Hd.mk (HF.out.trans HFc.out (by simp))
        have hbs : Hd (∀ k, (Value.slice B m d).ownBlock = some k → k < wr.heap.size) := ⟨fun k hk => own_lt HW.out hk⟩
        have hgs : Hd (∀ p ∈ ps, p.g < wr.heap.size) := ⟨fun p hp => blk_lt (HK.out p hp).1⟩
        have hwr : Hd (w.heap.size ≤ wr.heap.size) := ⟨HF.out.size⟩
        have k2 := blk_cell HX.out 2
        simp only [List.getElem?_toArray, List.getElem?_cons_zero, List.getElem?_cons_succ] at k2
        have lc := HC.out.cell h1
        have lf := HC.out.free j
        have hxc : gx ≠ gc := blk_ne HX.out HC.out (by decide)
        have HP5 := Hd.mk (HC.out.put h1 1)
        have HX5 := Hd.mk (blk_far (p := ⟨gc, j, none⟩) HX.out hxc (.int .i64 ((1 : Nat) : Int)))
        have A5 := (Fr.refl wc [gc]).setCell (a := ⟨gc, j, none⟩) (.int .i64 ((1 : Nat) : Int)) (.inl (by simp))
        have W5 := Hd.mk (own_frame WC.out A5 (fun k hk hm => by simp at hm; have := hbs.out k hk; have := HG.out; omega))
        have K5 : Hd (∀ p ∈ ps, ROk (wc.setCell ⟨gc, j, none⟩ (.int .i64 ((1 : Nat) : Int))) fs.length p ∧ w.heap.size ≤ p.g) := ⟨fun p hp => ⟨(KC.out p hp).1.frame A5 (fun hm => by simp at hm; have := hgs.out p hp; have := HG.out; omega), (KC.out p hp).2⟩⟩
        have F5 : Hd (Fr w (wc.setCell ⟨gc, j, none⟩ (.int .i64 ((1 : Nat) : Int))) []) := ⟨FC.out.setCell _ (.inr (by have := HG.out; have := hwr.out; simp; omega))⟩
        rw [show ((1 : Nat) : Int) = 1 from rfl] at HP5 HX5 W5 K5 F5
        have HXC := Hd.mk hxc
        clear A5 hxc WC KC FC HK HW HF HFc HX HC ca
        go_upto_region 8 with (fail)
        clear k2 lc lf
        generalize wc.setCell ⟨gc, j, none⟩ (.int .i64 1) = w5 at *
        clear wc
        have hX : Hd (ROk w5 fs.length ⟨.leaf y j, true, gc⟩) := ⟨Cnt.congr HP5.out (fun s => by
          simp only [T.cnt]
          by_cases e : s = j
          · rw [if_pos e, if_pos e.symm]
          · rw [if_neg e, if_neg (fun h => e h.symm)])⟩
        clear HP5
        go_wp2
        go_loopg [6] m (fun kq av wv => ∃ k : Nat, av = .int .i64 (k : Nat) ∧ k + kq = m ∧ Hd (∀ i, i < k → (hi : i < ps.length) → (ps[i]).t.wt ≤ y) ∧ Hd (Fr w5 wv []))
        case atStart => exact ⟨0, rfl, by omega, ⟨fun i hi => absurd hi (Nat.not_lt_zero _)⟩, ⟨Fr.refl _ _⟩⟩
        case round =>
          obtain ⟨k, rfl, hk, HLE, HFv⟩ := hrel
          have hxv := blk_cell (HFv.out.blk HX5.out (by simp)) 0
          simp only [List.getElem?_toArray, List.getElem?_cons_zero] at hxv
          have hbd2 : y ≤ 1099511627776 := by omega
          go_upto_region 9 with (fail)
          go_cut [43] from 30 to 43 (fun sv wc => ∃ bb : Bool, sv = .bool bb ∧ Hd (On bb ps k y) ∧ Hd (Fr w5 wc []))
          case first =>
            by_cases hkm : k < m
            · obtain ⟨g, d', e5, hd5⟩ := own_some W5.out (by omega)
              injection e5 with e5 _ e6
              subst e5 e6
              have hkl : k < ps.length := by rw [HL.out]; exact hkm
              obtain ⟨b0, o5, e7, _, hc5⟩ := Sl.row (enc := renc fs.length) (sz := 3) (fun _ => rfl) ((sl_of_own3 W5.out).frame HFv.out (by simp)) hkl (by decide)
              injection e7 with e7
              injection e7 with e7 e8
              subst e7 e8
              have k0 := hc5 0 (by decide)
              obtain ⟨z, hz⟩ : ∃ z, z = (ps[k]).t.wt := ⟨_, rfl⟩
              simp only [renc, List.getElem?_cons_zero, Nat.add_zero, Nat.zero_add] at k0
              rw [← hz] at k0
              have n2 : (k : Int) < m := by omega
              by_cases hzy : z ≤ y
              · have hd1 : decide (z ≤ y) = true := decide_eq_true hzy
                have HB1 : Hd (On true ps k y) := ⟨⟨fun _ => ⟨hkl, by rw [← hz]; exact hzy⟩, fun _ => rfl⟩⟩
                clear hz hc5
                go_region
                go_wp2
                go_meet
                case rel => exact ⟨true, rfl, HB1, ⟨HFv.out.drew⟩⟩
              · have hd1 : decide (z ≤ y) = false := decide_eq_false hzy
                have HB1 : Hd (On false ps k y) := ⟨⟨(fun h => by cases h), fun ⟨_, h⟩ => by rw [← hz] at h; exact absurd h hzy⟩⟩
                clear hz hc5
                go_region
                go_wp2
                go_meet
                case rel => exact ⟨false, rfl, HB1, ⟨HFv.out.drew⟩⟩
            · have hd1 : decide (k < m) = false := decide_eq_false hkm
              have HB1 : Hd (On false ps k y) := ⟨⟨(fun h => by cases h), fun ⟨h, _⟩ => by rw [HL.out] at h; exact absurd h hkm⟩⟩
              go_quiet (fail)
              go_wp2
              go_meet
              case rel => exact ⟨false, rfl, HB1, ⟨HFv.out.drewN _⟩⟩
          case rest =>
          obtain ⟨bb, rfl, HBB, HF6⟩ := hcut
          obtain ⟨w6, rfl⟩ : ∃ w6, w6 = wc := ⟨_, rfl⟩
          cases bb with
          | true =>
            go_wp2
            go_roundg (gk - 1)
            case measure =>
              go_light
              obtain ⟨hi, _⟩ := (show _ ↔ _ from HBB.out).1 rfl
              rw [HL.out] at hi
              omega
            case rel =>
              go_light
              obtain ⟨hi, hle⟩ := (show _ ↔ _ from HBB.out).1 rfl
              rw [HL.out] at hi
              exact ⟨k + 1, by go_num, by omega, ⟨fun i h1 h2 => by
                by_cases e : i = k
                · subst e; exact hle
                · exact HLE.out i (by omega) h2⟩, HF6⟩
          | false =>
            have HGT : Hd (∀ hi : k < ps.length, y < (ps[k]).t.wt) := ⟨fun hi => by
              by_cases h : (ps[k]).t.wt ≤ y
              · have := (show _ ↔ _ from HBB.out).2 ⟨hi, h⟩; cases this
              · omega⟩
            have hkm : k ≤ m := by omega
            have W6 := Hd.mk (own_frame W5.out HF6.out (by simp))
            have X6 := Hd.mk (HF6.out.blk HX5.out (by simp))
            have R6 := Hd.mk (hX.out.frame HF6.out (by simp))
            have K6 : Hd (∀ p ∈ ps, ROk w6 fs.length p ∧ w.heap.size ≤ p.g) := ⟨fun p hp => ⟨(K5.out p hp).1.frame HF6.out (by simp), (K5.out p hp).2⟩⟩
            have F6 := Hd.mk (F5.out.trans HF6.out (by simp))
            clear W5 HX5 hX K5 F5 HF6 HFv hxv HBB
            go_upto_region 12 with (at_builtin; refine wpList_append_sl rfl (.tmp 46) (.tmp 48) 248 rfl 251 i0 (.agg #[.int .i64 0, .bool false, .slice none 0 0]) 3 40 Tryz.underlying248 hi0 hz0 hz1 hz2 rfl (by decide) (.slice B m d) m _ rfl (by exact W6.out.alloc _) (some ⟨w6.heap.size, 0, none⟩) 1 1 [.int .i64 0, .bool false, .slice none 0 0] (some w6.heap.size) rfl rfl (by exact sl_of_blk (blk_new _ _)) (by intro h; cases h) (by intro u hu; simp at hu; rcases hu with rfl | rfl | rfl <;> rfl) (by unfold maxLen; omega) (by omega) ?_; intro A' c' w7 hown' hgrow haft; have O7 := Hd.mk hown'; have G7 := Hd.mk hgrow; have F7 := Hd.mk haft; clear hown' hgrow haft)
            obtain ⟨g, c2, e7, hc7⟩ := own_some O7.out (by omega)
            injection e7 with e7 _ e8
            subst e7 e8
            obtain ⟨cur, hb7, hs7, ht7⟩ : ∃ cur, w7.heap[g]? = some (.cells cur 251 (0, 0)) ∧ cur.size = c' * 3 ∧ cur.toList.take ((m + 1) * 3) = rencs fs.length ps ++ [.int .i64 0, .bool false, .slice none 0 0] := by
              rcases O7.out.2 with ⟨h', hn0⟩ | ⟨g', cap, cur, h', hb, hh, hnc, hcm, hcs, ht⟩
              · exact absurd hn0 (by omega)
              · injection h' with h1 h2 h3
                injection h1 with h1
                injection h1 with h1
                subst h1 h3
                exact ⟨cur, hh, hcs, ht⟩
            have hmax : c' ≤ maxLen := by
              obtain ⟨_, _, e, _, h, _⟩ := own_slice O7.out
              injection e with _ _ e
              rw [e]; exact h
            have HB7 := Hd.mk hb7
            have HS7 := Hd.mk hs7
            have HT7 := Hd.mk ht7
            have HMAX := Hd.mk hmax
            clear hb7 hs7 ht7 hmax
            have hcut1 := run_cut_from (P := Tryz.prog) 248 251 .i64 Tryz.underlying248 hi0 3 hz1 (some ⟨g, 0, none⟩) (m + 1) c' (k + 1) (by omega)
            have hcut2 := run_cut_from (P := Tryz.prog) 248 251 .i64 Tryz.underlying248 hi0 3 hz1 (some ⟨g, 0, none⟩) (m + 1) c' k (by omega)
            rw [show ((k + 1 : Nat) : Int) = (k : Int) + 1 from by omega] at hcut1
            have n2 : IntKind.i64.wrap ((k : Int) + 1) = (k : Int) + 1 := IntWalk.i64_in _ (by omega)
            have FW7 : Hd (Fr w w7 []) := ⟨(F6.out.alloc _).grown G7.out (fun k hk => .inr (HB.out k hk))⟩
            have K7 : Hd (∀ p ∈ ps, ROk w7 fs.length p ∧ w.heap.size ≤ p.g) := ⟨fun p hp => ⟨blk_grown G7.out (blk_alloc (K6.out p hp).1 _) (fun e => own_ne W6.out (K6.out p hp).1 (by decide) e.symm), (K6.out p hp).2⟩⟩
            have R7 : Hd (ROk w7 fs.length ⟨.leaf y j, true, gc⟩) := ⟨blk_grown G7.out (blk_alloc R6.out _) (fun e => own_ne W6.out R6.out (by decide) e.symm)⟩
            have hxn : ∀ k, (Value.slice B m d).ownBlock = some k → k ≠ gx := fun k hk => by have := hbs.out k hk; have := HG.out; omega
            have X7 : Hd (w7.heap[gx]? = _) := ⟨blk_grown G7.out (blk_alloc X6.out _) (fun e => hxn gx e.symm rfl)⟩
            have hgx : g ≠ gx := by
              rcases F7.out with h | ⟨z, h, hz⟩
              · exact hxn g (by rw [← h]; rfl)
              · cases h
                have := blk_lt X6.out
                simp at hz
                omega
            have hgw : Hd (w.heap.size ≤ g) := ⟨by
              rcases F7.out with h | ⟨z, h, hz⟩
              · exact HB.out g (by rw [← h]; rfl)
              · cases h
                have := F6.out.size
                simp at hz
                omega⟩
            have hgr : Hd (∀ p ∈ ps, p.g ≠ g) := ⟨fun p hp => (blk_ne HB7.out (K7.out p hp).1 (by decide)).symm⟩
            have hgcg : Hd (gc ≠ g) := ⟨(blk_ne HB7.out R7.out (by decide)).symm⟩
            have HGX := Hd.mk hgx
            obtain ⟨cs, hcs⟩ : ∃ cs, cs = rencs fs.length (ps.drop k) := ⟨_, rfl⟩
            have hcl : cs.length = (m - k) * 3 := by rw [hcs, rencs_len, List.length_drop, HL.out]
            have HCS := Hd.mk hcs
            have HCL := Hd.mk hcl
            have hmin : cs.length = Nat.min (m + 1 - k) (m + 1 - (k + 1)) * 3 := by
              rw [hcl]
              congr 1
              show m - k = min (m + 1 - k) (m + 1 - (k + 1))
              omega
            have hpos : 0 < cs.length → cutA (some ⟨g, 0, none⟩) c' (k + 1) 3 = some ⟨g, (k + 1) * 3, none⟩ ∧ ∃ ad, cutA (some ⟨g, 0, none⟩) c' k 3 = some ad ∧ ∀ i v, cs[i]? = some v → w7.cell? (ad.add i) = some v := by
              intro h0
              rw [hcl] at h0
              refine ⟨by unfold cutA; rw [if_neg (by omega)]; simp [Addr.add_lit], ⟨g, k * 3, none⟩, by unfold cutA; rw [if_neg (by omega)]; simp [Addr.add_lit], fun i v hv => ?_⟩
              have hi := (List.getElem?_eq_some_iff.1 hv).1
              rw [Addr.add_lit, blk_cell HB7.out]
              have e1 : cur[k * 3 + i]? = (rencs fs.length ps)[k * 3 + i]? := by
                have e2 := congrArg (fun z => z[k * 3 + i]?) HT7.out
                simp only [List.getElem?_take] at e2
                rw [if_pos (by omega), List.getElem?_append_left (by rw [rencs_len, HL.out]; omega)] at e2
                rw [← e2]; simp
              have e3 : rencs fs.length ps = rencs fs.length (ps.take k) ++ cs := by rw [hcs, ← rencs_app, List.take_append_drop]
              have e4 : (rencs fs.length (ps.take k)).length = k * 3 := by rw [rencs_len, List.length_take, HL.out]; omega
              rw [e1, e3, List.getElem?_append_right (by omega), e4, show k * 3 + i - k * 3 = i from by omega]
              exact hv
            have HPOS := Hd.mk hpos
            have HMIN := Hd.mk hmin
            clear hpos hmin
            clear hcs hcl hxn hgx W6 X6 R6 K6 F6 G7 hbs hgs
            go_upto_region 12 with (fail)
            go_region_law (refine step_copy_n rfl (.tmp 53) (.tmp 56) 248 248 rfl 251 Tryz.underlying248 3 (by rw [hi0]; exact congrArg some hz1) (cutA (some ⟨g, 0, none⟩) c' (k + 1) 3) (cutA (some ⟨g, 0, none⟩) c' k 3) (m + 1 - (k + 1)) (c' - (k + 1)) (m + 1 - k) (c' - k) (by simp [Act.eval, Act.put]) (by simp [Act.eval, Act.put]) g ((k + 1) * 3) cur 251 (by exact HB7.out) cs HMIN.out (by decide) (by exact HPOS.out) (by rw [HCL.out, HS7.out]; omega) (by rw [HCS.out]; exact rencs_one _ _) ?_; intro w8 hb8 hf8; have HB8 := hb8; have F8 := Hd.mk hf8; clear hb8 hf8)
            clear hcut1 hcut2 n2
            have hb8 := HB8.out
            obtain ⟨arr, harr⟩ : ∃ arr, arr = (cur.toList.take ((k + 1) * 3) ++ cs ++ cur.toList.drop ((k + 1) * 3 + cs.length)).toArray := ⟨_, rfl⟩
            rw [← harr] at hb8
            have hsz : arr.size = c' * 3 := by
              rw [harr]
              have h9 : cur.toList.length = c' * 3 := by simp [HS7.out]
              simp only [List.size_toArray, List.length_append, List.length_take, List.length_drop, h9, HCL.out]
              omega
            obtain ⟨v0, hv0⟩ : ∃ v, arr[k * 3]? = some v := ⟨arr[k * 3]'(by omega), Array.getElem?_eq_getElem _⟩
            obtain ⟨v1, hv1⟩ : ∃ v, arr[k * 3 + 1]? = some v := ⟨arr[k * 3 + 1]'(by omega), Array.getElem?_eq_getElem _⟩
            obtain ⟨v2, hv2⟩ : ∃ v, arr[k * 3 + 2]? = some v := ⟨arr[k * 3 + 2]'(by omega), Array.getElem?_eq_getElem _⟩
            obtain ⟨cur', hc1, hc2, hc3⟩ := row_in (N := fs.length) (k := k) (cap := c') ⟨.leaf y j, true, gc⟩ HL.out hkm hc7 HS7.out (by rfl) HT7.out
            rw [← HCS.out, ← harr] at hc1
            have g0 := (blk_cell hb8 (k * 3)).trans hv0
            have g1 := (blk_cell hb8 (k * 3 + 1)).trans hv1
            have g2 := (blk_cell hb8 (k * 3 + 2)).trans hv2
            have gf : ∀ o, w8.frozen? ⟨g, o, none⟩ = false := fun o => blk_frozen hb8 o
            have B9 := blk_set (blk_set (blk_set hb8 (k * 3) (.int .i64 (y : Nat))) (k * 3 + 1) (.bool true)) (k * 3 + 2) (.slice (some ⟨gc, 0, none⟩) fs.length fs.length)
            have e9 : ((arr.setIfInBounds (k * 3) (.int .i64 (y : Nat))).setIfInBounds (k * 3 + 1) (.bool true)).setIfInBounds (k * 3 + 2) (.slice (some ⟨gc, 0, none⟩) fs.length fs.length) = cur' := hc1
            rw [e9] at B9
            have A9 : Fr w7 (((w8.setCell ⟨g, k * 3, none⟩ (.int .i64 (y : Nat))).setCell ⟨g, k * 3 + 1, none⟩ (.bool true)).setCell ⟨g, k * 3 + 2, none⟩ (.slice (some ⟨gc, 0, none⟩) fs.length fs.length)) [g] := ((F8.out.ofDrew.setCell _ (.inl (by simp))).setCell _ (.inl (by simp))).setCell _ (.inl (by simp))
            have X8 := (F8.out.ofDrew).blk X7.out (by simp; exact HGX.out.symm)
            have x0 := blk_cell X8 0
            have x1 := blk_cell X8 1
            have x2 := blk_cell X8 2
            simp only [List.getElem?_toArray, List.getElem?_cons_zero, List.getElem?_cons_succ] at x0 x1 x2
            have O9 : Hd (World.ownsRow (((w8.setCell ⟨g, k * 3, none⟩ (.int .i64 (y : Nat))).setCell ⟨g, k * 3 + 1, none⟩ (.bool true)).setCell ⟨g, k * 3 + 2, none⟩ (.slice (some ⟨gc, 0, none⟩) fs.length fs.length)) 0 251 3 (.slice (some ⟨g, 0, none⟩) (m + 1) c') (m + 1) (rencs fs.length (rins k ⟨.leaf y j, true, gc⟩ ps))) := ⟨⟨by
              rw [rencs_len]
              unfold rins
              simp only [List.length_append, List.length_cons, List.length_take, List.length_drop, HL.out]
              omega, .inr ⟨g, c', cur', rfl, Nat.zero_le _, B9, hc7, HMAX.out, hc2, hc3⟩⟩⟩
            have K9 : Hd (∀ p ∈ rins k ⟨.leaf y j, true, gc⟩ ps, ROk (((w8.setCell ⟨g, k * 3, none⟩ (.int .i64 (y : Nat))).setCell ⟨g, k * 3 + 1, none⟩ (.bool true)).setCell ⟨g, k * 3 + 2, none⟩ (.slice (some ⟨gc, 0, none⟩) fs.length fs.length)) fs.length p ∧ w.heap.size ≤ p.g) := ⟨fun p hp => by
              unfold rins at hp
              rcases List.mem_append.1 hp with hp | hp
              · have hp := List.mem_of_mem_take hp
                exact ⟨(K7.out p hp).1.frame A9 (by simpa using hgr.out p hp), (K7.out p hp).2⟩
              · rcases List.mem_cons.1 hp with rfl | hp
                · exact ⟨R7.out.frame A9 (by simpa using hgcg.out), by have := HG.out; have := hwr.out; simp only; omega⟩
                · have hp := List.mem_of_mem_drop hp
                  exact ⟨(K7.out p hp).1.frame A9 (by simpa using hgr.out p hp), (K7.out p hp).2⟩⟩
            have F9 := Hd.mk (FW7.out.trans A9 (fun x hx hm => by simp at hm; have := hgw.out; omega))
            have HM9 : Hd ((rins k ⟨.leaf y j, true, gc⟩ ps).map (·.t) = (srt (lv (fs.take (j + 1)) 0)).map fun x => T.leaf x.1 x.2) := ⟨by rw [h3.out, srt_snoc]; exact rins_map rfl HP.out (by rw [HL.out]; exact hkm) HLE.out HGT.out⟩
            have n3 : (k : Int) < (m : Int) + 1 := by omega
            clear B9 A9 X8 hb8 harr hsz hc1 hc2 hc3 hv0 hv1 hv2 e9 HB8 F8 HB7 HS7 HT7 O7 F7 K7 R7 X7 FW7 HPOS HMIN HCS HCL
            go_wp2
            clear g0 g1 g2 gf x0 x1 x2
            go_roundg (gko - 1)
            case measure => go_light; omega
            case rel =>
              go_light
              refine ⟨j + 1, some ⟨g, 0, none⟩, m + 1, c', rins k ⟨.leaf y j, true, gc⟩ ps, by go_num, rfl, by omega, by omega, ⟨?_⟩, HM9, O9, ⟨fun x hx => by cases hx; exact hgw.out⟩, K9, F9⟩
              unfold rins
              simp only [List.length_append, List.length_cons, List.length_take, List.length_drop, HL.out]
              omega
    · go_wp2
      go_ret
      unfold RPost
      have hfl : fs.take j = fs := List.take_of_length_le (by omega)
      have hP := HP.out
      rw [hfl] at hP
      exact ⟨B, m, d, ps, rfl, hP, HL.out, HW.out, HB.out, HK.out, HF.out⟩
end Go.Proofs.YtkdgfioigkijgaaGreat.Lens
set_option linter.unusedVariables false
set_option linter.unusedSimpArgs false
set_option maxRecDepth 100000
namespace Go.Proofs.YtkdgfioigkijgaaGreat.Lens
open Go.RowKit Go.Proofs.YtkdgfioigkijgaaGreat.Lib Go.Proofs.YtkdgfioigkijgaaGreat.Ints Go.Proofs.YtkdgfioigkijgaaGreat.Sorts Go.Proofs.YtkdgfioigkijgaaGreat.Sort Go.Proofs.YtkdgfioigkijgaaGreat.Pm Go.Proofs.YtkdgfioigkijgaaGreat.Num
def upto (k : Nat) (f : Nat → Nat) : Nat → Nat := fun s => if s < k then f s else 0
set_option maxHeartbeats 4000000 in
theorem rpacked_any (w : World) (N : Nat) (A : Option Addr) (n c : Nat) (ps : List RI) (q : Option Nat) (M C : Nat) (hN : N ≤ 1000) (hn : ps.length = n) (hS : Sl w A (rencs N ps) q) (hok : ∀ p ∈ ps, ROk w N p) (hM : ∀ p ∈ ps, p.t.wt ≤ M) (hM2 : M ≤ 1152921504606846976) (hC : ∀ p ∈ ps, ∀ s, p.t.cnt s ≤ C) (hC2 : C ≤ 1152921504606846976) (hn1 : n ≤ 1000) :
    Calls Tryz.prog 149 #[.slice A n c] w (RPost w N (pk (ps.map (·.t)))) := by
  subst hn
  have HS := Hd.mk hS
  have HOK := Hd.mk hok
  have HMM := Hd.mk hM
  have HCC := Hd.mk hC
  clear hS hok hM hC
  obtain ⟨i0, hi0, hz0, hz1, hz2⟩ := info_parts infoRItem
  go_enter Tryz.func149, Tryz.ntmps149
  go_wp2
  go_loopg [3, 4] ps.length (fun kq sv iv wr => ∃ (i j : Nat) (B : Option Addr) (m d : Nat) (P : List RI), iv = .int .i64 (i : Nat) ∧ sv = .slice B m d ∧ Hd (i = 2 * j) ∧ i ≤ ps.length ∧ ps.length - i ≤ kq ∧ m ≤ 1000 ∧ Hd (P.length = m) ∧ Hd (m = j) ∧ Hd (P.map (·.t) = pk ((ps.map (·.t)).take i)) ∧ Hd (wr.ownsRow 0 251 3 (.slice B m d) m (rencs N P)) ∧ Hd (∀ k, (Value.slice B m d).ownBlock = some k → w.heap.size ≤ k) ∧ Hd (∀ p ∈ P, ROk wr N p ∧ w.heap.size ≤ p.g) ∧ Hd (Fr w wr []))
  case atStart => exact ⟨0, 0, none, 0, 0, [], rfl, rfl, ⟨rfl⟩, by omega, by omega, by omega, ⟨rfl⟩, ⟨rfl⟩, ⟨rfl⟩, ⟨own_nil _ _ _ _⟩, ⟨fun k hk => by simp [Value.ownBlock] at hk⟩, ⟨fun p hp => by simp at hp⟩, ⟨Fr.refl _ _⟩⟩
  case round =>
    obtain ⟨i, j, B, m, d, P, rfl, rfl, HI, hin, hk, hm, HL, HMJ, HP, HW, HB, HK, HF⟩ := hrel
    obtain ⟨gko, rfl⟩ : ∃ gko, gko = gk := ⟨_, rfl⟩
    obtain ⟨wo, rfl⟩ : ∃ wo : World, wo = wr := ⟨_, rfl⟩
    by_cases h1 : i + 1 < ps.length
    · obtain ⟨b0, o1, rfl, hqb, ha⟩ := Sl.row (enc := renc N) (sz := 3) (fun _ => rfl) HS.out (i := i) (by omega) (by decide)
      obtain ⟨b0', o1', e', _, hb⟩ := Sl.row (enc := renc N) (sz := 3) (fun _ => rfl) HS.out (i := i + 1) (by omega) (by decide)
      injection e' with e'
      injection e' with e1 e2
      subst e1 e2
      obtain ⟨x, hx⟩ : ∃ x, x = ps[i] := ⟨_, rfl⟩
      obtain ⟨y, hy⟩ : ∃ y, y = ps[i + 1] := ⟨_, rfl⟩
      rw [← hx] at ha
      rw [← hy] at hb
      have hxm : x ∈ ps := by rw [hx]; exact List.getElem_mem _
      have hym : y ∈ ps := by rw [hy]; exact List.getElem_mem _
      have hxM := HMM.out x hxm
      have hyM := HMM.out y hym
      have HX := Hd.mk hx
      have HY := Hd.mk hy
      have HXM := Hd.mk hxm
      have HYM := Hd.mk hym
      have HA := Hd.mk ha
      have HBB := Hd.mk hb
      clear ha hb hx hy hqb hxm hym
      have cell : ∀ {W : World}, Fr w W [] → W.cell? ⟨b0, o1 + i * 3, none⟩ = some (.int .i64 x.t.wt) ∧ W.cell? ⟨b0, o1 + i * 3 + 2, none⟩ = some (.slice (some ⟨x.g, 0, none⟩) N N) ∧ W.cell? ⟨b0, o1 + (i + 1) * 3, none⟩ = some (.int .i64 y.t.wt) ∧ W.cell? ⟨b0, o1 + (i + 1) * 3 + 2, none⟩ = some (.slice (some ⟨y.g, 0, none⟩) N N) := fun hf =>
        ⟨Fr.cellAt hf (by simp) (by simpa [renc] using HA.out 0 (by decide)), Fr.cellAt hf (by simp) (by simpa [renc] using HA.out 2 (by decide)), Fr.cellAt hf (by simp) (by simpa [renc] using HBB.out 0 (by decide)), Fr.cellAt hf (by simp) (by simpa [renc] using HBB.out 2 (by decide))⟩
      have CELL := Hd.mk @cell
      clear cell
      obtain ⟨ca, ca2, cb, cb2⟩ := CELL.out HF.out
      have n1 : ((i : Int) + 1).toNat = i + 1 := by omega
      have n2 : IntKind.i64.wrap ((i : Int) + 1) = (i : Int) + 1 := IntWalk.i64_in _ (by omega)
      have n4 : IntKind.i64.wrap ((x.t.wt : Int) + (y.t.wt : Int)) = (x.t.wt : Int) + (y.t.wt : Int) := IntWalk.i64_in _ (by omega)
      have n5 : (0 : Int) ≤ (i : Int) + 1 := by omega
      have n6 : (i : Int) < ps.length := by omega
      have n7 : (i : Int) + 1 < ps.length := by omega
      have hmk := run_made N hN
      go_upto_region 5 with (fail)
      go_cut [5] from 14 to 33 (fun s5 wc => ∃ gx gc, s5 = .pointer (some ⟨gx, 0, none⟩) ∧ Hd (wc.heap[gx]? = some (.cells #[.int .i64 ((x.t.wt : Int) + (y.t.wt : Int)), .bool false, .slice (some ⟨gc, 0, none⟩) N N] 251 (0, 0))) ∧ Hd (Cnt wc gc N fun _ => 0) ∧ Hd (wo.heap.size ≤ gx ∧ wo.heap.size ≤ gc) ∧ Hd (Fr wo wc []))
      case first =>
        have hne1 := World.new_ne wo _ ca
        have hne2 := World.new_ne wo _ ca2
        have hne3 := World.new_ne wo _ cb
        go_region_held3 (fun w' => w'.cell? ⟨b0, o1 + i * 3, none⟩ = some (.int .i64 x.t.wt) ∧ w'.cell? ⟨b0, o1 + i * 3 + 2, none⟩ = some (.slice (some ⟨x.g, 0, none⟩) N N) ∧ w'.cell? ⟨b0, o1 + (i + 1) * 3, none⟩ = some (.int .i64 y.t.wt)) (go_keep) (fail)
        · go_wp2
          go_meet
          case rel =>
            go_light
            have h5 := two_new wo (.cells (cv N fun _ => 0) 3) (.cells #[.int .i64 ((x.t.wt : Int) + (y.t.wt : Int)), .bool false, .slice (some ⟨wo.heap.size, 0, none⟩) N N] 251)
            exact ⟨wo.heap.size + 1, wo.heap.size, rfl, ⟨h5.2⟩, ⟨h5.1⟩, ⟨by omega⟩, ⟨(((Fr.refl wo []).alloc _).alloc _).drew⟩⟩
        · go_wp2
          go_meet
          case rel =>
            go_light
            have h5 := two_new wo (.cells #[.int .i64 ((x.t.wt : Int) + (y.t.wt : Int)), .bool false, .slice (some ⟨wo.heap.size + 1, 0, none⟩) N N] 251) (.cells (cv N fun _ => 0) 3)
            exact ⟨wo.heap.size, wo.heap.size + 1, rfl, ⟨h5.1⟩, ⟨h5.2⟩, ⟨by omega⟩, ⟨(((Fr.refl wo []).alloc _).alloc _).drew⟩⟩
      case rest =>
      obtain ⟨gx, gc, rfl, HX5, HC5, HG, HFc⟩ := hcut
      clear hmk n2 n4 ca ca2 cb cb2
      have hwr : Hd (w.heap.size ≤ wo.heap.size) := ⟨HF.out.size⟩
      have hcx : Hd (gx ≠ gc) := ⟨blk_ne HX5.out HC5.out (by decide)⟩
      have FC := Hd.mk (HF.out.trans HFc.out (by simp))
      go_wp2
      go_loopg [6] N (fun kq av wv => ∃ k : Nat, av = .int .i64 (k : Nat) ∧ k + kq = N ∧ Hd (Cnt wv gc N (upto k (T.pack x.t y.t).cnt)) ∧ Hd (Fr wc wv [gc]))
      case atStart => exact ⟨0, rfl, by omega, ⟨Cnt.congr HC5.out (fun s => by unfold upto; rw [if_neg (by omega)])⟩, ⟨Fr.refl _ _⟩⟩
      case round =>
        obtain ⟨k, rfl, hk2, HCN, HFv⟩ := hrel
        have FCv : Hd (Fr w wr []) := ⟨FC.out.trans HFv.out (fun z hz hm => by simp at hm; have := HG.out; have := hwr.out; omega)⟩
        have X6 := Hd.mk (HFv.out.blk HX5.out (by simpa using hcx.out))
        by_cases hkN : k < N
        · obtain ⟨ca, ca2, cb, cb2⟩ := CELL.out FCv.out
          have k2 := blk_cell X6.out 2
          simp only [List.getElem?_toArray, List.getElem?_cons_zero, List.getElem?_cons_succ] at k2
          have cx := Cnt.cell (ROk.frame (HOK.out x HXM.out) FCv.out (by simp)) hkN
          have cy := Cnt.cell (ROk.frame (HOK.out y HYM.out) FCv.out (by simp)) hkN
          have cc := HCN.out.cell hkN
          have cf := HCN.out.free k
          obtain ⟨u, hu⟩ : ∃ u, u = x.t.cnt k := ⟨_, rfl⟩
          obtain ⟨v, hv⟩ : ∃ v, v = y.t.cnt k := ⟨_, rfl⟩
          rw [← hu] at cx
          rw [← hv] at cy
          have hub : u ≤ C := by rw [hu]; exact HCC.out x HXM.out k
          have hvb : v ≤ C := by rw [hv]; exact HCC.out y HYM.out k
          obtain ⟨z, hz⟩ : ∃ z, z = upto k (T.pack x.t y.t).cnt k := ⟨_, rfl⟩
          rw [← hz] at cc
          have hput := HCN.out.put hkN (u + v)
          have hput2 : Cnt (wr.setCell ⟨gc, k, none⟩ (.int .i64 ((u : Int) + (v : Int)))) gc N (upto (k + 1) (T.pack x.t y.t).cnt) := Cnt.congr (by rw [show ((u : Int) + (v : Int)) = ((u + v : Nat) : Int) from by omega]; exact hput) (fun s => by
            unfold upto
            by_cases e : s = k
            · subst e
              rw [if_pos rfl, if_pos (by omega), T.cnt, hu, hv]
            · rw [if_neg e]
              by_cases e2 : s < k
              · rw [if_pos e2, if_pos (by omega)]
              · rw [if_neg e2, if_neg (by omega)])
          have HP2 := Hd.mk (hput2.frame (Fr.refl _ []).drew (by simp))
          have HF2 := Hd.mk (((HFv.out.setCell (a := ⟨gc, k, none⟩) (.int .i64 ((u : Int) + (v : Int))) (.inl (by simp)))).drew)
          have m1 : IntKind.i64.wrap ((u : Int) + (v : Int)) = (u : Int) + (v : Int) := IntWalk.i64_in _ (by omega)
          have m2 : IntKind.i64.wrap ((i : Int) + 1) = (i : Int) + 1 := IntWalk.i64_in _ (by omega)
          have m3 : (k : Int) < N := by omega
          clear hu hv hz hput hput2
          go_upto_region 9 with (fail)
          go_region
          clear ca ca2 cb cb2 k2 cx cy cc cf m1 m2
          go_wp2
          go_roundg (gk - 1)
          case measure => go_light; omega
          case rel => go_light; exact ⟨k + 1, by go_num, by omega, HP2, HF2⟩
        · obtain rfl : k = N := by omega
          have HCF : Hd (Cnt wr gc k (T.pack x.t y.t).cnt) := ⟨by
            have e : ∀ s, s < k → upto k (T.pack x.t y.t).cnt s = (T.pack x.t y.t).cnt s := fun s hs => by unfold upto; rw [if_pos hs]
            have h0 := HCN.out
            unfold Cnt at h0 ⊢
            rw [h0]
            congr 2
            unfold cv
            congr 1
            exact List.map_congr_left fun s hs => by rw [e s (by simpa using hs)]⟩
          have hsz : Hd (wo.heap.size ≤ wc.heap.size) := ⟨HFc.out.size⟩
          have W6 : Hd (wr.ownsRow 0 251 3 (.slice B m d) m (rencs k P)) := ⟨own_frame (own_frame HW.out HFc.out (by simp)) HFv.out (fun z hz hm => by simp at hm; have := own_lt HW.out hz; have := HG.out; omega)⟩
          have K6 : Hd (∀ p ∈ P, ROk wr k p ∧ w.heap.size ≤ p.g) := ⟨fun p hp => ⟨((HK.out p hp).1.frame HFc.out (by simp)).frame HFv.out (fun hm => by simp at hm; have := blk_lt (HK.out p hp).1; have := HG.out; omega), (HK.out p hp).2⟩⟩
          have k0 := blk_cell X6.out 0
          have k1 := blk_cell X6.out 1
          have k2 := blk_cell X6.out 2
          simp only [List.getElem?_toArray, List.getElem?_cons_zero, List.getElem?_cons_succ] at k0 k1 k2
          clear HX5 HC5 HCN HFv FC HW HK HF
          go_wp2_with (at_builtin; refine wpList_append_sl rfl (.tmp 63) (.tmp 65) 248 rfl 251 i0 (.agg #[.int .i64 0, .bool false, .slice none 0 0]) 3 40 Tryz.underlying248 hi0 hz0 hz1 hz2 rfl (by decide) (.slice B m d) m _ rfl (by exact W6.out.alloc _) (some ⟨wr.heap.size, 0, none⟩) 1 1 [.int .i64 ((x.t.wt : Int) + (y.t.wt : Int)), .bool false, .slice (some ⟨gc, 0, none⟩) k k] (some wr.heap.size) rfl rfl (by exact sl_of_blk (blk_new _ _)) (by intro h; cases h) (by intro u hu; simp at hu; rcases hu with rfl | rfl | rfl <;> rfl) (by unfold maxLen; omega) (by omega) ?_; intro A' c' w7 hown' hgrow haft; have O7 := Hd.mk hown'; have G7 := Hd.mk hgrow; have F7 := Hd.mk haft; clear hown' hgrow haft)
          clear k0 k1 k2
          go_roundg (gko - 1)
          case measure => go_light; omega
          case rel =>
            go_light
            refine ⟨i + 2, j + 1, A', m + 1, c', P ++ [⟨.pack x.t y.t, false, gc⟩], by go_num, rfl, ⟨by have := HI.out; omega⟩, by omega, by omega, by have := HI.out; have := HMJ.out; omega, ⟨by rw [List.length_append, HL.out]; rfl⟩, ⟨by rw [HMJ.out]⟩, ⟨?_⟩, ⟨?_⟩, ⟨fun z hz => ?_⟩, ⟨fun p hp => ?_⟩, ⟨(FCv.out.alloc _).grown G7.out (fun z hz => .inr (HB.out z hz))⟩⟩
            · have h6 := pk_get (ps.map (·.t)) j (by rw [List.length_map]; have := HI.out; omega)
              have hi2 : i + 2 = 2 * (j + 1) := by have := HI.out; omega
              rw [List.map_append, HP.out, hi2, ← pk_take, HI.out, ← pk_take, List.take_add_one, h6]
              simp only [List.getElem_map, List.map_cons, List.map_nil, Option.toList]
              have hI := HI.out
              subst hI
              rw [HX.out, HY.out]
            · rw [rencs_app]
              have h7 := O7.out
              have e7 : rencs k [⟨.pack x.t y.t, false, gc⟩] = [.int .i64 ((x.t.wt : Int) + (y.t.wt : Int)), .bool false, .slice (some ⟨gc, 0, none⟩) k k] := by simp [rencs, renc, T.wt]
              rw [e7]
              exact h7
            · rcases F7.out with h | ⟨u, h, hu⟩
              · rw [h] at hz; exact HB.out z hz
              · rw [h] at hz; cases hz
                have := FCv.out.size
                simp at hu
                omega
            · rcases List.mem_append.1 hp with hp | hp
              · exact ⟨blk_grown G7.out (blk_alloc (K6.out p hp).1 _) (fun e => own_ne W6.out (K6.out p hp).1 (by decide) e.symm), (K6.out p hp).2⟩
              · simp only [List.mem_cons, List.not_mem_nil, or_false] at hp
                subst hp
                exact ⟨blk_grown G7.out (blk_alloc HCF.out _) (fun e => own_ne W6.out HCF.out (by decide) e.symm), by have := HG.out; have := hwr.out; simp only; omega⟩
    · go_wp2
      go_ret
      unfold RPost
      have hpk : pk ((ps.map (·.t)).take i) = pk (ps.map (·.t)) := by
        have hI := HI.out
        rw [hI, ← pk_take, List.take_of_length_le (by rw [pk_len, List.length_map]; omega)]
      exact ⟨B, m, d, P, rfl, by rw [HP.out, hpk], HL.out, HW.out, HB.out, HK.out, HF.out⟩
end Go.Proofs.YtkdgfioigkijgaaGreat.Lens
