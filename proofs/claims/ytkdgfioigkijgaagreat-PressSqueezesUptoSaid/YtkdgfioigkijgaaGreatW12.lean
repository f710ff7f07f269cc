import Derived.Test.YtkdgfioigkijgaaGreatW03
import Derived.Test.YtkdgfioigkijgaaGreatW04
import Derived.Deep.CutBlock
set_option linter.unusedVariables false
set_option linter.unusedSimpArgs false
set_option maxRecDepth 100000
namespace Go.Proofs.YtkdgfioigkijgaaGreat.Head
open Go.RowKit Go.Proofs.YtkdgfioigkijgaaGreat.Lib Go.Proofs.YtkdgfioigkijgaaGreat.Ints Go.Proofs.YtkdgfioigkijgaaGreat.Runs
def enc (r : Int × Int) : List Value := [.int .i64 r.1, .int .i64 r.2]
def cells (rs : List (Int × Int)) : List Value := rs.flatMap enc
theorem cells_app (a b : List (Int × Int)) : cells (a ++ b) = cells a ++ cells b := by simp [cells]
theorem cells_len (a : List (Int × Int)) : (cells a).length = 2 * a.length := by
  induction a with
  | nil => rfl
  | cons x t ih => simp only [cells, List.flatMap_cons, List.length_append] at ih ⊢; rw [ih]; simp [enc]; omega
theorem infoRun : (Tryz.prog.info? 188).map (fun i => (i.zero, i.size, i.bytes)) = some (some (.agg #[.int .i64 0, .int .i64 0]), 2, 16) := by kernel_rfl
theorem kinds_16 (w : World) : Calls Tryz.prog 178 #[.int .i64 16] w fun e w' => e = .returned (.agg #[.int .i64 2, .int .i64 3, .int .i64 6]) ∧ Fr w w' [] := by
  go_enter Tryz.func178, Tryz.ntmps178
  go_wp2
  exact bodyPost_ret (v := .agg #[.int .i64 2, .int .i64 3, .int .i64 6]) (by simp [results, Tryz.results178, go_sem]) rfl ⟨rfl, ((Fr.refl _ _).alloc _).alloc _⟩
theorem kinds_17 (w : World) : Calls Tryz.prog 178 #[.int .i64 17] w fun e w' => e = .returned (.agg #[.int .i64 3, .int .i64 3, .int .i64 10]) ∧ Fr w w' [] := by
  go_enter Tryz.func178, Tryz.ntmps178
  go_wp2
  exact bodyPost_ret (v := .agg #[.int .i64 3, .int .i64 3, .int .i64 10]) (by simp [results, Tryz.results178, go_sem]) rfl ⟨rfl, ((Fr.refl _ _).alloc _).alloc _⟩
theorem kinds_18 (w : World) : Calls Tryz.prog 178 #[.int .i64 18] w fun e w' => e = .returned (.agg #[.int .i64 7, .int .i64 11, .int .i64 138]) ∧ Fr w w' [] := by
  go_enter Tryz.func178, Tryz.ntmps178
  go_wp2
  exact bodyPost_ret (v := .agg #[.int .i64 7, .int .i64 11, .int .i64 138]) (by simp [results, Tryz.results178, go_sem]) rfl ⟨rfl, ((Fr.refl _ _).alloc _).alloc _⟩
theorem row_any (w : World) (v : Int) (k : Nat) (h1 : 1 ≤ k) (h2 : k ≤ 1099511627776) :
    Calls Tryz.prog 151 #[.int .i64 v, .int .i64 (k : Nat)] w fun e w' => ∃ A n c, e = .returned (.slice A n c) ∧ w'.ownsRow 0 188 2 (.slice A n c) n (cells (rowOf v k)) ∧ (∀ j, (Value.slice A n c).ownBlock = some j → w.heap.size ≤ j) ∧ Fr w w' [] := by
  obtain ⟨i0, hi0, hz0, hz1, hz2⟩ := info_parts infoRun
  by_cases hv : v = 0
  · subst hv
    by_cases h11 : 11 ≤ k
    · by_cases h138 : 138 < k
      · have hr : Hd (rowOf 0 k = [(18, 138)]) := ⟨by unfold rowOf; rw [if_pos rfl, if_pos h11, show min k 138 = 138 from by omega]; rfl⟩
        go_enter Tryz.func151, Tryz.ntmps151
        go_wp2
        go_ret
        rw [hr.out]
        exact ⟨_, _, _, rfl, World.ownsRow_lit w #[.int .i64 18, .int .i64 138] 1 (Nat.zero_le _) (by decide) rfl, by intro j hj; cases hj; exact Nat.le_refl _, (Fr.refl _ _).alloc _⟩
      · have hr : Hd (rowOf 0 k = [(18, (k : Int))]) := ⟨by unfold rowOf; rw [if_pos rfl, if_pos h11, show min k 138 = k from by omega]⟩
        go_enter Tryz.func151, Tryz.ntmps151
        go_wp2
        go_ret
        rw [hr.out]
        exact ⟨_, _, _, rfl, World.ownsRow_lit w #[.int .i64 18, .int .i64 k] 1 (Nat.zero_le _) (by decide) rfl, by intro j hj; cases hj; exact Nat.le_refl _, (Fr.refl _ _).alloc _⟩
    · by_cases h3 : 3 ≤ k
      · have hr : Hd (rowOf 0 k = [(17, (k : Int))]) := ⟨by unfold rowOf; rw [if_pos rfl, if_neg h11, if_pos h3]⟩
        go_enter Tryz.func151, Tryz.ntmps151
        go_wp2
        go_ret
        rw [hr.out]
        exact ⟨_, _, _, rfl, World.ownsRow_lit w #[.int .i64 17, .int .i64 k] 1 (Nat.zero_le _) (by decide) rfl, by intro j hj; cases hj; exact Nat.le_refl _, (Fr.refl _ _).alloc _⟩
      · have hr : Hd (rowOf 0 k = [(0, 1)]) := ⟨by unfold rowOf; rw [if_pos rfl, if_neg h11, if_neg h3]⟩
        go_enter Tryz.func151, Tryz.ntmps151
        go_wp2
        go_ret
        rw [hr.out]
        exact ⟨_, _, _, rfl, World.ownsRow_lit w #[.int .i64 0, .int .i64 1] 1 (Nat.zero_le _) (by decide) rfl, by intro j hj; cases hj; exact Nat.le_refl _, (Fr.refl _ _).alloc _⟩
  · have hr : Hd (rowOf v k = (v, 1) :: sixes (k - 1) (k - 1)) := ⟨by unfold rowOf; rw [if_neg hv]⟩
    have hvb : (v == 0) = false := by simpa using hv
    go_enter Tryz.func151, Tryz.ntmps151
    go_wp2
    go_loopg [1, 5] k (fun kq kv sv wr => ∃ (j : Nat) (A : Option Addr) (n c : Nat) (P : List (Int × Int)), kv = .int .i64 (j : Nat) ∧ sv = .slice A n c ∧ j + n ≤ k ∧ j + 1 ≤ kq ∧ Hd (P ++ sixes j j = (v, 1) :: sixes (k - 1) (k - 1)) ∧ Hd (wr.ownsRow 0 188 2 (.slice A n c) n (cells P)) ∧ Hd (∀ j, (Value.slice A n c).ownBlock = some j → w.heap.size ≤ j) ∧ Hd (Fr w wr []))
    case atStart => exact ⟨k - 1, some ⟨w.heap.size, 0, none⟩, 1, 1, [(v, 1)], by go_num, rfl, by omega, by omega, ⟨rfl⟩, ⟨World.ownsRow_lit w #[.int .i64 v, .int .i64 1] 1 (Nat.zero_le _) (by decide) rfl⟩, ⟨by intro j hj; cases hj; exact Nat.le_refl _⟩, ⟨(Fr.refl _ _).alloc _⟩⟩
    case round =>
      obtain ⟨j, A, n, c, P, rfl, rfl, hjn, hjk, HP, HO, HB, HF⟩ := hrel
      by_cases h3 : 3 ≤ j
      · by_cases h6 : 6 < j
        · go_wp2_with (at_builtin; refine wpList_append_sl rfl (.tmp 33) (.tmp 36) 184 rfl 188 i0 (.agg #[.int .i64 0, .int .i64 0]) 2 16 Tryz.underlying184 hi0 hz0 hz1 hz2 rfl (by decide) (.slice A n c) n _ rfl (by exact HO.out.alloc _) (some ⟨wr.heap.size, 0, none⟩) 1 1 [.int .i64 16, .int .i64 6] (some wr.heap.size) rfl rfl (by exact sl_of_blk (blk_new _ _)) (by intro h; cases h) (by intro u hu; simp at hu; rcases hu with rfl | rfl <;> rfl) (by unfold maxLen; omega) (by omega) ?_; intro A' c' w1 hown' hgrow haft; have O1 := Hd.mk hown'; have G1 := Hd.mk hgrow; have F1 := Hd.mk haft; clear hown' hgrow haft)
          go_roundg (gk - 1)
          case measure => omega
          case rel =>
            refine ⟨j - 6, A', n + 1, c', P ++ [(16, 6)], by go_num, rfl, by omega, by omega, ⟨?_⟩, ⟨?_⟩, ⟨fun x hx => ?_⟩, ⟨(HF.out.alloc _).grown G1.out (fun x hx => .inr (HB.out x hx))⟩⟩
            · rw [← HP.out, sixes_step h3, show min j 6 = 6 from by omega, List.append_assoc]
              rfl
            · rw [cells_app]; exact O1.out
            · rcases F1.out with h | ⟨y, h, hy⟩
              · rw [← h] at HB; exact HB.out x hx
              · rw [h] at hx; cases hx
                have := HF.out.size
                simp at hy
                omega
        · go_wp2_with (at_builtin; refine wpList_append_sl rfl (.tmp 33) (.tmp 36) 184 rfl 188 i0 (.agg #[.int .i64 0, .int .i64 0]) 2 16 Tryz.underlying184 hi0 hz0 hz1 hz2 rfl (by decide) (.slice A n c) n _ rfl (by exact HO.out.alloc _) (some ⟨wr.heap.size, 0, none⟩) 1 1 [.int .i64 16, .int .i64 (j : Nat)] (some wr.heap.size) rfl rfl (by exact sl_of_blk (blk_new _ _)) (by intro h; cases h) (by intro u hu; simp at hu; rcases hu with rfl | rfl <;> rfl) (by unfold maxLen; omega) (by omega) ?_; intro A' c' w1 hown' hgrow haft; have O1 := Hd.mk hown'; have G1 := Hd.mk hgrow; have F1 := Hd.mk haft; clear hown' hgrow haft)
          go_roundg (gk - 1)
          case measure => omega
          case rel =>
            refine ⟨j - j, A', n + 1, c', P ++ [(16, (j : Int))], by go_num, rfl, by omega, by omega, ⟨?_⟩, ⟨?_⟩, ⟨fun x hx => ?_⟩, ⟨(HF.out.alloc _).grown G1.out (fun x hx => .inr (HB.out x hx))⟩⟩
            · rw [← HP.out, sixes_step h3, show min j 6 = j from by omega, List.append_assoc]
              rfl
            · rw [cells_app]; exact O1.out
            · rcases F1.out with h | ⟨y, h, hy⟩
              · rw [← h] at HB; exact HB.out x hx
              · rw [h] at hx; cases hx
                have := HF.out.size
                simp at hy
                omega
      · go_wp2
        go_ret
        have := HP.out
        rw [sixes_end (by omega), List.append_nil] at this
        rw [hr.out, ← this]
        exact ⟨A, n, c, rfl, HO.out, HB.out, HF.out⟩
end Go.Proofs.YtkdgfioigkijgaaGreat.Head
set_option linter.unusedVariables false
set_option linter.unusedSimpArgs false
set_option maxRecDepth 100000
namespace Go.Proofs.YtkdgfioigkijgaaGreat.Head
open Go.RowKit Go.Proofs.YtkdgfioigkijgaaGreat.Lib Go.Proofs.YtkdgfioigkijgaaGreat.Ints Go.Proofs.YtkdgfioigkijgaaGreat.Runs
def out (hi : Int) (xs : List Int) : Bool := xs.any fun x => decide (x < 0 ∨ hi < x)
theorem out_true {hi : Int} {xs : List Int} {j : Nat} (h : j < xs.length) (hx : xs[j] < 0 ∨ hi < xs[j]) : out hi xs = true := by
  simp only [out, List.any_eq_true, decide_eq_true_eq]
  exact ⟨_, List.getElem_mem h, hx⟩
theorem out_false {hi : Int} {xs : List Int} (h : ∀ i, (hi' : i < xs.length) → 0 ≤ xs[i] ∧ xs[i] ≤ hi) : out hi xs = false := by
  rw [Bool.eq_false_iff]
  intro hc
  simp only [out, List.any_eq_true, decide_eq_true_eq] at hc
  obtain ⟨x, hx, h1⟩ := hc
  obtain ⟨i, hi', rfl⟩ := List.getElem_of_mem hx
  have := h i hi'
  omega
def bad (xs : List Int) : Bool := decide (320 < xs.length) || out 15 xs
theorem sixes_sum (f k : Nat) : ((sixes f k).map fun r => r.2).sum = (sixed f k : Nat) := by
  induction f generalizing k with
  | zero => rfl
  | succ f ih =>
    simp only [sixes, sixed]
    split
    · rfl
    · rw [List.map_cons, List.sum_cons, ih]; omega
theorem rowLen_sum (v : Int) (k : Nat) : ((rowOf v k).map fun r => r.2).sum = (Runs.rowLen v k : Nat) := by
  unfold rowOf Runs.rowLen
  split
  · split
    · simp
    · split <;> simp
  · rw [List.map_cons, List.sum_cons, sixes_sum]; omega
theorem row_ne (v : Int) (k : Nat) : rowOf v k ≠ [] := by
  unfold rowOf
  split
  · split
    · simp
    · split <;> simp
  · simp
theorem row_len (v : Int) {k : Nat} (h : 1 ≤ k) : (rowOf v k).length ≤ Runs.rowLen v k := by
  have hs : ∀ f k, (sixes f k).length ≤ sixed f k := by
    intro f
    induction f with
    | zero => intro k; exact Nat.le_refl _
    | succ f ih =>
      intro k
      simp only [sixes, sixed]
      split
      · exact Nat.le_refl _
      · have := ih (k - min k 6); simp only [List.length_cons]; omega
  unfold rowOf Runs.rowLen
  split
  · split
    · simp; omega
    · split <;> simp <;> omega
  · have := hs (k - 1) (k - 1); simp only [List.length_cons]; omega
def reach (rs : List (Int × Int)) (x : Nat) : Int := ((rs.take x).map fun r => r.2).sum
theorem reach_succ {rs : List (Int × Int)} {x : Nat} (h : x < rs.length) : reach rs (x + 1) = reach rs x + (rs[x]).2 := by
  unfold reach
  rw [List.take_succ_eq_append_getElem h, List.map_append, List.sum_append]
  simp
theorem row_pos {v : Int} {k : Nat} (hk : 1 ≤ k) : ∀ r ∈ rowOf v k, 0 ≤ r.2 := by
  have hs : ∀ f k, ∀ r ∈ sixes f k, 0 ≤ r.2 := by
    intro f
    induction f with
    | zero => intro k r hr; simp [sixes] at hr
    | succ f ih =>
      intro k r hr
      simp only [sixes] at hr
      split at hr
      · simp at hr
      · rcases List.mem_cons.1 hr with rfl | h
        · exact Int.natCast_nonneg _
        · exact ih _ r h
  intro r hr
  unfold rowOf at hr
  split at hr
  · split at hr
    · simp at hr; subst hr; exact Int.natCast_nonneg _
    · split at hr
      · simp at hr; subst hr; exact Int.natCast_nonneg _
      · simp at hr; subst hr; decide
  · rcases List.mem_cons.1 hr with rfl | h
    · exact Int.le.intro_sub 1 rfl
    · exact hs _ _ r h
theorem reach_mono {rs : List (Int × Int)} (h : ∀ r ∈ rs, 0 ≤ r.2) : ∀ x, 0 ≤ reach rs x ∧ reach rs x ≤ (rs.map fun r => r.2).sum := by
  induction rs with
  | nil => intro x; simp [reach]
  | cons a t ih =>
    intro x
    have h0 := h a (by simp)
    have ht := ih (fun r hr => h r (by simp [hr]))
    cases x with
    | zero =>
      have := (ht t.length).2
      have h2 := (ht t.length).1
      simp only [reach, List.take_length] at h2
      simp only [reach, List.take_zero, List.map_nil, List.sum_nil, List.map_cons, List.sum_cons]
      omega
    | succ x =>
      have := ht x
      simp only [reach, List.take_succ_cons, List.map_cons, List.sum_cons] at this ⊢
      omega
theorem sl_of_own2 {w : World} {base : Nat} {e : TypeId} {size : Nat} {A : Option Addr} {n c : Nat} {xs : List Value} (h : w.ownsRow base e size (.slice A n c) n xs) (hn : 0 < n) : Sl w A xs (Value.slice A n c).ownBlock := by
  intro hx
  obtain ⟨g, d, e1, _⟩ := own_some h hn
  injection e1 with e1 _ e2
  subst e1 e2
  refine ⟨g, 0, rfl, rfl, fun j hj => ?_⟩
  have := h.cells (g := g) rfl j xs[j] (by simp)
  rw [List.getElem?_eq_getElem hj, ← this]
  congr 1
  unfold Addr.add
  by_cases e2 : j = 0 <;> simp [e2]
theorem alloc_cell (w : World) (o : Obj) {b j : Nat} (hb : b < w.heap.size) : (w.alloc o).cell? ⟨b, j, none⟩ = w.cell? ⟨b, j, none⟩ := World.cell?_of_block (Below.heap_alloc w o b hb)
theorem rruns_any (w : World) (A : Option Addr) (n c : Nat) (xs : List Int) (p : Option Nat) (hn : xs.length = n) (hS : Sl w A (i64s xs) p) (hn1 : n ≤ 4611686018427387904) (ec : Int) (rs : List (Int × Int)) (hec : ec = if bad xs then 80 else 0) (hrs : rs = if bad xs then [] else runs xs) :
    Calls Tryz.prog 93 #[.slice A n c] w fun e w' => ∃ A' m d, e = .returned (.tuple #[.slice A' m d, .int .i64 ec]) ∧
      w'.ownsRow 0 188 2 (.slice A' m d) m (cells rs) ∧ (∀ j, (Value.slice A' m d).ownBlock = some j → w.heap.size ≤ j) ∧ Fr w w' [] := by
  obtain ⟨i0, hi0, hz0, hz1, hz2⟩ := info_parts infoRun
  subst hn
  have HS := Hd.mk hS
  have HEC := Hd.mk hec
  have HRS := Hd.mk hrs
  clear hS hec hrs
  by_cases hbig : 320 < xs.length
  · have hc : Hd (bad xs = true) := ⟨by unfold bad; rw [decide_eq_true hbig]; rfl⟩
    go_enter Tryz.func93, Tryz.ntmps93
    go_wp2
    go_ret2
    exact ⟨none, 0, 0, by rw [HEC.out, hc.out]; rfl, by rw [HRS.out, hc.out]; exact own_nil _ _ _ _, (by intro j hj; cases hj), Fr.refl _ _⟩
  · go_enter Tryz.func93, Tryz.ntmps93
    go_wp2
    go_loopg [4] xs.length (fun kq jv wr => ∃ j : Nat, jv = .int .i64 (j : Nat) ∧ j + kq = xs.length ∧ wr = w ∧ Hd (∀ i, i < j → (h : i < xs.length) → 0 ≤ xs[i] ∧ xs[i] ≤ 15))
    case atStart => exact ⟨0, rfl, by omega, rfl, ⟨fun i h => absurd h (Nat.not_lt_zero _)⟩⟩
    case round =>
      obtain ⟨j, rfl, hj, rfl, HA⟩ := hrel
      by_cases h1 : j < xs.length
      · obtain ⟨a, o1, rfl, _, ha⟩ := HS.out (by simp [i64s]; omega)
        obtain ⟨x, hx⟩ : ∃ x, x = xs[j] := ⟨_, rfl⟩
        have ca := (ha j (by simp [i64s]; omega)).trans (by rw [i64s_get, List.getElem?_eq_getElem (by omega), ← hx])
        have HX := Hd.mk hx
        clear ha hx
        by_cases h2 : x < 0
        · have hc : Hd (bad xs = true) := ⟨by unfold bad; rw [out_true h1 (by rw [← HX.out]; exact .inl h2), Bool.or_true]⟩
          go_wp2
          go_ret2
          exact ⟨none, 0, 0, by rw [HEC.out, hc.out]; rfl, by rw [HRS.out, hc.out]; exact own_nil _ _ _ _, (by intro j hj; cases hj), Fr.refl _ _⟩
        · by_cases h3 : 15 < x
          · have hc : Hd (bad xs = true) := ⟨by unfold bad; rw [out_true h1 (by rw [← HX.out]; exact .inr h3), Bool.or_true]⟩
            go_wp2
            go_ret2
            exact ⟨none, 0, 0, by rw [HEC.out, hc.out]; rfl, by rw [HRS.out, hc.out]; exact own_nil _ _ _ _, (by intro j hj; cases hj), Fr.refl _ _⟩
          · go_wp2
            go_roundg (gk - 1)
            case measure => omega
            case rel => exact ⟨j + 1, by go_num, by omega, rfl, ⟨fun i hi h => by
              by_cases e : i = j
              · subst e; rw [← HX.out]; omega
              · exact HA.out i (by omega) h⟩⟩
      · have hc : Hd (bad xs = false) := ⟨by unfold bad; rw [out_false (fun i hi => HA.out i (by omega) hi), decide_eq_false hbig]; rfl⟩
        clear HA
        obtain ⟨wo, rfl⟩ : ∃ wo : World, wo = wr := ⟨_, rfl⟩
        go_wp2
        go_loopg [5, 6] xs.length (fun kq sv iv wr => ∃ (i : Nat) (A' : Option Addr) (m d : Nat) (P : List (Int × Int)), sv = .slice A' m d ∧ iv = .int .i64 (i : Nat) ∧ i + kq = xs.length ∧ m ≤ i ∧ Hd (P ++ runs (xs.drop i) = runs xs) ∧ Hd (wr.ownsRow 0 188 2 (.slice A' m d) m (cells P)) ∧ Hd (∀ x, (Value.slice A' m d).ownBlock = some x → wo.heap.size ≤ x) ∧ Hd (Fr wo wr []))
        case atStart => exact ⟨0, none, 0, 0, [], rfl, rfl, by omega, by omega, ⟨rfl⟩, ⟨own_nil _ _ _ _⟩, ⟨by intro x hx; cases hx⟩, ⟨Fr.refl _ _⟩⟩
        case round =>
          obtain ⟨ws, rfl⟩ : ∃ ws : World, ws = wr := ⟨_, rfl⟩
          obtain ⟨gx, rfl⟩ : ∃ gx : Nat, gx = gk := ⟨_, rfl⟩
          obtain ⟨i, A', m, d, P, rfl, rfl, hi, hmi, HP, HO, HB, HF⟩ := hrel
          by_cases h1 : i < xs.length
          · obtain ⟨a, o1, rfl, _, ha⟩ := (HS.out.frame HF.out (by simp)) (by simp [i64s]; omega)
            obtain ⟨x, hx⟩ : ∃ x, x = xs[i] := ⟨_, rfl⟩
            have ca := (ha i (by simp [i64s]; omega)).trans (by rw [i64s_get, List.getElem?_eq_getElem (by omega), ← hx])
            have HX := Hd.mk hx
            have HC := Hd.mk ha
            clear ha hx
            go_upto_block 4 with (fail)
            go_cut [8] from 40 to 57 (fun s8 wc => ∃ k : Nat, s8 = .int .i64 (k : Nat) ∧ wc = ws ∧ 1 ≤ k ∧ i + k ≤ xs.length ∧ Hd (k = lead x (xs.drop (i + 1)) + 1))
            case first =>
              go_wp2_with (fail)
              go_loopg [8] (xs.length - i) (fun kq kv wr => ∃ k : Nat, kv = .int .i64 (k : Nat) ∧ i + k + kq = xs.length + 1 ∧ 1 ≤ k ∧ i + k ≤ xs.length ∧ wr = ws ∧ Hd (∀ j, j + 1 < k → (xs.drop (i + 1))[j]? = some x))
              case atStart => exact ⟨1, rfl, by omega, by omega, by omega, rfl, ⟨fun j hj => by omega⟩⟩
              case round =>
                obtain ⟨k, rfl, hk, hk1, hk2, rfl, HE⟩ := hrel
                by_cases h2 : i + k < xs.length
                · obtain ⟨y, hy⟩ : ∃ y, y = xs[i + k] := ⟨_, rfl⟩
                  have cb := (HC.out (i + k) (by simp [i64s]; omega)).trans (by rw [i64s_get, List.getElem?_eq_getElem (by omega), ← hy])
                  have hdr : Hd ((xs.drop (i + 1))[k - 1]? = some y) := ⟨by rw [List.getElem?_drop, show i + 1 + (k - 1) = i + k from by omega, List.getElem?_eq_getElem h2, hy]⟩
                  clear hy
                  by_cases h3 : y = x
                  · subst h3
                    go_wp2
                    go_roundg (gk - 1)
                    case measure => omega
                    case rel => exact ⟨k + 1, by go_num, by omega, by omega, by omega, rfl, ⟨fun j hj => by
                      by_cases e : j + 1 = k
                      · rw [show j = k - 1 from by omega]; exact hdr.out
                      · exact HE.out j (by omega)⟩⟩
                  · have hbq : (y == x) = false := by simpa using h3
                    go_wp2
                    go_meet
                    refine ⟨k, rfl, rfl, hk1, hk2, ⟨?_⟩⟩
                    rw [lead_eq (k := k - 1) (by rw [List.length_drop]; omega) (fun j hj => HE.out j (by omega)) (fun _ e => by rw [hdr.out] at e; injection e with e; exact h3 e)]
                    omega
                · go_wp2
                  go_meet
                  refine ⟨k, rfl, rfl, hk1, hk2, ⟨?_⟩⟩
                  rw [lead_eq (k := k - 1) (by rw [List.length_drop]; omega) (fun j hj => HE.out j (by omega)) (fun h => by rw [List.length_drop] at h; omega)]
                  omega
            case rest =>
              obtain ⟨k, rfl, rfl, hk1, hk2, HK⟩ := hcut
              obtain ⟨R, hR⟩ : ∃ R, R = rowOf x k := ⟨_, rfl⟩
              obtain ⟨L, hL⟩ : ∃ L, L = Runs.rowLen x k := ⟨_, rfl⟩
              have HR := Hd.mk hR
              have HL := Hd.mk hL
              have hL1 : 1 ≤ L := by rw [hL]; exact rowLen_pos _ _
              have hLk : L ≤ k := by rw [hL]; exact rowLen_le _ hk1
              have hRL : R.length ≤ L := by rw [hR, hL]; exact row_len _ hk1
              have hM : Hd (∀ t, 0 ≤ reach R t ∧ reach R t ≤ (L : Int)) := ⟨by
                intro t
                have := reach_mono (row_pos (v := x) hk1) t
                rw [rowLen_sum, ← hL, ← hR] at this
                exact this⟩
              have hfin : Hd (reach R R.length = (L : Int)) := ⟨by unfold reach; rw [List.take_length, hR, rowLen_sum, hL]⟩
              clear hR hL ca
              go_wp2_with (fail)
              refine (row_any wc x k hk1 (by omega)).mono ?_
              rintro e w2 ⟨B, n2, c2, rfl, g1, g2, g3⟩
              rw [← HR.out] at g1
              have hn2 : n2 = R.length := by have := g1.1; rw [cells_len] at this; omega
              subst hn2
              have HO2 := Hd.mk (own_frame HO.out g3 (by simp))
              have HF2 := Hd.mk (HF.out.trans g3 (by simp))
              have HRB := Hd.mk g1
              have HRN := Hd.mk g2
              have hold : Hd (∀ y, (Value.slice A' m d).ownBlock = some y → y < wc.heap.size) := ⟨fun y hy => own_lt HO.out hy⟩
              have hws := HF.out.size
              have hw2 := g3.size
              clear g1 g2 g3
              have hR0 : Hd (0 < R.length) := ⟨by rw [HR.out]; exact List.length_pos_iff.2 (row_ne _ _)⟩
              go_wp2
              go_loopg [5, 6, 10] R.length (fun kq sv iv tv wr => ∃ (t i2 m2 : Nat) (A2 : Option Addr) (d2 : Nat), sv = .slice A2 m2 d2 ∧ iv = .int .i64 (i2 : Nat) ∧ tv = .int .i64 (t : Nat) ∧ t + kq = R.length ∧ m2 = m + t ∧ i2 ≤ i + L ∧ Hd ((i2 : Int) = i + reach R t) ∧
                Hd (wr.ownsRow 0 188 2 (.slice A2 m2 d2) m2 (cells (P ++ R.take t))) ∧ Hd (∀ y, (Value.slice A2 m2 d2).ownBlock = some y → (Value.slice A' m d).ownBlock = some y ∨ w2.heap.size ≤ y) ∧ Hd (Fr w2 wr (Value.slice A' m d).ownBlock.toList))
              case atStart => exact ⟨0, i, m, A', d, rfl, rfl, rfl, by omega, by omega, by omega, ⟨by simp [reach]⟩, ⟨by simpa using HO2.out⟩, ⟨fun y hy => .inl hy⟩, ⟨Fr.refl _ _⟩⟩
              case round =>
                obtain ⟨t, i2, m2, A2, d2, rfl, rfl, rfl, ht, hm2, hi2, HI, HO3, HB3, HF3⟩ := hrel
                by_cases h4 : t < R.length
                · have hrow : Sl wr B (cells R) (Value.slice B R.length c2).ownBlock := (sl_of_own2 HRB.out hR0.out).frame HF3.out (fun y hy hm => by
                    have := HRN.out y hy
                    have := hold.out y (by simpa using hm)
                    omega)
                  obtain ⟨b, off, rfl, hqb, hcl⟩ := Sl.row (enc := enc) (sz := 2) (fun _ => rfl) hrow h4 (by decide)
                  obtain ⟨r, hr⟩ : ∃ r, r = R[t] := ⟨_, rfl⟩
                  rw [← hr] at hcl
                  have c0 := hcl 0 (by decide)
                  have c1 := hcl 1 (by decide)
                  obtain ⟨ra, rb⟩ := r
                  simp only [enc, List.getElem?_cons_zero, List.getElem?_cons_succ, Nat.add_zero] at c0 c1
                  have hsum := reach_succ h4
                  have hm1 := hM.out (t + 1)
                  have hm0 := hM.out t
                  rw [← hr] at hsum
                  simp only at hsum
                  have hi3 := HI.out
                  have hrb0 : 0 ≤ rb := by have := row_pos (v := x) hk1 (ra, rb) (by rw [← HR.out, hr]; exact List.getElem_mem h4); exact this
                  obtain ⟨rb, rfl⟩ := Int.eq_ofNat_of_zero_le hrb0
                  have hb3 : i2 + rb ≤ i + L := by omega
                  have Hsum := Hd.mk hsum
                  have Hr := Hd.mk hr
                  have hbl : b < wr.heap.size := World.block_lt_of_cell? wr _ c0
                  have hbn : Hd (some b ≠ (Value.slice A2 m2 d2).ownBlock) := ⟨fun e => by
                    have h5 := HRN.out b hqb
                    have h6 := own_lt HRB.out hqb
                    rcases HB3.out b e.symm with h | h
                    · have := hold.out b h; omega
                    · omega⟩
                  have HC1 := Hd.mk c1
                  clear hrow hcl hr hsum hm1 hm0 hi3 hrb0 hqb
                  go_wp2_with (at_builtin; refine wpList_append_sl rfl (.tmp 67) (.tmp 72) 184 rfl 188 i0 (.agg #[.int .i64 0, .int .i64 0]) 2 16 Tryz.underlying184 hi0 hz0 hz1 hz2 rfl (by decide) (.slice A2 m2 d2) m2 _ rfl (by exact HO3.out.alloc _) (some ⟨wr.heap.size, 0, none⟩) 1 1 [.int .i64 ra, .int .i64 (rb : Nat)] (some wr.heap.size) rfl rfl (by exact sl_of_blk (blk_new _ _)) (by intro h; cases h) (by intro u hu; simp at hu; rcases hu with rfl | rfl <;> rfl) (by unfold maxLen; omega) (by omega) ?_; intro A3 d3 w3 hown' hgrow haft; have O3 := Hd.mk hown'; have G3 := Hd.mk hgrow; have F3 := Hd.mk haft; have k1 := (hgrow.cell_far ⟨b, off + t * 2 + 1, none⟩ (by simp; omega) hbn.out).trans ((alloc_cell wr _ hbl).trans HC1.out); clear hown' hgrow haft)
                  go_roundg (gk - 1)
                  case measure => omega
                  case rel =>
                    refine ⟨t + 1, i2 + rb, m2 + 1, A3, d3, by subst hm2; rfl, by go_num, by go_num, by omega, by omega, hb3, ⟨?_⟩, ⟨?_⟩, ⟨fun y hy => ?_⟩, ⟨(HF3.out.alloc _).grown G3.out (fun y hy => ?_)⟩⟩
                    · have := HI.out; have := Hsum.out; omega
                    · have := O3.out
                      rw [List.take_succ_eq_append_getElem h4, ← Hr.out, ← List.append_assoc, cells_app (P ++ R.take t)]
                      exact this
                    · rcases F3.out with h | ⟨z, h, hz⟩
                      · rw [← h] at HB3; exact HB3.out y hy
                      · rw [h] at hy; cases hy
                        have := HF3.out.size
                        simp at hz
                        exact .inr (by omega)
                    · rcases HB3.out y hy with h | h
                      · exact .inl (by simp [h])
                      · exact .inr h
                · obtain rfl : t = R.length := by omega
                  have hi4 : i2 = i + L := by have := HI.out; have := hfin.out; omega
                  subst hi4
                  go_wp2
                  go_roundg (gx - L)
                  case measure => omega
                  case rel =>
                    refine ⟨i + L, A2, m2, d2, P ++ R, rfl, by go_num, by omega, by omega, ⟨?_⟩, ⟨?_⟩, ⟨fun y hy => ?_⟩, ⟨HF2.out.trans HF3.out (fun y hy hm => ?_)⟩⟩
                    · rw [← HP.out, List.append_assoc, List.drop_eq_getElem_cons h1, ← HX.out, runs_cons, ← HK.out, ← HR.out, ← HL.out]
                      congr 2
                      rw [HX.out, ← List.drop_eq_getElem_cons h1, List.drop_drop]
                    · have := HO3.out
                      rw [List.take_length] at this
                      exact this
                    · rcases HB3.out y hy with h | h
                      · exact HB.out y h
                      · omega
                    · have := HB.out y (by simpa using hm); omega
          · obtain rfl : i = xs.length := by omega
            have hp := HP.out
            rw [List.drop_length, runs_nil, List.append_nil] at hp
            have hrs2 : Hd (rs = P) := ⟨by rw [HRS.out, hc.out, hp]; rfl⟩
            have hec2 : Hd (ec = 0) := ⟨by rw [HEC.out, hc.out]; rfl⟩
            go_wp2
            go_ret2
            rw [hrs2.out, hec2.out]
            exact ⟨A', m, d, rfl, HO.out, HB.out, HF.out⟩
end Go.Proofs.YtkdgfioigkijgaaGreat.Head
set_option linter.unusedVariables false
set_option linter.unusedSimpArgs false
set_option maxRecDepth 100000
namespace Go.Proofs.YtkdgfioigkijgaaGreat.Head
open Go.RowKit Go.Proofs.YtkdgfioigkijgaaGreat.Lib Go.Proofs.YtkdgfioigkijgaaGreat.Ints Go.Proofs.YtkdgfioigkijgaaGreat.Runs
theorem infoRunA : (Tryz.prog.info? 297).map (fun i => (i.zero, i.size, i.bytes)) = some (some (.agg #[.int .i64 0, .int .i64 0]), 2, 16) := by kernel_rfl
theorem kf (a b c : Int) (w : World) : (Instr.field 311 (.agg #[.int .i64 a, .int .i64 b, .int .i64 c]) 1).run Tryz.prog w = .ok (.int .i64 b) w ∧ (Instr.field 311 (.agg #[.int .i64 a, .int .i64 b, .int .i64 c]) 2).run Tryz.prog w = .ok (.int .i64 c) w := ⟨by kernel_rfl, by kernel_rfl⟩
theorem own_new {wo w : World} {q q' : Option Nat} (hB : ∀ x, q = some x → wo.heap.size ≤ x) (hs : wo.heap.size ≤ w.heap.size) {o : Obj} (h : Aft (w.alloc o) q q') : ∀ y, q' = some y → wo.heap.size ≤ y := by
  intro y hy
  rcases h with e | ⟨z, e, hz⟩
  · rw [e] at hy; exact hB y hy
  · rw [e] at hy; cases hy; simp at hz; omega
set_option maxHeartbeats 8000000 in
theorem runs_any (w : World) (A : Option Addr) (n c : Nat) (xs : List Int) (p : Option Nat) (hn : xs.length = n) (hnc : n ≤ c) (hS : Sl w A (i64s xs) p) (hA : A = none → n = 0 ∧ c = 0) (hn1 : n ≤ 4611686018427387904) (ec : Int) (rs : List (Int × Int)) (hec : ec = if bad xs then 80 else 0) (hrs : rs = if bad xs then [] else runs xs) :
    Calls Tryz.prog 194 #[.slice A n c] w fun e w' => ∃ A' m d, e = .returned (.tuple #[.slice A' m d, .int .i64 ec]) ∧
      w'.ownsRow 0 297 2 (.slice A' m d) m (cells rs) ∧ (∀ j, (Value.slice A' m d).ownBlock = some j → w.heap.size ≤ j) ∧ Fr w w' [] := by
  obtain ⟨i0, hi0, hz0, hz1, hz2⟩ := info_parts infoRunA
  obtain ⟨j0, hj0, hj1, hj2, hj3⟩ := info_parts infoI64
  subst hn
  have HS := Hd.mk hS
  have HA0 := Hd.mk hA
  have HEC := Hd.mk hec
  have HRS := Hd.mk hrs
  clear hS hA hec hrs
  by_cases hbig : 320 < xs.length
  · have hc : Hd (bad xs = true) := ⟨by unfold bad; rw [decide_eq_true hbig]; rfl⟩
    go_enter Tryz.func194, Tryz.ntmps194
    go_wp2
    go_ret2
    exact ⟨none, 0, 0, by rw [HEC.out, hc.out]; rfl, by rw [HRS.out, hc.out]; exact own_nil _ _ _ _, (by intro j hj; cases hj), Fr.refl _ _⟩
  · go_enter Tryz.func194, Tryz.ntmps194
    go_wp2
    go_loopg [14] xs.length (fun kq jv wr => ∃ j : Nat, jv = .int .i64 (j : Nat) ∧ j + kq = xs.length ∧ wr = w ∧ Hd (∀ i, i < j → (h : i < xs.length) → 0 ≤ xs[i] ∧ xs[i] ≤ 15))
    case atStart => exact ⟨0, rfl, by omega, rfl, ⟨fun i h => absurd h (Nat.not_lt_zero _)⟩⟩
    case round =>
      obtain ⟨j, rfl, hj, rfl, HA⟩ := hrel
      by_cases h1 : j < xs.length
      · obtain ⟨a, o1, rfl, _, ha⟩ := HS.out (by simp [i64s]; omega)
        obtain ⟨x, hx⟩ : ∃ x, x = xs[j] := ⟨_, rfl⟩
        have ca := (ha j (by simp [i64s]; omega)).trans (by rw [i64s_get, List.getElem?_eq_getElem (by omega), ← hx])
        have HX := Hd.mk hx
        clear ha hx
        by_cases h2 : x < 0
        · have hc : Hd (bad xs = true) := ⟨by unfold bad; rw [out_true h1 (by rw [← HX.out]; exact .inl h2), Bool.or_true]⟩
          go_wp2
          go_ret2
          exact ⟨none, 0, 0, by rw [HEC.out, hc.out]; rfl, by rw [HRS.out, hc.out]; exact own_nil _ _ _ _, (by intro j hj; cases hj), Fr.refl _ _⟩
        · by_cases h3 : 15 < x
          · have hc : Hd (bad xs = true) := ⟨by unfold bad; rw [out_true h1 (by rw [← HX.out]; exact .inr h3), Bool.or_true]⟩
            go_wp2
            go_ret2
            exact ⟨none, 0, 0, by rw [HEC.out, hc.out]; rfl, by rw [HRS.out, hc.out]; exact own_nil _ _ _ _, (by intro j hj; cases hj), Fr.refl _ _⟩
          · go_wp2
            go_roundg (gk - 1)
            case measure => omega
            case rel => exact ⟨j + 1, by go_num, by omega, rfl, ⟨fun i hi h => by
              by_cases e : i = j
              · subst e; rw [← HX.out]; omega
              · exact HA.out i (by omega) h⟩⟩
      · have hc : Hd (bad xs = false) := ⟨by unfold bad; rw [out_false (fun i hi => HA.out i (by omega) hi), decide_eq_false hbig]; rfl⟩
        clear HA
        obtain ⟨wo, rfl⟩ : ∃ wo : World, wo = wr := ⟨_, rfl⟩
        go_wp2
        go_loopg [0, 6] xs.length (fun kq lv sv wr => ∃ (ys : List Int) (A1 : Option Addr) (c1 : Nat) (A' : Option Addr) (m d : Nat) (P : List (Int × Int)), lv = .slice A1 ys.length c1 ∧ sv = .slice A' m d ∧ ys.length = kq ∧ ys.length ≤ c1 ∧ m + ys.length ≤ xs.length ∧ Hd (Sl wo A1 (i64s ys) p) ∧ Hd (A1 = none → ys.length = 0 ∧ c1 = 0) ∧
          Hd (P ++ runs ys = runs xs) ∧ Hd (wr.ownsRow 0 297 2 (.slice A' m d) m (cells P)) ∧ Hd (∀ x, (Value.slice A' m d).ownBlock = some x → wo.heap.size ≤ x) ∧ Hd (Fr wo wr []))
        case atStart => exact ⟨xs, A, c, none, 0, 0, [], rfl, rfl, rfl, hnc, by omega, HS, HA0, ⟨rfl⟩, ⟨own_nil _ _ _ _⟩, ⟨by intro x hx; cases hx⟩, ⟨Fr.refl _ _⟩⟩
        case round =>
          obtain ⟨ws, rfl⟩ : ∃ ws : World, ws = wr := ⟨_, rfl⟩
          obtain ⟨gx, rfl⟩ : ∃ gx : Nat, gx = gk := ⟨_, rfl⟩
          obtain ⟨ys, A1, c1, A', m, d, P, rfl, rfl, hi, hyc, hmi, HY, HYA, HP, HO, HB, HF⟩ := hrel
          cases ys with
          | nil =>
            have hp := HP.out
            rw [runs_nil, List.append_nil] at hp
            have hrs2 : Hd (rs = P) := ⟨by rw [HRS.out, hc.out, hp]; rfl⟩
            have hec2 : Hd (ec = 0) := ⟨by rw [HEC.out, hc.out]; rfl⟩
            simp only [List.length_nil]
            go_wp2
            go_ret2
            rw [hrs2.out, hec2.out]
            exact ⟨A', m, d, rfl, HO.out, HB.out, HF.out⟩
          | cons x t =>
            obtain ⟨a, o1, rfl, _, ha⟩ := (HY.out.frame HF.out (by simp)) (by simp [i64s])
            have c0 := ha 0 (by simp [i64s])
            simp only [i64s, List.map_cons, List.getElem?_cons_zero, Nat.add_zero] at c0
            have HC := Hd.mk ha
            obtain ⟨ny, hny⟩ : ∃ ny, ny = (x :: t).length := ⟨_, rfl⟩
            have hny1 : 1 ≤ ny := by rw [hny]; simp
            rw [← hny] at hi hyc hmi ⊢
            have HNY := Hd.mk hny
            have HI := Hd.mk hi
            clear ha hny hi
            have hI2 : (0 : Int) < (ny : Int) := by omega
            have hdd0 : decide (0 < ny) = true := decide_eq_true (by omega)
            go_upto_block 4 with (fail)
            go_cut [7] from 28 to 43 (fun s7 wc => ∃ k : Nat, s7 = .int .i64 (k : Nat) ∧ Hd (Fr ws wc []) ∧ 1 ≤ k ∧ k ≤ ny ∧ Hd (k = lead x t + 1))
            case first =>
              go_wp2_with (fail)
              go_loopg [7] ny (fun kq kv wr => ∃ k : Nat, kv = .int .i64 (k : Nat) ∧ k + kq = ny + 1 ∧ 1 ≤ k ∧ k ≤ ny ∧ Hd (Fr ws wr []) ∧ Hd (∀ j, j + 1 < k → t[j]? = some x))
              case atStart => exact ⟨1, rfl, by omega, by omega, by omega, ⟨Fr.refl _ _⟩, ⟨fun j hj => by omega⟩⟩
              case round =>
                obtain ⟨k, rfl, hk, hk1, hk2, HFk, HE⟩ := hrel
                obtain ⟨a2, o2, e2, _, hb⟩ := (HY.out.frame (HF.out.trans HFk.out (by simp)) (by simp)) (by simp [i64s])
                injection e2 with e2
                injection e2 with e2 e3
                subst e2 e3
                have d0 := hb 0 (by simp [i64s])
                simp only [i64s, List.map_cons, List.getElem?_cons_zero, Nat.add_zero] at d0
                by_cases h2 : k < ny
                · have hlt : k - 1 < t.length := by have := HNY.out; simp at this; omega
                  obtain ⟨y, hy⟩ : ∃ y, y = t[k - 1] := ⟨_, rfl⟩
                  have hdr : Hd (t[k - 1]? = some y) := ⟨by rw [List.getElem?_eq_getElem hlt, hy]⟩
                  have cb := (hb k (by have := HNY.out; simp [i64s] at this ⊢; omega)).trans (show _ = some (Value.int .i64 y) from by
                    rw [i64s_get, show k = (k - 1) + 1 from by omega, List.getElem?_cons_succ, hdr.out]; rfl)
                  clear hb hy hlt
                  have hI1 : (k : Int) < (ny : Int) := by omega
                  have hdd : decide (k < ny) = true := decide_eq_true h2
                  by_cases h3 : y = x
                  · subst h3
                    go_wp2
                    go_quiet (fail)
                    go_wp2
                    go_roundg (gk - 1)
                    case measure => omega
                    case rel => exact ⟨k + 1, by go_num, by omega, by omega, by omega, ⟨HFk.out.drewN _⟩, ⟨fun j hj => by
                      by_cases e : j + 1 = k
                      · rw [show j = k - 1 from by omega]; exact hdr.out
                      · exact HE.out j (by omega)⟩⟩
                  · have hbq : (y == x) = false := by simpa using h3
                    go_wp2
                    go_quiet (fail)
                    go_wp2
                    go_meet
                    refine ⟨k, rfl, ⟨HFk.out.drewN _⟩, hk1, hk2, ⟨?_⟩⟩
                    rw [lead_eq (k := k - 1) (by have := HNY.out; simp at this; omega) (fun j hj => HE.out j (by omega)) (fun _ e => by rw [hdr.out] at e; injection e with e; exact h3 e)]
                    omega
                · have hd2 : decide (k < ny) = false := decide_eq_false h2
                  clear hb
                  go_wp2
                  go_quiet (fail)
                  go_wp2
                  go_meet
                  refine ⟨k, rfl, ⟨HFk.out.drewN _⟩, hk1, hk2, ⟨?_⟩⟩
                  rw [lead_eq (k := k - 1) (by have := HNY.out; simp at this; omega) (fun j hj => HE.out j (by omega)) (fun h => by have := HNY.out; simp at this; omega)]
                  omega
            case rest =>
              obtain ⟨k, rfl, HFk, hk1, hk2, HK⟩ := hcut
              obtain ⟨R, hR⟩ : ∃ R, R = rowOf x k := ⟨_, rfl⟩
              obtain ⟨L, hL⟩ : ∃ L, L = Runs.rowLen x k := ⟨_, rfl⟩
              have HR := Hd.mk hR
              have HL := Hd.mk hL
              have hL1 : 1 ≤ L := by rw [hL]; exact rowLen_pos _ _
              have hLk : L ≤ k := by rw [hL]; exact rowLen_le _ hk1
              clear hR hL c0
              have HFc := Hd.mk (HF.out.trans HFk.out (by simp) : Fr wo wc [])
              obtain ⟨a2, o2, e2, _, hb⟩ := (HY.out.frame HFc.out (by simp)) (by simp [i64s])
              injection e2 with e2
              injection e2 with e2 e3
              subst e2 e3
              have d0 := hb 0 (by simp [i64s])
              simp only [i64s, List.map_cons, List.getElem?_cons_zero, Nat.add_zero] at d0
              clear hb
              have HOc := Hd.mk (own_frame HO.out HFk.out (by simp))
              by_cases hx0 : x = 0
              · subst hx0
                have f181 := fun w => (kf 7 11 138 w).1
                have f182 := fun w => (kf 7 11 138 w).2
                have f171 := fun w => (kf 3 3 10 w).1
                go_upto_block 6 with (fail)
                go_cut [6, 7] from 48 to 76 (fun s6 s7 wd => ∃ (A2 : Option Addr) (d2 : Nat), s6 = .slice A2 (m + 1) d2 ∧ s7 = .int .i64 (L : Nat) ∧ Hd (wd.ownsRow 0 297 2 (.slice A2 (m + 1) d2) (m + 1) (cells (P ++ R))) ∧ Hd (∀ y, (Value.slice A2 (m + 1) d2).ownBlock = some y → wo.heap.size ≤ y) ∧ Hd (Fr wo wd []))
                case first =>
                  by_cases h11 : 11 ≤ k
                  · have hr : Hd (R = [(18, ((min k 138 : Nat) : Int))]) := ⟨by rw [HR.out]; unfold rowOf; rw [if_pos rfl, if_pos h11]⟩
                    have hl : L = min k 138 := by rw [HL.out]; unfold Runs.rowLen; rw [if_pos rfl, if_pos h11]
                    go_wp2_with (fail)
                    refine (kinds_18 wc).mono ?_
                    rintro e w2 ⟨rfl, g1⟩
                    have G2 := Hd.mk g1
                    clear g1
                    go_wp2_with (fail)
                    refine (kinds_18 w2).mono ?_
                    rintro e w4 ⟨rfl, g1⟩
                    have HF4 := Hd.mk ((HFc.out.trans G2.out (by simp)).trans g1 (by simp))
                    have HO4 := Hd.mk (own_frame (own_frame HOc.out G2.out (by simp)) g1 (by simp))
                    clear g1
                    by_cases h138 : 138 < k
                    · obtain rfl : L = 138 := by omega
                      have hr2 : Hd (R = [(18, 138)]) := ⟨by rw [hr.out, show min k 138 = 138 from by omega]; rfl⟩
                      clear hl
                      go_wp2_with (at_builtin; refine wpList_append_sl rfl (.tmp 61) (.tmp 64) 305 rfl 297 i0 (.agg #[.int .i64 0, .int .i64 0]) 2 16 Tryz.underlying305 hi0 hz0 hz1 hz2 rfl (by decide) (.slice A' m d) m _ rfl (by exact HO4.out.alloc _) (some ⟨w4.heap.size, 0, none⟩) 1 1 [.int .i64 18, .int .i64 138] (some w4.heap.size) rfl rfl (by exact sl_of_blk (blk_new _ _)) (by intro h; cases h) (by intro u hu; simp at hu; rcases hu with rfl | rfl <;> rfl) (by unfold maxLen; omega) (by omega) ?_; intro A3 d3 w3 hown' hgrow haft; have O3 := Hd.mk hown'; have G3 := Hd.mk hgrow; have F3 := Hd.mk haft; clear hown' hgrow haft)
                      go_meet
                      exact ⟨A3, d3, rfl, rfl, ⟨by rw [hr2.out, cells_app]; exact O3.out⟩, ⟨own_new HB.out HF4.out.size F3.out⟩, ⟨(HF4.out.alloc _).grown G3.out (fun y hy => .inr (HB.out y hy))⟩⟩
                    · obtain rfl : L = k := by omega
                      have hr2 : Hd (R = [(18, (L : Int))]) := ⟨by rw [hr.out, show min L 138 = L from by omega]⟩
                      clear hl
                      go_wp2_with (at_builtin; refine wpList_append_sl rfl (.tmp 61) (.tmp 64) 305 rfl 297 i0 (.agg #[.int .i64 0, .int .i64 0]) 2 16 Tryz.underlying305 hi0 hz0 hz1 hz2 rfl (by decide) (.slice A' m d) m _ rfl (by exact HO4.out.alloc _) (some ⟨w4.heap.size, 0, none⟩) 1 1 [.int .i64 18, .int .i64 (L : Nat)] (some w4.heap.size) rfl rfl (by exact sl_of_blk (blk_new _ _)) (by intro h; cases h) (by intro u hu; simp at hu; rcases hu with rfl | rfl <;> rfl) (by unfold maxLen; omega) (by omega) ?_; intro A3 d3 w3 hown' hgrow haft; have O3 := Hd.mk hown'; have G3 := Hd.mk hgrow; have F3 := Hd.mk haft; clear hown' hgrow haft)
                      go_meet
                      exact ⟨A3, d3, rfl, rfl, ⟨by rw [hr2.out, cells_app]; exact O3.out⟩, ⟨own_new HB.out HF4.out.size F3.out⟩, ⟨(HF4.out.alloc _).grown G3.out (fun y hy => .inr (HB.out y hy))⟩⟩
                  · by_cases h3 : 3 ≤ k
                    · have hr : Hd (R = [(17, (k : Int))]) := ⟨by rw [HR.out]; unfold rowOf; rw [if_pos rfl, if_neg h11, if_pos h3]⟩
                      obtain rfl : L = k := by rw [HL.out]; unfold Runs.rowLen; rw [if_pos rfl, if_neg h11, if_pos h3]
                      go_wp2_with (fail)
                      refine (kinds_18 wc).mono ?_
                      rintro e w2 ⟨rfl, g1⟩
                      have G2 := Hd.mk g1
                      clear g1
                      go_wp2_with (fail)
                      refine (kinds_17 w2).mono ?_
                      rintro e w4 ⟨rfl, g1⟩
                      have HF4 := Hd.mk ((HFc.out.trans G2.out (by simp)).trans g1 (by simp))
                      have HO4 := Hd.mk (own_frame (own_frame HOc.out G2.out (by simp)) g1 (by simp))
                      clear g1
                      go_wp2_with (at_builtin; refine wpList_append_sl rfl (.tmp 71) (.tmp 74) 305 rfl 297 i0 (.agg #[.int .i64 0, .int .i64 0]) 2 16 Tryz.underlying305 hi0 hz0 hz1 hz2 rfl (by decide) (.slice A' m d) m _ rfl (by exact HO4.out.alloc _) (some ⟨w4.heap.size, 0, none⟩) 1 1 [.int .i64 17, .int .i64 (L : Nat)] (some w4.heap.size) rfl rfl (by exact sl_of_blk (blk_new _ _)) (by intro h; cases h) (by intro u hu; simp at hu; rcases hu with rfl | rfl <;> rfl) (by unfold maxLen; omega) (by omega) ?_; intro A3 d3 w3 hown' hgrow haft; have O3 := Hd.mk hown'; have G3 := Hd.mk hgrow; have F3 := Hd.mk haft; clear hown' hgrow haft)
                      go_meet
                      exact ⟨A3, d3, rfl, rfl, ⟨by rw [hr.out, cells_app]; exact O3.out⟩, ⟨own_new HB.out HF4.out.size F3.out⟩, ⟨(HF4.out.alloc _).grown G3.out (fun y hy => .inr (HB.out y hy))⟩⟩
                    · have hr : Hd (R = [(0, 1)]) := ⟨by rw [HR.out]; unfold rowOf; rw [if_pos rfl, if_neg h11, if_neg h3]⟩
                      obtain rfl : L = 1 := by rw [HL.out]; unfold Runs.rowLen; rw [if_pos rfl, if_neg h11, if_neg h3]
                      go_wp2_with (fail)
                      refine (kinds_18 wc).mono ?_
                      rintro e w2 ⟨rfl, g1⟩
                      have G2 := Hd.mk g1
                      clear g1
                      go_wp2_with (fail)
                      refine (kinds_17 w2).mono ?_
                      rintro e w4 ⟨rfl, g1⟩
                      have HF4 := Hd.mk ((HFc.out.trans G2.out (by simp)).trans g1 (by simp))
                      have HO4 := Hd.mk (own_frame (own_frame HOc.out G2.out (by simp)) g1 (by simp))
                      clear g1
                      go_wp2_with (at_builtin; refine wpList_append_sl rfl (.tmp 48) (.tmp 50) 305 rfl 297 i0 (.agg #[.int .i64 0, .int .i64 0]) 2 16 Tryz.underlying305 hi0 hz0 hz1 hz2 rfl (by decide) (.slice A' m d) m _ rfl (by exact HO4.out.alloc _) (some ⟨w4.heap.size, 0, none⟩) 1 1 [.int .i64 0, .int .i64 1] (some w4.heap.size) rfl rfl (by exact sl_of_blk (blk_new _ _)) (by intro h; cases h) (by intro u hu; simp at hu; rcases hu with rfl | rfl <;> rfl) (by unfold maxLen; omega) (by omega) ?_; intro A3 d3 w3 hown' hgrow haft; have O3 := Hd.mk hown'; have G3 := Hd.mk hgrow; have F3 := Hd.mk haft; clear hown' hgrow haft)
                      go_meet
                      exact ⟨A3, d3, rfl, rfl, ⟨by rw [hr.out, cells_app]; exact O3.out⟩, ⟨own_new HB.out HF4.out.size F3.out⟩, ⟨(HF4.out.alloc _).grown G3.out (fun y hy => .inr (HB.out y hy))⟩⟩
                case rest =>
                  obtain ⟨A2, d2, rfl, rfl, HO2, HB2, HF2⟩ := hcut
                  have hcutl := run_cut_from (P := Tryz.prog) 79 3 .i64 Tryz.underlying79 hj0 1 hj2 (some ⟨a, o1, none⟩) ny c1 L (by omega)
                  go_wp2
                  go_roundg (gx - L)
                  case measure => have := HI.out; omega
                  case rel =>
                    refine ⟨((0 : Int) :: t).drop L, cutA (some ⟨a, o1, none⟩) c1 L 1, c1 - L, A2, m + 1, d2, P ++ R, by rw [List.length_drop, ← HNY.out], rfl, by rw [List.length_drop, ← HNY.out, HI.out], by rw [List.length_drop, ← HNY.out]; omega, by rw [List.length_drop, ← HNY.out]; omega, ⟨?_⟩, ⟨?_⟩, ⟨?_⟩, HO2, HB2, HF2⟩
                    · have := HY.out.cut (k := L) (c := c1) (n := ny) (by rw [HNY.out]; simp [i64s]) (by omega) (by omega)
                      simpa [i64s, List.map_drop] using this
                    · intro h
                      rw [List.length_drop, ← HNY.out]
                      exact cutA_none (n := ny) (fun h => by cases h) h
                    · rw [← HP.out, List.append_assoc, runs_cons, ← HK.out, ← HR.out, ← HL.out]
              · have hxb : (x == 0) = false := by simpa using hx0
                have hr : Hd (R = (x, 1) :: sixes (k - 1) (k - 1)) := ⟨by rw [HR.out]; unfold rowOf; rw [if_neg hx0]⟩
                have hl : Hd (L = 1 + sixed (k - 1) (k - 1)) := ⟨by rw [HL.out]; unfold Runs.rowLen; rw [if_neg hx0]⟩
                obtain ⟨A5, hA5⟩ : ∃ A5, A5 = cutA (some ⟨a, o1, none⟩) c1 1 1 := ⟨_, rfl⟩
                have hcutl : ∀ W : World, (Instr.slice 79 (.slice (some ⟨a, o1, none⟩) ny c1) (some (.int .i64 1)) none none).run Tryz.prog W = .ok (.slice A5 (ny - 1) (c1 - 1)) W := by
                  rw [hA5]
                  exact run_cut_from (P := Tryz.prog) 79 3 .i64 Tryz.underlying79 hj0 1 hj2 (some ⟨a, o1, none⟩) ny c1 1 (by omega)
                have HY5 : Hd (Sl wo A5 (i64s ((x :: t).drop 1)) p) := ⟨by
                  have := HY.out.cut (k := 1) (c := c1) (n := ny) (by rw [HNY.out]; simp [i64s]) (by omega) (by omega)
                  rw [hA5]
                  simpa [i64s, List.map_drop] using this⟩
                have HN5 : Hd (A5 = none → ny - 1 = 0 ∧ c1 - 1 = 0) := ⟨fun h => cutA_none (fun h => by cases h) (hA5 ▸ h)⟩
                clear hA5
                go_wp2_with (at_builtin; refine wpList_append_sl rfl (.tmp 79) (.tmp 84) 305 rfl 297 i0 (.agg #[.int .i64 0, .int .i64 0]) 2 16 Tryz.underlying305 hi0 hz0 hz1 hz2 rfl (by decide) (.slice A' m d) m _ rfl (by exact HOc.out.alloc _) (some ⟨wc.heap.size, 0, none⟩) 1 1 [.int .i64 x, .int .i64 1] (some wc.heap.size) rfl rfl (by exact sl_of_blk (blk_new _ _)) (by intro h; cases h) (by intro u hu; simp at hu; rcases hu with rfl | rfl <;> rfl) (by unfold maxLen; omega) (by omega) ?_; intro A3 d3 w3 hown' hgrow haft; have O3 := Hd.mk hown'; have G3 := Hd.mk hgrow; have F3 := Hd.mk haft; clear hown' hgrow haft)
                have f161 := fun w => (kf 2 3 6 w).1
                have f162 := fun w => (kf 2 3 6 w).2
                have HF3 : Hd (Fr wo w3 []) := ⟨(HFc.out.alloc _).grown G3.out (fun y hy => .inr (HB.out y hy))⟩
                have HB3 : Hd (∀ y, (Value.slice A3 (m + 1) d3).ownBlock = some y → wo.heap.size ≤ y) := ⟨own_new HB.out HFc.out.size F3.out⟩
                go_loopg [0, 6, 7] k (fun kq lv sv kv wr => ∃ (D j : Nat) (A6 : Option Addr) (n6 c6 : Nat) (A7 : Option Addr) (m7 d7 : Nat) (P7 : List (Int × Int)), lv = .slice A6 n6 c6 ∧ sv = .slice A7 m7 d7 ∧ kv = .int .i64 (j : Nat) ∧ j + 1 ≤ kq ∧ D + j = k ∧ n6 + D = ny ∧ c6 + D = c1 ∧ m7 ≤ m + D ∧ Hd (D + sixed j j = L) ∧ Hd (P7 ++ sixes j j = P ++ R) ∧ Hd (Sl wo A6 (i64s ((x :: t).drop D)) p) ∧ Hd (A6 = none → n6 = 0 ∧ c6 = 0) ∧
                  Hd (wr.ownsRow 0 297 2 (.slice A7 m7 d7) m7 (cells P7)) ∧ Hd (∀ y, (Value.slice A7 m7 d7).ownBlock = some y → wo.heap.size ≤ y) ∧ Hd (Fr wo wr []))
                case atStart => exact ⟨1, k - 1, A5, ny - 1, c1 - 1, A3, m + 1, d3, P ++ [(x, 1)], rfl, rfl, by go_num, by omega, by omega, by omega, by omega, by omega, ⟨hl.out.symm⟩, ⟨by rw [hr.out, List.append_assoc]; rfl⟩, HY5, HN5, ⟨by rw [cells_app]; exact O3.out⟩, HB3, HF3⟩
                case round =>
                  clear HF3 HB3 O3 G3 F3 HY5 HN5 HOc HFc d0 hcutl
                  obtain ⟨D, j, A6, n6, c6, A7, m7, d7, P7, rfl, rfl, rfl, hjk, hDk, hn6, hc6, hm7, HL7, HP7, HY6, HN6, HO7, HB7, HF7⟩ := hrel
                  by_cases h3 : 3 ≤ j
                  · go_wp2_with (fail)
                    refine (kinds_16 wr).mono ?_
                    rintro e w2 ⟨rfl, g1⟩
                    have G2 := Hd.mk g1
                    clear g1
                    go_wp2_with (fail)
                    refine (kinds_16 w2).mono ?_
                    rintro e w8 ⟨rfl, g1⟩
                    have HF8 := Hd.mk ((HF7.out.trans G2.out (by simp)).trans g1 (by simp))
                    have HO8 := Hd.mk (own_frame (own_frame HO7.out G2.out (by simp)) g1 (by simp))
                    clear g1 G2
                    by_cases h6 : 6 < j
                    · skip
                      obtain ⟨A9, hA9⟩ : ∃ A9, A9 = cutA A6 c6 6 1 := ⟨_, rfl⟩
                      have hcutl : ∀ W : World, (Instr.slice 79 (.slice A6 n6 c6) (some (.int .i64 6)) none none).run Tryz.prog W = .ok (.slice A9 (n6 - 6) (c6 - 6)) W := by
                        rw [hA9]
                        exact run_cut_from (P := Tryz.prog) 79 3 .i64 Tryz.underlying79 hj0 1 hj2 A6 n6 c6 6 (by omega)
                      have HY9 : Hd (Sl wo A9 (i64s ((x :: t).drop (D + 6))) p) := ⟨by
                        have := HY6.out.cut (k := 6) (c := c6) (n := n6) (by simp only [i64s_length, List.length_drop, ← HNY.out]; omega) (by omega) (by omega)
                        rw [hA9]
                        simpa [i64s, List.map_drop, List.drop_drop] using this⟩
                      have HN9 : Hd (A9 = none → n6 - 6 = 0 ∧ c6 - 6 = 0) := ⟨fun h => cutA_none HN6.out (hA9 ▸ h)⟩
                      clear hA9
                      go_wp2_with (at_builtin; refine wpList_append_sl rfl (.tmp 98) (.tmp 101) 305 rfl 297 i0 (.agg #[.int .i64 0, .int .i64 0]) 2 16 Tryz.underlying305 hi0 hz0 hz1 hz2 rfl (by decide) (.slice A7 m7 d7) m7 _ rfl (by exact HO8.out.alloc _) (some ⟨w8.heap.size, 0, none⟩) 1 1 [.int .i64 16, .int .i64 6] (some w8.heap.size) rfl rfl (by exact sl_of_blk (blk_new _ _)) (by intro h; cases h) (by intro u hu; simp at hu; rcases hu with rfl | rfl <;> rfl) (by unfold maxLen; omega) (by omega) ?_; intro A3 d3 w3 hown' hgrow haft; have O3 := Hd.mk hown'; have G3 := Hd.mk hgrow; have F3 := Hd.mk haft; clear hown' hgrow haft)
                      go_wp2
                      go_roundg (gk - 1)
                      case measure => omega
                      case rel =>
                        refine ⟨D + 6, j - 6, A9, n6 - 6, c6 - 6, A3, m7 + 1, d3, P7 ++ [(16, 6)], rfl, rfl, by go_num, by omega, by omega, by omega, by omega, by omega, ⟨?_⟩, ⟨?_⟩, HY9, HN9, ⟨by rw [cells_app]; exact O3.out⟩, ⟨own_new HB7.out HF8.out.size F3.out⟩, ⟨(HF8.out.alloc _).grown G3.out (fun y hy => .inr (HB7.out y hy))⟩⟩
                        · have := HL7.out; rw [sixed_step h3, show min j 6 = 6 from by omega] at this; omega
                        · rw [← HP7.out, sixes_step h3, show min j 6 = 6 from by omega, List.append_assoc]
                          rfl
                    · skip
                      obtain ⟨A9, hA9⟩ : ∃ A9, A9 = cutA A6 c6 j 1 := ⟨_, rfl⟩
                      have hcutl : ∀ W : World, (Instr.slice 79 (.slice A6 n6 c6) (some (.int .i64 (j : Nat))) none none).run Tryz.prog W = .ok (.slice A9 (n6 - j) (c6 - j)) W := by
                        rw [hA9]
                        exact run_cut_from (P := Tryz.prog) 79 3 .i64 Tryz.underlying79 hj0 1 hj2 A6 n6 c6 j (by omega)
                      have HY9 : Hd (Sl wo A9 (i64s ((x :: t).drop (D + j))) p) := ⟨by
                        have := HY6.out.cut (k := j) (c := c6) (n := n6) (by simp only [i64s_length, List.length_drop, ← HNY.out]; omega) (by omega) (by omega)
                        rw [hA9]
                        simpa [i64s, List.map_drop, List.drop_drop] using this⟩
                      have HN9 : Hd (A9 = none → n6 - j = 0 ∧ c6 - j = 0) := ⟨fun h => cutA_none HN6.out (hA9 ▸ h)⟩
                      clear hA9
                      go_wp2_with (at_builtin; refine wpList_append_sl rfl (.tmp 98) (.tmp 101) 305 rfl 297 i0 (.agg #[.int .i64 0, .int .i64 0]) 2 16 Tryz.underlying305 hi0 hz0 hz1 hz2 rfl (by decide) (.slice A7 m7 d7) m7 _ rfl (by exact HO8.out.alloc _) (some ⟨w8.heap.size, 0, none⟩) 1 1 [.int .i64 16, .int .i64 (j : Nat)] (some w8.heap.size) rfl rfl (by exact sl_of_blk (blk_new _ _)) (by intro h; cases h) (by intro u hu; simp at hu; rcases hu with rfl | rfl <;> rfl) (by unfold maxLen; omega) (by omega) ?_; intro A3 d3 w3 hown' hgrow haft; have O3 := Hd.mk hown'; have G3 := Hd.mk hgrow; have F3 := Hd.mk haft; clear hown' hgrow haft)
                      go_wp2
                      go_roundg (gk - 1)
                      case measure => omega
                      case rel =>
                        refine ⟨D + j, j - j, A9, n6 - j, c6 - j, A3, m7 + 1, d3, P7 ++ [(16, (j : Int))], rfl, rfl, by go_num, by omega, by omega, by omega, by omega, by omega, ⟨?_⟩, ⟨?_⟩, HY9, HN9, ⟨by rw [cells_app]; exact O3.out⟩, ⟨own_new HB7.out HF8.out.size F3.out⟩, ⟨(HF8.out.alloc _).grown G3.out (fun y hy => .inr (HB7.out y hy))⟩⟩
                        · have := HL7.out; rw [sixed_step h3, show min j 6 = j from by omega] at this; omega
                        · rw [← HP7.out, sixes_step h3, show min j 6 = j from by omega, List.append_assoc]
                          rfl
                  · have hL7 : D = L := by have := HL7.out; rw [sixed_end (by omega)] at this; omega
                    subst hL7
                    go_wp2_with (fail)
                    refine (kinds_16 wr).mono ?_
                    rintro e w2 ⟨rfl, g1⟩
                    have HF8 := Hd.mk (HF7.out.trans g1 (by simp))
                    have HO8 := Hd.mk (own_frame HO7.out g1 (by simp))
                    clear g1
                    go_wp2
                    go_roundg (gx - D)
                    case measure => have := HI.out; omega
                    case rel =>
                      refine ⟨(x :: t).drop D, A6, c6, A7, m7, d7, P7, by rw [List.length_drop, ← HNY.out, show ny - D = n6 from by omega], rfl, by rw [List.length_drop, ← HNY.out, HI.out], by rw [List.length_drop, ← HNY.out]; omega, by rw [List.length_drop, ← HNY.out]; omega, HY6, ⟨?_⟩, ⟨?_⟩, HO8, HB7, HF8⟩
                      · intro h
                        rw [List.length_drop, ← HNY.out]
                        have := HN6.out h
                        omega
                      · have := HP7.out
                        rw [sixes_end (by omega), List.append_nil] at this
                        rw [← HP.out, this, List.append_assoc, runs_cons, ← HK.out, ← HR.out, ← HL.out]
end Go.Proofs.YtkdgfioigkijgaaGreat.Head
