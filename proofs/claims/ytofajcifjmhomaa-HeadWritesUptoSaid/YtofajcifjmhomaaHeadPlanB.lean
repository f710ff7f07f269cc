/- Chapter 08: newPlan walked. No condition. -/
import Derived.Test.YtofajcifjmhomaaHeadPlanA
import Derived.Test.YtofajcifjmhomaaHeadRuns2
import Derived.Test.YtofajcifjmhomaaLensE
import Derived.Deep.CutRange
import Derived.Deep.Light
set_option linter.unusedVariables false
set_option linter.unusedSimpArgs false
set_option maxRecDepth 100000
namespace Go.Proofs.Ytofajcifjmhomaa.Head
open Go.RowKit Go.Proofs.Ytofajcifjmhomaa.Lib Go.Proofs.Ytofajcifjmhomaa.Ints Go.Proofs.Ytofajcifjmhomaa.Runs
def ordC : Array Value := (i64s (ord.map fun (i : Nat) => (i : Int))).toArray
theorem ordInfo : (Try.prog.info? 47).map (·.size) = some ordC.size := by kernel_rfl
set_option maxHeartbeats 2000000 in
theorem order_any (w : World) : Calls Try.prog 56 #[] w fun e w' => e = .returned (.agg ordC) ∧ Fr w w' [] := by
  go_enter Try.func56, Try.ntmps56
  go_upto_region 1 with (fail)
  go_wp2_with (refine wpList_store_row rfl 47 _ _ rfl w.heap.size ordC rfl rfl 47 _ (by exact blk_new w _) (by kernel_rfl) (by kernel_rfl) (by kernel_rfl) ?_)
  refine bodyPost_ret (results_cell_row rfl _ _ w.heap.size 47 _ _ _ rfl (setRow_heap _ _ _ _ _ _ (blk_new w _)) Try.underlying47 rfl ordInfo) rfl ?_
  exact ⟨rfl, Code.Fr.setRow ((Fr.refl w []).alloc _) _ (.inr (Nat.le_refl _))⟩
theorem ordIdx : ∀ i : Nat, i < 19 → ∀ W : World, (Instr.index 47 (.agg ordC) (.int .i64 (i : Nat))).run Try.prog W = .ok (.int .i64 ((ord.getD i 0 : Nat) : Int)) W
  | 0, _, W => by kernel_rfl
  | 1, _, W => by kernel_rfl
  | 2, _, W => by kernel_rfl
  | 3, _, W => by kernel_rfl
  | 4, _, W => by kernel_rfl
  | 5, _, W => by kernel_rfl
  | 6, _, W => by kernel_rfl
  | 7, _, W => by kernel_rfl
  | 8, _, W => by kernel_rfl
  | 9, _, W => by kernel_rfl
  | 10, _, W => by kernel_rfl
  | 11, _, W => by kernel_rfl
  | 12, _, W => by kernel_rfl
  | 13, _, W => by kernel_rfl
  | 14, _, W => by kernel_rfl
  | 15, _, W => by kernel_rfl
  | 16, _, W => by kernel_rfl
  | 17, _, W => by kernel_rfl
  | 18, _, W => by kernel_rfl
  | k + 19, h, _ => absurd h (by omega)
theorem ord_lt : ∀ i, i < 19 → ord.getD i 0 < 19 := by decide
/-! ### the counts -/
theorem freqOf_len (rs : List (Int × Int)) : (freqOf rs).length = 19 := by simp [freqOf]
theorem freqF_snoc (rs : List (Int × Int)) (r : Int × Int) (i : Nat) : freqF (rs ++ [r]) i = freqF rs i + if r.1 = (i : Int) then 1 else 0 := by
  unfold freqF
  rw [List.countP_append, List.countP_cons, List.countP_nil]
  by_cases h : r.1 = (i : Int)
  · simp [h]
  · simp [h]
theorem freqF_le (rs : List (Int × Int)) (i : Nat) : freqF rs i ≤ rs.length := List.countP_le_length
theorem freq_get (rs : List (Int × Int)) {s : Nat} (h : s < 19) : (i64s (freqOf rs))[s]? = some (.int .i64 (freqF rs s : Nat)) := by
  rw [i64s_get]; simp [freqOf, h]
theorem freq_set (rs : List (Int × Int)) (r : Int × Int) {s : Nat} (h : s < 19) (hr : r.1 = (s : Int)) : (i64s (freqOf rs)).toArray.setIfInBounds s (.int .i64 ((freqF rs s : Nat) + 1 : Int)) = (i64s (freqOf (rs ++ [r]))).toArray := by
  apply Array.ext_getElem?
  intro k
  rw [Array.getElem?_setIfInBounds]
  simp only [List.getElem?_toArray]
  by_cases hk : k < 19
  · rw [freq_get _ hk]
    by_cases e : s = k
    · subst e
      rw [if_pos rfl, if_pos (by simp [i64s, freqOf]; exact h), freq_get _ h, freqF_snoc, if_pos hr]
      rfl
    · rw [if_neg e, freq_get _ hk, freqF_snoc, if_neg (by rw [hr]; omega), Nat.add_zero]
  · rw [if_neg (by omega)]
    rw [List.getElem?_eq_none (by simp [i64s, freqOf]; omega), List.getElem?_eq_none (by simp [i64s, freqOf]; omega)]
theorem freq_zero : (#[Value.int .i64 0, .int .i64 0, .int .i64 0, .int .i64 0, .int .i64 0, .int .i64 0, .int .i64 0, .int .i64 0, .int .i64 0, .int .i64 0, .int .i64 0, .int .i64 0, .int .i64 0, .int .i64 0, .int .i64 0, .int .i64 0, .int .i64 0, .int .i64 0, .int .i64 0] : Array Value) = (i64s (freqOf [])).toArray := by kernel_rfl
theorem freq_fine {rs : List (Int × Int)} (h : rs.length ≤ 1000) : Lens.cn (freqOf rs) = 0 := by
  unfold Lens.cn
  rw [if_neg (by rw [freqOf_len]; decide), Lens.out_false, if_neg (by decide)]
  intro i hi
  have h1 := freqF_le rs i
  simp only [freqOf, List.getElem_map, List.getElem_range]
  omega
theorem hlens_eq {rs : List (Int × Int)} (h : rs.length ≤ 1000) : Lens.lensN 7 (freqOf rs) = ((List.range 19).map fun s => (Lens.lenOf 7 (freqOf rs) s : Int), 0) ∧ hlens rs = (List.range 19).map fun s => (Lens.lenOf 7 (freqOf rs) s : Int) := by
  have hl : (Lens.lvs (freqOf rs)).length ≤ 19 := by have := Lens.lvs_le (freqOf rs); rw [freqOf_len] at this; exact this
  have e : Lens.lensN 7 (freqOf rs) = ((List.range 19).map fun s => (Lens.lenOf 7 (freqOf rs) s : Int), 0) := by
    unfold Lens.lensN
    rw [if_neg (by decide), if_neg (by rw [freq_fine h]; decide), if_neg (by have : 2 ^ (7 : Int).toNat = 128 := rfl; omega), freqOf_len]
    rfl
  exact ⟨e, by unfold hlens; rw [e]⟩
theorem hlens_len {rs : List (Int × Int)} (h : rs.length ≤ 1000) : (hlens rs).length = 19 := by rw [(hlens_eq h).2]; simp
theorem hlens_check {rs : List (Int × Int)} (h : rs.length ≤ 1000) : Code.check (hlens rs) = 0 := by
  rw [(hlens_eq h).2]
  have := Lens.lens_check (fs := freqOf rs) (limit := 7) (by decide) (by decide) (by have := Lens.lvs_le (freqOf rs); rw [freqOf_len] at this; have e : 2 ^ 7 = 128 := rfl; omega) (by rw [freqOf_len]; decide)
  rwa [freqOf_len] at this
theorem hlens_le {rs : List (Int × Int)} (h : rs.length ≤ 1000) (s : Nat) : 0 ≤ (hlens rs).getD s 0 ∧ (hlens rs).getD s 0 ≤ 7 := by
  rw [(hlens_eq h).2, List.getD_eq_getElem?_getD]
  by_cases hs : s < 19
  · simp only [List.getElem?_map, List.getElem?_range hs, Option.map_some, Option.getD_some]
    have := Lens.lenOf_le (fs := freqOf rs) (limit := 7) (by decide) (by have := Lens.lvs_le (freqOf rs); rw [freqOf_len] at this; have e : 2 ^ 7 = 128 := rfl; omega) s
    omega
  · rw [List.getElem?_eq_none (by simp; omega)]; simp
/-! ### lengths that may be told -/
theorem okH_parts {lit dist : List Int} (h : okH lit dist = true) : 257 ≤ lit.length ∧ lit.length ≤ 286 ∧ dist.length ≤ 30 ∧ Code.check lit = 0 ∧ Code.check dist = 0 ∧ lit.getD 256 0 ≠ 0 := of_decide_eq_true h
theorem check_vals {l : List Int} (h : Code.check l = 0) : ∀ x ∈ l, 0 ≤ x ∧ x ≤ 15 := (Code.bad_false (Code.check_zero h).1).2
theorem distL_len (dist : List Int) (h : dist.length ≤ 30) : 1 ≤ (distL dist).length ∧ (distL dist).length ≤ 30 := by
  unfold distL
  have := cutN_le dist 1 dist.length
  split
  · simp
  · rename_i h1
    rw [cutL_len] at h1 ⊢
    omega
theorem allL_ok {lit dist : List Int} (h : okH lit dist = true) : (∀ x ∈ allL lit dist, 0 ≤ x ∧ x ≤ 15) ∧ (allL lit dist).length ≤ 316 ∧ (cutL lit 257).length ≤ 286 ∧ 257 ≤ (cutL lit 257).length := by
  obtain ⟨h1, h2, h3, h4, h5, h6⟩ := okH_parts h
  have a1 := cutN_le lit 257 lit.length
  have a2 := cutN_ge lit 257 lit.length h1
  have a3 := distL_len dist h3
  refine ⟨fun x hx => ?_, ?_, ?_, ?_⟩
  · rcases List.mem_append.1 hx with e | e
    · exact check_vals h4 x (List.mem_of_mem_take e)
    · unfold distL at e
      split at e
      · rw [List.mem_singleton] at e; subst e; exact ⟨by decide, by decide⟩
      · exact check_vals h5 x (List.mem_of_mem_take e)
  · unfold allL; rw [List.length_append, cutL_len]; omega
  · rw [cutL_len]; omega
  · rw [cutL_len]; omega
theorem bad_of {l : List Int} (h1 : l.length ≤ 320) (h2 : ∀ x ∈ l, 0 ≤ x ∧ x ≤ 15) : bad l = false := by
  unfold bad
  rw [decide_eq_false (by omega), out_false (fun i hi => h2 _ (List.getElem_mem hi))]
  rfl
def hruns (lit dist : List Int) : List (Int × Int) := runs (allL lit dist)
theorem hruns_ok {lit dist : List Int} (h : okH lit dist = true) : (∀ r ∈ hruns lit dist, RunB r) ∧ (hruns lit dist).length ≤ 316 ∧ bad (allL lit dist) = false := by
  obtain ⟨h1, h2, _⟩ := allL_ok h
  obtain ⟨h3, h4⟩ := runs_run h1
  exact ⟨h3, Nat.le_trans h4 h2, bad_of (by omega) h1⟩
end Go.Proofs.Ytofajcifjmhomaa.Head
