/- HeadNames' walk. No condition. -/
import Derived.Test.YtofajcifjmhomaaHeadPlanD
import Derived.Test.YtofajcifjmhomaaHeadLaw
import Derived.Test.YtofajcifjmhomaaLensEv
set_option linter.unusedVariables false
set_option linter.unusedSimpArgs false
set_option maxRecDepth 100000
namespace Go.Proofs.Ytofajcifjmhomaa.Head
open Go.RowKit Go.Proofs.Ytofajcifjmhomaa.Lib Go.Proofs.Ytofajcifjmhomaa.Ints Go.Proofs.Ytofajcifjmhomaa.Runs
def ex4 : List Int := (List.range 257).map fun i => if i = 0 then 1 else if i = 256 then 1 else 0
theorem ex4_ok : okH ex4 [] = true := by decide +kernel
theorem ex4_cost : hcost ex4 [] = 90 := by
  unfold hcost hlens
  rw [Lens.lensE_eq]
  decide +kernel
set_option maxHeartbeats 4000000 in
theorem hnames_any (w : World) : Calls Try.prog 8 #[] w fun e w' => e = .returned (.bool true) ∧ Below w.heap.size w w' := by
  obtain ⟨j0, hj0, hj1, hj2, hj3⟩ := info_parts infoI64
  go_enter Try.func8, Try.ntmps8
  go_upto_region 2 with (refine wpList_make_full _ rfl _ _ 22 rfl 0 3 j0 (.int .i64 0) 1 Try.underlying22 hj0 hj1 hj2 .i64 .i64 _ _ 257 rfl rfl rfl rfl (by rw [hj3]; omega) (by unfold maxLen; omega) (Nat.zero_le _) ?_; intro w1 hown1 hgrow1; have O1 := Hd.mk hown1; have F1 : Hd (Fr w w1 []) := ⟨(Fr.refl w []).grown hgrow1 (fun k hk => by simp at hk)⟩; clear hown1 hgrow1)
  obtain ⟨g, hg⟩ : ∃ g, g = w.heap.size := ⟨_, rfl⟩
  rw [← hg] at O1 ⊢
  have hgb : w.heap.size ≤ g := by omega
  clear hg
  have e0 : ((madeCells (Value.int .i64 0).cells (257 * 1)).toList.set 0 (.int .i64 1)).set 256 (.int .i64 1) = i64s ex4 := by kernel_rfl
  have h1 := (O1.out.stored 0 (.int .i64 1)).1
  have h2 := (h1.stored 256 (.int .i64 1)).1
  rw [e0] at h2
  have O2 := Hd.mk h2
  have F2 : Hd (Fr w ((w1.setCell ⟨g, 0, none⟩ (.int .i64 1)).setCell ⟨g, 256, none⟩ (.int .i64 1)) []) := ⟨(F1.out.setCell _ (.inr hgb)).setCell _ (.inr hgb)⟩
  obtain ⟨u0, y0, f0⟩ : ∃ v, w1.cell? ⟨g, 0, none⟩ = some v ∧ w1.frozen? ⟨g, 0, none⟩ = false := Code.own_any O1.out (j := 0) (by omega)
  obtain ⟨u1, y1, f1⟩ : ∃ v, w1.cell? ⟨g, 256, none⟩ = some v ∧ w1.frozen? ⟨g, 256, none⟩ = false := Code.own_any O1.out (j := 256) (by omega)
  clear h1 h2 e0 O1 F1
  go_wp2_with (fail)
  generalize (w1.setCell ⟨g, 0, none⟩ (.int .i64 1)).setCell ⟨g, 256, none⟩ (.int .i64 1) = w2 at *
  refine (hcost_any w2 (some ⟨g, 0, none⟩) none 257 257 0 0 ex4 [] (some g) none ?_ ⟨rfl, Nat.le_refl _, Nat.zero_le _, fun _ => ⟨rfl, rfl⟩, Sl.nil _ _ _, fun b hb => by cases hb⟩ 0 90 (by rw [ex4_ok]; rfl) (by rw [ex4_ok, ex4_cost]; rfl)).mono ?_
  · exact ⟨by simp [i64s, ex4], Nat.le_refl _, by unfold maxLen; omega, (fun h => by cases h), sl_of_own O2.out, fun b hb => own_lt O2.out hb⟩
  rintro e w3 ⟨rfl, h3⟩
  have F3 := Hd.mk (F2.out.trans h3 (by simp))
  clear h3 O2 F2
  go_wp2_with (first | (go_at_call 15; refine (num_any _ _).mono ?_; rintro e w' ⟨rfl, rfl⟩) | (go_at_call 18; refine (awake_any _).mono ?_; rintro e w4 ⟨rfl, h4⟩; have F4 := Hd.mk (F3.out.trans h4 (by simp)); clear h4))
  go_ret
  exact ⟨rfl, F4.out.below⟩
end Go.Proofs.Ytofajcifjmhomaa.Head
