import Derived.Test.YtkdgfioigkijgaaQ01
import Derived.Test.YtkdgfioigkijgaaQ02
import Derived.Test.YtkdgfioigkijgaaQ03
import Derived.Test.YtkdgfioigkijgaaQ04
import Derived.Test.YtkdgfioigkijgaaQ05
import Derived.Test.YtkdgfioigkijgaaQ06
import Derived.Test.YtkdgfioigkijgaaQ07
import Derived.Test.YtkdgfioigkijgaaQ08
import Derived.Test.YtkdgfioigkijgaaQ09
import Derived.Test.YtkdgfioigkijgaaQ10
import Derived.Test.YtkdgfioigkijgaaQ11
import Derived.Test.YtkdgfioigkijgaaQ12
import Derived.Test.YtkdgfioigkijgaaQ13
import Derived.Test.YtkdgfioigkijgaaQ14
import Derived.Test.YtkdgfioigkijgaaQ15
import Derived.Test.YtkdgfioigkijgaaQ16
import Derived.Test.YtkdgfioigkijgaaRows
import Derived.WalkKit
import Derived.ProofKit
import Derived.OpenShut
import Derived.ShutString
import Derived.ChangeOld
import Derived.Below
import Derived.SizedLaws
import Derived.JoinedCond
import Derived.Lib.SmallJoins
import Derived.Deep.Strs
/- The row of PressOptions, out of its walk. No condition. -/
namespace Go.Proofs.Ytkdgfioigkijgaa.pressOptions
open Go.ChangeShapes Go.WideShapes Go.ChangeAt Go.RowKit Go.Proofs.Ytkdgfioigkijgaa.Lib Go.Proofs.Ytkdgfioigkijgaa.Open
open Go.ChangeMaps (open_string shut_string)
set_option linter.unusedVariables false
set_option linter.unusedSimpArgs false
theorem own : ownKnob Try.prog.godebug = none := by kernel_rfl
theorem laidOut : laidOutB Try.prog = true := by kernel_rfl
set_option maxRecDepth 100000 in
theorem lifted (os : Os) (started : os.Started) (H : Type) (enc : TypeId × Value → H) :
    ReturnsInHanded {} Try.checked os 4 .any (Rows.pressOptionsSpec.pre6 enc Try.prog Try.f4 Rows.pressOptionsRow.domain false) (Rows.pressOptionsSpec.post enc Try.prog Try.f4 false true false false) := by
  refine returnsInHanded_of_change_sized (C := Try.checked) own started (by kernel_rfl) Try.func4
    (ChangeSpec.witness6 (enc := enc) (C := Try.checked) false ⟨#[], #[.agg #[.int .i64 0, .int .i64 0, .bool false, .int .i64 0]], []⟩ 8 (by kernel_rfl) (by kernel_rfl) (by kernel_rfl) (by kernel_rfl)) ?_
  intro W base args ds gs before hval0 hW hcnd hsz0 _
  have hsz : (DataW.weightsEach Try.prog (Try.f4.params.toList ++ Rows.pressOptionsSpec.plain.varTypes Try.prog) (ds ++ gs)).all (· ≤ reachBytes) = true := hsz0
  have hval : ∀ (j : Nat) t v, Try.f4.params[j]? = some t → args[j]? = some v → Value.okWide Try.prog W .any base t v := hval0
  have hW' := hW
  obtain ⟨p, q, hA0, hV, rfl, hfz, hnd⟩ := hW
  have hA : DataW.TrodAll enc Try.prog W 0 (fun _ => true) true Try.f4.params.toList args.toList ds p := hA0
  rw [Try.params4] at hA hval hsz
  obtain ⟨v0, vs0, d0, ds0, p0, q0, hargs, rfl, rfl, h0, r0⟩ := trodAll_cons hA
  obtain ⟨rfl, rfl, rfl⟩ := trodAll_nil r0
  obtain rfl : args = #[v0] := by cases args; simp_all
  obtain ⟨rfl, rfl⟩ := trodVars_none hV
  have k0 := h0
  have lt0 : ∀ x ∈ p0, x.block < W.heap.size := by obtain ⟨m, hm⟩ := k0; exact DataW.trod_lt m _ _ _ hm
  obtain ⟨cs, rfl, hszc⟩ := okWide_struct Try.underlying28 (hval 0 28 v0 rfl rfl)
  obtain ⟨e0, e1, e2, e3, rfl⟩ := Go.Joins.array4 (hszc.trans (by kernel_rfl))
  obtain ⟨fuel, hf⟩ := h0
  obtain ⟨y0, y1, n, hx, _, g0, g1⟩ := trod_struct2 Try.underlying28 hf
  have g0' : DataW.trod enc Try.prog W 0 (fun _ => true) true n 26 [e0, e1, e2] = some y0 := g0
  have g1' : DataW.trod enc Try.prog W 0 (fun _ => true) true n 3 [e3] = some y1 := g1
  obtain ⟨z0, z1, z2, m, hy, _, i0, i1, i2⟩ := Go.Deep.trod_struct3 Try.underlying26 g0'
  have i0' : DataW.trod enc Try.prog W 0 (fun _ => true) true m 3 [e0] = some z0 := i0
  have i1' : DataW.trod enc Try.prog W 0 (fun _ => true) true m 3 [e1] = some z1 := i1
  have i2' : DataW.trod enc Try.prog W 0 (fun _ => true) true m 4 [e2] = some z2 := i2
  obtain ⟨ka, q0, _, _⟩ := DataW.trod_int Try.underlying3 i0'
  obtain ⟨kb, q1, _, _⟩ := DataW.trod_int Try.underlying3 i1'
  obtain ⟨kz, q2, _⟩ := DataW.trod_bool Try.underlying4 i2'
  obtain ⟨km, q3, _, _⟩ := DataW.trod_int Try.underlying3 g1'
  simp at q0 q1 q2 q3
  subst q0 q1 q2 q3
  clear hA0 hval0 hsz0 hsz
  refine (Prs.popts_walk ⟨ka, kb, kz⟩ km W ).mono fun e W' ⟨he, bel⟩ => ?_
  subst he
  exact ⟨_, rfl, _, _, _, [], _, [], hW', trodAll_mk1 (shut_bool Try.underlying4 _), (trodAll_cons_mk (Below.trod laidOut (by kernel_rfl) (of_decide_eq_true (by kernel_rfl)) k0 bel lt0) trodAll_mk0), rfl, bel.frame _, fun h => by cases h⟩
theorem over : Rows.pressOptionsRow.holds Try.pinned (OpenSpec.ofChange Rows.pressOptionsSpec) :=
  OpenClaim.holds_of_wide 4 Try.f4 rfl rfl rfl rfl rfl rfl rfl ⟨rfl, rfl, rfl, rfl, rfl⟩ rfl rfl rfl rfl rfl (by kernel_rfl) Try.func4 (by kernel_rfl)
    (of_decide_eq_true (by kernel_rfl)) (by unfold Func.isWrapper; first | (rw [if_pos (by decide +kernel)]; kernel_rfl) | (rw [if_neg (by decide +kernel)]; exact ⟨rfl, rfl⟩))
    (fun os started H enc _ => lifted os started H enc)
theorem proved : Rows.PressOptionsSaid := over
#print axioms proved
end Go.Proofs.Ytkdgfioigkijgaa.pressOptions
namespace Go.Proofs.Ytkdgfioigkijgaa
/-- The row, under a short name, for the claim. -/
theorem pressOptions_holds : Rows.PressOptionsSaid := pressOptions.proved
end Go.Proofs.Ytkdgfioigkijgaa
