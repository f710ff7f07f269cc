/- The row of PressStreams where what it reads is of bulk at most 1048576, out of its walk. No condition but that. -/
import Derived.Test.YtkdgfioigkijgaaGreatP01
import Derived.Test.YtkdgfioigkijgaaGreatP02
import Derived.Test.YtkdgfioigkijgaaGreatP03
import Derived.Test.YtkdgfioigkijgaaGreatP04
import Derived.Test.YtkdgfioigkijgaaGreatP05
import Derived.Test.YtkdgfioigkijgaaGreatP06
import Derived.Test.YtkdgfioigkijgaaGreatP07
import Derived.Test.YtkdgfioigkijgaaGreatP08
import Derived.Test.YtkdgfioigkijgaaGreatP09
import Derived.Test.YtkdgfioigkijgaaGreatP10
import Derived.Test.YtkdgfioigkijgaaGreatP11
import Derived.Test.YtkdgfioigkijgaaGreatP12
import Derived.Test.YtkdgfioigkijgaaGreatP13
import Derived.Test.YtkdgfioigkijgaaGreatP14
import Derived.Test.YtkdgfioigkijgaaGreatP15
import Derived.Test.YtkdgfioigkijgaaGreatP16
import Derived.Test.YtkdgfioigkijgaaGreatP17
import Derived.Test.YtkdgfioigkijgaaGreatP18
import Derived.Test.YtkdgfioigkijgaaGreatP19
import Derived.Test.YtkdgfioigkijgaaGreatP20
import Derived.Test.YtkdgfioigkijgaaGreatP21
import Derived.Test.YtkdgfioigkijgaaGreatP22
import Derived.Test.YtkdgfioigkijgaaGreatP23
import Derived.Test.YtkdgfioigkijgaaGreatP24
import Derived.Test.YtkdgfioigkijgaaGreatP25
import Derived.Test.YtkdgfioigkijgaaGreatRows
import Derived.WalkKit
import Derived.ProofKit
import Derived.OpenShut
import Derived.ShutString
import Derived.ChangeOld
import Derived.Below
import Derived.SizedLaws
import Derived.JoinedCond
import Derived.Lib.SmallJoins
import Derived.Deep.Strs
namespace Go.Proofs.YtkdgfioigkijgaaGreat.pressStreamsU
open Go.ChangeShapes Go.WideShapes Go.ChangeAt Go.RowKit Go.Proofs.YtkdgfioigkijgaaGreat.Lib Go.Proofs.YtkdgfioigkijgaaGreat.Open
open Go.ChangeMaps (open_string shut_string)
set_option linter.unusedVariables false
set_option linter.unusedSimpArgs false
theorem own : ownKnob Tryz.prog.godebug = none := by kernel_rfl
theorem laidOut : laidOutB Tryz.prog = true := by kernel_rfl
set_option maxRecDepth 100000 in
theorem lifted (os : Os) (started : os.Started) (H : Type) (enc : TypeId × Value → H) (F : Stop.Interp) :
    ReturnsInHanded {} Tryz.checked os 7 .any ((Rows.OpenSpec.upto Rows.pressStreamsSpec).pre6 enc Tryz.prog Tryz.f7 Rows.pressStreamsUptoRow.domain false) (((Rows.OpenSpec.upto Rows.pressStreamsSpec).at F).post enc Tryz.prog Tryz.f7 false true false false) := by
  refine returnsInHanded_of_cond (C := Tryz.checked) (s := Rows.OpenSpec.upto Rows.pressStreamsSpec) (k := Rows.uptoSmall) rfl own started (by kernel_rfl) Tryz.func7
    (OpenSpec.witness (enc := enc) (C := Tryz.checked) (s := Rows.OpenSpec.upto Rows.pressStreamsSpec) (k := Rows.uptoSmall) rfl false ⟨#[], #[.slice none 0 0, .agg #[.int .i64 0, .int .i64 0, .bool false, .int .i64 0]], []⟩ 8 (by kernel_rfl) (by kernel_rfl) (by kernel_rfl)
      (x := ([.nil, .agg [.agg [.lit (.int .i64 0), .lit (.int .i64 0), .lit (.bool false)], .lit (.int .i64 0)]], [], [])) (by kernel_rfl) rfl (by kernel_rfl)) ?_
  intro W base args ds gs before hval0 hW _ hk0 _
  have hk := of_decide_eq_true hk0
  have hval : ∀ (j : Nat) t v, Tryz.f7.params[j]? = some t → args[j]? = some v → Value.okWide Tryz.prog W .any base t v := hval0
  have hW' := hW
  obtain ⟨p, q, hA0, hV, rfl, hfz, hnd⟩ := hW
  have hA : DataW.TrodAll enc Tryz.prog W 0 (fun _ => true) true Tryz.f7.params.toList args.toList ds p := hA0
  rw [Tryz.params7] at hA hval
  obtain ⟨v0, vs0, d0, ds0, p0, q0, hargs, rfl, rfl, h0, r0⟩ := trodAll_cons hA
  obtain ⟨v1, vs1, d1, ds1, p1, q1, rfl, rfl, rfl, h1, r1⟩ := trodAll_cons r0
  obtain ⟨rfl, rfl, rfl⟩ := trodAll_nil r1
  obtain rfl : args = #[v0, v1] := by cases args; simp_all
  obtain ⟨rfl, rfl⟩ := trodVars_none hV
  replace hk : Rows.uptoBulkAll [d0, d1] ≤ 1048576 := by simpa using hk
  obtain ⟨a0, len0, cap0, rfl⟩ := okWide_slice Tryz.underlying23 (hval 0 23 v0 rfl rfl)
  have k0 := h0
  have lt0 : ∀ x ∈ p0, x.block < W.heap.size := by obtain ⟨m, hm⟩ := k0; exact DataW.trod_lt m _ _ _ hm
  have u0 : Rows.uptoBulk d0 ≤ 1048576 := Nat.le_trans (bulks.part_le (by simp)) hk
  obtain ⟨x0, b0, o0, f0, c0⟩ := open_nums (k := .u8) Tryz.underlying23 Tryz.underlying5 (by kernel_rfl) h0
  have y0 : len0 ≤ 1048576 := by omega
  have k1 := h1
  have lt1 : ∀ x ∈ p1, x.block < W.heap.size := by obtain ⟨m, hm⟩ := k1; exact DataW.trod_lt m _ _ _ hm
  obtain ⟨cs, rfl, hszc⟩ := okWide_struct Tryz.underlying86 (hval 1 86 v1 rfl rfl)
  obtain ⟨e0, e1, e2, e3, rfl⟩ := Go.Joins.array4 (hszc.trans (by kernel_rfl))
  obtain ⟨fuel, hf⟩ := h1
  obtain ⟨w0', w1', n, hx, _, g0, g1⟩ := trod_struct2 Tryz.underlying86 hf
  have g0' : DataW.trod enc Tryz.prog W 0 (fun _ => true) true n 84 [e0, e1, e2] = some w0' := g0
  have g1' : DataW.trod enc Tryz.prog W 0 (fun _ => true) true n 3 [e3] = some w1' := g1
  obtain ⟨z0, z1, z2, m, hy, _, i0, i1, i2⟩ := Go.Deep.trod_struct3 Tryz.underlying84 g0'
  have i0' : DataW.trod enc Tryz.prog W 0 (fun _ => true) true m 3 [e0] = some z0 := i0
  have i1' : DataW.trod enc Tryz.prog W 0 (fun _ => true) true m 3 [e1] = some z1 := i1
  have i2' : DataW.trod enc Tryz.prog W 0 (fun _ => true) true m 4 [e2] = some z2 := i2
  obtain ⟨ka, j0, _, _⟩ := DataW.trod_int Tryz.underlying3 i0'
  obtain ⟨kb, j1, _, _⟩ := DataW.trod_int Tryz.underlying3 i1'
  obtain ⟨kz, j2, _⟩ := DataW.trod_bool Tryz.underlying4 i2'
  obtain ⟨km, j3, _, _⟩ := DataW.trod_int Tryz.underlying3 g1'
  simp at j0 j1 j2 j3
  subst j0 j1 j2 j3
  clear hA0 hval0
  refine (Prs.pstreams_walk a0 len0 cap0 x0 b0 ⟨ka, kb, kz⟩ km W o0 f0 y0 ).mono fun e W' ⟨he, bel⟩ => ?_
  subst he
  exact ⟨_, rfl, _, _, _, [], _, [], hW', trodAll_mk1 (shut_bool Tryz.underlying4 _), (trodAll_cons_mk (Below.trod laidOut (by kernel_rfl) (of_decide_eq_true (by kernel_rfl)) k0 bel lt0) (trodAll_cons_mk (Below.trod laidOut (by kernel_rfl) (of_decide_eq_true (by kernel_rfl)) k1 bel lt1) trodAll_mk0)), rfl, bel.frame _, fun h => by cases h⟩
theorem over : Rows.pressStreamsUptoRow.holds Tryz.pinned (Rows.OpenSpec.upto Rows.pressStreamsSpec) :=
  OpenClaim.holds_of_cond 7 Tryz.f7 rfl rfl rfl rfl rfl rfl rfl ⟨rfl, rfl, rfl, rfl, rfl⟩ rfl rfl rfl rfl rfl (by kernel_rfl) Tryz.func7 (by kernel_rfl)
    (of_decide_eq_true (by kernel_rfl)) (by unfold Func.isWrapper; first | (rw [if_pos (by decide +kernel)]; kernel_rfl) | (rw [if_neg (by decide +kernel)]; exact ⟨rfl, rfl⟩))
    (fun os started H enc _ F => lifted os started H enc F)
theorem proved : Rows.PressStreamsUptoSaid := over
#print axioms proved
end Go.Proofs.YtkdgfioigkijgaaGreat.pressStreamsU
namespace Go.Proofs.YtkdgfioigkijgaaGreat
/-- The row, under a short name, for the claim. -/
theorem pressStreamsUpto_holds : Rows.PressStreamsUptoSaid := pressStreamsU.proved
end Go.Proofs.YtkdgfioigkijgaaGreat
