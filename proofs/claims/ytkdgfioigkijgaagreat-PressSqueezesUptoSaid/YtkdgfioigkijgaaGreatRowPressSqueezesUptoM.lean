/- The row of PressSqueezes where what it reads is of bulk at most 1048576, out of its walk. No condition but that. -/
import Derived.Test.YtkdgfioigkijgaaGreatW01
import Derived.Test.YtkdgfioigkijgaaGreatW02
import Derived.Test.YtkdgfioigkijgaaGreatW03
import Derived.Test.YtkdgfioigkijgaaGreatW04
import Derived.Test.YtkdgfioigkijgaaGreatW05
import Derived.Test.YtkdgfioigkijgaaGreatW06
import Derived.Test.YtkdgfioigkijgaaGreatW07
import Derived.Test.YtkdgfioigkijgaaGreatW08
import Derived.Test.YtkdgfioigkijgaaGreatW09
import Derived.Test.YtkdgfioigkijgaaGreatW10
import Derived.Test.YtkdgfioigkijgaaGreatW11
import Derived.Test.YtkdgfioigkijgaaGreatW12
import Derived.Test.YtkdgfioigkijgaaGreatW13
import Derived.Test.YtkdgfioigkijgaaGreatW14
import Derived.Test.YtkdgfioigkijgaaGreatW15
import Derived.Test.YtkdgfioigkijgaaGreatW16
import Derived.Test.YtkdgfioigkijgaaGreatW17
import Derived.Test.YtkdgfioigkijgaaGreatW18
import Derived.Test.YtkdgfioigkijgaaGreatW19
import Derived.Test.YtkdgfioigkijgaaGreatW20
import Derived.Test.YtkdgfioigkijgaaGreatW21
import Derived.Test.YtkdgfioigkijgaaGreatW22
import Derived.Test.YtkdgfioigkijgaaGreatW23
import Derived.Test.YtkdgfioigkijgaaGreatW24
import Derived.Test.YtkdgfioigkijgaaGreatW25
import Derived.Test.YtkdgfioigkijgaaGreatW26
import Derived.Test.YtkdgfioigkijgaaGreatW27
import Derived.Test.YtkdgfioigkijgaaGreatW28
import Derived.Test.YtkdgfioigkijgaaGreatW29
import Derived.Test.YtkdgfioigkijgaaGreatRows
import Derived.WalkKit
import Derived.ProofKit
import Derived.OpenShut
import Derived.ShutString
import Derived.ChangeOld
import Derived.Below
import Derived.SizedLaws
import Derived.JoinedCond
import Derived.Lib.SmallJoins
import Derived.Deep.Strs
namespace Go.Proofs.YtkdgfioigkijgaaGreat.pressSqueezesU
open Go.ChangeShapes Go.WideShapes Go.ChangeAt Go.RowKit Go.Proofs.YtkdgfioigkijgaaGreat.Lib Go.Proofs.YtkdgfioigkijgaaGreat.Open
open Go.ChangeMaps (open_string shut_string)
set_option linter.unusedVariables false
set_option linter.unusedSimpArgs false
theorem own : ownKnob Tryz.prog.godebug = none := by kernel_rfl
theorem laidOut : laidOutB Tryz.prog = true := by kernel_rfl
set_option maxRecDepth 100000 in
theorem lifted (os : Os) (started : os.Started) (H : Type) (enc : TypeId × Value → H) (F : Stop.Interp) :
    ReturnsInHanded {} Tryz.checked os 8 .any ((Rows.OpenSpec.upto Rows.pressSqueezesSpec).pre6 enc Tryz.prog Tryz.f8 Rows.pressSqueezesUptoRow.domain false) (((Rows.OpenSpec.upto Rows.pressSqueezesSpec).at F).post enc Tryz.prog Tryz.f8 false true false false) := by
  refine returnsInHanded_of_cond (C := Tryz.checked) (s := Rows.OpenSpec.upto Rows.pressSqueezesSpec) (k := Rows.uptoSmall) rfl own started (by kernel_rfl) Tryz.func8
    (OpenSpec.witness (enc := enc) (C := Tryz.checked) (s := Rows.OpenSpec.upto Rows.pressSqueezesSpec) (k := Rows.uptoSmall) rfl false ⟨#[], #[.slice none 0 0, .agg #[.int .i64 0, .int .i64 0, .bool false, .int .i64 0], .int .i64 0], []⟩ 8 (by kernel_rfl) (by kernel_rfl) (by kernel_rfl)
      (x := ([.nil, .agg [.agg [.lit (.int .i64 0), .lit (.int .i64 0), .lit (.bool false)], .lit (.int .i64 0)], .lit (.int .i64 0)], [], [])) (by kernel_rfl) rfl (by kernel_rfl)) ?_
  intro W base args ds gs before hval0 hW _ hk0 _
  have hk := of_decide_eq_true hk0
  have hval : ∀ (j : Nat) t v, Tryz.f8.params[j]? = some t → args[j]? = some v → Value.okWide Tryz.prog W .any base t v := hval0
  have hW' := hW
  obtain ⟨p, q, hA0, hV, rfl, hfz, hnd⟩ := hW
  have hA : DataW.TrodAll enc Tryz.prog W 0 (fun _ => true) true Tryz.f8.params.toList args.toList ds p := hA0
  rw [Tryz.params8] at hA hval
  obtain ⟨v0, vs0, d0, ds0, p0, q0, hargs, rfl, rfl, h0, r0⟩ := trodAll_cons hA
  obtain ⟨v1, vs1, d1, ds1, p1, q1, rfl, rfl, rfl, h1, r1⟩ := trodAll_cons r0
  obtain ⟨v2, vs2, d2, ds2, p2, q2, rfl, rfl, rfl, h2, r2⟩ := trodAll_cons r1
  obtain ⟨rfl, rfl, rfl⟩ := trodAll_nil r2
  obtain rfl : args = #[v0, v1, v2] := by cases args; simp_all
  obtain ⟨rfl, rfl⟩ := trodVars_none hV
  replace hk : Rows.uptoBulkAll [d0, d1, d2] ≤ 1048576 := by simpa using hk
  obtain ⟨a0, len0, cap0, rfl⟩ := okWide_slice Tryz.underlying23 (hval 0 23 v0 rfl rfl)
  have k0 := h0
  have lt0 : ∀ x ∈ p0, x.block < W.heap.size := by obtain ⟨m, hm⟩ := k0; exact DataW.trod_lt m _ _ _ hm
  have u0 : Rows.uptoBulk d0 ≤ 1048576 := Nat.le_trans (bulks.part_le (by simp)) hk
  obtain ⟨x0, b0, o0, f0, c0⟩ := open_nums (k := .u8) Tryz.underlying23 Tryz.underlying5 (by kernel_rfl) h0
  have y0 : len0 ≤ 1048576 := by omega
  have k1 := h1
  have lt1 : ∀ x ∈ p1, x.block < W.heap.size := by obtain ⟨m, hm⟩ := k1; exact DataW.trod_lt m _ _ _ hm
  obtain ⟨cs, rfl, hszc⟩ := okWide_struct Tryz.underlying86 (hval 1 86 v1 rfl rfl)
  obtain ⟨e0, e1, e2, e3, rfl⟩ := Go.Joins.array4 (hszc.trans (by kernel_rfl))
  obtain ⟨fuel, hf⟩ := h1
  obtain ⟨w0', w1', n, hx, _, g0, g1⟩ := trod_struct2 Tryz.underlying86 hf
  have g0' : DataW.trod enc Tryz.prog W 0 (fun _ => true) true n 84 [e0, e1, e2] = some w0' := g0
  have g1' : DataW.trod enc Tryz.prog W 0 (fun _ => true) true n 3 [e3] = some w1' := g1
  obtain ⟨z0, z1, z2, m, hy, _, i0, i1, i2⟩ := Go.Deep.trod_struct3 Tryz.underlying84 g0'
  have i0' : DataW.trod enc Tryz.prog W 0 (fun _ => true) true m 3 [e0] = some z0 := i0
  have i1' : DataW.trod enc Tryz.prog W 0 (fun _ => true) true m 3 [e1] = some z1 := i1
  have i2' : DataW.trod enc Tryz.prog W 0 (fun _ => true) true m 4 [e2] = some z2 := i2
  obtain ⟨ka, j0, _, _⟩ := DataW.trod_int Tryz.underlying3 i0'
  obtain ⟨kb, j1, _, _⟩ := DataW.trod_int Tryz.underlying3 i1'
  obtain ⟨kz, j2, _⟩ := DataW.trod_bool Tryz.underlying4 i2'
  obtain ⟨km, j3, _, _⟩ := DataW.trod_int Tryz.underlying3 g1'
  simp at j0 j1 j2 j3
  subst j0 j1 j2 j3
  obtain ⟨a2, rfl, rfl, rfl, w2⟩ := open_int Tryz.underlying3 (hval 2 3 v2 rfl rfl) h2
  clear hA0 hval0
  refine (Prs.psqueezes_walk a0 len0 cap0 x0 b0 ⟨ka, kb, kz⟩ km a2 W o0 f0 y0  w2).mono fun e W' ⟨he, bel⟩ => ?_
  subst he
  exact ⟨_, rfl, _, _, _, [], _, [], hW', trodAll_mk1 (shut_bool Tryz.underlying4 _), (trodAll_cons_mk (Below.trod laidOut (by kernel_rfl) (of_decide_eq_true (by kernel_rfl)) k0 bel lt0) (trodAll_cons_mk (Below.trod laidOut (by kernel_rfl) (of_decide_eq_true (by kernel_rfl)) k1 bel lt1) (trodAll_cons_mk (shut_int Tryz.underlying3 w2) trodAll_mk0))), rfl, bel.frame _, fun h => by cases h⟩
theorem over : Rows.pressSqueezesUptoRow.holds Tryz.pinned (Rows.OpenSpec.upto Rows.pressSqueezesSpec) :=
  OpenClaim.holds_of_cond 8 Tryz.f8 rfl rfl rfl rfl rfl rfl rfl ⟨rfl, rfl, rfl, rfl, rfl⟩ rfl rfl rfl rfl rfl (by kernel_rfl) Tryz.func8 (by kernel_rfl)
    (of_decide_eq_true (by kernel_rfl)) (by unfold Func.isWrapper; first | (rw [if_pos (by decide +kernel)]; kernel_rfl) | (rw [if_neg (by decide +kernel)]; exact ⟨rfl, rfl⟩))
    (fun os started H enc _ F => lifted os started H enc F)
theorem proved : Rows.PressSqueezesUptoSaid := over
#print axioms proved
end Go.Proofs.YtkdgfioigkijgaaGreat.pressSqueezesU
namespace Go.Proofs.YtkdgfioigkijgaaGreat
/-- The row, under a short name, for the claim. -/
theorem pressSqueezesUpto_holds : Rows.PressSqueezesUptoSaid := pressSqueezesU.proved
end Go.Proofs.YtkdgfioigkijgaaGreat
