/- The row of LzLeast where what it reads is of bulk at most 1048576, out of its walk. No condition but that. -/
import Derived.Test.YtbfdokklhdmmoaaRows
import Derived.Test.YtbfdokklhdmmoaaOpen
import Derived.Test.YtbfdokklhdmmoaaLzLeast2
import Derived.WalkKit
import Derived.ProofKit
import Derived.OpenShut
import Derived.ShutString
import Derived.ChangeOld
import Derived.Below
import Derived.SizedLaws
import Derived.JoinedCond
import Derived.Lib.SmallJoins
import Derived.Deep.Strs
namespace Go.Proofs.Ytbfdokklhdmmoaa.lzLeastU
open Go.ChangeShapes Go.WideShapes Go.ChangeAt Go.RowKit Go.Proofs.Ytbfdokklhdmmoaa.Lib Go.Proofs.Ytbfdokklhdmmoaa.Open
open Go.ChangeMaps (open_string shut_string)
set_option linter.unusedVariables false
set_option linter.unusedSimpArgs false
theorem own : ownKnob Try.prog.godebug = none := by kernel_rfl
theorem laidOut : laidOutB Try.prog = true := by kernel_rfl
set_option maxRecDepth 100000 in
theorem lifted (os : Os) (started : os.Started) (H : Type) (enc : TypeId × Value → H) (F : Stop.Interp) :
    ReturnsInHanded {} Try.checked os 10 .any ((Rows.OpenSpec.upto Rows.lzLeastSpec).pre6 enc Try.prog Try.f10 Rows.lzLeastUptoRow.domain false) (((Rows.OpenSpec.upto Rows.lzLeastSpec).at F).post enc Try.prog Try.f10 false true false false) := by
  refine returnsInHanded_of_cond (C := Try.checked) (s := Rows.OpenSpec.upto Rows.lzLeastSpec) (k := Rows.uptoSmall) rfl own started (by kernel_rfl) Try.func10
    (OpenSpec.witness (enc := enc) (C := Try.checked) (s := Rows.OpenSpec.upto Rows.lzLeastSpec) (k := Rows.uptoSmall) rfl false ⟨#[], #[.slice none 0 0, .agg #[.int .i64 0, .int .i64 0, .bool false], .agg #[.int .i64 0, .int .i64 0, .int .i64 0]], []⟩ 8 (by kernel_rfl) (by kernel_rfl) (by kernel_rfl)
      (x := ([.nil, .agg [.lit (.int .i64 0), .lit (.int .i64 0), .lit (.bool false)], .agg [.lit (.int .i64 0), .lit (.int .i64 0), .lit (.int .i64 0)]], [], [])) (by kernel_rfl) rfl (by kernel_rfl)) ?_
  intro W base args ds gs before hval0 hW _ hk0 _
  have hk := of_decide_eq_true hk0
  have hval : ∀ (j : Nat) t v, Try.f10.params[j]? = some t → args[j]? = some v → Value.okWide Try.prog W .any base t v := hval0
  have hW' := hW
  obtain ⟨p, q, hA0, hV, rfl, hfz, hnd⟩ := hW
  have hA : DataW.TrodAll enc Try.prog W 0 (fun _ => true) true Try.f10.params.toList args.toList ds p := hA0
  rw [Try.params10] at hA hval
  obtain ⟨v0, vs0, d0, ds0, p0, q0, hargs, rfl, rfl, h0, r0⟩ := trodAll_cons hA
  obtain ⟨v1, vs1, d1, ds1, p1, q1, rfl, rfl, rfl, h1, r1⟩ := trodAll_cons r0
  obtain ⟨v2, vs2, d2, ds2, p2, q2, rfl, rfl, rfl, h2, r2⟩ := trodAll_cons r1
  obtain ⟨rfl, rfl, rfl⟩ := trodAll_nil r2
  obtain rfl : args = #[v0, v1, v2] := by cases args; simp_all
  obtain ⟨rfl, rfl⟩ := trodVars_none hV
  replace hk : Rows.uptoBulkAll [d0, d1, d2] ≤ 1048576 := by simpa using hk
  obtain ⟨a0, len0, cap0, rfl⟩ := okWide_slice Try.underlying32 (hval 0 32 v0 rfl rfl)
  have k0 := h0
  have lt0 : ∀ x ∈ p0, x.block < W.heap.size := by obtain ⟨m, hm⟩ := k0; exact DataW.trod_lt m _ _ _ hm
  have u0 : Rows.uptoBulk d0 ≤ 1048576 := Nat.le_trans (bulks.part_le (by simp)) hk
  obtain ⟨x0, b0, o0, f0, c0⟩ := open_nums (k := .u8) Try.underlying32 Try.underlying5 (by kernel_rfl) h0
  have y0 : len0 ≤ 1048576 := by omega
  have k1 := h1
  have lt1 : ∀ x ∈ p1, x.block < W.heap.size := by obtain ⟨m, hm⟩ := k1; exact DataW.trod_lt m _ _ _ hm
  obtain ⟨c0, c1, c2, y0', y1', y2', m2, rfl, _, _, g0, g1, g2⟩ := Go.Joins.open_agg3 Try.underlying44 (by kernel_rfl) (by kernel_rfl) (hval 1 44 v1 rfl rfl) h1
  obtain ⟨ka, e0, _, _⟩ := DataW.trod_int Try.underlying3 g0
  obtain ⟨kb, e1, _, _⟩ := DataW.trod_int Try.underlying3 g1
  obtain ⟨kz, e2, _⟩ := DataW.trod_bool Try.underlying4 g2
  simp at e0 e1 e2
  subst e0 e1 e2
  have k2 := h2
  have lt2 : ∀ x ∈ p2, x.block < W.heap.size := by obtain ⟨m, hm⟩ := k2; exact DataW.trod_lt m _ _ _ hm
  obtain ⟨a0', a1', a2', z0', z1', z2', m3, rfl, _, _, f0', f1', f2'⟩ := Go.Joins.open_agg3 Try.underlying65 (by kernel_rfl) (by kernel_rfl) (hval 2 65 v2 rfl rfl) h2
  obtain ⟨pa, e0, _, wa⟩ := DataW.trod_int Try.underlying3 f0'
  obtain ⟨pb, e1, _, wb⟩ := DataW.trod_int Try.underlying3 f1'
  obtain ⟨pz, e2, _, wz⟩ := DataW.trod_int Try.underlying3 f2'
  simp at e0 e1 e2
  subst e0 e1 e2
  clear hA0 hval0
  refine (Lz.least_walk a0 len0 cap0 x0 b0 ⟨ka, kb, kz⟩ ⟨pa, pb, pz⟩ W o0 f0 y0  ).mono fun e W' ⟨he, bel⟩ => ?_
  subst he
  exact ⟨_, rfl, _, _, _, [], _, [], hW', trodAll_mk1 (shut_bool Try.underlying4 _), (trodAll_cons_mk (Below.trod laidOut (by kernel_rfl) (of_decide_eq_true (by kernel_rfl)) k0 bel lt0) (trodAll_cons_mk (Below.trod laidOut (by kernel_rfl) (of_decide_eq_true (by kernel_rfl)) k1 bel lt1) (trodAll_cons_mk (Below.trod laidOut (by kernel_rfl) (of_decide_eq_true (by kernel_rfl)) k2 bel lt2) trodAll_mk0))), rfl, bel.frame _, fun h => by cases h⟩
theorem over : Rows.lzLeastUptoRow.holds Try.pinned (Rows.OpenSpec.upto Rows.lzLeastSpec) :=
  OpenClaim.holds_of_cond 10 Try.f10 rfl rfl rfl rfl rfl rfl rfl ⟨rfl, rfl, rfl, rfl, rfl⟩ rfl rfl rfl rfl rfl (by kernel_rfl) Try.func10 (by kernel_rfl)
    (of_decide_eq_true (by kernel_rfl)) (by unfold Func.isWrapper; first | (rw [if_pos (by decide +kernel)]; kernel_rfl) | (rw [if_neg (by decide +kernel)]; exact ⟨rfl, rfl⟩))
    (fun os started H enc _ F => lifted os started H enc F)
theorem proved : Rows.LzLeastUptoSaid := over
#print axioms proved
end Go.Proofs.Ytbfdokklhdmmoaa.lzLeastU
namespace Go.Proofs.Ytbfdokklhdmmoaa
/-- The row, under a short name, for the claim. -/
theorem lzLeastUpto_holds : Rows.LzLeastUptoSaid := lzLeastU.proved
end Go.Proofs.Ytbfdokklhdmmoaa
