/- The row of HeadWrites where what it reads is of bulk at most 1048576, out of its walk. No condition but that. -/
import Derived.Test.YtofajcifjmhomaaRows
import Derived.Test.YtofajcifjmhomaaM01
import Derived.Test.YtofajcifjmhomaaM04
import Derived.WalkKit
import Derived.ProofKit
import Derived.OpenShut
import Derived.ShutString
import Derived.ChangeOld
import Derived.Below
import Derived.SizedLaws
import Derived.JoinedCond
import Derived.Lib.SmallJoins
import Derived.Deep.Strs
namespace Go.Proofs.Ytofajcifjmhomaa.headWritesU
open Go.ChangeShapes Go.WideShapes Go.ChangeAt Go.RowKit Go.Proofs.Ytofajcifjmhomaa.Lib Go.Proofs.Ytofajcifjmhomaa.Open
open Go.ChangeMaps (open_string shut_string)
set_option linter.unusedVariables false
set_option linter.unusedSimpArgs false
theorem own : ownKnob Try.prog.godebug = none := by kernel_rfl
theorem laidOut : laidOutB Try.prog = true := by kernel_rfl
set_option maxRecDepth 100000 in
theorem lifted (os : Os) (started : os.Started) (H : Type) (enc : TypeId × Value → H) (F : Stop.Interp) :
    ReturnsInHanded {} Try.checked os 9 .any ((Rows.OpenSpec.upto Rows.headWritesSpec).pre6 enc Try.prog Try.f9 Rows.headWritesUptoRow.domain false) (((Rows.OpenSpec.upto Rows.headWritesSpec).at F).post enc Try.prog Try.f9 false true false false) := by
  refine returnsInHanded_of_cond (C := Try.checked) (s := Rows.OpenSpec.upto Rows.headWritesSpec) (k := Rows.uptoSmall) rfl own started (by kernel_rfl) Try.func9
    (OpenSpec.witness (enc := enc) (C := Try.checked) (s := Rows.OpenSpec.upto Rows.headWritesSpec) (k := Rows.uptoSmall) rfl false ⟨#[], #[.agg #[.slice none 0 0, .slice none 0 0, .slice none 0 0]], []⟩ 8 (by kernel_rfl) (by kernel_rfl) (by kernel_rfl)
      (x := ([.agg [.nil, .nil, .nil]], [], [])) (by kernel_rfl) rfl (by kernel_rfl)) ?_
  intro W base args ds gs before hval0 hW _ hk0 _
  have hk := of_decide_eq_true hk0
  have hval : ∀ (j : Nat) t v, Try.f9.params[j]? = some t → args[j]? = some v → Value.okWide Try.prog W .any base t v := hval0
  have hW' := hW
  obtain ⟨p, q, hA0, hV, rfl, hfz, hnd⟩ := hW
  have hA : DataW.TrodAll enc Try.prog W 0 (fun _ => true) true Try.f9.params.toList args.toList ds p := hA0
  rw [Try.params9] at hA hval
  obtain ⟨v0, vs0, d0, ds0, p0, q0, hargs, rfl, rfl, h0, r0⟩ := trodAll_cons hA
  obtain ⟨rfl, rfl, rfl⟩ := trodAll_nil r0
  obtain rfl : args = #[v0] := by cases args; simp_all
  obtain ⟨rfl, rfl⟩ := trodVars_none hV
  replace hk : Rows.uptoBulkAll [d0] ≤ 1048576 := by simpa using hk
  have k0 := h0
  have lt0 : ∀ x ∈ p0, x.block < W.heap.size := by obtain ⟨m, hm⟩ := k0; exact DataW.trod_lt m _ _ _ hm
  have u0 : Rows.uptoBulk d0 ≤ 1048576 := Nat.le_trans (bulks.part_le (by simp)) hk
  obtain ⟨c0, c1, c2, y0', y1', y2', m2, rfl, rfl, _, g0, g1, g2⟩ := Go.Joins.open_agg3 Try.underlying74 (by kernel_rfl) (by kernel_rfl) (hval 0 74 v0 rfl rfl) h0
  have ua : Rows.uptoBulk y0'.1 ≤ 1048576 := Nat.le_trans (bulks.part_le (l := [y0'.1, y1'.1, y2'.1]) (by simp)) (by simp only [Rows.uptoBulk] at u0; omega)
  have ub : Rows.uptoBulk y1'.1 ≤ 1048576 := Nat.le_trans (bulks.part_le (l := [y0'.1, y1'.1, y2'.1]) (by simp)) (by simp only [Rows.uptoBulk] at u0; omega)
  have uc : Rows.uptoBulk y2'.1 ≤ 1048576 := Nat.le_trans (bulks.part_le (l := [y0'.1, y1'.1, y2'.1]) (by simp)) (by simp only [Rows.uptoBulk] at u0; omega)
  obtain ⟨A, n, c, rfl, _⟩ := sl_form Try.underlying72 g0
  obtain ⟨B, l, d, rfl, _⟩ := sl_form Try.underlying22 g1
  obtain ⟨D, k, f, rfl, _⟩ := sl_form Try.underlying22 g2
  obtain ⟨xa, oa, l1, l2, l3, l4, l5, l6, _, l8⟩ := open_rows (α := Bool) (fun b => [Value.bool b]) 1 (fun _ => rfl) (by kernel_rfl) (by decide) (fun _ => True) (fun _ => 1) (fun n cs x h => by
    obtain ⟨b, e0, _⟩ := DataW.trod_bool Try.underlying4 h
    exact ⟨b, by simpa using e0, trivial, bulks.one_le _⟩) Try.underlying72 ⟨m2, g0⟩
  have e1 : ∀ ys : List Bool, ys.flatMap (fun b => [Value.bool b]) = ys.map Value.bool := fun ys => by induction ys <;> simp_all
  have e2 : ∀ ys : List Bool, (ys.map (fun _ => 1)).sum = ys.length := fun ys => by induction ys <;> simp_all [Nat.add_comm]
  rw [e1] at l5
  rw [e2] at l8
  have fa : SlArg W A n c (xa.map Value.bool) oa := ⟨by simpa using l1, l2, l3, l4, l5, l6⟩
  obtain ⟨xb, qb, ob, fb, cb⟩ := open_nums (k := .i64) Try.underlying22 Try.underlying3 (by kernel_rfl) ⟨m2, g1⟩
  obtain ⟨xc, qc, oc, fc, cc⟩ := open_nums (k := .i64) Try.underlying22 Try.underlying3 (by kernel_rfl) ⟨m2, g2⟩
  clear hA0 hval0
  refine (Head.writes_walk W A n c xa oa fa (by omega) B l d xb qb ob (by omega) D k f xc qc oc (by omega)).mono fun e W' ⟨he, bel⟩ => ?_
  subst he
  exact ⟨_, rfl, _, _, _, [], _, [], hW', trodAll_mk1 (shut_bool Try.underlying4 _), (trodAll_cons_mk (Below.trod laidOut (by kernel_rfl) (of_decide_eq_true (by kernel_rfl)) k0 bel lt0) trodAll_mk0), rfl, bel.frame _, fun h => by cases h⟩
theorem over : Rows.headWritesUptoRow.holds Try.pinned (Rows.OpenSpec.upto Rows.headWritesSpec) :=
  OpenClaim.holds_of_cond 9 Try.f9 rfl rfl rfl rfl rfl rfl rfl ⟨rfl, rfl, rfl, rfl, rfl⟩ rfl rfl rfl rfl rfl (by kernel_rfl) Try.func9 (by kernel_rfl)
    (of_decide_eq_true (by kernel_rfl)) (by unfold Func.isWrapper; first | (rw [if_pos (by decide +kernel)]; kernel_rfl) | (rw [if_neg (by decide +kernel)]; exact ⟨rfl, rfl⟩))
    (fun os started H enc _ F => lifted os started H enc F)
theorem proved : Rows.HeadWritesUptoSaid := over
#print axioms proved
end Go.Proofs.Ytofajcifjmhomaa.headWritesU
namespace Go.Proofs.Ytofajcifjmhomaa
/-- The row, under a short name, for the claim. -/
theorem headWritesUpto_holds : Rows.HeadWritesUptoSaid := headWritesU.proved
end Go.Proofs.Ytofajcifjmhomaa
