/- The row of CodeDecodes, out of its walk. No condition. -/
import Derived.Test.YtncjckhcellehaaRows
import Derived.Test.YtncjckhcellehaaOpen
import Derived.Test.YtncjckhcellehaaCodeDecodes
import Derived.Test.YtncjckhcellehaaOpen5
import Derived.WalkKit
import Derived.ProofKit
import Derived.OpenShut
import Derived.ShutString
import Derived.ChangeOld
import Derived.Below
import Derived.SizedLaws
import Derived.JoinedCond
import Derived.Lib.SmallJoins
import Derived.Deep.Strs
namespace Go.Proofs.Ytncjckhcellehaa.codeDecodes
open Go.ChangeShapes Go.WideShapes Go.ChangeAt Go.RowKit Go.Proofs.Ytncjckhcellehaa.Lib Go.Proofs.Ytncjckhcellehaa.Open
open Go.ChangeMaps (open_string shut_string)
set_option linter.unusedVariables false
set_option linter.unusedSimpArgs false
theorem own : ownKnob Try.prog.godebug = none := by kernel_rfl
theorem laidOut : laidOutB Try.prog = true := by kernel_rfl
set_option maxRecDepth 100000 in
theorem lifted (os : Os) (started : os.Started) (H : Type) (enc : TypeId × Value → H) :
    ReturnsInHanded {} Try.checked os 5 .any (Rows.codeDecodesSpec.pre6 enc Try.prog Try.f5 Rows.codeDecodesRow.domain false) (Rows.codeDecodesSpec.post enc Try.prog Try.f5 false true false false) := by
  refine returnsInHanded_of_change_sized (C := Try.checked) own started (by kernel_rfl) Try.func5
    (ChangeSpec.witness6 (enc := enc) (C := Try.checked) false ⟨#[], #[.int .i64 0, .slice none 0 0], []⟩ 8 (by kernel_rfl) (by kernel_rfl) (by kernel_rfl) (by kernel_rfl)) ?_
  intro W base args ds gs before hval0 hW hcnd hsz0 _
  have hsz : (DataW.weightsEach Try.prog (Try.f5.params.toList ++ Rows.codeDecodesSpec.plain.varTypes Try.prog) (ds ++ gs)).all (· ≤ reachBytes) = true := hsz0
  have hval : ∀ (j : Nat) t v, Try.f5.params[j]? = some t → args[j]? = some v → Value.okWide Try.prog W .any base t v := hval0
  have hW' := hW
  obtain ⟨p, q, hA0, hV, rfl, hfz, hnd⟩ := hW
  have hA : DataW.TrodAll enc Try.prog W 0 (fun _ => true) true Try.f5.params.toList args.toList ds p := hA0
  rw [Try.params5] at hA hval hsz
  obtain ⟨v0, vs0, d0, ds0, p0, q0, hargs, rfl, rfl, h0, r0⟩ := trodAll_cons hA
  obtain ⟨v1, vs1, d1, ds1, p1, q1, rfl, rfl, rfl, h1, r1⟩ := trodAll_cons r0
  obtain ⟨rfl, rfl, rfl⟩ := trodAll_nil r1
  obtain rfl : args = #[v0, v1] := by cases args; simp_all
  obtain ⟨rfl, rfl⟩ := trodVars_none hV
  obtain ⟨a0, rfl, rfl, rfl, w0⟩ := open_int Try.underlying3 (hval 0 3 v0 rfl rfl) h0
  obtain ⟨a1, len1, cap1, rfl⟩ := okWide_slice Try.underlying47 (hval 1 47 v1 rfl rfl)
  have k1 := h1
  have lt1 : ∀ x ∈ p1, x.block < W.heap.size := by obtain ⟨m, hm⟩ := k1; exact DataW.trod_lt m _ _ _ hm
  have s1 := hsz
  obtain ⟨x1, b1, o1, _, _, _, s1', _, f1, _⟩ := open_rows_w (α := Code.Opd) Code.Opd.cells 5 Code.opd_len (by kernel_rfl) (by decide) (Code.Opd.ok W) (fun _ => 0) (fun dd => (dd.weights Try.prog 57).all (· ≤ reachBytes) = true) (fun n cs x h hw => by
    obtain ⟨y0, y1, y2, y3, y4, m, rfl, hl, g0, g1, g2, g3, g4⟩ := trod_struct5 Try.underlying57 h
    have hl5 : cs.length = 5 := hl.trans (by kernel_rfl)
    match cs, hl5 with
    | [u0, u1, u2, u3, u4], _ =>
      have g0' : DataW.trod enc Try.prog W 0 (fun _ => true) true m 3 [u0] = some y0 := g0
      have g1' : DataW.trod enc Try.prog W 0 (fun _ => true) true m 32 [u1] = some y1 := g1
      have g2' : DataW.trod enc Try.prog W 0 (fun _ => true) true m 3 [u2] = some y2 := g2
      have g3' : DataW.trod enc Try.prog W 0 (fun _ => true) true m 23 [u3] = some y3 := g3
      have g4' : DataW.trod enc Try.prog W 0 (fun _ => true) true m 4 [u4] = some y4 := g4
      obtain ⟨a, e0, _, w0⟩ := DataW.trod_int Try.underlying3 g0'
      obtain ⟨d, e2, _, w2⟩ := DataW.trod_int Try.underlying3 g2'
      obtain ⟨ob, e4, _⟩ := DataW.trod_bool Try.underlying4 g4'
      obtain ⟨A, l, c, rfl, _⟩ := sl_form Try.underlying32 g1'
      obtain ⟨A2, l2, c2, rfl, _⟩ := sl_form Try.underlying23 g3'
      simp at e0 e2 e4
      subst e0 e2 e4
      obtain ⟨bs, qb, hs, hw8, _⟩ := open_nums (k := .u8) Try.underlying32 Try.underlying5 (by kernel_rfl) ⟨m, g1'⟩
      obtain ⟨ls, ql, hs2, _, _⟩ := open_nums (k := .i64) Try.underlying23 Try.underlying3 (by kernel_rfl) ⟨m, g3'⟩
      have hz := sized_nums (agg_weights Try.underlying57 hw) (j := 1) (t := 32) rfl rfl Try.underlying32 Try.underlying5 (by kernel_rfl) (B := 1) (by kernel_rfl) ⟨m, g1'⟩
      have hz2 := sized_nums (agg_weights Try.underlying57 hw) (j := 3) (t := 23) rfl rfl Try.underlying23 Try.underlying3 (by kernel_rfl) (B := 8) (by kernel_rfl) ⟨m, g3'⟩
      exact ⟨⟨a, A, l, c, d, A2, l2, c2, ob⟩, rfl, ⟨⟨bs, qb, hs, fun x hx => bounds_u8 (hw8 x hx), by show l ≤ _; omega⟩, ⟨ls, ql, hs2, by show l2 * 8 ≤ _; omega⟩⟩, Nat.zero_le _⟩) Try.underlying47 h1 (fun es sp e x hx => row_weights hsz (j := 1) (t := 47) rfl (by rw [e]; rfl) Try.underlying47 hx)
  have y1 : len1 * 72 ≤ 140737488351232 := sized_rows hsz (j := 1) (t := 47) rfl rfl Try.underlying47 (by kernel_rfl) h1
  clear hA0 hval0 hsz0 hsz
  refine (Code.decodes_walk a0 a1 len1 cap1 x1 b1 W o1 s1' f1 y1).mono fun e W' ⟨he, bel⟩ => ?_
  subst he
  exact ⟨_, rfl, _, _, _, [], _, [], hW', trodAll_mk1 (shut_bool Try.underlying4 _), (trodAll_cons_mk (shut_int Try.underlying3 w0) (trodAll_cons_mk (Below.trod laidOut (by kernel_rfl) (of_decide_eq_true (by kernel_rfl)) k1 bel lt1) trodAll_mk0)), rfl, bel.frame _, fun h => by cases h⟩
theorem over : Rows.codeDecodesRow.holds Try.pinned (OpenSpec.ofChange Rows.codeDecodesSpec) :=
  OpenClaim.holds_of_wide 5 Try.f5 rfl rfl rfl rfl rfl rfl rfl ⟨rfl, rfl, rfl, rfl, rfl⟩ rfl rfl rfl rfl rfl (by kernel_rfl) Try.func5 (by kernel_rfl)
    (of_decide_eq_true (by kernel_rfl)) (by unfold Func.isWrapper; first | (rw [if_pos (by decide +kernel)]; kernel_rfl) | (rw [if_neg (by decide +kernel)]; exact ⟨rfl, rfl⟩))
    (fun os started H enc _ => lifted os started H enc)
theorem proved : Rows.CodeDecodesSaid := over
#print axioms proved
end Go.Proofs.Ytncjckhcellehaa.codeDecodes
namespace Go.Proofs.Ytncjckhcellehaa
/-- The row, under a short name, for the claim. -/
theorem codeDecodes_holds : Rows.CodeDecodesSaid := codeDecodes.proved
end Go.Proofs.Ytncjckhcellehaa
