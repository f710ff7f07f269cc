/- The row of BitsReads, out of its walk. No condition. -/
import Derived.Test.YtpblcbfjlmekeaaRows
import Derived.Test.YtpblcbfjlmekeaaOpen
import Derived.Test.YtpblcbfjlmekeaaReadsLaw
import Derived.WalkKit
import Derived.ProofKit
import Derived.OpenShut
import Derived.ShutString
import Derived.ChangeOld
import Derived.Below
import Derived.SizedLaws
import Derived.JoinedCond
import Derived.Lib.SmallJoins
import Derived.Deep.Strs
namespace Go.Proofs.Ytpblcbfjlmekeaa.bitsReads
open Go.ChangeShapes Go.WideShapes Go.ChangeAt Go.RowKit Go.Proofs.Ytpblcbfjlmekeaa.Lib Go.Proofs.Ytpblcbfjlmekeaa.Open
open Go.ChangeMaps (open_string shut_string)
set_option linter.unusedVariables false
set_option linter.unusedSimpArgs false
theorem own : ownKnob Try.prog.godebug = none := by kernel_rfl
theorem laidOut : laidOutB Try.prog = true := by kernel_rfl
set_option maxRecDepth 100000 in
theorem lifted (os : Os) (started : os.Started) (H : Type) (enc : TypeId × Value → H) :
    ReturnsInHanded {} Try.checked os 5 .any (Rows.bitsReadsSpec.pre6 enc Try.prog Try.f5 Rows.bitsReadsRow.domain false) (Rows.bitsReadsSpec.post enc Try.prog Try.f5 false true false false) := by
  refine returnsInHanded_of_change_sized (C := Try.checked) own started (by kernel_rfl) Try.func5
    (ChangeSpec.witness6 (enc := enc) (C := Try.checked) false ⟨#[], #[.slice none 0 0], []⟩ 8 (by kernel_rfl) (by kernel_rfl) (by kernel_rfl) (by kernel_rfl)) ?_
  intro W base args ds gs before hval0 hW hcnd hsz0 _
  have hsz : (DataW.weightsEach Try.prog (Try.f5.params.toList ++ Rows.bitsReadsSpec.plain.varTypes Try.prog) (ds ++ gs)).all (· ≤ reachBytes) = true := hsz0
  have hval : ∀ (j : Nat) t v, Try.f5.params[j]? = some t → args[j]? = some v → Value.okWide Try.prog W .any base t v := hval0
  have hW' := hW
  obtain ⟨p, q, hA0, hV, rfl, hfz, hnd⟩ := hW
  have hA : DataW.TrodAll enc Try.prog W 0 (fun _ => true) true Try.f5.params.toList args.toList ds p := hA0
  rw [Try.params5] at hA hval hsz
  obtain ⟨v0, vs0, d0, ds0, p0, q0, hargs, rfl, rfl, h0, r0⟩ := trodAll_cons hA
  obtain ⟨rfl, rfl, rfl⟩ := trodAll_nil r0
  obtain rfl : args = #[v0] := by cases args; simp_all
  obtain ⟨rfl, rfl⟩ := trodVars_none hV
  obtain ⟨a0, len0, cap0, rfl⟩ := okWide_slice Try.underlying26 (hval 0 26 v0 rfl rfl)
  have k0 := h0
  have lt0 : ∀ x ∈ p0, x.block < W.heap.size := by obtain ⟨m, hm⟩ := k0; exact DataW.trod_lt m _ _ _ hm
  have s0 := hsz
  obtain ⟨x0, b0, o0, _, _, _, s0', _, f0, _⟩ := open_rows_w (α := Bits.Opn) Bits.Opn.cells 4 Bits.opn_len (by kernel_rfl) (by decide) (Bits.Opn.ok W) (fun _ => 0) (fun dd => (dd.weights Try.prog 34).all (· ≤ reachBytes) = true) (fun n cs x h hw => by
    obtain ⟨y0, y1, y2, y3, m, rfl, hl, g0, g1, g2, g3⟩ := Go.Joins.trod_struct4 Try.underlying34 h
    have hl4 : cs.length = 4 := hl.trans (by kernel_rfl)
    match cs, hl4 with
    | [u0, u1, u2, u3], _ =>
      have g0' : DataW.trod enc Try.prog W 0 (fun _ => true) true m 3 [u0] = some y0 := g0
      have g1' : DataW.trod enc Try.prog W 0 (fun _ => true) true m 22 [u1] = some y1 := g1
      have g2' : DataW.trod enc Try.prog W 0 (fun _ => true) true m 3 [u2] = some y2 := g2
      have g3' : DataW.trod enc Try.prog W 0 (fun _ => true) true m 32 [u3] = some y3 := g3
      obtain ⟨a, e0, _, w0⟩ := DataW.trod_int Try.underlying3 g0'
      obtain ⟨b, e1, _, w1⟩ := DataW.trod_int Try.underlying22 g1'
      obtain ⟨d, e2, _, w2⟩ := DataW.trod_int Try.underlying3 g2'
      obtain ⟨A, l, c, rfl, _⟩ := sl_form Try.underlying32 g3'
      simp at e0 e1 e2
      subst e0 e1 e2
      obtain ⟨bs, qb, hs, hw8, _⟩ := open_nums (k := .u8) Try.underlying32 Try.underlying5 (by kernel_rfl) ⟨m, g3'⟩
      have hz := sized_nums (agg_weights Try.underlying34 hw) (j := 3) (t := 32) rfl rfl Try.underlying32 Try.underlying5 (by kernel_rfl) (B := 1) (by kernel_rfl) ⟨m, g3'⟩
      exact ⟨⟨a, b, d, A, l, c⟩, rfl, ⟨bs, qb, hs, fun x hx => bounds_u8 (hw8 x hx), by show l ≤ _; omega⟩, Nat.zero_le _⟩) Try.underlying26 h0 (fun es sp e x hx => row_weights hsz (j := 0) (t := 26) rfl (by rw [e]; rfl) Try.underlying26 hx)
  have y0 : len0 * 48 ≤ 140737488351232 := sized_rows hsz (j := 0) (t := 26) rfl rfl Try.underlying26 (by kernel_rfl) h0
  clear hA0 hval0 hsz0 hsz
  refine (Bits.reads_law a0 len0 cap0 x0 b0 W o0 s0' f0 y0).mono fun e W' ⟨he, bel⟩ => ?_
  subst he
  exact ⟨_, rfl, _, _, _, [], _, [], hW', trodAll_mk1 (shut_bool Try.underlying4 _), (trodAll_cons_mk (Below.trod laidOut (by kernel_rfl) (of_decide_eq_true (by kernel_rfl)) k0 bel lt0) trodAll_mk0), rfl, bel.frame _, fun h => by cases h⟩
theorem over : Rows.bitsReadsRow.holds Try.pinned (OpenSpec.ofChange Rows.bitsReadsSpec) :=
  OpenClaim.holds_of_wide 5 Try.f5 rfl rfl rfl rfl rfl rfl rfl ⟨rfl, rfl, rfl, rfl, rfl⟩ rfl rfl rfl rfl rfl (by kernel_rfl) Try.func5 (by kernel_rfl)
    (of_decide_eq_true (by kernel_rfl)) (by unfold Func.isWrapper; first | (rw [if_pos (by decide +kernel)]; kernel_rfl) | (rw [if_neg (by decide +kernel)]; exact ⟨rfl, rfl⟩))
    (fun os started H enc _ => lifted os started H enc)
theorem proved : Rows.BitsReadsSaid := over
#print axioms proved
end Go.Proofs.Ytpblcbfjlmekeaa.bitsReads
namespace Go.Proofs.Ytpblcbfjlmekeaa
/-- The row, under a short name, for the claim. -/
theorem bitsReads_holds : Rows.BitsReadsSaid := bitsReads.proved
end Go.Proofs.Ytpblcbfjlmekeaa
