/- The row of BitsBack, out of its walk. No condition. -/
import Derived.Test.YtpblcbfjlmekeaaRows
import Derived.Test.YtpblcbfjlmekeaaOpen
import Derived.Test.YtpblcbfjlmekeaaBitsBack
import Derived.WalkKit
import Derived.ProofKit
import Derived.OpenShut
import Derived.ShutString
import Derived.ChangeOld
import Derived.Below
import Derived.SizedLaws
import Derived.JoinedCond
import Derived.Lib.SmallJoins
import Derived.Deep.Strs
namespace Go.Proofs.Ytpblcbfjlmekeaa.bitsBack
open Go.ChangeShapes Go.WideShapes Go.ChangeAt Go.RowKit Go.Proofs.Ytpblcbfjlmekeaa.Lib Go.Proofs.Ytpblcbfjlmekeaa.Open
open Go.ChangeMaps (open_string shut_string)
set_option linter.unusedVariables false
set_option linter.unusedSimpArgs false
theorem own : ownKnob Try.prog.godebug = none := by kernel_rfl
theorem laidOut : laidOutB Try.prog = true := by kernel_rfl
set_option maxRecDepth 100000 in
theorem lifted (os : Os) (started : os.Started) (H : Type) (enc : TypeId × Value → H) :
    ReturnsInHanded {} Try.checked os 6 .any (Rows.bitsBackSpec.pre6 enc Try.prog Try.f6 Rows.bitsBackRow.domain false) (Rows.bitsBackSpec.post enc Try.prog Try.f6 false true false false) := by
  refine returnsInHanded_of_change_sized (C := Try.checked) own started (by kernel_rfl) Try.func6
    (ChangeSpec.witness6 (enc := enc) (C := Try.checked) false ⟨#[], #[.slice none 0 0, .slice none 0 0], []⟩ 8 (by kernel_rfl) (by kernel_rfl) (by kernel_rfl) (by kernel_rfl)) ?_
  intro W base args ds gs before hval0 hW hcnd hsz0 _
  have hsz : (DataW.weightsEach Try.prog (Try.f6.params.toList ++ Rows.bitsBackSpec.plain.varTypes Try.prog) (ds ++ gs)).all (· ≤ reachBytes) = true := hsz0
  have hval : ∀ (j : Nat) t v, Try.f6.params[j]? = some t → args[j]? = some v → Value.okWide Try.prog W .any base t v := hval0
  have hW' := hW
  obtain ⟨p, q, hA0, hV, rfl, hfz, hnd⟩ := hW
  have hA : DataW.TrodAll enc Try.prog W 0 (fun _ => true) true Try.f6.params.toList args.toList ds p := hA0
  rw [Try.params6] at hA hval hsz
  obtain ⟨v0, vs0, d0, ds0, p0, q0, hargs, rfl, rfl, h0, r0⟩ := trodAll_cons hA
  obtain ⟨v1, vs1, d1, ds1, p1, q1, rfl, rfl, rfl, h1, r1⟩ := trodAll_cons r0
  obtain ⟨rfl, rfl, rfl⟩ := trodAll_nil r1
  obtain rfl : args = #[v0, v1] := by cases args; simp_all
  obtain ⟨rfl, rfl⟩ := trodVars_none hV
  obtain ⟨a0, len0, cap0, rfl⟩ := okWide_slice Try.underlying39 (hval 0 39 v0 rfl rfl)
  have k0 := h0
  have lt0 : ∀ x ∈ p0, x.block < W.heap.size := by obtain ⟨m, hm⟩ := k0; exact DataW.trod_lt m _ _ _ hm
  have s0 := hsz
  obtain ⟨x0, b0, o0, _, _, _, s0', _, f0, _⟩ := open_rows (α := Num.Fld) Num.Fld.cells 3 Bits.fld_len (by kernel_rfl) (by decide) (fun f => f.V < 2 ^ 64 ∧ -9223372036854775808 ≤ f.N ∧ f.N ≤ 9223372036854775807) (fun _ => 0) (fun n cs x h => by
    obtain ⟨y0, y1, y2, m, rfl, hl, g0, g1, g2⟩ := Go.Deep.trod_struct3 Try.underlying46 h
    have hl3 : cs.length = 3 := hl.trans (by kernel_rfl)
    match cs, hl3 with
    | [u0, u1, u2], _ =>
      have g0' : DataW.trod enc Try.prog W 0 (fun _ => true) true m 22 [u0] = some y0 := g0
      have g1' : DataW.trod enc Try.prog W 0 (fun _ => true) true m 3 [u1] = some y1 := g1
      have g2' : DataW.trod enc Try.prog W 0 (fun _ => true) true m 4 [u2] = some y2 := g2
      obtain ⟨a, e0, _, w0⟩ := DataW.trod_int Try.underlying22 g0'
      obtain ⟨b, e1, _, w1⟩ := DataW.trod_int Try.underlying3 g1'
      obtain ⟨d, e2, _⟩ := DataW.trod_bool Try.underlying4 g2'
      simp at e0 e1 e2
      subst e0 e1 e2
      obtain ⟨k0, k1⟩ := bounds_u64 w0
      have k2 := bounds_i64 w1
      exact ⟨⟨a.toNat, b, d⟩, by simp [Num.Fld.cells, Int.toNat_of_nonneg k0], ⟨by simp only [show (2 : Nat) ^ 64 = 18446744073709551616 from by decide]; omega, k2.1, k2.2⟩, Nat.zero_le _⟩) Try.underlying39 h0
  have y0 : len0 * 24 ≤ 140737488351232 := sized_rows hsz (j := 0) (t := 39) rfl rfl Try.underlying39 (by kernel_rfl) h0
  obtain ⟨a1, len1, cap1, rfl⟩ := okWide_slice Try.underlying40 (hval 1 40 v1 rfl rfl)
  have k1 := h1
  have lt1 : ∀ x ∈ p1, x.block < W.heap.size := by obtain ⟨m, hm⟩ := k1; exact DataW.trod_lt m _ _ _ hm
  have s1 := hsz
  obtain ⟨x1, b1, o1, f1, c1⟩ := open_nums (k := .i64) Try.underlying40 Try.underlying3 (by kernel_rfl) h1
  have y1 : len1 * 8 ≤ 140737488351232 := sized_nums hsz (j := 1) (t := 40) rfl rfl Try.underlying40 Try.underlying3 (by kernel_rfl) (by kernel_rfl) h1
  clear hA0 hval0 hsz0 hsz
  refine (Bits.back_law a0 len0 cap0 x0 b0 a1 len1 cap1 x1 b1 W o0 s0' f0 y0 o1 f1 y1).mono fun e W' ⟨he, bel⟩ => ?_
  subst he
  exact ⟨_, rfl, _, _, _, [], _, [], hW', trodAll_mk1 (shut_bool Try.underlying4 _), (trodAll_cons_mk (Below.trod laidOut (by kernel_rfl) (of_decide_eq_true (by kernel_rfl)) k0 bel lt0) (trodAll_cons_mk (Below.trod laidOut (by kernel_rfl) (of_decide_eq_true (by kernel_rfl)) k1 bel lt1) trodAll_mk0)), rfl, bel.frame _, fun h => by cases h⟩
theorem over : Rows.bitsBackRow.holds Try.pinned (OpenSpec.ofChange Rows.bitsBackSpec) :=
  OpenClaim.holds_of_wide 6 Try.f6 rfl rfl rfl rfl rfl rfl rfl ⟨rfl, rfl, rfl, rfl, rfl⟩ rfl rfl rfl rfl rfl (by kernel_rfl) Try.func6 (by kernel_rfl)
    (of_decide_eq_true (by kernel_rfl)) (by unfold Func.isWrapper; first | (rw [if_pos (by decide +kernel)]; kernel_rfl) | (rw [if_neg (by decide +kernel)]; exact ⟨rfl, rfl⟩))
    (fun os started H enc _ => lifted os started H enc)
theorem proved : Rows.BitsBackSaid := over
#print axioms proved
end Go.Proofs.Ytpblcbfjlmekeaa.bitsBack
namespace Go.Proofs.Ytpblcbfjlmekeaa
/-- The row, under a short name, for the claim. -/
theorem bitsBack_holds : Rows.BitsBackSaid := bitsBack.proved
end Go.Proofs.Ytpblcbfjlmekeaa
