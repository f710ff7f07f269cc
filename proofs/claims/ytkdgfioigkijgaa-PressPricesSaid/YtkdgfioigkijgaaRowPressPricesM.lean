/- The row of PressPrices, out of its walk. No condition. -/
import Derived.Test.YtkdgfioigkijgaaT01
import Derived.Test.YtkdgfioigkijgaaT02
import Derived.Test.YtkdgfioigkijgaaT03
import Derived.Test.YtkdgfioigkijgaaT04
import Derived.Test.YtkdgfioigkijgaaT05
import Derived.Test.YtkdgfioigkijgaaT06
import Derived.Test.YtkdgfioigkijgaaT07
import Derived.Test.YtkdgfioigkijgaaT08
import Derived.Test.YtkdgfioigkijgaaT09
import Derived.Test.YtkdgfioigkijgaaT10
import Derived.Test.YtkdgfioigkijgaaT11
import Derived.Test.YtkdgfioigkijgaaT12
import Derived.Test.YtkdgfioigkijgaaT13
import Derived.Test.YtkdgfioigkijgaaT14
import Derived.Test.YtkdgfioigkijgaaT15
import Derived.Test.YtkdgfioigkijgaaT16
import Derived.Test.YtkdgfioigkijgaaT17
import Derived.Test.YtkdgfioigkijgaaT18
import Derived.Test.YtkdgfioigkijgaaT19
import Derived.Test.YtkdgfioigkijgaaRows
import Derived.WalkKit
import Derived.ProofKit
import Derived.OpenShut
import Derived.ShutString
import Derived.ChangeOld
import Derived.Below
import Derived.SizedLaws
import Derived.JoinedCond
import Derived.Lib.SmallJoins
import Derived.Deep.Strs
namespace Go.Proofs.Ytkdgfioigkijgaa.pressPrices
open Go.ChangeShapes Go.WideShapes Go.ChangeAt Go.RowKit Go.Proofs.Ytkdgfioigkijgaa.Lib Go.Proofs.Ytkdgfioigkijgaa.Open
open Go.ChangeMaps (open_string shut_string)
set_option linter.unusedVariables false
set_option linter.unusedSimpArgs false
theorem own : ownKnob Try.prog.godebug = none := by kernel_rfl
theorem laidOut : laidOutB Try.prog = true := by kernel_rfl
set_option maxRecDepth 100000 in
theorem lifted (os : Os) (started : os.Started) (H : Type) (enc : TypeId × Value → H) :
    ReturnsInHanded {} Try.checked os 8 .any (Rows.pressPricesSpec.pre6 enc Try.prog Try.f8 Rows.pressPricesRow.domain false) (Rows.pressPricesSpec.post enc Try.prog Try.f8 false true false false) := by
  refine returnsInHanded_of_change_sized (C := Try.checked) own started (by kernel_rfl) Try.func8
    (ChangeSpec.witness6 (enc := enc) (C := Try.checked) false ⟨#[], #[.slice none 0 0], []⟩ 8 (by kernel_rfl) (by kernel_rfl) (by kernel_rfl) (by kernel_rfl)) ?_
  intro W base args ds gs before hval0 hW hcnd hsz0 _
  have hsz : (DataW.weightsEach Try.prog (Try.f8.params.toList ++ Rows.pressPricesSpec.plain.varTypes Try.prog) (ds ++ gs)).all (· ≤ reachBytes) = true := hsz0
  have hval : ∀ (j : Nat) t v, Try.f8.params[j]? = some t → args[j]? = some v → Value.okWide Try.prog W .any base t v := hval0
  have hW' := hW
  obtain ⟨p, q, hA0, hV, rfl, hfz, hnd⟩ := hW
  have hA : DataW.TrodAll enc Try.prog W 0 (fun _ => true) true Try.f8.params.toList args.toList ds p := hA0
  rw [Try.params8] at hA hval hsz
  obtain ⟨v0, vs0, d0, ds0, p0, q0, hargs, rfl, rfl, h0, r0⟩ := trodAll_cons hA
  obtain ⟨rfl, rfl, rfl⟩ := trodAll_nil r0
  obtain rfl : args = #[v0] := by cases args; simp_all
  obtain ⟨rfl, rfl⟩ := trodVars_none hV
  obtain ⟨a0, len0, cap0, rfl⟩ := okWide_slice Try.underlying45 (hval 0 45 v0 rfl rfl)
  have k0 := h0
  have lt0 : ∀ x ∈ p0, x.block < W.heap.size := by obtain ⟨m, hm⟩ := k0; exact DataW.trod_lt m _ _ _ hm
  have s0 := hsz
  obtain ⟨x0, b0, o0, v0', m0, n0, s0', _, f0, z0⟩ := open_rows (α := Lz.Tok) Lz.tcell 3 (fun _ => rfl) (by kernel_rfl) (by decide) (fun t => 0 ≤ t.lit ∧ t.lit ≤ 255) (fun _ => 1) (fun n cs x h => by
    obtain ⟨y0, y1, y2, m, rfl, hl, g0, g1, g2⟩ := Go.Deep.trod_struct3 Try.underlying48 h
    have hl3 : cs.length = 3 := hl.trans (by kernel_rfl)
    match cs, hl3 with
    | [u0, u1, u2], _ =>
      have g0' : DataW.trod enc Try.prog W 0 (fun _ => true) true m 5 [u0] = some y0 := g0
      have g1' : DataW.trod enc Try.prog W 0 (fun _ => true) true m 3 [u1] = some y1 := g1
      have g2' : DataW.trod enc Try.prog W 0 (fun _ => true) true m 3 [u2] = some y2 := g2
      obtain ⟨a, e0, _, w0⟩ := DataW.trod_int Try.underlying5 g0'
      obtain ⟨b, e1, _, w1⟩ := DataW.trod_int Try.underlying3 g1'
      obtain ⟨c, e2, _, w2⟩ := DataW.trod_int Try.underlying3 g2'
      simp at e0 e1 e2
      subst e0 e1 e2
      exact ⟨⟨a, b, c⟩, rfl, bounds_u8 w0, bulks.one_le _⟩) Try.underlying45 h0
  have y0' : len0 * 24 ≤ 140737488351232 := sized_rows hsz (j := 0) (t := 45) rfl rfl Try.underlying45 (by kernel_rfl) h0
  have y0 : len0 * 24 ≤ 140737488355232 := by omega
  clear hA0 hval0 hsz0 hsz
  refine (Prs.pprices_walk a0 len0 cap0 x0 b0 W o0 v0' n0 s0' f0 y0).mono fun e W' ⟨he, bel⟩ => ?_
  subst he
  exact ⟨_, rfl, _, _, _, [], _, [], hW', trodAll_mk1 (shut_bool Try.underlying4 _), (trodAll_cons_mk (Below.trod laidOut (by kernel_rfl) (of_decide_eq_true (by kernel_rfl)) k0 bel lt0) trodAll_mk0), rfl, bel.frame _, fun h => by cases h⟩
theorem over : Rows.pressPricesRow.holds Try.pinned (OpenSpec.ofChange Rows.pressPricesSpec) :=
  OpenClaim.holds_of_wide 8 Try.f8 rfl rfl rfl rfl rfl rfl rfl ⟨rfl, rfl, rfl, rfl, rfl⟩ rfl rfl rfl rfl rfl (by kernel_rfl) Try.func8 (by kernel_rfl)
    (of_decide_eq_true (by kernel_rfl)) (by unfold Func.isWrapper; first | (rw [if_pos (by decide +kernel)]; kernel_rfl) | (rw [if_neg (by decide +kernel)]; exact ⟨rfl, rfl⟩))
    (fun os started H enc _ => lifted os started H enc)
theorem proved : Rows.PressPricesSaid := over
#print axioms proved
end Go.Proofs.Ytkdgfioigkijgaa.pressPrices
namespace Go.Proofs.Ytkdgfioigkijgaa
/-- The row, under a short name, for the claim. -/
theorem pressPrices_holds : Rows.PressPricesSaid := pressPrices.proved
end Go.Proofs.Ytkdgfioigkijgaa
