/- The row of BlockCosts, out of its walk. No condition. -/
import Derived.Test.YtkdgfioigkijgaaGreatG01
import Derived.Test.YtkdgfioigkijgaaGreatG02
import Derived.Test.YtkdgfioigkijgaaGreatG03
import Derived.Test.YtkdgfioigkijgaaGreatG04
import Derived.Test.YtkdgfioigkijgaaGreatG05
import Derived.Test.YtkdgfioigkijgaaGreatG06
import Derived.Test.YtkdgfioigkijgaaGreatG07
import Derived.Test.YtkdgfioigkijgaaGreatG08
import Derived.Test.YtkdgfioigkijgaaGreatG09
import Derived.Test.YtkdgfioigkijgaaGreatG10
import Derived.Test.YtkdgfioigkijgaaGreatG11
import Derived.Test.YtkdgfioigkijgaaGreatG12
import Derived.Test.YtkdgfioigkijgaaGreatG13
import Derived.Test.YtkdgfioigkijgaaGreatG14
import Derived.Test.YtkdgfioigkijgaaGreatG15
import Derived.Test.YtkdgfioigkijgaaGreatG16
import Derived.Test.YtkdgfioigkijgaaGreatG17
import Derived.Test.YtkdgfioigkijgaaGreatG18
import Derived.Test.YtkdgfioigkijgaaGreatG19
import Derived.Test.YtkdgfioigkijgaaGreatG20
import Derived.Test.YtkdgfioigkijgaaGreatRows
import Derived.WalkKit
import Derived.ProofKit
import Derived.OpenShut
import Derived.ShutString
import Derived.ChangeOld
import Derived.Below
import Derived.SizedLaws
import Derived.JoinedCond
import Derived.Lib.SmallJoins
import Derived.Deep.Strs
namespace Go.Proofs.YtkdgfioigkijgaaGreat.blockCosts
open Go.ChangeShapes Go.WideShapes Go.ChangeAt Go.RowKit Go.Proofs.YtkdgfioigkijgaaGreat.Lib Go.Proofs.YtkdgfioigkijgaaGreat.Open
open Go.ChangeMaps (open_string shut_string)
set_option linter.unusedVariables false
set_option linter.unusedSimpArgs false
theorem own : ownKnob Tryz.prog.godebug = none := by kernel_rfl
theorem laidOut : laidOutB Tryz.prog = true := by kernel_rfl
set_option maxRecDepth 100000 in
theorem lifted (os : Os) (started : os.Started) (H : Type) (enc : TypeId × Value → H) :
    ReturnsInHanded {} Tryz.checked os 4 .any (Rows.blockCostsSpec.pre6 enc Tryz.prog Tryz.f4 Rows.blockCostsRow.domain false) (Rows.blockCostsSpec.post enc Tryz.prog Tryz.f4 false true false false) := by
  refine returnsInHanded_of_change_sized (C := Tryz.checked) own started (by kernel_rfl) Tryz.func4
    (ChangeSpec.witness6 (enc := enc) (C := Tryz.checked) false ⟨#[], #[.int .i64 0, .int .i64 0, .slice none 0 0], []⟩ 8 (by kernel_rfl) (by kernel_rfl) (by kernel_rfl) (by kernel_rfl)) ?_
  intro W base args ds gs before hval0 hW hcnd hsz0 _
  have hsz : (DataW.weightsEach Tryz.prog (Tryz.f4.params.toList ++ Rows.blockCostsSpec.plain.varTypes Tryz.prog) (ds ++ gs)).all (· ≤ reachBytes) = true := hsz0
  have hval : ∀ (j : Nat) t v, Tryz.f4.params[j]? = some t → args[j]? = some v → Value.okWide Tryz.prog W .any base t v := hval0
  have hW' := hW
  obtain ⟨p, q, hA0, hV, rfl, hfz, hnd⟩ := hW
  have hA : DataW.TrodAll enc Tryz.prog W 0 (fun _ => true) true Tryz.f4.params.toList args.toList ds p := hA0
  rw [Tryz.params4] at hA hval hsz
  obtain ⟨v0, vs0, d0, ds0, p0, q0, hargs, rfl, rfl, h0, r0⟩ := trodAll_cons hA
  obtain ⟨v1, vs1, d1, ds1, p1, q1, rfl, rfl, rfl, h1, r1⟩ := trodAll_cons r0
  obtain ⟨v2, vs2, d2, ds2, p2, q2, rfl, rfl, rfl, h2, r2⟩ := trodAll_cons r1
  obtain ⟨rfl, rfl, rfl⟩ := trodAll_nil r2
  obtain rfl : args = #[v0, v1, v2] := by cases args; simp_all
  obtain ⟨rfl, rfl⟩ := trodVars_none hV
  obtain ⟨a0, rfl, rfl, rfl, w0⟩ := open_int Tryz.underlying3 (hval 0 3 v0 rfl rfl) h0
  obtain ⟨a1, rfl, rfl, rfl, w1⟩ := open_int Tryz.underlying3 (hval 1 3 v1 rfl rfl) h1
  obtain ⟨a2, len2, cap2, rfl⟩ := okWide_slice Tryz.underlying35 (hval 2 35 v2 rfl rfl)
  have k2 := h2
  have lt2 : ∀ x ∈ p2, x.block < W.heap.size := by obtain ⟨m, hm⟩ := k2; exact DataW.trod_lt m _ _ _ hm
  have s2 := hsz
  obtain ⟨x2, b2, o2, v2', m2', n2, s2', t2, f2, z2⟩ := open_rows (α := Lz.Tok) Lz.tcell 3 (fun _ => rfl) (by kernel_rfl) (by decide) (fun t => 0 ≤ t.lit ∧ t.lit ≤ 255) (fun _ => 1) (fun n cs x h => by
    obtain ⟨y0, y1, y2, m, rfl, hl, g0, g1, g2⟩ := Go.Deep.trod_struct3 Tryz.underlying80 h
    have hl3 : cs.length = 3 := hl.trans (by kernel_rfl)
    match cs, hl3 with
    | [u0, u1, u2], _ =>
      have g0' : DataW.trod enc Tryz.prog W 0 (fun _ => true) true m 5 [u0] = some y0 := g0
      have g1' : DataW.trod enc Tryz.prog W 0 (fun _ => true) true m 3 [u1] = some y1 := g1
      have g2' : DataW.trod enc Tryz.prog W 0 (fun _ => true) true m 3 [u2] = some y2 := g2
      obtain ⟨a, e0, _, w0⟩ := DataW.trod_int Tryz.underlying5 g0'
      obtain ⟨b, e1, _, w1⟩ := DataW.trod_int Tryz.underlying3 g1'
      obtain ⟨c, e2, _, w2⟩ := DataW.trod_int Tryz.underlying3 g2'
      simp at e0 e1 e2
      subst e0 e1 e2
      exact ⟨⟨a, b, c⟩, rfl, bounds_u8 w0, bulks.one_le _⟩) Tryz.underlying35 h2
  have y2' : len2 * 24 ≤ 140737488351232 := sized_rows hsz (j := 2) (t := 35) rfl rfl Tryz.underlying35 (by kernel_rfl) h2
  have y2 : len2 * 24 ≤ 140737488355232 := by omega
  clear hA0 hval0 hsz0 hsz
  refine (Blk.costs_walk a0 a1 a2 len2 cap2 x2 b2 W w0 w1 o2 v2' n2 s2' t2 f2 y2).mono fun e W' ⟨he, bel⟩ => ?_
  subst he
  exact ⟨_, rfl, _, _, _, [], _, [], hW', trodAll_mk1 (shut_bool Tryz.underlying4 _), (trodAll_cons_mk (shut_int Tryz.underlying3 w0) (trodAll_cons_mk (shut_int Tryz.underlying3 w1) (trodAll_cons_mk (Below.trod laidOut (by kernel_rfl) (of_decide_eq_true (by kernel_rfl)) k2 bel lt2) trodAll_mk0))), rfl, bel.frame _, fun h => by cases h⟩
theorem over : Rows.blockCostsRow.holds Tryz.pinned (OpenSpec.ofChange Rows.blockCostsSpec) :=
  OpenClaim.holds_of_wide 4 Tryz.f4 rfl rfl rfl rfl rfl rfl rfl ⟨rfl, rfl, rfl, rfl, rfl⟩ rfl rfl rfl rfl rfl (by kernel_rfl) Tryz.func4 (by kernel_rfl)
    (of_decide_eq_true (by kernel_rfl)) (by unfold Func.isWrapper; first | (rw [if_pos (by decide +kernel)]; kernel_rfl) | (rw [if_neg (by decide +kernel)]; exact ⟨rfl, rfl⟩))
    (fun os started H enc _ => lifted os started H enc)
theorem proved : Rows.BlockCostsSaid := over
#print axioms proved
end Go.Proofs.YtkdgfioigkijgaaGreat.blockCosts
namespace Go.Proofs.YtkdgfioigkijgaaGreat
/-- The row, under a short name, for the claim. -/
theorem blockCosts_holds : Rows.BlockCostsSaid := blockCosts.proved
end Go.Proofs.YtkdgfioigkijgaaGreat
