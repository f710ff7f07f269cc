/- The row of BlockWrites where what it reads is of bulk at most 1048576, out of its walk. No condition but that. -/
import Derived.Test.YtkdgfioigkijgaaGreatH01
import Derived.Test.YtkdgfioigkijgaaGreatH02
import Derived.Test.YtkdgfioigkijgaaGreatH03
import Derived.Test.YtkdgfioigkijgaaGreatH04
import Derived.Test.YtkdgfioigkijgaaGreatH05
import Derived.Test.YtkdgfioigkijgaaGreatH06
import Derived.Test.YtkdgfioigkijgaaGreatH07
import Derived.Test.YtkdgfioigkijgaaGreatH08
import Derived.Test.YtkdgfioigkijgaaGreatH09
import Derived.Test.YtkdgfioigkijgaaGreatH10
import Derived.Test.YtkdgfioigkijgaaGreatH11
import Derived.Test.YtkdgfioigkijgaaGreatH12
import Derived.Test.YtkdgfioigkijgaaGreatH13
import Derived.Test.YtkdgfioigkijgaaGreatH14
import Derived.Test.YtkdgfioigkijgaaGreatH15
import Derived.Test.YtkdgfioigkijgaaGreatH16
import Derived.Test.YtkdgfioigkijgaaGreatH17
import Derived.Test.YtkdgfioigkijgaaGreatH18
import Derived.Test.YtkdgfioigkijgaaGreatH19
import Derived.Test.YtkdgfioigkijgaaGreatH20
import Derived.Test.YtkdgfioigkijgaaGreatH21
import Derived.Test.YtkdgfioigkijgaaGreatRows
import Derived.WalkKit
import Derived.ProofKit
import Derived.OpenShut
import Derived.ShutString
import Derived.ChangeOld
import Derived.Below
import Derived.SizedLaws
import Derived.JoinedCond
import Derived.Lib.SmallJoins
import Derived.Deep.Strs
namespace Go.Proofs.YtkdgfioigkijgaaGreat.blockWritesU
open Go.ChangeShapes Go.WideShapes Go.ChangeAt Go.RowKit Go.Proofs.YtkdgfioigkijgaaGreat.Lib Go.Proofs.YtkdgfioigkijgaaGreat.Open
open Go.ChangeMaps (open_string shut_string)
set_option linter.unusedVariables false
set_option linter.unusedSimpArgs false
theorem own : ownKnob Tryz.prog.godebug = none := by kernel_rfl
theorem laidOut : laidOutB Tryz.prog = true := by kernel_rfl
set_option maxRecDepth 100000 in
theorem lifted (os : Os) (started : os.Started) (H : Type) (enc : TypeId × Value → H) (F : Stop.Interp) :
    ReturnsInHanded {} Tryz.checked os 3 .any ((Rows.OpenSpec.upto Rows.blockWritesSpec).pre6 enc Tryz.prog Tryz.f3 Rows.blockWritesUptoRow.domain false) (((Rows.OpenSpec.upto Rows.blockWritesSpec).at F).post enc Tryz.prog Tryz.f3 false true false false) := by
  refine returnsInHanded_of_cond (C := Tryz.checked) (s := Rows.OpenSpec.upto Rows.blockWritesSpec) (k := Rows.uptoSmall) rfl own started (by kernel_rfl) Tryz.func3
    (OpenSpec.witness (enc := enc) (C := Tryz.checked) (s := Rows.OpenSpec.upto Rows.blockWritesSpec) (k := Rows.uptoSmall) rfl false ⟨#[], #[.int .i64 0, .slice none 0 0], []⟩ 8 (by kernel_rfl) (by kernel_rfl) (by kernel_rfl)
      (x := ([.lit (.int .i64 0), .nil], [], [])) (by kernel_rfl) rfl (by kernel_rfl)) ?_
  intro W base args ds gs before hval0 hW _ hk0 _
  have hk := of_decide_eq_true hk0
  have hval : ∀ (j : Nat) t v, Tryz.f3.params[j]? = some t → args[j]? = some v → Value.okWide Tryz.prog W .any base t v := hval0
  have hW' := hW
  obtain ⟨p, q, hA0, hV, rfl, hfz, hnd⟩ := hW
  have hA : DataW.TrodAll enc Tryz.prog W 0 (fun _ => true) true Tryz.f3.params.toList args.toList ds p := hA0
  rw [Tryz.params3] at hA hval
  obtain ⟨v0, vs0, d0, ds0, p0, q0, hargs, rfl, rfl, h0, r0⟩ := trodAll_cons hA
  obtain ⟨v1, vs1, d1, ds1, p1, q1, rfl, rfl, rfl, h1, r1⟩ := trodAll_cons r0
  obtain ⟨rfl, rfl, rfl⟩ := trodAll_nil r1
  obtain rfl : args = #[v0, v1] := by cases args; simp_all
  obtain ⟨rfl, rfl⟩ := trodVars_none hV
  replace hk : Rows.uptoBulkAll [d0, d1] ≤ 1048576 := by simpa using hk
  obtain ⟨a0, rfl, rfl, rfl, w0⟩ := open_int Tryz.underlying3 (hval 0 3 v0 rfl rfl) h0
  obtain ⟨a1, len1, cap1, rfl⟩ := okWide_slice Tryz.underlying22 (hval 1 22 v1 rfl rfl)
  have k1 := h1
  have lt1 : ∀ x ∈ p1, x.block < W.heap.size := by obtain ⟨m, hm⟩ := k1; exact DataW.trod_lt m _ _ _ hm
  have u1 : Rows.uptoBulk d1 ≤ 1048576 := Nat.le_trans (bulks.part_le (by simp)) hk
  obtain ⟨x1, b1, o1, v1', m1', n1, s1', t1, f1, z1⟩ := open_rows_w (α := Blk.Bk) Blk.Bk.cells 4 (fun _ => rfl) (by kernel_rfl) (by decide) (Blk.Bk.ok W) (fun _ => 1) (fun dd => Rows.uptoBulk dd ≤ 1048576) (fun n cs x h hR => by
    obtain ⟨y0, y1, y2, y3, m, rfl, hl, g0, g1, g2, g3⟩ := Go.Joins.trod_struct4 Tryz.underlying37 h
    have hl4 : cs.length = 4 := hl.trans (by kernel_rfl)
    match cs, hl4 with
    | [u0, u1, u2, u3], _ =>
      have g0' : DataW.trod enc Tryz.prog W 0 (fun _ => true) true m 3 [u0] = some y0 := g0
      have g1' : DataW.trod enc Tryz.prog W 0 (fun _ => true) true m 4 [u1] = some y1 := g1
      have g2' : DataW.trod enc Tryz.prog W 0 (fun _ => true) true m 3 [u2] = some y2 := g2
      have g3' : DataW.trod enc Tryz.prog W 0 (fun _ => true) true m 35 [u3] = some y3 := g3
      obtain ⟨a, e0, _, w0⟩ := DataW.trod_int Tryz.underlying3 g0'
      obtain ⟨ob, e1, _⟩ := DataW.trod_bool Tryz.underlying4 g1'
      obtain ⟨c, e2, _, w2⟩ := DataW.trod_int Tryz.underlying3 g2'
      obtain ⟨A, nn, cc, rfl, _⟩ := sl_form Tryz.underlying35 g3'
      simp at e0 e1 e2
      subst e0 e1 e2
      have hb3 : Rows.uptoBulk y3.1 ≤ 1048576 := Nat.le_trans (bulks.part_le (l := [y0.1, y1.1, y2.1, y3.1]) (by simp)) (by simp only [Rows.uptoBulk] at hR; omega)
      obtain ⟨xs, qq, ha, hb, hc, hd, he, hf, hg, hz⟩ := open_rows (α := Lz.Tok) Lz.tcell 3 (fun _ => rfl) (by kernel_rfl) (by decide) (fun t => 0 ≤ t.lit ∧ t.lit ≤ 255) (fun _ => 1) (fun n cs x h => by
        obtain ⟨y0, y1, y2, m, rfl, hl, g0, g1, g2⟩ := Go.Deep.trod_struct3 Tryz.underlying80 h
        have hl3 : cs.length = 3 := hl.trans (by kernel_rfl)
        match cs, hl3 with
        | [u0, u1, u2], _ =>
          have g0' : DataW.trod enc Tryz.prog W 0 (fun _ => true) true m 5 [u0] = some y0 := g0
          have g1' : DataW.trod enc Tryz.prog W 0 (fun _ => true) true m 3 [u1] = some y1 := g1
          have g2' : DataW.trod enc Tryz.prog W 0 (fun _ => true) true m 3 [u2] = some y2 := g2
          obtain ⟨a, e0, _, w0⟩ := DataW.trod_int Tryz.underlying5 g0'
          obtain ⟨b, e1, _, w1⟩ := DataW.trod_int Tryz.underlying3 g1'
          obtain ⟨c, e2, _, w2⟩ := DataW.trod_int Tryz.underlying3 g2'
          simp at e0 e1 e2
          subst e0 e1 e2
          exact ⟨⟨a, b, c⟩, rfl, bounds_u8 w0, bulks.one_le _⟩) Tryz.underlying35 ⟨m, g3'⟩
      have es : ∀ l : List Lz.Tok, (l.map fun _ => (1 : Nat)).sum = l.length := fun l => by induction l <;> simp_all [Nat.add_comm]
      rw [es] at hz
      exact ⟨⟨a, ob, c, A, nn, cc⟩, rfl, ⟨xs, qq, ha, (show nn ≤ 1048576 by omega), he, hf, hg⟩, bulks.one_le _⟩) Tryz.underlying22 h1 (fun es sp e x hx => Nat.le_trans (bulks.part_le hx) (by rw [e] at u1; simp only [Rows.uptoBulk] at u1; omega))
  have y1 : len1 ≤ 1048576 := by
    have es : ∀ l : List Blk.Bk, (l.map fun _ => (1 : Nat)).sum = l.length := fun l => by induction l <;> simp_all [Nat.add_comm]
    rw [es] at z1
    omega
  clear hA0 hval0
  refine (Blk.blkwrites_walk a0 a1 len1 cap1 x1 b1 W w0 o1 v1' n1 s1' t1 f1 y1).mono fun e W' ⟨he, bel⟩ => ?_
  subst he
  exact ⟨_, rfl, _, _, _, [], _, [], hW', trodAll_mk1 (shut_bool Tryz.underlying4 _), (trodAll_cons_mk (shut_int Tryz.underlying3 w0) (trodAll_cons_mk (Below.trod laidOut (by kernel_rfl) (of_decide_eq_true (by kernel_rfl)) k1 bel lt1) trodAll_mk0)), rfl, bel.frame _, fun h => by cases h⟩
theorem over : Rows.blockWritesUptoRow.holds Tryz.pinned (Rows.OpenSpec.upto Rows.blockWritesSpec) :=
  OpenClaim.holds_of_cond 3 Tryz.f3 rfl rfl rfl rfl rfl rfl rfl ⟨rfl, rfl, rfl, rfl, rfl⟩ rfl rfl rfl rfl rfl (by kernel_rfl) Tryz.func3 (by kernel_rfl)
    (of_decide_eq_true (by kernel_rfl)) (by unfold Func.isWrapper; first | (rw [if_pos (by decide +kernel)]; kernel_rfl) | (rw [if_neg (by decide +kernel)]; exact ⟨rfl, rfl⟩))
    (fun os started H enc _ F => lifted os started H enc F)
theorem proved : Rows.BlockWritesUptoSaid := over
#print axioms proved
end Go.Proofs.YtkdgfioigkijgaaGreat.blockWritesU
namespace Go.Proofs.YtkdgfioigkijgaaGreat
/-- The row, under a short name, for the claim. -/
theorem blockWritesUpto_holds : Rows.BlockWritesUptoSaid := blockWritesU.proved
end Go.Proofs.YtkdgfioigkijgaaGreat
