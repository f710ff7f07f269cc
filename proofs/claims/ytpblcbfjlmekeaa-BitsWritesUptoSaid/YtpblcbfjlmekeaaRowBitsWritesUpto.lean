/- The row of BitsWrites where what it reads is of bulk at most 1048576, out of its walk. No condition but that. -/
import Derived.Test.YtpblcbfjlmekeaaRows
import Derived.Test.YtpblcbfjlmekeaaOpen
import Derived.Test.YtpblcbfjlmekeaaWritesLaw
import Derived.WalkKit
import Derived.ProofKit
import Derived.OpenShut
import Derived.ShutString
import Derived.ChangeOld
import Derived.Below
import Derived.SizedLaws
import Derived.JoinedCond
import Derived.Lib.SmallJoins
import Derived.Deep.Strs
namespace Go.Proofs.Ytpblcbfjlmekeaa.bitsWritesU
open Go.ChangeShapes Go.WideShapes Go.ChangeAt Go.RowKit Go.Proofs.Ytpblcbfjlmekeaa.Lib Go.Proofs.Ytpblcbfjlmekeaa.Open
open Go.ChangeMaps (open_string shut_string)
set_option linter.unusedVariables false
set_option linter.unusedSimpArgs false
theorem own : ownKnob Try.prog.godebug = none := by kernel_rfl
theorem laidOut : laidOutB Try.prog = true := by kernel_rfl
set_option maxRecDepth 100000 in
theorem lifted (os : Os) (started : os.Started) (H : Type) (enc : TypeId × Value → H) (F : Stop.Interp) :
    ReturnsInHanded {} Try.checked os 7 .any ((Rows.OpenSpec.upto Rows.bitsWritesSpec).pre6 enc Try.prog Try.f7 Rows.bitsWritesUptoRow.domain false) (((Rows.OpenSpec.upto Rows.bitsWritesSpec).at F).post enc Try.prog Try.f7 false true false false) := by
  refine returnsInHanded_of_cond (C := Try.checked) (s := Rows.OpenSpec.upto Rows.bitsWritesSpec) (k := Rows.uptoSmall) rfl own started (by kernel_rfl) Try.func7
    (OpenSpec.witness (enc := enc) (C := Try.checked) (s := Rows.OpenSpec.upto Rows.bitsWritesSpec) (k := Rows.uptoSmall) rfl false ⟨#[], #[.slice none 0 0], []⟩ 8 (by kernel_rfl) (by kernel_rfl) (by kernel_rfl)
      (x := ([.nil], [], [])) (by kernel_rfl) rfl (by kernel_rfl)) ?_
  intro W base args ds gs before hval0 hW _ hk0 _
  have hk := of_decide_eq_true hk0
  have hval : ∀ (j : Nat) t v, Try.f7.params[j]? = some t → args[j]? = some v → Value.okWide Try.prog W .any base t v := hval0
  have hW' := hW
  obtain ⟨p, q, hA0, hV, rfl, hfz, hnd⟩ := hW
  have hA : DataW.TrodAll enc Try.prog W 0 (fun _ => true) true Try.f7.params.toList args.toList ds p := hA0
  rw [Try.params7] at hA hval
  obtain ⟨v0, vs0, d0, ds0, p0, q0, hargs, rfl, rfl, h0, r0⟩ := trodAll_cons hA
  obtain ⟨rfl, rfl, rfl⟩ := trodAll_nil r0
  obtain rfl : args = #[v0] := by cases args; simp_all
  obtain ⟨rfl, rfl⟩ := trodVars_none hV
  replace hk : Rows.uptoBulkAll [d0] ≤ 1048576 := by simpa using hk
  obtain ⟨a0, len0, cap0, rfl⟩ := okWide_slice Try.underlying26 (hval 0 26 v0 rfl rfl)
  have k0 := h0
  have lt0 : ∀ x ∈ p0, x.block < W.heap.size := by obtain ⟨m, hm⟩ := k0; exact DataW.trod_lt m _ _ _ hm
  have u0 : Rows.uptoBulk d0 ≤ 1048576 := Nat.le_trans (bulks.part_le (by simp)) hk
  obtain ⟨x0, b0, o0, _, _, _, s0', _, f0, m0⟩ := open_rows_w (α := Bits.Opn) Bits.Opn.cells 4 Bits.opn_len (by kernel_rfl) (by decide) (Bits.Opn.wok W) (fun o => o.l + 1) (fun dd => Rows.uptoBulk dd ≤ 1048576) (fun n cs x h hw => by
    obtain ⟨y0, y1, y2, y3, m, rfl, hl, g0, g1, g2, g3⟩ := Go.Joins.trod_struct4 Try.underlying34 h
    have hl4 : cs.length = 4 := hl.trans (by kernel_rfl)
    match cs, hl4 with
    | [u0, u1, u2, u3], _ =>
      have g0' : DataW.trod enc Try.prog W 0 (fun _ => true) true m 3 [u0] = some y0 := g0
      have g1' : DataW.trod enc Try.prog W 0 (fun _ => true) true m 22 [u1] = some y1 := g1
      have g2' : DataW.trod enc Try.prog W 0 (fun _ => true) true m 3 [u2] = some y2 := g2
      have g3' : DataW.trod enc Try.prog W 0 (fun _ => true) true m 32 [u3] = some y3 := g3
      obtain ⟨a, e0, _, w0⟩ := DataW.trod_int Try.underlying3 g0'
      obtain ⟨b, e1, _, w1⟩ := DataW.trod_int Try.underlying22 g1'
      obtain ⟨d, e2, _, w2⟩ := DataW.trod_int Try.underlying3 g2'
      obtain ⟨A, l, c, rfl, _⟩ := sl_form Try.underlying32 g3'
      simp at e0 e1 e2
      subst e0 e1 e2
      obtain ⟨bs, qb, hs, hw8, hb8⟩ := open_nums (k := .u8) Try.underlying32 Try.underlying5 (by kernel_rfl) ⟨m, g3'⟩
      have hbk : l + 1 ≤ Rows.uptoBulk (DataW.agg [y0.1, y1.1, y2.1, y3.1]) := by simp only [Rows.uptoBulk, Rows.uptoBulkAll]; omega
      have hw' : Rows.uptoBulk (DataW.agg [y0.1, y1.1, y2.1, y3.1]) ≤ 1048576 := hw
      exact ⟨⟨a, b, d, A, l, c⟩, rfl, ⟨⟨bs, qb, hs, fun x hx => bounds_u8 (hw8 x hx), by show l ≤ _; omega⟩, (bounds_u64 w1).1⟩, hbk⟩) Try.underlying26 h0 (fun es sp e x hx => by
      have h1 := bulks.part_le hx
      rw [e] at u0
      simp only [Rows.uptoBulk] at u0
      omega)
  have z0 : (x0.map fun o => o.l + 1).sum ≤ 1048576 := by omega
  clear hA0 hval0
  refine (Bits.writes_law a0 len0 cap0 x0 b0 W o0 s0' f0 z0).mono fun e W' ⟨he, bel⟩ => ?_
  subst he
  exact ⟨_, rfl, _, _, _, [], _, [], hW', trodAll_mk1 (shut_bool Try.underlying4 _), (trodAll_cons_mk (Below.trod laidOut (by kernel_rfl) (of_decide_eq_true (by kernel_rfl)) k0 bel lt0) trodAll_mk0), rfl, bel.frame _, fun h => by cases h⟩
theorem over : Rows.bitsWritesUptoRow.holds Try.pinned (Rows.OpenSpec.upto Rows.bitsWritesSpec) :=
  OpenClaim.holds_of_cond 7 Try.f7 rfl rfl rfl rfl rfl rfl rfl ⟨rfl, rfl, rfl, rfl, rfl⟩ rfl rfl rfl rfl rfl (by kernel_rfl) Try.func7 (by kernel_rfl)
    (of_decide_eq_true (by kernel_rfl)) (by unfold Func.isWrapper; first | (rw [if_pos (by decide +kernel)]; kernel_rfl) | (rw [if_neg (by decide +kernel)]; exact ⟨rfl, rfl⟩))
    (fun os started H enc _ F => lifted os started H enc F)
theorem proved : Rows.BitsWritesUptoSaid := over
#print axioms proved
end Go.Proofs.Ytpblcbfjlmekeaa.bitsWritesU
namespace Go.Proofs.Ytpblcbfjlmekeaa
/-- The row, under a short name, for the claim. -/
theorem bitsWritesUpto_holds : Rows.BitsWritesUptoSaid := bitsWritesU.proved
end Go.Proofs.Ytpblcbfjlmekeaa
