/- What chapter 07's laws ask besides: lives; LzNames. No condition. -/
import Derived.Test.YtbfdokklhdmmoaaLzParse2
import Derived.Test.YtbfdokklhdmmoaaLzExp
import Derived.Lib.SmallJoins
set_option linter.unusedVariables false
set_option linter.unusedSimpArgs false
set_option maxRecDepth 100000
namespace Go.Proofs.Ytbfdokklhdmmoaa.Lz
open Go.RowKit Go.Maps Go.Proofs.Ytbfdokklhdmmoaa.Lib Go.Proofs.Ytbfdokklhdmmoaa.Num Go.Proofs.Ytbfdokklhdmmoaa.Bits

def abc : List Int := [97, 98, 99, 97, 98, 99, 97, 98, 99]
def abcK : Opt := ⟨100, 10, false⟩
def abcT : List Tok := [⟨97, 0, 0⟩, ⟨98, 0, 0⟩, ⟨99, 0, 0⟩, ⟨0, 6, 3⟩]
theorem abc_parse : abcT = parse abc abcK := by kernel_rfl
theorem abc_check : (check 100 abcT).2 = 0 := by kernel_rfl
theorem abc_expand : expand 100 abcT = abc := by kernel_rfl
theorem abc_opt : optErr abcK = 0 := by kernel_rfl
theorem toks_of_own {w : World} {base : Nat} {e : TypeId} {v : Value} {n : Nat} {ts : List Tok} (h : w.ownsRow base e 3 v n (tcells ts)) : ts.length = n := by
  have := h.1
  rw [tcells_len] at this
  omega
theorem sl_of_toks {w : World} {base : Nat} {e : TypeId} {A : Option Addr} {n c : Nat} {ts : List Tok} (h : w.ownsRow base e 3 (.slice A n c) n (tcells ts)) : Sl w A (tcells ts) (Value.slice A n c).ownBlock := by
  intro hx
  have hn : 0 < n := by
    have := toks_of_own h
    rw [tcells_len] at hx
    omega
  obtain ⟨g, d, e1, _⟩ := own_some h hn
  injection e1 with e1 _ e2
  subst e1 e2
  refine ⟨g, 0, rfl, rfl, fun j hj => ?_⟩
  have := h.cells (g := g) rfl j (tcells ts)[j] (by simp)
  rw [List.getElem?_eq_getElem hj, ← this]
  congr 1
  unfold Addr.add
  by_cases e2 : j = 0 <;> simp [e2]
set_option maxHeartbeats 4000000 in
theorem lives_any (w : World) : Calls Try.prog 11 #[] w fun e w' => e = .returned (.bool true) ∧ Fr w w' [] := by
  have hconv : (convert 32 32 (.slice (some ⟨w.heap.size, 0, none⟩) 9 9)).run Try.prog (w.alloc (.cells #[.int .u8 97, .int .u8 98, .int .u8 99, .int .u8 97, .int .u8 98, .int .u8 99, .int .u8 97, .int .u8 98, .int .u8 99] 5)) = .ok (.slice (some ⟨w.heap.size, 0, none⟩) 9 9) (w.alloc (.cells #[.int .u8 97, .int .u8 98, .int .u8 99, .int .u8 97, .int .u8 98, .int .u8 99, .int .u8 97, .int .u8 98, .int .u8 99] 5 (9, 10))) := Go.Joins.run_convert_bytes_const_at w _ _ _ 9 9 _ rfl Try.underlying32 Try.underlying5
  go_enter Try.func11, Try.ntmps11
  go_wp2_with (fail)
  have hsl : SlArg (w.alloc (.cells #[.int .u8 97, .int .u8 98, .int .u8 99, .int .u8 97, .int .u8 98, .int .u8 99, .int .u8 97, .int .u8 98, .int .u8 99] 5 (9, 10))) (some ⟨w.heap.size, 0, none⟩) 9 9 (u8s abc) (some w.heap.size) :=
    ⟨rfl, Nat.le_refl _, by unfold maxLen; omega, (by intro h; cases h), sl_of_blk (blk_new w _), (by intro b hb; cases hb; simp)⟩
  have hby : Bytes abc := by intro x hx; simp [abc] at hx; rcases hx with h | h | h | h | h | h | h | h | h <;> omega
  refine (parse_any _ (some ⟨w.heap.size, 0, none⟩) 9 9 abc (some w.heap.size) ⟨100, 10, false⟩ hsl hby (by omega) 0 abcT abc_opt.symm abc_parse).mono ?_
  rintro e w1 ⟨A1, m1, d1, rfl, h1, h2, h3⟩
  obtain rfl : m1 = 4 := (toks_of_own h1).symm
  have O1 := Hd.mk h1
  have F1 := Hd.mk (((Fr.refl w []).alloc _).trans h3 (by simp))
  clear h1 h2 h3
  go_wp2_with (fail)
  refine (expand_any w1 100 A1 4 d1 abcT _ rfl (sl_of_toks O1.out) (by decide) 0 abc abc_check.symm abc_expand.symm).mono ?_
  rintro e w2 ⟨A2, m2, d2, rfl, h1, h2, h3⟩
  obtain rfl : m2 = 9 := (own_bytes h1).symm
  have O2 := own_frame O1.out h3 (by simp)
  have F2 := Hd.mk (F1.out.trans h3 (by simp))
  have hs := conv_string (P := Try.prog) (w := w2) (src := 32) (dst := 9) (A := A2) (c := d2) (xs := abc) Try.underlying32 Try.underlying5 Try.underlying9 (sl_of_own h1) (fun h => own_none h1 h)
  have hstr : strOfNums abc = ⟨#[97, 98, 99, 97, 98, 99, 97, 98, 99]⟩ := by kernel_rfl
  rw [hstr] at hs
  have hs9 : (convert 32 9 (.slice A2 9 d2)).run Try.prog w2 = .ok (.string ⟨#[97, 98, 99, 97, 98, 99, 97, 98, 99]⟩) w2 := hs
  clear hs hstr
  obtain ⟨g, d', e1, hd⟩ := own_some O2 (by decide)
  injection e1 with e1 _ e2
  subst e1 e2
  have c0 := O2.cellAt 9 (by decide)
  have c1 := O2.cellAt 10 (by decide)
  have c2 := O2.cellAt 11 (by decide)
  have hc : tcells abcT = [.int .u8 97, .int .i64 0, .int .i64 0, .int .u8 98, .int .i64 0, .int .i64 0, .int .u8 99, .int .i64 0, .int .i64 0, .int .u8 0, .int .i64 6, .int .i64 3] := rfl
  rw [hc] at c0 c1 c2
  simp only [List.getElem?_cons_zero, List.getElem?_cons_succ] at c0 c1 c2
  clear h1 h2 h3 O2 hc
  go_wp2
  go_ret
  exact ⟨rfl, F2.out⟩
theorem names_law (W : World) : Calls Try.prog 3 #[] W fun e w' => e = .returned (.bool true) ∧ Below W.heap.size W w' := by
  go_enter Try.func3, Try.ntmps3
  go_wp2_with (fail)
  refine (lives_any W).mono ?_
  rintro e w1 ⟨rfl, h1⟩
  have F1 := Hd.mk h1
  clear h1
  go_wp2
  go_ret
  exact ⟨rfl, F1.out.below⟩
end Go.Proofs.Ytbfdokklhdmmoaa.Lz
