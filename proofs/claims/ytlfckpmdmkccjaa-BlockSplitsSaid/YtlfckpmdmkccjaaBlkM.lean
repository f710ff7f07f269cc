/- Chapter 09: the cost of a plain block. Conditions: at most 2^40 tokens. -/
import Derived.Test.YtlfckpmdmkccjaaBlkL
set_option linter.unusedVariables false
set_option linter.unusedSimpArgs false
set_option maxRecDepth 100000
namespace Go.Proofs.Ytlfckpmdmkccjaa.Blk
open Go.RowKit Go.Proofs.Ytlfckpmdmkccjaa.Lib Go.Proofs.Ytlfckpmdmkccjaa.Ints Go.Proofs.Ytlfckpmdmkccjaa.Lz Go.Proofs.Ytlfckpmdmkccjaa.Num Go.Proofs.Ytlfckpmdmkccjaa.Bits Go.Proofs.Ytlfckpmdmkccjaa.Code
theorem plainLit_check : check plainLit = 0 := by decide +kernel
theorem plainDist_check : check plainDist = 0 := by decide +kernel
theorem plainLit_end : bitsOf plainLit 256 = 7 := by decide +kernel
theorem slArg_own {w : World} {base : Nat} {e : TypeId} {A : Option Addr} {n c : Nat} {xs : List Value} (h : w.ownsRow base e 1 (.slice A n c) n xs) : SlArg w A n c xs (Value.slice A n c).ownBlock := by
  obtain ⟨A', c', h1, h2, h3, _⟩ := own_slice h
  injection h1 with e1 _ e3
  subst e1 e3
  exact ⟨by have := h.1; omega, h2, h3, fun hA => own_none h hA, sl_of_own h, fun b hb => own_lt h hb⟩
set_option maxHeartbeats 4000000 in
theorem plainCost_any (w : World) (bh : Int) (A : Option Addr) (n c : Nat) (l : List Tok) (p : Option Nat) (hn : l.length = n) (hS : Sl w A (tcells l) p) (hb : n ≤ 65536) (hr : ∀ t ∈ l, right t = true) (hl : LitB l) (m : Int) (hm : m = codedN plainLit plainDist l) :
    Calls Try.prog 55 #[.int .i64 bh, .slice A n c] w fun e w' => e = .returned (.tuple #[.int .i64 (3 + m), .int .i64 0]) ∧ Fr w w' [] := by
  have HS := Hd.mk hS
  have HR := Hd.mk (And.intro hr hl)
  have HM := Hd.mk hm
  clear hS hr hl
  have hmb : 0 ≤ m ∧ m ≤ 15 + 48 * 65536 := by
    rw [hm]
    have h1 := codedF_le plainLit15 plainDist15 l HR.out.1 HR.out.2
    have h2 := lens15_get plainLit15 256
    unfold codedN
    omega
  clear hm
  go_enter Try.func55, Try.ntmps55
  go_wp2_with (fail)
  refine (plainLens_any w).mono ?_
  rintro e w1 hp
  unfold PlPost at hp
  obtain ⟨g, h, rfl, h1, h2, _, _, _, h3⟩ := hp
  have X1 := Hd.mk (sl_of_own h1)
  have Y1 := Hd.mk (sl_of_own h2)
  have F1 := Hd.mk h3
  clear h1 h2 h3
  go_wp2_with (fail)
  refine (coded_any w1 _ _ 288 288 32 32 plainLit plainDist _ _ X1.out Y1.out (fill_len _ _ _) (fill_len _ _ _) (by omega) (by omega) A n c l p hn (HS.out.frame F1.out (by simp)) hb HR.out.1 HR.out.2 plainLit15 plainDist15 m HM.out).mono ?_
  rintro e w2 ⟨rfl, h1⟩
  have F2 := Hd.mk (F1.out.trans h1 (by simp))
  clear h1
  go_wp2
  go_ret2
  exact ⟨rfl, F2.out⟩
def waysC : Array Value := #[.func (.func 53) #[] #[], .func (.func 54) #[] #[], .func (.func 55) #[] #[], .func (.func 56) #[] #[], .func (.func 57) #[] #[], .func (.func 58) #[] #[]]
theorem waysInfo : (Try.prog.info? 95).map (·.size) = some waysC.size := by kernel_rfl
set_option maxHeartbeats 4000000 in
theorem ways_any (w : World) : Calls Try.prog 39 #[] w fun e w' => e = .returned (.agg waysC) ∧ Fr w w' [] := by
  go_enter Try.func39, Try.ntmps39
  go_upto_region 1 with (fail)
  go_wp2_with (refine wpList_store_row rfl 95 _ _ rfl w.heap.size waysC rfl rfl 95 _ (by exact blk_new w _) (by kernel_rfl) (by kernel_rfl) (by kernel_rfl) ?_)
  refine bodyPost_ret (results_cell_row rfl _ _ w.heap.size 95 _ _ _ rfl (setRow_heap _ _ _ _ _ _ (blk_new w _)) Try.underlying95 rfl waysInfo) rfl ?_
  exact ⟨rfl, Code.Fr.setRow ((Fr.refl w []).alloc _) _ (.inr (Nat.le_refl _))⟩
theorem ways0 : ∀ W : World, (Instr.index 95 (.agg waysC) (.int .i64 0)).run Try.prog W = .ok (.agg #[.func (.func 53) #[] #[], .func (.func 54) #[] #[]]) W := fun W => by kernel_rfl
theorem ways1 : ∀ W : World, (Instr.index 95 (.agg waysC) (.int .i64 1)).run Try.prog W = .ok (.agg #[.func (.func 55) #[] #[], .func (.func 56) #[] #[]]) W := fun W => by kernel_rfl
theorem ways2 : ∀ W : World, (Instr.index 95 (.agg waysC) (.int .i64 2)).run Try.prog W = .ok (.agg #[.func (.func 57) #[] #[], .func (.func 58) #[] #[]]) W := fun W => by kernel_rfl
theorem way0c : ∀ W : World, (Instr.field 94 (.agg #[.func (.func 53) #[] #[], .func (.func 54) #[] #[]]) 0).run Try.prog W = .ok (.func (.func 53) #[] #[]) W := fun W => by kernel_rfl
theorem way0w : ∀ W : World, (Instr.field 94 (.agg #[.func (.func 53) #[] #[], .func (.func 54) #[] #[]]) 1).run Try.prog W = .ok (.func (.func 54) #[] #[]) W := fun W => by kernel_rfl
theorem way1c : ∀ W : World, (Instr.field 94 (.agg #[.func (.func 55) #[] #[], .func (.func 56) #[] #[]]) 0).run Try.prog W = .ok (.func (.func 55) #[] #[]) W := fun W => by kernel_rfl
theorem way1w : ∀ W : World, (Instr.field 94 (.agg #[.func (.func 55) #[] #[], .func (.func 56) #[] #[]]) 1).run Try.prog W = .ok (.func (.func 56) #[] #[]) W := fun W => by kernel_rfl
theorem way2c : ∀ W : World, (Instr.field 94 (.agg #[.func (.func 57) #[] #[], .func (.func 58) #[] #[]]) 0).run Try.prog W = .ok (.func (.func 57) #[] #[]) W := fun W => by kernel_rfl
theorem way2w : ∀ W : World, (Instr.field 94 (.agg #[.func (.func 57) #[] #[], .func (.func 58) #[] #[]]) 1).run Try.prog W = .ok (.func (.func 58) #[] #[]) W := fun W => by kernel_rfl
set_option maxHeartbeats 4000000 in
theorem cost1_any (w : World) (bh : Int) (h0 : 0 ≤ bh) (h7 : bh ≤ 7) (A : Option Addr) (n c : Nat) (l : List Tok) (p : Option Nat) (hn : l.length = n) (hS : Sl w A (tcells l) p) (hb : n ≤ 1099511627776) (hl : LitB l) (e m : Int) (he : e = mayB l) (hm : m = if e = 0 then 3 + codedN plainLit plainDist l else 0) :
    Calls Try.prog 36 #[.int .i64 1, .int .i64 bh, .slice A n c] w fun r w' => r = .returned (.tuple #[.int .i64 m, .int .i64 e]) ∧ Fr w w' [] := by
  have HS := Hd.mk hS
  have HL := Hd.mk hl
  have HE := Hd.mk he
  have HM := Hd.mk hm
  clear hS hl he hm
  have hi := ways1
  have hf := way1c
  go_enter Try.func36, Try.ntmps36
  go_wp2_with (fail)
  refine (may_any w A n c l p hn HS.out hb e HE.out).mono ?_
  rintro r w1 ⟨rfl, h1⟩
  have F1 := Hd.mk h1
  clear h1
  by_cases h : e = 0
  · have hmm : Hd (m = 3 + codedN plainLit plainDist l) := ⟨by rw [HM.out, if_pos h]⟩
    subst h
    have hz := mayB_zero HE.out.symm
    have HZ := Hd.mk hz.2
    have hz1 := hz.1
    clear hz
    go_wp2_with (fail)
    refine (ways_any w1).mono ?_
    rintro r w2 ⟨rfl, h2⟩
    have F2 := Hd.mk (F1.out.trans h2 (by simp))
    clear h2
    obtain ⟨k, hk⟩ : ∃ k, k = codedN plainLit plainDist l := ⟨_, rfl⟩
    rw [← hk] at hmm
    have HK := Hd.mk hk
    clear hk
    go_wp2_with (fail)
    refine (plainCost_any w2 bh A n c l p hn (HS.out.frame F2.out (by simp)) (by omega) HZ.out HL.out k HK.out).mono ?_
    rintro r w3 ⟨rfl, h3⟩
    have F3 := Hd.mk (F2.out.trans h3 (by simp))
    clear h3
    go_wp2
    go_ret2
    exact ⟨by rw [hmm.out]; rfl, F3.out⟩
  · have hne : (e != 0) = true := by simpa using h
    obtain rfl : m = 0 := by rw [HM.out, if_neg h]
    go_wp2
    go_ret2
    exact ⟨rfl, F1.out⟩
end Go.Proofs.Ytlfckpmdmkccjaa.Blk
