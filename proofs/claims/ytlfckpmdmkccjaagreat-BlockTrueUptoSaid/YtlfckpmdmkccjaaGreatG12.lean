/- Texts of this claim, one behind the other: BlkM, BlkN, BitsLives, Mem, BlkO, LensCost, SortA. -/
import Derived.Test.YtlfckpmdmkccjaaGreatG11
import Derived.Test.YtlfckpmdmkccjaaGreatG09
import Derived.Test.YtlfckpmdmkccjaaGreatG08
import Derived.Test.YtlfckpmdmkccjaaGreatG05
import Derived.Test.YtlfckpmdmkccjaaGreatG02
import Derived.Laws.BytesArg
import Derived.Laws.BytesString
import Derived.Laws.Strings
import Derived.Lib.SlBytesConst
/- Chapter 09: the cost of a plain block. Conditions: at most 2^40 tokens. -/
set_option linter.unusedVariables false
set_option linter.unusedSimpArgs false
set_option maxRecDepth 100000
namespace Go.Proofs.YtlfckpmdmkccjaaGreat.Blk
open Go.RowKit Go.Proofs.YtlfckpmdmkccjaaGreat.Lib Go.Proofs.YtlfckpmdmkccjaaGreat.Ints Go.Proofs.YtlfckpmdmkccjaaGreat.Lz Go.Proofs.YtlfckpmdmkccjaaGreat.Num Go.Proofs.YtlfckpmdmkccjaaGreat.Bits Go.Proofs.YtlfckpmdmkccjaaGreat.Code
theorem plainLit_check : check plainLit = 0 := by decide +kernel
theorem plainDist_check : check plainDist = 0 := by decide +kernel
theorem plainLit_end : bitsOf plainLit 256 = 7 := by decide +kernel
theorem slArg_own {w : World} {base : Nat} {e : TypeId} {A : Option Addr} {n c : Nat} {xs : List Value} (h : w.ownsRow base e 1 (.slice A n c) n xs) : SlArg w A n c xs (Value.slice A n c).ownBlock := by
  obtain ⟨A', c', h1, h2, h3, _⟩ := own_slice h
  injection h1 with e1 _ e3
  subst e1 e3
  exact ⟨by have := h.1; omega, h2, h3, fun hA => own_none h hA, sl_of_own h, fun b hb => own_lt h hb⟩
set_option maxHeartbeats 4000000 in
theorem plainCost_any (w : World) (bh : Int) (A : Option Addr) (n c : Nat) (l : List Tok) (p : Option Nat) (hn : l.length = n) (hS : Sl w A (tcells l) p) (hb : n ≤ 65536) (hr : ∀ t ∈ l, right t = true) (hl : LitB l) (m : Int) (hm : m = codedN plainLit plainDist l) :
    Calls Tryz.prog 59 #[.int .i64 bh, .slice A n c] w fun e w' => e = .returned (.tuple #[.int .i64 (3 + m), .int .i64 0]) ∧ Fr w w' [] := by
  have HS := Hd.mk hS
  have HR := Hd.mk (And.intro hr hl)
  have HM := Hd.mk hm
  clear hS hr hl
  have hmb : 0 ≤ m ∧ m ≤ 15 + 48 * 65536 := by
    rw [hm]
    have h1 := codedF_le plainLit15 plainDist15 l HR.out.1 HR.out.2
    have h2 := lens15_get plainLit15 256
    unfold codedN
    omega
  clear hm
  go_enter Tryz.func59, Tryz.ntmps59
  go_wp2_with (fail)
  refine (plainLens_any w).mono ?_
  rintro e w1 hp
  unfold PlPost at hp
  obtain ⟨g, h, rfl, h1, h2, _, _, _, h3⟩ := hp
  have X1 := Hd.mk (sl_of_own h1)
  have Y1 := Hd.mk (sl_of_own h2)
  have F1 := Hd.mk h3
  clear h1 h2 h3
  go_wp2_with (fail)
  refine (coded_any w1 _ _ 288 288 32 32 plainLit plainDist _ _ X1.out Y1.out (fill_len _ _ _) (fill_len _ _ _) (by omega) (by omega) A n c l p hn (HS.out.frame F1.out (by simp)) hb HR.out.1 HR.out.2 plainLit15 plainDist15 m HM.out).mono ?_
  rintro e w2 ⟨rfl, h1⟩
  have F2 := Hd.mk (F1.out.trans h1 (by simp))
  clear h1
  go_wp2
  go_ret2
  exact ⟨rfl, F2.out⟩
def waysC : Array Value := #[.func (.func 57) #[] #[], .func (.func 58) #[] #[], .func (.func 59) #[] #[], .func (.func 60) #[] #[], .func (.func 61) #[] #[], .func (.func 62) #[] #[]]
theorem waysInfo : (Tryz.prog.info? 95).map (·.size) = some waysC.size := by kernel_rfl
set_option maxHeartbeats 4000000 in
theorem ways_any (w : World) : Calls Tryz.prog 38 #[] w fun e w' => e = .returned (.agg waysC) ∧ Fr w w' [] := by
  go_enter Tryz.func38, Tryz.ntmps38
  go_upto_region 1 with (fail)
  go_wp2_with (refine wpList_store_row rfl 95 _ _ rfl w.heap.size waysC rfl rfl 95 _ (by exact blk_new w _) (by kernel_rfl) (by kernel_rfl) (by kernel_rfl) ?_)
  refine bodyPost_ret (results_cell_row rfl _ _ w.heap.size 95 _ _ _ rfl (setRow_heap _ _ _ _ _ _ (blk_new w _)) Tryz.underlying95 rfl waysInfo) rfl ?_
  exact ⟨rfl, Code.Fr.setRow ((Fr.refl w []).alloc _) _ (.inr (Nat.le_refl _))⟩
theorem ways0 : ∀ W : World, (Instr.index 95 (.agg waysC) (.int .i64 0)).run Tryz.prog W = .ok (.agg #[.func (.func 57) #[] #[], .func (.func 58) #[] #[]]) W := fun W => by kernel_rfl
theorem ways1 : ∀ W : World, (Instr.index 95 (.agg waysC) (.int .i64 1)).run Tryz.prog W = .ok (.agg #[.func (.func 59) #[] #[], .func (.func 60) #[] #[]]) W := fun W => by kernel_rfl
theorem ways2 : ∀ W : World, (Instr.index 95 (.agg waysC) (.int .i64 2)).run Tryz.prog W = .ok (.agg #[.func (.func 61) #[] #[], .func (.func 62) #[] #[]]) W := fun W => by kernel_rfl
theorem way0c : ∀ W : World, (Instr.field 94 (.agg #[.func (.func 57) #[] #[], .func (.func 58) #[] #[]]) 0).run Tryz.prog W = .ok (.func (.func 57) #[] #[]) W := fun W => by kernel_rfl
theorem way0w : ∀ W : World, (Instr.field 94 (.agg #[.func (.func 57) #[] #[], .func (.func 58) #[] #[]]) 1).run Tryz.prog W = .ok (.func (.func 58) #[] #[]) W := fun W => by kernel_rfl
theorem way1c : ∀ W : World, (Instr.field 94 (.agg #[.func (.func 59) #[] #[], .func (.func 60) #[] #[]]) 0).run Tryz.prog W = .ok (.func (.func 59) #[] #[]) W := fun W => by kernel_rfl
theorem way1w : ∀ W : World, (Instr.field 94 (.agg #[.func (.func 59) #[] #[], .func (.func 60) #[] #[]]) 1).run Tryz.prog W = .ok (.func (.func 60) #[] #[]) W := fun W => by kernel_rfl
theorem way2c : ∀ W : World, (Instr.field 94 (.agg #[.func (.func 61) #[] #[], .func (.func 62) #[] #[]]) 0).run Tryz.prog W = .ok (.func (.func 61) #[] #[]) W := fun W => by kernel_rfl
theorem way2w : ∀ W : World, (Instr.field 94 (.agg #[.func (.func 61) #[] #[], .func (.func 62) #[] #[]]) 1).run Tryz.prog W = .ok (.func (.func 62) #[] #[]) W := fun W => by kernel_rfl
set_option maxHeartbeats 4000000 in
theorem cost1_any (w : World) (bh : Int) (h0 : 0 ≤ bh) (h7 : bh ≤ 7) (A : Option Addr) (n c : Nat) (l : List Tok) (p : Option Nat) (hn : l.length = n) (hS : Sl w A (tcells l) p) (hb : n ≤ 1099511627776) (hl : LitB l) (e m : Int) (he : e = mayB l) (hm : m = if e = 0 then 3 + codedN plainLit plainDist l else 0) :
    Calls Tryz.prog 23 #[.int .i64 1, .int .i64 bh, .slice A n c] w fun r w' => r = .returned (.tuple #[.int .i64 m, .int .i64 e]) ∧ Fr w w' [] := by
  have HS := Hd.mk hS
  have HL := Hd.mk hl
  have HE := Hd.mk he
  have HM := Hd.mk hm
  clear hS hl he hm
  have hi := ways1
  have hf := way1c
  go_enter Tryz.func23, Tryz.ntmps23
  go_wp2_with (fail)
  refine (may_any w A n c l p hn HS.out hb e HE.out).mono ?_
  rintro r w1 ⟨rfl, h1⟩
  have F1 := Hd.mk h1
  clear h1
  by_cases h : e = 0
  · have hmm : Hd (m = 3 + codedN plainLit plainDist l) := ⟨by rw [HM.out, if_pos h]⟩
    subst h
    have hz := mayB_zero HE.out.symm
    have HZ := Hd.mk hz.2
    have hz1 := hz.1
    clear hz
    go_wp2_with (fail)
    refine (ways_any w1).mono ?_
    rintro r w2 ⟨rfl, h2⟩
    have F2 := Hd.mk (F1.out.trans h2 (by simp))
    clear h2
    obtain ⟨k, hk⟩ : ∃ k, k = codedN plainLit plainDist l := ⟨_, rfl⟩
    rw [← hk] at hmm
    have HK := Hd.mk hk
    clear hk
    go_wp2_with (fail)
    refine (plainCost_any w2 bh A n c l p hn (HS.out.frame F2.out (by simp)) (by omega) HZ.out HL.out k HK.out).mono ?_
    rintro r w3 ⟨rfl, h3⟩
    have F3 := Hd.mk (F2.out.trans h3 (by simp))
    clear h3
    go_wp2
    go_ret2
    exact ⟨by rw [hmm.out]; rfl, F3.out⟩
  · have hne : (e != 0) = true := by simpa using h
    obtain rfl : m = 0 := by rw [HM.out, if_neg h]
    go_wp2
    go_ret2
    exact ⟨rfl, F1.out⟩
end Go.Proofs.YtlfckpmdmkccjaaGreat.Blk
/- Chapter 09: a plain block, written. Conditions: at most 2^40 tokens, the writer has fewer than 2^49 bits. -/
set_option linter.unusedVariables false
set_option linter.unusedSimpArgs false
set_option maxRecDepth 100000
namespace Go.Proofs.YtlfckpmdmkccjaaGreat.Blk
open Go.RowKit Go.Proofs.YtlfckpmdmkccjaaGreat.Lib Go.Proofs.YtlfckpmdmkccjaaGreat.Ints Go.Proofs.YtlfckpmdmkccjaaGreat.Lz Go.Proofs.YtlfckpmdmkccjaaGreat.Num Go.Proofs.YtlfckpmdmkccjaaGreat.Bits Go.Proofs.YtlfckpmdmkccjaaGreat.Code
set_option maxHeartbeats 4000000 in
theorem plainWrite_any (w : World) (D : Option Addr) (nd cd : Nat) (A : Option Addr) (n c : Nat) (l : List Tok) (p : Option Nat) (hn : l.length = n) (hS : Sl w A (tcells l) p) (hb : n ≤ 65536) (hr : ∀ t ∈ l, right t = true) (hl : LitB l)
    (gw N m : Nat) (q : Option Nat) (hT : Tl w gw 27 N m q) (hp : ∀ k, p = some k → k ∉ gw :: q.toList) (hm : m ≤ 562949953421312) :
    Calls Tryz.prog 60 #[.pointer (some ⟨gw, 0, none⟩), .slice D nd cd, .slice A n c] w fun e w' => e = .returned (.int .i64 0) ∧ ∃ q', Pw w w' gw q q' N m (bodyP plainLit plainDist l) := by
  have HS := Hd.mk hS
  have HR := Hd.mk (And.intro hr hl)
  have HP := Hd.mk hp
  have T0 := Hd.mk hT
  clear hS hr hl hp hT
  go_enter Tryz.func60, Tryz.ntmps60
  go_wp2_with (fail)
  refine (plainLens_any w).mono ?_
  rintro e w1 hpp
  unfold PlPost at hpp
  obtain ⟨g, h, rfl, h1, h2, _, _, _, h3⟩ := hpp
  have X1 := Hd.mk (slArg_own h1)
  have Y1 := Hd.mk (slArg_own h2)
  have F1 := Hd.mk h3
  have T1 := Hd.mk (T0.out.frame h3 (by simp) (by simp))
  clear h1 h2 h3
  go_wp2_with (fail)
  refine (lay_any w1 _ _ 288 288 32 32 plainLit plainDist _ _ X1.out Y1.out plainLit_check plainDist_check A n c l p hn (HS.out.frame F1.out (by simp)) hb HR.out.1 HR.out.2 gw N m q T1.out HP.out hm 0 (by rw [plainLit_end]; rfl)).mono ?_
  rintro e w2 ⟨rfl, q', h1⟩
  have W2 : Hd (Pw w w2 gw q q' N m (bodyP plainLit plainDist l)) := ⟨Pw.after F1.out h1⟩
  clear h1
  go_wp2
  go_ret
  exact ⟨rfl, q', W2.out⟩
def lastN (b : Bool) : Nat := if b then 1 else 0
/-- what a Write leaves: where it answers 0, the parts behind; else nothing -/
def WrPost (w w' : World) (gw N m : Nat) (q : Option Nat) (er : Int) (P : List (Nat × Nat)) : Prop := (er = 0 → ∃ q', Pw w w' gw q q' N m P) ∧ (er ≠ 0 → Fr w w' [])
set_option maxHeartbeats 4000000 in
theorem write1_any (w : World) (b : Bool) (D : Option Addr) (nd cd : Nat) (A : Option Addr) (n c : Nat) (l : List Tok) (p : Option Nat) (hn : l.length = n) (hS : Sl w A (tcells l) p) (hb : n ≤ 1099511627776) (hl : LitB l) (hnd : nd ≤ 4611686018427387904)
    (gw N m : Nat) (q : Option Nat) (hT : Tl w gw 27 N m q) (hp : ∀ k, p = some k → k ∉ gw :: q.toList ∧ k < w.heap.size) (hm : m ≤ 562949953421000) (er : Int) (he : er = if mayB l ≠ 0 then mayB l else if nd ≠ Lz.sizeOf l then 1 else 0) :
    Calls Tryz.prog 14 #[.pointer (some ⟨gw, 0, none⟩), .int .i64 1, .bool b, .slice D nd cd, .slice A n c] w fun e w' => e = .returned (.int .i64 er) ∧ WrPost w w' gw N m q er ([(lastN b, 1), (1, 2)] ++ bodyP plainLit plainDist l) := by
  have HS := Hd.mk hS
  have HL := Hd.mk hl
  have HP := Hd.mk hp
  have T0 := Hd.mk hT
  have HE := Hd.mk he
  clear hS hl hp hT he
  have hi := ways1
  have hf := way1w
  obtain ⟨k, hk⟩ : ∃ k, k = m % 8 := ⟨_, rfl⟩
  have hk8 : (m : Int) % 8 = (k : Int) := by omega
  have hk7 : k ≤ 7 := by omega
  clear hk
  obtain ⟨e, he⟩ : ∃ e, e = mayB l := ⟨_, rfl⟩
  have HM := Hd.mk he
  go_enter Tryz.func14, Tryz.ntmps14
  go_wp2_with (fail)
  refine (len_any _ T0.out).mono ?_
  rintro r w' ⟨rfl, rfl⟩
  go_wp2_with (fail)
  obtain ⟨cm, hcm⟩ : ∃ cm : Int, cm = if e = 0 then 3 + codedN plainLit plainDist l else 0 := ⟨_, rfl⟩
  refine (cost1_any w (k : Int) (by omega) (by omega) A n c l p hn HS.out hb HL.out e cm HM.out hcm).mono ?_
  rintro r w1 ⟨rfl, h1⟩
  have F1 := Hd.mk h1
  have T1 := Hd.mk (T0.out.frame h1 (by simp) (by simp))
  clear h1 hcm he
  by_cases h : e = 0
  · subst h
    have HE2 : Hd (er = if nd ≠ Lz.sizeOf l then 1 else 0) := ⟨by rw [HE.out, ← HM.out, if_neg (by simp)]⟩
    have hz := mayB_zero HM.out.symm
    have HZ := Hd.mk hz.2
    have hz1 := hz.1
    clear hz
    go_wp2_with (fail)
    refine (size_any w1 A n c l p hn (HS.out.frame F1.out (by simp)) hb).mono ?_
    rintro r w2 ⟨rfl, h2⟩
    have F2 := Hd.mk (F1.out.trans h2 (by simp))
    have T2 := Hd.mk (T1.out.frame h2 (by simp) (by simp))
    clear h2 T1
    have hsz := Lz.sizeOf_le l
    obtain ⟨s, hs⟩ : ∃ s, s = Lz.sizeOf l := ⟨_, rfl⟩
    rw [← hs] at HE2 hsz ⊢
    clear hs
    by_cases hns : nd = s
    · subst hns
      obtain rfl : er = 0 := by rw [HE2.out, if_neg (by simp)]
      have hne : ((nd : Int) != (nd : Int)) = false := by simp
      clear HE2 HE
      cases b with
      | false =>
        go_wp2_with (fail)
        refine (wput 0 1 0 rfl (by decide) (by omega) (by omega) T2.out (by have : (1 : Int).toNat = 1 := rfl; omega)).mono ?_
        rintro r w3 ⟨rfl, hpl⟩
        obtain ⟨q3, h3⟩ := (Pw.start T2.out).put (by simpa [numOf, totOf] using hpl)
        have W3 : Hd (Pw w2 w3 gw q q3 N m [(0, 1)]) := ⟨h3⟩
        clear hpl h3
        go_wp2_with (fail)
        refine (wput 1 2 1 rfl (by decide) (by omega) (by omega) W3.out.tl (by have : (2 : Int).toNat = 2 := rfl; have : totOf [(0, 1)] = 1 := rfl; omega)).mono ?_
        rintro r w4 ⟨rfl, hpl⟩
        obtain ⟨q4, h4⟩ := W3.out.put hpl
        have W4 : Hd (Pw w2 w4 gw q q4 N m [(0, 1), (1, 2)]) := ⟨h4⟩
        clear hpl h4
        go_wp2_with (fail)
        refine (ways_any w4).mono ?_
        rintro r w5 ⟨rfl, h5⟩
        have W5 := Hd.mk (Pw.after F2.out (W4.out.call h5))
        clear h5 W4
        go_wp2_with (fail)
        refine (plainWrite_any w5 D nd cd A n c l p hn (HS.out.frame W5.out.fr (fun k hk => (HP.out k hk).1)) (by omega) HZ.out HL.out gw _ _ q4 W5.out.tl (fun k hk hm => (HP.out k hk).1 (W5.out.mem (HP.out k hk).2 hm)) (by have : totOf [(0, 1), (1, 2)] = 3 := rfl; omega)).mono ?_
        rintro r w6 ⟨rfl, q6, h6⟩
        have W6 := Hd.mk (W5.out.more h6)
        clear h6
        go_wp2
        go_ret
        exact ⟨rfl, fun _ => ⟨q6, W6.out⟩, fun h => absurd rfl h⟩
      | true =>
        go_wp2_with (fail)
        refine (wput 1 1 1 rfl (by decide) (by omega) (by omega) T2.out (by have : (1 : Int).toNat = 1 := rfl; omega)).mono ?_
        rintro r w3 ⟨rfl, hpl⟩
        obtain ⟨q3, h3⟩ := (Pw.start T2.out).put (by simpa [numOf, totOf] using hpl)
        have W3 : Hd (Pw w2 w3 gw q q3 N m [(1, 1)]) := ⟨h3⟩
        clear hpl h3
        go_wp2_with (fail)
        refine (wput 1 2 1 rfl (by decide) (by omega) (by omega) W3.out.tl (by have : (2 : Int).toNat = 2 := rfl; have : totOf [(1, 1)] = 1 := rfl; omega)).mono ?_
        rintro r w4 ⟨rfl, hpl⟩
        obtain ⟨q4, h4⟩ := W3.out.put hpl
        have W4 : Hd (Pw w2 w4 gw q q4 N m [(1, 1), (1, 2)]) := ⟨h4⟩
        clear hpl h4
        go_wp2_with (fail)
        refine (ways_any w4).mono ?_
        rintro r w5 ⟨rfl, h5⟩
        have W5 := Hd.mk (Pw.after F2.out (W4.out.call h5))
        clear h5 W4
        go_wp2_with (fail)
        refine (plainWrite_any w5 D nd cd A n c l p hn (HS.out.frame W5.out.fr (fun k hk => (HP.out k hk).1)) (by omega) HZ.out HL.out gw _ _ q4 W5.out.tl (fun k hk hm => (HP.out k hk).1 (W5.out.mem (HP.out k hk).2 hm)) (by have : totOf [(1, 1), (1, 2)] = 3 := rfl; omega)).mono ?_
        rintro r w6 ⟨rfl, q6, h6⟩
        have W6 := Hd.mk (W5.out.more h6)
        clear h6
        go_wp2
        go_ret
        exact ⟨rfl, fun _ => ⟨q6, W6.out⟩, fun h => absurd rfl h⟩
    · obtain rfl : er = 1 := by rw [HE2.out, if_pos hns]
      have hne : ((nd : Int) != (s : Int)) = true := by simp; omega
      go_wp2
      go_ret
      exact ⟨rfl, (fun h => by cases h), fun _ => F2.out⟩
  · have hne : (e != 0) = true := by simpa using h
    obtain rfl : er = e := by rw [HE.out, ← HM.out, if_pos h]
    go_wp2
    go_ret
    exact ⟨rfl, (fun h' => absurd h' h), fun _ => F1.out⟩
end Go.Proofs.YtlfckpmdmkccjaaGreat.Blk
/- The document's first example goes so (lives), wherever it is asked. No condition. -/
set_option maxRecDepth 100000
set_option linter.unusedVariables false
set_option linter.unusedSimpArgs false
namespace Go.Proofs.YtlfckpmdmkccjaaGreat.Bits
open Go.RowKit Go.Proofs.YtlfckpmdmkccjaaGreat.Lib Go.Proofs.YtlfckpmdmkccjaaGreat.Num

theorem tl_new (w : World) (T : TypeId) (hT : T ≠ 5) : Tl (w.alloc (.cells #[.slice none 0 0, .int .i64 0] T)) w.heap.size T 0 0 none :=
  ⟨.slice none 0 0, blk_new w _, own_nil _ _ _ _, rfl, by simp, hT⟩
theorem rd_new (w : World) : Rd (w.alloc (.cells #[.int .u64 0, .int .i64 0, .int .i64 0] 118)) w.heap.size 0 0 0 :=
  ⟨blk_new w _, by simp, by omega⟩

end Go.Proofs.YtlfckpmdmkccjaaGreat.Bits
/- sapperref01's memory words: Same. No condition. -/
set_option maxRecDepth 100000
set_option linter.unusedVariables false
set_option linter.unusedSimpArgs false
namespace Go.Proofs.YtlfckpmdmkccjaaGreat.Bits
open Go.RowKit Go.Proofs.YtlfckpmdmkccjaaGreat.Lib Go.Proofs.YtlfckpmdmkccjaaGreat.Num

theorem conv_string {P : Program} {w : World} {src dst e : TypeId} {A : Option Addr} {c : Nat} {xs : List Int} {q : Option Nat} (hs : P.underlying src = some (.slice e)) (he : P.underlying e = some (.int .u8)) (hd : P.underlying dst = some .string)
    (h : Sl w A (u8s xs) q) (hA : A = none → xs.length = 0 ∧ c = 0) : (convert src dst (.slice A xs.length c)).run P w = .ok (.string (strOfNums xs)) w := by
  rcases A with _ | ad
  · obtain ⟨h0, rfl⟩ := hA rfl
    obtain rfl : xs = [] := List.eq_nil_of_length_eq_zero h0
    exact run_convert_bytes_nil w src e hs he 0 0 dst hd
  · have hl : (loadCells ad xs.length).run P w = .ok (xs.map (Value.int .u8)).toArray w := by
      have := run_loadCells_list (P := P) w ad (xs.map (Value.int .u8)) (h.news rfl)
      simpa using this
    rw [run_convert_bytes_string w src dst e _ xs.length c hs he hd, run_bytesToString w ad xs.length c xs hl, foldl_push_bytes]
    simp [strOfNums, ByteArray.empty, ByteArray.emptyWithCapacity]
    rfl
theorem str_eq {xs ys : List Int} (hx : ∀ x ∈ xs, 0 ≤ x ∧ x ≤ 255) (hy : ∀ x ∈ ys, 0 ≤ x ∧ x ≤ 255) : ((strOfNums xs).toList == (strOfNums ys).toList) = decide (xs = ys) := by
  have e : ∀ zs : List Int, (strOfNums zs).toList = zs.map fun n => UInt8.ofNat n.toNat := by
    intro zs
    rw [ByteArray.toList_eq]; simp [strOfNums]
  rw [e, e, Bool.eq_iff_iff]
  simp only [beq_iff_eq, decide_eq_true_eq]
  constructor
  · intro h
    induction xs generalizing ys with
    | nil => cases ys <;> simp_all
    | cons x xs ih =>
      cases ys with
      | nil => simp at h
      | cons y ys =>
        simp only [List.map_cons, List.cons.injEq] at h
        have h1 := hx x (by simp)
        have h2 := hy y (by simp)
        have e1 := congrArg UInt8.toNat h.1
        simp at e1
        rw [ih (fun z hz => hx z (by simp [hz])) (fun z hz => hy z (by simp [hz])) h.2]
        congr 1
        omega
  · rintro rfl; rfl
theorem same_any (w : World) (A B : Option Addr) (n m c d : Nat) (xs ys : List Int) (p q : Option Nat) (hn : xs.length = n) (hm : ys.length = m) (hx : ∀ x ∈ xs, 0 ≤ x ∧ x ≤ 255) (hy : ∀ x ∈ ys, 0 ≤ x ∧ x ≤ 255)
    (hS : Sl w A (u8s xs) p) (hT : Sl w B (u8s ys) q) (hA : A = none → n = 0 ∧ c = 0) (hB : B = none → m = 0 ∧ d = 0) :
    Calls Tryz.prog 19 #[.slice A n c, .slice B m d] w fun e w' => e = .returned (.bool (decide (xs = ys))) ∧ w = w' := by
  subst hn hm
  have h1 := conv_string (P := Tryz.prog) (dst := 9) Tryz.underlying23 Tryz.underlying5 Tryz.underlying9 hS hA
  have h2 := conv_string (P := Tryz.prog) (dst := 9) Tryz.underlying23 Tryz.underlying5 Tryz.underlying9 hT hB
  have He := Hd.mk (str_eq hx hy)
  clear hS hT hA hB hx hy
  go_enter Tryz.func19, Tryz.ntmps19
  go_wp2
  go_ret
  exact ⟨by rw [← He.out]; rfl, rfl⟩
end Go.Proofs.YtlfckpmdmkccjaaGreat.Bits
/- Chapter 09: the document's fifth example (lives), and BlockNames. No condition. -/
set_option linter.unusedVariables false
set_option linter.unusedSimpArgs false
set_option maxRecDepth 100000
namespace Go.Proofs.YtlfckpmdmkccjaaGreat.Blk
open Go.RowKit Go.Proofs.YtlfckpmdmkccjaaGreat.Lib Go.Proofs.YtlfckpmdmkccjaaGreat.Ints Go.Proofs.YtlfckpmdmkccjaaGreat.Lz Go.Proofs.YtlfckpmdmkccjaaGreat.Num Go.Proofs.YtlfckpmdmkccjaaGreat.Bits Go.Proofs.YtlfckpmdmkccjaaGreat.Code
def ex5 : List Tok := [⟨97, 0, 0⟩]
theorem ex5_bits : totOf ([(lastN true, 1), (1, 2)] ++ bodyP plainLit plainDist ex5) = 18 ∧ numOf ([(lastN true, 1), (1, 2)] ++ bodyP plainLit plainDist ex5) = 0x044b := by decide +kernel
theorem ex5_may : mayB ex5 = 0 ∧ Lz.sizeOf ex5 = 1 := by decide
set_option maxHeartbeats 4000000 in
theorem blives_any (w : World) : Calls Tryz.prog 22 #[] w fun e w' => e = .returned (.bool true) ∧ Fr w w' [] := by
  have kc := fun (w : World) (C : Array Value) (n c : Nat) => Lib.run_convert_bytes_const (P := Tryz.prog) w 23 5 C n c Tryz.underlying23 Tryz.underlying5
  go_enter Tryz.func22, Tryz.ntmps22
  go_upto_region 2 with (fail)
  have T1 := Hd.mk (tl_new w 27 (by decide))
  have F1 := Hd.mk ((Fr.refl w []).alloc (.cells #[.slice none 0 0, .int .i64 0] 27))
  generalize hw1 : w.alloc (.cells #[.slice none 0 0, .int .i64 0] 27) = w1 at *
  have hgw : w.heap.size < w1.heap.size := by rw [← hw1]; simp
  clear hw1
  obtain ⟨gw, hg⟩ : ∃ gw, gw = w.heap.size := ⟨_, rfl⟩
  rw [← hg] at T1 hgw ⊢
  have hge : w.heap.size ≤ gw := by omega
  clear hg
  go_wp2_with (fail)
  have f2 := ((Fr.refl w1 []).alloc (.cells #[.int .u8 97] 5 (1, 2))).alloc (.cells #[.int .u8 97, .int .i64 0, .int .i64 0] 84)
  refine (write1_any _ true _ 1 1 (some ⟨w1.heap.size + 1, 0, none⟩) 1 1 ex5 (some (w1.heap.size + 1)) rfl (by exact sl_new2 w1 _ _ _) (by decide) (by intro t ht; simp [ex5] at ht; subst ht; exact ⟨by decide, by decide⟩) (by decide) gw 0 0 none (T1.out.frame f2 (by simp) (by simp)) (fun k hk => by cases hk; refine ⟨by simp; omega, by simp⟩) (by decide) 0 (by rw [ex5_may.1, ex5_may.2]; rfl)).mono ?_
  rintro e w3 ⟨rfl, h1, _⟩
  obtain ⟨q3, h3⟩ := h1 rfl
  have F3 : Hd (Fr w w3 []) := ⟨F1.out.trans (((f2.mono (G := [gw]) (fun k _ h => by cases h)).trans h3.fr (fun x _ hm => by simpa using hm))) (fun x hx hm => by simp at hm; omega)⟩
  have h3t := h3.tl
  rw [ex5_bits.1, ex5_bits.2] at h3t
  have T3 := Hd.mk h3t
  clear h1 h3 h3t f2
  go_wp2_with (fail)
  refine (bytes_any w3 (by decide) T3.out).mono ?_
  rintro e w4 ⟨v, rfl, h1, h2, h3⟩
  rw [show (0 + 18 + 7) / 8 = 3 from rfl, show bytesOf (0 + 0x044b * 2 ^ 0) (0 + 18) = [0x4b, 0x04, 0x00] from by decide] at h1
  obtain ⟨A, c, rfl, hc, _⟩ := own_slice h1
  have S4 := Hd.mk (sl_of_own h1)
  have NA := Hd.mk (fun h => own_none h1 h)
  have T4 := Hd.mk (T3.out.frame h3 (by simp) (by simp))
  have F4 := Hd.mk (F3.out.trans h3 (by simp))
  clear h1 h2 h3
  go_wp2_with (fail)
  refine (Bits.same_any _ A _ 3 3 c 3 [75, 4, 0] [75, 4, 0] _ _ rfl rfl (by decide) (by decide) (S4.out.alloc _) (by exact sl_of_blk (blk_new w4 _)) NA.out (by intro h; cases h)).mono ?_
  rintro e w5 ⟨rfl, rfl⟩
  have T5 := Hd.mk (T4.out.frame ((Fr.refl w4 []).alloc (.cells #[.int .u8 75, .int .u8 4, .int .u8 0] 5)) (by simp) (by simp))
  have F5 := Hd.mk (F4.out.alloc (.cells #[.int .u8 75, .int .u8 4, .int .u8 0] 5))
  rw [show decide ([(75 : Int), 4, 0] = [75, 4, 0]) = true from rfl]
  go_wp2_with (fail)
  refine (len_any _ T5.out).mono ?_
  rintro e w' ⟨rfl, rfl⟩
  go_wp2
  go_ret
  exact ⟨rfl, F5.out⟩
end Go.Proofs.YtlfckpmdmkccjaaGreat.Blk
/- LensCosts: the cost of any lists, on both sides. Conditions: none but what memory bounds. -/
set_option linter.unusedVariables false
set_option linter.unusedSimpArgs false
set_option maxRecDepth 100000
namespace Go.Proofs.YtlfckpmdmkccjaaGreat.Lens
open Go.RowKit Go.Proofs.YtlfckpmdmkccjaaGreat.Lib Go.Proofs.YtlfckpmdmkccjaaGreat.Ints

/-- is there one that is out of bounds? -/
def out (hi : Int) (xs : List Int) : Bool := xs.any fun x => decide (x < 0 ∨ hi < x)
theorem out_true {hi : Int} {xs : List Int} {j : Nat} (h : j < xs.length) (hx : xs[j] < 0 ∨ hi < xs[j]) : out hi xs = true := by
  simp only [out, List.any_eq_true, decide_eq_true_eq]
  exact ⟨_, List.getElem_mem h, hx⟩
theorem out_false {hi : Int} {xs : List Int} (h : ∀ i, (hi' : i < xs.length) → 0 ≤ xs[i] ∧ xs[i] ≤ hi) : out hi xs = false := by
  rw [Bool.eq_false_iff]
  intro hc
  simp only [out, List.any_eq_true, decide_eq_true_eq] at hc
  obtain ⟨x, hx, h1⟩ := hc
  obtain ⟨i, hi', rfl⟩ := List.getElem_of_mem hx
  have := h i hi'
  omega
theorem of_out {hi : Int} {xs : List Int} (h : out hi xs = false) {j : Nat} (hj : j < xs.length) : 0 ≤ xs[j] ∧ xs[j] ≤ hi := by
  by_cases hx : xs[j] < 0 ∨ hi < xs[j]
  · rw [out_true hj hx] at h; cases h
  · omega
def cn (fs : List Int) : Int := if 288 < fs.length then 40 else if out 1099511627776 fs then 42 else 0
def dot (fs ls : List Int) : Nat → Int
  | 0 => 0
  | j + 1 => dot fs ls j + fs.getD j 0 * ls.getD j 0
def costN (fs ls : List Int) : Int × Int := if fs.length ≠ ls.length then (0, 1) else if cn fs ≠ 0 then (0, cn fs) else if out 15 ls then (0, 41) else (dot fs ls ls.length, 0)
theorem cn_zero {fs : List Int} (h : cn fs = 0) : fs.length ≤ 288 ∧ out 1099511627776 fs = false := by
  unfold cn at h
  split at h
  · cases h
  · split at h
    · cases h
    · rename_i h1 h2; exact ⟨by omega, by cases e : out 1099511627776 fs <;> simp_all⟩
theorem counts_any (w : World) (A : Option Addr) (n c : Nat) (xs : List Int) (p : Option Nat) (hn : xs.length = n) (hS : Sl w A (i64s xs) p) (hn1 : n ≤ 4611686018427387904) :
    Calls Tryz.prog 73 #[.slice A n c] w fun e w' => e = .returned (.int .i64 (cn xs)) ∧ w = w' := by
  subst hn
  have HS := Hd.mk hS
  clear hS
  by_cases hbig : 288 < xs.length
  · have hc : Hd (cn xs = 40) := ⟨by unfold cn; rw [if_pos hbig]⟩
    go_enter Tryz.func73, Tryz.ntmps73
    go_wp2
    go_ret
    exact ⟨by rw [hc.out]; rfl, rfl⟩
  · go_enter Tryz.func73, Tryz.ntmps73
    go_wp2
    go_loopg [10] xs.length (fun kq jv wr => ∃ j : Nat, jv = .int .i64 (j : Nat) ∧ j + kq = xs.length ∧ wr = w ∧ Hd (∀ i, i < j → (h : i < xs.length) → 0 ≤ xs[i] ∧ xs[i] ≤ 1099511627776))
    case atStart => exact ⟨0, rfl, by omega, rfl, ⟨fun i h => absurd h (Nat.not_lt_zero _)⟩⟩
    case round =>
      obtain ⟨j, rfl, hj, rfl, HA⟩ := hrel
      by_cases h1 : j < xs.length
      · obtain ⟨a, o1, rfl, _, ha⟩ := HS.out (by simp [i64s]; omega)
        obtain ⟨x, hx⟩ : ∃ x, x = xs[j] := ⟨_, rfl⟩
        have ca := (ha j (by simp [i64s]; omega)).trans (by rw [i64s_get, List.getElem?_eq_getElem (by omega), ← hx])
        have HX := Hd.mk hx
        clear ha hx
        by_cases h2 : x < 0
        · have hc : Hd (cn xs = 42) := ⟨by unfold cn; rw [if_neg hbig, if_pos (out_true h1 (by rw [← HX.out]; exact .inl h2))]⟩
          go_wp2
          go_ret
          exact ⟨by rw [hc.out]; rfl, rfl⟩
        · by_cases h3 : 1099511627776 < x
          · have hc : Hd (cn xs = 42) := ⟨by unfold cn; rw [if_neg hbig, if_pos (out_true h1 (by rw [← HX.out]; exact .inr h3))]⟩
            go_wp2
            go_ret
            exact ⟨by rw [hc.out]; rfl, rfl⟩
          · go_wp2
            go_roundg (gk - 1)
            case measure => omega
            case rel => exact ⟨j + 1, by go_num, by omega, rfl, ⟨fun i hi h => by
              by_cases e : i = j
              · subst e; rw [← HX.out]; omega
              · exact HA.out i (by omega) h⟩⟩
      · go_wp2
        go_ret
        have hc : cn xs = 0 := by unfold cn; rw [if_neg hbig, out_false (fun i hi => HA.out i (by omega) hi)]; rfl
        exact ⟨by rw [hc]; rfl, rfl⟩
theorem wrong_any (w : World) (A : Option Addr) (n c : Nat) (xs : List Int) (p : Option Nat) (hn : xs.length = n) (hS : Sl w A (i64s xs) p) (hn1 : n ≤ 4611686018427387904) :
    Calls Tryz.prog 100 #[.slice A n c] w fun e w' => e = .returned (.int .i64 (cn xs)) ∧ w = w' := by
  subst hn
  have HS := Hd.mk hS
  clear hS
  by_cases hbig : 288 < xs.length
  · have hc : Hd (cn xs = 40) := ⟨by unfold cn; rw [if_pos hbig]⟩
    go_enter Tryz.func100, Tryz.ntmps100
    go_wp2
    go_ret
    exact ⟨by rw [hc.out]; rfl, rfl⟩
  · go_enter Tryz.func100, Tryz.ntmps100
    go_wp2
    go_loopg [3] xs.length (fun kq jv wr => ∃ j : Nat, jv = .int .i64 (j : Nat) ∧ j + kq = xs.length ∧ wr = w ∧ Hd (∀ i, i < j → (h : i < xs.length) → 0 ≤ xs[i] ∧ xs[i] ≤ 1099511627776))
    case atStart => exact ⟨0, rfl, by omega, rfl, ⟨fun i h => absurd h (Nat.not_lt_zero _)⟩⟩
    case round =>
      obtain ⟨j, rfl, hj, rfl, HA⟩ := hrel
      by_cases h1 : j < xs.length
      · obtain ⟨a, o1, rfl, _, ha⟩ := HS.out (by simp [i64s]; omega)
        obtain ⟨x, hx⟩ : ∃ x, x = xs[j] := ⟨_, rfl⟩
        have ca := (ha j (by simp [i64s]; omega)).trans (by rw [i64s_get, List.getElem?_eq_getElem (by omega), ← hx])
        have HX := Hd.mk hx
        clear ha hx
        by_cases h2 : x < 0
        · have hc : Hd (cn xs = 42) := ⟨by unfold cn; rw [if_neg hbig, if_pos (out_true h1 (by rw [← HX.out]; exact .inl h2))]⟩
          go_wp2
          go_ret
          exact ⟨by rw [hc.out]; rfl, rfl⟩
        · by_cases h3 : 1099511627776 < x
          · have hc : Hd (cn xs = 42) := ⟨by unfold cn; rw [if_neg hbig, if_pos (out_true h1 (by rw [← HX.out]; exact .inr h3))]⟩
            go_wp2
            go_ret
            exact ⟨by rw [hc.out]; rfl, rfl⟩
          · go_wp2
            go_roundg (gk - 1)
            case measure => omega
            case rel => exact ⟨j + 1, by go_num, by omega, rfl, ⟨fun i hi h => by
              by_cases e : i = j
              · subst e; rw [← HX.out]; omega
              · exact HA.out i (by omega) h⟩⟩
      · go_wp2
        go_ret
        have hc : cn xs = 0 := by unfold cn; rw [if_neg hbig, out_false (fun i hi => HA.out i (by omega) hi)]; rfl
        exact ⟨by rw [hc]; rfl, rfl⟩
theorem dot_le {fs ls : List Int} (h1 : ∀ i, (h : i < fs.length) → 0 ≤ fs[i] ∧ fs[i] ≤ 1099511627776) {j : Nat} (h2 : ∀ i, i < j → (h : i < ls.length) → 0 ≤ ls[i] ∧ ls[i] ≤ 15) (hj : j ≤ ls.length) (hl : fs.length = ls.length) :
    0 ≤ dot fs ls j ∧ dot fs ls j ≤ 16492674416640 * j := by
  induction j with
  | zero => simp [dot]
  | succ j ih =>
    have a := ih (fun i hi h => h2 i (by omega) h) (by omega)
    have b := h1 j (by omega)
    have c := h2 j (by omega) (by omega)
    simp only [dot, List.getD_eq_getElem?_getD, List.getElem?_eq_getElem (show j < fs.length by omega), List.getElem?_eq_getElem (show j < ls.length by omega), Option.getD_some]
    have d := Int.mul_nonneg b.1 c.1
    have e : fs[j] * ls[j] ≤ 1099511627776 * 15 := Int.mul_le_mul b.2 c.2 c.1 (by omega)
    constructor
    · omega
    · rw [Int.natCast_add]; omega
end Go.Proofs.YtlfckpmdmkccjaaGreat.Lens
/- Stable sorting of leaves (chapter 04): the comparison, two ranges exchanged. Conditions: at most 2^40 items. -/
set_option linter.unusedVariables false
set_option linter.unusedSimpArgs false
set_option maxRecDepth 100000
namespace Go.Proofs.YtlfckpmdmkccjaaGreat.Sort
open Go.RowKit Go.Proofs.YtlfckpmdmkccjaaGreat.Lib Go.Proofs.YtlfckpmdmkccjaaGreat.Ints Go.Proofs.YtlfckpmdmkccjaaGreat.Sorts

/-- a leaf's cells: its count and its symbol -/
def lfc (x : Nat × Nat) : List Value := [.int .i64 x.1, .int .i64 x.2, .slice none 0 0]
def lfs (xs : List (Nat × Nat)) : List Value := xs.flatMap lfc
/-- the row that is sorted -/
def Rw (w : World) (g n : Nat) (d : Nat → Nat × Nat) : Prop := ∃ cs, w.heap[g]? = some (.cells cs 149 (0, 0)) ∧ cs.toList.take (n * 3) = lfs (lst n d)
theorem Rw.frame {w w' : World} {g n : Nat} {d : Nat → Nat × Nat} (h : Rw w g n d) {F : List Nat} (hf : Fr w w' F) (hg : g ∉ F) : Rw w' g n d := by
  obtain ⟨cs, h1, h2⟩ := h
  exact ⟨cs, hf.blk h1 hg, h2⟩
theorem lfs_len (xs : List (Nat × Nat)) : (lfs xs).length = xs.length * 3 := flat_len lfc 3 (fun _ => rfl) xs
theorem Rw.cell {w : World} {g n : Nat} {d : Nat → Nat × Nat} (h : Rw w g n d) {i j : Nat} (hi : i < n) (hj : j < 3) : w.cell? ⟨g, i * 3 + j, none⟩ = (lfc (d i))[j]? := by
  obtain ⟨cs, h1, h2⟩ := h
  rw [blk_cell h1, ← Array.getElem?_toList]
  have := flat_get lfc 3 (fun _ => rfl) (lst n d) i j (by rw [lst_len]; exact hi) hj
  have e : (lst n d)[i]'(by rw [lst_len]; exact hi) = d i := by simp [lst]
  rw [e] at this
  rw [← this]
  show _ = (lfs (lst n d))[i * 3 + j]?
  rw [← h2, List.getElem?_take, if_pos (by omega)]
theorem Rw.free {w : World} {g n : Nat} {d : Nat → Nat × Nat} (h : Rw w g n d) (o : Nat) : w.frozen? ⟨g, o, none⟩ = false := by
  obtain ⟨cs, h1, _⟩ := h
  exact blk_frozen h1 o
/-- an element is laid into the row -/
theorem Rw.put {w : World} {g n : Nat} {d : Nat → Nat × Nat} (h : Rw w g n d) {i : Nat} (hi : i < n) (x : Nat × Nat) :
    Rw (((w.setCell ⟨g, i * 3, none⟩ (.int .i64 x.1)).setCell ⟨g, i * 3 + 1, none⟩ (.int .i64 x.2)).setCell ⟨g, i * 3 + 2, none⟩ (.slice none 0 0)) g n (fun k => if k = i then x else d k) := by
  obtain ⟨cs, h1, h2⟩ := h
  have b1 := blk_set h1 (i * 3) (.int .i64 x.1)
  have b2 := blk_set b1 (i * 3 + 1) (.int .i64 x.2)
  have b3 := blk_set b2 (i * 3 + 2) (.slice none 0 0)
  refine ⟨_, b3, ?_⟩
  have hl : (lfs (lst n d)).length = n * 3 := by rw [lfs_len, lst_len]
  have hcs : n * 3 ≤ cs.size := by
    have := congrArg List.length h2
    rw [hl, List.length_take] at this
    have e : cs.toList.length = cs.size := by simp
    omega
  apply List.ext_getElem?
  intro k
  by_cases hk : k < n * 3
  · rw [List.getElem?_take, if_pos hk]
    have q0 : k = k / 3 * 3 + k % 3 := by omega
    have r0 : k % 3 < 3 := Nat.mod_lt _ (by decide)
    have hq : k / 3 < n := by omega
    have e1 := flat_get lfc 3 (fun _ => rfl) (lst n (fun k => if k = i then x else d k)) (k / 3) (k % 3) (by rw [lst_len]; exact hq) r0
    have e2 : (lst n (fun k => if k = i then x else d k))[k / 3]'(by rw [lst_len]; exact hq) = if k / 3 = i then x else d (k / 3) := by simp [lst]
    rw [e2, ← q0] at e1
    have e3 := flat_get lfc 3 (fun _ => rfl) (lst n d) (k / 3) (k % 3) (by rw [lst_len]; exact hq) r0
    have e4 : (lst n d)[k / 3]'(by rw [lst_len]; exact hq) = d (k / 3) := by simp [lst]
    rw [e4, ← q0] at e3
    have e5 : cs[k]? = (lfc (d (k / 3)))[k % 3]? := by
      rw [← e3, ← Array.getElem?_toList]
      show _ = (lfs (lst n d))[k]?
      rw [← h2, List.getElem?_take, if_pos hk]
    show _ = (lfs _)[k]?
    unfold lfs
    rw [e1, Array.getElem?_toList]
    simp only [Array.getElem?_setIfInBounds, Array.size_setIfInBounds]
    by_cases c : k / 3 = i
    · rw [if_pos c]
      have : k % 3 = 0 ∨ k % 3 = 1 ∨ k % 3 = 2 := by omega
      rcases this with r | r | r
      · rw [if_neg (by omega), if_neg (by omega), if_pos (by omega), if_pos (by omega), r]; rfl
      · rw [if_neg (by omega), if_pos (by omega), if_pos (by omega), r]; rfl
      · rw [if_pos (by omega), if_pos (by omega), r]; rfl
    · rw [if_neg c, if_neg (by omega), if_neg (by omega), if_neg (by omega), e5]
  · rw [List.getElem?_eq_none (by rw [List.length_take]; omega), List.getElem?_eq_none (by rw [lfs_len, lst_len]; omega)]
theorem Rw.drew {w : World} {g n : Nat} {d : Nat → Nat × Nat} (h : Rw w g n d) : Rw w.drew g n d := h.frame (Fr.refl w []).drew (by simp)
theorem Rw.drewN {w : World} {g n : Nat} {d : Nat → Nat × Nat} (h : Rw w g n d) (m : Nat) : Rw (w.drewN m) g n d := h.frame ((Fr.refl w []).drewN m) (by simp)
theorem Fr.cellAt {w w' : World} {F : List Nat} (h : Fr w w' F) {g o : Nat} {v : Value} (hg : g ∉ F) (hc : w.cell? ⟨g, o, none⟩ = some v) : w'.cell? ⟨g, o, none⟩ = some v :=
  (World.cell?_of_block (w := w) (h.block g (World.block_lt_of_cell? w _ hc) hg)).trans hc
/-- six cells turned: two elements exchanged -/
def six (w : World) (g i j : Nat) (x y : Nat × Nat) : World := (((((w.setCell ⟨g, i * 3, none⟩ (.int .i64 y.1)).setCell ⟨g, i * 3 + 1, none⟩ (.int .i64 y.2)).setCell ⟨g, i * 3 + 2, none⟩ (.slice none 0 0)).setCell ⟨g, j * 3, none⟩ (.int .i64 x.1)).setCell ⟨g, j * 3 + 1, none⟩ (.int .i64 x.2)).setCell ⟨g, j * 3 + 2, none⟩ (.slice none 0 0)
theorem Rw.swap {w : World} {g n : Nat} {d : Nat → Nat × Nat} (h : Rw w g n d) {i j : Nat} (hi : i < n) (hj : j < n) (hne : i ≠ j) {x y : Nat × Nat} (hx : x = d i) (hy : y = d j) : Rw (six w g i j x y) g n (sw d i j) := by
  have h1 := (h.put hi y).put hj x
  have e : (fun k => if k = j then x else if k = i then y else d k) = sw d i j := by
    funext q
    unfold sw
    rw [hx, hy]
    by_cases q1 : q = j
    · rw [if_pos q1, if_neg (by omega), if_pos q1]
    · rw [if_neg q1]
      by_cases q2 : q = i
      · rw [if_pos q2, if_pos q2]
      · rw [if_neg q2, if_neg q2, if_neg q1]
  rw [← e]
  exact h1
theorem Fr.six {w w' : World} {F : List Nat} (h : Fr w w' F) {g i j : Nat} {x y : Nat × Nat} (hg : g ∈ F) : Fr w (six w' g i j x y) F :=
  (((((h.setCell _ (.inl hg)).setCell _ (.inl hg)).setCell _ (.inl hg)).setCell _ (.inl hg)).setCell _ (.inl hg)).setCell _ (.inl hg)
theorem isNaN_any (w : World) (a : Int) : Calls Tryz.prog 131 #[.int .i64 a] w fun e w' => e = .returned (.bool false) ∧ w = w' := by
  have h : (a != a) = false := by simp
  go_enter Tryz.func131, Tryz.ntmps131
  go_wp2
  go_ret
  exact ⟨rfl, rfl⟩
def cmpv (a b : Int) : Int := if a < b then -1 else if b < a then 1 else 0
theorem compare_any (w : World) (a b : Int) : Calls Tryz.prog 110 #[.int .i64 a, .int .i64 b] w fun e w' => e = .returned (.int .i64 (cmpv a b)) ∧ w = w' := by
  by_cases h1 : a < b
  · have hc : Hd (cmpv a b = -1) := ⟨by unfold cmpv; rw [if_pos h1]⟩
    go_enter Tryz.func110, Tryz.ntmps110
    go_wp2_with ((with_reducible refine (isNaN_any _ _).mono ?_); rintro e w' ⟨rfl, rfl⟩)
    go_ret
    rw [hc.out]
    exact ⟨rfl, rfl⟩
  · by_cases h2 : b < a
    · have hc : Hd (cmpv a b = 1) := ⟨by unfold cmpv; rw [if_neg h1, if_pos h2]⟩
      go_enter Tryz.func110, Tryz.ntmps110
      go_wp2_with ((with_reducible refine (isNaN_any _ _).mono ?_); rintro e w' ⟨rfl, rfl⟩)
      go_ret
      rw [hc.out]
      exact ⟨rfl, rfl⟩
    · have hc : Hd (cmpv a b = 0) := ⟨by unfold cmpv; rw [if_neg h1, if_neg h2]⟩
      go_enter Tryz.func110, Tryz.ntmps110
      go_wp2_with ((with_reducible refine (isNaN_any _ _).mono ?_); rintro e w' ⟨rfl, rfl⟩)
      go_ret
      rw [hc.out]
      exact ⟨rfl, rfl⟩
/-- the comparison that leaves are sorted by -/
theorem less_any (w : World) (x y : Nat × Nat) :
    Calls Tryz.prog 109 #[.agg #[.int .i64 x.1, .int .i64 x.2, .slice none 0 0], .agg #[.int .i64 y.1, .int .i64 y.2, .slice none 0 0]] w fun e w' => e = .returned (.int .i64 (cmpv x.1 y.1)) ∧ Fr w w' [] := by
  go_enter Tryz.func109, Tryz.ntmps109
  go_wp2_with ((with_reducible refine (compare_any _ _ _).mono ?_); rintro e w' ⟨rfl, rfl⟩)
  go_ret
  exact ⟨rfl, ((Fr.refl _ _).alloc _).alloc _⟩
set_option maxHeartbeats 4000000 in
theorem swapRange_any (w : World) (g n c : Nat) (d : Nat → Nat × Nat) (a b k : Nat) (f : Value) (hR : Rw w g n d) (hn : n ≤ 1099511627776) (hnc : n ≤ c) (h1 : a + k ≤ b) (h2 : b + k ≤ n) :
    Calls Tryz.prog 159 #[.slice (some ⟨g, 0, none⟩) n c, .int .i64 (a : Nat), .int .i64 (b : Nat), .int .i64 (k : Nat), f] w fun e w' => e = .returned (.tuple #[]) ∧ Rw w' g n (swr d a b k) ∧ Fr w w' [g] := by
  have HR := Hd.mk hR
  clear hR
  go_enter Tryz.func159, Tryz.ntmps159
  go_wp2
  go_loopg [10] k (fun kq iv wr => ∃ i : Nat, iv = .int .i64 (i : Nat) ∧ i + kq = k ∧ Hd (Rw wr g n (swr d a b i)) ∧ Hd (Fr w wr [g]))
  case atStart => exact ⟨0, rfl, by omega, ⟨by rw [swr_zero]; exact HR.out⟩, ⟨Fr.refl _ _⟩⟩
  case round =>
    obtain ⟨i, rfl, hi, HRi, HF⟩ := hrel
    by_cases hik : i < k
    · have ca0 := HRi.out.cell (i := a + i) (j := 0) (by omega) (by decide)
      have ca1 := HRi.out.cell (i := a + i) (j := 1) (by omega) (by decide)
      have ca2 := HRi.out.cell (i := a + i) (j := 2) (by omega) (by decide)
      have cb0 := HRi.out.cell (i := b + i) (j := 0) (by omega) (by decide)
      have cb1 := HRi.out.cell (i := b + i) (j := 1) (by omega) (by decide)
      have cb2 := HRi.out.cell (i := b + i) (j := 2) (by omega) (by decide)
      obtain ⟨x, hx⟩ : ∃ x, x = swr d a b i (a + i) := ⟨_, rfl⟩
      obtain ⟨y, hy⟩ : ∃ y, y = swr d a b i (b + i) := ⟨_, rfl⟩
      rw [← hx] at ca0 ca1 ca2
      rw [← hy] at cb0 cb1 cb2
      have HX := Hd.mk hx
      have HY := Hd.mk hy
      clear hx hy
      have fr : ∀ o, wr.frozen? ⟨g, o, none⟩ = false := HRi.out.free
      simp only [lfc, List.getElem?_cons_zero, List.getElem?_cons_succ, Nat.add_zero] at ca0 ca1 ca2 cb0 cb1 cb2
      go_upto_region 3 with (fail)
      have n1 : (↑a + ↑i : Int).toNat = a + i := by omega
      have n2 : (↑b + ↑i : Int).toNat = b + i := by omega
      have n3 : IntKind.i64.wrap (↑a + ↑i) = ↑a + ↑i := IntWalk.i64_in _ (by omega)
      have n4 : IntKind.i64.wrap (↑b + ↑i) = ↑b + ↑i := IntWalk.i64_in _ (by omega)
      have n5 : (0 : Int) ≤ ↑a + ↑i := by omega
      have n6 : (0 : Int) ≤ ↑b + ↑i := by omega
      have n7 : (↑a + ↑i : Int) < ↑n := by omega
      have n8 : (↑b + ↑i : Int) < ↑n := by omega
      go_region
      have HP : Hd (Rw (six wr g (a + i) (b + i) x y).drew g n (swr d a b (i + 1))) := ⟨by
        rw [← swr_step d (a := a) (b := b) (i := i) (by omega)]
        exact (HRi.out.swap (by omega) (by omega) (by omega) HX.out HY.out).drew⟩
      have HF2 : Hd (Fr w (six wr g (a + i) (b + i) x y).drew [g]) := ⟨(Fr.six HF.out (by simp)).drew⟩
      clear n1 n2 n3 n4 n5 n6 n7 n8 ca0 ca1 ca2 cb0 cb1 cb2 fr
      unfold six at HP HF2
      go_wp2
      go_roundg (gk - 1)
      case measure => omega
      case rel => exact ⟨i + 1, by go_num, by omega, HP, HF2⟩
    · obtain rfl : i = k := by omega
      go_wp2
      go_end0
      exact ⟨rfl, HRi.out, HF.out⟩
end Go.Proofs.YtlfckpmdmkccjaaGreat.Sort
