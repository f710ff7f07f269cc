/- Texts of this claim, one behind the other: BlkM, BlkN, BlkO, BlkS, BlkT, BlkU, BlkW. -/
import Derived.Test.YtkdgfioigkijgaaGreatH01
import Derived.Test.YtkdgfioigkijgaaGreatH02
import Derived.Test.YtkdgfioigkijgaaGreatH03
import Derived.Test.YtkdgfioigkijgaaGreatH04
import Derived.Test.YtkdgfioigkijgaaGreatH05
import Derived.Test.YtkdgfioigkijgaaGreatH06
import Derived.Test.YtkdgfioigkijgaaGreatH07
import Derived.Test.YtkdgfioigkijgaaGreatH08
import Derived.Test.YtkdgfioigkijgaaGreatH09
import Derived.Test.YtkdgfioigkijgaaGreatH10
import Derived.Test.YtkdgfioigkijgaaGreatH11
import Derived.Test.YtkdgfioigkijgaaGreatH12
import Derived.Test.YtkdgfioigkijgaaGreatH13
import Derived.Test.YtkdgfioigkijgaaGreatH14
import Derived.Lib.SlBytesConst
import Derived.Laws.Bits64
/- Chapter 09: the cost of a plain block. Conditions: at most 2^40 tokens. -/
set_option linter.unusedVariables false
set_option linter.unusedSimpArgs false
set_option maxRecDepth 100000
namespace Go.Proofs.YtkdgfioigkijgaaGreat.Blk
open Go.RowKit Go.Proofs.YtkdgfioigkijgaaGreat.Lib Go.Proofs.YtkdgfioigkijgaaGreat.Ints Go.Proofs.YtkdgfioigkijgaaGreat.Lz Go.Proofs.YtkdgfioigkijgaaGreat.Num Go.Proofs.YtkdgfioigkijgaaGreat.Bits Go.Proofs.YtkdgfioigkijgaaGreat.Code
theorem plainLit_check : check plainLit = 0 := by decide +kernel
theorem plainDist_check : check plainDist = 0 := by decide +kernel
theorem plainLit_end : bitsOf plainLit 256 = 7 := by decide +kernel
theorem slArg_own {w : World} {base : Nat} {e : TypeId} {A : Option Addr} {n c : Nat} {xs : List Value} (h : w.ownsRow base e 1 (.slice A n c) n xs) : SlArg w A n c xs (Value.slice A n c).ownBlock := by
  obtain ⟨A', c', h1, h2, h3, _⟩ := own_slice h
  injection h1 with e1 _ e3
  subst e1 e3
  exact ⟨by have := h.1; omega, h2, h3, fun hA => own_none h hA, sl_of_own h, fun b hb => own_lt h hb⟩
set_option maxHeartbeats 4000000 in
theorem plainCost_any (w : World) (bh : Int) (A : Option Addr) (n c : Nat) (l : List Tok) (p : Option Nat) (hn : l.length = n) (hS : Sl w A (tcells l) p) (hb : n ≤ 65536) (hr : ∀ t ∈ l, right t = true) (hl : LitB l) (m : Int) (hm : m = codedN plainLit plainDist l) :
    Calls Tryz.prog 83 #[.int .i64 bh, .slice A n c] w fun e w' => e = .returned (.tuple #[.int .i64 (3 + m), .int .i64 0]) ∧ Fr w w' [] := by
  have HS := Hd.mk hS
  have HR := Hd.mk (And.intro hr hl)
  have HM := Hd.mk hm
  clear hS hr hl
  have hmb : 0 ≤ m ∧ m ≤ 15 + 48 * 65536 := by
    rw [hm]
    have h1 := codedF_le plainLit15 plainDist15 l HR.out.1 HR.out.2
    have h2 := lens15_get plainLit15 256
    unfold codedN
    omega
  clear hm
  go_enter Tryz.func83, Tryz.ntmps83
  go_wp2_with (fail)
  refine (plainLens_any w).mono ?_
  rintro e w1 hp
  unfold PlPost at hp
  obtain ⟨g, h, rfl, h1, h2, _, _, _, h3⟩ := hp
  have X1 := Hd.mk (sl_of_own h1)
  have Y1 := Hd.mk (sl_of_own h2)
  have F1 := Hd.mk h3
  clear h1 h2 h3
  go_wp2_with (fail)
  refine (coded_any w1 _ _ 288 288 32 32 plainLit plainDist _ _ X1.out Y1.out (fill_len _ _ _) (fill_len _ _ _) (by omega) (by omega) A n c l p hn (HS.out.frame F1.out (by simp)) hb HR.out.1 HR.out.2 plainLit15 plainDist15 m HM.out).mono ?_
  rintro e w2 ⟨rfl, h1⟩
  have F2 := Hd.mk (F1.out.trans h1 (by simp))
  clear h1
  go_wp2
  go_ret2
  exact ⟨rfl, F2.out⟩
def waysC : Array Value := #[.func (.func 81) #[] #[], .func (.func 82) #[] #[], .func (.func 83) #[] #[], .func (.func 84) #[] #[], .func (.func 85) #[] #[], .func (.func 86) #[] #[]]
theorem waysInfo : (Tryz.prog.info? 121).map (·.size) = some waysC.size := by kernel_rfl
set_option maxHeartbeats 4000000 in
theorem ways_any (w : World) : Calls Tryz.prog 51 #[] w fun e w' => e = .returned (.agg waysC) ∧ Fr w w' [] := by
  go_enter Tryz.func51, Tryz.ntmps51
  go_upto_region 1 with (fail)
  go_wp2_with (refine wpList_store_row rfl 121 _ _ rfl w.heap.size waysC rfl rfl 121 _ (by exact blk_new w _) (by kernel_rfl) (by kernel_rfl) (by kernel_rfl) ?_)
  refine bodyPost_ret (results_cell_row rfl _ _ w.heap.size 121 _ _ _ rfl (setRow_heap _ _ _ _ _ _ (blk_new w _)) Tryz.underlying121 rfl waysInfo) rfl ?_
  exact ⟨rfl, Code.Fr.setRow ((Fr.refl w []).alloc _) _ (.inr (Nat.le_refl _))⟩
theorem ways0 : ∀ W : World, (Instr.index 121 (.agg waysC) (.int .i64 0)).run Tryz.prog W = .ok (.agg #[.func (.func 81) #[] #[], .func (.func 82) #[] #[]]) W := fun W => by kernel_rfl
theorem ways1 : ∀ W : World, (Instr.index 121 (.agg waysC) (.int .i64 1)).run Tryz.prog W = .ok (.agg #[.func (.func 83) #[] #[], .func (.func 84) #[] #[]]) W := fun W => by kernel_rfl
theorem ways2 : ∀ W : World, (Instr.index 121 (.agg waysC) (.int .i64 2)).run Tryz.prog W = .ok (.agg #[.func (.func 85) #[] #[], .func (.func 86) #[] #[]]) W := fun W => by kernel_rfl
theorem way0c : ∀ W : World, (Instr.field 120 (.agg #[.func (.func 81) #[] #[], .func (.func 82) #[] #[]]) 0).run Tryz.prog W = .ok (.func (.func 81) #[] #[]) W := fun W => by kernel_rfl
theorem way0w : ∀ W : World, (Instr.field 120 (.agg #[.func (.func 81) #[] #[], .func (.func 82) #[] #[]]) 1).run Tryz.prog W = .ok (.func (.func 82) #[] #[]) W := fun W => by kernel_rfl
theorem way1c : ∀ W : World, (Instr.field 120 (.agg #[.func (.func 83) #[] #[], .func (.func 84) #[] #[]]) 0).run Tryz.prog W = .ok (.func (.func 83) #[] #[]) W := fun W => by kernel_rfl
theorem way1w : ∀ W : World, (Instr.field 120 (.agg #[.func (.func 83) #[] #[], .func (.func 84) #[] #[]]) 1).run Tryz.prog W = .ok (.func (.func 84) #[] #[]) W := fun W => by kernel_rfl
theorem way2c : ∀ W : World, (Instr.field 120 (.agg #[.func (.func 85) #[] #[], .func (.func 86) #[] #[]]) 0).run Tryz.prog W = .ok (.func (.func 85) #[] #[]) W := fun W => by kernel_rfl
theorem way2w : ∀ W : World, (Instr.field 120 (.agg #[.func (.func 85) #[] #[], .func (.func 86) #[] #[]]) 1).run Tryz.prog W = .ok (.func (.func 86) #[] #[]) W := fun W => by kernel_rfl
set_option maxHeartbeats 4000000 in
theorem cost1_any (w : World) (bh : Int) (h0 : 0 ≤ bh) (h7 : bh ≤ 7) (A : Option Addr) (n c : Nat) (l : List Tok) (p : Option Nat) (hn : l.length = n) (hS : Sl w A (tcells l) p) (hb : n ≤ 1099511627776) (hl : LitB l) (e m : Int) (he : e = mayB l) (hm : m = if e = 0 then 3 + codedN plainLit plainDist l else 0) :
    Calls Tryz.prog 26 #[.int .i64 1, .int .i64 bh, .slice A n c] w fun r w' => r = .returned (.tuple #[.int .i64 m, .int .i64 e]) ∧ Fr w w' [] := by
  have HS := Hd.mk hS
  have HL := Hd.mk hl
  have HE := Hd.mk he
  have HM := Hd.mk hm
  clear hS hl he hm
  have hi := ways1
  have hf := way1c
  go_enter Tryz.func26, Tryz.ntmps26
  go_wp2_with (fail)
  refine (may_any w A n c l p hn HS.out (Nat.le_trans hb (by decide)) e HE.out).mono ?_
  rintro r w1 ⟨rfl, h1⟩
  have F1 := Hd.mk h1
  clear h1
  by_cases h : e = 0
  · have hmm : Hd (m = 3 + codedN plainLit plainDist l) := ⟨by rw [HM.out, if_pos h]⟩
    subst h
    have hz := mayB_zero HE.out.symm
    have HZ := Hd.mk hz.2
    have hz1 := hz.1
    clear hz
    go_wp2_with (fail)
    refine (ways_any w1).mono ?_
    rintro r w2 ⟨rfl, h2⟩
    have F2 := Hd.mk (F1.out.trans h2 (by simp))
    clear h2
    obtain ⟨k, hk⟩ : ∃ k, k = codedN plainLit plainDist l := ⟨_, rfl⟩
    rw [← hk] at hmm
    have HK := Hd.mk hk
    clear hk
    go_wp2_with (fail)
    refine (plainCost_any w2 bh A n c l p hn (HS.out.frame F2.out (by simp)) (by omega) HZ.out HL.out k HK.out).mono ?_
    rintro r w3 ⟨rfl, h3⟩
    have F3 := Hd.mk (F2.out.trans h3 (by simp))
    clear h3
    go_wp2
    go_ret2
    exact ⟨by rw [hmm.out]; rfl, F3.out⟩
  · have hne : (e != 0) = true := by simpa using h
    obtain rfl : m = 0 := by rw [HM.out, if_neg h]
    go_wp2
    go_ret2
    exact ⟨rfl, F1.out⟩
end Go.Proofs.YtkdgfioigkijgaaGreat.Blk
/- Chapter 09: a plain block, written. Conditions: at most 2^40 tokens, the writer has fewer than 2^49 bits. -/
set_option linter.unusedVariables false
set_option linter.unusedSimpArgs false
set_option maxRecDepth 100000
namespace Go.Proofs.YtkdgfioigkijgaaGreat.Blk
open Go.RowKit Go.Proofs.YtkdgfioigkijgaaGreat.Lib Go.Proofs.YtkdgfioigkijgaaGreat.Ints Go.Proofs.YtkdgfioigkijgaaGreat.Lz Go.Proofs.YtkdgfioigkijgaaGreat.Num Go.Proofs.YtkdgfioigkijgaaGreat.Bits Go.Proofs.YtkdgfioigkijgaaGreat.Code
set_option maxHeartbeats 4000000 in
theorem plainWrite_any (w : World) (D : Option Addr) (nd cd : Nat) (A : Option Addr) (n c : Nat) (l : List Tok) (p : Option Nat) (hn : l.length = n) (hS : Sl w A (tcells l) p) (hb : n ≤ 65536) (hr : ∀ t ∈ l, right t = true) (hl : LitB l)
    (gw N m : Nat) (q : Option Nat) (hT : Tl w gw 27 N m q) (hp : ∀ k, p = some k → k ∉ gw :: q.toList) (hm : m ≤ 562949953421312) :
    Calls Tryz.prog 84 #[.pointer (some ⟨gw, 0, none⟩), .slice D nd cd, .slice A n c] w fun e w' => e = .returned (.int .i64 0) ∧ ∃ q', Pw w w' gw q q' N m (bodyP plainLit plainDist l) := by
  have HS := Hd.mk hS
  have HR := Hd.mk (And.intro hr hl)
  have HP := Hd.mk hp
  have T0 := Hd.mk hT
  clear hS hr hl hp hT
  go_enter Tryz.func84, Tryz.ntmps84
  go_wp2_with (fail)
  refine (plainLens_any w).mono ?_
  rintro e w1 hpp
  unfold PlPost at hpp
  obtain ⟨g, h, rfl, h1, h2, _, _, _, h3⟩ := hpp
  have X1 := Hd.mk (slArg_own h1)
  have Y1 := Hd.mk (slArg_own h2)
  have F1 := Hd.mk h3
  have T1 := Hd.mk (T0.out.frame h3 (by simp) (by simp))
  clear h1 h2 h3
  go_wp2_with (fail)
  refine (lay_any w1 _ _ 288 288 32 32 plainLit plainDist _ _ X1.out Y1.out plainLit_check plainDist_check A n c l p hn (HS.out.frame F1.out (by simp)) hb HR.out.1 HR.out.2 gw N m q T1.out HP.out hm 0 (by rw [plainLit_end]; rfl)).mono ?_
  rintro e w2 ⟨rfl, q', h1⟩
  have W2 : Hd (Pw w w2 gw q q' N m (bodyP plainLit plainDist l)) := ⟨Pw.after F1.out h1⟩
  clear h1
  go_wp2
  go_ret
  exact ⟨rfl, q', W2.out⟩
def lastN (b : Bool) : Nat := if b then 1 else 0
/-- what a Write leaves: where it answers 0, the parts behind; else nothing -/
def WrPost (w w' : World) (gw N m : Nat) (q : Option Nat) (er : Int) (P : List (Nat × Nat)) : Prop := (er = 0 → ∃ q', Pw w w' gw q q' N m P) ∧ (er ≠ 0 → Fr w w' [])
set_option maxHeartbeats 4000000 in
theorem write1_any (w : World) (b : Bool) (D : Option Addr) (nd cd : Nat) (A : Option Addr) (n c : Nat) (l : List Tok) (p : Option Nat) (hn : l.length = n) (hS : Sl w A (tcells l) p) (hb : n ≤ 1099511627776) (hl : LitB l) (hnd : nd ≤ 4611686018427387904)
    (gw N m : Nat) (q : Option Nat) (hT : Tl w gw 27 N m q) (hp : ∀ k, p = some k → k ∉ gw :: q.toList ∧ k < w.heap.size) (hm : m ≤ 562949953421000) (er : Int) (he : er = if mayB l ≠ 0 then mayB l else if nd ≠ Lz.sizeOf l then 1 else 0) :
    Calls Tryz.prog 17 #[.pointer (some ⟨gw, 0, none⟩), .int .i64 1, .bool b, .slice D nd cd, .slice A n c] w fun e w' => e = .returned (.int .i64 er) ∧ WrPost w w' gw N m q er ([(lastN b, 1), (1, 2)] ++ bodyP plainLit plainDist l) := by
  have HS := Hd.mk hS
  have HL := Hd.mk hl
  have HP := Hd.mk hp
  have T0 := Hd.mk hT
  have HE := Hd.mk he
  clear hS hl hp hT he
  have hi := ways1
  have hf := way1w
  obtain ⟨k, hk⟩ : ∃ k, k = m % 8 := ⟨_, rfl⟩
  have hk8 : (m : Int) % 8 = (k : Int) := by omega
  have hk7 : k ≤ 7 := by omega
  clear hk
  obtain ⟨e, he⟩ : ∃ e, e = mayB l := ⟨_, rfl⟩
  have HM := Hd.mk he
  go_enter Tryz.func17, Tryz.ntmps17
  go_wp2_with (fail)
  refine (len_any _ T0.out).mono ?_
  rintro r w' ⟨rfl, rfl⟩
  go_wp2_with (fail)
  obtain ⟨cm, hcm⟩ : ∃ cm : Int, cm = if e = 0 then 3 + codedN plainLit plainDist l else 0 := ⟨_, rfl⟩
  refine (cost1_any w (k : Int) (by omega) (by omega) A n c l p hn HS.out hb HL.out e cm HM.out hcm).mono ?_
  rintro r w1 ⟨rfl, h1⟩
  have F1 := Hd.mk h1
  have T1 := Hd.mk (T0.out.frame h1 (by simp) (by simp))
  clear h1 hcm he
  by_cases h : e = 0
  · subst h
    have HE2 : Hd (er = if nd ≠ Lz.sizeOf l then 1 else 0) := ⟨by rw [HE.out, ← HM.out, if_neg (by simp)]⟩
    have hz := mayB_zero HM.out.symm
    have HZ := Hd.mk hz.2
    have hz1 := hz.1
    clear hz
    go_wp2_with (fail)
    refine (size_any w1 A n c l p hn (HS.out.frame F1.out (by simp)) hb).mono ?_
    rintro r w2 ⟨rfl, h2⟩
    have F2 := Hd.mk (F1.out.trans h2 (by simp))
    have T2 := Hd.mk (T1.out.frame h2 (by simp) (by simp))
    clear h2 T1
    have hsz := Lz.sizeOf_le l
    obtain ⟨s, hs⟩ : ∃ s, s = Lz.sizeOf l := ⟨_, rfl⟩
    rw [← hs] at HE2 hsz ⊢
    clear hs
    by_cases hns : nd = s
    · subst hns
      obtain rfl : er = 0 := by rw [HE2.out, if_neg (by simp)]
      have hne : ((nd : Int) != (nd : Int)) = false := by simp
      clear HE2 HE
      cases b with
      | false =>
        go_wp2_with (fail)
        refine (wput 0 1 0 rfl (by decide) (by omega) (by omega) T2.out (by have : (1 : Int).toNat = 1 := rfl; omega)).mono ?_
        rintro r w3 ⟨rfl, hpl⟩
        obtain ⟨q3, h3⟩ := (Pw.start T2.out).put (by simpa [numOf, totOf] using hpl)
        have W3 : Hd (Pw w2 w3 gw q q3 N m [(0, 1)]) := ⟨h3⟩
        clear hpl h3
        go_wp2_with (fail)
        refine (wput 1 2 1 rfl (by decide) (by omega) (by omega) W3.out.tl (by have : (2 : Int).toNat = 2 := rfl; have : totOf [(0, 1)] = 1 := rfl; omega)).mono ?_
        rintro r w4 ⟨rfl, hpl⟩
        obtain ⟨q4, h4⟩ := W3.out.put hpl
        have W4 : Hd (Pw w2 w4 gw q q4 N m [(0, 1), (1, 2)]) := ⟨h4⟩
        clear hpl h4
        go_wp2_with (fail)
        refine (ways_any w4).mono ?_
        rintro r w5 ⟨rfl, h5⟩
        have W5 := Hd.mk (Pw.after F2.out (W4.out.call h5))
        clear h5 W4
        go_wp2_with (fail)
        refine (plainWrite_any w5 D nd cd A n c l p hn (HS.out.frame W5.out.fr (fun k hk => (HP.out k hk).1)) (by omega) HZ.out HL.out gw _ _ q4 W5.out.tl (fun k hk hm => (HP.out k hk).1 (W5.out.mem (HP.out k hk).2 hm)) (by have : totOf [(0, 1), (1, 2)] = 3 := rfl; omega)).mono ?_
        rintro r w6 ⟨rfl, q6, h6⟩
        have W6 := Hd.mk (W5.out.more h6)
        clear h6
        go_wp2
        go_ret
        exact ⟨rfl, fun _ => ⟨q6, W6.out⟩, fun h => absurd rfl h⟩
      | true =>
        go_wp2_with (fail)
        refine (wput 1 1 1 rfl (by decide) (by omega) (by omega) T2.out (by have : (1 : Int).toNat = 1 := rfl; omega)).mono ?_
        rintro r w3 ⟨rfl, hpl⟩
        obtain ⟨q3, h3⟩ := (Pw.start T2.out).put (by simpa [numOf, totOf] using hpl)
        have W3 : Hd (Pw w2 w3 gw q q3 N m [(1, 1)]) := ⟨h3⟩
        clear hpl h3
        go_wp2_with (fail)
        refine (wput 1 2 1 rfl (by decide) (by omega) (by omega) W3.out.tl (by have : (2 : Int).toNat = 2 := rfl; have : totOf [(1, 1)] = 1 := rfl; omega)).mono ?_
        rintro r w4 ⟨rfl, hpl⟩
        obtain ⟨q4, h4⟩ := W3.out.put hpl
        have W4 : Hd (Pw w2 w4 gw q q4 N m [(1, 1), (1, 2)]) := ⟨h4⟩
        clear hpl h4
        go_wp2_with (fail)
        refine (ways_any w4).mono ?_
        rintro r w5 ⟨rfl, h5⟩
        have W5 := Hd.mk (Pw.after F2.out (W4.out.call h5))
        clear h5 W4
        go_wp2_with (fail)
        refine (plainWrite_any w5 D nd cd A n c l p hn (HS.out.frame W5.out.fr (fun k hk => (HP.out k hk).1)) (by omega) HZ.out HL.out gw _ _ q4 W5.out.tl (fun k hk hm => (HP.out k hk).1 (W5.out.mem (HP.out k hk).2 hm)) (by have : totOf [(1, 1), (1, 2)] = 3 := rfl; omega)).mono ?_
        rintro r w6 ⟨rfl, q6, h6⟩
        have W6 := Hd.mk (W5.out.more h6)
        clear h6
        go_wp2
        go_ret
        exact ⟨rfl, fun _ => ⟨q6, W6.out⟩, fun h => absurd rfl h⟩
    · obtain rfl : er = 1 := by rw [HE2.out, if_pos hns]
      have hne : ((nd : Int) != (s : Int)) = true := by simp; omega
      go_wp2
      go_ret
      exact ⟨rfl, (fun h => by cases h), fun _ => F2.out⟩
  · have hne : (e != 0) = true := by simpa using h
    obtain rfl : er = e := by rw [HE.out, ← HM.out, if_pos h]
    go_wp2
    go_ret
    exact ⟨rfl, (fun h' => absurd h' h), fun _ => F1.out⟩
end Go.Proofs.YtkdgfioigkijgaaGreat.Blk
/- Chapter 09: the document's fifth example (lives), and BlockNames. No condition. -/
set_option linter.unusedVariables false
set_option linter.unusedSimpArgs false
set_option maxRecDepth 100000
namespace Go.Proofs.YtkdgfioigkijgaaGreat.Blk
open Go.RowKit Go.Proofs.YtkdgfioigkijgaaGreat.Lib Go.Proofs.YtkdgfioigkijgaaGreat.Ints Go.Proofs.YtkdgfioigkijgaaGreat.Lz Go.Proofs.YtkdgfioigkijgaaGreat.Num Go.Proofs.YtkdgfioigkijgaaGreat.Bits Go.Proofs.YtkdgfioigkijgaaGreat.Code
def ex5 : List Tok := [⟨97, 0, 0⟩]
theorem ex5_bits : totOf ([(lastN true, 1), (1, 2)] ++ bodyP plainLit plainDist ex5) = 18 ∧ numOf ([(lastN true, 1), (1, 2)] ++ bodyP plainLit plainDist ex5) = 0x044b := by decide +kernel
theorem ex5_may : mayB ex5 = 0 ∧ Lz.sizeOf ex5 = 1 := by decide
set_option maxHeartbeats 4000000 in
theorem blives_any (w : World) : Calls Tryz.prog 25 #[] w fun e w' => e = .returned (.bool true) ∧ Fr w w' [] := by
  have kc := fun (w : World) (C : Array Value) (n c : Nat) => Lib.run_convert_bytes_const (P := Tryz.prog) w 23 5 C n c Tryz.underlying23 Tryz.underlying5
  go_enter Tryz.func25, Tryz.ntmps25
  go_upto_region 2 with (fail)
  have T1 := Hd.mk (tl_new w 27 (by decide))
  have F1 := Hd.mk ((Fr.refl w []).alloc (.cells #[.slice none 0 0, .int .i64 0] 27))
  generalize hw1 : w.alloc (.cells #[.slice none 0 0, .int .i64 0] 27) = w1 at *
  have hgw : w.heap.size < w1.heap.size := by rw [← hw1]; simp
  clear hw1
  obtain ⟨gw, hg⟩ : ∃ gw, gw = w.heap.size := ⟨_, rfl⟩
  rw [← hg] at T1 hgw ⊢
  have hge : w.heap.size ≤ gw := by omega
  clear hg
  go_wp2_with (fail)
  have f2 := ((Fr.refl w1 []).alloc (.cells #[.int .u8 97] 5 (1, 2))).alloc (.cells #[.int .u8 97, .int .i64 0, .int .i64 0] 77)
  refine (write1_any _ true _ 1 1 (some ⟨w1.heap.size + 1, 0, none⟩) 1 1 ex5 (some (w1.heap.size + 1)) rfl (by exact sl_new2 w1 _ _ _) (by decide) (by intro t ht; simp [ex5] at ht; subst ht; exact ⟨by decide, by decide⟩) (by decide) gw 0 0 none (T1.out.frame f2 (by simp) (by simp)) (fun k hk => by cases hk; refine ⟨by simp; omega, by simp⟩) (by decide) 0 (by rw [ex5_may.1, ex5_may.2]; rfl)).mono ?_
  rintro e w3 ⟨rfl, h1, _⟩
  obtain ⟨q3, h3⟩ := h1 rfl
  have F3 : Hd (Fr w w3 []) := ⟨F1.out.trans (((f2.mono (G := [gw]) (fun k _ h => by cases h)).trans h3.fr (fun x _ hm => by simpa using hm))) (fun x hx hm => by simp at hm; omega)⟩
  have h3t := h3.tl
  rw [ex5_bits.1, ex5_bits.2] at h3t
  have T3 := Hd.mk h3t
  clear h1 h3 h3t f2
  go_wp2_with (fail)
  refine (bytes_any w3 (by decide) T3.out).mono ?_
  rintro e w4 ⟨v, rfl, h1, h2, h3⟩
  rw [show (0 + 18 + 7) / 8 = 3 from rfl, show bytesOf (0 + 0x044b * 2 ^ 0) (0 + 18) = [0x4b, 0x04, 0x00] from by decide] at h1
  obtain ⟨A, c, rfl, hc, _⟩ := own_slice h1
  have S4 := Hd.mk (sl_of_own h1)
  have NA := Hd.mk (fun h => own_none h1 h)
  have T4 := Hd.mk (T3.out.frame h3 (by simp) (by simp))
  have F4 := Hd.mk (F3.out.trans h3 (by simp))
  clear h1 h2 h3
  go_wp2_with (fail)
  refine (Bits.same_any _ A _ 3 3 c 3 [75, 4, 0] [75, 4, 0] _ _ rfl rfl (by decide) (by decide) (S4.out.alloc _) (by exact sl_of_blk (blk_new w4 _)) NA.out (by intro h; cases h)).mono ?_
  rintro e w5 ⟨rfl, rfl⟩
  have T5 := Hd.mk (T4.out.frame ((Fr.refl w4 []).alloc (.cells #[.int .u8 75, .int .u8 4, .int .u8 0] 5)) (by simp) (by simp))
  have F5 := Hd.mk (F4.out.alloc (.cells #[.int .u8 75, .int .u8 4, .int .u8 0] 5))
  rw [show decide ([(75 : Int), 4, 0] = [75, 4, 0]) = true from rfl]
  go_wp2_with (fail)
  refine (len_any _ T5.out).mono ?_
  rintro e w' ⟨rfl, rfl⟩
  go_wp2
  go_ret
  exact ⟨rfl, F5.out⟩
end Go.Proofs.YtkdgfioigkijgaaGreat.Blk
/- Chapter 09: the lengths of a block's own codes. Conditions: at most 2^40 tokens. -/
set_option linter.unusedVariables false
set_option linter.unusedSimpArgs false
set_option maxRecDepth 100000
namespace Go.Proofs.YtkdgfioigkijgaaGreat.Blk
open Go.RowKit Go.Proofs.YtkdgfioigkijgaaGreat.Lib Go.Proofs.YtkdgfioigkijgaaGreat.Ints Go.Proofs.YtkdgfioigkijgaaGreat.Lz
/-! ### counts -/
def frq (N : Nat) (xs : List Int) : List Int := (List.range N).map fun i => (Code.cnt xs i : Int)
theorem frq_len (N : Nat) (xs : List Int) : (frq N xs).length = N := by simp [frq]
theorem cnt_snoc (xs : List Int) (x : Int) (i : Nat) : Code.cnt (xs ++ [x]) i = Code.cnt xs i + if x = (i : Int) then 1 else 0 := by
  unfold Code.cnt
  rw [List.countP_append, List.countP_cons, List.countP_nil]
  by_cases h : x = (i : Int) <;> simp [h]
theorem cnt_le (xs : List Int) (i : Nat) : Code.cnt xs i ≤ xs.length := List.countP_le_length
theorem frq_get {N : Nat} (xs : List Int) {s : Nat} (h : s < N) : (i64s (frq N xs)).toArray[s]? = some (.int .i64 (Code.cnt xs s : Nat)) := by
  rw [List.getElem?_toArray, i64s_get]; simp [frq, h]
theorem frq_set {N : Nat} (xs : List Int) {s : Nat} (h : s < N) : (i64s (frq N xs)).toArray.setIfInBounds s (.int .i64 ((Code.cnt xs s : Nat) + 1 : Int)) = (i64s (frq N (xs ++ [(s : Int)]))).toArray := by
  apply Array.ext_getElem?
  intro k
  rw [Array.getElem?_setIfInBounds]
  by_cases hk : k < N
  · rw [frq_get _ hk, frq_get _ hk, cnt_snoc]
    by_cases e : s = k
    · subst e
      rw [if_pos rfl, if_pos (by simp [i64s, frq]; exact h), if_pos rfl]
      rfl
    · rw [if_neg e, if_neg (by omega), Nat.add_zero]
  · rw [if_neg (by omega)]
    simp only [List.getElem?_toArray]
    rw [List.getElem?_eq_none (by simp [i64s, frq]; omega), List.getElem?_eq_none (by simp [i64s, frq]; omega)]
theorem frq_fine {N : Nat} {xs : List Int} (h : xs.length ≤ 1099511627776) (hN : N ≤ 288) : Lens.cn (frq N xs) = 0 := by
  unfold Lens.cn
  rw [if_neg (by rw [frq_len]; omega), Lens.out_false, if_neg (by decide)]
  intro i hi
  have h1 := cnt_le xs i
  simp only [frq, List.getElem_map, List.getElem_range]
  omega
theorem lvs_frq {N : Nat} (xs : List Int) (hN : N ≤ 288) : (Lens.lvs (frq N xs)).length ≤ 2 ^ 15 := by
  have := Lens.lvs_le (frq N xs)
  rw [frq_len] at this
  have e : 2 ^ 15 = 32768 := rfl
  omega
theorem lens15_eq {N : Nat} {xs : List Int} (h : xs.length ≤ 1099511627776) (hN : N ≤ 288) : Lens.lensN 15 (frq N xs) = ((List.range N).map fun s => (Lens.lenOf 15 (frq N xs) s : Int), 0) := by
  unfold Lens.lensN
  rw [if_neg (by decide), if_neg (by rw [frq_fine h hN]; decide), if_neg (by have := lvs_frq xs hN; have e : (15 : Int).toNat = 15 := rfl; rw [e]; omega), frq_len]
  rfl
def symsA (l : List Tok) : List Int := l.map fun t => (sgA t).1
def symsB : List Tok → List Int
  | [] => []
  | t :: l => (if t.len = 0 then [] else [(sgB t).1]) ++ symsB l
theorem symsB_app : ∀ a b, symsB (a ++ b) = symsB a ++ symsB b
  | [], b => rfl
  | t :: a, b => by simp only [List.cons_append, symsB, symsB_app a b, List.append_assoc]
theorem symsB_take {l : List Tok} {j : Nat} (h : j < l.length) : symsB (l.take (j + 1)) = symsB (l.take j) ++ if l[j].len = 0 then [] else [(sgB l[j]).1] := by
  rw [List.take_succ_eq_append_getElem h, symsB_app]; simp [symsB]
theorem symsA_take {l : List Tok} {j : Nat} (h : j < l.length) : symsA (l.take (j + 1)) = symsA (l.take j) ++ [(sgA l[j]).1] := by
  unfold symsA
  rw [List.take_succ_eq_append_getElem h, List.map_append]; rfl
theorem symsB_len : ∀ l : List Tok, (symsB l).length ≤ l.length
  | [] => Nat.le_refl 0
  | t :: l => by
    have := symsB_len l
    simp only [symsB, List.length_append, List.length_cons]
    split <;> simp <;> omega
theorem symsA_len (l : List Tok) : (symsA l).length = l.length := by simp [symsA]
def litFrq (l : List Tok) : List Int := frq 286 (symsA l ++ [256])
def distFrq (l : List Tok) : List Int := frq 30 (symsB l)
def ownLit (l : List Tok) : List Int := (List.range 286).map fun s => (Lens.lenOf 15 (litFrq l) s : Int)
def ownDist (l : List Tok) : List Int := (List.range 30).map fun s => (Lens.lenOf 15 (distFrq l) s : Int)
theorem ownLit_len (l : List Tok) : (ownLit l).length = 286 := by simp [ownLit]
theorem ownDist_len (l : List Tok) : (ownDist l).length = 30 := by simp [ownDist]
theorem litFrq_eq {l : List Tok} (h : l.length ≤ 65536) : Lens.lensN 15 (litFrq l) = (ownLit l, 0) := lens15_eq (by rw [List.length_append, symsA_len]; simp; omega) (by decide)
theorem distFrq_eq {l : List Tok} (h : l.length ≤ 65536) : Lens.lensN 15 (distFrq l) = (ownDist l, 0) := lens15_eq (by have := symsB_len l; omega) (by decide)
theorem ownLit_check (l : List Tok) : Code.check (ownLit l) = 0 := by
  have := Lens.lens_check (fs := litFrq l) (limit := 15) (by decide) (by decide) (lvs_frq _ (by decide)) (by unfold litFrq; rw [frq_len]; decide)
  unfold litFrq at this
  rwa [frq_len] at this
theorem ownDist_check (l : List Tok) : Code.check (ownDist l) = 0 := by
  have := Lens.lens_check (fs := distFrq l) (limit := 15) (by decide) (by decide) (lvs_frq _ (by decide)) (by unfold distFrq; rw [frq_len]; decide)
  unfold distFrq at this
  rwa [frq_len] at this
theorem check15 {l : List Int} (h : Code.check l = 0) : Lens15 l := (Code.bad_false (Code.check_zero h).1).2
/-- what OwnLens leaves -/
def OwnPost (w : World) (l : List Tok) (e : Ending) (w' : World) : Prop :=
  (mayB l = 0 → ∃ A c B d, e = .returned (.tuple #[.slice A 286 c, .slice B 30 d, .int .i64 0]) ∧ w'.ownsRow 0 3 1 (.slice A 286 c) 286 (i64s (ownLit l)) ∧ w'.ownsRow 0 3 1 (.slice B 30 d) 30 (i64s (ownDist l)) ∧
    (∀ k, (Value.slice A 286 c).ownBlock = some k → w.heap.size ≤ k ∧ (Value.slice B 30 d).ownBlock ≠ some k) ∧ (∀ k, (Value.slice B 30 d).ownBlock = some k → w.heap.size ≤ k) ∧ Fr w w' []) ∧
  (mayB l ≠ 0 → e = .returned (.tuple #[.slice none 0 0, .slice none 0 0, .int .i64 (mayB l)]) ∧ Fr w w' [])
theorem zero286 : ∀ W : World, (zeroValue 264).run Tryz.prog W = .ok (.agg (i64s (frq 286 [])).toArray) W := fun W => by kernel_rfl
theorem zero30 : ∀ W : World, (zeroValue 265).run Tryz.prog W = .ok (.agg (i64s (frq 30 [])).toArray) W := fun W => by kernel_rfl
set_option maxHeartbeats 8000000 in
theorem ownLens_any (w : World) (A : Option Addr) (n c : Nat) (l : List Tok) (p : Option Nat) (hn : l.length = n) (hS : Sl w A (tcells l) p) (hb : n ≤ 6000000000000) (hl : LitB l) :
    Calls Tryz.prog 115 #[.slice A n c] w (OwnPost w l) := by
  have HS := Hd.mk hS
  have HL := Hd.mk hl
  obtain ⟨e, he⟩ : ∃ e, e = mayB l := ⟨_, rfl⟩
  have HE := Hd.mk he
  clear hS hl he
  have hz1 := zero286
  have hz2 := zero30
  go_enter Tryz.func115, Tryz.ntmps115
  go_wp2_with (fail)
  refine (may_any w A n c l p hn HS.out hb e HE.out).mono ?_
  rintro r w1 ⟨rfl, h1⟩
  have F1 := Hd.mk h1
  clear h1
  by_cases h : e = 0
  · subst h
    have hz := mayB_zero HE.out.symm
    have HZ := Hd.mk hz.2
    have hz3 := hz.1
    clear hz
    go_upto_region 6 with (fail)
    clear hz1 hz2
    have X2 : Hd (((w1.alloc (.cells (i64s (frq 286 [])).toArray 264)).alloc (.cells (i64s (frq 30 [])).toArray 265)).heap[w1.heap.size]? = some (.cells (i64s (frq 286 [])).toArray 264 (0, 0))) := ⟨blk_alloc (blk_new w1 _) _⟩
    have Y2 : Hd (((w1.alloc (.cells (i64s (frq 286 [])).toArray 264)).alloc (.cells (i64s (frq 30 [])).toArray 265)).heap[w1.heap.size + 1]? = some (.cells (i64s (frq 30 [])).toArray 265 (0, 0))) := ⟨by simpa using blk_new (w1.alloc _) _⟩
    have F2 := Hd.mk ((F1.out.alloc (.cells (i64s (frq 286 [])).toArray 264)).alloc (.cells (i64s (frq 30 [])).toArray 265))
    have hgx : w.heap.size ≤ w1.heap.size := F1.out.size
    clear F1
    generalize (w1.alloc (.cells (i64s (frq 286 [])).toArray 264)).alloc (.cells (i64s (frq 30 [])).toArray 265) = w2 at *
    generalize w1.heap.size = gx at *
    have X3 : Hd (w2.heap[gx]? = some (.cells (i64s (frq 286 (symsA (l.take 0)))).toArray 264 (0, 0))) := ⟨X2.out⟩
    have Y3 : Hd (w2.heap[gx + 1]? = some (.cells (i64s (frq 30 (symsB (l.take 0)))).toArray 265 (0, 0))) := ⟨Y2.out⟩
    clear X2 Y2
    go_wp2
    go_loopg [22] l.length (fun kq jv wr => ∃ j : Nat, jv = .int .i64 (j : Nat) ∧ j + kq = l.length ∧ Hd (wr.heap[gx]? = some (.cells (i64s (frq 286 (symsA (l.take j)))).toArray 264 (0, 0))) ∧ Hd (wr.heap[gx + 1]? = some (.cells (i64s (frq 30 (symsB (l.take j)))).toArray 265 (0, 0))) ∧ Hd (Fr w wr []))
    case atStart => exact ⟨0, rfl, by omega, X3, Y3, F2⟩
    case round =>
      obtain ⟨j, rfl, hj, HX, HY, HF⟩ := hrel
      have hca := symsA_len (l.take j)
      have hcb := symsB_len (l.take j)
      rw [List.length_take] at hca hcb
      by_cases h1 : j < l.length
      · obtain ⟨a, o1, rfl, _, hcc⟩ := Sl.row (enc := tcell) (sz := 3) (fun _ => rfl) (HS.out.frame HF.out (by simp)) h1 (by decide)
        obtain ⟨t, ht⟩ : ∃ t, t = l[j] := ⟨_, rfl⟩
        rw [← ht] at hcc
        have c0 := hcc 0 (by decide)
        have c1 := hcc 1 (by decide)
        have c2 := hcc 2 (by decide)
        simp only [tcell, List.getElem?_cons_zero, List.getElem?_cons_succ, Nat.add_zero] at c0 c1 c2
        have htm : t ∈ l := by rw [ht]; exact List.getElem_mem h1
        have hrt := HZ.out t htm
        have hlt := HL.out t htm
        have HTA : Hd (symsA (l.take (j + 1)) = symsA (l.take j) ++ [(sgA t).1]) := ⟨by rw [symsA_take h1, ht]⟩
        have HTB : Hd (symsB (l.take (j + 1)) = symsB (l.take j) ++ if t.len = 0 then [] else [(sgB t).1]) := ⟨by rw [symsB_take h1, ht]⟩
        have sa := (sgA_fit hrt hlt).1
        have sb := sgB_fit hrt
        clear hcc ht htm
        generalize symsA (l.take j) = SA at *
        generalize symsB (l.take j) = SB at *
        go_wp2_with (fail)
        refine (signs_any _ t hlt).mono ?_
        rintro r w3 ⟨rfl, h2⟩
        have f3 := ((Fr.refl wr []).alloc (.cells #[.int .u8 t.lit, .int .i64 t.len, .int .i64 t.dist] 77)).trans h2 (by simp)
        have F3 := Hd.mk (HF.out.trans f3 (by simp))
        have X4 := Hd.mk (f3.blk HX.out (by simp))
        have Y4 := Hd.mk (f3.blk HY.out (by simp))
        clear h2 f3 HX HY
        obtain ⟨⟨sx, vx, bxx⟩, hsa⟩ : ∃ x, x = sgA t := ⟨_, rfl⟩
        obtain ⟨⟨sy, vy, byy⟩, hsb2⟩ : ∃ x, x = sgB t := ⟨_, rfl⟩
        rw [← hsa] at sa HTA ⊢
        rw [← hsb2] at sb HTB ⊢
        obtain ⟨⟨a1, a2⟩, _, _, _⟩ := sa
        obtain ⟨⟨b1, b2⟩, _, _, _⟩ := sb
        clear hsa hsb2
        simp only at a1 a2 b1 b2 HTA HTB
        obtain ⟨sx, rfl⟩ := Int.eq_ofNat_of_zero_le a1
        obtain ⟨sy, rfl⟩ := Int.eq_ofNat_of_zero_le b1
        simp only [sgV]
        obtain ⟨mt, hmt⟩ : ∃ m, m = decide (t.len ≠ 0) := ⟨_, rfl⟩
        rw [← hmt]
        have HMT := Hd.mk hmt
        clear hmt
        go_upto_region 10 with (fail)
        have B1 : Hd (((w3.alloc (.cells #[.int .i64 (sx : Nat), .int .i64 vx, .int .i64 bxx] 269)).alloc (.cells #[.int .i64 (sy : Nat), .int .i64 vy, .int .i64 byy] 269)).heap[w3.heap.size]? = some (.cells #[.int .i64 (sx : Nat), .int .i64 vx, .int .i64 bxx] 269 (0, 0))) := ⟨blk_alloc (blk_new w3 _) _⟩
        have B2 : Hd (((w3.alloc (.cells #[.int .i64 (sx : Nat), .int .i64 vx, .int .i64 bxx] 269)).alloc (.cells #[.int .i64 (sy : Nat), .int .i64 vy, .int .i64 byy] 269)).heap[w3.heap.size + 1]? = some (.cells #[.int .i64 (sy : Nat), .int .i64 vy, .int .i64 byy] 269 (0, 0))) := ⟨by simpa using blk_new (w3.alloc _) _⟩
        have f4 := ((Fr.refl w3 []).alloc (.cells #[.int .i64 (sx : Nat), .int .i64 vx, .int .i64 bxx] 269)).alloc (.cells #[.int .i64 (sy : Nat), .int .i64 vy, .int .i64 byy] 269)
        have F4 := Hd.mk (F3.out.trans f4 (by simp))
        have X5 := Hd.mk (f4.blk X4.out (by simp))
        have Y5 := Hd.mk (f4.blk Y4.out (by simp))
        clear f4 F3 X4 Y4
        generalize (w3.alloc (.cells #[.int .i64 (sx : Nat), .int .i64 vx, .int .i64 bxx] 269)).alloc (.cells #[.int .i64 (sy : Nat), .int .i64 vy, .int .i64 byy] 269) = w4 at *
        generalize w3.heap.size = g at *
        have n1 : gx + 1 ≠ gx := by omega
        have n2 : g + 1 ≠ gx := blk_ne B2.out X5.out (by decide)
        have d0 := blk_cell B1.out 0
        simp only [List.getElem?_toArray, List.getElem?_cons_zero, List.getElem?_cons_succ] at d0
        have kx := (blk_cell X5.out sx).trans (frq_get SA (s := sx) (by omega))
        have fx := blk_frozen X5.out sx
        have hcx := cnt_le SA sx
        have X6 := Hd.mk (blk_set X5.out sx (.int .i64 ((Code.cnt SA sx : Nat) + 1 : Int)))
        rw [frq_set SA (by omega), ← HTA.out] at X6
        have Y6 := Hd.mk (blk_far Y5.out (p := ⟨gx, sx, none⟩) n1 (.int .i64 ((Code.cnt SA sx : Nat) + 1 : Int)))
        have B6 := Hd.mk (blk_far B2.out (p := ⟨gx, sx, none⟩) n2 (.int .i64 ((Code.cnt SA sx : Nat) + 1 : Int)))
        have F6 := Hd.mk (F4.out.setCell (a := ⟨gx, sx, none⟩) (.int .i64 ((Code.cnt SA sx : Nat) + 1 : Int)) (.inr hgx))
        generalize Code.cnt SA sx = cx at *
        have hcx2 : (cx : Int) ≤ 65536 := by omega
        clear hcx
        cases mt with
        | false =>
          have hlen0 : t.len = 0 := by have := HMT.out; simpa using this
          rw [if_pos hlen0, List.append_nil] at HTB
          go_wp2
          go_roundg (gk - 1)
          case measure => omega
          case rel => exact ⟨j + 1, by go_num, by omega, X6, ⟨by rw [HTB.out]; exact Y6.out⟩, F6⟩
        | true =>
          have hlen0 : ¬ t.len = 0 := by have := HMT.out; simpa using this
          rw [if_neg hlen0] at HTB
          go_upto_region 11 with (fail)
          generalize w4.setCell ⟨gx, sx, none⟩ (.int .i64 ((cx : Nat) + 1 : Int)) = w5 at *
          have e0 := blk_cell B6.out 0
          simp only [List.getElem?_toArray, List.getElem?_cons_zero, List.getElem?_cons_succ] at e0
          have ky := (blk_cell Y6.out sy).trans (frq_get SB (s := sy) (by omega))
          have fy := blk_frozen Y6.out sy
          have hcy := cnt_le SB sy
          have Y7 := Hd.mk (blk_set Y6.out sy (.int .i64 ((Code.cnt SB sy : Nat) + 1 : Int)))
          rw [frq_set SB (by omega), ← HTB.out] at Y7
          have X7 := Hd.mk (blk_far X6.out (p := ⟨gx + 1, sy, none⟩) n1.symm (.int .i64 ((Code.cnt SB sy : Nat) + 1 : Int)))
          have F7 := Hd.mk (F6.out.setCell (a := ⟨gx + 1, sy, none⟩) (.int .i64 ((Code.cnt SB sy : Nat) + 1 : Int)) (.inr (show w.heap.size ≤ gx + 1 by omega)))
          generalize Code.cnt SB sy = cy at *
          have hcy2 : (cy : Int) ≤ 65536 := by omega
          clear hcy d0 kx fx B6 B1 B2
          go_wp2
          go_roundg (gk - 1)
          case measure => omega
          case rel => exact ⟨j + 1, by go_num, by omega, X7, Y7, F7⟩
      · obtain rfl : j = l.length := by omega
        rw [List.take_length] at HX HY hca
        have kx := (blk_cell HX.out 256).trans (frq_get (symsA l) (s := 256) (by omega))
        have fx := blk_frozen HX.out 256
        have hcx := cnt_le (symsA l) 256
        have X6 := Hd.mk (blk_set HX.out 256 (.int .i64 ((Code.cnt (symsA l) 256 : Nat) + 1 : Int)))
        rw [frq_set (symsA l) (by omega)] at X6
        have Y6 := Hd.mk (blk_far HY.out (p := ⟨gx, 256, none⟩) (show gx + 1 ≠ gx by omega) (.int .i64 ((Code.cnt (symsA l) 256 : Nat) + 1 : Int)))
        have F6 := Hd.mk (HF.out.setCell (a := ⟨gx, 256, none⟩) (.int .i64 ((Code.cnt (symsA l) 256 : Nat) + 1 : Int)) (.inr hgx))
        generalize Code.cnt (symsA l) 256 = cx at *
        have hcx2 : (cx : Int) ≤ 65536 := by omega
        clear hcx HX HY HF X3 Y3 F2
        go_upto_region 15 with (fail)
        generalize wr.setCell ⟨gx, 256, none⟩ (.int .i64 ((cx : Nat) + 1 : Int)) = w5 at *
        have SX : Hd (Sl w5 (some ⟨gx, 0, none⟩) (i64s (litFrq l)) (some gx)) := ⟨by have := sl_of_blk X6.out; simpa [litFrq] using this⟩
        have EA := Hd.mk (litFrq_eq hz3)
        have EB := Hd.mk (distFrq_eq hz3)
        clear kx fx
        go_wp2_with (fail)
        refine (Lens.lengths_any w5 15 (some ⟨gx, 0, none⟩) 286 286 (litFrq l) _ (frq_len _ _) SX.out (by omega)).mono ?_
        rintro r w6 hlp
        unfold Lens.LensPost at hlp
        obtain ⟨A8, n8, c8, rfl, h1', h2, h3⟩ := hlp
        rw [EA.out] at h1' ⊢
        have hn8 : n8 = 286 := by have := h1'.1; rw [i64s_length, ownLit_len] at this; omega
        subst hn8
        have O8 := Hd.mk h1'
        have NW8 : Hd (∀ k, (Value.slice A8 286 c8).ownBlock = some k → w.heap.size ≤ k) := ⟨fun k hk => by have := h2 k hk; have := F6.out.size; omega⟩
        have F8 := Hd.mk (F6.out.trans h3 (by simp))
        have Y8 := Hd.mk (h3.blk Y6.out (by simp))
        have SY : Hd (Sl w6 (some ⟨gx + 1, 0, none⟩) (i64s (distFrq l)) (some (gx + 1))) := ⟨by have := sl_of_blk Y8.out; simpa [distFrq] using this⟩
        clear h1' h2 h3 F6 Y6 X6 SX
        simp only
        go_wp2_with (fail)
        refine (Lens.lengths_any w6 15 (some ⟨gx + 1, 0, none⟩) 30 30 (distFrq l) _ (frq_len _ _) SY.out (by omega)).mono ?_
        rintro r w7 hlp
        unfold Lens.LensPost at hlp
        obtain ⟨A9, n9, c9, rfl, h1', h2, h3⟩ := hlp
        rw [EB.out] at h1' ⊢
        have hn9 : n9 = 30 := by have := h1'.1; rw [i64s_length, ownDist_len] at this; omega
        subst hn9
        have O9 := Hd.mk h1'
        have NE9 : Hd (∀ k, (Value.slice A8 286 c8).ownBlock = some k → w.heap.size ≤ k ∧ (Value.slice A9 30 c9).ownBlock ≠ some k) := ⟨fun k hk => ⟨NW8.out k hk, fun h9 => by have := h2 k h9; have := own_lt O8.out hk; omega⟩⟩
        have NW9 : Hd (∀ k, (Value.slice A9 30 c9).ownBlock = some k → w.heap.size ≤ k) := ⟨fun k hk => by have := h2 k hk; have := F8.out.size; omega⟩
        have F9 := Hd.mk (F8.out.trans h3 (by simp))
        have O10 := Hd.mk (own_frame O8.out h3 (by simp))
        clear h1' h2 h3 F8 Y8 SY O8
        simp only
        go_wp2
        go_ret3
        exact ⟨fun _ => ⟨A8, c8, A9, c9, rfl, O10.out, O9.out, NE9.out, NW9.out, F9.out⟩, fun h => absurd HE.out.symm h⟩
  · have hne : (e != 0) = true := by simpa using h
    go_wp2
    go_ret3
    exact ⟨fun h' => absurd (HE.out.trans h') h, fun _ => ⟨by rw [← HE.out]; rfl, F1.out⟩⟩
end Go.Proofs.YtkdgfioigkijgaaGreat.Blk
/- Chapter 09: what a block of each kind costs. Conditions: at most 2^40 tokens. -/
set_option linter.unusedVariables false
set_option linter.unusedSimpArgs false
set_option maxRecDepth 100000
namespace Go.Proofs.YtkdgfioigkijgaaGreat.Blk
open Go.RowKit Go.Proofs.YtkdgfioigkijgaaGreat.Lib Go.Proofs.YtkdgfioigkijgaaGreat.Ints Go.Proofs.YtkdgfioigkijgaaGreat.Lz
theorem own_okH (l : List Tok) : Head.okH (ownLit l) (ownDist l) = true := by
  refine decide_eq_true ⟨by rw [ownLit_len]; decide, by rw [ownLit_len]; decide, by rw [ownDist_len]; decide, ownLit_check l, ownDist_check l, ?_⟩
  have h256 : 256 < (litFrq l).length := by unfold litFrq; rw [frq_len]; decide
  have h := Lens.lenOf_at (fs := litFrq l) (limit := 15) (by decide) (lvs_frq _ (by decide)) h256
  have hp : (0 : Int) < (litFrq l)[256] := by
    have : (litFrq l)[256] = (Code.cnt (symsA l ++ [256]) 256 : Int) := by simp [litFrq, frq]
    rw [this, cnt_snoc]
    simp only [show ((256 : Nat) : Int) = 256 from rfl, if_true]
    omega
  rw [if_pos hp] at h
  have e : (ownLit l).getD 256 0 = (Lens.lenOf 15 (litFrq l) 256 : Int) := by
    rw [List.getD_eq_getElem?_getD]; simp [ownLit]
  rw [e]
  omega
def costK (k : Nat) (bh : Int) (l : List Tok) : Int × Int :=
  if k = 0 then (if 65535 < Lz.sizeOf l then (0, 90) else (3 + (13 - bh) % 8 + 32 + 8 * (Lz.sizeOf l : Nat), 0))
  else if k = 1 then (3 + codedN plainLit plainDist l, 0)
  else (3 + Head.hcost (ownLit l) (ownDist l) + codedN (ownLit l) (ownDist l) l, 0)
set_option maxHeartbeats 4000000 in
theorem storedCost_any (w : World) (bh : Int) (h0 : 0 ≤ bh) (h7 : bh ≤ 7) (A : Option Addr) (n c : Nat) (l : List Tok) (p : Option Nat) (hn : l.length = n) (hS : Sl w A (tcells l) p) (hb : n ≤ 65536) (m er : Int) (hm : m = (costK 0 bh l).1) (her : er = (costK 0 bh l).2) :
    Calls Tryz.prog 81 #[.int .i64 bh, .slice A n c] w fun e w' => e = .returned (.tuple #[.int .i64 m, .int .i64 er]) ∧ Fr w w' [] := by
  have HS := Hd.mk hS
  have HK : Hd (costK 0 bh l = if 65535 < Lz.sizeOf l then (0, 90) else (3 + (13 - bh) % 8 + 32 + 8 * (Lz.sizeOf l : Nat), 0)) := ⟨rfl⟩
  have HM := Hd.mk (And.intro hm her)
  clear hS hm her
  have hsz := Lz.sizeOf_le l
  go_enter Tryz.func81, Tryz.ntmps81
  go_wp2_with (fail)
  refine (size_any w A n c l p hn HS.out (by omega)).mono ?_
  rintro r w1 ⟨rfl, h1⟩
  have F1 := Hd.mk h1
  clear h1
  obtain ⟨s, hs⟩ : ∃ s, s = Lz.sizeOf l := ⟨_, rfl⟩
  rw [← hs] at HK hsz ⊢
  clear hs
  have hsb : (s : Int) ≤ 16908288 := by omega
  by_cases h : 65535 < s
  · have e := HK.out
    rw [if_pos h] at e
    obtain rfl : m = 0 := by rw [HM.out.1, e]
    obtain rfl : er = 90 := by rw [HM.out.2, e]
    clear e
    go_wp2
    go_ret2
    exact ⟨rfl, F1.out⟩
  · have e := HK.out
    rw [if_neg h] at e
    obtain rfl : er = 0 := by rw [HM.out.2, e]
    have hm : m = 3 + (13 - bh) % 8 + 32 + 8 * (s : Int) := by rw [HM.out.1, e]
    have HMM := Hd.mk hm
    clear e hm
    have n1 : Int.tmod (16 - bh - 3) 8 = (13 - bh) % 8 := by rw [Int.tmod_eq_emod_of_nonneg (by omega)]; congr 1; omega
    go_wp2
    go_ret2
    exact ⟨by rw [HMM.out]; rfl, F1.out⟩
set_option maxHeartbeats 4000000 in
theorem ownCost_any (w : World) (bh : Int) (A : Option Addr) (n c : Nat) (l : List Tok) (p : Option Nat) (hn : l.length = n) (hS : Sl w A (tcells l) p) (hb : n ≤ 65536) (hr : ∀ t ∈ l, right t = true) (hl : LitB l) (hmay : mayB l = 0) (m er : Int) (hm : m = (costK 2 bh l).1) (her : er = (costK 2 bh l).2) :
    Calls Tryz.prog 85 #[.int .i64 bh, .slice A n c] w fun e w' => e = .returned (.tuple #[.int .i64 m, .int .i64 er]) ∧ Fr w w' [] := by
  obtain rfl : er = 0 := her
  have HS := Hd.mk hS
  have HR := Hd.mk (And.intro hr hl)
  have HM : Hd (m = 3 + Head.hcost (ownLit l) (ownDist l) + codedN (ownLit l) (ownDist l) l) := ⟨hm⟩
  have HMAY := Hd.mk hmay
  have hcb : 0 ≤ codedN (ownLit l) (ownDist l) l ∧ codedN (ownLit l) (ownDist l) l ≤ 15 + 48 * 65536 := by
    have h1 := codedF_le (check15 (ownLit_check l)) (check15 (ownDist_check l)) l hr hl
    have h2 := lens15_get (check15 (ownLit_check l)) 256
    unfold codedN
    omega
  have hhb : 0 ≤ Head.hcost (ownLit l) (ownDist l) ∧ Head.hcost (ownLit l) (ownDist l) ≤ 5000 := by
    obtain ⟨_, r2, _⟩ := Head.hruns_ok (own_okH l)
    have h1 := Head.costF_le (Head.hlens_le (rs := Head.hruns (ownLit l) (ownDist l)) (by omega)) (Head.hruns (ownLit l) (ownDist l))
    have h2 := Head.toldN_le (Head.hlens (Head.hruns (ownLit l) (ownDist l))) 19
    unfold Head.hcost
    omega
  obtain ⟨k1, hk1⟩ : ∃ k, k = Head.hcost (ownLit l) (ownDist l) := ⟨_, rfl⟩
  obtain ⟨k2, hk2⟩ : ∃ k, k = codedN (ownLit l) (ownDist l) l := ⟨_, rfl⟩
  rw [← hk1] at HM hhb
  rw [← hk2] at HM hcb
  have HK1 := Hd.mk hk1
  have HK2 := Hd.mk hk2
  clear hS hm hr hl hmay hk1 hk2
  go_enter Tryz.func85, Tryz.ntmps85
  go_wp2_with (fail)
  refine (ownLens_any w A n c l p hn HS.out (by omega) HR.out.2).mono ?_
  rintro r w1 hp
  unfold OwnPost at hp
  obtain ⟨A1, c1, B1, d1, rfl, h1, h2, _, _, h3⟩ := hp.1 HMAY.out
  have X1 := Hd.mk (slArg_own h1)
  have Y1 := Hd.mk (slArg_own h2)
  have F1 := Hd.mk h3
  clear h1 h2 h3 hp
  go_wp2_with (fail)
  refine (Head.hcost_any w1 A1 B1 286 c1 30 d1 (ownLit l) (ownDist l) _ _ X1.out Y1.out 0 k1 (by rw [own_okH]; rfl) (by rw [own_okH]; exact HK1.out)).mono ?_
  rintro r w2 ⟨rfl, h1⟩
  have F2 := Hd.mk (F1.out.trans h1 (by simp))
  have X2 := Hd.mk (X1.out.sl.frame h1 (by simp))
  have Y2 := Hd.mk (Y1.out.sl.frame h1 (by simp))
  clear h1 X1 Y1 F1
  go_wp2_with (fail)
  refine (coded_any w2 A1 B1 286 c1 30 d1 (ownLit l) (ownDist l) _ _ X2.out Y2.out (ownLit_len l) (ownDist_len l) (by omega) (by omega) A n c l p hn (HS.out.frame F2.out (by simp)) hb HR.out.1 HR.out.2 (check15 (ownLit_check l)) (check15 (ownDist_check l)) k2 HK2.out).mono ?_
  rintro r w3 ⟨rfl, h1⟩
  have F3 := Hd.mk (F2.out.trans h1 (by simp))
  clear h1
  go_wp2
  go_ret2
  exact ⟨by rw [HM.out]; rfl, F3.out⟩
end Go.Proofs.YtkdgfioigkijgaaGreat.Blk
/- Chapter 09: Cost and Pick. Conditions: at most 2^40 tokens. -/
set_option linter.unusedVariables false
set_option linter.unusedSimpArgs false
set_option maxRecDepth 100000
namespace Go.Proofs.YtkdgfioigkijgaaGreat.Blk
open Go.RowKit Go.Proofs.YtkdgfioigkijgaaGreat.Lib Go.Proofs.YtkdgfioigkijgaaGreat.Ints Go.Proofs.YtkdgfioigkijgaaGreat.Lz
theorem plainCost2 (w : World) (bh : Int) (A : Option Addr) (n c : Nat) (l : List Tok) (p : Option Nat) (hn : l.length = n) (hS : Sl w A (tcells l) p) (hb : n ≤ 65536) (hr : ∀ t ∈ l, right t = true) (hl : LitB l) (m er : Int) (hm : m = (costK 1 bh l).1) (her : er = (costK 1 bh l).2) :
    Calls Tryz.prog 83 #[.int .i64 bh, .slice A n c] w fun e w' => e = .returned (.tuple #[.int .i64 m, .int .i64 er]) ∧ Fr w w' [] := by
  obtain rfl : er = 0 := her
  obtain rfl : m = 3 + codedN plainLit plainDist l := hm
  exact plainCost_any w bh A n c l p hn hS hb hr hl _ rfl
set_option maxHeartbeats 8000000 in
/-- Cost of a kind that is one -/
theorem cost3_any (w : World) (k : Nat) (hk : k < 3) (bh : Int) (h0 : 0 ≤ bh) (h7 : bh ≤ 7) (A : Option Addr) (n c : Nat) (l : List Tok) (p : Option Nat) (hn : l.length = n) (hS : Sl w A (tcells l) p) (hb : n ≤ 6000000000000) (hl : LitB l) (m er : Int) (hm : if mayB l = 0 then m = (costK k bh l).1 ∧ er = (costK k bh l).2 else m = 0 ∧ er = mayB l) :
    Calls Tryz.prog 26 #[.int .i64 (k : Nat), .int .i64 bh, .slice A n c] w fun r w' => r = .returned (.tuple #[.int .i64 m, .int .i64 er]) ∧ Fr w w' [] := by
  have HS := Hd.mk hS
  have HL := Hd.mk hl
  obtain ⟨e, he⟩ : ∃ e, e = mayB l := ⟨_, rfl⟩
  rw [← he] at hm
  have HE := Hd.mk he
  have HM := Hd.mk hm
  clear hS hl hm he
  go_enter Tryz.func26, Tryz.ntmps26
  have hc : k = 0 ∨ k = 1 ∨ k = 2 := by omega
  rcases hc with rfl | rfl | rfl
  · have hi := ways0
    have hf := way0c
    go_wp2_with (fail)
    refine (may_any w A n c l p hn HS.out (Nat.le_trans hb (by decide)) e HE.out).mono ?_
    rintro r w1 ⟨rfl, h1⟩
    have F1 := Hd.mk h1
    clear h1
    by_cases h : e = 0
    · have hmm : Hd (m = (costK 0 bh l).1 ∧ er = (costK 0 bh l).2) := ⟨by have := HM.out; rw [if_pos h] at this; exact this⟩
      subst h
      have hz := mayB_zero HE.out.symm
      have HZ := Hd.mk hz.2
      have hz1 := hz.1
      clear hz
      go_wp2_with (fail)
      refine (ways_any w1).mono ?_
      rintro r w2 ⟨rfl, h2⟩
      have F2 := Hd.mk (F1.out.trans h2 (by simp))
      clear h2
      go_wp2_with (fail)
      refine (storedCost_any w2 bh h0 h7 A n c l p hn (HS.out.frame F2.out (by simp)) (by omega) m er hmm.out.1 hmm.out.2).mono ?_
      rintro r w3 ⟨rfl, h3⟩
      have F3 := Hd.mk (F2.out.trans h3 (by simp))
      clear h3
      go_wp2
      go_ret2
      exact ⟨rfl, F3.out⟩
    · have hne : (e != 0) = true := by simpa using h
      obtain ⟨e1, e2⟩ := (show m = 0 ∧ er = e by have := HM.out; rw [if_neg h] at this; exact this)
      subst e1 e2
      go_wp2
      go_ret2
      exact ⟨rfl, F1.out⟩
  · have hi := ways1
    have hf := way1c
    go_wp2_with (fail)
    refine (may_any w A n c l p hn HS.out (Nat.le_trans hb (by decide)) e HE.out).mono ?_
    rintro r w1 ⟨rfl, h1⟩
    have F1 := Hd.mk h1
    clear h1
    by_cases h : e = 0
    · have hmm : Hd (m = (costK 1 bh l).1 ∧ er = (costK 1 bh l).2) := ⟨by have := HM.out; rw [if_pos h] at this; exact this⟩
      subst h
      have hz := mayB_zero HE.out.symm
      have HZ := Hd.mk hz.2
      have hz1 := hz.1
      clear hz
      go_wp2_with (fail)
      refine (ways_any w1).mono ?_
      rintro r w2 ⟨rfl, h2⟩
      have F2 := Hd.mk (F1.out.trans h2 (by simp))
      clear h2
      go_wp2_with (fail)
      refine (plainCost2 w2 bh A n c l p hn (HS.out.frame F2.out (by simp)) (by omega) HZ.out HL.out m er hmm.out.1 hmm.out.2).mono ?_
      rintro r w3 ⟨rfl, h3⟩
      have F3 := Hd.mk (F2.out.trans h3 (by simp))
      clear h3
      go_wp2
      go_ret2
      exact ⟨rfl, F3.out⟩
    · have hne : (e != 0) = true := by simpa using h
      obtain ⟨e1, e2⟩ := (show m = 0 ∧ er = e by have := HM.out; rw [if_neg h] at this; exact this)
      subst e1 e2
      go_wp2
      go_ret2
      exact ⟨rfl, F1.out⟩
  · have hi := ways2
    have hf := way2c
    go_wp2_with (fail)
    refine (may_any w A n c l p hn HS.out (Nat.le_trans hb (by decide)) e HE.out).mono ?_
    rintro r w1 ⟨rfl, h1⟩
    have F1 := Hd.mk h1
    clear h1
    by_cases h : e = 0
    · have hmm : Hd (m = (costK 2 bh l).1 ∧ er = (costK 2 bh l).2) := ⟨by have := HM.out; rw [if_pos h] at this; exact this⟩
      subst h
      have hz := mayB_zero HE.out.symm
      have HZ := Hd.mk hz.2
      have hz1 := hz.1
      clear hz
      go_wp2_with (fail)
      refine (ways_any w1).mono ?_
      rintro r w2 ⟨rfl, h2⟩
      have F2 := Hd.mk (F1.out.trans h2 (by simp))
      clear h2
      go_wp2_with (fail)
      refine (ownCost_any w2 bh A n c l p hn (HS.out.frame F2.out (by simp)) (by omega) HZ.out HL.out HE.out.symm m er hmm.out.1 hmm.out.2).mono ?_
      rintro r w3 ⟨rfl, h3⟩
      have F3 := Hd.mk (F2.out.trans h3 (by simp))
      clear h3
      go_wp2
      go_ret2
      exact ⟨rfl, F3.out⟩
    · have hne : (e != 0) = true := by simpa using h
      obtain ⟨e1, e2⟩ := (show m = 0 ∧ er = e by have := HM.out; rw [if_neg h] at this; exact this)
      subst e1 e2
      go_wp2
      go_ret2
      exact ⟨rfl, F1.out⟩
theorem cost0_any (w : World) (k bh : Int) (A : Option Addr) (n c : Nat) (hno : k < 0 ∨ 2 < k ∨ bh < 0 ∨ 7 < bh) :
    Calls Tryz.prog 26 #[.int .i64 k, .int .i64 bh, .slice A n c] w fun r w' => r = .returned (.tuple #[.int .i64 0, .int .i64 1]) ∧ Fr w w' [] := by
  go_enter Tryz.func26, Tryz.ntmps26
  by_cases h1 : k < 0
  · clear hno
    go_wp2
    go_ret2
    exact ⟨rfl, Fr.refl _ _⟩
  by_cases h2 : 2 < k
  · clear hno
    go_wp2
    go_ret2
    exact ⟨rfl, Fr.refl _ _⟩
  by_cases h3 : bh < 0
  · clear hno
    go_wp2
    go_ret2
    exact ⟨rfl, Fr.refl _ _⟩
  · have h4 : 7 < bh := by omega
    clear hno
    go_wp2
    go_ret2
    exact ⟨rfl, Fr.refl _ _⟩
/-! ### Pick -/
end Go.Proofs.YtkdgfioigkijgaaGreat.Blk
/- Chapter 09: what a stored block and one with codes of its own lay down. Conditions: at most 65536 tokens, the writer has fewer than 2^49 bits. -/
set_option linter.unusedVariables false
set_option linter.unusedSimpArgs false
set_option maxRecDepth 100000
namespace Go.Proofs.YtkdgfioigkijgaaGreat.Blk
open Go.RowKit Go.Proofs.YtkdgfioigkijgaaGreat.Lib Go.Proofs.YtkdgfioigkijgaaGreat.Ints Go.Proofs.YtkdgfioigkijgaaGreat.Lz Go.Proofs.YtkdgfioigkijgaaGreat.Num Go.Proofs.YtkdgfioigkijgaaGreat.Bits
def bytesP (data : List Int) : List (Nat × Nat) := data.map fun b => (b.toNat, 8)
theorem bytesP_tot (data : List Int) : totOf (bytesP data) = 8 * data.length := by
  induction data with
  | nil => rfl
  | cons b d ih => simp only [bytesP, List.map_cons, totOf, List.length_cons] at ih ⊢; rw [ih]; omega
theorem bytesP_num (data : List Int) : numOf (bytesP data) = valB data := by
  induction data with
  | nil => rfl
  | cons b d ih => simp only [bytesP, List.map_cons, numOf] at ih ⊢; rw [ih, valB]; omega
/-- a stored block's parts, behind m bits -/
def storedP (m : Nat) (data : List Int) : List (Nat × Nat) := [(0, (8 - m % 8) % 8), (data.length, 16), (65535 - data.length, 16)] ++ bytesP data
theorem xor_ones {n : Nat} (h : n < 2 ^ 64) : (2 ^ 64 - 1) ^^^ n = 2 ^ 64 - (n + 1) := by
  apply Nat.eq_of_testBit_eq
  intro i
  rw [Nat.testBit_xor, Nat.testBit_two_pow_sub_one, Nat.testBit_two_pow_sub_succ h]
  by_cases hi : i < 64
  · simp [hi]
  · have h1 : n.testBit i = false := Nat.testBit_lt_two_pow (Nat.lt_of_lt_of_le h (Nat.pow_le_pow_right (by decide) (by omega)))
    simp [hi, h1]
theorem not16 {n : Nat} (h : n ≤ 65535) : Go.bits .and .u64 (Go.bits .xor .u64 IntKind.u64.max (n : Int)) 65535 = ((65535 - n : Nat) : Int) := by
  have e : IntKind.u64.max = ((18446744073709551615 : Nat) : Int) := by decide
  rw [e, bits_xor_u64_nat _ _ (by decide) (by omega)]
  have hx := xor_ones (n := n) (by omega)
  rw [show (2 ^ 64 - 1 : Nat) = 18446744073709551615 from rfl, show (2 ^ 64 : Nat) = 18446744073709551616 from rfl] at hx
  rw [hx]
  have hm := n64mask (a := 18446744073709551616 - (n + 1)) (n := 16) (by omega) (by decide)
  rw [show ((2 ^ 16 - 1 : Nat) : Int) = 65535 from rfl, show (2 : Nat) ^ 16 = 65536 from rfl] at hm
  rw [hm]
  congr 1
  omega
set_option maxHeartbeats 4000000 in
theorem storedWrite_any (w : World) (D : Option Addr) (cd : Nat) (data : List Int) (pd : Option Nat) (hD : Sl w D (u8s data) pd) (hDn : D = none → data.length = 0 ∧ cd = 0) (hby : ∀ x ∈ data, 0 ≤ x ∧ x ≤ 255) (hd : data.length ≤ 65535) (A : Option Addr) (n c : Nat)
    (gw N m : Nat) (q : Option Nat) (hT : Tl w gw 27 N m q) (hp : ∀ k, pd = some k → k ∉ gw :: q.toList ∧ k < w.heap.size) (hm : m ≤ 562949953421312) :
    Calls Tryz.prog 82 #[.pointer (some ⟨gw, 0, none⟩), .slice D data.length cd, .slice A n c] w fun e w' => e = .returned (.int .i64 0) ∧ ∃ q', Pw w w' gw q q' N m (storedP m data) := by
  have HD := Hd.mk hD
  have HN := Hd.mk hDn
  have HB := Hd.mk hby
  have HP := Hd.mk hp
  have T0 := Hd.mk hT
  clear hD hDn hby hp hT
  have HS : Hd (storedP m data = [(0, (8 - m % 8) % 8), (data.length, 16), (65535 - data.length, 16)] ++ bytesP data) := ⟨rfl⟩
  obtain ⟨nd, hnd⟩ : ∃ nd, nd = data.length := ⟨_, rfl⟩
  rw [← hnd] at hd HS ⊢
  have HND := Hd.mk hnd
  clear hnd
  have hnot := not16 hd
  have hsg : IntKind.u64.signed = false := rfl
  go_enter Tryz.func82, Tryz.ntmps82
  go_wp2_with (fail)
  refine (align_any w (by omega) T0.out).mono ?_
  rintro e w1 ⟨rfl, q1, h1, h2, h3⟩
  obtain ⟨q1', h4⟩ := (Pw.start T0.out).put (p := (0, (8 - m % 8) % 8)) ⟨q1, by simpa [numOf, totOf] using h1, h2, h3⟩
  have W1 : Hd (Pw w w1 gw q q1' N m [(0, (8 - m % 8) % 8)]) := ⟨h4⟩
  clear h1 h2 h3 h4
  have t1 : totOf [(0, (8 - m % 8) % 8)] = (8 - m % 8) % 8 := rfl
  go_wp2_with (fail)
  refine (wput (nd : Int) 16 nd rfl (by have : (2 : Nat) ^ (16 : Int).toNat = 65536 := rfl; omega) (by omega) (by omega) W1.out.tl (by have : (16 : Int).toNat = 16 := rfl; omega)).mono ?_
  rintro r w2 ⟨rfl, hpl⟩
  obtain ⟨q2, h2⟩ := W1.out.put hpl
  have W2 : Hd (Pw w w2 gw q q2 N m ([(0, (8 - m % 8) % 8)] ++ [(nd, 16)])) := ⟨h2⟩
  clear hpl h2 W1
  have t2 : totOf ([(0, (8 - m % 8) % 8)] ++ [(nd, 16)]) = (8 - m % 8) % 8 + 16 := rfl
  go_wp2_with (fail)
  refine (wput ((65535 - nd : Nat) : Int) 16 (65535 - nd) rfl (by have : (2 : Nat) ^ (16 : Int).toNat = 65536 := rfl; omega) (by omega) (by omega) W2.out.tl (by have : (16 : Int).toNat = 16 := rfl; omega)).mono ?_
  rintro r w3 ⟨rfl, hpl⟩
  obtain ⟨q3, h3⟩ := W2.out.put hpl
  have W3 : Hd (Pw w w3 gw q q3 N m [(0, (8 - m % 8) % 8), (nd, 16), (65535 - nd, 16)]) := ⟨h3⟩
  clear hpl h3 W2
  have t3 : totOf [(0, (8 - m % 8) % 8), (nd, 16), (65535 - nd, 16)] = (8 - m % 8) % 8 + 32 := rfl
  have hal : (8 - (m + totOf [(0, (8 - m % 8) % 8), (nd, 16), (65535 - nd, 16)]) % 8) % 8 = 0 := by rw [t3]; omega
  go_wp2_with (fail)
  have hwh := whole_any (g := gw) (T := 27) (q := q3) w3 D cd data pd HB.out (HD.out.frame W3.out.fr (fun k hk => (HP.out k hk).1)) HN.out (fun k hk hm' => (HP.out k hk).1 (W3.out.mem (HP.out k hk).2 hm')) (by rw [t3, ← HND.out]; omega) W3.out.tl
  rw [← HND.out] at hwh
  refine hwh.mono ?_
  rintro r w4 ⟨rfl, q4, h1, h2, h3⟩
  rw [hal, Nat.add_zero] at h1
  have W4 : Hd (Pw w3 w4 gw q3 q4 (N + numOf [(0, (8 - m % 8) % 8), (nd, 16), (65535 - nd, 16)] * 2 ^ m) (m + totOf [(0, (8 - m % 8) % 8), (nd, 16), (65535 - nd, 16)]) (bytesP data)) := ⟨⟨by rw [bytesP_num, bytesP_tot, ← HND.out]; exact h1, h2, h3⟩⟩
  have W5 := Hd.mk (W3.out.more W4.out)
  clear h1 h2 h3 W3 W4 hwh
  go_wp2
  go_ret
  exact ⟨rfl, q4, by rw [HS.out]; exact W5.out⟩
end Go.Proofs.YtkdgfioigkijgaaGreat.Blk
