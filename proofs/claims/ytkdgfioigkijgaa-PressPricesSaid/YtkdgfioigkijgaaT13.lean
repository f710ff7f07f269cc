/- Texts of this claim, one behind the other: BlkT, BlkU, BlkV, BlkW, BlkX, BlkY. -/
import Derived.Test.YtkdgfioigkijgaaT01
import Derived.Test.YtkdgfioigkijgaaT02
import Derived.Test.YtkdgfioigkijgaaT03
import Derived.Test.YtkdgfioigkijgaaT04
import Derived.Test.YtkdgfioigkijgaaT05
import Derived.Test.YtkdgfioigkijgaaT06
import Derived.Test.YtkdgfioigkijgaaT07
import Derived.Test.YtkdgfioigkijgaaT08
import Derived.Test.YtkdgfioigkijgaaT09
import Derived.Test.YtkdgfioigkijgaaT10
import Derived.Test.YtkdgfioigkijgaaT11
import Derived.Test.YtkdgfioigkijgaaT12
import Derived.BigRegion
import Derived.BigQuiet
import Derived.Deep.QuietTactic
import Derived.Deep.LoopGhost
import Derived.Deep.DeepCutAuto
import Derived.KernelRfl
import Derived.Deep.RegionLaw
import Derived.Outline
import Derived.Laws.Bits64
/- Chapter 09: what a block of each kind costs. Conditions: at most 2^40 tokens. -/
set_option linter.unusedVariables false
set_option linter.unusedSimpArgs false
set_option maxRecDepth 100000
namespace Go.Proofs.Ytkdgfioigkijgaa.Blk
open Go.RowKit Go.Proofs.Ytkdgfioigkijgaa.Lib Go.Proofs.Ytkdgfioigkijgaa.Ints Go.Proofs.Ytkdgfioigkijgaa.Lz
theorem own_okH (l : List Tok) : Head.okH (ownLit l) (ownDist l) = true := by
  refine decide_eq_true ⟨by rw [ownLit_len]; decide, by rw [ownLit_len]; decide, by rw [ownDist_len]; decide, ownLit_check l, ownDist_check l, ?_⟩
  have h256 : 256 < (litFrq l).length := by unfold litFrq; rw [frq_len]; decide
  have h := Lens.lenOf_at (fs := litFrq l) (limit := 15) (by decide) (lvs_frq _ (by decide)) h256
  have hp : (0 : Int) < (litFrq l)[256] := by
    have : (litFrq l)[256] = (Code.cnt (symsA l ++ [256]) 256 : Int) := by simp [litFrq, frq]
    rw [this, cnt_snoc]
    simp only [show ((256 : Nat) : Int) = 256 from rfl, if_true]
    omega
  rw [if_pos hp] at h
  have e : (ownLit l).getD 256 0 = (Lens.lenOf 15 (litFrq l) 256 : Int) := by
    rw [List.getD_eq_getElem?_getD]; simp [ownLit]
  rw [e]
  omega
def costK (k : Nat) (bh : Int) (l : List Tok) : Int × Int :=
  if k = 0 then (if 65535 < Lz.sizeOf l then (0, 90) else (3 + (13 - bh) % 8 + 32 + 8 * (Lz.sizeOf l : Nat), 0))
  else if k = 1 then (3 + codedN plainLit plainDist l, 0)
  else (3 + Head.hcost (ownLit l) (ownDist l) + codedN (ownLit l) (ownDist l) l, 0)
set_option maxHeartbeats 4000000 in
theorem storedCost_any (w : World) (bh : Int) (h0 : 0 ≤ bh) (h7 : bh ≤ 7) (A : Option Addr) (n c : Nat) (l : List Tok) (p : Option Nat) (hn : l.length = n) (hS : Sl w A (tcells l) p) (hb : n ≤ 65536) (m er : Int) (hm : m = (costK 0 bh l).1) (her : er = (costK 0 bh l).2) :
    Calls Try.prog 73 #[.int .i64 bh, .slice A n c] w fun e w' => e = .returned (.tuple #[.int .i64 m, .int .i64 er]) ∧ Fr w w' [] := by
  have HS := Hd.mk hS
  have HK : Hd (costK 0 bh l = if 65535 < Lz.sizeOf l then (0, 90) else (3 + (13 - bh) % 8 + 32 + 8 * (Lz.sizeOf l : Nat), 0)) := ⟨rfl⟩
  have HM := Hd.mk (And.intro hm her)
  clear hS hm her
  have hsz := Lz.sizeOf_le l
  go_enter Try.func73, Try.ntmps73
  go_wp2_with (fail)
  refine (size_any w A n c l p hn HS.out (by omega)).mono ?_
  rintro r w1 ⟨rfl, h1⟩
  have F1 := Hd.mk h1
  clear h1
  obtain ⟨s, hs⟩ : ∃ s, s = Lz.sizeOf l := ⟨_, rfl⟩
  rw [← hs] at HK hsz ⊢
  clear hs
  have hsb : (s : Int) ≤ 16908288 := by omega
  by_cases h : 65535 < s
  · have e := HK.out
    rw [if_pos h] at e
    obtain rfl : m = 0 := by rw [HM.out.1, e]
    obtain rfl : er = 90 := by rw [HM.out.2, e]
    clear e
    go_wp2
    go_ret2
    exact ⟨rfl, F1.out⟩
  · have e := HK.out
    rw [if_neg h] at e
    obtain rfl : er = 0 := by rw [HM.out.2, e]
    have hm : m = 3 + (13 - bh) % 8 + 32 + 8 * (s : Int) := by rw [HM.out.1, e]
    have HMM := Hd.mk hm
    clear e hm
    have n1 : Int.tmod (16 - bh - 3) 8 = (13 - bh) % 8 := by rw [Int.tmod_eq_emod_of_nonneg (by omega)]; congr 1; omega
    go_wp2
    go_ret2
    exact ⟨by rw [HMM.out]; rfl, F1.out⟩
set_option maxHeartbeats 4000000 in
theorem ownCost_any (w : World) (bh : Int) (A : Option Addr) (n c : Nat) (l : List Tok) (p : Option Nat) (hn : l.length = n) (hS : Sl w A (tcells l) p) (hb : n ≤ 65536) (hr : ∀ t ∈ l, right t = true) (hl : LitB l) (hmay : mayB l = 0) (m er : Int) (hm : m = (costK 2 bh l).1) (her : er = (costK 2 bh l).2) :
    Calls Try.prog 77 #[.int .i64 bh, .slice A n c] w fun e w' => e = .returned (.tuple #[.int .i64 m, .int .i64 er]) ∧ Fr w w' [] := by
  obtain rfl : er = 0 := her
  have HS := Hd.mk hS
  have HR := Hd.mk (And.intro hr hl)
  have HM : Hd (m = 3 + Head.hcost (ownLit l) (ownDist l) + codedN (ownLit l) (ownDist l) l) := ⟨hm⟩
  have HMAY := Hd.mk hmay
  have hcb : 0 ≤ codedN (ownLit l) (ownDist l) l ∧ codedN (ownLit l) (ownDist l) l ≤ 15 + 48 * 65536 := by
    have h1 := codedF_le (check15 (ownLit_check l)) (check15 (ownDist_check l)) l hr hl
    have h2 := lens15_get (check15 (ownLit_check l)) 256
    unfold codedN
    omega
  have hhb : 0 ≤ Head.hcost (ownLit l) (ownDist l) ∧ Head.hcost (ownLit l) (ownDist l) ≤ 5000 := by
    obtain ⟨_, r2, _⟩ := Head.hruns_ok (own_okH l)
    have h1 := Head.costF_le (Head.hlens_le (rs := Head.hruns (ownLit l) (ownDist l)) (by omega)) (Head.hruns (ownLit l) (ownDist l))
    have h2 := Head.toldN_le (Head.hlens (Head.hruns (ownLit l) (ownDist l))) 19
    unfold Head.hcost
    omega
  obtain ⟨k1, hk1⟩ : ∃ k, k = Head.hcost (ownLit l) (ownDist l) := ⟨_, rfl⟩
  obtain ⟨k2, hk2⟩ : ∃ k, k = codedN (ownLit l) (ownDist l) l := ⟨_, rfl⟩
  rw [← hk1] at HM hhb
  rw [← hk2] at HM hcb
  have HK1 := Hd.mk hk1
  have HK2 := Hd.mk hk2
  clear hS hm hr hl hmay hk1 hk2
  go_enter Try.func77, Try.ntmps77
  go_wp2_with (fail)
  refine (ownLens_any w A n c l p hn HS.out (by omega) HR.out.2).mono ?_
  rintro r w1 hp
  unfold OwnPost at hp
  obtain ⟨A1, c1, B1, d1, rfl, h1, h2, _, _, h3⟩ := hp.1 HMAY.out
  have X1 := Hd.mk (slArg_own h1)
  have Y1 := Hd.mk (slArg_own h2)
  have F1 := Hd.mk h3
  clear h1 h2 h3 hp
  go_wp2_with (fail)
  refine (Head.hcost_any w1 A1 B1 286 c1 30 d1 (ownLit l) (ownDist l) _ _ X1.out Y1.out 0 k1 (by rw [own_okH]; rfl) (by rw [own_okH]; exact HK1.out)).mono ?_
  rintro r w2 ⟨rfl, h1⟩
  have F2 := Hd.mk (F1.out.trans h1 (by simp))
  have X2 := Hd.mk (X1.out.sl.frame h1 (by simp))
  have Y2 := Hd.mk (Y1.out.sl.frame h1 (by simp))
  clear h1 X1 Y1 F1
  go_wp2_with (fail)
  refine (coded_any w2 A1 B1 286 c1 30 d1 (ownLit l) (ownDist l) _ _ X2.out Y2.out (ownLit_len l) (ownDist_len l) (by omega) (by omega) A n c l p hn (HS.out.frame F2.out (by simp)) hb HR.out.1 HR.out.2 (check15 (ownLit_check l)) (check15 (ownDist_check l)) k2 HK2.out).mono ?_
  rintro r w3 ⟨rfl, h1⟩
  have F3 := Hd.mk (F2.out.trans h1 (by simp))
  clear h1
  go_wp2
  go_ret2
  exact ⟨by rw [HM.out]; rfl, F3.out⟩
end Go.Proofs.Ytkdgfioigkijgaa.Blk
/- Chapter 09: Cost and Pick. Conditions: at most 2^40 tokens. -/
set_option linter.unusedVariables false
set_option linter.unusedSimpArgs false
set_option maxRecDepth 100000
namespace Go.Proofs.Ytkdgfioigkijgaa.Blk
open Go.RowKit Go.Proofs.Ytkdgfioigkijgaa.Lib Go.Proofs.Ytkdgfioigkijgaa.Ints Go.Proofs.Ytkdgfioigkijgaa.Lz
theorem plainCost2 (w : World) (bh : Int) (A : Option Addr) (n c : Nat) (l : List Tok) (p : Option Nat) (hn : l.length = n) (hS : Sl w A (tcells l) p) (hb : n ≤ 65536) (hr : ∀ t ∈ l, right t = true) (hl : LitB l) (m er : Int) (hm : m = (costK 1 bh l).1) (her : er = (costK 1 bh l).2) :
    Calls Try.prog 75 #[.int .i64 bh, .slice A n c] w fun e w' => e = .returned (.tuple #[.int .i64 m, .int .i64 er]) ∧ Fr w w' [] := by
  obtain rfl : er = 0 := her
  obtain rfl : m = 3 + codedN plainLit plainDist l := hm
  exact plainCost_any w bh A n c l p hn hS hb hr hl _ rfl
set_option maxHeartbeats 8000000 in
/-- Cost of a kind that is one -/
theorem cost3_any (w : World) (k : Nat) (hk : k < 3) (bh : Int) (h0 : 0 ≤ bh) (h7 : bh ≤ 7) (A : Option Addr) (n c : Nat) (l : List Tok) (p : Option Nat) (hn : l.length = n) (hS : Sl w A (tcells l) p) (hb : n ≤ 6000000000000) (hl : LitB l) (m er : Int) (hm : if mayB l = 0 then m = (costK k bh l).1 ∧ er = (costK k bh l).2 else m = 0 ∧ er = mayB l) :
    Calls Try.prog 42 #[.int .i64 (k : Nat), .int .i64 bh, .slice A n c] w fun r w' => r = .returned (.tuple #[.int .i64 m, .int .i64 er]) ∧ Fr w w' [] := by
  have HS := Hd.mk hS
  have HL := Hd.mk hl
  obtain ⟨e, he⟩ : ∃ e, e = mayB l := ⟨_, rfl⟩
  rw [← he] at hm
  have HE := Hd.mk he
  have HM := Hd.mk hm
  clear hS hl hm he
  go_enter Try.func42, Try.ntmps42
  have hc : k = 0 ∨ k = 1 ∨ k = 2 := by omega
  rcases hc with rfl | rfl | rfl
  · have hi := ways0
    have hf := way0c
    go_wp2_with (fail)
    refine (may_any w A n c l p hn HS.out (Nat.le_trans hb (by decide)) e HE.out).mono ?_
    rintro r w1 ⟨rfl, h1⟩
    have F1 := Hd.mk h1
    clear h1
    by_cases h : e = 0
    · have hmm : Hd (m = (costK 0 bh l).1 ∧ er = (costK 0 bh l).2) := ⟨by have := HM.out; rw [if_pos h] at this; exact this⟩
      subst h
      have hz := mayB_zero HE.out.symm
      have HZ := Hd.mk hz.2
      have hz1 := hz.1
      clear hz
      go_wp2_with (fail)
      refine (ways_any w1).mono ?_
      rintro r w2 ⟨rfl, h2⟩
      have F2 := Hd.mk (F1.out.trans h2 (by simp))
      clear h2
      go_wp2_with (fail)
      refine (storedCost_any w2 bh h0 h7 A n c l p hn (HS.out.frame F2.out (by simp)) (by omega) m er hmm.out.1 hmm.out.2).mono ?_
      rintro r w3 ⟨rfl, h3⟩
      have F3 := Hd.mk (F2.out.trans h3 (by simp))
      clear h3
      go_wp2
      go_ret2
      exact ⟨rfl, F3.out⟩
    · have hne : (e != 0) = true := by simpa using h
      obtain ⟨e1, e2⟩ := (show m = 0 ∧ er = e by have := HM.out; rw [if_neg h] at this; exact this)
      subst e1 e2
      go_wp2
      go_ret2
      exact ⟨rfl, F1.out⟩
  · have hi := ways1
    have hf := way1c
    go_wp2_with (fail)
    refine (may_any w A n c l p hn HS.out (Nat.le_trans hb (by decide)) e HE.out).mono ?_
    rintro r w1 ⟨rfl, h1⟩
    have F1 := Hd.mk h1
    clear h1
    by_cases h : e = 0
    · have hmm : Hd (m = (costK 1 bh l).1 ∧ er = (costK 1 bh l).2) := ⟨by have := HM.out; rw [if_pos h] at this; exact this⟩
      subst h
      have hz := mayB_zero HE.out.symm
      have HZ := Hd.mk hz.2
      have hz1 := hz.1
      clear hz
      go_wp2_with (fail)
      refine (ways_any w1).mono ?_
      rintro r w2 ⟨rfl, h2⟩
      have F2 := Hd.mk (F1.out.trans h2 (by simp))
      clear h2
      go_wp2_with (fail)
      refine (plainCost2 w2 bh A n c l p hn (HS.out.frame F2.out (by simp)) (by omega) HZ.out HL.out m er hmm.out.1 hmm.out.2).mono ?_
      rintro r w3 ⟨rfl, h3⟩
      have F3 := Hd.mk (F2.out.trans h3 (by simp))
      clear h3
      go_wp2
      go_ret2
      exact ⟨rfl, F3.out⟩
    · have hne : (e != 0) = true := by simpa using h
      obtain ⟨e1, e2⟩ := (show m = 0 ∧ er = e by have := HM.out; rw [if_neg h] at this; exact this)
      subst e1 e2
      go_wp2
      go_ret2
      exact ⟨rfl, F1.out⟩
  · have hi := ways2
    have hf := way2c
    go_wp2_with (fail)
    refine (may_any w A n c l p hn HS.out (Nat.le_trans hb (by decide)) e HE.out).mono ?_
    rintro r w1 ⟨rfl, h1⟩
    have F1 := Hd.mk h1
    clear h1
    by_cases h : e = 0
    · have hmm : Hd (m = (costK 2 bh l).1 ∧ er = (costK 2 bh l).2) := ⟨by have := HM.out; rw [if_pos h] at this; exact this⟩
      subst h
      have hz := mayB_zero HE.out.symm
      have HZ := Hd.mk hz.2
      have hz1 := hz.1
      clear hz
      go_wp2_with (fail)
      refine (ways_any w1).mono ?_
      rintro r w2 ⟨rfl, h2⟩
      have F2 := Hd.mk (F1.out.trans h2 (by simp))
      clear h2
      go_wp2_with (fail)
      refine (ownCost_any w2 bh A n c l p hn (HS.out.frame F2.out (by simp)) (by omega) HZ.out HL.out HE.out.symm m er hmm.out.1 hmm.out.2).mono ?_
      rintro r w3 ⟨rfl, h3⟩
      have F3 := Hd.mk (F2.out.trans h3 (by simp))
      clear h3
      go_wp2
      go_ret2
      exact ⟨rfl, F3.out⟩
    · have hne : (e != 0) = true := by simpa using h
      obtain ⟨e1, e2⟩ := (show m = 0 ∧ er = e by have := HM.out; rw [if_neg h] at this; exact this)
      subst e1 e2
      go_wp2
      go_ret2
      exact ⟨rfl, F1.out⟩
/-! ### Pick -/
/-- the best of the first kinds, and what it costs (-1: none yet) -/
def pickF (bh : Int) (l : List Tok) : Nat → Int × Int
  | 0 => (1, -1)
  | k + 1 => if (costK k bh l).2 = 0 ∧ ((pickF bh l k).2 < 0 ∨ (costK k bh l).1 < (pickF bh l k).2) then ((k : Int), (costK k bh l).1) else pickF bh l k
end Go.Proofs.Ytkdgfioigkijgaa.Blk
/- Chapter 09: Pick. Conditions: at most 2^40 tokens. -/
set_option linter.unusedVariables false
set_option linter.unusedSimpArgs false
set_option maxRecDepth 100000
namespace Go.Proofs.Ytkdgfioigkijgaa.Blk
open Go.RowKit Go.Proofs.Ytkdgfioigkijgaa.Lib Go.Proofs.Ytkdgfioigkijgaa.Ints Go.Proofs.Ytkdgfioigkijgaa.Lz
theorem costK_le {bh : Int} (h0 : 0 ≤ bh) (h7 : bh ≤ 7) {l : List Tok} (h : mayB l = 0) (hl : LitB l) (k : Nat) : 0 ≤ (costK k bh l).1 ∧ (costK k bh l).1 ≤ 4503599627370496 ∧ ((costK k bh l).2 = 0 → 3 ≤ (costK k bh l).1) := by
  obtain ⟨h1, hr⟩ := mayB_zero h
  unfold costK
  split
  · split
    · exact ⟨by decide, by decide, fun h => absurd h (by decide)⟩
    · have := Lz.sizeOf_le l
      refine ⟨?_, ?_, fun _ => ?_⟩ <;> simp only <;> omega
  · split
    · have a := codedF_le plainLit15 plainDist15 l hr hl
      have b := lens15_get plainLit15 256
      unfold codedN
      refine ⟨?_, ?_, fun _ => ?_⟩ <;> simp only <;> omega
    · have a := codedF_le (check15 (ownLit_check l)) (check15 (ownDist_check l)) l hr hl
      have b := lens15_get (check15 (ownLit_check l)) 256
      obtain ⟨_, r2, _⟩ := Head.hruns_ok (own_okH l)
      have c := Head.costF_le (Head.hlens_le (rs := Head.hruns (ownLit l) (ownDist l)) (by omega)) (Head.hruns (ownLit l) (ownDist l))
      have d := Head.toldN_le (Head.hlens (Head.hruns (ownLit l) (ownDist l))) 19
      unfold codedN Head.hcost
      refine ⟨?_, ?_, fun _ => ?_⟩ <;> simp only <;> omega
theorem pickF_le {bh : Int} (h0 : 0 ≤ bh) (h7 : bh ≤ 7) {l : List Tok} (h : mayB l = 0) (hl : LitB l) : ∀ k, k ≤ 3 → -1 ≤ (pickF bh l k).2 ∧ (pickF bh l k).2 ≤ 4503599627370496 ∧ 0 ≤ (pickF bh l k).1 ∧ (pickF bh l k).1 ≤ 2
  | 0, _ => by simp [pickF]
  | k + 1, hk => by
    have a := pickF_le h0 h7 h hl k (by omega)
    have b := costK_le h0 h7 h hl k
    rw [pickF]
    split
    · refine ⟨?_, ?_, ?_, ?_⟩ <;> simp only <;> omega
    · exact a
set_option maxHeartbeats 8000000 in
theorem pick_any (w : World) (bh : Int) (h0 : 0 ≤ bh) (h7 : bh ≤ 7) (A : Option Addr) (n c : Nat) (l : List Tok) (p : Option Nat) (hn : l.length = n) (hS : Sl w A (tcells l) p) (hb : n ≤ 6000000000000) (hl : LitB l) (m er : Int) (hm : if mayB l = 0 then m = (pickF bh l 3).1 ∧ er = 0 else m = 0 ∧ er = mayB l) :
    Calls Try.prog 41 #[.int .i64 bh, .slice A n c] w fun r w' => r = .returned (.tuple #[.int .i64 m, .int .i64 er]) ∧ Fr w w' [] := by
  have HS := Hd.mk hS
  have HL := Hd.mk hl
  obtain ⟨e, he⟩ : ∃ e, e = mayB l := ⟨_, rfl⟩
  rw [← he] at hm
  have HE := Hd.mk he
  have HM := Hd.mk hm
  clear hS hl hm he
  go_enter Try.func41, Try.ntmps41
  go_wp2_with (fail)
  refine (may_any w A n c l p hn HS.out (Nat.le_trans hb (by decide)) e HE.out).mono ?_
  rintro r w1 ⟨rfl, h1⟩
  have F1 := Hd.mk h1
  clear h1
  by_cases h : e = 0
  · have hmm : Hd (m = (pickF bh l 3).1 ∧ er = 0) := ⟨by have := HM.out; rw [if_pos h] at this; exact this⟩
    obtain rfl : er = 0 := hmm.out.2
    subst h
    have hz := mayB_zero HE.out.symm
    have HZ := Hd.mk hz.2
    have hz1 := hz.1
    have HCL := fun k => costK_le h0 h7 HE.out.symm HL.out k
    have HPL := fun k hk => pickF_le h0 h7 HE.out.symm HL.out k hk
    have HB := Hd.mk (And.intro HCL HPL)
    clear hz HCL HPL
    go_wp2_with (fail)
    refine (ways_any w1).mono ?_
    rintro r w2 ⟨rfl, h2⟩
    have F2 := Hd.mk (F1.out.trans h2 (by simp))
    clear h2 F1
    go_wp2
    go_loopg [7, 8, 25] 3 (fun kq bv lv jv wr => ∃ (j : Nat) (b s : Int), bv = .int .i64 b ∧ lv = .int .i64 s ∧ jv = .int .i64 (j : Nat) ∧ j + kq = 3 ∧ Hd ((b, s) = pickF bh l j) ∧ Hd (Fr w wr []))
    case atStart => exact ⟨0, 1, -1, rfl, rfl, rfl, by omega, ⟨rfl⟩, F2⟩
    case round =>
      obtain ⟨j, b, s, rfl, rfl, rfl, hj, HP, HF⟩ := hrel
      by_cases hj3 : j < 3
      · have hcl := HB.out.1 j
        have hpl := HB.out.2 j (by omega)
        rw [← HP.out] at hpl
        simp only at hpl
        have HST : Hd (pickF bh l (j + 1) = if (costK j bh l).2 = 0 ∧ (s < 0 ∨ (costK j bh l).1 < s) then ((j : Int), (costK j bh l).1) else (b, s)) := ⟨by rw [pickF, ← HP.out]⟩
        obtain ⟨q1, hq1⟩ : ∃ q, q = (costK j bh l).1 := ⟨_, rfl⟩
        obtain ⟨q2, hq2⟩ : ∃ q, q = (costK j bh l).2 := ⟨_, rfl⟩
        rw [← hq1, ← hq2] at HST hcl
        have HQ := Hd.mk (And.intro hq1 hq2)
        clear hq1 hq2
        have hc : j = 0 ∨ j = 1 ∨ j = 2 := by omega
        rcases hc with rfl | rfl | rfl
        · have hi : ∀ W : World, (Instr.index 139 (.agg waysC) (.int .i64 ((0 : Nat) : Int))).run Try.prog W = _ := ways0
          have hi2 := ways0
          go_wp2_with (fail)
          refine (storedCost_any _ bh h0 h7 A n c l p hn (HS.out.frame (HF.out.alloc _) (by simp)) (by omega) q1 q2 HQ.out.1 HQ.out.2).mono ?_
          rintro r w3 ⟨rfl, h3⟩
          have F3 := Hd.mk ((HF.out.alloc _).trans h3 (by simp))
          clear h3
          by_cases hq : q2 = 0
          · by_cases hs : s < 0
            · have HS2 : Hd (pickF bh l (0 + 1) = (((0 : Nat) : Int), q1)) := ⟨by rw [HST.out, if_pos ⟨hq, .inl hs⟩]⟩
              subst hq
              go_wp2
              go_roundg (gk - 1)
              case measure => omega
              case rel => exact ⟨0 + 1, _, _, rfl, rfl, by go_num, by omega, ⟨HS2.out.symm⟩, F3⟩
            · by_cases ht : q1 < s
              · have HS2 : Hd (pickF bh l (0 + 1) = (((0 : Nat) : Int), q1)) := ⟨by rw [HST.out, if_pos ⟨hq, .inr ht⟩]⟩
                subst hq
                go_wp2
                go_roundg (gk - 1)
                case measure => omega
                case rel => exact ⟨0 + 1, _, _, rfl, rfl, by go_num, by omega, ⟨HS2.out.symm⟩, F3⟩
              · have HS2 : Hd (pickF bh l (0 + 1) = (b, s)) := ⟨by rw [HST.out, if_neg (fun h => by rcases h.2 with h | h <;> contradiction)]⟩
                subst hq
                go_wp2
                go_roundg (gk - 1)
                case measure => omega
                case rel => exact ⟨0 + 1, b, s, rfl, rfl, by go_num, by omega, ⟨HS2.out.symm⟩, F3⟩
          · have HS2 : Hd (pickF bh l (0 + 1) = (b, s)) := ⟨by rw [HST.out, if_neg (fun h => hq h.1)]⟩
            have hne : (q2 == 0) = false := by simpa using hq
            go_wp2
            go_roundg (gk - 1)
            case measure => omega
            case rel => exact ⟨0 + 1, b, s, rfl, rfl, by go_num, by omega, ⟨HS2.out.symm⟩, F3⟩
        · have hi : ∀ W : World, (Instr.index 139 (.agg waysC) (.int .i64 ((1 : Nat) : Int))).run Try.prog W = _ := ways1
          have hi2 := ways1
          go_wp2_with (fail)
          refine (plainCost2 _ bh A n c l p hn (HS.out.frame (HF.out.alloc _) (by simp)) (by omega) HZ.out HL.out q1 q2 HQ.out.1 HQ.out.2).mono ?_
          rintro r w3 ⟨rfl, h3⟩
          have F3 := Hd.mk ((HF.out.alloc _).trans h3 (by simp))
          clear h3
          by_cases hq : q2 = 0
          · by_cases hs : s < 0
            · have HS2 : Hd (pickF bh l (1 + 1) = (((1 : Nat) : Int), q1)) := ⟨by rw [HST.out, if_pos ⟨hq, .inl hs⟩]⟩
              subst hq
              go_wp2
              go_roundg (gk - 1)
              case measure => omega
              case rel => exact ⟨1 + 1, _, _, rfl, rfl, by go_num, by omega, ⟨HS2.out.symm⟩, F3⟩
            · by_cases ht : q1 < s
              · have HS2 : Hd (pickF bh l (1 + 1) = (((1 : Nat) : Int), q1)) := ⟨by rw [HST.out, if_pos ⟨hq, .inr ht⟩]⟩
                subst hq
                go_wp2
                go_roundg (gk - 1)
                case measure => omega
                case rel => exact ⟨1 + 1, _, _, rfl, rfl, by go_num, by omega, ⟨HS2.out.symm⟩, F3⟩
              · have HS2 : Hd (pickF bh l (1 + 1) = (b, s)) := ⟨by rw [HST.out, if_neg (fun h => by rcases h.2 with h | h <;> contradiction)]⟩
                subst hq
                go_wp2
                go_roundg (gk - 1)
                case measure => omega
                case rel => exact ⟨1 + 1, b, s, rfl, rfl, by go_num, by omega, ⟨HS2.out.symm⟩, F3⟩
          · have HS2 : Hd (pickF bh l (1 + 1) = (b, s)) := ⟨by rw [HST.out, if_neg (fun h => hq h.1)]⟩
            have hne : (q2 == 0) = false := by simpa using hq
            go_wp2
            go_roundg (gk - 1)
            case measure => omega
            case rel => exact ⟨1 + 1, b, s, rfl, rfl, by go_num, by omega, ⟨HS2.out.symm⟩, F3⟩
        · have hi : ∀ W : World, (Instr.index 139 (.agg waysC) (.int .i64 ((2 : Nat) : Int))).run Try.prog W = _ := ways2
          have hi2 := ways2
          go_wp2_with (fail)
          refine (ownCost_any _ bh A n c l p hn (HS.out.frame (HF.out.alloc _) (by simp)) (by omega) HZ.out HL.out HE.out.symm q1 q2 HQ.out.1 HQ.out.2).mono ?_
          rintro r w3 ⟨rfl, h3⟩
          have F3 := Hd.mk ((HF.out.alloc _).trans h3 (by simp))
          clear h3
          by_cases hq : q2 = 0
          · by_cases hs : s < 0
            · have HS2 : Hd (pickF bh l (2 + 1) = (((2 : Nat) : Int), q1)) := ⟨by rw [HST.out, if_pos ⟨hq, .inl hs⟩]⟩
              subst hq
              go_wp2
              go_roundg (gk - 1)
              case measure => omega
              case rel => exact ⟨2 + 1, _, _, rfl, rfl, by go_num, by omega, ⟨HS2.out.symm⟩, F3⟩
            · by_cases ht : q1 < s
              · have HS2 : Hd (pickF bh l (2 + 1) = (((2 : Nat) : Int), q1)) := ⟨by rw [HST.out, if_pos ⟨hq, .inr ht⟩]⟩
                subst hq
                go_wp2
                go_roundg (gk - 1)
                case measure => omega
                case rel => exact ⟨2 + 1, _, _, rfl, rfl, by go_num, by omega, ⟨HS2.out.symm⟩, F3⟩
              · have HS2 : Hd (pickF bh l (2 + 1) = (b, s)) := ⟨by rw [HST.out, if_neg (fun h => by rcases h.2 with h | h <;> contradiction)]⟩
                subst hq
                go_wp2
                go_roundg (gk - 1)
                case measure => omega
                case rel => exact ⟨2 + 1, b, s, rfl, rfl, by go_num, by omega, ⟨HS2.out.symm⟩, F3⟩
          · have HS2 : Hd (pickF bh l (2 + 1) = (b, s)) := ⟨by rw [HST.out, if_neg (fun h => hq h.1)]⟩
            have hne : (q2 == 0) = false := by simpa using hq
            go_wp2
            go_roundg (gk - 1)
            case measure => omega
            case rel => exact ⟨2 + 1, b, s, rfl, rfl, by go_num, by omega, ⟨HS2.out.symm⟩, F3⟩
      · obtain rfl : j = 3 := by omega
        have hb2 : Hd (m = b) := ⟨by rw [hmm.out.1, ← HP.out]⟩
        obtain rfl := hb2.out
        go_wp2
        go_ret2
        exact ⟨rfl, HF.out⟩
  · have hne : (e != 0) = true := by simpa using h
    obtain ⟨e1, e2⟩ := (show m = 0 ∧ er = e by have := HM.out; rw [if_neg h] at this; exact this)
    subst e1 e2
    go_wp2
    go_ret2
    exact ⟨rfl, F1.out⟩
end Go.Proofs.Ytkdgfioigkijgaa.Blk
/- Chapter 09: what a stored block and one with codes of its own lay down. Conditions: at most 65536 tokens, the writer has fewer than 2^49 bits. -/
set_option linter.unusedVariables false
set_option linter.unusedSimpArgs false
set_option maxRecDepth 100000
namespace Go.Proofs.Ytkdgfioigkijgaa.Blk
open Go.RowKit Go.Proofs.Ytkdgfioigkijgaa.Lib Go.Proofs.Ytkdgfioigkijgaa.Ints Go.Proofs.Ytkdgfioigkijgaa.Lz Go.Proofs.Ytkdgfioigkijgaa.Num Go.Proofs.Ytkdgfioigkijgaa.Bits
def bytesP (data : List Int) : List (Nat × Nat) := data.map fun b => (b.toNat, 8)
theorem bytesP_tot (data : List Int) : totOf (bytesP data) = 8 * data.length := by
  induction data with
  | nil => rfl
  | cons b d ih => simp only [bytesP, List.map_cons, totOf, List.length_cons] at ih ⊢; rw [ih]; omega
theorem bytesP_num (data : List Int) : numOf (bytesP data) = valB data := by
  induction data with
  | nil => rfl
  | cons b d ih => simp only [bytesP, List.map_cons, numOf] at ih ⊢; rw [ih, valB]; omega
/-- a stored block's parts, behind m bits -/
def storedP (m : Nat) (data : List Int) : List (Nat × Nat) := [(0, (8 - m % 8) % 8), (data.length, 16), (65535 - data.length, 16)] ++ bytesP data
theorem xor_ones {n : Nat} (h : n < 2 ^ 64) : (2 ^ 64 - 1) ^^^ n = 2 ^ 64 - (n + 1) := by
  apply Nat.eq_of_testBit_eq
  intro i
  rw [Nat.testBit_xor, Nat.testBit_two_pow_sub_one, Nat.testBit_two_pow_sub_succ h]
  by_cases hi : i < 64
  · simp [hi]
  · have h1 : n.testBit i = false := Nat.testBit_lt_two_pow (Nat.lt_of_lt_of_le h (Nat.pow_le_pow_right (by decide) (by omega)))
    simp [hi, h1]
theorem not16 {n : Nat} (h : n ≤ 65535) : Go.bits .and .u64 (Go.bits .xor .u64 IntKind.u64.max (n : Int)) 65535 = ((65535 - n : Nat) : Int) := by
  have e : IntKind.u64.max = ((18446744073709551615 : Nat) : Int) := by decide
  rw [e, bits_xor_u64_nat _ _ (by decide) (by omega)]
  have hx := xor_ones (n := n) (by omega)
  rw [show (2 ^ 64 - 1 : Nat) = 18446744073709551615 from rfl, show (2 ^ 64 : Nat) = 18446744073709551616 from rfl] at hx
  rw [hx]
  have hm := n64mask (a := 18446744073709551616 - (n + 1)) (n := 16) (by omega) (by decide)
  rw [show ((2 ^ 16 - 1 : Nat) : Int) = 65535 from rfl, show (2 : Nat) ^ 16 = 65536 from rfl] at hm
  rw [hm]
  congr 1
  omega
set_option maxHeartbeats 4000000 in
theorem storedWrite_any (w : World) (D : Option Addr) (cd : Nat) (data : List Int) (pd : Option Nat) (hD : Sl w D (u8s data) pd) (hDn : D = none → data.length = 0 ∧ cd = 0) (hby : ∀ x ∈ data, 0 ≤ x ∧ x ≤ 255) (hd : data.length ≤ 65535) (A : Option Addr) (n c : Nat)
    (gw N m : Nat) (q : Option Nat) (hT : Tl w gw 91 N m q) (hp : ∀ k, pd = some k → k ∉ gw :: q.toList ∧ k < w.heap.size) (hm : m ≤ 562949953421312) :
    Calls Try.prog 74 #[.pointer (some ⟨gw, 0, none⟩), .slice D data.length cd, .slice A n c] w fun e w' => e = .returned (.int .i64 0) ∧ ∃ q', Pw w w' gw q q' N m (storedP m data) := by
  have HD := Hd.mk hD
  have HN := Hd.mk hDn
  have HB := Hd.mk hby
  have HP := Hd.mk hp
  have T0 := Hd.mk hT
  clear hD hDn hby hp hT
  have HS : Hd (storedP m data = [(0, (8 - m % 8) % 8), (data.length, 16), (65535 - data.length, 16)] ++ bytesP data) := ⟨rfl⟩
  obtain ⟨nd, hnd⟩ : ∃ nd, nd = data.length := ⟨_, rfl⟩
  rw [← hnd] at hd HS ⊢
  have HND := Hd.mk hnd
  clear hnd
  have hnot := not16 hd
  have hsg : IntKind.u64.signed = false := rfl
  go_enter Try.func74, Try.ntmps74
  go_wp2_with (fail)
  refine (align_any w (by omega) T0.out).mono ?_
  rintro e w1 ⟨rfl, q1, h1, h2, h3⟩
  obtain ⟨q1', h4⟩ := (Pw.start T0.out).put (p := (0, (8 - m % 8) % 8)) ⟨q1, by simpa [numOf, totOf] using h1, h2, h3⟩
  have W1 : Hd (Pw w w1 gw q q1' N m [(0, (8 - m % 8) % 8)]) := ⟨h4⟩
  clear h1 h2 h3 h4
  have t1 : totOf [(0, (8 - m % 8) % 8)] = (8 - m % 8) % 8 := rfl
  go_wp2_with (fail)
  refine (wput (nd : Int) 16 nd rfl (by have : (2 : Nat) ^ (16 : Int).toNat = 65536 := rfl; omega) (by omega) (by omega) W1.out.tl (by have : (16 : Int).toNat = 16 := rfl; omega)).mono ?_
  rintro r w2 ⟨rfl, hpl⟩
  obtain ⟨q2, h2⟩ := W1.out.put hpl
  have W2 : Hd (Pw w w2 gw q q2 N m ([(0, (8 - m % 8) % 8)] ++ [(nd, 16)])) := ⟨h2⟩
  clear hpl h2 W1
  have t2 : totOf ([(0, (8 - m % 8) % 8)] ++ [(nd, 16)]) = (8 - m % 8) % 8 + 16 := rfl
  go_wp2_with (fail)
  refine (wput ((65535 - nd : Nat) : Int) 16 (65535 - nd) rfl (by have : (2 : Nat) ^ (16 : Int).toNat = 65536 := rfl; omega) (by omega) (by omega) W2.out.tl (by have : (16 : Int).toNat = 16 := rfl; omega)).mono ?_
  rintro r w3 ⟨rfl, hpl⟩
  obtain ⟨q3, h3⟩ := W2.out.put hpl
  have W3 : Hd (Pw w w3 gw q q3 N m [(0, (8 - m % 8) % 8), (nd, 16), (65535 - nd, 16)]) := ⟨h3⟩
  clear hpl h3 W2
  have t3 : totOf [(0, (8 - m % 8) % 8), (nd, 16), (65535 - nd, 16)] = (8 - m % 8) % 8 + 32 := rfl
  have hal : (8 - (m + totOf [(0, (8 - m % 8) % 8), (nd, 16), (65535 - nd, 16)]) % 8) % 8 = 0 := by rw [t3]; omega
  go_wp2_with (fail)
  have hwh := whole_any (g := gw) (T := 91) (q := q3) w3 D cd data pd HB.out (HD.out.frame W3.out.fr (fun k hk => (HP.out k hk).1)) HN.out (fun k hk hm' => (HP.out k hk).1 (W3.out.mem (HP.out k hk).2 hm')) (by rw [t3, ← HND.out]; omega) W3.out.tl
  rw [← HND.out] at hwh
  refine hwh.mono ?_
  rintro r w4 ⟨rfl, q4, h1, h2, h3⟩
  rw [hal, Nat.add_zero] at h1
  have W4 : Hd (Pw w3 w4 gw q3 q4 (N + numOf [(0, (8 - m % 8) % 8), (nd, 16), (65535 - nd, 16)] * 2 ^ m) (m + totOf [(0, (8 - m % 8) % 8), (nd, 16), (65535 - nd, 16)]) (bytesP data)) := ⟨⟨by rw [bytesP_num, bytesP_tot, ← HND.out]; exact h1, h2, h3⟩⟩
  have W5 := Hd.mk (W3.out.more W4.out)
  clear h1 h2 h3 W3 W4 hwh
  go_wp2
  go_ret
  exact ⟨rfl, q4, by rw [HS.out]; exact W5.out⟩
end Go.Proofs.Ytkdgfioigkijgaa.Blk
/- Chapter 09: Write, of any kind. Conditions: at most 2^40 tokens, the writer has fewer than 2^49 bits. -/
set_option linter.unusedVariables false
set_option linter.unusedSimpArgs false
set_option maxRecDepth 100000
namespace Go.Proofs.Ytkdgfioigkijgaa.Blk
open Go.RowKit Go.Proofs.Ytkdgfioigkijgaa.Lib Go.Proofs.Ytkdgfioigkijgaa.Ints Go.Proofs.Ytkdgfioigkijgaa.Lz Go.Proofs.Ytkdgfioigkijgaa.Num Go.Proofs.Ytkdgfioigkijgaa.Bits
theorem own_end (l : List Tok) : Code.bitsOf (ownLit l) 256 ≠ 0 := by
  have h := (Head.okH_parts (own_okH l)).2.2.2.2.2
  have h2 := lens15_get (check15 (ownLit_check l)) 256
  unfold Code.bitsOf
  rw [if_pos ⟨by decide, by rw [ownLit_len]; decide⟩]
  have e : (256 : Int).toNat = 256 := rfl
  rw [e]
  omega
def ownP (l : List Tok) : List (Nat × Nat) := Head.headP (ownLit l) (ownDist l) ++ bodyP (ownLit l) (ownDist l) l
theorem headP_tot (l : List Tok) : totOf (Head.headP (ownLit l) (ownDist l)) ≤ 14 + 57 + 22 * 316 := by
  obtain ⟨_, r2, _⟩ := Head.hruns_ok (own_okH l)
  have h1 := Head.runsP_tot (Head.hlens_check (rs := Head.hruns (ownLit l) (ownDist l)) (by omega)) (Head.hruns (ownLit l) (ownDist l))
  have h2 := Head.toldN_le (Head.hlens (Head.hruns (ownLit l) (ownDist l))) 19
  have h3 := Head.ordP_tot (Head.hlens (Head.hruns (ownLit l) (ownDist l))) (Head.toldN (Head.hlens (Head.hruns (ownLit l) (ownDist l))) 19) (by omega)
  unfold Head.headP
  rw [totOf_app, totOf_app, h3]
  simp only [totOf]
  omega
set_option maxHeartbeats 4000000 in
theorem ownWrite_any (w : World) (D : Option Addr) (nd cd : Nat) (A : Option Addr) (n c : Nat) (l : List Tok) (p : Option Nat) (hn : l.length = n) (hS : Sl w A (tcells l) p) (hb : n ≤ 65536) (hmay : mayB l = 0) (hl : LitB l)
    (gw N m : Nat) (q : Option Nat) (hT : Tl w gw 91 N m q) (hp : ∀ k, p = some k → k ∉ gw :: q.toList ∧ k < w.heap.size) (hm : m ≤ 562949953412000) :
    Calls Try.prog 78 #[.pointer (some ⟨gw, 0, none⟩), .slice D nd cd, .slice A n c] w fun e w' => e = .returned (.int .i64 0) ∧ ∃ q', Pw w w' gw q q' N m (ownP l) := by
  have HS := Hd.mk hS
  have HR := Hd.mk (And.intro (mayB_zero hmay).2 hl)
  have HMAY := Hd.mk hmay
  have HP := Hd.mk hp
  have T0 := Hd.mk hT
  clear hS hl hp hT hmay
  go_enter Try.func78, Try.ntmps78
  go_wp2_with (fail)
  refine (ownLens_any w A n c l p hn HS.out (by omega) HR.out.2).mono ?_
  rintro r w1 hp
  unfold OwnPost at hp
  obtain ⟨A1, c1, B1, d1, rfl, h1, h2, _, _, h3⟩ := hp.1 HMAY.out
  have O1 := Hd.mk h1
  have O2 := Hd.mk h2
  have F1 := Hd.mk h3
  have T1 := Hd.mk (T0.out.frame h3 (by simp) (by simp))
  clear h1 h2 h3 hp
  go_wp2_with (fail)
  refine (Head.hwrite_any w1 A1 B1 286 c1 30 d1 (ownLit l) (ownDist l) _ _ (slArg_own O1.out) (slArg_own O2.out) 0 (by rw [own_okH]; rfl) gw N m q T1.out (by omega)).mono ?_
  rintro r w2 ⟨rfl, hw⟩
  unfold Head.WrP at hw
  obtain ⟨q2, h2⟩ := hw.1 (own_okH l)
  have P2 := Hd.mk (own_keep T1.out h2.fr O1.out (by decide) (by decide))
  have P3 := Hd.mk (own_keep T1.out h2.fr O2.out (by decide) (by decide))
  have W2 := Hd.mk (Pw.after F1.out h2)
  have ht := headP_tot l
  clear hw h2 O1 O2 T1
  go_wp2_with (fail)
  refine (lay_any w2 A1 B1 286 c1 30 d1 (ownLit l) (ownDist l) _ _ (slArg_own P2.out) (slArg_own P3.out) (ownLit_check l) (ownDist_check l) A n c l p hn (HS.out.frame W2.out.fr (fun k hk => (HP.out k hk).1)) hb HR.out.1 HR.out.2 gw _ _ q2 W2.out.tl (fun k hk hm' => (HP.out k hk).1 (W2.out.mem (HP.out k hk).2 hm')) (by omega) 0 (by rw [if_neg (own_end l)])).mono ?_
  rintro r w3 ⟨rfl, q3, h3⟩
  have W3 := Hd.mk (W2.out.more h3)
  clear h3
  go_wp2
  go_ret
  exact ⟨rfl, q3, W3.out⟩
/-- the parts of a block of a kind, behind m bits -/
def kindP (k m : Nat) (data : List Int) (l : List Tok) : List (Nat × Nat) :=
  if k = 0 then storedP m data else if k = 1 then bodyP plainLit plainDist l else ownP l
def blockP (k m : Nat) (b : Bool) (data : List Int) (l : List Tok) : List (Nat × Nat) := [(lastN b, 1), (k, 2)] ++ kindP k (m + 3) data l
/-- what Write answers -/
def wrErr (k : Int) (nd : Nat) (l : List Tok) : Int :=
  if k < 0 ∨ 2 < k then 1 else if mayB l ≠ 0 then mayB l else if k = 0 ∧ 65535 < Lz.sizeOf l then 90 else if nd ≠ Lz.sizeOf l then 1 else 0
set_option maxHeartbeats 16000000 in
theorem write3_any (w : World) (k : Nat) (hk : k < 3) (b : Bool) (D : Option Addr) (cd : Nat) (data : List Int) (pd : Option Nat) (hD : Sl w D (u8s data) pd) (hDn : D = none → data.length = 0 ∧ cd = 0) (hby : ∀ x ∈ data, 0 ≤ x ∧ x ≤ 255) (hnd : data.length ≤ 4611686018427387904)
    (A : Option Addr) (n c : Nat) (l : List Tok) (p : Option Nat) (hn : l.length = n) (hS : Sl w A (tcells l) p) (hb : n ≤ 1099511627776) (hl : LitB l)
    (gw N m : Nat) (q : Option Nat) (hT : Tl w gw 91 N m q) (hp : ∀ k, p = some k → k ∉ gw :: q.toList ∧ k < w.heap.size) (hpd : ∀ k, pd = some k → k ∉ gw :: q.toList ∧ k < w.heap.size) (hm : m ≤ 562949953410000) (er : Int) (he : er = wrErr k data.length l) :
    Calls Try.prog 37 #[.pointer (some ⟨gw, 0, none⟩), .int .i64 (k : Nat), .bool b, .slice D data.length cd, .slice A n c] w fun e w' => e = .returned (.int .i64 er) ∧ WrPost w w' gw N m q er (blockP k m b data l) := by
  have HS := Hd.mk hS
  have HL := Hd.mk hl
  have HP := Hd.mk hp
  have HD := Hd.mk hD
  have HDN := Hd.mk hDn
  have HBY := Hd.mk hby
  have HPD := Hd.mk hpd
  have T0 := Hd.mk hT
  have HE : Hd (er = if mayB l ≠ 0 then mayB l else if k = 0 ∧ 65535 < Lz.sizeOf l then 90 else if data.length ≠ Lz.sizeOf l then 1 else 0) := ⟨by rw [he]; unfold wrErr; rw [if_neg (by omega)]; simp only [show (((k : Int) = 0 ∧ 65535 < Lz.sizeOf l) ↔ (k = 0 ∧ 65535 < Lz.sizeOf l)) from by omega]⟩
  clear hS hl hp hT he hD hDn hby hpd
  obtain ⟨nd, hnd'⟩ : ∃ nd, nd = data.length := ⟨_, rfl⟩
  rw [← hnd'] at hnd HE ⊢
  have HND := Hd.mk hnd'
  clear hnd'
  obtain ⟨bh, hbh⟩ : ∃ bh, bh = m % 8 := ⟨_, rfl⟩
  have hk8 : (m : Int) % 8 = (bh : Int) := by omega
  have hk7 : bh ≤ 7 := by omega
  clear hbh
  obtain ⟨e, he⟩ : ∃ e, e = mayB l := ⟨_, rfl⟩
  rw [← he] at HE
  have HM := Hd.mk he
  have HCK : Hd (65535 < Lz.sizeOf l → mayB l = 0 → (costK 0 (bh : Int) l) = (0, 90)) := ⟨fun h _ => by unfold costK; rw [if_pos rfl, if_pos h]⟩
  have HC2 : Hd (¬ (k = 0 ∧ 65535 < Lz.sizeOf l) → (costK k (bh : Int) l).2 = 0) := ⟨fun h => by
    unfold costK
    by_cases h0 : k = 0
    · rw [if_pos h0, if_neg (fun h' => h ⟨h0, h'⟩)]
    · rw [if_neg h0]; split <;> rfl⟩
  obtain ⟨cm, hcm⟩ : ∃ cm, cm = if e = 0 then costK k (bh : Int) l else (0, e) := ⟨_, rfl⟩
  have HCM := Hd.mk hcm
  clear hcm he
  go_enter Try.func37, Try.ntmps37
  go_wp2_with (fail)
  refine (len_any _ T0.out).mono ?_
  rintro r w' ⟨rfl, rfl⟩
  go_wp2_with (fail)
  refine (cost3_any w k hk (bh : Int) (by omega) (by omega) A n c l p hn HS.out (Nat.le_trans hb (by decide)) HL.out cm.1 cm.2 (by
    rw [HCM.out, HM.out]
    split
    · exact ⟨rfl, rfl⟩
    · exact ⟨rfl, rfl⟩)).mono ?_
  rintro r w1 ⟨rfl, h1⟩
  have F1 := Hd.mk h1
  have T1 := Hd.mk (T0.out.frame h1 (by simp) (by simp))
  clear h1
  obtain ⟨cm1, cm2⟩ := cm
  by_cases h : e = 0
  · subst h
    have HE2 : Hd (er = if k = 0 ∧ 65535 < Lz.sizeOf l then 90 else if nd ≠ Lz.sizeOf l then 1 else 0) := ⟨by rw [HE.out, if_neg (by simp)]⟩
    have hz := mayB_zero HM.out.symm
    have HZ := Hd.mk hz.2
    have hz1 := hz.1
    clear hz
    by_cases hbig : k = 0 ∧ 65535 < Lz.sizeOf l
    · obtain ⟨rfl, hb2⟩ := hbig
      have e1 : ((cm1, cm2) : Int × Int) = (0, 90) := by rw [HCM.out, if_pos rfl]; exact HCK.out hb2 HM.out.symm
      injection e1 with e1 e2
      subst e1 e2
      obtain rfl : er = 90 := by rw [HE2.out, if_pos ⟨rfl, hb2⟩]
      go_wp2
      go_ret
      exact ⟨rfl, (fun h => by cases h), fun _ => F1.out⟩
    · have HE3 : Hd (er = if nd ≠ Lz.sizeOf l then 1 else 0) := ⟨by rw [HE2.out, if_neg hbig]⟩
      obtain rfl : cm2 = 0 := by
        have := HC2.out hbig
        rw [← show ((cm1, cm2) : Int × Int) = costK k (bh : Int) l from by rw [HCM.out, if_pos rfl]] at this
        exact this
      have HBIG := Hd.mk hbig
      clear hbig
      go_wp2_with (fail)
      refine (size_any w1 A n c l p hn (HS.out.frame F1.out (by simp)) hb).mono ?_
      rintro r w2 ⟨rfl, h2⟩
      have F2 := Hd.mk (F1.out.trans h2 (by simp))
      have T2 := Hd.mk (T1.out.frame h2 (by simp) (by simp))
      clear h2 T1
      have hsz := Lz.sizeOf_le l
      obtain ⟨s, hs⟩ : ∃ s, s = Lz.sizeOf l := ⟨_, rfl⟩
      rw [← hs] at HE3 hsz HBIG ⊢
      clear hs
      by_cases hns : nd = s
      · subst hns
        obtain rfl : er = 0 := by rw [HE3.out, if_neg (by simp)]
        have hne : ((nd : Int) != (nd : Int)) = false := by simp
        clear HE HE2 HE3 HCM HC2 HCK
        have hc : k = 0 ∨ k = 1 ∨ k = 2 := by omega
        rcases hc with rfl | rfl | rfl
        · have hi : ∀ W : World, (Instr.index 139 (.agg waysC) (.int .i64 ((0 : Nat) : Int))).run Try.prog W = _ := ways0
          have hnd6 : nd ≤ 65535 := by have := HBIG.out; omega
          have hi2 := ways0
          have hf := way0w
          cases b with
          | false =>
            have HBP : Hd (blockP 0 m false data l = [(0, 1), (0, 2)] ++ kindP 0 (m + 3) data l) := ⟨rfl⟩
            go_wp2_with (fail)
            refine (wput 0 1 0 rfl (by decide) (by omega) (by omega) T2.out (by have : (1 : Int).toNat = 1 := rfl; omega)).mono ?_
            rintro r w3 ⟨rfl, hpl⟩
            obtain ⟨q3, h3⟩ := (Pw.start T2.out).put (by simpa [numOf, totOf] using hpl)
            have W3 : Hd (Pw w2 w3 gw q q3 N m [(0, 1)]) := ⟨h3⟩
            clear hpl h3
            go_wp2_with (fail)
            refine (wput 0 2 0 rfl (by decide) (by omega) (by omega) W3.out.tl (by have : (2 : Int).toNat = 2 := rfl; have : totOf [(0, 1)] = 1 := rfl; omega)).mono ?_
            rintro r w4 ⟨rfl, hpl⟩
            obtain ⟨q4, h4⟩ := W3.out.put hpl
            have W4 : Hd (Pw w2 w4 gw q q4 N m [(0, 1), (0, 2)]) := ⟨h4⟩
            have t4 : totOf [(0, 1), (0, 2)] = 3 := rfl
            clear hpl h4
            go_wp2_with (fail)
            refine (ways_any w4).mono ?_
            rintro r w5 ⟨rfl, h5⟩
            have W5 := Hd.mk (Pw.after F2.out (W4.out.call h5))
            clear h5 W4
            go_wp2_with (fail)
            have hcall := storedWrite_any w5 D cd data pd (HD.out.frame W5.out.fr (fun k hk => (HPD.out k hk).1)) HDN.out HBY.out (by have := HND.out; omega) A n c gw _ _ q4 W5.out.tl (fun k hk => ⟨fun hm => (HPD.out k hk).1 (W5.out.mem (HPD.out k hk).2 hm), Nat.lt_of_lt_of_le (HPD.out k hk).2 W5.out.fr.size⟩) (by rw [t4]; omega)
            rw [← HND.out] at hcall
            refine hcall.mono ?_
            rintro r w6 ⟨rfl, q6, h6⟩
            have W6 := Hd.mk (W5.out.more h6)
            clear h6 hcall
            go_wp2
            go_ret
            exact ⟨rfl, (fun _ => ⟨q6, by rw [HBP.out]; exact W6.out⟩), fun h => absurd rfl h⟩
          | true =>
            have HBP : Hd (blockP 0 m true data l = [(1, 1), (0, 2)] ++ kindP 0 (m + 3) data l) := ⟨rfl⟩
            go_wp2_with (fail)
            refine (wput 1 1 1 rfl (by decide) (by omega) (by omega) T2.out (by have : (1 : Int).toNat = 1 := rfl; omega)).mono ?_
            rintro r w3 ⟨rfl, hpl⟩
            obtain ⟨q3, h3⟩ := (Pw.start T2.out).put (by simpa [numOf, totOf] using hpl)
            have W3 : Hd (Pw w2 w3 gw q q3 N m [(1, 1)]) := ⟨h3⟩
            clear hpl h3
            go_wp2_with (fail)
            refine (wput 0 2 0 rfl (by decide) (by omega) (by omega) W3.out.tl (by have : (2 : Int).toNat = 2 := rfl; have : totOf [(1, 1)] = 1 := rfl; omega)).mono ?_
            rintro r w4 ⟨rfl, hpl⟩
            obtain ⟨q4, h4⟩ := W3.out.put hpl
            have W4 : Hd (Pw w2 w4 gw q q4 N m [(1, 1), (0, 2)]) := ⟨h4⟩
            have t4 : totOf [(1, 1), (0, 2)] = 3 := rfl
            clear hpl h4
            go_wp2_with (fail)
            refine (ways_any w4).mono ?_
            rintro r w5 ⟨rfl, h5⟩
            have W5 := Hd.mk (Pw.after F2.out (W4.out.call h5))
            clear h5 W4
            go_wp2_with (fail)
            have hcall := storedWrite_any w5 D cd data pd (HD.out.frame W5.out.fr (fun k hk => (HPD.out k hk).1)) HDN.out HBY.out (by have := HND.out; omega) A n c gw _ _ q4 W5.out.tl (fun k hk => ⟨fun hm => (HPD.out k hk).1 (W5.out.mem (HPD.out k hk).2 hm), Nat.lt_of_lt_of_le (HPD.out k hk).2 W5.out.fr.size⟩) (by rw [t4]; omega)
            rw [← HND.out] at hcall
            refine hcall.mono ?_
            rintro r w6 ⟨rfl, q6, h6⟩
            have W6 := Hd.mk (W5.out.more h6)
            clear h6 hcall
            go_wp2
            go_ret
            exact ⟨rfl, (fun _ => ⟨q6, by rw [HBP.out]; exact W6.out⟩), fun h => absurd rfl h⟩
        · have hi : ∀ W : World, (Instr.index 139 (.agg waysC) (.int .i64 ((1 : Nat) : Int))).run Try.prog W = _ := ways1
          have hi2 := ways1
          have hf := way1w
          cases b with
          | false =>
            have HBP : Hd (blockP 1 m false data l = [(0, 1), (1, 2)] ++ kindP 1 (m + 3) data l) := ⟨rfl⟩
            go_wp2_with (fail)
            refine (wput 0 1 0 rfl (by decide) (by omega) (by omega) T2.out (by have : (1 : Int).toNat = 1 := rfl; omega)).mono ?_
            rintro r w3 ⟨rfl, hpl⟩
            obtain ⟨q3, h3⟩ := (Pw.start T2.out).put (by simpa [numOf, totOf] using hpl)
            have W3 : Hd (Pw w2 w3 gw q q3 N m [(0, 1)]) := ⟨h3⟩
            clear hpl h3
            go_wp2_with (fail)
            refine (wput 1 2 1 rfl (by decide) (by omega) (by omega) W3.out.tl (by have : (2 : Int).toNat = 2 := rfl; have : totOf [(0, 1)] = 1 := rfl; omega)).mono ?_
            rintro r w4 ⟨rfl, hpl⟩
            obtain ⟨q4, h4⟩ := W3.out.put hpl
            have W4 : Hd (Pw w2 w4 gw q q4 N m [(0, 1), (1, 2)]) := ⟨h4⟩
            have t4 : totOf [(0, 1), (1, 2)] = 3 := rfl
            clear hpl h4
            go_wp2_with (fail)
            refine (ways_any w4).mono ?_
            rintro r w5 ⟨rfl, h5⟩
            have W5 := Hd.mk (Pw.after F2.out (W4.out.call h5))
            clear h5 W4
            go_wp2_with (fail)
            have hcall := plainWrite_any w5 D nd cd A n c l p hn (HS.out.frame W5.out.fr (fun k hk => (HP.out k hk).1)) (by omega) HZ.out HL.out gw _ _ q4 W5.out.tl (fun k hk hm => (HP.out k hk).1 (W5.out.mem (HP.out k hk).2 hm)) (by rw [t4]; omega)
            refine hcall.mono ?_
            rintro r w6 ⟨rfl, q6, h6⟩
            have W6 := Hd.mk (W5.out.more h6)
            clear h6 hcall
            go_wp2
            go_ret
            exact ⟨rfl, (fun _ => ⟨q6, by rw [HBP.out]; exact W6.out⟩), fun h => absurd rfl h⟩
          | true =>
            have HBP : Hd (blockP 1 m true data l = [(1, 1), (1, 2)] ++ kindP 1 (m + 3) data l) := ⟨rfl⟩
            go_wp2_with (fail)
            refine (wput 1 1 1 rfl (by decide) (by omega) (by omega) T2.out (by have : (1 : Int).toNat = 1 := rfl; omega)).mono ?_
            rintro r w3 ⟨rfl, hpl⟩
            obtain ⟨q3, h3⟩ := (Pw.start T2.out).put (by simpa [numOf, totOf] using hpl)
            have W3 : Hd (Pw w2 w3 gw q q3 N m [(1, 1)]) := ⟨h3⟩
            clear hpl h3
            go_wp2_with (fail)
            refine (wput 1 2 1 rfl (by decide) (by omega) (by omega) W3.out.tl (by have : (2 : Int).toNat = 2 := rfl; have : totOf [(1, 1)] = 1 := rfl; omega)).mono ?_
            rintro r w4 ⟨rfl, hpl⟩
            obtain ⟨q4, h4⟩ := W3.out.put hpl
            have W4 : Hd (Pw w2 w4 gw q q4 N m [(1, 1), (1, 2)]) := ⟨h4⟩
            have t4 : totOf [(1, 1), (1, 2)] = 3 := rfl
            clear hpl h4
            go_wp2_with (fail)
            refine (ways_any w4).mono ?_
            rintro r w5 ⟨rfl, h5⟩
            have W5 := Hd.mk (Pw.after F2.out (W4.out.call h5))
            clear h5 W4
            go_wp2_with (fail)
            have hcall := plainWrite_any w5 D nd cd A n c l p hn (HS.out.frame W5.out.fr (fun k hk => (HP.out k hk).1)) (by omega) HZ.out HL.out gw _ _ q4 W5.out.tl (fun k hk hm => (HP.out k hk).1 (W5.out.mem (HP.out k hk).2 hm)) (by rw [t4]; omega)
            refine hcall.mono ?_
            rintro r w6 ⟨rfl, q6, h6⟩
            have W6 := Hd.mk (W5.out.more h6)
            clear h6 hcall
            go_wp2
            go_ret
            exact ⟨rfl, (fun _ => ⟨q6, by rw [HBP.out]; exact W6.out⟩), fun h => absurd rfl h⟩
        · have hi : ∀ W : World, (Instr.index 139 (.agg waysC) (.int .i64 ((2 : Nat) : Int))).run Try.prog W = _ := ways2
          have hi2 := ways2
          have hf := way2w
          cases b with
          | false =>
            have HBP : Hd (blockP 2 m false data l = [(0, 1), (2, 2)] ++ kindP 2 (m + 3) data l) := ⟨rfl⟩
            go_wp2_with (fail)
            refine (wput 0 1 0 rfl (by decide) (by omega) (by omega) T2.out (by have : (1 : Int).toNat = 1 := rfl; omega)).mono ?_
            rintro r w3 ⟨rfl, hpl⟩
            obtain ⟨q3, h3⟩ := (Pw.start T2.out).put (by simpa [numOf, totOf] using hpl)
            have W3 : Hd (Pw w2 w3 gw q q3 N m [(0, 1)]) := ⟨h3⟩
            clear hpl h3
            go_wp2_with (fail)
            refine (wput 2 2 2 rfl (by decide) (by omega) (by omega) W3.out.tl (by have : (2 : Int).toNat = 2 := rfl; have : totOf [(0, 1)] = 1 := rfl; omega)).mono ?_
            rintro r w4 ⟨rfl, hpl⟩
            obtain ⟨q4, h4⟩ := W3.out.put hpl
            have W4 : Hd (Pw w2 w4 gw q q4 N m [(0, 1), (2, 2)]) := ⟨h4⟩
            have t4 : totOf [(0, 1), (2, 2)] = 3 := rfl
            clear hpl h4
            go_wp2_with (fail)
            refine (ways_any w4).mono ?_
            rintro r w5 ⟨rfl, h5⟩
            have W5 := Hd.mk (Pw.after F2.out (W4.out.call h5))
            clear h5 W4
            go_wp2_with (fail)
            have hcall := ownWrite_any w5 D nd cd A n c l p hn (HS.out.frame W5.out.fr (fun k hk => (HP.out k hk).1)) (by omega) HM.out.symm HL.out gw _ _ q4 W5.out.tl (fun k hk => ⟨fun hm => (HP.out k hk).1 (W5.out.mem (HP.out k hk).2 hm), Nat.lt_of_lt_of_le (HP.out k hk).2 W5.out.fr.size⟩) (by rw [t4]; omega)
            refine hcall.mono ?_
            rintro r w6 ⟨rfl, q6, h6⟩
            have W6 := Hd.mk (W5.out.more h6)
            clear h6 hcall
            go_wp2
            go_ret
            exact ⟨rfl, (fun _ => ⟨q6, by rw [HBP.out]; exact W6.out⟩), fun h => absurd rfl h⟩
          | true =>
            have HBP : Hd (blockP 2 m true data l = [(1, 1), (2, 2)] ++ kindP 2 (m + 3) data l) := ⟨rfl⟩
            go_wp2_with (fail)
            refine (wput 1 1 1 rfl (by decide) (by omega) (by omega) T2.out (by have : (1 : Int).toNat = 1 := rfl; omega)).mono ?_
            rintro r w3 ⟨rfl, hpl⟩
            obtain ⟨q3, h3⟩ := (Pw.start T2.out).put (by simpa [numOf, totOf] using hpl)
            have W3 : Hd (Pw w2 w3 gw q q3 N m [(1, 1)]) := ⟨h3⟩
            clear hpl h3
            go_wp2_with (fail)
            refine (wput 2 2 2 rfl (by decide) (by omega) (by omega) W3.out.tl (by have : (2 : Int).toNat = 2 := rfl; have : totOf [(1, 1)] = 1 := rfl; omega)).mono ?_
            rintro r w4 ⟨rfl, hpl⟩
            obtain ⟨q4, h4⟩ := W3.out.put hpl
            have W4 : Hd (Pw w2 w4 gw q q4 N m [(1, 1), (2, 2)]) := ⟨h4⟩
            have t4 : totOf [(1, 1), (2, 2)] = 3 := rfl
            clear hpl h4
            go_wp2_with (fail)
            refine (ways_any w4).mono ?_
            rintro r w5 ⟨rfl, h5⟩
            have W5 := Hd.mk (Pw.after F2.out (W4.out.call h5))
            clear h5 W4
            go_wp2_with (fail)
            have hcall := ownWrite_any w5 D nd cd A n c l p hn (HS.out.frame W5.out.fr (fun k hk => (HP.out k hk).1)) (by omega) HM.out.symm HL.out gw _ _ q4 W5.out.tl (fun k hk => ⟨fun hm => (HP.out k hk).1 (W5.out.mem (HP.out k hk).2 hm), Nat.lt_of_lt_of_le (HP.out k hk).2 W5.out.fr.size⟩) (by rw [t4]; omega)
            refine hcall.mono ?_
            rintro r w6 ⟨rfl, q6, h6⟩
            have W6 := Hd.mk (W5.out.more h6)
            clear h6 hcall
            go_wp2
            go_ret
            exact ⟨rfl, (fun _ => ⟨q6, by rw [HBP.out]; exact W6.out⟩), fun h => absurd rfl h⟩
      · obtain rfl : er = 1 := by rw [HE3.out, if_pos hns]
        have hne : ((nd : Int) != (s : Int)) = true := by simp; omega
        clear HE HE2 HE3 HCM HC2 HCK
        go_wp2
        go_ret
        exact ⟨rfl, (fun h => by cases h), fun _ => F2.out⟩
  · have hne : (e != 0) = true := by simpa using h
    have e1 : ((cm1, cm2) : Int × Int) = (0, e) := by rw [HCM.out, if_neg h]
    injection e1 with e1 e2
    subst e1 e2
    obtain rfl : er = cm2 := by rw [HE.out, if_pos h]
    go_wp2
    go_ret
    exact ⟨rfl, (fun h' => absurd h' h), fun _ => F1.out⟩
end Go.Proofs.Ytkdgfioigkijgaa.Blk
/- Chapter 09, plain: what is written takes what it costs. No condition. -/
set_option linter.unusedVariables false
set_option linter.unusedSimpArgs false
set_option maxRecDepth 100000
namespace Go.Proofs.Ytkdgfioigkijgaa.Blk
open Go.RowKit Go.Proofs.Ytkdgfioigkijgaa.Lib Go.Proofs.Ytkdgfioigkijgaa.Ints Go.Proofs.Ytkdgfioigkijgaa.Lz Go.Proofs.Ytkdgfioigkijgaa.Num Go.Proofs.Ytkdgfioigkijgaa.Bits
theorem part_bits {lens : List Int} (h15 : Lens15 lens) {s : Int} (h0 : 0 ≤ s) (h1 : s < (lens.length : Nat)) : (((Code.part lens s).2 : Nat) : Int) = lens.getD s.toNat 0 := by
  have h2 := lens15_get h15 s.toNat
  unfold Code.part Code.bitsOf
  simp only
  rw [if_pos ⟨h0, h1⟩]
  omega
theorem tokP_bits {lit dist : List Int} (ha : Lens15 lit) (hb : Lens15 dist) (hx : 286 ≤ lit.length) (hy : 30 ≤ dist.length) {t : Tok} (hr : right t = true) (hl : 0 ≤ t.lit ∧ t.lit ≤ 255) : (totOf (tokP lit dist t) : Int) = tkBits lit dist t := by
  have sa := (sgA_fit hr hl).1
  have sb := sgB_fit hr
  have pa := part_bits ha sa.sym.1 (by have := sa.sym.2; omega)
  have pb := part_bits hb sb.sym.1 (by have := sb.sym.2; omega)
  have ba := sa.bits
  have bb := sb.bits
  unfold tokP tkBits
  split
  · simp only [List.append_nil, totOf]
    omega
  · simp only [List.cons_append, List.nil_append, totOf]
    omega
theorem toksP_bits {lit dist : List Int} (ha : Lens15 lit) (hb : Lens15 dist) (hx : 286 ≤ lit.length) (hy : 30 ≤ dist.length) : ∀ (l : List Tok), (∀ t ∈ l, right t = true) → LitB l → (totOf (toksP lit dist l) : Int) = codedF lit dist l
  | [], _, _ => rfl
  | t :: l, hr, hl => by
    have h1 := tokP_bits ha hb hx hy (hr t (by simp)) (hl t (by simp))
    have h2 := toksP_bits ha hb hx hy l (fun u hu => hr u (by simp [hu])) (fun u hu => hl u (by simp [hu]))
    have e : toksP lit dist (t :: l) = tokP lit dist t ++ toksP lit dist l := by simp [toksP]
    rw [e, totOf_app, codedF]
    omega
theorem bodyP_bits {lit dist : List Int} (ha : Lens15 lit) (hb : Lens15 dist) (hx : 286 ≤ lit.length) (hy : 30 ≤ dist.length) {l : List Tok} (hr : ∀ t ∈ l, right t = true) (hl : LitB l) : (totOf (bodyP lit dist l) : Int) = codedN lit dist l := by
  have h1 := toksP_bits ha hb hx hy l hr hl
  have h2 := part_bits ha (s := 256) (by decide) (by omega)
  rw [show (256 : Int).toNat = 256 from rfl] at h2
  unfold bodyP codedN
  rw [totOf_snoc2]
  omega
theorem headP_bits {lit dist : List Int} (h : Head.okH lit dist = true) : (totOf (Head.headP lit dist) : Int) = Head.hcost lit dist := by
  obtain ⟨r1, r2, _⟩ := Head.hruns_ok h
  have hck := Head.hlens_check (rs := Head.hruns lit dist) (by omega)
  have h19 := Head.hlens_len (rs := Head.hruns lit dist) (by omega)
  have h2 := Head.toldN_le (Head.hlens (Head.hruns lit dist)) 19
  have h3 := Head.ordP_tot (Head.hlens (Head.hruns lit dist)) (Head.toldN (Head.hlens (Head.hruns lit dist)) 19) (by omega)
  have h4 : ∀ rs : List (Int × Int), (∀ r ∈ rs, Head.RunB r) → (totOf (Head.runsP (Head.hlens (Head.hruns lit dist)) rs) : Int) = Head.costF (Head.hlens (Head.hruns lit dist)) rs := by
    intro rs
    induction rs with
    | nil => intro _; rfl
    | cons r rs ih =>
      intro hr
      have i1 := ih (fun u hu => hr u (by simp [hu]))
      obtain ⟨b1, b2, _⟩ := hr r (by simp)
      have pb := part_bits (check15 hck) b1 (by rw [h19]; omega)
      have kb := Head.kbits_le r.1
      have e : Head.runsP (Head.hlens (Head.hruns lit dist)) (r :: rs) = Head.runP (Head.hlens (Head.hruns lit dist)) r ++ Head.runsP (Head.hlens (Head.hruns lit dist)) rs := by simp [Head.runsP]
      rw [e, totOf_app, Head.costF, Head.runCost]
      simp only [Head.runP, totOf]
      omega
  have h5 := h4 _ r1
  unfold Head.headP Head.hcost
  rw [totOf_app, totOf_app, h3]
  simp only [totOf]
  omega
/-- what is written takes what it costs -/
theorem blockP_bits {k m : Nat} {b : Bool} {data : List Int} {l : List Tok} (hk : k < 3) (hmay : mayB l = 0) (hl : LitB l) (hd : data.length = Lz.sizeOf l) (he : (costK k ((m % 8 : Nat) : Int) l).2 = 0) : (totOf (blockP k m b data l) : Int) = (costK k ((m % 8 : Nat) : Int) l).1 := by
  obtain ⟨_, hr⟩ := mayB_zero hmay
  have e : totOf (blockP k m b data l) = 3 + totOf (kindP k (m + 3) data l) := by unfold blockP; rw [totOf_app]; rfl
  rw [e]
  unfold kindP
  by_cases h0 : k = 0
  · subst h0
    unfold costK at he ⊢
    rw [if_pos rfl] at he ⊢
    by_cases hb : 65535 < Lz.sizeOf l
    · rw [if_pos hb] at he; cases he
    · rw [if_pos rfl, if_neg hb]
      unfold storedP
      rw [totOf_app, bytesP_tot, hd]
      simp only [totOf]
      omega
  · rw [if_neg h0]
    unfold costK
    rw [if_neg h0]
    by_cases h1 : k = 1
    · rw [if_pos h1, if_pos h1]
      have := bodyP_bits plainLit15 plainDist15 (by rw [show plainLit.length = 288 from fill_len _ _ _]; decide) (by rw [show plainDist.length = 32 from fill_len _ _ _]; decide) hr hl
      simp only
      omega
    · rw [if_neg h1, if_neg h1]
      have a := bodyP_bits (check15 (ownLit_check l)) (check15 (ownDist_check l)) (by rw [ownLit_len]; decide) (by rw [ownDist_len]; decide) hr hl
      have c := headP_bits (own_okH l)
      unfold ownP
      rw [totOf_app]
      simp only
      omega
/-- the kind that is picked costs no more -/
theorem pickF_best {bh : Int} (h0 : 0 ≤ bh) (h7 : bh ≤ 7) {l : List Tok} (h : mayB l = 0) (hl : LitB l) : ∀ k, k ≤ 3 → (∀ j, j < k → (costK j bh l).2 = 0 → 0 ≤ (pickF bh l k).2 ∧ (pickF bh l k).2 ≤ (costK j bh l).1) ∧ (0 ≤ (pickF bh l k).2 → ∃ j : Nat, j < k ∧ (pickF bh l k).1 = (j : Int) ∧ (costK j bh l).2 = 0 ∧ (pickF bh l k).2 = (costK j bh l).1)
  | 0, _ => ⟨fun j hj => absurd hj (by omega), fun h => by simp [pickF] at h⟩
  | k + 1, hk => by
    obtain ⟨i1, i2⟩ := pickF_best h0 h7 h hl k (by omega)
    have hc := costK_le h0 h7 h hl k
    rw [pickF]
    by_cases hp : (costK k bh l).2 = 0 ∧ ((pickF bh l k).2 < 0 ∨ (costK k bh l).1 < (pickF bh l k).2)
    · rw [if_pos hp]
      refine ⟨fun j hj he => ?_, fun _ => ⟨k, by omega, rfl, hp.1, rfl⟩⟩
      refine ⟨hc.1, ?_⟩
      by_cases e : j = k
      · subst e; exact Int.le_refl _
      · have := i1 j (by omega) he
        simp only
        omega
    · rw [if_neg hp]
      refine ⟨fun j hj he => ?_, fun hpos => ?_⟩
      · by_cases e : j = k
        · subst e
          have h1 : ¬ ((pickF bh l j).2 < 0 ∨ (costK j bh l).1 < (pickF bh l j).2) := fun h => hp ⟨he, h⟩
          omega
        · exact i1 j (by omega) he
      · obtain ⟨j, a, b, c, d⟩ := i2 hpos
        exact ⟨j, by omega, b, c, d⟩
end Go.Proofs.Ytkdgfioigkijgaa.Blk
