/- Texts of this claim, one behind the other: BlkV, BlkW, BlkX, BlkRm, BlkRl, BlkRp. -/
import Derived.Test.YtkdgfioigkijgaaGreatG01
import Derived.Test.YtkdgfioigkijgaaGreatG02
import Derived.Test.YtkdgfioigkijgaaGreatG03
import Derived.Test.YtkdgfioigkijgaaGreatG04
import Derived.Test.YtkdgfioigkijgaaGreatG05
import Derived.Test.YtkdgfioigkijgaaGreatG06
import Derived.Test.YtkdgfioigkijgaaGreatG07
import Derived.Test.YtkdgfioigkijgaaGreatG08
import Derived.Test.YtkdgfioigkijgaaGreatG09
import Derived.Test.YtkdgfioigkijgaaGreatG10
import Derived.Test.YtkdgfioigkijgaaGreatG11
import Derived.Test.YtkdgfioigkijgaaGreatG12
import Derived.Test.YtkdgfioigkijgaaGreatG13
import Derived.Test.YtkdgfioigkijgaaGreatG14
import Derived.Test.YtkdgfioigkijgaaGreatG15
import Derived.Test.YtkdgfioigkijgaaGreatG17
import Derived.Laws.Bits64
import Derived.Deep.CutRange
import Derived.Deep.Light
/- Chapter 09: Pick. Conditions: at most 2^40 tokens. -/
set_option linter.unusedVariables false
set_option linter.unusedSimpArgs false
set_option maxRecDepth 100000
namespace Go.Proofs.YtkdgfioigkijgaaGreat.Blk
open Go.RowKit Go.Proofs.YtkdgfioigkijgaaGreat.Lib Go.Proofs.YtkdgfioigkijgaaGreat.Ints Go.Proofs.YtkdgfioigkijgaaGreat.Lz
theorem costK_le {bh : Int} (h0 : 0 ≤ bh) (h7 : bh ≤ 7) {l : List Tok} (h : mayB l = 0) (hl : LitB l) (k : Nat) : 0 ≤ (costK k bh l).1 ∧ (costK k bh l).1 ≤ 4503599627370496 ∧ ((costK k bh l).2 = 0 → 3 ≤ (costK k bh l).1) := by
  obtain ⟨h1, hr⟩ := mayB_zero h
  unfold costK
  split
  · split
    · exact ⟨by decide, by decide, fun h => absurd h (by decide)⟩
    · have := Lz.sizeOf_le l
      refine ⟨?_, ?_, fun _ => ?_⟩ <;> simp only <;> omega
  · split
    · have a := codedF_le plainLit15 plainDist15 l hr hl
      have b := lens15_get plainLit15 256
      unfold codedN
      refine ⟨?_, ?_, fun _ => ?_⟩ <;> simp only <;> omega
    · have a := codedF_le (check15 (ownLit_check l)) (check15 (ownDist_check l)) l hr hl
      have b := lens15_get (check15 (ownLit_check l)) 256
      obtain ⟨_, r2, _⟩ := Head.hruns_ok (own_okH l)
      have c := Head.costF_le (Head.hlens_le (rs := Head.hruns (ownLit l) (ownDist l)) (by omega)) (Head.hruns (ownLit l) (ownDist l))
      have d := Head.toldN_le (Head.hlens (Head.hruns (ownLit l) (ownDist l))) 19
      unfold codedN Head.hcost
      refine ⟨?_, ?_, fun _ => ?_⟩ <;> simp only <;> omega
theorem pickF_le {bh : Int} (h0 : 0 ≤ bh) (h7 : bh ≤ 7) {l : List Tok} (h : mayB l = 0) (hl : LitB l) : ∀ k, k ≤ 3 → -1 ≤ (pickF bh l k).2 ∧ (pickF bh l k).2 ≤ 4503599627370496 ∧ 0 ≤ (pickF bh l k).1 ∧ (pickF bh l k).1 ≤ 2
  | 0, _ => by simp [pickF]
  | k + 1, hk => by
    have a := pickF_le h0 h7 h hl k (by omega)
    have b := costK_le h0 h7 h hl k
    rw [pickF]
    split
    · refine ⟨?_, ?_, ?_, ?_⟩ <;> simp only <;> omega
    · exact a
set_option maxHeartbeats 8000000 in
theorem pick_any (w : World) (bh : Int) (h0 : 0 ≤ bh) (h7 : bh ≤ 7) (A : Option Addr) (n c : Nat) (l : List Tok) (p : Option Nat) (hn : l.length = n) (hS : Sl w A (tcells l) p) (hb : n ≤ 6000000000000) (hl : LitB l) (m er : Int) (hm : if mayB l = 0 then m = (pickF bh l 3).1 ∧ er = 0 else m = 0 ∧ er = mayB l) :
    Calls Tryz.prog 28 #[.int .i64 bh, .slice A n c] w fun r w' => r = .returned (.tuple #[.int .i64 m, .int .i64 er]) ∧ Fr w w' [] := by
  have HS := Hd.mk hS
  have HL := Hd.mk hl
  obtain ⟨e, he⟩ : ∃ e, e = mayB l := ⟨_, rfl⟩
  rw [← he] at hm
  have HE := Hd.mk he
  have HM := Hd.mk hm
  clear hS hl hm he
  go_enter Tryz.func28, Tryz.ntmps28
  go_wp2_with (fail)
  refine (may_any w A n c l p hn HS.out (Nat.le_trans hb (by decide)) e HE.out).mono ?_
  rintro r w1 ⟨rfl, h1⟩
  have F1 := Hd.mk h1
  clear h1
  by_cases h : e = 0
  · have hmm : Hd (m = (pickF bh l 3).1 ∧ er = 0) := ⟨by have := HM.out; rw [if_pos h] at this; exact this⟩
    obtain rfl : er = 0 := hmm.out.2
    subst h
    have hz := mayB_zero HE.out.symm
    have HZ := Hd.mk hz.2
    have hz1 := hz.1
    have HCL := fun k => costK_le h0 h7 HE.out.symm HL.out k
    have HPL := fun k hk => pickF_le h0 h7 HE.out.symm HL.out k hk
    have HB := Hd.mk (And.intro HCL HPL)
    clear hz HCL HPL
    go_wp2_with (fail)
    refine (ways_any w1).mono ?_
    rintro r w2 ⟨rfl, h2⟩
    have F2 := Hd.mk (F1.out.trans h2 (by simp))
    clear h2 F1
    go_wp2
    go_loopg [7, 8, 25] 3 (fun kq bv lv jv wr => ∃ (j : Nat) (b s : Int), bv = .int .i64 b ∧ lv = .int .i64 s ∧ jv = .int .i64 (j : Nat) ∧ j + kq = 3 ∧ Hd ((b, s) = pickF bh l j) ∧ Hd (Fr w wr []))
    case atStart => exact ⟨0, 1, -1, rfl, rfl, rfl, by omega, ⟨rfl⟩, F2⟩
    case round =>
      obtain ⟨j, b, s, rfl, rfl, rfl, hj, HP, HF⟩ := hrel
      by_cases hj3 : j < 3
      · have hcl := HB.out.1 j
        have hpl := HB.out.2 j (by omega)
        rw [← HP.out] at hpl
        simp only at hpl
        have HST : Hd (pickF bh l (j + 1) = if (costK j bh l).2 = 0 ∧ (s < 0 ∨ (costK j bh l).1 < s) then ((j : Int), (costK j bh l).1) else (b, s)) := ⟨by rw [pickF, ← HP.out]⟩
        obtain ⟨q1, hq1⟩ : ∃ q, q = (costK j bh l).1 := ⟨_, rfl⟩
        obtain ⟨q2, hq2⟩ : ∃ q, q = (costK j bh l).2 := ⟨_, rfl⟩
        rw [← hq1, ← hq2] at HST hcl
        have HQ := Hd.mk (And.intro hq1 hq2)
        clear hq1 hq2
        have hc : j = 0 ∨ j = 1 ∨ j = 2 := by omega
        rcases hc with rfl | rfl | rfl
        · have hi : ∀ W : World, (Instr.index 121 (.agg waysC) (.int .i64 ((0 : Nat) : Int))).run Tryz.prog W = _ := ways0
          have hi2 := ways0
          go_wp2_with (fail)
          refine (storedCost_any _ bh h0 h7 A n c l p hn (HS.out.frame (HF.out.alloc _) (by simp)) (by omega) q1 q2 HQ.out.1 HQ.out.2).mono ?_
          rintro r w3 ⟨rfl, h3⟩
          have F3 := Hd.mk ((HF.out.alloc _).trans h3 (by simp))
          clear h3
          by_cases hq : q2 = 0
          · by_cases hs : s < 0
            · have HS2 : Hd (pickF bh l (0 + 1) = (((0 : Nat) : Int), q1)) := ⟨by rw [HST.out, if_pos ⟨hq, .inl hs⟩]⟩
              subst hq
              go_wp2
              go_roundg (gk - 1)
              case measure => omega
              case rel => exact ⟨0 + 1, _, _, rfl, rfl, by go_num, by omega, ⟨HS2.out.symm⟩, F3⟩
            · by_cases ht : q1 < s
              · have HS2 : Hd (pickF bh l (0 + 1) = (((0 : Nat) : Int), q1)) := ⟨by rw [HST.out, if_pos ⟨hq, .inr ht⟩]⟩
                subst hq
                go_wp2
                go_roundg (gk - 1)
                case measure => omega
                case rel => exact ⟨0 + 1, _, _, rfl, rfl, by go_num, by omega, ⟨HS2.out.symm⟩, F3⟩
              · have HS2 : Hd (pickF bh l (0 + 1) = (b, s)) := ⟨by rw [HST.out, if_neg (fun h => by rcases h.2 with h | h <;> contradiction)]⟩
                subst hq
                go_wp2
                go_roundg (gk - 1)
                case measure => omega
                case rel => exact ⟨0 + 1, b, s, rfl, rfl, by go_num, by omega, ⟨HS2.out.symm⟩, F3⟩
          · have HS2 : Hd (pickF bh l (0 + 1) = (b, s)) := ⟨by rw [HST.out, if_neg (fun h => hq h.1)]⟩
            have hne : (q2 == 0) = false := by simpa using hq
            go_wp2
            go_roundg (gk - 1)
            case measure => omega
            case rel => exact ⟨0 + 1, b, s, rfl, rfl, by go_num, by omega, ⟨HS2.out.symm⟩, F3⟩
        · have hi : ∀ W : World, (Instr.index 121 (.agg waysC) (.int .i64 ((1 : Nat) : Int))).run Tryz.prog W = _ := ways1
          have hi2 := ways1
          go_wp2_with (fail)
          refine (plainCost2 _ bh A n c l p hn (HS.out.frame (HF.out.alloc _) (by simp)) (by omega) HZ.out HL.out q1 q2 HQ.out.1 HQ.out.2).mono ?_
          rintro r w3 ⟨rfl, h3⟩
          have F3 := Hd.mk ((HF.out.alloc _).trans h3 (by simp))
          clear h3
          by_cases hq : q2 = 0
          · by_cases hs : s < 0
            · have HS2 : Hd (pickF bh l (1 + 1) = (((1 : Nat) : Int), q1)) := ⟨by rw [HST.out, if_pos ⟨hq, .inl hs⟩]⟩
              subst hq
              go_wp2
              go_roundg (gk - 1)
              case measure => omega
              case rel => exact ⟨1 + 1, _, _, rfl, rfl, by go_num, by omega, ⟨HS2.out.symm⟩, F3⟩
            · by_cases ht : q1 < s
              · have HS2 : Hd (pickF bh l (1 + 1) = (((1 : Nat) : Int), q1)) := ⟨by rw [HST.out, if_pos ⟨hq, .inr ht⟩]⟩
                subst hq
                go_wp2
                go_roundg (gk - 1)
                case measure => omega
                case rel => exact ⟨1 + 1, _, _, rfl, rfl, by go_num, by omega, ⟨HS2.out.symm⟩, F3⟩
              · have HS2 : Hd (pickF bh l (1 + 1) = (b, s)) := ⟨by rw [HST.out, if_neg (fun h => by rcases h.2 with h | h <;> contradiction)]⟩
                subst hq
                go_wp2
                go_roundg (gk - 1)
                case measure => omega
                case rel => exact ⟨1 + 1, b, s, rfl, rfl, by go_num, by omega, ⟨HS2.out.symm⟩, F3⟩
          · have HS2 : Hd (pickF bh l (1 + 1) = (b, s)) := ⟨by rw [HST.out, if_neg (fun h => hq h.1)]⟩
            have hne : (q2 == 0) = false := by simpa using hq
            go_wp2
            go_roundg (gk - 1)
            case measure => omega
            case rel => exact ⟨1 + 1, b, s, rfl, rfl, by go_num, by omega, ⟨HS2.out.symm⟩, F3⟩
        · have hi : ∀ W : World, (Instr.index 121 (.agg waysC) (.int .i64 ((2 : Nat) : Int))).run Tryz.prog W = _ := ways2
          have hi2 := ways2
          go_wp2_with (fail)
          refine (ownCost_any _ bh A n c l p hn (HS.out.frame (HF.out.alloc _) (by simp)) (by omega) HZ.out HL.out HE.out.symm q1 q2 HQ.out.1 HQ.out.2).mono ?_
          rintro r w3 ⟨rfl, h3⟩
          have F3 := Hd.mk ((HF.out.alloc _).trans h3 (by simp))
          clear h3
          by_cases hq : q2 = 0
          · by_cases hs : s < 0
            · have HS2 : Hd (pickF bh l (2 + 1) = (((2 : Nat) : Int), q1)) := ⟨by rw [HST.out, if_pos ⟨hq, .inl hs⟩]⟩
              subst hq
              go_wp2
              go_roundg (gk - 1)
              case measure => omega
              case rel => exact ⟨2 + 1, _, _, rfl, rfl, by go_num, by omega, ⟨HS2.out.symm⟩, F3⟩
            · by_cases ht : q1 < s
              · have HS2 : Hd (pickF bh l (2 + 1) = (((2 : Nat) : Int), q1)) := ⟨by rw [HST.out, if_pos ⟨hq, .inr ht⟩]⟩
                subst hq
                go_wp2
                go_roundg (gk - 1)
                case measure => omega
                case rel => exact ⟨2 + 1, _, _, rfl, rfl, by go_num, by omega, ⟨HS2.out.symm⟩, F3⟩
              · have HS2 : Hd (pickF bh l (2 + 1) = (b, s)) := ⟨by rw [HST.out, if_neg (fun h => by rcases h.2 with h | h <;> contradiction)]⟩
                subst hq
                go_wp2
                go_roundg (gk - 1)
                case measure => omega
                case rel => exact ⟨2 + 1, b, s, rfl, rfl, by go_num, by omega, ⟨HS2.out.symm⟩, F3⟩
          · have HS2 : Hd (pickF bh l (2 + 1) = (b, s)) := ⟨by rw [HST.out, if_neg (fun h => hq h.1)]⟩
            have hne : (q2 == 0) = false := by simpa using hq
            go_wp2
            go_roundg (gk - 1)
            case measure => omega
            case rel => exact ⟨2 + 1, b, s, rfl, rfl, by go_num, by omega, ⟨HS2.out.symm⟩, F3⟩
      · obtain rfl : j = 3 := by omega
        have hb2 : Hd (m = b) := ⟨by rw [hmm.out.1, ← HP.out]⟩
        obtain rfl := hb2.out
        go_wp2
        go_ret2
        exact ⟨rfl, HF.out⟩
  · have hne : (e != 0) = true := by simpa using h
    obtain ⟨e1, e2⟩ := (show m = 0 ∧ er = e by have := HM.out; rw [if_neg h] at this; exact this)
    subst e1 e2
    go_wp2
    go_ret2
    exact ⟨rfl, F1.out⟩
theorem pick0_any (w : World) (bh : Int) (A : Option Addr) (n c : Nat) (hno : bh < 0 ∨ 7 < bh) :
    Calls Tryz.prog 28 #[.int .i64 bh, .slice A n c] w fun r w' => r = .returned (.tuple #[.int .i64 0, .int .i64 1]) ∧ Fr w w' [] := by
  go_enter Tryz.func28, Tryz.ntmps28
  by_cases h1 : bh < 0
  · clear hno
    go_wp2
    go_ret2
    exact ⟨rfl, Fr.refl _ _⟩
  · have h4 : 7 < bh := by omega
    clear hno
    go_wp2
    go_ret2
    exact ⟨rfl, Fr.refl _ _⟩
end Go.Proofs.YtkdgfioigkijgaaGreat.Blk
/- Chapter 09: what a stored block and one with codes of its own lay down. Conditions: at most 65536 tokens, the writer has fewer than 2^49 bits. -/
set_option linter.unusedVariables false
set_option linter.unusedSimpArgs false
set_option maxRecDepth 100000
namespace Go.Proofs.YtkdgfioigkijgaaGreat.Blk
open Go.RowKit Go.Proofs.YtkdgfioigkijgaaGreat.Lib Go.Proofs.YtkdgfioigkijgaaGreat.Ints Go.Proofs.YtkdgfioigkijgaaGreat.Lz Go.Proofs.YtkdgfioigkijgaaGreat.Num Go.Proofs.YtkdgfioigkijgaaGreat.Bits
def bytesP (data : List Int) : List (Nat × Nat) := data.map fun b => (b.toNat, 8)
theorem bytesP_tot (data : List Int) : totOf (bytesP data) = 8 * data.length := by
  induction data with
  | nil => rfl
  | cons b d ih => simp only [bytesP, List.map_cons, totOf, List.length_cons] at ih ⊢; rw [ih]; omega
theorem bytesP_num (data : List Int) : numOf (bytesP data) = valB data := by
  induction data with
  | nil => rfl
  | cons b d ih => simp only [bytesP, List.map_cons, numOf] at ih ⊢; rw [ih, valB]; omega
/-- a stored block's parts, behind m bits -/
def storedP (m : Nat) (data : List Int) : List (Nat × Nat) := [(0, (8 - m % 8) % 8), (data.length, 16), (65535 - data.length, 16)] ++ bytesP data
end Go.Proofs.YtkdgfioigkijgaaGreat.Blk
/- Chapter 09: Write, of any kind. Conditions: at most 2^40 tokens, the writer has fewer than 2^49 bits. -/
set_option linter.unusedVariables false
set_option linter.unusedSimpArgs false
set_option maxRecDepth 100000
namespace Go.Proofs.YtkdgfioigkijgaaGreat.Blk
open Go.RowKit Go.Proofs.YtkdgfioigkijgaaGreat.Lib Go.Proofs.YtkdgfioigkijgaaGreat.Ints Go.Proofs.YtkdgfioigkijgaaGreat.Lz Go.Proofs.YtkdgfioigkijgaaGreat.Num Go.Proofs.YtkdgfioigkijgaaGreat.Bits
def ownP (l : List Tok) : List (Nat × Nat) := Head.headP (ownLit l) (ownDist l) ++ bodyP (ownLit l) (ownDist l) l
theorem headP_tot (l : List Tok) : totOf (Head.headP (ownLit l) (ownDist l)) ≤ 14 + 57 + 22 * 316 := by
  obtain ⟨_, r2, _⟩ := Head.hruns_ok (own_okH l)
  have h1 := Head.runsP_tot (Head.hlens_check (rs := Head.hruns (ownLit l) (ownDist l)) (by omega)) (Head.hruns (ownLit l) (ownDist l))
  have h2 := Head.toldN_le (Head.hlens (Head.hruns (ownLit l) (ownDist l))) 19
  have h3 := Head.ordP_tot (Head.hlens (Head.hruns (ownLit l) (ownDist l))) (Head.toldN (Head.hlens (Head.hruns (ownLit l) (ownDist l))) 19) (by omega)
  unfold Head.headP
  rw [totOf_app, totOf_app, h3]
  simp only [totOf]
  omega
/-- the parts of a block of a kind, behind m bits -/
def kindP (k m : Nat) (data : List Int) (l : List Tok) : List (Nat × Nat) :=
  if k = 0 then storedP m data else if k = 1 then bodyP plainLit plainDist l else ownP l
def blockP (k m : Nat) (b : Bool) (data : List Int) (l : List Tok) : List (Nat × Nat) := [(lastN b, 1), (k, 2)] ++ kindP k (m + 3) data l
/-- what Write answers -/
def wrErr (k : Int) (nd : Nat) (l : List Tok) : Int :=
  if k < 0 ∨ 2 < k then 1 else if mayB l ≠ 0 then mayB l else if k = 0 ∧ 65535 < Lz.sizeOf l then 90 else if nd ≠ Lz.sizeOf l then 1 else 0
end Go.Proofs.YtkdgfioigkijgaaGreat.Blk
/- Chapter 09: the document's may. Conditions: at most 2^40 tokens. -/
set_option linter.unusedVariables false
set_option linter.unusedSimpArgs false
set_option maxRecDepth 100000
namespace Go.Proofs.YtkdgfioigkijgaaGreat.Blk
open Go.RowKit Go.Proofs.YtkdgfioigkijgaaGreat.Lib Go.Proofs.YtkdgfioigkijgaaGreat.Ints Go.Proofs.YtkdgfioigkijgaaGreat.Lz
set_option maxHeartbeats 2000000 in
theorem rmay_any (w : World) (A : Option Addr) (n c : Nat) (l : List Tok) (p : Option Nat) (hn : l.length = n) (hS : Sl w A (tcells l) p) (hb : n ≤ 6000000000000) (r : Int) (hr : r = mayB l) :
    Calls Tryz.prog 52 #[.slice A n c] w fun e w' => e = .returned (.int .i64 r) ∧ Fr w w' [] := by
  subst hn
  have HS := Hd.mk hS
  have HR := Hd.mk hr
  clear hS hr
  go_enter Tryz.func52, Tryz.ntmps52
  by_cases hlong : 65536 < l.length
  · obtain rfl : r = 90 := by rw [HR.out]; unfold mayB; rw [if_pos hlong]
    go_wp2
    go_ret
    exact ⟨rfl, Fr.refl _ _⟩
  · have hmr : Hd (r = if l.all right then 0 else 91) := ⟨by rw [HR.out]; unfold mayB; rw [if_neg hlong]⟩
    have hl2 : l.length ≤ 65536 := by omega
    go_wp2
    go_loopg [10] l.length (fun kq jv wr => ∃ j : Nat, jv = .int .i64 (j : Nat) ∧ j + kq = l.length ∧ Hd ((l.take j).all right = true) ∧ Hd (Fr w wr []))
    case atStart => exact ⟨0, rfl, by omega, ⟨rfl⟩, ⟨Fr.refl _ _⟩⟩
    case round =>
      obtain ⟨j, rfl, hj, HA, HF⟩ := hrel
      by_cases h1 : j < l.length
      · obtain ⟨a, o1, rfl, _, ha⟩ := Sl.row (enc := tcell) (sz := 3) (fun _ => rfl) (HS.out.frame HF.out (by simp)) h1 (by decide)
        obtain ⟨t, ht⟩ : ∃ t, t = l[j] := ⟨_, rfl⟩
        rw [← ht] at ha
        have c0 := ha 0 (by decide)
        have c1 := ha 1 (by decide)
        have c2 := ha 2 (by decide)
        simp only [tcell, List.getElem?_cons_zero, List.getElem?_cons_succ, Nat.add_zero] at c0 c1 c2
        have HT := Hd.mk ht
        clear ha ht
        obtain ⟨x, hx⟩ : ∃ x, x = right t := ⟨_, rfl⟩
        have HX := Hd.mk hx
        clear hx
        go_wp2_with (fail)
        refine (Lz.may_any _ t x HX.out).mono ?_
        rintro e w2 ⟨rfl, h2⟩
        have F2 := Hd.mk ((HF.out.alloc _).trans h2 (by simp))
        clear h2
        cases x with
        | false =>
          have : Hd (r = 91) := ⟨by rw [hmr.out, all_not h1 (by rw [← HT.out]; exact HX.out.symm)]; rfl⟩
          obtain rfl := this.out
          go_wp2
          go_ret
          exact ⟨rfl, F2.out⟩
        | true =>
          go_wp2
          go_roundg (gk - 1)
          case measure => omega
          case rel => exact ⟨j + 1, by go_num, by omega, ⟨by rw [all_take h1, HA.out, ← HT.out, ← HX.out]; rfl⟩, F2⟩
      · obtain rfl : j = l.length := by omega
        have : Hd (r = 0) := ⟨by rw [hmr.out]; rw [List.take_length] at HA; rw [HA.out]; rfl⟩
        obtain rfl := this.out
        go_wp2
        go_ret
        exact ⟨rfl, HF.out⟩
end Go.Proofs.YtkdgfioigkijgaaGreat.Blk
/- Chapter 09: the document's lengths of a block's own codes, and its plain ones. Conditions: at most 2^40 tokens. -/
set_option linter.unusedVariables false
set_option linter.unusedSimpArgs false
set_option maxRecDepth 100000
namespace Go.Proofs.YtkdgfioigkijgaaGreat.Blk
open Go.RowKit Go.Proofs.YtkdgfioigkijgaaGreat.Lib Go.Proofs.YtkdgfioigkijgaaGreat.Ints Go.Proofs.YtkdgfioigkijgaaGreat.Lz
theorem frq_comm (N : Nat) (xs ys : List Int) : frq N (xs ++ ys) = frq N (ys ++ xs) := by
  unfold frq
  congr 1
  funext i
  unfold Code.cnt
  rw [List.countP_append, List.countP_append, Nat.add_comm]
theorem mk286 : ∀ w : World, (Instr.makeSlice 79 (.int .i64 286) (.int .i64 286)).run Tryz.prog w = .ok (.slice (some ⟨w.heap.size, 0, none⟩) 286 286) (w.alloc (.cells (i64s (frq 286 [])).toArray 3)) := fun _ => by kernel_rfl
theorem mk30 : ∀ w : World, (Instr.makeSlice 79 (.int .i64 30) (.int .i64 30)).run Tryz.prog w = .ok (.slice (some ⟨w.heap.size, 0, none⟩) 30 30) (w.alloc (.cells (i64s (frq 30 [])).toArray 3)) := fun _ => by kernel_rfl
theorem frq_256 : (i64s (frq 286 [])).toArray.setIfInBounds 256 (.int .i64 1) = (i64s (frq 286 [256])).toArray := by
  have := frq_set (N := 286) [] (s := 256) (by decide)
  exact this
set_option maxHeartbeats 8000000 in
theorem rownLens_any (w : World) (A : Option Addr) (n c : Nat) (l : List Tok) (p : Option Nat) (hn : l.length = n) (hS : Sl w A (tcells l) p) (hb : n ≤ 6000000000000) (hl : LitB l) :
    Calls Tryz.prog 57 #[.slice A n c] w (OwnPost w l) := by
  have HS := Hd.mk hS
  have HL := Hd.mk hl
  obtain ⟨e, he⟩ : ∃ e, e = mayB l := ⟨_, rfl⟩
  have HE := Hd.mk he
  clear hS hl he
  have hm1 := mk286
  have hm2 := mk30
  go_enter Tryz.func57, Tryz.ntmps57
  go_wp2_with (fail)
  refine (rmay_any w A n c l p hn HS.out hb e HE.out).mono ?_
  rintro r w1 ⟨rfl, h1⟩
  have F1 := Hd.mk h1
  clear h1
  by_cases h : e = 0
  · subst h
    have hz := mayB_zero HE.out.symm
    have HZ := Hd.mk hz.2
    have hz3 := hz.1
    clear hz
    go_upto_region 4 with (fail)
    go_cut [6, 7] from 27 to 28 (fun s6 s7 wc => ∃ gx gy : Nat, s6 = .slice (some ⟨gx, 0, none⟩) 286 286 ∧ s7 = .slice (some ⟨gy, 0, none⟩) 30 30 ∧ gx ≠ gy ∧ w.heap.size ≤ gx ∧ w.heap.size ≤ gy ∧ Hd (wc.heap[gx]? = some (.cells (i64s (frq 286 [])).toArray 3 (0, 0))) ∧ Hd (wc.heap[gy]? = some (.cells (i64s (frq 30 [])).toArray 3 (0, 0))) ∧ Hd (Fr w wc []))
    case first =>
      have hsz := F1.out.size
      go_region
      · go_wp2
        go_meet
        case rel => exact ⟨w1.heap.size, w1.heap.size + 1, rfl, rfl, by omega, by omega, by omega, ⟨blk_alloc (blk_new w1 _) _⟩, ⟨by rw [drew_heap]; simpa using blk_new (w1.alloc _) _⟩, ⟨((F1.out.alloc _).alloc _).drew⟩⟩
      · go_wp2
        go_meet
        case rel => exact ⟨w1.heap.size + 1, w1.heap.size, rfl, rfl, by omega, by omega, by omega, ⟨by rw [drew_heap]; simpa using blk_new (w1.alloc _) _⟩, ⟨blk_alloc (blk_new w1 _) _⟩, ⟨((F1.out.alloc _).alloc _).drew⟩⟩
    case rest =>
      obtain ⟨gx, gy, rfl, rfl, hxy, hgx, hgy, X2, Y2, F2⟩ := hcut
      clear hm1 hm2 F1
      have q0 := (blk_cell X2.out 256).trans (frq_get (N := 286) [] (s := 256) (by decide))
      have q1 := blk_frozen X2.out 256
      have X3 : Hd ((wc.setCell ⟨gx, 256, none⟩ (.int .i64 1)).heap[gx]? = some (.cells (i64s (frq 286 ([256] ++ symsA (l.take 0)))).toArray 3 (0, 0))) := ⟨by have := blk_set X2.out 256 (.int .i64 1); rw [frq_256] at this; exact this⟩
      have Y3 : Hd ((wc.setCell ⟨gx, 256, none⟩ (.int .i64 1)).heap[gy]? = some (.cells (i64s (frq 30 (symsB (l.take 0)))).toArray 3 (0, 0))) := ⟨blk_far Y2.out (p := ⟨gx, 256, none⟩) hxy.symm _⟩
      have F3 : Hd (Fr w (wc.setCell ⟨gx, 256, none⟩ (.int .i64 1)) []) := ⟨F2.out.setCell (a := ⟨gx, 256, none⟩) (.int .i64 1) (.inr hgx)⟩
      clear X2 Y2 F2
      go_wp2
      go_loopg [33] l.length (fun kq jv wr => ∃ j : Nat, jv = .int .i64 (j : Nat) ∧ j + kq = l.length ∧ Hd (wr.heap[gx]? = some (.cells (i64s (frq 286 ([256] ++ symsA (l.take j)))).toArray 3 (0, 0))) ∧ Hd (wr.heap[gy]? = some (.cells (i64s (frq 30 (symsB (l.take j)))).toArray 3 (0, 0))) ∧ Hd (Fr w wr []))
      case atStart => exact ⟨0, rfl, by omega, X3, Y3, F3⟩
      case round =>
        obtain ⟨j, rfl, hj, HX, HY, HF⟩ := hrel
        have hca := symsA_len (l.take j)
        have hcb := symsB_len (l.take j)
        rw [List.length_take] at hca hcb
        by_cases h1 : j < l.length
        · obtain ⟨a, o1, rfl, _, hcc⟩ := Sl.row (enc := tcell) (sz := 3) (fun _ => rfl) (HS.out.frame HF.out (by simp)) h1 (by decide)
          obtain ⟨t, ht⟩ : ∃ t, t = l[j] := ⟨_, rfl⟩
          rw [← ht] at hcc
          have c0 := hcc 0 (by decide)
          have c1 := hcc 1 (by decide)
          have c2 := hcc 2 (by decide)
          simp only [tcell, List.getElem?_cons_zero, List.getElem?_cons_succ, Nat.add_zero] at c0 c1 c2
          have htm : t ∈ l := by rw [ht]; exact List.getElem_mem h1
          have hrt := HZ.out t htm
          have hlt := HL.out t htm
          have HTA : Hd ([256] ++ symsA (l.take (j + 1)) = [256] ++ symsA (l.take j) ++ [(sgA t).1]) := ⟨by rw [symsA_take h1, ht, List.append_assoc]⟩
          have HTB : Hd (symsB (l.take (j + 1)) = symsB (l.take j) ++ if t.len = 0 then [] else [(sgB t).1]) := ⟨by rw [symsB_take h1, ht]⟩
          have sa := (sgA_fit hrt hlt).1.sym
          have sb := (sgB_fit hrt).sym
          have hca2 : ([256] ++ symsA (l.take j)).length ≤ 65536 + 1 := by rw [List.length_append, List.length_singleton]; omega
          clear hcc ht htm
          generalize [256] ++ symsA (l.take j) = SA at *
          generalize symsB (l.take j) = SB at *
          have A0 := (Fr.refl wr []).alloc (.cells #[.int .u8 t.lit, .int .i64 t.len, .int .i64 t.dist] 80)
          by_cases hlen : t.len = 0
          · have hsa : (sgA t).1 = t.lit := by unfold sgA; rw [if_pos hlen]
            rw [hsa] at sa HTA
            rw [if_pos hlen, List.append_nil] at HTB
            obtain ⟨lt, ln, ld⟩ := t
            simp only at hlen hlt sa HTA A0
            subst hlen
            obtain ⟨lt, rfl⟩ := Int.eq_ofNat_of_zero_le hlt.1
            have hlt2 : (lt : Int) ≤ 255 := hlt.2
            have X5 := Hd.mk (A0.blk HX.out (by simp))
            have Y5 := Hd.mk (A0.blk HY.out (by simp))
            have kx := (blk_cell X5.out lt).trans (frq_get SA (s := lt) (by omega))
            have fx := blk_frozen X5.out lt
            have hcx := cnt_le SA lt
            have X6 := Hd.mk (blk_set X5.out lt (.int .i64 ((Code.cnt SA lt : Nat) + 1 : Int)))
            rw [frq_set SA (by omega), ← HTA.out] at X6
            have Y6 := Hd.mk (blk_far Y5.out (p := ⟨gx, lt, none⟩) hxy.symm (.int .i64 ((Code.cnt SA lt : Nat) + 1 : Int)))
            have F6 := Hd.mk ((HF.out.trans A0 (by simp)).setCell (a := ⟨gx, lt, none⟩) (.int .i64 ((Code.cnt SA lt : Nat) + 1 : Int)) (.inr hgx))
            generalize Code.cnt SA lt = cx at *
            have hcx2 : (cx : Int) ≤ 65537 := by omega
            clear hcx A0 HX HY sa sb hlt
            go_wp2
            go_roundg (gk - 1)
            case measure => omega
            case rel => exact ⟨j + 1, by go_num, by omega, X6, ⟨by rw [HTB.out]; exact Y6.out⟩, F6⟩
          · have hla : (sgA t).1 = (symN lenT 257 3 258 t.len).1 := by unfold sgA; rw [if_neg hlen]
            have hlb : (sgB t).1 = (symN distT 0 1 32768 t.dist).1 := by unfold sgB; rw [if_neg hlen]
            rw [if_neg hlen] at HTB
            have hle : (t.len == 0) = false := by simpa using hlen
            obtain ⟨⟨s1, s2, s3, s4⟩, hs⟩ : ∃ x, x = symN lenT 257 3 258 t.len := ⟨_, rfl⟩
            obtain ⟨⟨u1, u2, u3, u4⟩, hu⟩ : ∃ x, x = symN distT 0 1 32768 t.dist := ⟨_, rfl⟩
            rw [hla, ← hs] at sa HTA
            rw [hlb, ← hu] at sb HTB
            simp only at sa sb HTA HTB
            have HS1 := Hd.mk hs
            have HU1 := Hd.mk hu
            obtain ⟨s1, rfl⟩ := Int.eq_ofNat_of_zero_le sa.1
            obtain ⟨u1, rfl⟩ := Int.eq_ofNat_of_zero_le sb.1
            clear hla hlb hs hu
            go_wp2_with (fail)
            have bz := blk_new wr (.cells #[.int .u8 t.lit, .int .i64 t.len, .int .i64 t.dist] 80)
            refine (rlenSymbol_any _ t.len).mono ?_
            rintro r w3 ⟨rfl, h3⟩
            rw [← HS1.out]
            have f3 := A0.trans h3 (by simp)
            have BZ := Hd.mk (h3.blk bz (by simp))
            clear h3 bz A0
            have d2 := blk_cell BZ.out 2
            simp only [List.getElem?_toArray, List.getElem?_cons_zero, List.getElem?_cons_succ] at d2
            go_wp2_with (fail)
            refine (rdistSymbol_any w3 t.dist).mono ?_
            rintro r w4 ⟨rfl, h3⟩
            rw [← HU1.out]
            have f4 := f3.trans h3 (by simp)
            have F4 := Hd.mk (HF.out.trans f4 (by simp))
            have X5 := Hd.mk (f4.blk HX.out (by simp))
            have Y5 := Hd.mk (f4.blk HY.out (by simp))
            clear h3 f3 f4 BZ d2
            simp only
            have kx := (blk_cell X5.out s1).trans (frq_get SA (s := s1) (by omega))
            have fx := blk_frozen X5.out s1
            have hcx := cnt_le SA s1
            have X6 := Hd.mk (blk_set X5.out s1 (.int .i64 ((Code.cnt SA s1 : Nat) + 1 : Int)))
            rw [frq_set SA (by omega), ← HTA.out] at X6
            have Y6 := Hd.mk (blk_far Y5.out (p := ⟨gx, s1, none⟩) hxy.symm (.int .i64 ((Code.cnt SA s1 : Nat) + 1 : Int)))
            have F6 := Hd.mk (F4.out.setCell (a := ⟨gx, s1, none⟩) (.int .i64 ((Code.cnt SA s1 : Nat) + 1 : Int)) (.inr hgx))
            generalize Code.cnt SA s1 = cx at *
            have hcx2 : (cx : Int) ≤ 65537 := by omega
            have ky := (blk_cell Y6.out u1).trans (frq_get SB (s := u1) (by omega))
            have fy := blk_frozen Y6.out u1
            have hcy := cnt_le SB u1
            have Y7 := Hd.mk (blk_set Y6.out u1 (.int .i64 ((Code.cnt SB u1 : Nat) + 1 : Int)))
            rw [frq_set SB (by omega), ← HTB.out] at Y7
            have X7 := Hd.mk (blk_far X6.out (p := ⟨gy, u1, none⟩) hxy (.int .i64 ((Code.cnt SB u1 : Nat) + 1 : Int)))
            have F7 := Hd.mk (F6.out.setCell (a := ⟨gy, u1, none⟩) (.int .i64 ((Code.cnt SB u1 : Nat) + 1 : Int)) (.inr hgy))
            generalize Code.cnt SB u1 = cy at *
            have hcy2 : (cy : Int) ≤ 65536 := by omega
            have hs1 : (s1 : Int) < 286 := by omega
            have hu1 : (u1 : Int) < 30 := by omega
            clear hcx hcy HX HY
            go_wp2
            go_roundg (gk - 1)
            case measure => omega
            case rel => exact ⟨j + 1, by go_num, by omega, X7, Y7, F7⟩
        · obtain rfl : j = l.length := by omega
          rw [List.take_length] at HX HY
          have SX : Hd (Sl wr (some ⟨gx, 0, none⟩) (i64s (litFrq l)) (some gx)) := ⟨by have := sl_of_blk HX.out; rw [frq_comm] at this; simpa [litFrq] using this⟩
          have EA := Hd.mk (litFrq_eq hz3)
          have EB := Hd.mk (distFrq_eq hz3)
          clear X3 Y3 F3
          go_wp2_with (fail)
          refine (Lens.rlengths_any wr 15 (some ⟨gx, 0, none⟩) 286 286 (litFrq l) _ (frq_len _ _) SX.out (by omega)).mono ?_
          rintro r w6 hlp
          unfold Lens.LensPost at hlp
          obtain ⟨A8, n8, c8, rfl, h1', h2, h3⟩ := hlp
          rw [EA.out] at h1' ⊢
          have hn8 : n8 = 286 := by have := h1'.1; rw [i64s_length, ownLit_len] at this; omega
          subst hn8
          have O8 := Hd.mk h1'
          have NW8 : Hd (∀ k, (Value.slice A8 286 c8).ownBlock = some k → w.heap.size ≤ k) := ⟨fun k hk => by have := h2 k hk; have := HF.out.size; omega⟩
          have F8 := Hd.mk (HF.out.trans h3 (by simp))
          have Y8 := Hd.mk (h3.blk HY.out (by simp))
          have SY : Hd (Sl w6 (some ⟨gy, 0, none⟩) (i64s (distFrq l)) (some gy)) := ⟨by have := sl_of_blk Y8.out; simpa [distFrq] using this⟩
          clear h1' h2 h3 HF HX HY SX
          simp only
          go_wp2_with (fail)
          refine (Lens.rlengths_any w6 15 (some ⟨gy, 0, none⟩) 30 30 (distFrq l) _ (frq_len _ _) SY.out (by omega)).mono ?_
          rintro r w7 hlp
          unfold Lens.LensPost at hlp
          obtain ⟨A9, n9, c9, rfl, h1', h2, h3⟩ := hlp
          rw [EB.out] at h1' ⊢
          have hn9 : n9 = 30 := by have := h1'.1; rw [i64s_length, ownDist_len] at this; omega
          subst hn9
          have O9 := Hd.mk h1'
          have NE9 : Hd (∀ k, (Value.slice A8 286 c8).ownBlock = some k → w.heap.size ≤ k ∧ (Value.slice A9 30 c9).ownBlock ≠ some k) := ⟨fun k hk => ⟨NW8.out k hk, fun h9 => by have := h2 k h9; have := own_lt O8.out hk; omega⟩⟩
          have NW9 : Hd (∀ k, (Value.slice A9 30 c9).ownBlock = some k → w.heap.size ≤ k) := ⟨fun k hk => by have := h2 k hk; have := F8.out.size; omega⟩
          have F9 := Hd.mk (F8.out.trans h3 (by simp))
          have O10 := Hd.mk (own_frame O8.out h3 (by simp))
          clear h1' h2 h3 F8 Y8 SY O8
          simp only
          go_wp2
          go_ret3
          exact ⟨fun _ => ⟨A8, c8, A9, c9, rfl, O10.out, O9.out, NE9.out, NW9.out, F9.out⟩, fun h => absurd HE.out.symm h⟩
  · have hne : (e != 0) = true := by simpa using h
    go_wp2
    go_ret3
    exact ⟨fun h' => absurd (HE.out.trans h') h, fun _ => ⟨by rw [← HE.out]; rfl, F1.out⟩⟩
/-- the document's plain lengths -/
def RPlPost (w w' : World) (e : Ending) : Prop := ∃ g h c d, e = .returned (.tuple #[.slice (some ⟨g, 0, none⟩) 288 c, .slice (some ⟨h, 0, none⟩) 32 d]) ∧ w'.ownsRow 0 3 1 (.slice (some ⟨g, 0, none⟩) 288 c) 288 (i64s plainLit) ∧ w'.ownsRow 0 3 1 (.slice (some ⟨h, 0, none⟩) 32 d) 32 (i64s plainDist) ∧ w.heap.size ≤ g ∧ w.heap.size ≤ h ∧ Fr w w' []
theorem fill_take (f : Nat → Int) (n j : Nat) (h : j < n) : (fill f n n).take (j + 1) = (fill f n n).take j ++ [f j] := by
  have hl : j < (fill f n n).length := by rw [fill_len]; exact h
  rw [List.take_succ_eq_append_getElem hl]
  congr 2
  simp [fill, h]
end Go.Proofs.YtkdgfioigkijgaaGreat.Blk
/- Chapter 09: the document's plain lengths. No condition. -/
set_option linter.unusedVariables false
set_option linter.unusedSimpArgs false
set_option maxRecDepth 100000
namespace Go.Proofs.YtkdgfioigkijgaaGreat.Blk
open Go.RowKit Go.Proofs.YtkdgfioigkijgaaGreat.Lib Go.Proofs.YtkdgfioigkijgaaGreat.Ints Go.Proofs.YtkdgfioigkijgaaGreat.Lz
theorem aft_new {wo w : World} {q q' : Option Nat} (hB : ∀ x, q = some x → wo.heap.size ≤ x) (hs : wo.heap.size ≤ w.heap.size) {o : Obj} (h : Aft (w.alloc o) q q') : ∀ y, q' = some y → wo.heap.size ≤ y := by
  intro y hy
  rcases h with e | ⟨z, e, hz⟩
  · rw [e] at hy; exact hB y hy
  · rw [e] at hy; cases hy; simp at hz; omega
set_option maxHeartbeats 8000000 in
theorem rplainLens_any (w : World) : Calls Tryz.prog 55 #[] w fun e w' => RPlPost w w' e := by
  obtain ⟨i0, hi0, hz0, hz1, hz2⟩ := info_parts infoI64
  go_enter Tryz.func55, Tryz.ntmps55
  go_wp2
  go_loopg [2, 4] 288 (fun kq sv jv wr => ∃ (j : Nat) (A1 : Option Addr) (d1 : Nat), sv = .slice A1 j d1 ∧ jv = .int .i64 (j : Nat) ∧ j + kq = 288 ∧ Hd (wr.ownsRow 0 3 1 (.slice A1 j d1) j (i64s ((fill litF 288 288).take j))) ∧ Hd (∀ y, (Value.slice A1 j d1).ownBlock = some y → w.heap.size ≤ y) ∧ Hd (Fr w wr []))
  case atStart => exact ⟨0, none, 0, rfl, rfl, rfl, ⟨own_nil _ _ _ _⟩, ⟨by intro y hy; cases hy⟩, ⟨Fr.refl _ _⟩⟩
  case round =>
    obtain ⟨j, A1, d1, rfl, rfl, hj, HO, HB, HF⟩ := hrel
    by_cases h1 : j < 288
    · have HTK : Hd ((fill litF 288 288).take (j + 1) = (fill litF 288 288).take j ++ [litF j]) := ⟨fill_take litF 288 j h1⟩
      have HL : Hd (litF j = if j < 144 then 8 else if j < 256 then 9 else if j < 280 then 7 else 8) := ⟨rfl⟩
      by_cases h2 : j < 144
      · rw [HL.out, if_pos h2] at HTK
        go_wp2_with (at_builtin; refine wpList_append_sl rfl (.tmp 23) (.tmp 25) 79 rfl 3 i0 (.int .i64 0) 1 8 Tryz.underlying79 hi0 hz0 hz1 hz2 rfl (by decide) (.slice A1 j d1) j _ rfl (by exact HO.out.alloc _) (some ⟨wr.heap.size, 0, none⟩) 1 1 [.int .i64 8] (some wr.heap.size) rfl rfl (by exact sl_of_blk (blk_new _ _)) (by intro h; cases h) (by intro u hu; simp at hu; subst hu; rfl) (by unfold maxLen; omega) (by omega) ?_; intro A3 d3 w3 hown3 hgrow3 haft3; have O3 := Hd.mk hown3; have G3 := Hd.mk hgrow3; have AF3 := Hd.mk haft3; clear hown3 hgrow3 haft3)
        go_roundg (gk - 1)
        case measure => omega
        case rel => exact ⟨j + 1, A3, d3, rfl, by go_num, by omega, ⟨by rw [HTK.out, i64s_app]; exact O3.out⟩, ⟨aft_new HB.out HF.out.size AF3.out⟩, ⟨(HF.out.alloc _).grown G3.out (fun y hy => .inr (HB.out y hy))⟩⟩
      by_cases h3 : j < 256
      · rw [HL.out, if_neg h2, if_pos h3] at HTK
        have h2' : ¬ ((j : Int) < 144) := by omega
        go_wp2_with (at_builtin; refine wpList_append_sl rfl (.tmp 23) (.tmp 25) 79 rfl 3 i0 (.int .i64 0) 1 8 Tryz.underlying79 hi0 hz0 hz1 hz2 rfl (by decide) (.slice A1 j d1) j _ rfl (by exact HO.out.alloc _) (some ⟨wr.heap.size, 0, none⟩) 1 1 [.int .i64 9] (some wr.heap.size) rfl rfl (by exact sl_of_blk (blk_new _ _)) (by intro h; cases h) (by intro u hu; simp at hu; subst hu; rfl) (by unfold maxLen; omega) (by omega) ?_; intro A3 d3 w3 hown3 hgrow3 haft3; have O3 := Hd.mk hown3; have G3 := Hd.mk hgrow3; have AF3 := Hd.mk haft3; clear hown3 hgrow3 haft3)
        go_roundg (gk - 1)
        case measure => omega
        case rel => exact ⟨j + 1, A3, d3, rfl, by go_num, by omega, ⟨by rw [HTK.out, i64s_app]; exact O3.out⟩, ⟨aft_new HB.out HF.out.size AF3.out⟩, ⟨(HF.out.alloc _).grown G3.out (fun y hy => .inr (HB.out y hy))⟩⟩
      by_cases h4 : j < 280
      · rw [HL.out, if_neg h2, if_neg h3, if_pos h4] at HTK
        go_wp2_with (at_builtin; refine wpList_append_sl rfl (.tmp 23) (.tmp 25) 79 rfl 3 i0 (.int .i64 0) 1 8 Tryz.underlying79 hi0 hz0 hz1 hz2 rfl (by decide) (.slice A1 j d1) j _ rfl (by exact HO.out.alloc _) (some ⟨wr.heap.size, 0, none⟩) 1 1 [.int .i64 7] (some wr.heap.size) rfl rfl (by exact sl_of_blk (blk_new _ _)) (by intro h; cases h) (by intro u hu; simp at hu; subst hu; rfl) (by unfold maxLen; omega) (by omega) ?_; intro A3 d3 w3 hown3 hgrow3 haft3; have O3 := Hd.mk hown3; have G3 := Hd.mk hgrow3; have AF3 := Hd.mk haft3; clear hown3 hgrow3 haft3)
        go_roundg (gk - 1)
        case measure => omega
        case rel => exact ⟨j + 1, A3, d3, rfl, by go_num, by omega, ⟨by rw [HTK.out, i64s_app]; exact O3.out⟩, ⟨aft_new HB.out HF.out.size AF3.out⟩, ⟨(HF.out.alloc _).grown G3.out (fun y hy => .inr (HB.out y hy))⟩⟩
      · rw [HL.out, if_neg h2, if_neg h3, if_neg h4] at HTK
        go_wp2_with (at_builtin; refine wpList_append_sl rfl (.tmp 23) (.tmp 25) 79 rfl 3 i0 (.int .i64 0) 1 8 Tryz.underlying79 hi0 hz0 hz1 hz2 rfl (by decide) (.slice A1 j d1) j _ rfl (by exact HO.out.alloc _) (some ⟨wr.heap.size, 0, none⟩) 1 1 [.int .i64 8] (some wr.heap.size) rfl rfl (by exact sl_of_blk (blk_new _ _)) (by intro h; cases h) (by intro u hu; simp at hu; subst hu; rfl) (by unfold maxLen; omega) (by omega) ?_; intro A3 d3 w3 hown3 hgrow3 haft3; have O3 := Hd.mk hown3; have G3 := Hd.mk hgrow3; have AF3 := Hd.mk haft3; clear hown3 hgrow3 haft3)
        go_roundg (gk - 1)
        case measure => omega
        case rel => exact ⟨j + 1, A3, d3, rfl, by go_num, by omega, ⟨by rw [HTK.out, i64s_app]; exact O3.out⟩, ⟨aft_new HB.out HF.out.size AF3.out⟩, ⟨(HF.out.alloc _).grown G3.out (fun y hy => .inr (HB.out y hy))⟩⟩
    · obtain rfl : j = 288 := by omega
      have HO2 : Hd (wr.ownsRow 0 3 1 (.slice A1 288 d1) 288 (i64s plainLit)) := ⟨by have := HO.out; rwa [List.take_of_length_le (by rw [fill_len]; exact Nat.le_refl _)] at this⟩
      clear HO
      go_wp2
      go_loopg [3, 6] 32 (fun kq sv jv wq => ∃ (j : Nat) (A2 : Option Addr) (d2 : Nat), sv = .slice A2 j d2 ∧ jv = .int .i64 (j : Nat) ∧ j + kq = 32 ∧ Hd (wq.ownsRow 0 3 1 (.slice A2 j d2) j (i64s ((fill (fun _ => 5) 32 32).take j))) ∧ Hd (∀ y, (Value.slice A2 j d2).ownBlock = some y → wr.heap.size ≤ y) ∧ Hd (Fr wr wq []))
      case atStart => exact ⟨0, none, 0, rfl, rfl, rfl, ⟨own_nil _ _ _ _⟩, ⟨by intro y hy; cases hy⟩, ⟨Fr.refl _ _⟩⟩
      case round =>
        obtain ⟨j, A2, d2, rfl, rfl, hj, HO, HB2, HF2⟩ := hrel
        by_cases h1 : j < 32
        · have HTK : Hd ((fill (fun _ => 5) 32 32).take (j + 1) = (fill (fun _ => 5) 32 32).take j ++ [5]) := ⟨fill_take (fun _ => 5) 32 j h1⟩
          go_wp2_with (at_builtin; refine wpList_append_sl rfl (.tmp 31) (.tmp 32) 79 rfl 3 i0 (.int .i64 0) 1 8 Tryz.underlying79 hi0 hz0 hz1 hz2 rfl (by decide) (.slice A2 j d2) j _ rfl (by exact HO.out.alloc _) (some ⟨wr.heap.size, 0, none⟩) 1 1 [.int .i64 5] (some wr.heap.size) rfl rfl (by exact sl_of_blk (blk_new _ _)) (by intro h; cases h) (by intro u hu; simp at hu; subst hu; rfl) (by unfold maxLen; omega) (by omega) ?_; intro A3 d3 w3 hown3 hgrow3 haft3; have O3 := Hd.mk hown3; have G3 := Hd.mk hgrow3; have AF3 := Hd.mk haft3; clear hown3 hgrow3 haft3)
          go_roundg (gk - 1)
          case measure => omega
          case rel => exact ⟨j + 1, A3, d3, rfl, by go_num, by omega, ⟨by rw [HTK.out, i64s_app]; exact O3.out⟩, ⟨aft_new HB2.out HF2.out.size AF3.out⟩, ⟨(HF2.out.alloc _).grown G3.out (fun y hy => .inr (HB2.out y hy))⟩⟩
        · obtain rfl : j = 32 := by omega
          have HO3 := HO.out
          rw [List.take_of_length_le (by rw [fill_len]; exact Nat.le_refl _)] at HO3
          have OP := Hd.mk (own_frame HO2.out HF2.out (by simp))
          have OQ := Hd.mk HO3
          obtain ⟨g1, c1, e1, _⟩ := own_some HO2.out (by decide)
          injection e1 with e1 _ e2
          subst e1 e2
          obtain ⟨g2, c2, e1, _⟩ := own_some HO3 (by decide)
          injection e1 with e1 _ e2
          subst e1 e2
          have hb1 := HB.out g1 rfl
          have hb2 := HB2.out g2 rfl
          have hs := HF.out.size
          clear HO HO2 HO3
          go_wp2
          go_ret2
          exact ⟨g1, g2, d1, d2, rfl, OP.out, OQ.out, hb1, by omega, HF.out.trans HF2.out (by simp)⟩
end Go.Proofs.YtkdgfioigkijgaaGreat.Blk
