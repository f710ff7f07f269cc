/- Chapter 09: a plain block, written. Conditions: at most 2^40 tokens, the writer has fewer than 2^49 bits. -/
import Derived.Test.YtlfckpmdmkccjaaBlkM
set_option linter.unusedVariables false
set_option linter.unusedSimpArgs false
set_option maxRecDepth 100000
namespace Go.Proofs.Ytlfckpmdmkccjaa.Blk
open Go.RowKit Go.Proofs.Ytlfckpmdmkccjaa.Lib Go.Proofs.Ytlfckpmdmkccjaa.Ints Go.Proofs.Ytlfckpmdmkccjaa.Lz Go.Proofs.Ytlfckpmdmkccjaa.Num Go.Proofs.Ytlfckpmdmkccjaa.Bits Go.Proofs.Ytlfckpmdmkccjaa.Code
theorem Pw.after {w0 w1 w2 : World} {gw N m : Nat} {q q' : Option Nat} {P : List (Nat × Nat)} (hf : Fr w0 w1 []) (h : Pw w1 w2 gw q q' N m P) : Pw w0 w2 gw q q' N m P :=
  ⟨h.tl, (Aft.refl w0 q).trans h.aft hf.size, (hf.mono (G := gw :: q.toList) (fun k _ hm => by cases hm)).trans h.fr (fun x _ hm => hm)⟩
set_option maxHeartbeats 4000000 in
theorem plainWrite_any (w : World) (D : Option Addr) (nd cd : Nat) (A : Option Addr) (n c : Nat) (l : List Tok) (p : Option Nat) (hn : l.length = n) (hS : Sl w A (tcells l) p) (hb : n ≤ 65536) (hr : ∀ t ∈ l, right t = true) (hl : LitB l)
    (gw N m : Nat) (q : Option Nat) (hT : Tl w gw 53 N m q) (hp : ∀ k, p = some k → k ∉ gw :: q.toList) (hm : m ≤ 562949953421312) :
    Calls Try.prog 56 #[.pointer (some ⟨gw, 0, none⟩), .slice D nd cd, .slice A n c] w fun e w' => e = .returned (.int .i64 0) ∧ ∃ q', Pw w w' gw q q' N m (bodyP plainLit plainDist l) := by
  have HS := Hd.mk hS
  have HR := Hd.mk (And.intro hr hl)
  have HP := Hd.mk hp
  have T0 := Hd.mk hT
  clear hS hr hl hp hT
  go_enter Try.func56, Try.ntmps56
  go_wp2_with (fail)
  refine (plainLens_any w).mono ?_
  rintro e w1 hpp
  unfold PlPost at hpp
  obtain ⟨g, h, rfl, h1, h2, _, _, _, h3⟩ := hpp
  have X1 := Hd.mk (slArg_own h1)
  have Y1 := Hd.mk (slArg_own h2)
  have F1 := Hd.mk h3
  have T1 := Hd.mk (T0.out.frame h3 (by simp) (by simp))
  clear h1 h2 h3
  go_wp2_with (fail)
  refine (lay_any w1 _ _ 288 288 32 32 plainLit plainDist _ _ X1.out Y1.out plainLit_check plainDist_check A n c l p hn (HS.out.frame F1.out (by simp)) hb HR.out.1 HR.out.2 gw N m q T1.out HP.out hm 0 (by rw [plainLit_end]; rfl)).mono ?_
  rintro e w2 ⟨rfl, q', h1⟩
  have W2 : Hd (Pw w w2 gw q q' N m (bodyP plainLit plainDist l)) := ⟨Pw.after F1.out h1⟩
  clear h1
  go_wp2
  go_ret
  exact ⟨rfl, q', W2.out⟩
def lastN (b : Bool) : Nat := if b then 1 else 0
/-- what a Write leaves: where it answers 0, the parts behind; else nothing -/
def WrPost (w w' : World) (gw N m : Nat) (q : Option Nat) (er : Int) (P : List (Nat × Nat)) : Prop := (er = 0 → ∃ q', Pw w w' gw q q' N m P) ∧ (er ≠ 0 → Fr w w' [])
set_option maxHeartbeats 4000000 in
theorem write1_any (w : World) (b : Bool) (D : Option Addr) (nd cd : Nat) (A : Option Addr) (n c : Nat) (l : List Tok) (p : Option Nat) (hn : l.length = n) (hS : Sl w A (tcells l) p) (hb : n ≤ 1099511627776) (hl : LitB l) (hnd : nd ≤ 4611686018427387904)
    (gw N m : Nat) (q : Option Nat) (hT : Tl w gw 53 N m q) (hp : ∀ k, p = some k → k ∉ gw :: q.toList ∧ k < w.heap.size) (hm : m ≤ 562949953421000) (er : Int) (he : er = if mayB l ≠ 0 then mayB l else if nd ≠ Lz.sizeOf l then 1 else 0) :
    Calls Try.prog 23 #[.pointer (some ⟨gw, 0, none⟩), .int .i64 1, .bool b, .slice D nd cd, .slice A n c] w fun e w' => e = .returned (.int .i64 er) ∧ WrPost w w' gw N m q er ([(lastN b, 1), (1, 2)] ++ bodyP plainLit plainDist l) := by
  have HS := Hd.mk hS
  have HL := Hd.mk hl
  have HP := Hd.mk hp
  have T0 := Hd.mk hT
  have HE := Hd.mk he
  clear hS hl hp hT he
  have hi := ways1
  have hf := way1w
  obtain ⟨k, hk⟩ : ∃ k, k = m % 8 := ⟨_, rfl⟩
  have hk8 : (m : Int) % 8 = (k : Int) := by omega
  have hk7 : k ≤ 7 := by omega
  clear hk
  obtain ⟨e, he⟩ : ∃ e, e = mayB l := ⟨_, rfl⟩
  have HM := Hd.mk he
  go_enter Try.func23, Try.ntmps23
  go_wp2_with (fail)
  refine (len_any _ T0.out).mono ?_
  rintro r w' ⟨rfl, rfl⟩
  go_wp2_with (fail)
  obtain ⟨cm, hcm⟩ : ∃ cm : Int, cm = if e = 0 then 3 + codedN plainLit plainDist l else 0 := ⟨_, rfl⟩
  refine (cost1_any w (k : Int) (by omega) (by omega) A n c l p hn HS.out hb HL.out e cm HM.out hcm).mono ?_
  rintro r w1 ⟨rfl, h1⟩
  have F1 := Hd.mk h1
  have T1 := Hd.mk (T0.out.frame h1 (by simp) (by simp))
  clear h1 hcm he
  by_cases h : e = 0
  · subst h
    have HE2 : Hd (er = if nd ≠ Lz.sizeOf l then 1 else 0) := ⟨by rw [HE.out, ← HM.out, if_neg (by simp)]⟩
    have hz := mayB_zero HM.out.symm
    have HZ := Hd.mk hz.2
    have hz1 := hz.1
    clear hz
    go_wp2_with (fail)
    refine (size_any w1 A n c l p hn (HS.out.frame F1.out (by simp)) hb).mono ?_
    rintro r w2 ⟨rfl, h2⟩
    have F2 := Hd.mk (F1.out.trans h2 (by simp))
    have T2 := Hd.mk (T1.out.frame h2 (by simp) (by simp))
    clear h2 T1
    have hsz := Lz.sizeOf_le l
    obtain ⟨s, hs⟩ : ∃ s, s = Lz.sizeOf l := ⟨_, rfl⟩
    rw [← hs] at HE2 hsz ⊢
    clear hs
    by_cases hns : nd = s
    · subst hns
      obtain rfl : er = 0 := by rw [HE2.out, if_neg (by simp)]
      have hne : ((nd : Int) != (nd : Int)) = false := by simp
      clear HE2 HE
      cases b with
      | false =>
        go_wp2_with (fail)
        refine (wput 0 1 0 rfl (by decide) (by omega) (by omega) T2.out (by have : (1 : Int).toNat = 1 := rfl; omega)).mono ?_
        rintro r w3 ⟨rfl, hpl⟩
        obtain ⟨q3, h3⟩ := (Pw.start T2.out).put (by simpa [numOf, totOf] using hpl)
        have W3 : Hd (Pw w2 w3 gw q q3 N m [(0, 1)]) := ⟨h3⟩
        clear hpl h3
        go_wp2_with (fail)
        refine (wput 1 2 1 rfl (by decide) (by omega) (by omega) W3.out.tl (by have : (2 : Int).toNat = 2 := rfl; have : totOf [(0, 1)] = 1 := rfl; omega)).mono ?_
        rintro r w4 ⟨rfl, hpl⟩
        obtain ⟨q4, h4⟩ := W3.out.put hpl
        have W4 : Hd (Pw w2 w4 gw q q4 N m [(0, 1), (1, 2)]) := ⟨h4⟩
        clear hpl h4
        go_wp2_with (fail)
        refine (ways_any w4).mono ?_
        rintro r w5 ⟨rfl, h5⟩
        have W5 := Hd.mk (Pw.after F2.out (W4.out.call h5))
        clear h5 W4
        go_wp2_with (fail)
        refine (plainWrite_any w5 D nd cd A n c l p hn (HS.out.frame W5.out.fr (fun k hk => (HP.out k hk).1)) (by omega) HZ.out HL.out gw _ _ q4 W5.out.tl (fun k hk hm => (HP.out k hk).1 (W5.out.mem (HP.out k hk).2 hm)) (by have : totOf [(0, 1), (1, 2)] = 3 := rfl; omega)).mono ?_
        rintro r w6 ⟨rfl, q6, h6⟩
        have W6 := Hd.mk (W5.out.more h6)
        clear h6
        go_wp2
        go_ret
        exact ⟨rfl, fun _ => ⟨q6, W6.out⟩, fun h => absurd rfl h⟩
      | true =>
        go_wp2_with (fail)
        refine (wput 1 1 1 rfl (by decide) (by omega) (by omega) T2.out (by have : (1 : Int).toNat = 1 := rfl; omega)).mono ?_
        rintro r w3 ⟨rfl, hpl⟩
        obtain ⟨q3, h3⟩ := (Pw.start T2.out).put (by simpa [numOf, totOf] using hpl)
        have W3 : Hd (Pw w2 w3 gw q q3 N m [(1, 1)]) := ⟨h3⟩
        clear hpl h3
        go_wp2_with (fail)
        refine (wput 1 2 1 rfl (by decide) (by omega) (by omega) W3.out.tl (by have : (2 : Int).toNat = 2 := rfl; have : totOf [(1, 1)] = 1 := rfl; omega)).mono ?_
        rintro r w4 ⟨rfl, hpl⟩
        obtain ⟨q4, h4⟩ := W3.out.put hpl
        have W4 : Hd (Pw w2 w4 gw q q4 N m [(1, 1), (1, 2)]) := ⟨h4⟩
        clear hpl h4
        go_wp2_with (fail)
        refine (ways_any w4).mono ?_
        rintro r w5 ⟨rfl, h5⟩
        have W5 := Hd.mk (Pw.after F2.out (W4.out.call h5))
        clear h5 W4
        go_wp2_with (fail)
        refine (plainWrite_any w5 D nd cd A n c l p hn (HS.out.frame W5.out.fr (fun k hk => (HP.out k hk).1)) (by omega) HZ.out HL.out gw _ _ q4 W5.out.tl (fun k hk hm => (HP.out k hk).1 (W5.out.mem (HP.out k hk).2 hm)) (by have : totOf [(1, 1), (1, 2)] = 3 := rfl; omega)).mono ?_
        rintro r w6 ⟨rfl, q6, h6⟩
        have W6 := Hd.mk (W5.out.more h6)
        clear h6
        go_wp2
        go_ret
        exact ⟨rfl, fun _ => ⟨q6, W6.out⟩, fun h => absurd rfl h⟩
    · obtain rfl : er = 1 := by rw [HE2.out, if_pos hns]
      have hne : ((nd : Int) != (s : Int)) = true := by simp; omega
      go_wp2
      go_ret
      exact ⟨rfl, (fun h => by cases h), fun _ => F2.out⟩
  · have hne : (e != 0) = true := by simpa using h
    obtain rfl : er = e := by rw [HE.out, ← HM.out, if_pos h]
    go_wp2
    go_ret
    exact ⟨rfl, (fun h' => absurd h' h), fun _ => F1.out⟩
end Go.Proofs.Ytlfckpmdmkccjaa.Blk
