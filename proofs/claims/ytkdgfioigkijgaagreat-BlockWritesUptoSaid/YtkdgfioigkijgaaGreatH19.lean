/- Texts of this claim, one behind the other: BlkX, BlkRm, BlkRl, BlkRp. -/
import Derived.Test.YtkdgfioigkijgaaGreatH01
import Derived.Test.YtkdgfioigkijgaaGreatH02
import Derived.Test.YtkdgfioigkijgaaGreatH03
import Derived.Test.YtkdgfioigkijgaaGreatH04
import Derived.Test.YtkdgfioigkijgaaGreatH05
import Derived.Test.YtkdgfioigkijgaaGreatH06
import Derived.Test.YtkdgfioigkijgaaGreatH07
import Derived.Test.YtkdgfioigkijgaaGreatH08
import Derived.Test.YtkdgfioigkijgaaGreatH09
import Derived.Test.YtkdgfioigkijgaaGreatH10
import Derived.Test.YtkdgfioigkijgaaGreatH11
import Derived.Test.YtkdgfioigkijgaaGreatH12
import Derived.Test.YtkdgfioigkijgaaGreatH13
import Derived.Test.YtkdgfioigkijgaaGreatH14
import Derived.Test.YtkdgfioigkijgaaGreatH15
import Derived.Test.YtkdgfioigkijgaaGreatH16
import Derived.Test.YtkdgfioigkijgaaGreatH18
import Derived.Deep.CutRange
import Derived.Deep.Light
/- Chapter 09: Write, of any kind. Conditions: at most 2^40 tokens, the writer has fewer than 2^49 bits. -/
set_option linter.unusedVariables false
set_option linter.unusedSimpArgs false
set_option maxRecDepth 100000
namespace Go.Proofs.YtkdgfioigkijgaaGreat.Blk
open Go.RowKit Go.Proofs.YtkdgfioigkijgaaGreat.Lib Go.Proofs.YtkdgfioigkijgaaGreat.Ints Go.Proofs.YtkdgfioigkijgaaGreat.Lz Go.Proofs.YtkdgfioigkijgaaGreat.Num Go.Proofs.YtkdgfioigkijgaaGreat.Bits
theorem own_end (l : List Tok) : Code.bitsOf (ownLit l) 256 ≠ 0 := by
  have h := (Head.okH_parts (own_okH l)).2.2.2.2.2
  have h2 := lens15_get (check15 (ownLit_check l)) 256
  unfold Code.bitsOf
  rw [if_pos ⟨by decide, by rw [ownLit_len]; decide⟩]
  have e : (256 : Int).toNat = 256 := rfl
  rw [e]
  omega
def ownP (l : List Tok) : List (Nat × Nat) := Head.headP (ownLit l) (ownDist l) ++ bodyP (ownLit l) (ownDist l) l
theorem headP_tot (l : List Tok) : totOf (Head.headP (ownLit l) (ownDist l)) ≤ 14 + 57 + 22 * 316 := by
  obtain ⟨_, r2, _⟩ := Head.hruns_ok (own_okH l)
  have h1 := Head.runsP_tot (Head.hlens_check (rs := Head.hruns (ownLit l) (ownDist l)) (by omega)) (Head.hruns (ownLit l) (ownDist l))
  have h2 := Head.toldN_le (Head.hlens (Head.hruns (ownLit l) (ownDist l))) 19
  have h3 := Head.ordP_tot (Head.hlens (Head.hruns (ownLit l) (ownDist l))) (Head.toldN (Head.hlens (Head.hruns (ownLit l) (ownDist l))) 19) (by omega)
  unfold Head.headP
  rw [totOf_app, totOf_app, h3]
  simp only [totOf]
  omega
set_option maxHeartbeats 4000000 in
theorem ownWrite_any (w : World) (D : Option Addr) (nd cd : Nat) (A : Option Addr) (n c : Nat) (l : List Tok) (p : Option Nat) (hn : l.length = n) (hS : Sl w A (tcells l) p) (hb : n ≤ 65536) (hmay : mayB l = 0) (hl : LitB l)
    (gw N m : Nat) (q : Option Nat) (hT : Tl w gw 27 N m q) (hp : ∀ k, p = some k → k ∉ gw :: q.toList ∧ k < w.heap.size) (hm : m ≤ 562949953412000) :
    Calls Tryz.prog 86 #[.pointer (some ⟨gw, 0, none⟩), .slice D nd cd, .slice A n c] w fun e w' => e = .returned (.int .i64 0) ∧ ∃ q', Pw w w' gw q q' N m (ownP l) := by
  have HS := Hd.mk hS
  have HR := Hd.mk (And.intro (mayB_zero hmay).2 hl)
  have HMAY := Hd.mk hmay
  have HP := Hd.mk hp
  have T0 := Hd.mk hT
  clear hS hl hp hT hmay
  go_enter Tryz.func86, Tryz.ntmps86
  go_wp2_with (fail)
  refine (ownLens_any w A n c l p hn HS.out (by omega) HR.out.2).mono ?_
  rintro r w1 hp
  unfold OwnPost at hp
  obtain ⟨A1, c1, B1, d1, rfl, h1, h2, _, _, h3⟩ := hp.1 HMAY.out
  have O1 := Hd.mk h1
  have O2 := Hd.mk h2
  have F1 := Hd.mk h3
  have T1 := Hd.mk (T0.out.frame h3 (by simp) (by simp))
  clear h1 h2 h3 hp
  go_wp2_with (fail)
  refine (Head.hwrite_any w1 A1 B1 286 c1 30 d1 (ownLit l) (ownDist l) _ _ (slArg_own O1.out) (slArg_own O2.out) 0 (by rw [own_okH]; rfl) gw N m q T1.out (by omega)).mono ?_
  rintro r w2 ⟨rfl, hw⟩
  unfold Head.WrP at hw
  obtain ⟨q2, h2⟩ := hw.1 (own_okH l)
  have P2 := Hd.mk (own_keep T1.out h2.fr O1.out (by decide) (by decide))
  have P3 := Hd.mk (own_keep T1.out h2.fr O2.out (by decide) (by decide))
  have W2 := Hd.mk (Pw.after F1.out h2)
  have ht := headP_tot l
  clear hw h2 O1 O2 T1
  go_wp2_with (fail)
  refine (lay_any w2 A1 B1 286 c1 30 d1 (ownLit l) (ownDist l) _ _ (slArg_own P2.out) (slArg_own P3.out) (ownLit_check l) (ownDist_check l) A n c l p hn (HS.out.frame W2.out.fr (fun k hk => (HP.out k hk).1)) hb HR.out.1 HR.out.2 gw _ _ q2 W2.out.tl (fun k hk hm' => (HP.out k hk).1 (W2.out.mem (HP.out k hk).2 hm')) (by omega) 0 (by rw [if_neg (own_end l)])).mono ?_
  rintro r w3 ⟨rfl, q3, h3⟩
  have W3 := Hd.mk (W2.out.more h3)
  clear h3
  go_wp2
  go_ret
  exact ⟨rfl, q3, W3.out⟩
/-- the parts of a block of a kind, behind m bits -/
def kindP (k m : Nat) (data : List Int) (l : List Tok) : List (Nat × Nat) :=
  if k = 0 then storedP m data else if k = 1 then bodyP plainLit plainDist l else ownP l
def blockP (k m : Nat) (b : Bool) (data : List Int) (l : List Tok) : List (Nat × Nat) := [(lastN b, 1), (k, 2)] ++ kindP k (m + 3) data l
/-- what Write answers -/
def wrErr (k : Int) (nd : Nat) (l : List Tok) : Int :=
  if k < 0 ∨ 2 < k then 1 else if mayB l ≠ 0 then mayB l else if k = 0 ∧ 65535 < Lz.sizeOf l then 90 else if nd ≠ Lz.sizeOf l then 1 else 0
set_option maxHeartbeats 16000000 in
theorem write3_any (w : World) (k : Nat) (hk : k < 3) (b : Bool) (D : Option Addr) (cd : Nat) (data : List Int) (pd : Option Nat) (hD : Sl w D (u8s data) pd) (hDn : D = none → data.length = 0 ∧ cd = 0) (hby : ∀ x ∈ data, 0 ≤ x ∧ x ≤ 255) (hnd : data.length ≤ 4611686018427387904)
    (A : Option Addr) (n c : Nat) (l : List Tok) (p : Option Nat) (hn : l.length = n) (hS : Sl w A (tcells l) p) (hb : n ≤ 1099511627776) (hl : LitB l)
    (gw N m : Nat) (q : Option Nat) (hT : Tl w gw 27 N m q) (hp : ∀ k, p = some k → k ∉ gw :: q.toList ∧ k < w.heap.size) (hpd : ∀ k, pd = some k → k ∉ gw :: q.toList ∧ k < w.heap.size) (hm : m ≤ 562949953410000) (er : Int) (he : er = wrErr k data.length l) :
    Calls Tryz.prog 17 #[.pointer (some ⟨gw, 0, none⟩), .int .i64 (k : Nat), .bool b, .slice D data.length cd, .slice A n c] w fun e w' => e = .returned (.int .i64 er) ∧ WrPost w w' gw N m q er (blockP k m b data l) := by
  have HS := Hd.mk hS
  have HL := Hd.mk hl
  have HP := Hd.mk hp
  have HD := Hd.mk hD
  have HDN := Hd.mk hDn
  have HBY := Hd.mk hby
  have HPD := Hd.mk hpd
  have T0 := Hd.mk hT
  have HE : Hd (er = if mayB l ≠ 0 then mayB l else if k = 0 ∧ 65535 < Lz.sizeOf l then 90 else if data.length ≠ Lz.sizeOf l then 1 else 0) := ⟨by rw [he]; unfold wrErr; rw [if_neg (by omega)]; simp only [show (((k : Int) = 0 ∧ 65535 < Lz.sizeOf l) ↔ (k = 0 ∧ 65535 < Lz.sizeOf l)) from by omega]⟩
  clear hS hl hp hT he hD hDn hby hpd
  obtain ⟨nd, hnd'⟩ : ∃ nd, nd = data.length := ⟨_, rfl⟩
  rw [← hnd'] at hnd HE ⊢
  have HND := Hd.mk hnd'
  clear hnd'
  obtain ⟨bh, hbh⟩ : ∃ bh, bh = m % 8 := ⟨_, rfl⟩
  have hk8 : (m : Int) % 8 = (bh : Int) := by omega
  have hk7 : bh ≤ 7 := by omega
  clear hbh
  obtain ⟨e, he⟩ : ∃ e, e = mayB l := ⟨_, rfl⟩
  rw [← he] at HE
  have HM := Hd.mk he
  have HCK : Hd (65535 < Lz.sizeOf l → mayB l = 0 → (costK 0 (bh : Int) l) = (0, 90)) := ⟨fun h _ => by unfold costK; rw [if_pos rfl, if_pos h]⟩
  have HC2 : Hd (¬ (k = 0 ∧ 65535 < Lz.sizeOf l) → (costK k (bh : Int) l).2 = 0) := ⟨fun h => by
    unfold costK
    by_cases h0 : k = 0
    · rw [if_pos h0, if_neg (fun h' => h ⟨h0, h'⟩)]
    · rw [if_neg h0]; split <;> rfl⟩
  obtain ⟨cm, hcm⟩ : ∃ cm, cm = if e = 0 then costK k (bh : Int) l else (0, e) := ⟨_, rfl⟩
  have HCM := Hd.mk hcm
  clear hcm he
  go_enter Tryz.func17, Tryz.ntmps17
  go_wp2_with (fail)
  refine (len_any _ T0.out).mono ?_
  rintro r w' ⟨rfl, rfl⟩
  go_wp2_with (fail)
  refine (cost3_any w k hk (bh : Int) (by omega) (by omega) A n c l p hn HS.out (Nat.le_trans hb (by decide)) HL.out cm.1 cm.2 (by
    rw [HCM.out, HM.out]
    split
    · exact ⟨rfl, rfl⟩
    · exact ⟨rfl, rfl⟩)).mono ?_
  rintro r w1 ⟨rfl, h1⟩
  have F1 := Hd.mk h1
  have T1 := Hd.mk (T0.out.frame h1 (by simp) (by simp))
  clear h1
  obtain ⟨cm1, cm2⟩ := cm
  by_cases h : e = 0
  · subst h
    have HE2 : Hd (er = if k = 0 ∧ 65535 < Lz.sizeOf l then 90 else if nd ≠ Lz.sizeOf l then 1 else 0) := ⟨by rw [HE.out, if_neg (by simp)]⟩
    have hz := mayB_zero HM.out.symm
    have HZ := Hd.mk hz.2
    have hz1 := hz.1
    clear hz
    by_cases hbig : k = 0 ∧ 65535 < Lz.sizeOf l
    · obtain ⟨rfl, hb2⟩ := hbig
      have e1 : ((cm1, cm2) : Int × Int) = (0, 90) := by rw [HCM.out, if_pos rfl]; exact HCK.out hb2 HM.out.symm
      injection e1 with e1 e2
      subst e1 e2
      obtain rfl : er = 90 := by rw [HE2.out, if_pos ⟨rfl, hb2⟩]
      go_wp2
      go_ret
      exact ⟨rfl, (fun h => by cases h), fun _ => F1.out⟩
    · have HE3 : Hd (er = if nd ≠ Lz.sizeOf l then 1 else 0) := ⟨by rw [HE2.out, if_neg hbig]⟩
      obtain rfl : cm2 = 0 := by
        have := HC2.out hbig
        rw [← show ((cm1, cm2) : Int × Int) = costK k (bh : Int) l from by rw [HCM.out, if_pos rfl]] at this
        exact this
      have HBIG := Hd.mk hbig
      clear hbig
      go_wp2_with (fail)
      refine (size_any w1 A n c l p hn (HS.out.frame F1.out (by simp)) hb).mono ?_
      rintro r w2 ⟨rfl, h2⟩
      have F2 := Hd.mk (F1.out.trans h2 (by simp))
      have T2 := Hd.mk (T1.out.frame h2 (by simp) (by simp))
      clear h2 T1
      have hsz := Lz.sizeOf_le l
      obtain ⟨s, hs⟩ : ∃ s, s = Lz.sizeOf l := ⟨_, rfl⟩
      rw [← hs] at HE3 hsz HBIG ⊢
      clear hs
      by_cases hns : nd = s
      · subst hns
        obtain rfl : er = 0 := by rw [HE3.out, if_neg (by simp)]
        have hne : ((nd : Int) != (nd : Int)) = false := by simp
        clear HE HE2 HE3 HCM HC2 HCK
        have hc : k = 0 ∨ k = 1 ∨ k = 2 := by omega
        rcases hc with rfl | rfl | rfl
        · have hi : ∀ W : World, (Instr.index 121 (.agg waysC) (.int .i64 ((0 : Nat) : Int))).run Tryz.prog W = _ := ways0
          have hnd6 : nd ≤ 65535 := by have := HBIG.out; omega
          have hi2 := ways0
          have hf := way0w
          cases b with
          | false =>
            have HBP : Hd (blockP 0 m false data l = [(0, 1), (0, 2)] ++ kindP 0 (m + 3) data l) := ⟨rfl⟩
            go_wp2_with (fail)
            refine (wput 0 1 0 rfl (by decide) (by omega) (by omega) T2.out (by have : (1 : Int).toNat = 1 := rfl; omega)).mono ?_
            rintro r w3 ⟨rfl, hpl⟩
            obtain ⟨q3, h3⟩ := (Pw.start T2.out).put (by simpa [numOf, totOf] using hpl)
            have W3 : Hd (Pw w2 w3 gw q q3 N m [(0, 1)]) := ⟨h3⟩
            clear hpl h3
            go_wp2_with (fail)
            refine (wput 0 2 0 rfl (by decide) (by omega) (by omega) W3.out.tl (by have : (2 : Int).toNat = 2 := rfl; have : totOf [(0, 1)] = 1 := rfl; omega)).mono ?_
            rintro r w4 ⟨rfl, hpl⟩
            obtain ⟨q4, h4⟩ := W3.out.put hpl
            have W4 : Hd (Pw w2 w4 gw q q4 N m [(0, 1), (0, 2)]) := ⟨h4⟩
            have t4 : totOf [(0, 1), (0, 2)] = 3 := rfl
            clear hpl h4
            go_wp2_with (fail)
            refine (ways_any w4).mono ?_
            rintro r w5 ⟨rfl, h5⟩
            have W5 := Hd.mk (Pw.after F2.out (W4.out.call h5))
            clear h5 W4
            go_wp2_with (fail)
            have hcall := storedWrite_any w5 D cd data pd (HD.out.frame W5.out.fr (fun k hk => (HPD.out k hk).1)) HDN.out HBY.out (by have := HND.out; omega) A n c gw _ _ q4 W5.out.tl (fun k hk => ⟨fun hm => (HPD.out k hk).1 (W5.out.mem (HPD.out k hk).2 hm), Nat.lt_of_lt_of_le (HPD.out k hk).2 W5.out.fr.size⟩) (by rw [t4]; omega)
            rw [← HND.out] at hcall
            refine hcall.mono ?_
            rintro r w6 ⟨rfl, q6, h6⟩
            have W6 := Hd.mk (W5.out.more h6)
            clear h6 hcall
            go_wp2
            go_ret
            exact ⟨rfl, (fun _ => ⟨q6, by rw [HBP.out]; exact W6.out⟩), fun h => absurd rfl h⟩
          | true =>
            have HBP : Hd (blockP 0 m true data l = [(1, 1), (0, 2)] ++ kindP 0 (m + 3) data l) := ⟨rfl⟩
            go_wp2_with (fail)
            refine (wput 1 1 1 rfl (by decide) (by omega) (by omega) T2.out (by have : (1 : Int).toNat = 1 := rfl; omega)).mono ?_
            rintro r w3 ⟨rfl, hpl⟩
            obtain ⟨q3, h3⟩ := (Pw.start T2.out).put (by simpa [numOf, totOf] using hpl)
            have W3 : Hd (Pw w2 w3 gw q q3 N m [(1, 1)]) := ⟨h3⟩
            clear hpl h3
            go_wp2_with (fail)
            refine (wput 0 2 0 rfl (by decide) (by omega) (by omega) W3.out.tl (by have : (2 : Int).toNat = 2 := rfl; have : totOf [(1, 1)] = 1 := rfl; omega)).mono ?_
            rintro r w4 ⟨rfl, hpl⟩
            obtain ⟨q4, h4⟩ := W3.out.put hpl
            have W4 : Hd (Pw w2 w4 gw q q4 N m [(1, 1), (0, 2)]) := ⟨h4⟩
            have t4 : totOf [(1, 1), (0, 2)] = 3 := rfl
            clear hpl h4
            go_wp2_with (fail)
            refine (ways_any w4).mono ?_
            rintro r w5 ⟨rfl, h5⟩
            have W5 := Hd.mk (Pw.after F2.out (W4.out.call h5))
            clear h5 W4
            go_wp2_with (fail)
            have hcall := storedWrite_any w5 D cd data pd (HD.out.frame W5.out.fr (fun k hk => (HPD.out k hk).1)) HDN.out HBY.out (by have := HND.out; omega) A n c gw _ _ q4 W5.out.tl (fun k hk => ⟨fun hm => (HPD.out k hk).1 (W5.out.mem (HPD.out k hk).2 hm), Nat.lt_of_lt_of_le (HPD.out k hk).2 W5.out.fr.size⟩) (by rw [t4]; omega)
            rw [← HND.out] at hcall
            refine hcall.mono ?_
            rintro r w6 ⟨rfl, q6, h6⟩
            have W6 := Hd.mk (W5.out.more h6)
            clear h6 hcall
            go_wp2
            go_ret
            exact ⟨rfl, (fun _ => ⟨q6, by rw [HBP.out]; exact W6.out⟩), fun h => absurd rfl h⟩
        · have hi : ∀ W : World, (Instr.index 121 (.agg waysC) (.int .i64 ((1 : Nat) : Int))).run Tryz.prog W = _ := ways1
          have hi2 := ways1
          have hf := way1w
          cases b with
          | false =>
            have HBP : Hd (blockP 1 m false data l = [(0, 1), (1, 2)] ++ kindP 1 (m + 3) data l) := ⟨rfl⟩
            go_wp2_with (fail)
            refine (wput 0 1 0 rfl (by decide) (by omega) (by omega) T2.out (by have : (1 : Int).toNat = 1 := rfl; omega)).mono ?_
            rintro r w3 ⟨rfl, hpl⟩
            obtain ⟨q3, h3⟩ := (Pw.start T2.out).put (by simpa [numOf, totOf] using hpl)
            have W3 : Hd (Pw w2 w3 gw q q3 N m [(0, 1)]) := ⟨h3⟩
            clear hpl h3
            go_wp2_with (fail)
            refine (wput 1 2 1 rfl (by decide) (by omega) (by omega) W3.out.tl (by have : (2 : Int).toNat = 2 := rfl; have : totOf [(0, 1)] = 1 := rfl; omega)).mono ?_
            rintro r w4 ⟨rfl, hpl⟩
            obtain ⟨q4, h4⟩ := W3.out.put hpl
            have W4 : Hd (Pw w2 w4 gw q q4 N m [(0, 1), (1, 2)]) := ⟨h4⟩
            have t4 : totOf [(0, 1), (1, 2)] = 3 := rfl
            clear hpl h4
            go_wp2_with (fail)
            refine (ways_any w4).mono ?_
            rintro r w5 ⟨rfl, h5⟩
            have W5 := Hd.mk (Pw.after F2.out (W4.out.call h5))
            clear h5 W4
            go_wp2_with (fail)
            have hcall := plainWrite_any w5 D nd cd A n c l p hn (HS.out.frame W5.out.fr (fun k hk => (HP.out k hk).1)) (by omega) HZ.out HL.out gw _ _ q4 W5.out.tl (fun k hk hm => (HP.out k hk).1 (W5.out.mem (HP.out k hk).2 hm)) (by rw [t4]; omega)
            refine hcall.mono ?_
            rintro r w6 ⟨rfl, q6, h6⟩
            have W6 := Hd.mk (W5.out.more h6)
            clear h6 hcall
            go_wp2
            go_ret
            exact ⟨rfl, (fun _ => ⟨q6, by rw [HBP.out]; exact W6.out⟩), fun h => absurd rfl h⟩
          | true =>
            have HBP : Hd (blockP 1 m true data l = [(1, 1), (1, 2)] ++ kindP 1 (m + 3) data l) := ⟨rfl⟩
            go_wp2_with (fail)
            refine (wput 1 1 1 rfl (by decide) (by omega) (by omega) T2.out (by have : (1 : Int).toNat = 1 := rfl; omega)).mono ?_
            rintro r w3 ⟨rfl, hpl⟩
            obtain ⟨q3, h3⟩ := (Pw.start T2.out).put (by simpa [numOf, totOf] using hpl)
            have W3 : Hd (Pw w2 w3 gw q q3 N m [(1, 1)]) := ⟨h3⟩
            clear hpl h3
            go_wp2_with (fail)
            refine (wput 1 2 1 rfl (by decide) (by omega) (by omega) W3.out.tl (by have : (2 : Int).toNat = 2 := rfl; have : totOf [(1, 1)] = 1 := rfl; omega)).mono ?_
            rintro r w4 ⟨rfl, hpl⟩
            obtain ⟨q4, h4⟩ := W3.out.put hpl
            have W4 : Hd (Pw w2 w4 gw q q4 N m [(1, 1), (1, 2)]) := ⟨h4⟩
            have t4 : totOf [(1, 1), (1, 2)] = 3 := rfl
            clear hpl h4
            go_wp2_with (fail)
            refine (ways_any w4).mono ?_
            rintro r w5 ⟨rfl, h5⟩
            have W5 := Hd.mk (Pw.after F2.out (W4.out.call h5))
            clear h5 W4
            go_wp2_with (fail)
            have hcall := plainWrite_any w5 D nd cd A n c l p hn (HS.out.frame W5.out.fr (fun k hk => (HP.out k hk).1)) (by omega) HZ.out HL.out gw _ _ q4 W5.out.tl (fun k hk hm => (HP.out k hk).1 (W5.out.mem (HP.out k hk).2 hm)) (by rw [t4]; omega)
            refine hcall.mono ?_
            rintro r w6 ⟨rfl, q6, h6⟩
            have W6 := Hd.mk (W5.out.more h6)
            clear h6 hcall
            go_wp2
            go_ret
            exact ⟨rfl, (fun _ => ⟨q6, by rw [HBP.out]; exact W6.out⟩), fun h => absurd rfl h⟩
        · have hi : ∀ W : World, (Instr.index 121 (.agg waysC) (.int .i64 ((2 : Nat) : Int))).run Tryz.prog W = _ := ways2
          have hi2 := ways2
          have hf := way2w
          cases b with
          | false =>
            have HBP : Hd (blockP 2 m false data l = [(0, 1), (2, 2)] ++ kindP 2 (m + 3) data l) := ⟨rfl⟩
            go_wp2_with (fail)
            refine (wput 0 1 0 rfl (by decide) (by omega) (by omega) T2.out (by have : (1 : Int).toNat = 1 := rfl; omega)).mono ?_
            rintro r w3 ⟨rfl, hpl⟩
            obtain ⟨q3, h3⟩ := (Pw.start T2.out).put (by simpa [numOf, totOf] using hpl)
            have W3 : Hd (Pw w2 w3 gw q q3 N m [(0, 1)]) := ⟨h3⟩
            clear hpl h3
            go_wp2_with (fail)
            refine (wput 2 2 2 rfl (by decide) (by omega) (by omega) W3.out.tl (by have : (2 : Int).toNat = 2 := rfl; have : totOf [(0, 1)] = 1 := rfl; omega)).mono ?_
            rintro r w4 ⟨rfl, hpl⟩
            obtain ⟨q4, h4⟩ := W3.out.put hpl
            have W4 : Hd (Pw w2 w4 gw q q4 N m [(0, 1), (2, 2)]) := ⟨h4⟩
            have t4 : totOf [(0, 1), (2, 2)] = 3 := rfl
            clear hpl h4
            go_wp2_with (fail)
            refine (ways_any w4).mono ?_
            rintro r w5 ⟨rfl, h5⟩
            have W5 := Hd.mk (Pw.after F2.out (W4.out.call h5))
            clear h5 W4
            go_wp2_with (fail)
            have hcall := ownWrite_any w5 D nd cd A n c l p hn (HS.out.frame W5.out.fr (fun k hk => (HP.out k hk).1)) (by omega) HM.out.symm HL.out gw _ _ q4 W5.out.tl (fun k hk => ⟨fun hm => (HP.out k hk).1 (W5.out.mem (HP.out k hk).2 hm), Nat.lt_of_lt_of_le (HP.out k hk).2 W5.out.fr.size⟩) (by rw [t4]; omega)
            refine hcall.mono ?_
            rintro r w6 ⟨rfl, q6, h6⟩
            have W6 := Hd.mk (W5.out.more h6)
            clear h6 hcall
            go_wp2
            go_ret
            exact ⟨rfl, (fun _ => ⟨q6, by rw [HBP.out]; exact W6.out⟩), fun h => absurd rfl h⟩
          | true =>
            have HBP : Hd (blockP 2 m true data l = [(1, 1), (2, 2)] ++ kindP 2 (m + 3) data l) := ⟨rfl⟩
            go_wp2_with (fail)
            refine (wput 1 1 1 rfl (by decide) (by omega) (by omega) T2.out (by have : (1 : Int).toNat = 1 := rfl; omega)).mono ?_
            rintro r w3 ⟨rfl, hpl⟩
            obtain ⟨q3, h3⟩ := (Pw.start T2.out).put (by simpa [numOf, totOf] using hpl)
            have W3 : Hd (Pw w2 w3 gw q q3 N m [(1, 1)]) := ⟨h3⟩
            clear hpl h3
            go_wp2_with (fail)
            refine (wput 2 2 2 rfl (by decide) (by omega) (by omega) W3.out.tl (by have : (2 : Int).toNat = 2 := rfl; have : totOf [(1, 1)] = 1 := rfl; omega)).mono ?_
            rintro r w4 ⟨rfl, hpl⟩
            obtain ⟨q4, h4⟩ := W3.out.put hpl
            have W4 : Hd (Pw w2 w4 gw q q4 N m [(1, 1), (2, 2)]) := ⟨h4⟩
            have t4 : totOf [(1, 1), (2, 2)] = 3 := rfl
            clear hpl h4
            go_wp2_with (fail)
            refine (ways_any w4).mono ?_
            rintro r w5 ⟨rfl, h5⟩
            have W5 := Hd.mk (Pw.after F2.out (W4.out.call h5))
            clear h5 W4
            go_wp2_with (fail)
            have hcall := ownWrite_any w5 D nd cd A n c l p hn (HS.out.frame W5.out.fr (fun k hk => (HP.out k hk).1)) (by omega) HM.out.symm HL.out gw _ _ q4 W5.out.tl (fun k hk => ⟨fun hm => (HP.out k hk).1 (W5.out.mem (HP.out k hk).2 hm), Nat.lt_of_lt_of_le (HP.out k hk).2 W5.out.fr.size⟩) (by rw [t4]; omega)
            refine hcall.mono ?_
            rintro r w6 ⟨rfl, q6, h6⟩
            have W6 := Hd.mk (W5.out.more h6)
            clear h6 hcall
            go_wp2
            go_ret
            exact ⟨rfl, (fun _ => ⟨q6, by rw [HBP.out]; exact W6.out⟩), fun h => absurd rfl h⟩
      · obtain rfl : er = 1 := by rw [HE3.out, if_pos hns]
        have hne : ((nd : Int) != (s : Int)) = true := by simp; omega
        clear HE HE2 HE3 HCM HC2 HCK
        go_wp2
        go_ret
        exact ⟨rfl, (fun h => by cases h), fun _ => F2.out⟩
  · have hne : (e != 0) = true := by simpa using h
    have e1 : ((cm1, cm2) : Int × Int) = (0, e) := by rw [HCM.out, if_neg h]
    injection e1 with e1 e2
    subst e1 e2
    obtain rfl : er = cm2 := by rw [HE.out, if_pos h]
    go_wp2
    go_ret
    exact ⟨rfl, (fun h' => absurd h' h), fun _ => F1.out⟩
end Go.Proofs.YtkdgfioigkijgaaGreat.Blk
/- Chapter 09: the document's may. Conditions: at most 2^40 tokens. -/
set_option linter.unusedVariables false
set_option linter.unusedSimpArgs false
set_option maxRecDepth 100000
namespace Go.Proofs.YtkdgfioigkijgaaGreat.Blk
open Go.RowKit Go.Proofs.YtkdgfioigkijgaaGreat.Lib Go.Proofs.YtkdgfioigkijgaaGreat.Ints Go.Proofs.YtkdgfioigkijgaaGreat.Lz
set_option maxHeartbeats 2000000 in
theorem rmay_any (w : World) (A : Option Addr) (n c : Nat) (l : List Tok) (p : Option Nat) (hn : l.length = n) (hS : Sl w A (tcells l) p) (hb : n ≤ 6000000000000) (r : Int) (hr : r = mayB l) :
    Calls Tryz.prog 52 #[.slice A n c] w fun e w' => e = .returned (.int .i64 r) ∧ Fr w w' [] := by
  subst hn
  have HS := Hd.mk hS
  have HR := Hd.mk hr
  clear hS hr
  go_enter Tryz.func52, Tryz.ntmps52
  by_cases hlong : 65536 < l.length
  · obtain rfl : r = 90 := by rw [HR.out]; unfold mayB; rw [if_pos hlong]
    go_wp2
    go_ret
    exact ⟨rfl, Fr.refl _ _⟩
  · have hmr : Hd (r = if l.all right then 0 else 91) := ⟨by rw [HR.out]; unfold mayB; rw [if_neg hlong]⟩
    have hl2 : l.length ≤ 65536 := by omega
    go_wp2
    go_loopg [10] l.length (fun kq jv wr => ∃ j : Nat, jv = .int .i64 (j : Nat) ∧ j + kq = l.length ∧ Hd ((l.take j).all right = true) ∧ Hd (Fr w wr []))
    case atStart => exact ⟨0, rfl, by omega, ⟨rfl⟩, ⟨Fr.refl _ _⟩⟩
    case round =>
      obtain ⟨j, rfl, hj, HA, HF⟩ := hrel
      by_cases h1 : j < l.length
      · obtain ⟨a, o1, rfl, _, ha⟩ := Sl.row (enc := tcell) (sz := 3) (fun _ => rfl) (HS.out.frame HF.out (by simp)) h1 (by decide)
        obtain ⟨t, ht⟩ : ∃ t, t = l[j] := ⟨_, rfl⟩
        rw [← ht] at ha
        have c0 := ha 0 (by decide)
        have c1 := ha 1 (by decide)
        have c2 := ha 2 (by decide)
        simp only [tcell, List.getElem?_cons_zero, List.getElem?_cons_succ, Nat.add_zero] at c0 c1 c2
        have HT := Hd.mk ht
        clear ha ht
        obtain ⟨x, hx⟩ : ∃ x, x = right t := ⟨_, rfl⟩
        have HX := Hd.mk hx
        clear hx
        go_wp2_with (fail)
        refine (Lz.may_any _ t x HX.out).mono ?_
        rintro e w2 ⟨rfl, h2⟩
        have F2 := Hd.mk ((HF.out.alloc _).trans h2 (by simp))
        clear h2
        cases x with
        | false =>
          have : Hd (r = 91) := ⟨by rw [hmr.out, all_not h1 (by rw [← HT.out]; exact HX.out.symm)]; rfl⟩
          obtain rfl := this.out
          go_wp2
          go_ret
          exact ⟨rfl, F2.out⟩
        | true =>
          go_wp2
          go_roundg (gk - 1)
          case measure => omega
          case rel => exact ⟨j + 1, by go_num, by omega, ⟨by rw [all_take h1, HA.out, ← HT.out, ← HX.out]; rfl⟩, F2⟩
      · obtain rfl : j = l.length := by omega
        have : Hd (r = 0) := ⟨by rw [hmr.out]; rw [List.take_length] at HA; rw [HA.out]; rfl⟩
        obtain rfl := this.out
        go_wp2
        go_ret
        exact ⟨rfl, HF.out⟩
end Go.Proofs.YtkdgfioigkijgaaGreat.Blk
/- Chapter 09: the document's lengths of a block's own codes, and its plain ones. Conditions: at most 2^40 tokens. -/
set_option linter.unusedVariables false
set_option linter.unusedSimpArgs false
set_option maxRecDepth 100000
namespace Go.Proofs.YtkdgfioigkijgaaGreat.Blk
open Go.RowKit Go.Proofs.YtkdgfioigkijgaaGreat.Lib Go.Proofs.YtkdgfioigkijgaaGreat.Ints Go.Proofs.YtkdgfioigkijgaaGreat.Lz
theorem frq_comm (N : Nat) (xs ys : List Int) : frq N (xs ++ ys) = frq N (ys ++ xs) := by
  unfold frq
  congr 1
  funext i
  unfold Code.cnt
  rw [List.countP_append, List.countP_append, Nat.add_comm]
theorem mk286 : ∀ w : World, (Instr.makeSlice 79 (.int .i64 286) (.int .i64 286)).run Tryz.prog w = .ok (.slice (some ⟨w.heap.size, 0, none⟩) 286 286) (w.alloc (.cells (i64s (frq 286 [])).toArray 3)) := fun _ => by kernel_rfl
theorem mk30 : ∀ w : World, (Instr.makeSlice 79 (.int .i64 30) (.int .i64 30)).run Tryz.prog w = .ok (.slice (some ⟨w.heap.size, 0, none⟩) 30 30) (w.alloc (.cells (i64s (frq 30 [])).toArray 3)) := fun _ => by kernel_rfl
theorem frq_256 : (i64s (frq 286 [])).toArray.setIfInBounds 256 (.int .i64 1) = (i64s (frq 286 [256])).toArray := by
  have := frq_set (N := 286) [] (s := 256) (by decide)
  exact this
set_option maxHeartbeats 8000000 in
theorem rownLens_any (w : World) (A : Option Addr) (n c : Nat) (l : List Tok) (p : Option Nat) (hn : l.length = n) (hS : Sl w A (tcells l) p) (hb : n ≤ 6000000000000) (hl : LitB l) :
    Calls Tryz.prog 57 #[.slice A n c] w (OwnPost w l) := by
  have HS := Hd.mk hS
  have HL := Hd.mk hl
  obtain ⟨e, he⟩ : ∃ e, e = mayB l := ⟨_, rfl⟩
  have HE := Hd.mk he
  clear hS hl he
  have hm1 := mk286
  have hm2 := mk30
  go_enter Tryz.func57, Tryz.ntmps57
  go_wp2_with (fail)
  refine (rmay_any w A n c l p hn HS.out hb e HE.out).mono ?_
  rintro r w1 ⟨rfl, h1⟩
  have F1 := Hd.mk h1
  clear h1
  by_cases h : e = 0
  · subst h
    have hz := mayB_zero HE.out.symm
    have HZ := Hd.mk hz.2
    have hz3 := hz.1
    clear hz
    go_upto_region 4 with (fail)
    go_cut [6, 7] from 27 to 28 (fun s6 s7 wc => ∃ gx gy : Nat, s6 = .slice (some ⟨gx, 0, none⟩) 286 286 ∧ s7 = .slice (some ⟨gy, 0, none⟩) 30 30 ∧ gx ≠ gy ∧ w.heap.size ≤ gx ∧ w.heap.size ≤ gy ∧ Hd (wc.heap[gx]? = some (.cells (i64s (frq 286 [])).toArray 3 (0, 0))) ∧ Hd (wc.heap[gy]? = some (.cells (i64s (frq 30 [])).toArray 3 (0, 0))) ∧ Hd (Fr w wc []))
    case first =>
      have hsz := F1.out.size
      go_region
      · go_wp2
        go_meet
        case rel => exact ⟨w1.heap.size, w1.heap.size + 1, rfl, rfl, by omega, by omega, by omega, ⟨blk_alloc (blk_new w1 _) _⟩, ⟨by rw [drew_heap]; simpa using blk_new (w1.alloc _) _⟩, ⟨((F1.out.alloc _).alloc _).drew⟩⟩
      · go_wp2
        go_meet
        case rel => exact ⟨w1.heap.size + 1, w1.heap.size, rfl, rfl, by omega, by omega, by omega, ⟨by rw [drew_heap]; simpa using blk_new (w1.alloc _) _⟩, ⟨blk_alloc (blk_new w1 _) _⟩, ⟨((F1.out.alloc _).alloc _).drew⟩⟩
    case rest =>
      obtain ⟨gx, gy, rfl, rfl, hxy, hgx, hgy, X2, Y2, F2⟩ := hcut
      clear hm1 hm2 F1
      have q0 := (blk_cell X2.out 256).trans (frq_get (N := 286) [] (s := 256) (by decide))
      have q1 := blk_frozen X2.out 256
      have X3 : Hd ((wc.setCell ⟨gx, 256, none⟩ (.int .i64 1)).heap[gx]? = some (.cells (i64s (frq 286 ([256] ++ symsA (l.take 0)))).toArray 3 (0, 0))) := ⟨by have := blk_set X2.out 256 (.int .i64 1); rw [frq_256] at this; exact this⟩
      have Y3 : Hd ((wc.setCell ⟨gx, 256, none⟩ (.int .i64 1)).heap[gy]? = some (.cells (i64s (frq 30 (symsB (l.take 0)))).toArray 3 (0, 0))) := ⟨blk_far Y2.out (p := ⟨gx, 256, none⟩) hxy.symm _⟩
      have F3 : Hd (Fr w (wc.setCell ⟨gx, 256, none⟩ (.int .i64 1)) []) := ⟨F2.out.setCell (a := ⟨gx, 256, none⟩) (.int .i64 1) (.inr hgx)⟩
      clear X2 Y2 F2
      go_wp2
      go_loopg [33] l.length (fun kq jv wr => ∃ j : Nat, jv = .int .i64 (j : Nat) ∧ j + kq = l.length ∧ Hd (wr.heap[gx]? = some (.cells (i64s (frq 286 ([256] ++ symsA (l.take j)))).toArray 3 (0, 0))) ∧ Hd (wr.heap[gy]? = some (.cells (i64s (frq 30 (symsB (l.take j)))).toArray 3 (0, 0))) ∧ Hd (Fr w wr []))
      case atStart => exact ⟨0, rfl, by omega, X3, Y3, F3⟩
      case round =>
        obtain ⟨j, rfl, hj, HX, HY, HF⟩ := hrel
        have hca := symsA_len (l.take j)
        have hcb := symsB_len (l.take j)
        rw [List.length_take] at hca hcb
        by_cases h1 : j < l.length
        · obtain ⟨a, o1, rfl, _, hcc⟩ := Sl.row (enc := tcell) (sz := 3) (fun _ => rfl) (HS.out.frame HF.out (by simp)) h1 (by decide)
          obtain ⟨t, ht⟩ : ∃ t, t = l[j] := ⟨_, rfl⟩
          rw [← ht] at hcc
          have c0 := hcc 0 (by decide)
          have c1 := hcc 1 (by decide)
          have c2 := hcc 2 (by decide)
          simp only [tcell, List.getElem?_cons_zero, List.getElem?_cons_succ, Nat.add_zero] at c0 c1 c2
          have htm : t ∈ l := by rw [ht]; exact List.getElem_mem h1
          have hrt := HZ.out t htm
          have hlt := HL.out t htm
          have HTA : Hd ([256] ++ symsA (l.take (j + 1)) = [256] ++ symsA (l.take j) ++ [(sgA t).1]) := ⟨by rw [symsA_take h1, ht, List.append_assoc]⟩
          have HTB : Hd (symsB (l.take (j + 1)) = symsB (l.take j) ++ if t.len = 0 then [] else [(sgB t).1]) := ⟨by rw [symsB_take h1, ht]⟩
          have sa := (sgA_fit hrt hlt).1.sym
          have sb := (sgB_fit hrt).sym
          have hca2 : ([256] ++ symsA (l.take j)).length ≤ 65536 + 1 := by rw [List.length_append, List.length_singleton]; omega
          clear hcc ht htm
          generalize [256] ++ symsA (l.take j) = SA at *
          generalize symsB (l.take j) = SB at *
          have A0 := (Fr.refl wr []).alloc (.cells #[.int .u8 t.lit, .int .i64 t.len, .int .i64 t.dist] 80)
          by_cases hlen : t.len = 0
          · have hsa : (sgA t).1 = t.lit := by unfold sgA; rw [if_pos hlen]
            rw [hsa] at sa HTA
            rw [if_pos hlen, List.append_nil] at HTB
            obtain ⟨lt, ln, ld⟩ := t
            simp only at hlen hlt sa HTA A0
            subst hlen
            obtain ⟨lt, rfl⟩ := Int.eq_ofNat_of_zero_le hlt.1
            have hlt2 : (lt : Int) ≤ 255 := hlt.2
            have X5 := Hd.mk (A0.blk HX.out (by simp))
            have Y5 := Hd.mk (A0.blk HY.out (by simp))
            have kx := (blk_cell X5.out lt).trans (frq_get SA (s := lt) (by omega))
            have fx := blk_frozen X5.out lt
            have hcx := cnt_le SA lt
            have X6 := Hd.mk (blk_set X5.out lt (.int .i64 ((Code.cnt SA lt : Nat) + 1 : Int)))
            rw [frq_set SA (by omega), ← HTA.out] at X6
            have Y6 := Hd.mk (blk_far Y5.out (p := ⟨gx, lt, none⟩) hxy.symm (.int .i64 ((Code.cnt SA lt : Nat) + 1 : Int)))
            have F6 := Hd.mk ((HF.out.trans A0 (by simp)).setCell (a := ⟨gx, lt, none⟩) (.int .i64 ((Code.cnt SA lt : Nat) + 1 : Int)) (.inr hgx))
            generalize Code.cnt SA lt = cx at *
            have hcx2 : (cx : Int) ≤ 65537 := by omega
            clear hcx A0 HX HY sa sb hlt
            go_wp2
            go_roundg (gk - 1)
            case measure => omega
            case rel => exact ⟨j + 1, by go_num, by omega, X6, ⟨by rw [HTB.out]; exact Y6.out⟩, F6⟩
          · have hla : (sgA t).1 = (symN lenT 257 3 258 t.len).1 := by unfold sgA; rw [if_neg hlen]
            have hlb : (sgB t).1 = (symN distT 0 1 32768 t.dist).1 := by unfold sgB; rw [if_neg hlen]
            rw [if_neg hlen] at HTB
            have hle : (t.len == 0) = false := by simpa using hlen
            obtain ⟨⟨s1, s2, s3, s4⟩, hs⟩ : ∃ x, x = symN lenT 257 3 258 t.len := ⟨_, rfl⟩
            obtain ⟨⟨u1, u2, u3, u4⟩, hu⟩ : ∃ x, x = symN distT 0 1 32768 t.dist := ⟨_, rfl⟩
            rw [hla, ← hs] at sa HTA
            rw [hlb, ← hu] at sb HTB
            simp only at sa sb HTA HTB
            have HS1 := Hd.mk hs
            have HU1 := Hd.mk hu
            obtain ⟨s1, rfl⟩ := Int.eq_ofNat_of_zero_le sa.1
            obtain ⟨u1, rfl⟩ := Int.eq_ofNat_of_zero_le sb.1
            clear hla hlb hs hu
            go_wp2_with (fail)
            have bz := blk_new wr (.cells #[.int .u8 t.lit, .int .i64 t.len, .int .i64 t.dist] 80)
            refine (rlenSymbol_any _ t.len).mono ?_
            rintro r w3 ⟨rfl, h3⟩
            rw [← HS1.out]
            have f3 := A0.trans h3 (by simp)
            have BZ := Hd.mk (h3.blk bz (by simp))
            clear h3 bz A0
            have d2 := blk_cell BZ.out 2
            simp only [List.getElem?_toArray, List.getElem?_cons_zero, List.getElem?_cons_succ] at d2
            go_wp2_with (fail)
            refine (rdistSymbol_any w3 t.dist).mono ?_
            rintro r w4 ⟨rfl, h3⟩
            rw [← HU1.out]
            have f4 := f3.trans h3 (by simp)
            have F4 := Hd.mk (HF.out.trans f4 (by simp))
            have X5 := Hd.mk (f4.blk HX.out (by simp))
            have Y5 := Hd.mk (f4.blk HY.out (by simp))
            clear h3 f3 f4 BZ d2
            simp only
            have kx := (blk_cell X5.out s1).trans (frq_get SA (s := s1) (by omega))
            have fx := blk_frozen X5.out s1
            have hcx := cnt_le SA s1
            have X6 := Hd.mk (blk_set X5.out s1 (.int .i64 ((Code.cnt SA s1 : Nat) + 1 : Int)))
            rw [frq_set SA (by omega), ← HTA.out] at X6
            have Y6 := Hd.mk (blk_far Y5.out (p := ⟨gx, s1, none⟩) hxy.symm (.int .i64 ((Code.cnt SA s1 : Nat) + 1 : Int)))
            have F6 := Hd.mk (F4.out.setCell (a := ⟨gx, s1, none⟩) (.int .i64 ((Code.cnt SA s1 : Nat) + 1 : Int)) (.inr hgx))
            generalize Code.cnt SA s1 = cx at *
            have hcx2 : (cx : Int) ≤ 65537 := by omega
            have ky := (blk_cell Y6.out u1).trans (frq_get SB (s := u1) (by omega))
            have fy := blk_frozen Y6.out u1
            have hcy := cnt_le SB u1
            have Y7 := Hd.mk (blk_set Y6.out u1 (.int .i64 ((Code.cnt SB u1 : Nat) + 1 : Int)))
            rw [frq_set SB (by omega), ← HTB.out] at Y7
            have X7 := Hd.mk (blk_far X6.out (p := ⟨gy, u1, none⟩) hxy (.int .i64 ((Code.cnt SB u1 : Nat) + 1 : Int)))
            have F7 := Hd.mk (F6.out.setCell (a := ⟨gy, u1, none⟩) (.int .i64 ((Code.cnt SB u1 : Nat) + 1 : Int)) (.inr hgy))
            generalize Code.cnt SB u1 = cy at *
            have hcy2 : (cy : Int) ≤ 65536 := by omega
            have hs1 : (s1 : Int) < 286 := by omega
            have hu1 : (u1 : Int) < 30 := by omega
            clear hcx hcy HX HY
            go_wp2
            go_roundg (gk - 1)
            case measure => omega
            case rel => exact ⟨j + 1, by go_num, by omega, X7, Y7, F7⟩
        · obtain rfl : j = l.length := by omega
          rw [List.take_length] at HX HY
          have SX : Hd (Sl wr (some ⟨gx, 0, none⟩) (i64s (litFrq l)) (some gx)) := ⟨by have := sl_of_blk HX.out; rw [frq_comm] at this; simpa [litFrq] using this⟩
          have EA := Hd.mk (litFrq_eq hz3)
          have EB := Hd.mk (distFrq_eq hz3)
          clear X3 Y3 F3
          go_wp2_with (fail)
          refine (Lens.rlengths_any wr 15 (some ⟨gx, 0, none⟩) 286 286 (litFrq l) _ (frq_len _ _) SX.out (by omega)).mono ?_
          rintro r w6 hlp
          unfold Lens.LensPost at hlp
          obtain ⟨A8, n8, c8, rfl, h1', h2, h3⟩ := hlp
          rw [EA.out] at h1' ⊢
          have hn8 : n8 = 286 := by have := h1'.1; rw [i64s_length, ownLit_len] at this; omega
          subst hn8
          have O8 := Hd.mk h1'
          have NW8 : Hd (∀ k, (Value.slice A8 286 c8).ownBlock = some k → w.heap.size ≤ k) := ⟨fun k hk => by have := h2 k hk; have := HF.out.size; omega⟩
          have F8 := Hd.mk (HF.out.trans h3 (by simp))
          have Y8 := Hd.mk (h3.blk HY.out (by simp))
          have SY : Hd (Sl w6 (some ⟨gy, 0, none⟩) (i64s (distFrq l)) (some gy)) := ⟨by have := sl_of_blk Y8.out; simpa [distFrq] using this⟩
          clear h1' h2 h3 HF HX HY SX
          simp only
          go_wp2_with (fail)
          refine (Lens.rlengths_any w6 15 (some ⟨gy, 0, none⟩) 30 30 (distFrq l) _ (frq_len _ _) SY.out (by omega)).mono ?_
          rintro r w7 hlp
          unfold Lens.LensPost at hlp
          obtain ⟨A9, n9, c9, rfl, h1', h2, h3⟩ := hlp
          rw [EB.out] at h1' ⊢
          have hn9 : n9 = 30 := by have := h1'.1; rw [i64s_length, ownDist_len] at this; omega
          subst hn9
          have O9 := Hd.mk h1'
          have NE9 : Hd (∀ k, (Value.slice A8 286 c8).ownBlock = some k → w.heap.size ≤ k ∧ (Value.slice A9 30 c9).ownBlock ≠ some k) := ⟨fun k hk => ⟨NW8.out k hk, fun h9 => by have := h2 k h9; have := own_lt O8.out hk; omega⟩⟩
          have NW9 : Hd (∀ k, (Value.slice A9 30 c9).ownBlock = some k → w.heap.size ≤ k) := ⟨fun k hk => by have := h2 k hk; have := F8.out.size; omega⟩
          have F9 := Hd.mk (F8.out.trans h3 (by simp))
          have O10 := Hd.mk (own_frame O8.out h3 (by simp))
          clear h1' h2 h3 F8 Y8 SY O8
          simp only
          go_wp2
          go_ret3
          exact ⟨fun _ => ⟨A8, c8, A9, c9, rfl, O10.out, O9.out, NE9.out, NW9.out, F9.out⟩, fun h => absurd HE.out.symm h⟩
  · have hne : (e != 0) = true := by simpa using h
    go_wp2
    go_ret3
    exact ⟨fun h' => absurd (HE.out.trans h') h, fun _ => ⟨by rw [← HE.out]; rfl, F1.out⟩⟩
/-- the document's plain lengths -/
def RPlPost (w w' : World) (e : Ending) : Prop := ∃ g h c d, e = .returned (.tuple #[.slice (some ⟨g, 0, none⟩) 288 c, .slice (some ⟨h, 0, none⟩) 32 d]) ∧ w'.ownsRow 0 3 1 (.slice (some ⟨g, 0, none⟩) 288 c) 288 (i64s plainLit) ∧ w'.ownsRow 0 3 1 (.slice (some ⟨h, 0, none⟩) 32 d) 32 (i64s plainDist) ∧ w.heap.size ≤ g ∧ w.heap.size ≤ h ∧ Fr w w' []
theorem fill_take (f : Nat → Int) (n j : Nat) (h : j < n) : (fill f n n).take (j + 1) = (fill f n n).take j ++ [f j] := by
  have hl : j < (fill f n n).length := by rw [fill_len]; exact h
  rw [List.take_succ_eq_append_getElem hl]
  congr 2
  simp [fill, h]
end Go.Proofs.YtkdgfioigkijgaaGreat.Blk
/- Chapter 09: the document's plain lengths. No condition. -/
set_option linter.unusedVariables false
set_option linter.unusedSimpArgs false
set_option maxRecDepth 100000
namespace Go.Proofs.YtkdgfioigkijgaaGreat.Blk
open Go.RowKit Go.Proofs.YtkdgfioigkijgaaGreat.Lib Go.Proofs.YtkdgfioigkijgaaGreat.Ints Go.Proofs.YtkdgfioigkijgaaGreat.Lz
theorem aft_new {wo w : World} {q q' : Option Nat} (hB : ∀ x, q = some x → wo.heap.size ≤ x) (hs : wo.heap.size ≤ w.heap.size) {o : Obj} (h : Aft (w.alloc o) q q') : ∀ y, q' = some y → wo.heap.size ≤ y := by
  intro y hy
  rcases h with e | ⟨z, e, hz⟩
  · rw [e] at hy; exact hB y hy
  · rw [e] at hy; cases hy; simp at hz; omega
set_option maxHeartbeats 8000000 in
theorem rplainLens_any (w : World) : Calls Tryz.prog 55 #[] w fun e w' => RPlPost w w' e := by
  obtain ⟨i0, hi0, hz0, hz1, hz2⟩ := info_parts infoI64
  go_enter Tryz.func55, Tryz.ntmps55
  go_wp2
  go_loopg [2, 4] 288 (fun kq sv jv wr => ∃ (j : Nat) (A1 : Option Addr) (d1 : Nat), sv = .slice A1 j d1 ∧ jv = .int .i64 (j : Nat) ∧ j + kq = 288 ∧ Hd (wr.ownsRow 0 3 1 (.slice A1 j d1) j (i64s ((fill litF 288 288).take j))) ∧ Hd (∀ y, (Value.slice A1 j d1).ownBlock = some y → w.heap.size ≤ y) ∧ Hd (Fr w wr []))
  case atStart => exact ⟨0, none, 0, rfl, rfl, rfl, ⟨own_nil _ _ _ _⟩, ⟨by intro y hy; cases hy⟩, ⟨Fr.refl _ _⟩⟩
  case round =>
    obtain ⟨j, A1, d1, rfl, rfl, hj, HO, HB, HF⟩ := hrel
    by_cases h1 : j < 288
    · have HTK : Hd ((fill litF 288 288).take (j + 1) = (fill litF 288 288).take j ++ [litF j]) := ⟨fill_take litF 288 j h1⟩
      have HL : Hd (litF j = if j < 144 then 8 else if j < 256 then 9 else if j < 280 then 7 else 8) := ⟨rfl⟩
      by_cases h2 : j < 144
      · rw [HL.out, if_pos h2] at HTK
        go_wp2_with (at_builtin; refine wpList_append_sl rfl (.tmp 23) (.tmp 25) 79 rfl 3 i0 (.int .i64 0) 1 8 Tryz.underlying79 hi0 hz0 hz1 hz2 rfl (by decide) (.slice A1 j d1) j _ rfl (by exact HO.out.alloc _) (some ⟨wr.heap.size, 0, none⟩) 1 1 [.int .i64 8] (some wr.heap.size) rfl rfl (by exact sl_of_blk (blk_new _ _)) (by intro h; cases h) (by intro u hu; simp at hu; subst hu; rfl) (by unfold maxLen; omega) (by omega) ?_; intro A3 d3 w3 hown3 hgrow3 haft3; have O3 := Hd.mk hown3; have G3 := Hd.mk hgrow3; have AF3 := Hd.mk haft3; clear hown3 hgrow3 haft3)
        go_roundg (gk - 1)
        case measure => omega
        case rel => exact ⟨j + 1, A3, d3, rfl, by go_num, by omega, ⟨by rw [HTK.out, i64s_app]; exact O3.out⟩, ⟨aft_new HB.out HF.out.size AF3.out⟩, ⟨(HF.out.alloc _).grown G3.out (fun y hy => .inr (HB.out y hy))⟩⟩
      by_cases h3 : j < 256
      · rw [HL.out, if_neg h2, if_pos h3] at HTK
        have h2' : ¬ ((j : Int) < 144) := by omega
        go_wp2_with (at_builtin; refine wpList_append_sl rfl (.tmp 23) (.tmp 25) 79 rfl 3 i0 (.int .i64 0) 1 8 Tryz.underlying79 hi0 hz0 hz1 hz2 rfl (by decide) (.slice A1 j d1) j _ rfl (by exact HO.out.alloc _) (some ⟨wr.heap.size, 0, none⟩) 1 1 [.int .i64 9] (some wr.heap.size) rfl rfl (by exact sl_of_blk (blk_new _ _)) (by intro h; cases h) (by intro u hu; simp at hu; subst hu; rfl) (by unfold maxLen; omega) (by omega) ?_; intro A3 d3 w3 hown3 hgrow3 haft3; have O3 := Hd.mk hown3; have G3 := Hd.mk hgrow3; have AF3 := Hd.mk haft3; clear hown3 hgrow3 haft3)
        go_roundg (gk - 1)
        case measure => omega
        case rel => exact ⟨j + 1, A3, d3, rfl, by go_num, by omega, ⟨by rw [HTK.out, i64s_app]; exact O3.out⟩, ⟨aft_new HB.out HF.out.size AF3.out⟩, ⟨(HF.out.alloc _).grown G3.out (fun y hy => .inr (HB.out y hy))⟩⟩
      by_cases h4 : j < 280
      · rw [HL.out, if_neg h2, if_neg h3, if_pos h4] at HTK
        go_wp2_with (at_builtin; refine wpList_append_sl rfl (.tmp 23) (.tmp 25) 79 rfl 3 i0 (.int .i64 0) 1 8 Tryz.underlying79 hi0 hz0 hz1 hz2 rfl (by decide) (.slice A1 j d1) j _ rfl (by exact HO.out.alloc _) (some ⟨wr.heap.size, 0, none⟩) 1 1 [.int .i64 7] (some wr.heap.size) rfl rfl (by exact sl_of_blk (blk_new _ _)) (by intro h; cases h) (by intro u hu; simp at hu; subst hu; rfl) (by unfold maxLen; omega) (by omega) ?_; intro A3 d3 w3 hown3 hgrow3 haft3; have O3 := Hd.mk hown3; have G3 := Hd.mk hgrow3; have AF3 := Hd.mk haft3; clear hown3 hgrow3 haft3)
        go_roundg (gk - 1)
        case measure => omega
        case rel => exact ⟨j + 1, A3, d3, rfl, by go_num, by omega, ⟨by rw [HTK.out, i64s_app]; exact O3.out⟩, ⟨aft_new HB.out HF.out.size AF3.out⟩, ⟨(HF.out.alloc _).grown G3.out (fun y hy => .inr (HB.out y hy))⟩⟩
      · rw [HL.out, if_neg h2, if_neg h3, if_neg h4] at HTK
        go_wp2_with (at_builtin; refine wpList_append_sl rfl (.tmp 23) (.tmp 25) 79 rfl 3 i0 (.int .i64 0) 1 8 Tryz.underlying79 hi0 hz0 hz1 hz2 rfl (by decide) (.slice A1 j d1) j _ rfl (by exact HO.out.alloc _) (some ⟨wr.heap.size, 0, none⟩) 1 1 [.int .i64 8] (some wr.heap.size) rfl rfl (by exact sl_of_blk (blk_new _ _)) (by intro h; cases h) (by intro u hu; simp at hu; subst hu; rfl) (by unfold maxLen; omega) (by omega) ?_; intro A3 d3 w3 hown3 hgrow3 haft3; have O3 := Hd.mk hown3; have G3 := Hd.mk hgrow3; have AF3 := Hd.mk haft3; clear hown3 hgrow3 haft3)
        go_roundg (gk - 1)
        case measure => omega
        case rel => exact ⟨j + 1, A3, d3, rfl, by go_num, by omega, ⟨by rw [HTK.out, i64s_app]; exact O3.out⟩, ⟨aft_new HB.out HF.out.size AF3.out⟩, ⟨(HF.out.alloc _).grown G3.out (fun y hy => .inr (HB.out y hy))⟩⟩
    · obtain rfl : j = 288 := by omega
      have HO2 : Hd (wr.ownsRow 0 3 1 (.slice A1 288 d1) 288 (i64s plainLit)) := ⟨by have := HO.out; rwa [List.take_of_length_le (by rw [fill_len]; exact Nat.le_refl _)] at this⟩
      clear HO
      go_wp2
      go_loopg [3, 6] 32 (fun kq sv jv wq => ∃ (j : Nat) (A2 : Option Addr) (d2 : Nat), sv = .slice A2 j d2 ∧ jv = .int .i64 (j : Nat) ∧ j + kq = 32 ∧ Hd (wq.ownsRow 0 3 1 (.slice A2 j d2) j (i64s ((fill (fun _ => 5) 32 32).take j))) ∧ Hd (∀ y, (Value.slice A2 j d2).ownBlock = some y → wr.heap.size ≤ y) ∧ Hd (Fr wr wq []))
      case atStart => exact ⟨0, none, 0, rfl, rfl, rfl, ⟨own_nil _ _ _ _⟩, ⟨by intro y hy; cases hy⟩, ⟨Fr.refl _ _⟩⟩
      case round =>
        obtain ⟨j, A2, d2, rfl, rfl, hj, HO, HB2, HF2⟩ := hrel
        by_cases h1 : j < 32
        · have HTK : Hd ((fill (fun _ => 5) 32 32).take (j + 1) = (fill (fun _ => 5) 32 32).take j ++ [5]) := ⟨fill_take (fun _ => 5) 32 j h1⟩
          go_wp2_with (at_builtin; refine wpList_append_sl rfl (.tmp 31) (.tmp 32) 79 rfl 3 i0 (.int .i64 0) 1 8 Tryz.underlying79 hi0 hz0 hz1 hz2 rfl (by decide) (.slice A2 j d2) j _ rfl (by exact HO.out.alloc _) (some ⟨wr.heap.size, 0, none⟩) 1 1 [.int .i64 5] (some wr.heap.size) rfl rfl (by exact sl_of_blk (blk_new _ _)) (by intro h; cases h) (by intro u hu; simp at hu; subst hu; rfl) (by unfold maxLen; omega) (by omega) ?_; intro A3 d3 w3 hown3 hgrow3 haft3; have O3 := Hd.mk hown3; have G3 := Hd.mk hgrow3; have AF3 := Hd.mk haft3; clear hown3 hgrow3 haft3)
          go_roundg (gk - 1)
          case measure => omega
          case rel => exact ⟨j + 1, A3, d3, rfl, by go_num, by omega, ⟨by rw [HTK.out, i64s_app]; exact O3.out⟩, ⟨aft_new HB2.out HF2.out.size AF3.out⟩, ⟨(HF2.out.alloc _).grown G3.out (fun y hy => .inr (HB2.out y hy))⟩⟩
        · obtain rfl : j = 32 := by omega
          have HO3 := HO.out
          rw [List.take_of_length_le (by rw [fill_len]; exact Nat.le_refl _)] at HO3
          have OP := Hd.mk (own_frame HO2.out HF2.out (by simp))
          have OQ := Hd.mk HO3
          obtain ⟨g1, c1, e1, _⟩ := own_some HO2.out (by decide)
          injection e1 with e1 _ e2
          subst e1 e2
          obtain ⟨g2, c2, e1, _⟩ := own_some HO3 (by decide)
          injection e1 with e1 _ e2
          subst e1 e2
          have hb1 := HB.out g1 rfl
          have hb2 := HB2.out g2 rfl
          have hs := HF.out.size
          clear HO HO2 HO3
          go_wp2
          go_ret2
          exact ⟨g1, g2, d1, d2, rfl, OP.out, OQ.out, hb1, by omega, HF.out.trans HF2.out (by simp)⟩
end Go.Proofs.YtkdgfioigkijgaaGreat.Blk
