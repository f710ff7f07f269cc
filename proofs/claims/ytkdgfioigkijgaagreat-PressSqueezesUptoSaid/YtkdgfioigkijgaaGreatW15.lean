import Derived.Test.YtkdgfioigkijgaaGreatW01
import Derived.Test.YtkdgfioigkijgaaGreatW02
import Derived.Test.YtkdgfioigkijgaaGreatW03
import Derived.Test.YtkdgfioigkijgaaGreatW04
import Derived.Test.YtkdgfioigkijgaaGreatW05
import Derived.Test.YtkdgfioigkijgaaGreatW06
import Derived.Test.YtkdgfioigkijgaaGreatW07
import Derived.Test.YtkdgfioigkijgaaGreatW08
import Derived.Test.YtkdgfioigkijgaaGreatW09
import Derived.Test.YtkdgfioigkijgaaGreatW10
import Derived.Test.YtkdgfioigkijgaaGreatW11
import Derived.Test.YtkdgfioigkijgaaGreatW12
import Derived.Test.YtkdgfioigkijgaaGreatW13
import Derived.Test.YtkdgfioigkijgaaGreatW14
import Derived.BigRegion
import Derived.BigQuiet
import Derived.Deep.QuietTactic
import Derived.Deep.LoopGhost
import Derived.Deep.DeepCutAuto
import Derived.KernelRfl
import Derived.Deep.RegionLaw
import Derived.Outline
import Derived.Deep.RegionHeld3
import Derived.RangeFuncNested
import Derived.RangeFuncBound
import Derived.RangeFuncCalls
import Derived.RangeFuncLeaves
import Derived.Shelf.Abstract
import Derived.Shelf.RegionOpen
import Derived.OwnWalkIn
import Derived.TacticsInMore
import Derived.LoopNIn
import Derived.LoopIn
set_option linter.unusedVariables false
set_option linter.unusedSimpArgs false
set_option maxRecDepth 100000
namespace Go.Proofs.YtkdgfioigkijgaaGreat.Blk
open Go.RowKit Go.Proofs.YtkdgfioigkijgaaGreat.Lib Go.Proofs.YtkdgfioigkijgaaGreat.Ints Go.Proofs.YtkdgfioigkijgaaGreat.Lz Go.Proofs.YtkdgfioigkijgaaGreat.Num Go.Proofs.YtkdgfioigkijgaaGreat.Bits
theorem own_end (l : List Tok) : Code.bitsOf (ownLit l) 256 ≠ 0 := by
  have h := (Head.okH_parts (own_okH l)).2.2.2.2.2
  have h2 := lens15_get (check15 (ownLit_check l)) 256
  unfold Code.bitsOf
  rw [if_pos ⟨by decide, by rw [ownLit_len]; decide⟩]
  have e : (256 : Int).toNat = 256 := rfl
  rw [e]
  omega
def ownP (l : List Tok) : List (Nat × Nat) := Head.headP (ownLit l) (ownDist l) ++ bodyP (ownLit l) (ownDist l) l
theorem headP_tot (l : List Tok) : totOf (Head.headP (ownLit l) (ownDist l)) ≤ 14 + 57 + 22 * 316 := by
  obtain ⟨_, r2, _⟩ := Head.hruns_ok (own_okH l)
  have h1 := Head.runsP_tot (Head.hlens_check (rs := Head.hruns (ownLit l) (ownDist l)) (by omega)) (Head.hruns (ownLit l) (ownDist l))
  have h2 := Head.toldN_le (Head.hlens (Head.hruns (ownLit l) (ownDist l))) 19
  have h3 := Head.ordP_tot (Head.hlens (Head.hruns (ownLit l) (ownDist l))) (Head.toldN (Head.hlens (Head.hruns (ownLit l) (ownDist l))) 19) (by omega)
  unfold Head.headP
  rw [totOf_app, totOf_app, h3]
  simp only [totOf]
  omega
set_option maxHeartbeats 4000000 in
theorem ownWrite_any (w : World) (D : Option Addr) (nd cd : Nat) (A : Option Addr) (n c : Nat) (l : List Tok) (p : Option Nat) (hn : l.length = n) (hS : Sl w A (tcells l) p) (hb : n ≤ 65536) (hmay : mayB l = 0) (hl : LitB l)
    (gw N m : Nat) (q : Option Nat) (hT : Tl w gw 27 N m q) (hp : ∀ k, p = some k → k ∉ gw :: q.toList ∧ k < w.heap.size) (hm : m ≤ 562949953412000) :
    Calls Tryz.prog 86 #[.pointer (some ⟨gw, 0, none⟩), .slice D nd cd, .slice A n c] w fun e w' => e = .returned (.int .i64 0) ∧ ∃ q', Pw w w' gw q q' N m (ownP l) := by
  have HS := Hd.mk hS
  have HR := Hd.mk (And.intro (mayB_zero hmay).2 hl)
  have HMAY := Hd.mk hmay
  have HP := Hd.mk hp
  have T0 := Hd.mk hT
  clear hS hl hp hT hmay
  go_enter Tryz.func86, Tryz.ntmps86
  go_wp2_with (fail)
  refine (ownLens_any w A n c l p hn HS.out (by omega) HR.out.2).mono ?_
  rintro r w1 hp
  unfold OwnPost at hp
  obtain ⟨A1, c1, B1, d1, rfl, h1, h2, _, _, h3⟩ := hp.1 HMAY.out
  have O1 := Hd.mk h1
  have O2 := Hd.mk h2
  have F1 := Hd.mk h3
  have T1 := Hd.mk (T0.out.frame h3 (by simp) (by simp))
  clear h1 h2 h3 hp
  go_wp2_with (fail)
  refine (Head.hwrite_any w1 A1 B1 286 c1 30 d1 (ownLit l) (ownDist l) _ _ (slArg_own O1.out) (slArg_own O2.out) 0 (by rw [own_okH]; rfl) gw N m q T1.out (by omega)).mono ?_
  rintro r w2 ⟨rfl, hw⟩
  unfold Head.WrP at hw
  obtain ⟨q2, h2⟩ := hw.1 (own_okH l)
  have P2 := Hd.mk (own_keep T1.out h2.fr O1.out (by decide) (by decide))
  have P3 := Hd.mk (own_keep T1.out h2.fr O2.out (by decide) (by decide))
  have W2 := Hd.mk (Pw.after F1.out h2)
  have ht := headP_tot l
  clear hw h2 O1 O2 T1
  go_wp2_with (fail)
  refine (lay_any w2 A1 B1 286 c1 30 d1 (ownLit l) (ownDist l) _ _ (slArg_own P2.out) (slArg_own P3.out) (ownLit_check l) (ownDist_check l) A n c l p hn (HS.out.frame W2.out.fr (fun k hk => (HP.out k hk).1)) hb HR.out.1 HR.out.2 gw _ _ q2 W2.out.tl (fun k hk hm' => (HP.out k hk).1 (W2.out.mem (HP.out k hk).2 hm')) (by omega) 0 (by rw [if_neg (own_end l)])).mono ?_
  rintro r w3 ⟨rfl, q3, h3⟩
  have W3 := Hd.mk (W2.out.more h3)
  clear h3
  go_wp2
  go_ret
  exact ⟨rfl, q3, W3.out⟩
def kindP (k m : Nat) (data : List Int) (l : List Tok) : List (Nat × Nat) :=
  if k = 0 then storedP m data else if k = 1 then bodyP plainLit plainDist l else ownP l
def blockP (k m : Nat) (b : Bool) (data : List Int) (l : List Tok) : List (Nat × Nat) := [(lastN b, 1), (k, 2)] ++ kindP k (m + 3) data l
def wrErr (k : Int) (nd : Nat) (l : List Tok) : Int :=
  if k < 0 ∨ 2 < k then 1 else if mayB l ≠ 0 then mayB l else if k = 0 ∧ 65535 < Lz.sizeOf l then 90 else if nd ≠ Lz.sizeOf l then 1 else 0
set_option maxHeartbeats 16000000 in
theorem write3_any (w : World) (k : Nat) (hk : k < 3) (b : Bool) (D : Option Addr) (cd : Nat) (data : List Int) (pd : Option Nat) (hD : Sl w D (u8s data) pd) (hDn : D = none → data.length = 0 ∧ cd = 0) (hby : ∀ x ∈ data, 0 ≤ x ∧ x ≤ 255) (hnd : data.length ≤ 4611686018427387904)
    (A : Option Addr) (n c : Nat) (l : List Tok) (p : Option Nat) (hn : l.length = n) (hS : Sl w A (tcells l) p) (hb : n ≤ 1099511627776) (hl : LitB l)
    (gw N m : Nat) (q : Option Nat) (hT : Tl w gw 27 N m q) (hp : ∀ k, p = some k → k ∉ gw :: q.toList ∧ k < w.heap.size) (hpd : ∀ k, pd = some k → k ∉ gw :: q.toList ∧ k < w.heap.size) (hm : m ≤ 562949953410000) (er : Int) (he : er = wrErr k data.length l) :
    Calls Tryz.prog 17 #[.pointer (some ⟨gw, 0, none⟩), .int .i64 (k : Nat), .bool b, .slice D data.length cd, .slice A n c] w fun e w' => e = .returned (.int .i64 er) ∧ WrPost w w' gw N m q er (blockP k m b data l) := by
  have HS := Hd.mk hS
  have HL := Hd.mk hl
  have HP := Hd.mk hp
  have HD := Hd.mk hD
  have HDN := Hd.mk hDn
  have HBY := Hd.mk hby
  have HPD := Hd.mk hpd
  have T0 := Hd.mk hT
  have HE : Hd (er = if mayB l ≠ 0 then mayB l else if k = 0 ∧ 65535 < Lz.sizeOf l then 90 else if data.length ≠ Lz.sizeOf l then 1 else 0) := ⟨by rw [he]; unfold wrErr; rw [if_neg (by omega)]; simp only [show (((k : Int) = 0 ∧ 65535 < Lz.sizeOf l) ↔ (k = 0 ∧ 65535 < Lz.sizeOf l)) from by omega]⟩
  clear hS hl hp hT he hD hDn hby hpd
  obtain ⟨nd, hnd'⟩ : ∃ nd, nd = data.length := ⟨_, rfl⟩
  rw [← hnd'] at hnd HE ⊢
  have HND := Hd.mk hnd'
  clear hnd'
  obtain ⟨bh, hbh⟩ : ∃ bh, bh = m % 8 := ⟨_, rfl⟩
  have hk8 : (m : Int) % 8 = (bh : Int) := by omega
  have hk7 : bh ≤ 7 := by omega
  clear hbh
  obtain ⟨e, he⟩ : ∃ e, e = mayB l := ⟨_, rfl⟩
  rw [← he] at HE
  have HM := Hd.mk he
  have HCK : Hd (65535 < Lz.sizeOf l → mayB l = 0 → (costK 0 (bh : Int) l) = (0, 90)) := ⟨fun h _ => by unfold costK; rw [if_pos rfl, if_pos h]⟩
  have HC2 : Hd (¬ (k = 0 ∧ 65535 < Lz.sizeOf l) → (costK k (bh : Int) l).2 = 0) := ⟨fun h => by
    unfold costK
    by_cases h0 : k = 0
    · rw [if_pos h0, if_neg (fun h' => h ⟨h0, h'⟩)]
    · rw [if_neg h0]; split <;> rfl⟩
  obtain ⟨cm, hcm⟩ : ∃ cm, cm = if e = 0 then costK k (bh : Int) l else (0, e) := ⟨_, rfl⟩
  have HCM := Hd.mk hcm
  clear hcm he
  go_enter Tryz.func17, Tryz.ntmps17
  go_wp2_with (fail)
  refine (len_any _ T0.out).mono ?_
  rintro r w' ⟨rfl, rfl⟩
  go_wp2_with (fail)
  refine (cost3_any w k hk (bh : Int) (by omega) (by omega) A n c l p hn HS.out (Nat.le_trans hb (by decide)) HL.out cm.1 cm.2 (by
    rw [HCM.out, HM.out]
    split
    · exact ⟨rfl, rfl⟩
    · exact ⟨rfl, rfl⟩)).mono ?_
  rintro r w1 ⟨rfl, h1⟩
  have F1 := Hd.mk h1
  have T1 := Hd.mk (T0.out.frame h1 (by simp) (by simp))
  clear h1
  obtain ⟨cm1, cm2⟩ := cm
  by_cases h : e = 0
  · subst h
    have HE2 : Hd (er = if k = 0 ∧ 65535 < Lz.sizeOf l then 90 else if nd ≠ Lz.sizeOf l then 1 else 0) := ⟨by rw [HE.out, if_neg (by simp)]⟩
    have hz := mayB_zero HM.out.symm
    have HZ := Hd.mk hz.2
    have hz1 := hz.1
    clear hz
    by_cases hbig : k = 0 ∧ 65535 < Lz.sizeOf l
    · obtain ⟨rfl, hb2⟩ := hbig
      have e1 : ((cm1, cm2) : Int × Int) = (0, 90) := by rw [HCM.out, if_pos rfl]; exact HCK.out hb2 HM.out.symm
      injection e1 with e1 e2
      subst e1 e2
      obtain rfl : er = 90 := by rw [HE2.out, if_pos ⟨rfl, hb2⟩]
      go_wp2
      go_ret
      exact ⟨rfl, (fun h => by cases h), fun _ => F1.out⟩
    · have HE3 : Hd (er = if nd ≠ Lz.sizeOf l then 1 else 0) := ⟨by rw [HE2.out, if_neg hbig]⟩
      obtain rfl : cm2 = 0 := by
        have := HC2.out hbig
        rw [← show ((cm1, cm2) : Int × Int) = costK k (bh : Int) l from by rw [HCM.out, if_pos rfl]] at this
        exact this
      have HBIG := Hd.mk hbig
      clear hbig
      go_wp2_with (fail)
      refine (size_any w1 A n c l p hn (HS.out.frame F1.out (by simp)) hb).mono ?_
      rintro r w2 ⟨rfl, h2⟩
      have F2 := Hd.mk (F1.out.trans h2 (by simp))
      have T2 := Hd.mk (T1.out.frame h2 (by simp) (by simp))
      clear h2 T1
      have hsz := Lz.sizeOf_le l
      obtain ⟨s, hs⟩ : ∃ s, s = Lz.sizeOf l := ⟨_, rfl⟩
      rw [← hs] at HE3 hsz HBIG ⊢
      clear hs
      by_cases hns : nd = s
      · subst hns
        obtain rfl : er = 0 := by rw [HE3.out, if_neg (by simp)]
        have hne : ((nd : Int) != (nd : Int)) = false := by simp
        clear HE HE2 HE3 HCM HC2 HCK
        have hc : k = 0 ∨ k = 1 ∨ k = 2 := by omega
        rcases hc with rfl | rfl | rfl
        · have hi : ∀ W : World, (Instr.index 121 (.agg waysC) (.int .i64 ((0 : Nat) : Int))).run Tryz.prog W = _ := ways0
          have hnd6 : nd ≤ 65535 := by have := HBIG.out; omega
          have hi2 := ways0
          have hf := way0w
          cases b with
          | false =>
            have HBP : Hd (blockP 0 m false data l = [(0, 1), (0, 2)] ++ kindP 0 (m + 3) data l) := ⟨rfl⟩
            go_wp2_with (fail)
            refine (wput 0 1 0 rfl (by decide) (by omega) (by omega) T2.out (by have : (1 : Int).toNat = 1 := rfl; omega)).mono ?_
            rintro r w3 ⟨rfl, hpl⟩
            obtain ⟨q3, h3⟩ := (Pw.start T2.out).put (by simpa [numOf, totOf] using hpl)
            have W3 : Hd (Pw w2 w3 gw q q3 N m [(0, 1)]) := ⟨h3⟩
            clear hpl h3
            go_wp2_with (fail)
            refine (wput 0 2 0 rfl (by decide) (by omega) (by omega) W3.out.tl (by have : (2 : Int).toNat = 2 := rfl; have : totOf [(0, 1)] = 1 := rfl; omega)).mono ?_
            rintro r w4 ⟨rfl, hpl⟩
            obtain ⟨q4, h4⟩ := W3.out.put hpl
            have W4 : Hd (Pw w2 w4 gw q q4 N m [(0, 1), (0, 2)]) := ⟨h4⟩
            have t4 : totOf [(0, 1), (0, 2)] = 3 := rfl
            clear hpl h4
            go_wp2_with (fail)
            refine (ways_any w4).mono ?_
            rintro r w5 ⟨rfl, h5⟩
            have W5 := Hd.mk (Pw.after F2.out (W4.out.call h5))
            clear h5 W4
            go_wp2_with (fail)
            have hcall := storedWrite_any w5 D cd data pd (HD.out.frame W5.out.fr (fun k hk => (HPD.out k hk).1)) HDN.out HBY.out (by have := HND.out; omega) A n c gw _ _ q4 W5.out.tl (fun k hk => ⟨fun hm => (HPD.out k hk).1 (W5.out.mem (HPD.out k hk).2 hm), Nat.lt_of_lt_of_le (HPD.out k hk).2 W5.out.fr.size⟩) (by rw [t4]; omega)
            rw [← HND.out] at hcall
            refine hcall.mono ?_
            rintro r w6 ⟨rfl, q6, h6⟩
            have W6 := Hd.mk (W5.out.more h6)
            clear h6 hcall
            go_wp2
            go_ret
            exact ⟨rfl, (fun _ => ⟨q6, by rw [HBP.out]; exact W6.out⟩), fun h => absurd rfl h⟩
          | true =>
            have HBP : Hd (blockP 0 m true data l = [(1, 1), (0, 2)] ++ kindP 0 (m + 3) data l) := ⟨rfl⟩
            go_wp2_with (fail)
            refine (wput 1 1 1 rfl (by decide) (by omega) (by omega) T2.out (by have : (1 : Int).toNat = 1 := rfl; omega)).mono ?_
            rintro r w3 ⟨rfl, hpl⟩
            obtain ⟨q3, h3⟩ := (Pw.start T2.out).put (by simpa [numOf, totOf] using hpl)
            have W3 : Hd (Pw w2 w3 gw q q3 N m [(1, 1)]) := ⟨h3⟩
            clear hpl h3
            go_wp2_with (fail)
            refine (wput 0 2 0 rfl (by decide) (by omega) (by omega) W3.out.tl (by have : (2 : Int).toNat = 2 := rfl; have : totOf [(1, 1)] = 1 := rfl; omega)).mono ?_
            rintro r w4 ⟨rfl, hpl⟩
            obtain ⟨q4, h4⟩ := W3.out.put hpl
            have W4 : Hd (Pw w2 w4 gw q q4 N m [(1, 1), (0, 2)]) := ⟨h4⟩
            have t4 : totOf [(1, 1), (0, 2)] = 3 := rfl
            clear hpl h4
            go_wp2_with (fail)
            refine (ways_any w4).mono ?_
            rintro r w5 ⟨rfl, h5⟩
            have W5 := Hd.mk (Pw.after F2.out (W4.out.call h5))
            clear h5 W4
            go_wp2_with (fail)
            have hcall := storedWrite_any w5 D cd data pd (HD.out.frame W5.out.fr (fun k hk => (HPD.out k hk).1)) HDN.out HBY.out (by have := HND.out; omega) A n c gw _ _ q4 W5.out.tl (fun k hk => ⟨fun hm => (HPD.out k hk).1 (W5.out.mem (HPD.out k hk).2 hm), Nat.lt_of_lt_of_le (HPD.out k hk).2 W5.out.fr.size⟩) (by rw [t4]; omega)
            rw [← HND.out] at hcall
            refine hcall.mono ?_
            rintro r w6 ⟨rfl, q6, h6⟩
            have W6 := Hd.mk (W5.out.more h6)
            clear h6 hcall
            go_wp2
            go_ret
            exact ⟨rfl, (fun _ => ⟨q6, by rw [HBP.out]; exact W6.out⟩), fun h => absurd rfl h⟩
        · have hi : ∀ W : World, (Instr.index 121 (.agg waysC) (.int .i64 ((1 : Nat) : Int))).run Tryz.prog W = _ := ways1
          have hi2 := ways1
          have hf := way1w
          cases b with
          | false =>
            have HBP : Hd (blockP 1 m false data l = [(0, 1), (1, 2)] ++ kindP 1 (m + 3) data l) := ⟨rfl⟩
            go_wp2_with (fail)
            refine (wput 0 1 0 rfl (by decide) (by omega) (by omega) T2.out (by have : (1 : Int).toNat = 1 := rfl; omega)).mono ?_
            rintro r w3 ⟨rfl, hpl⟩
            obtain ⟨q3, h3⟩ := (Pw.start T2.out).put (by simpa [numOf, totOf] using hpl)
            have W3 : Hd (Pw w2 w3 gw q q3 N m [(0, 1)]) := ⟨h3⟩
            clear hpl h3
            go_wp2_with (fail)
            refine (wput 1 2 1 rfl (by decide) (by omega) (by omega) W3.out.tl (by have : (2 : Int).toNat = 2 := rfl; have : totOf [(0, 1)] = 1 := rfl; omega)).mono ?_
            rintro r w4 ⟨rfl, hpl⟩
            obtain ⟨q4, h4⟩ := W3.out.put hpl
            have W4 : Hd (Pw w2 w4 gw q q4 N m [(0, 1), (1, 2)]) := ⟨h4⟩
            have t4 : totOf [(0, 1), (1, 2)] = 3 := rfl
            clear hpl h4
            go_wp2_with (fail)
            refine (ways_any w4).mono ?_
            rintro r w5 ⟨rfl, h5⟩
            have W5 := Hd.mk (Pw.after F2.out (W4.out.call h5))
            clear h5 W4
            go_wp2_with (fail)
            have hcall := plainWrite_any w5 D nd cd A n c l p hn (HS.out.frame W5.out.fr (fun k hk => (HP.out k hk).1)) (by omega) HZ.out HL.out gw _ _ q4 W5.out.tl (fun k hk hm => (HP.out k hk).1 (W5.out.mem (HP.out k hk).2 hm)) (by rw [t4]; omega)
            refine hcall.mono ?_
            rintro r w6 ⟨rfl, q6, h6⟩
            have W6 := Hd.mk (W5.out.more h6)
            clear h6 hcall
            go_wp2
            go_ret
            exact ⟨rfl, (fun _ => ⟨q6, by rw [HBP.out]; exact W6.out⟩), fun h => absurd rfl h⟩
          | true =>
            have HBP : Hd (blockP 1 m true data l = [(1, 1), (1, 2)] ++ kindP 1 (m + 3) data l) := ⟨rfl⟩
            go_wp2_with (fail)
            refine (wput 1 1 1 rfl (by decide) (by omega) (by omega) T2.out (by have : (1 : Int).toNat = 1 := rfl; omega)).mono ?_
            rintro r w3 ⟨rfl, hpl⟩
            obtain ⟨q3, h3⟩ := (Pw.start T2.out).put (by simpa [numOf, totOf] using hpl)
            have W3 : Hd (Pw w2 w3 gw q q3 N m [(1, 1)]) := ⟨h3⟩
            clear hpl h3
            go_wp2_with (fail)
            refine (wput 1 2 1 rfl (by decide) (by omega) (by omega) W3.out.tl (by have : (2 : Int).toNat = 2 := rfl; have : totOf [(1, 1)] = 1 := rfl; omega)).mono ?_
            rintro r w4 ⟨rfl, hpl⟩
            obtain ⟨q4, h4⟩ := W3.out.put hpl
            have W4 : Hd (Pw w2 w4 gw q q4 N m [(1, 1), (1, 2)]) := ⟨h4⟩
            have t4 : totOf [(1, 1), (1, 2)] = 3 := rfl
            clear hpl h4
            go_wp2_with (fail)
            refine (ways_any w4).mono ?_
            rintro r w5 ⟨rfl, h5⟩
            have W5 := Hd.mk (Pw.after F2.out (W4.out.call h5))
            clear h5 W4
            go_wp2_with (fail)
            have hcall := plainWrite_any w5 D nd cd A n c l p hn (HS.out.frame W5.out.fr (fun k hk => (HP.out k hk).1)) (by omega) HZ.out HL.out gw _ _ q4 W5.out.tl (fun k hk hm => (HP.out k hk).1 (W5.out.mem (HP.out k hk).2 hm)) (by rw [t4]; omega)
            refine hcall.mono ?_
            rintro r w6 ⟨rfl, q6, h6⟩
            have W6 := Hd.mk (W5.out.more h6)
            clear h6 hcall
            go_wp2
            go_ret
            exact ⟨rfl, (fun _ => ⟨q6, by rw [HBP.out]; exact W6.out⟩), fun h => absurd rfl h⟩
        · have hi : ∀ W : World, (Instr.index 121 (.agg waysC) (.int .i64 ((2 : Nat) : Int))).run Tryz.prog W = _ := ways2
          have hi2 := ways2
          have hf := way2w
          cases b with
          | false =>
            have HBP : Hd (blockP 2 m false data l = [(0, 1), (2, 2)] ++ kindP 2 (m + 3) data l) := ⟨rfl⟩
            go_wp2_with (fail)
            refine (wput 0 1 0 rfl (by decide) (by omega) (by omega) T2.out (by have : (1 : Int).toNat = 1 := rfl; omega)).mono ?_
            rintro r w3 ⟨rfl, hpl⟩
            obtain ⟨q3, h3⟩ := (Pw.start T2.out).put (by simpa [numOf, totOf] using hpl)
            have W3 : Hd (Pw w2 w3 gw q q3 N m [(0, 1)]) := ⟨h3⟩
            clear hpl h3
            go_wp2_with (fail)
            refine (wput 2 2 2 rfl (by decide) (by omega) (by omega) W3.out.tl (by have : (2 : Int).toNat = 2 := rfl; have : totOf [(0, 1)] = 1 := rfl; omega)).mono ?_
            rintro r w4 ⟨rfl, hpl⟩
            obtain ⟨q4, h4⟩ := W3.out.put hpl
            have W4 : Hd (Pw w2 w4 gw q q4 N m [(0, 1), (2, 2)]) := ⟨h4⟩
            have t4 : totOf [(0, 1), (2, 2)] = 3 := rfl
            clear hpl h4
            go_wp2_with (fail)
            refine (ways_any w4).mono ?_
            rintro r w5 ⟨rfl, h5⟩
            have W5 := Hd.mk (Pw.after F2.out (W4.out.call h5))
            clear h5 W4
            go_wp2_with (fail)
            have hcall := ownWrite_any w5 D nd cd A n c l p hn (HS.out.frame W5.out.fr (fun k hk => (HP.out k hk).1)) (by omega) HM.out.symm HL.out gw _ _ q4 W5.out.tl (fun k hk => ⟨fun hm => (HP.out k hk).1 (W5.out.mem (HP.out k hk).2 hm), Nat.lt_of_lt_of_le (HP.out k hk).2 W5.out.fr.size⟩) (by rw [t4]; omega)
            refine hcall.mono ?_
            rintro r w6 ⟨rfl, q6, h6⟩
            have W6 := Hd.mk (W5.out.more h6)
            clear h6 hcall
            go_wp2
            go_ret
            exact ⟨rfl, (fun _ => ⟨q6, by rw [HBP.out]; exact W6.out⟩), fun h => absurd rfl h⟩
          | true =>
            have HBP : Hd (blockP 2 m true data l = [(1, 1), (2, 2)] ++ kindP 2 (m + 3) data l) := ⟨rfl⟩
            go_wp2_with (fail)
            refine (wput 1 1 1 rfl (by decide) (by omega) (by omega) T2.out (by have : (1 : Int).toNat = 1 := rfl; omega)).mono ?_
            rintro r w3 ⟨rfl, hpl⟩
            obtain ⟨q3, h3⟩ := (Pw.start T2.out).put (by simpa [numOf, totOf] using hpl)
            have W3 : Hd (Pw w2 w3 gw q q3 N m [(1, 1)]) := ⟨h3⟩
            clear hpl h3
            go_wp2_with (fail)
            refine (wput 2 2 2 rfl (by decide) (by omega) (by omega) W3.out.tl (by have : (2 : Int).toNat = 2 := rfl; have : totOf [(1, 1)] = 1 := rfl; omega)).mono ?_
            rintro r w4 ⟨rfl, hpl⟩
            obtain ⟨q4, h4⟩ := W3.out.put hpl
            have W4 : Hd (Pw w2 w4 gw q q4 N m [(1, 1), (2, 2)]) := ⟨h4⟩
            have t4 : totOf [(1, 1), (2, 2)] = 3 := rfl
            clear hpl h4
            go_wp2_with (fail)
            refine (ways_any w4).mono ?_
            rintro r w5 ⟨rfl, h5⟩
            have W5 := Hd.mk (Pw.after F2.out (W4.out.call h5))
            clear h5 W4
            go_wp2_with (fail)
            have hcall := ownWrite_any w5 D nd cd A n c l p hn (HS.out.frame W5.out.fr (fun k hk => (HP.out k hk).1)) (by omega) HM.out.symm HL.out gw _ _ q4 W5.out.tl (fun k hk => ⟨fun hm => (HP.out k hk).1 (W5.out.mem (HP.out k hk).2 hm), Nat.lt_of_lt_of_le (HP.out k hk).2 W5.out.fr.size⟩) (by rw [t4]; omega)
            refine hcall.mono ?_
            rintro r w6 ⟨rfl, q6, h6⟩
            have W6 := Hd.mk (W5.out.more h6)
            clear h6 hcall
            go_wp2
            go_ret
            exact ⟨rfl, (fun _ => ⟨q6, by rw [HBP.out]; exact W6.out⟩), fun h => absurd rfl h⟩
      · obtain rfl : er = 1 := by rw [HE3.out, if_pos hns]
        have hne : ((nd : Int) != (s : Int)) = true := by simp; omega
        clear HE HE2 HE3 HCM HC2 HCK
        go_wp2
        go_ret
        exact ⟨rfl, (fun h => by cases h), fun _ => F2.out⟩
  · have hne : (e != 0) = true := by simpa using h
    have e1 : ((cm1, cm2) : Int × Int) = (0, e) := by rw [HCM.out, if_neg h]
    injection e1 with e1 e2
    subst e1 e2
    obtain rfl : er = cm2 := by rw [HE.out, if_pos h]
    go_wp2
    go_ret
    exact ⟨rfl, (fun h' => absurd h' h), fun _ => F1.out⟩
end Go.Proofs.YtkdgfioigkijgaaGreat.Blk
set_option linter.unusedVariables false
set_option linter.unusedSimpArgs false
set_option maxRecDepth 100000
namespace Go.Proofs.YtkdgfioigkijgaaGreat.Blk
open Go.RowKit Go.Proofs.YtkdgfioigkijgaaGreat.Lib Go.Proofs.YtkdgfioigkijgaaGreat.Ints Go.Proofs.YtkdgfioigkijgaaGreat.Lz Go.Proofs.YtkdgfioigkijgaaGreat.Num Go.Proofs.YtkdgfioigkijgaaGreat.Bits
theorem part_bits {lens : List Int} (h15 : Lens15 lens) {s : Int} (h0 : 0 ≤ s) (h1 : s < (lens.length : Nat)) : (((Code.part lens s).2 : Nat) : Int) = lens.getD s.toNat 0 := by
  have h2 := lens15_get h15 s.toNat
  unfold Code.part Code.bitsOf
  simp only
  rw [if_pos ⟨h0, h1⟩]
  omega
theorem tokP_bits {lit dist : List Int} (ha : Lens15 lit) (hb : Lens15 dist) (hx : 286 ≤ lit.length) (hy : 30 ≤ dist.length) {t : Tok} (hr : right t = true) (hl : 0 ≤ t.lit ∧ t.lit ≤ 255) : (totOf (tokP lit dist t) : Int) = tkBits lit dist t := by
  have sa := (sgA_fit hr hl).1
  have sb := sgB_fit hr
  have pa := part_bits ha sa.sym.1 (by have := sa.sym.2; omega)
  have pb := part_bits hb sb.sym.1 (by have := sb.sym.2; omega)
  have ba := sa.bits
  have bb := sb.bits
  unfold tokP tkBits
  split
  · simp only [List.append_nil, totOf]
    omega
  · simp only [List.cons_append, List.nil_append, totOf]
    omega
theorem toksP_bits {lit dist : List Int} (ha : Lens15 lit) (hb : Lens15 dist) (hx : 286 ≤ lit.length) (hy : 30 ≤ dist.length) : ∀ (l : List Tok), (∀ t ∈ l, right t = true) → LitB l → (totOf (toksP lit dist l) : Int) = codedF lit dist l
  | [], _, _ => rfl
  | t :: l, hr, hl => by
    have h1 := tokP_bits ha hb hx hy (hr t (by simp)) (hl t (by simp))
    have h2 := toksP_bits ha hb hx hy l (fun u hu => hr u (by simp [hu])) (fun u hu => hl u (by simp [hu]))
    have e : toksP lit dist (t :: l) = tokP lit dist t ++ toksP lit dist l := by simp [toksP]
    rw [e, totOf_app, codedF]
    omega
theorem bodyP_bits {lit dist : List Int} (ha : Lens15 lit) (hb : Lens15 dist) (hx : 286 ≤ lit.length) (hy : 30 ≤ dist.length) {l : List Tok} (hr : ∀ t ∈ l, right t = true) (hl : LitB l) : (totOf (bodyP lit dist l) : Int) = codedN lit dist l := by
  have h1 := toksP_bits ha hb hx hy l hr hl
  have h2 := part_bits ha (s := 256) (by decide) (by omega)
  rw [show (256 : Int).toNat = 256 from rfl] at h2
  unfold bodyP codedN
  rw [totOf_snoc2]
  omega
theorem headP_bits {lit dist : List Int} (h : Head.okH lit dist = true) : (totOf (Head.headP lit dist) : Int) = Head.hcost lit dist := by
  obtain ⟨r1, r2, _⟩ := Head.hruns_ok h
  have hck := Head.hlens_check (rs := Head.hruns lit dist) (by omega)
  have h19 := Head.hlens_len (rs := Head.hruns lit dist) (by omega)
  have h2 := Head.toldN_le (Head.hlens (Head.hruns lit dist)) 19
  have h3 := Head.ordP_tot (Head.hlens (Head.hruns lit dist)) (Head.toldN (Head.hlens (Head.hruns lit dist)) 19) (by omega)
  have h4 : ∀ rs : List (Int × Int), (∀ r ∈ rs, Head.RunB r) → (totOf (Head.runsP (Head.hlens (Head.hruns lit dist)) rs) : Int) = Head.costF (Head.hlens (Head.hruns lit dist)) rs := by
    intro rs
    induction rs with
    | nil => intro _; rfl
    | cons r rs ih =>
      intro hr
      have i1 := ih (fun u hu => hr u (by simp [hu]))
      obtain ⟨b1, b2, _⟩ := hr r (by simp)
      have pb := part_bits (check15 hck) b1 (by rw [h19]; omega)
      have kb := Head.kbits_le r.1
      have e : Head.runsP (Head.hlens (Head.hruns lit dist)) (r :: rs) = Head.runP (Head.hlens (Head.hruns lit dist)) r ++ Head.runsP (Head.hlens (Head.hruns lit dist)) rs := by simp [Head.runsP]
      rw [e, totOf_app, Head.costF, Head.runCost]
      simp only [Head.runP, totOf]
      omega
  have h5 := h4 _ r1
  unfold Head.headP Head.hcost
  rw [totOf_app, totOf_app, h3]
  simp only [totOf]
  omega
theorem blockP_bits {k m : Nat} {b : Bool} {data : List Int} {l : List Tok} (hk : k < 3) (hmay : mayB l = 0) (hl : LitB l) (hd : data.length = Lz.sizeOf l) (he : (costK k ((m % 8 : Nat) : Int) l).2 = 0) : (totOf (blockP k m b data l) : Int) = (costK k ((m % 8 : Nat) : Int) l).1 := by
  obtain ⟨_, hr⟩ := mayB_zero hmay
  have e : totOf (blockP k m b data l) = 3 + totOf (kindP k (m + 3) data l) := by unfold blockP; rw [totOf_app]; rfl
  rw [e]
  unfold kindP
  by_cases h0 : k = 0
  · subst h0
    unfold costK at he ⊢
    rw [if_pos rfl] at he ⊢
    by_cases hb : 65535 < Lz.sizeOf l
    · rw [if_pos hb] at he; cases he
    · rw [if_pos rfl, if_neg hb]
      unfold storedP
      rw [totOf_app, bytesP_tot, hd]
      simp only [totOf]
      omega
  · rw [if_neg h0]
    unfold costK
    rw [if_neg h0]
    by_cases h1 : k = 1
    · rw [if_pos h1, if_pos h1]
      have := bodyP_bits plainLit15 plainDist15 (by rw [show plainLit.length = 288 from fill_len _ _ _]; decide) (by rw [show plainDist.length = 32 from fill_len _ _ _]; decide) hr hl
      simp only
      omega
    · rw [if_neg h1, if_neg h1]
      have a := bodyP_bits (check15 (ownLit_check l)) (check15 (ownDist_check l)) (by rw [ownLit_len]; decide) (by rw [ownDist_len]; decide) hr hl
      have c := headP_bits (own_okH l)
      unfold ownP
      rw [totOf_app]
      simp only
      omega
theorem pickF_best {bh : Int} (h0 : 0 ≤ bh) (h7 : bh ≤ 7) {l : List Tok} (h : mayB l = 0) (hl : LitB l) : ∀ k, k ≤ 3 → (∀ j, j < k → (costK j bh l).2 = 0 → 0 ≤ (pickF bh l k).2 ∧ (pickF bh l k).2 ≤ (costK j bh l).1) ∧ (0 ≤ (pickF bh l k).2 → ∃ j : Nat, j < k ∧ (pickF bh l k).1 = (j : Int) ∧ (costK j bh l).2 = 0 ∧ (pickF bh l k).2 = (costK j bh l).1)
  | 0, _ => ⟨fun j hj => absurd hj (by omega), fun h => by simp [pickF] at h⟩
  | k + 1, hk => by
    obtain ⟨i1, i2⟩ := pickF_best h0 h7 h hl k (by omega)
    have hc := costK_le h0 h7 h hl k
    rw [pickF]
    by_cases hp : (costK k bh l).2 = 0 ∧ ((pickF bh l k).2 < 0 ∨ (costK k bh l).1 < (pickF bh l k).2)
    · rw [if_pos hp]
      refine ⟨fun j hj he => ?_, fun _ => ⟨k, by omega, rfl, hp.1, rfl⟩⟩
      refine ⟨hc.1, ?_⟩
      by_cases e : j = k
      · subst e; exact Int.le_refl _
      · have := i1 j (by omega) he
        simp only
        omega
    · rw [if_neg hp]
      refine ⟨fun j hj he => ?_, fun hpos => ?_⟩
      · by_cases e : j = k
        · subst e
          have h1 : ¬ ((pickF bh l j).2 < 0 ∨ (costK j bh l).1 < (pickF bh l j).2) := fun h => hp ⟨he, h⟩
          omega
        · exact i1 j (by omega) he
      · obtain ⟨j, a, b, c, d⟩ := i2 hpos
        exact ⟨j, by omega, b, c, d⟩
end Go.Proofs.YtkdgfioigkijgaaGreat.Blk
set_option linter.unusedVariables false
set_option linter.unusedSimpArgs false
set_option maxRecDepth 100000
namespace Go.Proofs.YtkdgfioigkijgaaGreat.Prs
open Go.RowKit Go.Proofs.YtkdgfioigkijgaaGreat.Lib Go.Proofs.YtkdgfioigkijgaaGreat.Ints Go.Proofs.YtkdgfioigkijgaaGreat.Lz Go.Proofs.YtkdgfioigkijgaaGreat.Num Go.Proofs.YtkdgfioigkijgaaGreat.Bits Go.Proofs.YtkdgfioigkijgaaGreat.Blk
def atN (T most j : Nat) : Nat := min (j * most) T
def lenN (T most j : Nat) : Nat := min (T - atN T most j) most
theorem at_zero (T most : Nat) : atN T most 0 = 0 := by simp [atN]
theorem at_le (T most j : Nat) : atN T most j ≤ T := Nat.min_le_right _ _
theorem at_succ (T most j : Nat) : atN T most (j + 1) = atN T most j + lenN T most j := by
  unfold lenN atN
  rw [Nat.add_mul, Nat.one_mul]
  obtain ⟨x, hx⟩ : ∃ x, x = j * most := ⟨_, rfl⟩
  rw [← hx]
  omega
def tks (l : List Tok) (most j : Nat) : List Tok := (l.drop (atN l.length most j)).take most
theorem tks_len (l : List Tok) (most j : Nat) : (tks l most j).length = lenN l.length most j := by
  unfold tks lenN
  rw [List.length_take, List.length_drop, Nat.min_comm]
theorem tks_mem {l : List Tok} {most j : Nat} {t : Tok} (h : t ∈ tks l most j) : t ∈ l := List.mem_of_mem_drop (List.mem_of_mem_take h)
theorem tks_take (l : List Tok) (most j : Nat) : l.take (atN l.length most (j + 1)) = l.take (atN l.length most j) ++ tks l most j := by
  rw [at_succ, List.take_add]
  congr 1
  unfold tks lenN
  rw [Nat.min_comm, ← List.take_take]
  congr 1
  rw [List.take_of_length_le (by rw [List.length_drop]; omega)]
theorem sizeOf_app (a b : List Tok) : Lz.sizeOf (a ++ b) = Lz.sizeOf a + Lz.sizeOf b := by unfold Lz.sizeOf; rw [List.map_append, List.sum_append]
def posN (l : List Tok) (most j : Nat) : Nat := Lz.sizeOf (l.take (atN l.length most j))
def szN (l : List Tok) (most j : Nat) : Nat := Lz.sizeOf (tks l most j)
theorem pos_zero (l : List Tok) (most : Nat) : posN l most 0 = 0 := by unfold posN; rw [at_zero]; rfl
theorem pos_succ (l : List Tok) (most j : Nat) : posN l most (j + 1) = posN l most j + szN l most j := by
  unfold posN szN
  rw [tks_take, sizeOf_app]
theorem pos_le (l : List Tok) (most j : Nat) : posN l most j ≤ Lz.sizeOf l := by
  unfold posN
  have h := sizeOf_app (l.take (atN l.length most j)) (l.drop (atN l.length most j))
  rw [List.take_append_drop] at h
  omega
def kdN (m : Nat) (s : List Tok) : Nat := (pickF ((m % 8 : Nat) : Int) s 3).1.toNat
def csN (m : Nat) (s : List Tok) : Nat := (costK (kdN m s) ((m % 8 : Nat) : Int) s).1.toNat
theorem plain_le {s : List Tok} (hr : ∀ t ∈ s, right t = true) (hl : LitB s) : codedN plainLit plainDist s ≤ 48 * (s.length : Nat) + 15 := by
  have h := bodyP_bits (lit := plainLit) (dist := plainDist) (check15 plainLit_check) (check15 plainDist_check) (by decide +kernel) (by decide +kernel) hr hl
  have h1 := toksP_le plainLit_check plainDist_check s hr hl
  have h2 := part_le plainLit_check 256
  have h3 : totOf (bodyP plainLit plainDist s) ≤ 48 * s.length + 15 := by
    unfold bodyP
    rw [totOf_snoc2]
    omega
  omega
theorem pick_some {m : Nat} {s : List Tok} (h : mayB s = 0) (hl : LitB s) : kdN m s < 3 ∧ (costK (kdN m s) ((m % 8 : Nat) : Int) s).2 = 0 ∧ (pickF ((m % 8 : Nat) : Int) s 3).1 = (kdN m s : Nat) ∧ (costK (kdN m s) ((m % 8 : Nat) : Int) s).1 = (csN m s : Nat) ∧ csN m s ≤ 48 * s.length + 18 := by
  have hb := pickF_best (bh := ((m % 8 : Nat) : Int)) (by omega) (by omega) h hl 3 (Nat.le_refl _)
  obtain ⟨h1, h2⟩ := hb.1 1 (by decide) rfl
  obtain ⟨j, hj, e1, e2, e3⟩ := hb.2 h1
  have hk : kdN m s = j := by unfold kdN; rw [e1]; rfl
  have hc := costK_le (bh := ((m % 8 : Nat) : Int)) (by omega) (by omega) h hl j
  have e4 : csN m s = (costK j ((m % 8 : Nat) : Int) s).1.toNat := by unfold csN; rw [hk]
  rw [hk]
  have hp := plain_le (mayB_zero h).2 hl
  have h5 : (costK 1 ((m % 8 : Nat) : Int) s).1 = 3 + codedN plainLit plainDist s := rfl
  exact ⟨hj, e2, e1, by rw [e4]; omega, by rw [e4]; omega⟩
def btN (l : List Tok) (most : Nat) : Nat → Nat
  | 0 => 0
  | j + 1 => btN l most j + csN (btN l most j) (tks l most j)
theorem tks_may {l : List Tok} (hr : ∀ t ∈ l, right t = true) {most : Nat} (hm : most ≤ 65536) (j : Nat) : mayB (tks l most j) = 0 := by
  have h1 : (tks l most j).length ≤ most := by rw [tks_len]; exact Nat.min_le_right _ _
  unfold mayB
  rw [if_neg (by omega), if_pos]
  rw [List.all_eq_true]
  exact fun t ht => hr t (tks_mem ht)
theorem tks_lit {l : List Tok} (hl : LitB l) (most j : Nat) : LitB (tks l most j) := fun t ht => hl t (tks_mem ht)
theorem bt_le {l : List Tok} (hr : ∀ t ∈ l, right t = true) (hl : LitB l) {most : Nat} (hm : most ≤ 65536) : ∀ j, btN l most j ≤ 48 * atN l.length most j + 18 * j
  | 0 => by simp [btN]
  | j + 1 => by
    have h1 := bt_le hr hl hm j
    have h2 := (pick_some (m := btN l most j) (tks_may hr hm j) (tks_lit hl most j)).2.2.2.2
    rw [tks_len] at h2
    rw [btN, at_succ]
    omega
def tA (A : Option Addr) (c : Nat) (l : List Tok) (most : Nat) : Nat → Option Addr
  | 0 => A
  | j + 1 => cutA (tA A c l most j) (c - atN l.length most j) (lenN l.length most j) 3
def dA (D : Option Addr) (cd : Nat) (l : List Tok) (most : Nat) : Nat → Option Addr
  | 0 => D
  | j + 1 => cutA (dA D cd l most j) (cd - posN l most j) (szN l most j) 1
theorem _root_.Go.Proofs.YtkdgfioigkijgaaGreat.Lib.Sl.cutn {α : Type} {enc : α → List Value} {sz : Nat} (he : ∀ x, (enc x).length = sz) {w : World} {A : Option Addr} {xs : List α} {q : Option Nat} {n c k : Nat} (h : Sl w A (xs.flatMap enc) q) (hl : xs.length = n) (hnc : n ≤ c) (hk : k ≤ n) (hz : 0 < sz) : Sl w (cutA A c k sz) ((xs.drop k).flatMap enc) q := by
  intro hx
  rw [flat_len enc sz he, List.length_drop] at hx
  have hkn : k < n := by
    rcases Nat.lt_or_ge k n with h1 | h1
    · exact h1
    · rw [show xs.length - k = 0 from by omega] at hx; omega
  have hfl := flat_len enc sz he xs
  obtain ⟨b, off, rfl, hq, hc⟩ := h (by rw [hfl]; exact Nat.mul_pos (by omega) hz)
  have e : (xs.drop k).flatMap enc = (xs.flatMap enc).drop (k * sz) := by
    have hlt : ((xs.take k).flatMap enc).length = k * sz := by rw [flat_len enc sz he, List.length_take, Nat.min_eq_left (by omega)]
    have h2 : xs.flatMap enc = (xs.take k).flatMap enc ++ (xs.drop k).flatMap enc := by rw [← List.flatMap_append, List.take_append_drop]
    rw [h2, ← hlt, List.drop_left]
  refine ⟨b, off + k * sz, ?_, hq, fun j hj => ?_⟩
  · unfold cutA
    rw [if_neg (by omega)]
    simp [Addr.add_lit]
  · rw [e] at hj ⊢
    rw [List.length_drop] at hj
    rw [Nat.add_assoc, hc (k * sz + j) (by omega), List.getElem?_drop]
theorem cutA_some {A : Option Addr} {c k size : Nat} (h : cutA A c k size = none) : A = none := by
  unfold cutA at h
  split at h
  · exact h
  · simpa using h
theorem run_cut_both {P : Program} (t e : TypeId) {i : TypeInfo} (ht : P.underlying t = some (.slice e)) (hi : P.info? e = some i) (size : Nat) (hsz : i.size = size) (A : Option Addr) (n c m : Nat) (h2 : m ≤ c) :
    ∀ W : World, (Instr.slice t (.slice A n c) none (some (.int .i64 (m : Nat))) (some (.int .i64 (m : Nat)))).run P W = .ok (.slice A m m) W := by
  intro W
  have hel : P.elem t = e := by simp [Program.elem, ht]
  have hu : P.underlying t = some (.slice (P.elem t)) := by rw [hel]; exact ht
  rw [run_slice_hm W t A n c hu .i64 .i64 m m (by omega) (by omega) (by omega), hel]
  simp [_root_.Go.sizeOf, typeInfo, hi, hsz, sliced, Result.andThen]
  cases A with
  | none => intro _; rfl
  | some a => intro _; simp [Addr.add]
section
variable {w : World} {A D : Option Addr} {c cd : Nat} {l : List Tok} {d : List Int} {p pd : Option Nat} {most : Nat}
theorem tA_none (hA : A = none → l.length = 0 ∧ c = 0) : ∀ j, tA A c l most j = none → c = 0
  | 0, h => (hA h).2
  | j + 1, h => tA_none hA j (cutA_some h)
theorem dA_none (hD : D = none → d.length = 0 ∧ cd = 0) : ∀ j, dA D cd l most j = none → cd = 0
  | 0, h => (hD h).2
  | j + 1, h => dA_none hD j (cutA_some h)
theorem tA_sl (h : Sl w A (tcells l) p) (hc : l.length ≤ c) : ∀ j, Sl w (tA A c l most j) (tcells (l.drop (atN l.length most j))) p
  | 0 => by rw [at_zero]; exact h
  | j + 1 => by
    have h1 := tA_sl h hc j
    have h2 := at_le l.length most j
    have h3 := Sl.cutn (enc := tcell) (sz := 3) (fun _ => rfl) (n := l.length - atN l.length most j) (c := c - atN l.length most j) (k := lenN l.length most j) h1 (by rw [List.length_drop]) (by omega) (Nat.min_le_left _ _) (by decide)
    rw [List.drop_drop, ← at_succ] at h3
    exact h3
theorem dA_sl (h : Sl w D (u8s d) pd) (hc : d.length ≤ cd) (hs : Lz.sizeOf l = d.length) : ∀ j, Sl w (dA D cd l most j) (u8s (d.drop (posN l most j))) pd
  | 0 => by rw [pos_zero]; exact h
  | j + 1 => by
    have h1 := dA_sl h hc hs j
    have h2 := pos_le l most j
    have h4 := pos_le l most (j + 1)
    rw [pos_succ] at h4
    have h3 := h1.cut (n := d.length - posN l most j) (c := cd - posN l most j) (k := szN l most j) (by simp [u8s]) (by omega) (by omega)
    rw [pos_succ, dA]
    simpa [u8s, List.drop_drop] using h3
end
end Go.Proofs.YtkdgfioigkijgaaGreat.Prs
set_option linter.unusedVariables false
set_option linter.unusedSimpArgs false
set_option maxRecDepth 100000
namespace Go.Proofs.YtkdgfioigkijgaaGreat.Prs
open Go.RowKit Go.Shelf Go.Proofs.YtkdgfioigkijgaaGreat.Lib Go.Proofs.YtkdgfioigkijgaaGreat.Ints Go.Proofs.YtkdgfioigkijgaaGreat.Lz Go.Proofs.YtkdgfioigkijgaaGreat.Num Go.Proofs.YtkdgfioigkijgaaGreat.Bits Go.Proofs.YtkdgfioigkijgaaGreat.Blk
structure Src (W : World) (gt gd gm : Nat) (A : Option Addr) (c : Nat) (l : List Tok) (p : Option Nat) (D : Option Addr) (cd : Nat) (d : List Int) (pd : Option Nat) (most : Nat) : Prop where
  bt : W.heap[gt]? = some (.cells #[.slice A l.length c] 41 (0, 0))
  bd : W.heap[gd]? = some (.cells #[.slice D d.length cd] 23 (0, 0))
  bm : W.heap[gm]? = some (.cells #[.int .i64 (most : Nat)] 3 (0, 0))
  tok : Sl W A (tcells l) p
  tle : l.length ≤ c
  tmax : c ≤ maxLen
  tnil : A = none → l.length = 0 ∧ c = 0
  dat : Sl W D (u8s d) pd
  dle : d.length ≤ cd
  dmax : cd ≤ maxLen
  dnil : D = none → d.length = 0 ∧ cd = 0
def Kp (gt gd gm : Nat) (p pd : Option Nat) (W W' : World) : Prop := W.heap.size ≤ W'.heap.size ∧ ∀ b, b ∈ gt :: gd :: gm :: (p.toList ++ pd.toList) → b < W.heap.size → W'.heap[b]? = W.heap[b]?
theorem Kp.trans {gt gd gm : Nat} {p pd : Option Nat} {A B C : World} (h : Kp gt gd gm p pd A B) (k : Kp gt gd gm p pd B C) : Kp gt gd gm p pd A C :=
  ⟨Nat.le_trans h.1 k.1, fun b hb hl => (k.2 b hb (Nat.lt_of_lt_of_le hl h.1)).trans (h.2 b hb hl)⟩
theorem Kp.fr {gt gd gm : Nat} {p pd : Option Nat} {A B : World} {F : List Nat} (h : Fr A B F) (hF : ∀ b, b ∈ gt :: gd :: gm :: (p.toList ++ pd.toList) → b ∉ F) : Kp gt gd gm p pd A B := ⟨h.size, fun b hb hl => h.block b hl (hF b hb)⟩
theorem sl_kp {W W' : World} {A : Option Addr} {xs : List Value} {q : Option Nat} (h : Sl W A xs q) (hk : ∀ b, q = some b → b < W.heap.size → W'.heap[b]? = W.heap[b]?) : Sl W' A xs q := by
  intro hx
  obtain ⟨b, hb, hlt⟩ := h.lt hx
  obtain ⟨b', off, rfl, rfl, hc⟩ := h hx
  cases hb
  refine ⟨b, off, rfl, rfl, fun j hj => ?_⟩
  rw [World.cell?_of_block (w := W) (hk b rfl hlt)]
  exact hc j hj
section
variable {W W' : World} {gt gd gm c cd most : Nat} {A D : Option Addr} {l : List Tok} {d : List Int} {p pd : Option Nat}
theorem Src.keep (h : Src W gt gd gm A c l p D cd d pd most) (hk : Kp gt gd gm p pd W W') : Src W' gt gd gm A c l p D cd d pd most :=
  ⟨(hk.2 gt (by simp) (blk_lt h.bt)).trans h.bt, (hk.2 gd (by simp) (blk_lt h.bd)).trans h.bd, (hk.2 gm (by simp) (blk_lt h.bm)).trans h.bm,
    sl_kp h.tok (fun b hb hl => hk.2 b (by simp [hb]) hl), h.tle, h.tmax, h.tnil, sl_kp h.dat (fun b hb hl => hk.2 b (by simp [hb]) hl), h.dle, h.dmax, h.dnil⟩
theorem Src.fr (h : Src W gt gd gm A c l p D cd d pd most) (hf : Fr W W' []) : Src W' gt gd gm A c l p D cd d pd most := h.keep (Kp.fr hf (fun _ _ => by simp))
end
theorem infoTokA : (Tryz.prog.info? 77).map (fun i => (i.zero, i.size, i.bytes)) = some (some (.agg #[.int .u8 0, .int .i64 0, .int .i64 0]), 3, 24) := by kernel_rfl
theorem sl_take3 {w : World} {A : Option Addr} {l : List Tok} {q : Option Nat} {n : Nat} (h : Sl w A (tcells l) q) : Sl w A (tcells (l.take n)) q := by
  have h1 := h.take (tcells (l.take n)).length
  have e : (tcells l).take (tcells (l.take n)).length = tcells (l.take n) := by
    have h2 : tcells l = tcells (l.take n) ++ tcells (l.drop n) := by rw [← tcells_app, List.take_append_drop]
    rw [h2, List.take_left]
  rw [e] at h1
  exact h1
abbrev Ix (T most : Nat) : Type := { j : Nat // j = 0 ∨ atN T most j < T }
def pcV (A : Option Addr) (c : Nat) (l : List Tok) (D : Option Addr) (cd most j : Nat) : Array Value :=
  #[.int .i64 (kdN (btN l most j) (tks l most j) : Nat), .int .i64 (lenN l.length most j : Nat), .int .i64 (szN l most j : Nat), .int .i64 (csN (btN l most j) (tks l most j) : Nat),
    .slice (tA A c l most j) (lenN l.length most j) (lenN l.length most j), .slice (dA D cd l most j) (szN l most j) (szN l most j), .bool (decide (atN l.length most j + lenN l.length most j = l.length))]
theorem pre_len {T most j : Nat} {pre : List (Ix T most)} (h : pre.map (·.1) = List.range j) : pre.length = j := by
  have := congrArg List.length h
  rw [List.length_map, List.length_range] at this
  exact this
theorem map_len {T most j : Nat} {pre : List (Ix T most)} (h : pre.map (·.1) = List.range j) (x : Ix T most) : (pre ++ [x]).length = j + 1 := by
  rw [List.length_append, pre_len h]; rfl
theorem pre_next {T most j : Nat} {pre : List (Ix T most)} (h : pre.map (·.1) = List.range j) (x : Ix T most) (hx : x.1 = j) : (pre ++ [x]).map (·.1) = List.range (pre ++ [x]).length := by
  rw [map_len h, List.map_append, h, List.range_succ]
  simp [hx]
set_option maxHeartbeats 16000000 in
theorem pieces1_any (l0 gt gd gm c cd most : Nat) (A D : Option Addr) (l : List Tok) (d : List Int) (p pd : Option Nat) (J Jx : List (Ix l.length most) → World → Prop) (W : World) (hJ : AbidesFrom W.heap.size J)
    (hY : ∀ pre x W1, J pre W1 → pre.length < l.length + 1 → YieldAt Fence.wide 4 Tryz.prog l0 #[.agg (pcV A c l D cd most x.1)] W1 fun e W' =>
      (e = .returned (.bool true) ∧ J (pre ++ [x]) W' ∧ Kp gt gd gm p pd W1 W') ∨ (e = .returned (.bool false) ∧ Jx (pre ++ [x]) W'))
    (hsrc : Src W gt gd gm A c l p D cd d pd most) (h0 : J [] W) (hr : ∀ t ∈ l, right t = true) (hl : LitB l) (hs : Lz.sizeOf l = d.length) (hm1 : 1 ≤ most) (hm2 : most ≤ 65536) (hT : l.length ≤ 268435456) (hd : d.length ≤ 268435456) :
    CallsIn Fence.wide 5 Tryz.prog 112 #[.func (.yield l0) #[] #[], .pointer (some ⟨gt, 0, none⟩), .pointer (some ⟨gd, 0, none⟩), .pointer (some ⟨gm, 0, none⟩)] W fun e W' => (∃ v, e = .returned v) ∧
      ((∃ xs, (xs.map (·.1) = List.range xs.length ∧ 1 ≤ xs.length ∧ l.length ≤ xs.length * most) ∧ J xs W') ∨ (∃ pre, (pre.map (·.1) = List.range pre.length) ∧ Jx pre W')) := by
  obtain ⟨i0, hi0, iz0, iz1, iz2⟩ := info_parts infoU8
  have JF : Hd (∀ pre (a b : World), J pre a → Fr a b [] → J pre b) := ⟨fun pre a b h hf => hJ pre a b none h (hf.to_grown none (fun k hk => by cases hk)) (fun r e => by cases e)⟩
  have HSR := Hd.mk hsrc
  have HJ0 := Hd.mk h0
  have HJA := Hd.mk hJ
  have HYA := Hd.mk hY
  have HR := Hd.mk (And.intro hr hl)
  have HSZ := Hd.mk hs
  clear hsrc h0 hJ hY hr hl hs
  refine callsIn_of_wp Tryz.func112 rfl trivial ?_ rfl
  simp only [Tryz.ntmps112, List.size_toArray, List.length_cons, List.length_nil, Nat.reduceAdd, Nat.reduceSub, Array.replicate_succ, Array.replicate_zero, List.push_toArray, List.append_toArray, List.nil_append, List.cons_append]
  refine wpIn_wide.2 ?_
  have k1 := blk_cell HSR.out.bt 0
  have k2 := blk_cell HSR.out.bd 0
  simp only [List.getElem?_toArray, List.getElem?_cons_zero] at k1 k2
  go_wp2
  go_region_held3 (fun w' => w'.cell? ⟨gt, 0, none⟩ = some (.slice A l.length c) ∧ w'.cell? ⟨gd, 0, none⟩ = some (.slice D d.length cd)) (go_keep) (fail)
  have z0 : (0 : Int) = ((btN l most 0 : Nat) : Int) := rfl
  go_wp2
  go_loopg [5, 6, 7, 8] (l.length + 1) (fun kq s5 s6 s7 s8 wr => ∃ (j : Nat) (pre : List (Ix l.length most)), s5 = .slice (tA A c l most j) (l.length - atN l.length most j) (c - atN l.length most j) ∧ s6 = .slice (dA D cd l most j) (d.length - posN l most j) (cd - posN l most j) ∧ s7 = .int .i64 (btN l most j : Nat) ∧ s8 = .bool (decide (j = 0)) ∧ j + kq = l.length + 1 ∧ Hd (pre.map (·.1) = List.range j) ∧ Hd (J pre wr) ∧ Hd (Src wr gt gd gm A c l p D cd d pd most) ∧ Hd (W.heap.size ≤ wr.heap.size))
  case atStart => exact ⟨0, [], by rw [at_zero]; rfl, by rw [pos_zero]; rfl, rfl, rfl, by omega, ⟨rfl⟩, ⟨JF.out _ _ _ HJ0.out (Fr.refl W []).drew⟩, ⟨HSR.out.fr (Fr.refl W []).drew⟩, ⟨Nat.le_refl _⟩⟩
  case round =>
    clear HJ0 HSR k1 k2 z0
    obtain ⟨j, pre, rfl, rfl, rfl, rfl, hj, HPR, HJJ, HS, HW⟩ := hrel
    have hat := at_le l.length most j
    have hpo := pos_le l most j
    rw [HSZ.out] at hpo
    have htle := HS.out.tle
    have hdle := HS.out.dle
    by_cases hv : j = 0 ∨ atN l.length most j < l.length
    · have ATS := Hd.mk (at_succ l.length most j)
      have POS := Hd.mk (pos_succ l most j)
      have BTS : Hd (btN l most (j + 1) = btN l most j + csN (btN l most j) (tks l most j)) := ⟨rfl⟩
      have TAS : Hd (tA A c l most (j + 1) = cutA (tA A c l most j) (c - atN l.length most j) (lenN l.length most j) 3) := ⟨rfl⟩
      have DAS : Hd (dA D cd l most (j + 1) = cutA (dA D cd l most j) (cd - posN l most j) (szN l most j) 1) := ⟨rfl⟩
      have hpo2 := pos_le l most (j + 1)
      rw [HSZ.out, POS.out] at hpo2
      have hln : lenN l.length most j = min (l.length - atN l.length most j) most := rfl
      have hlt := tks_len l most j
      have hmay := tks_may HR.out.1 hm2 j
      have hlit := tks_lit HR.out.2 most j
      have hps := pick_some (m := btN l most j) hmay hlit
      have hbt := bt_le HR.out.1 HR.out.2 hm2 j
      have SLT := Hd.mk (tA_sl (most := most) HS.out.tok HS.out.tle j)
      have TKS : Hd (tks l most j = (l.drop (atN l.length most j)).take most) := ⟨rfl⟩
      have TN := Hd.mk (tA_none (most := most) HS.out.tnil j)
      have DN := Hd.mk (dA_none (l := l) (most := most) HS.out.dnil j)
      have PCV : Hd (pcV A c l D cd most j = #[.int .i64 (kdN (btN l most j) (tks l most j) : Nat), .int .i64 (lenN l.length most j : Nat), .int .i64 (szN l most j : Nat), .int .i64 (csN (btN l most j) (tks l most j) : Nat),
    .slice (tA A c l most j) (lenN l.length most j) (lenN l.length most j), .slice (dA D cd l most j) (szN l most j) (szN l most j), .bool (decide (atN l.length most j + lenN l.length most j = l.length))]) := ⟨rfl⟩
      have SZD : Hd (szN l most j = Lz.sizeOf (tks l most j)) := ⟨rfl⟩
      have hsl : (tks l most j).length ≤ most := by rw [hlt, hln]; exact Nat.min_le_right _ _
      obtain ⟨at0, hat0⟩ : ∃ x, x = atN l.length most j := ⟨_, rfl⟩
      obtain ⟨ln, hln0⟩ : ∃ x, x = lenN l.length most j := ⟨_, rfl⟩
      obtain ⟨ps, hps0⟩ : ∃ x, x = posN l most j := ⟨_, rfl⟩
      obtain ⟨sz, hsz0⟩ : ∃ x, x = szN l most j := ⟨_, rfl⟩
      obtain ⟨bt, hbt0⟩ : ∃ x, x = btN l most j := ⟨_, rfl⟩
      obtain ⟨ta, hta⟩ : ∃ x, x = tA A c l most j := ⟨_, rfl⟩
      obtain ⟨da, hda⟩ : ∃ x, x = dA D cd l most j := ⟨_, rfl⟩
      obtain ⟨s, hs⟩ : ∃ x, x = tks l most j := ⟨_, rfl⟩
      rw [← hat0, ← hln0] at ATS TAS PCV hln
      rw [← hat0] at hat hv hbt SLT TKS ⊢
      rw [← hps0] at POS DAS hpo hpo2 ⊢
      rw [← hsz0] at POS DAS PCV SZD hpo2
      rw [← hbt0] at BTS PCV hps hbt ⊢
      rw [← hta] at TAS PCV SLT TN ⊢
      rw [← hda] at DAS PCV DN ⊢
      rw [← hs] at BTS PCV hlt hmay hlit hps SZD hsl TKS
      rw [← hln0] at hlt
      have AT0 := Hd.mk hat0
      clear hat0 hln0 hps0 hsz0 hbt0 hta hda hs
      have km := blk_cell HS.out.bm 0
      simp only [List.getElem?_toArray, List.getElem?_cons_zero] at km
      obtain ⟨fs, hfs⟩ : ∃ x, x = decide (j = 0) := ⟨_, rfl⟩
      rw [← hfs]
      have JLT : Hd (j < l.length + 1) := ⟨by
        rcases hv with h | h
        · omega
        · rw [AT0.out] at h
          unfold atN at h
          have h2 : j * most < l.length := by omega
          have h3 : j * 1 ≤ j * most := Nat.mul_le_mul_left _ hm1
          omega⟩
      have HV : Hd (j = 0 ∨ atN l.length most j < l.length) := ⟨by rw [← AT0.out]; exact hv⟩
      have HFS : Hd (fs = true ∨ at0 < l.length) := ⟨by rw [hfs]; rcases hv with h | h <;> simp [h]⟩
      clear hfs hv
      go_upto_region 2 with (fail)
      go_cut [23] from 18 to 23 (fun s23 wd => s23 = .bool true ∧ wr = wd)
      case first =>
        cases fs with
        | true =>
          go_wp2
          go_meet
          case rel => exact ⟨rfl, rfl⟩
        | false =>
          have hlI : decide (0 < l.length - at0) = true := by have := HFS.out; simp at this ⊢; omega
          go_wp2
          go_meet
          case rel => exact ⟨rfl, rfl⟩
      case rest =>
        obtain ⟨rfl, rfl⟩ := hcut
        have hmin : (if most < l.length - at0 then (most : Int) else ((l.length - at0 : Nat) : Int)) = (ln : Int) := by
          rw [hln]
          split <;> omega
        have hln1 : ln ≤ l.length - at0 := by rw [hln]; exact Nat.min_le_left _ _
        have hln2 : ln ≤ most := by rw [hln]; exact Nat.min_le_right _ _
        clear hln
        go_upto_region 5 with (fail)
        try rw [hmin]
        clear hmin
        obtain ⟨i1, hi1, jz0, jz1, jz2⟩ := info_parts infoTokA
        have hq1 := Lens.run_cut_to (P := Tryz.prog) 41 77 .i64 Tryz.underlying41 hi1 3 jz1 ta (l.length - at0) (c - at0) ln (fun h => by have := TN.out h; omega) (by omega)
        have SLP : Hd (Sl wr ta (tcells s) p) := ⟨by
          rw [TKS.out]
          exact sl_take3 SLT.out⟩
        go_wp2_with (fail)
        refine (size_any wr ta ln (c - at0) s p hlt SLP.out (by omega)).mono ?_
        rintro e w2 ⟨rfl, h2⟩
        rw [← SZD.out]
        have HS2 := Hd.mk (HS.out.fr h2)
        have HJ2 := Hd.mk (JF.out _ _ _ HJJ.out h2)
        have SLP2 := Hd.mk (SLP.out.frame h2 (by simp))
        have HW2 := Hd.mk (Nat.le_trans HW.out h2.size)
        clear h2 HS HJJ SLT SLP HW hq1 km
        go_upto_region 6 with (fail)
        have hq2 := run_cut_both (P := Tryz.prog) 41 77 Tryz.underlying41 hi1 3 jz1 ta (l.length - at0) (c - at0) ln (by omega)
        have hq3 := run_cut_both (P := Tryz.prog) 23 5 Tryz.underlying23 hi0 1 iz1 da (d.length - ps) (cd - ps) sz (by omega)
        obtain ⟨lb, hlb⟩ : ∃ x, x = decide (at0 + ln = l.length) := ⟨_, rfl⟩
        have hlbe : ((ln : Int) == ((l.length - at0 : Nat) : Int)) = lb := by rw [hlb, Bool.eq_iff_iff]; simp; omega
        rw [← hlb] at PCV
        clear hlb
        go_region_held3 (fun w' => True) (exact trivial) (fail)
        go_upto_region 7 with (fail)
        go_outline
        have hq4 := run_cut_from (P := Tryz.prog) 41 77 .i64 Tryz.underlying41 hi1 3 jz1 ta (l.length - at0) (c - at0) ln hln1
        have hq5 := run_cut_from (P := Tryz.prog) 23 5 .i64 Tryz.underlying23 hi0 1 iz1 da (d.length - ps) (cd - ps) sz (by omega)
        go_region_held3 (fun w' => True) (exact trivial) (fail)
        clear hq2 hq3 hq4 hq5
        go_upto_region 8 with (fail)
        generalize hw3 : World.drew (World.drew _) = w3
        have BZ : Hd (w3.heap[w2.heap.size]? = some (.cells #[.int .i64 0, .int .i64 0, .int .i64 0, .int .i64 0, .slice ta ln ln, .slice da sz sz, .bool lb] 155)) := ⟨by rw [← hw3]; exact blk_new _ _⟩
        have FZ : Hd (Fr w2 w3 []) := ⟨by rw [← hw3]; exact ((Fr.refl w2 []).alloc _).drew.drew⟩
        clear hw3
        obtain ⟨pz, hpz⟩ : ∃ x, x = w2.heap.size := ⟨_, rfl⟩
        rw [← hpz] at BZ ⊢
        have HPZ := Hd.mk hpz
        clear hpz
        have kz1 := blk_cell BZ.out 4
        simp only [List.getElem?_toArray, List.getElem?_cons_zero, List.getElem?_cons_succ] at kz1
        obtain ⟨bm, hbm⟩ : ∃ x, x = ((bt % 8 : Nat) : Int) := ⟨_, rfl⟩
        have hbe : (bt : Int) % 8 = bm := by rw [hbm]; omega
        have hb0 : 0 ≤ bm := by omega
        have hb7 : bm ≤ 7 := by omega
        rw [← hbm] at hps
        clear hbm
        obtain ⟨hk3, hce, hpe, hcc, hcb⟩ := hps
        obtain ⟨kd, hkd⟩ : ∃ x, x = kdN bt s := ⟨_, rfl⟩
        obtain ⟨cs, hcs⟩ : ∃ x, x = csN bt s := ⟨_, rfl⟩
        rw [← hkd] at hk3 hce hpe hcc PCV
        rw [← hcs] at hcc hcb PCV BTS
        clear hkd hcs
        have HCE := Hd.mk hce
        have HPE := Hd.mk hpe
        have HCC := Hd.mk hcc
        have HMAY := Hd.mk hmay
        have HLIT := Hd.mk hlit
        clear hce hpe hcc hmay hlit
        have SL3 : Hd (Sl w3 ta (tcells s) p) := ⟨SLP2.out.frame FZ.out (by simp)⟩
        have hlnb : ln ≤ 6000000000000 := by omega
        go_wp2_with (fail)
        try rw [hbe]
        refine (pick_any w3 bm hb0 hb7 ta ln ln s p hlt SL3.out hlnb HLIT.out (kd : Nat) 0 (by rw [if_pos HMAY.out]; exact ⟨HPE.out.symm, rfl⟩)).mono ?_
        rintro e w4 ⟨rfl, h4⟩
        have BZ4 := Hd.mk (h4.blk BZ.out (by simp))
        have FZ4 : Hd (Fr w2 w4 []) := ⟨FZ.out.trans h4 (by simp)⟩
        have SL4 : Hd (Sl w4 ta (tcells s) p) := ⟨SL3.out.frame h4 (by simp)⟩
        clear h4 BZ FZ SL3 kz1
        have kz1 := blk_cell BZ4.out 4
        simp only [List.getElem?_toArray, List.getElem?_cons_zero, List.getElem?_cons_succ] at kz1
        go_wp2_with (fail)
        try rw [hbe]
        refine (cost3_any w4 kd hk3 bm hb0 hb7 ta ln ln s p hlt SL4.out hlnb HLIT.out (cs : Nat) 0 (by rw [if_pos HMAY.out]; exact ⟨HCC.out.symm, HCE.out.symm⟩)).mono ?_
        rintro e w5 ⟨rfl, h5⟩
        have BZ5 := Hd.mk (h5.blk BZ4.out (by simp))
        have FZ5 : Hd (Fr w2 w5 []) := ⟨FZ4.out.trans h5 (by simp)⟩
        clear h5 BZ4 FZ4 SL4 kz1
        have kz0 := blk_cell BZ5.out 0
        have kz1 := blk_cell BZ5.out 1
        have kz2 := blk_cell BZ5.out 2
        have kz3 := blk_cell BZ5.out 3
        have kz4 := blk_frozen BZ5.out 0
        have kz5 := blk_frozen BZ5.out 1
        have kz6 := blk_frozen BZ5.out 2
        have kz7 := blk_frozen BZ5.out 3
        simp only [List.getElem?_toArray, List.getElem?_cons_zero, List.getElem?_cons_succ] at kz0 kz1 kz2 kz3
        go_upto_region 12 with (fail)
        generalize hw6 : World.setCell _ _ _ = w6
        have BZ6 : Hd (w6.heap[pz]? = some (.cells #[.int .i64 (kd : Nat), .int .i64 (ln : Nat), .int .i64 (sz : Nat), .int .i64 (cs : Nat), .slice ta ln ln, .slice da sz sz, .bool lb] 155)) := ⟨by rw [← hw6]; exact blk_set (blk_set (blk_set (blk_set BZ5.out 0 _) 1 _) 2 _) 3 _⟩
        have FZ6 : Hd (Fr w2 w6 []) := ⟨by
          have hp : w2.heap.size ≤ pz := by rw [HPZ.out]; exact Nat.le_refl _
          rw [← hw6]
          exact (((FZ5.out.setCell _ (.inr hp)).setCell _ (.inr hp)).setCell _ (.inr hp)).setCell _ (.inr hp)⟩
        clear hw6 kz0 kz1 kz2 kz3 kz4 kz5 kz6 kz7 BZ5 FZ5
        have HS6 := Hd.mk (HS2.out.fr FZ6.out)
        have HJ6 := Hd.mk (JF.out _ _ _ HJ2.out FZ6.out)
        have HW6 := Hd.mk (Nat.le_trans HW2.out FZ6.out.size)
        obtain ⟨fn, tmps, assign, body, hy, hR⟩ := HYA.out pre ⟨j, HV.out⟩ w6 HJ6.out (by have := congrArg List.length HPR.out; rw [List.length_map, List.length_range] at this; rw [this]; exact JLT.out)
        dsimp only at hy hR
        rw [PCV.out] at hy
        have HRR := Hd.mk hR
        clear hR
        have kz0 := blk_cell BZ6.out 0
        have kz1 := blk_cell BZ6.out 1
        have kz2 := blk_cell BZ6.out 2
        have kz3 := blk_cell BZ6.out 3
        have kz4 := blk_cell BZ6.out 4
        have kz5 := blk_cell BZ6.out 5
        have kz6 := blk_cell BZ6.out 6
        simp only [List.getElem?_toArray, List.getElem?_cons_zero, List.getElem?_cons_succ] at kz0 kz1 kz2 kz3 kz4 kz5 kz6
        refine (wpIn_wide (n := 5)).1 ?_
        gi_wp2
        clear kz0 kz1 kz2 kz3 kz4 kz5 kz6 hy
        refine HRR.out.mono ?_
        rintro e W' (⟨rfl, hJ', hk⟩ | ⟨rfl, hJx⟩)
        · have HJ7 := Hd.mk hJ'
          have HS7 := Hd.mk (HS6.out.keep hk)
          have HW7 := Hd.mk (Nat.le_trans HW6.out hk.1)
          clear hJ' hk HRR HJ6 HS6 HW6 BZ6 FZ6 HS2 HJ2 HW2
          gi_wp2
          go_wp2
          have hjl := JLT.out
          go_roundg (gk - 1)
          case measure => omega
          case rel =>
            exact ⟨j + 1, pre ++ [⟨j, HV.out⟩], by rw [TAS.out, ATS.out, Nat.sub_sub, Nat.sub_sub], by rw [DAS.out, POS.out, Nat.sub_sub, Nat.sub_sub], by rw [BTS.out]; go_num, by rw [decide_eq_false (by omega)], by omega, ⟨by rw [List.map_append, HPR.out, List.range_succ]; rfl⟩, HJ7, HS7, HW7⟩
        · have HJX := Hd.mk hJx
          clear hJx HRR HJ6 HS6 HW6 BZ6 FZ6 HS2 HJ2 HW2
          gi_wp2
          go_wp2
          (try simp only [Exit.inBlock, Exit.then])
          refine bodyPost_ret (results_none rfl _ _ _) rfl ?_
          exact ⟨⟨_, rfl⟩, .inr ⟨pre ++ [⟨j, HV.out⟩], pre_next HPR.out _ rfl, HJX.out⟩⟩
    · have hj0 : decide (j = 0) = false := by simp; omega
      have hz : l.length - atN l.length most j = 0 := by omega
      have HVV := Hd.mk hv
      rw [hj0, hz]
      clear hv hj0 hz
      go_wp2
      go_end0
      refine ⟨⟨_, rfl⟩, .inl ⟨pre, ⟨?_, ?_, ?_⟩, HJJ.out⟩⟩
      · rw [HPR.out, pre_len HPR.out]
      · rw [pre_len HPR.out]; have := HVV.out; omega
      · rw [pre_len HPR.out]
        have h := HVV.out
        unfold atN at h
        omega
end Go.Proofs.YtkdgfioigkijgaaGreat.Prs
