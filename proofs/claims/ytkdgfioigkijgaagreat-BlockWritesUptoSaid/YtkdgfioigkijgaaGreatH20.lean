/- Texts of this claim, one behind the other: BlkRw, TwoW, BlkWa, Lend, LzExp. -/
import Derived.Test.YtkdgfioigkijgaaGreatH01
import Derived.Test.YtkdgfioigkijgaaGreatH02
import Derived.Test.YtkdgfioigkijgaaGreatH03
import Derived.Test.YtkdgfioigkijgaaGreatH04
import Derived.Test.YtkdgfioigkijgaaGreatH05
import Derived.Test.YtkdgfioigkijgaaGreatH06
import Derived.Test.YtkdgfioigkijgaaGreatH07
import Derived.Test.YtkdgfioigkijgaaGreatH08
import Derived.Test.YtkdgfioigkijgaaGreatH09
import Derived.Test.YtkdgfioigkijgaaGreatH10
import Derived.Test.YtkdgfioigkijgaaGreatH11
import Derived.Test.YtkdgfioigkijgaaGreatH12
import Derived.Test.YtkdgfioigkijgaaGreatH13
import Derived.Test.YtkdgfioigkijgaaGreatH14
import Derived.Test.YtkdgfioigkijgaaGreatH15
import Derived.Test.YtkdgfioigkijgaaGreatH16
import Derived.Test.YtkdgfioigkijgaaGreatH17
import Derived.Test.YtkdgfioigkijgaaGreatH18
import Derived.Test.YtkdgfioigkijgaaGreatH19
/- Chapter 09: the document's Write walked. Conditions: at most 2^20 tokens; the writer has at most 2^45 bits. -/
set_option linter.unusedVariables false
set_option linter.unusedSimpArgs false
set_option maxRecDepth 100000
namespace Go.Proofs.YtkdgfioigkijgaaGreat.Blk
open Go.RowKit Go.Proofs.YtkdgfioigkijgaaGreat.Lib Go.Proofs.YtkdgfioigkijgaaGreat.Ints Go.Proofs.YtkdgfioigkijgaaGreat.Lz Go.Proofs.YtkdgfioigkijgaaGreat.Num Go.Proofs.YtkdgfioigkijgaaGreat.Bits
/-- what the document's Write leaves -/
def RwPost (w w' : World) (gw N m : Nat) (q : Option Nat) (er : Int) (P : List (Nat × Nat)) : Prop := (er = 0 → ∃ q', Rw w w' gw q q' N m P) ∧ (er ≠ 0 → Fr w w' [])
theorem Rw.same {w0 w : World} {gw N m : Nat} {q0 q : Option Nat} {P Q : List (Nat × Nat)} (h : Rw w0 w gw q0 q N m P) (hn : numOf P = numOf Q) (ht : totOf P = totOf Q) : Rw w0 w gw q0 q N m Q := ⟨by rw [← hn, ← ht]; exact h.rw_, h.aft, h.fr⟩
theorem head3 (x y : Nat) (R : List (Nat × Nat)) : numOf ([(x + 2 * y, 3)] ++ R) = numOf ([(x, 1), (y, 2)] ++ R) ∧ totOf ([(x + 2 * y, 3)] ++ R) = totOf ([(x, 1), (y, 2)] ++ R) := by
  simp only [List.cons_append, List.nil_append, numOf, totOf, Nat.reducePow]
  omega
theorem xor16 {n : Nat} (h : n ≤ 65535) : Go.bits .xor .u64 (n : Int) 65535 = ((65535 - n : Nat) : Int) := by
  have hx := bits_xor_u64_nat n 65535 (by omega) (by decide)
  rw [show ((65535 : Nat) : Int) = 65535 from rfl] at hx
  rw [hx]
  congr 1
  apply Nat.eq_of_testBit_eq
  intro i
  rw [Nat.testBit_xor, show (65535 : Nat) = 2 ^ 16 - 1 from rfl, Nat.testBit_two_pow_sub_one, show 2 ^ 16 - 1 - n = 2 ^ 16 - (n + 1) from by omega, Nat.testBit_two_pow_sub_succ (by omega)]
  by_cases hi : i < 16
  · simp [hi]
  · have h1 : n.testBit i = false := Nat.testBit_lt_two_pow (Nat.lt_of_lt_of_le (show n < 2 ^ 16 by omega) (Nat.pow_le_pow_right (by decide) (by omega)))
    simp [hi, h1]
theorem rw_notown2 {w : World} {gw N m : Nat} {q : Option Nat} (h : RW w gw N m q) {base : Nat} {e : TypeId} {size n : Nat} {v : Value} {xs : List Value} (ho : w.ownsRow base e size v n xs) (h1 : e ≠ 30) (h2 : e ≠ 4) {k : Nat} (hk : v.ownBlock = some k) : k ∉ gw :: q.toList := by
  obtain ⟨cs, hcs⟩ := own_type ho hk
  exact rw_not h hcs h1 h2
theorem rw_notown {w : World} {gw N m : Nat} {q : Option Nat} (h : RW w gw N m q) {base : Nat} {e : TypeId} {size n g nn c : Nat} {xs : List Value} (ho : w.ownsRow base e size (.slice (some ⟨g, 0, none⟩) nn c) n xs) (h1 : e ≠ 30) (h2 : e ≠ 4) : g ∉ gw :: q.toList := rw_notown2 h ho h1 h2 rfl
set_option maxHeartbeats 8000000 in
theorem rbwrite0 (w : World) (b : Bool) (D : Option Addr) (cd : Nat) (data : List Int) (pd : Option Nat) (hD : Sl w D (u8s data) pd) (hby : ∀ x ∈ data, 0 ≤ x ∧ x ≤ 255) (hnd : data.length ≤ 17592186044416)
    (A : Option Addr) (n c : Nat) (l : List Tok) (p : Option Nat) (hn : l.length = n) (hS : Sl w A (tcells l) p) (hb : n ≤ 1048576) (hl : LitB l)
    (gw N m : Nat) (q : Option Nat) (hT : RW w gw N m q) (hp : ∀ k, p = some k → k ∉ gw :: q.toList ∧ k < w.heap.size) (hpd : ∀ k, pd = some k → k ∉ gw :: q.toList ∧ k < w.heap.size) (hm : m ≤ 35184372080000) (er : Int) (he : er = wrErr 0 data.length l) :
    Calls Tryz.prog 18 #[.pointer (some ⟨gw, 0, none⟩), .int .i64 0, .bool b, .slice D data.length cd, .slice A n c] w fun e w' => e = .returned (.int .i64 er) ∧ RwPost w w' gw N m q er (blockP 0 m b data l) := by
  obtain ⟨j0, hj0, jz0, jz1, jz2⟩ := info_parts Bits.infoBool
  have HS := Hd.mk hS
  have HL := Hd.mk hl
  have HP := Hd.mk hp
  have HD := Hd.mk hD
  have HBY := Hd.mk hby
  have HPD := Hd.mk hpd
  have T0 := Hd.mk hT
  have HE : Hd (er = if mayB l ≠ 0 then mayB l else if 65535 < Lz.sizeOf l then 90 else if data.length ≠ Lz.sizeOf l then 1 else 0) := ⟨by rw [he]; unfold wrErr; rw [if_neg (by omega)]; simp only [true_and]⟩
  have HBP : Hd (blockP 0 m b data l = [(lastN b, 1), (0, 2)] ++ kindP 0 (m + 3) data l) := ⟨rfl⟩
  clear hS hl hp hT he hD hby hpd
  obtain ⟨nd, hnd'⟩ : ∃ nd, nd = data.length := ⟨_, rfl⟩
  rw [← hnd'] at hnd HE ⊢
  have HND := Hd.mk hnd'
  clear hnd'
  obtain ⟨e, he⟩ : ∃ e, e = mayB l := ⟨_, rfl⟩
  rw [← he] at HE
  have HM := Hd.mk he
  clear he
  go_enter Tryz.func18, Tryz.ntmps18
  go_wp2_with (fail)
  refine (rmay_any w A n c l p hn HS.out (by omega) e HM.out).mono ?_
  rintro r w1 ⟨rfl, h1⟩
  have F1 := Hd.mk h1
  clear h1
  by_cases h : e = 0
  · subst h
    have HE2 : Hd (er = if 65535 < Lz.sizeOf l then 90 else if nd ≠ Lz.sizeOf l then 1 else 0) := ⟨by rw [HE.out, if_neg (by simp)]⟩
    have hz := mayB_zero HM.out.symm
    have HZ := Hd.mk hz.2
    have hz1 := hz.1
    clear hz HE
    have hsz := Lz.sizeOf_le l
    obtain ⟨s, hs⟩ : ∃ s, s = Lz.sizeOf l := ⟨_, rfl⟩
    rw [← hs] at HE2 hsz
    have HSZ := Hd.mk hs
    clear hs
    go_wp2_with (fail)
    refine (rsize_any w1 A n c l p hn (HS.out.frame F1.out (by simp)) (by omega)).mono ?_
    rintro r w2 ⟨rfl, h2⟩
    rw [← HSZ.out]
    have F2 := Hd.mk (F1.out.trans h2 (by simp))
    clear h2 F1
    by_cases hbig : 65535 < s
    · obtain rfl : er = 90 := by rw [HE2.out, if_pos hbig]
      have hbI : (65535 : Int) < (s : Nat) := by omega
      clear HE2
      go_wp2
      go_ret
      exact ⟨rfl, (fun h => by cases h), fun _ => F2.out⟩
    · have HE3 : Hd (er = if nd ≠ s then 1 else 0) := ⟨by rw [HE2.out, if_neg hbig]⟩
      have hbI : ¬ (65535 : Int) < (s : Nat) := by omega
      clear HE2
      go_wp2_with (fail)
      refine (rsize_any w2 A n c l p hn (HS.out.frame F2.out (by simp)) (by omega)).mono ?_
      rintro r w3 ⟨rfl, h2⟩
      rw [← HSZ.out]
      have F3 := Hd.mk (F2.out.trans h2 (by simp))
      clear h2 F2
      by_cases hns : nd = s
      · subst hns
        obtain rfl : er = 0 := by rw [HE3.out, if_neg (by simp)]
        have hne : ((nd : Int) != (nd : Int)) = false := by simp
        clear HE3
        have T3 := Hd.mk (T0.out.frame F3.out (by simp) (by simp))
        obtain ⟨V, hV⟩ : ∃ V, V = lastN b + 2 * 0 := ⟨_, rfl⟩
        have HV : Hd (V < 2 ^ 3) := ⟨by rw [hV]; cases b <;> decide⟩
        have HBB : Hd ([Value.bool b, .bool false, .bool false] = bools V 3) := ⟨by rw [hV]; cases b <;> rfl⟩
        have HVE := Hd.mk hV
        have hb1 : (Go.bits .and .i64 (0 : Int) 1 == 1) = false := by decide +kernel
        have hb2 : (Go.bits .and .i64 (0 : Int) 2 == 2) = false := by decide +kernel
        obtain ⟨Ax, cx, hxb, hxo, hxp, hxN⟩ := T3.out
        have XB := Hd.mk hxb
        have XO := Hd.mk hxo
        have XP := Hd.mk hxp
        have XN := Hd.mk hxN
        have NEX := Hd.mk (own_ne hxo hxb (by decide))
        have x0 := blk_cell hxb 0
        simp only [List.getElem?_toArray, List.getElem?_cons_zero] at x0
        clear hV hxb hxo hxp hxN
        go_wp2_with (at_builtin; refine wpList_append_sl rfl (.tmp 45) (.tmp 53) 28 rfl 4 j0 (.bool false) 1 1 Tryz.underlying28 hj0 jz0 jz1 jz2 rfl (by decide) (.slice Ax m cx) m _ rfl (by exact XO.out.alloc _) (some ⟨w3.heap.size, 0, none⟩) 3 3 [.bool b, .bool false, .bool false] (some w3.heap.size) rfl rfl (by exact sl_of_blk (blk_new _ _)) (by intro h; cases h) (by intro u hu; simp at hu; rcases hu with rfl | rfl | rfl <;> rfl) (by unfold maxLen; omega) (by omega) ?_; intro A3 d3 w9 hown' hgrow haft; have B9 := blk_grown hgrow (by exact blk_alloc XB.out _) NEX.out.symm; have y0 := blk_cell B9 0; have yf := blk_frozen B9 0; simp only [List.getElem?_toArray, List.getElem?_cons_zero] at y0; rw [HBB.out] at hown'; have HPR := Hd.mk (PutR.after ((Fr.refl w3 []).alloc (.cells #[.bool b, .bool false, .bool false] 4)) (rw_app (by exact blk_alloc XB.out _) (by exact XO.out.alloc _) XN.out HV.out hown' hgrow haft)); rw [XP.out] at HPR; clear hown' hgrow haft B9)
        generalize w9.setCell ⟨gw, 0, none⟩ (.slice A3 (m + 3) d3) = w4 at *
        obtain ⟨q4, h4⟩ := (Rw.start T3.out).put (by simpa [numOf, totOf] using HPR.out)
        have W4 : Hd (Rw w w4 gw q q4 N m [(V, 3)]) := ⟨Rw.after F3.out h4⟩
        have t4 : totOf [(V, 3)] = 3 := rfl
        clear h4 HPR XB XO XP XN NEX x0 T3 HBB hb1 hb2 hne HV
        have hxor := xor16 (n := nd) (by omega)
        have HKP : Hd (kindP 0 (m + 3) data l = [(0, (8 - (m + 3) % 8) % 8), (nd, 16), (65535 - nd, 16)] ++ bytesP data) := ⟨by rw [HND.out]; rfl⟩
        refine (walign_any w4 (by omega) W4.out.rw_).mono ?_
        rintro r w5 ⟨rfl, q5, h1, h2, h3⟩
        rw [t4] at h1
        obtain ⟨q5', h5⟩ := W4.out.put (p := (0, (8 - (m + 3) % 8) % 8)) ⟨q5, by simpa [numOf, totOf, t4] using h1, h2, h3⟩
        have W5 := Hd.mk h5
        have t5 : totOf ([(V, 3)] ++ [(0, (8 - (m + 3) % 8) % 8)]) = 3 + (8 - (m + 3) % 8) % 8 := rfl
        clear h1 h2 h3 h5 W4
        go_wp2_with (fail)
        refine (rwput (nd : Int) 16 nd rfl (by have : (2 : Nat) ^ (16 : Int).toNat = 65536 := rfl; omega) (by omega) (by omega) W5.out.rw_ (by have : (16 : Int).toNat = 16 := rfl; omega)).mono ?_
        rintro r w6 ⟨rfl, hpl⟩
        obtain ⟨q6, h2⟩ := W5.out.put hpl
        have W6 : Hd (Rw w w6 gw q q6 N m ([(V, 3)] ++ [(0, (8 - (m + 3) % 8) % 8)] ++ [(nd, 16)])) := ⟨h2⟩
        have t6 : totOf ([(V, 3)] ++ [(0, (8 - (m + 3) % 8) % 8)] ++ [(nd, 16)]) = 3 + ((8 - (m + 3) % 8) % 8 + 16) := rfl
        clear hpl h2 W5 t5
        go_wp2_with (fail)
        refine (rwput ((65535 - nd : Nat) : Int) 16 (65535 - nd) rfl (by have : (2 : Nat) ^ (16 : Int).toNat = 65536 := rfl; omega) (by omega) (by omega) W6.out.rw_ (by have : (16 : Int).toNat = 16 := rfl; omega)).mono ?_
        rintro r w7 ⟨rfl, hpl⟩
        obtain ⟨q7, h2⟩ := W6.out.put hpl
        have W7 : Hd (Rw w w7 gw q q7 N m ([(V, 3)] ++ [(0, (8 - (m + 3) % 8) % 8), (nd, 16), (65535 - nd, 16)])) := ⟨h2⟩
        have t7 : totOf ([(V, 3)] ++ [(0, (8 - (m + 3) % 8) % 8), (nd, 16), (65535 - nd, 16)]) = 3 + ((8 - (m + 3) % 8) % 8 + 32) := rfl
        clear hpl h2 W6 t6
        have hal : (8 - (m + totOf ([(V, 3)] ++ [(0, (8 - (m + 3) % 8) % 8), (nd, 16), (65535 - nd, 16)])) % 8) % 8 = 0 := by rw [t7]; omega
        go_wp2_with (fail)
        refine (wwhole_any w7 D nd cd data pd HND.out.symm HBY.out (HD.out.frame W7.out.fr (fun k hk => (HPD.out k hk).1)) (fun k hk hm => (HPD.out k hk).1 (W7.out.mem (HPD.out k hk).2 hm)) (by rw [t7]; omega) W7.out.rw_).mono ?_
        rintro r w8 ⟨rfl, q8, h1, h2, h3⟩
        rw [hal, Nat.add_zero] at h1
        have h8 : Rw w7 w8 gw q7 q8 (N + numOf ([(V, 3)] ++ [(0, (8 - (m + 3) % 8) % 8), (nd, 16), (65535 - nd, 16)]) * 2 ^ m) (m + totOf ([(V, 3)] ++ [(0, (8 - (m + 3) % 8) % 8), (nd, 16), (65535 - nd, 16)])) (bytesP data) := ⟨by rw [bytesP_num, bytesP_tot, ← HND.out]; exact h1, h2, h3⟩
        have h9 := W7.out.more h8
        rw [List.append_assoc, ← HKP.out] at h9
        have W8 := Hd.mk h9
        clear h1 h2 h3 h8 h9 W7
        go_wp2
        go_ret
        exact ⟨rfl, (fun _ => ⟨q8, by
          rw [HBP.out]
          have h := W8.out
          rw [HVE.out] at h
          have e := head3 (lastN b) 0 (kindP 0 (m + 3) data l)
          exact h.same e.1 e.2⟩), fun h => absurd rfl h⟩
      · obtain rfl : er = 1 := by rw [HE3.out, if_pos hns]
        have hne : ((nd : Int) != (s : Int)) = true := by simp; omega
        clear HE3
        go_wp2
        go_ret
        exact ⟨rfl, (fun h => by cases h), fun _ => F3.out⟩
  · have hne : (e != 0) = true := by simpa using h
    obtain rfl : er = e := by rw [HE.out, if_pos h]
    have HNE := Hd.mk h
    clear HE h
    go_wp2
    go_ret
    exact ⟨rfl, (fun h => absurd h HNE.out), fun _ => F1.out⟩
set_option maxHeartbeats 8000000 in
theorem rbwrite1 (w : World) (b : Bool) (D : Option Addr) (cd : Nat) (data : List Int) (pd : Option Nat) (hD : Sl w D (u8s data) pd) (hby : ∀ x ∈ data, 0 ≤ x ∧ x ≤ 255) (hnd : data.length ≤ 17592186044416)
    (A : Option Addr) (n c : Nat) (l : List Tok) (p : Option Nat) (hn : l.length = n) (hS : Sl w A (tcells l) p) (hb : n ≤ 1048576) (hl : LitB l)
    (gw N m : Nat) (q : Option Nat) (hT : RW w gw N m q) (hp : ∀ k, p = some k → k ∉ gw :: q.toList ∧ k < w.heap.size) (hpd : ∀ k, pd = some k → k ∉ gw :: q.toList ∧ k < w.heap.size) (hm : m ≤ 35184372080000) (er : Int) (he : er = wrErr 1 data.length l) :
    Calls Tryz.prog 18 #[.pointer (some ⟨gw, 0, none⟩), .int .i64 1, .bool b, .slice D data.length cd, .slice A n c] w fun e w' => e = .returned (.int .i64 er) ∧ RwPost w w' gw N m q er (blockP 1 m b data l) := by
  obtain ⟨j0, hj0, jz0, jz1, jz2⟩ := info_parts Bits.infoBool
  have HS := Hd.mk hS
  have HL := Hd.mk hl
  have HP := Hd.mk hp
  have HD := Hd.mk hD
  have HBY := Hd.mk hby
  have HPD := Hd.mk hpd
  have T0 := Hd.mk hT
  have HE : Hd (er = if mayB l ≠ 0 then mayB l else if data.length ≠ Lz.sizeOf l then 1 else 0) := ⟨by rw [he]; unfold wrErr; rw [if_neg (by omega)]; simp only [show ((1 : Int) = 0) = False from by simp, false_and, if_false]⟩
  have HBP : Hd (blockP 1 m b data l = [(lastN b, 1), (1, 2)] ++ kindP 1 (m + 3) data l) := ⟨rfl⟩
  clear hS hl hp hT he hD hby hpd
  obtain ⟨nd, hnd'⟩ : ∃ nd, nd = data.length := ⟨_, rfl⟩
  rw [← hnd'] at hnd HE ⊢
  have HND := Hd.mk hnd'
  clear hnd'
  obtain ⟨e, he⟩ : ∃ e, e = mayB l := ⟨_, rfl⟩
  rw [← he] at HE
  have HM := Hd.mk he
  clear he
  go_enter Tryz.func18, Tryz.ntmps18
  go_wp2_with (fail)
  refine (rmay_any w A n c l p hn HS.out (by omega) e HM.out).mono ?_
  rintro r w1 ⟨rfl, h1⟩
  have F1 := Hd.mk h1
  clear h1
  by_cases h : e = 0
  · subst h
    have HE2 : Hd (er = if nd ≠ Lz.sizeOf l then 1 else 0) := ⟨by rw [HE.out, if_neg (by simp)]⟩
    have hz := mayB_zero HM.out.symm
    have HZ := Hd.mk hz.2
    have hz1 := hz.1
    clear hz HE
    have hsz := Lz.sizeOf_le l
    obtain ⟨s, hs⟩ : ∃ s, s = Lz.sizeOf l := ⟨_, rfl⟩
    rw [← hs] at HE2 hsz
    have HSZ := Hd.mk hs
    clear hs
    have HE3 : Hd (er = if nd ≠ s then 1 else 0) := ⟨HE2.out⟩
    clear HE2
    go_wp2_with (fail)
    refine (rsize_any w1 A n c l p hn (HS.out.frame F1.out (by simp)) (by omega)).mono ?_
    rintro r w3 ⟨rfl, h2⟩
    rw [← HSZ.out]
    have F3 := Hd.mk (F1.out.trans h2 (by simp))
    clear h2 F1
    by_cases hns : nd = s
    · subst hns
      obtain rfl : er = 0 := by rw [HE3.out, if_neg (by simp)]
      have hne : ((nd : Int) != (nd : Int)) = false := by simp
      clear HE3
      have T3 := Hd.mk (T0.out.frame F3.out (by simp) (by simp))
      obtain ⟨V, hV⟩ : ∃ V, V = lastN b + 2 * 1 := ⟨_, rfl⟩
      have HV : Hd (V < 2 ^ 3) := ⟨by rw [hV]; cases b <;> decide⟩
      have HBB : Hd ([Value.bool b, .bool true, .bool false] = bools V 3) := ⟨by rw [hV]; cases b <;> rfl⟩
      have HVE := Hd.mk hV
      have hb1 : (Go.bits .and .i64 (1 : Int) 1 == 1) = true := by decide +kernel
      have hb2 : (Go.bits .and .i64 (1 : Int) 2 == 2) = false := by decide +kernel
      obtain ⟨Ax, cx, hxb, hxo, hxp, hxN⟩ := T3.out
      have XB := Hd.mk hxb
      have XO := Hd.mk hxo
      have XP := Hd.mk hxp
      have XN := Hd.mk hxN
      have NEX := Hd.mk (own_ne hxo hxb (by decide))
      have x0 := blk_cell hxb 0
      simp only [List.getElem?_toArray, List.getElem?_cons_zero] at x0
      clear hV hxb hxo hxp hxN
      go_wp2_with (at_builtin; refine wpList_append_sl rfl (.tmp 45) (.tmp 53) 28 rfl 4 j0 (.bool false) 1 1 Tryz.underlying28 hj0 jz0 jz1 jz2 rfl (by decide) (.slice Ax m cx) m _ rfl (by exact XO.out.alloc _) (some ⟨w3.heap.size, 0, none⟩) 3 3 [.bool b, .bool true, .bool false] (some w3.heap.size) rfl rfl (by exact sl_of_blk (blk_new _ _)) (by intro h; cases h) (by intro u hu; simp at hu; rcases hu with rfl | rfl | rfl <;> rfl) (by unfold maxLen; omega) (by omega) ?_; intro A3 d3 w9 hown' hgrow haft; have B9 := blk_grown hgrow (by exact blk_alloc XB.out _) NEX.out.symm; have y0 := blk_cell B9 0; have yf := blk_frozen B9 0; simp only [List.getElem?_toArray, List.getElem?_cons_zero] at y0; rw [HBB.out] at hown'; have HPR := Hd.mk (PutR.after ((Fr.refl w3 []).alloc (.cells #[.bool b, .bool true, .bool false] 4)) (rw_app (by exact blk_alloc XB.out _) (by exact XO.out.alloc _) XN.out HV.out hown' hgrow haft)); rw [XP.out] at HPR; clear hown' hgrow haft B9)
      generalize w9.setCell ⟨gw, 0, none⟩ (.slice A3 (m + 3) d3) = w4 at *
      obtain ⟨q4, h4⟩ := (Rw.start T3.out).put (by simpa [numOf, totOf] using HPR.out)
      have W4 : Hd (Rw w w4 gw q q4 N m [(V, 3)]) := ⟨Rw.after F3.out h4⟩
      have t4 : totOf [(V, 3)] = 3 := rfl
      clear h4 HPR XB XO XP XN NEX x0 T3 HBB hb1 hb2 hne HV
      have HKP : Hd (kindP 1 (m + 3) data l = bodyP plainLit plainDist l) := ⟨rfl⟩
      refine (rplainLens_any w4).mono ?_
      rintro r w5 hp5
      unfold RPlPost at hp5
      obtain ⟨g, g', c5, d5, rfl, h1, h2, h3, h4, h5⟩ := hp5
      have O1 := Hd.mk h1
      have O2 := Hd.mk h2
      have W5 := Hd.mk (W4.out.call h5)
      clear h1 h2 h3 h4 h5
      go_wp2_with (fail)
      refine (rbody_any w5 (some ⟨g, 0, none⟩) (some ⟨g', 0, none⟩) 288 c5 32 d5 plainLit plainDist (some g) (some g') (slArg_own O1.out) (slArg_own O2.out) plainLit_check plainDist_check A n c l p hn (HS.out.frame W5.out.fr (fun k hk => (HP.out k hk).1)) (by omega) HZ.out HL.out gw _ _ q4 W5.out.rw_ (fun k hk hm => (HP.out k hk).1 (W5.out.mem (HP.out k hk).2 hm)) (fun k hk => by cases hk; exact rw_notown W5.out.rw_ O1.out (by decide) (by decide)) (fun k hk => by cases hk; exact rw_notown W5.out.rw_ O2.out (by decide) (by decide)) (by rw [t4]; omega)).mono ?_
      rintro r w6 ⟨rfl, q6, h6⟩
      have h9 := W5.out.more h6
      rw [← HKP.out] at h9
      have W6 := Hd.mk h9
      clear h6 h9 W5
      go_wp2
      go_ret
      exact ⟨rfl, (fun _ => ⟨q6, by
        rw [HBP.out]
        have h := W6.out
        rw [HVE.out] at h
        have e := head3 (lastN b) 1 (kindP 1 (m + 3) data l)
        exact h.same e.1 e.2⟩), fun h => absurd rfl h⟩
    · obtain rfl : er = 1 := by rw [HE3.out, if_pos hns]
      have hne : ((nd : Int) != (s : Int)) = true := by simp; omega
      clear HE3
      go_wp2
      go_ret
      exact ⟨rfl, (fun h => by cases h), fun _ => F3.out⟩
  · have hne : (e != 0) = true := by simpa using h
    obtain rfl : er = e := by rw [HE.out, if_pos h]
    have HNE := Hd.mk h
    clear HE h
    go_wp2
    go_ret
    exact ⟨rfl, (fun h => absurd h HNE.out), fun _ => F1.out⟩
set_option maxHeartbeats 8000000 in
theorem rbwrite2 (w : World) (b : Bool) (D : Option Addr) (cd : Nat) (data : List Int) (pd : Option Nat) (hD : Sl w D (u8s data) pd) (hby : ∀ x ∈ data, 0 ≤ x ∧ x ≤ 255) (hnd : data.length ≤ 17592186044416)
    (A : Option Addr) (n c : Nat) (l : List Tok) (p : Option Nat) (hn : l.length = n) (hS : Sl w A (tcells l) p) (hb : n ≤ 1048576) (hl : LitB l)
    (gw N m : Nat) (q : Option Nat) (hT : RW w gw N m q) (hp : ∀ k, p = some k → k ∉ gw :: q.toList ∧ k < w.heap.size) (hpd : ∀ k, pd = some k → k ∉ gw :: q.toList ∧ k < w.heap.size) (hm : m ≤ 35184372080000) (er : Int) (he : er = wrErr 2 data.length l) :
    Calls Tryz.prog 18 #[.pointer (some ⟨gw, 0, none⟩), .int .i64 2, .bool b, .slice D data.length cd, .slice A n c] w fun e w' => e = .returned (.int .i64 er) ∧ RwPost w w' gw N m q er (blockP 2 m b data l) := by
  obtain ⟨j0, hj0, jz0, jz1, jz2⟩ := info_parts Bits.infoBool
  have HS := Hd.mk hS
  have HL := Hd.mk hl
  have HP := Hd.mk hp
  have HD := Hd.mk hD
  have HBY := Hd.mk hby
  have HPD := Hd.mk hpd
  have T0 := Hd.mk hT
  have HE : Hd (er = if mayB l ≠ 0 then mayB l else if data.length ≠ Lz.sizeOf l then 1 else 0) := ⟨by rw [he]; unfold wrErr; rw [if_neg (by omega)]; simp only [show ((2 : Int) = 0) = False from by simp, false_and, if_false]⟩
  have HBP : Hd (blockP 2 m b data l = [(lastN b, 1), (2, 2)] ++ kindP 2 (m + 3) data l) := ⟨rfl⟩
  clear hS hl hp hT he hD hby hpd
  obtain ⟨nd, hnd'⟩ : ∃ nd, nd = data.length := ⟨_, rfl⟩
  rw [← hnd'] at hnd HE ⊢
  have HND := Hd.mk hnd'
  clear hnd'
  obtain ⟨e, he⟩ : ∃ e, e = mayB l := ⟨_, rfl⟩
  rw [← he] at HE
  have HM := Hd.mk he
  clear he
  go_enter Tryz.func18, Tryz.ntmps18
  go_wp2_with (fail)
  refine (rmay_any w A n c l p hn HS.out (by omega) e HM.out).mono ?_
  rintro r w1 ⟨rfl, h1⟩
  have F1 := Hd.mk h1
  clear h1
  by_cases h : e = 0
  · subst h
    have HE2 : Hd (er = if nd ≠ Lz.sizeOf l then 1 else 0) := ⟨by rw [HE.out, if_neg (by simp)]⟩
    have hz := mayB_zero HM.out.symm
    have HZ := Hd.mk hz.2
    have hz1 := hz.1
    clear hz HE
    have hsz := Lz.sizeOf_le l
    obtain ⟨s, hs⟩ : ∃ s, s = Lz.sizeOf l := ⟨_, rfl⟩
    rw [← hs] at HE2 hsz
    have HSZ := Hd.mk hs
    clear hs
    have HE3 : Hd (er = if nd ≠ s then 1 else 0) := ⟨HE2.out⟩
    clear HE2
    go_wp2_with (fail)
    refine (rsize_any w1 A n c l p hn (HS.out.frame F1.out (by simp)) (by omega)).mono ?_
    rintro r w3 ⟨rfl, h2⟩
    rw [← HSZ.out]
    have F3 := Hd.mk (F1.out.trans h2 (by simp))
    clear h2 F1
    by_cases hns : nd = s
    · subst hns
      obtain rfl : er = 0 := by rw [HE3.out, if_neg (by simp)]
      have hne : ((nd : Int) != (nd : Int)) = false := by simp
      clear HE3
      have T3 := Hd.mk (T0.out.frame F3.out (by simp) (by simp))
      obtain ⟨V, hV⟩ : ∃ V, V = lastN b + 2 * 2 := ⟨_, rfl⟩
      have HV : Hd (V < 2 ^ 3) := ⟨by rw [hV]; cases b <;> decide⟩
      have HBB : Hd ([Value.bool b, .bool false, .bool true] = bools V 3) := ⟨by rw [hV]; cases b <;> rfl⟩
      have HVE := Hd.mk hV
      have hb1 : (Go.bits .and .i64 (2 : Int) 1 == 1) = false := by decide +kernel
      have hb2 : (Go.bits .and .i64 (2 : Int) 2 == 2) = true := by decide +kernel
      obtain ⟨Ax, cx, hxb, hxo, hxp, hxN⟩ := T3.out
      have XB := Hd.mk hxb
      have XO := Hd.mk hxo
      have XP := Hd.mk hxp
      have XN := Hd.mk hxN
      have NEX := Hd.mk (own_ne hxo hxb (by decide))
      have x0 := blk_cell hxb 0
      simp only [List.getElem?_toArray, List.getElem?_cons_zero] at x0
      clear hV hxb hxo hxp hxN
      go_wp2_with (at_builtin; refine wpList_append_sl rfl (.tmp 45) (.tmp 53) 28 rfl 4 j0 (.bool false) 1 1 Tryz.underlying28 hj0 jz0 jz1 jz2 rfl (by decide) (.slice Ax m cx) m _ rfl (by exact XO.out.alloc _) (some ⟨w3.heap.size, 0, none⟩) 3 3 [.bool b, .bool false, .bool true] (some w3.heap.size) rfl rfl (by exact sl_of_blk (blk_new _ _)) (by intro h; cases h) (by intro u hu; simp at hu; rcases hu with rfl | rfl | rfl <;> rfl) (by unfold maxLen; omega) (by omega) ?_; intro A3 d3 w9 hown' hgrow haft; have B9 := blk_grown hgrow (by exact blk_alloc XB.out _) NEX.out.symm; have y0 := blk_cell B9 0; have yf := blk_frozen B9 0; simp only [List.getElem?_toArray, List.getElem?_cons_zero] at y0; rw [HBB.out] at hown'; have HPR := Hd.mk (PutR.after ((Fr.refl w3 []).alloc (.cells #[.bool b, .bool false, .bool true] 4)) (rw_app (by exact blk_alloc XB.out _) (by exact XO.out.alloc _) XN.out HV.out hown' hgrow haft)); rw [XP.out] at HPR; clear hown' hgrow haft B9)
      generalize w9.setCell ⟨gw, 0, none⟩ (.slice A3 (m + 3) d3) = w4 at *
      obtain ⟨q4, h4⟩ := (Rw.start T3.out).put (by simpa [numOf, totOf] using HPR.out)
      have W4 : Hd (Rw w w4 gw q q4 N m [(V, 3)]) := ⟨Rw.after F3.out h4⟩
      have t4 : totOf [(V, 3)] = 3 := rfl
      clear h4 HPR XB XO XP XN NEX x0 T3 HBB hb1 hb2 hne HV
      have HKP : Hd (kindP 2 (m + 3) data l = Head.headP (ownLit l) (ownDist l) ++ bodyP (ownLit l) (ownDist l) l) := ⟨rfl⟩
      refine (rownLens_any w4 A n c l p hn (HS.out.frame W4.out.fr (fun k hk => (HP.out k hk).1)) (by omega) HL.out).mono ?_
      rintro r w5 hp5
      unfold OwnPost at hp5
      obtain ⟨A1, c1, B1, d1, rfl, h1, h2, _, _, h3⟩ := hp5.1 HM.out.symm
      have O1 := Hd.mk h1
      have O2 := Hd.mk h2
      have W5 := Hd.mk (W4.out.call h3)
      clear h1 h2 h3 hp5 W4
      go_wp2_with (fail)
      refine (Head.rwrite_any w5 A1 B1 286 c1 30 d1 (ownLit l) (ownDist l) _ _ (slArg_own O1.out) (slArg_own O2.out) 0 (by rw [own_okH]; rfl) gw _ _ q4 W5.out.rw_ (by rw [t4]; omega)).mono ?_
      rintro r w6 ⟨rfl, hw⟩
      unfold Head.WrR at hw
      obtain ⟨q6, h6⟩ := hw.1 (own_okH l)
      have O3 := Hd.mk (rown_keep W5.out.rw_ h6.fr O1.out (by decide) (by decide))
      have O4 := Hd.mk (rown_keep W5.out.rw_ h6.fr O2.out (by decide) (by decide))
      have W6 := Hd.mk (W5.out.more h6)
      have ht := headP_tot l
      have t6 : totOf ([(V, 3)] ++ Head.headP (ownLit l) (ownDist l)) = 3 + totOf (Head.headP (ownLit l) (ownDist l)) := by rw [totOf_app]; rfl
      clear hw h6 O1 O2 W5
      go_wp2_with (fail)
      refine (rbody_any w6 A1 B1 286 c1 30 d1 (ownLit l) (ownDist l) _ _ (slArg_own O3.out) (slArg_own O4.out) (ownLit_check l) (ownDist_check l) A n c l p hn (HS.out.frame W6.out.fr (fun k hk => (HP.out k hk).1)) (by omega) HZ.out HL.out gw _ _ q6 W6.out.rw_ (fun k hk hm => (HP.out k hk).1 (W6.out.mem (HP.out k hk).2 hm)) (fun k hk => rw_notown2 W6.out.rw_ O3.out (by decide) (by decide) hk) (fun k hk => rw_notown2 W6.out.rw_ O4.out (by decide) (by decide) hk) (by rw [t6]; omega)).mono ?_
      rintro r w7 ⟨rfl, q7, h7⟩
      have h9 := W6.out.more h7
      rw [List.append_assoc, ← HKP.out] at h9
      have W7 := Hd.mk h9
      clear h7 h9 W6
      go_wp2
      go_ret
      exact ⟨rfl, (fun _ => ⟨q7, by
        rw [HBP.out]
        have h := W7.out
        rw [HVE.out] at h
        have e := head3 (lastN b) 2 (kindP 2 (m + 3) data l)
        exact h.same e.1 e.2⟩), fun h => absurd rfl h⟩
    · obtain rfl : er = 1 := by rw [HE3.out, if_pos hns]
      have hne : ((nd : Int) != (s : Int)) = true := by simp; omega
      clear HE3
      go_wp2
      go_ret
      exact ⟨rfl, (fun h => by cases h), fun _ => F3.out⟩
  · have hne : (e != 0) = true := by simpa using h
    obtain rfl : er = e := by rw [HE.out, if_pos h]
    have HNE := Hd.mk h
    clear HE h
    go_wp2
    go_ret
    exact ⟨rfl, (fun h => absurd h HNE.out), fun _ => F1.out⟩
end Go.Proofs.YtkdgfioigkijgaaGreat.Blk
/- The program's writer and the document's side by side. No condition. -/
set_option linter.unusedVariables false
set_option linter.unusedSimpArgs false
set_option maxRecDepth 100000
namespace Go.Proofs.YtkdgfioigkijgaaGreat.Blk
open Go.RowKit Go.Proofs.YtkdgfioigkijgaaGreat.Lib Go.Proofs.YtkdgfioigkijgaaGreat.Ints Go.Proofs.YtkdgfioigkijgaaGreat.Num Go.Proofs.YtkdgfioigkijgaaGreat.Bits Go.Proofs.YtkdgfioigkijgaaGreat.Code
structure Hs (W w : World) (gw N m : Nat) (q : Option Nat) (gx N' m' : Nat) (p : Option Nat) : Prop where
  tl : Tl w gw 27 N m q
  rw_ : RW w gx N' m' p
  fr : Fr W w []
  new : W.heap.size ≤ gw ∧ W.heap.size ≤ gx ∧ (∀ y, q = some y → W.heap.size ≤ y) ∧ (∀ y, p = some y → W.heap.size ≤ y)
section
variable {W w w' : World} {gw N m gx N' m' N2 m2 : Nat} {q p q2 : Option Nat}
theorem Hs.call (h : Hs W w gw N m q gx N' m' p) (hf : Fr w w' []) : Hs W w' gw N m q gx N' m' p :=
  ⟨h.tl.frame hf (by simp) (by simp), h.rw_.frame hf (by simp) (by simp), h.fr.trans hf (by simp), h.new⟩
theorem Hs.tl1 (h : Hs W w gw N m q gx N' m' p) (ht : Tl w' gw 27 N2 m2 q2) (ha : Aft w q q2) (hf : Fr w w' (gw :: q.toList)) : Hs W w' gw N2 m2 q2 gx N' m' p := by
  obtain ⟨A, c, hxb, hxo, hxp, hxN⟩ := h.rw_
  refine ⟨ht, h.rw_.frame hf (tl_not h.tl hxb (by decide) (by decide)) (fun k hk => ?_), h.fr.trans hf (fun x hx hm => ?_), h.new.1, h.new.2.1, fun y hy => ?_, h.new.2.2.2⟩
  · rw [← hxp] at hk
    obtain ⟨cs, hcs⟩ := own_type hxo hk
    exact tl_not h.tl hcs (by decide) (by decide)
  · rcases List.mem_cons.1 hm with e | hm
    · have := h.new.1; omega
    · have := h.new.2.2.1 x (by simpa using hm); omega
  · rcases ha with e | ⟨z, e, hz⟩
    · rw [e] at hy; exact h.new.2.2.1 y hy
    · rw [e] at hy; cases hy
      have := h.fr.size
      omega
theorem Hs.rw1 (h : Hs W w gw N m q gx N' m' p) (ht : RW w' gx N2 m2 q2) (ha : Aft w p q2) (hf : Fr w w' (gx :: p.toList)) : Hs W w' gw N m q gx N2 m2 q2 := by
  obtain ⟨⟨ds, hd⟩, hq⟩ := tl_blk h.tl
  refine ⟨h.tl.frame hf (rw_not h.rw_ hd (by decide) (by decide)) (fun k hk => ?_), ht, h.fr.trans hf (fun x hx hm => ?_), h.new.1, h.new.2.1, h.new.2.2.1, fun y hy => ?_⟩
  · obtain ⟨cs, hcs⟩ := hq k hk
    exact rw_not h.rw_ hcs (by decide) (by decide)
  · rcases List.mem_cons.1 hm with e | hm
    · have := h.new.2.1; omega
    · have := h.new.2.2.2 x (by simpa using hm); omega
  · rcases ha with e | ⟨z, e, hz⟩
    · rw [e] at hy; exact h.new.2.2.2 y hy
    · rw [e] at hy; cases hy
      have := h.fr.size
      omega
theorem Hs.put1 (h : Hs W w gw N m q gx N' m' p) {v : Nat × Nat} (hp : PutL w w' gw N m q v) : ∃ q2, Hs W w' gw (N + v.1 * 2 ^ m) (m + v.2) q2 gx N' m' p := by
  obtain ⟨q2, a, b, c⟩ := hp
  exact ⟨q2, h.tl1 a b c⟩
theorem Hs.put2 (h : Hs W w gw N m q gx N' m' p) {v : Nat × Nat} (hp : PutR w w' gx N' m' p v) : ∃ p2, Hs W w' gw N m q gx (N' + v.1 * 2 ^ m') (m' + v.2) p2 := by
  obtain ⟨q2, a, b, c⟩ := hp
  exact ⟨q2, h.rw1 a b c⟩
theorem Hs.pw (h : Hs W w gw N m q gx N' m' p) {P : List (Nat × Nat)} (hp : Pw w w' gw q q2 N m P) : Hs W w' gw (N + numOf P * 2 ^ m) (m + totOf P) q2 gx N' m' p := h.tl1 hp.tl hp.aft hp.fr
theorem Hs.rw2 (h : Hs W w gw N m q gx N' m' p) {P : List (Nat × Nat)} (hp : Rw w w' gx p q2 N' m' P) : Hs W w' gw N m q gx (N' + numOf P * 2 ^ m') (m' + totOf P) q2 := h.rw1 hp.rw_ hp.aft hp.fr
/-- a block that was there when the law began, or that is neither writers' -/
theorem Hs.keep1 (h : Hs W w gw N m q gx N' m' p) {g : Nat} {cs : Array Value} {t : TypeId} {fr : Nat × Nat} (hb : w.heap[g]? = some (.cells cs t fr)) (h1 : t ≠ 27) (h2 : t ≠ 5) (hf : Fr w w' (gw :: q.toList)) : w'.heap[g]? = some (.cells cs t fr) := tl_keep h.tl hb h1 h2 hf
theorem Hs.keep2 (h : Hs W w gw N m q gx N' m' p) {g : Nat} {cs : Array Value} {t : TypeId} {fr : Nat × Nat} (hb : w.heap[g]? = some (.cells cs t fr)) (h1 : t ≠ 30) (h2 : t ≠ 4) (hf : Fr w w' (gx :: p.toList)) : w'.heap[g]? = some (.cells cs t fr) := rw_keep h.rw_ hb h1 h2 hf
end
end Go.Proofs.YtkdgfioigkijgaaGreat.Blk
/- Chapter 09: Write of both, of any kind. Conditions: at most 2^20 tokens; the writers have at most 2^45 bits. -/
set_option linter.unusedVariables false
set_option linter.unusedSimpArgs false
set_option maxRecDepth 100000
namespace Go.Proofs.YtkdgfioigkijgaaGreat.Blk
open Go.RowKit Go.Proofs.YtkdgfioigkijgaaGreat.Lib Go.Proofs.YtkdgfioigkijgaaGreat.Ints Go.Proofs.YtkdgfioigkijgaaGreat.Lz Go.Proofs.YtkdgfioigkijgaaGreat.Num Go.Proofs.YtkdgfioigkijgaaGreat.Bits
theorem blkwrite_nil (w : World) (v1 v2 v3 v4 : Value) : Calls Tryz.prog 17 #[.pointer none, v1, v2, v3, v4] w fun e w' => e = .returned (.int .i64 2) ∧ w = w' := by
  go_enter Tryz.func17, Tryz.ntmps17
  go_wp2
  go_ret
  exact ⟨rfl, rfl⟩
theorem write_no (w : World) (k : Int) (hk : k < 0 ∨ 2 < k) (b : Bool) (D A : Option Addr) (nd cd n c : Nat) (gw N m : Nat) (q : Option Nat) (hT : Tl w gw 27 N m q) :
    Calls Tryz.prog 17 #[.pointer (some ⟨gw, 0, none⟩), .int .i64 k, .bool b, .slice D nd cd, .slice A n c] w fun e w' => e = .returned (.int .i64 1) ∧ Fr w w' [] := by
  have T0 := Hd.mk hT
  have HK := Hd.mk hk
  clear hT hk
  obtain ⟨bh, hbh⟩ : ∃ bh, bh = m % 8 := ⟨_, rfl⟩
  have hk8 : (m : Int) % 8 = (bh : Int) := by omega
  clear hbh
  go_enter Tryz.func17, Tryz.ntmps17
  go_wp2_with (fail)
  refine (len_any _ T0.out).mono ?_
  rintro r w' ⟨rfl, rfl⟩
  go_wp2_with (fail)
  refine (cost0_any w k (bh : Int) A n c (by have := HK.out; omega)).mono ?_
  rintro r w1 ⟨rfl, h1⟩
  have F1 := Hd.mk h1
  clear h1
  go_wp2
  go_ret
  exact ⟨rfl, F1.out⟩
theorem rbwrite_no (w : World) (k : Int) (hk : k < 0 ∨ 2 < k) (b : Bool) (D A : Option Addr) (nd cd n c gw : Nat) :
    Calls Tryz.prog 18 #[.pointer (some ⟨gw, 0, none⟩), .int .i64 k, .bool b, .slice D nd cd, .slice A n c] w fun e w' => e = .returned (.int .i64 1) ∧ w = w' := by
  go_enter Tryz.func18, Tryz.ntmps18
  by_cases h1 : k < 0
  · clear hk
    go_wp2
    go_ret
    exact ⟨rfl, rfl⟩
  · have h2 : 2 < k := by omega
    clear hk
    go_wp2
    go_ret
    exact ⟨rfl, rfl⟩
theorem wrErr_no {k : Int} (h : k < 0 ∨ 2 < k) (nd : Nat) (l : List Tok) : wrErr k nd l = 1 := by unfold wrErr; rw [if_pos h]
theorem write_all (w : World) (k : Int) (b : Bool) (D : Option Addr) (nd cd : Nat) (data : List Int) (pd : Option Nat) (hD : SlArg w D nd cd (u8s data) pd) (hnd2 : nd ≤ 17592186044416) (hby : ∀ x ∈ data, 0 ≤ x ∧ x ≤ 255)
    (A : Option Addr) (n c : Nat) (l : List Tok) (p : Option Nat) (hn : l.length = n) (hS : Sl w A (tcells l) p) (hb : n ≤ 1048576) (hl : LitB l)
    (gw N m : Nat) (q : Option Nat) (hT : Tl w gw 27 N m q) (hp : ∀ k, p = some k → k ∉ gw :: q.toList ∧ k < w.heap.size) (hpd : ∀ k, pd = some k → k ∉ gw :: q.toList ∧ k < w.heap.size) (hm : m ≤ 35184372080000) (er : Int) (he : er = wrErr k data.length l) :
    Calls Tryz.prog 17 #[.pointer (some ⟨gw, 0, none⟩), .int .i64 k, .bool b, .slice D nd cd, .slice A n c] w fun e w' => e = .returned (.int .i64 er) ∧ WrPost w w' gw N m q er (blockP k.toNat m b data l) := by
  have hnd : data.length = nd := by have := hD.len; simpa [u8s] using this
  by_cases hk : k < 0 ∨ 2 < k
  · rw [wrErr_no hk] at he
    subst he
    refine (write_no w k hk b D A nd cd n c gw N m q hT).mono ?_
    rintro e w1 ⟨rfl, h1⟩
    exact ⟨rfl, (fun h => by cases h), fun _ => h1⟩
  · obtain ⟨j, rfl⟩ := Int.eq_ofNat_of_zero_le (show 0 ≤ k by omega)
    subst hnd
    exact write3_any w j (by omega) b D cd data pd hD.sl hD.nil hby (by omega) A n c l p hn hS (by omega) hl gw N m q hT hp hpd (by omega) er he
theorem rbwrite_all (w : World) (k : Int) (b : Bool) (D : Option Addr) (nd cd : Nat) (data : List Int) (pd : Option Nat) (hD : SlArg w D nd cd (u8s data) pd) (hnd2 : nd ≤ 17592186044416) (hby : ∀ x ∈ data, 0 ≤ x ∧ x ≤ 255)
    (A : Option Addr) (n c : Nat) (l : List Tok) (p : Option Nat) (hn : l.length = n) (hS : Sl w A (tcells l) p) (hb : n ≤ 1048576) (hl : LitB l)
    (gw N m : Nat) (q : Option Nat) (hT : RW w gw N m q) (hp : ∀ k, p = some k → k ∉ gw :: q.toList ∧ k < w.heap.size) (hpd : ∀ k, pd = some k → k ∉ gw :: q.toList ∧ k < w.heap.size) (hm : m ≤ 35184372080000) (er : Int) (he : er = wrErr k data.length l) :
    Calls Tryz.prog 18 #[.pointer (some ⟨gw, 0, none⟩), .int .i64 k, .bool b, .slice D nd cd, .slice A n c] w fun e w' => e = .returned (.int .i64 er) ∧ RwPost w w' gw N m q er (blockP k.toNat m b data l) := by
  have hnd : data.length = nd := by have := hD.len; simpa [u8s] using this
  by_cases hk : k < 0 ∨ 2 < k
  · rw [wrErr_no hk] at he
    subst he
    refine (rbwrite_no w k hk b D A nd cd n c gw).mono ?_
    rintro e w1 ⟨rfl, rfl⟩
    exact ⟨rfl, (fun h => by cases h), fun _ => Fr.refl _ _⟩
  · obtain ⟨j, rfl⟩ := Int.eq_ofNat_of_zero_le (show 0 ≤ k by omega)
    subst hnd
    have hc : j = 0 ∨ j = 1 ∨ j = 2 := by omega
    rcases hc with rfl | rfl | rfl
    · exact rbwrite0 w b D cd data pd hD.sl hby hnd2 A n c l p hn hS hb hl gw N m q hT hp hpd hm er he
    · exact rbwrite1 w b D cd data pd hD.sl hby hnd2 A n c l p hn hS hb hl gw N m q hT hp hpd hm er he
    · exact rbwrite2 w b D cd data pd hD.sl hby hnd2 A n c l p hn hS hb hl gw N m q hT hp hpd hm er he
/-- how many bits a block has at most -/
theorem blockP_le {k : Int} {m : Nat} {b : Bool} {data : List Int} {l : List Tok} (hl : LitB l) (h : wrErr k data.length l = 0) : totOf (blockP k.toNat m b data l) ≤ 4000000 := by
  unfold wrErr at h
  split at h
  · cases h
  split at h
  · rename_i h1 h2; exact absurd h h2
  rename_i h1 h2
  have hz := mayB_zero (Decidable.not_not.1 h2)
  split at h
  · cases h
  split at h
  · cases h
  rename_i h3 h4
  have hds : data.length = Lz.sizeOf l := Decidable.not_not.1 h4
  obtain ⟨j, rfl⟩ := Int.eq_ofNat_of_zero_le (show 0 ≤ k by omega)
  have hc : j = 0 ∨ j = 1 ∨ j = 2 := by omega
  have hb : ∀ lit dist, Code.check lit = 0 → Code.check dist = 0 → totOf (bodyP lit dist l) ≤ 48 * 65536 + 15 := by
    intro lit dist h5 h6
    have := toksP_le h5 h6 l hz.2 hl
    have h7 := part_le h5 256
    unfold bodyP
    rw [totOf_snoc2]
    have := hz.1
    omega
  rw [Int.toNat_natCast]
  unfold blockP
  rw [totOf_app]
  have h8 : totOf [(lastN b, 1), (j, 2)] = 3 := rfl
  rcases hc with rfl | rfl | rfl
  · have h9 : ¬ 65535 < Lz.sizeOf l := fun h => h3 ⟨rfl, h⟩
    have : totOf (kindP 0 (m + 3) data l) = (8 - (m + 3) % 8) % 8 + (16 + 16) + 8 * data.length := by
      unfold kindP
      rw [if_pos rfl]
      unfold storedP
      rw [totOf_app, bytesP_tot]
      simp only [totOf]
    omega
  · have : kindP 1 (m + 3) data l = bodyP plainLit plainDist l := rfl
    rw [this]
    have := hb _ _ plainLit_check plainDist_check
    omega
  · have : kindP 2 (m + 3) data l = Head.headP (ownLit l) (ownDist l) ++ bodyP (ownLit l) (ownDist l) l := rfl
    rw [this, totOf_app]
    have := hb _ _ (ownLit_check l) (ownDist_check l)
    have := headP_tot l
    omega
end Go.Proofs.YtkdgfioigkijgaaGreat.Blk
/- sapperref01's Lend and Kept. Conditions: fewer than 2^47 bytes. -/
set_option maxRecDepth 100000
set_option linter.unusedVariables false
set_option linter.unusedSimpArgs false
namespace Go.Proofs.YtkdgfioigkijgaaGreat.Bits
open Go.RowKit Go.Proofs.YtkdgfioigkijgaaGreat.Lib Go.Proofs.YtkdgfioigkijgaaGreat.Num

def lendTail : List Int := [171, 172, 173, 174, 175]
theorem u8s_app (xs ys : List Int) : u8s (xs ++ ys) = u8s xs ++ u8s ys := by simp [u8s]
theorem u8s_one (xs : List Int) : ∀ u ∈ u8s xs, u.oneCell' = true := by intro u hu; simp only [u8s, List.mem_map] at hu; obtain ⟨_, _, rfl⟩ := hu; rfl
theorem lend_range {xs : List Int} (hx : ∀ x ∈ xs, 0 ≤ x ∧ x ≤ 255) : ∀ x ∈ xs ++ lendTail, 0 ≤ x ∧ x ≤ 255 := by
  intro x h
  rcases List.mem_append.1 h with h | h
  · exact hx x h
  · simp [lendTail] at h; omega

theorem lend_any (w : World) (A : Option Addr) (l c : Nat) (xs : List Int) (q : Option Nat) (hS : SlArg w A l c (u8s xs) q) (hy : l ≤ 140737488355000) :
    Calls Tryz.prog 16 #[.slice A l c] w fun e w' => ∃ g d, e = .returned (.tuple #[.slice (some ⟨g, 0, none⟩) (l + 5) d, .slice (some ⟨g, 0, none⟩) l d]) ∧
      w'.ownsRow 0 5 1 (.slice (some ⟨g, 0, none⟩) (l + 5) d) (l + 5) (u8s (xs ++ lendTail)) ∧ w.heap.size ≤ g ∧ Fr w w' [] := by
  obtain ⟨i0, hi0, hz0, hz1, hz2⟩ := info_parts infoU8
  have hl : xs.length = l := by have := hS.len; simpa [u8s] using this
  subst hl
  have HS := Hd.mk (hS.sl.alloc (.cells #[] 5))
  have HN := Hd.mk hS.nil
  clear hS
  go_enter Tryz.func16, Tryz.ntmps16
  go_wp2_with (at_builtin; refine wpList_append_sl rfl (.tmp 5) (.tmp 6) 23 rfl 5 i0 (.int .u8 0) 1 1 Tryz.underlying23 hi0 hz0 hz1 hz2 rfl (by decide) (.slice (some ⟨w.heap.size, 0, none⟩) 0 0) 0 [] rfl ?c0 A xs.length c _ _ rfl ?c4 HS.out HN.out ?c1 ?c2 ?c3 ?_)
  case c0 => exact World.ownsRow_lit w #[] 0 (Nat.zero_le _) (Nat.zero_le _) rfl
  case c4 => simp [u8s]
  case c1 => exact u8s_one xs
  case c2 => unfold maxLen; omega
  case c3 => omega
  intro A1 c1 w1 hown1 hgrow1 haft1
  have H1 := Hd.mk hown1
  have G1 := Hd.mk hgrow1
  have F1 := Hd.mk haft1
  clear hown1 hgrow1 haft1
  go_wp2_with (at_builtin; refine wpList_append_sl rfl (.tmp 7) (.tmp 8) 23 rfl 5 i0 (.int .u8 0) 1 1 Tryz.underlying23 hi0 hz0 hz1 hz2 rfl (by decide) (.slice A1 xs.length c1) xs.length _ rfl (by exact H1.out.alloc _) (some ⟨w1.heap.size, 0, none⟩) 5 5 [.int .u8 171, .int .u8 172, .int .u8 173, .int .u8 174, .int .u8 175] (some w1.heap.size) rfl rfl (by exact sl_of_blk (blk_new _ _)) (by intro h; cases h) ?d1 ?d2 ?d3 ?_)
  case d1 => intro u hu; simp at hu; rcases hu with rfl | rfl | rfl | rfl | rfl <;> rfl
  case d2 => unfold maxLen; omega
  case d3 => omega
  intro A2 c2 w2 hown2 hgrow2 haft2
  have hf2 : ∀ k, (Value.slice A2 (xs.length + 5) c2).ownBlock = some k → w.heap.size ≤ k := by
    intro k hk
    have h0 : w.heap.size ≤ w1.heap.size := by have := G1.out.size; simp at this; omega
    rcases haft2 with e | ⟨j, e, hj⟩
    · rw [e] at hk
      rcases F1.out with e1 | ⟨j1, e1, hj1⟩
      · rw [hk] at e1; simp [Value.ownBlock] at e1; omega
      · rw [hk] at e1; cases e1; simp at hj1; omega
    · rw [hk] at e; cases e; simp at hj; omega
  obtain ⟨g, d, e2, hd⟩ := own_some hown2 (by omega)
  have hA2 : A2 = some ⟨g, 0, none⟩ ∧ c2 = d := by injection e2 with a1 _ a2; exact ⟨a1, a2⟩
  obtain ⟨rfl, rfl⟩ := hA2
  have hg := hf2 g rfl
  have hfr : Fr w w2 [] := by
    have a1 := ((Fr.refl w []).alloc (.cells #[] 5)).grown G1.out (fun k hk => .inr (by simp [Value.ownBlock] at hk; omega))
    have a2 := (a1.alloc (.cells #[.int .u8 171, .int .u8 172, .int .u8 173, .int .u8 174, .int .u8 175] 5)).grown hgrow2 (fun k hk => .inr (by
      rcases F1.out with e1 | ⟨j1, e1, hj1⟩
      · rw [hk] at e1; simp [Value.ownBlock] at e1; omega
      · rw [hk] at e1; cases e1; simp at hj1; omega))
    exact a2
  have H2 : Hd (w2.ownsRow 0 5 1 (.slice (some ⟨g, 0, none⟩) (xs.length + 5) c2) (xs.length + 5) (u8s (xs ++ lendTail))) := ⟨by rw [u8s_app]; exact hown2⟩
  have HF := Hd.mk hfr
  clear hown2 hgrow2 haft2 hf2 hfr e2
  go_wp2
  go_region
  go_wp2
  go_ret2
  exact ⟨g, c2, rfl, H2.out, hg, HF.out.drew⟩
theorem kept_any (w : World) (A : Option Addr) (l c : Nat) (xs : List Int) (q : Option Nat) (hS : SlArg w A l c (u8s xs) q) (hy : l ≤ 140737488355000) (hx : ∀ x ∈ xs, 0 ≤ x ∧ x ≤ 255)
    (B : Option Addr) (m d : Nat) (ys : List Int) (p : Option Nat) (hm : ys.length = m) (hT : Sl w B (u8s ys) p) (hB : B = none → m = 0 ∧ d = 0) (hyr : ∀ x ∈ ys, 0 ≤ x ∧ x ≤ 255) (hp : ∀ k, p = some k → k < w.heap.size) :
    Calls Tryz.prog 21 #[.slice B m d, .slice A l c] w fun e w' => e = .returned (.bool (decide (ys = xs ++ lendTail))) ∧ Fr w w' [] := by
  have HS := Hd.mk hS
  have HT := Hd.mk hT
  have HB := Hd.mk hB
  have HX := Hd.mk (lend_range hx)
  have HY := Hd.mk hyr
  have HM := Hd.mk hm
  have hl : Hd (xs.length = l) := ⟨by have := hS.len; simpa [u8s] using this⟩
  clear hS hT hB hx hyr hm
  go_enter Tryz.func21, Tryz.ntmps21
  go_wp2_with (fail)
  refine (lend_any w A l c xs q HS.out hy).mono ?_
  rintro e w1 ⟨g, e1, rfl, h1, h2, h3⟩
  have H1 := Hd.mk h1
  have H3 := Hd.mk h3
  have HT1 := Hd.mk (HT.out.frame h3 (by simp))
  clear h1 h3
  go_wp2_with (fail)
  refine (same_any w1 B _ m (l + 5) d e1 ys (xs ++ lendTail) p _ HM.out (by rw [List.length_append, hl.out]; rfl) HY.out HX.out HT1.out (sl_of_own H1.out) HB.out (by intro h; cases h)).mono ?_
  rintro e w' ⟨rfl, rfl⟩
  go_wp2
  go_ret
  exact ⟨rfl, H3.out⟩
end Go.Proofs.YtkdgfioigkijgaaGreat.Bits
/- Expand of the program and of the document. Conditions: at most 2^20 tokens. -/
set_option linter.unusedVariables false
set_option linter.unusedSimpArgs false
set_option maxRecDepth 100000
namespace Go.Proofs.YtkdgfioigkijgaaGreat.Lz
open Go.RowKit Go.Proofs.YtkdgfioigkijgaaGreat.Lib Go.Proofs.YtkdgfioigkijgaaGreat.Num Go.Proofs.YtkdgfioigkijgaaGreat.Bits

theorem checkF_ok (v : Int) : ∀ (l : List Tok) (i n : Nat), (checkF v l i n).2 = 0 → ∀ j (h : j < l.length), right l[j] = true ∧ l[j].dist ≤ ((n + sizeOf (l.take j) : Nat) : Int)
  | [], i, n, _, j, h => absurd h (Nat.not_lt_zero _)
  | t :: l, i, n, hc, j, h => by
    simp only [checkF] at hc
    split at hc
    · simp at hc
    · rename_i hr
      split at hc
      · simp at hc
      · rename_i hd
        cases j with
        | zero => simp only [List.getElem_cons_zero, List.take_zero]; exact ⟨by simpa using hr, by simp [sizeOf]; omega⟩
        | succ j =>
          simp only [List.length_cons] at h
          have := checkF_ok v l (i + 1) (n + width t) hc j (by omega)
          simp only [List.getElem_cons_succ, List.take_succ_cons, sizeOf, List.map_cons, List.sum_cons] at this ⊢
          exact ⟨this.1, by omega⟩
theorem check_ok {v : Int} {l : List Tok} (h : (check v l).2 = 0) (j : Nat) (hj : j < l.length) : right l[j] = true ∧ l[j].dist ≤ ((sizeOf (l.take j) : Nat) : Int) := by
  unfold check at h
  split at h
  · simp at h
  · simpa using checkF_ok v l 0 0 h j hj
theorem sizeOf_takes (l : List Tok) (j : Nat) : sizeOf (l.take j) ≤ sizeOf l := by
  conv => rhs; rw [← List.take_append_drop j l]
  unfold sizeOf
  rw [List.map_append, List.sum_append]
  omega
theorem at0_get {b : List Int} {i : Nat} (h : i < b.length) : b[i]? = some (at0 b i) := by
  unfold at0; rw [List.getElem?_eq_getElem h, List.getD_eq_getElem?_getD, List.getElem?_eq_getElem h]; rfl
theorem own_newb {wo w : World} {q q' : Option Nat} (hB : ∀ x, q = some x → wo.heap.size ≤ x) (hs : wo.heap.size ≤ w.heap.size) {o : Obj} (h : Aft (w.alloc o) q q') : ∀ y, q' = some y → wo.heap.size ≤ y := by
  intro y hy
  rcases h with e | ⟨z, e, hz⟩
  · rw [e] at hy; exact hB y hy
  · rw [e] at hy; cases hy; simp at hz; omega
theorem aft_of_alloc {w : World} {o : Obj} {q q' : Option Nat} (h : Aft (w.alloc o) q q') : Aft w q q' := by
  rcases h with h | ⟨z, h, hz⟩
  · exact .inl h
  · exact .inr ⟨z, h, by simp at hz; omega⟩
set_option maxHeartbeats 8000000 in
theorem rexpand_any (w : World) (v : Int) (A : Option Addr) (n c : Nat) (l : List Tok) (p : Option Nat) (hn : l.length = n) (hS : Sl w A (tcells l) p) (hb : n ≤ 1048576) (er : Int) (bs : List Int) (her : er = (check v l).2) (hbs : bs = expand v l) :
    Calls Tryz.prog 13 #[.int .i64 v, .slice A n c] w fun e w' => ∃ A' m d, e = .returned (.tuple #[.slice A' m d, .int .i64 er]) ∧ w'.ownsRow 0 5 1 (.slice A' m d) m (u8s bs) ∧ (∀ y, (Value.slice A' m d).ownBlock = some y → w.heap.size ≤ y) ∧ Fr w w' [] := by
  obtain ⟨i0, hi0, hz0, hz1, hz2⟩ := info_parts infoU8
  subst hn
  have HS := Hd.mk hS
  have HE := Hd.mk her
  have HBS := Hd.mk hbs
  obtain ⟨pl, hpl⟩ : ∃ pl, pl = (check v l).1 := ⟨_, rfl⟩
  have HCK : Hd ((pl, er) = check v l) := ⟨by rw [hpl, her]⟩
  clear hS her hbs hpl
  go_enter Tryz.func13, Tryz.ntmps13
  go_wp2_with (fail)
  refine (rcheck_any w v A l.length c l p rfl HS.out (by omega) pl er HCK.out).mono ?_
  rintro e w1 ⟨rfl, h1⟩
  have F1 := Hd.mk h1
  clear h1
  by_cases he : er ≠ 0
  · have heb : (er == 0) = false := by simpa using he
    obtain rfl : bs = [] := by rw [HBS.out]; unfold expand; rw [if_neg (by rw [← HE.out]; exact he)]
    go_wp2
    go_ret2
    exact ⟨none, 0, 0, rfl, own_nil _ _ _ _, (by intro j hj; cases hj), F1.out⟩
  obtain rfl : er = 0 := by simpa using he
  have hok : Hd ((check v l).2 = 0) := ⟨HE.out.symm⟩
  have HX : Hd (bs = expF l []) := ⟨by rw [HBS.out]; unfold expand; rw [if_pos hok.out]⟩
  have hsz : sizeOf l ≤ 270532608 := by have := sizeOf_le l; omega
  clear he HE HBS HCK
  go_wp2
  go_loopg [8, 23] l.length (fun kq sv jv wr => ∃ (j : Nat) (A1 : Option Addr) (m d1 : Nat) (b : List Int), sv = .slice A1 m d1 ∧ jv = .int .i64 (j : Nat) ∧ j + kq = l.length ∧ b.length = m ∧ m ≤ 270532608 ∧ Hd (m = sizeOf (l.take j)) ∧ Hd (wr.ownsRow 0 5 1 (.slice A1 m d1) m (u8s b)) ∧ Hd (expF l [] = expF (l.drop j) b) ∧ Hd (∀ y, (Value.slice A1 m d1).ownBlock = some y → w.heap.size ≤ y) ∧ Hd (Fr w wr []))
  case atStart => exact ⟨0, none, 0, 0, [], rfl, rfl, by omega, rfl, by omega, ⟨by simp [sizeOf]⟩, ⟨own_nil _ _ _ _⟩, ⟨by rw [List.drop_zero]⟩, ⟨by intro y hy; cases hy⟩, F1⟩
  case round =>
    obtain ⟨ws, rfl⟩ : ∃ ws : World, ws = wr := ⟨_, rfl⟩
    obtain ⟨gx, rfl⟩ : ∃ gx : Nat, gx = gk := ⟨_, rfl⟩
    obtain ⟨j, A1, m, d1, b, rfl, rfl, hj, hbm, hmb, HM, HO, HL, HB, HF⟩ := hrel
    by_cases h1 : j < l.length
    · obtain ⟨a, o1, rfl, _, ha⟩ := Sl.row (enc := tcell) (sz := 3) (fun _ => rfl) (HS.out.frame HF.out (by simp)) h1 (by decide)
      obtain ⟨hr, hd⟩ := check_ok hok.out j h1
      rw [← HM.out] at hd
      have hsz1 := sizeOf_take h1
      have hsz2 : sizeOf (l.take (j + 1)) ≤ sizeOf l := sizeOf_takes l (j + 1)
      obtain ⟨t, ht⟩ : ∃ t, t = l[j] := ⟨_, rfl⟩
      have HL2 : Hd (expF l [] = expF (l.drop (j + 1)) (tokF t b)) := ⟨by rw [HL.out, List.drop_eq_getElem_cons h1, ← ht]; rfl⟩
      rw [← ht] at ha hr hd hsz1
      have hlen := right_len hr
      have hwd : width t = if t.len = 0 then 1 else t.len.toNat := by unfold width; rw [if_pos hr]
      have c0 := ha 0 (by decide)
      have c1 := ha 1 (by decide)
      have c2 := ha 2 (by decide)
      simp only [tcell, List.getElem?_cons_zero, List.getElem?_cons_succ, Nat.add_zero] at c0 c1 c2
      have hMs := HM.out
      obtain ⟨lt, ln, ds⟩ := t
      simp only at hd hlen hwd c0 c1 c2
      have hfs := HF.out.alloc (.cells #[.int .u8 lt, .int .i64 ln, .int .i64 ds] 80)
      have hos := HO.out.alloc (.cells #[.int .u8 lt, .int .i64 ln, .int .i64 ds] 80)
      have hks := blk_new ws (.cells #[.int .u8 lt, .int .i64 ln, .int .i64 ds] 80)
      have hns : Hd (∀ y, (Value.slice A1 m d1).ownBlock = some y → y ≠ ws.heap.size) := ⟨fun y hy => by have := own_lt HO.out hy; omega⟩
      obtain ⟨kb, hkb⟩ : ∃ kb, kb = ws.heap.size := ⟨_, rfl⟩
      clear ha ht hr HL HO
      go_upto_region 8 with (fail)
      rw [← hkb] at hns hks ⊢
      generalize hwt : ws.alloc (.cells #[.int .u8 lt, .int .i64 ln, .int .i64 ds] 80) = wt
      rw [hwt] at hfs hos hks
      have HFs := Hd.mk hfs
      have HOs := Hd.mk hos
      have HKs := Hd.mk hks
      have g0 := blk_cell hks 0
      have g1 := blk_cell hks 1
      simp only [List.getElem?_toArray, List.getElem?_cons_zero, List.getElem?_cons_succ] at g0 g1
      clear hfs hos hks c0 c1 c2 hwt hkb
      rcases hlen with ⟨rfl, rfl⟩ | hlen
      · -- one byte
        have hw1 : sizeOf (l.take (j + 1)) = m + 1 := by rw [hsz1, hwd, hMs]; rfl
        have hm1 : m + 1 ≤ 270532608 := by omega
        have HM2 : Hd (m + 1 = sizeOf (l.take (j + 1))) := ⟨hw1.symm⟩
        clear hw1 hsz1 hsz2 hwd hMs
        go_wp2_with (at_builtin; refine wpList_append_sl rfl (.tmp 30) (.tmp 33) 23 rfl 5 i0 (.int .u8 0) 1 1 Tryz.underlying23 hi0 hz0 hz1 hz2 rfl (by decide) (.slice A1 m d1) m _ rfl (by exact HOs.out.alloc _) (some ⟨wt.heap.size, 0, none⟩) 1 1 [.int .u8 lt] (some wt.heap.size) rfl rfl (by exact sl_of_blk (blk_new _ _)) (by intro h; cases h) (by intro u hu; simp at hu; rcases hu with rfl; rfl) (by unfold maxLen; omega) (by omega) ?_; intro A3 d3 w3 hown' hgrow haft; have O3 := Hd.mk hown'; have G3 := Hd.mk hgrow; have F3 := Hd.mk haft; clear hown' hgrow haft; have hb4 := G3.out.block kb (by have := blk_lt HKs.out; simp; omega) (fun e => hns.out _ e.symm rfl); have hb5 := hb4.trans (blk_alloc HKs.out _); have g1p := blk_cell hb5 1; have g2p := blk_cell hb5 2; simp only [List.getElem?_toArray, List.getElem?_cons_zero, List.getElem?_cons_succ] at g1p g2p; clear hb4 hb5)
        clear g0 g1
        go_wp2
        go_loopg [8, 11] 0 (fun kq sv iv wr => sv = .slice A3 (m + 1) d3 ∧ iv = .int .i64 0 ∧ kq = 0 ∧ wr = w3)
        case atStart => exact ⟨rfl, rfl, rfl, rfl⟩
        case round =>
          obtain ⟨rfl, rfl, rfl, rfl⟩ := hrel
          go_wp2
          go_roundg (gx - 1)
          case measure => omega
          case rel => exact ⟨j + 1, A3, m + 1, d3, b ++ [lt], rfl, by go_num, by omega, by simp [hbm], hm1, HM2, ⟨by have := O3.out; rwa [show u8s b ++ [Value.int .u8 lt] = u8s (b ++ [lt]) from by simp [u8s]] at this⟩, HL2, ⟨own_newb HB.out HFs.out.size F3.out⟩, ⟨(HFs.out.alloc _).grown G3.out (fun y hy => .inr (HB.out y hy))⟩⟩
      · obtain ⟨h3, h4, h5, h6, rfl⟩ := hlen
        obtain ⟨ln, rfl⟩ := Int.eq_ofNat_of_zero_le (show 0 ≤ ln by omega)
        obtain ⟨ds, rfl⟩ := Int.eq_ofNat_of_zero_le (show 0 ≤ ds by omega)
        have e0 : ((ln : Int) == 0) = false := by simp; omega
        have hw1 : sizeOf (l.take (j + 1)) = m + ln := by rw [hsz1, hwd, hMs, if_neg (by omega)]; rfl
        have hm1 : m + ln ≤ 270532608 := by omega
        have HM2 : Hd (m + ln = sizeOf (l.take (j + 1))) := ⟨hw1.symm⟩
        have HT : Hd (tokF ⟨0, (ln : Int), (ds : Int)⟩ b = copyF ds ln b) := ⟨by unfold tokF; rw [if_neg (by simp only; omega)]; rfl⟩
        clear hw1 hsz1 hsz2 hwd hMs
        go_wp2
        go_loopg [8, 11] ln (fun kq sv iv wr => ∃ (i : Nat) (A2 : Option Addr) (m2 d2 : Nat) (b2 : List Int), sv = .slice A2 m2 d2 ∧ iv = .int .i64 (i : Nat) ∧ i + kq = ln ∧ b2.length = m2 ∧ Hd (m2 = m + i) ∧ Hd (wr.ownsRow 0 5 1 (.slice A2 m2 d2) m2 (u8s b2)) ∧ Hd (copyF ds ln b = copyF ds (ln - i) b2) ∧ Hd (Aft wt (Value.slice A1 m d1).ownBlock (Value.slice A2 m2 d2).ownBlock) ∧ Hd (Fr wt wr (Value.slice A1 m d1).ownBlock.toList))
        case atStart => exact ⟨0, A1, m, d1, b, rfl, rfl, by omega, hbm, ⟨rfl⟩, HOs, ⟨rfl⟩, ⟨Aft.refl _ _⟩, ⟨Fr.refl _ _⟩⟩
        case round =>
          obtain ⟨i, A2, m2, d2, b2, rfl, rfl, hi, hb2, HM3, HO2, HC2, HA2, HF2⟩ := hrel
          have hb5 := HF2.out.blk HKs.out (fun hm => hns.out _ (by simpa using hm) rfl)
          have g1' := blk_cell hb5 1
          have g2' := blk_cell hb5 2
          simp only [List.getElem?_toArray, List.getElem?_cons_zero, List.getElem?_cons_succ] at g1' g2'
          clear hb5
          by_cases h7 : i < ln
          · have hm3 : m2 + 1 ≤ 270532608 := by have := HM3.out; omega
            obtain ⟨z, hz⟩ : ∃ z : Nat, m2 = z + ds := ⟨m2 - ds, by have := HM3.out; omega⟩
            obtain ⟨a2, c2', e2, _⟩ := own_some HO2.out (by omega)
            injection e2 with e2 _ e2'
            subst e2 e2'
            have hzc := HO2.out.cellAt z (by omega)
            have hzv : b2[z]? = some (at0 b2 z) := at0_get (by omega)
            rw [u8s_get, hzv] at hzc
            simp only [Option.map_some] at hzc
            obtain ⟨zv, hzv2⟩ : ∃ zv, zv = at0 b2 z := ⟨_, rfl⟩
            rw [← hzv2] at hzc
            have HZV := Hd.mk hzv2
            have hidx : (m2 : Int) - (ds : Int) = ((z : Nat) : Int) := by omega
            have hzlt : z < m2 := by omega
            have HZ := Hd.mk hz
            clear hzv hzv2 hz
            go_wp2_with (at_builtin; refine wpList_append_sl rfl (.tmp 41) (.tmp 50) 23 rfl 5 i0 (.int .u8 0) 1 1 Tryz.underlying23 hi0 hz0 hz1 hz2 rfl (by decide) (.slice (some ⟨a2, 0, none⟩) m2 d2) m2 _ rfl (by exact HO2.out.alloc _) (some ⟨wr.heap.size, 0, none⟩) 1 1 [.int .u8 zv] (some wr.heap.size) rfl rfl (by exact sl_of_blk (blk_new _ _)) (by intro h; cases h) (by intro u hu; simp at hu; rcases hu with rfl; rfl) (by unfold maxLen; omega) (by omega) ?_; intro A3 d3 w3 hown' hgrow haft; have O3 := Hd.mk hown'; have G3 := Hd.mk hgrow; have F3 := Hd.mk haft; clear hown' hgrow haft)
            go_roundg (gk - 1)
            case measure => omega
            case rel =>
              refine ⟨i + 1, A3, m2 + 1, d3, b2 ++ [zv], rfl, by go_num, by omega, by simp [hb2], ⟨by have := HM3.out; omega⟩, ⟨by have := O3.out; rwa [show u8s b2 ++ [Value.int .u8 zv] = u8s (b2 ++ [zv]) from by simp [u8s]] at this⟩, ⟨?_⟩, ⟨HA2.out.trans (aft_of_alloc F3.out) HF2.out.size⟩, ⟨(HF2.out.alloc _).grown G3.out (fun y hy => HA2.out.mem (k := y) (by simp [hy]))⟩⟩
              rw [HC2.out, show ln - i = (ln - (i + 1)) + 1 from by omega]
              simp only [copyF]
              rw [HZV.out, hb2, HZ.out, Nat.add_sub_cancel]
          · obtain rfl : i = ln := by omega
            have F5 : Hd (Fr w wr []) := ⟨HFs.out.trans HF2.out (fun y hy hm => by have := HB.out y (by simpa using hm); omega)⟩
            have B5 : Hd (∀ y, (Value.slice A2 m2 d2).ownBlock = some y → w.heap.size ≤ y) := ⟨fun y hy => by
              rcases HA2.out with h | ⟨z, h, hz⟩
              · rw [h] at hy; exact HB.out y hy
              · rw [h] at hy; cases hy; exact Nat.le_trans HFs.out.size hz⟩
            go_wp2
            go_roundg (gx - 1)
            case measure => omega
            case rel => exact ⟨j + 1, A2, m2, d2, b2, rfl, by go_num, by omega, hb2, by have := HM3.out; omega, ⟨by rw [HM3.out]; exact HM2.out⟩, HO2, ⟨by rw [HL2.out, HT.out, HC2.out, Nat.sub_self]; rfl⟩, B5, F5⟩
    · obtain rfl : j = l.length := by omega
      have hbb : Hd (bs = b) := ⟨by rw [HX.out, HL.out, List.drop_length]; rfl⟩
      go_wp2
      go_ret2
      exact ⟨A1, m, d1, rfl, by rw [hbb.out]; exact HO.out, HB.out, HF.out⟩
end Go.Proofs.YtkdgfioigkijgaaGreat.Lz
