/- Texts of this claim, one behind the other: BlkRw, BlkY. -/
import Derived.Test.YtkdgfioigkijgaaGreatG01
import Derived.Test.YtkdgfioigkijgaaGreatG02
import Derived.Test.YtkdgfioigkijgaaGreatG03
import Derived.Test.YtkdgfioigkijgaaGreatG04
import Derived.Test.YtkdgfioigkijgaaGreatG05
import Derived.Test.YtkdgfioigkijgaaGreatG06
import Derived.Test.YtkdgfioigkijgaaGreatG07
import Derived.Test.YtkdgfioigkijgaaGreatG08
import Derived.Test.YtkdgfioigkijgaaGreatG09
import Derived.Test.YtkdgfioigkijgaaGreatG10
import Derived.Test.YtkdgfioigkijgaaGreatG11
import Derived.Test.YtkdgfioigkijgaaGreatG12
import Derived.Test.YtkdgfioigkijgaaGreatG13
import Derived.Test.YtkdgfioigkijgaaGreatG14
import Derived.Test.YtkdgfioigkijgaaGreatG15
import Derived.Test.YtkdgfioigkijgaaGreatG16
import Derived.Test.YtkdgfioigkijgaaGreatG17
import Derived.Test.YtkdgfioigkijgaaGreatG18
/- Chapter 09: the document's Write walked. Conditions: at most 2^20 tokens; the writer has at most 2^45 bits. -/
set_option linter.unusedVariables false
set_option linter.unusedSimpArgs false
set_option maxRecDepth 100000
namespace Go.Proofs.YtkdgfioigkijgaaGreat.Blk
open Go.RowKit Go.Proofs.YtkdgfioigkijgaaGreat.Lib Go.Proofs.YtkdgfioigkijgaaGreat.Ints Go.Proofs.YtkdgfioigkijgaaGreat.Lz Go.Proofs.YtkdgfioigkijgaaGreat.Num Go.Proofs.YtkdgfioigkijgaaGreat.Bits
/-- what the document's Write leaves -/
def RwPost (w w' : World) (gw N m : Nat) (q : Option Nat) (er : Int) (P : List (Nat × Nat)) : Prop := (er = 0 → ∃ q', Rw w w' gw q q' N m P) ∧ (er ≠ 0 → Fr w w' [])
theorem Rw.same {w0 w : World} {gw N m : Nat} {q0 q : Option Nat} {P Q : List (Nat × Nat)} (h : Rw w0 w gw q0 q N m P) (hn : numOf P = numOf Q) (ht : totOf P = totOf Q) : Rw w0 w gw q0 q N m Q := ⟨by rw [← hn, ← ht]; exact h.rw_, h.aft, h.fr⟩
theorem head3 (x y : Nat) (R : List (Nat × Nat)) : numOf ([(x + 2 * y, 3)] ++ R) = numOf ([(x, 1), (y, 2)] ++ R) ∧ totOf ([(x + 2 * y, 3)] ++ R) = totOf ([(x, 1), (y, 2)] ++ R) := by
  simp only [List.cons_append, List.nil_append, numOf, totOf, Nat.reducePow]
  omega
theorem xor16 {n : Nat} (h : n ≤ 65535) : Go.bits .xor .u64 (n : Int) 65535 = ((65535 - n : Nat) : Int) := by
  have hx := bits_xor_u64_nat n 65535 (by omega) (by decide)
  rw [show ((65535 : Nat) : Int) = 65535 from rfl] at hx
  rw [hx]
  congr 1
  apply Nat.eq_of_testBit_eq
  intro i
  rw [Nat.testBit_xor, show (65535 : Nat) = 2 ^ 16 - 1 from rfl, Nat.testBit_two_pow_sub_one, show 2 ^ 16 - 1 - n = 2 ^ 16 - (n + 1) from by omega, Nat.testBit_two_pow_sub_succ (by omega)]
  by_cases hi : i < 16
  · simp [hi]
  · have h1 : n.testBit i = false := Nat.testBit_lt_two_pow (Nat.lt_of_lt_of_le (show n < 2 ^ 16 by omega) (Nat.pow_le_pow_right (by decide) (by omega)))
    simp [hi, h1]
theorem rw_notown2 {w : World} {gw N m : Nat} {q : Option Nat} (h : RW w gw N m q) {base : Nat} {e : TypeId} {size n : Nat} {v : Value} {xs : List Value} (ho : w.ownsRow base e size v n xs) (h1 : e ≠ 30) (h2 : e ≠ 4) {k : Nat} (hk : v.ownBlock = some k) : k ∉ gw :: q.toList := by
  obtain ⟨cs, hcs⟩ := own_type ho hk
  exact rw_not h hcs h1 h2
theorem rw_notown {w : World} {gw N m : Nat} {q : Option Nat} (h : RW w gw N m q) {base : Nat} {e : TypeId} {size n g nn c : Nat} {xs : List Value} (ho : w.ownsRow base e size (.slice (some ⟨g, 0, none⟩) nn c) n xs) (h1 : e ≠ 30) (h2 : e ≠ 4) : g ∉ gw :: q.toList := rw_notown2 h ho h1 h2 rfl
set_option maxHeartbeats 8000000 in
theorem rbwrite0 (w : World) (b : Bool) (D : Option Addr) (cd : Nat) (data : List Int) (pd : Option Nat) (hD : Sl w D (u8s data) pd) (hby : ∀ x ∈ data, 0 ≤ x ∧ x ≤ 255) (hnd : data.length ≤ 17592186044416)
    (A : Option Addr) (n c : Nat) (l : List Tok) (p : Option Nat) (hn : l.length = n) (hS : Sl w A (tcells l) p) (hb : n ≤ 1048576) (hl : LitB l)
    (gw N m : Nat) (q : Option Nat) (hT : RW w gw N m q) (hp : ∀ k, p = some k → k ∉ gw :: q.toList ∧ k < w.heap.size) (hpd : ∀ k, pd = some k → k ∉ gw :: q.toList ∧ k < w.heap.size) (hm : m ≤ 35184372080000) (er : Int) (he : er = wrErr 0 data.length l) :
    Calls Tryz.prog 18 #[.pointer (some ⟨gw, 0, none⟩), .int .i64 0, .bool b, .slice D data.length cd, .slice A n c] w fun e w' => e = .returned (.int .i64 er) ∧ RwPost w w' gw N m q er (blockP 0 m b data l) := by
  obtain ⟨j0, hj0, jz0, jz1, jz2⟩ := info_parts Bits.infoBool
  have HS := Hd.mk hS
  have HL := Hd.mk hl
  have HP := Hd.mk hp
  have HD := Hd.mk hD
  have HBY := Hd.mk hby
  have HPD := Hd.mk hpd
  have T0 := Hd.mk hT
  have HE : Hd (er = if mayB l ≠ 0 then mayB l else if 65535 < Lz.sizeOf l then 90 else if data.length ≠ Lz.sizeOf l then 1 else 0) := ⟨by rw [he]; unfold wrErr; rw [if_neg (by omega)]; simp only [true_and]⟩
  have HBP : Hd (blockP 0 m b data l = [(lastN b, 1), (0, 2)] ++ kindP 0 (m + 3) data l) := ⟨rfl⟩
  clear hS hl hp hT he hD hby hpd
  obtain ⟨nd, hnd'⟩ : ∃ nd, nd = data.length := ⟨_, rfl⟩
  rw [← hnd'] at hnd HE ⊢
  have HND := Hd.mk hnd'
  clear hnd'
  obtain ⟨e, he⟩ : ∃ e, e = mayB l := ⟨_, rfl⟩
  rw [← he] at HE
  have HM := Hd.mk he
  clear he
  go_enter Tryz.func18, Tryz.ntmps18
  go_wp2_with (fail)
  refine (rmay_any w A n c l p hn HS.out (by omega) e HM.out).mono ?_
  rintro r w1 ⟨rfl, h1⟩
  have F1 := Hd.mk h1
  clear h1
  by_cases h : e = 0
  · subst h
    have HE2 : Hd (er = if 65535 < Lz.sizeOf l then 90 else if nd ≠ Lz.sizeOf l then 1 else 0) := ⟨by rw [HE.out, if_neg (by simp)]⟩
    have hz := mayB_zero HM.out.symm
    have HZ := Hd.mk hz.2
    have hz1 := hz.1
    clear hz HE
    have hsz := Lz.sizeOf_le l
    obtain ⟨s, hs⟩ : ∃ s, s = Lz.sizeOf l := ⟨_, rfl⟩
    rw [← hs] at HE2 hsz
    have HSZ := Hd.mk hs
    clear hs
    go_wp2_with (fail)
    refine (rsize_any w1 A n c l p hn (HS.out.frame F1.out (by simp)) (by omega)).mono ?_
    rintro r w2 ⟨rfl, h2⟩
    rw [← HSZ.out]
    have F2 := Hd.mk (F1.out.trans h2 (by simp))
    clear h2 F1
    by_cases hbig : 65535 < s
    · obtain rfl : er = 90 := by rw [HE2.out, if_pos hbig]
      have hbI : (65535 : Int) < (s : Nat) := by omega
      clear HE2
      go_wp2
      go_ret
      exact ⟨rfl, (fun h => by cases h), fun _ => F2.out⟩
    · have HE3 : Hd (er = if nd ≠ s then 1 else 0) := ⟨by rw [HE2.out, if_neg hbig]⟩
      have hbI : ¬ (65535 : Int) < (s : Nat) := by omega
      clear HE2
      go_wp2_with (fail)
      refine (rsize_any w2 A n c l p hn (HS.out.frame F2.out (by simp)) (by omega)).mono ?_
      rintro r w3 ⟨rfl, h2⟩
      rw [← HSZ.out]
      have F3 := Hd.mk (F2.out.trans h2 (by simp))
      clear h2 F2
      by_cases hns : nd = s
      · subst hns
        obtain rfl : er = 0 := by rw [HE3.out, if_neg (by simp)]
        have hne : ((nd : Int) != (nd : Int)) = false := by simp
        clear HE3
        have T3 := Hd.mk (T0.out.frame F3.out (by simp) (by simp))
        obtain ⟨V, hV⟩ : ∃ V, V = lastN b + 2 * 0 := ⟨_, rfl⟩
        have HV : Hd (V < 2 ^ 3) := ⟨by rw [hV]; cases b <;> decide⟩
        have HBB : Hd ([Value.bool b, .bool false, .bool false] = bools V 3) := ⟨by rw [hV]; cases b <;> rfl⟩
        have HVE := Hd.mk hV
        have hb1 : (Go.bits .and .i64 (0 : Int) 1 == 1) = false := by decide +kernel
        have hb2 : (Go.bits .and .i64 (0 : Int) 2 == 2) = false := by decide +kernel
        obtain ⟨Ax, cx, hxb, hxo, hxp, hxN⟩ := T3.out
        have XB := Hd.mk hxb
        have XO := Hd.mk hxo
        have XP := Hd.mk hxp
        have XN := Hd.mk hxN
        have NEX := Hd.mk (own_ne hxo hxb (by decide))
        have x0 := blk_cell hxb 0
        simp only [List.getElem?_toArray, List.getElem?_cons_zero] at x0
        clear hV hxb hxo hxp hxN
        go_wp2_with (at_builtin; refine wpList_append_sl rfl (.tmp 45) (.tmp 53) 28 rfl 4 j0 (.bool false) 1 1 Tryz.underlying28 hj0 jz0 jz1 jz2 rfl (by decide) (.slice Ax m cx) m _ rfl (by exact XO.out.alloc _) (some ⟨w3.heap.size, 0, none⟩) 3 3 [.bool b, .bool false, .bool false] (some w3.heap.size) rfl rfl (by exact sl_of_blk (blk_new _ _)) (by intro h; cases h) (by intro u hu; simp at hu; rcases hu with rfl | rfl | rfl <;> rfl) (by unfold maxLen; omega) (by omega) ?_; intro A3 d3 w9 hown' hgrow haft; have B9 := blk_grown hgrow (by exact blk_alloc XB.out _) NEX.out.symm; have y0 := blk_cell B9 0; have yf := blk_frozen B9 0; simp only [List.getElem?_toArray, List.getElem?_cons_zero] at y0; rw [HBB.out] at hown'; have HPR := Hd.mk (PutR.after ((Fr.refl w3 []).alloc (.cells #[.bool b, .bool false, .bool false] 4)) (rw_app (by exact blk_alloc XB.out _) (by exact XO.out.alloc _) XN.out HV.out hown' hgrow haft)); rw [XP.out] at HPR; clear hown' hgrow haft B9)
        generalize w9.setCell ⟨gw, 0, none⟩ (.slice A3 (m + 3) d3) = w4 at *
        obtain ⟨q4, h4⟩ := (Rw.start T3.out).put (by simpa [numOf, totOf] using HPR.out)
        have W4 : Hd (Rw w w4 gw q q4 N m [(V, 3)]) := ⟨Rw.after F3.out h4⟩
        have t4 : totOf [(V, 3)] = 3 := rfl
        clear h4 HPR XB XO XP XN NEX x0 T3 HBB hb1 hb2 hne HV
        have hxor := xor16 (n := nd) (by omega)
        have HKP : Hd (kindP 0 (m + 3) data l = [(0, (8 - (m + 3) % 8) % 8), (nd, 16), (65535 - nd, 16)] ++ bytesP data) := ⟨by rw [HND.out]; rfl⟩
        refine (walign_any w4 (by omega) W4.out.rw_).mono ?_
        rintro r w5 ⟨rfl, q5, h1, h2, h3⟩
        rw [t4] at h1
        obtain ⟨q5', h5⟩ := W4.out.put (p := (0, (8 - (m + 3) % 8) % 8)) ⟨q5, by simpa [numOf, totOf, t4] using h1, h2, h3⟩
        have W5 := Hd.mk h5
        have t5 : totOf ([(V, 3)] ++ [(0, (8 - (m + 3) % 8) % 8)]) = 3 + (8 - (m + 3) % 8) % 8 := rfl
        clear h1 h2 h3 h5 W4
        go_wp2_with (fail)
        refine (rwput (nd : Int) 16 nd rfl (by have : (2 : Nat) ^ (16 : Int).toNat = 65536 := rfl; omega) (by omega) (by omega) W5.out.rw_ (by have : (16 : Int).toNat = 16 := rfl; omega)).mono ?_
        rintro r w6 ⟨rfl, hpl⟩
        obtain ⟨q6, h2⟩ := W5.out.put hpl
        have W6 : Hd (Rw w w6 gw q q6 N m ([(V, 3)] ++ [(0, (8 - (m + 3) % 8) % 8)] ++ [(nd, 16)])) := ⟨h2⟩
        have t6 : totOf ([(V, 3)] ++ [(0, (8 - (m + 3) % 8) % 8)] ++ [(nd, 16)]) = 3 + ((8 - (m + 3) % 8) % 8 + 16) := rfl
        clear hpl h2 W5 t5
        go_wp2_with (fail)
        refine (rwput ((65535 - nd : Nat) : Int) 16 (65535 - nd) rfl (by have : (2 : Nat) ^ (16 : Int).toNat = 65536 := rfl; omega) (by omega) (by omega) W6.out.rw_ (by have : (16 : Int).toNat = 16 := rfl; omega)).mono ?_
        rintro r w7 ⟨rfl, hpl⟩
        obtain ⟨q7, h2⟩ := W6.out.put hpl
        have W7 : Hd (Rw w w7 gw q q7 N m ([(V, 3)] ++ [(0, (8 - (m + 3) % 8) % 8), (nd, 16), (65535 - nd, 16)])) := ⟨h2⟩
        have t7 : totOf ([(V, 3)] ++ [(0, (8 - (m + 3) % 8) % 8), (nd, 16), (65535 - nd, 16)]) = 3 + ((8 - (m + 3) % 8) % 8 + 32) := rfl
        clear hpl h2 W6 t6
        have hal : (8 - (m + totOf ([(V, 3)] ++ [(0, (8 - (m + 3) % 8) % 8), (nd, 16), (65535 - nd, 16)])) % 8) % 8 = 0 := by rw [t7]; omega
        go_wp2_with (fail)
        refine (wwhole_any w7 D nd cd data pd HND.out.symm HBY.out (HD.out.frame W7.out.fr (fun k hk => (HPD.out k hk).1)) (fun k hk hm => (HPD.out k hk).1 (W7.out.mem (HPD.out k hk).2 hm)) (by rw [t7]; omega) W7.out.rw_).mono ?_
        rintro r w8 ⟨rfl, q8, h1, h2, h3⟩
        rw [hal, Nat.add_zero] at h1
        have h8 : Rw w7 w8 gw q7 q8 (N + numOf ([(V, 3)] ++ [(0, (8 - (m + 3) % 8) % 8), (nd, 16), (65535 - nd, 16)]) * 2 ^ m) (m + totOf ([(V, 3)] ++ [(0, (8 - (m + 3) % 8) % 8), (nd, 16), (65535 - nd, 16)])) (bytesP data) := ⟨by rw [bytesP_num, bytesP_tot, ← HND.out]; exact h1, h2, h3⟩
        have h9 := W7.out.more h8
        rw [List.append_assoc, ← HKP.out] at h9
        have W8 := Hd.mk h9
        clear h1 h2 h3 h8 h9 W7
        go_wp2
        go_ret
        exact ⟨rfl, (fun _ => ⟨q8, by
          rw [HBP.out]
          have h := W8.out
          rw [HVE.out] at h
          have e := head3 (lastN b) 0 (kindP 0 (m + 3) data l)
          exact h.same e.1 e.2⟩), fun h => absurd rfl h⟩
      · obtain rfl : er = 1 := by rw [HE3.out, if_pos hns]
        have hne : ((nd : Int) != (s : Int)) = true := by simp; omega
        clear HE3
        go_wp2
        go_ret
        exact ⟨rfl, (fun h => by cases h), fun _ => F3.out⟩
  · have hne : (e != 0) = true := by simpa using h
    obtain rfl : er = e := by rw [HE.out, if_pos h]
    have HNE := Hd.mk h
    clear HE h
    go_wp2
    go_ret
    exact ⟨rfl, (fun h => absurd h HNE.out), fun _ => F1.out⟩
set_option maxHeartbeats 8000000 in
theorem rbwrite1 (w : World) (b : Bool) (D : Option Addr) (cd : Nat) (data : List Int) (pd : Option Nat) (hD : Sl w D (u8s data) pd) (hby : ∀ x ∈ data, 0 ≤ x ∧ x ≤ 255) (hnd : data.length ≤ 17592186044416)
    (A : Option Addr) (n c : Nat) (l : List Tok) (p : Option Nat) (hn : l.length = n) (hS : Sl w A (tcells l) p) (hb : n ≤ 1048576) (hl : LitB l)
    (gw N m : Nat) (q : Option Nat) (hT : RW w gw N m q) (hp : ∀ k, p = some k → k ∉ gw :: q.toList ∧ k < w.heap.size) (hpd : ∀ k, pd = some k → k ∉ gw :: q.toList ∧ k < w.heap.size) (hm : m ≤ 35184372080000) (er : Int) (he : er = wrErr 1 data.length l) :
    Calls Tryz.prog 18 #[.pointer (some ⟨gw, 0, none⟩), .int .i64 1, .bool b, .slice D data.length cd, .slice A n c] w fun e w' => e = .returned (.int .i64 er) ∧ RwPost w w' gw N m q er (blockP 1 m b data l) := by
  obtain ⟨j0, hj0, jz0, jz1, jz2⟩ := info_parts Bits.infoBool
  have HS := Hd.mk hS
  have HL := Hd.mk hl
  have HP := Hd.mk hp
  have HD := Hd.mk hD
  have HBY := Hd.mk hby
  have HPD := Hd.mk hpd
  have T0 := Hd.mk hT
  have HE : Hd (er = if mayB l ≠ 0 then mayB l else if data.length ≠ Lz.sizeOf l then 1 else 0) := ⟨by rw [he]; unfold wrErr; rw [if_neg (by omega)]; simp only [show ((1 : Int) = 0) = False from by simp, false_and, if_false]⟩
  have HBP : Hd (blockP 1 m b data l = [(lastN b, 1), (1, 2)] ++ kindP 1 (m + 3) data l) := ⟨rfl⟩
  clear hS hl hp hT he hD hby hpd
  obtain ⟨nd, hnd'⟩ : ∃ nd, nd = data.length := ⟨_, rfl⟩
  rw [← hnd'] at hnd HE ⊢
  have HND := Hd.mk hnd'
  clear hnd'
  obtain ⟨e, he⟩ : ∃ e, e = mayB l := ⟨_, rfl⟩
  rw [← he] at HE
  have HM := Hd.mk he
  clear he
  go_enter Tryz.func18, Tryz.ntmps18
  go_wp2_with (fail)
  refine (rmay_any w A n c l p hn HS.out (by omega) e HM.out).mono ?_
  rintro r w1 ⟨rfl, h1⟩
  have F1 := Hd.mk h1
  clear h1
  by_cases h : e = 0
  · subst h
    have HE2 : Hd (er = if nd ≠ Lz.sizeOf l then 1 else 0) := ⟨by rw [HE.out, if_neg (by simp)]⟩
    have hz := mayB_zero HM.out.symm
    have HZ := Hd.mk hz.2
    have hz1 := hz.1
    clear hz HE
    have hsz := Lz.sizeOf_le l
    obtain ⟨s, hs⟩ : ∃ s, s = Lz.sizeOf l := ⟨_, rfl⟩
    rw [← hs] at HE2 hsz
    have HSZ := Hd.mk hs
    clear hs
    have HE3 : Hd (er = if nd ≠ s then 1 else 0) := ⟨HE2.out⟩
    clear HE2
    go_wp2_with (fail)
    refine (rsize_any w1 A n c l p hn (HS.out.frame F1.out (by simp)) (by omega)).mono ?_
    rintro r w3 ⟨rfl, h2⟩
    rw [← HSZ.out]
    have F3 := Hd.mk (F1.out.trans h2 (by simp))
    clear h2 F1
    by_cases hns : nd = s
    · subst hns
      obtain rfl : er = 0 := by rw [HE3.out, if_neg (by simp)]
      have hne : ((nd : Int) != (nd : Int)) = false := by simp
      clear HE3
      have T3 := Hd.mk (T0.out.frame F3.out (by simp) (by simp))
      obtain ⟨V, hV⟩ : ∃ V, V = lastN b + 2 * 1 := ⟨_, rfl⟩
      have HV : Hd (V < 2 ^ 3) := ⟨by rw [hV]; cases b <;> decide⟩
      have HBB : Hd ([Value.bool b, .bool true, .bool false] = bools V 3) := ⟨by rw [hV]; cases b <;> rfl⟩
      have HVE := Hd.mk hV
      have hb1 : (Go.bits .and .i64 (1 : Int) 1 == 1) = true := by decide +kernel
      have hb2 : (Go.bits .and .i64 (1 : Int) 2 == 2) = false := by decide +kernel
      obtain ⟨Ax, cx, hxb, hxo, hxp, hxN⟩ := T3.out
      have XB := Hd.mk hxb
      have XO := Hd.mk hxo
      have XP := Hd.mk hxp
      have XN := Hd.mk hxN
      have NEX := Hd.mk (own_ne hxo hxb (by decide))
      have x0 := blk_cell hxb 0
      simp only [List.getElem?_toArray, List.getElem?_cons_zero] at x0
      clear hV hxb hxo hxp hxN
      go_wp2_with (at_builtin; refine wpList_append_sl rfl (.tmp 45) (.tmp 53) 28 rfl 4 j0 (.bool false) 1 1 Tryz.underlying28 hj0 jz0 jz1 jz2 rfl (by decide) (.slice Ax m cx) m _ rfl (by exact XO.out.alloc _) (some ⟨w3.heap.size, 0, none⟩) 3 3 [.bool b, .bool true, .bool false] (some w3.heap.size) rfl rfl (by exact sl_of_blk (blk_new _ _)) (by intro h; cases h) (by intro u hu; simp at hu; rcases hu with rfl | rfl | rfl <;> rfl) (by unfold maxLen; omega) (by omega) ?_; intro A3 d3 w9 hown' hgrow haft; have B9 := blk_grown hgrow (by exact blk_alloc XB.out _) NEX.out.symm; have y0 := blk_cell B9 0; have yf := blk_frozen B9 0; simp only [List.getElem?_toArray, List.getElem?_cons_zero] at y0; rw [HBB.out] at hown'; have HPR := Hd.mk (PutR.after ((Fr.refl w3 []).alloc (.cells #[.bool b, .bool true, .bool false] 4)) (rw_app (by exact blk_alloc XB.out _) (by exact XO.out.alloc _) XN.out HV.out hown' hgrow haft)); rw [XP.out] at HPR; clear hown' hgrow haft B9)
      generalize w9.setCell ⟨gw, 0, none⟩ (.slice A3 (m + 3) d3) = w4 at *
      obtain ⟨q4, h4⟩ := (Rw.start T3.out).put (by simpa [numOf, totOf] using HPR.out)
      have W4 : Hd (Rw w w4 gw q q4 N m [(V, 3)]) := ⟨Rw.after F3.out h4⟩
      have t4 : totOf [(V, 3)] = 3 := rfl
      clear h4 HPR XB XO XP XN NEX x0 T3 HBB hb1 hb2 hne HV
      have HKP : Hd (kindP 1 (m + 3) data l = bodyP plainLit plainDist l) := ⟨rfl⟩
      refine (rplainLens_any w4).mono ?_
      rintro r w5 hp5
      unfold RPlPost at hp5
      obtain ⟨g, g', c5, d5, rfl, h1, h2, h3, h4, h5⟩ := hp5
      have O1 := Hd.mk h1
      have O2 := Hd.mk h2
      have W5 := Hd.mk (W4.out.call h5)
      clear h1 h2 h3 h4 h5
      go_wp2_with (fail)
      refine (rbody_any w5 (some ⟨g, 0, none⟩) (some ⟨g', 0, none⟩) 288 c5 32 d5 plainLit plainDist (some g) (some g') (slArg_own O1.out) (slArg_own O2.out) plainLit_check plainDist_check A n c l p hn (HS.out.frame W5.out.fr (fun k hk => (HP.out k hk).1)) (by omega) HZ.out HL.out gw _ _ q4 W5.out.rw_ (fun k hk hm => (HP.out k hk).1 (W5.out.mem (HP.out k hk).2 hm)) (fun k hk => by cases hk; exact rw_notown W5.out.rw_ O1.out (by decide) (by decide)) (fun k hk => by cases hk; exact rw_notown W5.out.rw_ O2.out (by decide) (by decide)) (by rw [t4]; omega)).mono ?_
      rintro r w6 ⟨rfl, q6, h6⟩
      have h9 := W5.out.more h6
      rw [← HKP.out] at h9
      have W6 := Hd.mk h9
      clear h6 h9 W5
      go_wp2
      go_ret
      exact ⟨rfl, (fun _ => ⟨q6, by
        rw [HBP.out]
        have h := W6.out
        rw [HVE.out] at h
        have e := head3 (lastN b) 1 (kindP 1 (m + 3) data l)
        exact h.same e.1 e.2⟩), fun h => absurd rfl h⟩
    · obtain rfl : er = 1 := by rw [HE3.out, if_pos hns]
      have hne : ((nd : Int) != (s : Int)) = true := by simp; omega
      clear HE3
      go_wp2
      go_ret
      exact ⟨rfl, (fun h => by cases h), fun _ => F3.out⟩
  · have hne : (e != 0) = true := by simpa using h
    obtain rfl : er = e := by rw [HE.out, if_pos h]
    have HNE := Hd.mk h
    clear HE h
    go_wp2
    go_ret
    exact ⟨rfl, (fun h => absurd h HNE.out), fun _ => F1.out⟩
set_option maxHeartbeats 8000000 in
theorem rbwrite2 (w : World) (b : Bool) (D : Option Addr) (cd : Nat) (data : List Int) (pd : Option Nat) (hD : Sl w D (u8s data) pd) (hby : ∀ x ∈ data, 0 ≤ x ∧ x ≤ 255) (hnd : data.length ≤ 17592186044416)
    (A : Option Addr) (n c : Nat) (l : List Tok) (p : Option Nat) (hn : l.length = n) (hS : Sl w A (tcells l) p) (hb : n ≤ 1048576) (hl : LitB l)
    (gw N m : Nat) (q : Option Nat) (hT : RW w gw N m q) (hp : ∀ k, p = some k → k ∉ gw :: q.toList ∧ k < w.heap.size) (hpd : ∀ k, pd = some k → k ∉ gw :: q.toList ∧ k < w.heap.size) (hm : m ≤ 35184372080000) (er : Int) (he : er = wrErr 2 data.length l) :
    Calls Tryz.prog 18 #[.pointer (some ⟨gw, 0, none⟩), .int .i64 2, .bool b, .slice D data.length cd, .slice A n c] w fun e w' => e = .returned (.int .i64 er) ∧ RwPost w w' gw N m q er (blockP 2 m b data l) := by
  obtain ⟨j0, hj0, jz0, jz1, jz2⟩ := info_parts Bits.infoBool
  have HS := Hd.mk hS
  have HL := Hd.mk hl
  have HP := Hd.mk hp
  have HD := Hd.mk hD
  have HBY := Hd.mk hby
  have HPD := Hd.mk hpd
  have T0 := Hd.mk hT
  have HE : Hd (er = if mayB l ≠ 0 then mayB l else if data.length ≠ Lz.sizeOf l then 1 else 0) := ⟨by rw [he]; unfold wrErr; rw [if_neg (by omega)]; simp only [show ((2 : Int) = 0) = False from by simp, false_and, if_false]⟩
  have HBP : Hd (blockP 2 m b data l = [(lastN b, 1), (2, 2)] ++ kindP 2 (m + 3) data l) := ⟨rfl⟩
  clear hS hl hp hT he hD hby hpd
  obtain ⟨nd, hnd'⟩ : ∃ nd, nd = data.length := ⟨_, rfl⟩
  rw [← hnd'] at hnd HE ⊢
  have HND := Hd.mk hnd'
  clear hnd'
  obtain ⟨e, he⟩ : ∃ e, e = mayB l := ⟨_, rfl⟩
  rw [← he] at HE
  have HM := Hd.mk he
  clear he
  go_enter Tryz.func18, Tryz.ntmps18
  go_wp2_with (fail)
  refine (rmay_any w A n c l p hn HS.out (by omega) e HM.out).mono ?_
  rintro r w1 ⟨rfl, h1⟩
  have F1 := Hd.mk h1
  clear h1
  by_cases h : e = 0
  · subst h
    have HE2 : Hd (er = if nd ≠ Lz.sizeOf l then 1 else 0) := ⟨by rw [HE.out, if_neg (by simp)]⟩
    have hz := mayB_zero HM.out.symm
    have HZ := Hd.mk hz.2
    have hz1 := hz.1
    clear hz HE
    have hsz := Lz.sizeOf_le l
    obtain ⟨s, hs⟩ : ∃ s, s = Lz.sizeOf l := ⟨_, rfl⟩
    rw [← hs] at HE2 hsz
    have HSZ := Hd.mk hs
    clear hs
    have HE3 : Hd (er = if nd ≠ s then 1 else 0) := ⟨HE2.out⟩
    clear HE2
    go_wp2_with (fail)
    refine (rsize_any w1 A n c l p hn (HS.out.frame F1.out (by simp)) (by omega)).mono ?_
    rintro r w3 ⟨rfl, h2⟩
    rw [← HSZ.out]
    have F3 := Hd.mk (F1.out.trans h2 (by simp))
    clear h2 F1
    by_cases hns : nd = s
    · subst hns
      obtain rfl : er = 0 := by rw [HE3.out, if_neg (by simp)]
      have hne : ((nd : Int) != (nd : Int)) = false := by simp
      clear HE3
      have T3 := Hd.mk (T0.out.frame F3.out (by simp) (by simp))
      obtain ⟨V, hV⟩ : ∃ V, V = lastN b + 2 * 2 := ⟨_, rfl⟩
      have HV : Hd (V < 2 ^ 3) := ⟨by rw [hV]; cases b <;> decide⟩
      have HBB : Hd ([Value.bool b, .bool false, .bool true] = bools V 3) := ⟨by rw [hV]; cases b <;> rfl⟩
      have HVE := Hd.mk hV
      have hb1 : (Go.bits .and .i64 (2 : Int) 1 == 1) = false := by decide +kernel
      have hb2 : (Go.bits .and .i64 (2 : Int) 2 == 2) = true := by decide +kernel
      obtain ⟨Ax, cx, hxb, hxo, hxp, hxN⟩ := T3.out
      have XB := Hd.mk hxb
      have XO := Hd.mk hxo
      have XP := Hd.mk hxp
      have XN := Hd.mk hxN
      have NEX := Hd.mk (own_ne hxo hxb (by decide))
      have x0 := blk_cell hxb 0
      simp only [List.getElem?_toArray, List.getElem?_cons_zero] at x0
      clear hV hxb hxo hxp hxN
      go_wp2_with (at_builtin; refine wpList_append_sl rfl (.tmp 45) (.tmp 53) 28 rfl 4 j0 (.bool false) 1 1 Tryz.underlying28 hj0 jz0 jz1 jz2 rfl (by decide) (.slice Ax m cx) m _ rfl (by exact XO.out.alloc _) (some ⟨w3.heap.size, 0, none⟩) 3 3 [.bool b, .bool false, .bool true] (some w3.heap.size) rfl rfl (by exact sl_of_blk (blk_new _ _)) (by intro h; cases h) (by intro u hu; simp at hu; rcases hu with rfl | rfl | rfl <;> rfl) (by unfold maxLen; omega) (by omega) ?_; intro A3 d3 w9 hown' hgrow haft; have B9 := blk_grown hgrow (by exact blk_alloc XB.out _) NEX.out.symm; have y0 := blk_cell B9 0; have yf := blk_frozen B9 0; simp only [List.getElem?_toArray, List.getElem?_cons_zero] at y0; rw [HBB.out] at hown'; have HPR := Hd.mk (PutR.after ((Fr.refl w3 []).alloc (.cells #[.bool b, .bool false, .bool true] 4)) (rw_app (by exact blk_alloc XB.out _) (by exact XO.out.alloc _) XN.out HV.out hown' hgrow haft)); rw [XP.out] at HPR; clear hown' hgrow haft B9)
      generalize w9.setCell ⟨gw, 0, none⟩ (.slice A3 (m + 3) d3) = w4 at *
      obtain ⟨q4, h4⟩ := (Rw.start T3.out).put (by simpa [numOf, totOf] using HPR.out)
      have W4 : Hd (Rw w w4 gw q q4 N m [(V, 3)]) := ⟨Rw.after F3.out h4⟩
      have t4 : totOf [(V, 3)] = 3 := rfl
      clear h4 HPR XB XO XP XN NEX x0 T3 HBB hb1 hb2 hne HV
      have HKP : Hd (kindP 2 (m + 3) data l = Head.headP (ownLit l) (ownDist l) ++ bodyP (ownLit l) (ownDist l) l) := ⟨rfl⟩
      refine (rownLens_any w4 A n c l p hn (HS.out.frame W4.out.fr (fun k hk => (HP.out k hk).1)) (by omega) HL.out).mono ?_
      rintro r w5 hp5
      unfold OwnPost at hp5
      obtain ⟨A1, c1, B1, d1, rfl, h1, h2, _, _, h3⟩ := hp5.1 HM.out.symm
      have O1 := Hd.mk h1
      have O2 := Hd.mk h2
      have W5 := Hd.mk (W4.out.call h3)
      clear h1 h2 h3 hp5 W4
      go_wp2_with (fail)
      refine (Head.rwrite_any w5 A1 B1 286 c1 30 d1 (ownLit l) (ownDist l) _ _ (slArg_own O1.out) (slArg_own O2.out) 0 (by rw [own_okH]; rfl) gw _ _ q4 W5.out.rw_ (by rw [t4]; omega)).mono ?_
      rintro r w6 ⟨rfl, hw⟩
      unfold Head.WrR at hw
      obtain ⟨q6, h6⟩ := hw.1 (own_okH l)
      have O3 := Hd.mk (rown_keep W5.out.rw_ h6.fr O1.out (by decide) (by decide))
      have O4 := Hd.mk (rown_keep W5.out.rw_ h6.fr O2.out (by decide) (by decide))
      have W6 := Hd.mk (W5.out.more h6)
      have ht := headP_tot l
      have t6 : totOf ([(V, 3)] ++ Head.headP (ownLit l) (ownDist l)) = 3 + totOf (Head.headP (ownLit l) (ownDist l)) := by rw [totOf_app]; rfl
      clear hw h6 O1 O2 W5
      go_wp2_with (fail)
      refine (rbody_any w6 A1 B1 286 c1 30 d1 (ownLit l) (ownDist l) _ _ (slArg_own O3.out) (slArg_own O4.out) (ownLit_check l) (ownDist_check l) A n c l p hn (HS.out.frame W6.out.fr (fun k hk => (HP.out k hk).1)) (by omega) HZ.out HL.out gw _ _ q6 W6.out.rw_ (fun k hk hm => (HP.out k hk).1 (W6.out.mem (HP.out k hk).2 hm)) (fun k hk => rw_notown2 W6.out.rw_ O3.out (by decide) (by decide) hk) (fun k hk => rw_notown2 W6.out.rw_ O4.out (by decide) (by decide) hk) (by rw [t6]; omega)).mono ?_
      rintro r w7 ⟨rfl, q7, h7⟩
      have h9 := W6.out.more h7
      rw [List.append_assoc, ← HKP.out] at h9
      have W7 := Hd.mk h9
      clear h7 h9 W6
      go_wp2
      go_ret
      exact ⟨rfl, (fun _ => ⟨q7, by
        rw [HBP.out]
        have h := W7.out
        rw [HVE.out] at h
        have e := head3 (lastN b) 2 (kindP 2 (m + 3) data l)
        exact h.same e.1 e.2⟩), fun h => absurd rfl h⟩
    · obtain rfl : er = 1 := by rw [HE3.out, if_pos hns]
      have hne : ((nd : Int) != (s : Int)) = true := by simp; omega
      clear HE3
      go_wp2
      go_ret
      exact ⟨rfl, (fun h => by cases h), fun _ => F3.out⟩
  · have hne : (e != 0) = true := by simpa using h
    obtain rfl : er = e := by rw [HE.out, if_pos h]
    have HNE := Hd.mk h
    clear HE h
    go_wp2
    go_ret
    exact ⟨rfl, (fun h => absurd h HNE.out), fun _ => F1.out⟩
end Go.Proofs.YtkdgfioigkijgaaGreat.Blk
/- Chapter 09, plain: what is written takes what it costs. No condition. -/
set_option linter.unusedVariables false
set_option linter.unusedSimpArgs false
set_option maxRecDepth 100000
namespace Go.Proofs.YtkdgfioigkijgaaGreat.Blk
open Go.RowKit Go.Proofs.YtkdgfioigkijgaaGreat.Lib Go.Proofs.YtkdgfioigkijgaaGreat.Ints Go.Proofs.YtkdgfioigkijgaaGreat.Lz Go.Proofs.YtkdgfioigkijgaaGreat.Num Go.Proofs.YtkdgfioigkijgaaGreat.Bits
theorem part_bits {lens : List Int} (h15 : Lens15 lens) {s : Int} (h0 : 0 ≤ s) (h1 : s < (lens.length : Nat)) : (((Code.part lens s).2 : Nat) : Int) = lens.getD s.toNat 0 := by
  have h2 := lens15_get h15 s.toNat
  unfold Code.part Code.bitsOf
  simp only
  rw [if_pos ⟨h0, h1⟩]
  omega
theorem tokP_bits {lit dist : List Int} (ha : Lens15 lit) (hb : Lens15 dist) (hx : 286 ≤ lit.length) (hy : 30 ≤ dist.length) {t : Tok} (hr : right t = true) (hl : 0 ≤ t.lit ∧ t.lit ≤ 255) : (totOf (tokP lit dist t) : Int) = tkBits lit dist t := by
  have sa := (sgA_fit hr hl).1
  have sb := sgB_fit hr
  have pa := part_bits ha sa.sym.1 (by have := sa.sym.2; omega)
  have pb := part_bits hb sb.sym.1 (by have := sb.sym.2; omega)
  have ba := sa.bits
  have bb := sb.bits
  unfold tokP tkBits
  split
  · simp only [List.append_nil, totOf]
    omega
  · simp only [List.cons_append, List.nil_append, totOf]
    omega
theorem toksP_bits {lit dist : List Int} (ha : Lens15 lit) (hb : Lens15 dist) (hx : 286 ≤ lit.length) (hy : 30 ≤ dist.length) : ∀ (l : List Tok), (∀ t ∈ l, right t = true) → LitB l → (totOf (toksP lit dist l) : Int) = codedF lit dist l
  | [], _, _ => rfl
  | t :: l, hr, hl => by
    have h1 := tokP_bits ha hb hx hy (hr t (by simp)) (hl t (by simp))
    have h2 := toksP_bits ha hb hx hy l (fun u hu => hr u (by simp [hu])) (fun u hu => hl u (by simp [hu]))
    have e : toksP lit dist (t :: l) = tokP lit dist t ++ toksP lit dist l := by simp [toksP]
    rw [e, totOf_app, codedF]
    omega
theorem bodyP_bits {lit dist : List Int} (ha : Lens15 lit) (hb : Lens15 dist) (hx : 286 ≤ lit.length) (hy : 30 ≤ dist.length) {l : List Tok} (hr : ∀ t ∈ l, right t = true) (hl : LitB l) : (totOf (bodyP lit dist l) : Int) = codedN lit dist l := by
  have h1 := toksP_bits ha hb hx hy l hr hl
  have h2 := part_bits ha (s := 256) (by decide) (by omega)
  rw [show (256 : Int).toNat = 256 from rfl] at h2
  unfold bodyP codedN
  rw [totOf_snoc2]
  omega
theorem headP_bits {lit dist : List Int} (h : Head.okH lit dist = true) : (totOf (Head.headP lit dist) : Int) = Head.hcost lit dist := by
  obtain ⟨r1, r2, _⟩ := Head.hruns_ok h
  have hck := Head.hlens_check (rs := Head.hruns lit dist) (by omega)
  have h19 := Head.hlens_len (rs := Head.hruns lit dist) (by omega)
  have h2 := Head.toldN_le (Head.hlens (Head.hruns lit dist)) 19
  have h3 := Head.ordP_tot (Head.hlens (Head.hruns lit dist)) (Head.toldN (Head.hlens (Head.hruns lit dist)) 19) (by omega)
  have h4 : ∀ rs : List (Int × Int), (∀ r ∈ rs, Head.RunB r) → (totOf (Head.runsP (Head.hlens (Head.hruns lit dist)) rs) : Int) = Head.costF (Head.hlens (Head.hruns lit dist)) rs := by
    intro rs
    induction rs with
    | nil => intro _; rfl
    | cons r rs ih =>
      intro hr
      have i1 := ih (fun u hu => hr u (by simp [hu]))
      obtain ⟨b1, b2, _⟩ := hr r (by simp)
      have pb := part_bits (check15 hck) b1 (by rw [h19]; omega)
      have kb := Head.kbits_le r.1
      have e : Head.runsP (Head.hlens (Head.hruns lit dist)) (r :: rs) = Head.runP (Head.hlens (Head.hruns lit dist)) r ++ Head.runsP (Head.hlens (Head.hruns lit dist)) rs := by simp [Head.runsP]
      rw [e, totOf_app, Head.costF, Head.runCost]
      simp only [Head.runP, totOf]
      omega
  have h5 := h4 _ r1
  unfold Head.headP Head.hcost
  rw [totOf_app, totOf_app, h3]
  simp only [totOf]
  omega
/-- what is written takes what it costs -/
theorem blockP_bits {k m : Nat} {b : Bool} {data : List Int} {l : List Tok} (hk : k < 3) (hmay : mayB l = 0) (hl : LitB l) (hd : data.length = Lz.sizeOf l) (he : (costK k ((m % 8 : Nat) : Int) l).2 = 0) : (totOf (blockP k m b data l) : Int) = (costK k ((m % 8 : Nat) : Int) l).1 := by
  obtain ⟨_, hr⟩ := mayB_zero hmay
  have e : totOf (blockP k m b data l) = 3 + totOf (kindP k (m + 3) data l) := by unfold blockP; rw [totOf_app]; rfl
  rw [e]
  unfold kindP
  by_cases h0 : k = 0
  · subst h0
    unfold costK at he ⊢
    rw [if_pos rfl] at he ⊢
    by_cases hb : 65535 < Lz.sizeOf l
    · rw [if_pos hb] at he; cases he
    · rw [if_pos rfl, if_neg hb]
      unfold storedP
      rw [totOf_app, bytesP_tot, hd]
      simp only [totOf]
      omega
  · rw [if_neg h0]
    unfold costK
    rw [if_neg h0]
    by_cases h1 : k = 1
    · rw [if_pos h1, if_pos h1]
      have := bodyP_bits plainLit15 plainDist15 (by rw [show plainLit.length = 288 from fill_len _ _ _]; decide) (by rw [show plainDist.length = 32 from fill_len _ _ _]; decide) hr hl
      simp only
      omega
    · rw [if_neg h1, if_neg h1]
      have a := bodyP_bits (check15 (ownLit_check l)) (check15 (ownDist_check l)) (by rw [ownLit_len]; decide) (by rw [ownDist_len]; decide) hr hl
      have c := headP_bits (own_okH l)
      unfold ownP
      rw [totOf_app]
      simp only
      omega
/-- the kind that is picked costs no more -/
theorem pickF_best {bh : Int} (h0 : 0 ≤ bh) (h7 : bh ≤ 7) {l : List Tok} (h : mayB l = 0) (hl : LitB l) : ∀ k, k ≤ 3 → (∀ j, j < k → (costK j bh l).2 = 0 → 0 ≤ (pickF bh l k).2 ∧ (pickF bh l k).2 ≤ (costK j bh l).1) ∧ (0 ≤ (pickF bh l k).2 → ∃ j : Nat, j < k ∧ (pickF bh l k).1 = (j : Int) ∧ (costK j bh l).2 = 0 ∧ (pickF bh l k).2 = (costK j bh l).1)
  | 0, _ => ⟨fun j hj => absurd hj (by omega), fun h => by simp [pickF] at h⟩
  | k + 1, hk => by
    obtain ⟨i1, i2⟩ := pickF_best h0 h7 h hl k (by omega)
    have hc := costK_le h0 h7 h hl k
    rw [pickF]
    by_cases hp : (costK k bh l).2 = 0 ∧ ((pickF bh l k).2 < 0 ∨ (costK k bh l).1 < (pickF bh l k).2)
    · rw [if_pos hp]
      refine ⟨fun j hj he => ?_, fun _ => ⟨k, by omega, rfl, hp.1, rfl⟩⟩
      refine ⟨hc.1, ?_⟩
      by_cases e : j = k
      · subst e; exact Int.le_refl _
      · have := i1 j (by omega) he
        simp only
        omega
    · rw [if_neg hp]
      refine ⟨fun j hj he => ?_, fun hpos => ?_⟩
      · by_cases e : j = k
        · subst e
          have h1 : ¬ ((pickF bh l j).2 < 0 ∨ (costK j bh l).1 < (pickF bh l j).2) := fun h => hp ⟨he, h⟩
          omega
        · exact i1 j (by omega) he
      · obtain ⟨j, a, b, c, d⟩ := i2 hpos
        exact ⟨j, by omega, b, c, d⟩
end Go.Proofs.YtkdgfioigkijgaaGreat.Blk
