/- Texts of this claim, one behind the other: BlkJ, BackNum, CodePlain7, Parts, BlkK, BlkL. -/
import Derived.Test.YtlfckpmdmkccjaaGreatG10
import Derived.Test.YtlfckpmdmkccjaaGreatG08
import Derived.Test.YtlfckpmdmkccjaaGreatG01
import Derived.Test.YtlfckpmdmkccjaaGreatG02
import Derived.Test.YtlfckpmdmkccjaaGreatG09
/- Chapter 09: what tokens cost by codes. Conditions: the tokens are right, at most 65536, the lengths 0 .. 15. -/
set_option linter.unusedVariables false
set_option linter.unusedSimpArgs false
set_option maxRecDepth 100000
namespace Go.Proofs.YtlfckpmdmkccjaaGreat.Blk
open Go.RowKit Go.Proofs.YtlfckpmdmkccjaaGreat.Lib Go.Proofs.YtlfckpmdmkccjaaGreat.Ints Go.Proofs.YtlfckpmdmkccjaaGreat.Lz
theorem i64_getD {w : World} {A : Option Addr} {l : List Int} {q : Option Nat} (h : Sl w A (i64s l) q) {i : Nat} (hi : i < l.length) {b off : Nat} (hA : A = some ⟨b, off, none⟩) : w.cell? ⟨b, off + i, none⟩ = some (.int .i64 (l.getD i 0)) := by
  obtain ⟨b', off', h1, _, hc⟩ := h (by rw [i64s_length]; omega)
  rw [hA] at h1
  cases h1
  rw [hc i (by rw [i64s_length]; omega), i64s_get, List.getD_eq_getElem?_getD, List.getElem?_eq_getElem hi]
  rfl
set_option maxHeartbeats 4000000 in
theorem coded_any (w : World) (X Y : Option Addr) (nx cx ny cy : Nat) (lit dist : List Int) (px py : Option Nat) (hX : Sl w X (i64s lit) px) (hY : Sl w Y (i64s dist) py) (hx : lit.length = nx) (hy : dist.length = ny) (hx2 : 286 ≤ nx) (hy2 : 30 ≤ ny)
    (A : Option Addr) (n c : Nat) (l : List Tok) (p : Option Nat) (hn : l.length = n) (hS : Sl w A (tcells l) p) (hb : n ≤ 65536) (hr : ∀ t ∈ l, right t = true) (hl : LitB l) (ha : Lens15 lit) (hd : Lens15 dist) (m : Int) (hm : m = codedN lit dist l) :
    Calls Tryz.prog 94 #[.slice X nx cx, .slice Y ny cy, .slice A n c] w fun e w' => e = .returned (.int .i64 m) ∧ Fr w w' [] := by
  subst hn
  have HS := Hd.mk hS
  have HX := Hd.mk hX
  have HY := Hd.mk hY
  have HM := Hd.mk hm
  have HA := Hd.mk (And.intro ha hd)
  have HR := Hd.mk (And.intro hr hl)
  clear hS hX hY hm ha hd hr hl
  obtain ⟨bx, ox, rfl, _, _⟩ := HX.out (by rw [i64s_length]; omega)
  obtain ⟨by_, oy, rfl, _, _⟩ := HY.out (by rw [i64s_length]; omega)
  have k0 := i64_getD HX.out (i := 256) (by omega) rfl
  obtain ⟨z, hz⟩ : ∃ z, z = lit.getD 256 0 := ⟨_, rfl⟩
  rw [← hz] at k0
  have hzb : 0 ≤ z ∧ z ≤ 15 := by rw [hz]; exact lens15_get HA.out.1 256
  have HZ := Hd.mk hz
  clear hz
  go_enter Tryz.func94, Tryz.ntmps94
  go_wp2
  go_loopg [7, 18] l.length (fun kq sv jv wr => ∃ (j : Nat) (m : Int), sv = .int .i64 m ∧ jv = .int .i64 (j : Nat) ∧ j + kq = l.length ∧ Hd (m = z + codedF lit dist (l.take j)) ∧ Hd (Fr w wr []))
  case atStart => exact ⟨0, z, rfl, rfl, by omega, ⟨by simp [codedF]⟩, ⟨Fr.refl _ _⟩⟩
  case round =>
    obtain ⟨j, s, rfl, rfl, hj, HM2, HF⟩ := hrel
    by_cases h1 : j < l.length
    · obtain ⟨a, o1, rfl, _, hcc⟩ := Sl.row (enc := tcell) (sz := 3) (fun _ => rfl) (HS.out.frame HF.out (by simp)) h1 (by decide)
      obtain ⟨t, ht⟩ : ∃ t, t = l[j] := ⟨_, rfl⟩
      rw [← ht] at hcc
      have c0 := hcc 0 (by decide)
      have c1 := hcc 1 (by decide)
      have c2 := hcc 2 (by decide)
      simp only [tcell, List.getElem?_cons_zero, List.getElem?_cons_succ, Nat.add_zero] at c0 c1 c2
      have htm : t ∈ l := by rw [ht]; exact List.getElem_mem h1
      have hrt := HR.out.1 t htm
      have hlt := HR.out.2 t htm
      have HT : Hd (codedF lit dist (l.take (j + 1)) = codedF lit dist (l.take j) + tkBits lit dist t) := ⟨by rw [codedF_take h1, ht]⟩
      have hsb : 0 ≤ s ∧ s ≤ 15 + 48 * 65536 := by
        have := codedF_le HA.out.1 HA.out.2 (l.take j) (fun u hu => HR.out.1 u (List.mem_of_mem_take hu)) (fun u hu => HR.out.2 u (List.mem_of_mem_take hu))
        rw [List.length_take] at this
        have := HM2.out
        omega
      have sa := (sgA_fit hrt hlt).1
      have sb := sgB_fit hrt
      have hlen : Hd (tkBits lit dist t = lit.getD (sgA t).1.toNat 0 + (sgA t).2.2 + if t.len = 0 then 0 else dist.getD (sgB t).1.toNat 0 + (sgB t).2.2) := ⟨rfl⟩
      clear hcc ht htm
      go_wp2_with (fail)
      refine (signs_any _ t hlt).mono ?_
      rintro e w2 ⟨rfl, h2⟩
      have F2 := Hd.mk ((HF.out.alloc _).trans h2 (by simp))
      clear h2
      obtain ⟨⟨sx, vx, bxx⟩, hsa⟩ : ∃ x, x = sgA t := ⟨_, rfl⟩
      obtain ⟨⟨sy, vy, byy⟩, hsb2⟩ : ∃ x, x = sgB t := ⟨_, rfl⟩
      rw [← hsa] at sa hlen ⊢
      rw [← hsb2] at sb hlen ⊢
      obtain ⟨⟨a1, a2⟩, ⟨a3, a4⟩, a5, a6⟩ := sa
      obtain ⟨⟨b1, b2⟩, ⟨b3, b4⟩, b5, b6⟩ := sb
      clear hsa hsb2
      simp only at a1 a2 a3 a4 b1 b2 b3 b4 hlen
      obtain ⟨sx, rfl⟩ := Int.eq_ofNat_of_zero_le a1
      obtain ⟨sy, rfl⟩ := Int.eq_ofNat_of_zero_le b1
      have hkx := lens15_get HA.out.1 sx
      have hky := lens15_get HA.out.2 sy
      have kx := fun (w' : World) (hf : Fr w w' []) => i64_getD (HX.out.frame hf (by simp)) (i := sx) (by omega) rfl
      have ky := fun (w' : World) (hf : Fr w w' []) => i64_getD (HY.out.frame hf (by simp)) (i := sy) (by omega) rfl
      rw [Int.toNat_natCast, Int.toNat_natCast] at hlen
      generalize lit.getD sx 0 = x at *
      generalize dist.getD sy 0 = y at *
      clear a5 a6 b5 b6
      simp only [sgV]
      obtain ⟨mt, hmt⟩ : ∃ m, m = decide (t.len ≠ 0) := ⟨_, rfl⟩
      rw [← hmt]
      have HMT := Hd.mk hmt
      clear hmt
      go_upto_region 6 with (fail)
      have B1 : Hd (((w2.alloc (.cells #[.int .i64 (sx : Nat), .int .i64 vx, .int .i64 bxx] 108)).alloc (.cells #[.int .i64 (sy : Nat), .int .i64 vy, .int .i64 byy] 108)).heap[w2.heap.size]? = some (.cells #[.int .i64 (sx : Nat), .int .i64 vx, .int .i64 bxx] 108 (0, 0))) := ⟨blk_alloc (blk_new w2 _) _⟩
      have B2 : Hd (((w2.alloc (.cells #[.int .i64 (sx : Nat), .int .i64 vx, .int .i64 bxx] 108)).alloc (.cells #[.int .i64 (sy : Nat), .int .i64 vy, .int .i64 byy] 108)).heap[w2.heap.size + 1]? = some (.cells #[.int .i64 (sy : Nat), .int .i64 vy, .int .i64 byy] 108 (0, 0))) := ⟨by simpa using blk_new (w2.alloc _) _⟩
      have F3 := Hd.mk ((F2.out.alloc (.cells #[.int .i64 (sx : Nat), .int .i64 vx, .int .i64 bxx] 108)).alloc (.cells #[.int .i64 (sy : Nat), .int .i64 vy, .int .i64 byy] 108))
      generalize (w2.alloc (.cells #[.int .i64 (sx : Nat), .int .i64 vx, .int .i64 bxx] 108)).alloc (.cells #[.int .i64 (sy : Nat), .int .i64 vy, .int .i64 byy] 108) = w3 at *
      generalize w2.heap.size = g at *
      have d0 := blk_cell B1.out 0
      have d2 := blk_cell B1.out 2
      have e0 := blk_cell B2.out 0
      have e2 := blk_cell B2.out 2
      simp only [List.getElem?_toArray, List.getElem?_cons_zero, List.getElem?_cons_succ] at d0 d2 e0 e2
      have kx1 := kx w3 F3.out
      have ky1 := ky w3 F3.out
      clear F2 B1 B2 kx ky k0
      go_region
      cases mt with
      | false =>
        have hlen0 : t.len = 0 := by have := HMT.out; simpa using this
        rw [if_pos hlen0, Int.add_zero] at hlen
        go_wp2
        go_roundg (gk - 1)
        case measure => omega
        case rel => exact ⟨j + 1, _, rfl, by go_num, by omega, ⟨by rw [HT.out, HM2.out, hlen.out]; omega⟩, ⟨F3.out.drew⟩⟩
      | true =>
        have hlen0 : ¬ t.len = 0 := by have := HMT.out; simpa using this
        rw [if_neg hlen0] at hlen
        go_wp2
        go_region
        go_wp2
        go_roundg (gk - 1)
        case measure => omega
        case rel => exact ⟨j + 1, _, rfl, by go_num, by omega, ⟨by rw [HT.out, HM2.out, hlen.out]; omega⟩, ⟨F3.out.drew.drew⟩⟩
    · obtain rfl : j = l.length := by omega
      have hm2 : Hd (m = s) := ⟨by rw [HM.out, HM2.out, List.take_length, HZ.out]; rfl⟩
      obtain rfl := hm2.out
      go_wp2
      go_ret
      exact ⟨rfl, HF.out⟩
end Go.Proofs.YtlfckpmdmkccjaaGreat.Blk
/- Numbers of so many bits, one behind the other. No condition. -/
set_option maxRecDepth 100000
set_option linter.unusedVariables false
set_option linter.unusedSimpArgs false
namespace Go.Proofs.YtlfckpmdmkccjaaGreat.Num
open Go.RowKit

def numOf : List (Nat × Nat) → Nat
  | [] => 0
  | (x, n) :: r => x + numOf r * 2 ^ n
def totOf : List (Nat × Nat) → Nat
  | [] => 0
  | (_, n) :: r => n + totOf r
theorem totOf_app (l r : List (Nat × Nat)) : totOf (l ++ r) = totOf l + totOf r := by
  induction l with
  | nil => simp [totOf]
  | cons p l ih => obtain ⟨x, n⟩ := p; simp [totOf, ih, Nat.add_assoc]
theorem numOf_app (l r : List (Nat × Nat)) : numOf (l ++ r) = numOf l + numOf r * 2 ^ totOf l := by
  induction l with
  | nil => simp [numOf, totOf]
  | cons p l ih =>
    obtain ⟨x, n⟩ := p
    simp only [List.cons_append, numOf, totOf, ih, Nat.add_mul, Nat.pow_add, Nat.mul_assoc, Nat.add_assoc]
    rw [Nat.mul_comm (2 ^ totOf l)]
theorem numOf_lt {l : List (Nat × Nat)} (h : ∀ p ∈ l, p.1 < 2 ^ p.2) : numOf l < 2 ^ totOf l := by
  induction l with
  | nil => simp [numOf, totOf]
  | cons p l ih =>
    obtain ⟨x, n⟩ := p
    have h1 := h (x, n) (by simp)
    have h2 := ih fun q hq => h q (by simp [hq])
    simp only [numOf, totOf]
    exact grow_lt h1 h2
theorem numOf_drop {l : List (Nat × Nat)} (h : ∀ p ∈ l, p.1 < 2 ^ p.2) (k : Nat) : numOf l / 2 ^ totOf (l.take k) = numOf (l.drop k) := by
  conv => lhs; rw [← List.take_append_drop k l, numOf_app]
  have hl : numOf (l.take k) < 2 ^ totOf (l.take k) := numOf_lt fun p hp => h p (List.mem_of_mem_take hp)
  have e : (List.take k (l.take k ++ l.drop k)) = l.take k := by rw [List.take_append_drop]
  rw [e, Nat.add_mul_div_right _ _ (Nat.two_pow_pos _), Nat.div_eq_of_lt hl, Nat.zero_add]
theorem numOf_head {l : List (Nat × Nat)} {k : Nat} (hk : k < l.length) (h : ∀ p ∈ l, p.1 < 2 ^ p.2) : numOf (l.drop k) % 2 ^ (l[k]).2 = (l[k]).1 := by
  rw [List.drop_eq_getElem_cons hk]
  have := h l[k] (List.getElem_mem _)
  generalize l[k] = p at *
  obtain ⟨x, n⟩ := p
  simp only [numOf]
  rw [Nat.add_mul_mod_self_right, Nat.mod_eq_of_lt this]
theorem totOf_take {l : List (Nat × Nat)} {k : Nat} (hk : k < l.length) : totOf (l.take (k + 1)) = totOf (l.take k) + (l[k]).2 := by
  rw [List.take_succ_eq_append_getElem hk, totOf_app]
  generalize l[k] = p
  obtain ⟨x, n⟩ := p
  simp [totOf]
theorem numOf_take {l : List (Nat × Nat)} {k : Nat} (hk : k < l.length) : numOf (l.take (k + 1)) = numOf (l.take k) + (l[k]).1 * 2 ^ totOf (l.take k) := by
  rw [List.take_succ_eq_append_getElem hk, numOf_app]
  generalize l[k] = p
  obtain ⟨x, n⟩ := p
  simp [numOf]
theorem totOf_take_le (l : List (Nat × Nat)) (k : Nat) : totOf (l.take k) ≤ totOf l := by
  conv => rhs; rw [← List.take_append_drop k l, totOf_app]
  omega
theorem totOf_le {l : List (Nat × Nat)} (h : ∀ p ∈ l, p.2 ≤ 56) : totOf l ≤ 56 * l.length := by
  induction l with
  | nil => simp [totOf]
  | cons p l ih =>
    obtain ⟨x, n⟩ := p
    have h1 := h (x, n) (by simp)
    have h2 := ih fun q hq => h q (by simp [hq])
    simp only [totOf, List.length_cons]
    omega
theorem mod_div (a h n : Nat) (hn : n ≤ h) : a % 2 ^ h / 2 ^ n = a / 2 ^ n % 2 ^ (h - n) := by
  obtain ⟨d, rfl⟩ := Nat.exists_eq_add_of_le hn
  rw [Nat.add_sub_cancel_left, Nat.pow_add, Nat.mod_mul_right_div_self]
theorem mod_mod (a h n : Nat) (hn : n ≤ h) : a % 2 ^ h % 2 ^ n = a % 2 ^ n := Nat.mod_mod_of_dvd _ (Nat.pow_dvd_pow 2 hn)
/-- a piece of the bytes, as a number -/
theorem valB_piece (N n a : Nat) : ∀ m, a + m ≤ (n + 7) / 8 → valB (((bytesOf N n).drop a).take m) = N / 2 ^ (8 * a) % 2 ^ (8 * m)
  | 0, _ => by simp [valB, Nat.mod_one]
  | m + 1, h => by
    have hl : m < ((bytesOf N n).drop a).length := by simp [bytesOf_length]; omega
    rw [valB_take _ _ hl, valB_piece N n a m (by omega)]
    have hg : ((bytesOf N n).drop a)[m] = ((N / 2 ^ (8 * (a + m)) % 256 : Nat) : Int) := by
      have := bytesOf_get (N := N) (n := n) (j := a + m) (by omega)
      rw [List.getElem_drop]
      rw [List.getElem?_eq_some_iff] at this
      exact this.2
    rw [hg, Int.toNat_natCast, show 8 * (m + 1) = 8 * m + 8 from by omega, mod_more (N / 2 ^ (8 * a)) (8 * m) 8, Nat.div_div_eq_div_mul, ← Nat.pow_add, ← Nat.mul_add]
/-- a reader's bits and a piece more of the number -/
theorem more_bits (N t h m : Nat) : N / 2 ^ t % 2 ^ h + N / 2 ^ (t + h) % 2 ^ m * 2 ^ h = N / 2 ^ t % 2 ^ (h + m) := by
  rw [mod_more (N / 2 ^ t) h m, Nat.div_div_eq_div_mul, ← Nat.pow_add]

/-- a count of bits that goes at one time -/
def fitN (n : Int) : Nat := (n.tmod 57).natAbs
theorem fitN_le (n : Int) : fitN n ≤ 56 := by
  unfold fitN
  rw [Int.natAbs_tmod]
  have := Nat.mod_lt n.natAbs (show (57 : Int).natAbs > 0 by decide)
  have e : (57 : Int).natAbs = 57 := rfl
  omega
/-- a field: its number, its count, the highest first or not -/
structure Fld where
  V : Nat
  N : Int
  H : Bool
def Fld.cells (f : Fld) : List Value := [.int .u64 f.V, .int .i64 f.N, .bool f.H]
def Fld.low (f : Fld) : Nat := f.V % 2 ^ fitN f.N
def Fld.part (f : Fld) : Nat × Nat := (if f.H then rv f.low (fitN f.N) else f.low, fitN f.N)
theorem Fld.part_lt (f : Fld) : f.part.1 < 2 ^ f.part.2 := by
  unfold part
  split
  · exact rv_lt _ _
  · exact Nat.mod_lt _ (Nat.two_pow_pos _)
theorem parts_lt (l : List Fld) : ∀ p ∈ l.map Fld.part, p.1 < 2 ^ p.2 := by
  intro p hp
  obtain ⟨f, _, rfl⟩ := List.mem_map.1 hp
  exact f.part_lt
theorem parts_le (l : List Fld) : ∀ p ∈ l.map Fld.part, p.2 ≤ 56 := by
  intro p hp
  obtain ⟨f, _, rfl⟩ := List.mem_map.1 hp
  exact fitN_le _
/-- what Go reckons for the low bits -/
theorem low_bits {V n : Nat} (hV : V < 2 ^ 64) (hn : n ≤ 56) : Go.bits .and .u64 (V : Int) (IntKind.u64.wrap (IntKind.u64.wrap (2 ^ n) - 1)) = ((V % 2 ^ n : Nat) : Int) := by
  have hp := pow_lt_64 (n := n) (by omega)
  have hp0 := Nat.two_pow_pos n
  have e1 : IntKind.u64.wrap (IntKind.u64.wrap (2 ^ n) - 1) = ((2 ^ n - 1 : Nat) : Int) := by
    rw [← pow_cast, n64id (n := ((2 ^ n : Nat) : Int)) (by omega) (by omega), show ((2 ^ n : Nat) : Int) - 1 = ((2 ^ n - 1 : Nat) : Int) from by omega]
    exact n64id (by omega) (by omega)
  rw [e1, n64mask hV (by omega)]
end Go.Proofs.YtlfckpmdmkccjaaGreat.Num
/- What is laid down is taken up. Plain Lean, no condition. -/
set_option maxRecDepth 100000
set_option linter.unusedVariables false
set_option linter.unusedSimpArgs false
namespace Go.Proofs.YtlfckpmdmkccjaaGreat.Code
open Go.Proofs.YtlfckpmdmkccjaaGreat.Num

theorem bit_same {V R M i : Nat} (h : V % 2 ^ M = R % 2 ^ M) (hi : i < M) : V / 2 ^ i % 2 = R / 2 ^ i % 2 := by
  have low : ∀ X : Nat, X % 2 ^ M / 2 ^ i % 2 = X / 2 ^ i % 2 := by
    intro X
    have e : 2 ^ M = 2 ^ i * 2 ^ (M - i) := by rw [← Nat.pow_add]; congr 1; omega
    rw [e, Nat.mod_mul_right_div_self]
    exact Nat.mod_mod_of_dvd _ (by
      have : 2 ^ 1 ∣ 2 ^ (M - i) := Nat.pow_dvd_pow 2 (by omega)
      simpa using this)
  rw [← low V, ← low R, h]
theorem rv_div {cd n i : Nat} (hi : i < n) : rv cd n / 2 ^ i % 2 = cd / 2 ^ (n - 1 - i) % 2 := by
  have h := rv_bit cd n i
  rw [decide_eq_true hi, Bool.true_and, Nat.testBit_eq_decide_div_mod_eq, Nat.testBit_eq_decide_div_mod_eq] at h
  have h1 : rv cd n / 2 ^ i % 2 < 2 := Nat.mod_lt _ (by omega)
  have h2 : cd / 2 ^ (n - 1 - i) % 2 < 2 := Nat.mod_lt _ (by omega)
  by_cases e : rv cd n / 2 ^ i % 2 = 1
  · rw [decide_eq_true e] at h
    have := of_decide_eq_true h.symm
    omega
  · rw [decide_eq_false e] at h
    have := of_decide_eq_false h.symm
    omega
theorem nextF_code {F : Nat → Nat} {k V h n cd : Nat} (hn : n ≤ 15) (hb : ∀ i, i < h → i < n → V / 2 ^ i % 2 = cd / 2 ^ (n - 1 - i) % 2) (h1 : firstF F n ≤ cd) (h2 : cd < firstF F n + F n) (hk : usedF F n < k) : ∀ f l, l + f = 16 → 1 ≤ l → l ≤ n → nextF F k V h f l (2 * (cd / 2 ^ (n - l + 1))) = if h < n then (0, 0, 0) else (1, usedF F n + (cd - firstF F n), n)
  | 0, l, hlf, hl, hln => by omega
  | f + 1, l, hlf, hl, hln => by
    simp only [nextF]
    by_cases hh : h < l
    · rw [if_pos hh, if_pos (by omega)]
    · rw [if_neg hh]
      have hc : 2 * (cd / 2 ^ (n - l + 1)) + V / 2 ^ (l - 1) % 2 = cd / 2 ^ (n - l) := by
        rw [hb (l - 1) (by omega) (by omega), show n - 1 - (l - 1) = n - l from by omega, Nat.pow_succ, ← Nat.div_div_eq_div_mul]
        omega
      rw [hc]
      by_cases e : l = n
      · subst e
        rw [Nat.sub_self, Nat.pow_zero, Nat.div_one, if_pos h2, if_neg hh]
      · have hf := first_ge F l (n - l - 1)
        rw [show l + (n - l - 1 + 1) = n from by omega, show n - l - 1 + 1 = n - l from by omega] at hf
        have hge : firstF F l + F l ≤ cd / 2 ^ (n - l) := by
          rw [Nat.le_div_iff_mul_le (Nat.pow_pos (by omega))]
          omega
        have hu : usedF F (l + 1) ≤ usedF F n := usedF_mono (by omega)
        have hu2 : usedF F (l + 1) = usedF F l + F l := rfl
        rw [if_neg (by omega), if_neg (by omega)]
        have ih := nextF_code hn hb h1 h2 hk f (l + 1) (by omega) (by omega) (by omega)
        rw [show n - (l + 1) + 1 = n - l from by omega] at ih
        exact ih
/-- a symbol whose code the bits begin with, as far as they are there -/
theorem next_code {lens : List Int} {S : Nat → Nat} {V h : Nat} {s : Int} {n cd : Nat} (hc : check lens = 0) (hS : SymOk lens S) (hn : n = bitsOf lens s) (hn0 : n ≠ 0) (hcd : cd = codeOf lens s) (hV : V % 2 ^ (min h n) = rv cd n % 2 ^ (min h n)) :
    ∃ j, next (cz lens) (used lens) V h = (if h < n then (0, 0, 0) else (1, j, n)) ∧ ((S j : Nat) : Int) = s := by
  obtain ⟨k1, k2, k3, k4, k5, k6⟩ := bitsOf_fits hc (s := s) (by rw [← hn]; exact hn0)
  rw [← hn] at k3 k4 k5
  rw [← hcd] at k3 k6
  obtain ⟨i, rfl⟩ := Int.eq_ofNat_of_zero_le k1
  rw [Int.toNat_natCast] at k5 k6
  obtain ⟨hi, hie⟩ := List.getElem?_eq_some_iff.mp k5
  obtain ⟨c2, a1, a2, a3, a4⟩ := code_fits hc hi hie (by omega)
  rw [k6] at a1
  cases a1
  have hr := cnt_take_lt hi hie
  have hz : cz lens n = cnt lens n := by unfold cz; rw [if_neg (by omega)]
  have hkl := kk_lt hi hie (by omega) k4
  refine ⟨usedF (cz lens) n + (cd - firstF (cz lens) n), ?_, ?_⟩
  · unfold next
    rw [if_neg (by omega)]
    have hb : ∀ i, i < h → i < n → V / 2 ^ i % 2 = cd / 2 ^ (n - 1 - i) % 2 := fun i h1 h2 => by rw [bit_same hV (by omega), rv_div h2]
    have := nextF_code (F := cz lens) (k := used lens) k4 hb (by omega) (by omega) (by omega) 15 1 rfl (by omega) (by omega)
    rw [show n - 1 + 1 = n from by omega, Nat.div_eq_of_lt k3] at this
    exact this
  · have := hS i hi n hie (by omega)
    rw [show usedF (cz lens) n + (cd - firstF (cz lens) n) = usedF (cz lens) n + cnt (lens.take i) n from by omega, this]
/-- a symbol's bits -/
def part (lens : List Int) (s : Int) : Nat × Nat := (rv (codeOf lens s) (bitsOf lens s), bitsOf lens s)
theorem part_lt (lens : List Int) (l : List Int) : ∀ p ∈ l.map (part lens), p.1 < 2 ^ p.2 := by
  intro p hp
  obtain ⟨s, _, rfl⟩ := List.mem_map.1 hp
  exact rv_lt _ _
end Go.Proofs.YtlfckpmdmkccjaaGreat.Code
/- A writer that lays down parts, and an encoder beside it. Conditions: none but the writer's. -/
set_option linter.unusedVariables false
set_option linter.unusedSimpArgs false
set_option maxRecDepth 100000
namespace Go.Proofs.YtlfckpmdmkccjaaGreat.Blk
open Go.RowKit Go.Proofs.YtlfckpmdmkccjaaGreat.Lib Go.Proofs.YtlfckpmdmkccjaaGreat.Ints Go.Proofs.YtlfckpmdmkccjaaGreat.Num Go.Proofs.YtlfckpmdmkccjaaGreat.Bits Go.Proofs.YtlfckpmdmkccjaaGreat.Code
theorem numOf_snoc (P : List (Nat × Nat)) (v n : Nat) : numOf (P ++ [(v, n)]) = numOf P + v * 2 ^ totOf P := by
  rw [numOf_app]; simp [numOf]
theorem totOf_snoc (P : List (Nat × Nat)) (v n : Nat) : totOf (P ++ [(v, n)]) = totOf P + n := by
  rw [totOf_app]; simp [totOf]
theorem totOf_snoc2 (P : List (Nat × Nat)) (p : Nat × Nat) : totOf (P ++ [p]) = totOf P + p.2 := totOf_snoc P p.1 p.2
/-- what a Put leaves: v of n bits behind -/
def PutL (w w' : World) (gw N m : Nat) (q : Option Nat) (p : Nat × Nat) : Prop := ∃ q', Tl w' gw 27 (N + p.1 * 2 ^ m) (m + p.2) q' ∧ Aft w q q' ∧ Fr w w' (gw :: q.toList)
/-- a writer that has laid down P behind N, m -/
structure Pw (w0 w : World) (gw : Nat) (q0 q : Option Nat) (N m : Nat) (P : List (Nat × Nat)) : Prop where
  tl : Tl w gw 27 (N + numOf P * 2 ^ m) (m + totOf P) q
  aft : Aft w0 q0 q
  fr : Fr w0 w (gw :: q0.toList)
section
variable {w0 w w' : World} {gw N m : Nat} {q0 q : Option Nat} {P Q : List (Nat × Nat)}
theorem Pw.start (h : Tl w gw 27 N m q) : Pw w w gw q q N m [] := ⟨by simpa [numOf, totOf] using h, Aft.refl _ _, Fr.refl _ _⟩
theorem Pw.call (h : Pw w0 w gw q0 q N m P) (hf : Fr w w' []) : Pw w0 w' gw q0 q N m P := ⟨h.tl.frame hf (by simp) (by simp), h.aft, h.fr.trans hf (by simp)⟩
theorem Pw.mem (h : Pw w0 w gw q0 q N m P) {x : Nat} (hx : x < w0.heap.size) (hm : x ∈ gw :: q.toList) : x ∈ gw :: q0.toList := by
  rcases List.mem_cons.1 hm with e | hm
  · subst e; simp
  · rcases h.aft.mem hm with h1 | h1
    · exact List.mem_cons_of_mem _ h1
    · omega
theorem Pw.put (h : Pw w0 w gw q0 q N m P) {p : Nat × Nat} (hp : PutL w w' gw (N + numOf P * 2 ^ m) (m + totOf P) q p) : ∃ q', Pw w0 w' gw q0 q' N m (P ++ [p]) := by
  obtain ⟨v, n⟩ := p
  obtain ⟨q', h1, h2, h3⟩ := hp
  refine ⟨q', ?_, h.aft.trans h2 h.fr.size, h.fr.trans h3 (fun x hx hm => h.mem hx hm)⟩
  rw [numOf_snoc, totOf_snoc]
  have e : N + (numOf P + v * 2 ^ totOf P) * 2 ^ m = N + numOf P * 2 ^ m + v * 2 ^ (m + totOf P) := by
    rw [Nat.add_mul, Nat.mul_assoc, ← Nat.pow_add, Nat.add_comm (totOf P) m, Nat.add_assoc]
  rw [e, ← Nat.add_assoc m]
  exact h1
/-- many parts -/
theorem Pw.more (h : Pw w0 w gw q0 q N m P) {q' : Option Nat} (hp : Pw w w' gw q q' (N + numOf P * 2 ^ m) (m + totOf P) Q) : Pw w0 w' gw q0 q' N m (P ++ Q) := by
  refine ⟨?_, h.aft.trans hp.aft h.fr.size, h.fr.trans hp.fr (fun x hx hm => h.mem hx hm)⟩
  have := hp.tl
  rw [Nat.add_assoc m, ← totOf_app] at this
  have e : N + numOf (P ++ Q) * 2 ^ m = N + numOf P * 2 ^ m + numOf Q * 2 ^ (m + totOf P) := by
    rw [numOf_app, Nat.add_mul, Nat.mul_assoc, ← Nat.pow_add, Nat.add_comm (totOf P) m, Nat.add_assoc]
  rw [e]
  exact this
theorem tl_blk (h : Tl w gw 27 N m q) : (∃ cs, w.heap[gw]? = some (.cells cs 27 (0, 0))) ∧ ∀ y, q = some y → ∃ cs, w.heap[y]? = some (.cells cs 5 (0, 0)) := by
  obtain ⟨sv, hb, ho, rfl, _⟩ := h
  exact ⟨⟨_, hb⟩, fun y hy => own_type ho hy⟩
/-- what is neither a writer nor bytes is none of the writer's -/
theorem tl_not (h : Tl w gw 27 N m q) {g : Nat} {cs : Array Value} {t : TypeId} {fr : Nat × Nat} (hb : w.heap[g]? = some (.cells cs t fr)) (h1 : t ≠ 27) (h2 : t ≠ 5) : g ∉ gw :: q.toList := by
  obtain ⟨⟨ds, hd⟩, hq⟩ := tl_blk h
  intro hm
  rcases List.mem_cons.1 hm with e | hm
  · exact blk_ne hb hd h1 e
  · obtain ⟨es, he⟩ := hq g (by simpa using hm)
    exact blk_ne hb he h2 rfl
theorem tl_keep (h : Tl w gw 27 N m q) {g : Nat} {cs : Array Value} {t : TypeId} {fr : Nat × Nat} (hb : w.heap[g]? = some (.cells cs t fr)) (h1 : t ≠ 27) (h2 : t ≠ 5) (hf : Fr w w' (gw :: q.toList)) : w'.heap[g]? = some (.cells cs t fr) := hf.blk hb (tl_not h hb h1 h2)
/-- an encoder of these lengths -/
def EnP (w : World) (g : Nat) (lens : List Int) : Prop := ∃ ga da B db L, En w g ga da B db lens L
theorem EnP.call {g : Nat} {lens : List Int} (h : EnP w g lens) (hf : Fr w w' []) : EnP w' g lens := by
  obtain ⟨ga, da, B, db, L, h⟩ := h
  exact ⟨ga, da, B, db, L, h.frame hf (by simp)⟩
theorem EnP.keep {g : Nat} {lens : List Int} (h : EnP w g lens) (hT : Tl w gw 27 N m q) (hf : Fr w w' (gw :: q.toList)) : EnP w' g lens := by
  obtain ⟨ga, da, B, db, L, h⟩ := h
  obtain ⟨ds, hds⟩ := own_type h.lens_ (k := ga) rfl
  refine ⟨ga, da, B, db, L, h.frame hf ⟨tl_not hT h.blk (by decide) (by decide), tl_not hT hds (by decide) (by decide), fun y hy => ?_⟩⟩
  obtain ⟨es, hes⟩ := own_type h.codes_ hy
  exact tl_not hT hes (by decide) (by decide)
theorem eput {g : Nat} {lens : List Int} (s : Int) (hE : EnP w g lens) (hT : Tl w gw 27 N m q) (hm : m + 15 ≤ 1125899906842624) (er : Int) (her : er = if bitsOf lens s = 0 then 53 else 0) :
    Calls Tryz.prog 126 #[.pointer (some ⟨g, 0, none⟩), .pointer (some ⟨gw, 0, none⟩), .int .i64 s] w fun e w' => e = .returned (.int .i64 er) ∧ PutL w w' gw N m q (Code.part lens s) := by
  obtain ⟨ga, da, B, db, L, hE⟩ := hE
  by_cases h0 : bitsOf lens s = 0
  · rw [her, if_pos h0]
    refine (put_none s h0 gw hE).mono ?_
    rintro e w2 ⟨rfl, rfl⟩
    exact ⟨rfl, q, by simpa [Code.part, h0, rv] using hT, Aft.refl _ _, Fr.refl _ _⟩
  · rw [her, if_neg h0]
    refine (put_some s _ _ rfl rfl h0 gw hE hm hT).mono ?_
    rintro e w2 ⟨rfl, q', h1, h2, h3⟩
    exact ⟨rfl, q', h1, h2, h3⟩
theorem wput (a n : Int) (v : Nat) (ha : a = (v : Nat)) (hv : v < 2 ^ n.toNat) (h0 : 0 ≤ n) (h1 : n ≤ 56) (hT : Tl w gw 27 N m q) (hm : m + n.toNat ≤ 1125899906842624) :
    Calls Tryz.prog 8 #[.pointer (some ⟨gw, 0, none⟩), .int .u64 a, .int .i64 n] w fun e w' => e = .returned (.int .i64 0) ∧ PutL w w' gw N m q (v, n.toNat) := by
  refine (put_ok a n v w ha (mayN_ok h0 h1 hv) hm hT).mono ?_
  rintro e w2 ⟨rfl, q', h1, h2, h3⟩
  exact ⟨rfl, q', h1, h2, h3⟩
end
theorem part_le {lens : List Int} (hc : check lens = 0) (s : Int) : (Code.part lens s).2 ≤ 15 := by
  unfold Code.part
  by_cases h : bitsOf lens s = 0
  · simp only [h]; omega
  · exact (bitsOf_fits hc h).2.2.2.1
theorem Pw.after {w0 w1 w2 : World} {gw N m : Nat} {q q' : Option Nat} {P : List (Nat × Nat)} (hf : Fr w0 w1 []) (h : Pw w1 w2 gw q q' N m P) : Pw w0 w2 gw q q' N m P :=
  ⟨h.tl, (Aft.refl w0 q).trans h.aft hf.size, (hf.mono (G := gw :: q.toList) (fun k _ hm => by cases hm)).trans h.fr (fun x _ hm => hm)⟩
/-- a row that is none of the writer's stays -/
theorem own_keep {w w' : World} {gw N m : Nat} {q : Option Nat} {base : Nat} {e : TypeId} {size n : Nat} {v : Value} {xs : List Value} (hT : Tl w gw 27 N m q) (hf : Fr w w' (gw :: q.toList)) (h : w.ownsRow base e size v n xs) (h1 : e ≠ 27) (h2 : e ≠ 5) : w'.ownsRow base e size v n xs :=
  own_frame h hf (fun k hk => by
    obtain ⟨cs, hcs⟩ := own_type h hk
    exact tl_not hT hcs h1 h2)
end Go.Proofs.YtlfckpmdmkccjaaGreat.Blk
/- Chapter 09: a writer that lays down parts, and an encoder beside it. Conditions: none but the writer's. -/
set_option linter.unusedVariables false
set_option linter.unusedSimpArgs false
set_option maxRecDepth 100000
namespace Go.Proofs.YtlfckpmdmkccjaaGreat.Blk
open Go.RowKit Go.Proofs.YtlfckpmdmkccjaaGreat.Lib Go.Proofs.YtlfckpmdmkccjaaGreat.Ints Go.Proofs.YtlfckpmdmkccjaaGreat.Lz Go.Proofs.YtlfckpmdmkccjaaGreat.Num Go.Proofs.YtlfckpmdmkccjaaGreat.Bits Go.Proofs.YtlfckpmdmkccjaaGreat.Code
/-! ### a block's parts -/
def tokP (lit dist : List Int) (t : Tok) : List (Nat × Nat) :=
  [Code.part lit (sgA t).1, ((sgA t).2.1.toNat, (sgA t).2.2.toNat)] ++ if t.len = 0 then [] else [Code.part dist (sgB t).1, ((sgB t).2.1.toNat, (sgB t).2.2.toNat)]
def toksP (lit dist : List Int) (l : List Tok) : List (Nat × Nat) := l.flatMap (tokP lit dist)
theorem toksP_take {lit dist : List Int} {l : List Tok} {j : Nat} (h : j < l.length) : toksP lit dist (l.take (j + 1)) = toksP lit dist (l.take j) ++ tokP lit dist l[j] := by
  unfold toksP
  rw [List.take_succ_eq_append_getElem h, List.flatMap_append]; simp
theorem tokP_le {lit dist : List Int} (ha : check lit = 0) (hb : check dist = 0) {t : Tok} (hr : right t = true) (hl : 0 ≤ t.lit ∧ t.lit ≤ 255) : totOf (tokP lit dist t) ≤ 48 := by
  have h1 := part_le ha (sgA t).1
  have h2 := part_le hb (sgB t).1
  have h3 := (sgA_fit hr hl).1.bits
  have h4 := (sgB_fit hr).bits
  unfold tokP
  split <;> simp only [List.append_nil, List.cons_append, List.nil_append, totOf] <;> omega
theorem toksP_le {lit dist : List Int} (ha : check lit = 0) (hb : check dist = 0) : ∀ (l : List Tok), (∀ t ∈ l, right t = true) → LitB l → totOf (toksP lit dist l) ≤ 48 * l.length
  | [], _, _ => by simp [toksP, totOf]
  | t :: l, hr, hl => by
    have h1 := tokP_le ha hb (hr t (by simp)) (hl t (by simp))
    have h2 := toksP_le ha hb l (fun u hu => hr u (by simp [hu])) (fun u hu => hl u (by simp [hu]))
    have e : toksP lit dist (t :: l) = tokP lit dist t ++ toksP lit dist l := by simp [toksP]
    rw [e, totOf_app, List.length_cons]
    omega
def bodyP (lit dist : List Int) (l : List Tok) : List (Nat × Nat) := toksP lit dist l ++ [Code.part lit 256]
end Go.Proofs.YtlfckpmdmkccjaaGreat.Blk
/- Chapter 09: tokens and the end by codes, laid down. Conditions: the tokens are right, at most 65536; the writer has fewer than 2^49 bits. -/
set_option linter.unusedVariables false
set_option linter.unusedSimpArgs false
set_option maxRecDepth 100000
namespace Go.Proofs.YtlfckpmdmkccjaaGreat.Blk
open Go.RowKit Go.Proofs.YtlfckpmdmkccjaaGreat.Lib Go.Proofs.YtlfckpmdmkccjaaGreat.Ints Go.Proofs.YtlfckpmdmkccjaaGreat.Lz Go.Proofs.YtlfckpmdmkccjaaGreat.Num Go.Proofs.YtlfckpmdmkccjaaGreat.Bits Go.Proofs.YtlfckpmdmkccjaaGreat.Code
set_option maxHeartbeats 8000000 in
theorem lay_any (w : World) (X Y : Option Addr) (nx cx ny cy : Nat) (lit dist : List Int) (px py : Option Nat) (hX : SlArg w X nx cx (i64s lit) px) (hY : SlArg w Y ny cy (i64s dist) py) (hcx : check lit = 0) (hcy : check dist = 0)
    (A : Option Addr) (n c : Nat) (l : List Tok) (p : Option Nat) (hn : l.length = n) (hS : Sl w A (tcells l) p) (hb : n ≤ 65536) (hr : ∀ t ∈ l, right t = true) (hl : LitB l)
    (gw N m : Nat) (q : Option Nat) (hT : Tl w gw 27 N m q) (hp : ∀ k, p = some k → k ∉ gw :: q.toList) (hm : m ≤ 562949953421312) (er : Int) (her : er = if bitsOf lit 256 = 0 then 53 else 0) :
    Calls Tryz.prog 95 #[.pointer (some ⟨gw, 0, none⟩), .slice X nx cx, .slice Y ny cy, .slice A n c] w fun e w' => e = .returned (.int .i64 er) ∧ ∃ q', Pw w w' gw q q' N m (bodyP lit dist l) := by
  subst hn
  have HS := Hd.mk hS
  have HX := Hd.mk hX
  have HY := Hd.mk hY
  have HC := Hd.mk (And.intro hcx hcy)
  have HR := Hd.mk (And.intro hr hl)
  have HP := Hd.mk hp
  have T0 := Hd.mk hT
  have HER := Hd.mk her
  clear hS hX hY hcx hcy hr hl hp hT her
  go_enter Tryz.func95, Tryz.ntmps95
  go_wp2_with (fail)
  refine (newenc_any w X nx cx lit px HX.out 0 HC.out.1.symm).mono ?_
  rintro e w1 ⟨p1, rfl, hf1, _, h3⟩
  obtain ⟨gx, ga, da, B, db, L, rfl, hE, _⟩ := h3 rfl
  have EX1 : Hd (EnP w1 gx lit) := ⟨⟨ga, da, B, db, L, hE⟩⟩
  have F1 := Hd.mk hf1
  clear hf1 h3 hE HX
  go_wp2_with (fail)
  refine (newenc_any w1 Y ny cy dist py (HY.out.frame F1.out (by simp)) 0 HC.out.2.symm).mono ?_
  rintro e w2 ⟨p2, rfl, hf2, _, h3⟩
  obtain ⟨gy, ga', da', B', db', L', rfl, hE, _⟩ := h3 rfl
  have EY2 : Hd (EnP w2 gy dist) := ⟨⟨ga', da', B', db', L', hE⟩⟩
  have EX2 := Hd.mk (EX1.out.call hf2)
  have F2 := Hd.mk (F1.out.trans hf2 (by simp))
  have W2 : Hd (∃ qj, Pw w w2 gw q qj N m (toksP lit dist (l.take 0))) := ⟨⟨q, (Pw.start T0.out).call F2.out⟩⟩
  clear hf2 h3 hE HY F1 EX1 F2
  go_wp2
  go_loopg [35] l.length (fun kq jv wr => ∃ j : Nat, jv = .int .i64 (j : Nat) ∧ j + kq = l.length ∧ Hd (EnP wr gx lit) ∧ Hd (EnP wr gy dist) ∧ Hd (∃ qj, Pw w wr gw q qj N m (toksP lit dist (l.take j))))
  case atStart => exact ⟨0, rfl, by omega, EX2, EY2, W2⟩
  case round =>
    obtain ⟨j, rfl, hj, EX, EY, HW⟩ := hrel
    obtain ⟨⟨qj, hPj⟩⟩ := HW
    have PJ := Hd.mk hPj
    clear hPj
    have hmj : Hd (totOf (toksP lit dist (l.take j)) ≤ 48 * 65536) := ⟨by
      have := toksP_le HC.out.1 HC.out.2 (l.take j) (fun u hu => HR.out.1 u (List.mem_of_mem_take hu)) (fun u hu => HR.out.2 u (List.mem_of_mem_take hu))
      rw [List.length_take] at this
      omega⟩
    by_cases h1 : j < l.length
    · obtain ⟨a, o1, rfl, _, hcc⟩ := Sl.row (enc := tcell) (sz := 3) (fun _ => rfl) (HS.out.frame PJ.out.fr HP.out) h1 (by decide)
      obtain ⟨t, ht⟩ : ∃ t, t = l[j] := ⟨_, rfl⟩
      rw [← ht] at hcc
      have c0 := hcc 0 (by decide)
      have c1 := hcc 1 (by decide)
      have c2 := hcc 2 (by decide)
      simp only [tcell, List.getElem?_cons_zero, List.getElem?_cons_succ, Nat.add_zero] at c0 c1 c2
      have htm : t ∈ l := by rw [ht]; exact List.getElem_mem h1
      have hrt := HR.out.1 t htm
      have hlt := HR.out.2 t htm
      have HTK : Hd (toksP lit dist (l.take (j + 1)) = toksP lit dist (l.take j) ++ tokP lit dist t) := ⟨by rw [toksP_take h1, ht]⟩
      have HTD : Hd (tokP lit dist t = [Code.part lit (sgA t).1, ((sgA t).2.1.toNat, (sgA t).2.2.toNat)] ++ if t.len = 0 then [] else [Code.part dist (sgB t).1, ((sgB t).2.1.toNat, (sgB t).2.2.toNat)]) := ⟨rfl⟩
      have sa := (sgA_fit hrt hlt).1
      have sb := sgB_fit hrt
      clear hcc ht htm
      generalize toksP lit dist (l.take j) = PR at *
      go_wp2_with (fail)
      refine (signs_any _ t hlt).mono ?_
      rintro e w3 ⟨rfl, h2⟩
      have f3 := ((Fr.refl wr []).alloc (.cells #[.int .u8 t.lit, .int .i64 t.len, .int .i64 t.dist] 84)).trans h2 (by simp)
      have PJ3 := Hd.mk (PJ.out.call f3)
      have EX3 := Hd.mk (EX.out.call f3)
      have EY3 := Hd.mk (EY.out.call f3)
      clear h2 f3 EX EY PJ
      obtain ⟨⟨sx, vx, bxx⟩, hsa⟩ : ∃ x, x = sgA t := ⟨_, rfl⟩
      obtain ⟨⟨sy, vy, byy⟩, hsb2⟩ : ∃ x, x = sgB t := ⟨_, rfl⟩
      rw [← hsa] at sa HTD ⊢
      rw [← hsb2] at sb HTD ⊢
      obtain ⟨_, ⟨a3, a4⟩, a5, a6⟩ := sa
      obtain ⟨_, ⟨b3, b4⟩, b5, b6⟩ := sb
      clear hsa hsb2
      simp only at a3 a4 a5 a6 b3 b4 b5 b6 HTD
      obtain ⟨vx, rfl⟩ := Int.eq_ofNat_of_zero_le a5
      obtain ⟨vy, rfl⟩ := Int.eq_ofNat_of_zero_le b5
      obtain ⟨bxx, rfl⟩ := Int.eq_ofNat_of_zero_le a3
      obtain ⟨byy, rfl⟩ := Int.eq_ofNat_of_zero_le b3
      simp only [Int.toNat_natCast] at a6 b6 HTD
      have a7 : vx < 2 ^ bxx := by exact_mod_cast a6
      have b7 : vy < 2 ^ byy := by exact_mod_cast b6
      have hvx : vx < 8192 := Nat.lt_of_lt_of_le a7 (Nat.pow_le_pow_right (by omega) (show bxx ≤ 13 by omega))
      have hvy : vy < 8192 := Nat.lt_of_lt_of_le b7 (Nat.pow_le_pow_right (by omega) (show byy ≤ 13 by omega))
      have A7 := Hd.mk a7
      have B7 := Hd.mk b7
      clear a6 b6 a7 b7
      simp only [sgV]
      obtain ⟨mt, hmt⟩ : ∃ m, m = decide (t.len ≠ 0) := ⟨_, rfl⟩
      rw [← hmt]
      have HMT := Hd.mk hmt
      clear hmt
      go_upto_region 11 with (fail)
      have B1 : Hd (((w3.alloc (.cells #[.int .i64 sx, .int .i64 (vx : Nat), .int .i64 (bxx : Nat)] 108)).alloc (.cells #[.int .i64 sy, .int .i64 (vy : Nat), .int .i64 (byy : Nat)] 108)).heap[w3.heap.size]? = some (.cells #[.int .i64 sx, .int .i64 (vx : Nat), .int .i64 (bxx : Nat)] 108 (0, 0))) := ⟨blk_alloc (blk_new w3 _) _⟩
      have B2 : Hd (((w3.alloc (.cells #[.int .i64 sx, .int .i64 (vx : Nat), .int .i64 (bxx : Nat)] 108)).alloc (.cells #[.int .i64 sy, .int .i64 (vy : Nat), .int .i64 (byy : Nat)] 108)).heap[w3.heap.size + 1]? = some (.cells #[.int .i64 sy, .int .i64 (vy : Nat), .int .i64 (byy : Nat)] 108 (0, 0))) := ⟨by simpa using blk_new (w3.alloc _) _⟩
      have f4 := ((Fr.refl w3 []).alloc (.cells #[.int .i64 sx, .int .i64 (vx : Nat), .int .i64 (bxx : Nat)] 108)).alloc (.cells #[.int .i64 sy, .int .i64 (vy : Nat), .int .i64 (byy : Nat)] 108)
      have PJ4 := Hd.mk (PJ3.out.call f4)
      have EX4 := Hd.mk (EX3.out.call f4)
      have EY4 := Hd.mk (EY3.out.call f4)
      clear f4 EX3 EY3 PJ3
      generalize (w3.alloc (.cells #[.int .i64 sx, .int .i64 (vx : Nat), .int .i64 (bxx : Nat)] 108)).alloc (.cells #[.int .i64 sy, .int .i64 (vy : Nat), .int .i64 (byy : Nat)] 108) = w4 at *
      generalize w3.heap.size = g at *
      have d0 := blk_cell B1.out 0
      simp only [List.getElem?_toArray, List.getElem?_cons_zero, List.getElem?_cons_succ] at d0
      go_wp2_with (fail)
      obtain ⟨er1, he1⟩ : ∃ e1 : Int, e1 = if bitsOf lit sx = 0 then 53 else 0 := ⟨_, rfl⟩
      refine (eput sx EX4.out PJ4.out.tl (by have := hmj.out; omega) er1 he1).mono ?_
      clear he1
      rintro e w5 ⟨rfl, hpl⟩
      have hpl' := hpl
      obtain ⟨q5, _, _, f5⟩ := hpl'
      have EX5 := Hd.mk (EX4.out.keep PJ4.out.tl f5)
      have EY5 := Hd.mk (EY4.out.keep PJ4.out.tl f5)
      have B15 := Hd.mk (tl_keep PJ4.out.tl B1.out (by decide) (by decide) f5)
      have B25 := Hd.mk (tl_keep PJ4.out.tl B2.out (by decide) (by decide) f5)
      obtain ⟨q5', h5⟩ := PJ4.out.put hpl
      have PJ5 := Hd.mk h5
      clear h5 hpl f5 d0 B1 B2 EX4 EY4 PJ4
      have d1 := blk_cell B15.out 1
      have d2 := blk_cell B15.out 2
      simp only [List.getElem?_toArray, List.getElem?_cons_zero, List.getElem?_cons_succ] at d1 d2
      have ht5 : Hd (totOf (PR ++ [Code.part lit sx]) ≤ 48 * 65536 + 15) := ⟨by have := hmj.out; have := part_le HC.out.1 sx; rw [totOf_snoc2]; omega⟩
      go_wp2_with (fail)
      refine (wput (vx : Int) (bxx : Int) vx rfl (by simpa using A7.out) (by omega) (by omega) PJ5.out.tl (by rw [Int.toNat_natCast]; have := ht5.out; omega)).mono ?_
      rintro e w6 ⟨rfl, hpl⟩
      rw [Int.toNat_natCast] at hpl
      have hpl' := hpl
      obtain ⟨q6, _, _, f6⟩ := hpl'
      have EX6 := Hd.mk (EX5.out.keep PJ5.out.tl f6)
      have EY6 := Hd.mk (EY5.out.keep PJ5.out.tl f6)
      have B26 := Hd.mk (tl_keep PJ5.out.tl B25.out (by decide) (by decide) f6)
      obtain ⟨q6', h6⟩ := PJ5.out.put hpl
      have PJ6 := Hd.mk h6
      clear h6 hpl f6 d1 d2 B15 B25 EX5 EY5 PJ5
      cases mt with
      | false =>
        have hlen0 : t.len = 0 := by have := HMT.out; simpa using this
        rw [if_pos hlen0, List.append_nil] at HTD
        go_wp2
        go_roundg (gk - 1)
        case measure => omega
        case rel => exact ⟨j + 1, by go_num, by omega, EX6, EY6, ⟨q6', by rw [HTK.out, HTD.out]; have := PJ6.out; rwa [List.append_assoc] at this⟩⟩
      | true =>
        have hlen0 : ¬ t.len = 0 := by have := HMT.out; simpa using this
        rw [if_neg hlen0] at HTD
        have d0 := blk_cell B26.out 0
        simp only [List.getElem?_toArray, List.getElem?_cons_zero, List.getElem?_cons_succ] at d0
        have ht6 : Hd (totOf (PR ++ [Code.part lit sx] ++ [(vx, bxx)]) ≤ 48 * 65536 + 15 + 5) := ⟨by have := ht5.out; rw [totOf_snoc]; omega⟩
        go_wp2_with (fail)
        obtain ⟨er2, he2⟩ : ∃ e1 : Int, e1 = if bitsOf dist sy = 0 then 53 else 0 := ⟨_, rfl⟩
        refine (eput sy EY6.out PJ6.out.tl (by have := ht6.out; omega) er2 he2).mono ?_
        clear he2
        rintro e w7 ⟨rfl, hpl⟩
        have hpl' := hpl
        obtain ⟨q7, _, _, f7⟩ := hpl'
        have EX7 := Hd.mk (EX6.out.keep PJ6.out.tl f7)
        have EY7 := Hd.mk (EY6.out.keep PJ6.out.tl f7)
        have B27 := Hd.mk (tl_keep PJ6.out.tl B26.out (by decide) (by decide) f7)
        obtain ⟨q7', h7⟩ := PJ6.out.put hpl
        have PJ7 := Hd.mk h7
        clear h7 hpl f7 d0 B26 EX6 EY6 PJ6
        have d1 := blk_cell B27.out 1
        have d2 := blk_cell B27.out 2
        simp only [List.getElem?_toArray, List.getElem?_cons_zero, List.getElem?_cons_succ] at d1 d2
        have ht7 : Hd (totOf (PR ++ [Code.part lit sx] ++ [(vx, bxx)] ++ [Code.part dist sy]) ≤ 48 * 65536 + 15 + 5 + 15) := ⟨by have := ht6.out; have := part_le HC.out.2 sy; rw [totOf_snoc2]; omega⟩
        go_wp2_with (fail)
        refine (wput (vy : Int) (byy : Int) vy rfl (by simpa using B7.out) (by omega) (by omega) PJ7.out.tl (by rw [Int.toNat_natCast]; have := ht7.out; omega)).mono ?_
        rintro e w8 ⟨rfl, hpl⟩
        rw [Int.toNat_natCast] at hpl
        have hpl' := hpl
        obtain ⟨q8, _, _, f8⟩ := hpl'
        have EX8 := Hd.mk (EX7.out.keep PJ7.out.tl f8)
        have EY8 := Hd.mk (EY7.out.keep PJ7.out.tl f8)
        obtain ⟨q8', h8⟩ := PJ7.out.put hpl
        have PJ8 := Hd.mk h8
        clear h8 hpl f8 d1 d2 B27 EX7 EY7 PJ7
        go_wp2
        go_roundg (gk - 1)
        case measure => omega
        case rel => exact ⟨j + 1, by go_num, by omega, EX8, EY8, ⟨q8', by rw [HTK.out, HTD.out]; have := PJ8.out; simpa [List.append_assoc] using this⟩⟩
    · obtain rfl : j = l.length := by omega
      rw [List.take_length] at PJ hmj
      go_wp2_with (fail)
      refine (eput 256 EX.out PJ.out.tl (by have := hmj.out; omega) er HER.out).mono ?_
      rintro e w5 ⟨rfl, hpl⟩
      obtain ⟨q5', h5⟩ := PJ.out.put hpl
      have PJ5 := Hd.mk h5
      clear h5 hpl
      go_wp2
      go_ret
      exact ⟨rfl, q5', PJ5.out⟩
end Go.Proofs.YtlfckpmdmkccjaaGreat.Blk
