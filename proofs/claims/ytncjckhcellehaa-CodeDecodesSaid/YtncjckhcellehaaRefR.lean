/- The document's reader (sapperref03): what each method answers and leaves behind, in the same words as the program's. Conditions: at most 64 bits are held. -/
import Derived.Test.YtncjckhcellehaaBitsLives
import Derived.Test.YtncjckhcellehaaMem
import Derived.Deep.RegionLaw
import Derived.Outline
set_option maxRecDepth 100000
set_option linter.unusedVariables false
set_option linter.unusedSimpArgs false
namespace Go.Proofs.Ytncjckhcellehaa.Bits
open Go.RowKit Go.Proofs.Ytncjckhcellehaa.Lib Go.Proofs.Ytncjckhcellehaa.Num

/-- the h bits of V, the lowest first -/
def bools (V h : Nat) : List Value := (List.range h).map fun i => .bool (V.testBit i)
theorem bools_length (V h : Nat) : (bools V h).length = h := by simp [bools]
theorem bools_get {V h i : Nat} (hi : i < h) : (bools V h)[i]? = some (.bool (V.testBit i)) := by simp [bools, hi]
theorem bools_snoc {V h : Nat} (hV : V < 2 ^ h) (b : Bool) : bools V h ++ [.bool b] = bools (V + b.toNat * 2 ^ h) (h + 1) := by
  apply List.ext_getElem?
  intro i
  by_cases h1 : i < h
  · rw [List.getElem?_append_left (by rw [bools_length]; exact h1), bools_get h1, bools_get (by omega)]
    congr 2
    rw [Nat.add_comm, Nat.mul_comm, Nat.testBit_two_pow_mul_add _ hV, if_pos h1]
  · by_cases h2 : i = h
    · subst h2
      rw [List.getElem?_append_right (by rw [bools_length]; omega), bools_length, bools_get (by omega), Nat.sub_self]
      simp only [List.getElem?_cons_zero]
      congr 2
      rw [Nat.add_comm, Nat.mul_comm, Nat.testBit_two_pow_mul_add _ hV, if_neg (by omega), Nat.sub_self]
      cases b <;> rfl
    · rw [List.getElem?_eq_none (by simp [bools_length]; omega), List.getElem?_eq_none (by rw [bools_length]; omega)]
theorem bools_drop (V h n : Nat) : (bools V h).drop n = bools (V / 2 ^ n) (h - n) := by
  apply List.ext_getElem?
  intro i
  rw [List.getElem?_drop]
  by_cases h1 : n + i < h
  · rw [bools_get h1, bools_get (by omega), ← Nat.shiftRight_eq_div_pow, Nat.testBit_shiftRight]
  · rw [List.getElem?_eq_none (by rw [bools_length]; omega), List.getElem?_eq_none (by rw [bools_length]; omega)]
theorem infoBool : (Try.prog.info? 4).map (fun i => (i.zero, i.size, i.bytes)) = some (some (.bool false), 1, 1) := by kernel_rfl

/-- The document's reader in block g holds the h bits of V; t are gone; q: the block of its bits. -/
def RR (w : World) (g : Nat) (V h t : Nat) (q : Option Nat) : Prop :=
  ∃ A c, w.heap[g]? = some (.cells #[.slice A h c, .int .i64 t] 55 (0, 0)) ∧ w.ownsRow 0 4 1 (.slice A h c) h (bools V h) ∧ (Value.slice A h c).ownBlock = q ∧ V < 2 ^ h
theorem RR.frame {w w' : World} {g V h t : Nat} {q : Option Nat} (hr : RR w g V h t q) {F : List Nat} (hf : Fr w w' F) (hg : g ∉ F) (hq : ∀ k, q = some k → k ∉ F) : RR w' g V h t q := by
  obtain ⟨A, c, hb, hown, rfl, hV⟩ := hr
  exact ⟨A, c, hf.blk hb hg, own_frame hown hf hq, rfl, hV⟩
theorem RR.lt {w : World} {g V h t : Nat} {q : Option Nat} (hr : RR w g V h t q) : g < w.heap.size ∧ ∀ k, q = some k → k < w.heap.size := by
  obtain ⟨A, c, hb, hown, rfl, hV⟩ := hr
  exact ⟨blk_lt hb, fun k hk => own_lt hown hk⟩
theorem RR.ne {w : World} {g V h t : Nat} {q : Option Nat} (hr : RR w g V h t q) : q ≠ some g := by
  obtain ⟨A, c, hb, hown, rfl, hV⟩ := hr
  exact own_ne hown hb (by decide)
section
variable {g V b t : Nat} {q : Option Nat}
theorem rspace_any (w : World) (hb : b ≤ 64) (hr : RR w g V b t q) :
    Calls Try.prog 43 #[.pointer (some ⟨g, 0, none⟩)] w fun e w' => e = .returned (.int .i64 (((64 - b) / 8 : Nat) : Int)) ∧ w = w' := by
  obtain ⟨A, c, hb', _⟩ := hr
  have c0 := blk_cell hb' 0
  simp only [List.getElem?_toArray, List.getElem?_cons_zero, List.getElem?_cons_succ] at c0
  clear hb'
  go_enter Try.func43, Try.ntmps43
  go_wp2
  go_ret
  have e : ((64 : Int) - b) / 8 = (((64 - b) / 8 : Nat) : Int) := by omega
  exact ⟨by rw [← e]; rfl, rfl⟩
theorem low_bit (V i : Nat) : V % 2 ^ (i + 1) = V % 2 ^ i + (V.testBit i).toNat * 2 ^ i := by
  rw [mod_more V i 1, Nat.pow_one]
  congr 2
  rw [Nat.testBit_eq_decide_div_mod_eq]
  rcases Nat.mod_two_eq_zero_or_one (V / 2 ^ i) with h | h <;> simp [h]
theorem rpeek_ok (w : World) (n : Int) (h0 : 0 ≤ n) (h1 : n ≤ 56) (h2 : n ≤ b) (hb : b ≤ 64) (hr : RR w g V b t q) :
    Calls Try.prog 45 #[.pointer (some ⟨g, 0, none⟩), .int .i64 n] w fun e w' => e = .returned (.tuple #[.int .u64 ((V % 2 ^ n.toNat : Nat) : Int), .bool true]) ∧ w = w' := by
  obtain ⟨n, rfl⟩ := Int.eq_ofNat_of_zero_le h0
  rw [Int.toNat_natCast]
  obtain ⟨A, c, hb', hown, _, hV⟩ := hr
  have c0 := blk_cell hb' 0
  simp only [List.getElem?_toArray, List.getElem?_cons_zero, List.getElem?_cons_succ] at c0
  have HO := Hd.mk hown
  clear hb' hown
  go_enter Try.func45, Try.ntmps45
  go_wp2
  go_loopg [6, 7] n (fun kq vv iv wr => ∃ i x : Nat, vv = .int .u64 (x : Nat) ∧ iv = .int .i64 (i : Nat) ∧ i + kq = n ∧ Hd (x = V % 2 ^ i) ∧ w = wr)
  case atStart => exact ⟨0, 0, rfl, rfl, by omega, ⟨by simp [Nat.mod_one]⟩, rfl⟩
  case round =>
    obtain ⟨i, x, rfl, rfl, hi, Hx, rfl⟩ := hrel
    by_cases hlt : i < n
    · obtain ⟨gX, cc, e, _⟩ := own_some HO.out (by omega)
      have hA : A = some ⟨gX, 0, none⟩ := by injection e
      subst hA
      have hci := (HO.out.cellAt i (by omega)).trans (bools_get (by omega))
      obtain ⟨bt, hbt⟩ : ∃ bt, bt = V.testBit i := ⟨_, rfl⟩
      rw [← hbt] at hci
      have Hbt := Hd.mk hbt
      have hp := pow_lt_64 (n := i) (by omega)
      have hx1 : x < 2 ^ i := by rw [Hx.out]; exact Nat.mod_lt _ (Nat.two_pow_pos _)
      have hp2 : 2 ^ (i + 1) ≤ 18446744073709551616 := pow_le_64 (by omega)
      have hw1 : IntKind.u64.wrap (2 ^ i) = ((2 ^ i : Nat) : Int) := by rw [← pow_cast]; exact n64id (by omega) (by omega)
      have hw2 : Hd (IntKind.u64.wrap ((x : Int) + ((2 ^ i : Nat) : Int)) = ((x + 2 ^ i : Nat) : Int)) := ⟨by rw [Nat.pow_succ] at hp2; rw [n64id (by omega) (by omega)]; omega⟩
      have Hw1 := Hd.mk hw1
      clear hbt hp hx1 hp2 hw1
      cases bt with
      | true =>
        go_wp2
        go_roundg (gk - 1)
        case measure => omega
        case rel =>
          rw [Hw1.out, hw2.out]
          exact ⟨i + 1, x + 2 ^ i, rfl, by go_num, by omega, ⟨by rw [low_bit, ← Hbt.out, Hx.out]; simp⟩, rfl⟩
      | false =>
        go_wp2
        go_roundg (gk - 1)
        case measure => omega
        case rel => exact ⟨i + 1, x, rfl, by go_num, by omega, ⟨by rw [low_bit, ← Hbt.out, Hx.out]; simp⟩, rfl⟩
    · obtain rfl : i = n := by omega
      go_wp2
      go_ret2
      exact ⟨by rw [← Hx.out]; rfl, rfl⟩
theorem rpeek_no (w : World) (n : Int) (hn : n < 0 ∨ 56 < n ∨ b < n) (hr : RR w g V b t q) :
    Calls Try.prog 45 #[.pointer (some ⟨g, 0, none⟩), .int .i64 n] w fun e w' => e = .returned (.tuple #[.int .u64 0, .bool false]) ∧ w = w' := by
  obtain ⟨A, c, hb', _⟩ := hr
  have c0 := blk_cell hb' 0
  simp only [List.getElem?_toArray, List.getElem?_cons_zero, List.getElem?_cons_succ] at c0
  clear hb'
  by_cases h1 : n < 0
  · clear hn
    go_enter Try.func45, Try.ntmps45
    go_wp2
    go_ret2
    exact ⟨rfl, rfl⟩
  · by_cases h2 : 56 < n
    · clear hn
      go_enter Try.func45, Try.ntmps45
      go_wp2
      go_ret2
      exact ⟨rfl, rfl⟩
    · have h3 : (b : Int) < n := by omega
      clear hn
      go_enter Try.func45, Try.ntmps45
      go_wp2
      go_ret2
      exact ⟨rfl, rfl⟩
/-- behind Take's stores -/
theorem rtake_stored {w w1 : World} {A : Option Addr} {c n : Nat} {A' : Option Addr} {c' : Nat} (hb : w.heap[g]? = some (.cells #[.slice A b c, .int .i64 t] 55 (0, 0)))
    (hV : V < 2 ^ b) (hn : n ≤ b) (O : Obj)
    (hown' : w1.ownsRow 0 4 1 (.slice A' (b - n) c') (b - n) (bools (V / 2 ^ n) (b - n))) (hg : (w.alloc O).grownBy w1 (some w.heap.size)) (haft : Aft (w.alloc O) (some w.heap.size) (Value.slice A' (b - n) c').ownBlock) :
    RR ((w1.setCell ⟨g, 0, none⟩ (.slice A' (b - n) c')).setCell ⟨g, 1, none⟩ (.int .i64 ((t : Int) + n))) g (V / 2 ^ n) (b - n) (t + n) (Value.slice A' (b - n) c').ownBlock ∧
      Fr w ((w1.setCell ⟨g, 0, none⟩ (.slice A' (b - n) c')).setCell ⟨g, 1, none⟩ (.int .i64 ((t : Int) + n))) [g] := by
  have hlt := blk_lt hb
  have hb1 := blk_grown hg (blk_alloc hb O) (by intro e; injection e with e; omega)
  have hne := own_ne hown' hb1 (by decide)
  refine ⟨⟨A', c', ?_, own_setFar (own_setFar hown' _ hne) _ hne, rfl, ?_⟩, ?_⟩
  · rw [Int.natCast_add]
    simpa using blk_set (blk_set hb1 0 (.slice A' (b - n) c')) 1 (.int .i64 ((t : Int) + n))
  · rw [Nat.div_lt_iff_lt_mul (Nat.two_pow_pos _), ← Nat.pow_add, Nat.sub_add_cancel hn]; exact hV
  · exact ((((Fr.refl w _).alloc O).grown hg (fun k hk => .inr (by cases hk; exact Nat.le_refl _))).setCell _ (.inl (by simp))).setCell _ (.inl (by simp))
theorem rtake_ok (w : World) (n : Int) (h0 : 0 ≤ n) (h1 : n ≤ 56) (h2 : n ≤ b) (hb : b ≤ 64) (ht : t ≤ 1152921504606846976) (hr : RR w g V b t q) :
    Calls Try.prog 27 #[.pointer (some ⟨g, 0, none⟩), .int .i64 n] w fun e w' => e = .returned (.tuple #[.int .u64 ((V % 2 ^ n.toNat : Nat) : Int), .bool true]) ∧
      ∃ q', RR w' g (V / 2 ^ n.toNat) (b - n.toNat) (t + n.toNat) q' ∧ (∀ k, q' = some k → w.heap.size ≤ k) ∧ Fr w w' [g] := by
  obtain ⟨i0, hi0, hz0, hz1, hz2⟩ := info_parts infoBool
  have HR := Hd.mk hr
  obtain ⟨n, rfl⟩ := Int.eq_ofNat_of_zero_le h0
  obtain ⟨A, c, hb', hown, hq, hV⟩ := hr
  have c0 := blk_cell hb' 0
  have c1 := blk_cell hb' 1
  have f0 := blk_frozen hb' 0
  have f1 := blk_frozen hb' 1
  simp only [List.getElem?_toArray, List.getElem?_cons_zero, List.getElem?_cons_succ] at c0 c1
  obtain ⟨_, _, e, hbc, hcm, _⟩ := own_slice hown
  injection e with e1 _ e2
  subst e1 e2
  have HO := Hd.mk hown
  have HB := Hd.mk hb'
  have HN := Hd.mk (own_none hown)
  obtain ⟨u, hu⟩ : ∃ u, u = V % 2 ^ n := ⟨_, rfl⟩
  have Hu := Hd.mk hu
  have hlt := blk_lt hb'
  clear hb' hown hq hu
  go_enter Try.func27, Try.ntmps27
  go_wp2_with (fail)
  refine (rpeek_ok w (n : Int) h0 h1 h2 hb HR.out).mono ?_
  rintro e w' ⟨rfl, rfl⟩
  rw [Int.toNat_natCast, ← Hu.out]
  obtain ⟨A2, hA2⟩ : ∃ A2, A2 = cutA A c n 1 := ⟨_, rfl⟩
  have hsl := run_cut_from 37 4 .i64 Try.underlying37 hi0 1 hz1 A b c n (by omega)
  rw [← hA2] at hsl
  have HA2 := Hd.mk hA2
  have HS : Hd (Sl (w.alloc (.cells #[] 4)) A2 (bools (V / 2 ^ n) (b - n)) ((Value.slice A b c).ownBlock)) := ⟨by
    rw [hA2, ← bools_drop]
    exact ((sl_of_own HO.out).cut (bools_length _ _) hbc (by omega)).alloc _⟩
  have HM : Hd (A2 = none → b - n = 0 ∧ c - n = 0) := ⟨fun h => cutA_none HN.out (by rw [← hA2]; exact h)⟩
  clear hA2
  go_wp2_with (at_builtin; refine wpList_append_sl rfl _ _ 37 rfl 4 i0 (.bool false) 1 1 Try.underlying37 hi0 hz0 hz1 hz2 rfl (by decide) (.slice (some ⟨w.heap.size, 0, none⟩) 0 0) 0 [] rfl ?c0 A2 (b - n) (c - n) _ _ rfl ?c4 HS.out HM.out ?c1 ?c2 ?c3 ?_)
  case c0 => exact World.ownsRow_lit w #[] 0 (Nat.zero_le _) (Nat.zero_le _) rfl
  case c4 => simp [bools_length]
  case c1 => intro u hu; simp only [bools, List.mem_map] at hu; obtain ⟨_, _, rfl⟩ := hu; rfl
  case c2 => unfold maxLen; omega
  case c3 => omega
  intro A' c' w1 hown' hgrow haft
  have hb1 := blk_grown hgrow (blk_alloc HB.out _) (show some g ≠ some w.heap.size from by intro e; injection e with e; omega)
  have R := rtake_stored (V := V) (n := n) (c' := c') HB.out hV (by omega) _ (by simpa using hown') hgrow haft
  have HR2 := Hd.mk R
  have HF := Hd.mk haft
  clear c0 c1 f0 f1
  have c0 := blk_cell hb1 0
  have c1 := blk_cell hb1 1
  have f0 := blk_frozen hb1 0
  have f1 := blk_frozen hb1 1
  simp only [List.getElem?_toArray, List.getElem?_cons_zero, List.getElem?_cons_succ] at c0 c1
  clear hown' hgrow haft hb1 R hsl
  go_wp2
  go_ret2
  simp only [Int.toNat_natCast]
  rw [← Hu.out]
  have h0 := HR2.out
  refine ⟨rfl, _, h0.1, fun k hk => ?_, h0.2⟩
  rcases HF.out with e | ⟨j, e, hj⟩
  · rw [hk] at e
    simp [Value.ownBlock] at e
    omega
  · rw [hk] at e
    cases e
    simp at hj; omega
theorem rtake_no (w : World) (n : Int) (hn : n < 0 ∨ 56 < n ∨ b < n) (hr : RR w g V b t q) :
    Calls Try.prog 27 #[.pointer (some ⟨g, 0, none⟩), .int .i64 n] w fun e w' => e = .returned (.tuple #[.int .u64 0, .bool false]) ∧ w = w' := by
  have HR := Hd.mk hr
  have HN := Hd.mk hn
  clear hr hn
  go_enter Try.func27, Try.ntmps27
  go_wp2_with (fail)
  refine (rpeek_no w n HN.out HR.out).mono ?_
  rintro e w' ⟨rfl, rfl⟩
  go_wp2
  go_ret2
  exact ⟨rfl, rfl⟩
/-- behind an append of one bit -/
theorem rbit_stored {w w1 : World} {A : Option Addr} {c : Nat} {A' : Option Addr} {c' : Nat} {bt : Bool} (hb : w.heap[g]? = some (.cells #[.slice A b c, .int .i64 t] 55 (0, 0)))
    (hown : w.ownsRow 0 4 1 (.slice A b c) b (bools V b)) (hV : V < 2 ^ b) (O : Obj)
    (hown' : w1.ownsRow 0 4 1 (.slice A' (b + 1) c') (b + 1) (bools V b ++ [.bool bt])) (hg : (w.alloc O).grownBy w1 (Value.slice A b c).ownBlock) (haft : Aft (w.alloc O) (Value.slice A b c).ownBlock (Value.slice A' (b + 1) c').ownBlock) :
    RR (w1.setCell ⟨g, 0, none⟩ (.slice A' (b + 1) c')) g (V + bt.toNat * 2 ^ b) (b + 1) t (Value.slice A' (b + 1) c').ownBlock ∧ Aft w (Value.slice A b c).ownBlock (Value.slice A' (b + 1) c').ownBlock ∧
      Fr w (w1.setCell ⟨g, 0, none⟩ (.slice A' (b + 1) c')) (g :: (Value.slice A b c).ownBlock.toList) := by
  have hb1 := blk_grown hg (blk_alloc hb O) (own_ne hown hb (by decide)).symm
  have hne := own_ne hown' hb1 (by decide)
  rw [bools_snoc hV] at hown'
  refine ⟨⟨A', c', by simpa using blk_set hb1 0 (.slice A' (b + 1) c'), own_setFar hown' _ hne, rfl, grow_lt hV (by cases bt <;> decide)⟩, ?_, ?_⟩
  · rcases haft with e | ⟨k, e, hk⟩
    · exact .inl e
    · exact .inr ⟨k, e, by simp at hk; omega⟩
  · exact (((Fr.refl w _).alloc O).grown hg (fun k hk => .inl (by simp [hk]))).setCell _ (.inl (by simp))
theorem rfeed_any (w : World) (A : Option Addr) (l c : Nat) (xs : List Int) (qx : Option Nat) (hlen : xs.length = l) (hx : ∀ x ∈ xs, 0 ≤ x ∧ x ≤ 255) (hS : Sl w A (u8s xs) qx) (hl : xs.length ≤ c) (hlm : xs.length ≤ 4611686018427387904)
    (hqx : ∀ k, qx = some k → k ∉ g :: q.toList) (n : Nat) (hn : n = min ((64 - b) / 8) xs.length) (hb : b ≤ 64) (hr : RR w g V b t q) :
    Calls Try.prog 25 #[.pointer (some ⟨g, 0, none⟩), .slice A l c] w fun e w' => e = .returned (.int .i64 n) ∧
      ∃ q', RR w' g (V + valB (xs.take n) * 2 ^ b) (b + 8 * n) t q' ∧ Aft w q q' ∧ Fr w w' (g :: q.toList) := by
  subst hlen
  obtain ⟨i0, hi0, hz0, hz1, hz2⟩ := info_parts infoBool
  have HR := Hd.mk hr
  have HS := Hd.mk hS
  have HX := Hd.mk hx
  have HQ := Hd.mk hqx
  obtain ⟨s, hs⟩ : ∃ s, s = (64 - b) / 8 := ⟨_, rfl⟩
  have hn1 : n ≤ xs.length := by omega
  have hn2 : b + 8 * n ≤ 64 := by omega
  have Hn := Hd.mk hn
  have Hs := Hd.mk hs
  clear hr hn hS hx hqx hs
  go_enter Try.func25, Try.ntmps25
  go_wp2_with (fail)
  refine (rspace_any w hb HR.out).mono ?_
  rintro e w' ⟨rfl, rfl⟩
  rw [← Hs.out]
  go_upto_if 14 with (fail)
  go_cut [5] (fun s5 wc => s5 = .int .i64 n ∧ w = wc)
  case first =>
    by_cases h1 : xs.length < s
    · have h2 : n = xs.length := by have := Hn.out; have := Hs.out; omega
      go_wp2
      go_meet
      case rel => exact ⟨by rw [h2], rfl⟩
    · have h2 : n = s := by have := Hn.out; have := Hs.out; omega
      go_wp2
      go_meet
      case rel => exact ⟨by rw [h2], rfl⟩
  case rest =>
    obtain ⟨rfl, rfl⟩ := hcut
    go_wp2
    go_loopg [21] n (fun kq jv wr => ∃ j V1 b1 : Nat, jv = .int .i64 (j : Nat) ∧ j + kq = n ∧ b1 ≤ 64 ∧ b1 + 8 * kq ≤ 64 ∧ Hd (V1 = V + valB (xs.take j) * 2 ^ b ∧ b1 = b + 8 * j) ∧ ∃ q', RR wr g V1 b1 t q' ∧ Aft w q q' ∧ Fr w wr (g :: q.toList))
    case atStart => exact ⟨0, V, b, rfl, by omega, hb, hn2, ⟨by simp [valB], rfl⟩, q, HR.out, Aft.refl _ _, Fr.refl _ _⟩
    case round =>
      obtain ⟨j, V1, b1, rfl, hj, hb1, hb2, HE, q1, hr1, ha1, hf1⟩ := hrel
      have HR1 := Hd.mk hr1
      have HA1 := Hd.mk ha1
      have HF1 := Hd.mk hf1
      clear hr1 ha1
      by_cases hlt : j < n
      · obtain ⟨p, off, rfl, hp, hcell⟩ := (HS.out.frame hf1 HQ.out) (by simp [u8s]; omega)
        have hxj := HX.out (xs[j]'(by omega)) (List.getElem_mem _)
        obtain ⟨x, hx⟩ : ∃ x : Nat, xs[j]'(by omega) = (x : Int) := Int.eq_ofNat_of_zero_le hxj.1
        have hcj := (hcell j (by simp [u8s]; omega)).trans (by rw [u8s_get, List.getElem?_eq_getElem (by omega), hx])
        have hx255 : (x : Int) ≤ 255 := by omega
        have Hx := Hd.mk hx
        obtain ⟨wo, rfl⟩ : ∃ wo : World, wo = wr := ⟨_, rfl⟩
        obtain ⟨gg, rfl⟩ : ∃ gg : Nat, gg = gk := ⟨_, rfl⟩
        clear hf1 hcell hx hxj
        go_wp2
        go_loopg [8] 8 (fun kq iv wr => ∃ i V2 b2 : Nat, iv = .int .i64 (i : Nat) ∧ i + kq = 8 ∧ b2 + kq ≤ 64 ∧ Hd (V2 = V1 + x % 2 ^ i * 2 ^ b1 ∧ b2 = b1 + i) ∧ ∃ q', RR wr g V2 b2 t q' ∧ Aft w q q' ∧ Fr w wr (g :: q.toList))
        case atStart => exact ⟨0, V1, b1, rfl, by omega, by omega, ⟨by simp [Nat.mod_one], rfl⟩, q1, HR1.out, HA1.out, HF1.out⟩
        case round =>
          obtain ⟨i, V2, b2, rfl, hi, hb22, HE2, q2, hr2, ha2, hf2⟩ := hrel
          have HR2 := Hd.mk hr2
          have HA2 := Hd.mk ha2
          have HF2 := Hd.mk hf2
          by_cases hlt2 : i < 8
          · obtain ⟨A2, c2, hblk, hown, hq2, hV2⟩ := hr2
            have k0 := blk_cell hblk 0
            have f0 := blk_frozen hblk 0
            simp only [List.getElem?_toArray, List.getElem?_cons_zero, List.getElem?_cons_succ] at k0
            have ka := blk_cell (blk_alloc hblk (.cells #[.bool (x.testBit i)] 4)) 0
            simp only [List.getElem?_toArray, List.getElem?_cons_zero] at ka
            have HB := Hd.mk hblk
            have HO := Hd.mk hown
            have HQ2 := Hd.mk hq2
            have HV2 := Hd.mk hV2
            have HNE := Hd.mk (own_ne hown hblk (by decide))
            obtain ⟨bt, hbt⟩ : ∃ bt, bt = x.testBit i := ⟨_, rfl⟩
            rw [← hbt] at ka
            have hand : (Go.bits .and .u8 ((x : Int) / 2 ^ i) 1 == 1) = bt := by
              have e1 : (x : Int) / 2 ^ i = ((x / 2 ^ i : Nat) : Int) := by simp
              have hle : x / 2 ^ i ≤ x := Nat.div_le_self _ _
              rw [e1, show (1 : Int) = ((1 : Nat) : Int) from rfl, n8and (a := x / 2 ^ i) (b := 1) (by omega) (by decide), Nat.and_one_is_mod, hbt, Nat.testBit_eq_decide_div_mod_eq, Bool.eq_iff_iff]
              simp only [beq_iff_eq, decide_eq_true_eq]
              omega
            have Hbt := Hd.mk hbt
            clear hblk hown hq2 hV2 hbt hf2 ha2
            go_wp2
            go_region_law (refine step_append_sl rfl (.tmp 33) (.tmp 39) 37 rfl 4 i0 (.bool false) 1 1 Try.underlying37 hi0 hz0 hz1 hz2 rfl (by decide) (.slice A2 b2 c2) b2 (bools V2 b2) (by simp [Act.eval, Act.put]) (by exact HO.out.alloc _) (some ⟨wr.heap.size, 0, none⟩) 1 1 [.bool bt] (some wr.heap.size) (by simp [Act.eval, Act.put]) rfl (by exact sl_of_blk (blk_new _ _)) (by intro h; cases h) (by intro u hu; simp at hu; subst hu; rfl) (by unfold maxLen; omega) (by omega) ?_; intro A' c' w1 hown' hgrow haft; have hb1 := blk_grown hgrow (by exact blk_alloc HB.out _) HNE.out.symm; have k1 := blk_cell hb1 0; have f1 := blk_frozen hb1 0; simp only [List.getElem?_toArray, List.getElem?_cons_zero] at k1; have R := rbit_stored (bt := bt) HB.out HO.out HV2.out (.cells #[.bool bt] 4) hown' ⟨hgrow.os, hgrow.tape, hgrow.output, hgrow.size, hgrow.block⟩ haft; have HRR := Hd.mk R; clear hown' hgrow haft hb1 R)
            all_goals
              go_wp2
              go_roundg (gk - 1)
              case measure => omega
              case rel =>
                have h := HRR.out
                rw [HQ2.out] at h
                obtain ⟨r1, r2, r3⟩ := h
                refine ⟨i + 1, V2 + bt.toNat * 2 ^ b2, b2 + 1, by go_num, by omega, by omega, ⟨?_, by have := HE2.out.2; omega⟩, _, r1, HA2.out.trans r2 HF2.out.size, HF2.out.trans r3 (fun y hy hyG => ?_)⟩
                · rw [HE2.out.1, HE2.out.2, Hbt.out, low_bit, Nat.add_mul, Nat.mul_assoc, ← Nat.pow_add, Nat.add_comm b1 i, Nat.add_assoc]
                · rcases List.mem_cons.1 hyG with rfl | e
                  · simp
                  · rcases HA2.out.mem e with h | h
                    · exact List.mem_cons_of_mem _ h
                    · omega
          · obtain rfl : i = 8 := by omega
            clear hr2 ha2 hf2
            go_wp2
            go_roundg (gg - 1)
            case measure => omega
            case rel =>
              obtain ⟨e1, e2⟩ := HE2.out
              obtain ⟨e3, e4⟩ := HE.out
              refine ⟨j + 1, V2, b2, by go_num, by omega, by omega, by omega, ⟨?_, by omega⟩, q2, HR2.out, HA2.out, HF2.out⟩
              rw [e1, e3, Nat.mod_eq_of_lt (show x < 2 ^ 8 by omega), valB_take xs j (by omega), Hx.out, Int.toNat_natCast, Nat.add_mul, Nat.mul_assoc, ← Nat.pow_add, Nat.add_assoc, e4, Nat.add_comm (8 * j) b]
      · obtain rfl : j = n := by omega
        clear hf1
        go_wp2
        go_ret
        obtain ⟨e1, e2⟩ := HE.out
        subst e1 e2
        exact ⟨rfl, q1, HR1.out, HA1.out, HF1.out⟩
end
end Go.Proofs.Ytncjckhcellehaa.Bits
