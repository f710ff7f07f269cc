/- The reader's methods: what each answers and leaves behind. Conditions: fewer than 2^60 bits in all. -/
import Derived.Test.YtofajcifjmhomaaBitsW
set_option maxRecDepth 100000
set_option linter.unusedVariables false
set_option linter.unusedSimpArgs false
namespace Go.Proofs.Ytofajcifjmhomaa.Bits
open Go.RowKit Go.Proofs.Ytofajcifjmhomaa.Lib Go.Proofs.Ytofajcifjmhomaa.Num

/-- A reader in block g holds the h bits of V; t are gone. -/
def Rd (w : World) (g : Nat) (V h t : Nat) : Prop :=
  w.heap[g]? = some (.cells #[.int .u64 V, .int .i64 h, .int .i64 t] 55 (0, 0)) ∧ V < 2 ^ h ∧ h ≤ 64
theorem Rd.frame {w w' : World} {g V h t : Nat} (hr : Rd w g V h t) {F : List Nat} (hf : Fr w w' F) (hg : g ∉ F) : Rd w' g V h t := ⟨hf.blk hr.1 hg, hr.2⟩
theorem Rd.lt {w : World} {g V h t : Nat} (hr : Rd w g V h t) : g < w.heap.size := blk_lt hr.1
theorem rd_cells {w : World} {g V h t : Nat} (hr : Rd w g V h t) : w.cell? ⟨g, 0, none⟩ = some (.int .u64 V) ∧ w.cell? ⟨g, 1, none⟩ = some (.int .i64 h) ∧ w.cell? ⟨g, 2, none⟩ = some (.int .i64 t) :=
  ⟨blk_cell hr.1 0, blk_cell hr.1 1, blk_cell hr.1 2⟩
theorem rd_free {w : World} {g V h t : Nat} (hr : Rd w g V h t) : w.frozen? ⟨g, 0, none⟩ = false ∧ w.frozen? ⟨g, 1, none⟩ = false ∧ w.frozen? ⟨g, 2, none⟩ = false :=
  ⟨blk_frozen hr.1 0, blk_frozen hr.1 1, blk_frozen hr.1 2⟩
section
variable {g V b t : Nat}
theorem has_any (w : World) (hr : Rd w g V b t) :
    Calls Try.prog 104 #[.pointer (some ⟨g, 0, none⟩)] w fun e w' => e = .returned (.int .i64 b) ∧ w = w' := by
  obtain ⟨c0, c1, c2⟩ := rd_cells hr
  clear hr
  go_enter Try.func104, Try.ntmps104
  go_wp2
  go_ret
  exact ⟨rfl, rfl⟩
theorem taken_any (w : World) (hr : Rd w g V b t) :
    Calls Try.prog 26 #[.pointer (some ⟨g, 0, none⟩)] w fun e w' => e = .returned (.int .i64 t) ∧ w = w' := by
  obtain ⟨c0, c1, c2⟩ := rd_cells hr
  clear hr
  go_enter Try.func26, Try.ntmps26
  go_wp2
  go_ret
  exact ⟨rfl, rfl⟩
theorem space_any (w : World) (hr : Rd w g V b t) :
    Calls Try.prog 39 #[.pointer (some ⟨g, 0, none⟩)] w fun e w' => e = .returned (.int .i64 (((64 - b) / 8 : Nat) : Int)) ∧ w = w' := by
  obtain ⟨c0, c1, c2⟩ := rd_cells hr
  have h64 : b ≤ 64 := hr.2.2
  clear hr
  go_enter Try.func39, Try.ntmps39
  go_wp2
  go_ret
  have e : ((64 : Int) - b) / 8 = (((64 - b) / 8 : Nat) : Int) := by omega
  exact ⟨by rw [← e]; rfl, rfl⟩
theorem peek_ok (w : World) (n : Int) (h0 : 0 ≤ n) (h1 : n ≤ 56) (h2 : n ≤ b) (hr : Rd w g V b t) :
    Calls Try.prog 84 #[.pointer (some ⟨g, 0, none⟩), .int .i64 n] w fun e w' => e = .returned (.tuple #[.int .u64 ((V % 2 ^ n.toNat : Nat) : Int), .bool true]) ∧ w.drew = w' := by
  obtain ⟨n, rfl⟩ := Int.eq_ofNat_of_zero_le h0
  obtain ⟨c0, c1, c2⟩ := rd_cells hr
  have hV : V < 2 ^ 64 := Nat.lt_of_lt_of_le hr.2.1 (Nat.pow_le_pow_right (by decide) hr.2.2)
  have hm := n64mask (n := n) hV (by omega)
  have hp := pow_lt_64 (n := n) (by omega)
  have hp0 := Nat.two_pow_pos n
  have e1 : IntKind.u64.wrap (IntKind.u64.wrap (2 ^ n) - 1) = ((2 ^ n - 1 : Nat) : Int) := by
    rw [← pow_cast, n64id (n := ((2 ^ n : Nat) : Int)) (by omega) (by omega), show ((2 ^ n : Nat) : Int) - 1 = ((2 ^ n - 1 : Nat) : Int) from by omega]
    exact n64id (by omega) (by omega)
  rw [← e1] at hm
  have Hm := Hd.mk hm
  clear hr hV hm hp hp0 e1
  go_enter Try.func84, Try.ntmps84
  go_wp2
  go_region
  go_wp2
  go_ret2
  exact ⟨by rw [Int.toNat_natCast, ← Hm.out]; rfl, rfl⟩
theorem peek_no (w : World) (n : Int) (hn : n < 0 ∨ 56 < n ∨ b < n) (hr : Rd w g V b t) :
    Calls Try.prog 84 #[.pointer (some ⟨g, 0, none⟩), .int .i64 n] w fun e w' => e = .returned (.tuple #[.int .u64 0, .bool false]) ∧ w = w' := by
  obtain ⟨c0, c1, c2⟩ := rd_cells hr
  clear hr
  by_cases h1 : n < 0
  · clear hn
    go_enter Try.func84, Try.ntmps84
    go_wp2
    go_ret2
    exact ⟨rfl, rfl⟩
  · by_cases h2 : 56 < n
    · clear hn
      go_enter Try.func84, Try.ntmps84
      go_wp2
      go_ret2
      exact ⟨rfl, rfl⟩
    · have h3 : (b : Int) < n := by omega
      clear hn
      go_enter Try.func84, Try.ntmps84
      go_wp2
      go_ret2
      exact ⟨rfl, rfl⟩
theorem take_ok (w : World) (n : Int) (h0 : 0 ≤ n) (h1 : n ≤ 56) (h2 : n ≤ b) (ht : t ≤ 1152921504606846976) (hr : Rd w g V b t) :
    Calls Try.prog 66 #[.pointer (some ⟨g, 0, none⟩), .int .i64 n] w fun e w' => e = .returned (.tuple #[.int .u64 ((V % 2 ^ n.toNat : Nat) : Int), .bool true]) ∧
      Rd w' g (V / 2 ^ n.toNat) (b - n.toNat) (t + n.toNat) ∧ Fr w w' [g] := by
  obtain ⟨n, rfl⟩ := Int.eq_ofNat_of_zero_le h0
  obtain ⟨c0, c1, c2⟩ := rd_cells hr
  obtain ⟨f0, f1, f2⟩ := rd_free hr
  have h64 := hr.2.2
  have HR := Hd.mk hr
  clear hr
  go_enter Try.func66, Try.ntmps66
  go_wp2_with (go_at_call 84; refine (peek_ok w (n : Int) h0 h1 h2 HR.out).mono ?_; rintro e w' ⟨rfl, rfl⟩)
  go_ret2
  simp only [Int.toNat_natCast]
  have hr := HR.out
  have hb0 := hr.1
  refine ⟨rfl, ⟨?_, ?_, by omega⟩, ?_⟩
  · have e1 : ((V / 2 ^ n : Nat) : Int) = (V : Int) / 2 ^ n := by simp
    have e2 : ((b - n : Nat) : Int) = (b : Int) - n := by omega
    rw [e1, e2, Int.natCast_add, drew_heap]
    simpa using blk_set (blk_set (blk_set hb0 0 (.int .u64 ((V : Int) / 2 ^ n))) 1 (.int .i64 ((b : Int) - n))) 2 (.int .i64 ((t : Int) + n))
  · have := hr.2.1
    rw [Nat.div_lt_iff_lt_mul (Nat.two_pow_pos _), ← Nat.pow_add, Nat.sub_add_cancel (by omega)]
    exact this
  · exact ((((Fr.refl w [g]).setCell _ (.inl (by simp))).setCell _ (.inl (by simp))).setCell _ (.inl (by simp))).drew
theorem take_no (w : World) (n : Int) (hn : n < 0 ∨ 56 < n ∨ b < n) (hr : Rd w g V b t) :
    Calls Try.prog 66 #[.pointer (some ⟨g, 0, none⟩), .int .i64 n] w fun e w' => e = .returned (.tuple #[.int .u64 0, .bool false]) ∧ w = w' := by
  have HR := Hd.mk hr
  have HN := Hd.mk hn
  clear hr hn
  go_enter Try.func66, Try.ntmps66
  go_wp2_with (go_at_call 84; refine (peek_no w n HN.out HR.out).mono ?_; rintro e w' ⟨rfl, rfl⟩)
  go_ret2
  exact ⟨rfl, rfl⟩
/-- Feed: as many of the bytes as there is room for. -/
theorem feed_any (w : World) (A : Option Addr) (l c : Nat) (xs : List Int) (qx : Option Nat) (hlen : xs.length = l) (hx : ∀ x ∈ xs, 0 ≤ x ∧ x ≤ 255) (hS : Sl w A (u8s xs) qx) (hl : xs.length ≤ c) (hlm : xs.length ≤ 4611686018427387904)
    (hq : qx ≠ some g) (n : Nat) (hn : n = min ((64 - b) / 8) xs.length) (hr : Rd w g V b t) :
    Calls Try.prog 21 #[.pointer (some ⟨g, 0, none⟩), .slice A l c] w fun e w' => e = .returned (.int .i64 n) ∧
      Rd w' g (V + valB (xs.take n) * 2 ^ b) (b + 8 * n) t ∧ Fr w w' [g] := by
  subst hlen
  have h64 := hr.2.2
  have HR := Hd.mk hr
  have HS := Hd.mk hS
  have HX := Hd.mk hx
  obtain ⟨s, hs⟩ : ∃ s, s = (64 - b) / 8 := ⟨_, rfl⟩
  have hmin : (if xs.length < s then (xs.length : Int) else (s : Int)) = (n : Int) := by split <;> omega
  have hn1 : n ≤ xs.length := by omega
  have hn2 : b + 8 * n ≤ 64 := by omega
  have Hs := Hd.mk hs
  clear hr hn hS hx hs
  go_enter Try.func21, Try.ntmps21
  go_wp2_with (go_at_call 39; refine (space_any _ HR.out).mono ?_; rintro e w' ⟨rfl, rfl⟩; rw [← Hs.out])
  go_loopg [17] n (fun kq jv wr => ∃ (j V1 b1 : Nat), jv = .int .i64 (j : Nat) ∧ j + kq = n ∧ b1 ≤ 64 ∧ b1 + 8 * kq ≤ 64 ∧ Hd (V1 = V + valB (xs.take j) * 2 ^ b ∧ b1 = b + 8 * j) ∧ Rd wr g V1 b1 t ∧ Fr w wr [g])
  case atStart => exact ⟨0, V, b, rfl, by omega, by omega, by omega, ⟨by simp [valB], rfl⟩, HR.out, Fr.refl _ _⟩
  case round =>
    obtain ⟨j, V1, b1, rfl, hj, hb1, hb2, HE, hr1, hF⟩ := hrel
    have HR1 := Hd.mk hr1
    have HF := Hd.mk hF
    obtain ⟨c0, c1, c2⟩ := rd_cells hr1
    obtain ⟨f0, f1, f2⟩ := rd_free hr1
    by_cases hlt : j < n
    · obtain ⟨p, off, rfl, hp, hcell⟩ := (HS.out.frame hF (by intro k hk; simp; rintro rfl; exact hq hk)) (by simp [u8s]; omega)
      have hxj := HX.out (xs[j]'(by omega)) (List.getElem_mem _)
      obtain ⟨x, hx⟩ : ∃ x : Nat, xs[j]'(by omega) = (x : Int) := Int.eq_ofNat_of_zero_le hxj.1
      have hcj := (hcell j (by simp [u8s]; omega)).trans (by rw [u8s_get, List.getElem?_eq_getElem (by omega), hx])
      have hx255 : (x : Int) ≤ 255 := by omega
      have Hx := Hd.mk hx
      clear hr1 hF hcell hx hxj
      go_wp2
      go_region
      go_wp2
      go_roundg (gk - 1)
      case measure => omega
      case rel =>
        have hr := HR1.out
        obtain ⟨e1, e2⟩ := HE.out
        rw [bits_or hr.2.1 (by omega) (by omega)]
        refine ⟨j + 1, V1 + x * 2 ^ b1, b1 + 8, by go_num, by omega, by omega, by omega, ⟨?_, by omega⟩, ⟨?_, ?_, by omega⟩, ?_⟩
        · rw [valB_take xs j (by omega), Hx.out, Int.toNat_natCast, Nat.add_mul, ← Nat.add_assoc, ← e1, e2, Nat.pow_add, Nat.mul_assoc, Nat.mul_comm (2 ^ b)]
        · rw [drew_heap, show ((b1 + 8 : Nat) : Int) = (b1 : Int) + 8 from by omega]
          simpa using blk_set (blk_set hr.1 0 (.int .u64 ((V1 + x * 2 ^ b1 : Nat) : Int))) 1 (.int .i64 ((b1 : Int) + 8))
        · exact grow_lt hr.2.1 (by omega)
        · exact ((HF.out.setCell _ (.inl (by simp))).setCell _ (.inl (by simp))).drew
    · clear hr1 hF
      go_wp2
      go_ret
      obtain rfl : j = n := by omega
      obtain ⟨rfl, rfl⟩ := HE.out
      exact ⟨rfl, HR1.out, HF.out⟩
end
end Go.Proofs.Ytofajcifjmhomaa.Bits
