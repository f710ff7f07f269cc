/- The writer's methods, and Flip: what each leaves behind. Conditions: fewer than 2^50 bits in all. -/
import Derived.Test.YtofajcifjmhomaaBitsLay
import Derived.WalkSpells
import Derived.Deep.RegionWith
set_option maxRecDepth 100000
set_option linter.unusedVariables false
set_option linter.unusedSimpArgs false
namespace Go.Proofs.Ytofajcifjmhomaa.Bits
open Go.RowKit Go.Proofs.Ytofajcifjmhomaa.Lib Go.Proofs.Ytofajcifjmhomaa.Num

/-! ### Flip -/
theorem flip_step {x j : Nat} (hx : x < 2 ^ 64) (hj : j < 64) :
    ((x / 2 ^ j : Nat) : Int) / 2 = ((x / 2 ^ (j + 1) : Nat) : Int) ∧ Go.bits .or .u64 (IntKind.u64.wrap ((rv x j : Nat) * 2 : Int)) (Go.bits .and .u64 ((x / 2 ^ j : Nat) : Int) 1) = ((rv x (j + 1) : Nat) : Int) := by
  have hr := rv_lt x j
  have hp := pow_lt_64 (n := j) hj
  have hq : x / 2 ^ j < 2 ^ 64 := Nat.lt_of_le_of_lt (Nat.div_le_self _ _) hx
  have e4 : rv x j * 2 < 2 ^ 64 := by
    have h := Nat.pow_le_pow_right (n := 2) (by decide) (show j + 1 ≤ 64 by omega)
    rw [Nat.pow_succ] at h; omega
  have e2 : IntKind.u64.wrap ((rv x j : Nat) * 2 : Int) = ((rv x j * 2 : Nat) : Int) := by
    rw [n64id (by omega) (by omega)]; omega
  refine ⟨by rw [Nat.pow_succ, ← Nat.div_div_eq_div_mul]; omega, ?_⟩
  rw [e2, n64and1 hq, n64or e4 (by omega)]
  rw [Nat.or_comm, show rv x j * 2 = rv x j * 2 ^ 1 from by simp, or_add (show x / 2 ^ j % 2 < 2 ^ 1 by simp; omega), rv]
  simp; omega

theorem flip_any (x : Nat) (a n : Int) (hn0 : 0 ≤ n) (hn : n ≤ 64) (w : World) (hx : x < 2 ^ 64) (ha : a = (x : Nat)) :
    Calls Try.prog 95 #[.int .u64 a, .int .i64 n] w fun e w' => e = .returned (.int .u64 (rv x n.toNat : Nat)) ∧ w = w' := by
  subst ha
  obtain ⟨n, rfl⟩ := Int.eq_ofNat_of_zero_le hn0
  have h1 : (if (n : Int) < 0 then (0 : Int) else n) = n := by omega
  have h2 : (if (64 : Int) < (n : Int) then (64 : Int) else n) = n := by split <;> omega
  have Hx := Hd.mk hx
  clear hx
  go_enter Try.func95, Try.ntmps95
  go_wp2
  go_loopg [0, 5, 9] n (fun kq av ov jv wr => ∃ y r j : Nat, av = .int .u64 (y : Nat) ∧ ov = .int .u64 (r : Nat) ∧ jv = .int .i64 (j : Nat) ∧ j + kq = n ∧ Hd (y = x / 2 ^ j ∧ r = rv x j) ∧ w = wr)
  case atStart => exact ⟨x, 0, 0, rfl, rfl, rfl, by omega, ⟨by simp, rfl⟩, rfl⟩
  case round =>
    obtain ⟨y, r, j, rfl, rfl, rfl, hj, HE, rfl⟩ := hrel
    by_cases hlt : j < n
    · go_wp2
      go_roundg (gk - 1)
      case measure => omega
      case rel =>
        have h := flip_step (x := x) (j := j) Hx.out (by omega)
        obtain ⟨hy, hr⟩ := HE.out
        rw [← hy, ← hr] at h
        refine ⟨x / 2 ^ (j + 1), rv x (j + 1), j + 1, ?_, ?_, by go_num, by omega, ⟨rfl, rfl⟩, rfl⟩
        · rw [h.1]
        · rw [h.2]
    · go_wp2
      go_ret
      obtain ⟨hy, hr⟩ := HE.out
      obtain rfl : j = n := by omega
      exact ⟨by rw [hr]; rfl, rfl⟩

/-! ### may -/
/-- why a number may not be laid down. -/
def mayN (v : Nat) (n : Int) : Int := if n < 0 ∨ 56 < n then 30 else if v / 2 ^ n.toNat = 0 then 0 else 31
theorem mayN_ok {v : Nat} {n : Int} (h0 : 0 ≤ n) (h1 : n ≤ 56) (h : v < 2 ^ n.toNat) : mayN v n = 0 := by
  unfold mayN; rw [if_neg (by omega), if_pos (Nat.div_eq_of_lt h)]
theorem mayN_zero {v : Nat} {n : Int} (h : mayN v n = 0) : 0 ≤ n ∧ n ≤ 56 ∧ v < 2 ^ n.toNat := by
  unfold mayN at h
  split at h
  · cases h
  · split at h
    · rename_i h1 h2
      rw [Nat.div_eq_zero_iff] at h2
      have := Nat.two_pow_pos n.toNat
      exact ⟨by omega, by omega, by omega⟩
    · cases h
theorem may_any (a n : Int) (v : Nat) (w : World) (ha : a = (v : Nat)) :
    Calls Try.prog 54 #[.int .u64 a, .int .i64 n] w fun e w' => e = .returned (.int .i64 (mayN v n)) ∧ w = w' := by
  subst ha
  by_cases h1 : n < 0
  · have hm : mayN v n = 30 := by unfold mayN; rw [if_pos (by omega)]
    have Hm := Hd.mk hm
    clear hm
    go_enter Try.func54, Try.ntmps54
    go_wp2
    go_ret
    exact ⟨by rw [Hm.out]; rfl, rfl⟩
  · by_cases h2 : 56 < n
    · have hm : mayN v n = 30 := by unfold mayN; rw [if_pos (by omega)]
      have Hm := Hd.mk hm
      clear hm
      go_enter Try.func54, Try.ntmps54
      go_wp2
      go_ret
      exact ⟨by rw [Hm.out]; rfl, rfl⟩
    · obtain ⟨n, rfl⟩ := Int.eq_ofNat_of_zero_le (show 0 ≤ n by omega)
      have hm : mayN v n = if v / 2 ^ n = 0 then 0 else 31 := by unfold mayN; rw [if_neg (by omega)]; rfl
      have Hm := Hd.mk hm
      clear hm
      by_cases h3 : v / 2 ^ n = 0
      · have h3' : ((v : Int) / 2 ^ n != 0) = false := by rw [div_cast, h3]; rfl
        go_enter Try.func54, Try.ntmps54
        go_wp2
        go_ret
        exact ⟨by rw [Hm.out, if_pos h3]; rfl, rfl⟩
      · have h3' : ((v : Int) / 2 ^ n != 0) = true := by rw [div_cast, bne_iff_ne]; omega
        go_enter Try.func54, Try.ntmps54
        go_wp2
        go_ret
        exact ⟨by rw [Hm.out, if_neg h3]; rfl, rfl⟩

/-! ### Put, Turned, Align, Len, Bytes, Whole -/
section
variable {g : Nat} {T : TypeId} {N m : Nat} {q : Option Nat}
theorem put_ok (a n : Int) (v : Nat) (w : World) (ha : a = (v : Nat)) (hm0 : mayN v n = 0) (hm : m + n.toNat ≤ 1125899906842624) (hT : Tl w g T N m q) :
    Calls Try.prog 30 #[.pointer (some ⟨g, 0, none⟩), .int .u64 a, .int .i64 n] w fun e w' => e = .returned (.int .i64 0) ∧
      ∃ q', Tl w' g T (N + v * 2 ^ m) (m + n.toNat) q' ∧ Aft w q q' ∧ Fr w w' (g :: q.toList) := by
  subst ha
  obtain ⟨h0, h1, h2⟩ := mayN_zero hm0
  obtain ⟨n, rfl⟩ := Int.eq_ofNat_of_zero_le h0
  simp only [Int.toNat_natCast] at h2 hm ⊢
  have Hm0 := Hd.mk hm0
  have HT := Hd.mk hT
  have H2 := Hd.mk h2
  clear hm0 hT h2
  go_enter Try.func30, Try.ntmps30
  go_wp2_with (first | (go_at_call 54; refine (may_any _ _ v _ rfl).mono ?_; rintro e w' ⟨rfl, rfl⟩; rw [Hm0.out]) | (go_at_call 55; refine (lay_any g T N m q v n _ H2.out (by omega) hm HT.out).mono ?_; rintro e w1 ⟨rfl, h⟩; have H := Hd.mk h; clear h))
  go_ret
  exact ⟨rfl, H.out⟩
theorem put_no (a n : Int) (v : Nat) (w : World) (ha : a = (v : Nat)) (hm0 : mayN v n ≠ 0) :
    Calls Try.prog 30 #[.pointer (some ⟨g, 0, none⟩), .int .u64 a, .int .i64 n] w fun e w' => e = .returned (.int .i64 (mayN v n)) ∧ w = w' := by
  subst ha
  obtain ⟨c, hc⟩ : ∃ c, c = mayN v n := ⟨_, rfl⟩
  have hc0 : (c == 0) = false := by rw [hc]; simpa using hm0
  have Hc := Hd.mk hc
  clear hc hm0
  go_enter Try.func30, Try.ntmps30
  go_wp2_with (first | (go_at_call 54; refine (may_any _ _ v _ rfl).mono ?_; rintro e w' ⟨rfl, rfl⟩; rw [← Hc.out]))
  go_ret
  exact ⟨by rw [← Hc.out]; rfl, rfl⟩
theorem turned_ok (a n : Int) (v : Nat) (w : World) (ha : a = (v : Nat)) (hm0 : mayN v n = 0) (hm : m + n.toNat ≤ 1125899906842624) (hT : Tl w g T N m q) :
    Calls Try.prog 74 #[.pointer (some ⟨g, 0, none⟩), .int .u64 a, .int .i64 n] w fun e w' => e = .returned (.int .i64 0) ∧
      ∃ q', Tl w' g T (N + rv v n.toNat * 2 ^ m) (m + n.toNat) q' ∧ Aft w q q' ∧ Fr w w' (g :: q.toList) := by
  subst ha
  obtain ⟨h0, h1, h2⟩ := mayN_zero hm0
  obtain ⟨n, rfl⟩ := Int.eq_ofNat_of_zero_le h0
  simp only [Int.toNat_natCast] at h2 hm ⊢
  have Hm0 := Hd.mk hm0
  have HT := Hd.mk hT
  have H2 := Hd.mk h2
  have H64 : Hd (v < 2 ^ 64) := ⟨Nat.lt_of_lt_of_le h2 (Nat.pow_le_pow_right (by decide) (by omega))⟩
  clear hm0 hT h2
  go_enter Try.func74, Try.ntmps74
  go_wp2_with (first | (go_at_call 54; refine (may_any _ _ v _ rfl).mono ?_; rintro e w' ⟨rfl, rfl⟩; rw [Hm0.out]))
  go_region_with (first | (go_at_call 95; refine (flip_any v _ _ (by omega) (by omega) _ H64.out rfl).mono ?_; rintro e w' ⟨rfl, rfl⟩; rw [Int.toNat_natCast]) | (go_at_call 55; refine (lay_any g T N m q (rv v n) n _ (rv_lt v n) (by omega) hm (by exact HT.out)).mono ?_; rintro e w1 ⟨rfl, h⟩; have H := Hd.mk h; clear h))
  all_goals
    go_wp2
    go_ret
    obtain ⟨q', h1, h2, h3⟩ := H.out
    exact ⟨rfl, q', h1, h2, h3.ofDrew⟩
theorem turned_no (a n : Int) (v : Nat) (w : World) (ha : a = (v : Nat)) (hm0 : mayN v n ≠ 0) :
    Calls Try.prog 74 #[.pointer (some ⟨g, 0, none⟩), .int .u64 a, .int .i64 n] w fun e w' => e = .returned (.int .i64 (mayN v n)) ∧ w = w' := by
  subst ha
  obtain ⟨c, hc⟩ : ∃ c, c = mayN v n := ⟨_, rfl⟩
  have hc0 : (c == 0) = false := by rw [hc]; simpa using hm0
  have Hc := Hd.mk hc
  clear hc hm0
  go_enter Try.func74, Try.ntmps74
  go_wp2_with (first | (go_at_call 54; refine (may_any _ _ v _ rfl).mono ?_; rintro e w' ⟨rfl, rfl⟩; rw [← Hc.out]))
  go_ret
  exact ⟨by rw [← Hc.out]; rfl, rfl⟩
theorem len_any (w : World) (hT : Tl w g T N m q) :
    Calls Try.prog 35 #[.pointer (some ⟨g, 0, none⟩)] w fun e w' => e = .returned (.int .i64 m) ∧ w = w' := by
  obtain ⟨sv, hb, _⟩ := hT
  have h1 := blk_cell hb 1
  simp only [List.getElem?_toArray, List.getElem?_cons_zero, List.getElem?_cons_succ] at h1
  clear hb
  go_enter Try.func35, Try.ntmps35
  go_wp2
  go_ret
  exact ⟨rfl, rfl⟩
/-- what Bytes hands back: a row of its own. -/
theorem bytes_any (w : World) (hm : m ≤ 1125899906842624) (hT : Tl w g T N m q) :
    Calls Try.prog 36 #[.pointer (some ⟨g, 0, none⟩)] w fun e w' => ∃ v, e = .returned v ∧
      w'.ownsRow 0 5 1 v ((m + 7) / 8) (u8s (bytesOf N m)) ∧ Aft w none v.ownBlock ∧ Fr w w' [] := by
  obtain ⟨i0, hi0, hz0, hz1, hz2⟩ := info_parts infoU8
  obtain ⟨sv, hb, hown, _⟩ := hT
  have h0 := blk_cell hb 0
  simp only [List.getElem?_toArray, List.getElem?_cons_zero, List.getElem?_cons_succ] at h0
  obtain ⟨A, c, rfl, hc, _, hA⟩ := own_slice hown
  have Hs := Hd.mk (sl_of_own hown)
  have hA' : A = none → (m + 7) / 8 = 0 ∧ c = 0 := by
    rintro rfl
    rcases hown.2 with ⟨h, hn⟩ | ⟨g, cap, cur, h, _⟩
    · injection h with _ _ h; exact ⟨hn, h⟩
    · cases h
  have HA := Hd.mk hA'
  have hl := hown.1
  clear hb hown hA hA'
  go_enter Try.func36, Try.ntmps36
  go_wp2_with (at_builtin; refine wpList_append_sl rfl _ _ 57 rfl 5 i0 (.int .u8 0) 1 1 Try.underlying57 hi0 hz0 hz1 hz2 rfl (by decide) (.slice none 0 0) 0 [] rfl (own_nil _ _ _ _) A ((m + 7) / 8) c _ _ rfl hl Hs.out HA.out ?c1 ?c2 ?c3 ?_)
  case c1 => intro u hu; simp only [u8s, List.mem_map] at hu; obtain ⟨_, _, rfl⟩ := hu; rfl
  case c2 => unfold maxLen; omega
  case c3 => omega
  intro A' c' w1 hown' hgrow haft
  have H1 := Hd.mk hown'
  have H2 := Hd.mk hgrow
  have H3 := Hd.mk haft
  clear hown' hgrow haft
  go_wp2
  go_ret
  exact ⟨_, rfl, by simpa using H1.out, H3.out, (Fr.refl w []).grown H2.out (fun k hk => by simp [Value.ownBlock] at hk)⟩
/-- behind Whole's stores -/
theorem whole_stored {w w1 : World} {sv v' : Value} {xs : List Int} (hb : w.heap[g]? = some (.cells #[sv, .int .i64 m] T (0, 0)))
    (hown : w.ownsRow 0 5 1 sv ((m + 7) / 8) (u8s (bytesOf N m))) (hN : N < 2 ^ m) (hT : T ≠ 5) (h8 : m % 8 = 0) (hx : ∀ x ∈ xs, 0 ≤ x ∧ x ≤ 255)
    (hown' : w1.ownsRow 0 5 1 v' ((m + 7) / 8 + xs.length) (u8s (bytesOf N m) ++ u8s xs)) (hg : w.grownBy w1 sv.ownBlock) (haft : Aft w sv.ownBlock v'.ownBlock) :
    Tl ((w1.setCell ⟨g, 0, none⟩ v').setCell ⟨g, 1, none⟩ (.int .i64 ((m + 8 * xs.length : Nat) : Int))) g T (N + valB xs * 2 ^ m) (m + 8 * xs.length) v'.ownBlock ∧
      Fr w ((w1.setCell ⟨g, 0, none⟩ v').setCell ⟨g, 1, none⟩ (.int .i64 ((m + 8 * xs.length : Nat) : Int))) (g :: sv.ownBlock.toList) := by
  have hb1 := blk_grown hg hb (own_ne hown hb hT).symm
  have hne := own_ne hown' hb1 hT
  have e : u8s (bytesOf N m) ++ u8s xs = u8s (bytesOf (N + valB xs * 2 ^ m) (m + 8 * xs.length)) := by
    rw [← bytes_app hN h8 hx]; simp [u8s]
  rw [e, show (m + 7) / 8 + xs.length = (m + 8 * xs.length + 7) / 8 from by omega] at hown'
  refine ⟨⟨v', by simpa using blk_set (blk_set hb1 0 v') 1 _, own_setFar (own_setFar hown' _ hne) _ hne, rfl, grow_lt hN (valB_lt hx), hT⟩, ?_⟩
  exact (((Fr.refl w _).grown hg (fun k hk => .inl (by simp [hk]))).setCell _ (.inl (by simp))).setCell _ (.inl (by simp))
end
end Go.Proofs.Ytofajcifjmhomaa.Bits
