/- What the statements of chapter 04 ask with: awake, may, used, fits, space, cost. Conditions: at most 2^43 counts. -/
import Derived.Test.YtomiammdfiddbaaLensP
set_option linter.unusedVariables false
set_option linter.unusedSimpArgs false
set_option maxRecDepth 100000
namespace Go.Proofs.Ytomiammdfiddbaa.Lens
open Go.RowKit Go.Proofs.Ytomiammdfiddbaa.Lib Go.Proofs.Ytomiammdfiddbaa.Ints Go.Proofs.Ytomiammdfiddbaa.Sorts Go.Proofs.Ytomiammdfiddbaa.Sort Go.Proofs.Ytomiammdfiddbaa.Pm Go.Proofs.Ytomiammdfiddbaa.Num

/-- the same, to be reckoned -/
def mgE : Nat → List T → List T → List T
  | 0, _, _ => []
  | k + 1, [], b => b
  | k + 1, a, [] => a
  | k + 1, x :: a, y :: b => if x.wt ≤ y.wt then x :: mgE k a (y :: b) else y :: mgE k (x :: a) b
theorem mgE_eq : ∀ (k : Nat) (a b : List T), a.length + b.length < k → mgE k a b = mg a b
  | k + 1, [], b, _ => by rw [mg_nil]; rfl
  | k + 1, x :: a, [], _ => by rw [mg_nil']; rfl
  | k + 1, x :: a, y :: b, h => by
    rw [mgE]
    simp only [List.length_cons] at h
    by_cases hxy : x.wt ≤ y.wt
    · rw [if_pos hxy, mg_le _ _ hxy, mgE_eq k a (y :: b) (by simp; omega)]
    · rw [if_neg hxy, mg_gt _ _ hxy, mgE_eq k (x :: a) b (by simp; omega)]
def rowE (L : List T) : Nat → List T
  | 0 => L
  | j + 1 => mgE (L.length + (pk (rowE L j)).length + 1) L (pk (rowE L j))
theorem rowE_eq (L : List T) : ∀ j, rowE L j = row L j
  | 0 => rfl
  | j + 1 => by rw [rowE, row, mgE_eq _ _ _ (by omega), rowE_eq L j]
def lenE (limit : Nat) (fs : List Int) (s : Nat) : Nat :=
  if (lvs fs).length = 1 then cl (lvs fs) s else cl ((rowE (lvs fs) (limit - 1)).take (2 * (lvs fs).length - 2)) s
theorem lenE_eq (limit : Nat) (fs : List Int) (s : Nat) : lenOf limit fs s = lenE limit fs s := by unfold lenOf lenE; rw [rowE_eq]
def lensE (limit : Int) (fs : List Int) : List Int × Int :=
  if limit < 1 ∨ 15 < limit then ([], 1) else if cn fs ≠ 0 then ([], cn fs) else if 2 ^ limit.toNat < (lvs fs).length then ([], 41) else ((List.range fs.length).map fun s => (lenE limit.toNat fs s : Int), 0)
theorem lensE_eq (limit : Int) (fs : List Int) : lensN limit fs = lensE limit fs := by unfold lensN lensE; simp only [lenE_eq]
theorem awake_lens : lensN 3 [1, 1, 2, 4] = ([3, 3, 2, 1], 0) := by rw [lensE_eq]; decide +kernel
set_option maxHeartbeats 1000000 in
theorem awake_any (w : World) : Calls Try.prog 20 #[] w fun e w' => e = .returned (.bool true) ∧ Fr w w' [] := by
  go_enter Try.func20, Try.ntmps20
  go_wp2_with (fail)
  have S1 := Hd.mk (sl_of_blk (blk_new w (.cells #[.int .i64 1, .int .i64 1, .int .i64 2, .int .i64 4] 3)))
  have A1 := Hd.mk ((Fr.refl w []).alloc (.cells #[.int .i64 1, .int .i64 1, .int .i64 2, .int .i64 4] 3))
  refine (lengths_any _ 3 (some ⟨w.heap.size, 0, none⟩) 4 4 [1, 1, 2, 4] (some w.heap.size) rfl S1.out (by decide)).mono ?_
  rintro e w1 ⟨A, n, c, rfl, h1, h2, h3⟩
  rw [awake_lens] at h1 ⊢
  have hn : n = 4 := by have := h1.1; simp [i64s] at this; omega
  subst hn
  have O1 := Hd.mk h1
  have F1 := Hd.mk (A1.out.trans h3 (by simp))
  clear h1 h2 h3 S1 A1
  go_wp2_with (fail)
  refine (same_any _ A (some ⟨w1.heap.size, 0, none⟩) 4 4 c 4 [3, 3, 2, 1] [3, 3, 2, 1] _ (some w1.heap.size) rfl rfl (by exact sl_of_own (O1.out.alloc _)) (by exact sl_of_blk (blk_new _ _)) (by omega) (by omega)).mono ?_
  rintro e w2 ⟨rfl, h2⟩
  rw [decide_eq_true rfl]
  have F2 := Hd.mk ((F1.out.alloc (.cells #[.int .i64 3, .int .i64 3, .int .i64 2, .int .i64 1] 3)).trans h2 (by simp))
  clear h2
  go_wp2
  go_ret
  exact ⟨rfl, F2.out⟩
theorem may_any (w : World) (A : Option Addr) (n c : Nat) (xs : List Int) (p : Option Nat) (hn : xs.length = n) (hS : Sl w A (i64s xs) p) (hn1 : n ≤ 4611686018427387904) :
    Calls Try.prog 36 #[.slice A n c] w fun e w' => e = .returned (.bool (decide (cn xs = 0))) ∧ w = w' := by
  subst hn
  have HS := Hd.mk hS
  clear hS
  by_cases hbig : 288 < xs.length
  · have hc : Hd (decide (cn xs = 0) = false) := ⟨decide_eq_false (by unfold cn; rw [if_pos hbig]; decide)⟩
    go_enter Try.func36, Try.ntmps36
    go_wp2
    go_ret
    rw [hc.out]
    exact ⟨rfl, rfl⟩
  · go_enter Try.func36, Try.ntmps36
    go_wp2
    go_loopg [3] xs.length (fun kq jv wr => ∃ j : Nat, jv = .int .i64 (j : Nat) ∧ j + kq = xs.length ∧ wr = w ∧ Hd (∀ i, i < j → (h : i < xs.length) → 0 ≤ xs[i] ∧ xs[i] ≤ 1099511627776))
    case atStart => exact ⟨0, rfl, by omega, rfl, ⟨fun i h => absurd h (Nat.not_lt_zero _)⟩⟩
    case round =>
      obtain ⟨j, rfl, hj, rfl, HA⟩ := hrel
      by_cases h1 : j < xs.length
      · obtain ⟨a, o1, rfl, _, ha⟩ := HS.out (by simp [i64s]; omega)
        obtain ⟨x, hx⟩ : ∃ x, x = xs[j] := ⟨_, rfl⟩
        have ca := (ha j (by simp [i64s]; omega)).trans (by rw [i64s_get, List.getElem?_eq_getElem (by omega), ← hx])
        have HX := Hd.mk hx
        clear ha hx
        by_cases h2 : x < 0
        · have hc : Hd (decide (cn xs = 0) = false) := ⟨decide_eq_false (by unfold cn; rw [if_neg hbig, if_pos (out_true h1 (by rw [← HX.out]; exact .inl h2))]; decide)⟩
          go_wp2
          go_ret
          rw [hc.out]
          exact ⟨rfl, rfl⟩
        · by_cases h3 : 1099511627776 < x
          · have hc : Hd (decide (cn xs = 0) = false) := ⟨decide_eq_false (by unfold cn; rw [if_neg hbig, if_pos (out_true h1 (by rw [← HX.out]; exact .inr h3))]; decide)⟩
            go_wp2
            go_ret
            rw [hc.out]
            exact ⟨rfl, rfl⟩
          · go_wp2
            go_roundg (gk - 1)
            case measure => omega
            case rel => exact ⟨j + 1, by go_num, by omega, rfl, ⟨fun i hi h => by
              by_cases e : i = j
              · subst e; rw [← HX.out]; omega
              · exact HA.out i (by omega) h⟩⟩
      · go_wp2
        go_ret
        have hc : decide (cn xs = 0) = true := decide_eq_true (by unfold cn; rw [if_neg hbig, out_false (fun i hi => HA.out i (by omega) hi)]; rfl)
        rw [hc]
        exact ⟨rfl, rfl⟩
theorem used_any (w : World) (A : Option Addr) (n c : Nat) (xs : List Int) (p : Option Nat) (hn : xs.length = n) (hS : Sl w A (i64s xs) p) (hn1 : n ≤ 4611686018427387904) :
    Calls Try.prog 23 #[.slice A n c] w fun e w' => e = .returned (.int .i64 ((lvs xs).length : Nat)) ∧ w = w' := by
  subst hn
  have HS := Hd.mk hS
  clear hS
  go_enter Try.func23, Try.ntmps23
  go_wp2
  go_loopg [3, 4] xs.length (fun kq nv jv wr => ∃ j m : Nat, nv = .int .i64 (m : Nat) ∧ jv = .int .i64 (j : Nat) ∧ j + kq = xs.length ∧ m ≤ j ∧ wr = w ∧ Hd (m = (lv (xs.take j) 0).length))
  case atStart => exact ⟨0, 0, rfl, rfl, by omega, by omega, rfl, ⟨by simp [lv]⟩⟩
  case round =>
    obtain ⟨j, m, rfl, rfl, hj, hm, rfl, HM⟩ := hrel
    by_cases h1 : j < xs.length
    · obtain ⟨a, o1, rfl, _, ha⟩ := HS.out (by simp [i64s]; omega)
      obtain ⟨x, hx⟩ : ∃ x, x = xs[j] := ⟨_, rfl⟩
      have ca := (ha j (by simp [i64s]; omega)).trans (by rw [i64s_get, List.getElem?_eq_getElem (by omega), ← hx])
      have hsn := lv_snoc h1
      rw [← hx] at hsn
      have HSN := Hd.mk hsn
      clear ha hx hsn
      by_cases h2 : 0 < x
      · go_wp2
        go_roundg (gk - 1)
        case measure => omega
        case rel => exact ⟨j + 1, m + 1, by go_num, by go_num, by omega, by omega, rfl, ⟨by rw [HSN.out, if_pos h2, List.length_append, ← HM.out]; rfl⟩⟩
      · go_wp2
        go_roundg (gk - 1)
        case measure => omega
        case rel => exact ⟨j + 1, m, rfl, by go_num, by omega, by omega, rfl, ⟨by rw [HSN.out, if_neg (by omega), List.append_nil, ← HM.out]⟩⟩
    · go_wp2
      go_ret
      have e := HM.out
      rw [List.take_of_length_le (by omega), ← used_len] at e
      subst e
      exact ⟨rfl, rfl⟩
def fitB (limit : Int) (fs : List Int) : Bool := decide (1 ≤ limit ∧ limit ≤ 15 ∧ cn fs = 0 ∧ (lvs fs).length ≤ 2 ^ limit.toNat)
theorem fits_any (w : World) (limit : Int) (A : Option Addr) (n c : Nat) (xs : List Int) (p : Option Nat) (hn : xs.length = n) (hS : Sl w A (i64s xs) p) (hn1 : n ≤ 4611686018427387904) :
    Calls Try.prog 21 #[.int .i64 limit, .slice A n c] w fun e w' => e = .returned (.bool (fitB limit xs)) ∧ w = w' := by
  have HS := Hd.mk hS
  have HN := Hd.mk hn
  clear hS hn
  by_cases h1 : 1 ≤ limit
  · by_cases h2 : limit ≤ 15
    · obtain ⟨l, hl⟩ : ∃ l : Nat, l = limit.toNat := ⟨_, rfl⟩
      obtain rfl : limit = (l : Int) := by omega
      clear hl
      by_cases hc : cn xs = 0
      · have hpl : 2 ^ l ≤ 32768 := Nat.pow_le_pow_right (n := 2) (by decide) (show l ≤ 15 by omega)
        have hpw : (2 : Int) ^ l = ((2 ^ l : Nat) : Int) := (pow_cast l).symm
        obtain ⟨P, hP⟩ : ∃ P, P = 2 ^ l := ⟨_, rfl⟩
        rw [← hP] at hpl hpw
        have hpw2 : wrap64 ((2 : Int) ^ l) = (P : Int) := by rw [hpw]; exact wrap64_id (by omega) (by omega)
        have hcd : Hd (decide (cn xs = 0) = true) := ⟨decide_eq_true hc⟩
        obtain ⟨m, hm⟩ : ∃ m, m = (lvs xs).length := ⟨_, rfl⟩
        have HM := Hd.mk hm
        have HP := Hd.mk hP
        have HPW := Hd.mk hpw2
        have hr : Hd (fitB (l : Int) xs = decide (m ≤ P)) := ⟨by
          unfold fitB
          rw [Int.toNat_natCast, ← hP, ← hm]
          simp only [h1, h2, hc, true_and]⟩
        clear hpw hpw2 hP hm hc
        by_cases hle : m ≤ P
        · have hd : decide ((m : Int) ≤ wrap64 ((2 : Int) ^ l)) = true := by rw [HPW.out]; exact decide_eq_true (by omega)
          have hr2 : Hd (fitB (l : Int) xs = true) := ⟨by rw [hr.out, decide_eq_true hle]⟩
          go_enter Try.func21, Try.ntmps21
          go_wp2_with (fail)
          refine (may_any w A n c xs p HN.out HS.out hn1).mono ?_
          rintro e w' ⟨rfl, rfl⟩
          rw [hcd.out]
          go_wp2_with (fail)
          refine (used_any w A n c xs p HN.out HS.out hn1).mono ?_
          rintro e w' ⟨rfl, rfl⟩
          rw [← HM.out]
          go_wp2
          go_ret
          rw [hr2.out]
          exact ⟨rfl, rfl⟩
        · have hd : decide ((m : Int) ≤ wrap64 ((2 : Int) ^ l)) = false := by rw [HPW.out]; exact decide_eq_false (by omega)
          have hr2 : Hd (fitB (l : Int) xs = false) := ⟨by rw [hr.out, decide_eq_false hle]⟩
          go_enter Try.func21, Try.ntmps21
          go_wp2_with (fail)
          refine (may_any w A n c xs p HN.out HS.out hn1).mono ?_
          rintro e w' ⟨rfl, rfl⟩
          rw [hcd.out]
          go_wp2_with (fail)
          refine (used_any w A n c xs p HN.out HS.out hn1).mono ?_
          rintro e w' ⟨rfl, rfl⟩
          rw [← HM.out]
          go_wp2
          go_ret
          rw [hr2.out]
          exact ⟨rfl, rfl⟩
      · have hcd : Hd (decide (cn xs = 0) = false) := ⟨decide_eq_false hc⟩
        have hr2 : Hd (fitB (l : Int) xs = false) := ⟨by unfold fitB; exact decide_eq_false (fun h => hc h.2.2.1)⟩
        clear hc
        go_enter Try.func21, Try.ntmps21
        go_wp2_with (fail)
        refine (may_any w A n c xs p HN.out HS.out hn1).mono ?_
        rintro e w' ⟨rfl, rfl⟩
        rw [hcd.out]
        go_wp2
        go_ret
        rw [hr2.out]
        exact ⟨rfl, rfl⟩
    · have hr2 : Hd (fitB limit xs = false) := ⟨by unfold fitB; exact decide_eq_false (fun h => h2 h.2.1)⟩
      go_enter Try.func21, Try.ntmps21
      go_wp2
      go_ret
      rw [hr2.out]
      exact ⟨rfl, rfl⟩
  · have hr2 : Hd (fitB limit xs = false) := ⟨by unfold fitB; exact decide_eq_false (fun h => h1 h.1)⟩
    go_enter Try.func21, Try.ntmps21
    go_wp2
    go_ret
    rw [hr2.out]
    exact ⟨rfl, rfl⟩
end Go.Proofs.Ytomiammdfiddbaa.Lens
