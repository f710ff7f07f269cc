/- HeadBack: the lengths of the runs of lengths are these; its walk. Conditions: none but what memory bounds. -/
import Derived.Test.YtofajcifjmhomaaHeadLaw2
import Derived.Test.YtofajcifjmhomaaHeadLaw1
set_option linter.unusedVariables false
set_option linter.unusedSimpArgs false
set_option maxRecDepth 100000
namespace Go.Proofs.Ytofajcifjmhomaa.Head
open Go.RowKit Go.Proofs.Ytofajcifjmhomaa.Lib Go.Proofs.Ytofajcifjmhomaa.Ints Go.Proofs.Ytofajcifjmhomaa.Runs

theorem lens_one {s : Int} {rest : List (Int × Int)} {out : List Int} {k : Nat} {v : Int} (hv : runVal out s = v) (h : okRun out s (k : Int)) : lensF ((s, (k : Int)) :: rest) out = lensF rest (out ++ List.replicate k v) := by
  rw [lensF_cons, if_pos h, hv]
  rfl
theorem ok_kind {out : List Int} {k : Nat} (L M : Nat) (s : Int) (hL : leastN s = (L : Int)) (hM : mostN s = (M : Int)) (h0 : 0 ≤ s) (h1 : s ≤ 18) (h2 : L ≤ k) (h3 : k ≤ M) (h4 : s = 16 → out.length ≠ 0) (h5 : out.length + k ≤ 320) : okRun out s (k : Int) :=
  ⟨h0, h1, by omega, by omega, fun h => h4 h.1 h.2, by omega⟩
theorem lens_sixes (v : Int) (rest : List (Int × Int)) : ∀ (f k : Nat) (o : List Int), o.length + 1 + sixed f k ≤ 320 → lensF (sixes f k ++ rest) (o ++ [v]) = lensF rest (o ++ [v] ++ List.replicate (sixed f k) v)
  | 0, k, o, h => by simp [sixes, sixed]
  | f + 1, k, o, h => by
    simp only [sixes, sixed] at h ⊢
    by_cases hk : k < 3
    · rw [if_pos hk, if_pos hk]; simp
    · rw [if_neg hk, if_neg hk]
      rw [if_neg hk] at h
      rw [List.cons_append, lens_one (k := min k 6) (v := v) (by unfold runVal; rw [if_pos rfl, List.getD_eq_getElem?_getD]; simp) (ok_kind 3 6 16 (by decide) (by decide) (by decide) (by decide) (by omega) (by omega) (fun _ h => by simp at h) (by simp only [List.length_append, List.length_singleton]; omega))]
      have e : o ++ [v] ++ List.replicate (min k 6) v = (o ++ List.replicate (min k 6) v) ++ [v] := by
        rw [List.append_assoc, List.append_assoc, ← List.replicate_succ', List.replicate_succ]
        rfl
      rw [e, lens_sixes v rest f (k - min k 6) _ (by simp only [List.length_append, List.length_replicate]; omega), ← e, List.append_assoc _ (List.replicate _ v), List.replicate_append_replicate]
theorem lens_row {v : Int} {k : Nat} (rest : List (Int × Int)) (out : List Int) (hk : 1 ≤ k) (h0 : 0 ≤ v) (h1 : v ≤ 15) (h : out.length + rowLen v k ≤ 320) :
    lensF (rowOf v k ++ rest) out = lensF rest (out ++ List.replicate (rowLen v k) v) := by
  unfold rowOf
  unfold rowLen at h ⊢
  by_cases hv : v = 0
  · subst hv
    rw [if_pos rfl] at h ⊢
    rw [if_pos rfl]
    by_cases h11 : 11 ≤ k
    · rw [if_pos h11] at h ⊢
      rw [if_pos h11, List.singleton_append, lens_one (k := min k 138) (v := 0) rfl (ok_kind 11 138 18 (by decide) (by decide) (by decide) (by decide) (by omega) (by omega) (fun h => by omega) (by omega))]
    · rw [if_neg h11] at h ⊢
      rw [if_neg h11]
      by_cases h3 : 3 ≤ k
      · rw [if_pos h3] at h ⊢
        rw [if_pos h3, List.singleton_append, lens_one (k := k) (v := 0) rfl (ok_kind 3 10 17 (by decide) (by decide) (by decide) (by decide) (by omega) (by omega) (fun h => by omega) (by omega))]
      · rw [if_neg h3] at h ⊢
        rw [if_neg h3, List.singleton_append, show ((0 : Int), (1 : Int)) = (0, ((1 : Nat) : Int)) from rfl, lens_one (k := 1) (v := 0) rfl (ok_kind 1 1 0 (by decide) (by decide) (by decide) (by decide) (by omega) (by omega) (fun h => by omega) (by omega))]
  · rw [if_neg hv] at h ⊢
    rw [if_neg hv, List.cons_append, show (v, (1 : Int)) = (v, ((1 : Nat) : Int)) from rfl, lens_one (k := 1) (v := v) (by unfold runVal; rw [if_neg (by omega), if_neg (by omega)]) (ok_kind 1 1 v (by unfold leastN; rw [if_pos (by omega)]; rfl) (by unfold mostN; rw [if_pos (by omega)]; rfl) h0 (by omega) (by omega) (by omega) (fun h => by omega) (by omega))]
    rw [show List.replicate 1 v = [v] from rfl, lens_sixes v rest _ _ out (by omega), List.append_assoc, ← List.replicate_append_replicate]
    rfl
theorem lead_take (v : Int) (t : List Int) : ∀ (n : Nat), n ≤ lead v t → t.take n = List.replicate n v := by
  induction t with
  | nil => intro n h; simp only [lead] at h; obtain rfl : n = 0 := by omega
           rfl
  | cons x t ih =>
    intro n h
    cases n with
    | zero => rfl
    | succ n =>
      simp only [lead] at h
      split at h
      · rename_i e
        rw [List.take_succ_cons, ih n (by omega), e]
        rfl
      · omega
theorem lens_runs : ∀ (n : Nat) (xs out : List Int), xs.length ≤ n → (∀ x ∈ xs, 0 ≤ x ∧ x ≤ 15) → out.length + xs.length ≤ 320 → lensF (runs xs) out = some (out ++ xs)
  | 0, xs, out, hn, _, _ => by
    have : xs = [] := List.eq_nil_of_length_eq_zero (by omega)
    subst this
    rw [runs_nil, List.append_nil]; rfl
  | n + 1, [], out, _, _, _ => by rw [runs_nil, List.append_nil]; rfl
  | n + 1, v :: t, out, hn, hx, hl => by
    have h1 := rowLen_pos v (lead v t + 1)
    have h3 := rowLen_le v (k := lead v t + 1) (by omega)
    have h4 := lead_le v t
    have hv := hx v (by simp)
    simp only [List.length_cons] at hn hl
    rw [runs_cons, lens_row _ out (by omega) hv.1 hv.2 (by omega), lens_runs n _ _ (by simp only [List.length_drop, List.length_cons]; omega) (fun x h => hx x (List.mem_of_mem_drop h)) (by simp only [List.length_append, List.length_replicate, List.length_drop, List.length_cons]; omega), List.append_assoc]
    congr 2
    obtain ⟨m, hm⟩ : ∃ m, rowLen v (lead v t + 1) = m + 1 := ⟨rowLen v (lead v t + 1) - 1, by omega⟩
    rw [hm, List.drop_succ_cons, List.replicate_succ, ← lead_take v t m (by omega), List.cons_append, List.take_append_drop]
theorem lens_back {xs : List Int} (h : bad xs = false) : lensF (runs xs) [] = some xs := by
  have h' := h
  unfold bad out at h'
  simp only [Bool.or_eq_false_iff, decide_eq_false_iff_not] at h'
  rw [lens_runs xs.length xs [] (Nat.le_refl _) (fun x hx => ?_) (by simp only [List.length_nil]; omega)]
  · rfl
  · have := h'.2
    rw [List.any_eq_false] at this
    have := this x hx
    simp at this
    omega
/-- may they be told, the first i of them? -/
def fine (xs : List Int) (i : Nat) : Bool := decide (xs.length ≤ 320) && !out 15 (xs.take i)
theorem fine_zero (xs : List Int) : fine xs 0 = decide (xs.length ≤ 320) := by simp [fine, out]
theorem fine_all (xs : List Int) : fine xs xs.length = !bad xs := by
  unfold fine bad
  rw [List.take_length, Bool.not_or]
  congr 1
  by_cases h : xs.length ≤ 320
  · rw [decide_eq_true h, decide_eq_false (by omega)]; rfl
  · rw [decide_eq_false h, decide_eq_true (by omega)]; rfl
theorem fine_succ {xs : List Int} {i : Nat} (h : i < xs.length) : fine xs (i + 1) = (fine xs i && !decide (xs[i] < 0 ∨ 15 < xs[i])) := by
  unfold fine
  rw [List.take_succ_eq_append_getElem h]
  simp only [out, List.any_append, List.any_cons, List.any_nil, Bool.or_false, Bool.not_or, Bool.and_assoc]
set_option maxHeartbeats 4000000 in
theorem back_law (A : Option Addr) (n c : Nat) (xs : List Int) (p : Option Nat) (W : World)
    (hS : SlArg W A n c (i64s xs) p) (hw1 : ∀ x ∈ xs, (Lit.int .i64 x).wf = true) (hy1 : n * 8 ≤ 140737488351232) :
    Calls Try.prog 5 #[.slice A n c] W fun e w' => e = .returned (.bool true) ∧ Below W.heap.size W w' := by
  have HS := Hd.mk hS
  have hnc := hS.le
  have hln : xs.length = n := by have := hS.len; simpa [i64s] using this
  subst hln
  clear hS hw1
  obtain ⟨ec, hec⟩ : ∃ ec : Int, ec = if bad xs then 80 else 0 := ⟨_, rfl⟩
  obtain ⟨rs, hrs⟩ : ∃ rs : List (Int × Int), rs = if bad xs then [] else runs xs := ⟨_, rfl⟩
  have hlen : rs.length ≤ 320 := by rw [hrs]; exact list_len xs
  have HE := Hd.mk hec
  have HR := Hd.mk hrs
  clear hec hrs
  go_enter Try.func5, Try.ntmps5
  go_wp2_with (fail)
  refine (runs_any W A xs.length c xs p rfl hnc HS.out.sl HS.out.nil (by omega) ec rs HE.out HR.out).mono ?_
  rintro e w1 ⟨A1, m1, d1, rfl, h1, h2, h3⟩
  obtain rfl : m1 = rs.length := (cells_size _ _ h1.1).symm
  have O1 := Hd.mk h1
  have F1 := Hd.mk h3
  have HS1 := Hd.mk (HS.out.sl.frame h3 (by simp))
  clear h1 h2 h3
  obtain ⟨b0, hb0⟩ : ∃ b, b = decide ((xs.length : Int) ≤ 320) := ⟨_, rfl⟩
  have HB0 : Hd (b0 = fine xs 0) := ⟨by rw [hb0, fine_zero]; by_cases h : xs.length ≤ 320 <;> simp [h] <;> omega⟩
  go_wp2
  try rw [← hb0]
  clear hb0
  go_loopg [5, 6] xs.length (fun kq bv jv wr => ∃ (j : Nat) (b : Bool), bv = .bool b ∧ jv = .int .i64 (j : Nat) ∧ j + kq = xs.length ∧ wr = w1 ∧ Hd (b = fine xs j))
  case atStart => exact ⟨0, b0, rfl, rfl, by omega, rfl, HB0⟩
  case round =>
    obtain ⟨j, b, rfl, rfl, hj, rfl, HB⟩ := hrel
    by_cases h1 : j < xs.length
    · obtain ⟨a, o1, rfl, _, ha⟩ := HS1.out (by simp [i64s]; omega)
      obtain ⟨x, hx⟩ : ∃ x, x = xs[j] := ⟨_, rfl⟩
      have ca := (ha j (by simp [i64s]; omega)).trans (by rw [i64s_get, List.getElem?_eq_getElem (by omega), ← hx])
      have HX := Hd.mk hx
      clear ha hx
      cases b with
      | false =>
        go_wp2
        go_roundg (gk - 1)
        case measure => omega
        case rel => exact ⟨j + 1, false, rfl, by go_num, by omega, rfl, ⟨by rw [fine_succ h1, ← HB.out]; rfl⟩⟩
      | true =>
        by_cases h2 : 0 ≤ x
        · by_cases h3 : x ≤ 15
          · go_wp2
            go_roundg (gk - 1)
            case measure => omega
            case rel => exact ⟨j + 1, true, rfl, by go_num, by omega, rfl, ⟨by rw [fine_succ h1, ← HB.out, ← HX.out, decide_eq_false (by omega)]; rfl⟩⟩
          · go_wp2
            go_roundg (gk - 1)
            case measure => omega
            case rel => exact ⟨j + 1, false, rfl, by go_num, by omega, rfl, ⟨by rw [fine_succ h1, ← HB.out, ← HX.out, decide_eq_true (by omega)]; rfl⟩⟩
        · go_wp2
          go_roundg (gk - 1)
          case measure => omega
          case rel => exact ⟨j + 1, false, rfl, by go_num, by omega, rfl, ⟨by rw [fine_succ h1, ← HB.out, ← HX.out, decide_eq_true (by omega)]; rfl⟩⟩
    · obtain rfl : j = xs.length := by omega
      cases b with
      | false =>
        have hbad : bad xs = true := by have := HB.out; rw [fine_all] at this; simpa using this.symm
        obtain rfl : ec = 80 := by rw [HE.out, hbad]; rfl
        obtain rfl : rs = [] := by rw [HR.out, hbad]; rfl
        simp only [List.length_nil]
        go_wp2_with (fail)
        refine (awake_any wr).mono ?_
        rintro e w2 ⟨rfl, g2⟩
        have F2 := Hd.mk (F1.out.trans g2 (by simp))
        clear g2
        go_wp2
        go_ret
        exact ⟨rfl, F2.out.below⟩
      | true =>
        have hbad : bad xs = false := by have := HB.out; rw [fine_all] at this; simpa using this.symm
        obtain rfl : ec = 0 := by rw [HE.out, hbad]; rfl
        have hrr : rs = runs xs := by rw [HR.out, hbad]; rfl
        have hlb : Hd (lensF rs [] = some xs) := ⟨by rw [hrr]; exact lens_back hbad⟩
        clear hrr
        go_wp2_with (fail)
        refine (lens_any wr A1 rs.length d1 rs _ rfl (sl_of_owns O1.out) (by omega) 0 xs (by rw [hlb.out]; rfl) (by rw [hlb.out]; rfl)).mono ?_
        rintro e w2 ⟨A2, m2, d2, rfl, h1, h2, h3⟩
        obtain rfl : m2 = xs.length := (ints_of_own h1).symm
        have O2 := Hd.mk h1
        have F2 := Hd.mk (F1.out.trans h3 (by simp))
        clear h1 h2 h3
        go_wp2_with (fail)
        refine (same_any w2 A2 A _ _ _ _ xs xs _ _ rfl rfl (sl_of_own O2.out) (HS.out.sl.frame F2.out (by simp)) (by omega) (by omega)).mono ?_
        rintro e w3 ⟨rfl, g3⟩
        rw [decide_eq_true rfl]
        have F3 := Hd.mk (F2.out.trans g3 (by simp))
        clear g3
        go_wp2_with (fail)
        refine (awake_any w3).mono ?_
        rintro e w4 ⟨rfl, g4⟩
        have F4 := Hd.mk (F3.out.trans g4 (by simp))
        clear g4
        go_wp2
        go_ret
        exact ⟨rfl, F4.out.below⟩
end Go.Proofs.Ytofajcifjmhomaa.Head
