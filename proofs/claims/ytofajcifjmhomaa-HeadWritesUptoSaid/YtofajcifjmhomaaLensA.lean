/- The leaves of counts (chapter 04), as the program has them. Conditions: counts that may be. -/
import Derived.Test.YtofajcifjmhomaaLensCost
import Derived.Test.YtofajcifjmhomaaSortE
import Derived.Test.YtofajcifjmhomaaPm2
set_option linter.unusedVariables false
set_option linter.unusedSimpArgs false
set_option maxRecDepth 100000
namespace Go.Proofs.Ytofajcifjmhomaa.Lens
open Go.RowKit Go.Proofs.Ytofajcifjmhomaa.Lib Go.Proofs.Ytofajcifjmhomaa.Ints Go.Proofs.Ytofajcifjmhomaa.Sorts Go.Proofs.Ytofajcifjmhomaa.Sort

/-- the symbols in use, with their counts, from s on -/
def lv : List Int → Nat → List (Nat × Nat)
  | [], _ => []
  | f :: fs, s => if 0 < f then (f.toNat, s) :: lv fs (s + 1) else lv fs (s + 1)
theorem lv_app : ∀ (a b : List Int) (s : Nat), lv (a ++ b) s = lv a s ++ lv b (s + a.length)
  | [], b, s => by simp [lv]
  | f :: a, b, s => by
    simp only [List.cons_append, lv]
    have := lv_app a b (s + 1)
    rw [show s + 1 + a.length = s + (f :: a).length from by simp; omega] at this
    split
    · rw [this]; rfl
    · rw [this]
theorem lv_snoc {fs : List Int} {j : Nat} (hj : j < fs.length) : lv (fs.take (j + 1)) 0 = lv (fs.take j) 0 ++ (if 0 < fs[j] then [((fs[j]).toNat, j)] else []) := by
  rw [List.take_succ_eq_append_getElem hj, lv_app]
  simp only [lv, List.length_take, Nat.min_eq_left (Nat.le_of_lt hj), Nat.zero_add]
theorem lv_mem : ∀ (fs : List Int) (s : Nat) (x : Nat × Nat), x ∈ lv fs s → s ≤ x.2 ∧ ∃ h : x.2 - s < fs.length, 0 < fs[x.2 - s] ∧ x.1 = (fs[x.2 - s]).toNat
  | [], s, x, h => by simp [lv] at h
  | f :: fs, s, x, h => by
    have hrec : x ∈ lv fs (s + 1) → s ≤ x.2 ∧ ∃ h : x.2 - s < (f :: fs).length, 0 < (f :: fs)[x.2 - s] ∧ x.1 = ((f :: fs)[x.2 - s]).toNat := fun hx => by
      obtain ⟨h1, h2, h3, h4⟩ := lv_mem fs (s + 1) x hx
      refine ⟨by omega, by simp; omega, ?_⟩
      simp only [show x.2 - s = x.2 - (s + 1) + 1 from by omega, List.getElem_cons_succ]
      exact ⟨h3, h4⟩
    simp only [lv] at h
    split at h
    · rename_i hf
      rcases List.mem_cons.1 h with rfl | h
      · exact ⟨Nat.le_refl _, by simp, by simpa using hf, by simp⟩
      · exact hrec h
    · exact hrec h
theorem lv_inc : ∀ (fs : List Int) (s : Nat), (lv fs s).Pairwise (fun x y => x.2 < y.2)
  | [], s => by simp [lv]
  | f :: fs, s => by
    simp only [lv]
    split
    · exact List.pairwise_cons.2 ⟨fun y hy => by have := (lv_mem fs (s + 1) y hy).1; simp; omega, lv_inc fs (s + 1)⟩
    · exact lv_inc fs (s + 1)
theorem lv_len (fs : List Int) (s : Nat) : (lv fs s).length ≤ fs.length := by
  induction fs generalizing s with
  | nil => simp [lv]
  | cons f fs ih =>
    simp only [lv]
    have := ih (s + 1)
    split <;> simp <;> omega
/-- one more, behind those that weigh no more -/
def ins (x : Nat × Nat) (l : List (Nat × Nat)) : List (Nat × Nat) := l.takeWhile (fun y => decide (y.1 ≤ x.1)) ++ x :: l.dropWhile (fun y => decide (y.1 ≤ x.1))
def srt : List (Nat × Nat) → List (Nat × Nat) := fun l => l.foldl (fun a x => ins x a) []
theorem srt_snoc (l : List (Nat × Nat)) (x : Nat × Nat) : srt (l ++ [x]) = ins x (srt l) := by simp [srt]
theorem ins_perm (x : Nat × Nat) (l : List (Nat × Nat)) : (ins x l).Perm (x :: l) := by
  unfold ins
  have h := List.takeWhile_append_dropWhile (p := fun y => decide (y.1 ≤ x.1)) (l := l)
  exact List.perm_middle.trans (by rw [h])
theorem of_takeWhile {α : Type} {p : α → Bool} : ∀ {l : List α} {y : α}, y ∈ l.takeWhile p → p y = true
  | x :: l, y, h => by
    by_cases hx : p x = true
    · rw [List.takeWhile_cons_of_pos hx] at h
      rcases List.mem_cons.1 h with rfl | h
      · exact hx
      · exact of_takeWhile h
    · rw [List.takeWhile_cons_of_neg hx] at h; simp at h
theorem ins_srt {x : Nat × Nat} {l : List (Nat × Nat)} (h : l.Pairwise (lx ky rk)) (hx : ∀ y ∈ l, y.2 < x.2) : (ins x l).Pairwise (lx ky rk) := by
  unfold ins
  have e := List.takeWhile_append_dropWhile (p := fun y => decide (y.1 ≤ x.1)) (l := l)
  rw [← e] at h
  obtain ⟨h1, h2, h3⟩ := List.pairwise_append.1 h
  have hd : ∀ y ∈ l.dropWhile (fun y => decide (y.1 ≤ x.1)), x.1 < y.1 := by
    have hne : ∀ (m : List (Nat × Nat)), m.Pairwise (lx ky rk) → ∀ y ∈ m.dropWhile (fun y => decide (y.1 ≤ x.1)), x.1 < y.1 := by
      intro m
      induction m with
      | nil => intro _ y hy; simp at hy
      | cons z m ih =>
        intro hm y hy
        have hm' := List.pairwise_cons.1 hm
        by_cases hz : z.1 ≤ x.1
        · rw [List.dropWhile_cons_of_pos (by simpa using hz)] at hy
          exact ih hm'.2 y hy
        · rw [List.dropWhile_cons_of_neg (by simpa using hz)] at hy
          rcases List.mem_cons.1 hy with rfl | hy
          · omega
          · have := hm'.1 y hy
            unfold lx ky at this
            omega
    exact hne l (by rw [e] at h; exact h)
  refine List.pairwise_append.2 ⟨h1, List.pairwise_cons.2 ⟨fun y hy => .inl (by unfold ky; have := hd y hy; omega), h2⟩, fun a ha b hb => ?_⟩
  rcases List.mem_cons.1 hb with rfl | hb
  · have a1 := of_takeWhile ha
    simp only [decide_eq_true_eq] at a1
    have a2 := hx a (by rw [← e]; exact List.mem_append_left _ ha)
    unfold lx ky rk; omega
  · exact h3 a ha b hb
theorem srt_all : ∀ (l acc : List (Nat × Nat)), acc.Pairwise (lx ky rk) → l.Pairwise (fun x y => x.2 < y.2) → (∀ y ∈ acc, ∀ x ∈ l, y.2 < x.2) →
    (l.foldl (fun a x => ins x a) acc).Pairwise (lx ky rk) ∧ (l.foldl (fun a x => ins x a) acc).Perm (acc ++ l)
  | [], acc, h1, _, _ => ⟨h1, by simp⟩
  | x :: l, acc, h1, h2, h3 => by
    have h2' := List.pairwise_cons.1 h2
    have h := srt_all l (ins x acc) (ins_srt h1 (fun y hy => h3 y hy x (by simp))) h2'.2 (fun y hy z hz => by
      rcases List.mem_cons.1 ((ins_perm x acc).mem_iff.1 hy) with rfl | hy
      · exact h2'.1 z hz
      · exact h3 y hy z (by simp [hz]))
    exact ⟨h.1, h.2.trans (((ins_perm x acc).append_right l).trans (by simpa using (List.perm_middle (l₁ := acc) (a := x) (l₂ := l)).symm))⟩
theorem srt_ok (fs : List Int) (s : Nat) : (srt (lv fs s)).Pairwise (lx ky rk) ∧ (srt (lv fs s)).Perm (lv fs s) := by
  have := srt_all (lv fs s) [] List.Pairwise.nil (lv_inc fs s) (fun y hy => by simp at hy)
  simpa [srt] using this
theorem lst_eq {l : List (Nat × Nat)} : lst l.length (fun i => l.getD i (0, 0)) = l := by
  apply List.ext_getElem?
  intro i
  by_cases h : i < l.length
  · rw [lst_get h]; simp [h]
  · rw [List.getElem?_eq_none (by rw [lst_len]; omega), List.getElem?_eq_none (by omega)]
theorem insertion_nil (w : World) :
    Calls Try.prog 108 #[.slice none 0 0, .int .i64 0, .int .i64 0, lfn] w fun e w' => e = .returned (.tuple #[]) ∧ w = w' := by
  unfold lfn
  go_enter Try.func108, Try.ntmps108
  go_wp2
  go_loopg [8] 0 (fun kq iv wr => iv = .int .i64 1 ∧ wr = w)
  case atStart => exact ⟨rfl, rfl⟩
  case round =>
    obtain ⟨rfl, rfl⟩ := hrel
    go_wp2
    go_end0
    exact ⟨rfl, rfl⟩
theorem stable_nil (w : World) :
    Calls Try.prog 106 #[.slice none 0 0, .int .i64 0, lfn] w fun e w' => e = .returned (.tuple #[]) ∧ w = w' := by
  unfold lfn
  go_enter Try.func106, Try.ntmps106
  go_wp2
  go_loopg [7, 8] 0 (fun kq av bv wr => av = .int .i64 0 ∧ bv = .int .i64 20 ∧ wr = w)
  case atStart => exact ⟨rfl, rfl, rfl⟩
  case round =>
    obtain ⟨rfl, rfl, rfl⟩ := hrel
    go_wp2_with (fail)
    refine (insertion_nil wr).mono ?_
    rintro e w' ⟨rfl, rfl⟩
    go_wp2
    go_loopg [6, 7, 8, 9] 0 (fun kq sv _ _ _ w2 => sv = .int .i64 20 ∧ w2 = wr)
    case atStart => exact ⟨rfl, rfl⟩
    case round =>
      obtain ⟨rfl, rfl⟩ := hrel
      go_wp2
      go_end0
      exact ⟨rfl, rfl⟩
theorem sort_nil (w : World) :
    Calls Try.prog 101 #[.slice none 0 0, lfn] w fun e w' => e = .returned (.tuple #[]) ∧ w = w' := by
  go_enter Try.func101, Try.ntmps101
  go_wp2_with (fail)
  refine (stable_nil w).mono ?_
  rintro e w' ⟨rfl, rfl⟩
  go_wp2
  go_end0
  exact ⟨rfl, rfl⟩
theorem infoItem : (Try.prog.info? 154).map (fun i => (i.zero, i.size, i.bytes)) = some (some (.agg #[.int .i64 0, .int .i64 0, .slice none 0 0]), 3, 40) := by kernel_rfl
theorem lfs_app (a b : List (Nat × Nat)) : lfs (a ++ b) = lfs a ++ lfs b := by simp [lfs]
theorem lfs_one (a : List (Nat × Nat)) : ∀ u ∈ lfs a, u.oneCell' = true := by
  intro u hu
  simp only [lfs, List.mem_flatMap, lfc] at hu
  obtain ⟨r, _, h⟩ := hu
  simp at h
  rcases h with rfl | rfl | rfl <;> rfl
set_option maxHeartbeats 2000000 in
theorem leaves_any (w : World) (A : Option Addr) (n c : Nat) (fs : List Int) (p : Option Nat) (hn : fs.length = n) (hS : Sl w A (i64s fs) p) (hn1 : n ≤ 288) (hf : out 1099511627776 fs = false) :
    Calls Try.prog 90 #[.slice A n c] w fun e w' => ∃ B m d q, e = .returned (.slice B m d) ∧ (srt (lv fs 0)).length = m ∧ m ≤ d ∧ d ≤ maxLen ∧ (B = none → m = 0 ∧ d = 0) ∧ Sl w' B (lfs (srt (lv fs 0))) q ∧ (∀ k, q = some k → w.heap.size ≤ k ∧ k < w'.heap.size) ∧ Fr w w' [] := by
  subst hn
  have HS := Hd.mk hS
  have HO := Hd.mk hf
  clear hS hf
  obtain ⟨i0, hi0, hz0, hz1, hz2⟩ := info_parts infoItem
  go_enter Try.func90, Try.ntmps90
  go_wp2
  go_loopg [3, 8] fs.length (fun kq sv jv wr => ∃ (j : Nat) (B : Option Addr) (m d : Nat), jv = .int .i64 (j : Nat) ∧ sv = .slice B m d ∧ j + kq = fs.length ∧ m ≤ j ∧ Hd (m = 0 → B = none ∧ d = 0) ∧ Hd ((lv (fs.take j) 0).length = m) ∧ Hd (wr.ownsRow 0 154 3 (.slice B m d) m (lfs (lv (fs.take j) 0))) ∧ Hd (∀ k, (Value.slice B m d).ownBlock = some k → w.heap.size ≤ k) ∧ Hd (Fr w wr []))
  case atStart => exact ⟨0, none, 0, 0, rfl, rfl, by omega, by omega, ⟨fun _ => ⟨rfl, rfl⟩⟩, ⟨by simp [lv]⟩, ⟨by simpa [lv, lfs] using own_nil _ _ _ _⟩, ⟨fun k hk => by simp [Value.ownBlock] at hk⟩, ⟨Fr.refl _ _⟩⟩
  case round =>
    obtain ⟨j, B, m, d, rfl, rfl, hj, hm, HN, HL, HW, HB, HF⟩ := hrel
    by_cases h1 : j < fs.length
    · obtain ⟨a, o1, rfl, _, ha⟩ := (HS.out.frame HF.out (by simp)) (by simp [i64s]; omega)
      obtain ⟨x, hx⟩ : ∃ x, x = fs[j] := ⟨_, rfl⟩
      have ca := (ha j (by simp [i64s]; omega)).trans (by rw [i64s_get, List.getElem?_eq_getElem (by omega), ← hx])
      have hsn := lv_snoc h1
      rw [← hx] at hsn
      have HSN := Hd.mk hsn
      have hbd := of_out HO.out h1
      rw [← hx] at hbd
      clear ha hx hsn
      by_cases h2 : 0 < x
      · have hxn : (x : Int) = ((x.toNat : Nat) : Int) := by omega
        obtain ⟨y, hy⟩ : ∃ y, y = x.toNat := ⟨_, rfl⟩
        rw [← hy] at hxn
        have HY := Hd.mk hy
        clear hy
        subst hxn
        have h3 : Hd (lv (fs.take (j + 1)) 0 = lv (fs.take j) 0 ++ [(y, j)]) := ⟨by rw [HSN.out, if_pos h2, ← HY.out]⟩
        clear HSN HY
        go_wp2_with (at_builtin; refine wpList_append_sl rfl (.tmp 15) (.tmp 19) 151 rfl 154 i0 (.agg #[.int .i64 0, .int .i64 0, .slice none 0 0]) 3 40 Try.underlying151 hi0 hz0 hz1 hz2 rfl (by decide) (.slice B m d) m _ rfl (by exact HW.out.alloc _) (some ⟨wr.heap.size, 0, none⟩) 1 1 [.int .i64 (y : Nat), .int .i64 (j : Nat), .slice none 0 0] (some wr.heap.size) rfl rfl (by exact sl_of_blk (blk_new _ _)) (by intro h; cases h) (by intro u hu; simp at hu; rcases hu with rfl | rfl | rfl <;> rfl) (by unfold maxLen; omega) (by omega) ?_; intro A' c' w1 hown' hgrow haft; have O1 := Hd.mk hown'; have G1 := Hd.mk hgrow; have F1 := Hd.mk haft; clear hown' hgrow haft)
        go_roundg (gk - 1)
        case measure => go_light; omega
        case rel =>
          go_light
          refine ⟨j + 1, A', m + 1, c', by go_num, rfl, by omega, by omega, ⟨fun h => by omega⟩, ⟨by rw [h3.out, List.length_append, HL.out]; rfl⟩, ⟨?_⟩, ⟨fun k hk => ?_⟩, ⟨(HF.out.alloc _).grown G1.out (fun k hk => .inr (HB.out k hk))⟩⟩
          · rw [h3.out, lfs_app]; exact O1.out
          · rcases F1.out with h | ⟨z, h, hz⟩
            · rw [h] at hk; exact HB.out k hk
            · rw [h] at hk; cases hk
              have := HF.out.size
              simp at hz
              omega
      · have h3 : Hd (lv (fs.take (j + 1)) 0 = lv (fs.take j) 0) := ⟨by rw [HSN.out, if_neg h2, List.append_nil]⟩
        clear HSN
        go_wp2
        go_roundg (gk - 1)
        case measure => go_light; omega
        case rel => go_light; exact ⟨j + 1, B, m, d, by go_num, rfl, by omega, by omega, HN, by rw [h3.out]; exact HL, by rw [h3.out]; exact HW, HB, HF⟩
    · have hfl : fs.take j = fs := List.take_of_length_le (by omega)
      rw [hfl] at HL HW
      clear hfl
      have hso := srt_ok fs 0
      have HSO := Hd.mk hso
      clear hso
      by_cases hm0 : m = 0
      · subst hm0
        obtain ⟨rfl, rfl⟩ := HN.out rfl
        have hs0 : Hd (srt (lv fs 0) = []) := ⟨by
          have : lv fs 0 = [] := List.eq_nil_of_length_eq_zero HL.out
          rw [this]; rfl⟩
        go_wp2_with (fail)
        refine (sort_nil wr).mono ?_
        rintro e w' ⟨rfl, rfl⟩
        go_wp2
        go_ret
        rw [hs0.out]
        exact ⟨none, 0, 0, none, rfl, rfl, Nat.le_refl _, Nat.zero_le _, fun _ => ⟨rfl, rfl⟩, Sl.nil _ _ _, (fun k hk => by cases hk), HF.out⟩
      · obtain ⟨g, d', e1, hd⟩ := own_some HW.out (by omega)
        injection e1 with e1 _ e2
        subst e1 e2
        obtain ⟨L, hL⟩ : ∃ L, L = lv fs 0 := ⟨_, rfl⟩
        have hln : L.length = m := by rw [hL]; exact HL.out
        have hR : Rw wr g m (fun i => L.getD i (0, 0)) := by
          rcases HW.out.2 with ⟨h', hn0⟩ | ⟨g', cap, cur, h', hb, hh, hnc, hcm, hcs, ht⟩
          · exact absurd hn0 hm0
          · injection h' with h1 h2 h3
            injection h1 with h1
            injection h1 with h1
            subst h1
            refine ⟨cur, hh, ?_⟩
            rw [← hln, lst_eq, hL, ← ht, HL.out]
        have hdm : d ≤ maxLen := by
          obtain ⟨_, _, e, _, h, _⟩ := own_slice HW.out
          injection e with _ _ e
          rw [e]; exact h
        have hinc : ∀ i j, i < j → j < m → rk ((fun i => L.getD i (0, 0)) i) < rk ((fun i => L.getD i (0, 0)) j) := fun i j e1 e2 => by
          have := List.pairwise_iff_getElem.1 (lv_inc fs 0) i j (by rw [HL.out]; omega) (by rw [HL.out]; omega) e1
          simp only [List.getD_eq_getElem?_getD]
          rw [List.getElem?_eq_getElem (by omega), List.getElem?_eq_getElem (by omega)]
          simp only [Option.getD_some, rk]
          subst hL
          exact this
        have HR := Hd.mk hR
        have HI := Hd.mk hinc
        have HDM := Hd.mk hdm
        have HLL := Hd.mk hL
        have HLN := Hd.mk hln
        clear hR hinc hdm hL hln
        go_wp2_with (fail)
        refine (sort_any wr g m d _ HR.out (by omega) hd HI.out).mono ?_
        rintro e w1 ⟨rfl, ⟨D, r1, r2, r3⟩, r4⟩
        have hres : lst m D = srt (lv fs 0) := by
          refine srt_one (d0 := D) r3 ?_ HSO.out.1
          have e := r2
          rw [← HLN.out, lst_eq, HLL.out] at e
          rw [HL.out] at e
          exact e.trans HSO.out.2.symm
        have HRES := Hd.mk hres
        have R1 := Hd.mk r1
        have R4 := Hd.mk r4
        clear r1 r2 r3 r4 hres
        go_wp2
        go_ret
        refine ⟨some ⟨g, 0, none⟩, m, d, some g, rfl, by rw [← HRES.out, lst_len], hd, HDM.out, (fun h => by cases h), ?_, fun k hk => ?_, HF.out.trans R4.out (fun x hx hm => ?_)⟩
        · intro h0
          refine ⟨g, 0, rfl, rfl, fun j hj => ?_⟩
          rw [← HRES.out] at hj ⊢
          obtain ⟨cs, c1, c2⟩ := R1.out
          rw [lfs_len, lst_len] at hj
          rw [Nat.zero_add, blk_cell c1, ← c2, List.getElem?_take, if_pos hj, Array.getElem?_toList]
        · cases hk; exact ⟨HB.out g rfl, by have := own_lt HW.out (k := g) rfl; have := R4.out.size; omega⟩
        · simp only [List.mem_cons, List.not_mem_nil, or_false] at hm
          subst hm
          have := HB.out x rfl
          omega
end Go.Proofs.Ytofajcifjmhomaa.Lens
