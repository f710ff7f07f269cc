/- Texts of this claim, one behind the other: LensA, LensB, LensC. -/
import Derived.Test.YtkdgfioigkijgaaQ01
import Derived.Test.YtkdgfioigkijgaaQ02
import Derived.Test.YtkdgfioigkijgaaQ03
import Derived.Test.YtkdgfioigkijgaaQ06
import Derived.Test.YtkdgfioigkijgaaQ07
import Derived.Deep.RegionHeld3
import Derived.Deep.Light
/- The leaves of counts (chapter 04), as the program has them. Conditions: counts that may be. -/
set_option linter.unusedVariables false
set_option linter.unusedSimpArgs false
set_option maxRecDepth 100000
namespace Go.Proofs.Ytkdgfioigkijgaa.Lens
open Go.RowKit Go.Proofs.Ytkdgfioigkijgaa.Lib Go.Proofs.Ytkdgfioigkijgaa.Ints Go.Proofs.Ytkdgfioigkijgaa.Sorts Go.Proofs.Ytkdgfioigkijgaa.Sort

/-- the symbols in use, with their counts, from s on -/
def lv : List Int → Nat → List (Nat × Nat)
  | [], _ => []
  | f :: fs, s => if 0 < f then (f.toNat, s) :: lv fs (s + 1) else lv fs (s + 1)
theorem lv_app : ∀ (a b : List Int) (s : Nat), lv (a ++ b) s = lv a s ++ lv b (s + a.length)
  | [], b, s => by simp [lv]
  | f :: a, b, s => by
    simp only [List.cons_append, lv]
    have := lv_app a b (s + 1)
    rw [show s + 1 + a.length = s + (f :: a).length from by simp; omega] at this
    split
    · rw [this]; rfl
    · rw [this]
theorem lv_snoc {fs : List Int} {j : Nat} (hj : j < fs.length) : lv (fs.take (j + 1)) 0 = lv (fs.take j) 0 ++ (if 0 < fs[j] then [((fs[j]).toNat, j)] else []) := by
  rw [List.take_succ_eq_append_getElem hj, lv_app]
  simp only [lv, List.length_take, Nat.min_eq_left (Nat.le_of_lt hj), Nat.zero_add]
theorem lv_mem : ∀ (fs : List Int) (s : Nat) (x : Nat × Nat), x ∈ lv fs s → s ≤ x.2 ∧ ∃ h : x.2 - s < fs.length, 0 < fs[x.2 - s] ∧ x.1 = (fs[x.2 - s]).toNat
  | [], s, x, h => by simp [lv] at h
  | f :: fs, s, x, h => by
    have hrec : x ∈ lv fs (s + 1) → s ≤ x.2 ∧ ∃ h : x.2 - s < (f :: fs).length, 0 < (f :: fs)[x.2 - s] ∧ x.1 = ((f :: fs)[x.2 - s]).toNat := fun hx => by
      obtain ⟨h1, h2, h3, h4⟩ := lv_mem fs (s + 1) x hx
      refine ⟨by omega, by simp; omega, ?_⟩
      simp only [show x.2 - s = x.2 - (s + 1) + 1 from by omega, List.getElem_cons_succ]
      exact ⟨h3, h4⟩
    simp only [lv] at h
    split at h
    · rename_i hf
      rcases List.mem_cons.1 h with rfl | h
      · exact ⟨Nat.le_refl _, by simp, by simpa using hf, by simp⟩
      · exact hrec h
    · exact hrec h
theorem lv_inc : ∀ (fs : List Int) (s : Nat), (lv fs s).Pairwise (fun x y => x.2 < y.2)
  | [], s => by simp [lv]
  | f :: fs, s => by
    simp only [lv]
    split
    · exact List.pairwise_cons.2 ⟨fun y hy => by have := (lv_mem fs (s + 1) y hy).1; simp; omega, lv_inc fs (s + 1)⟩
    · exact lv_inc fs (s + 1)
theorem lv_len (fs : List Int) (s : Nat) : (lv fs s).length ≤ fs.length := by
  induction fs generalizing s with
  | nil => simp [lv]
  | cons f fs ih =>
    simp only [lv]
    have := ih (s + 1)
    split <;> simp <;> omega
/-- one more, behind those that weigh no more -/
def ins (x : Nat × Nat) (l : List (Nat × Nat)) : List (Nat × Nat) := l.takeWhile (fun y => decide (y.1 ≤ x.1)) ++ x :: l.dropWhile (fun y => decide (y.1 ≤ x.1))
def srt : List (Nat × Nat) → List (Nat × Nat) := fun l => l.foldl (fun a x => ins x a) []
theorem ins_perm (x : Nat × Nat) (l : List (Nat × Nat)) : (ins x l).Perm (x :: l) := by
  unfold ins
  have h := List.takeWhile_append_dropWhile (p := fun y => decide (y.1 ≤ x.1)) (l := l)
  exact List.perm_middle.trans (by rw [h])
theorem of_takeWhile {α : Type} {p : α → Bool} : ∀ {l : List α} {y : α}, y ∈ l.takeWhile p → p y = true
  | x :: l, y, h => by
    by_cases hx : p x = true
    · rw [List.takeWhile_cons_of_pos hx] at h
      rcases List.mem_cons.1 h with rfl | h
      · exact hx
      · exact of_takeWhile h
    · rw [List.takeWhile_cons_of_neg hx] at h; simp at h
theorem ins_srt {x : Nat × Nat} {l : List (Nat × Nat)} (h : l.Pairwise (lx ky rk)) (hx : ∀ y ∈ l, y.2 < x.2) : (ins x l).Pairwise (lx ky rk) := by
  unfold ins
  have e := List.takeWhile_append_dropWhile (p := fun y => decide (y.1 ≤ x.1)) (l := l)
  rw [← e] at h
  obtain ⟨h1, h2, h3⟩ := List.pairwise_append.1 h
  have hd : ∀ y ∈ l.dropWhile (fun y => decide (y.1 ≤ x.1)), x.1 < y.1 := by
    have hne : ∀ (m : List (Nat × Nat)), m.Pairwise (lx ky rk) → ∀ y ∈ m.dropWhile (fun y => decide (y.1 ≤ x.1)), x.1 < y.1 := by
      intro m
      induction m with
      | nil => intro _ y hy; simp at hy
      | cons z m ih =>
        intro hm y hy
        have hm' := List.pairwise_cons.1 hm
        by_cases hz : z.1 ≤ x.1
        · rw [List.dropWhile_cons_of_pos (by simpa using hz)] at hy
          exact ih hm'.2 y hy
        · rw [List.dropWhile_cons_of_neg (by simpa using hz)] at hy
          rcases List.mem_cons.1 hy with rfl | hy
          · omega
          · have := hm'.1 y hy
            unfold lx ky at this
            omega
    exact hne l (by rw [e] at h; exact h)
  refine List.pairwise_append.2 ⟨h1, List.pairwise_cons.2 ⟨fun y hy => .inl (by unfold ky; have := hd y hy; omega), h2⟩, fun a ha b hb => ?_⟩
  rcases List.mem_cons.1 hb with rfl | hb
  · have a1 := of_takeWhile ha
    simp only [decide_eq_true_eq] at a1
    have a2 := hx a (by rw [← e]; exact List.mem_append_left _ ha)
    unfold lx ky rk; omega
  · exact h3 a ha b hb
theorem srt_all : ∀ (l acc : List (Nat × Nat)), acc.Pairwise (lx ky rk) → l.Pairwise (fun x y => x.2 < y.2) → (∀ y ∈ acc, ∀ x ∈ l, y.2 < x.2) →
    (l.foldl (fun a x => ins x a) acc).Pairwise (lx ky rk) ∧ (l.foldl (fun a x => ins x a) acc).Perm (acc ++ l)
  | [], acc, h1, _, _ => ⟨h1, by simp⟩
  | x :: l, acc, h1, h2, h3 => by
    have h2' := List.pairwise_cons.1 h2
    have h := srt_all l (ins x acc) (ins_srt h1 (fun y hy => h3 y hy x (by simp))) h2'.2 (fun y hy z hz => by
      rcases List.mem_cons.1 ((ins_perm x acc).mem_iff.1 hy) with rfl | hy
      · exact h2'.1 z hz
      · exact h3 y hy z (by simp [hz]))
    exact ⟨h.1, h.2.trans (((ins_perm x acc).append_right l).trans (by simpa using (List.perm_middle (l₁ := acc) (a := x) (l₂ := l)).symm))⟩
theorem srt_ok (fs : List Int) (s : Nat) : (srt (lv fs s)).Pairwise (lx ky rk) ∧ (srt (lv fs s)).Perm (lv fs s) := by
  have := srt_all (lv fs s) [] List.Pairwise.nil (lv_inc fs s) (fun y hy => by simp at hy)
  simpa [srt] using this
theorem lst_eq {l : List (Nat × Nat)} : lst l.length (fun i => l.getD i (0, 0)) = l := by
  apply List.ext_getElem?
  intro i
  by_cases h : i < l.length
  · rw [lst_get h]; simp [h]
  · rw [List.getElem?_eq_none (by rw [lst_len]; omega), List.getElem?_eq_none (by omega)]
theorem insertion_nil (w : World) :
    Calls Try.prog 97 #[.slice none 0 0, .int .i64 0, .int .i64 0, lfn] w fun e w' => e = .returned (.tuple #[]) ∧ w = w' := by
  unfold lfn
  go_enter Try.func97, Try.ntmps97
  go_wp2
  go_loopg [8] 0 (fun kq iv wr => iv = .int .i64 1 ∧ wr = w)
  case atStart => exact ⟨rfl, rfl⟩
  case round =>
    obtain ⟨rfl, rfl⟩ := hrel
    go_wp2
    go_end0
    exact ⟨rfl, rfl⟩
theorem stable_nil (w : World) :
    Calls Try.prog 90 #[.slice none 0 0, .int .i64 0, lfn] w fun e w' => e = .returned (.tuple #[]) ∧ w = w' := by
  unfold lfn
  go_enter Try.func90, Try.ntmps90
  go_wp2
  go_loopg [7, 8] 0 (fun kq av bv wr => av = .int .i64 0 ∧ bv = .int .i64 20 ∧ wr = w)
  case atStart => exact ⟨rfl, rfl, rfl⟩
  case round =>
    obtain ⟨rfl, rfl, rfl⟩ := hrel
    go_wp2_with (fail)
    refine (insertion_nil wr).mono ?_
    rintro e w' ⟨rfl, rfl⟩
    go_wp2
    go_loopg [6, 7, 8, 9] 0 (fun kq sv _ _ _ w2 => sv = .int .i64 20 ∧ w2 = wr)
    case atStart => exact ⟨rfl, rfl⟩
    case round =>
      obtain ⟨rfl, rfl⟩ := hrel
      go_wp2
      go_end0
      exact ⟨rfl, rfl⟩
theorem sort_nil (w : World) :
    Calls Try.prog 80 #[.slice none 0 0, lfn] w fun e w' => e = .returned (.tuple #[]) ∧ w = w' := by
  go_enter Try.func80, Try.ntmps80
  go_wp2_with (fail)
  refine (stable_nil w).mono ?_
  rintro e w' ⟨rfl, rfl⟩
  go_wp2
  go_end0
  exact ⟨rfl, rfl⟩
theorem infoItem : (Try.prog.info? 155).map (fun i => (i.zero, i.size, i.bytes)) = some (some (.agg #[.int .i64 0, .int .i64 0, .slice none 0 0]), 3, 40) := by kernel_rfl
theorem lfs_app (a b : List (Nat × Nat)) : lfs (a ++ b) = lfs a ++ lfs b := by simp [lfs]
set_option maxHeartbeats 2000000 in
theorem leaves_any (w : World) (A : Option Addr) (n c : Nat) (fs : List Int) (p : Option Nat) (hn : fs.length = n) (hS : Sl w A (i64s fs) p) (hn1 : n ≤ 288) (hf : out 1099511627776 fs = false) :
    Calls Try.prog 66 #[.slice A n c] w fun e w' => ∃ B m d q, e = .returned (.slice B m d) ∧ (srt (lv fs 0)).length = m ∧ m ≤ d ∧ d ≤ maxLen ∧ (B = none → m = 0 ∧ d = 0) ∧ Sl w' B (lfs (srt (lv fs 0))) q ∧ (∀ k, q = some k → w.heap.size ≤ k ∧ k < w'.heap.size) ∧ Fr w w' [] := by
  subst hn
  have HS := Hd.mk hS
  have HO := Hd.mk hf
  clear hS hf
  obtain ⟨i0, hi0, hz0, hz1, hz2⟩ := info_parts infoItem
  go_enter Try.func66, Try.ntmps66
  go_wp2
  go_loopg [3, 8] fs.length (fun kq sv jv wr => ∃ (j : Nat) (B : Option Addr) (m d : Nat), jv = .int .i64 (j : Nat) ∧ sv = .slice B m d ∧ j + kq = fs.length ∧ m ≤ j ∧ Hd (m = 0 → B = none ∧ d = 0) ∧ Hd ((lv (fs.take j) 0).length = m) ∧ Hd (wr.ownsRow 0 155 3 (.slice B m d) m (lfs (lv (fs.take j) 0))) ∧ Hd (∀ k, (Value.slice B m d).ownBlock = some k → w.heap.size ≤ k) ∧ Hd (Fr w wr []))
  case atStart => exact ⟨0, none, 0, 0, rfl, rfl, by omega, by omega, ⟨fun _ => ⟨rfl, rfl⟩⟩, ⟨by simp [lv]⟩, ⟨by simpa [lv, lfs] using own_nil _ _ _ _⟩, ⟨fun k hk => by simp [Value.ownBlock] at hk⟩, ⟨Fr.refl _ _⟩⟩
  case round =>
    obtain ⟨j, B, m, d, rfl, rfl, hj, hm, HN, HL, HW, HB, HF⟩ := hrel
    by_cases h1 : j < fs.length
    · obtain ⟨a, o1, rfl, _, ha⟩ := (HS.out.frame HF.out (by simp)) (by simp [i64s]; omega)
      obtain ⟨x, hx⟩ : ∃ x, x = fs[j] := ⟨_, rfl⟩
      have ca := (ha j (by simp [i64s]; omega)).trans (by rw [i64s_get, List.getElem?_eq_getElem (by omega), ← hx])
      have hsn := lv_snoc h1
      rw [← hx] at hsn
      have HSN := Hd.mk hsn
      have hbd := of_out HO.out h1
      rw [← hx] at hbd
      clear ha hx hsn
      by_cases h2 : 0 < x
      · have hxn : (x : Int) = ((x.toNat : Nat) : Int) := by omega
        obtain ⟨y, hy⟩ : ∃ y, y = x.toNat := ⟨_, rfl⟩
        rw [← hy] at hxn
        have HY := Hd.mk hy
        clear hy
        subst hxn
        have h3 : Hd (lv (fs.take (j + 1)) 0 = lv (fs.take j) 0 ++ [(y, j)]) := ⟨by rw [HSN.out, if_pos h2, ← HY.out]⟩
        clear HSN HY
        go_wp2_with (at_builtin; refine wpList_append_sl rfl (.tmp 15) (.tmp 19) 152 rfl 155 i0 (.agg #[.int .i64 0, .int .i64 0, .slice none 0 0]) 3 40 Try.underlying152 hi0 hz0 hz1 hz2 rfl (by decide) (.slice B m d) m _ rfl (by exact HW.out.alloc _) (some ⟨wr.heap.size, 0, none⟩) 1 1 [.int .i64 (y : Nat), .int .i64 (j : Nat), .slice none 0 0] (some wr.heap.size) rfl rfl (by exact sl_of_blk (blk_new _ _)) (by intro h; cases h) (by intro u hu; simp at hu; rcases hu with rfl | rfl | rfl <;> rfl) (by unfold maxLen; omega) (by omega) ?_; intro A' c' w1 hown' hgrow haft; have O1 := Hd.mk hown'; have G1 := Hd.mk hgrow; have F1 := Hd.mk haft; clear hown' hgrow haft)
        go_roundg (gk - 1)
        case measure => go_light; omega
        case rel =>
          go_light
          refine ⟨j + 1, A', m + 1, c', by go_num, rfl, by omega, by omega, ⟨fun h => by omega⟩, ⟨by rw [h3.out, List.length_append, HL.out]; rfl⟩, ⟨?_⟩, ⟨fun k hk => ?_⟩, ⟨(HF.out.alloc _).grown G1.out (fun k hk => .inr (HB.out k hk))⟩⟩
          · rw [h3.out, lfs_app]; exact O1.out
          · rcases F1.out with h | ⟨z, h, hz⟩
            · rw [h] at hk; exact HB.out k hk
            · rw [h] at hk; cases hk
              have := HF.out.size
              simp at hz
              omega
      · have h3 : Hd (lv (fs.take (j + 1)) 0 = lv (fs.take j) 0) := ⟨by rw [HSN.out, if_neg h2, List.append_nil]⟩
        clear HSN
        go_wp2
        go_roundg (gk - 1)
        case measure => go_light; omega
        case rel => go_light; exact ⟨j + 1, B, m, d, by go_num, rfl, by omega, by omega, HN, by rw [h3.out]; exact HL, by rw [h3.out]; exact HW, HB, HF⟩
    · have hfl : fs.take j = fs := List.take_of_length_le (by omega)
      rw [hfl] at HL HW
      clear hfl
      have hso := srt_ok fs 0
      have HSO := Hd.mk hso
      clear hso
      by_cases hm0 : m = 0
      · subst hm0
        obtain ⟨rfl, rfl⟩ := HN.out rfl
        have hs0 : Hd (srt (lv fs 0) = []) := ⟨by
          have : lv fs 0 = [] := List.eq_nil_of_length_eq_zero HL.out
          rw [this]; rfl⟩
        go_wp2_with (fail)
        refine (sort_nil wr).mono ?_
        rintro e w' ⟨rfl, rfl⟩
        go_wp2
        go_ret
        rw [hs0.out]
        exact ⟨none, 0, 0, none, rfl, rfl, Nat.le_refl _, Nat.zero_le _, fun _ => ⟨rfl, rfl⟩, Sl.nil _ _ _, (fun k hk => by cases hk), HF.out⟩
      · obtain ⟨g, d', e1, hd⟩ := own_some HW.out (by omega)
        injection e1 with e1 _ e2
        subst e1 e2
        obtain ⟨L, hL⟩ : ∃ L, L = lv fs 0 := ⟨_, rfl⟩
        have hln : L.length = m := by rw [hL]; exact HL.out
        have hR : Rw wr g m (fun i => L.getD i (0, 0)) := by
          rcases HW.out.2 with ⟨h', hn0⟩ | ⟨g', cap, cur, h', hb, hh, hnc, hcm, hcs, ht⟩
          · exact absurd hn0 hm0
          · injection h' with h1 h2 h3
            injection h1 with h1
            injection h1 with h1
            subst h1
            refine ⟨cur, hh, ?_⟩
            rw [← hln, lst_eq, hL, ← ht, HL.out]
        have hdm : d ≤ maxLen := by
          obtain ⟨_, _, e, _, h, _⟩ := own_slice HW.out
          injection e with _ _ e
          rw [e]; exact h
        have hinc : ∀ i j, i < j → j < m → rk ((fun i => L.getD i (0, 0)) i) < rk ((fun i => L.getD i (0, 0)) j) := fun i j e1 e2 => by
          have := List.pairwise_iff_getElem.1 (lv_inc fs 0) i j (by rw [HL.out]; omega) (by rw [HL.out]; omega) e1
          simp only [List.getD_eq_getElem?_getD]
          rw [List.getElem?_eq_getElem (by omega), List.getElem?_eq_getElem (by omega)]
          simp only [Option.getD_some, rk]
          subst hL
          exact this
        have HR := Hd.mk hR
        have HI := Hd.mk hinc
        have HDM := Hd.mk hdm
        have HLL := Hd.mk hL
        have HLN := Hd.mk hln
        clear hR hinc hdm hL hln
        go_wp2_with (fail)
        refine (sort_any wr g m d _ HR.out (by omega) hd HI.out).mono ?_
        rintro e w1 ⟨rfl, ⟨D, r1, r2, r3⟩, r4⟩
        have hres : lst m D = srt (lv fs 0) := by
          refine srt_one (d0 := D) r3 ?_ HSO.out.1
          have e := r2
          rw [← HLN.out, lst_eq, HLL.out] at e
          rw [HL.out] at e
          exact e.trans HSO.out.2.symm
        have HRES := Hd.mk hres
        have R1 := Hd.mk r1
        have R4 := Hd.mk r4
        clear r1 r2 r3 r4 hres
        go_wp2
        go_ret
        refine ⟨some ⟨g, 0, none⟩, m, d, some g, rfl, by rw [← HRES.out, lst_len], hd, HDM.out, (fun h => by cases h), ?_, fun k hk => ?_, HF.out.trans R4.out (fun x hx hm => ?_)⟩
        · intro h0
          refine ⟨g, 0, rfl, rfl, fun j hj => ?_⟩
          rw [← HRES.out] at hj ⊢
          obtain ⟨cs, c1, c2⟩ := R1.out
          rw [lfs_len, lst_len] at hj
          rw [Nat.zero_add, blk_cell c1, ← c2, List.getElem?_take, if_pos hj, Array.getElem?_toList]
        · cases hk; exact ⟨HB.out g rfl, by have := own_lt HW.out (k := g) rfl; have := R4.out.size; omega⟩
        · simp only [List.mem_cons, List.not_mem_nil, or_false] at hm
          subst hm
          have := HB.out x rfl
          omega
end Go.Proofs.Ytkdgfioigkijgaa.Lens
/- Packages and rows (chapter 04), as the program has them. Conditions: at most 1000 items a row, weights at most 2^60. -/
set_option linter.unusedVariables false
set_option linter.unusedSimpArgs false
set_option maxRecDepth 100000
namespace Go.Proofs.Ytkdgfioigkijgaa.Lens
open Go.RowKit Go.Proofs.Ytkdgfioigkijgaa.Lib Go.Proofs.Ytkdgfioigkijgaa.Ints Go.Proofs.Ytkdgfioigkijgaa.Sorts Go.Proofs.Ytkdgfioigkijgaa.Sort Go.Proofs.Ytkdgfioigkijgaa.Pm

/-- a tree's symbol, 0 of a package -/
def sym : T → Nat
  | .leaf _ s => s
  | .pack _ _ => 0
/-- an item's cells: its weight, its symbol, and the slice of its two -/
def enc (p : T × Value) : List Value := [.int .i64 p.1.wt, .int .i64 (sym p.1), p.2]
def encs (ps : List (T × Value)) : List Value := ps.flatMap enc
theorem encs_len (ps : List (T × Value)) : (encs ps).length = ps.length * 3 := flat_len enc 3 (fun _ => rfl) ps
theorem encs_app (a b : List (T × Value)) : encs (a ++ b) = encs a ++ encs b := by simp [encs]
/-- the value stands for the tree's two -/
def Ok (w : World) (gl : Nat) : T → Value → Prop
  | .leaf _ _, v => v = .slice none 0 0
  | .pack a b, v => ∃ g off cap va vb, v = .slice (some ⟨g, off, none⟩) 2 cap ∧ g ≠ gl ∧ 2 ≤ cap ∧ Sl w (some ⟨g, off, none⟩) (enc (a, va) ++ enc (b, vb)) (some g) ∧ Ok w gl a va ∧ Ok w gl b vb
theorem Ok.frame {w w' : World} {gl : Nat} {F : List Nat} (hf : Fr w w' F) (hF : ∀ k ∈ F, k = gl) : ∀ (t : T) (v : Value), Ok w gl t v → Ok w' gl t v
  | .leaf _ _, v, h => h
  | .pack a b, v, h => by
    obtain ⟨g, off, cap, va, vb, h1, h2, h0, h3, h4, h5⟩ := h
    exact ⟨g, off, cap, va, vb, h1, h2, h0, h3.frame hf (fun k hk hm => by cases hk; exact h2 (hF _ hm)), Ok.frame hf hF a va h4, Ok.frame hf hF b vb h5⟩
theorem Ok.one {w : World} {gl : Nat} : ∀ (t : T) (v : Value), Ok w gl t v → v.oneCell' = true
  | .leaf _ _, v, h => by rw [show v = .slice none 0 0 from h]; rfl
  | .pack a b, v, h => by
    obtain ⟨g, off, cap, va, vb, rfl, _⟩ := h
    rfl
/-- an own row of items that stand for the trees -/
def RowPost (w : World) (gl : Nat) (ts : List T) (e : Ending) (w' : World) : Prop :=
  ∃ B m d ps' q', e = .returned (.slice B m d) ∧ ps'.map (·.1) = ts ∧ ps'.length = m ∧ m ≤ d ∧ d ≤ maxLen ∧ (B = none → m = 0 ∧ d = 0) ∧ Sl w' B (encs ps') q' ∧ (∀ k, q' = some k → w.heap.size ≤ k) ∧ (∀ p ∈ ps', Ok w' gl p.1 p.2) ∧ Fr w w' []
theorem encs_two (ps : List (T × Value)) (i : Nat) (h : i + 1 < ps.length) : ((encs ps).drop (i * 3)).take 6 = enc ps[i] ++ enc ps[i + 1] := by
  have e : ps = ps.take i ++ (ps[i] :: ps[i + 1] :: ps.drop (i + 2)) := by
    rw [← List.drop_eq_getElem_cons h, ← List.drop_eq_getElem_cons (by omega), List.take_append_drop]
  have hl : (encs (ps.take i)).length = i * 3 := by rw [encs_len, List.length_take, Nat.min_eq_left (by omega)]
  have e2 : encs ps = encs (ps.take i) ++ (enc ps[i] ++ (enc ps[i + 1] ++ encs (ps.drop (i + 2)))) := by
    conv => lhs; rw [e]
    rw [encs_app]; rfl
  rw [e2, List.drop_left' hl, ← List.append_assoc, List.take_left' (by simp [enc])]
theorem enc_pack (a b : T × Value) (v : Value) : enc (.pack a.1 b.1, v) = [.int .i64 ((a.1.wt : Int) + (b.1.wt : Int)), .int .i64 0, v] := by
  simp [enc, T.wt, sym]
set_option maxHeartbeats 2000000 in
theorem packed_any (w : World) (gl : Nat) (A : Option Addr) (n c : Nat) (ps : List (T × Value)) (q : Option Nat) (M : Nat) (hn : ps.length = n) (hnc : n ≤ c) (hS : Sl w A (encs ps) q) (hq : q ≠ some gl) (hok : ∀ p ∈ ps, Ok w gl p.1 p.2) (hM : ∀ p ∈ ps, p.1.wt ≤ M) (hM2 : M ≤ 1152921504606846976) (hn1 : n ≤ 1000) :
    Calls Try.prog 68 #[.slice A n c] w (RowPost w gl (pk (ps.map (·.1)))) := by
  subst hn
  have HS := Hd.mk hS
  have HOK := Hd.mk hok
  have HMM := Hd.mk hM
  have HQ := Hd.mk hq
  clear hS hok hM hq
  obtain ⟨i0, hi0, hz0, hz1, hz2⟩ := info_parts infoItem
  go_enter Try.func68, Try.ntmps68
  go_wp2
  go_loopg [3, 4] ps.length (fun kq sv iv wr => ∃ (i j : Nat) (B : Option Addr) (m d : Nat) (P : List (T × Value)), iv = .int .i64 (i : Nat) ∧ sv = .slice B m d ∧ Hd (i = 2 * j) ∧ i ≤ ps.length ∧ ps.length - i ≤ kq ∧ m ≤ 1000 ∧ Hd (P.length = m) ∧ Hd (m = j) ∧ Hd (P.map (·.1) = pk ((ps.map (·.1)).take i)) ∧ Hd (wr.ownsRow 0 155 3 (.slice B m d) m (encs P)) ∧ Hd (∀ p ∈ P, Ok w gl p.1 p.2) ∧ Hd (∀ k, (Value.slice B m d).ownBlock = some k → w.heap.size ≤ k) ∧ Hd (Fr w wr []))
  case atStart => exact ⟨0, 0, none, 0, 0, [], rfl, rfl, ⟨rfl⟩, by omega, by omega, by omega, ⟨rfl⟩, ⟨rfl⟩, ⟨rfl⟩, ⟨own_nil _ _ _ _⟩, ⟨fun p hp => by simp at hp⟩, ⟨fun k hk => by simp [Value.ownBlock] at hk⟩, ⟨Fr.refl _ _⟩⟩
  case round =>
    obtain ⟨i, j, B, m, d, P, rfl, rfl, HI, hin, hk, hm, HL, HMJ, HP, HW, HO, HB, HF⟩ := hrel
    by_cases h1 : i + 1 < ps.length
    · obtain ⟨b0, o1, rfl, hqb, ha⟩ := Sl.row (enc := enc) (sz := 3) (fun _ => rfl) (HS.out.frame HF.out (by simp)) (i := i) (by omega) (by decide)
      obtain ⟨b0', o1', e', _, hb⟩ := Sl.row (enc := enc) (sz := 3) (fun _ => rfl) (HS.out.frame HF.out (by simp)) (i := i + 1) (by omega) (by decide)
      injection e' with e'
      injection e' with e1 e2
      subst e1 e2
      obtain ⟨x, hx⟩ : ∃ x, x = ps[i] := ⟨_, rfl⟩
      obtain ⟨y, hy⟩ : ∃ y, y = ps[i + 1] := ⟨_, rfl⟩
      rw [← hx] at ha
      rw [← hy] at hb
      have ca := ha 0 (by decide)
      have cb := hb 0 (by decide)
      simp only [enc, List.getElem?_cons_zero, Nat.add_zero] at ca cb
      have hxM : x.1.wt ≤ M := HMM.out x (by rw [hx]; exact List.getElem_mem _)
      have hyM : y.1.wt ≤ M := HMM.out y (by rw [hy]; exact List.getElem_mem _)
      have HX := Hd.mk hx
      have HY := Hd.mk hy
      have HQB := Hd.mk hqb
      have hcut := run_cut_mid (P := Try.prog) 152 155 .i64 .i64 Try.underlying152 hi0 3 hz1 (some ⟨b0, o1, none⟩) ps.length c i (i + 2) (by omega) (by omega)
      rw [show cutA (some ⟨b0, o1, none⟩) c i 3 = some ⟨b0, o1 + i * 3, none⟩ from by unfold cutA; rw [if_neg (by omega)]; simp [Addr.add_lit], show i + 2 - i = 2 from by omega, show (((i + 2 : Nat)) : Int) = (i : Int) + 2 from by omega] at hcut
      clear ha hb hx hy hqb
      have hb0 : b0 < w.heap.size := by
        obtain ⟨bq, hbq, hlt⟩ := HS.out.lt (by rw [encs_len]; omega)
        rw [HQB.out] at hbq
        cases hbq
        exact hlt
      have hne : Hd (b0 ∉ (Value.slice B m d).ownBlock.toList) := ⟨by
        intro hm
        cases hob : (Value.slice B m d).ownBlock with
        | none => rw [hob] at hm; simp at hm
        | some k => rw [hob] at hm; simp at hm; subst hm; have := HB.out b0 hob; omega⟩
      have n1 : ((i : Int) + 1).toNat = i + 1 := by omega
      have n2 : IntKind.i64.wrap ((i : Int) + 1) = (i : Int) + 1 := IntWalk.i64_in _ (by omega)
      have n3 : IntKind.i64.wrap ((i : Int) + 2) = (i : Int) + 2 := IntWalk.i64_in _ (by omega)
      have n4 : IntKind.i64.wrap ((x.1.wt : Int) + (y.1.wt : Int)) = (x.1.wt : Int) + (y.1.wt : Int) := IntWalk.i64_in _ (by omega)
      have n5 : (0 : Int) ≤ (i : Int) + 1 := by omega
      have n6 : (i : Int) < ps.length := by omega
      have n7 : (i : Int) + 1 < ps.length := by omega
      go_upto_region 5 with (fail)
      go_region_held3 (fun w' => w'.cell? ⟨b0, o1 + i * 3, none⟩ = some (.int .i64 x.1.wt) ∧ w'.cell? ⟨b0, o1 + (i + 1) * 3, none⟩ = some (.int .i64 y.1.wt)) (go_keep)
        (first | (refine step_append_sl rfl (.tmp 12) (.tmp 31) 152 rfl 155 i0 (.agg #[.int .i64 0, .int .i64 0, .slice none 0 0]) 3 40 Try.underlying152 hi0 hz0 hz1 hz2 rfl (by decide) (.slice B m d) m (encs P) (by simp [Act.eval, Act.put]) (by exact HW.out.alloc _) (some ⟨wr.heap.size, 0, none⟩) 1 1 [.int .i64 ((x.1.wt : Int) + (y.1.wt : Int)), .int .i64 0, .slice (some ⟨b0, o1 + i * 3, none⟩) 2 (c - i)] (some wr.heap.size) (by simp [Act.eval, Act.put]) rfl (by exact sl_of_blk (blk_new _ _)) (by intro h; cases h) (by intro u hu; simp at hu; rcases hu with rfl | rfl | rfl <;> rfl) (by unfold maxLen; omega) (by omega) ?_; intro A3 d3 w3 hown' hgrow haft; have O3 := Hd.mk hown'; have G3 := Hd.mk hgrow; have F3 := Hd.mk haft; have KF := Fr.grown (w := wr) (F := (Value.slice B m d).ownBlock.toList) (by first | exact (Fr.refl wr _).drew.alloc _ | exact ((Fr.refl wr _).alloc _).drew | exact (Fr.refl wr _).alloc _) hgrow (fun k hk => .inl (by rw [hk]; simp)); have k1 := Fr.cellAt KF hne.out ca; have k2 := Fr.cellAt KF hne.out cb; have HKF := Hd.mk KF; clear hown' hgrow haft KF))
      have HSL : Hd (Sl w (some ⟨b0, o1 + i * 3, none⟩) (enc (x.1, x.2) ++ enc (y.1, y.2)) (some b0)) := ⟨by
        have h5 := (HS.out.drop (i * 3)).take 6
        rw [encs_two ps i h1, ← HX.out, ← HY.out, HQB.out] at h5
        exact h5⟩
      clear n1 n2 n3 n4 n5 n6 n7 ca cb k1 k2 hcut
      go_wp2
      go_roundg (gk - 1)
      case measure => go_light; omega
      case rel =>
        go_light
        refine ⟨i + 2, j + 1, A3, m + 1, d3, P ++ [(.pack x.1 y.1, .slice (some ⟨b0, o1 + i * 3, none⟩) 2 (c - i))], by go_num, rfl, ⟨by have := HI.out; omega⟩, by omega, by omega, by have := HI.out; have := HMJ.out; omega, ⟨by rw [List.length_append, HL.out]; rfl⟩, ⟨by rw [HMJ.out]⟩, ⟨?_⟩, ⟨?_⟩, ⟨fun p hp => ?_⟩, ⟨fun k hk => ?_⟩, ⟨HF.out.trans HKF.out (fun k _ hk => ?_)⟩⟩
        · have h6 := pk_get (ps.map (·.1)) j (by rw [List.length_map]; have := HI.out; omega)
          have hi2 : i + 2 = 2 * (j + 1) := by have := HI.out; omega
          rw [List.map_append, HP.out, hi2, ← pk_take, HI.out, ← pk_take, List.take_add_one, h6]
          simp only [List.getElem_map, List.map_cons, List.map_nil, Option.toList]
          have hI := HI.out
          subst hI
          rw [HX.out, HY.out]
        · rw [encs_app]
          have h7 := O3.out
          rw [← enc_pack x y] at h7
          simpa [encs] using h7
        · rcases List.mem_append.1 hp with hp | hp
          · exact HO.out p hp
          · simp only [List.mem_cons, List.not_mem_nil, or_false] at hp
            subst hp
            exact ⟨b0, o1 + i * 3, c - i, x.2, y.2, rfl, fun e => by have := HQ.out; rw [HQB.out, e] at this; exact this rfl, by omega, HSL.out, HOK.out x (by rw [HX.out]; exact List.getElem_mem _), HOK.out y (by rw [HY.out]; exact List.getElem_mem _)⟩
        · rcases F3.out with h | ⟨z, h, hz⟩
          · rw [h] at hk; exact HB.out k hk
          · rw [h] at hk; cases hk
            have := HF.out.size
            simp at hz
            omega
        · cases hob : (Value.slice B m d).ownBlock with
          | none => rw [hob] at hk; simp at hk
          | some z => rw [hob] at hk; simp at hk; subst hk; have := HB.out k hob; omega
    · go_wp2
      go_ret
      obtain ⟨A', c', e, h2, h3, h4⟩ := own_slice HW.out
      injection e with e1 _ e2
      subst e1 e2
      have hpk : pk ((ps.map (·.1)).take i) = pk (ps.map (·.1)) := by
        have hI := HI.out
        rw [hI, ← pk_take, List.take_of_length_le (by rw [pk_len, List.length_map]; omega)]
      unfold RowPost
      refine ⟨B, m, d, P, (Value.slice B m d).ownBlock, rfl, by rw [HP.out, hpk], HL.out, h2, h3, fun h => own_none HW.out h, ?_, HB.out, fun p hp => Ok.frame HF.out (by simp) p.1 p.2 (HO.out p hp), HF.out⟩
      intro h0
      rcases HW.out.2 with ⟨h', hn0⟩ | ⟨g', cap, cur, h', hb, hh, hnc, hcm, hcs, ht⟩
      · rw [encs_len, HL.out, hn0] at h0; omega
      · injection h' with h1 h2 h3
        subst h1
        refine ⟨g', 0, rfl, rfl, fun k hk => ?_⟩
        have hl := encs_len P
        rw [HL.out] at hl
        rw [Nat.zero_add, blk_cell hh, ← ht, List.getElem?_take, if_pos (by omega), Array.getElem?_toList]
end Go.Proofs.Ytkdgfioigkijgaa.Lens
/- Two rows merged (chapter 04), as the program has it. Conditions: at most 1000 items a row. -/
set_option linter.unusedVariables false
set_option linter.unusedSimpArgs false
set_option maxRecDepth 100000
namespace Go.Proofs.Ytkdgfioigkijgaa.Lens
open Go.RowKit Go.Proofs.Ytkdgfioigkijgaa.Lib Go.Proofs.Ytkdgfioigkijgaa.Ints Go.Proofs.Ytkdgfioigkijgaa.Sorts Go.Proofs.Ytkdgfioigkijgaa.Sort Go.Proofs.Ytkdgfioigkijgaa.Pm

def mgp (a b : List (T × Value)) : List (T × Value) := a.merge b (fun p q => le p.1 q.1)
theorem mgp_map (a b : List (T × Value)) : (mgp a b).map (·.1) = mg (a.map (·.1)) (b.map (·.1)) := by
  unfold mgp mg
  induction a generalizing b with
  | nil => simp
  | cons x a iha =>
    induction b with
    | nil => simp
    | cons y b ihb =>
      rw [List.cons_merge_cons, List.map_cons, List.map_cons, List.cons_merge_cons]
      by_cases h : le x.1 y.1 = true
      · rw [if_pos h, if_pos h, List.map_cons, iha (y :: b), List.map_cons]
      · rw [if_neg h, if_neg h, List.map_cons, ihb, List.map_cons]
theorem mgp_perm (a b : List (T × Value)) : (mgp a b).Perm (a ++ b) := List.merge_perm_append _
theorem mgp_a {x : T × Value} {a b : List (T × Value)} (h : ∀ y ∈ b.head?, x.1.wt ≤ y.1.wt) : mgp (x :: a) b = x :: mgp a b := by
  unfold mgp
  cases b with
  | nil => simp
  | cons y b => rw [List.cons_merge_cons, if_pos (by unfold le; simpa using h y (by simp))]
theorem mgp_b {y : T × Value} {a b : List (T × Value)} (h : ∀ x ∈ a.head?, ¬ x.1.wt ≤ y.1.wt) : mgp a (y :: b) = y :: mgp a b := by
  unfold mgp
  cases a with
  | nil => simp
  | cons x a => rw [List.cons_merge_cons, if_neg (by unfold le; simpa using h x (by simp))]
/-- elements of three cells: the rest of a slice -/
theorem Sl.cut3 {w : World} {A : Option Addr} {ps : List (T × Value)} {q : Option Nat} {n c : Nat} (h : Sl w A (encs ps) q) (hl : ps.length = n) (hnc : n ≤ c) (hk : 0 < n) : Sl w (cutA A c 1 3) (encs (ps.drop 1)) q := by
  intro hx
  rw [encs_len, List.length_drop] at hx
  obtain ⟨b, off, rfl, hq, hc⟩ := h (by rw [encs_len]; omega)
  have e : encs (ps.drop 1) = (encs ps).drop 3 := by
    cases ps with
    | nil => rfl
    | cons p ps => simp [encs, enc]
  refine ⟨b, off + 3, ?_, hq, fun j hj => ?_⟩
  · unfold cutA
    rw [if_neg (by omega)]
    simp [Addr.add_lit]
  · rw [e] at hj ⊢
    rw [List.length_drop, encs_len] at hj
    rw [Nat.add_assoc, hc (3 + j) (by rw [encs_len]; omega), List.getElem?_drop]
set_option maxHeartbeats 4000000 in
theorem merged_any (w : World) (gl : Nat) (A B : Option Addr) (n c m d : Nat) (ps qs : List (T × Value)) (qa qb : Option Nat) (hn : ps.length = n) (hm : qs.length = m) (hnc : n ≤ c) (hmd : m ≤ d) (hS : Sl w A (encs ps) qa) (hT : Sl w B (encs qs) qb)
    (hok : ∀ p ∈ ps, Ok w gl p.1 p.2) (hok2 : ∀ p ∈ qs, Ok w gl p.1 p.2) (hn1 : n ≤ 1000) (hm1 : m ≤ 1000) :
    Calls Try.prog 67 #[.slice A n c, .slice B m d] w (RowPost w gl (mg (ps.map (·.1)) (qs.map (·.1)))) := by
  subst hn hm
  have HS := Hd.mk hS
  have HT := Hd.mk hT
  have HOK := Hd.mk hok
  have HOK2 := Hd.mk hok2
  clear hS hT hok hok2
  obtain ⟨i0, hi0, hz0, hz1, hz2⟩ := info_parts infoItem
  obtain ⟨N, hN⟩ : ∃ N, N = ps.length + qs.length := ⟨_, rfl⟩
  have hsum : (ps.length : Int) + (qs.length : Int) = (N : Int) := by omega
  have HN := Hd.mk hN
  have hN2 : N ≤ 2000 := by omega
  clear hN
  go_enter Try.func67, Try.ntmps67
  go_wp2_with (refine wpList_make_own _ rfl _ _ 152 rfl 0 155 i0 (.agg #[.int .i64 0, .int .i64 0, .slice none 0 0]) 3 Try.underlying152 hi0 hz0 hz1 .i64 .i64 _ N rfl rfl rfl (by rw [hz2]; omega) (by unfold maxLen; omega) (Nat.zero_le _) ?_; intro w3 hown1 hgrow1; have O0 := Hd.mk hown1; have F3 := Hd.mk ((Fr.refl w []).grown hgrow1 (by simp)); clear hown1 hgrow1)
  have B0 : Hd (∀ y, (Value.slice (some ⟨w.heap.size, 0, none⟩) 0 N).ownBlock = some y → w.heap.size ≤ y) := ⟨by intro y hy; cases hy; exact Nat.le_refl _⟩
  clear hsum
  go_loopg [0, 1, 5] (ps.length + qs.length) (fun kq av bv lv wr => ∃ (A1 : Option Addr) (n1 c1 : Nat) (B1 : Option Addr) (m1 d1 : Nat) (L1 : Option Addr) (k dl : Nat) (xs ys P : List (T × Value)), av = .slice A1 n1 c1 ∧ bv = .slice B1 m1 d1 ∧ lv = .slice L1 k dl ∧ n1 ≤ c1 ∧ m1 ≤ d1 ∧ n1 + m1 ≤ kq ∧ k + n1 + m1 ≤ 2000 ∧ Hd (xs.length = n1) ∧ Hd (ys.length = m1) ∧ Hd (P.length = k) ∧ Hd (Sl w A1 (encs xs) qa) ∧ Hd (Sl w B1 (encs ys) qb) ∧ Hd (P ++ mgp xs ys = mgp ps qs) ∧ Hd (wr.ownsRow 0 155 3 (.slice L1 k dl) k (encs P)) ∧ Hd (∀ z, (Value.slice L1 k dl).ownBlock = some z → w.heap.size ≤ z) ∧ Hd (Fr w wr []))
  case atStart => exact ⟨A, ps.length, c, B, qs.length, d, some ⟨w.heap.size, 0, none⟩, 0, N, ps, qs, [], rfl, rfl, rfl, hnc, hmd, by omega, by omega, ⟨rfl⟩, ⟨rfl⟩, ⟨rfl⟩, HS, HT, ⟨rfl⟩, O0, B0, F3⟩
  case round =>
    obtain ⟨A1, n1, c1, B1, m1, d1, L1, k, dl, xs, ys, P, rfl, rfl, rfl, hnc1, hmd1, hk, hkl, HLX, HLY, HLP, HSX, HSY, HM, HW, HB, HF⟩ := hrel
    have HPM : Hd (∀ z ∈ P ++ mgp xs ys, Ok w gl z.1 z.2) := ⟨fun z hz => by
      rw [HM.out] at hz
      rcases List.mem_append.1 ((mgp_perm ps qs).mem_iff.1 hz) with h | h
      · exact HOK.out z h
      · exact HOK2.out z h⟩
    have HAX : Hd (∀ z ∈ xs, Ok w gl z.1 z.2) := ⟨fun z hz => HPM.out z (List.mem_append.2 (.inr ((mgp_perm xs ys).mem_iff.2 (List.mem_append.2 (.inl hz)))))⟩
    have HAY : Hd (∀ z ∈ ys, Ok w gl z.1 z.2) := ⟨fun z hz => HPM.out z (List.mem_append.2 (.inr ((mgp_perm xs ys).mem_iff.2 (List.mem_append.2 (.inr hz)))))⟩
    by_cases hx0 : 0 < n1
    · by_cases hy0 : 0 < m1
      · have hm0 : ((m1 : Int) == 0) = false := by simp; omega
        have hxl : 0 < xs.length := by rw [HLX.out]; exact hx0
        obtain ⟨b0, o1, rfl, hqx, hax⟩ := Sl.row (enc := enc) (sz := 3) (fun _ => rfl) (HSX.out.frame HF.out (by simp)) (i := 0) hxl (by decide)
        obtain ⟨x, hxe⟩ : ∃ x, x = xs[0] := ⟨_, rfl⟩
        rw [← hxe] at hax
        have cx0 := hax 0 (by decide)
        have cx1 := hax 1 (by decide)
        have cx2 := hax 2 (by decide)
        simp only [enc, List.getElem?_cons_zero, List.getElem?_cons_succ, Nat.add_zero, Nat.zero_mul] at cx0 cx1 cx2
        have hbx : b0 < w.heap.size := by
          obtain ⟨bq, hbq, hlt⟩ := HSX.out.lt (by rw [encs_len]; omega)
          rw [hqx] at hbq
          cases hbq
          exact hlt
        have xne : Hd (b0 ∉ (Value.slice L1 k dl).ownBlock.toList) := ⟨by
          intro hm
          cases hob : (Value.slice L1 k dl).ownBlock with
          | none => rw [hob] at hm; simp at hm
          | some u => rw [hob] at hm; simp at hm; subst hm; have := HB.out b0 hob; omega⟩
        have xe : Hd (xs = x :: xs.drop 1) := ⟨by rw [hxe, ← List.drop_eq_getElem_cons hxl, List.drop_zero]⟩
        have xone : Hd (∀ u ∈ enc (x.1, x.2), u.oneCell' = true) := ⟨by
          intro u hu
          simp only [enc, List.mem_cons, List.not_mem_nil, or_false] at hu
          rcases hu with rfl | rfl | rfl
          · rfl
          · rfl
          · exact Ok.one _ _ (HAX.out x (by rw [xe.out]; simp))⟩
        have hcutx := run_cut_from (P := Try.prog) 152 155 .i64 Try.underlying152 hi0 3 hz1 (some ⟨b0, o1, none⟩) n1 c1 1 (by omega)
        rw [show ((1 : Nat) : Int) = 1 from rfl] at hcutx
        clear hax hqx hxe
        have hyl : 0 < ys.length := by rw [HLY.out]; exact hy0
        obtain ⟨b1, o2, rfl, hqy, hay⟩ := Sl.row (enc := enc) (sz := 3) (fun _ => rfl) (HSY.out.frame HF.out (by simp)) (i := 0) hyl (by decide)
        obtain ⟨y, hye⟩ : ∃ y, y = ys[0] := ⟨_, rfl⟩
        rw [← hye] at hay
        have cy0 := hay 0 (by decide)
        have cy1 := hay 1 (by decide)
        have cy2 := hay 2 (by decide)
        simp only [enc, List.getElem?_cons_zero, List.getElem?_cons_succ, Nat.add_zero, Nat.zero_mul] at cy0 cy1 cy2
        have hby : b1 < w.heap.size := by
          obtain ⟨bq, hbq, hlt⟩ := HSY.out.lt (by rw [encs_len]; omega)
          rw [hqy] at hbq
          cases hbq
          exact hlt
        have yne : Hd (b1 ∉ (Value.slice L1 k dl).ownBlock.toList) := ⟨by
          intro hm
          cases hob : (Value.slice L1 k dl).ownBlock with
          | none => rw [hob] at hm; simp at hm
          | some u => rw [hob] at hm; simp at hm; subst hm; have := HB.out b1 hob; omega⟩
        have ye : Hd (ys = y :: ys.drop 1) := ⟨by rw [hye, ← List.drop_eq_getElem_cons hyl, List.drop_zero]⟩
        have yone : Hd (∀ u ∈ enc (y.1, y.2), u.oneCell' = true) := ⟨by
          intro u hu
          simp only [enc, List.mem_cons, List.not_mem_nil, or_false] at hu
          rcases hu with rfl | rfl | rfl
          · rfl
          · rfl
          · exact Ok.one _ _ (HAY.out y (by rw [ye.out]; simp))⟩
        have hcuty := run_cut_from (P := Try.prog) 152 155 .i64 Try.underlying152 hi0 3 hz1 (some ⟨b1, o2, none⟩) m1 d1 1 (by omega)
        rw [show ((1 : Nat) : Int) = 1 from rfl] at hcuty
        clear hay hqy hye
        by_cases hle : x.1.wt ≤ y.1.wt
        · have HST : Hd (mgp xs ys = x :: mgp (xs.drop 1) ys) := ⟨by
   conv => lhs; rw [xe.out]
   exact mgp_a (fun z hz => by rw [ye.out] at hz; simp at hz; subst hz; exact hle)⟩
          have hd : decide ((x.1.wt : Int) ≤ (y.1.wt : Int)) = true := decide_eq_true (by omega)
          go_upto_region 3 with (fail)
          go_region
          clear hd hm0
          go_upto_region 4 with (fail)
          go_region_held3 (fun w' => w'.cell? ⟨b0, o1, none⟩ = some (.int .i64 x.1.wt) ∧ w'.cell? ⟨b0, o1 + 1, none⟩ = some (.int .i64 (sym x.1)) ∧ w'.cell? ⟨b0, o1 + 2, none⟩ = some x.2) (go_keep)
            (first | (refine step_append_sl rfl (.tmp 39) (.tmp 43) 152 rfl 155 i0 (.agg #[.int .i64 0, .int .i64 0, .slice none 0 0]) 3 40 Try.underlying152 hi0 hz0 hz1 hz2 rfl (by decide) (.slice L1 k dl) k (encs P) (by simp [Act.eval, Act.put]) (by exact HW.out.alloc _) (some ⟨wr.heap.size, 0, none⟩) 1 1 (enc (x.1, x.2)) (some wr.heap.size) (by simp [Act.eval, Act.put]) rfl (by exact sl_of_blk (blk_new _ _)) (by intro h; cases h) (by exact xone.out) (by unfold maxLen; omega) (by omega) ?_; intro A3 d3 w3 hown' hgrow haft; have O3 := Hd.mk hown'; have G3 := Hd.mk hgrow; have F4 := Hd.mk haft; have KF := Fr.grown (w := wr) (F := (Value.slice L1 k dl).ownBlock.toList) (by first | exact ((Fr.refl wr _).alloc _).drew.drew | exact (Fr.refl wr _).drew.alloc _ | exact ((Fr.refl wr _).alloc _).drew | exact (Fr.refl wr _).alloc _) hgrow (fun k hk => .inl (by rw [hk]; simp)); have k1 := Fr.cellAt KF xne.out cx0; have k2 := Fr.cellAt KF xne.out cx1; have k3 := Fr.cellAt KF xne.out cx2; have HKF := Hd.mk KF; clear hown' hgrow haft KF))
          clear cx0 cx1 cx2 k1 k2 k3 hcutx
          go_wp2
          go_roundg (gk - 1)
          case measure => go_light; omega
          case rel =>
            go_light
            refine ⟨_, n1 - 1, c1 - 1, _, _, _, A3, k + 1, d3, xs.drop 1, ys, P ++ [x], rfl, rfl, rfl, by omega, by omega, by omega, by omega, ⟨by rw [List.length_drop, HLX.out]⟩, HLY, ⟨by rw [List.length_append, HLP.out]; rfl⟩, ⟨Sl.cut3 HSX.out HLX.out hnc1 hx0⟩, HSY, ⟨?_⟩, ⟨?_⟩, ⟨fun z hz => ?_⟩, ⟨HF.out.trans HKF.out (fun z _ hz => ?_)⟩⟩
            · rw [← HM.out, HST.out, List.append_assoc]; rfl
            · rw [encs_app]; have h7 := O3.out; simpa [encs] using h7
            · rcases F4.out with h | ⟨u, h, hu⟩
              · rw [h] at hz; exact HB.out z hz
              · rw [h] at hz; cases hz
                have := HF.out.size
                simp at hu
                omega
            · cases hob : (Value.slice L1 k dl).ownBlock with
              | none => rw [hob] at hz; simp at hz
              | some u => rw [hob] at hz; simp at hz; subst hz; have := HB.out z hob; omega
        · have HST : Hd (mgp xs ys = y :: mgp xs (ys.drop 1)) := ⟨by
   conv => lhs; rw [ye.out]
   exact mgp_b (fun z hz => by rw [xe.out] at hz; simp at hz; subst hz; exact hle)⟩
          have hd : decide ((x.1.wt : Int) ≤ (y.1.wt : Int)) = false := decide_eq_false (by omega)
          go_upto_region 3 with (fail)
          go_region
          clear hd hm0
          go_upto_region 5 with (fail)
          go_region_held3 (fun w' => w'.cell? ⟨b1, o2, none⟩ = some (.int .i64 y.1.wt) ∧ w'.cell? ⟨b1, o2 + 1, none⟩ = some (.int .i64 (sym y.1)) ∧ w'.cell? ⟨b1, o2 + 2, none⟩ = some y.2) (go_keep)
            (first | (refine step_append_sl rfl (.tmp 47) (.tmp 51) 152 rfl 155 i0 (.agg #[.int .i64 0, .int .i64 0, .slice none 0 0]) 3 40 Try.underlying152 hi0 hz0 hz1 hz2 rfl (by decide) (.slice L1 k dl) k (encs P) (by simp [Act.eval, Act.put]) (by exact HW.out.alloc _) (some ⟨wr.heap.size, 0, none⟩) 1 1 (enc (y.1, y.2)) (some wr.heap.size) (by simp [Act.eval, Act.put]) rfl (by exact sl_of_blk (blk_new _ _)) (by intro h; cases h) (by exact yone.out) (by unfold maxLen; omega) (by omega) ?_; intro A3 d3 w3 hown' hgrow haft; have O3 := Hd.mk hown'; have G3 := Hd.mk hgrow; have F4 := Hd.mk haft; have KF := Fr.grown (w := wr) (F := (Value.slice L1 k dl).ownBlock.toList) (by first | exact ((Fr.refl wr _).alloc _).drew.drew | exact (Fr.refl wr _).drew.alloc _ | exact ((Fr.refl wr _).alloc _).drew | exact (Fr.refl wr _).alloc _) hgrow (fun k hk => .inl (by rw [hk]; simp)); have k1 := Fr.cellAt KF yne.out cy0; have k2 := Fr.cellAt KF yne.out cy1; have k3 := Fr.cellAt KF yne.out cy2; have HKF := Hd.mk KF; clear hown' hgrow haft KF))
          clear cy0 cy1 cy2 k1 k2 k3 hcuty
          go_wp2
          go_roundg (gk - 1)
          case measure => go_light; omega
          case rel =>
            go_light
            refine ⟨_, _, _, _, m1 - 1, d1 - 1, A3, k + 1, d3, xs, ys.drop 1, P ++ [y], rfl, rfl, rfl, by omega, by omega, by omega, by omega, HLX, ⟨by rw [List.length_drop, HLY.out]⟩, ⟨by rw [List.length_append, HLP.out]; rfl⟩, HSX, ⟨Sl.cut3 HSY.out HLY.out hmd1 hy0⟩, ⟨?_⟩, ⟨?_⟩, ⟨fun z hz => ?_⟩, ⟨HF.out.trans HKF.out (fun z _ hz => ?_)⟩⟩
            · rw [← HM.out, HST.out, List.append_assoc]; rfl
            · rw [encs_app]; have h7 := O3.out; simpa [encs] using h7
            · rcases F4.out with h | ⟨u, h, hu⟩
              · rw [h] at hz; exact HB.out z hz
              · rw [h] at hz; cases hz
                have := HF.out.size
                simp at hu
                omega
            · cases hob : (Value.slice L1 k dl).ownBlock with
              | none => rw [hob] at hz; simp at hz
              | some u => rw [hob] at hz; simp at hz; subst hz; have := HB.out z hob; omega
      · obtain rfl : m1 = 0 := by omega
        have hy00 : ys = [] := List.eq_nil_of_length_eq_zero HLY.out
        subst hy00
        have hm0 : (((0 : Nat) : Int) == 0) = true := by simp
        have hxl : 0 < xs.length := by rw [HLX.out]; exact hx0
        obtain ⟨b0, o1, rfl, hqx, hax⟩ := Sl.row (enc := enc) (sz := 3) (fun _ => rfl) (HSX.out.frame HF.out (by simp)) (i := 0) hxl (by decide)
        obtain ⟨x, hxe⟩ : ∃ x, x = xs[0] := ⟨_, rfl⟩
        rw [← hxe] at hax
        have cx0 := hax 0 (by decide)
        have cx1 := hax 1 (by decide)
        have cx2 := hax 2 (by decide)
        simp only [enc, List.getElem?_cons_zero, List.getElem?_cons_succ, Nat.add_zero, Nat.zero_mul] at cx0 cx1 cx2
        have hbx : b0 < w.heap.size := by
          obtain ⟨bq, hbq, hlt⟩ := HSX.out.lt (by rw [encs_len]; omega)
          rw [hqx] at hbq
          cases hbq
          exact hlt
        have xne : Hd (b0 ∉ (Value.slice L1 k dl).ownBlock.toList) := ⟨by
          intro hm
          cases hob : (Value.slice L1 k dl).ownBlock with
          | none => rw [hob] at hm; simp at hm
          | some u => rw [hob] at hm; simp at hm; subst hm; have := HB.out b0 hob; omega⟩
        have xe : Hd (xs = x :: xs.drop 1) := ⟨by rw [hxe, ← List.drop_eq_getElem_cons hxl, List.drop_zero]⟩
        have xone : Hd (∀ u ∈ enc (x.1, x.2), u.oneCell' = true) := ⟨by
          intro u hu
          simp only [enc, List.mem_cons, List.not_mem_nil, or_false] at hu
          rcases hu with rfl | rfl | rfl
          · rfl
          · rfl
          · exact Ok.one _ _ (HAX.out x (by rw [xe.out]; simp))⟩
        have hcutx := run_cut_from (P := Try.prog) 152 155 .i64 Try.underlying152 hi0 3 hz1 (some ⟨b0, o1, none⟩) n1 c1 1 (by omega)
        rw [show ((1 : Nat) : Int) = 1 from rfl] at hcutx
        clear hax hqx hxe
        have HST : Hd (mgp xs [] = x :: mgp (xs.drop 1) []) := ⟨by
          conv => lhs; rw [xe.out]
          exact mgp_a (fun z hz => by simp at hz)⟩
        go_upto_region 3 with (fail)
        go_region
        clear hm0
        go_upto_region 4 with (fail)
        go_region_held3 (fun w' => w'.cell? ⟨b0, o1, none⟩ = some (.int .i64 x.1.wt) ∧ w'.cell? ⟨b0, o1 + 1, none⟩ = some (.int .i64 (sym x.1)) ∧ w'.cell? ⟨b0, o1 + 2, none⟩ = some x.2) (go_keep)
          (first | (refine step_append_sl rfl (.tmp 39) (.tmp 43) 152 rfl 155 i0 (.agg #[.int .i64 0, .int .i64 0, .slice none 0 0]) 3 40 Try.underlying152 hi0 hz0 hz1 hz2 rfl (by decide) (.slice L1 k dl) k (encs P) (by simp [Act.eval, Act.put]) (by exact HW.out.alloc _) (some ⟨wr.heap.size, 0, none⟩) 1 1 (enc (x.1, x.2)) (some wr.heap.size) (by simp [Act.eval, Act.put]) rfl (by exact sl_of_blk (blk_new _ _)) (by intro h; cases h) (by exact xone.out) (by unfold maxLen; omega) (by omega) ?_; intro A3 d3 w3 hown' hgrow haft; have O3 := Hd.mk hown'; have G3 := Hd.mk hgrow; have F4 := Hd.mk haft; have KF := Fr.grown (w := wr) (F := (Value.slice L1 k dl).ownBlock.toList) (by first | exact ((Fr.refl wr _).alloc _).drew.drew | exact (Fr.refl wr _).drew.alloc _ | exact ((Fr.refl wr _).alloc _).drew | exact (Fr.refl wr _).alloc _) hgrow (fun k hk => .inl (by rw [hk]; simp)); have k1 := Fr.cellAt KF xne.out cx0; have k2 := Fr.cellAt KF xne.out cx1; have k3 := Fr.cellAt KF xne.out cx2; have HKF := Hd.mk KF; clear hown' hgrow haft KF))
        clear cx0 cx1 cx2 k1 k2 k3 hcutx
        go_wp2
        go_roundg (gk - 1)
        case measure => go_light; omega
        case rel =>
          go_light
          refine ⟨_, n1 - 1, c1 - 1, _, _, _, A3, k + 1, d3, xs.drop 1, [], P ++ [x], rfl, rfl, rfl, by omega, by omega, by omega, by omega, ⟨by rw [List.length_drop, HLX.out]⟩, HLY, ⟨by rw [List.length_append, HLP.out]; rfl⟩, ⟨Sl.cut3 HSX.out HLX.out hnc1 hx0⟩, HSY, ⟨?_⟩, ⟨?_⟩, ⟨fun z hz => ?_⟩, ⟨HF.out.trans HKF.out (fun z _ hz => ?_)⟩⟩
          · rw [← HM.out, HST.out, List.append_assoc]; rfl
          · rw [encs_app]; have h7 := O3.out; simpa [encs] using h7
          · rcases F4.out with h | ⟨u, h, hu⟩
            · rw [h] at hz; exact HB.out z hz
            · rw [h] at hz; cases hz
              have := HF.out.size
              simp at hu
              omega
          · cases hob : (Value.slice L1 k dl).ownBlock with
            | none => rw [hob] at hz; simp at hz
            | some u => rw [hob] at hz; simp at hz; subst hz; have := HB.out z hob; omega
    · obtain rfl : n1 = 0 := by omega
      have hx00 : xs = [] := List.eq_nil_of_length_eq_zero HLX.out
      subst hx00
      by_cases hy0 : 0 < m1
      · have hm0 : ((m1 : Int) == 0) = false := by simp; omega
        have hyl : 0 < ys.length := by rw [HLY.out]; exact hy0
        obtain ⟨b1, o2, rfl, hqy, hay⟩ := Sl.row (enc := enc) (sz := 3) (fun _ => rfl) (HSY.out.frame HF.out (by simp)) (i := 0) hyl (by decide)
        obtain ⟨y, hye⟩ : ∃ y, y = ys[0] := ⟨_, rfl⟩
        rw [← hye] at hay
        have cy0 := hay 0 (by decide)
        have cy1 := hay 1 (by decide)
        have cy2 := hay 2 (by decide)
        simp only [enc, List.getElem?_cons_zero, List.getElem?_cons_succ, Nat.add_zero, Nat.zero_mul] at cy0 cy1 cy2
        have hby : b1 < w.heap.size := by
          obtain ⟨bq, hbq, hlt⟩ := HSY.out.lt (by rw [encs_len]; omega)
          rw [hqy] at hbq
          cases hbq
          exact hlt
        have yne : Hd (b1 ∉ (Value.slice L1 k dl).ownBlock.toList) := ⟨by
          intro hm
          cases hob : (Value.slice L1 k dl).ownBlock with
          | none => rw [hob] at hm; simp at hm
          | some u => rw [hob] at hm; simp at hm; subst hm; have := HB.out b1 hob; omega⟩
        have ye : Hd (ys = y :: ys.drop 1) := ⟨by rw [hye, ← List.drop_eq_getElem_cons hyl, List.drop_zero]⟩
        have yone : Hd (∀ u ∈ enc (y.1, y.2), u.oneCell' = true) := ⟨by
          intro u hu
          simp only [enc, List.mem_cons, List.not_mem_nil, or_false] at hu
          rcases hu with rfl | rfl | rfl
          · rfl
          · rfl
          · exact Ok.one _ _ (HAY.out y (by rw [ye.out]; simp))⟩
        have hcuty := run_cut_from (P := Try.prog) 152 155 .i64 Try.underlying152 hi0 3 hz1 (some ⟨b1, o2, none⟩) m1 d1 1 (by omega)
        rw [show ((1 : Nat) : Int) = 1 from rfl] at hcuty
        clear hay hqy hye
        have HST : Hd (mgp [] ys = y :: mgp [] (ys.drop 1)) := ⟨by
          conv => lhs; rw [ye.out]
          exact mgp_b (fun z hz => by simp at hz)⟩
        go_upto_region 3 with (fail)
        go_region
        clear hm0
        go_upto_region 5 with (fail)
        go_region_held3 (fun w' => w'.cell? ⟨b1, o2, none⟩ = some (.int .i64 y.1.wt) ∧ w'.cell? ⟨b1, o2 + 1, none⟩ = some (.int .i64 (sym y.1)) ∧ w'.cell? ⟨b1, o2 + 2, none⟩ = some y.2) (go_keep)
          (first | (refine step_append_sl rfl (.tmp 47) (.tmp 51) 152 rfl 155 i0 (.agg #[.int .i64 0, .int .i64 0, .slice none 0 0]) 3 40 Try.underlying152 hi0 hz0 hz1 hz2 rfl (by decide) (.slice L1 k dl) k (encs P) (by simp [Act.eval, Act.put]) (by exact HW.out.alloc _) (some ⟨wr.heap.size, 0, none⟩) 1 1 (enc (y.1, y.2)) (some wr.heap.size) (by simp [Act.eval, Act.put]) rfl (by exact sl_of_blk (blk_new _ _)) (by intro h; cases h) (by exact yone.out) (by unfold maxLen; omega) (by omega) ?_; intro A3 d3 w3 hown' hgrow haft; have O3 := Hd.mk hown'; have G3 := Hd.mk hgrow; have F4 := Hd.mk haft; have KF := Fr.grown (w := wr) (F := (Value.slice L1 k dl).ownBlock.toList) (by first | exact ((Fr.refl wr _).alloc _).drew.drew | exact (Fr.refl wr _).drew.alloc _ | exact ((Fr.refl wr _).alloc _).drew | exact (Fr.refl wr _).alloc _) hgrow (fun k hk => .inl (by rw [hk]; simp)); have k1 := Fr.cellAt KF yne.out cy0; have k2 := Fr.cellAt KF yne.out cy1; have k3 := Fr.cellAt KF yne.out cy2; have HKF := Hd.mk KF; clear hown' hgrow haft KF))
        clear cy0 cy1 cy2 k1 k2 k3 hcuty
        go_wp2
        go_roundg (gk - 1)
        case measure => go_light; omega
        case rel =>
          go_light
          refine ⟨_, _, _, _, m1 - 1, d1 - 1, A3, k + 1, d3, [], ys.drop 1, P ++ [y], rfl, rfl, rfl, by omega, by omega, by omega, by omega, HLX, ⟨by rw [List.length_drop, HLY.out]⟩, ⟨by rw [List.length_append, HLP.out]; rfl⟩, HSX, ⟨Sl.cut3 HSY.out HLY.out hmd1 hy0⟩, ⟨?_⟩, ⟨?_⟩, ⟨fun z hz => ?_⟩, ⟨HF.out.trans HKF.out (fun z _ hz => ?_)⟩⟩
          · rw [← HM.out, HST.out, List.append_assoc]; rfl
          · rw [encs_app]; have h7 := O3.out; simpa [encs] using h7
          · rcases F4.out with h | ⟨u, h, hu⟩
            · rw [h] at hz; exact HB.out z hz
            · rw [h] at hz; cases hz
              have := HF.out.size
              simp at hu
              omega
          · cases hob : (Value.slice L1 k dl).ownBlock with
            | none => rw [hob] at hz; simp at hz
            | some u => rw [hob] at hz; simp at hz; subst hz; have := HB.out z hob; omega
      · obtain rfl : m1 = 0 := by omega
        have hy00 : ys = [] := List.eq_nil_of_length_eq_zero HLY.out
        subst hy00
        go_wp2
        go_ret
        have hP : P = mgp ps qs := by have := HM.out; simpa [mgp] using this
        obtain ⟨A', c', e, h2, h3, h4⟩ := own_slice HW.out
        injection e with e1 _ e2
        subst e1 e2
        unfold RowPost
        refine ⟨L1, k, dl, P, (Value.slice L1 k dl).ownBlock, rfl, by rw [hP, mgp_map], HLP.out, h2, h3, fun h => own_none HW.out h, ?_, HB.out, fun z hz => Ok.frame HF.out (by simp) z.1 z.2 (HPM.out z (List.mem_append.2 (.inl hz))), HF.out⟩
        intro h0
        rcases HW.out.2 with ⟨h', hn0⟩ | ⟨g', cap, cur, h', hb, hh, hnc, hcm, hcs, ht⟩
        · rw [encs_len, HLP.out, hn0] at h0; omega
        · injection h' with h1 h2 h3
          subst h1
          refine ⟨g', 0, rfl, rfl, fun z hz => ?_⟩
          have hl := encs_len P
          rw [HLP.out] at hl
          rw [Nat.zero_add, blk_cell hh, ← ht, List.getElem?_take, if_pos (by omega), Array.getElem?_toList]
end Go.Proofs.Ytkdgfioigkijgaa.Lens
