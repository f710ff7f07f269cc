/- sapperref01's Lend and Kept. Conditions: fewer than 2^47 bytes. -/
import Derived.Test.YtbfdokklhdmmoaaMem8
set_option linter.unusedVariables false
set_option linter.unusedSimpArgs false
namespace Go.Proofs.Ytbfdokklhdmmoaa.Bits
open Go.RowKit Go.Proofs.Ytbfdokklhdmmoaa.Lib Go.Proofs.Ytbfdokklhdmmoaa.Num

def lendTail : List Int := [171, 172, 173, 174, 175]
theorem u8s_app (xs ys : List Int) : u8s (xs ++ ys) = u8s xs ++ u8s ys := by simp [u8s]
theorem u8s_one (xs : List Int) : ∀ u ∈ u8s xs, u.oneCell' = true := by intro u hu; simp only [u8s, List.mem_map] at hu; obtain ⟨_, _, rfl⟩ := hu; rfl
theorem lend_range {xs : List Int} (hx : ∀ x ∈ xs, 0 ≤ x ∧ x ≤ 255) : ∀ x ∈ xs ++ lendTail, 0 ≤ x ∧ x ≤ 255 := by
  intro x h
  rcases List.mem_append.1 h with h | h
  · exact hx x h
  · simp [lendTail] at h; omega

theorem lend_any (w : World) (A : Option Addr) (l c : Nat) (xs : List Int) (q : Option Nat) (hS : SlArg w A l c (u8s xs) q) (hy : l ≤ 140737488355000) :
    Calls Try.prog 22 #[.slice A l c] w fun e w' => ∃ g d, e = .returned (.tuple #[.slice (some ⟨g, 0, none⟩) (l + 5) d, .slice (some ⟨g, 0, none⟩) l d]) ∧
      w'.ownsRow 0 5 1 (.slice (some ⟨g, 0, none⟩) (l + 5) d) (l + 5) (u8s (xs ++ lendTail)) ∧ w.heap.size ≤ g ∧ Fr w w' [] := by
  obtain ⟨i0, hi0, hz0, hz1, hz2⟩ := info_parts infoU8
  have hl : xs.length = l := by have := hS.len; simpa [u8s] using this
  subst hl
  have HS := Hd.mk (hS.sl.alloc (.cells #[] 5))
  have HN := Hd.mk hS.nil
  clear hS
  go_enter Try.func22, Try.ntmps22
  go_wp2_with (at_builtin; refine wpList_append_sl rfl (.tmp 5) (.tmp 6) 32 rfl 5 i0 (.int .u8 0) 1 1 Try.underlying32 hi0 hz0 hz1 hz2 rfl (by decide) (.slice (some ⟨w.heap.size, 0, none⟩) 0 0) 0 [] rfl ?c0 A xs.length c _ _ rfl ?c4 HS.out HN.out ?c1 ?c2 ?c3 ?_)
  case c0 => exact World.ownsRow_lit w #[] 0 (Nat.zero_le _) (Nat.zero_le _) rfl
  case c4 => simp [u8s]
  case c1 => exact u8s_one xs
  case c2 => unfold maxLen; omega
  case c3 => omega
  intro A1 c1 w1 hown1 hgrow1 haft1
  have H1 := Hd.mk hown1
  have G1 := Hd.mk hgrow1
  have F1 := Hd.mk haft1
  clear hown1 hgrow1 haft1
  go_wp2_with (at_builtin; refine wpList_append_sl rfl (.tmp 7) (.tmp 8) 32 rfl 5 i0 (.int .u8 0) 1 1 Try.underlying32 hi0 hz0 hz1 hz2 rfl (by decide) (.slice A1 xs.length c1) xs.length _ rfl (by exact H1.out.alloc _) (some ⟨w1.heap.size, 0, none⟩) 5 5 [.int .u8 171, .int .u8 172, .int .u8 173, .int .u8 174, .int .u8 175] (some w1.heap.size) rfl rfl (by exact sl_of_blk (blk_new _ _)) (by intro h; cases h) ?d1 ?d2 ?d3 ?_)
  case d1 => intro u hu; simp at hu; rcases hu with rfl | rfl | rfl | rfl | rfl <;> rfl
  case d2 => unfold maxLen; omega
  case d3 => omega
  intro A2 c2 w2 hown2 hgrow2 haft2
  have hf2 : ∀ k, (Value.slice A2 (xs.length + 5) c2).ownBlock = some k → w.heap.size ≤ k := by
    intro k hk
    have h0 : w.heap.size ≤ w1.heap.size := by have := G1.out.size; simp at this; omega
    rcases haft2 with e | ⟨j, e, hj⟩
    · rw [e] at hk
      rcases F1.out with e1 | ⟨j1, e1, hj1⟩
      · rw [hk] at e1; simp [Value.ownBlock] at e1; omega
      · rw [hk] at e1; cases e1; simp at hj1; omega
    · rw [hk] at e; cases e; simp at hj; omega
  obtain ⟨g, d, e2, hd⟩ := own_some hown2 (by omega)
  have hA2 : A2 = some ⟨g, 0, none⟩ ∧ c2 = d := by injection e2 with a1 _ a2; exact ⟨a1, a2⟩
  obtain ⟨rfl, rfl⟩ := hA2
  have hg := hf2 g rfl
  have hfr : Fr w w2 [] := by
    have a1 := ((Fr.refl w []).alloc (.cells #[] 5)).grown G1.out (fun k hk => .inr (by simp [Value.ownBlock] at hk; omega))
    have a2 := (a1.alloc (.cells #[.int .u8 171, .int .u8 172, .int .u8 173, .int .u8 174, .int .u8 175] 5)).grown hgrow2 (fun k hk => .inr (by
      rcases F1.out with e1 | ⟨j1, e1, hj1⟩
      · rw [hk] at e1; simp [Value.ownBlock] at e1; omega
      · rw [hk] at e1; cases e1; simp at hj1; omega))
    exact a2
  have H2 : Hd (w2.ownsRow 0 5 1 (.slice (some ⟨g, 0, none⟩) (xs.length + 5) c2) (xs.length + 5) (u8s (xs ++ lendTail))) := ⟨by rw [u8s_app]; exact hown2⟩
  have HF := Hd.mk hfr
  clear hown2 hgrow2 haft2 hf2 hfr e2
  go_wp2
  go_region
  go_wp2
  go_ret2
  exact ⟨g, c2, rfl, H2.out, hg, HF.out.drew⟩
theorem kept_any (w : World) (A : Option Addr) (l c : Nat) (xs : List Int) (q : Option Nat) (hS : SlArg w A l c (u8s xs) q) (hy : l ≤ 140737488355000) (hx : ∀ x ∈ xs, 0 ≤ x ∧ x ≤ 255)
    (B : Option Addr) (m d : Nat) (ys : List Int) (p : Option Nat) (hm : ys.length = m) (hT : Sl w B (u8s ys) p) (hB : B = none → m = 0 ∧ d = 0) (hyr : ∀ x ∈ ys, 0 ≤ x ∧ x ≤ 255) (hp : ∀ k, p = some k → k < w.heap.size) :
    Calls Try.prog 29 #[.slice B m d, .slice A l c] w fun e w' => e = .returned (.bool (decide (ys = xs ++ lendTail))) ∧ Fr w w' [] := by
  have HS := Hd.mk hS
  have HT := Hd.mk hT
  have HB := Hd.mk hB
  have HX := Hd.mk (lend_range hx)
  have HY := Hd.mk hyr
  have HM := Hd.mk hm
  have hl : Hd (xs.length = l) := ⟨by have := hS.len; simpa [u8s] using this⟩
  clear hS hT hB hx hyr hm
  go_enter Try.func29, Try.ntmps29
  go_wp2_with (fail)
  refine (lend_any w A l c xs q HS.out hy).mono ?_
  rintro e w1 ⟨g, e1, rfl, h1, h2, h3⟩
  have H1 := Hd.mk h1
  have H3 := Hd.mk h3
  have HT1 := Hd.mk (HT.out.frame h3 (by simp))
  clear h1 h3
  go_wp2_with (fail)
  refine (same_any w1 B _ m (l + 5) d e1 ys (xs ++ lendTail) p _ HM.out (by rw [List.length_append, hl.out]; rfl) HY.out HX.out HT1.out (sl_of_own H1.out) HB.out (by intro h; cases h)).mono ?_
  rintro e w' ⟨rfl, rfl⟩
  go_wp2
  go_ret
  exact ⟨rfl, H3.out⟩
end Go.Proofs.Ytbfdokklhdmmoaa.Bits
