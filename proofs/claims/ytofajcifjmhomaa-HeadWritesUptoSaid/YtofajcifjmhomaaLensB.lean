/- Packages and rows (chapter 04), as the program has them. Conditions: at most 1000 items a row, weights at most 2^60. -/
import Derived.Test.YtofajcifjmhomaaLensA
import Derived.Deep.RegionHeld3
set_option linter.unusedVariables false
set_option linter.unusedSimpArgs false
set_option maxRecDepth 100000
namespace Go.Proofs.Ytofajcifjmhomaa.Lens
open Go.RowKit Go.Proofs.Ytofajcifjmhomaa.Lib Go.Proofs.Ytofajcifjmhomaa.Ints Go.Proofs.Ytofajcifjmhomaa.Sorts Go.Proofs.Ytofajcifjmhomaa.Sort Go.Proofs.Ytofajcifjmhomaa.Pm

/-- a tree's symbol, 0 of a package -/
def sym : T → Nat
  | .leaf _ s => s
  | .pack _ _ => 0
/-- an item's cells: its weight, its symbol, and the slice of its two -/
def enc (p : T × Value) : List Value := [.int .i64 p.1.wt, .int .i64 (sym p.1), p.2]
def encs (ps : List (T × Value)) : List Value := ps.flatMap enc
theorem encs_len (ps : List (T × Value)) : (encs ps).length = ps.length * 3 := flat_len enc 3 (fun _ => rfl) ps
theorem encs_app (a b : List (T × Value)) : encs (a ++ b) = encs a ++ encs b := by simp [encs]
/-- the value stands for the tree's two -/
def Ok (w : World) (gl : Nat) : T → Value → Prop
  | .leaf _ _, v => v = .slice none 0 0
  | .pack a b, v => ∃ g off cap va vb, v = .slice (some ⟨g, off, none⟩) 2 cap ∧ g ≠ gl ∧ 2 ≤ cap ∧ Sl w (some ⟨g, off, none⟩) (enc (a, va) ++ enc (b, vb)) (some g) ∧ Ok w gl a va ∧ Ok w gl b vb
theorem Ok.frame {w w' : World} {gl : Nat} {F : List Nat} (hf : Fr w w' F) (hF : ∀ k ∈ F, k = gl) : ∀ (t : T) (v : Value), Ok w gl t v → Ok w' gl t v
  | .leaf _ _, v, h => h
  | .pack a b, v, h => by
    obtain ⟨g, off, cap, va, vb, h1, h2, h0, h3, h4, h5⟩ := h
    exact ⟨g, off, cap, va, vb, h1, h2, h0, h3.frame hf (fun k hk hm => by cases hk; exact h2 (hF _ hm)), Ok.frame hf hF a va h4, Ok.frame hf hF b vb h5⟩
theorem Ok.one {w : World} {gl : Nat} : ∀ (t : T) (v : Value), Ok w gl t v → v.oneCell' = true
  | .leaf _ _, v, h => by rw [show v = .slice none 0 0 from h]; rfl
  | .pack a b, v, h => by
    obtain ⟨g, off, cap, va, vb, rfl, _⟩ := h
    rfl
/-- an own row of items that stand for the trees -/
def RowPost (w : World) (gl : Nat) (ts : List T) (e : Ending) (w' : World) : Prop :=
  ∃ B m d ps' q', e = .returned (.slice B m d) ∧ ps'.map (·.1) = ts ∧ ps'.length = m ∧ m ≤ d ∧ d ≤ maxLen ∧ (B = none → m = 0 ∧ d = 0) ∧ Sl w' B (encs ps') q' ∧ (∀ k, q' = some k → w.heap.size ≤ k) ∧ (∀ p ∈ ps', Ok w' gl p.1 p.2) ∧ Fr w w' []
theorem encs_two (ps : List (T × Value)) (i : Nat) (h : i + 1 < ps.length) : ((encs ps).drop (i * 3)).take 6 = enc ps[i] ++ enc ps[i + 1] := by
  have e : ps = ps.take i ++ (ps[i] :: ps[i + 1] :: ps.drop (i + 2)) := by
    rw [← List.drop_eq_getElem_cons h, ← List.drop_eq_getElem_cons (by omega), List.take_append_drop]
  have hl : (encs (ps.take i)).length = i * 3 := by rw [encs_len, List.length_take, Nat.min_eq_left (by omega)]
  have e2 : encs ps = encs (ps.take i) ++ (enc ps[i] ++ (enc ps[i + 1] ++ encs (ps.drop (i + 2)))) := by
    conv => lhs; rw [e]
    rw [encs_app]; rfl
  rw [e2, List.drop_left' hl, ← List.append_assoc, List.take_left' (by simp [enc])]
theorem enc_pack (a b : T × Value) (v : Value) : enc (.pack a.1 b.1, v) = [.int .i64 ((a.1.wt : Int) + (b.1.wt : Int)), .int .i64 0, v] := by
  simp [enc, T.wt, sym]
set_option maxHeartbeats 2000000 in
theorem packed_any (w : World) (gl : Nat) (A : Option Addr) (n c : Nat) (ps : List (T × Value)) (q : Option Nat) (M : Nat) (hn : ps.length = n) (hnc : n ≤ c) (hS : Sl w A (encs ps) q) (hq : q ≠ some gl) (hok : ∀ p ∈ ps, Ok w gl p.1 p.2) (hM : ∀ p ∈ ps, p.1.wt ≤ M) (hM2 : M ≤ 1152921504606846976) (hn1 : n ≤ 1000) :
    Calls Try.prog 92 #[.slice A n c] w (RowPost w gl (pk (ps.map (·.1)))) := by
  subst hn
  have HS := Hd.mk hS
  have HOK := Hd.mk hok
  have HMM := Hd.mk hM
  have HQ := Hd.mk hq
  clear hS hok hM hq
  obtain ⟨i0, hi0, hz0, hz1, hz2⟩ := info_parts infoItem
  go_enter Try.func92, Try.ntmps92
  go_wp2
  go_loopg [3, 4] ps.length (fun kq sv iv wr => ∃ (i j : Nat) (B : Option Addr) (m d : Nat) (P : List (T × Value)), iv = .int .i64 (i : Nat) ∧ sv = .slice B m d ∧ Hd (i = 2 * j) ∧ i ≤ ps.length ∧ ps.length - i ≤ kq ∧ m ≤ 1000 ∧ Hd (P.length = m) ∧ Hd (m = j) ∧ Hd (P.map (·.1) = pk ((ps.map (·.1)).take i)) ∧ Hd (wr.ownsRow 0 154 3 (.slice B m d) m (encs P)) ∧ Hd (∀ p ∈ P, Ok w gl p.1 p.2) ∧ Hd (∀ k, (Value.slice B m d).ownBlock = some k → w.heap.size ≤ k) ∧ Hd (Fr w wr []))
  case atStart => exact ⟨0, 0, none, 0, 0, [], rfl, rfl, ⟨rfl⟩, by omega, by omega, by omega, ⟨rfl⟩, ⟨rfl⟩, ⟨rfl⟩, ⟨own_nil _ _ _ _⟩, ⟨fun p hp => by simp at hp⟩, ⟨fun k hk => by simp [Value.ownBlock] at hk⟩, ⟨Fr.refl _ _⟩⟩
  case round =>
    obtain ⟨i, j, B, m, d, P, rfl, rfl, HI, hin, hk, hm, HL, HMJ, HP, HW, HO, HB, HF⟩ := hrel
    by_cases h1 : i + 1 < ps.length
    · obtain ⟨b0, o1, rfl, hqb, ha⟩ := Sl.row (enc := enc) (sz := 3) (fun _ => rfl) (HS.out.frame HF.out (by simp)) (i := i) (by omega) (by decide)
      obtain ⟨b0', o1', e', _, hb⟩ := Sl.row (enc := enc) (sz := 3) (fun _ => rfl) (HS.out.frame HF.out (by simp)) (i := i + 1) (by omega) (by decide)
      injection e' with e'
      injection e' with e1 e2
      subst e1 e2
      obtain ⟨x, hx⟩ : ∃ x, x = ps[i] := ⟨_, rfl⟩
      obtain ⟨y, hy⟩ : ∃ y, y = ps[i + 1] := ⟨_, rfl⟩
      rw [← hx] at ha
      rw [← hy] at hb
      have ca := ha 0 (by decide)
      have cb := hb 0 (by decide)
      simp only [enc, List.getElem?_cons_zero, Nat.add_zero] at ca cb
      have hxM : x.1.wt ≤ M := HMM.out x (by rw [hx]; exact List.getElem_mem _)
      have hyM : y.1.wt ≤ M := HMM.out y (by rw [hy]; exact List.getElem_mem _)
      have HX := Hd.mk hx
      have HY := Hd.mk hy
      have HQB := Hd.mk hqb
      have hcut := run_cut_mid (P := Try.prog) 151 154 .i64 .i64 Try.underlying151 hi0 3 hz1 (some ⟨b0, o1, none⟩) ps.length c i (i + 2) (by omega) (by omega)
      rw [show cutA (some ⟨b0, o1, none⟩) c i 3 = some ⟨b0, o1 + i * 3, none⟩ from by unfold cutA; rw [if_neg (by omega)]; simp [Addr.add_lit], show i + 2 - i = 2 from by omega, show (((i + 2 : Nat)) : Int) = (i : Int) + 2 from by omega] at hcut
      clear ha hb hx hy hqb
      have hb0 : b0 < w.heap.size := by
        obtain ⟨bq, hbq, hlt⟩ := HS.out.lt (by rw [encs_len]; omega)
        rw [HQB.out] at hbq
        cases hbq
        exact hlt
      have hne : Hd (b0 ∉ (Value.slice B m d).ownBlock.toList) := ⟨by
        intro hm
        cases hob : (Value.slice B m d).ownBlock with
        | none => rw [hob] at hm; simp at hm
        | some k => rw [hob] at hm; simp at hm; subst hm; have := HB.out b0 hob; omega⟩
      have n1 : ((i : Int) + 1).toNat = i + 1 := by omega
      have n2 : IntKind.i64.wrap ((i : Int) + 1) = (i : Int) + 1 := IntWalk.i64_in _ (by omega)
      have n3 : IntKind.i64.wrap ((i : Int) + 2) = (i : Int) + 2 := IntWalk.i64_in _ (by omega)
      have n4 : IntKind.i64.wrap ((x.1.wt : Int) + (y.1.wt : Int)) = (x.1.wt : Int) + (y.1.wt : Int) := IntWalk.i64_in _ (by omega)
      have n5 : (0 : Int) ≤ (i : Int) + 1 := by omega
      have n6 : (i : Int) < ps.length := by omega
      have n7 : (i : Int) + 1 < ps.length := by omega
      go_upto_region 5 with (fail)
      go_region_held3 (fun w' => w'.cell? ⟨b0, o1 + i * 3, none⟩ = some (.int .i64 x.1.wt) ∧ w'.cell? ⟨b0, o1 + (i + 1) * 3, none⟩ = some (.int .i64 y.1.wt)) (go_keep)
        (first | (refine step_append_sl rfl (.tmp 12) (.tmp 31) 151 rfl 154 i0 (.agg #[.int .i64 0, .int .i64 0, .slice none 0 0]) 3 40 Try.underlying151 hi0 hz0 hz1 hz2 rfl (by decide) (.slice B m d) m (encs P) (by simp [Act.eval, Act.put]) (by exact HW.out.alloc _) (some ⟨wr.heap.size, 0, none⟩) 1 1 [.int .i64 ((x.1.wt : Int) + (y.1.wt : Int)), .int .i64 0, .slice (some ⟨b0, o1 + i * 3, none⟩) 2 (c - i)] (some wr.heap.size) (by simp [Act.eval, Act.put]) rfl (by exact sl_of_blk (blk_new _ _)) (by intro h; cases h) (by intro u hu; simp at hu; rcases hu with rfl | rfl | rfl <;> rfl) (by unfold maxLen; omega) (by omega) ?_; intro A3 d3 w3 hown' hgrow haft; have O3 := Hd.mk hown'; have G3 := Hd.mk hgrow; have F3 := Hd.mk haft; have KF := Fr.grown (w := wr) (F := (Value.slice B m d).ownBlock.toList) (by first | exact (Fr.refl wr _).drew.alloc _ | exact ((Fr.refl wr _).alloc _).drew | exact (Fr.refl wr _).alloc _) hgrow (fun k hk => .inl (by rw [hk]; simp)); have k1 := Fr.cellAt KF hne.out ca; have k2 := Fr.cellAt KF hne.out cb; have HKF := Hd.mk KF; clear hown' hgrow haft KF))
      have HSL : Hd (Sl w (some ⟨b0, o1 + i * 3, none⟩) (enc (x.1, x.2) ++ enc (y.1, y.2)) (some b0)) := ⟨by
        have h5 := (HS.out.drop (i * 3)).take 6
        rw [encs_two ps i h1, ← HX.out, ← HY.out, HQB.out] at h5
        exact h5⟩
      clear n1 n2 n3 n4 n5 n6 n7 ca cb k1 k2 hcut
      go_wp2
      go_roundg (gk - 1)
      case measure => go_light; omega
      case rel =>
        go_light
        refine ⟨i + 2, j + 1, A3, m + 1, d3, P ++ [(.pack x.1 y.1, .slice (some ⟨b0, o1 + i * 3, none⟩) 2 (c - i))], by go_num, rfl, ⟨by have := HI.out; omega⟩, by omega, by omega, by have := HI.out; have := HMJ.out; omega, ⟨by rw [List.length_append, HL.out]; rfl⟩, ⟨by rw [HMJ.out]⟩, ⟨?_⟩, ⟨?_⟩, ⟨fun p hp => ?_⟩, ⟨fun k hk => ?_⟩, ⟨HF.out.trans HKF.out (fun k _ hk => ?_)⟩⟩
        · have h6 := pk_get (ps.map (·.1)) j (by rw [List.length_map]; have := HI.out; omega)
          have hi2 : i + 2 = 2 * (j + 1) := by have := HI.out; omega
          rw [List.map_append, HP.out, hi2, ← pk_take, HI.out, ← pk_take, List.take_add_one, h6]
          simp only [List.getElem_map, List.map_cons, List.map_nil, Option.toList]
          have hI := HI.out
          subst hI
          rw [HX.out, HY.out]
        · rw [encs_app]
          have h7 := O3.out
          rw [← enc_pack x y] at h7
          simpa [encs] using h7
        · rcases List.mem_append.1 hp with hp | hp
          · exact HO.out p hp
          · simp only [List.mem_cons, List.not_mem_nil, or_false] at hp
            subst hp
            exact ⟨b0, o1 + i * 3, c - i, x.2, y.2, rfl, fun e => by have := HQ.out; rw [HQB.out, e] at this; exact this rfl, by omega, HSL.out, HOK.out x (by rw [HX.out]; exact List.getElem_mem _), HOK.out y (by rw [HY.out]; exact List.getElem_mem _)⟩
        · rcases F3.out with h | ⟨z, h, hz⟩
          · rw [h] at hk; exact HB.out k hk
          · rw [h] at hk; cases hk
            have := HF.out.size
            simp at hz
            omega
        · cases hob : (Value.slice B m d).ownBlock with
          | none => rw [hob] at hk; simp at hk
          | some z => rw [hob] at hk; simp at hk; subst hk; have := HB.out k hob; omega
    · go_wp2
      go_ret
      obtain ⟨A', c', e, h2, h3, h4⟩ := own_slice HW.out
      injection e with e1 _ e2
      subst e1 e2
      have hpk : pk ((ps.map (·.1)).take i) = pk (ps.map (·.1)) := by
        have hI := HI.out
        rw [hI, ← pk_take, List.take_of_length_le (by rw [pk_len, List.length_map]; omega)]
      unfold RowPost
      refine ⟨B, m, d, P, (Value.slice B m d).ownBlock, rfl, by rw [HP.out, hpk], HL.out, h2, h3, fun h => own_none HW.out h, ?_, HB.out, fun p hp => Ok.frame HF.out (by simp) p.1 p.2 (HO.out p hp), HF.out⟩
      intro h0
      rcases HW.out.2 with ⟨h', hn0⟩ | ⟨g', cap, cur, h', hb, hh, hnc, hcm, hcs, ht⟩
      · rw [encs_len, HL.out, hn0] at h0; omega
      · injection h' with h1 h2 h3
        subst h1
        refine ⟨g', 0, rfl, rfl, fun k hk => ?_⟩
        have hl := encs_len P
        rw [HL.out] at hl
        rw [Nat.zero_add, blk_cell hh, ← ht, List.getElem?_take, if_pos (by omega), Array.getElem?_toList]
end Go.Proofs.Ytofajcifjmhomaa.Lens
