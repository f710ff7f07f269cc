/- Texts of this claim, one behind the other: Face, FaceS, BlkLaw, BlkLens. -/
import Derived.Test.YtlfckpmdmkccjaaLzTok
import Derived.Test.YtlfckpmdmkccjaaBlkG
import Derived.Deep.RegionHeld3
import Derived.Test.YtlfckpmdmkccjaaM02
import Derived.Test.YtlfckpmdmkccjaaM01
/- Tokens in the program's type, in a longer list (the laws' face). Conditions: at most 2^20 tokens. -/
set_option linter.unusedVariables false
set_option linter.unusedSimpArgs false
set_option maxRecDepth 100000
namespace Go.Proofs.Ytlfckpmdmkccjaa.Lz
open Go.RowKit Go.Proofs.Ytlfckpmdmkccjaa.Lib Go.Proofs.Ytlfckpmdmkccjaa.Num Go.Proofs.Ytlfckpmdmkccjaa.Bits

theorem infoTok : (Try.prog.info? 58).map (fun i => (i.zero, i.size, i.bytes)) = some (some (.agg #[.int .u8 0, .int .i64 0, .int .i64 0]), 3, 24) := by kernel_rfl
theorem tokOwn_new {wo w : World} {q q' : Option Nat} (hB : ∀ x, q = some x → wo.heap.size ≤ x) (hs : wo.heap.size ≤ w.heap.size) {o : Obj} (h : Aft (w.alloc o) q q') : ∀ y, q' = some y → wo.heap.size ≤ y := by
  intro y hy
  rcases h with e | ⟨z, e, hz⟩
  · rw [e] at hy; exact hB y hy
  · rw [e] at hy; cases hy; simp at hz; omega
instance : DecidableEq Tok := fun a b =>
  if h : a.lit = b.lit ∧ a.len = b.len ∧ a.dist = b.dist then isTrue (by cases a; cases b; simp only at h; obtain ⟨rfl, rfl, rfl⟩ := h; rfl) else isFalse (by rintro rfl; exact h ⟨rfl, rfl, rfl⟩)
def tail2 : List Tok := [⟨0, 77, 0⟩, ⟨0, 78, 0⟩]
set_option maxHeartbeats 4000000 in
theorem face_any (w : World) (A : Option Addr) (n c : Nat) (l : List Tok) (p : Option Nat) (hn : l.length = n) (hS : Sl w A (tcells l) p) (hb : n ≤ 1048576) :
    Calls Try.prog 8 #[.slice A n c] w fun e w' => ∃ g d, e = .returned (.tuple #[.slice (some ⟨g, 0, none⟩) (n + 2) d, .slice (some ⟨g, 0, none⟩) n d]) ∧
      w'.ownsRow 0 58 3 (.slice (some ⟨g, 0, none⟩) (n + 2) d) (n + 2) (tcells (l ++ tail2)) ∧ w.heap.size ≤ g ∧ Fr w w' [] := by
  obtain ⟨i0, hi0, hz0, hz1, hz2⟩ := info_parts infoTok
  subst hn
  have HS := Hd.mk hS
  clear hS
  go_enter Try.func8, Try.ntmps8
  go_wp2
  go_loopg [4, 9] l.length (fun kq sv jv wr => ∃ (j : Nat) (A1 : Option Addr) (m d1 : Nat), sv = .slice A1 m d1 ∧ jv = .int .i64 (j : Nat) ∧ j + kq = l.length ∧ m ≤ l.length ∧ Hd (m = j) ∧ Hd (wr.ownsRow 0 58 3 (.slice A1 m d1) m (tcells (l.take j))) ∧ Hd (∀ y, (Value.slice A1 m d1).ownBlock = some y → w.heap.size ≤ y) ∧ Hd (Fr w wr []))
  case atStart => exact ⟨0, none, 0, 0, rfl, rfl, by omega, by omega, ⟨rfl⟩, ⟨own_nil _ _ _ _⟩, ⟨by intro y hy; cases hy⟩, ⟨Fr.refl _ _⟩⟩
  case round =>
    obtain ⟨j, A1, m, d1, rfl, rfl, hj, hmj, HM, HO, HB, HF⟩ := hrel
    by_cases h1 : j < l.length
    · obtain ⟨a, o1, rfl, _, ha⟩ := Sl.row (enc := tcell) (sz := 3) (fun _ => rfl) (HS.out.frame HF.out (by simp)) h1 (by decide)
      obtain ⟨t, ht⟩ : ∃ t, t = l[j] := ⟨_, rfl⟩
      rw [← ht] at ha
      obtain ⟨lt, ln, ds⟩ := t
      have c0 := ha 0 (by decide)
      have c1 := ha 1 (by decide)
      have c2 := ha 2 (by decide)
      simp only [tcell, List.getElem?_cons_zero, List.getElem?_cons_succ, Nat.add_zero] at c0 c1 c2
      have HT := Hd.mk ht
      have hm2 : m + 1 ≤ l.length := by have := HM.out; omega
      have hks := blk_new wr (.cells #[.int .u8 lt, .int .i64 ln, .int .i64 ds] 62)
      have hfs := HF.out.alloc (.cells #[.int .u8 lt, .int .i64 ln, .int .i64 ds] 62)
      have hos := HO.out.alloc (.cells #[.int .u8 lt, .int .i64 ln, .int .i64 ds] 62)
      clear ha ht HO
      go_upto_region 5 with (fail)
      generalize hwt : wr.alloc (.cells #[.int .u8 lt, .int .i64 ln, .int .i64 ds] 62) = wt
      rw [hwt] at hks hfs hos
      have HFs := Hd.mk hfs
      have HOs := Hd.mk hos
      have g0 := blk_cell hks 0
      have g1 := blk_cell hks 1
      have g2 := blk_cell hks 2
      simp only [List.getElem?_toArray, List.getElem?_cons_zero, List.getElem?_cons_succ] at g0 g1 g2
      clear hfs hos hks c0 c1 c2 hwt
      go_wp2_with (at_builtin; refine wpList_append_sl rfl (.tmp 13) (.tmp 21) 24 rfl 58 i0 (.agg #[.int .u8 0, .int .i64 0, .int .i64 0]) 3 24 Try.underlying24 hi0 hz0 hz1 hz2 rfl (by decide) (.slice A1 m d1) m _ rfl (by exact HOs.out.alloc _) (some ⟨wt.heap.size, 0, none⟩) 1 1 [.int .u8 lt, .int .i64 ln, .int .i64 ds] (some wt.heap.size) rfl rfl (by exact sl_of_blk (blk_new _ _)) (by intro h; cases h) (by intro u hu; simp at hu; rcases hu with rfl | rfl | rfl <;> rfl) (by unfold maxLen; omega) (by omega) ?_; intro A3 d3 w6 hown' hgrow haft; have O3 := Hd.mk hown'; have G3 := Hd.mk hgrow; have F3 := Hd.mk haft; clear hown' hgrow haft)
      go_roundg (gk - 1)
      case measure => omega
      case rel =>
        refine ⟨j + 1, A3, m + 1, d3, rfl, by go_num, by omega, hm2, ⟨by rw [HM.out]⟩, ⟨?_⟩, ⟨tokOwn_new HB.out HFs.out.size F3.out⟩, ⟨(HFs.out.alloc _).grown G3.out (fun y hy => .inr (HB.out y hy))⟩⟩
        rw [List.take_succ_eq_append_getElem h1, ← HT.out, tcells_app]
        exact O3.out
    · obtain rfl : j = l.length := by omega
      obtain rfl : m = l.length := HM.out
      have HO2 : Hd (wr.ownsRow 0 58 3 (.slice A1 l.length d1) l.length (tcells l)) := ⟨by have := HO.out; rwa [List.take_length] at this⟩
      clear HO
      go_wp2_with (at_builtin; refine wpList_append_sl rfl (.tmp 24) (.tmp 27) 24 rfl 58 i0 (.agg #[.int .u8 0, .int .i64 0, .int .i64 0]) 3 24 Try.underlying24 hi0 hz0 hz1 hz2 rfl (by decide) (.slice A1 l.length d1) l.length _ rfl (by exact HO2.out.alloc _) (some ⟨wr.heap.size, 0, none⟩) 2 2 [.int .u8 0, .int .i64 77, .int .i64 0, .int .u8 0, .int .i64 78, .int .i64 0] (some wr.heap.size) rfl rfl (by exact sl_of_blk (blk_new _ _)) (by intro h; cases h) (by intro u hu; simp at hu; rcases hu with rfl | rfl | rfl | rfl | rfl | rfl <;> rfl) (by unfold maxLen; omega) (by omega) ?_; intro A3 d3 w6 hown' hgrow haft; have O3 := Hd.mk hown'; have G3 := Hd.mk hgrow; have F3 := Hd.mk haft; have hd3 : l.length + 2 ≤ d3 := (by obtain ⟨_, _, e, hh, _⟩ := own_slice hown'; cases e; exact hh); obtain ⟨g3, d3', e3, _⟩ := own_some hown' (by omega); injection e3 with e3 _ e4; subst e3 e4; clear hown' hgrow haft)
      go_region
      go_wp2
      go_ret2
      have hB3 := tokOwn_new HB.out HF.out.size F3.out
      exact ⟨g3, d3, rfl, by rw [tcells_app]; exact O3.out, hB3 g3 rfl, ((HF.out.alloc _).grown G3.out (fun y hy => .inr (HB.out y hy))).drew⟩
end Go.Proofs.Ytlfckpmdmkccjaa.Lz
/- Tokens in the program's type, in a longer list: however many memory holds. No condition but that. -/
set_option linter.unusedVariables false
set_option linter.unusedSimpArgs false
set_option maxRecDepth 100000
namespace Go.Proofs.Ytlfckpmdmkccjaa.Lz
open Go.RowKit Go.Proofs.Ytlfckpmdmkccjaa.Lib Go.Proofs.Ytlfckpmdmkccjaa.Num Go.Proofs.Ytlfckpmdmkccjaa.Bits
set_option maxHeartbeats 4000000 in
theorem face_all (w : World) (A : Option Addr) (n c : Nat) (l : List Tok) (p : Option Nat) (hn : l.length = n) (hS : Sl w A (tcells l) p) (hb : n * 24 ≤ 140737488355232) :
    Calls Try.prog 8 #[.slice A n c] w fun e w' => ∃ g d, e = .returned (.tuple #[.slice (some ⟨g, 0, none⟩) (n + 2) d, .slice (some ⟨g, 0, none⟩) n d]) ∧
      w'.ownsRow 0 58 3 (.slice (some ⟨g, 0, none⟩) (n + 2) d) (n + 2) (tcells (l ++ tail2)) ∧ w.heap.size ≤ g ∧ Fr w w' [] := by
  obtain ⟨i0, hi0, hz0, hz1, hz2⟩ := info_parts infoTok
  subst hn
  have HS := Hd.mk hS
  clear hS
  go_enter Try.func8, Try.ntmps8
  go_wp2
  go_loopg [4, 9] l.length (fun kq sv jv wr => ∃ (j : Nat) (A1 : Option Addr) (m d1 : Nat), sv = .slice A1 m d1 ∧ jv = .int .i64 (j : Nat) ∧ j + kq = l.length ∧ m ≤ l.length ∧ Hd (m = j) ∧ Hd (wr.ownsRow 0 58 3 (.slice A1 m d1) m (tcells (l.take j))) ∧ Hd (∀ y, (Value.slice A1 m d1).ownBlock = some y → w.heap.size ≤ y) ∧ Hd (Fr w wr []))
  case atStart => exact ⟨0, none, 0, 0, rfl, rfl, by omega, by omega, ⟨rfl⟩, ⟨own_nil _ _ _ _⟩, ⟨by intro y hy; cases hy⟩, ⟨Fr.refl _ _⟩⟩
  case round =>
    obtain ⟨j, A1, m, d1, rfl, rfl, hj, hmj, HM, HO, HB, HF⟩ := hrel
    by_cases h1 : j < l.length
    · obtain ⟨a, o1, rfl, _, ha⟩ := Sl.row (enc := tcell) (sz := 3) (fun _ => rfl) (HS.out.frame HF.out (by simp)) h1 (by decide)
      obtain ⟨t, ht⟩ : ∃ t, t = l[j] := ⟨_, rfl⟩
      rw [← ht] at ha
      obtain ⟨lt, ln, ds⟩ := t
      have c0 := ha 0 (by decide)
      have c1 := ha 1 (by decide)
      have c2 := ha 2 (by decide)
      simp only [tcell, List.getElem?_cons_zero, List.getElem?_cons_succ, Nat.add_zero] at c0 c1 c2
      have HT := Hd.mk ht
      have hm2 : m + 1 ≤ l.length := by have := HM.out; omega
      have hks := blk_new wr (.cells #[.int .u8 lt, .int .i64 ln, .int .i64 ds] 62)
      have hfs := HF.out.alloc (.cells #[.int .u8 lt, .int .i64 ln, .int .i64 ds] 62)
      have hos := HO.out.alloc (.cells #[.int .u8 lt, .int .i64 ln, .int .i64 ds] 62)
      clear ha ht HO
      go_upto_region 5 with (fail)
      generalize hwt : wr.alloc (.cells #[.int .u8 lt, .int .i64 ln, .int .i64 ds] 62) = wt
      rw [hwt] at hks hfs hos
      have HFs := Hd.mk hfs
      have HOs := Hd.mk hos
      have g0 := blk_cell hks 0
      have g1 := blk_cell hks 1
      have g2 := blk_cell hks 2
      simp only [List.getElem?_toArray, List.getElem?_cons_zero, List.getElem?_cons_succ] at g0 g1 g2
      clear hfs hos hks c0 c1 c2 hwt
      go_wp2_with (at_builtin; refine wpList_append_sl rfl (.tmp 13) (.tmp 21) 24 rfl 58 i0 (.agg #[.int .u8 0, .int .i64 0, .int .i64 0]) 3 24 Try.underlying24 hi0 hz0 hz1 hz2 rfl (by decide) (.slice A1 m d1) m _ rfl (by exact HOs.out.alloc _) (some ⟨wt.heap.size, 0, none⟩) 1 1 [.int .u8 lt, .int .i64 ln, .int .i64 ds] (some wt.heap.size) rfl rfl (by exact sl_of_blk (blk_new _ _)) (by intro h; cases h) (by intro u hu; simp at hu; rcases hu with rfl | rfl | rfl <;> rfl) (by unfold maxLen; omega) (by omega) ?_; intro A3 d3 w6 hown' hgrow haft; have O3 := Hd.mk hown'; have G3 := Hd.mk hgrow; have F3 := Hd.mk haft; clear hown' hgrow haft)
      go_roundg (gk - 1)
      case measure => omega
      case rel =>
        refine ⟨j + 1, A3, m + 1, d3, rfl, by go_num, by omega, hm2, ⟨by rw [HM.out]⟩, ⟨?_⟩, ⟨tokOwn_new HB.out HFs.out.size F3.out⟩, ⟨(HFs.out.alloc _).grown G3.out (fun y hy => .inr (HB.out y hy))⟩⟩
        rw [List.take_succ_eq_append_getElem h1, ← HT.out, tcells_app]
        exact O3.out
    · obtain rfl : j = l.length := by omega
      obtain rfl : m = l.length := HM.out
      have HO2 : Hd (wr.ownsRow 0 58 3 (.slice A1 l.length d1) l.length (tcells l)) := ⟨by have := HO.out; rwa [List.take_length] at this⟩
      clear HO
      go_wp2_with (at_builtin; refine wpList_append_sl rfl (.tmp 24) (.tmp 27) 24 rfl 58 i0 (.agg #[.int .u8 0, .int .i64 0, .int .i64 0]) 3 24 Try.underlying24 hi0 hz0 hz1 hz2 rfl (by decide) (.slice A1 l.length d1) l.length _ rfl (by exact HO2.out.alloc _) (some ⟨wr.heap.size, 0, none⟩) 2 2 [.int .u8 0, .int .i64 77, .int .i64 0, .int .u8 0, .int .i64 78, .int .i64 0] (some wr.heap.size) rfl rfl (by exact sl_of_blk (blk_new _ _)) (by intro h; cases h) (by intro u hu; simp at hu; rcases hu with rfl | rfl | rfl | rfl | rfl | rfl <;> rfl) (by unfold maxLen; omega) (by omega) ?_; intro A3 d3 w6 hown' hgrow haft; have O3 := Hd.mk hown'; have G3 := Hd.mk hgrow; have F3 := Hd.mk haft; have hd3 : l.length + 2 ≤ d3 := (by obtain ⟨_, _, e, hh, _⟩ := own_slice hown'; cases e; exact hh); obtain ⟨g3, d3', e3, _⟩ := own_some hown' (by omega); injection e3 with e3 _ e4; subst e3 e4; clear hown' hgrow haft)
      go_region
      go_wp2
      go_ret2
      have hB3 := tokOwn_new HB.out HF.out.size F3.out
      exact ⟨g3, d3, rfl, by rw [tcells_app]; exact O3.out, hB3 g3 rfl, ((HF.out.alloc _).grown G3.out (fun y hy => .inr (HB.out y hy))).drew⟩
end Go.Proofs.Ytlfckpmdmkccjaa.Lz
/- Chapter 09's law: same, kept. No condition. -/
set_option linter.unusedVariables false
set_option linter.unusedSimpArgs false
set_option maxRecDepth 100000
namespace Go.Proofs.Ytlfckpmdmkccjaa.Blk
open Go.RowKit Go.Proofs.Ytlfckpmdmkccjaa.Lib Go.Proofs.Ytlfckpmdmkccjaa.Ints Go.Proofs.Ytlfckpmdmkccjaa.Lz
set_option maxHeartbeats 4000000 in
theorem bsame_any (w : World) (A B : Option Addr) (n m c d : Nat) (xs ys : List Int) (p q : Option Nat) (hn : xs.length = n) (hm : ys.length = m) (hS : Sl w A (i64s xs) p) (hT : Sl w B (i64s ys) q) (hn1 : n ≤ 4611686018427387904) (hm1 : m ≤ 4611686018427387904) (b : Bool) (hb : b = decide (xs = ys)) :
    Calls Try.prog 11 #[.slice A n c, .slice B m d] w fun e w' => e = .returned (.bool b) ∧ Fr w w' [] := by
  subst hn hm
  have HS := Hd.mk hS
  have HT := Hd.mk hT
  have HB := Hd.mk hb
  clear hS hT hb
  go_enter Try.func11, Try.ntmps11
  by_cases h3 : xs.length = ys.length
  · have hne : ((xs.length : Int) != (ys.length : Int)) = false := by simp; omega
    go_wp2
    go_loopg [13] xs.length (fun kq jv wr => ∃ j : Nat, jv = .int .i64 (j : Nat) ∧ j + kq = xs.length ∧ Hd (xs.take j = ys.take j) ∧ Hd (Fr w wr []))
    case atStart => exact ⟨0, rfl, by omega, ⟨rfl⟩, ⟨Fr.refl _ _⟩⟩
    case round =>
      obtain ⟨j, rfl, hj, HE, HF⟩ := hrel
      by_cases h1 : j < xs.length
      · have h2 : j < ys.length := by omega
        obtain ⟨a, o1, rfl, _, ha⟩ := (HS.out.frame HF.out (by simp)) (by simp [i64s]; omega)
        obtain ⟨b', o2, rfl, _, hb'⟩ := (HT.out.frame HF.out (by simp)) (by simp [i64s]; omega)
        obtain ⟨x, hx⟩ : ∃ x, x = xs[j] := ⟨_, rfl⟩
        obtain ⟨y, hy⟩ : ∃ y, y = ys[j] := ⟨_, rfl⟩
        have ca := (ha j (by simp [i64s]; omega)).trans (by rw [i64s_get, List.getElem?_eq_getElem (by omega), ← hx])
        have cb := (hb' j (by simp [i64s]; omega)).trans (by rw [i64s_get, List.getElem?_eq_getElem (by omega), ← hy])
        have HX := Hd.mk hx
        have HY := Hd.mk hy
        have hj2 : (j : Int) < (ys.length : Nat) := by omega
        clear ha hb' hx hy
        by_cases hxy : x = y
        · subst hxy
          have e1 : (x != x) = false := by simp
          go_wp2
          go_region
          go_wp2
          go_roundg (gk - 1)
          case measure => omega
          case rel => exact ⟨j + 1, by go_num, by omega, ⟨by rw [List.take_succ_eq_append_getElem h1, List.take_succ_eq_append_getElem h2, HE.out, ← HX.out, ← HY.out]⟩, ⟨HF.out.drew⟩⟩
        · have e1 : (x != y) = true := by simpa using hxy
          have hbf : b = false := by
            rw [HB.out]
            exact decide_eq_false (fun e => hxy (by rw [HX.out, HY.out]; simp only [e]))
          subst hbf
          go_wp2
          go_region
          go_wp2
          go_ret
          exact ⟨rfl, HF.out.drew⟩
      · obtain rfl : j = xs.length := by omega
        have hbt : b = true := by
          rw [HB.out]
          refine decide_eq_true ?_
          have := HE.out
          rwa [List.take_of_length_le (by omega), List.take_of_length_le (by omega)] at this
        subst hbt
        go_wp2
        go_ret
        exact ⟨rfl, HF.out⟩
  · have hne : ((xs.length : Int) != (ys.length : Int)) = true := by simp; omega
    have hbf : b = false := by rw [HB.out]; exact decide_eq_false (fun e => h3 (by rw [e]))
    subst hbf
    go_wp2
    go_ret
    exact ⟨rfl, Fr.refl _ _⟩
theorem bcell {w w' : World} {F : List Nat} (h : Fr w w' F) {a : Addr} {v : Value} (hc : w.cell? a = some v) (hF : a.block ∉ F) : w'.cell? a = some v := by
  rw [World.cell?_of_block (w := w) (h.block _ (World.block_lt_of_cell? w _ hc) hF)]; exact hc
theorem tail2_get (l : List Tok) : (l ++ tail2)[l.length]? = some ⟨0, 77, 0⟩ ∧ (l ++ tail2)[l.length + 1]? = some ⟨0, 78, 0⟩ := by
  constructor
  · rw [List.getElem?_append_right (Nat.le_refl _), Nat.sub_self]; rfl
  · rw [List.getElem?_append_right (by omega), show l.length + 1 - l.length = 1 from by omega]; rfl
set_option maxHeartbeats 4000000 in
theorem bkept_any (w : World) (g d : Nat) (A : Option Addr) (n c : Nat) (l : List Tok) (p : Option Nat) (hn : l.length = n) (hW : Sl w (some ⟨g, 0, none⟩) (tcells (l ++ tail2)) (some g)) (hS : Sl w A (tcells l) p) (hn1 : n ≤ 4611686018427387904) :
    Calls Try.prog 12 #[.slice (some ⟨g, 0, none⟩) (n + 2) d, .slice A n c] w fun e w' => e = .returned (.bool true) ∧ Fr w w' [] := by
  subst hn
  have HS := Hd.mk hS
  have HW := Hd.mk hW
  clear hS hW
  have hlw : (l ++ tail2).length = l.length + 2 := by rw [List.length_append]; rfl
  go_enter Try.func12, Try.ntmps12
  go_wp2
  go_loopg [12] l.length (fun kq jv wr => ∃ j : Nat, jv = .int .i64 (j : Nat) ∧ j + kq = l.length ∧ Hd (Fr w wr []))
  case atStart => exact ⟨0, rfl, by omega, ⟨Fr.refl _ _⟩⟩
  case round =>
    obtain ⟨j, rfl, hj, HF⟩ := hrel
    by_cases h1 : j < l.length
    · obtain ⟨a, o1, rfl, _, ha⟩ := Sl.row (enc := tcell) (sz := 3) (fun _ => rfl) (HS.out.frame HF.out (by simp)) h1 (by decide)
      obtain ⟨b, o2, e2, _, hb⟩ := Sl.row (enc := tcell) (sz := 3) (fun _ => rfl) (HW.out.frame HF.out (by simp)) (show j < (l ++ tail2).length by omega) (by decide)
      cases e2
      have hge : (l ++ tail2)[j]'(by omega) = l[j] := List.getElem_append_left h1
      rw [hge] at hb
      obtain ⟨t, ht⟩ : ∃ t, t = l[j] := ⟨_, rfl⟩
      rw [← ht] at ha hb
      obtain ⟨lt, ln, ds⟩ := t
      have c0 := ha 0 (by decide)
      have c1 := ha 1 (by decide)
      have c2 := ha 2 (by decide)
      have b0 := hb 0 (by decide)
      have b1 := hb 1 (by decide)
      have b2 := hb 2 (by decide)
      simp only [tcell, List.getElem?_cons_zero, List.getElem?_cons_succ, Nat.add_zero, Nat.zero_add] at c0 c1 c2 b0 b1 b2
      have e0 : (lt == lt) = true := by simp
      have e1 : (ln == ln) = true := by simp
      have e3 : (ds == ds) = true := by simp
      clear ha hb ht hge
      go_upto_region 5 with (fail)
      have bz := blk_new wr (.cells #[.int .u8 lt, .int .i64 ln, .int .i64 ds] 62)
      have A1 := (Fr.refl wr []).alloc (.cells #[.int .u8 lt, .int .i64 ln, .int .i64 ds] 62)
      have g0 := blk_cell bz 0
      have g1 := blk_cell bz 1
      have g2 := blk_cell bz 2
      simp only [List.getElem?_toArray, List.getElem?_cons_zero, List.getElem?_cons_succ] at g0 g1 g2
      have d0 := bcell A1 b0 (by simp)
      have d1 := bcell A1 b1 (by simp)
      have d2 := bcell A1 b2 (by simp)
      have F1 := Hd.mk (HF.out.trans A1 (by simp))
      clear bz A1 b0 b1 b2 c0 c1 c2 HF
      generalize wr.alloc (.cells #[.int .u8 lt, .int .i64 ln, .int .i64 ds] 62) = w1 at *
      generalize wr.heap.size = gb at *
      have hj2 : (j : Int) < (l.length : Nat) + 2 := by omega
      go_region
      go_wp2
      go_roundg (gk - 1)
      case measure => omega
      case rel => exact ⟨j + 1, by go_num, by omega, ⟨F1.out.drew⟩⟩
    · obtain rfl : j = l.length := by omega
      obtain ⟨g1, g2⟩ := tail2_get l
      obtain ⟨b1, o2, e2, _, hb1⟩ := Sl.row (enc := tcell) (sz := 3) (fun _ => rfl) (HW.out.frame HF.out (by simp)) (show l.length < (l ++ tail2).length by omega) (by decide)
      cases e2
      obtain ⟨b2, o3, e3, _, hb2⟩ := Sl.row (enc := tcell) (sz := 3) (fun _ => rfl) (HW.out.frame HF.out (by simp)) (show l.length + 1 < (l ++ tail2).length by omega) (by decide)
      cases e3
      have k1 := hb1 1 (by decide)
      have k2 := hb2 1 (by decide)
      rw [show (l ++ tail2)[l.length]'(by omega) = ⟨0, 77, 0⟩ from (List.getElem?_eq_some_iff.1 g1).2] at k1
      rw [show (l ++ tail2)[l.length + 1]'(by omega) = ⟨0, 78, 0⟩ from (List.getElem?_eq_some_iff.1 g2).2] at k2
      simp only [tcell, List.getElem?_cons_zero, List.getElem?_cons_succ, Nat.zero_add] at k1 k2
      clear hb1 hb2 g1 g2
      go_wp2
      go_ret
      exact ⟨rfl, HF.out⟩
end Go.Proofs.Ytlfckpmdmkccjaa.Blk
/- BlockLens' walk. Conditions: none but what memory bounds. -/
set_option linter.unusedVariables false
set_option linter.unusedSimpArgs false
set_option maxRecDepth 100000
namespace Go.Proofs.Ytlfckpmdmkccjaa.Blk
open Go.RowKit Go.Proofs.Ytlfckpmdmkccjaa.Lib Go.Proofs.Ytlfckpmdmkccjaa.Ints Go.Proofs.Ytlfckpmdmkccjaa.Lz
theorem face_sl {w : World} {g n d : Nat} {xs : List Value} (h : w.ownsRow 0 58 3 (.slice (some ⟨g, 0, none⟩) n d) n xs) : Sl w (some ⟨g, 0, none⟩) xs (some g) := by
  intro hx
  rcases h.2 with ⟨h', _⟩ | ⟨g', cap, cur, h', hb, hh, hnc, hcm, hcs, ht⟩
  · cases h'
  · injection h' with h1 _ _
    injection h1 with h1
    injection h1 with h1
    subst h1
    refine ⟨g, 0, rfl, rfl, fun j hj => ?_⟩
    rw [Nat.zero_add, blk_cell hh, ← ht, List.getElem?_take, if_pos (by have := h.1; omega)]
    simp
def oLit (l : List Tok) : List Int := if mayB l = 0 then ownLit l else []
def oDist (l : List Tok) : List Int := if mayB l = 0 then ownDist l else []
theorem oLit_len (l : List Tok) : (oLit l).length ≤ 286 := by unfold oLit; split <;> simp [ownLit_len]
theorem oDist_len (l : List Tok) : (oDist l).length ≤ 30 := by unfold oDist; split <;> simp [ownDist_len]
theorem own_one {w w' : World} {l : List Tok} {e : Ending} (h : OwnPost w l e w') : ∃ A n c B m d, e = .returned (.tuple #[.slice A n c, .slice B m d, .int .i64 (mayB l)]) ∧ n = (oLit l).length ∧ m = (oDist l).length ∧ w'.ownsRow 0 3 1 (.slice A n c) n (i64s (oLit l)) ∧ w'.ownsRow 0 3 1 (.slice B m d) m (i64s (oDist l)) ∧
    (∀ k, (Value.slice A n c).ownBlock = some k → w.heap.size ≤ k ∧ (Value.slice B m d).ownBlock ≠ some k) ∧ (∀ k, (Value.slice B m d).ownBlock = some k → w.heap.size ≤ k) ∧ Fr w w' [] := by
  unfold OwnPost at h
  by_cases h0 : mayB l = 0
  · obtain ⟨A, c, B, d, rfl, h1, h2, h3, h4, h5⟩ := h.1 h0
    refine ⟨A, 286, c, B, 30, d, by rw [h0], ?_, ?_, ?_, ?_, h3, h4, h5⟩
    · unfold oLit; rw [if_pos h0, ownLit_len]
    · unfold oDist; rw [if_pos h0, ownDist_len]
    · unfold oLit; rw [if_pos h0]; exact h1
    · unfold oDist; rw [if_pos h0]; exact h2
  · obtain ⟨rfl, h5⟩ := h.2 h0
    refine ⟨none, 0, 0, none, 0, 0, rfl, ?_, ?_, ?_, ?_, (fun k hk => by simp [Value.ownBlock] at hk), (fun k hk => by simp [Value.ownBlock] at hk), h5⟩
    · unfold oLit; rw [if_neg h0]; rfl
    · unfold oDist; rw [if_neg h0]; rfl
    · unfold oLit; rw [if_neg h0]; exact own_nil _ _ _ _
    · unfold oDist; rw [if_neg h0]; exact own_nil _ _ _ _
theorem off_of {a b : Option Nat} (h : ∀ k, a = some k → b ≠ some k) : ∀ k, b = some k → k ∉ a.toList := by
  intro k hk hm
  rw [Option.mem_toList] at hm
  exact h k hm hk
theorem grown_fr {w w2 : World} {o : Obj} {b : Option Nat} (h : (w.alloc o).grownBy w2 b) : Fr w w2 b.toList :=
  ((Fr.refl w _).alloc o).grown h (fun k hk => .inl (by rw [hk]; simp))
theorem i64s_set (xs : List Int) (j : Nat) (v : Int) : (i64s xs).set j (.int .i64 v) = i64s (xs.set j v) := by
  simp [i64s, List.map_set]
set_option maxHeartbeats 16000000 in
theorem lens_walk (A : Option Addr) (n c : Nat) (l : List Tok) (p : Option Nat) (W : World) (hn : l.length = n) (hnc : n ≤ c) (hA : A = none → n = 0 ∧ c = 0) (hS : Sl W A (tcells l) p) (hl : ∀ t ∈ l, 0 ≤ t.lit ∧ t.lit ≤ 255) (hb : n * 24 ≤ 140737488355232) :
    Calls Try.prog 4 #[.slice A n c] W fun e w' => e = .returned (.bool true) ∧ Below W.heap.size W w' := by
  obtain ⟨i0, hi0, hz0, hz1, hz2⟩ := info_parts infoI64
  have HS := Hd.mk hS
  have HL := Hd.mk hl
  have hb40 : n ≤ 6000000000000 := by omega
  clear hS hl hA
  go_enter Try.func4, Try.ntmps4
  go_wp2_with (fail)
  refine (face_all _ A n c l p hn HS.out hb).mono ?_
  rintro e w1 ⟨g, dw, rfl, h1, h2, h3⟩
  have P1 : Hd (Sl w1 (some ⟨g, 0, none⟩) (tcells l) (some g)) := ⟨by
    have := (face_sl h1).take (tcells l).length
    rw [tcells_app, List.take_left] at this
    exact this⟩
  have V1 := Hd.mk (face_sl h1)
  have F1 := Hd.mk h3
  clear h1 h2 h3
  go_wp2_with (fail)
  refine (ownLens_any w1 (some ⟨g, 0, none⟩) n dw l (some g) hn P1.out (by omega) HL.out).mono ?_
  rintro e w2 hpo
  obtain ⟨A1, n1, c1, B1, m1, d1, rfl, hn1, hm1, oa, ob, na, nb, f2⟩ := own_one hpo
  have OA2 := Hd.mk oa
  have OB2 := Hd.mk ob
  have NA2 := Hd.mk na
  have NB2 := Hd.mk nb
  have F2 := Hd.mk (F1.out.trans f2 (by simp))
  have P2 := Hd.mk (P1.out.frame f2 (by simp))
  have V2 := Hd.mk (V1.out.frame f2 (by simp))
  clear hpo oa ob na nb f2 P1 V1
  go_wp2_with (fail)
  refine (ownLens_any w2 (some ⟨g, 0, none⟩) n dw l (some g) hn P2.out (by omega) HL.out).mono ?_
  rintro e w3 hpo
  obtain ⟨C1, n2, c2, D1, m2, d2, rfl, hn2, hm2, oa, ob, na, nb, f3⟩ := own_one hpo
  have OC3 := Hd.mk oa
  have OD3 := Hd.mk ob
  have NC3 := Hd.mk na
  have ND3 := Hd.mk nb
  have OA3 := Hd.mk (own_frame OA2.out f3 (by simp))
  have OB3 := Hd.mk (own_frame OB2.out f3 (by simp))
  have F3 := Hd.mk (F2.out.trans f3 (by simp))
  have V3 := Hd.mk (V2.out.frame f3 (by simp))
  clear hpo oa ob na nb P2 V2
  go_wp2_with (fail)
  refine (rownLens_any w3 A n c l p hn (HS.out.frame F3.out (by simp)) (by omega) HL.out).mono ?_
  rintro e w4 hpo
  obtain ⟨X1, n3, c3, Y1, m3, d3, rfl, hn3, hm3, oa, ob, na, nb, f4⟩ := own_one hpo
  have OX4 := Hd.mk oa
  have OY4 := Hd.mk ob
  -- what is no block of a's or b's
  have KA : Hd (∀ k, (Value.slice A1 n1 c1).ownBlock = some k → (W.heap.size ≤ k ∧ (Value.slice B1 m1 d1).ownBlock ≠ some k) ∧ ((Value.slice C1 n2 c2).ownBlock ≠ some k ∧ (Value.slice D1 m2 d2).ownBlock ≠ some k) ∧ (Value.slice X1 n3 c3).ownBlock ≠ some k ∧ (Value.slice Y1 m3 d3).ownBlock ≠ some k) := ⟨fun k hk => by
    obtain ⟨q1, q2⟩ := NA2.out k hk
    have q3 := own_lt OA2.out hk
    have q4 := F1.out.size
    have q5 := f3.size
    exact ⟨⟨by omega, q2⟩, ⟨fun h => by have := (NC3.out k h).1; omega, fun h => by have := ND3.out k h; omega⟩, fun h => by have := (na k h).1; omega, fun h => by have := nb k h; omega⟩⟩
  have KB : Hd (∀ k, (Value.slice B1 m1 d1).ownBlock = some k → (W.heap.size ≤ k ∧ (Value.slice A1 n1 c1).ownBlock ≠ some k) ∧ ((Value.slice C1 n2 c2).ownBlock ≠ some k ∧ (Value.slice D1 m2 d2).ownBlock ≠ some k) ∧ (Value.slice X1 n3 c3).ownBlock ≠ some k ∧ (Value.slice Y1 m3 d3).ownBlock ≠ some k) := ⟨fun k hk => by
    have q1 := NB2.out k hk
    have q3 := own_lt OB2.out hk
    have q4 := F1.out.size
    have q5 := f3.size
    exact ⟨⟨by omega, fun h => (NA2.out k h).2 hk⟩, ⟨fun h => by have := (NC3.out k h).1; omega, fun h => by have := ND3.out k h; omega⟩, fun h => by have := (na k h).1; omega, fun h => by have := nb k h; omega⟩⟩
  have OA4 := Hd.mk (own_frame OA3.out f4 (by simp))
  have OB4 := Hd.mk (own_frame OB3.out f4 (by simp))
  have OC4 := Hd.mk (own_frame OC3.out f4 (by simp))
  have OD4 := Hd.mk (own_frame OD3.out f4 (by simp))
  have F4 := Hd.mk (F3.out.trans f4 (by simp))
  have V4 := Hd.mk (V3.out.frame f4 (by simp))
  clear hpo oa ob na nb f4 f3 NA2 NB2 NC3 ND3 OA2 OB2 OA3 OB3 OC3 OD3 V3 F2 F3
  have hl1 : n1 ≤ 286 := by have := oLit_len l; omega
  have hl2 : m1 ≤ 30 := by have := oDist_len l; omega
  obtain rfl : n2 = n1 := by omega
  obtain rfl : n3 = n2 := by omega
  obtain rfl : m2 = m1 := by omega
  obtain rfl : m3 = m2 := by omega
  have HN := Hd.mk hn1
  have HM := Hd.mk hm1
  have HNN := Hd.mk hn
  clear hn1 hn2 hn3 hm1 hm2 hm3 hn
  generalize oLit l = xs at *
  generalize oDist l = ys at *
  obtain ⟨hN⟩ := HN
  obtain ⟨hM⟩ := HM
  subst hN hM
  obtain ⟨er, her⟩ : ∃ er, er = mayB l := ⟨_, rfl⟩
  rw [← her]
  have hne : (er != er) = false := by simp
  clear her
  go_wp2_with (fail)
  refine (bsame_any w4 A1 X1 xs.length xs.length c1 c3 xs xs _ _ rfl rfl (sl_of_own OA4.out) (sl_of_own OX4.out) (by omega) (by omega) true (decide_eq_true rfl).symm).mono ?_
  rintro e w5 ⟨rfl, hf⟩
  have OA5 := Hd.mk (own_frame OA4.out hf (by simp))
  have OB5 := Hd.mk (own_frame OB4.out hf (by simp))
  have OC5 := Hd.mk (own_frame OC4.out hf (by simp))
  have OD5 := Hd.mk (own_frame OD4.out hf (by simp))
  have OX5 := Hd.mk (own_frame OX4.out hf (by simp))
  have OY5 := Hd.mk (own_frame OY4.out hf (by simp))
  have F5 := Hd.mk (F4.out.trans hf (by simp))
  have V5 := Hd.mk (V4.out.frame hf (by simp))
  clear hf OA4 OB4 OC4 OD4 OX4 OY4 F4 V4
  go_wp2_with (fail)
  refine (bsame_any w5 B1 Y1 ys.length ys.length d1 d3 ys ys _ _ rfl rfl (sl_of_own OB5.out) (sl_of_own OY5.out) (by omega) (by omega) true (decide_eq_true rfl).symm).mono ?_
  rintro e w6 ⟨rfl, hf⟩
  have OA6 := Hd.mk (own_frame OA5.out hf (by simp))
  have OB6 := Hd.mk (own_frame OB5.out hf (by simp))
  have OC6 := Hd.mk (own_frame OC5.out hf (by simp))
  have OD6 := Hd.mk (own_frame OD5.out hf (by simp))
  have OX6 := Hd.mk (own_frame OX5.out hf (by simp))
  have OY6 := Hd.mk (own_frame OY5.out hf (by simp))
  have F6 := Hd.mk (F5.out.trans hf (by simp))
  have V6 := Hd.mk (V5.out.frame hf (by simp))
  clear hf OA5 OB5 OC5 OD5 OX5 OY5 F5 V5
  go_wp2_with (fail)
  refine (bsame_any w6 C1 X1 xs.length xs.length c2 c3 xs xs _ _ rfl rfl (sl_of_own OC6.out) (sl_of_own OX6.out) (by omega) (by omega) true (decide_eq_true rfl).symm).mono ?_
  rintro e w7 ⟨rfl, hf⟩
  have OA7 := Hd.mk (own_frame OA6.out hf (by simp))
  have OB7 := Hd.mk (own_frame OB6.out hf (by simp))
  have OC7 := Hd.mk (own_frame OC6.out hf (by simp))
  have OD7 := Hd.mk (own_frame OD6.out hf (by simp))
  have OX7 := Hd.mk (own_frame OX6.out hf (by simp))
  have OY7 := Hd.mk (own_frame OY6.out hf (by simp))
  have F7 := Hd.mk (F6.out.trans hf (by simp))
  have V7 := Hd.mk (V6.out.frame hf (by simp))
  clear hf OA6 OB6 OC6 OD6 OX6 OY6 F6 V6
  go_wp2_with (fail)
  refine (bsame_any w7 D1 Y1 ys.length ys.length d2 d3 ys ys _ _ rfl rfl (sl_of_own OD7.out) (sl_of_own OY7.out) (by omega) (by omega) true (decide_eq_true rfl).symm).mono ?_
  rintro e w8 ⟨rfl, hf⟩
  have OA8 := Hd.mk (own_frame OA7.out hf (by simp))
  have OB8 := Hd.mk (own_frame OB7.out hf (by simp))
  have OC8 := Hd.mk (own_frame OC7.out hf (by simp))
  have OD8 := Hd.mk (own_frame OD7.out hf (by simp))
  have OX8 := Hd.mk (own_frame OX7.out hf (by simp))
  have OY8 := Hd.mk (own_frame OY7.out hf (by simp))
  have F8 := Hd.mk (F7.out.trans hf (by simp))
  have V8 := Hd.mk (V7.out.frame hf (by simp))
  clear hf OA7 OB7 OC7 OD7 OX7 OY7 F7 V7
  go_wp2_with (fail)
  refine (bkept_any w8 g dw A n c l p HNN.out V8.out (HS.out.frame F8.out (by simp)) (by omega)).mono ?_
  rintro e w9 ⟨rfl, hf⟩
  have OA9 := Hd.mk (own_frame OA8.out hf (by simp))
  have OB9 := Hd.mk (own_frame OB8.out hf (by simp))
  have OC9 := Hd.mk (own_frame OC8.out hf (by simp))
  have OD9 := Hd.mk (own_frame OD8.out hf (by simp))
  have OX9 := Hd.mk (own_frame OX8.out hf (by simp))
  have OY9 := Hd.mk (own_frame OY8.out hf (by simp))
  have F9 := Hd.mk (F8.out.trans hf (by simp))
  have V9 := Hd.mk (V8.out.frame hf (by simp))
  clear hf OA8 OB8 OC8 OD8 OX8 OY8 F8 V8
  go_wp2_with (fail)
  go_loopg [79] xs.length (fun kq jv wr => ∃ (j : Nat) (zs : List Int), jv = .int .i64 (j : Nat) ∧ j + kq = xs.length ∧ Hd (wr.ownsRow 0 3 1 (.slice A1 xs.length c1) xs.length (i64s zs)) ∧ Hd (Fr w9 wr (Value.slice A1 xs.length c1).ownBlock.toList))
  case atStart => exact ⟨0, xs, rfl, by omega, OA9, ⟨Fr.refl _ _⟩⟩
  case round =>
    obtain ⟨j, zs, rfl, hj, HO, HF⟩ := hrel
    by_cases h1 : j < xs.length
    · obtain ⟨gA, cA, e, _⟩ := own_some HO.out (by omega)
      injection e with e1 e2 e3
      subst e1
      clear e2 e3
      obtain ⟨u0, y0, f0⟩ := Code.own_any HO.out (j := j) (by omega)
      have HO2 := Hd.mk ((HO.out.stored j (.int .i64 (-1))).1)
      rw [i64s_set] at HO2
      go_wp2
      go_roundg (gk - 1)
      case measure => omega
      case rel => exact ⟨j + 1, _, by go_num, by omega, HO2, ⟨HF.out.setCell _ (.inl (by simp [Value.ownBlock]))⟩⟩
    · obtain rfl : j = xs.length := by omega
      have fA := HF.out
      have kA := off_of fun k hk => ((KA.out k hk).1).2
      have OB10 := Hd.mk (own_frame OB9.out fA kA)
      have OC10 := Hd.mk (own_frame OC9.out fA (off_of fun k hk => (KA.out k hk).2.1.1))
      have OD10 := Hd.mk (own_frame OD9.out fA (off_of fun k hk => (KA.out k hk).2.1.2))
      have OX10 := Hd.mk (own_frame OX9.out fA (off_of fun k hk => (KA.out k hk).2.2.1))
      have OY10 := Hd.mk (own_frame OY9.out fA (off_of fun k hk => (KA.out k hk).2.2.2))
      have F10 := Hd.mk (F9.out.trans fA (fun x hx hm => by rw [Option.mem_toList] at hm; have := ((KA.out x hm).1).1; omega))
      have OA10 := HO
      clear HO HF fA kA OA9 OB9 OC9 OD9 OX9 OY9 F9 V9 h1 hj
      go_wp2_with (fail)
      go_loopg [88] ys.length (fun kq jv wq => ∃ (j : Nat) (vs : List Int), jv = .int .i64 (j : Nat) ∧ j + kq = ys.length ∧ Hd (wq.ownsRow 0 3 1 (.slice B1 ys.length d1) ys.length (i64s vs)) ∧ Hd (Fr wr wq (Value.slice B1 ys.length d1).ownBlock.toList))
      case atStart => exact ⟨0, ys, rfl, by omega, OB10, ⟨Fr.refl _ _⟩⟩
      case round =>
        obtain ⟨j, vs, rfl, hj, HO, HF⟩ := hrel
        by_cases h1 : j < ys.length
        · obtain ⟨gB, cB, e, _⟩ := own_some HO.out (by omega)
          injection e with e1 e2 e3
          subst e1
          clear e2 e3
          obtain ⟨u0, y0, f0⟩ := Code.own_any HO.out (j := j) (by omega)
          have HO2 := Hd.mk ((HO.out.stored j (.int .i64 (-1))).1)
          rw [i64s_set] at HO2
          go_wp2
          go_roundg (gk - 1)
          case measure => omega
          case rel => exact ⟨j + 1, _, by go_num, by omega, HO2, ⟨HF.out.setCell _ (.inl (by simp [Value.ownBlock]))⟩⟩
        · obtain rfl : j = ys.length := by omega
          have fB := HF.out
          have OA11 := Hd.mk (own_frame OA10.out fB (off_of fun k hk => ((KB.out k hk).1).2))
          have OC11 := Hd.mk (own_frame OC10.out fB (off_of fun k hk => (KB.out k hk).2.1.1))
          have OD11 := Hd.mk (own_frame OD10.out fB (off_of fun k hk => (KB.out k hk).2.1.2))
          have OX11 := Hd.mk (own_frame OX10.out fB (off_of fun k hk => (KB.out k hk).2.2.1))
          have OY11 := Hd.mk (own_frame OY10.out fB (off_of fun k hk => (KB.out k hk).2.2.2))
          have F11 := Hd.mk (F10.out.trans fB (fun x hx hm => by rw [Option.mem_toList] at hm; have := ((KB.out x hm).1).1; omega))
          have OB11 := HO
          clear HO HF fB OA10 OB10 OC10 OD10 OX10 OY10 F10 h1 hj
          go_wp2_with (first | (at_builtin; refine wpList_append_sl rfl (.tmp 95) (.tmp 96) 27 rfl 3 i0 (.int .i64 0) 1 8 Try.underlying27 hi0 hz0 hz1 hz2 rfl (by decide) (.slice A1 xs.length c1) xs.length _ rfl (by exact OA11.out.alloc _) (some ⟨wr.heap.size, 0, none⟩) 2 2 [.int .i64 1, .int .i64 2] (some wr.heap.size) rfl rfl (by exact sl_of_blk (blk_new _ _)) (by intro h; cases h) (by intro u hu; simp at hu; rcases hu with rfl | rfl <;> rfl) (by unfold maxLen; omega) (by omega) ?_; intro A3 e3 w12 hown3 hgrow3 haft3; have Ew12 := Hd.mk (grown_fr hgrow3); have OB12 := Hd.mk (own_frame OB11.out Ew12.out (off_of fun k hk => ((KA.out k hk).1).2)); clear hown3 hgrow3 haft3) | (at_builtin; refine wpList_append_sl rfl (.tmp 98) (.tmp 99) 27 rfl 3 i0 (.int .i64 0) 1 8 Try.underlying27 hi0 hz0 hz1 hz2 rfl (by decide) (.slice B1 ys.length d1) ys.length _ rfl (by exact OB12.out.alloc _) (some ⟨w12.heap.size, 0, none⟩) 2 2 [.int .i64 3, .int .i64 4] (some w12.heap.size) rfl rfl (by exact sl_of_blk (blk_new _ _)) (by intro h; cases h) (by intro u hu; simp at hu; rcases hu with rfl | rfl <;> rfl) (by unfold maxLen; omega) (by omega) ?_; intro B3 e4 w13 hown3 hgrow3 haft3; have Ew13 := Hd.mk (grown_fr hgrow3); skip; clear hown3 hgrow3 haft3))
          have OC12 := Hd.mk (own_frame OC11.out Ew12.out (off_of fun k hk => (KA.out k hk).2.1.1))
          have OD12 := Hd.mk (own_frame OD11.out Ew12.out (off_of fun k hk => (KA.out k hk).2.1.2))
          have OX12 := Hd.mk (own_frame OX11.out Ew12.out (off_of fun k hk => (KA.out k hk).2.2.1))
          have OY12 := Hd.mk (own_frame OY11.out Ew12.out (off_of fun k hk => (KA.out k hk).2.2.2))
          have F12 := Hd.mk (F11.out.trans Ew12.out (fun x hx hm => by rw [Option.mem_toList] at hm; have := ((KA.out x hm).1).1; omega))
          have OC13 := Hd.mk (own_frame OC12.out Ew13.out (off_of fun k hk => (KB.out k hk).2.1.1))
          have OD13 := Hd.mk (own_frame OD12.out Ew13.out (off_of fun k hk => (KB.out k hk).2.1.2))
          have OX13 := Hd.mk (own_frame OX12.out Ew13.out (off_of fun k hk => (KB.out k hk).2.2.1))
          have OY13 := Hd.mk (own_frame OY12.out Ew13.out (off_of fun k hk => (KB.out k hk).2.2.2))
          have F13 := Hd.mk (F12.out.trans Ew13.out (fun x hx hm => by rw [Option.mem_toList] at hm; have := ((KB.out x hm).1).1; omega))
          clear OA11 OB11 OB12 OC11 OD11 OX11 OY11 OC12 OD12 OX12 OY12 F11 F12 Ew12 Ew13 KA KB
          refine (plainLens_any w13).mono ?_
          rintro e w14 hpo
          obtain ⟨gp, gq, rfl, op, oq, hgp, hgq, hgn, hf⟩ := hpo
          have hgpW : W.heap.size ≤ gp := by have := F13.out.size; omega
          have hgpl := own_lt op rfl
          have OP14 := Hd.mk op
          have OQ14 := Hd.mk oq
          clear op oq hgp hgq hgn
          have OC14 := Hd.mk (own_frame OC13.out hf (by simp))
          have OD14 := Hd.mk (own_frame OD13.out hf (by simp))
          have OX14 := Hd.mk (own_frame OX13.out hf (by simp))
          have OY14 := Hd.mk (own_frame OY13.out hf (by simp))
          have F14 := Hd.mk (F13.out.trans hf (by simp))
          clear hf F13 OC13 OD13 OX13 OY13
          go_wp2_with (fail)
          refine (rplainLens_any w14).mono ?_
          rintro e w15 hpo
          obtain ⟨gu, gv, cu, cv, rfl, op, oq, hgu, hgv, hf⟩ := hpo
          have hgup : gu ≠ gp := by omega
          have OU15 := Hd.mk op
          have OV15 := Hd.mk oq
          clear op oq hgu hgv hgpl
          have OC15 := Hd.mk (own_frame OC14.out hf (by simp))
          have OD15 := Hd.mk (own_frame OD14.out hf (by simp))
          have OX15 := Hd.mk (own_frame OX14.out hf (by simp))
          have OY15 := Hd.mk (own_frame OY14.out hf (by simp))
          have OP15 := Hd.mk (own_frame OP14.out hf (by simp))
          have OQ15 := Hd.mk (own_frame OQ14.out hf (by simp))
          have F15 := Hd.mk (F14.out.trans hf (by simp))
          clear hf F14 OC14 OD14 OX14 OY14 OP14 OQ14
          have hL1 : (((xs.length + 2 : Nat) : Int) != (xs.length : Int) + 2) = false := by simp
          have hL2 : (((ys.length + 2 : Nat) : Int) != (ys.length : Int) + 2) = false := by simp
          go_wp2_with (fail)
          refine (bsame_any w15 _ _ 288 288 _ _ plainLit plainLit _ _ (by simp [plainLit, fill_len]) (by simp [plainLit, fill_len]) (sl_of_own OP15.out) (sl_of_own OU15.out) (by omega) (by omega) true (decide_eq_true rfl).symm).mono ?_
          rintro e w16 ⟨rfl, hf⟩
          have OC16 := Hd.mk (own_frame OC15.out hf (by simp))
          have OD16 := Hd.mk (own_frame OD15.out hf (by simp))
          have OX16 := Hd.mk (own_frame OX15.out hf (by simp))
          have OY16 := Hd.mk (own_frame OY15.out hf (by simp))
          have OP16 := Hd.mk (own_frame OP15.out hf (by simp))
          have OQ16 := Hd.mk (own_frame OQ15.out hf (by simp))
          have OU16 := Hd.mk (own_frame OU15.out hf (by simp))
          have OV16 := Hd.mk (own_frame OV15.out hf (by simp))
          have F16 := Hd.mk (F15.out.trans hf (by simp))
          clear hf F15 OC15 OD15 OX15 OY15 OP15 OQ15 OU15 OV15
          go_wp2_with (fail)
          refine (bsame_any w16 _ _ 32 32 _ _ plainDist plainDist _ _ (by simp [plainDist, fill_len]) (by simp [plainDist, fill_len]) (sl_of_own OQ16.out) (sl_of_own OV16.out) (by omega) (by omega) true (decide_eq_true rfl).symm).mono ?_
          rintro e w17 ⟨rfl, hf⟩
          have OC17 := Hd.mk (own_frame OC16.out hf (by simp))
          have OD17 := Hd.mk (own_frame OD16.out hf (by simp))
          have OX17 := Hd.mk (own_frame OX16.out hf (by simp))
          have OY17 := Hd.mk (own_frame OY16.out hf (by simp))
          have OP17 := Hd.mk (own_frame OP16.out hf (by simp))
          have OQ17 := Hd.mk (own_frame OQ16.out hf (by simp))
          have OU17 := Hd.mk (own_frame OU16.out hf (by simp))
          have OV17 := Hd.mk (own_frame OV16.out hf (by simp))
          have F17 := Hd.mk (F16.out.trans hf (by simp))
          clear hf F16 OC16 OD16 OX16 OY16 OP16 OQ16 OU16 OV16
          go_wp2_with (fail)
          refine (bsame_any w17 _ _ xs.length xs.length _ _ xs xs _ _ rfl rfl (sl_of_own OC17.out) (sl_of_own OX17.out) (by omega) (by omega) true (decide_eq_true rfl).symm).mono ?_
          rintro e w18 ⟨rfl, hf⟩
          have OC18 := Hd.mk (own_frame OC17.out hf (by simp))
          have OD18 := Hd.mk (own_frame OD17.out hf (by simp))
          have OX18 := Hd.mk (own_frame OX17.out hf (by simp))
          have OY18 := Hd.mk (own_frame OY17.out hf (by simp))
          have OP18 := Hd.mk (own_frame OP17.out hf (by simp))
          have OQ18 := Hd.mk (own_frame OQ17.out hf (by simp))
          have OU18 := Hd.mk (own_frame OU17.out hf (by simp))
          have OV18 := Hd.mk (own_frame OV17.out hf (by simp))
          have F18 := Hd.mk (F17.out.trans hf (by simp))
          clear hf F17 OC17 OD17 OX17 OY17 OP17 OQ17 OU17 OV17
          go_wp2_with (fail)
          refine (bsame_any w18 _ _ ys.length ys.length _ _ ys ys _ _ rfl rfl (sl_of_own OD18.out) (sl_of_own OY18.out) (by omega) (by omega) true (decide_eq_true rfl).symm).mono ?_
          rintro e w19 ⟨rfl, hf⟩
          have OC19 := Hd.mk (own_frame OC18.out hf (by simp))
          have OD19 := Hd.mk (own_frame OD18.out hf (by simp))
          have OX19 := Hd.mk (own_frame OX18.out hf (by simp))
          have OY19 := Hd.mk (own_frame OY18.out hf (by simp))
          have OP19 := Hd.mk (own_frame OP18.out hf (by simp))
          have OQ19 := Hd.mk (own_frame OQ18.out hf (by simp))
          have OU19 := Hd.mk (own_frame OU18.out hf (by simp))
          have OV19 := Hd.mk (own_frame OV18.out hf (by simp))
          have F19 := Hd.mk (F18.out.trans hf (by simp))
          clear hf F18 OC18 OD18 OX18 OY18 OP18 OQ18 OU18 OV18
          go_wp2_with (fail)
          go_loopg [149] 288 (fun kq jv wq => ∃ (j : Nat) (zs : List Int), jv = .int .i64 (j : Nat) ∧ j + kq = 288 ∧ Hd (wq.ownsRow 0 3 1 (.slice (some ⟨gp, 0, none⟩) 288 288) 288 (i64s zs)) ∧ Hd (Fr w19 wq [gp]))
          case atStart => exact ⟨0, plainLit, rfl, by omega, OP19, ⟨Fr.refl _ _⟩⟩
          case round =>
            obtain ⟨j, zs, rfl, hj, HO, HF⟩ := hrel
            by_cases h1 : j < 288
            · obtain ⟨u0, y0, f0⟩ := Code.own_any HO.out (j := j) (by omega)
              have HO2 := Hd.mk ((HO.out.stored j (.int .i64 0)).1)
              rw [i64s_set] at HO2
              go_wp2
              go_roundg (gk - 1)
              case measure => omega
              case rel => exact ⟨j + 1, _, by go_num, by omega, HO2, ⟨HF.out.setCell _ (.inl (by simp))⟩⟩
            · obtain rfl : j = 288 := by omega
              have FY := Hd.mk (F19.out.trans HF.out (fun x hx hm => by simp at hm; omega))
              have OY2 := Hd.mk (own_frame OU19.out HF.out (fun k hk => by simp [Value.ownBlock] at hk; simp; omega))
              clear HO HF h1 hj OC19 OD19 OX19 OP19 OQ19 OU19 OV19 F19
              go_wp2_with (fail)
              refine (plainLens_any wr).mono ?_
              rintro e wa hpo
              obtain ⟨ga, gb, rfl, op, oq, hga, hgb, hgn, hf⟩ := hpo
              have OPa := Hd.mk op
              have OUa := Hd.mk (own_frame OY2.out hf (by simp))
              have Fa := Hd.mk (FY.out.trans hf (by simp))
              clear op oq hf hga hgb hgn FY OY2
              go_wp2_with (fail)
              refine (bsame_any wa _ _ 288 288 _ _ plainLit plainLit _ _ (by simp [plainLit, fill_len]) (by simp [plainLit, fill_len]) (sl_of_own OPa.out) (sl_of_own OUa.out) (by omega) (by omega) true (decide_eq_true rfl).symm).mono ?_
              rintro e wb ⟨rfl, hf⟩
              have Fb := Hd.mk (Fa.out.trans hf (by simp))
              clear hf OPa OUa Fa
              go_wp2_with (fail)
              refine (blives_any wb).mono ?_
              rintro e wc ⟨rfl, hf⟩
              have Fc := Hd.mk (Fb.out.trans hf (by simp))
              clear hf Fb
              go_wp2
              go_ret
              exact ⟨rfl, Fc.out.below⟩
end Go.Proofs.Ytlfckpmdmkccjaa.Blk
