/- Texts of this claim, one behind the other: RefWB, Face, BlkLaw, BlkWrites. -/
import Derived.Test.YtkdgfioigkijgaaGreatH01
import Derived.Test.YtkdgfioigkijgaaGreatH02
import Derived.Test.YtkdgfioigkijgaaGreatH03
import Derived.Test.YtkdgfioigkijgaaGreatH04
import Derived.Test.YtkdgfioigkijgaaGreatH05
import Derived.Test.YtkdgfioigkijgaaGreatH06
import Derived.Test.YtkdgfioigkijgaaGreatH07
import Derived.Test.YtkdgfioigkijgaaGreatH08
import Derived.Test.YtkdgfioigkijgaaGreatH09
import Derived.Test.YtkdgfioigkijgaaGreatH10
import Derived.Test.YtkdgfioigkijgaaGreatH11
import Derived.Test.YtkdgfioigkijgaaGreatH12
import Derived.Test.YtkdgfioigkijgaaGreatH13
import Derived.Test.YtkdgfioigkijgaaGreatH14
import Derived.Test.YtkdgfioigkijgaaGreatH15
import Derived.Test.YtkdgfioigkijgaaGreatH16
import Derived.Test.YtkdgfioigkijgaaGreatH17
import Derived.Test.YtkdgfioigkijgaaGreatH18
import Derived.Test.YtkdgfioigkijgaaGreatH19
import Derived.Test.YtkdgfioigkijgaaGreatH20
import Derived.Deep.RegionHeld3
/- The document's writer's Bytes. Conditions: fewer than 2^46 bits. -/
set_option maxRecDepth 100000
set_option linter.unusedVariables false
set_option linter.unusedSimpArgs false
namespace Go.Proofs.YtkdgfioigkijgaaGreat.Bits
open Go.RowKit Go.Proofs.YtkdgfioigkijgaaGreat.Lib Go.Proofs.YtkdgfioigkijgaaGreat.Num
section
variable {g N m : Nat} {q : Option Nat}
theorem bytes_none (m : Nat) : (madeCells (Value.int .u8 0).cells ((m + 7) / 8 * 1)).toList = u8s (bytesOf (N % 2 ^ 0) m) := by
  simp [madeCells, u8s, bytesOf, Value.cells, Nat.mod_one, Nat.mod_one]
theorem bytes_bit {K m i : Nat} (hK : K < 2 ^ i) (hi : i < m) : (bytesOf K m).set (i / 8) ((K / 2 ^ (8 * (i / 8)) + 2 ^ (i % 8) : Nat) : Int) = bytesOf (K + 2 ^ i) m := by
  have h8 : i / 8 < (m + 7) / 8 := by omega
  apply List.ext_getElem?
  intro j
  rw [List.getElem?_set]
  by_cases h1 : i / 8 = j
  · subst h1
    rw [if_pos rfl, if_pos (by rw [bytesOf_length]; exact h8), bytesOf_get h8]
    have a := top_new (N := K) (m := i) (x := 1)
    have b := top_new_lt (x := 1) (k := 1) hK (by decide) (by omega)
    rw [Nat.one_mul] at a b
    rw [Nat.one_mul] at a
    rw [a, Nat.mod_eq_of_lt b]
  · rw [if_neg h1]
    by_cases h2 : j < (m + 7) / 8
    · rw [bytesOf_get h2, bytesOf_get h2]
      congr 2
      by_cases h3 : j < i / 8
      · have := low_same (N := K) (x := 1) h3
        rw [Nat.one_mul] at this
        rw [this]
      · have h4 : K + 2 ^ i < 2 ^ (8 * j) := Nat.lt_of_lt_of_le (show K + 2 ^ i < 2 ^ (i + 1) by rw [Nat.pow_succ]; omega) (Nat.pow_le_pow_right (by decide) (by omega))
        rw [Nat.div_eq_of_lt h4, Nat.div_eq_of_lt (by omega)]
    · rw [List.getElem?_eq_none (by rw [bytesOf_length]; omega), List.getElem?_eq_none (by rw [bytesOf_length]; omega)]
theorem wbytes_any (w : World) (hm : m ≤ 70368744177664) (hT : RW w g N m q) :
    Calls Tryz.prog 24 #[.pointer (some ⟨g, 0, none⟩)] w fun e w' => ∃ v, e = .returned v ∧
      w'.ownsRow 0 5 1 v ((m + 7) / 8) (u8s (bytesOf N m)) ∧ (∀ k, v.ownBlock = some k → w.heap.size ≤ k) ∧ Fr w w' [] := by
  obtain ⟨i0, hi0, hz0, hz1, hz2⟩ := info_parts infoU8
  obtain ⟨A, c, hb, hown, _, hN⟩ := hT
  have h0 := blk_cell hb 0
  simp only [List.getElem?_toArray, List.getElem?_cons_zero, List.getElem?_cons_succ] at h0
  have HS := Hd.mk (sl_of_own hown)
  have HN := Hd.mk hN
  have HB := Hd.mk hb
  clear hb hown hN
  go_enter Tryz.func24, Tryz.ntmps24
  go_wp2_with (refine wpList_make_full _ rfl _ _ 23 rfl 0 5 i0 (.int .u8 0) 1 Tryz.underlying23 hi0 hz0 hz1 .i64 .i64 _ _ ((m + 7) / 8) rfl rfl (by omega) (by omega) (by rw [hz2]; omega) (by unfold maxLen; omega) (Nat.zero_le _) ?_; intro w1 hown1 hgrow1; have O1 := Hd.mk hown1; have G1 := Hd.mk hgrow1; have h1 := blk_cell (blk_grown hgrow1 HB.out (by simp)) 0; simp only [List.getElem?_toArray, List.getElem?_cons_zero, List.getElem?_cons_succ] at h1; clear hown1 hgrow1)
  go_loopg [19] m (fun kq iv wr => ∃ i : Nat, iv = .int .i64 (i : Nat) ∧ i + kq = m ∧ Hd (wr.ownsRow 0 5 1 (.slice (some ⟨w.heap.size, 0, none⟩) ((m + 7) / 8) ((m + 7) / 8)) ((m + 7) / 8) (u8s (bytesOf (N % 2 ^ i) m))) ∧ Hd (Fr w wr []))
  case atStart => exact ⟨0, rfl, by omega, ⟨by rw [← bytes_none]; exact O1.out⟩, ⟨(Fr.refl w []).grown G1.out (by simp)⟩⟩
  case round =>
    obtain ⟨i, rfl, hi, HO, HF⟩ := hrel
    by_cases hlt : i < m
    · obtain ⟨p, off, rfl, hp, hcell⟩ := (HS.out.frame HF.out (by simp)) (by simp [bools]; omega)
      have hcj := (hcell i (by simp [bools]; omega)).trans (bools_get hlt)
      clear hcell
      by_cases hbit : N.testBit i = true
      · rw [hbit] at hcj
        have hlow : Hd (N % 2 ^ (i + 1) = N % 2 ^ i + 2 ^ i) := ⟨by rw [low_bit, hbit]; simp⟩
        obtain ⟨K, hK⟩ : ∃ K, K = N % 2 ^ i := ⟨_, rfl⟩
        have hKlt : K < 2 ^ i := by rw [hK]; exact Nat.mod_lt _ (Nat.two_pow_pos _)
        rw [← hK] at HO
        have HK := Hd.mk hK
        have HKL := Hd.mk hKlt
        obtain ⟨y, hy⟩ : ∃ y, y = K / 2 ^ (8 * (i / 8)) := ⟨_, rfl⟩
        have hcb : wr.cell? ⟨w.heap.size, i / 8, none⟩ = some (.int .u8 (y : Nat)) := by
          obtain ⟨_, _, e1, _, hc⟩ := sl_of_own HO.out (by simp [u8s, bytesOf]; omega)
          cases e1
          have := hc (i / 8) (by simp [u8s, bytesOf]; omega)
          rw [Nat.zero_add, u8s_get, bytesOf_get (by omega)] at this
          rw [this, hy, Nat.mod_eq_of_lt (top_lt8 hKlt)]
          rfl
        have hfz : wr.frozen? ⟨w.heap.size, i / 8, none⟩ = false := by
          obtain ⟨ds, hds⟩ := own_type HO.out (k := w.heap.size) rfl
          exact blk_frozen hds _
        have hy1 : y + 2 ^ (i % 8) < 256 := by
          have := top_new_lt (x := 1) (k := 1) hKlt (by decide) (by omega)
          rw [← hy] at this; omega
        have HY := Hd.mk hy
        clear hK hKlt hy hbit
        go_wp2
        go_region
        go_wp2
        go_roundg (gk - 1)
        case measure => omega
        case rel =>
          have e : ((y : Int) + 2 ^ (i % 8)) % 256 = ((y + 2 ^ (i % 8) : Nat) : Int) := by
            have e1 : ((2 ^ (i % 8) : Nat) : Int) = 2 ^ (i % 8) := by simp
            rw [← e1, ← Int.natCast_add]
            obtain ⟨z, hz⟩ : ∃ z, z = y + 2 ^ (i % 8) := ⟨_, rfl⟩
            rw [← hz] at hy1 ⊢
            omega
          have h := (HO.out.stored (i / 8) (.int .u8 ((y + 2 ^ (i % 8) : Nat) : Int))).1
          have e2 : (u8s (bytesOf K m)).set (i / 8) (.int .u8 ((y + 2 ^ (i % 8) : Nat) : Int)) = u8s (bytesOf (N % 2 ^ (i + 1)) m) := by
            rw [hlow.out, ← HK.out, ← bytes_bit HKL.out hlt, ← HY.out]
            unfold u8s
            rw [List.map_set]
          rw [e2] at h
          rw [e]
          exact ⟨i + 1, by go_num, by omega, ⟨h⟩, ⟨(HF.out.setCell _ (.inr (Nat.le_refl _))).drew⟩⟩
      · have hb0 : N.testBit i = false := by simpa using hbit
        rw [hb0] at hcj
        have hlow : Hd (N % 2 ^ (i + 1) = N % 2 ^ i) := ⟨by rw [low_bit, hb0]; simp⟩
        clear hbit hb0
        go_wp2
        go_roundg (gk - 1)
        case measure => omega
        case rel => exact ⟨i + 1, by go_num, by omega, ⟨by rw [hlow.out]; exact HO.out⟩, HF⟩
    · obtain rfl : i = m := by omega
      go_wp2
      go_ret
      have := HO.out
      rw [Nat.mod_eq_of_lt HN.out] at this
      exact ⟨_, rfl, this, by intro k hk; simp [Value.ownBlock] at hk; omega, HF.out⟩
end
end Go.Proofs.YtkdgfioigkijgaaGreat.Bits
/- Tokens in the program's type, in a longer list (the laws' face). Conditions: at most 2^20 tokens. -/
set_option linter.unusedVariables false
set_option linter.unusedSimpArgs false
set_option maxRecDepth 100000
namespace Go.Proofs.YtkdgfioigkijgaaGreat.Lz
open Go.RowKit Go.Proofs.YtkdgfioigkijgaaGreat.Lib Go.Proofs.YtkdgfioigkijgaaGreat.Num Go.Proofs.YtkdgfioigkijgaaGreat.Bits

theorem infoTok : (Tryz.prog.info? 77).map (fun i => (i.zero, i.size, i.bytes)) = some (some (.agg #[.int .u8 0, .int .i64 0, .int .i64 0]), 3, 24) := by kernel_rfl
theorem tokOwn_new {wo w : World} {q q' : Option Nat} (hB : ∀ x, q = some x → wo.heap.size ≤ x) (hs : wo.heap.size ≤ w.heap.size) {o : Obj} (h : Aft (w.alloc o) q q') : ∀ y, q' = some y → wo.heap.size ≤ y := by
  intro y hy
  rcases h with e | ⟨z, e, hz⟩
  · rw [e] at hy; exact hB y hy
  · rw [e] at hy; cases hy; simp at hz; omega
instance : DecidableEq Tok := fun a b =>
  if h : a.lit = b.lit ∧ a.len = b.len ∧ a.dist = b.dist then isTrue (by cases a; cases b; simp only at h; obtain ⟨rfl, rfl, rfl⟩ := h; rfl) else isFalse (by rintro rfl; exact h ⟨rfl, rfl, rfl⟩)
def tail2 : List Tok := [⟨0, 77, 0⟩, ⟨0, 78, 0⟩]
set_option maxHeartbeats 4000000 in
theorem face_any (w : World) (A : Option Addr) (n c : Nat) (l : List Tok) (p : Option Nat) (hn : l.length = n) (hS : Sl w A (tcells l) p) (hb : n ≤ 1048576) :
    Calls Tryz.prog 15 #[.slice A n c] w fun e w' => ∃ g d, e = .returned (.tuple #[.slice (some ⟨g, 0, none⟩) (n + 2) d, .slice (some ⟨g, 0, none⟩) n d]) ∧
      w'.ownsRow 0 77 3 (.slice (some ⟨g, 0, none⟩) (n + 2) d) (n + 2) (tcells (l ++ tail2)) ∧ w.heap.size ≤ g ∧ Fr w w' [] := by
  obtain ⟨i0, hi0, hz0, hz1, hz2⟩ := info_parts infoTok
  subst hn
  have HS := Hd.mk hS
  clear hS
  go_enter Tryz.func15, Tryz.ntmps15
  go_wp2
  go_loopg [4, 9] l.length (fun kq sv jv wr => ∃ (j : Nat) (A1 : Option Addr) (m d1 : Nat), sv = .slice A1 m d1 ∧ jv = .int .i64 (j : Nat) ∧ j + kq = l.length ∧ m ≤ l.length ∧ Hd (m = j) ∧ Hd (wr.ownsRow 0 77 3 (.slice A1 m d1) m (tcells (l.take j))) ∧ Hd (∀ y, (Value.slice A1 m d1).ownBlock = some y → w.heap.size ≤ y) ∧ Hd (Fr w wr []))
  case atStart => exact ⟨0, none, 0, 0, rfl, rfl, by omega, by omega, ⟨rfl⟩, ⟨own_nil _ _ _ _⟩, ⟨by intro y hy; cases hy⟩, ⟨Fr.refl _ _⟩⟩
  case round =>
    obtain ⟨j, A1, m, d1, rfl, rfl, hj, hmj, HM, HO, HB, HF⟩ := hrel
    by_cases h1 : j < l.length
    · obtain ⟨a, o1, rfl, _, ha⟩ := Sl.row (enc := tcell) (sz := 3) (fun _ => rfl) (HS.out.frame HF.out (by simp)) h1 (by decide)
      obtain ⟨t, ht⟩ : ∃ t, t = l[j] := ⟨_, rfl⟩
      rw [← ht] at ha
      obtain ⟨lt, ln, ds⟩ := t
      have c0 := ha 0 (by decide)
      have c1 := ha 1 (by decide)
      have c2 := ha 2 (by decide)
      simp only [tcell, List.getElem?_cons_zero, List.getElem?_cons_succ, Nat.add_zero] at c0 c1 c2
      have HT := Hd.mk ht
      have hm2 : m + 1 ≤ l.length := by have := HM.out; omega
      have hks := blk_new wr (.cells #[.int .u8 lt, .int .i64 ln, .int .i64 ds] 80)
      have hfs := HF.out.alloc (.cells #[.int .u8 lt, .int .i64 ln, .int .i64 ds] 80)
      have hos := HO.out.alloc (.cells #[.int .u8 lt, .int .i64 ln, .int .i64 ds] 80)
      clear ha ht HO
      go_upto_region 5 with (fail)
      generalize hwt : wr.alloc (.cells #[.int .u8 lt, .int .i64 ln, .int .i64 ds] 80) = wt
      rw [hwt] at hks hfs hos
      have HFs := Hd.mk hfs
      have HOs := Hd.mk hos
      have g0 := blk_cell hks 0
      have g1 := blk_cell hks 1
      have g2 := blk_cell hks 2
      simp only [List.getElem?_toArray, List.getElem?_cons_zero, List.getElem?_cons_succ] at g0 g1 g2
      clear hfs hos hks c0 c1 c2 hwt
      go_wp2_with (at_builtin; refine wpList_append_sl rfl (.tmp 13) (.tmp 21) 41 rfl 77 i0 (.agg #[.int .u8 0, .int .i64 0, .int .i64 0]) 3 24 Tryz.underlying41 hi0 hz0 hz1 hz2 rfl (by decide) (.slice A1 m d1) m _ rfl (by exact HOs.out.alloc _) (some ⟨wt.heap.size, 0, none⟩) 1 1 [.int .u8 lt, .int .i64 ln, .int .i64 ds] (some wt.heap.size) rfl rfl (by exact sl_of_blk (blk_new _ _)) (by intro h; cases h) (by intro u hu; simp at hu; rcases hu with rfl | rfl | rfl <;> rfl) (by unfold maxLen; omega) (by omega) ?_; intro A3 d3 w6 hown' hgrow haft; have O3 := Hd.mk hown'; have G3 := Hd.mk hgrow; have F3 := Hd.mk haft; clear hown' hgrow haft)
      go_roundg (gk - 1)
      case measure => omega
      case rel =>
        refine ⟨j + 1, A3, m + 1, d3, rfl, by go_num, by omega, hm2, ⟨by rw [HM.out]⟩, ⟨?_⟩, ⟨tokOwn_new HB.out HFs.out.size F3.out⟩, ⟨(HFs.out.alloc _).grown G3.out (fun y hy => .inr (HB.out y hy))⟩⟩
        rw [List.take_succ_eq_append_getElem h1, ← HT.out, tcells_app]
        exact O3.out
    · obtain rfl : j = l.length := by omega
      obtain rfl : m = l.length := HM.out
      have HO2 : Hd (wr.ownsRow 0 77 3 (.slice A1 l.length d1) l.length (tcells l)) := ⟨by have := HO.out; rwa [List.take_length] at this⟩
      clear HO
      go_wp2_with (at_builtin; refine wpList_append_sl rfl (.tmp 24) (.tmp 27) 41 rfl 77 i0 (.agg #[.int .u8 0, .int .i64 0, .int .i64 0]) 3 24 Tryz.underlying41 hi0 hz0 hz1 hz2 rfl (by decide) (.slice A1 l.length d1) l.length _ rfl (by exact HO2.out.alloc _) (some ⟨wr.heap.size, 0, none⟩) 2 2 [.int .u8 0, .int .i64 77, .int .i64 0, .int .u8 0, .int .i64 78, .int .i64 0] (some wr.heap.size) rfl rfl (by exact sl_of_blk (blk_new _ _)) (by intro h; cases h) (by intro u hu; simp at hu; rcases hu with rfl | rfl | rfl | rfl | rfl | rfl <;> rfl) (by unfold maxLen; omega) (by omega) ?_; intro A3 d3 w6 hown' hgrow haft; have O3 := Hd.mk hown'; have G3 := Hd.mk hgrow; have F3 := Hd.mk haft; have hd3 : l.length + 2 ≤ d3 := (by obtain ⟨_, _, e, hh, _⟩ := own_slice hown'; cases e; exact hh); obtain ⟨g3, d3', e3, _⟩ := own_some hown' (by omega); injection e3 with e3 _ e4; subst e3 e4; clear hown' hgrow haft)
      go_region
      go_wp2
      go_ret2
      have hB3 := tokOwn_new HB.out HF.out.size F3.out
      exact ⟨g3, d3, rfl, by rw [tcells_app]; exact O3.out, hB3 g3 rfl, ((HF.out.alloc _).grown G3.out (fun y hy => .inr (HB.out y hy))).drew⟩
end Go.Proofs.YtkdgfioigkijgaaGreat.Lz
/- Chapter 09's law: same, kept. No condition. -/
set_option linter.unusedVariables false
set_option linter.unusedSimpArgs false
set_option maxRecDepth 100000
namespace Go.Proofs.YtkdgfioigkijgaaGreat.Blk
open Go.RowKit Go.Proofs.YtkdgfioigkijgaaGreat.Lib Go.Proofs.YtkdgfioigkijgaaGreat.Ints Go.Proofs.YtkdgfioigkijgaaGreat.Lz
theorem bcell {w w' : World} {F : List Nat} (h : Fr w w' F) {a : Addr} {v : Value} (hc : w.cell? a = some v) (hF : a.block ∉ F) : w'.cell? a = some v := by
  rw [World.cell?_of_block (w := w) (h.block _ (World.block_lt_of_cell? w _ hc) hF)]; exact hc
theorem tail2_get (l : List Tok) : (l ++ tail2)[l.length]? = some ⟨0, 77, 0⟩ ∧ (l ++ tail2)[l.length + 1]? = some ⟨0, 78, 0⟩ := by
  constructor
  · rw [List.getElem?_append_right (Nat.le_refl _), Nat.sub_self]; rfl
  · rw [List.getElem?_append_right (by omega), show l.length + 1 - l.length = 1 from by omega]; rfl
set_option maxHeartbeats 4000000 in
theorem bkept_any (w : World) (g d : Nat) (A : Option Addr) (n c : Nat) (l : List Tok) (p : Option Nat) (hn : l.length = n) (hW : Sl w (some ⟨g, 0, none⟩) (tcells (l ++ tail2)) (some g)) (hS : Sl w A (tcells l) p) (hn1 : n ≤ 4611686018427387904) :
    Calls Tryz.prog 20 #[.slice (some ⟨g, 0, none⟩) (n + 2) d, .slice A n c] w fun e w' => e = .returned (.bool true) ∧ Fr w w' [] := by
  subst hn
  have HS := Hd.mk hS
  have HW := Hd.mk hW
  clear hS hW
  have hlw : (l ++ tail2).length = l.length + 2 := by rw [List.length_append]; rfl
  go_enter Tryz.func20, Tryz.ntmps20
  go_wp2
  go_loopg [12] l.length (fun kq jv wr => ∃ j : Nat, jv = .int .i64 (j : Nat) ∧ j + kq = l.length ∧ Hd (Fr w wr []))
  case atStart => exact ⟨0, rfl, by omega, ⟨Fr.refl _ _⟩⟩
  case round =>
    obtain ⟨j, rfl, hj, HF⟩ := hrel
    by_cases h1 : j < l.length
    · obtain ⟨a, o1, rfl, _, ha⟩ := Sl.row (enc := tcell) (sz := 3) (fun _ => rfl) (HS.out.frame HF.out (by simp)) h1 (by decide)
      obtain ⟨b, o2, e2, _, hb⟩ := Sl.row (enc := tcell) (sz := 3) (fun _ => rfl) (HW.out.frame HF.out (by simp)) (show j < (l ++ tail2).length by omega) (by decide)
      cases e2
      have hge : (l ++ tail2)[j]'(by omega) = l[j] := List.getElem_append_left h1
      rw [hge] at hb
      obtain ⟨t, ht⟩ : ∃ t, t = l[j] := ⟨_, rfl⟩
      rw [← ht] at ha hb
      obtain ⟨lt, ln, ds⟩ := t
      have c0 := ha 0 (by decide)
      have c1 := ha 1 (by decide)
      have c2 := ha 2 (by decide)
      have b0 := hb 0 (by decide)
      have b1 := hb 1 (by decide)
      have b2 := hb 2 (by decide)
      simp only [tcell, List.getElem?_cons_zero, List.getElem?_cons_succ, Nat.add_zero, Nat.zero_add] at c0 c1 c2 b0 b1 b2
      have e0 : (lt == lt) = true := by simp
      have e1 : (ln == ln) = true := by simp
      have e3 : (ds == ds) = true := by simp
      clear ha hb ht hge
      go_upto_region 5 with (fail)
      have bz := blk_new wr (.cells #[.int .u8 lt, .int .i64 ln, .int .i64 ds] 80)
      have A1 := (Fr.refl wr []).alloc (.cells #[.int .u8 lt, .int .i64 ln, .int .i64 ds] 80)
      have g0 := blk_cell bz 0
      have g1 := blk_cell bz 1
      have g2 := blk_cell bz 2
      simp only [List.getElem?_toArray, List.getElem?_cons_zero, List.getElem?_cons_succ] at g0 g1 g2
      have d0 := bcell A1 b0 (by simp)
      have d1 := bcell A1 b1 (by simp)
      have d2 := bcell A1 b2 (by simp)
      have F1 := Hd.mk (HF.out.trans A1 (by simp))
      clear bz A1 b0 b1 b2 c0 c1 c2 HF
      generalize wr.alloc (.cells #[.int .u8 lt, .int .i64 ln, .int .i64 ds] 80) = w1 at *
      generalize wr.heap.size = gb at *
      have hj2 : (j : Int) < (l.length : Nat) + 2 := by omega
      go_region
      go_wp2
      go_roundg (gk - 1)
      case measure => omega
      case rel => exact ⟨j + 1, by go_num, by omega, ⟨F1.out.drew⟩⟩
    · obtain rfl : j = l.length := by omega
      obtain ⟨g1, g2⟩ := tail2_get l
      obtain ⟨b1, o2, e2, _, hb1⟩ := Sl.row (enc := tcell) (sz := 3) (fun _ => rfl) (HW.out.frame HF.out (by simp)) (show l.length < (l ++ tail2).length by omega) (by decide)
      cases e2
      obtain ⟨b2, o3, e3, _, hb2⟩ := Sl.row (enc := tcell) (sz := 3) (fun _ => rfl) (HW.out.frame HF.out (by simp)) (show l.length + 1 < (l ++ tail2).length by omega) (by decide)
      cases e3
      have k1 := hb1 1 (by decide)
      have k2 := hb2 1 (by decide)
      rw [show (l ++ tail2)[l.length]'(by omega) = ⟨0, 77, 0⟩ from (List.getElem?_eq_some_iff.1 g1).2] at k1
      rw [show (l ++ tail2)[l.length + 1]'(by omega) = ⟨0, 78, 0⟩ from (List.getElem?_eq_some_iff.1 g2).2] at k2
      simp only [tcell, List.getElem?_cons_zero, List.getElem?_cons_succ, Nat.zero_add] at k1 k2
      clear hb1 hb2 g1 g2
      go_wp2
      go_ret
      exact ⟨rfl, HF.out⟩
end Go.Proofs.YtkdgfioigkijgaaGreat.Blk
/- BlockWrites' walk. Conditions: at most 2^20 blocks of at most 2^20 tokens each. -/
set_option linter.unusedVariables false
set_option linter.unusedSimpArgs false
set_option maxRecDepth 100000
namespace Go.Proofs.YtkdgfioigkijgaaGreat.Blk
open Go.RowKit Go.Proofs.YtkdgfioigkijgaaGreat.Lib Go.Proofs.YtkdgfioigkijgaaGreat.Ints Go.Proofs.YtkdgfioigkijgaaGreat.Lz Go.Proofs.YtkdgfioigkijgaaGreat.Num Go.Proofs.YtkdgfioigkijgaaGreat.Bits
/-- a block of the law's -/
structure Bk where
  k : Int
  b : Bool
  wr : Int
  A : Option Addr
  n : Nat
  c : Nat
def Bk.cells (x : Bk) : List Value := [.int .i64 x.k, .bool x.b, .int .i64 x.wr, .slice x.A x.n x.c]
def Bk.ok (W : World) (x : Bk) : Prop := ∃ (l : List Tok) (p : Option Nat), l.length = x.n ∧ x.n ≤ 1048576 ∧ Sl W x.A (tcells l) p ∧ (∀ k, p = some k → k < W.heap.size) ∧ LitB l
def Is8 (d : List Int) : Prop := ∀ x ∈ d, 0 ≤ x ∧ x ≤ 255
theorem is8_copy (dist : Nat) : ∀ k b, Is8 b → Is8 (copyF dist k b)
  | 0, b, h => h
  | k + 1, b, h => by
    refine is8_copy dist k _ ?_
    intro x hx
    rcases List.mem_append.1 hx with e | e
    · exact h x e
    · simp at e
      rw [e]
      unfold at0
      by_cases hi : b.length - dist < b.length
      · rw [List.getD_eq_getElem?_getD, List.getElem?_eq_getElem hi]; exact h _ (List.getElem_mem hi)
      · rw [List.getD_eq_getElem?_getD, List.getElem?_eq_none (by omega)]; simp
theorem is8_exp : ∀ (l : List Tok) (b : List Int), LitB l → Is8 b → Is8 (expF l b)
  | [], b, _, h => h
  | t :: l, b, hl, h => by
    refine is8_exp l _ (fun u hu => hl u (by simp [hu])) ?_
    unfold tokF
    refine is8_copy _ _ _ ?_
    split
    · intro x hx
      rcases List.mem_append.1 hx with e | e
      · exact h x e
      · simp at e; rw [e]; exact hl t (by simp)
    · exact h
theorem is8_expand {v : Int} {l : List Tok} (h : LitB l) : Is8 (expand v l) := by
  unfold expand
  split
  · exact is8_exp l [] h (by intro x hx; cases hx)
  · intro x hx; cases hx
theorem expand_len258 {v : Int} {l : List Tok} : (expand v l).length ≤ 258 * l.length := by
  by_cases h : (check v l).2 = 0
  · rw [expand_len h]; exact sizeOf_le l
  · unfold expand; rw [if_neg h]; simp
/-- what the law writes with: some bytes, new -/
def Dat (W0 w : World) (A : Option Addr) (m c : Nat) : Prop := ∃ xs q, SlArg w A m c (u8s xs) q ∧ Is8 xs ∧ (∀ k, q = some k → W0.heap.size ≤ k) ∧ Fr W0 w []
theorem dat_own {W0 w : World} {A : Option Addr} {m c : Nat} {xs : List Int} (h : w.ownsRow 0 5 1 (.slice A m c) m (u8s xs)) (h8 : Is8 xs) (hn : ∀ y, (Value.slice A m c).ownBlock = some y → W0.heap.size ≤ y) (hf : Fr W0 w []) : Dat W0 w A m c := ⟨xs, _, slArg_own h, h8, hn, hf⟩
theorem is8_snoc {xs : List Int} (h : Is8 xs) {v : Int} (h0 : 0 ≤ v ∧ v ≤ 255) : Is8 (xs ++ [v]) := by
  intro x hx
  rcases List.mem_append.1 hx with e | e
  · exact h x e
  · simp at e; rw [e]; exact h0
theorem dat_cut {W0 w : World} {A : Option Addr} {m c : Nat} (h : Dat W0 w A m c) (hm : 1 ≤ m) : Dat W0 w (cutA A c 1 1) (m - 1) (c - 1) := by
  obtain ⟨xs, q, hs, h8, hn, hf⟩ := h
  have hl : xs.length = m := by have := hs.len; simpa [u8s] using this
  refine ⟨xs.drop 1, q, ⟨by simp [u8s, hl], by have := hs.le; omega, by have := hs.max; omega, fun h => ?_, ?_, hs.lt⟩, fun x hx => h8 x (List.mem_of_mem_drop hx), hn, hf⟩
  · have := cutA_none hs.nil h; omega
  · have := hs.sl.cut (k := 1) (by have := hs.len; exact this) hs.le hm
    simpa [u8s, List.map_drop] using this
theorem wrpost_pw {w w' : World} {gw N m : Nat} {q : Option Nat} {er : Int} {P : List (Nat × Nat)} (hT : Tl w gw 27 N m q) (h : WrPost w w' gw N m q er P) : ∃ q', Pw w w' gw q q' N m (if er = 0 then P else []) := by
  by_cases h0 : er = 0
  · rw [if_pos h0]; exact h.1 h0
  · rw [if_neg h0]; exact ⟨q, (Pw.start hT).call (h.2 h0)⟩
theorem rwpost_rw {w w' : World} {gw N m : Nat} {q : Option Nat} {er : Int} {P : List (Nat × Nat)} (hT : RW w gw N m q) (h : RwPost w w' gw N m q er P) : ∃ q', Rw w w' gw q q' N m (if er = 0 then P else []) := by
  by_cases h0 : er = 0
  · rw [if_pos h0]; exact h.1 h0
  · rw [if_neg h0]; exact ⟨q, (Rw.start hT).call (h.2 h0)⟩
theorem face_sl2 {w : World} {g n d : Nat} {xs : List Value} (h : w.ownsRow 0 77 3 (.slice (some ⟨g, 0, none⟩) n d) n xs) : Sl w (some ⟨g, 0, none⟩) xs (some g) := by
  intro hx
  rcases h.2 with ⟨h', _⟩ | ⟨g', cap, cur, h', hb, hh, hnc, hcm, hcs, ht⟩
  · cases h'
  · injection h' with h1 _ _
    injection h1 with h1
    injection h1 with h1
    subst h1
    refine ⟨g, 0, rfl, rfl, fun j hj => ?_⟩
    rw [Nat.zero_add, blk_cell hh, ← ht, List.getElem?_take, if_pos (by have := h.1; omega)]
    simp
theorem lend8 {xs : List Int} (h : Is8 xs) : ∀ x ∈ xs ++ lendTail, 0 ≤ x ∧ x ≤ 255 := by
  intro x hx
  rcases List.mem_append.1 hx with e | e
  · exact h x e
  · simp [lendTail] at e
    omega
set_option maxHeartbeats 16000000 in
theorem blkwrites_walk (bh : Int) (A : Option Addr) (n c : Nat) (bs : List Bk) (p : Option Nat) (W : World) (wb : (Lit.int .i64 bh).wf = true) (hn : bs.length = n) (hnc : n ≤ c) (hA : A = none → n = 0 ∧ c = 0) (hS : Sl W A (bs.flatMap Bk.cells) p) (hpw : ∀ k, p = some k → k < W.heap.size) (hok : ∀ b ∈ bs, Bk.ok W b) (hb : n ≤ 1048576) :
    Calls Tryz.prog 3 #[.int .i64 bh, .slice A n c] W fun e w' => e = .returned (.bool true) ∧ Below W.heap.size W w' := by
  obtain ⟨i0, hi0, hz0, hz1, hz2⟩ := info_parts infoU8
  have HS := Hd.mk hS
  have HOK := Hd.mk hok
  clear hS hA hpw hok wb
  go_enter Tryz.func3, Tryz.ntmps3
  go_upto_region 2 with (fail)
  have T2 := Hd.mk (tl_new W 27 (by decide))
  have A2 := (Fr.refl W []).alloc (.cells #[.slice none 0 0, .int .i64 0] 27)
  have F2 := Hd.mk A2
  have hgw : W.heap.size ≤ W.heap.size := Nat.le_refl _
  obtain ⟨gw, hgwe⟩ : ∃ gw, gw = W.heap.size := ⟨_, rfl⟩
  rw [← hgwe] at T2 ⊢
  have NW : Hd (W.heap.size ≤ gw) := ⟨by omega⟩
  clear A2 hgw hgwe
  generalize W.alloc (.cells #[.slice none 0 0, .int .i64 0] 27) = w2 at *
  go_upto_region 3 with (fail)
  have X3 := Hd.mk (rw_new w2)
  have A3 := (Fr.refl w2 []).alloc (.cells #[.slice none 0 0] 30)
  have T3 := Hd.mk (T2.out.frame A3 (by simp) (by simp))
  have F3 := Hd.mk (F2.out.trans A3 (by simp))
  have NX := Hd.mk F2.out.size
  clear A3 T2 F2
  generalize w2.alloc (.cells #[.slice none 0 0] 30) = w3 at *
  generalize w2.heap.size = gx at *
  have HS0 : Hd (Hs W w3 gw 0 0 none gx 0 0 none) := ⟨⟨T3.out, X3.out, F3.out, NW.out, NX.out, (by intro y hy; cases hy), (by intro y hy; cases hy)⟩⟩
  clear T3 X3 F3 NW NX
  have hr1 : -8 < bh.tmod 8 := Int.lt_tmod_of_pos bh (by decide)
  have hr2 : bh.tmod 8 < 8 := Int.tmod_lt_of_pos bh (by decide)
  obtain ⟨r8, hr8⟩ : ∃ r8, r8 = bh.tmod 8 := ⟨_, rfl⟩
  rw [← hr8] at hr1 hr2
  have hrm : IntKind.i64.wrap (bh.tmod 8) = r8 := by rw [← hr8]; exact IntWalk.i64_in _ (by omega)
  have hrm2 : bh.tmod 8 = r8 := hr8.symm
  clear hr8
  go_wp2_with (fail)
  go_loopg [7] (r8.toNat) (fun kq iv wr => ∃ (i N : Nat) (q p : Option Nat), iv = .int .i64 (i : Nat) ∧ i + kq = r8.toNat ∧ Hd (Hs W wr gw N i q gx N i p))
  case atStart => exact ⟨0, 0, none, none, rfl, by omega, HS0⟩
  case round =>
    clear HS0
    obtain ⟨i, N, q, p', rfl, hi, HT⟩ := hrel
    by_cases h1 : i < r8.toNat
    · have hiI : (i : Int) < r8 := by omega
      go_wp2_with (fail)
      refine (wput 1 1 1 rfl (by decide) (by omega) (by omega) HT.out.tl (by have : (1 : Int).toNat = 1 := rfl; omega)).mono ?_
      rintro e w4 ⟨rfl, hp⟩
      obtain ⟨q2, h2⟩ := HT.out.put1 hp
      have HS2 := Hd.mk h2
      clear hp h2 HT
      go_wp2_with (fail)
      refine (rwput 1 1 1 rfl (by decide) (by omega) (by omega) HS2.out.rw_ (by have : (1 : Int).toNat = 1 := rfl; omega)).mono ?_
      rintro e w5 ⟨rfl, hp⟩
      obtain ⟨p2, h2⟩ := HS2.out.put2 hp
      have HS3 := Hd.mk h2
      clear hp h2 HS2
      go_wp2
      go_roundg (gk - 1)
      case measure => omega
      case rel => exact ⟨i + 1, N + 1 * 2 ^ i, q2, p2, by go_num, by omega, HS3⟩
    · have hiI : ¬ (i : Int) < r8 := by omega
      have hi8 : i ≤ 8 := by omega
      obtain ⟨w6, rfl⟩ : ∃ w6 : World, w6 = wr := ⟨_, rfl⟩
      go_wp2_with (fail)
      go_loopg [4, 28] n (fun kq s4 iv wr => ∃ (j N m : Nat) (q p1 : Option Nat), s4 = .bool false ∧ iv = .int .i64 (j : Nat) ∧ j + kq = n ∧ m ≤ 8 + 4000000 * j ∧ Hd (Hs W wr gw N m q gx N m p1))
      case atStart => exact ⟨0, N, i, q, p', rfl, rfl, by omega, by omega, HT⟩
      case round =>
        clear HT hi hiI hrm hrm2 h1 hi8 hr1 hr2
        obtain ⟨j, N, m, q, p1, rfl, rfl, hj, hm, HT⟩ := hrel
        by_cases hjn : j < n
        · have hjb : j < bs.length := by omega
          obtain ⟨a, o1, rfl, _, hcc⟩ := Sl.row (enc := Bk.cells) (sz := 4) (fun _ => rfl) (HS.out.frame HT.out.fr (by simp)) hjb (by decide)
          obtain ⟨x, hx⟩ : ∃ x, x = bs[j] := ⟨_, rfl⟩
          rw [← hx] at hcc
          have hxo := HOK.out x (by rw [hx]; exact List.getElem_mem hjb)
          obtain ⟨k, b, wg, Ab, nb, cb⟩ := x
          obtain ⟨l, pl, hl1, hl2, hl3, hl4, hl5⟩ := hxo
          simp only at hl1 hl2 hl3
          have c0 := hcc 0 (by decide)
          have c1 := hcc 1 (by decide)
          have c2 := hcc 2 (by decide)
          have c3 := hcc 3 (by decide)
          simp only [Bk.cells, List.getElem?_cons_zero, List.getElem?_cons_succ, Nat.add_zero] at c0 c1 c2 c3
          have LX := Hd.mk hl3
          have LPW := Hd.mk hl4
          have LL := Hd.mk hl5
          have HL1 := Hd.mk hl1
          have hjI : (j : Int) < (n : Nat) := by omega
          clear hcc hx hl3 hl4 hl5 hl1
          go_upto_region 11 with (fail)
          have BZ0 := blk_new wr (.cells #[.int .i64 k, .bool b, .int .i64 wg, .slice Ab nb cb] 37)
          have A4 := (Fr.refl wr []).alloc (.cells #[.int .i64 k, .bool b, .int .i64 wg, .slice Ab nb cb] 37)
          have BZ := Hd.mk BZ0
          have HT2 := Hd.mk (HT.out.call A4)
          clear BZ0 A4 HT c0 c1 c2 c3
          generalize wr.alloc (.cells #[.int .i64 k, .bool b, .int .i64 wg, .slice Ab nb cb] 37) = w4 at *
          generalize wr.heap.size = g9 at *
          have d3 := blk_cell BZ.out 3
          simp only [List.getElem?_toArray, List.getElem?_cons_zero, List.getElem?_cons_succ] at d3
          go_wp2_with (fail)
          obtain ⟨er0, he0⟩ : ∃ e, e = (check 32768 l).2 := ⟨_, rfl⟩
          obtain ⟨bs0, hbs0⟩ : ∃ x, x = expand 32768 l := ⟨_, rfl⟩
          refine (rexpand_any w4 32768 Ab nb cb l pl HL1.out (LX.out.frame HT2.out.fr (by simp)) hl2 er0 bs0 he0 hbs0).mono ?_
          rintro e w5 ⟨Ad, md, cd, rfl, h1, h2, h3⟩
          have hm0 : md ≤ 270532608 := by
            have e1 := h1.1
            have e2 := expand_len258 (v := 32768) (l := l)
            rw [← hbs0, HL1.out] at e2
            simp [u8s] at e1
            omega
          have O5 := Hd.mk h1
          have N5 := Hd.mk h2
          have F5 := Hd.mk h3
          have E5 : Hd (Is8 bs0) := ⟨by rw [hbs0]; exact is8_expand LL.out⟩
          obtain ⟨s, hs⟩ : ∃ s, s = Lz.sizeOf l := ⟨_, rfl⟩
          have hsl : s ≤ 270532608 := by rw [hs]; have := Lz.sizeOf_le l; rw [HL1.out] at this; omega
          have HSZ := Hd.mk hs
          clear h1 h2 h3 he0 hbs0 hs d3
          obtain ⟨gk0, rfl⟩ : ∃ x, x = gk := ⟨_, rfl⟩
          go_wp2
          go_loopg [10] (s - md) (fun kq sv wq => ∃ (Ad : Option Addr) (m c : Nat) (xs : List Int), sv = .slice Ad m c ∧ kq = s - m ∧ m ≤ 270532608 ∧ Hd (wq.ownsRow 0 5 1 (.slice Ad m c) m (u8s xs)) ∧ Hd (Is8 xs) ∧ Hd (∀ y, (Value.slice Ad m c).ownBlock = some y → w4.heap.size ≤ y) ∧ Hd (Fr w4 wq []))
          case atStart => exact ⟨Ad, md, cd, bs0, rfl, rfl, hm0, O5, E5, N5, F5⟩
          case round =>
            clear O5 E5 N5 F5 hm0
            obtain ⟨Aq, mq, cq, xs, rfl, hk, hmq, HO, HE, HN, HF⟩ := hrel
            have d3 := blk_cell (HF.out.blk BZ.out (by simp)) 3
            simp only [List.getElem?_toArray, List.getElem?_cons_zero, List.getElem?_cons_succ] at d3
            go_wp2_with (fail)
            refine (rsize_any wr Ab nb cb l pl HL1.out (LX.out.frame (HT2.out.fr.trans HF.out (by simp)) (by simp)) (by omega)).mono ?_
            rintro e w7 ⟨rfl, h2⟩
            rw [← HSZ.out]
            have HO := Hd.mk (own_frame HO.out h2 (by simp))
            have HF := Hd.mk (HF.out.trans h2 (by simp))
            clear h2 d3
            by_cases hlt : mq < s
            · have hltI : (mq : Int) < (s : Nat) := by omega
              go_wp2_with (at_builtin; refine wpList_append_sl rfl (.tmp 44) (.tmp 45) 23 rfl 5 i0 (.int .u8 0) 1 1 Tryz.underlying23 hi0 hz0 hz1 hz2 rfl (by decide) (.slice Aq mq cq) mq _ rfl (by exact HO.out.alloc _) (some ⟨w7.heap.size, 0, none⟩) 1 1 [.int .u8 122] (some w7.heap.size) rfl rfl (by exact sl_of_blk (blk_new _ _)) (by intro h; cases h) (by intro u hu; simp at hu; subst hu; rfl) (by unfold maxLen; omega) (by omega) ?_; intro A8 c8 w8 hown8 hgrow8 haft8; have O8 := Hd.mk hown8; have G8 := Hd.mk hgrow8; have AF8 := Hd.mk haft8; clear hown8 hgrow8 haft8)
              go_roundg (s - (mq + 1))
              case measure => omega
              case rel =>
                refine ⟨A8, mq + 1, c8, xs ++ [122], rfl, rfl, by omega, ⟨?_⟩, ⟨is8_snoc HE.out (by decide)⟩, ⟨fun y hy => ?_⟩, ⟨(HF.out.alloc _).grown G8.out (fun y hy => .inr (HN.out y hy))⟩⟩
                · have h := O8.out
                  simpa [u8s] using h
                · rcases AF8.out with e | ⟨z, e, hz⟩
                  · rw [e] at hy; exact HN.out y hy
                  · rw [e] at hy; cases hy; rw [World.size_alloc] at hz; have := HF.out.size; omega
            · have hltI : ¬ (mq : Int) < (s : Nat) := by omega
              have d2 := blk_cell (HF.out.blk BZ.out (by simp)) 2
              simp only [List.getElem?_toArray, List.getElem?_cons_zero, List.getElem?_cons_succ] at d2
              go_upto_if 49 with (fail)
              go_cut [10] (fun s10 wd => ∃ (Ad : Option Addr) (m c : Nat) (xs : List Int), s10 = .slice Ad m c ∧ m ≤ 270532609 ∧ Hd (wd.ownsRow 0 5 1 (.slice Ad m c) m (u8s xs)) ∧ Hd (Is8 xs) ∧ Hd (∀ y, (Value.slice Ad m c).ownBlock = some y → w4.heap.size ≤ y) ∧ Hd (Fr w4 wd []))
              case first =>
                by_cases hw : wg > 0
                · go_wp2_with (at_builtin; refine wpList_append_sl rfl (.tmp 50) (.tmp 51) 23 rfl 5 i0 (.int .u8 0) 1 1 Tryz.underlying23 hi0 hz0 hz1 hz2 rfl (by decide) (.slice Aq mq cq) mq _ rfl (by exact HO.out.alloc _) (some ⟨w7.heap.size, 0, none⟩) 1 1 [.int .u8 1] (some w7.heap.size) rfl rfl (by exact sl_of_blk (blk_new _ _)) (by intro h; cases h) (by intro u hu; simp at hu; subst hu; rfl) (by unfold maxLen; omega) (by omega) ?_; intro A8 c8 w8 hown8 hgrow8 haft8; have O8 := Hd.mk hown8; have AF8 := Hd.mk haft8; have G8 := Hd.mk hgrow8; clear hown8 hgrow8 haft8)
                  go_meet
                  case rel =>
                    refine ⟨A8, mq + 1, c8, xs ++ [1], rfl, by omega, ⟨?_⟩, ⟨is8_snoc HE.out (by decide)⟩, ⟨fun y hy => ?_⟩, ⟨(HF.out.alloc _).grown G8.out (fun y hy => .inr (HN.out y hy))⟩⟩
                    · have h := O8.out
                      simpa [u8s] using h
                    · rcases AF8.out with e | ⟨z, e, hz⟩
                      · rw [e] at hy; exact HN.out y hy
                      · rw [e] at hy; cases hy; rw [World.size_alloc] at hz; have := HF.out.size; omega
                · go_wp2
                  go_meet
                  case rel => exact ⟨Aq, mq, cq, xs, rfl, by omega, HO, HE, HN, HF⟩
              case rest =>
                clear HO HE HN HF hltI hlt hmq hk d2
                obtain ⟨Aq, mq, cq, xs, rfl, hmq, HO, HE, HN, HF⟩ := hcut
                obtain ⟨w8, rfl⟩ : ∃ w8 : World, w8 = wc := ⟨_, rfl⟩
                have d2 := blk_cell (HF.out.blk BZ.out (by simp)) 2
                simp only [List.getElem?_toArray, List.getElem?_cons_zero, List.getElem?_cons_succ] at d2
                go_upto_region 16 with (fail)
                obtain ⟨bq, hbq⟩ : ∃ bq, bq = decide (wg < 0 ∧ 0 < mq) := ⟨_, rfl⟩
                have HBQ := Hd.mk hbq
                clear hbq
                go_cut [60] from 53 to 60 (fun s60 wd => s60 = .bool bq ∧ w8 = wd)
                case first =>
                  by_cases hw2 : wg < 0
                  · by_cases hmz : 0 < mq
                    · have hmI : (0 : Int) < (mq : Nat) := by omega
                      obtain rfl : bq = true := by rw [HBQ.out]; simp; omega
                      go_wp2
                      go_meet
                      case rel => exact ⟨rfl, rfl⟩
                    · have hmI : ¬ (0 : Int) < (mq : Nat) := by omega
                      obtain rfl : bq = false := by rw [HBQ.out]; simp; omega
                      go_wp2
                      go_meet
                      case rel => exact ⟨rfl, rfl⟩
                  · obtain rfl : bq = false := by rw [HBQ.out]; simp; omega
                    go_wp2
                    go_meet
                    case rel => exact ⟨rfl, rfl⟩
                case rest =>
                  obtain ⟨rfl, rfl⟩ := hcut
                  clear d2
                  go_upto_if 60 with (fail)
                  go_cut [10] (fun s10 wd => ∃ Ad md cd, s10 = .slice Ad md cd ∧ md ≤ 300000000 ∧ Hd (Dat w4 wd Ad md cd))
                  case first =>
                    cases bq with
                    | true =>
                      have hmz : 0 < mq := (of_decide_eq_true HBQ.out.symm).2
                      have hcut := run_cut_from (P := Tryz.prog) 23 5 .i64 Tryz.underlying23 hi0 1 hz1 Aq mq cq 1 (by omega)
                      rw [show ((1 : Nat) : Int) = 1 from rfl] at hcut
                      go_wp2
                      go_meet
                      case rel => exact ⟨cutA Aq cq 1 1, mq - 1, cq - 1, rfl, by omega, ⟨dat_cut (dat_own HO.out HE.out HN.out HF.out) (by omega)⟩⟩
                    | false =>
                      go_wp2
                      go_meet
                      case rel => exact ⟨Aq, mq, cq, rfl, by omega, ⟨dat_own HO.out HE.out HN.out HF.out⟩⟩
                  case rest =>
                    clear HO HE HN HF hmq HBQ
                    obtain ⟨Ad, md, cd, rfl, hmd, HD⟩ := hcut
                    obtain ⟨w5, rfl⟩ : ∃ w5 : World, w5 = wc := ⟨_, rfl⟩
                    obtain ⟨xs, qd, hsd, h8, hnd, hfd⟩ := HD.out
                    have SD := Hd.mk hsd
                    have H8 := Hd.mk h8
                    have ND := Hd.mk hnd
                    have HT3 := Hd.mk (HT2.out.call hfd)
                    have BZ3 := Hd.mk (hfd.blk BZ.out (by simp))
                    have hlw : ∀ k, qd = some k → k ∉ gw :: q.toList ∧ k ∉ gx :: p1.toList := fun k hk => by
                      have h1 := hnd k hk
                      have h2 := HT2.out.tl.lt
                      have h3 := HT2.out.rw_.lt
                      refine ⟨fun hm => ?_, fun hm => ?_⟩
                      · rcases List.mem_cons.1 hm with e | hm
                        · omega
                        · have := h2.2 k (by simpa using hm); omega
                      · rcases List.mem_cons.1 hm with e | hm
                        · omega
                        · have := h3.2 k (by simpa using hm); omega
                    have QD := Hd.mk hlw
                    have hlen : xs.length = md := by have := hsd.len; simpa [u8s] using this
                    clear hsd h8 hnd hfd HD hlw HT2 BZ ND
                    have d3 := blk_cell BZ3.out 3
                    simp only [List.getElem?_toArray, List.getElem?_cons_zero, List.getElem?_cons_succ] at d3
                    go_wp2_with (fail)
                    refine (face_any w5 Ab nb cb l pl HL1.out (LX.out.frame HT3.out.fr (by simp)) hl2).mono ?_
                    rintro e w6 ⟨gf, df, rfl, h1, h2, h3⟩
                    have OF := Hd.mk h1
                    have SD6 := Hd.mk (SD.out.frame h3 (by simp))
                    have HT6 := Hd.mk (HT3.out.call h3)
                    have BZ6 := Hd.mk (h3.blk BZ3.out (by simp))
                    clear h1 h2 h3 SD HT3 BZ3 d3
                    go_wp2_with (fail)
                    refine (Bits.lend_any w6 Ad md cd xs qd SD6.out (by omega)).mono ?_
                    rintro e w7 ⟨gl, dl, rfl, h1, h2, h3⟩
                    have OL := Hd.mk h1
                    have HGL : Hd (∀ z, z < w6.heap.size → z ≠ gl) := ⟨fun z hz e => by omega⟩
                    have OF7 := Hd.mk (own_frame OF.out h3 (by simp))
                    have SD7 := Hd.mk (SD6.out.frame h3 (by simp))
                    have LT6 := Hd.mk (And.intro HT6.out.tl.lt HT6.out.rw_.lt)
                    have HT7 := Hd.mk (HT6.out.call h3)
                    have BZ7 := Hd.mk (h3.blk BZ6.out (by simp))
                    clear h1 h2 h3 SD6 HT6 BZ6 OF
                    have QL : Hd (gl ∉ gw :: q.toList ∧ gl ∉ gx :: p1.toList) := ⟨by
                      have h2 := LT6.out.1
                      have h3 := LT6.out.2
                      refine ⟨fun hm => ?_, fun hm => ?_⟩
                      · rcases List.mem_cons.1 hm with e | hm
                        · exact HGL.out gw h2.1 e.symm
                        · exact HGL.out gl (h2.2 gl (by simpa using hm)) rfl
                      · rcases List.mem_cons.1 hm with e | hm
                        · exact HGL.out gx h3.1 e.symm
                        · exact HGL.out gl (h3.2 gl (by simpa using hm)) rfl⟩
                    have SG : Hd (SlArg w7 (some ⟨gl, 0, none⟩) md dl (u8s xs) (some gl)) := ⟨by
                      obtain ⟨A', c', e1, h2, h3, _⟩ := own_slice OL.out
                      injection e1 with e1 _ e3
                      subst e3
                      refine ⟨by simp [u8s, hlen], by omega, h3, (fun h => by cases h), ?_, fun b hb => by cases hb; exact own_lt OL.out rfl⟩
                      have := (sl_of_own OL.out).take (u8s xs).length
                      rw [show u8s (xs ++ lendTail) = u8s xs ++ u8s lendTail from by simp [u8s], List.take_left] at this
                      exact this⟩
                    have PF7 : Hd (Sl w7 (some ⟨gf, 0, none⟩) (tcells l) (some gf)) := ⟨by
                      have := (face_sl2 OF7.out).take (tcells l).length
                      rw [tcells_app, List.take_left] at this
                      exact this⟩
                    have QF : Hd (gf ∉ gw :: q.toList ∧ gf ∉ gx :: p1.toList ∧ gf < w7.heap.size) := ⟨by
                      obtain ⟨cs, hcs⟩ := own_type OF7.out (k := gf) rfl
                      exact ⟨tl_not HT7.out.tl hcs (by decide) (by decide), rw_not HT7.out.rw_ hcs (by decide) (by decide), blk_lt hcs⟩⟩
                    obtain ⟨er, her⟩ : ∃ er, er = wrErr k xs.length l := ⟨_, rfl⟩
                    have HER := Hd.mk her
                    clear her
                    have e0 := blk_cell BZ7.out 0
                    have e1 := blk_cell BZ7.out 1
                    simp only [List.getElem?_toArray, List.getElem?_cons_zero, List.getElem?_cons_succ] at e0 e1
                    go_wp2_with (fail)
                    refine (write_all w7 k b (some ⟨gl, 0, none⟩) md dl xs (some gl) SG.out (by omega) H8.out (some ⟨gf, 0, none⟩) nb df l (some gf) HL1.out PF7.out hl2 LL.out gw N m q HT7.out.tl (fun k hk => by cases hk; exact ⟨QF.out.1, QF.out.2.2⟩) (fun k hk => by cases hk; exact ⟨QL.out.1, own_lt OL.out rfl⟩) (by omega) er HER.out).mono ?_
                    rintro e w8 ⟨rfl, hp⟩
                    obtain ⟨P, hP⟩ : ∃ P, P = if er = 0 then blockP k.toNat m b xs l else [] := ⟨_, rfl⟩
                    have hP2 : totOf P ≤ 4000000 := by
                      rw [hP]
                      split
                      · rename_i h; exact blockP_le LL.out (by rw [← HER.out]; exact h)
                      · simp [totOf]
                    have HPP := Hd.mk hP
                    clear hP
                    obtain ⟨q2, hp⟩ := wrpost_pw HT7.out.tl hp
                    rw [← HPP.out] at hp
                    have hf := hp.fr
                    have OF8 := Hd.mk (own_keep HT7.out.tl hf OF7.out (by decide) (by decide))
                    have OL8 := Hd.mk (own_frame OL.out hf (fun k hk => by cases hk; exact QL.out.1))
                    have SD8 := Hd.mk (SD7.out.frame hf (fun k hk => (QD.out k hk).1))
                    have BZ8 := Hd.mk (HT7.out.keep1 BZ7.out (by decide) (by decide) hf)
                    have HT8 := Hd.mk (HT7.out.pw hp)
                    clear hp hf OF7 OL SD7 BZ7 HT7 SG PF7 e0 e1
                    have e0 := blk_cell BZ8.out 0
                    have e1 := blk_cell BZ8.out 1
                    have e3 := blk_cell BZ8.out 3
                    simp only [List.getElem?_toArray, List.getElem?_cons_zero, List.getElem?_cons_succ] at e0 e1 e3
                    go_wp2_with (fail)
                    refine (rbwrite_all w8 k b Ad md cd xs qd SD8.out (by omega) H8.out Ab nb cb l pl HL1.out (LX.out.frame HT8.out.fr (by simp)) hl2 LL.out gx N m p1 HT8.out.rw_ (fun z hz => ⟨fun hm => by
                      have h1 := LPW.out z hz
                      have h2 := HT8.out.new
                      rcases List.mem_cons.1 hm with e | hm
                      · omega
                      · have := h2.2.2.2 z (by simpa using hm); omega, Nat.lt_of_lt_of_le (LPW.out z hz) HT8.out.fr.size⟩) (fun z hz => ⟨(QD.out z hz).2, SD8.out.lt z hz⟩) (by omega) er HER.out).mono ?_
                    rintro e w9 ⟨rfl, hp⟩
                    obtain ⟨q3, hp⟩ := rwpost_rw HT8.out.rw_ hp
                    rw [← HPP.out] at hp
                    have hf := hp.fr
                    have OF9 := Hd.mk (rown_keep HT8.out.rw_ hf OF8.out (by decide) (by decide))
                    have OL9 := Hd.mk (own_frame OL8.out hf (fun k hk => by cases hk; exact QL.out.2))
                    have SD9 := Hd.mk (SD8.out.frame hf (fun k hk => (QD.out k hk).2))
                    have BZ9 := Hd.mk (HT8.out.keep2 BZ8.out (by decide) (by decide) hf)
                    have HT9 := Hd.mk (HT8.out.rw2 hp)
                    clear hp hf OF8 OL8 SD8 BZ8 HT8 e0 e1 e3 QL QF QD
                    obtain ⟨N2, hN2⟩ : ∃ x, x = N + numOf P * 2 ^ m := ⟨_, rfl⟩
                    obtain ⟨m2, hm2⟩ : ∃ x, x = m + totOf P := ⟨_, rfl⟩
                    have hmb : m2 ≤ 8 + 4000000 * (j + 1) := by omega
                    rw [← hN2, ← hm2] at HT9
                    clear hN2 hm2 HPP hP2
                    obtain ⟨Ax, cx, hxb, _⟩ := HT9.out.rw_
                    have x0 := blk_cell hxb 0
                    have d3 := blk_cell BZ9.out 3
                    simp only [List.getElem?_toArray, List.getElem?_cons_zero, List.getElem?_cons_succ] at x0 d3
                    have hee : (er != er) = false := by simp
                    have hmm : ((m2 : Int) != (m2 : Int)) = false := by simp
                    clear hxb
                    go_upto_region 22 with (fail)
                    go_region_held3 (fun w' => w'.cell? ⟨gx, 0, none⟩ = some (.slice Ax m2 cx) ∧ w'.cell? ⟨g9, 3, none⟩ = some (.slice Ab nb cb)) (go_keep)
                      (first
                        | (go_at_call 19; refine (Bits.len_any _ (by exact (HT9.out.call ((Fr.refl w9 []).drew)).tl)).mono ?_; rintro e wn ⟨rfl, rfl⟩)
                        | (go_at_call 20; refine (bkept_any _ gf df Ab nb cb l pl HL1.out (by exact (face_sl2 OF9.out).drew) (by exact (LX.out.frame HT9.out.fr.drew (by simp))) (by omega)).mono ?_; rintro e wn ⟨rfl, h3⟩; have h3 := h3.ofDrew; have HT9 := Hd.mk (HT9.out.call h3); have OL9 := Hd.mk (own_frame OL9.out h3 (by simp)); have SD9 := Hd.mk (SD9.out.frame h3 (by simp)); have x0 := Head.fcell h3 x0 (by simp); have d3 := Head.fcell h3 d3 (by simp); clear h3)
                        | (go_at_call 21; refine (Bits.kept_any _ Ad md cd xs qd (by exact SD9.out) (by omega) H8.out (some ⟨gl, 0, none⟩) (md + 5) dl (xs ++ lendTail) (some gl) (by rw [List.length_append, hlen]; rfl) (by exact sl_of_own OL9.out) (fun h => by cases h) (by exact lend8 H8.out) (fun k hk => by cases hk; exact own_lt OL9.out rfl)).mono ?_; rintro e wn ⟨rfl, h3⟩; rw [decide_eq_true rfl]; have HT9 := Hd.mk (HT9.out.call h3); have x0 := Head.fcell h3 x0 (by simp); have d3 := Head.fcell h3 d3 (by simp); clear h3))
                    go_wp2
                    go_roundg (gk0 - 1)
                    case measure => omega
                    case rel => exact ⟨j + 1, N2, m2, _, _, rfl, by go_num, by omega, by omega, HT9⟩
        · obtain rfl : j = n := by omega
          have hjI : ¬ (j : Int) < (j : Nat) := by omega
          obtain ⟨w7, rfl⟩ : ∃ w7 : World, w7 = wr := ⟨_, rfl⟩
          have hmb : m ≤ 5000000000000 := by omega
          go_wp2_with (fail)
          refine (Bits.bytes_any (N := N) (m := m) w7 (by omega) HT.out.tl).mono ?_
          rintro e w8 ⟨v, rfl, h1, h2, h3⟩
          have HT8 := Hd.mk (HT.out.call h3)
          obtain ⟨A5, c5, rfl, hc5, _⟩ := own_slice h1
          have OB := Hd.mk h1
          clear h1 h2 h3 HT
          go_wp2_with (fail)
          refine (Bits.wbytes_any (N := N) (m := m) w8 (by omega) HT8.out.rw_).mono ?_
          rintro e w9 ⟨v2, rfl, h1, h2, h3⟩
          have HT9 := Hd.mk (HT8.out.call h3)
          have OB9 := Hd.mk (own_frame OB.out h3 (by simp))
          obtain ⟨A6, c6, rfl, hc6, _⟩ := own_slice h1
          have OX := Hd.mk h1
          clear h1 h2 h3 HT8 OB
          go_wp2_with (fail)
          refine (Bits.same_any w9 A5 A6 _ _ c5 c6 (bytesOf N m) (bytesOf N m) _ _ (bytesOf_length _ _) (bytesOf_length _ _) bytesOf_range bytesOf_range (sl_of_own OB9.out) (sl_of_own OX.out) (own_none OB9.out) (own_none OX.out)).mono ?_
          rintro e wn ⟨rfl, rfl⟩
          rw [decide_eq_true rfl]
          go_wp2_with (fail)
          refine (blkwrite_nil _ _ _ _ _).mono ?_
          rintro e wn ⟨rfl, rfl⟩
          go_wp2_with (fail)
          refine (blives_any _).mono ?_
          rintro e wn ⟨rfl, h3⟩
          have FZ := Hd.mk (HT9.out.fr.trans h3 (by simp))
          clear h3
          go_wp2
          go_ret
          exact ⟨rfl, FZ.out.below⟩
end Go.Proofs.YtkdgfioigkijgaaGreat.Blk
