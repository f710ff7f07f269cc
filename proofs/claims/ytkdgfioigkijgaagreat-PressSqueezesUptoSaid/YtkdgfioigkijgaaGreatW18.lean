import Derived.Test.YtkdgfioigkijgaaGreatW01
import Derived.Test.YtkdgfioigkijgaaGreatW02
import Derived.Test.YtkdgfioigkijgaaGreatW03
import Derived.Test.YtkdgfioigkijgaaGreatW04
import Derived.Test.YtkdgfioigkijgaaGreatW05
import Derived.Test.YtkdgfioigkijgaaGreatW06
import Derived.Test.YtkdgfioigkijgaaGreatW07
import Derived.Test.YtkdgfioigkijgaaGreatW08
import Derived.Test.YtkdgfioigkijgaaGreatW09
import Derived.Test.YtkdgfioigkijgaaGreatW10
import Derived.Test.YtkdgfioigkijgaaGreatW11
import Derived.Test.YtkdgfioigkijgaaGreatW12
import Derived.Test.YtkdgfioigkijgaaGreatW13
import Derived.Test.YtkdgfioigkijgaaGreatW14
import Derived.Test.YtkdgfioigkijgaaGreatW15
import Derived.Test.YtkdgfioigkijgaaGreatW16
import Derived.Test.YtkdgfioigkijgaaGreatW17
import Derived.Maps.AppendAt
import Derived.RangeFuncBox
import Derived.BigRegion
import Derived.BigQuiet
import Derived.Deep.QuietTactic
import Derived.Deep.LoopGhost
import Derived.Deep.DeepCutAuto
import Derived.KernelRfl
import Derived.Deep.RegionLaw
import Derived.Outline
set_option linter.unusedVariables false
set_option linter.unusedSimpArgs false
set_option maxRecDepth 100000
namespace Go.Proofs.YtkdgfioigkijgaaGreat.Prs
open Go.RowKit Go.Shelf Go.Proofs.YtkdgfioigkijgaaGreat.Lib Go.Proofs.YtkdgfioigkijgaaGreat.Ints Go.Proofs.YtkdgfioigkijgaaGreat.Lz Go.Proofs.YtkdgfioigkijgaaGreat.Num Go.Proofs.YtkdgfioigkijgaaGreat.Bits Go.Proofs.YtkdgfioigkijgaaGreat.Blk
def partC (l : List Tok) (most j : Nat) : List Value := [.int .i64 (kdN (btN l most j) (tks l most j) : Nat), .int .i64 (lenN l.length most j : Nat), .int .i64 (szN l most j : Nat), .int .i64 (csN (btN l most j) (tks l most j) : Nat)]
structure WP (w : World) (gp gt gd gm : Nat) (A : Option Addr) (c : Nat) (l : List Tok) (p : Option Nat) (D : Option Addr) (cd : Nat) (d : List Int) (pd : Option Nat) (most : Nat) (js : List Nat) (W : World) : Prop where
  box : ∃ v, Boxed W gp 94 v ∧ W.ownsRow w.heap.size 100 4 v js.length (js.flatMap (partC l most))
  fr : Fr w W []
  src : Src W gt gd gm A c l p D cd d pd most
  new : w.heap.size ≤ gp
  pw : ∀ b, b ∈ p.toList ++ pd.toList → b < w.heap.size
section
variable {w W W' : World} {gp gt gd gm c cd most : Nat} {A D : Option Addr} {l : List Tok} {d : List Int} {p pd : Option Nat} {js : List Nat}
theorem WP.keep (h : WP w gp gt gd gm A c l p D cd d pd most js W) {F : List Nat} (hf : Fr W W' F) (hF : ∀ k ∈ F, w.heap.size ≤ k ∧ ∃ o : Obj, W.heap[k]? = some o ∧ o.isCells = false) : WP w gp gt gd gm A c l p D cd d pd most js W' := by
  have hn : ∀ {k : Nat} {cs : Array Value} {t : TypeId} {fr : Nat × Nat}, W.heap[k]? = some (.cells cs t fr) → k ∉ F := fun hk hm => by
    obtain ⟨_, o, ho, hc⟩ := hF _ hm
    rw [hk] at ho
    cases ho
    cases hc
  obtain ⟨v, hb, ho⟩ := h.box
  refine ⟨⟨v, hf.blk hb (hn hb), own_frame ho hf (fun y hy => by obtain ⟨es, he⟩ := own_type ho hy; exact hn he)⟩, h.fr.trans hf (fun x hx hm => absurd (hF x hm).1 (by omega)), h.src.keep (Kp.fr hf (fun b hb hm => ?_)), h.new, h.pw⟩
  simp only [List.mem_cons] at hb
  rcases hb with rfl | rfl | rfl | hb
  · exact hn h.src.bt hm
  · exact hn h.src.bd hm
  · exact hn h.src.bm hm
  · exact absurd (hF b hm).1 (by have := h.pw b hb; omega)
theorem WP.step (h : WP w gp gt gd gm A c l p D cd d pd most js W) {v v' : Value} {j : Nat} (hv : Boxed W gp 94 v) (ho : W.ownsRow w.heap.size 100 4 v js.length (js.flatMap (partC l most)))
    (hf : Fr W W' (gp :: v.ownBlock.toList)) (hv' : Boxed W' gp 94 v') (ho' : W'.ownsRow w.heap.size 100 4 v' (js.length + 1) (js.flatMap (partC l most) ++ partC l most j)) :
    Kp gt gd gm p pd W W' ∧ WP w gp gt gd gm A c l p D cd d pd most (js ++ [j]) W' := by
  have hq : ∀ x, x ∈ gp :: v.ownBlock.toList → w.heap.size ≤ x := fun x hx => by
    rcases List.mem_cons.1 hx with rfl | hx
    · exact h.new
    · rcases ho.2 with ⟨rfl, _⟩ | ⟨g, cap, cur, rfl, hg, _⟩
      · simp [Value.ownBlock] at hx
      · simp [Value.ownBlock] at hx
        omega
  have hn : ∀ {b : Nat} {cs : Array Value} {t : TypeId} {fr : Nat × Nat}, W.heap[b]? = some (.cells cs t fr) → t ≠ 94 → t ≠ 100 → b ∉ gp :: v.ownBlock.toList := fun hb h1 h2 hm => by
    rcases List.mem_cons.1 hm with e | hm
    · subst e
      exact blk_ne hb hv h1 rfl
    · exact own_ne ho hb h2 (by simpa using hm)
  have hk : Kp gt gd gm p pd W W' := Kp.fr hf (fun b hb => by
    simp only [List.mem_cons] at hb
    rcases hb with rfl | rfl | rfl | hb
    · exact hn h.src.bt (by decide) (by decide)
    · exact hn h.src.bd (by decide) (by decide)
    · exact hn h.src.bm (by decide) (by decide)
    · intro hm
      have := hq b hm
      have := h.pw b hb
      omega)
  refine ⟨hk, ⟨⟨v', hv', ?_⟩, h.fr.trans hf (fun x hx hm => absurd (hq x hm) (by omega)), h.src.keep hk, h.new, h.pw⟩⟩
  rw [List.length_append, List.length_singleton, List.flatMap_append, List.flatMap_singleton]
  exact ho'
end
end Go.Proofs.YtkdgfioigkijgaaGreat.Prs
set_option maxRecDepth 100000
set_option linter.unusedVariables false
set_option linter.unusedSimpArgs false
namespace Go.Proofs.YtkdgfioigkijgaaGreat.Bits
open Go.RowKit Go.Proofs.YtkdgfioigkijgaaGreat.Lib Go.Proofs.YtkdgfioigkijgaaGreat.Num
def bools (V h : Nat) : List Value := (List.range h).map fun i => .bool (V.testBit i)
theorem bools_length (V h : Nat) : (bools V h).length = h := by simp [bools]
theorem bools_get {V h i : Nat} (hi : i < h) : (bools V h)[i]? = some (.bool (V.testBit i)) := by simp [bools, hi]
theorem bools_snoc {V h : Nat} (hV : V < 2 ^ h) (b : Bool) : bools V h ++ [.bool b] = bools (V + b.toNat * 2 ^ h) (h + 1) := by
  apply List.ext_getElem?
  intro i
  by_cases h1 : i < h
  · rw [List.getElem?_append_left (by rw [bools_length]; exact h1), bools_get h1, bools_get (by omega)]
    congr 2
    rw [Nat.add_comm, Nat.mul_comm, Nat.testBit_two_pow_mul_add _ hV, if_pos h1]
  · by_cases h2 : i = h
    · subst h2
      rw [List.getElem?_append_right (by rw [bools_length]; omega), bools_length, bools_get (by omega), Nat.sub_self]
      simp only [List.getElem?_cons_zero]
      congr 2
      rw [Nat.add_comm, Nat.mul_comm, Nat.testBit_two_pow_mul_add _ hV, if_neg (by omega), Nat.sub_self]
      cases b <;> rfl
    · rw [List.getElem?_eq_none (by simp [bools_length]; omega), List.getElem?_eq_none (by rw [bools_length]; omega)]
theorem infoBool : (Tryz.prog.info? 4).map (fun i => (i.zero, i.size, i.bytes)) = some (some (.bool false), 1, 1) := by kernel_rfl
section
variable {g V b t : Nat} {q : Option Nat}
theorem low_bit (V i : Nat) : V % 2 ^ (i + 1) = V % 2 ^ i + (V.testBit i).toNat * 2 ^ i := by
  rw [mod_more V i 1, Nat.pow_one]
  congr 2
  rw [Nat.testBit_eq_decide_div_mod_eq]
  rcases Nat.mod_two_eq_zero_or_one (V / 2 ^ i) with h | h <;> simp [h]
end
end Go.Proofs.YtkdgfioigkijgaaGreat.Bits
set_option maxRecDepth 100000
set_option linter.unusedVariables false
set_option linter.unusedSimpArgs false
namespace Go.Proofs.YtkdgfioigkijgaaGreat.Bits
open Go.RowKit Go.Proofs.YtkdgfioigkijgaaGreat.Lib Go.Proofs.YtkdgfioigkijgaaGreat.Num
def RW (w : World) (g : Nat) (N m : Nat) (q : Option Nat) : Prop :=
  ∃ A c, w.heap[g]? = some (.cells #[.slice A m c] 30 (0, 0)) ∧ w.ownsRow 0 4 1 (.slice A m c) m (bools N m) ∧ (Value.slice A m c).ownBlock = q ∧ N < 2 ^ m
theorem RW.frame {w w' : World} {g N m : Nat} {q : Option Nat} (hr : RW w g N m q) {F : List Nat} (hf : Fr w w' F) (hg : g ∉ F) (hq : ∀ k, q = some k → k ∉ F) : RW w' g N m q := by
  obtain ⟨A, c, hb, hown, rfl, hV⟩ := hr
  exact ⟨A, c, hf.blk hb hg, own_frame hown hf hq, rfl, hV⟩
theorem RW.lt {w : World} {g N m : Nat} {q : Option Nat} (hr : RW w g N m q) : g < w.heap.size ∧ ∀ k, q = some k → k < w.heap.size := by
  obtain ⟨A, c, hb, hown, rfl, hV⟩ := hr
  exact ⟨blk_lt hb, fun k hk => own_lt hown hk⟩
theorem RW.ne {w : World} {g N m : Nat} {q : Option Nat} (hr : RW w g N m q) : q ≠ some g := by
  obtain ⟨A, c, hb, hown, rfl, hV⟩ := hr
  exact own_ne hown hb (by decide)
theorem rw_new (w : World) : RW (w.alloc (.cells #[.slice none 0 0] 30)) w.heap.size 0 0 none :=
  ⟨none, 0, blk_new w _, own_nil _ _ _ _, rfl, by simp⟩
section
variable {g N m : Nat} {q : Option Nat}
theorem wbit_stored {w w1 : World} {A : Option Addr} {c : Nat} {A' : Option Addr} {c' : Nat} {bt : Bool} (hb : w.heap[g]? = some (.cells #[.slice A m c] 30 (0, 0)))
    (hown : w.ownsRow 0 4 1 (.slice A m c) m (bools N m)) (hV : N < 2 ^ m) (O : Obj)
    (hown' : w1.ownsRow 0 4 1 (.slice A' (m + 1) c') (m + 1) (bools N m ++ [.bool bt])) (hg : (w.alloc O).grownBy w1 (Value.slice A m c).ownBlock) (haft : Aft (w.alloc O) (Value.slice A m c).ownBlock (Value.slice A' (m + 1) c').ownBlock) :
    RW (w1.setCell ⟨g, 0, none⟩ (.slice A' (m + 1) c')) g (N + bt.toNat * 2 ^ m) (m + 1) (Value.slice A' (m + 1) c').ownBlock ∧ Aft w (Value.slice A m c).ownBlock (Value.slice A' (m + 1) c').ownBlock ∧
      Fr w (w1.setCell ⟨g, 0, none⟩ (.slice A' (m + 1) c')) (g :: (Value.slice A m c).ownBlock.toList) := by
  have hb1 := blk_grown hg (blk_alloc hb O) (own_ne hown hb (by decide)).symm
  have hne := own_ne hown' hb1 (by decide)
  rw [bools_snoc hV] at hown'
  refine ⟨⟨A', c', by simpa using blk_set hb1 0 (.slice A' (m + 1) c'), own_setFar hown' _ hne, rfl, grow_lt hV (by cases bt <;> decide)⟩, ?_, ?_⟩
  · rcases haft with e | ⟨k, e, hk⟩
    · exact .inl e
    · exact .inr ⟨k, e, by simp at hk; omega⟩
  · exact (((Fr.refl w _).alloc O).grown hg (fun k hk => .inl (by simp [hk]))).setCell _ (.inl (by simp))
theorem hand_bit {v i : Nat} (hv : v < 2 ^ 64) : (Go.bits .and .u64 ((v : Int) / 2 ^ i) 1 == 1) = v.testBit i := by
  have hle : v / 2 ^ i ≤ v := Nat.div_le_self _ _
  rw [div_cast, n64and1 (by omega), Nat.testBit_eq_decide_div_mod_eq, Bool.eq_iff_iff]
  simp only [beq_iff_eq, decide_eq_true_eq]
  omega
theorem wput_ok (a n : Int) (v : Nat) (w : World) (ha : a = (v : Nat)) (hm0 : mayN v n = 0) (hm : m + n.toNat ≤ 70368744177664) (hT : RW w g N m q) :
    Calls Tryz.prog 12 #[.pointer (some ⟨g, 0, none⟩), .int .u64 a, .int .i64 n] w fun e w' => e = .returned (.int .i64 0) ∧
      ∃ q', RW w' g (N + v * 2 ^ m) (m + n.toNat) q' ∧ Aft w q q' ∧ Fr w w' (g :: q.toList) := by
  subst ha
  obtain ⟨i0, hi0, hz0, hz1, hz2⟩ := info_parts infoBool
  obtain ⟨h0, h1, h2⟩ := mayN_zero hm0
  obtain ⟨n, rfl⟩ := Int.eq_ofNat_of_zero_le h0
  rw [Int.toNat_natCast] at *
  have hv64 : Hd (v < 2 ^ 64) := ⟨Nat.lt_of_lt_of_le h2 (Nat.pow_le_pow_right (by decide) (by omega))⟩
  have hvn := Hd.mk h2
  have hz : (v : Int) / 2 ^ n = 0 := by rw [div_cast, Nat.div_eq_of_lt h2]; rfl
  have HT := Hd.mk hT
  clear hm0 hT h2
  go_enter Tryz.func12, Tryz.ntmps12
  go_wp2
  go_loopg [7] n (fun kq iv wr => ∃ i N2 m2 : Nat, iv = .int .i64 (i : Nat) ∧ i + kq = n ∧ m2 + kq ≤ 70368744177664 ∧ Hd (N2 = N + v % 2 ^ i * 2 ^ m ∧ m2 = m + i) ∧ ∃ q', RW wr g N2 m2 q' ∧ Aft w q q' ∧ Fr w wr (g :: q.toList))
  case atStart => exact ⟨0, N, m, rfl, by omega, by omega, ⟨by simp [Nat.mod_one], rfl⟩, q, HT.out, Aft.refl _ _, Fr.refl _ _⟩
  case round =>
    obtain ⟨i, N2, m2, rfl, hi, hb22, HE2, q2, hr2, ha2, hf2⟩ := hrel
    have HR2 := Hd.mk hr2
    have HA2 := Hd.mk ha2
    have HF2 := Hd.mk hf2
    clear hz
    by_cases hlt2 : i < n
    · obtain ⟨A2, c2, hblk, hown, hq2, hV2⟩ := hr2
      have k0 := blk_cell hblk 0
      have f0 := blk_frozen hblk 0
      simp only [List.getElem?_toArray, List.getElem?_cons_zero, List.getElem?_cons_succ] at k0
      have ka := blk_cell (blk_alloc hblk (.cells #[.bool (v.testBit i)] 4)) 0
      simp only [List.getElem?_toArray, List.getElem?_cons_zero] at ka
      have HB := Hd.mk hblk
      have HO := Hd.mk hown
      have HQ2 := Hd.mk hq2
      have HV2 := Hd.mk hV2
      have HNE := Hd.mk (own_ne hown hblk (by decide))
      obtain ⟨bt, hbt⟩ : ∃ bt, bt = v.testBit i := ⟨_, rfl⟩
      rw [← hbt] at ka
      have hand : (Go.bits .and .u64 ((v : Int) / 2 ^ i) 1 == 1) = bt := by rw [hbt]; exact hand_bit hv64.out
      have Hbt := Hd.mk hbt
      clear hblk hown hq2 hV2 hbt hf2 ha2
      go_wp2
      go_region_law (refine step_append_sl rfl (.tmp 27) (.tmp 33) 28 rfl 4 i0 (.bool false) 1 1 Tryz.underlying28 hi0 hz0 hz1 hz2 rfl (by decide) (.slice A2 m2 c2) m2 (bools N2 m2) (by simp [Act.eval, Act.put]) (by exact HO.out.alloc _) (some ⟨wr.heap.size, 0, none⟩) 1 1 [.bool bt] (some wr.heap.size) (by simp [Act.eval, Act.put]) rfl (by exact sl_of_blk (blk_new _ _)) (by intro h; cases h) (by intro u hu; simp at hu; subst hu; rfl) (by unfold maxLen; omega) (by omega) ?_; intro A' c' w1 hown' hgrow haft; have hb1 := blk_grown hgrow (by exact blk_alloc HB.out _) HNE.out.symm; have k1 := blk_cell hb1 0; have f1 := blk_frozen hb1 0; simp only [List.getElem?_toArray, List.getElem?_cons_zero] at k1; have R := wbit_stored (bt := bt) HB.out HO.out HV2.out (.cells #[.bool bt] 4) hown' ⟨hgrow.os, hgrow.tape, hgrow.output, hgrow.size, hgrow.block⟩ haft; have HRR := Hd.mk R; clear hown' hgrow haft hb1 R)
      all_goals
        go_wp2
        go_roundg (gk - 1)
        case measure => omega
        case rel =>
          have h := HRR.out
          rw [HQ2.out] at h
          obtain ⟨r1, r2, r3⟩ := h
          refine ⟨i + 1, N2 + bt.toNat * 2 ^ m2, m2 + 1, by go_num, by omega, by omega, ⟨?_, by have := HE2.out.2; omega⟩, _, r1, HA2.out.trans r2 HF2.out.size, HF2.out.trans r3 (fun y hy hyG => ?_)⟩
          · rw [HE2.out.1, HE2.out.2, Hbt.out, low_bit, Nat.add_mul, Nat.mul_assoc, ← Nat.pow_add, Nat.add_comm m i, Nat.add_assoc]
          · rcases List.mem_cons.1 hyG with rfl | e
            · simp
            · rcases HA2.out.mem e with h | h
              · exact List.mem_cons_of_mem _ h
              · omega
    · obtain rfl : i = n := by omega
      clear hr2 ha2 hf2
      go_wp2
      go_ret
      obtain ⟨e1, e2⟩ := HE2.out
      rw [Nat.mod_eq_of_lt hvn.out] at e1
      subst e1 e2
      exact ⟨rfl, q2, HR2.out, HA2.out, HF2.out⟩
theorem walign_any (w : World) (hm : m + 8 ≤ 70368744177664) (hT : RW w g N m q) :
    Calls Tryz.prog 53 #[.pointer (some ⟨g, 0, none⟩)] w fun e w' => e = .returned (.int .i64 (((8 - m % 8) % 8 : Nat) : Int)) ∧
      ∃ q', RW w' g N (m + (8 - m % 8) % 8) q' ∧ Aft w q q' ∧ Fr w w' (g :: q.toList) := by
  obtain ⟨i0, hi0, hz0, hz1, hz2⟩ := info_parts infoBool
  have HT := Hd.mk hT
  clear hT
  obtain ⟨n, hn⟩ : ∃ n, n = (8 - m % 8) % 8 := ⟨_, rfl⟩
  have Hn := Hd.mk hn
  have hn8 : n ≤ 7 := by omega
  rw [← hn]
  clear hn
  go_enter Tryz.func53, Tryz.ntmps53
  go_wp2
  go_loopg [3] n (fun kq iv wr => ∃ i : Nat, iv = .int .i64 (i : Nat) ∧ i + kq = n ∧ ∃ q', RW wr g N (m + i) q' ∧ Aft w q q' ∧ Fr w wr (g :: q.toList))
  case atStart => exact ⟨0, rfl, by omega, q, HT.out, Aft.refl _ _, Fr.refl _ _⟩
  case round =>
    obtain ⟨i, rfl, hi, q2, hr2, ha2, hf2⟩ := hrel
    have HR2 := Hd.mk hr2
    have HA2 := Hd.mk ha2
    have HF2 := Hd.mk hf2
    obtain ⟨A2, c2, hblk, hown, hq2, hV2⟩ := hr2
    have k0 := blk_cell hblk 0
    have f0 := blk_frozen hblk 0
    simp only [List.getElem?_toArray, List.getElem?_cons_zero, List.getElem?_cons_succ] at k0
    by_cases hlt2 : i < n
    · have HB := Hd.mk hblk
      have HO := Hd.mk hown
      have HQ2 := Hd.mk hq2
      have HV2 := Hd.mk hV2
      have HNE := Hd.mk (own_ne hown hblk (by decide))
      have h8 : (((m : Int) + i) % 8 == 0) = false := by have := Hn.out; simp; omega
      clear hblk hown hq2 hV2 hf2 ha2
      go_wp2_with (at_builtin; refine wpList_append_sl rfl (.tmp 15) (.tmp 16) 28 rfl 4 i0 (.bool false) 1 1 Tryz.underlying28 hi0 hz0 hz1 hz2 rfl (by decide) (.slice A2 (m + i) c2) (m + i) (bools N (m + i)) rfl (by exact HO.out.alloc _) (some ⟨wr.heap.size, 0, none⟩) 1 1 [.bool false] (some wr.heap.size) rfl rfl (by exact sl_of_blk (blk_new _ _)) (by intro h; cases h) (by intro u hu; simp at hu; subst hu; rfl) (by unfold maxLen; omega) (by omega) ?_; intro A' c' w1 hown' hgrow haft; have hb1 := blk_grown hgrow (by exact blk_alloc HB.out _) HNE.out.symm; have k1 := blk_cell hb1 0; have f1 := blk_frozen hb1 0; simp only [List.getElem?_toArray, List.getElem?_cons_zero] at k1; have R := wbit_stored (bt := false) HB.out HO.out HV2.out (.cells #[.bool false] 4) hown' hgrow haft; have HRR := Hd.mk R; clear hown' hgrow haft hb1 R)
      go_roundg (gk - 1)
      case measure => omega
      case rel =>
        have h := HRR.out
        rw [HQ2.out] at h
        obtain ⟨r1, r2, r3⟩ := h
        refine ⟨i + 1, by go_num, by omega, _, by simpa [Nat.add_assoc] using r1, HA2.out.trans r2 HF2.out.size, HF2.out.trans r3 (fun y hy hyG => ?_)⟩
        rcases List.mem_cons.1 hyG with rfl | e
        · simp
        · rcases HA2.out.mem e with h | h
          · exact List.mem_cons_of_mem _ h
          · omega
    · obtain rfl : i = n := by omega
      have h8 : (((m : Int) + i) % 8 == 0) = true := by have := Hn.out; simp; omega
      clear hblk hown hq2 hV2 hf2 ha2
      go_wp2
      go_ret
      exact ⟨rfl, q2, HR2.out, HA2.out, HF2.out⟩
theorem wwhole_any (w : World) (A : Option Addr) (l c : Nat) (xs : List Int) (qx : Option Nat) (hlen : xs.length = l) (hx : ∀ x ∈ xs, 0 ≤ x ∧ x ≤ 255) (hS : Sl w A (u8s xs) qx)
    (hq : ∀ k, qx = some k → k ∉ g :: q.toList) (hm : m + 8 + 8 * l ≤ 70368744177664) (hT : RW w g N m q) :
    Calls Tryz.prog 54 #[.pointer (some ⟨g, 0, none⟩), .slice A l c] w fun e w' => e = .returned (.tuple #[]) ∧
      ∃ q', RW w' g (N + valB xs * 2 ^ (m + (8 - m % 8) % 8)) (m + (8 - m % 8) % 8 + 8 * l) q' ∧ Aft w q q' ∧ Fr w w' (g :: q.toList) := by
  subst hlen
  have HT := Hd.mk hT
  have HS := Hd.mk hS
  have HX := Hd.mk hx
  have HQ := Hd.mk hq
  obtain ⟨M, hM⟩ : ∃ M, M = m + (8 - m % 8) % 8 := ⟨_, rfl⟩
  have hMm : M ≤ m + 7 := by omega
  have HM := Hd.mk hM
  rw [← hM]
  clear hT hS hx hq hM
  go_enter Tryz.func54, Tryz.ntmps54
  go_wp2_with (fail)
  refine (walign_any w (by omega) HT.out).mono ?_
  rintro e w1 ⟨rfl, q1, h1, h2, h3⟩
  rw [← HM.out] at h1
  have H1 := Hd.mk h1
  have H2 := Hd.mk h2
  have H3 := Hd.mk h3
  clear h1 h2 h3
  go_wp2
  go_loopg [10] xs.length (fun kq iv wr => ∃ i : Nat, iv = .int .i64 (i : Nat) ∧ i + kq = xs.length ∧ ∃ q', Hd (RW wr g (N + valB (xs.take i) * 2 ^ M) (M + 8 * i) q') ∧ Hd (Aft w q q') ∧ Hd (Fr w wr (g :: q.toList)))
  case atStart => exact ⟨0, rfl, by omega, q1, ⟨by simpa [valB] using H1.out⟩, H2, H3⟩
  case round =>
    obtain ⟨i, rfl, hi, q2, HR2, HA2, HF2⟩ := hrel
    by_cases hlt : i < xs.length
    · obtain ⟨p, off, rfl, hp, hcell⟩ := (HS.out.frame HF2.out HQ.out) (by simp [u8s]; omega)
      have hxj := HX.out (xs[i]'hlt) (List.getElem_mem _)
      obtain ⟨x, hx⟩ : ∃ x : Nat, xs[i]'hlt = (x : Int) := Int.eq_ofNat_of_zero_le hxj.1
      have hcj := (hcell i (by simp [u8s]; omega)).trans (by rw [u8s_get, List.getElem?_eq_getElem (by omega), hx])
      have hx255 : (x : Int) ≤ 255 := by omega
      have Hx := Hd.mk hx
      clear hcell hx hxj
      go_wp2_with (fail)
      refine (wput_ok (m := M + 8 * i) (x : Int) 8 x wr rfl (mayN_ok (by decide) (by decide) (by show x < 2 ^ 8; omega)) (by show M + 8 * i + 8 ≤ _; omega) HR2.out).mono ?_
      rintro e w2 ⟨rfl, q3, h1, h2, h3⟩
      have K1 := Hd.mk h1
      have K2 := Hd.mk h2
      have K3 := Hd.mk h3
      clear h1 h2 h3
      go_wp2
      go_roundg (gk - 1)
      case measure => omega
      case rel =>
        refine ⟨i + 1, by go_num, by omega, q3, ⟨?_⟩, ⟨HA2.out.trans K2.out HF2.out.size⟩, ⟨HF2.out.trans K3.out (fun y hy hyG => ?_)⟩⟩
        · have := K1.out
          rw [valB_take xs i hlt, Hx.out, Int.toNat_natCast, Nat.add_mul, Nat.mul_assoc x, ← Nat.pow_add, Nat.add_comm (8 * i) M, ← Nat.add_assoc]
          exact this
        · rcases List.mem_cons.1 hyG with rfl | e
          · simp
          · rcases HA2.out.mem e with h | h
            · exact List.mem_cons_of_mem _ h
            · omega
    · obtain rfl : i = xs.length := by omega
      go_wp2
      go_end0
      have := HR2.out
      rw [List.take_length] at this
      exact ⟨rfl, q2, this, HA2.out, HF2.out⟩
end
end Go.Proofs.YtkdgfioigkijgaaGreat.Bits
set_option maxRecDepth 100000
set_option linter.unusedVariables false
set_option linter.unusedSimpArgs false
namespace Go.Proofs.YtkdgfioigkijgaaGreat.Bits
open Go.RowKit Go.Proofs.YtkdgfioigkijgaaGreat.Lib Go.Proofs.YtkdgfioigkijgaaGreat.Num
section
variable {g N m : Nat} {q : Option Nat}
theorem bytes_none (m : Nat) : (madeCells (Value.int .u8 0).cells ((m + 7) / 8 * 1)).toList = u8s (bytesOf (N % 2 ^ 0) m) := by
  simp [madeCells, u8s, bytesOf, Value.cells, Nat.mod_one, Nat.mod_one]
theorem bytes_bit {K m i : Nat} (hK : K < 2 ^ i) (hi : i < m) : (bytesOf K m).set (i / 8) ((K / 2 ^ (8 * (i / 8)) + 2 ^ (i % 8) : Nat) : Int) = bytesOf (K + 2 ^ i) m := by
  have h8 : i / 8 < (m + 7) / 8 := by omega
  apply List.ext_getElem?
  intro j
  rw [List.getElem?_set]
  by_cases h1 : i / 8 = j
  · subst h1
    rw [if_pos rfl, if_pos (by rw [bytesOf_length]; exact h8), bytesOf_get h8]
    have a := top_new (N := K) (m := i) (x := 1)
    have b := top_new_lt (x := 1) (k := 1) hK (by decide) (by omega)
    rw [Nat.one_mul] at a b
    rw [Nat.one_mul] at a
    rw [a, Nat.mod_eq_of_lt b]
  · rw [if_neg h1]
    by_cases h2 : j < (m + 7) / 8
    · rw [bytesOf_get h2, bytesOf_get h2]
      congr 2
      by_cases h3 : j < i / 8
      · have := low_same (N := K) (x := 1) h3
        rw [Nat.one_mul] at this
        rw [this]
      · have h4 : K + 2 ^ i < 2 ^ (8 * j) := Nat.lt_of_lt_of_le (show K + 2 ^ i < 2 ^ (i + 1) by rw [Nat.pow_succ]; omega) (Nat.pow_le_pow_right (by decide) (by omega))
        rw [Nat.div_eq_of_lt h4, Nat.div_eq_of_lt (by omega)]
    · rw [List.getElem?_eq_none (by rw [bytesOf_length]; omega), List.getElem?_eq_none (by rw [bytesOf_length]; omega)]
theorem wbytes_any (w : World) (hm : m ≤ 70368744177664) (hT : RW w g N m q) :
    Calls Tryz.prog 24 #[.pointer (some ⟨g, 0, none⟩)] w fun e w' => ∃ v, e = .returned v ∧
      w'.ownsRow 0 5 1 v ((m + 7) / 8) (u8s (bytesOf N m)) ∧ (∀ k, v.ownBlock = some k → w.heap.size ≤ k) ∧ Fr w w' [] := by
  obtain ⟨i0, hi0, hz0, hz1, hz2⟩ := info_parts infoU8
  obtain ⟨A, c, hb, hown, _, hN⟩ := hT
  have h0 := blk_cell hb 0
  simp only [List.getElem?_toArray, List.getElem?_cons_zero, List.getElem?_cons_succ] at h0
  have HS := Hd.mk (sl_of_own hown)
  have HN := Hd.mk hN
  have HB := Hd.mk hb
  clear hb hown hN
  go_enter Tryz.func24, Tryz.ntmps24
  go_wp2_with (refine wpList_make_full _ rfl _ _ 23 rfl 0 5 i0 (.int .u8 0) 1 Tryz.underlying23 hi0 hz0 hz1 .i64 .i64 _ _ ((m + 7) / 8) rfl rfl (by omega) (by omega) (by rw [hz2]; omega) (by unfold maxLen; omega) (Nat.zero_le _) ?_; intro w1 hown1 hgrow1; have O1 := Hd.mk hown1; have G1 := Hd.mk hgrow1; have h1 := blk_cell (blk_grown hgrow1 HB.out (by simp)) 0; simp only [List.getElem?_toArray, List.getElem?_cons_zero, List.getElem?_cons_succ] at h1; clear hown1 hgrow1)
  go_loopg [19] m (fun kq iv wr => ∃ i : Nat, iv = .int .i64 (i : Nat) ∧ i + kq = m ∧ Hd (wr.ownsRow 0 5 1 (.slice (some ⟨w.heap.size, 0, none⟩) ((m + 7) / 8) ((m + 7) / 8)) ((m + 7) / 8) (u8s (bytesOf (N % 2 ^ i) m))) ∧ Hd (Fr w wr []))
  case atStart => exact ⟨0, rfl, by omega, ⟨by rw [← bytes_none]; exact O1.out⟩, ⟨(Fr.refl w []).grown G1.out (by simp)⟩⟩
  case round =>
    obtain ⟨i, rfl, hi, HO, HF⟩ := hrel
    by_cases hlt : i < m
    · obtain ⟨p, off, rfl, hp, hcell⟩ := (HS.out.frame HF.out (by simp)) (by simp [bools]; omega)
      have hcj := (hcell i (by simp [bools]; omega)).trans (bools_get hlt)
      clear hcell
      by_cases hbit : N.testBit i = true
      · rw [hbit] at hcj
        have hlow : Hd (N % 2 ^ (i + 1) = N % 2 ^ i + 2 ^ i) := ⟨by rw [low_bit, hbit]; simp⟩
        obtain ⟨K, hK⟩ : ∃ K, K = N % 2 ^ i := ⟨_, rfl⟩
        have hKlt : K < 2 ^ i := by rw [hK]; exact Nat.mod_lt _ (Nat.two_pow_pos _)
        rw [← hK] at HO
        have HK := Hd.mk hK
        have HKL := Hd.mk hKlt
        obtain ⟨y, hy⟩ : ∃ y, y = K / 2 ^ (8 * (i / 8)) := ⟨_, rfl⟩
        have hcb : wr.cell? ⟨w.heap.size, i / 8, none⟩ = some (.int .u8 (y : Nat)) := by
          obtain ⟨_, _, e1, _, hc⟩ := sl_of_own HO.out (by simp [u8s, bytesOf]; omega)
          cases e1
          have := hc (i / 8) (by simp [u8s, bytesOf]; omega)
          rw [Nat.zero_add, u8s_get, bytesOf_get (by omega)] at this
          rw [this, hy, Nat.mod_eq_of_lt (top_lt8 hKlt)]
          rfl
        have hfz : wr.frozen? ⟨w.heap.size, i / 8, none⟩ = false := by
          obtain ⟨ds, hds⟩ := own_type HO.out (k := w.heap.size) rfl
          exact blk_frozen hds _
        have hy1 : y + 2 ^ (i % 8) < 256 := by
          have := top_new_lt (x := 1) (k := 1) hKlt (by decide) (by omega)
          rw [← hy] at this; omega
        have HY := Hd.mk hy
        clear hK hKlt hy hbit
        go_wp2
        go_region
        go_wp2
        go_roundg (gk - 1)
        case measure => omega
        case rel =>
          have e : ((y : Int) + 2 ^ (i % 8)) % 256 = ((y + 2 ^ (i % 8) : Nat) : Int) := by
            have e1 : ((2 ^ (i % 8) : Nat) : Int) = 2 ^ (i % 8) := by simp
            rw [← e1, ← Int.natCast_add]
            obtain ⟨z, hz⟩ : ∃ z, z = y + 2 ^ (i % 8) := ⟨_, rfl⟩
            rw [← hz] at hy1 ⊢
            omega
          have h := (HO.out.stored (i / 8) (.int .u8 ((y + 2 ^ (i % 8) : Nat) : Int))).1
          have e2 : (u8s (bytesOf K m)).set (i / 8) (.int .u8 ((y + 2 ^ (i % 8) : Nat) : Int)) = u8s (bytesOf (N % 2 ^ (i + 1)) m) := by
            rw [hlow.out, ← HK.out, ← bytes_bit HKL.out hlt, ← HY.out]
            unfold u8s
            rw [List.map_set]
          rw [e2] at h
          rw [e]
          exact ⟨i + 1, by go_num, by omega, ⟨h⟩, ⟨(HF.out.setCell _ (.inr (Nat.le_refl _))).drew⟩⟩
      · have hb0 : N.testBit i = false := by simpa using hbit
        rw [hb0] at hcj
        have hlow : Hd (N % 2 ^ (i + 1) = N % 2 ^ i) := ⟨by rw [low_bit, hb0]; simp⟩
        clear hbit hb0
        go_wp2
        go_roundg (gk - 1)
        case measure => omega
        case rel => exact ⟨i + 1, by go_num, by omega, ⟨by rw [hlow.out]; exact HO.out⟩, HF⟩
    · obtain rfl : i = m := by omega
      go_wp2
      go_ret
      have := HO.out
      rw [Nat.mod_eq_of_lt HN.out] at this
      exact ⟨_, rfl, this, by intro k hk; simp [Value.ownBlock] at hk; omega, HF.out⟩
end
end Go.Proofs.YtkdgfioigkijgaaGreat.Bits
set_option linter.unusedVariables false
set_option linter.unusedSimpArgs false
set_option maxRecDepth 100000
namespace Go.Proofs.YtkdgfioigkijgaaGreat.Code
open Go.RowKit Go.IntWalk Go.Proofs.YtkdgfioigkijgaaGreat.Lib Go.Proofs.YtkdgfioigkijgaaGreat.Ints
set_option maxHeartbeats 8000000 in
theorem rspc_any (w : World) (A : Option Addr) (n c : Nat) (lens : List Int) (q : Option Nat) (hS : SlArg w A n c (i64s lens) q) (v : Nat) (r : Int) (hv : v = spVal lens) (hr : r = spErr lens) :
    Calls Tryz.prog 180 #[.slice A n c] w fun e w' => e = .returned (.tuple #[.int .i64 (v : Nat), .int .i64 r]) ∧ w = w' := by
  have HR := Hd.mk hr
  have HV := Hd.mk hv
  have HS := Hd.mk hS
  have hl : lens.length = n := by have := hS.len; simpa [i64s] using this
  have HBAD : Hd (bad lens = true → v = 0 ∧ r = 50) := ⟨fun h => ⟨by rw [hv]; unfold spVal; rw [if_pos h], by rw [hr]; unfold spErr; rw [if_pos h]⟩⟩
  clear hr hv hS
  go_enter Tryz.func180, Tryz.ntmps180
  by_cases h288 : (n : Int) > 288
  · obtain ⟨rfl, rfl⟩ := HBAD.out (bad_long (by omega))
    go_wp2
    go_ret2
    exact ⟨rfl, rfl⟩
  · go_wp2
    go_loopg [4, 12] n (fun kq sv jv wr => ∃ (j s : Nat), sv = .int .i64 (s : Nat) ∧ jv = .int .i64 (j : Nat) ∧ j + kq = n ∧ s ≤ j * 16384 ∧ Hd (s = spaceR (lens.take j)) ∧ Hd (∀ (i : Nat) (hi : i < lens.length), i < j → 0 ≤ lens[i] ∧ lens[i] ≤ 15) ∧ wr = w)
    case atStart => exact ⟨0, 0, rfl, rfl, by omega, by omega, ⟨by simp [spaceR]⟩, ⟨by intro i hi h; omega⟩, rfl⟩
    case round =>
      obtain ⟨j, s, rfl, rfl, hj, hs, HSS, HP, rfl⟩ := hrel
      by_cases hjn : j < n
      · obtain ⟨bd, off, rfl, _, hcc⟩ := HS.out.sl (by rw [i64s_length]; omega)
        have kd := (hcc j (by rw [i64s_length]; omega)).trans (i64s_get lens j)
        obtain ⟨x, hx⟩ : ∃ x, lens[j]? = some x := ⟨_, List.getElem?_eq_getElem (by omega)⟩
        rw [hx] at kd
        simp only [Option.map_some] at kd
        have HX : Hd (∃ h : j < lens.length, lens[j] = x) := ⟨List.getElem?_eq_some_iff.mp hx⟩
        clear hcc hx
        by_cases hx0 : x < 0
        · obtain ⟨rfl, rfl⟩ := HBAD.out (by obtain ⟨e, he⟩ := HX.out; exact bad_at e (by omega))
          go_wp2
          go_ret2
          exact ⟨rfl, rfl⟩
        · by_cases hx1 : x > 15
          · obtain ⟨rfl, rfl⟩ := HBAD.out (by obtain ⟨e, he⟩ := HX.out; exact bad_at e (by omega))
            go_wp2
            go_ret2
            exact ⟨rfl, rfl⟩
          · have HP2 : Hd (∀ (i : Nat) (hi : i < lens.length), i < j + 1 → 0 ≤ lens[i] ∧ lens[i] ≤ 15) := ⟨by
              intro i hi hij
              by_cases e : i = j
              · subst e
                obtain ⟨e, he⟩ := HX.out
                rw [he]; omega
              · exact HP.out i hi (by omega)⟩
            have HSX : Hd (spaceR (lens.take (j + 1)) = s + (if 0 < x then 2 ^ (15 - x.toNat) else 0)) := ⟨by
              obtain ⟨e, he⟩ := HX.out
              rw [spaceR_take e, he, ← HSS.out]⟩
            obtain ⟨v0, rfl⟩ := Int.eq_ofNat_of_zero_le (show 0 ≤ x by omega)
            by_cases hxp : (v0 : Int) > 0
            · obtain ⟨z, hz⟩ : ∃ z, z = 2 ^ (15 - v0) := ⟨_, rfl⟩
              have hzb : z ≤ 16384 := by
                rw [hz]
                have : 2 ^ (15 - v0) ≤ 2 ^ 14 := Nat.pow_le_pow_right (by omega) (by omega)
                simpa using this
              have HZ := Hd.mk hz
              clear hz
              go_wp2
              have e1 : wrap64 ((2 : Int) ^ (15 - v0)) = (z : Nat) := by
                rw [show (2 : Int) ^ (15 - v0) = (z : Nat) from by rw [HZ.out]; push_cast; rfl]
                exact wrap64_in _ (by omega)
              rw [e1]
              have e2 : wrap64 ((s : Int) + (z : Nat)) = ((s + z : Nat) : Int) := by
                rw [show (s : Int) + (z : Nat) = ((s + z : Nat) : Int) from by push_cast; rfl]
                exact wrap64_in _ (by omega)
              rw [e2]
              go_roundg (gk - 1)
              case measure => omega
              case rel => exact ⟨j + 1, s + z, rfl, by go_num, by omega, by omega, ⟨by rw [HSX.out, if_pos hxp, HZ.out, Int.toNat_natCast]⟩, HP2, rfl⟩
            · go_wp2
              go_roundg (gk - 1)
              case measure => omega
              case rel => exact ⟨j + 1, s, by go_num, by go_num, by omega, by omega, ⟨by rw [HSX.out, if_neg (by omega)]; rfl⟩, HP2, rfl⟩
      · obtain rfl : j = n := by omega
        have hb : bad lens = false := bad_not (by omega) (fun i hi => HP.out i hi (by omega))
        have hall := (bad_false hb).2
        obtain rfl : r = 0 := by rw [HR.out]; unfold spErr; rw [if_neg (by rw [hb]; simp)]
        obtain rfl : v = s := by rw [HV.out, HSS.out, ← hl, List.take_length, spaceR_eq lens hall]; unfold spVal; rw [if_neg (by rw [hb]; simp)]
        clear hb hall
        go_wp2
        go_ret2
        exact ⟨rfl, rfl⟩
set_option maxHeartbeats 8000000 in
theorem rchk_any (w : World) (A : Option Addr) (n c : Nat) (lens : List Int) (q : Option Nat) (hS : SlArg w A n c (i64s lens) q) (r : Int) (hr : r = check lens) :
    Calls Tryz.prog 150 #[.slice A n c] w fun e w' => e = .returned (.int .i64 r) ∧ w = w' := by
  have HR : Hd (r = checkR lens) := ⟨by rw [checkR_eq]; exact hr⟩
  have HS := Hd.mk hS
  have hl : lens.length = n := by have := hS.len; simpa [i64s] using this
  clear hr hS
  obtain ⟨b, hb⟩ : ∃ b, b = bad lens := ⟨_, rfl⟩
  have HB := Hd.mk hb
  clear hb
  obtain ⟨sp, hsp⟩ : ∃ sp, sp = spVal lens := ⟨_, rfl⟩
  obtain ⟨er, her⟩ : ∃ er, er = spErr lens := ⟨_, rfl⟩
  have HSP := Hd.mk hsp
  have HER := Hd.mk her
  clear hsp her
  go_enter Tryz.func150, Tryz.ntmps150
  go_wp2_with (fail)
  refine (rspc_any w A n c lens q HS.out sp er HSP.out HER.out).mono ?_
  rintro e w1 ⟨rfl, rfl⟩
  cases b with
  | true =>
    obtain rfl : er = 50 := by rw [HER.out]; unfold spErr; rw [if_pos HB.out.symm]
    obtain rfl : r = 50 := by rw [HR.out]; unfold checkR; rw [if_pos HB.out.symm]
    go_wp2
    go_ret
    exact ⟨rfl, rfl⟩
  | false =>
    obtain rfl : er = 0 := by rw [HER.out]; unfold spErr; rw [if_neg (by rw [← HB.out]; simp)]
    obtain ⟨hl288, hall⟩ := bad_false HB.out.symm
    have hsp2 : sp = spaceR lens := by rw [HSP.out, spaceR_eq lens hall]; unfold spVal; rw [if_neg (by rw [← HB.out]; simp)]
    have hspb : sp ≤ 4718592 := by
      have := spaceR_le lens
      rw [hsp2]
      omega
    have HSP2 := Hd.mk hsp2
    have HALL := Hd.mk hall
    have HR2 : Hd (r = if 32768 < sp then 51 else if sp = 32768 ∨ usedR lens = 0 ∨ (usedR lens = 1 ∧ sp = 16384) then 0 else 52) := ⟨by
      rw [HR.out, hsp2]
      unfold checkR
      rw [if_neg (by rw [← HB.out]; simp)]⟩
    clear hsp2 hall HR
    by_cases h51 : 32768 < sp
    · obtain rfl : r = 51 := by rw [HR2.out, if_pos h51]
      go_wp2
      go_ret
      exact ⟨rfl, rfl⟩
    · go_wp2
      go_loopg [5, 20] n (fun kq sv jv wr => ∃ (j s : Nat), sv = .int .i64 (s : Nat) ∧ jv = .int .i64 (j : Nat) ∧ j + kq = n ∧ s ≤ j ∧ Hd (s = usedR (lens.take j)) ∧ wr = w)
      case atStart => exact ⟨0, 0, rfl, rfl, by omega, by omega, ⟨by simp [usedR]⟩, rfl⟩
      case round =>
        obtain ⟨j, s, rfl, rfl, hj, hs, HSS, rfl⟩ := hrel
        by_cases hjn : j < n
        · obtain ⟨bd, off, rfl, _, hcc⟩ := HS.out.sl (by rw [i64s_length]; omega)
          have kd := (hcc j (by rw [i64s_length]; omega)).trans (i64s_get lens j)
          obtain ⟨x, hx⟩ : ∃ x, lens[j]? = some x := ⟨_, List.getElem?_eq_getElem (by omega)⟩
          rw [hx] at kd
          simp only [Option.map_some] at kd
          have HSX : Hd (usedR (lens.take (j + 1)) = s + (if 0 < x then 1 else 0)) := ⟨by
            obtain ⟨e, he⟩ := List.getElem?_eq_some_iff.mp hx
            rw [usedR_take e, he, ← HSS.out]⟩
          clear hcc hx
          by_cases hxp : x > 0
          · go_wp2
            go_roundg (gk - 1)
            case measure => omega
            case rel => exact ⟨j + 1, s + 1, by go_num, by go_num, by omega, by omega, ⟨by rw [HSX.out, if_pos hxp]⟩, rfl⟩
          · go_wp2
            go_roundg (gk - 1)
            case measure => omega
            case rel => exact ⟨j + 1, s, by go_num, by go_num, by omega, by omega, ⟨by rw [HSX.out, if_neg (by omega)]; rfl⟩, rfl⟩
        · obtain rfl : j = n := by omega
          have HR3 : Hd (r = if sp = 32768 ∨ s = 0 ∨ (s = 1 ∧ sp = 16384) then 0 else 52) := ⟨by rw [HR2.out, if_neg h51, HSS.out, ← hl, List.take_length]⟩
          clear HR2 HSS
          by_cases hw : sp = 32768
          · obtain rfl : r = 0 := by rw [HR3.out, if_pos (.inl hw)]
            have g1 : ((sp : Int) == 32768) = true := by simp; omega
            clear hw
            go_wp2
            go_ret
            exact ⟨rfl, rfl⟩
          · have g1 : ((sp : Int) == 32768) = false := by simp; omega
            by_cases hs0 : s = 0
            · obtain rfl : r = 0 := by rw [HR3.out, if_pos (.inr (.inl hs0))]
              have g2 : ((s : Int) == 0) = true := by simp; omega
              clear hs0 hw
              go_wp2
              go_ret
              exact ⟨rfl, rfl⟩
            · have g2 : ((s : Int) == 0) = false := by simp; omega
              by_cases hs1 : s = 1
              · have g3 : ((s : Int) == 1) = true := by simp; omega
                by_cases hc : sp = 16384
                · obtain rfl : r = 0 := by rw [HR3.out, if_pos (.inr (.inr ⟨hs1, hc⟩))]
                  have g4 : ((sp : Int) == 16384) = true := by simp; omega
                  clear hs0 hw hs1 hc
                  go_wp2
                  go_ret
                  exact ⟨rfl, rfl⟩
                · obtain rfl : r = 52 := by rw [HR3.out, if_neg (by omega)]
                  have g4 : ((sp : Int) == 16384) = false := by simp; omega
                  clear hs0 hw hs1 hc
                  go_wp2
                  go_ret
                  exact ⟨rfl, rfl⟩
              · obtain rfl : r = 52 := by rw [HR3.out, if_neg (by omega)]
                have g3 : ((s : Int) == 1) = false := by simp; omega
                clear hs0 hw hs1
                go_wp2
                go_ret
                exact ⟨rfl, rfl⟩
set_option maxHeartbeats 8000000 in
theorem rcodes_any (w : World) (A : Option Addr) (n c : Nat) (lens : List Int) (q : Option Nat) (hS : SlArg w A n c (i64s lens) q) (r : Int) (L : List Nat) (hr : r = check lens) (hL : L = codes lens) :
    Calls Tryz.prog 141 #[.slice A n c] w fun e w' => ∃ A' d', e = .returned (.tuple #[.slice A' L.length d', .int .i64 r]) ∧
      w'.ownsRow 0 3 1 (.slice A' L.length d') L.length (nv L) ∧ (∀ y, (Value.slice A' L.length d').ownBlock = some y → w.heap.size ≤ y) ∧ Fr w w' [] := by
  obtain ⟨j0, hj0, hj1, hj2, hj3⟩ := info_parts infoI64
  have HS := Hd.mk hS
  have HR := Hd.mk hr
  have HL := Hd.mk hL
  have hl : lens.length = n := by have := hS.len; simpa [i64s] using this
  clear hS hr hL
  go_enter Tryz.func141, Tryz.ntmps141
  go_wp2_with (fail)
  refine (rchk_any w A n c lens q HS.out r HR.out).mono ?_
  rintro e w1 ⟨rfl, rfl⟩
  by_cases hr0 : r = 0
  · subst hr0
    obtain ⟨hb, hsp⟩ := check_zero HR.out.symm
    obtain ⟨hl288, hall⟩ := bad_false hb
    have HALL := Hd.mk hall
    have HSP := Hd.mk hsp
    have hLn : L.length = n := by rw [HL.out, codes_len HR.out.symm, hl]
    clear hb hall hsp
    go_upto_region 5 with (refine wpList_make_full _ rfl _ _ 79 rfl 0 3 j0 (.int .i64 0) 1 Tryz.underlying79 hj0 hj1 hj2 .i64 .i64 _ _ n rfl rfl rfl rfl (by rw [hj3]; omega) (by unfold maxLen; omega) (Nat.zero_le _) ?_; intro w2 hown1 hgrow1; have O2 := Hd.mk hown1; have F2 := Hd.mk ((Fr.refl w []).grown hgrow1 (by simp)); clear hown1 hgrow1)
    have hgo : w.heap.size ≤ w.heap.size := Nat.le_refl _
    obtain ⟨go, hgoq⟩ : ∃ go, go = w.heap.size := ⟨_, rfl⟩
    rw [← hgoq] at O2 ⊢
    have hgo2 : w.heap.size ≤ go := by omega
    have O3 : Hd (w2.ownsRow 0 3 1 (.slice (some ⟨go, 0, none⟩) n n) n (nv (outL lens 1 0))) := ⟨by
      have e := toList_madeCells_one (Value.int .i64 0) (n * 1)
      have e2 : (Value.int .i64 0).cells = #[Value.int .i64 0] := rfl
      have e3 : nv (outL lens 1 0) = (madeCells (Value.int .i64 0).cells (n * 1)).toList := by
        rw [e2, e, ← outL_start, hl]
        simp [nv, i64s]
      rw [e3]
      exact O2.out⟩
    clear O2 hgo hgoq
    go_wp2
    go_loopg [6, 7, 8] 15 (fun kq xv lv nv' wr => ∃ (m nx la : Nat), xv = .int .i64 (nx : Nat) ∧ lv = .int .i64 (la : Nat) ∧ nv' = .int .i64 ((m + 1 : Nat) : Int) ∧ m + kq = 15 ∧ la ≤ 15 ∧ nx ≤ 32768 ∧ Hd (InvC lens (m + 1) 0 nx la) ∧ Hd (wr.ownsRow 0 3 1 (.slice (some ⟨go, 0, none⟩) n n) n (nv (outL lens (m + 1) 0))) ∧ Hd (Fr w wr []))
    case atStart => exact ⟨0, 0, 0, rfl, rfl, rfl, rfl, by omega, by omega, ⟨.inl ⟨rfl, rfl, by simp [firstF, cz, cnt]⟩⟩, O3, F2⟩
    case round =>
      obtain ⟨m, nx, la, rfl, rfl, rfl, hm, hla, hnx, HI, HO, HF⟩ := hrel
      obtain ⟨g0, rfl⟩ : ∃ g0 : Nat, g0 = gk := ⟨_, rfl⟩
      by_cases hm15 : m < 15
      · obtain ⟨nn, hnn⟩ : ∃ nn, nn = m + 1 := ⟨_, rfl⟩
        rw [← hnn] at HI HO ⊢
        have hn1 : 1 ≤ nn := by omega
        have hn15 : nn ≤ 15 := by omega
        have hn15i : (nn : Int) ≤ 15 := by omega
        have HNN := Hd.mk hnn
        clear hnn
        go_wp2_with (fail)
        go_loopg [6, 7, 25] n (fun kq xv lv iv wr => ∃ (i nx la : Nat), xv = .int .i64 (nx : Nat) ∧ lv = .int .i64 (la : Nat) ∧ iv = .int .i64 (i : Nat) ∧ i + kq = n ∧ la ≤ nn ∧ nx ≤ 32768 ∧ Hd (InvC lens nn i nx la) ∧ Hd (wr.ownsRow 0 3 1 (.slice (some ⟨go, 0, none⟩) n n) n (nv (outL lens nn i))) ∧ Hd (Fr w wr []))
        case atStart =>
          have hlan : la ≤ nn := by
            rcases HI.out with ⟨h1, _⟩ | ⟨_, h2, _⟩ <;> omega
          exact ⟨0, nx, la, rfl, rfl, rfl, by omega, hlan, hnx, HI, HO, HF⟩
        case round =>
          clear HI HO HF hnx
          obtain ⟨i, nx, la, rfl, rfl, rfl, hik, hla2, hnx, HI, HO, HF⟩ := hrel
          by_cases hi : i < n
          · obtain ⟨bd, off, rfl, _, hcc⟩ := (HS.out.sl.frame HF.out (by simp)) (by rw [i64s_length]; omega)
            have kd := (hcc i (by rw [i64s_length]; omega)).trans (i64s_get lens i)
            obtain ⟨x, hx⟩ : ∃ x, lens[i]? = some x := ⟨_, List.getElem?_eq_getElem (by omega)⟩
            rw [hx] at kd
            simp only [Option.map_some] at kd
            have HX : Hd (∃ h : i < lens.length, lens[i] = x) := ⟨List.getElem?_eq_some_iff.mp hx⟩
            clear hcc hx
            by_cases hxn : x = (nn : Int)
            · have g1 : (x != (nn : Int)) = false := by simp; exact hxn
              have HL2 : Hd (∃ h : i < lens.length, lens[i] = (nn : Int)) := ⟨by obtain ⟨h, e⟩ := HX.out; exact ⟨h, by rw [e, hxn]⟩⟩
              obtain ⟨hil, hie⟩ := HL2.out
              obtain ⟨p1, p2⟩ := inv_put hn1 hil hie HI.out
              obtain ⟨cd, hcd⟩ : ∃ cd, cd = firstF (cz lens) nn + cnt (lens.take i) nn := ⟨_, rfl⟩
              rw [← hcd] at p1 p2
              have hcb : cd ≤ 32768 := by
                obtain ⟨cd', c1, c2, c3, c4⟩ := code_fits HR.out.symm hil hie (by omega)
                have : 2 ^ nn ≤ 2 ^ 15 := Nat.pow_le_pow_right (by omega) (by omega)
                omega
              have P1 := Hd.mk p1
              have P2 := Hd.mk p2
              have O4 : Hd ((nv (outL lens nn i)).set i (.int .i64 (cd : Nat)) = nv (outL lens nn (i + 1))) := ⟨by
                rw [← outL_put hn1 hil hie, ← hcd]
                unfold nv i64s
                simp [List.map_set]⟩
              obtain ⟨u0, y0, f0⟩ := own_any HO.out (j := i) (by omega)
              clear hxn hil hie p1 p2 hcd
              by_cases hl0 : (la : Int) > 0
              · have e3 : Hd ((nx + 1) * 2 ^ (nn - la) = cd) := ⟨by have := P1.out; rw [if_pos (by omega)] at this; exact this⟩
                have hlan : (la : Int) ≤ (nn : Nat) := by omega
                go_upto_region 15 with (fail)
                have e4 : wrap64 (((nx : Int) + 1) * 2 ^ (nn - la)) = (cd : Nat) := by
                  rw [show ((nx : Int) + 1) * 2 ^ (nn - la) = (cd : Nat) from by rw [← e3.out]; push_cast; rfl]
                  exact wrap64_in _ (by omega)
                rw [e4]
                clear e4
                go_wp2
                go_roundg (gk - 1)
                case measure => omega
                case rel => exact ⟨i + 1, cd, nn, rfl, rfl, by go_num, by omega, Nat.le_refl _, hcb, P2, ⟨by rw [← O4.out]; exact (HO.out.stored _ _).1⟩, ⟨HF.out.setCell _ (.inr hgo2)⟩⟩
              · have e3 : nx = cd := by have := P1.out; rw [if_neg (by omega)] at this; exact this
                subst e3
                go_wp2
                go_roundg (gk - 1)
                case measure => omega
                case rel => exact ⟨i + 1, nx, nn, rfl, rfl, by go_num, by omega, Nat.le_refl _, hcb, P2, ⟨by rw [← O4.out]; exact (HO.out.stored _ _).1⟩, ⟨HF.out.setCell _ (.inr hgo2)⟩⟩
            · have g1 : (x != (nn : Int)) = true := by simp; exact hxn
              obtain ⟨hil, hie⟩ := HX.out
              have hne : lens[i] ≠ (nn : Int) := by rw [hie]; exact hxn
              have I2 := Hd.mk (inv_skip hil hne HI.out)
              have O4 : Hd (wr.ownsRow 0 3 1 (.slice (some ⟨go, 0, none⟩) n n) n (nv (outL lens nn (i + 1)))) := ⟨by rw [← outL_skip hil hne]; exact HO.out⟩
              clear hxn hil hie hne HO
              go_wp2
              go_roundg (gk - 1)
              case measure => omega
              case rel => exact ⟨i + 1, nx, la, rfl, rfl, by go_num, by omega, hla2, hnx, I2, O4, HF⟩
          · obtain rfl : i = n := by omega
            have I2 : Hd (InvC lens (nn + 1) 0 nx la) := ⟨inv_row hn1 (by rw [hl]; exact HI.out)⟩
            have O4 : Hd (wr.ownsRow 0 3 1 (.slice (some ⟨go, 0, none⟩) i i) i (nv (outL lens (nn + 1) 0))) := ⟨by rw [← outL_row, hl]; exact HO.out⟩
            clear HI HO
            have hla15 : la ≤ 15 := by omega
            go_wp2
            go_roundg (g0 - 1)
            case measure => omega
            case rel => exact ⟨nn, nx, la, rfl, rfl, by go_num, by have := HNN.out; omega, hla15, hnx, I2, O4, HF⟩
      · obtain rfl : m = 15 := by omega
        go_wp2
        go_ret2
        have h2 := HO.out
        rw [show 15 + 1 = 16 from rfl, outL_end HR.out.symm, ← HL.out] at h2
        rw [hLn]
        exact ⟨_, _, rfl, h2, (by intro y hy; cases hy; exact hgo2), HF.out⟩
  · have hne : (r != 0) = true := by simpa using hr0
    obtain rfl : L = [] := by rw [HL.out]; unfold codes; rw [if_neg (by rw [← HR.out]; exact hr0)]
    go_wp2
    go_ret2
    exact ⟨none, 0, rfl, (show w.ownsRow 0 3 1 (.slice none 0 0) 0 [] from own_nil _ _ _ _), (by intro j hj; cases hj), Fr.refl _ _⟩
end Go.Proofs.YtkdgfioigkijgaaGreat.Code
set_option linter.unusedVariables false
set_option linter.unusedSimpArgs false
set_option maxRecDepth 100000
namespace Go.Proofs.YtkdgfioigkijgaaGreat.Head
open Go.RowKit Go.Proofs.YtkdgfioigkijgaaGreat.Lib Go.Proofs.YtkdgfioigkijgaaGreat.Ints Go.Proofs.YtkdgfioigkijgaaGreat.Runs
set_option maxHeartbeats 4000000 in
theorem told_any (w : World) (A B : Option Addr) (n c m d : Nat) (lit dist : List Int) (p q : Option Nat) (hX : SlArg w A n c (i64s lit) p) (hY : SlArg w B m d (i64s dist) q) (b : Bool) (hb : b = okH lit dist) :
    Calls Tryz.prog 91 #[.slice A n c, .slice B m d] w fun e w' => e = .returned (.bool b) ∧ w = w' := by
  have HX := Hd.mk hX
  have HY := Hd.mk hY
  have HB := Hd.mk hb
  have hl : lit.length = n := by have := hX.len; simpa [i64s] using this
  have hm : dist.length = m := by have := hY.len; simpa [i64s] using this
  subst hl hm
  clear hX hY hb
  by_cases hA : 257 ≤ lit.length ∧ lit.length ≤ 286 ∧ dist.length ≤ 30
  · obtain ⟨h1, h2, h3⟩ := hA
    obtain ⟨r1, hr1⟩ : ∃ r, r = Code.check lit := ⟨_, rfl⟩
    obtain ⟨r2, hr2⟩ : ∃ r, r = Code.check dist := ⟨_, rfl⟩
    have R1 := Hd.mk hr1
    have R2 := Hd.mk hr2
    clear hr1 hr2
    obtain ⟨x, hx⟩ : ∃ x, x = lit[256] := ⟨_, rfl⟩
    have HXV : Hd (lit.getD 256 0 = x) := ⟨by rw [List.getD_eq_getElem?_getD, List.getElem?_eq_getElem (by omega), hx]; rfl⟩
    obtain ⟨a, o1, rfl, _, ha⟩ := HX.out.sl (by simp [i64s]; omega)
    have ca := (ha 256 (by simp [i64s]; omega)).trans (by rw [i64s_get, List.getElem?_eq_getElem (by omega), ← hx])
    clear ha hx
    have hi : ((256 : Nat) : Int) < (lit.length : Int) := by omega
    go_enter Tryz.func91, Tryz.ntmps91
    go_wp2_with (fail)
    refine (Code.rchk_any w _ _ _ lit p HX.out r1 R1.out).mono ?_
    rintro e w1 ⟨rfl, rfl⟩
    by_cases e1 : r1 = 0
    · subst e1
      go_wp2_with (fail)
      refine (Code.rchk_any w _ _ _ dist q HY.out r2 R2.out).mono ?_
      rintro e w1 ⟨rfl, rfl⟩
      by_cases e2 : r2 = 0
      · subst e2
        by_cases e3 : x = 0
        · subst e3
          have hbf : b = false := by rw [HB.out]; unfold okH; exact decide_eq_false (fun h => h.2.2.2.2.2 HXV.out)
          subst hbf
          go_wp2
          go_ret
          exact ⟨rfl, rfl⟩
        · have e4 : (x != 0) = true := by simpa using e3
          have hbt : b = true := by rw [HB.out]; unfold okH; exact decide_eq_true ⟨h1, h2, h3, R1.out.symm, R2.out.symm, by rw [HXV.out]; exact e3⟩
          subst hbt
          go_wp2
          go_ret
          exact ⟨rfl, rfl⟩
      · have e4 : (r2 == 0) = false := by simpa using e2
        have hbf : b = false := by rw [HB.out]; unfold okH; exact decide_eq_false (fun h => e2 (by rw [R2.out]; exact h.2.2.2.2.1))
        subst hbf
        go_wp2
        go_ret
        exact ⟨rfl, rfl⟩
    · have e4 : (r1 == 0) = false := by simpa using e1
      have hbf : b = false := by rw [HB.out]; unfold okH; exact decide_eq_false (fun h => e1 (by rw [R1.out]; exact h.2.2.2.1))
      subst hbf
      go_wp2
      go_ret
      exact ⟨rfl, rfl⟩
  · have hbf : b = false := by rw [HB.out]; unfold okH; exact decide_eq_false (fun h => hA ⟨h.1, h.2.1, h.2.2.1⟩)
    subst hbf
    go_enter Tryz.func91, Tryz.ntmps91
    by_cases g1 : lit.length ≤ 256
    · have g1' : (lit.length : Int) ≤ 256 := by omega
      go_wp2
      go_ret
      exact ⟨rfl, rfl⟩
    · have g1' : ¬ (lit.length : Int) ≤ 256 := by omega
      by_cases g2 : 286 < lit.length
      · have g2' : (286 : Int) < (lit.length : Int) := by omega
        go_wp2
        go_ret
        exact ⟨rfl, rfl⟩
      · have g2' : ¬ (286 : Int) < (lit.length : Int) := by omega
        have g3' : (30 : Int) < (dist.length : Int) := by omega
        go_wp2
        go_ret
        exact ⟨rfl, rfl⟩
end Go.Proofs.YtkdgfioigkijgaaGreat.Head
set_option linter.unusedVariables false
set_option linter.unusedSimpArgs false
set_option maxRecDepth 100000
namespace Go.Proofs.YtkdgfioigkijgaaGreat.Head
open Go.RowKit Go.Proofs.YtkdgfioigkijgaaGreat.Lib Go.Proofs.YtkdgfioigkijgaaGreat.Ints Go.Proofs.YtkdgfioigkijgaaGreat.Runs
def stripN (l : List Int) : Nat → Nat
  | 0 => 0
  | n + 1 => if l.getD n 0 = 0 then stripN l n else n + 1
theorem stripN_le (l : List Int) : ∀ n, stripN l n ≤ n
  | 0 => Nat.le_refl 0
  | n + 1 => by
    rw [stripN]
    split
    · exact Nat.le_trans (stripN_le l n) (Nat.le_succ n)
    · exact Nat.le_refl _
def shortL (l : List Int) (k : Nat) : List Int := l.take (stripN l l.length) ++ List.replicate (k - stripN l l.length) 0
theorem short_cut (l : List Int) (k : Nat) : ∀ n, n ≤ l.length → k ≤ n → l.take (stripN l n) ++ List.replicate (k - stripN l n) 0 = l.take (cutN l k n)
  | 0, _, hk => by simp [stripN, cutN]; omega
  | n + 1, hn, hk => by
    rw [stripN, cutN]
    by_cases h0 : l.getD n 0 = 0
    · rw [if_pos h0]
      by_cases hk2 : k < n + 1
      · rw [if_pos ⟨hk2, h0⟩]
        exact short_cut l k n (by omega) (by omega)
      · rw [if_neg (fun h => hk2 h.1)]
        obtain rfl : k = n + 1 := by omega
        have ih := short_cut l n n (by omega) (Nat.le_refl n)
        have hc : cutN l n n = n := by
          cases n with
          | zero => rfl
          | succ n => rw [cutN, if_neg (fun h => Nat.lt_irrefl _ h.1)]
        have hs := stripN_le l n
        rw [hc] at ih
        have e : l.take (n + 1) = l.take n ++ [0] := by
          rw [List.take_succ_eq_append_getElem (by omega)]
          congr 2
          rw [List.getD_eq_getElem?_getD, List.getElem?_eq_getElem (by omega)] at h0
          simpa using h0
        rw [e, ← ih, show n + 1 - stripN l n = (n - stripN l n) + 1 from by omega, List.replicate_succ', List.append_assoc]
    · rw [if_neg h0, if_neg (fun h => h0 h.2), show k - (n + 1) = 0 from by omega]
      simp
theorem short_lit {l : List Int} (h : 257 ≤ l.length) : shortL l 257 = cutL l 257 := short_cut l 257 l.length (Nat.le_refl _) h
theorem short_dist (l : List Int) : shortL l 1 = distL l := by
  unfold distL
  by_cases h : 1 ≤ l.length
  · have e := short_cut l 1 l.length (Nat.le_refl _) h
    have hc : 1 ≤ cutN l 1 l.length := cutN_ge l 1 l.length h
    rw [if_neg (by unfold cutL; rw [List.length_take]; omega)]
    exact e
  · have : l = [] := List.length_eq_zero_iff.1 (by omega)
    subst this
    rfl
end Go.Proofs.YtkdgfioigkijgaaGreat.Head
