/- Texts of this claim, one behind the other: Mem, RefR, RefW, RParts, CodeG, CopyN. -/
import Derived.Test.YtkdgfioigkijgaaGreatH01
import Derived.Test.YtkdgfioigkijgaaGreatH03
import Derived.Test.YtkdgfioigkijgaaGreatH04
import Derived.Test.YtkdgfioigkijgaaGreatH05
import Derived.Test.YtkdgfioigkijgaaGreatH06
import Derived.Test.YtkdgfioigkijgaaGreatH12
import Derived.Test.YtkdgfioigkijgaaGreatH13
import Derived.Laws.BytesArg
import Derived.Laws.BytesString
import Derived.Laws.Strings
import Derived.Deep.RegionLaw
import Derived.Outline
import Derived.Laws.CopyOwn
/- sapperref01's memory words: Same. No condition. -/
set_option maxRecDepth 100000
set_option linter.unusedVariables false
set_option linter.unusedSimpArgs false
namespace Go.Proofs.YtkdgfioigkijgaaGreat.Bits
open Go.RowKit Go.Proofs.YtkdgfioigkijgaaGreat.Lib Go.Proofs.YtkdgfioigkijgaaGreat.Num

theorem conv_string {P : Program} {w : World} {src dst e : TypeId} {A : Option Addr} {c : Nat} {xs : List Int} {q : Option Nat} (hs : P.underlying src = some (.slice e)) (he : P.underlying e = some (.int .u8)) (hd : P.underlying dst = some .string)
    (h : Sl w A (u8s xs) q) (hA : A = none → xs.length = 0 ∧ c = 0) : (convert src dst (.slice A xs.length c)).run P w = .ok (.string (strOfNums xs)) w := by
  rcases A with _ | ad
  · obtain ⟨h0, rfl⟩ := hA rfl
    obtain rfl : xs = [] := List.eq_nil_of_length_eq_zero h0
    exact run_convert_bytes_nil w src e hs he 0 0 dst hd
  · have hl : (loadCells ad xs.length).run P w = .ok (xs.map (Value.int .u8)).toArray w := by
      have := run_loadCells_list (P := P) w ad (xs.map (Value.int .u8)) (h.news rfl)
      simpa using this
    rw [run_convert_bytes_string w src dst e _ xs.length c hs he hd, run_bytesToString w ad xs.length c xs hl, foldl_push_bytes]
    simp [strOfNums, ByteArray.empty, ByteArray.emptyWithCapacity]
    rfl
theorem str_eq {xs ys : List Int} (hx : ∀ x ∈ xs, 0 ≤ x ∧ x ≤ 255) (hy : ∀ x ∈ ys, 0 ≤ x ∧ x ≤ 255) : ((strOfNums xs).toList == (strOfNums ys).toList) = decide (xs = ys) := by
  have e : ∀ zs : List Int, (strOfNums zs).toList = zs.map fun n => UInt8.ofNat n.toNat := by
    intro zs
    rw [ByteArray.toList_eq]; simp [strOfNums]
  rw [e, e, Bool.eq_iff_iff]
  simp only [beq_iff_eq, decide_eq_true_eq]
  constructor
  · intro h
    induction xs generalizing ys with
    | nil => cases ys <;> simp_all
    | cons x xs ih =>
      cases ys with
      | nil => simp at h
      | cons y ys =>
        simp only [List.map_cons, List.cons.injEq] at h
        have h1 := hx x (by simp)
        have h2 := hy y (by simp)
        have e1 := congrArg UInt8.toNat h.1
        simp at e1
        rw [ih (fun z hz => hx z (by simp [hz])) (fun z hz => hy z (by simp [hz])) h.2]
        congr 1
        omega
  · rintro rfl; rfl
theorem same_any (w : World) (A B : Option Addr) (n m c d : Nat) (xs ys : List Int) (p q : Option Nat) (hn : xs.length = n) (hm : ys.length = m) (hx : ∀ x ∈ xs, 0 ≤ x ∧ x ≤ 255) (hy : ∀ x ∈ ys, 0 ≤ x ∧ x ≤ 255)
    (hS : Sl w A (u8s xs) p) (hT : Sl w B (u8s ys) q) (hA : A = none → n = 0 ∧ c = 0) (hB : B = none → m = 0 ∧ d = 0) :
    Calls Tryz.prog 22 #[.slice A n c, .slice B m d] w fun e w' => e = .returned (.bool (decide (xs = ys))) ∧ w = w' := by
  subst hn hm
  have h1 := conv_string (P := Tryz.prog) (dst := 9) Tryz.underlying23 Tryz.underlying5 Tryz.underlying9 hS hA
  have h2 := conv_string (P := Tryz.prog) (dst := 9) Tryz.underlying23 Tryz.underlying5 Tryz.underlying9 hT hB
  have He := Hd.mk (str_eq hx hy)
  clear hS hT hA hB hx hy
  go_enter Tryz.func22, Tryz.ntmps22
  go_wp2
  go_ret
  exact ⟨by rw [← He.out]; rfl, rfl⟩
end Go.Proofs.YtkdgfioigkijgaaGreat.Bits
/- The document's reader (sapperref03): what each method answers and leaves behind, in the same words as the program's. Conditions: at most 64 bits are held. -/
set_option maxRecDepth 100000
set_option linter.unusedVariables false
set_option linter.unusedSimpArgs false
namespace Go.Proofs.YtkdgfioigkijgaaGreat.Bits
open Go.RowKit Go.Proofs.YtkdgfioigkijgaaGreat.Lib Go.Proofs.YtkdgfioigkijgaaGreat.Num

/-- the h bits of V, the lowest first -/
def bools (V h : Nat) : List Value := (List.range h).map fun i => .bool (V.testBit i)
theorem bools_length (V h : Nat) : (bools V h).length = h := by simp [bools]
theorem bools_get {V h i : Nat} (hi : i < h) : (bools V h)[i]? = some (.bool (V.testBit i)) := by simp [bools, hi]
theorem bools_snoc {V h : Nat} (hV : V < 2 ^ h) (b : Bool) : bools V h ++ [.bool b] = bools (V + b.toNat * 2 ^ h) (h + 1) := by
  apply List.ext_getElem?
  intro i
  by_cases h1 : i < h
  · rw [List.getElem?_append_left (by rw [bools_length]; exact h1), bools_get h1, bools_get (by omega)]
    congr 2
    rw [Nat.add_comm, Nat.mul_comm, Nat.testBit_two_pow_mul_add _ hV, if_pos h1]
  · by_cases h2 : i = h
    · subst h2
      rw [List.getElem?_append_right (by rw [bools_length]; omega), bools_length, bools_get (by omega), Nat.sub_self]
      simp only [List.getElem?_cons_zero]
      congr 2
      rw [Nat.add_comm, Nat.mul_comm, Nat.testBit_two_pow_mul_add _ hV, if_neg (by omega), Nat.sub_self]
      cases b <;> rfl
    · rw [List.getElem?_eq_none (by simp [bools_length]; omega), List.getElem?_eq_none (by rw [bools_length]; omega)]
theorem infoBool : (Tryz.prog.info? 4).map (fun i => (i.zero, i.size, i.bytes)) = some (some (.bool false), 1, 1) := by kernel_rfl

section
variable {g V b t : Nat} {q : Option Nat}
theorem low_bit (V i : Nat) : V % 2 ^ (i + 1) = V % 2 ^ i + (V.testBit i).toNat * 2 ^ i := by
  rw [mod_more V i 1, Nat.pow_one]
  congr 2
  rw [Nat.testBit_eq_decide_div_mod_eq]
  rcases Nat.mod_two_eq_zero_or_one (V / 2 ^ i) with h | h <;> simp [h]
end
end Go.Proofs.YtkdgfioigkijgaaGreat.Bits
/- The document's writer (sapperref03): what each method answers and leaves behind. Conditions: fewer than 2^46 bits. -/
set_option maxRecDepth 100000
set_option linter.unusedVariables false
set_option linter.unusedSimpArgs false
namespace Go.Proofs.YtkdgfioigkijgaaGreat.Bits
open Go.RowKit Go.Proofs.YtkdgfioigkijgaaGreat.Lib Go.Proofs.YtkdgfioigkijgaaGreat.Num

/-- The document's writer in block g holds the m bits of N; q: the block of its bits. -/
def RW (w : World) (g : Nat) (N m : Nat) (q : Option Nat) : Prop :=
  ∃ A c, w.heap[g]? = some (.cells #[.slice A m c] 30 (0, 0)) ∧ w.ownsRow 0 4 1 (.slice A m c) m (bools N m) ∧ (Value.slice A m c).ownBlock = q ∧ N < 2 ^ m
theorem RW.frame {w w' : World} {g N m : Nat} {q : Option Nat} (hr : RW w g N m q) {F : List Nat} (hf : Fr w w' F) (hg : g ∉ F) (hq : ∀ k, q = some k → k ∉ F) : RW w' g N m q := by
  obtain ⟨A, c, hb, hown, rfl, hV⟩ := hr
  exact ⟨A, c, hf.blk hb hg, own_frame hown hf hq, rfl, hV⟩
theorem RW.lt {w : World} {g N m : Nat} {q : Option Nat} (hr : RW w g N m q) : g < w.heap.size ∧ ∀ k, q = some k → k < w.heap.size := by
  obtain ⟨A, c, hb, hown, rfl, hV⟩ := hr
  exact ⟨blk_lt hb, fun k hk => own_lt hown hk⟩
theorem rw_new (w : World) : RW (w.alloc (.cells #[.slice none 0 0] 30)) w.heap.size 0 0 none :=
  ⟨none, 0, blk_new w _, own_nil _ _ _ _, rfl, by simp⟩
section
variable {g N m : Nat} {q : Option Nat}
/-- behind an append of one bit -/
theorem wbit_stored {w w1 : World} {A : Option Addr} {c : Nat} {A' : Option Addr} {c' : Nat} {bt : Bool} (hb : w.heap[g]? = some (.cells #[.slice A m c] 30 (0, 0)))
    (hown : w.ownsRow 0 4 1 (.slice A m c) m (bools N m)) (hV : N < 2 ^ m) (O : Obj)
    (hown' : w1.ownsRow 0 4 1 (.slice A' (m + 1) c') (m + 1) (bools N m ++ [.bool bt])) (hg : (w.alloc O).grownBy w1 (Value.slice A m c).ownBlock) (haft : Aft (w.alloc O) (Value.slice A m c).ownBlock (Value.slice A' (m + 1) c').ownBlock) :
    RW (w1.setCell ⟨g, 0, none⟩ (.slice A' (m + 1) c')) g (N + bt.toNat * 2 ^ m) (m + 1) (Value.slice A' (m + 1) c').ownBlock ∧ Aft w (Value.slice A m c).ownBlock (Value.slice A' (m + 1) c').ownBlock ∧
      Fr w (w1.setCell ⟨g, 0, none⟩ (.slice A' (m + 1) c')) (g :: (Value.slice A m c).ownBlock.toList) := by
  have hb1 := blk_grown hg (blk_alloc hb O) (own_ne hown hb (by decide)).symm
  have hne := own_ne hown' hb1 (by decide)
  rw [bools_snoc hV] at hown'
  refine ⟨⟨A', c', by simpa using blk_set hb1 0 (.slice A' (m + 1) c'), own_setFar hown' _ hne, rfl, grow_lt hV (by cases bt <;> decide)⟩, ?_, ?_⟩
  · rcases haft with e | ⟨k, e, hk⟩
    · exact .inl e
    · exact .inr ⟨k, e, by simp at hk; omega⟩
  · exact (((Fr.refl w _).alloc O).grown hg (fun k hk => .inl (by simp [hk]))).setCell _ (.inl (by simp))
theorem hand_bit {v i : Nat} (hv : v < 2 ^ 64) : (Go.bits .and .u64 ((v : Int) / 2 ^ i) 1 == 1) = v.testBit i := by
  have hle : v / 2 ^ i ≤ v := Nat.div_le_self _ _
  rw [div_cast, n64and1 (by omega), Nat.testBit_eq_decide_div_mod_eq, Bool.eq_iff_iff]
  simp only [beq_iff_eq, decide_eq_true_eq]
  omega
theorem wput_ok (a n : Int) (v : Nat) (w : World) (ha : a = (v : Nat)) (hm0 : mayN v n = 0) (hm : m + n.toNat ≤ 70368744177664) (hT : RW w g N m q) :
    Calls Tryz.prog 12 #[.pointer (some ⟨g, 0, none⟩), .int .u64 a, .int .i64 n] w fun e w' => e = .returned (.int .i64 0) ∧
      ∃ q', RW w' g (N + v * 2 ^ m) (m + n.toNat) q' ∧ Aft w q q' ∧ Fr w w' (g :: q.toList) := by
  subst ha
  obtain ⟨i0, hi0, hz0, hz1, hz2⟩ := info_parts infoBool
  obtain ⟨h0, h1, h2⟩ := mayN_zero hm0
  obtain ⟨n, rfl⟩ := Int.eq_ofNat_of_zero_le h0
  rw [Int.toNat_natCast] at *
  have hv64 : Hd (v < 2 ^ 64) := ⟨Nat.lt_of_lt_of_le h2 (Nat.pow_le_pow_right (by decide) (by omega))⟩
  have hvn := Hd.mk h2
  have hz : (v : Int) / 2 ^ n = 0 := by rw [div_cast, Nat.div_eq_of_lt h2]; rfl
  have HT := Hd.mk hT
  clear hm0 hT h2
  go_enter Tryz.func12, Tryz.ntmps12
  go_wp2
  go_loopg [7] n (fun kq iv wr => ∃ i N2 m2 : Nat, iv = .int .i64 (i : Nat) ∧ i + kq = n ∧ m2 + kq ≤ 70368744177664 ∧ Hd (N2 = N + v % 2 ^ i * 2 ^ m ∧ m2 = m + i) ∧ ∃ q', RW wr g N2 m2 q' ∧ Aft w q q' ∧ Fr w wr (g :: q.toList))
  case atStart => exact ⟨0, N, m, rfl, by omega, by omega, ⟨by simp [Nat.mod_one], rfl⟩, q, HT.out, Aft.refl _ _, Fr.refl _ _⟩
  case round =>
    obtain ⟨i, N2, m2, rfl, hi, hb22, HE2, q2, hr2, ha2, hf2⟩ := hrel
    have HR2 := Hd.mk hr2
    have HA2 := Hd.mk ha2
    have HF2 := Hd.mk hf2
    clear hz
    by_cases hlt2 : i < n
    · obtain ⟨A2, c2, hblk, hown, hq2, hV2⟩ := hr2
      have k0 := blk_cell hblk 0
      have f0 := blk_frozen hblk 0
      simp only [List.getElem?_toArray, List.getElem?_cons_zero, List.getElem?_cons_succ] at k0
      have ka := blk_cell (blk_alloc hblk (.cells #[.bool (v.testBit i)] 4)) 0
      simp only [List.getElem?_toArray, List.getElem?_cons_zero] at ka
      have HB := Hd.mk hblk
      have HO := Hd.mk hown
      have HQ2 := Hd.mk hq2
      have HV2 := Hd.mk hV2
      have HNE := Hd.mk (own_ne hown hblk (by decide))
      obtain ⟨bt, hbt⟩ : ∃ bt, bt = v.testBit i := ⟨_, rfl⟩
      rw [← hbt] at ka
      have hand : (Go.bits .and .u64 ((v : Int) / 2 ^ i) 1 == 1) = bt := by rw [hbt]; exact hand_bit hv64.out
      have Hbt := Hd.mk hbt
      clear hblk hown hq2 hV2 hbt hf2 ha2
      go_wp2
      go_region_law (refine step_append_sl rfl (.tmp 27) (.tmp 33) 28 rfl 4 i0 (.bool false) 1 1 Tryz.underlying28 hi0 hz0 hz1 hz2 rfl (by decide) (.slice A2 m2 c2) m2 (bools N2 m2) (by simp [Act.eval, Act.put]) (by exact HO.out.alloc _) (some ⟨wr.heap.size, 0, none⟩) 1 1 [.bool bt] (some wr.heap.size) (by simp [Act.eval, Act.put]) rfl (by exact sl_of_blk (blk_new _ _)) (by intro h; cases h) (by intro u hu; simp at hu; subst hu; rfl) (by unfold maxLen; omega) (by omega) ?_; intro A' c' w1 hown' hgrow haft; have hb1 := blk_grown hgrow (by exact blk_alloc HB.out _) HNE.out.symm; have k1 := blk_cell hb1 0; have f1 := blk_frozen hb1 0; simp only [List.getElem?_toArray, List.getElem?_cons_zero] at k1; have R := wbit_stored (bt := bt) HB.out HO.out HV2.out (.cells #[.bool bt] 4) hown' ⟨hgrow.os, hgrow.tape, hgrow.output, hgrow.size, hgrow.block⟩ haft; have HRR := Hd.mk R; clear hown' hgrow haft hb1 R)
      all_goals
        go_wp2
        go_roundg (gk - 1)
        case measure => omega
        case rel =>
          have h := HRR.out
          rw [HQ2.out] at h
          obtain ⟨r1, r2, r3⟩ := h
          refine ⟨i + 1, N2 + bt.toNat * 2 ^ m2, m2 + 1, by go_num, by omega, by omega, ⟨?_, by have := HE2.out.2; omega⟩, _, r1, HA2.out.trans r2 HF2.out.size, HF2.out.trans r3 (fun y hy hyG => ?_)⟩
          · rw [HE2.out.1, HE2.out.2, Hbt.out, low_bit, Nat.add_mul, Nat.mul_assoc, ← Nat.pow_add, Nat.add_comm m i, Nat.add_assoc]
          · rcases List.mem_cons.1 hyG with rfl | e
            · simp
            · rcases HA2.out.mem e with h | h
              · exact List.mem_cons_of_mem _ h
              · omega
    · obtain rfl : i = n := by omega
      clear hr2 ha2 hf2
      go_wp2
      go_ret
      obtain ⟨e1, e2⟩ := HE2.out
      rw [Nat.mod_eq_of_lt hvn.out] at e1
      subst e1 e2
      exact ⟨rfl, q2, HR2.out, HA2.out, HF2.out⟩
theorem walign_any (w : World) (hm : m + 8 ≤ 70368744177664) (hT : RW w g N m q) :
    Calls Tryz.prog 53 #[.pointer (some ⟨g, 0, none⟩)] w fun e w' => e = .returned (.int .i64 (((8 - m % 8) % 8 : Nat) : Int)) ∧
      ∃ q', RW w' g N (m + (8 - m % 8) % 8) q' ∧ Aft w q q' ∧ Fr w w' (g :: q.toList) := by
  obtain ⟨i0, hi0, hz0, hz1, hz2⟩ := info_parts infoBool
  have HT := Hd.mk hT
  clear hT
  obtain ⟨n, hn⟩ : ∃ n, n = (8 - m % 8) % 8 := ⟨_, rfl⟩
  have Hn := Hd.mk hn
  have hn8 : n ≤ 7 := by omega
  rw [← hn]
  clear hn
  go_enter Tryz.func53, Tryz.ntmps53
  go_wp2
  go_loopg [3] n (fun kq iv wr => ∃ i : Nat, iv = .int .i64 (i : Nat) ∧ i + kq = n ∧ ∃ q', RW wr g N (m + i) q' ∧ Aft w q q' ∧ Fr w wr (g :: q.toList))
  case atStart => exact ⟨0, rfl, by omega, q, HT.out, Aft.refl _ _, Fr.refl _ _⟩
  case round =>
    obtain ⟨i, rfl, hi, q2, hr2, ha2, hf2⟩ := hrel
    have HR2 := Hd.mk hr2
    have HA2 := Hd.mk ha2
    have HF2 := Hd.mk hf2
    obtain ⟨A2, c2, hblk, hown, hq2, hV2⟩ := hr2
    have k0 := blk_cell hblk 0
    have f0 := blk_frozen hblk 0
    simp only [List.getElem?_toArray, List.getElem?_cons_zero, List.getElem?_cons_succ] at k0
    by_cases hlt2 : i < n
    · have HB := Hd.mk hblk
      have HO := Hd.mk hown
      have HQ2 := Hd.mk hq2
      have HV2 := Hd.mk hV2
      have HNE := Hd.mk (own_ne hown hblk (by decide))
      have h8 : (((m : Int) + i) % 8 == 0) = false := by have := Hn.out; simp; omega
      clear hblk hown hq2 hV2 hf2 ha2
      go_wp2_with (at_builtin; refine wpList_append_sl rfl (.tmp 15) (.tmp 16) 28 rfl 4 i0 (.bool false) 1 1 Tryz.underlying28 hi0 hz0 hz1 hz2 rfl (by decide) (.slice A2 (m + i) c2) (m + i) (bools N (m + i)) rfl (by exact HO.out.alloc _) (some ⟨wr.heap.size, 0, none⟩) 1 1 [.bool false] (some wr.heap.size) rfl rfl (by exact sl_of_blk (blk_new _ _)) (by intro h; cases h) (by intro u hu; simp at hu; subst hu; rfl) (by unfold maxLen; omega) (by omega) ?_; intro A' c' w1 hown' hgrow haft; have hb1 := blk_grown hgrow (by exact blk_alloc HB.out _) HNE.out.symm; have k1 := blk_cell hb1 0; have f1 := blk_frozen hb1 0; simp only [List.getElem?_toArray, List.getElem?_cons_zero] at k1; have R := wbit_stored (bt := false) HB.out HO.out HV2.out (.cells #[.bool false] 4) hown' hgrow haft; have HRR := Hd.mk R; clear hown' hgrow haft hb1 R)
      go_roundg (gk - 1)
      case measure => omega
      case rel =>
        have h := HRR.out
        rw [HQ2.out] at h
        obtain ⟨r1, r2, r3⟩ := h
        refine ⟨i + 1, by go_num, by omega, _, by simpa [Nat.add_assoc] using r1, HA2.out.trans r2 HF2.out.size, HF2.out.trans r3 (fun y hy hyG => ?_)⟩
        rcases List.mem_cons.1 hyG with rfl | e
        · simp
        · rcases HA2.out.mem e with h | h
          · exact List.mem_cons_of_mem _ h
          · omega
    · obtain rfl : i = n := by omega
      have h8 : (((m : Int) + i) % 8 == 0) = true := by have := Hn.out; simp; omega
      clear hblk hown hq2 hV2 hf2 ha2
      go_wp2
      go_ret
      exact ⟨rfl, q2, HR2.out, HA2.out, HF2.out⟩
theorem wwhole_any (w : World) (A : Option Addr) (l c : Nat) (xs : List Int) (qx : Option Nat) (hlen : xs.length = l) (hx : ∀ x ∈ xs, 0 ≤ x ∧ x ≤ 255) (hS : Sl w A (u8s xs) qx)
    (hq : ∀ k, qx = some k → k ∉ g :: q.toList) (hm : m + 8 + 8 * l ≤ 70368744177664) (hT : RW w g N m q) :
    Calls Tryz.prog 54 #[.pointer (some ⟨g, 0, none⟩), .slice A l c] w fun e w' => e = .returned (.tuple #[]) ∧
      ∃ q', RW w' g (N + valB xs * 2 ^ (m + (8 - m % 8) % 8)) (m + (8 - m % 8) % 8 + 8 * l) q' ∧ Aft w q q' ∧ Fr w w' (g :: q.toList) := by
  subst hlen
  have HT := Hd.mk hT
  have HS := Hd.mk hS
  have HX := Hd.mk hx
  have HQ := Hd.mk hq
  obtain ⟨M, hM⟩ : ∃ M, M = m + (8 - m % 8) % 8 := ⟨_, rfl⟩
  have hMm : M ≤ m + 7 := by omega
  have HM := Hd.mk hM
  rw [← hM]
  clear hT hS hx hq hM
  go_enter Tryz.func54, Tryz.ntmps54
  go_wp2_with (fail)
  refine (walign_any w (by omega) HT.out).mono ?_
  rintro e w1 ⟨rfl, q1, h1, h2, h3⟩
  rw [← HM.out] at h1
  have H1 := Hd.mk h1
  have H2 := Hd.mk h2
  have H3 := Hd.mk h3
  clear h1 h2 h3
  go_wp2
  go_loopg [10] xs.length (fun kq iv wr => ∃ i : Nat, iv = .int .i64 (i : Nat) ∧ i + kq = xs.length ∧ ∃ q', Hd (RW wr g (N + valB (xs.take i) * 2 ^ M) (M + 8 * i) q') ∧ Hd (Aft w q q') ∧ Hd (Fr w wr (g :: q.toList)))
  case atStart => exact ⟨0, rfl, by omega, q1, ⟨by simpa [valB] using H1.out⟩, H2, H3⟩
  case round =>
    obtain ⟨i, rfl, hi, q2, HR2, HA2, HF2⟩ := hrel
    by_cases hlt : i < xs.length
    · obtain ⟨p, off, rfl, hp, hcell⟩ := (HS.out.frame HF2.out HQ.out) (by simp [u8s]; omega)
      have hxj := HX.out (xs[i]'hlt) (List.getElem_mem _)
      obtain ⟨x, hx⟩ : ∃ x : Nat, xs[i]'hlt = (x : Int) := Int.eq_ofNat_of_zero_le hxj.1
      have hcj := (hcell i (by simp [u8s]; omega)).trans (by rw [u8s_get, List.getElem?_eq_getElem (by omega), hx])
      have hx255 : (x : Int) ≤ 255 := by omega
      have Hx := Hd.mk hx
      clear hcell hx hxj
      go_wp2_with (fail)
      refine (wput_ok (m := M + 8 * i) (x : Int) 8 x wr rfl (mayN_ok (by decide) (by decide) (by show x < 2 ^ 8; omega)) (by show M + 8 * i + 8 ≤ _; omega) HR2.out).mono ?_
      rintro e w2 ⟨rfl, q3, h1, h2, h3⟩
      have K1 := Hd.mk h1
      have K2 := Hd.mk h2
      have K3 := Hd.mk h3
      clear h1 h2 h3
      go_wp2
      go_roundg (gk - 1)
      case measure => omega
      case rel =>
        refine ⟨i + 1, by go_num, by omega, q3, ⟨?_⟩, ⟨HA2.out.trans K2.out HF2.out.size⟩, ⟨HF2.out.trans K3.out (fun y hy hyG => ?_)⟩⟩
        · have := K1.out
          rw [valB_take xs i hlt, Hx.out, Int.toNat_natCast, Nat.add_mul, Nat.mul_assoc x, ← Nat.pow_add, Nat.add_comm (8 * i) M, ← Nat.add_assoc]
          exact this
        · rcases List.mem_cons.1 hyG with rfl | e
          · simp
          · rcases HA2.out.mem e with h | h
            · exact List.mem_cons_of_mem _ h
            · omega
    · obtain rfl : i = xs.length := by omega
      go_wp2
      go_end0
      have := HR2.out
      rw [List.take_length] at this
      exact ⟨rfl, q2, this, HA2.out, HF2.out⟩
end
end Go.Proofs.YtkdgfioigkijgaaGreat.Bits
/- The document's writer that takes up parts (like XParts for the program's). Conditions: fewer than 2^46 bits. -/
set_option linter.unusedVariables false
set_option linter.unusedSimpArgs false
set_option maxRecDepth 100000
namespace Go.Proofs.YtkdgfioigkijgaaGreat.Blk
open Go.RowKit Go.Proofs.YtkdgfioigkijgaaGreat.Lib Go.Proofs.YtkdgfioigkijgaaGreat.Ints Go.Proofs.YtkdgfioigkijgaaGreat.Num Go.Proofs.YtkdgfioigkijgaaGreat.Bits Go.Proofs.YtkdgfioigkijgaaGreat.Code
/-- what a Put leaves: v of n bits behind -/
def PutR (w w' : World) (gw N m : Nat) (q : Option Nat) (p : Nat × Nat) : Prop := ∃ q', RW w' gw (N + p.1 * 2 ^ m) (m + p.2) q' ∧ Aft w q q' ∧ Fr w w' (gw :: q.toList)
/-- the document's writer that has taken P behind N, m -/
structure Rw (w0 w : World) (gw : Nat) (q0 q : Option Nat) (N m : Nat) (P : List (Nat × Nat)) : Prop where
  rw_ : RW w gw (N + numOf P * 2 ^ m) (m + totOf P) q
  aft : Aft w0 q0 q
  fr : Fr w0 w (gw :: q0.toList)
section
variable {w0 w w' : World} {gw N m : Nat} {q0 q : Option Nat} {P Q : List (Nat × Nat)}
theorem Rw.start (h : RW w gw N m q) : Rw w w gw q q N m [] := ⟨by simpa [numOf, totOf] using h, Aft.refl _ _, Fr.refl _ _⟩
theorem Rw.call (h : Rw w0 w gw q0 q N m P) (hf : Fr w w' []) : Rw w0 w' gw q0 q N m P := ⟨h.rw_.frame hf (by simp) (by simp), h.aft, h.fr.trans hf (by simp)⟩
theorem Rw.mem (h : Rw w0 w gw q0 q N m P) {x : Nat} (hx : x < w0.heap.size) (hm : x ∈ gw :: q.toList) : x ∈ gw :: q0.toList := by
  rcases List.mem_cons.1 hm with e | hm
  · subst e; simp
  · rcases h.aft.mem hm with h1 | h1
    · exact List.mem_cons_of_mem _ h1
    · omega
theorem Rw.put (h : Rw w0 w gw q0 q N m P) {p : Nat × Nat} (hp : PutR w w' gw (N + numOf P * 2 ^ m) (m + totOf P) q p) : ∃ q', Rw w0 w' gw q0 q' N m (P ++ [p]) := by
  obtain ⟨v, n⟩ := p
  obtain ⟨q', h1, h2, h3⟩ := hp
  refine ⟨q', ?_, h.aft.trans h2 h.fr.size, h.fr.trans h3 (fun x hx hm => h.mem hx hm)⟩
  rw [numOf_snoc, totOf_snoc]
  have e : N + (numOf P + v * 2 ^ totOf P) * 2 ^ m = N + numOf P * 2 ^ m + v * 2 ^ (m + totOf P) := by
    rw [Nat.add_mul, Nat.mul_assoc, ← Nat.pow_add, Nat.add_comm (totOf P) m, Nat.add_assoc]
  rw [e, ← Nat.add_assoc m]
  exact h1
theorem Rw.more (h : Rw w0 w gw q0 q N m P) {q' : Option Nat} (hp : Rw w w' gw q q' (N + numOf P * 2 ^ m) (m + totOf P) Q) : Rw w0 w' gw q0 q' N m (P ++ Q) := by
  refine ⟨?_, h.aft.trans hp.aft h.fr.size, h.fr.trans hp.fr (fun x hx hm => h.mem hx hm)⟩
  have := hp.rw_
  rw [Nat.add_assoc m, ← totOf_app] at this
  have e : N + numOf (P ++ Q) * 2 ^ m = N + numOf P * 2 ^ m + numOf Q * 2 ^ (m + totOf P) := by
    rw [numOf_app, Nat.add_mul, Nat.mul_assoc, ← Nat.pow_add, Nat.add_comm (totOf P) m, Nat.add_assoc]
  rw [e]
  exact this
theorem rwput (a n : Int) (v : Nat) (ha : a = (v : Nat)) (hv : v < 2 ^ n.toNat) (h0 : 0 ≤ n) (h1 : n ≤ 56) (hT : RW w gw N m q) (hm : m + n.toNat ≤ 70368744177664) :
    Calls Tryz.prog 12 #[.pointer (some ⟨gw, 0, none⟩), .int .u64 a, .int .i64 n] w fun e w' => e = .returned (.int .i64 0) ∧ PutR w w' gw N m q (v, n.toNat) := by
  refine (wput_ok a n v w ha (mayN_ok h0 h1 hv) hm hT).mono ?_
  rintro e w2 ⟨rfl, q', h1, h2, h3⟩
  exact ⟨rfl, q', h1, h2, h3⟩
end
theorem Rw.after {w0 w1 w2 : World} {gw N m : Nat} {q q' : Option Nat} {P : List (Nat × Nat)} (hf : Fr w0 w1 []) (h : Rw w1 w2 gw q q' N m P) : Rw w0 w2 gw q q' N m P :=
  ⟨h.rw_, (Aft.refl w0 q).trans h.aft hf.size, (hf.mono (G := gw :: q.toList) (fun k _ hm => by cases hm)).trans h.fr (fun x _ hm => hm)⟩
theorem PutR.after {w w2 w' : World} {gw N m : Nat} {q : Option Nat} {p : Nat × Nat} (hf : Fr w w2 []) (h : PutR w2 w' gw N m q p) : PutR w w' gw N m q p := by
  obtain ⟨q', h1, h2, h3⟩ := h
  exact ⟨q', h1, (Aft.refl w q).trans h2 hf.size, (hf.mono (G := gw :: q.toList) (fun k _ hm => by cases hm)).trans h3 (fun x _ hm => hm)⟩
theorem PutR.ofDrew {w w' : World} {gw N m : Nat} {q : Option Nat} {p : Nat × Nat} (h : PutR w.drew w' gw N m q p) : PutR w w' gw N m q p := by
  obtain ⟨q', a, b, c⟩ := h
  exact ⟨q', a, b, c.ofDrew⟩
theorem bools_app {N m : Nat} (hN : N < 2 ^ m) (V n : Nat) : Bits.bools N m ++ Bits.bools (V % 2 ^ n) n = Bits.bools (N + V % 2 ^ n * 2 ^ m) (m + n) := by
  induction n with
  | zero => simp [Bits.bools, Nat.mod_one]
  | succ n ih =>
    have e : Bits.bools (V % 2 ^ (n + 1)) (n + 1) = Bits.bools (V % 2 ^ n) n ++ [.bool (V.testBit n)] := by
      rw [Bits.bools_snoc (Nat.mod_lt _ (Nat.pow_pos (by omega))), ← Bits.low_bit]
    have hlt : N + V % 2 ^ n * 2 ^ m < 2 ^ (m + n) := by
      have h1 : V % 2 ^ n < 2 ^ n := Nat.mod_lt _ (Nat.pow_pos (by omega))
      have h2 : (V % 2 ^ n + 1) * 2 ^ m ≤ 2 ^ n * 2 ^ m := Nat.mul_le_mul_right _ h1
      rw [Nat.add_mul, Nat.one_mul, ← Nat.pow_add, Nat.add_comm n m] at h2
      omega
    rw [e, ← List.append_assoc, ih, Bits.bools_snoc hlt, Bits.low_bit, Nat.add_mul, Nat.mul_assoc, ← Nat.pow_add, Nat.add_comm m n, Nat.add_assoc, Nat.add_assoc, show n + (m + 1) = m + (n + 1) from by omega]
theorem rw_app {w w9 : World} {gw N m V k c d : Nat} {Ax A3 : Option Addr} (hb : w.heap[gw]? = some (.cells #[.slice Ax m c] 30 (0, 0))) (ho : w.ownsRow 0 4 1 (.slice Ax m c) m (bools N m)) (hN : N < 2 ^ m) (hV : V < 2 ^ k) (h9 : w9.ownsRow 0 4 1 (.slice A3 (m + k) d) (m + k) (bools N m ++ bools V k)) (hg : w.grownBy w9 (Value.slice Ax m c).ownBlock) (ha : Aft w (Value.slice Ax m c).ownBlock (Value.slice A3 (m + k) d).ownBlock) : PutR w (w9.setCell ⟨gw, 0, none⟩ (.slice A3 (m + k) d)) gw N m (Value.slice Ax m c).ownBlock (V, k) := by
  have hb9 := blk_grown hg hb (own_ne ho hb (by decide)).symm
  have hne : (Value.slice A3 (m + k) d).ownBlock ≠ some gw := own_ne h9 hb9 (by decide)
  have hlt : N + V * 2 ^ m < 2 ^ (m + k) := by
    have h2 : (V + 1) * 2 ^ m ≤ 2 ^ k * 2 ^ m := Nat.mul_le_mul_right _ hV
    rw [Nat.add_mul, Nat.one_mul, ← Nat.pow_add, Nat.add_comm k m] at h2
    omega
  have hrow : bools N m ++ bools V k = bools (N + V * 2 ^ m) (m + k) := by
    have h1 := bools_app hN V k
    rw [Nat.mod_eq_of_lt hV] at h1
    exact h1
  rw [hrow] at h9
  refine ⟨_, ⟨A3, d, by simpa using blk_set hb9 0 (.slice A3 (m + k) d), own_setFar h9 _ hne, rfl, hlt⟩, ha, ?_⟩
  exact ((Fr.refl w _).grown hg (fun y hy => .inl (by simp [hy]))).setCell _ (.inl (by simp))
theorem rw_not {w : World} {gw N m : Nat} {q : Option Nat} (h : RW w gw N m q) {g : Nat} {cs : Array Value} {t : TypeId} {fr : Nat × Nat} (hb : w.heap[g]? = some (.cells cs t fr)) (h1 : t ≠ 30) (h2 : t ≠ 4) : g ∉ gw :: q.toList := by
  obtain ⟨A, c, hd, ho, rfl, _⟩ := h
  intro hm
  rcases List.mem_cons.1 hm with e | hm
  · exact blk_ne hb hd h1 e
  · obtain ⟨es, he⟩ := own_type ho (k := g) (by simpa using hm)
    exact blk_ne hb he h2 rfl
theorem rw_keep {w w' : World} {gw N m : Nat} {q : Option Nat} (h : RW w gw N m q) {g : Nat} {cs : Array Value} {t : TypeId} {fr : Nat × Nat} (hb : w.heap[g]? = some (.cells cs t fr)) (h1 : t ≠ 30) (h2 : t ≠ 4) (hf : Fr w w' (gw :: q.toList)) : w'.heap[g]? = some (.cells cs t fr) := hf.blk hb (rw_not h hb h1 h2)
theorem rown_keep {w w' : World} {gw N m : Nat} {q : Option Nat} {base : Nat} {e : TypeId} {size n : Nat} {v : Value} {xs : List Value} (hT : RW w gw N m q) (hf : Fr w w' (gw :: q.toList)) (h : w.ownsRow base e size v n xs) (h1 : e ≠ 30) (h2 : e ≠ 4) : w'.ownsRow base e size v n xs :=
  own_frame h hf (fun k hk => by
    obtain ⟨cs, hcs⟩ := own_type h hk
    exact rw_not hT hcs h1 h2)
end Go.Proofs.YtkdgfioigkijgaaGreat.Blk
/- The document's row and Bits, walked. Conditions: none but the slice's. -/
set_option linter.unusedVariables false
set_option linter.unusedSimpArgs false
set_option maxRecDepth 100000
namespace Go.Proofs.YtkdgfioigkijgaaGreat.Code
open Go.RowKit Go.IntWalk Go.Proofs.YtkdgfioigkijgaaGreat.Lib Go.Proofs.YtkdgfioigkijgaaGreat.Ints Go.Proofs.YtkdgfioigkijgaaGreat.Num

theorem and_one {a : Nat} (ha : a < 2 ^ 62) : Go.bits .and .i64 (a : Int) 1 = ((a % 2 : Nat) : Int) := by
  have h := (bits_nat .i64 62 (by decide) (fun n h0 h1 => IntWalk.i64_in n ⟨by omega, by omega⟩) a 1 ha (by decide)).1
  rw [show ((1 : Nat) : Int) = 1 from rfl] at h
  rw [h, Nat.and_one_is_mod]
theorem hand_biti {v i : Nat} (hv : v < 2 ^ 62) : (Go.bits .and .i64 ((v : Int) / 2 ^ i) 1 == 1) = v.testBit i := by
  have hle : v / 2 ^ i ≤ v := Nat.div_le_self _ _
  rw [div_cast, and_one (by omega), Nat.testBit_eq_decide_div_mod_eq, Bool.eq_iff_iff]
  simp only [beq_iff_eq, decide_eq_true_eq]
  omega
set_option maxHeartbeats 8000000 in
theorem row_any (w : World) (c n : Nat) (hc : c < 32768) (hn : n ≤ 15) :
    Calls Tryz.prog 142 #[.int .i64 (c : Nat), .int .i64 (n : Nat)] w fun e w' => ∃ A d, e = .returned (.slice A n d) ∧ w'.ownsRow 0 4 1 (.slice A n d) n (Bits.bools (rv c n) n) ∧ (∀ y, (Value.slice A n d).ownBlock = some y → w.heap.size ≤ y) ∧ Fr w w' [] := by
  obtain ⟨i0, hi0, hz0, hz1, hz2⟩ := info_parts Bits.infoBool
  go_enter Tryz.func142, Tryz.ntmps142
  go_wp2
  go_loopg [5, 6] n (fun kq lv iv wr => ∃ (j : Nat) (A : Option Addr) (d : Nat), lv = .slice A j d ∧ iv = .int .i64 ((kq : Int) - 1) ∧ j + kq = n ∧ Hd (wr.ownsRow 0 4 1 (.slice A j d) j (Bits.bools (rv c n % 2 ^ j) j)) ∧ Hd (∀ y, (Value.slice A j d).ownBlock = some y → w.heap.size ≤ y) ∧ Hd (Fr w wr []))
  case atStart => exact ⟨0, none, 0, rfl, by go_num, by omega, ⟨by simpa [Bits.bools] using own_nil w 0 4 1⟩, ⟨by intro y hy; cases hy⟩, ⟨Fr.refl _ _⟩⟩
  case round =>
    obtain ⟨j, A, d, rfl, rfl, hj, HO, HB, HF⟩ := hrel
    by_cases hlt : j < n
    · obtain ⟨f, rfl⟩ : ∃ f, gk = f + 1 := ⟨gk - 1, by omega⟩
      have hf : ((f + 1 : Nat) : Int) - 1 = (f : Int) := by omega
      rw [hf]
      clear hf
      obtain ⟨bt, hbt⟩ : ∃ bt, bt = c.testBit f := ⟨_, rfl⟩
      have hand : (Go.bits .and .i64 ((c : Int) / 2 ^ f) 1 == 1) = bt := by rw [hbt]; exact hand_biti (by omega)
      have Hbt : Hd (bt = (rv c n).testBit j) := ⟨by rw [hbt, rv_bit, decide_eq_true hlt, Bool.true_and, show n - 1 - j = f from by omega]⟩
      clear hbt
      go_wp2_with (at_builtin; refine wpList_append_sl rfl (.tmp 13) (.tmp 19) 28 rfl 4 i0 (.bool false) 1 1 Tryz.underlying28 hi0 hz0 hz1 hz2 rfl (by decide) (.slice A j d) j _ rfl (by exact HO.out.alloc _) (some ⟨wr.heap.size, 0, none⟩) 1 1 [.bool bt] (some wr.heap.size) rfl rfl (by exact sl_of_blk (blk_new _ _)) (by intro h; cases h) (by intro u hu; simp at hu; subst hu; rfl) (by unfold maxLen; omega) (by omega) ?_; intro A3 d3 w6 hown' hgrow haft; have O3 := Hd.mk hown'; have G3 := Hd.mk hgrow; have F3 := Hd.mk haft; clear hown' hgrow haft)
      go_roundg f
      case measure => omega
      case rel =>
        refine ⟨j + 1, A3, d3, rfl, by go_num, by omega, ⟨?_⟩, ⟨fun y hy => ?_⟩, ⟨(HF.out.alloc _).grown G3.out (fun y hy => .inr (HB.out y hy))⟩⟩
        · have h := O3.out
          rw [Bits.bools_snoc (Nat.mod_lt _ (Nat.pow_pos (by omega))), Hbt.out, ← Bits.low_bit] at h
          exact h
        · rcases F3.out with e | ⟨z, e, hz⟩
          · rw [e] at hy; exact HB.out y hy
          · rw [e] at hy; cases hy
            have := HF.out.size
            rw [World.size_alloc] at hz
            omega
    · obtain rfl : j = n := by omega
      obtain rfl : gk = 0 := by omega
      have e0 : (((0 : Nat) : Int) - 1) = -1 := by omega
      rw [e0]
      clear e0
      go_wp2
      go_ret
      have h := HO.out
      rw [Nat.mod_eq_of_lt (rv_lt c j)] at h
      exact ⟨A, d, rfl, h, HB.out, HF.out⟩
set_option maxHeartbeats 8000000 in
theorem bits_ref (w : World) (A : Option Addr) (n c : Nat) (lens : List Int) (q : Option Nat) (hS : SlArg w A n c (i64s lens) q) (hc : check lens = 0) (s : Int) (m cd : Nat) (hm : m = bitsOf lens s) (hcd : cd = codeOf lens s) :
    Calls Tryz.prog 87 #[.slice A n c, .int .i64 s] w fun e w' => ∃ A' d, e = .returned (.slice A' m d) ∧ w'.ownsRow 0 4 1 (.slice A' m d) m (Bits.bools (rv cd m) m) ∧ (∀ y, (Value.slice A' m d).ownBlock = some y → w.heap.size ≤ y) ∧ Fr w w' [] := by
  have HS := Hd.mk hS
  have HC := Hd.mk hc
  have HM := Hd.mk hm
  have HCD := Hd.mk hcd
  have hl : lens.length = n := by have := hS.len; simpa [i64s] using this
  have hln : (codes lens).length = n := by rw [codes_len hc, hl]
  clear hS hc hm hcd
  go_enter Tryz.func87, Tryz.ntmps87
  go_wp2_with (fail)
  refine (rcodes_any w A n c lens q HS.out 0 (codes lens) HC.out.symm rfl).mono ?_
  rintro e w1 ⟨A1, d1, rfl, h1, h2, h3⟩
  rw [hln] at h1 ⊢
  have O1 := Hd.mk h1
  have F1 := Hd.mk h3
  clear h1 h2 h3
  by_cases h0 : s < 0
  · obtain rfl : m = 0 := by rw [HM.out]; unfold bitsOf; rw [if_neg (by omega)]
    go_wp2
    go_ret
    exact ⟨none, 0, rfl, by simpa [Bits.bools] using own_nil w1 0 4 1, (by intro y hy; cases hy), F1.out⟩
  · by_cases h1 : s ≥ (n : Nat)
    · obtain rfl : m = 0 := by rw [HM.out]; unfold bitsOf; rw [if_neg (by omega)]
      go_wp2
      go_ret
      exact ⟨none, 0, rfl, by simpa [Bits.bools] using own_nil w1 0 4 1, (by intro y hy; cases hy), F1.out⟩
    · obtain ⟨i, rfl⟩ := Int.eq_ofNat_of_zero_le (show 0 ≤ s by omega)
      have hi : i < lens.length := by omega
      have hall := (bad_false (check_zero HC.out).1).2 lens[i] (List.getElem_mem hi)
      have hm2 : lens[i] = (m : Int) := by
        rw [HM.out]
        unfold bitsOf
        rw [if_pos (by omega), List.getD_eq_getElem?_getD, Int.toNat_natCast, List.getElem?_eq_getElem hi]
        simp only [Option.getD_some]
        omega
      have hcd2 : (codes lens)[i]? = some cd := by
        rw [HCD.out]
        unfold codeOf
        rw [Int.toNat_natCast, List.getD_eq_getElem?_getD, List.getElem?_eq_getElem (by omega)]
        rfl
      have hm15 : m ≤ 15 := by omega
      have hcdb : cd < 32768 := by
        by_cases hm0 : 0 < m
        · obtain ⟨c2, a1, a2, a3, a4⟩ := code_fits HC.out hi hm2 hm0
          rw [hcd2] at a1
          cases a1
          exact Nat.lt_of_lt_of_le a3 (Nat.pow_le_pow_right (by omega) hm15)
        · have h2 := codesF_zero lens (firstF (cz lens)) i hi (by rw [hm2]; omega)
          unfold codes at hcd2
          rw [if_pos HC.out, h2] at hcd2
          cases hcd2
          omega
      obtain ⟨bd, off, rfl, hq, hcc⟩ := (HS.out.sl.frame F1.out (by simp)) (by rw [i64s_length]; omega)
      have kd := (hcc i (by rw [i64s_length]; omega)).trans (i64s_get lens i)
      rw [List.getElem?_eq_getElem hi, hm2] at kd
      simp only [Option.map_some] at kd
      obtain ⟨gl, dl, e1, hdl⟩ := own_some O1.out (by omega)
      injection e1 with e1 _ e2
      subst e1 e2
      have kc := (O1.out.cellAt i (by omega)).trans (show (nv (codes lens))[i]? = some (.int .i64 (cd : Nat)) from by
        unfold nv
        rw [i64s_get, List.getElem?_map, hcd2]
        rfl)
      have hiI : (i : Int) < (n : Nat) := by omega
      clear hall hm2 hcd2 hcc hi hq
      go_upto_region 4 with (fail)
      go_region_with (first
        | (go_at_call 142; refine (row_any _ cd m hcdb hm15).mono ?_; rintro e w2 ⟨A2, d2, rfl, h1, h2, h3⟩; have O2 := Hd.mk h1; have B2 := Hd.mk h2; have F2 := Hd.mk h3; clear h1 h2 h3))
      all_goals
        go_wp2
        go_ret
        exact ⟨A2, d2, rfl, O2.out, fun y hy => Nat.le_trans F1.out.size (B2.out y hy), F1.out.trans F2.out.ofDrew (by simp)⟩
end Go.Proofs.YtkdgfioigkijgaaGreat.Code
/- copy of elements of several cells, over a row that is known whole; source and target may overlap. Conditions: none of ours. -/
set_option maxRecDepth 100000
set_option linter.unusedVariables false
set_option linter.unusedSimpArgs false
namespace Go.Proofs.YtkdgfioigkijgaaGreat.Lib
open Go.RowKit
section
variable {P : Program}
theorem run_copy_row_n (size : Nat) (w : World) (dT sT ty elem : TypeId) (g o dLen dCap : Nat) (a : Addr) (sLen sCap : Nat) (cur : Array Value) (t : TypeId) (cs : List Value)
    (hu : P.underlying dT = some (.slice elem)) (hs : (P.info? elem).map (·.size) = some size)
    (hg : w.heap[g]? = some (.cells cur t (0, 0))) (hn : cs.length = Nat.min sLen dLen * size)
    (hsrc : ∀ j v, cs[j]? = some v → w.cell? (a.add j) = some v) (hfit : o + cs.length ≤ cur.size) (h1 : ∀ v ∈ cs, v.oneCell' = true) :
    (Builtin.copy_ #[dT, sT] ty #[.slice (some ⟨g, o, none⟩) dLen dCap, .slice (some a) sLen sCap]).run P w =
      .ok (goInt (Nat.min sLen dLen)) (w.setRow g (cur.toList.take o ++ cs ++ cur.toList.drop (o + cs.length)).toArray) := by
  have hl := run_loadCells_list (P := P) w a cs hsrc
  have hst := run_storeCells_at P g o t cs 0 cur w hg (by simpa using hfit) h1
  cases hq : P.info? elem with
  | none => simp [hq] at hs
  | some i =>
    have hi : i.size = size := by simpa [hq] using hs
    simp [Builtin.copy_, run_underlying hu, Builtin.lenOf, Builtin.firstCells, sizeOf, typeInfo, hq, hi, ← hn, hl, hst]
theorem run_copy_none_n (size : Nat) (w : World) (dT sT ty elem : TypeId) (d a : Option Addr) (dLen dCap sLen sCap : Nat) (hu : P.underlying dT = some (.slice elem)) (hs : (P.info? elem).map (·.size) = some size) (hn : Nat.min sLen dLen = 0) :
    (Builtin.copy_ #[dT, sT] ty #[.slice d dLen dCap, .slice a sLen sCap]).run P w = .ok (goInt 0) w := by
  cases hq : P.info? elem with
  | none => simp [hq] at hs
  | some i =>
    have hl : ∀ (x : Addr), (loadCells x 0).run P w = .ok #[] w := fun x => by simpa using run_loadCells_list (P := P) w x [] (by simp)
    cases d <;> cases a <;> simp [Builtin.copy_, run_underlying hu, Builtin.lenOf, Builtin.firstCells, sizeOf, typeInfo, hq, hn, storeCells, hl]
theorem setRow_fr {w w' : World} {F : List Nat} (h : Fr w w' F) {g : Nat} (cs : Array Value) (hg : g ∈ F ∨ w.heap.size ≤ g) : Fr w (w'.setRow g cs) F :=
  ⟨h.os, h.tape, h.output, by have := h.size; simp [World.setRow]; omega, fun k hk hF => (setRow_other w' g k cs (by rintro rfl; rcases hg with hg | hg; exact hF hg; omega)).trans (h.block k hk hF)⟩
/-- as one step of a region that draws -/
theorem step_copy_n {ops : Array Oper} {o : Oper} {a : Act} {w : World} {K : Act → World → Prop} {Q : Exit → Act → World → Prop} {E : Prop} (hgd : o.guard = none) (d s : Operand) (dT sT : TypeId)
    (ho : o.op = .call { callee := .builtin .copy, args := #[d, s], argTypes := #[dT, sT] }) (elem : TypeId) (hu : P.underlying dT = some (.slice elem)) (size : Nat) (hsz : (P.info? elem).map (·.size) = some size)
    (dp sp : Option Addr) (dLen dCap sLen sCap : Nat) (hd : a.eval d = .slice dp dLen dCap) (hs : a.eval s = .slice sp sLen sCap)
    (g off : Nat) (cur : Array Value) (t : TypeId) (hg : w.heap[g]? = some (.cells cur t (0, 0))) (cs : List Value) (hn : cs.length = Nat.min sLen dLen * size) (hsize : 0 < size)
    (hpos : 0 < cs.length → dp = some ⟨g, off, none⟩ ∧ ∃ ad, sp = some ad ∧ ∀ j v, cs[j]? = some v → w.cell? (ad.add j) = some v)
    (hfit : off + cs.length ≤ cur.size) (h1 : ∀ v ∈ cs, v.oneCell' = true)
    (h : ∀ w', Hd (w'.heap[g]? = some (.cells (cur.toList.take off ++ cs ++ cur.toList.drop (off + cs.length)).toArray t (0, 0))) → Fr w w' [g] → K (a.put o.dst (goInt (Nat.min sLen dLen))) w') :
    if Region.wanted o (yielded ops a.tmps) = true then Oper.wp P o a w K Q else E := by
  have hw : Region.wanted o (yielded ops a.tmps) = true := by simp [Region.wanted, hgd]
  rw [if_pos hw]
  by_cases h0 : cs.length = 0
  · obtain rfl : cs = [] := List.eq_nil_of_length_eq_zero h0
    have hm : Nat.min sLen dLen = 0 := by
      rcases Nat.eq_zero_or_pos (Nat.min sLen dLen) with h | h
      · exact h
      · have := Nat.mul_pos h hsize; omega
    have hrun := run_copy_none_n (P := P) size w dT sT o.type elem dp sp dLen dCap sLen sCap hu hsz hm
    unfold Oper.wp
    rw [hm] at h
    simp [execOp, ho, resolve, invoke, builtin, hd, hs, hrun, Result.andThen]
    exact h w ⟨by simpa using hg⟩ (Fr.refl _ _)
  · obtain ⟨rfl, ad, rfl, hsrc⟩ := hpos (by omega)
    have hrun := run_copy_row_n (P := P) size w dT sT o.type elem g off dLen dCap ad sLen sCap cur t cs hu hsz hg hn hsrc hfit h1
    unfold Oper.wp
    simp only [execOp, ho, resolve, invoke, builtin, hd, hs, hrun, Result.andThen, Sem.run_bind, Sem.run_pure, Result.andThen_ok, List.map_toArray, List.map_cons, List.map_nil]
    exact h _ ⟨setRow_heap w g _ _ t _ hg⟩ (setRow_fr (Fr.refl _ _) _ (.inl (by simp)))
end
end Go.Proofs.YtkdgfioigkijgaaGreat.Lib
