/- Texts of this claim, one behind the other: Bytes, BitsLay, BitsW. -/
import Derived.Test.YtlfckpmdmkccjaaGreatG07
import Derived.Test.YtlfckpmdmkccjaaGreatG05
import Derived.Test.YtlfckpmdmkccjaaGreatProg
import Derived.BigRegion
import Derived.BigQuiet
import Derived.Deep.QuietTactic
import Derived.Deep.LoopGhost
import Derived.Deep.DeepCutAuto
import Derived.KernelRfl
import Derived.WalkSpells
import Derived.Deep.RegionWith
/- Plain facts on a number's bytes, the lowest first. No condition. -/
set_option maxRecDepth 100000
set_option linter.unusedVariables false
set_option linter.unusedSimpArgs false
namespace Go.Proofs.YtlfckpmdmkccjaaGreat.Num
open Go.RowKit

/-- the bytes of a number of n bits -/
def bytesOf (N n : Nat) : List Int := (List.range ((n + 7) / 8)).map fun j => ((N / 2 ^ (8 * j) % 256 : Nat) : Int)
theorem bytesOf_length (N n : Nat) : (bytesOf N n).length = (n + 7) / 8 := by simp [bytesOf]
theorem bytesOf_get {N n j : Nat} (h : j < (n + 7) / 8) : (bytesOf N n)[j]? = some ((N / 2 ^ (8 * j) % 256 : Nat) : Int) := by
  simp [bytesOf, h]
theorem bytesOf_range {N n : Nat} : ∀ x ∈ bytesOf N n, 0 ≤ x ∧ x ≤ 255 := by
  intro x hx
  simp only [bytesOf, List.mem_map, List.mem_range] at hx
  obtain ⟨j, _, rfl⟩ := hx
  omega
/-- the bytes, and one more where the last is full -/
def pre (N m : Nat) : List Int := bytesOf N m ++ if m % 8 = 0 then [0] else []
theorem pre_length (N m : Nat) : (pre N m).length = m / 8 + 1 := by
  unfold pre
  split <;> simp [bytesOf_length] <;> omega
theorem top_lt {N m : Nat} (hN : N < 2 ^ m) : N / 2 ^ (8 * (m / 8)) < 2 ^ (m % 8) := by
  rw [Nat.div_lt_iff_lt_mul (Nat.two_pow_pos _), ← Nat.pow_add]
  rwa [show m % 8 + 8 * (m / 8) = m from by omega]
theorem top_lt8 {N m : Nat} (hN : N < 2 ^ m) : N / 2 ^ (8 * (m / 8)) < 256 := by
  have h := top_lt hN
  have : 2 ^ (m % 8) ≤ 2 ^ 8 := Nat.pow_le_pow_right (by decide) (by omega)
  omega
theorem pre_get {N m : Nat} (hN : N < 2 ^ m) : (pre N m)[m / 8]? = some ((N / 2 ^ (8 * (m / 8)) : Nat) : Int) := by
  unfold pre
  by_cases h : m % 8 = 0
  · rw [if_pos h, List.getElem?_append_right (by simp [bytesOf_length]; omega)]
    have := top_lt hN
    rw [h] at this
    simp at this
    rw [show m / 8 - (bytesOf N m).length = 0 from by simp [bytesOf_length]; omega]
    simp only [List.getElem?_cons_zero]
    have h0 : N / 2 ^ (8 * (m / 8)) = 0 := by rw [Nat.div_eq_zero_iff]; right; exact this
    rw [h0]; rfl
  · rw [if_neg h, List.append_nil, bytesOf_get (by omega), Nat.mod_eq_of_lt (top_lt8 hN)]
theorem pre_low {N m j : Nat} (h : j < m / 8) : (pre N m)[j]? = some ((N / 2 ^ (8 * j) % 256 : Nat) : Int) := by
  unfold pre
  rw [List.getElem?_append_left (by rw [bytesOf_length]; omega), bytesOf_get (by omega)]
theorem low_same {N m x j : Nat} (h : j < m / 8) : (N + x * 2 ^ m) / 2 ^ (8 * j) % 256 = N / 2 ^ (8 * j) % 256 := by
  have e : x * 2 ^ m = (x * 2 ^ (m - 8 * j - 8) * 256) * 2 ^ (8 * j) := by
    rw [show (256 : Nat) = 2 ^ 8 from rfl, Nat.mul_assoc, Nat.mul_assoc, ← Nat.pow_add, ← Nat.pow_add]
    congr 2; omega
  rw [e, Nat.add_mul_div_right _ _ (Nat.two_pow_pos _)]
  omega
theorem top_new {N m x : Nat} : (N + x * 2 ^ m) / 2 ^ (8 * (m / 8)) = N / 2 ^ (8 * (m / 8)) + x * 2 ^ (m % 8) := by
  have e : x * 2 ^ m = (x * 2 ^ (m % 8)) * 2 ^ (8 * (m / 8)) := by
    rw [Nat.mul_assoc, ← Nat.pow_add]
    congr 2; omega
  rw [e, Nat.add_mul_div_right _ _ (Nat.two_pow_pos _)]
theorem top_new_lt {N m x k : Nat} (hN : N < 2 ^ m) (hx : x < 2 ^ k) (hk : m % 8 + k ≤ 8) : N / 2 ^ (8 * (m / 8)) + x * 2 ^ (m % 8) < 256 := by
  have h := top_lt hN
  have h2 : (x + 1) * 2 ^ (m % 8) ≤ 2 ^ k * 2 ^ (m % 8) := Nat.mul_le_mul_right _ hx
  rw [← Nat.pow_add] at h2
  have h3 : 2 ^ (k + m % 8) ≤ 2 ^ 8 := Nat.pow_le_pow_right (by decide) (by omega)
  rw [Nat.add_mul] at h2
  omega
theorem pre_set {N m x k : Nat} (hN : N < 2 ^ m) (h1 : 1 ≤ k) (hk : m % 8 + k ≤ 8) (hx : x < 2 ^ k) :
    (pre N m).set (m / 8) ((N / 2 ^ (8 * (m / 8)) + x * 2 ^ (m % 8) : Nat) : Int) = bytesOf (N + x * 2 ^ m) (m + k) := by
  apply List.ext_getElem?
  intro j
  rw [List.getElem?_set]
  by_cases hj : m / 8 = j
  · subst hj
    rw [if_pos rfl, if_pos (by rw [pre_length]; omega), bytesOf_get (by omega), top_new, Nat.mod_eq_of_lt (top_new_lt hN hx hk)]
  · rw [if_neg hj]
    by_cases hlt : j < m / 8
    · rw [pre_low hlt, bytesOf_get (by omega), low_same hlt]
    · rw [List.getElem?_eq_none (by rw [pre_length]; omega), List.getElem?_eq_none (by rw [bytesOf_length]; omega)]
/-- what Go reckons for the byte -/
theorem byte_or {N m x y k : Nat} (hN : N < 2 ^ m) (hx : x = y % 2 ^ k) (hy : y < 2 ^ 64) (hk : m % 8 + k ≤ 8) :
    Go.bits .or .u8 ((N / 2 ^ (8 * (m / 8)) : Nat) : Int) (Go.bits .and .u64 (y : Int) (IntKind.u64.wrap (IntKind.u64.wrap (2 ^ k) - 1)) % 256 * 2 ^ (m % 8) % 256) = ((N / 2 ^ (8 * (m / 8)) + x * 2 ^ (m % 8) : Nat) : Int) := by
  have hp : (2 : Nat) ^ k ≤ 2 ^ 8 := Nat.pow_le_pow_right (by decide) (by omega)
  have hp0 := Nat.two_pow_pos k
  have hx' : x < 2 ^ k := by rw [hx]; exact Nat.mod_lt _ hp0
  have e1 : IntKind.u64.wrap (IntKind.u64.wrap (2 ^ k) - 1) = ((2 ^ k - 1 : Nat) : Int) := by
    rw [← pow_cast, n64id (n := ((2 ^ k : Nat) : Int)) (by omega) (by omega), show ((2 ^ k : Nat) : Int) - 1 = ((2 ^ k - 1 : Nat) : Int) from by omega]
    exact n64id (by omega) (by omega)
  rw [e1, n64mask hy (by omega), ← hx]
  have ht := top_new_lt hN hx' hk
  have ht1 : x * 2 ^ (m % 8) < 256 := Nat.lt_of_le_of_lt (Nat.le_add_left _ _) ht
  have ht2 : N / 2 ^ (8 * (m / 8)) < 256 := top_lt8 hN
  have e2 : ((x : Nat) : Int) % 256 * 2 ^ (m % 8) % 256 = ((x * 2 ^ (m % 8) : Nat) : Int) := by
    rw [← pow_cast]
    have : ((x : Nat) : Int) % 256 = (x : Int) := by omega
    rw [this, ← Int.natCast_mul]; omega
  rw [e2, n8or (a := N / 2 ^ (8 * (m / 8))) (b := x * 2 ^ (m % 8)) (by omega) (by omega), or_add (top_lt hN)]
theorem grow_lt {N m x k : Nat} (hN : N < 2 ^ m) (hx : x < 2 ^ k) : N + x * 2 ^ m < 2 ^ (m + k) := by
  have h2 : (x + 1) * 2 ^ m ≤ 2 ^ k * 2 ^ m := Nat.mul_le_mul_right _ hx
  rw [← Nat.pow_add, Nat.add_mul, Nat.add_comm k m] at h2
  omega
/-- the low bits, some more of them -/
theorem mod_more (v i k : Nat) : v % 2 ^ (i + k) = v % 2 ^ i + v / 2 ^ i % 2 ^ k * 2 ^ i := by
  rw [Nat.pow_add, Nat.mod_mul, Nat.mul_comm (2 ^ i)]

/-- bytes as one number, the lowest first -/
def valB : List Int → Nat
  | [] => 0
  | x :: xs => x.toNat + 256 * valB xs
theorem valB_lt {xs : List Int} (h : ∀ x ∈ xs, 0 ≤ x ∧ x ≤ 255) : valB xs < 2 ^ (8 * xs.length) := by
  induction xs with
  | nil => simp [valB]
  | cons x xs ih =>
    have hx := h x (by simp)
    have := ih fun y hy => h y (by simp [hy])
    rw [valB, List.length_cons, Nat.mul_add, Nat.pow_add, show 2 ^ (8 * 1) = 256 from rfl]
    omega
theorem valB_get {xs : List Int} (h : ∀ x ∈ xs, 0 ≤ x ∧ x ≤ 255) : ∀ t, t < xs.length → xs[t]? = some ((valB xs / 2 ^ (8 * t) % 256 : Nat) : Int) := by
  induction xs with
  | nil => intro t ht; simp at ht
  | cons x xs ih =>
    intro t ht
    have hx := h x (by simp)
    cases t with
    | zero =>
      simp only [List.getElem?_cons_zero, valB, Nat.mul_zero, Nat.pow_zero, Nat.div_one]
      congr 1; omega
    | succ t =>
      rw [List.getElem?_cons_succ, ih (fun y hy => h y (by simp [hy])) t (by simpa using ht)]
      congr 2
      rw [valB, Nat.mul_add, Nat.add_comm (8 * t), Nat.pow_add, show 2 ^ (8 * 1) = 256 from rfl, ← Nat.div_div_eq_div_mul]
      congr 2
      omega
theorem bytes_app {N m : Nat} {xs : List Int} (hN : N < 2 ^ m) (h8 : m % 8 = 0) (h : ∀ x ∈ xs, 0 ≤ x ∧ x ≤ 255) :
    bytesOf N m ++ xs = bytesOf (N + valB xs * 2 ^ m) (m + 8 * xs.length) := by
  apply List.ext_getElem?
  intro j
  by_cases hj : j < m / 8
  · rw [List.getElem?_append_left (by rw [bytesOf_length]; omega), bytesOf_get (by omega), bytesOf_get (by omega), low_same hj]
  · rw [List.getElem?_append_right (by rw [bytesOf_length]; omega), bytesOf_length]
    by_cases hl : j - m / 8 < xs.length
    · rw [bytesOf_get (by omega), show j - (m + 7) / 8 = j - m / 8 from by omega, valB_get h _ hl]
      congr 3
      rw [show 8 * j = m + 8 * (j - m / 8) from by omega, Nat.pow_add, ← Nat.div_div_eq_div_mul, Nat.add_mul_div_right _ _ (Nat.two_pow_pos _), Nat.div_eq_of_lt hN, Nat.zero_add]
    · rw [List.getElem?_eq_none (by omega), List.getElem?_eq_none (by rw [bytesOf_length]; omega)]
theorem valB_snoc (xs : List Int) (x : Int) : valB (xs ++ [x]) = valB xs + x.toNat * 2 ^ (8 * xs.length) := by
  induction xs with
  | nil => simp [valB]
  | cons y ys ih =>
    rw [List.cons_append, valB, valB, ih, List.length_cons, Nat.mul_add 8, Nat.pow_add, show 2 ^ (8 * 1) = 256 from rfl, Nat.mul_add, ← Nat.mul_assoc, Nat.add_assoc]
    congr 2
    rw [Nat.mul_comm 256, Nat.mul_assoc, Nat.mul_comm 256]
theorem valB_take (xs : List Int) (j : Nat) (h : j < xs.length) : valB (xs.take (j + 1)) = valB (xs.take j) + (xs[j]).toNat * 2 ^ (8 * j) := by
  rw [List.take_succ_eq_append_getElem h, valB_snoc, List.length_take, Nat.min_eq_left (by omega)]
/-- what Go reckons for the reader's bits -/
theorem bits_or {V b x : Nat} (hV : V < 2 ^ b) (hx : x ≤ 255) (hb : b + 8 ≤ 64) :
    Go.bits .or .u64 (V : Int) (IntKind.u64.wrap ((x : Int) * 2 ^ b)) = ((V + x * 2 ^ b : Nat) : Int) := by
  have h1 : (x + 1) * 2 ^ b ≤ 2 ^ 8 * 2 ^ b := Nat.mul_le_mul_right _ (by omega)
  rw [← Nat.pow_add] at h1
  have h2 : 2 ^ (8 + b) ≤ 18446744073709551616 := pow_le_64 (by omega)
  have h3 : 2 ^ b ≤ 18446744073709551616 := pow_le_64 (by omega)
  have h0 := Nat.two_pow_pos b
  rw [Nat.add_mul] at h1
  rw [← pow_cast, ← Int.natCast_mul, n64id (by omega) (by omega), n64or (a := V) (b := x * 2 ^ b) (by simp; omega) (by simp; omega), or_add hV]
end Go.Proofs.YtlfckpmdmkccjaaGreat.Num
/- (*bits.tail).lay: the low bits of a number are laid behind those that are there. Conditions: at most 64 bits, the number fits, fewer than 2^50 bits in all. -/
set_option maxRecDepth 100000
set_option linter.unusedVariables false
set_option linter.unusedSimpArgs false
namespace Go.Proofs.YtlfckpmdmkccjaaGreat.Bits
open Go.RowKit Go.Proofs.YtlfckpmdmkccjaaGreat.Lib Go.Proofs.YtlfckpmdmkccjaaGreat.Num

theorem infoU8 : (Tryz.prog.info? 5).map (fun i => (i.zero, i.size, i.bytes)) = some (some (.int .u8 0), 1, 1) := by kernel_rfl

def u8s (xs : List Int) : List Value := xs.map (Value.int .u8)
theorem u8s_length (xs : List Int) : (u8s xs).length = xs.length := by simp [u8s]
theorem u8s_get (xs : List Int) (j : Nat) : (u8s xs)[j]? = (xs[j]?).map (Value.int .u8) := by simp [u8s]

/-- A tail (a writer) in block g holds the m bits of N; q: the block of its bytes. -/
def Tl (w : World) (g : Nat) (T : TypeId) (N m : Nat) (q : Option Nat) : Prop :=
  ∃ sv, w.heap[g]? = some (.cells #[sv, .int .i64 m] T (0, 0)) ∧ w.ownsRow 0 5 1 sv ((m + 7) / 8) (u8s (bytesOf N m)) ∧ sv.ownBlock = q ∧ N < 2 ^ m ∧ T ≠ 5
/-- The same, with a byte ready for more. -/
def Tl1 (w : World) (g : Nat) (T : TypeId) (N m : Nat) (q : Nat) : Prop :=
  ∃ c, w.heap[g]? = some (.cells #[.slice (some ⟨q, 0, none⟩) (m / 8 + 1) c, .int .i64 m] T (0, 0)) ∧ w.ownsRow 0 5 1 (.slice (some ⟨q, 0, none⟩) (m / 8 + 1) c) (m / 8 + 1) (u8s (pre N m)) ∧ N < 2 ^ m ∧ T ≠ 5

theorem Tl.frame {w w' : World} {g : Nat} {T : TypeId} {N m : Nat} {q : Option Nat} (h : Tl w g T N m q) {F : List Nat} (hf : Fr w w' F) (hg : g ∉ F) (hq : ∀ k, q = some k → k ∉ F) : Tl w' g T N m q := by
  obtain ⟨sv, hb, hown, rfl, hN, hT⟩ := h
  exact ⟨sv, hf.blk hb hg, own_frame hown hf hq, rfl, hN, hT⟩
theorem Tl.ne {w : World} {g : Nat} {T : TypeId} {N m : Nat} {q : Option Nat} (h : Tl w g T N m q) : q ≠ some g := by
  obtain ⟨sv, hb, hown, rfl, hN, hT⟩ := h
  exact own_ne hown hb hT
theorem Tl.lt {w : World} {g : Nat} {T : TypeId} {N m : Nat} {q : Option Nat} (h : Tl w g T N m q) : g < w.heap.size ∧ ∀ k, q = some k → k < w.heap.size := by
  obtain ⟨sv, hb, hown, rfl, hN, hT⟩ := h
  exact ⟨blk_lt hb, fun k hk => own_lt hown hk⟩

/-- where a byte is ready already -/
theorem tl1_of {w : World} {g : Nat} {T : TypeId} {N m : Nat} {q : Option Nat} (h : Tl w g T N m q) (h8 : ¬ m % 8 = 0) : ∃ q1, q = some q1 ∧ Tl1 w g T N m q1 := by
  obtain ⟨sv, hb, hown, rfl, hN, hT⟩ := h
  obtain ⟨q1, c, rfl, hc⟩ := own_some hown (by omega)
  have e : (m + 7) / 8 = m / 8 + 1 := by omega
  rw [e] at hb hown
  exact ⟨q1, by simp [Value.ownBlock], c, hb, by unfold pre; rw [if_neg h8, List.append_nil]; exact hown, hN, hT⟩

/-- behind the append of a byte -/
theorem tl1_new {w w1 : World} {g q1 c : Nat} {T : TypeId} {N m : Nat} {sv : Value} (hb : w.heap[g]? = some (.cells #[sv, .int .i64 m] T (0, 0)))
    (hown : w.ownsRow 0 5 1 sv ((m + 7) / 8) (u8s (bytesOf N m))) (hN : N < 2 ^ m) (hT : T ≠ 5) (h8 : m % 8 = 0) (O : Obj)
    (hown' : w1.ownsRow 0 5 1 (.slice (some ⟨q1, 0, none⟩) ((m + 7) / 8 + 1) c) ((m + 7) / 8 + 1) (u8s (bytesOf N m) ++ [.int .u8 0])) (hg : (w.alloc O).grownBy w1 sv.ownBlock) (hv' : sv.ownBlock = some q1 ∨ q1 = w.heap.size + 1) :
    Tl1 (w1.setCell ⟨g, 0, none⟩ (.slice (some ⟨q1, 0, none⟩) ((m + 7) / 8 + 1) c)) g T N m q1 ∧ Aft w sv.ownBlock (some q1) ∧ Fr w (w1.setCell ⟨g, 0, none⟩ (.slice (some ⟨q1, 0, none⟩) ((m + 7) / 8 + 1) c)) (g :: sv.ownBlock.toList) := by
  have e : (m + 7) / 8 + 1 = m / 8 + 1 := by omega
  rw [e] at hown' ⊢
  have hb1 := blk_grown hg (blk_alloc hb O) (own_ne hown hb hT).symm
  have hne := own_ne hown' hb1 hT
  refine ⟨⟨c, by simpa using blk_set hb1 0 _, own_setFar (by unfold pre; rw [if_pos h8]; simpa [u8s] using hown') _ hne, hN, hT⟩, ?_, ?_⟩
  · rcases hv' with h | h
    · exact .inl h.symm
    · exact .inr ⟨q1, rfl, by omega⟩
  · refine Fr.setCell ?_ _ (.inl (by simp))
    exact ((Fr.refl w _).alloc O).grown hg (fun k hk => .inl (by simp [hk]))

/-- behind the byte's store and the count's -/
theorem tl_stored {w : World} {g : Nat} {T : TypeId} {N m q x k : Nat} (h : Tl1 w g T N m q) (h1 : 1 ≤ k) (hk : m % 8 + k ≤ 8) (hx : x < 2 ^ k) :
    Tl ((w.setCell ⟨q, m / 8, none⟩ (.int .u8 ((N / 2 ^ (8 * (m / 8)) + x * 2 ^ (m % 8) : Nat) : Int))).setCell ⟨g, 1, none⟩ (.int .i64 ((m + k : Nat) : Int))) g T (N + x * 2 ^ m) (m + k) (some q) ∧
    Fr w ((w.setCell ⟨q, m / 8, none⟩ (.int .u8 ((N / 2 ^ (8 * (m / 8)) + x * 2 ^ (m % 8) : Nat) : Int))).setCell ⟨g, 1, none⟩ (.int .i64 ((m + k : Nat) : Int))) [g, q] := by
  obtain ⟨c, hb, hown, hN, hT⟩ := h
  have hne := own_ne hown hb hT
  have hne' : g ≠ q := fun e => hne (by subst e; rfl)
  have h2 := (hown.stored (m / 8) (.int .u8 ((N / 2 ^ (8 * (m / 8)) + x * 2 ^ (m % 8) : Nat) : Int))).1
  have e : (u8s (pre N m)).set (m / 8) (.int .u8 ((N / 2 ^ (8 * (m / 8)) + x * 2 ^ (m % 8) : Nat) : Int)) = u8s (bytesOf (N + x * 2 ^ m) (m + k)) := by
    unfold u8s; rw [← List.map_set, pre_set hN h1 hk hx]
  rw [e] at h2
  have e2 : m / 8 + 1 = (m + k + 7) / 8 := by omega
  refine ⟨⟨_, by simpa using blk_set (blk_far hb hne' _) 1 _, ?_, rfl, grow_lt hN hx, hT⟩, ?_⟩
  · rw [← e2]
    exact own_setFar h2 _ hne
  · exact ((Fr.refl w _).setCell _ (.inl (by simp))).setCell _ (.inl (by simp))

set_option maxHeartbeats 1000000 in
theorem lay_any (g : Nat) (T : TypeId) (N m : Nat) (q : Option Nat) (v n : Nat) (w : World) (hv : v < 2 ^ n) (hn : n ≤ 64) (hm : m + n ≤ 1125899906842624)
   (hT : Tl w g T N m q) :
    Calls Tryz.prog 35 #[.pointer (some ⟨g, 0, none⟩), .int .u64 v, .int .i64 n] w fun e w' => e = .returned (.tuple #[]) ∧
      ∃ q', Tl w' g T (N + v * 2 ^ m) (m + n) q' ∧ Aft w q q' ∧ Fr w w' (g :: q.toList) := by
  obtain ⟨i0, hi0, hz0, hz1, hz2⟩ := info_parts infoU8
  have hlt0 := hT.lt
  go_enter Tryz.func35, Tryz.ntmps35
  go_wp2
  go_loopg [1, 2] n (fun kq av an wr => ∃ y M N1 : Nat, av = .int .u64 (y : Nat) ∧ an = .int .i64 (kq : Nat) ∧ kq ≤ n ∧ M ≤ 1125899906842624 ∧ M + kq ≤ 1125899906842624 ∧
      Hd (∃ i, i + kq = n ∧ y = v / 2 ^ i ∧ M = m + i ∧ N1 = N + v % 2 ^ i * 2 ^ m) ∧
      ∃ q', Tl wr g T N1 M q' ∧ Aft w q q' ∧ Fr w wr (g :: q.toList))
  case atStart => exact ⟨v, m, N, rfl, rfl, Nat.le_refl _, by omega, by omega, ⟨0, by omega, by simp, rfl, by simp [Nat.mod_one]⟩, q, hT, Aft.refl _ _, Fr.refl _ _⟩
  case round =>
    obtain ⟨y, M, N1, rfl, rfl, hkn, hMb, hMk, HI, q', hTl, hA, hF⟩ := hrel
    have HT := Hd.mk hT
    have HTl := Hd.mk hTl
    have HA := Hd.mk hA
    have HF := Hd.mk hF
    clear hT hA
    by_cases hlt : 0 < gk
    · obtain ⟨sv, hb, hown, hq, hN, hTu⟩ := hTl
      have h0 := blk_cell hb 0
      have h1 := blk_cell hb 1
      have f0 := blk_frozen hb 0
      have f1 := blk_frozen hb 1
      simp only [List.getElem?_toArray, List.getElem?_cons_zero, List.getElem?_cons_succ] at h0 h1
      have Hown := Hd.mk hown
      have Hb := Hd.mk hb
      have Hq := Hd.mk hq
      clear hown hb hq
      go_upto_if 15 with (fail)
      go_cut [] (fun wc => ∃ q1, Tl1 wc g T N1 M q1 ∧ Aft w q (some q1) ∧ Fr w wc (g :: q.toList))
      case first =>
        by_cases h8 : M % 8 = 0
        · go_wp2_with (at_builtin; refine wpList_append_lies _ rfl _ _ 23 rfl 0 5 i0 (.int .u8 0) 1 1 Tryz.underlying23 hi0 hz0 hz1 hz2 rfl (by decide) _ _ _ rfl (Hown.out.alloc _) ⟨wr.heap.size, 0, none⟩ 1 1 [.int .u8 0] rfl rfl ?c1 ?c2 ?c0 ?c3 ?c4 ?c5 (wr.heap.size + 1) ?c6 ?_)
          case c1 => intro j u hj; match j, hj with | 0, hj => simp at hj; subst hj; simp [Addr.add]
          case c2 => intro u hu; simp at hu; subst hu; rfl
          case c0 => omega
          case c3 => unfold maxLen; omega
          case c4 => omega
          case c5 => omega
          case c6 => simp
          intro q1 c w1 hown' hgrow hq1 hlt1
          have hb1 := blk_grown hgrow (blk_alloc Hb.out _) (own_ne Hown.out Hb.out hTu).symm
          have k0 := blk_cell hb1 0
          have k1 := blk_cell hb1 1
          have g0 := blk_frozen hb1 0
          simp only [List.getElem?_toArray, List.getElem?_cons_zero, List.getElem?_cons_succ] at k0 k1
          have R := tl1_new Hb.out Hown.out hN hTu h8 _ hown' hgrow hq1
          rw [Hq.out] at R
          have HR := Hd.mk R
          clear R hown' hgrow hq1 hb1
          go_wp2
          go_meet
          case rel => exact ⟨q1, HR.out.1, HA.out.trans HR.out.2.1 HF.out.size, HF.out.trans HR.out.2.2 (fun x hx hxG => by
            rcases List.mem_cons.1 hxG with rfl | hxG
            · simp
            · rcases HA.out.mem hxG with h | h
              · exact List.mem_cons_of_mem _ h
              · omega)⟩
        · have h8' : ((M : Int) % 8 == 0) = false := by simp; omega
          go_wp2
          go_meet
          case rel =>
            obtain ⟨q1, e, h1⟩ := tl1_of HTl.out h8
            exact ⟨q1, h1, by rw [← e]; exact HA.out, HF.out⟩
      case rest =>
        obtain ⟨q1, hT1, hA1, hF1⟩ := hcut
        have HT1 := Hd.mk hT1
        have HA1 := Hd.mk hA1
        have HF1 := Hd.mk hF1
        obtain ⟨c, hb, hown, hN1, hTu1⟩ := hT1
        have hne := own_ne hown hb hTu1
        have hne' : g ≠ q1 := fun e => hne (by subst e; rfl)
        obtain ⟨old, hol⟩ : ∃ old : Nat, old = N1 / 2 ^ (8 * (M / 8)) := ⟨_, rfl⟩
        have hold : wc.cell? ⟨q1, M / 8, none⟩ = some (.int .u8 (old : Nat)) := (hown.cellAt (M / 8) (by omega)).trans (by rw [u8s_get, pre_get hN1, hol]; rfl)
        have hfro := hown.frozenAt (M / 8)
        have Hol := Hd.mk hol
        clear h0 h1 f0 f1 hol
        have h0 := blk_cell hb 0
        have h1 := blk_cell hb 1
        have f0 := blk_frozen hb 0
        have f1 := blk_frozen hb 1
        simp only [List.getElem?_toArray, List.getElem?_cons_zero, List.getElem?_cons_succ] at h0 h1
        obtain ⟨free, hfree⟩ : ∃ k : Nat, k = min (8 - M % 8) gk := ⟨_, rfl⟩
        have hk1 : M % 8 + free ≤ 8 := by omega
        have hk2 : free ≤ gk := by omega
        have hk3 : 1 ≤ free := by omega
        have hmin : (if (gk : Int) < 8 - (M : Int) % 8 then (gk : Int) else 8 - (M : Int) % 8) = (free : Int) := by split <;> omega
        clear hfree hA1 hF1 hb hown hne hlt0 hF
        go_upto_region 5 with (fail)
        go_region
        go_wp2
        go_roundg (gk - free)
        case measure => omega
        case rel =>
          obtain ⟨i, hi, hy, hM, hNN⟩ := HI.out
          have hv64 : v < 2 ^ 64 := Nat.lt_of_lt_of_le hv (Nat.pow_le_pow_right (by decide) hn)
          have hy64 : y < 2 ^ 64 := by rw [hy]; exact Nat.lt_of_le_of_lt (Nat.div_le_self _ _) hv64
          have hby := byte_or (N := N1) (m := M) (y := y) (k := free) hN1 rfl hy64 hk1
          rw [← Hol.out] at hby
          rw [hby]
          have R := tl_stored HT1.out hk3 hk1 (x := y % 2 ^ free) (Nat.mod_lt _ (Nat.two_pow_pos _))
          rw [← Hol.out, Int.natCast_add M free] at R
          refine ⟨y / 2 ^ free, M + free, _, by simp, by go_num, by omega, by omega, by omega, ⟨i + free, by omega, ?_, by omega, ?_⟩, some q1, R.1, HA1.out, ?_⟩
          · rw [hy, Nat.div_div_eq_div_mul, ← Nat.pow_add]
          · rw [hNN, mod_more, hM, ← hy, Nat.add_mul, Nat.mul_assoc, ← Nat.pow_add, Nat.add_comm i m]; omega
          · refine Fr.drew (HF1.out.trans R.2 (fun x hx hxG => ?_))
            simp only [List.mem_cons, List.not_mem_nil, or_false] at hxG
            rcases hxG with rfl | rfl
            · simp
            · rcases HA1.out.mem (k := x) (by simp) with h | h
              · exact List.mem_cons_of_mem _ h
              · omega
    · go_wp2
      go_end0
      obtain ⟨i, hi, hy, hM, hNN⟩ := HI.out
      obtain rfl : i = n := by omega
      rw [Nat.mod_eq_of_lt hv] at hNN
      rw [← hM, ← hNN]
      exact ⟨rfl, q', HTl.out, HA.out, HF.out⟩
end Go.Proofs.YtlfckpmdmkccjaaGreat.Bits
/- The writer's methods, and Flip: what each leaves behind. Conditions: fewer than 2^50 bits in all. -/
set_option maxRecDepth 100000
set_option linter.unusedVariables false
set_option linter.unusedSimpArgs false
namespace Go.Proofs.YtlfckpmdmkccjaaGreat.Bits
open Go.RowKit Go.Proofs.YtlfckpmdmkccjaaGreat.Lib Go.Proofs.YtlfckpmdmkccjaaGreat.Num

/-! ### Flip -/
theorem flip_step {x j : Nat} (hx : x < 2 ^ 64) (hj : j < 64) :
    ((x / 2 ^ j : Nat) : Int) / 2 = ((x / 2 ^ (j + 1) : Nat) : Int) ∧ Go.bits .or .u64 (IntKind.u64.wrap ((rv x j : Nat) * 2 : Int)) (Go.bits .and .u64 ((x / 2 ^ j : Nat) : Int) 1) = ((rv x (j + 1) : Nat) : Int) := by
  have hr := rv_lt x j
  have hp := pow_lt_64 (n := j) hj
  have hq : x / 2 ^ j < 2 ^ 64 := Nat.lt_of_le_of_lt (Nat.div_le_self _ _) hx
  have e4 : rv x j * 2 < 2 ^ 64 := by
    have h := Nat.pow_le_pow_right (n := 2) (by decide) (show j + 1 ≤ 64 by omega)
    rw [Nat.pow_succ] at h; omega
  have e2 : IntKind.u64.wrap ((rv x j : Nat) * 2 : Int) = ((rv x j * 2 : Nat) : Int) := by
    rw [n64id (by omega) (by omega)]; omega
  refine ⟨by rw [Nat.pow_succ, ← Nat.div_div_eq_div_mul]; omega, ?_⟩
  rw [e2, n64and1 hq, n64or e4 (by omega)]
  rw [Nat.or_comm, show rv x j * 2 = rv x j * 2 ^ 1 from by simp, or_add (show x / 2 ^ j % 2 < 2 ^ 1 by simp; omega), rv]
  simp; omega

theorem flip_any (x : Nat) (a n : Int) (hn0 : 0 ≤ n) (hn : n ≤ 64) (w : World) (hx : x < 2 ^ 64) (ha : a = (x : Nat)) :
    Calls Tryz.prog 156 #[.int .u64 a, .int .i64 n] w fun e w' => e = .returned (.int .u64 (rv x n.toNat : Nat)) ∧ w = w' := by
  subst ha
  obtain ⟨n, rfl⟩ := Int.eq_ofNat_of_zero_le hn0
  have h1 : (if (n : Int) < 0 then (0 : Int) else n) = n := by omega
  have h2 : (if (64 : Int) < (n : Int) then (64 : Int) else n) = n := by split <;> omega
  have Hx := Hd.mk hx
  clear hx
  go_enter Tryz.func156, Tryz.ntmps156
  go_wp2
  go_loopg [0, 5, 9] n (fun kq av ov jv wr => ∃ y r j : Nat, av = .int .u64 (y : Nat) ∧ ov = .int .u64 (r : Nat) ∧ jv = .int .i64 (j : Nat) ∧ j + kq = n ∧ Hd (y = x / 2 ^ j ∧ r = rv x j) ∧ w = wr)
  case atStart => exact ⟨x, 0, 0, rfl, rfl, rfl, by omega, ⟨by simp, rfl⟩, rfl⟩
  case round =>
    obtain ⟨y, r, j, rfl, rfl, rfl, hj, HE, rfl⟩ := hrel
    by_cases hlt : j < n
    · go_wp2
      go_roundg (gk - 1)
      case measure => omega
      case rel =>
        have h := flip_step (x := x) (j := j) Hx.out (by omega)
        obtain ⟨hy, hr⟩ := HE.out
        rw [← hy, ← hr] at h
        refine ⟨x / 2 ^ (j + 1), rv x (j + 1), j + 1, ?_, ?_, by go_num, by omega, ⟨rfl, rfl⟩, rfl⟩
        · rw [h.1]
        · rw [h.2]
    · go_wp2
      go_ret
      obtain ⟨hy, hr⟩ := HE.out
      obtain rfl : j = n := by omega
      exact ⟨by rw [hr]; rfl, rfl⟩

/-! ### may -/
/-- why a number may not be laid down. -/
def mayN (v : Nat) (n : Int) : Int := if n < 0 ∨ 56 < n then 30 else if v / 2 ^ n.toNat = 0 then 0 else 31
theorem mayN_ok {v : Nat} {n : Int} (h0 : 0 ≤ n) (h1 : n ≤ 56) (h : v < 2 ^ n.toNat) : mayN v n = 0 := by
  unfold mayN; rw [if_neg (by omega), if_pos (Nat.div_eq_of_lt h)]
theorem mayN_zero {v : Nat} {n : Int} (h : mayN v n = 0) : 0 ≤ n ∧ n ≤ 56 ∧ v < 2 ^ n.toNat := by
  unfold mayN at h
  split at h
  · cases h
  · split at h
    · rename_i h1 h2
      rw [Nat.div_eq_zero_iff] at h2
      have := Nat.two_pow_pos n.toNat
      exact ⟨by omega, by omega, by omega⟩
    · cases h
theorem may_any (a n : Int) (v : Nat) (w : World) (ha : a = (v : Nat)) :
    Calls Tryz.prog 34 #[.int .u64 a, .int .i64 n] w fun e w' => e = .returned (.int .i64 (mayN v n)) ∧ w = w' := by
  subst ha
  by_cases h1 : n < 0
  · have hm : mayN v n = 30 := by unfold mayN; rw [if_pos (by omega)]
    have Hm := Hd.mk hm
    clear hm
    go_enter Tryz.func34, Tryz.ntmps34
    go_wp2
    go_ret
    exact ⟨by rw [Hm.out]; rfl, rfl⟩
  · by_cases h2 : 56 < n
    · have hm : mayN v n = 30 := by unfold mayN; rw [if_pos (by omega)]
      have Hm := Hd.mk hm
      clear hm
      go_enter Tryz.func34, Tryz.ntmps34
      go_wp2
      go_ret
      exact ⟨by rw [Hm.out]; rfl, rfl⟩
    · obtain ⟨n, rfl⟩ := Int.eq_ofNat_of_zero_le (show 0 ≤ n by omega)
      have hm : mayN v n = if v / 2 ^ n = 0 then 0 else 31 := by unfold mayN; rw [if_neg (by omega)]; rfl
      have Hm := Hd.mk hm
      clear hm
      by_cases h3 : v / 2 ^ n = 0
      · have h3' : ((v : Int) / 2 ^ n != 0) = false := by rw [div_cast, h3]; rfl
        go_enter Tryz.func34, Tryz.ntmps34
        go_wp2
        go_ret
        exact ⟨by rw [Hm.out, if_pos h3]; rfl, rfl⟩
      · have h3' : ((v : Int) / 2 ^ n != 0) = true := by rw [div_cast, bne_iff_ne]; omega
        go_enter Tryz.func34, Tryz.ntmps34
        go_wp2
        go_ret
        exact ⟨by rw [Hm.out, if_neg h3]; rfl, rfl⟩

/-! ### Put, Turned, Align, Len, Bytes, Whole -/
section
variable {g : Nat} {T : TypeId} {N m : Nat} {q : Option Nat}
theorem put_ok (a n : Int) (v : Nat) (w : World) (ha : a = (v : Nat)) (hm0 : mayN v n = 0) (hm : m + n.toNat ≤ 1125899906842624) (hT : Tl w g T N m q) :
    Calls Tryz.prog 8 #[.pointer (some ⟨g, 0, none⟩), .int .u64 a, .int .i64 n] w fun e w' => e = .returned (.int .i64 0) ∧
      ∃ q', Tl w' g T (N + v * 2 ^ m) (m + n.toNat) q' ∧ Aft w q q' ∧ Fr w w' (g :: q.toList) := by
  subst ha
  obtain ⟨h0, h1, h2⟩ := mayN_zero hm0
  obtain ⟨n, rfl⟩ := Int.eq_ofNat_of_zero_le h0
  simp only [Int.toNat_natCast] at h2 hm ⊢
  have Hm0 := Hd.mk hm0
  have HT := Hd.mk hT
  have H2 := Hd.mk h2
  clear hm0 hT h2
  go_enter Tryz.func8, Tryz.ntmps8
  go_wp2_with (first | (go_at_call 34; refine (may_any _ _ v _ rfl).mono ?_; rintro e w' ⟨rfl, rfl⟩; rw [Hm0.out]) | (go_at_call 35; refine (lay_any g T N m q v n _ H2.out (by omega) hm HT.out).mono ?_; rintro e w1 ⟨rfl, h⟩; have H := Hd.mk h; clear h))
  go_ret
  exact ⟨rfl, H.out⟩
theorem put_no (a n : Int) (v : Nat) (w : World) (ha : a = (v : Nat)) (hm0 : mayN v n ≠ 0) :
    Calls Tryz.prog 8 #[.pointer (some ⟨g, 0, none⟩), .int .u64 a, .int .i64 n] w fun e w' => e = .returned (.int .i64 (mayN v n)) ∧ w = w' := by
  subst ha
  obtain ⟨c, hc⟩ : ∃ c, c = mayN v n := ⟨_, rfl⟩
  have hc0 : (c == 0) = false := by rw [hc]; simpa using hm0
  have Hc := Hd.mk hc
  clear hc hm0
  go_enter Tryz.func8, Tryz.ntmps8
  go_wp2_with (first | (go_at_call 34; refine (may_any _ _ v _ rfl).mono ?_; rintro e w' ⟨rfl, rfl⟩; rw [← Hc.out]))
  go_ret
  exact ⟨by rw [← Hc.out]; rfl, rfl⟩
theorem turned_ok (a n : Int) (v : Nat) (w : World) (ha : a = (v : Nat)) (hm0 : mayN v n = 0) (hm : m + n.toNat ≤ 1125899906842624) (hT : Tl w g T N m q) :
    Calls Tryz.prog 145 #[.pointer (some ⟨g, 0, none⟩), .int .u64 a, .int .i64 n] w fun e w' => e = .returned (.int .i64 0) ∧
      ∃ q', Tl w' g T (N + rv v n.toNat * 2 ^ m) (m + n.toNat) q' ∧ Aft w q q' ∧ Fr w w' (g :: q.toList) := by
  subst ha
  obtain ⟨h0, h1, h2⟩ := mayN_zero hm0
  obtain ⟨n, rfl⟩ := Int.eq_ofNat_of_zero_le h0
  simp only [Int.toNat_natCast] at h2 hm ⊢
  have Hm0 := Hd.mk hm0
  have HT := Hd.mk hT
  have H2 := Hd.mk h2
  have H64 : Hd (v < 2 ^ 64) := ⟨Nat.lt_of_lt_of_le h2 (Nat.pow_le_pow_right (by decide) (by omega))⟩
  clear hm0 hT h2
  go_enter Tryz.func145, Tryz.ntmps145
  go_wp2_with (first | (go_at_call 34; refine (may_any _ _ v _ rfl).mono ?_; rintro e w' ⟨rfl, rfl⟩; rw [Hm0.out]))
  go_region_with (first | (go_at_call 156; refine (flip_any v _ _ (by omega) (by omega) _ H64.out rfl).mono ?_; rintro e w' ⟨rfl, rfl⟩; rw [Int.toNat_natCast]) | (go_at_call 35; refine (lay_any g T N m q (rv v n) n _ (rv_lt v n) (by omega) hm (by exact HT.out)).mono ?_; rintro e w1 ⟨rfl, h⟩; have H := Hd.mk h; clear h))
  all_goals
    go_wp2
    go_ret
    obtain ⟨q', h1, h2, h3⟩ := H.out
    exact ⟨rfl, q', h1, h2, h3.ofDrew⟩
theorem turned_no (a n : Int) (v : Nat) (w : World) (ha : a = (v : Nat)) (hm0 : mayN v n ≠ 0) :
    Calls Tryz.prog 145 #[.pointer (some ⟨g, 0, none⟩), .int .u64 a, .int .i64 n] w fun e w' => e = .returned (.int .i64 (mayN v n)) ∧ w = w' := by
  subst ha
  obtain ⟨c, hc⟩ : ∃ c, c = mayN v n := ⟨_, rfl⟩
  have hc0 : (c == 0) = false := by rw [hc]; simpa using hm0
  have Hc := Hd.mk hc
  clear hc hm0
  go_enter Tryz.func145, Tryz.ntmps145
  go_wp2_with (first | (go_at_call 34; refine (may_any _ _ v _ rfl).mono ?_; rintro e w' ⟨rfl, rfl⟩; rw [← Hc.out]))
  go_ret
  exact ⟨by rw [← Hc.out]; rfl, rfl⟩
theorem align_any (w : World) (hm : m ≤ 1125899906842000) (hT : Tl w g T N m q) :
    Calls Tryz.prog 92 #[.pointer (some ⟨g, 0, none⟩)] w fun e w' => e = .returned (.int .i64 (((8 - m % 8) % 8 : Nat) : Int)) ∧
      ∃ q', Tl w' g T N (m + (8 - m % 8) % 8) q' ∧ Aft w q q' ∧ Fr w w' (g :: q.toList) := by
  have HT := Hd.mk hT
  obtain ⟨sv, hb, _⟩ := hT
  have h1 := blk_cell hb 1
  simp only [List.getElem?_toArray, List.getElem?_cons_zero, List.getElem?_cons_succ] at h1
  clear hb
  obtain ⟨k, hk⟩ : ∃ k, k = (8 - m % 8) % 8 := ⟨_, rfl⟩
  have hk' : (8 - (m : Int) % 8) % 8 = (k : Int) := by omega
  have hk8 : k < 8 := by omega
  rw [← hk]
  clear hk
  go_enter Tryz.func92, Tryz.ntmps92
  go_wp2_with (first | (go_at_call 35; refine (lay_any g T N m q 0 k _ (Nat.two_pow_pos _) (by omega) (by omega) HT.out).mono ?_; rintro e w1 ⟨rfl, h⟩; have H := Hd.mk h; clear h))
  go_ret
  obtain ⟨q', h1, h2, h3⟩ := H.out
  exact ⟨rfl, q', by simpa using h1, h2, h3⟩
theorem len_any (w : World) (hT : Tl w g T N m q) :
    Calls Tryz.prog 16 #[.pointer (some ⟨g, 0, none⟩)] w fun e w' => e = .returned (.int .i64 m) ∧ w = w' := by
  obtain ⟨sv, hb, _⟩ := hT
  have h1 := blk_cell hb 1
  simp only [List.getElem?_toArray, List.getElem?_cons_zero, List.getElem?_cons_succ] at h1
  clear hb
  go_enter Tryz.func16, Tryz.ntmps16
  go_wp2
  go_ret
  exact ⟨rfl, rfl⟩
/-- what Bytes hands back: a row of its own. -/
theorem bytes_any (w : World) (hm : m ≤ 1125899906842624) (hT : Tl w g T N m q) :
    Calls Tryz.prog 20 #[.pointer (some ⟨g, 0, none⟩)] w fun e w' => ∃ v, e = .returned v ∧
      w'.ownsRow 0 5 1 v ((m + 7) / 8) (u8s (bytesOf N m)) ∧ Aft w none v.ownBlock ∧ Fr w w' [] := by
  obtain ⟨i0, hi0, hz0, hz1, hz2⟩ := info_parts infoU8
  obtain ⟨sv, hb, hown, _⟩ := hT
  have h0 := blk_cell hb 0
  simp only [List.getElem?_toArray, List.getElem?_cons_zero, List.getElem?_cons_succ] at h0
  obtain ⟨A, c, rfl, hc, _, hA⟩ := own_slice hown
  have Hs := Hd.mk (sl_of_own hown)
  have hA' : A = none → (m + 7) / 8 = 0 ∧ c = 0 := by
    rintro rfl
    rcases hown.2 with ⟨h, hn⟩ | ⟨g, cap, cur, h, _⟩
    · injection h with _ _ h; exact ⟨hn, h⟩
    · cases h
  have HA := Hd.mk hA'
  have hl := hown.1
  clear hb hown hA hA'
  go_enter Tryz.func20, Tryz.ntmps20
  go_wp2_with (at_builtin; refine wpList_append_sl rfl _ _ 23 rfl 5 i0 (.int .u8 0) 1 1 Tryz.underlying23 hi0 hz0 hz1 hz2 rfl (by decide) (.slice none 0 0) 0 [] rfl (own_nil _ _ _ _) A ((m + 7) / 8) c _ _ rfl hl Hs.out HA.out ?c1 ?c2 ?c3 ?_)
  case c1 => intro u hu; simp only [u8s, List.mem_map] at hu; obtain ⟨_, _, rfl⟩ := hu; rfl
  case c2 => unfold maxLen; omega
  case c3 => omega
  intro A' c' w1 hown' hgrow haft
  have H1 := Hd.mk hown'
  have H2 := Hd.mk hgrow
  have H3 := Hd.mk haft
  clear hown' hgrow haft
  go_wp2
  go_ret
  exact ⟨_, rfl, by simpa using H1.out, H3.out, (Fr.refl w []).grown H2.out (fun k hk => by simp [Value.ownBlock] at hk)⟩
/-- behind Whole's stores -/
theorem whole_stored {w w1 : World} {sv v' : Value} {xs : List Int} (hb : w.heap[g]? = some (.cells #[sv, .int .i64 m] T (0, 0)))
    (hown : w.ownsRow 0 5 1 sv ((m + 7) / 8) (u8s (bytesOf N m))) (hN : N < 2 ^ m) (hT : T ≠ 5) (h8 : m % 8 = 0) (hx : ∀ x ∈ xs, 0 ≤ x ∧ x ≤ 255)
    (hown' : w1.ownsRow 0 5 1 v' ((m + 7) / 8 + xs.length) (u8s (bytesOf N m) ++ u8s xs)) (hg : w.grownBy w1 sv.ownBlock) (haft : Aft w sv.ownBlock v'.ownBlock) :
    Tl ((w1.setCell ⟨g, 0, none⟩ v').setCell ⟨g, 1, none⟩ (.int .i64 ((m + 8 * xs.length : Nat) : Int))) g T (N + valB xs * 2 ^ m) (m + 8 * xs.length) v'.ownBlock ∧
      Fr w ((w1.setCell ⟨g, 0, none⟩ v').setCell ⟨g, 1, none⟩ (.int .i64 ((m + 8 * xs.length : Nat) : Int))) (g :: sv.ownBlock.toList) := by
  have hb1 := blk_grown hg hb (own_ne hown hb hT).symm
  have hne := own_ne hown' hb1 hT
  have e : u8s (bytesOf N m) ++ u8s xs = u8s (bytesOf (N + valB xs * 2 ^ m) (m + 8 * xs.length)) := by
    rw [← bytes_app hN h8 hx]; simp [u8s]
  rw [e, show (m + 7) / 8 + xs.length = (m + 8 * xs.length + 7) / 8 from by omega] at hown'
  refine ⟨⟨v', by simpa using blk_set (blk_set hb1 0 v') 1 _, own_setFar (own_setFar hown' _ hne) _ hne, rfl, grow_lt hN (valB_lt hx), hT⟩, ?_⟩
  exact (((Fr.refl w _).grown hg (fun k hk => .inl (by simp [hk]))).setCell _ (.inl (by simp))).setCell _ (.inl (by simp))
theorem whole_any (w : World) (A : Option Addr) (c : Nat) (xs : List Int) (qx : Option Nat) (hx : ∀ x ∈ xs, 0 ≤ x ∧ x ≤ 255) (hS : Sl w A (u8s xs) qx) (hA : A = none → xs.length = 0 ∧ c = 0)
    (hq : ∀ k, qx = some k → k ∉ g :: q.toList) (hm : m + 8 * xs.length ≤ 1125899906842000) (hT : Tl w g T N m q) :
    Calls Tryz.prog 93 #[.pointer (some ⟨g, 0, none⟩), .slice A xs.length c] w fun e w' => e = .returned (.tuple #[]) ∧
      ∃ q', Tl w' g T (N + valB xs * 2 ^ (m + (8 - m % 8) % 8)) (m + (8 - m % 8) % 8 + 8 * xs.length) q' ∧ Aft w q q' ∧ Fr w w' (g :: q.toList) := by
  obtain ⟨i0, hi0, hz0, hz1, hz2⟩ := info_parts infoU8
  have HT := Hd.mk hT
  have HS := Hd.mk hS
  have HA := Hd.mk hA
  have HX := Hd.mk hx
  have HQ := Hd.mk hq
  clear hT hS hA hx hq
  go_enter Tryz.func93, Tryz.ntmps93
  go_wp2_with (fail)
  refine (align_any _ (by omega) HT.out).mono ?_
  rintro e w1 ⟨rfl, q1, h1, h2, h3⟩
  obtain ⟨M, hM⟩ : ∃ M, M = m + (8 - m % 8) % 8 := ⟨_, rfl⟩
  rw [← hM] at h1
  have hMb : M ≤ m + 7 := by omega
  have HM8 : Hd (M % 8 = 0) := ⟨by omega⟩
  have HM := Hd.mk hM
  have H2 := Hd.mk h2
  have H3 := Hd.mk h3
  obtain ⟨sv, hb, hown, hqq, hN, hTu⟩ := h1
  have k0 := blk_cell hb 0
  have k1 := blk_cell hb 1
  have f0 := blk_frozen hb 0
  have f1 := blk_frozen hb 1
  simp only [List.getElem?_toArray, List.getElem?_cons_zero, List.getElem?_cons_succ] at k0 k1
  have HB := Hd.mk hb
  have HO := Hd.mk hown
  have HQQ := Hd.mk hqq
  have HS1 := Hd.mk (HS.out.frame H3.out HQ.out)
  clear h2 h3 hb hown hqq hM
  go_wp2_with (at_builtin; refine wpList_append_sl rfl _ _ 23 rfl 5 i0 (.int .u8 0) 1 1 Tryz.underlying23 hi0 hz0 hz1 hz2 rfl (by decide) sv ((M + 7) / 8) _ rfl HO.out A xs.length c _ _ rfl (by simp [u8s]) HS1.out HA.out ?c1 ?c2 ?c3 ?_)
  case c1 => intro u hu; simp only [u8s, List.mem_map] at hu; obtain ⟨_, _, rfl⟩ := hu; rfl
  case c2 => unfold maxLen; omega
  case c3 => omega
  intro A' c' w2 hown' hgrow haft
  have hb1 := blk_grown hgrow HB.out (own_ne HO.out HB.out hTu).symm
  have R := whole_stored HB.out HO.out hN hTu HM8.out HX.out hown' hgrow haft
  have HR := Hd.mk R
  have H4 := Hd.mk haft
  clear k0 k1 f0 f1
  have k0 := blk_cell hb1 0
  have k1 := blk_cell hb1 1
  have f0 := blk_frozen hb1 0
  have f1 := blk_frozen hb1 1
  simp only [List.getElem?_toArray, List.getElem?_cons_zero, List.getElem?_cons_succ] at k0 k1
  clear hown' hgrow haft hb1 R
  go_wp2
  go_end0
  have hR := HR.out
  have h3 := H3.out
  have h2 := H2.out
  have h4 := H4.out
  rw [HQQ.out] at hR h4
  rw [Int.natCast_add, Int.natCast_mul] at hR
  rw [← HM.out]
  refine ⟨rfl, _, hR.1, h2.trans h4 h3.size, h3.trans hR.2 (fun x hx hxG => ?_)⟩
  rcases List.mem_cons.1 hxG with rfl | hxG
  · simp
  · rcases h2.mem hxG with h | h
    · exact List.mem_cons_of_mem _ h
    · omega
end
end Go.Proofs.YtlfckpmdmkccjaaGreat.Bits
