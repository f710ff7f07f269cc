/- sapperref01's memory words: Same. No condition. -/
import Derived.Test.YtlfckpmdmkccjaaBitsW
import Derived.Laws.BytesArg
import Derived.Laws.BytesString
import Derived.Laws.Strings
set_option maxRecDepth 100000
set_option linter.unusedVariables false
set_option linter.unusedSimpArgs false
namespace Go.Proofs.Ytlfckpmdmkccjaa.Bits
open Go.RowKit Go.Proofs.Ytlfckpmdmkccjaa.Lib Go.Proofs.Ytlfckpmdmkccjaa.Num

theorem conv_string {P : Program} {w : World} {src dst e : TypeId} {A : Option Addr} {c : Nat} {xs : List Int} {q : Option Nat} (hs : P.underlying src = some (.slice e)) (he : P.underlying e = some (.int .u8)) (hd : P.underlying dst = some .string)
    (h : Sl w A (u8s xs) q) (hA : A = none → xs.length = 0 ∧ c = 0) : (convert src dst (.slice A xs.length c)).run P w = .ok (.string (strOfNums xs)) w := by
  rcases A with _ | ad
  · obtain ⟨h0, rfl⟩ := hA rfl
    obtain rfl : xs = [] := List.eq_nil_of_length_eq_zero h0
    exact run_convert_bytes_nil w src e hs he 0 0 dst hd
  · have hl : (loadCells ad xs.length).run P w = .ok (xs.map (Value.int .u8)).toArray w := by
      have := run_loadCells_list (P := P) w ad (xs.map (Value.int .u8)) (h.news rfl)
      simpa using this
    rw [run_convert_bytes_string w src dst e _ xs.length c hs he hd, run_bytesToString w ad xs.length c xs hl, foldl_push_bytes]
    simp [strOfNums, ByteArray.empty, ByteArray.emptyWithCapacity]
    rfl
theorem str_eq {xs ys : List Int} (hx : ∀ x ∈ xs, 0 ≤ x ∧ x ≤ 255) (hy : ∀ x ∈ ys, 0 ≤ x ∧ x ≤ 255) : ((strOfNums xs).toList == (strOfNums ys).toList) = decide (xs = ys) := by
  have e : ∀ zs : List Int, (strOfNums zs).toList = zs.map fun n => UInt8.ofNat n.toNat := by
    intro zs
    rw [ByteArray.toList_eq]; simp [strOfNums]
  rw [e, e, Bool.eq_iff_iff]
  simp only [beq_iff_eq, decide_eq_true_eq]
  constructor
  · intro h
    induction xs generalizing ys with
    | nil => cases ys <;> simp_all
    | cons x xs ih =>
      cases ys with
      | nil => simp at h
      | cons y ys =>
        simp only [List.map_cons, List.cons.injEq] at h
        have h1 := hx x (by simp)
        have h2 := hy y (by simp)
        have e1 := congrArg UInt8.toNat h.1
        simp at e1
        rw [ih (fun z hz => hx z (by simp [hz])) (fun z hz => hy z (by simp [hz])) h.2]
        congr 1
        omega
  · rintro rfl; rfl
theorem same_any (w : World) (A B : Option Addr) (n m c d : Nat) (xs ys : List Int) (p q : Option Nat) (hn : xs.length = n) (hm : ys.length = m) (hx : ∀ x ∈ xs, 0 ≤ x ∧ x ≤ 255) (hy : ∀ x ∈ ys, 0 ≤ x ∧ x ≤ 255)
    (hS : Sl w A (u8s xs) p) (hT : Sl w B (u8s ys) q) (hA : A = none → n = 0 ∧ c = 0) (hB : B = none → m = 0 ∧ d = 0) :
    Calls Try.prog 24 #[.slice A n c, .slice B m d] w fun e w' => e = .returned (.bool (decide (xs = ys))) ∧ w = w' := by
  subst hn hm
  have h1 := conv_string (P := Try.prog) (dst := 9) Try.underlying49 Try.underlying5 Try.underlying9 hS hA
  have h2 := conv_string (P := Try.prog) (dst := 9) Try.underlying49 Try.underlying5 Try.underlying9 hT hB
  have He := Hd.mk (str_eq hx hy)
  clear hS hT hA hB hx hy
  go_enter Try.func24, Try.ntmps24
  go_wp2
  go_ret
  exact ⟨by rw [← He.out]; rfl, rfl⟩
end Go.Proofs.Ytlfckpmdmkccjaa.Bits
