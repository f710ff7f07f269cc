/- Chapter 09: the place in the rows. No condition. -/
import Derived.Test.YtlfckpmdmkccjaaBlkA
set_option linter.unusedVariables false
set_option linter.unusedSimpArgs false
set_option maxRecDepth 100000
namespace Go.Proofs.Ytlfckpmdmkccjaa.Blk
open Go.RowKit Go.Proofs.Ytlfckpmdmkccjaa.Lib Go.Proofs.Ytlfckpmdmkccjaa.Ints
/-- the last row whose least value is not above -/
def plc (l : List (Int × Int)) (v : Int) : Nat → Nat
  | 0 => 0
  | j + 1 => if (l.getD j (0, 0)).1 ≤ v then j else plc l v j
theorem plc_step {l : List (Int × Int)} {j : Nat} (h : j < l.length) (v : Int) : plc l v (j + 1) = if l[j].1 ≤ v then j else plc l v j := by
  rw [plc, List.getD_eq_getElem?_getD, List.getElem?_eq_getElem h, Option.getD_some]
theorem plc_lt (l : List (Int × Int)) (v : Int) : ∀ j, 0 < j → plc l v j < j
  | 0, h => absurd h (Nat.lt_irrefl 0)
  | j + 1, _ => by
    rw [plc]
    split
    · omega
    · by_cases h : 0 < j
      · have := plc_lt l v j h; omega
      · have : j = 0 := by omega
        subst this
        simp [plc]
theorem place_any (w : World) (A : Option Addr) (n c : Nat) (l : List (Int × Int)) (q : Option Nat) (v : Int) (hn : l.length = n) (hS : Sl w A (rcs l) q) (hb : n ≤ 1000) :
    Calls Try.prog 33 #[.slice A n c, .int .i64 v] w fun e w' => e = .returned (.int .i64 (plc l v n : Nat)) ∧ Fr w w' [] := by
  subst hn
  have HS := Hd.mk hS
  clear hS
  go_enter Try.func33, Try.ntmps33
  go_wp2
  go_loopg [5, 10] l.length (fun kq av jv wr => ∃ j : Nat, jv = .int .i64 (j : Nat) ∧ av = .int .i64 (plc l v j : Nat) ∧ j + kq = l.length ∧ Hd (Fr w wr []))
  case atStart => exact ⟨0, rfl, rfl, by omega, ⟨Fr.refl _ _⟩⟩
  case round =>
    obtain ⟨j, rfl, rfl, hj, HF⟩ := hrel
    by_cases h1 : j < l.length
    · obtain ⟨a, o1, rfl, _, ha⟩ := Sl.row (enc := rc) (sz := 2) (fun _ => rfl) (HS.out.frame HF.out (by simp)) h1 (by decide)
      have c0 := ha 0 (by decide)
      have c1 := ha 1 (by decide)
      obtain ⟨x, hx⟩ : ∃ x, x = l[j] := ⟨_, rfl⟩
      rw [← hx] at c0 c1
      have hp := plc_step h1 v
      rw [← hx] at hp
      simp only [rc, List.getElem?_cons_zero, List.getElem?_cons_succ, Nat.add_zero] at c0 c1
      have HP := Hd.mk hp
      clear ha hx hp
      by_cases h2 : x.1 ≤ v
      · have HP2 : Hd (plc l v (j + 1) = j) := ⟨by rw [HP.out, if_pos h2]⟩
        clear HP
        go_wp2
        go_roundg (gk - 1)
        case measure => omega
        case rel => exact ⟨j + 1, by go_num, by rw [HP2.out], by omega, ⟨HF.out.alloc _⟩⟩
      · have HP2 : Hd (plc l v (j + 1) = plc l v j) := ⟨by rw [HP.out, if_neg h2]⟩
        clear HP
        generalize plc l v j = z at *
        go_wp2
        go_roundg (gk - 1)
        case measure => omega
        case rel => exact ⟨j + 1, by go_num, by rw [HP2.out], by omega, ⟨HF.out.alloc _⟩⟩
    · obtain rfl : j = l.length := by omega
      go_wp2
      go_ret
      exact ⟨rfl, HF.out⟩
theorem find_any (w : World) (A : Option Addr) (n c : Nat) (l : List (Int × Int)) (q : Option Nat) (v : Int) (hn : l.length = n) (hS : Sl w A (rcs l) q) (hb : n ≤ 1000) :
    Calls Try.prog 34 #[.slice A n c, .int .i64 v] w fun e w' => e = .returned (.int .i64 (plc l v n : Nat)) ∧ Fr w w' [] := by
  subst hn
  have HS := Hd.mk hS
  clear hS
  go_enter Try.func34, Try.ntmps34
  go_wp2
  go_loopg [5, 10] l.length (fun kq av jv wr => ∃ j : Nat, jv = .int .i64 (j : Nat) ∧ av = .int .i64 (plc l v j : Nat) ∧ j + kq = l.length ∧ Hd (Fr w wr []))
  case atStart => exact ⟨0, rfl, rfl, by omega, ⟨Fr.refl _ _⟩⟩
  case round =>
    obtain ⟨j, rfl, rfl, hj, HF⟩ := hrel
    by_cases h1 : j < l.length
    · obtain ⟨a, o1, rfl, _, ha⟩ := Sl.row (enc := rc) (sz := 2) (fun _ => rfl) (HS.out.frame HF.out (by simp)) h1 (by decide)
      have c0 := ha 0 (by decide)
      have c1 := ha 1 (by decide)
      obtain ⟨x, hx⟩ : ∃ x, x = l[j] := ⟨_, rfl⟩
      rw [← hx] at c0 c1
      have hp := plc_step h1 v
      rw [← hx] at hp
      simp only [rc, List.getElem?_cons_zero, List.getElem?_cons_succ, Nat.add_zero] at c0 c1
      have HP := Hd.mk hp
      clear ha hx hp
      by_cases h2 : x.1 ≤ v
      · have HP2 : Hd (plc l v (j + 1) = j) := ⟨by rw [HP.out, if_pos h2]⟩
        clear HP
        go_wp2
        go_roundg (gk - 1)
        case measure => omega
        case rel => exact ⟨j + 1, by go_num, by rw [HP2.out], by omega, ⟨HF.out.alloc _⟩⟩
      · have HP2 : Hd (plc l v (j + 1) = plc l v j) := ⟨by rw [HP.out, if_neg h2]⟩
        clear HP
        generalize plc l v j = z at *
        go_wp2
        go_roundg (gk - 1)
        case measure => omega
        case rel => exact ⟨j + 1, by go_num, by rw [HP2.out], by omega, ⟨HF.out.alloc _⟩⟩
    · obtain rfl : j = l.length := by omega
      go_wp2
      go_ret
      exact ⟨rfl, HF.out⟩
end Go.Proofs.Ytlfckpmdmkccjaa.Blk
