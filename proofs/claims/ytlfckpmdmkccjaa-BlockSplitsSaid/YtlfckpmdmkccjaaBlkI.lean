/- Chapter 09: may these tokens stand in a block; what they cost by codes. No condition. -/
import Derived.Test.YtlfckpmdmkccjaaBlkP
set_option linter.unusedVariables false
set_option linter.unusedSimpArgs false
set_option maxRecDepth 100000
namespace Go.Proofs.Ytlfckpmdmkccjaa.Blk
open Go.RowKit Go.Proofs.Ytlfckpmdmkccjaa.Lib Go.Proofs.Ytlfckpmdmkccjaa.Ints Go.Proofs.Ytlfckpmdmkccjaa.Lz
theorem all_take {l : List Tok} {j : Nat} (h : j < l.length) : (l.take (j + 1)).all right = ((l.take j).all right && right l[j]) := by
  rw [List.take_succ_eq_append_getElem h, List.all_append]; simp
theorem all_not {l : List Tok} {j : Nat} (h : j < l.length) (hr : right l[j] = false) : l.all right = false := by
  rw [Bool.eq_false_iff]
  intro ha
  have := List.all_eq_true.1 ha l[j] (List.getElem_mem h)
  rw [hr] at this
  cases this
theorem sl_new2 (w : World) (o : Obj) (cs : Array Value) (t : TypeId) : Sl ((w.alloc o).alloc (.cells cs t)) (some ⟨w.heap.size + 1, 0, none⟩) cs.toList (some (w.heap.size + 1)) := sl_of_blk (t := t) (fr := (0, 0)) (by simpa using blk_new (w.alloc o) (.cells cs t))
set_option maxHeartbeats 2000000 in
theorem may_any (w : World) (A : Option Addr) (n c : Nat) (l : List Tok) (p : Option Nat) (hn : l.length = n) (hS : Sl w A (tcells l) p) (hb : n ≤ 1099511627776) (r : Int) (hr : r = mayB l) :
    Calls Try.prog 27 #[.slice A n c] w fun e w' => e = .returned (.int .i64 r) ∧ Fr w w' [] := by
  subst hn
  have HS := Hd.mk hS
  have HR := Hd.mk hr
  clear hS hr
  go_enter Try.func27, Try.ntmps27
  by_cases hlong : 65536 < l.length
  · obtain rfl : r = 90 := by rw [HR.out]; unfold mayB; rw [if_pos hlong]
    go_wp2
    go_ret
    exact ⟨rfl, Fr.refl _ _⟩
  · have hmr : Hd (r = if l.all right then 0 else 91) := ⟨by rw [HR.out]; unfold mayB; rw [if_neg hlong]⟩
    have hl2 : l.length ≤ 65536 := by omega
    go_wp2
    go_loopg [10] l.length (fun kq jv wr => ∃ j : Nat, jv = .int .i64 (j : Nat) ∧ j + kq = l.length ∧ Hd ((l.take j).all right = true) ∧ Hd (Fr w wr []))
    case atStart => exact ⟨0, rfl, by omega, ⟨rfl⟩, ⟨Fr.refl _ _⟩⟩
    case round =>
      obtain ⟨j, rfl, hj, HA, HF⟩ := hrel
      by_cases h1 : j < l.length
      · obtain ⟨a, o1, rfl, _, ha⟩ := Sl.row (enc := tcell) (sz := 3) (fun _ => rfl) (HS.out.frame HF.out (by simp)) h1 (by decide)
        obtain ⟨t, ht⟩ : ∃ t, t = l[j] := ⟨_, rfl⟩
        rw [← ht] at ha
        have c0 := ha 0 (by decide)
        have c1 := ha 1 (by decide)
        have c2 := ha 2 (by decide)
        simp only [tcell, List.getElem?_cons_zero, List.getElem?_cons_succ, Nat.add_zero] at c0 c1 c2
        have HT := Hd.mk ht
        clear ha ht
        obtain ⟨x, hx⟩ : ∃ x, x = width t := ⟨_, rfl⟩
        have HX := Hd.mk hx
        clear hx
        go_wp2_with (fail)
        refine (size_any _ _ 1 1 [t] _ rfl (by exact sl_new2 wr _ _ _) (by omega)).mono ?_
        rintro e w2 ⟨rfl, h2⟩
        rw [sizeOf_one, ← HX.out]
        have F2 := Hd.mk (((HF.out.alloc _).alloc _).trans h2 (by simp))
        clear h2
        by_cases hx0 : x = 0
        · subst hx0
          have : Hd (r = 91) := ⟨by rw [hmr.out, all_not h1 (by rw [← HT.out]; exact width_zero.1 HX.out.symm)]; rfl⟩
          obtain rfl := this.out
          go_wp2
          go_ret
          exact ⟨rfl, F2.out⟩
        · have hx1 : ((x : Int) == 0) = false := by simp; omega
          have hrt : right t = true := by
            cases h : right t with
            | true => rfl
            | false => exact absurd (HX.out.trans (width_zero.2 h)) hx0
          go_wp2
          go_roundg (gk - 1)
          case measure => omega
          case rel => exact ⟨j + 1, by go_num, by omega, ⟨by rw [all_take h1, HA.out, ← HT.out, hrt]; rfl⟩, F2⟩
      · obtain rfl : j = l.length := by omega
        have : Hd (r = 0) := ⟨by rw [hmr.out]; rw [List.take_length] at HA; rw [HA.out]; rfl⟩
        obtain rfl := this.out
        go_wp2
        go_ret
        exact ⟨rfl, HF.out⟩
end Go.Proofs.Ytlfckpmdmkccjaa.Blk
