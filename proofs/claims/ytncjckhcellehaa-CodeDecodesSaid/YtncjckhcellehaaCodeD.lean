/- The decoder: made, its room. Conditions: none. -/
import Derived.Test.YtncjckhcellehaaCodeC
set_option linter.unusedVariables false
set_option linter.unusedSimpArgs false
set_option maxRecDepth 100000
namespace Go.Proofs.Ytncjckhcellehaa.Code
open Go.RowKit Go.IntWalk Go.Proofs.Ytncjckhcellehaa.Lib Go.Proofs.Ytncjckhcellehaa.Ints Go.Proofs.Ytncjckhcellehaa.Num Go.Proofs.Ytncjckhcellehaa.Bits

/-- a decoder: its room, how many codes of each length, the symbols by their codes, how many -/
structure De (w : World) (g most : Nat) (F : Nat → Nat) (S : Nat → Nat) (k : Nat) : Prop where
  ex : ∃ cs : Array Value, w.heap[g]? = some (.cells cs 74 (0, 0)) ∧ cs.size = 306 ∧ cs[0]? = some (.int .i64 (most : Nat)) ∧ (∀ i, i < 16 → cs[1 + i]? = some (.int .i64 (F i : Nat))) ∧ (∀ i, i < 288 → cs[17 + i]? = some (.int .i64 (S i : Nat))) ∧ cs[305]? = some (.int .i64 (k : Nat))
theorem De.frame {w w' : World} {g most k : Nat} {F S : Nat → Nat} (h : De w g most F S k) {G : List Nat} (hf : Fr w w' G) (hg : g ∉ G) : De w' g most F S k := by
  obtain ⟨cs, hb, h⟩ := h.ex
  exact ⟨cs, hf.blk hb hg, h⟩
theorem De.c0 {w : World} {g most k : Nat} {F S : Nat → Nat} (h : De w g most F S k) : w.cell? ⟨g, 0, none⟩ = some (.int .i64 (most : Nat)) := by
  obtain ⟨cs, hb, hs, h0, h1, h2, h3⟩ := h.ex
  exact (blk_cell hb 0).trans h0
theorem De.c1 {w : World} {g most k : Nat} {F S : Nat → Nat} (h : De w g most F S k) {i : Nat} (hi : i < 16) : w.cell? ⟨g, 1 + i, none⟩ = some (.int .i64 (F i : Nat)) := by
  obtain ⟨cs, hb, hs, h0, h1, h2, h3⟩ := h.ex
  exact (blk_cell hb _).trans (h1 i hi)
theorem De.c2 {w : World} {g most k : Nat} {F S : Nat → Nat} (h : De w g most F S k) {i : Nat} (hi : i < 288) : w.cell? ⟨g, 17 + i, none⟩ = some (.int .i64 (S i : Nat)) := by
  obtain ⟨cs, hb, hs, h0, h1, h2, h3⟩ := h.ex
  exact (blk_cell hb _).trans (h2 i hi)
theorem De.c3 {w : World} {g most k : Nat} {F S : Nat → Nat} (h : De w g most F S k) : w.cell? ⟨g, 305, none⟩ = some (.int .i64 (k : Nat)) := by
  obtain ⟨cs, hb, hs, h0, h1, h2, h3⟩ := h.ex
  exact (blk_cell hb 305).trans h3
theorem De.free {w : World} {g most k : Nat} {F S : Nat → Nat} (h : De w g most F S k) (i : Nat) : w.frozen? ⟨g, i, none⟩ = false := by
  obtain ⟨cs, hb, hs, h0, h1, h2, h3⟩ := h.ex
  exact blk_frozen hb i
def dec0 (m : Nat) : Array Value := (Value.int .i64 (m : Nat) :: List.replicate 305 (Value.int .i64 0)).toArray
theorem dec0_new (w : World) (m : Nat) : De (w.alloc (.cells (dec0 m) 74)) w.heap.size m (fun _ => 0) (fun _ => 0) 0 := by
  refine ⟨_, blk_new w _, by simp [dec0], rfl, fun i hi => ?_, fun i hi => ?_, ?_⟩
  · unfold dec0
    rw [List.getElem?_toArray, show 1 + i = i + 1 from by omega, List.getElem?_cons_succ, List.getElem?_replicate, if_pos (by omega)]
    rfl
  · unfold dec0
    rw [List.getElem?_toArray, show 17 + i = 16 + i + 1 from by omega, List.getElem?_cons_succ, List.getElem?_replicate, if_pos (by omega)]
    rfl
  · unfold dec0
    rw [List.getElem?_toArray, show 305 = 304 + 1 from rfl, List.getElem?_cons_succ, List.getElem?_replicate, if_pos (by omega)]
    rfl
theorem newdec_no (w : World) (s : Int) (h : s < 1 ∨ 288 < s) :
    Calls Try.prog 22 #[.int .i64 s] w fun e w' => e = .returned (.tuple #[.pointer none, .int .i64 1]) ∧ w = w' := by
  go_enter Try.func22, Try.ntmps22
  by_cases h0 : s < 1
  · clear h
    go_wp2
    go_ret2
    exact ⟨rfl, rfl⟩
  · obtain h := h.resolve_left h0
    go_wp2
    go_ret2
    exact ⟨rfl, rfl⟩
theorem newdec_ok (w : World) (m : Nat) (h1 : 1 ≤ m) (h2 : m ≤ 288) :
    Calls Try.prog 22 #[.int .i64 (m : Nat)] w fun e w' => ∃ g, e = .returned (.tuple #[.pointer (some ⟨g, 0, none⟩), .int .i64 0]) ∧ De w' g m (fun _ => 0) (fun _ => 0) 0 ∧ w.heap.size ≤ g ∧ Fr w w' [] := by
  go_enter Try.func22, Try.ntmps22
  go_upto_region 3 with (fail)
  go_wp2_with (first | (refine wpList_build rfl 74 #[(0, .tmp 10)] rfl (by kernel_rfl) ?_; generalize hcs : (Try.prog.built 74 _).getD #[] = cs))
  have e : cs = dec0 m := by
    rw [← hcs]
    kernel_rfl
  rw [e]
  clear hcs e
  go_ret2
  exact ⟨_, rfl, dec0_new w m, Nat.le_refl _, (Fr.refl w []).alloc _⟩
theorem room_any (w : World) (g most k : Nat) (F S : Nat → Nat) (hD : De w g most F S k) (h1 : 1 ≤ most) (h2 : most ≤ 288) :
    Calls Try.prog 23 #[.pointer (some ⟨g, 0, none⟩)] w fun e w' => e = .returned (.int .i64 ((8 * most + 256 : Nat) : Int)) ∧ w = w' := by
  have c0 := hD.c0
  clear hD
  have hz : ((most : Int) == 0) = false := by simp; omega
  go_enter Try.func23, Try.ntmps23
  go_wp2
  go_ret
  exact ⟨by go_num, rfl⟩
theorem lay_get (L b : List Value) (o : Nat) (h : o + b.length ≤ L.length) (j : Nat) : (L.take o ++ b ++ L.drop (o + b.length))[j]? = if j < o then L[j]? else if j < o + b.length then b[j - o]? else L[j]? := by
  have ht : (L.take o).length = o := by rw [List.length_take]; omega
  by_cases h1 : j < o
  · rw [if_pos h1, List.append_assoc, List.getElem?_append_left (by omega), List.getElem?_take, if_pos h1]
  · rw [if_neg h1]
    by_cases h2 : j < o + b.length
    · rw [if_pos h2, List.getElem?_append_left (by rw [List.length_append]; omega), List.getElem?_append_right (by omega), ht]
    · rw [if_neg h2, List.getElem?_append_right (by rw [List.length_append]; omega), List.length_append, ht, List.getElem?_drop]
      congr 1
      omega
/-- sixteen numbers are laid into the decoder -/
theorem wpl_store_counts {ops : Array Oper} {rest : List Oper} {o : Oper} {a : Act} {w : World} {Q : Exit → Act → World → Prop} (hgd : o.guard = none) (x y : Operand) (ho : o.op = .store 71 x y)
    (g most k : Nat) (f F S : Nat → Nat) (hx : a.eval x = .pointer (some ⟨g, 1, none⟩)) (hy : a.eval y = .agg (vec f)) (hD : De w g most F S k)
    (h : ∀ w', De w' g most f S k → Fr w w' [g] → wpList Try.prog ops Q rest (a.put o.dst undef) w') : wpList Try.prog ops Q (o :: rest) a w := by
  obtain ⟨cs, hb, hs, h0, h1, h2, h3⟩ := hD.ex
  have hone : ∀ v ∈ (vec f).toList, v.oneCell' = true := fun v hv => (Array.all_eq_true_iff_forall_mem.1 (vec_one f)) v (by simpa using hv)
  have hl : (vec f).toList.length = 16 := by simpa using vec_size f
  have hst := run_storeCells_at Try.prog g 1 _ (vec f).toList 0 cs w hb (by rw [hl, hs]; omega) hone
  refine wpList_plain hgd fun K hK => ?_
  have hi := infoArr
  unfold Oper.wp execOp
  cases hq : Try.prog.info? 71 with
  | none => rw [hq] at hi; cases hi
  | some i =>
    have hsz : i.size = 16 := by rw [hq] at hi; simpa using hi
    have hrun : (storeVar 71 ⟨g, 1, none⟩ (.agg (vec f))).run Try.prog w = .ok () (w.setRow g (cs.toList.take (1 + 0) ++ (vec f).toList ++ cs.toList.drop (1 + 0 + (vec f).toList.length)).toArray) := by
      simp [storeVar, sizeOf, typeInfo, hq, Value.cells, hsz, vec_size, hst]
    simp only [ho, hx, hy, Instr.storeAt, Instr.sureAddr, Sem.run_bind, Sem.run_pure, Result.andThen_ok, hrun]
    refine hK _ _ (h _ ⟨_, setRow_heap _ _ _ _ _ _ hb, ?_, ?_, ?_, ?_, ?_⟩ (Fr.setRow (Fr.refl w _) _ (.inl (by simp))))
    · simp only [List.size_toArray, List.length_append, List.length_take, List.length_drop, hl, Array.length_toList, hs]
      omega
    · rw [List.getElem?_toArray, Nat.add_zero, lay_get _ _ 1 (by rw [hl, Array.length_toList, hs]; omega), if_pos (by omega), Array.getElem?_toList]
      exact h0
    · intro i hi
      rw [List.getElem?_toArray, Nat.add_zero, lay_get _ _ 1 (by rw [hl, Array.length_toList, hs]; omega), if_neg (by omega), if_pos (by rw [hl]; omega), Nat.add_sub_cancel_left, Array.getElem?_toList]
      exact vec_get f hi
    · intro i hi
      rw [List.getElem?_toArray, Nat.add_zero, lay_get _ _ 1 (by rw [hl, Array.length_toList, hs]; omega), if_neg (by omega), if_neg (by rw [hl]; omega), Array.getElem?_toList]
      exact h2 i hi
    · rw [List.getElem?_toArray, Nat.add_zero, lay_get _ _ 1 (by rw [hl, Array.length_toList, hs]; omega), if_neg (by omega), if_neg (by rw [hl]; omega), Array.getElem?_toList]
      exact h3
/-- a symbol is laid down -/
theorem De.setS {w : World} {g most k : Nat} {F S : Nat → Nat} (h : De w g most F S k) {i : Nat} (hi : i < 288) (v : Nat) : De (w.setCell ⟨g, 17 + i, none⟩ (.int .i64 (v : Nat))) g most F (upd S i v) k := by
  obtain ⟨cs, hb, hs, h0, h1, h2, h3⟩ := h.ex
  refine ⟨_, blk_set hb _ _, by rw [Array.size_setIfInBounds]; exact hs, ?_, fun j hj => ?_, fun j hj => ?_, ?_⟩
  · rw [Array.getElem?_setIfInBounds_ne (by omega)]; exact h0
  · rw [Array.getElem?_setIfInBounds_ne (by omega)]; exact h1 j hj
  · unfold upd
    by_cases e : j = i
    · subst e
      rw [if_pos rfl, Array.getElem?_setIfInBounds_self_of_lt (by rw [hs]; omega)]
    · rw [if_neg e, Array.getElem?_setIfInBounds_ne (by omega)]; exact h2 j hj
  · rw [Array.getElem?_setIfInBounds_ne (by omega)]; exact h3
/-- how many there are -/
theorem De.setK {w : World} {g most k : Nat} {F S : Nat → Nat} (h : De w g most F S k) (v : Nat) : De (w.setCell ⟨g, 305, none⟩ (.int .i64 (v : Nat))) g most F S v := by
  obtain ⟨cs, hb, hs, h0, h1, h2, h3⟩ := h.ex
  refine ⟨_, blk_set hb _ _, by rw [Array.size_setIfInBounds]; exact hs, ?_, fun j hj => ?_, fun j hj => ?_, ?_⟩
  · rw [Array.getElem?_setIfInBounds_ne (by omega)]; exact h0
  · rw [Array.getElem?_setIfInBounds_ne (by omega)]; exact h1 j hj
  · rw [Array.getElem?_setIfInBounds_ne (by omega)]; exact h2 j hj
  · rw [Array.getElem?_setIfInBounds_self_of_lt (by rw [hs]; omega)]
end Go.Proofs.Ytncjckhcellehaa.Code
