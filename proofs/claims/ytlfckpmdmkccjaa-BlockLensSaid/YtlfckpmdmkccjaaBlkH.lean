/- Chapter 09: a token's signs. No condition. -/
import Derived.Test.YtlfckpmdmkccjaaBlkG
import Derived.Test.YtlfckpmdmkccjaaLzTok
set_option linter.unusedVariables false
set_option linter.unusedSimpArgs false
set_option maxRecDepth 100000
namespace Go.Proofs.Ytlfckpmdmkccjaa.Blk
open Go.RowKit Go.Proofs.Ytlfckpmdmkccjaa.Lib Go.Proofs.Ytlfckpmdmkccjaa.Ints Go.Proofs.Ytlfckpmdmkccjaa.Lz
/-- a symbol, more bits' number, how many they are -/
def sgA (t : Tok) : Int × Int × Int := if t.len = 0 then (t.lit, 0, 0) else ((symN lenT 257 3 258 t.len).1, (symN lenT 257 3 258 t.len).2.2.1, (symN lenT 257 3 258 t.len).2.1)
def sgB (t : Tok) : Int × Int × Int := if t.len = 0 then (0, 0, 0) else ((symN distT 0 1 32768 t.dist).1, (symN distT 0 1 32768 t.dist).2.2.1, (symN distT 0 1 32768 t.dist).2.1)
def sgV (x : Int × Int × Int) : Value := .agg #[.int .i64 x.1, .int .i64 x.2.1, .int .i64 x.2.2]
theorem signInfo : (Try.prog.info? 69).map (·.size) = some 3 := by kernel_rfl
theorem results_cct {fn : Func} {p q r : Tmp} (h : fn.results = #[.cell p 69, .cell q 69, .tmp r]) (tmps : Array Value) (w : World) (g k : Nat) (cs ds : Array Value)
    (hp : tmps.getD p undef = .pointer (some ⟨g, 0, none⟩)) (hg : w.heap[g]? = some (.cells cs 69 (0, 0))) (hq : tmps.getD q undef = .pointer (some ⟨k, 0, none⟩)) (hk : w.heap[k]? = some (.cells ds 69 (0, 0)))
    (hc : cs.size = 3) (hd : ds.size = 3) :
    (results fn tmps).run Try.prog w = .ok (.tuple #[.agg cs, .agg ds, tmps.getD r undef]) w := by
  have hp' : tmps[p]?.getD undef = .pointer (some ⟨g, 0, none⟩) := by simpa using hp
  have hq' : tmps[q]?.getD undef = .pointer (some ⟨k, 0, none⟩) := by simpa using hq
  simp [results, h, hp', hq', asAddr, run_loadVar_row w g 69 69 cs _ _ hg Try.underlying69 rfl (by rw [hc]; exact signInfo), run_loadVar_row w k 69 69 ds _ _ hk Try.underlying69 rfl (by rw [hd]; exact signInfo)]
set_option maxHeartbeats 2000000 in
theorem signs_any (w : World) (t : Tok) (hl : 0 ≤ t.lit ∧ t.lit ≤ 255) : Calls Try.prog 28 #[.agg #[.int .u8 t.lit, .int .i64 t.len, .int .i64 t.dist]] w fun e w' => e = .returned (.tuple #[sgV (sgA t), sgV (sgB t), .bool (decide (t.len ≠ 0))]) ∧ Fr w w' [] := by
  obtain ⟨a, b, c⟩ := t
  simp only at hl ⊢
  obtain ⟨hl0, hl1⟩ := hl
  by_cases h0 : b = 0
  · subst h0
    have e1 : Hd (sgA ⟨a, 0, c⟩ = (a, 0, 0) ∧ sgB ⟨a, 0, c⟩ = (0, 0, 0)) := ⟨rfl, rfl⟩
    go_enter Try.func28, Try.ntmps28
    go_wp2
    refine bodyPost_ret (results_cct rfl _ _ (w.heap.size + 1) (w.heap.size + 1 + 1) #[.int .i64 a, .int .i64 0, .int .i64 0] #[.int .i64 0, .int .i64 0, .int .i64 0] rfl (by first | exact blk_alloc (by simpa using blk_new (w.alloc _) _) _) rfl (by simpa using blk_new ((w.alloc _).alloc _) _) rfl rfl) rfl ?_
    rw [e1.out.1, e1.out.2]
    exact ⟨rfl, (((Fr.refl _ _).alloc _).alloc _).alloc _⟩
  · have e0 : (b == 0) = false := by simpa using h0
    obtain ⟨s, hs⟩ : ∃ s, s = symN lenT 257 3 258 b := ⟨_, rfl⟩
    obtain ⟨u, hu⟩ : ∃ u, u = symN distT 0 1 32768 c := ⟨_, rfl⟩
    have e1 : Hd (sgA ⟨a, b, c⟩ = (s.1, s.2.2.1, s.2.1) ∧ sgB ⟨a, b, c⟩ = (u.1, u.2.2.1, u.2.1)) := ⟨by unfold sgA; rw [if_neg h0, hs], by unfold sgB; rw [if_neg h0, hu]⟩
    have HS := Hd.mk hs
    have HU := Hd.mk hu
    clear hs hu
    go_enter Try.func28, Try.ntmps28
    go_wp2_with (fail)
    refine (lenSymbol_any _ b).mono ?_
    rintro e w1 ⟨rfl, h1⟩
    rw [← HS.out]
    have k0 := h1.blk (blk_alloc (blk_alloc (blk_new w _) _) _) (by simp)
    have k1 := h1.blk (g := w.heap.size + 1) (blk_alloc (by simpa using blk_new (w.alloc _) _) _) (by simp)
    have k2 := h1.blk (g := w.heap.size + 1 + 1) (by simpa using blk_new ((w.alloc _).alloc _) _) (by simp)
    have F1 := Hd.mk (((((Fr.refl w []).alloc _).alloc _).alloc _).trans h1 (by simp))
    clear h1
    generalize hg0 : w.heap.size = g at *
    have hgb : w.heap.size ≤ g := by omega
    clear hg0
    have K1 := Hd.mk k1
    have K2 := Hd.mk k2
    have c2 := blk_cell k0 2
    simp only [List.getElem?_toArray, List.getElem?_cons_zero, List.getElem?_cons_succ] at c2
    clear k0 k1 k2
    go_wp2_with (fail)
    refine (distSymbol_any _ c).mono ?_
    rintro e w2 ⟨rfl, h2⟩
    rw [← HU.out]
    have L1 := Hd.mk (h2.blk K1.out (by simp))
    have L2 := Hd.mk (h2.blk K2.out (by simp))
    have F2 := Hd.mk (F1.out.trans h2 (by simp))
    clear h2 K1 K2 F1 c2
    go_wp2_with (first
      | (refine wpList_store_row rfl 69 _ _ rfl (g + 1) #[.int .i64 s.1, .int .i64 s.2.2.1, .int .i64 s.2.1] rfl rfl 69 _ (by exact L1.out) (by kernel_rfl) (by kernel_rfl) (by kernel_rfl) ?_)
      | (refine wpList_store_row rfl 69 _ _ rfl (g + 1 + 1) #[.int .i64 u.1, .int .i64 u.2.2.1, .int .i64 u.2.1] rfl rfl 69 #[.int .i64 0, .int .i64 0, .int .i64 0] (by exact (setRow_other w2 (g + 1) (g + 1 + 1) _ (by omega)).trans L2.out) (by kernel_rfl) (by kernel_rfl) (by kernel_rfl) ?_))
    have B1 := (setRow_other (w2.setRow (g + 1) #[.int .i64 s.1, .int .i64 s.2.2.1, .int .i64 s.2.1]) (g + 1 + 1) (g + 1) #[.int .i64 u.1, .int .i64 u.2.2.1, .int .i64 u.2.1] (by omega)).trans (setRow_heap _ _ _ _ _ _ L1.out)
    have B2 : ((w2.setRow (g + 1) #[.int .i64 s.1, .int .i64 s.2.2.1, .int .i64 s.2.1]).setRow (g + 1 + 1) #[.int .i64 u.1, .int .i64 u.2.2.1, .int .i64 u.2.1]).heap[g + 1 + 1]? = some (.cells #[.int .i64 u.1, .int .i64 u.2.2.1, .int .i64 u.2.1] 69 (0, 0)) := setRow_heap _ _ _ _ _ _ ((setRow_other w2 (g + 1) (g + 1 + 1) _ (by omega)).trans L2.out)
    refine bodyPost_ret (results_cct rfl _ _ (g + 1) (g + 1 + 1) _ _ rfl B1 rfl B2 rfl rfl) rfl ?_
    rw [e1.out.1, e1.out.2]
    exact ⟨by simp [sgV, h0], (Code.Fr.setRow (Code.Fr.setRow F2.out _ (.inr (by omega))) _ (.inr (by omega)))⟩
end Go.Proofs.Ytlfckpmdmkccjaa.Blk
