/- Chapter 09: the rows of lengths and distances, the place in them. No condition. -/
import Derived.Test.YtlfckpmdmkccjaaCodeA
import Derived.Laws.Tables
set_option linter.unusedVariables false
set_option linter.unusedSimpArgs false
set_option maxRecDepth 100000
namespace Go.Proofs.Ytlfckpmdmkccjaa.Blk
open Go.RowKit Go.Proofs.Ytlfckpmdmkccjaa.Lib Go.Proofs.Ytlfckpmdmkccjaa.Ints
def lenT : List (Int × Int) := [(3, 0), (4, 0), (5, 0), (6, 0), (7, 0), (8, 0), (9, 0), (10, 0), (11, 1), (13, 1), (15, 1), (17, 1), (19, 2), (23, 2), (27, 2), (31, 2), (35, 3), (43, 3), (51, 3), (59, 3), (67, 4), (83, 4), (99, 4), (115, 4), (131, 5), (163, 5), (195, 5), (227, 5), (258, 0)]
def distT : List (Int × Int) := [(1, 0), (2, 0), (3, 0), (4, 0), (5, 1), (7, 1), (9, 2), (13, 2), (17, 3), (25, 3), (33, 4), (49, 4), (65, 5), (97, 5), (129, 6), (193, 6), (257, 7), (385, 7), (513, 8), (769, 8), (1025, 9), (1537, 9), (2049, 10), (3073, 10), (4097, 11), (6145, 11), (8193, 12), (12289, 12), (16385, 13), (24577, 13)]
def rc (x : Int × Int) : List Value := [.int .i64 x.1, .int .i64 x.2]
def rcs (l : List (Int × Int)) : List Value := l.flatMap rc
theorem lenRows_info : (Try.prog.info? 79).map (·.size) = some (rcs lenT).toArray.size := by kernel_rfl
set_option maxHeartbeats 2000000 in
theorem lenRows_any (w : World) : Calls Try.prog 32 #[] w fun e w' => e = .returned (.agg (rcs lenT).toArray) ∧ Fr w w' [] := by
  go_enter Try.func32, Try.ntmps32
  go_upto_region 1 with (fail)
  go_wp2_with (first
    | (refine wpList_build rfl 79 #[(0, .tmp 1), (1, .tmp 2), (2, .tmp 3), (3, .tmp 4), (4, .tmp 5), (5, .tmp 6), (6, .tmp 7), (7, .tmp 8), (8, .tmp 9), (9, .tmp 10), (10, .tmp 11), (11, .tmp 12), (12, .tmp 13), (13, .tmp 14), (14, .tmp 15), (15, .tmp 16), (16, .tmp 17), (17, .tmp 18), (18, .tmp 19), (19, .tmp 20), (20, .tmp 21), (21, .tmp 22), (22, .tmp 23), (23, .tmp 24), (24, .tmp 25), (25, .tmp 26), (26, .tmp 27), (27, .tmp 28), (28, .tmp 29)] rfl (by kernel_rfl) ?_; rw [show (Try.prog.built 79 _).getD #[] = (rcs lenT).toArray from by kernel_rfl])
    | (refine wpList_store_row rfl 79 _ _ rfl w.heap.size (rcs lenT).toArray rfl rfl 79 _ (by exact blk_new w _) (by kernel_rfl) (by kernel_rfl) (by kernel_rfl) ?_))
  refine bodyPost_ret (results_cell_row rfl _ _ w.heap.size 79 _ _ _ rfl (setRow_heap _ _ _ _ _ _ (blk_new w _)) Try.underlying79 rfl lenRows_info) rfl ?_
  exact ⟨rfl, Code.Fr.setRow ((Fr.refl w []).alloc _) _ (.inr (Nat.le_refl _))⟩
theorem distRows_info : (Try.prog.info? 84).map (·.size) = some (rcs distT).toArray.size := by kernel_rfl
set_option maxHeartbeats 2000000 in
theorem distRows_any (w : World) : Calls Try.prog 35 #[] w fun e w' => e = .returned (.agg (rcs distT).toArray) ∧ Fr w w' [] := by
  go_enter Try.func35, Try.ntmps35
  go_upto_region 1 with (fail)
  go_wp2_with (first
    | (refine wpList_build rfl 84 #[(0, .tmp 1), (1, .tmp 2), (2, .tmp 3), (3, .tmp 4), (4, .tmp 5), (5, .tmp 6), (6, .tmp 7), (7, .tmp 8), (8, .tmp 9), (9, .tmp 10), (10, .tmp 11), (11, .tmp 12), (12, .tmp 13), (13, .tmp 14), (14, .tmp 15), (15, .tmp 16), (16, .tmp 17), (17, .tmp 18), (18, .tmp 19), (19, .tmp 20), (20, .tmp 21), (21, .tmp 22), (22, .tmp 23), (23, .tmp 24), (24, .tmp 25), (25, .tmp 26), (26, .tmp 27), (27, .tmp 28), (28, .tmp 29), (29, .tmp 30)] rfl (by kernel_rfl) ?_; rw [show (Try.prog.built 84 _).getD #[] = (rcs distT).toArray from by kernel_rfl])
    | (refine wpList_store_row rfl 84 _ _ rfl w.heap.size (rcs distT).toArray rfl rfl 84 _ (by exact blk_new w _) (by kernel_rfl) (by kernel_rfl) (by kernel_rfl) ?_))
  refine bodyPost_ret (results_cell_row rfl _ _ w.heap.size 84 _ _ _ rfl (setRow_heap _ _ _ _ _ _ (blk_new w _)) Try.underlying84 rfl distRows_info) rfl ?_
  exact ⟨rfl, Code.Fr.setRow ((Fr.refl w []).alloc _) _ (.inr (Nat.le_refl _))⟩
end Go.Proofs.Ytlfckpmdmkccjaa.Blk
