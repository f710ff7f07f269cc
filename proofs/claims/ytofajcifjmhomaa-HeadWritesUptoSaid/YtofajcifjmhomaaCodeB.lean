/- Space, first codes, and Codes: walked. Conditions: none but the slice's. -/
import Derived.Test.YtofajcifjmhomaaCodeA
set_option linter.unusedVariables false
set_option linter.unusedSimpArgs false
set_option maxRecDepth 100000
namespace Go.Proofs.Ytofajcifjmhomaa.Code
open Go.RowKit Go.IntWalk Go.Proofs.Ytofajcifjmhomaa.Lib Go.Proofs.Ytofajcifjmhomaa.Ints

def spErr (lens : List Int) : Int := if bad lens = true then 50 else 0
def spVal (lens : List Int) : Nat := if bad lens = true then 0 else space lens
set_option maxHeartbeats 8000000 in
theorem firsts_any (w : World) (f : Nat → Nat) (hf : ∀ l, f l ≤ 288) :
    Calls Try.prog 94 #[.agg (vec f)] w fun e w' => e = .returned (.agg (vec (firstF f))) ∧ Fr w w' [] := by
  have HF := Hd.mk hf
  clear hf
  go_enter Try.func94, Try.ntmps94
  go_upto_region 2 with (fail)
  rw [vec_zero]
  have N0 := blk_alloc (blk_alloc (blk_new w (.cells (vec f) 126)) (.cells (vec fun _ => 0) 126)) (.cells (vec fun _ => 0) 126)
  have R0 := blk_alloc (blk_new (w.alloc (.cells (vec f) 126)) (.cells (vec fun _ => 0) 126)) (.cells (vec fun _ => 0) 126)
  have X0 := blk_new ((w.alloc (.cells (vec f) 126)).alloc (.cells (vec fun _ => 0) 126)) (.cells (vec fun _ => 0) 126)
  have F0 := (((Fr.refl w []).alloc (.cells (vec f) 126)).alloc (.cells (vec fun _ => 0) 126)).alloc (.cells (vec fun _ => 0) 126)
  simp only [World.size_alloc] at R0 X0
  obtain ⟨gb, hgb⟩ : ∃ gb, gb = w.heap.size := ⟨_, rfl⟩
  obtain ⟨gr, hgr⟩ : ∃ gr, gr = w.heap.size + 1 := ⟨_, rfl⟩
  obtain ⟨gx, hgx⟩ : ∃ gx, gx = w.heap.size + 1 + 1 := ⟨_, rfl⟩
  rw [← hgx] at X0 
  rw [← hgr] at R0 
  rw [← hgb] at N0 
  have hgg : w.heap.size ≤ gb ∧ w.heap.size ≤ gr ∧ w.heap.size ≤ gx ∧ gb ≠ gx ∧ gr ≠ gx := by omega
  rw [← hgx, ← hgr, ← hgb]
  generalize (((w.alloc (.cells (vec f) 126)).alloc (.cells (vec fun _ => 0) 126)).alloc (.cells (vec fun _ => 0) 126)) = w1 at *
  have HN := Hd.mk N0
  have HR := Hd.mk R0
  have HX := Hd.mk X0
  have F1 := Hd.mk F0
  clear N0 R0 X0 F0 hgb hgr hgx
  go_wp2
  go_loopg [4, 5] 15 (fun kq cv lv wr => ∃ (m s : Nat), cv = .int .i64 (s : Nat) ∧ lv = .int .i64 ((m + 1 : Nat) : Int) ∧ m + kq = 15 ∧ Hd (s = firstF f m) ∧ Hd (wr.heap[gb]? = some (.cells (vec f) 126 (0, 0))) ∧ Hd (wr.heap[gr]? = some (.cells (vec fun _ => 0) 126 (0, 0))) ∧ Hd (wr.heap[gx]? = some (.cells (vec fun i => if i ≤ m then firstF f i else 0) 126 (0, 0))) ∧ Hd (Fr w wr []))
  case atStart => exact ⟨0, 0, rfl, rfl, rfl, ⟨rfl⟩, HN, HR, ⟨by rw [HX.out]; exact congrArg some (congrArg (fun v => Obj.cells v _ _) (vec_congr fun i _ => by cases i <;> simp [firstF]))⟩, F1⟩
  case round =>
    obtain ⟨m, s, rfl, rfl, hm, HS, HN, HR, HX, HFr⟩ := hrel
    by_cases h : m < 15
    · have hm0 : (m : Int) < 16 := by omega
      have hm1 : (m : Int) + 1 < 16 := by omega
      have kn := (blk_cell HN.out m).trans (vec_get f (by omega))
      obtain ⟨kv, kx⟩ : ∃ v, wr.cell? ⟨gx, m + 1, none⟩ = some v := ⟨_, (blk_cell HX.out (m + 1)).trans (vec_get _ (by omega))⟩
      have fx := blk_frozen HX.out (m + 1)
      obtain ⟨fm, hfm⟩ : ∃ fm, fm = f m := ⟨_, rfl⟩
      have hfb : fm ≤ 288 := by rw [hfm]; exact HF.out m
      rw [← hfm] at kn
      have hsb : s ≤ 18874368 := by
        have h1 := firstF_le HF.out m
        have h2 : 2 ^ (m + 1) * 288 ≤ 2 ^ 16 * 288 := Nat.mul_le_mul_right 288 (Nat.pow_le_pow_right (by omega) (by omega))
        rw [HS.out]
        omega
      have HFM := Hd.mk hfm
      clear hfm
      go_wp2
      have e1 : (((s : Int) + (fm : Nat)) * 2) = (((s + fm) * 2 : Nat) : Int) := by push_cast; rfl
      rw [e1]
      have HX2 := blk_set HX.out (m + 1) (.int .i64 (((s + fm) * 2 : Nat) : Int))
      rw [vec_set] at HX2
      have e3 : vec (upd (fun i => if i ≤ m then firstF f i else 0) (m + 1) ((s + fm) * 2)) = vec (fun i => if i ≤ m + 1 then firstF f i else 0) := vec_congr fun i _ => by
        unfold upd
        show (if i = m + 1 then (s + fm) * 2 else if i ≤ m then firstF f i else 0) = if i ≤ m + 1 then firstF f i else 0
        by_cases h1 : i = m + 1
        · subst h1
          rw [if_pos rfl, if_pos (Nat.le_refl _), HS.out, HFM.out]
          rfl
        · rw [if_neg h1]
          by_cases h2 : i ≤ m
          · rw [if_pos h2, if_pos (by omega)]
          · rw [if_neg h2, if_neg (by omega)]
      rw [e3] at HX2
      have HX3 := Hd.mk HX2
      clear HX2 e3
      go_roundg (gk - 1)
      case measure => omega
      case rel => exact ⟨m + 1, (s + fm) * 2, rfl, by go_num, by omega, ⟨by rw [HS.out, HFM.out]; rfl⟩, ⟨blk_far HN.out hgg.2.2.2.1 _⟩, ⟨blk_far HR.out hgg.2.2.2.2 _⟩, HX3, ⟨HFr.out.setCell _ (.inr hgg.2.2.1)⟩⟩
    · obtain rfl : m = 15 := by omega
      go_wp2_with (first | (refine wpl_load_vec rfl _ rfl gx rfl _ HX.out ?_) | (refine wpl_store_vec rfl _ _ rfl gr _ (fun _ => 0) rfl rfl HR.out ?_))
      refine bodyPost_ret (results_cell_row rfl _ _ gr 126 _ _ _ rfl (setRow_heap _ _ _ _ _ _ HR.out) Try.underlying126 rfl (infoArr.trans (by rw [vec_size]))) rfl ?_
      refine ⟨?_, Fr.setRow HFr.out _ (.inr hgg.2.1)⟩
      exact congrArg (fun v => Ending.returned (Value.agg v)) (vec_congr fun i hi => by rw [if_pos (by omega)])
theorem own_any {w : World} {base g : Nat} {e : TypeId} {size n cap : Nat} {xs : List Value} (h : w.ownsRow base e size (.slice (some ⟨g, 0, none⟩) n cap) n xs) {j : Nat} (hj : j < n * size) : ∃ v, w.cell? ⟨g, j, none⟩ = some v ∧ w.frozen? ⟨g, j, none⟩ = false :=
  ⟨_, (h.cellAt j hj).trans (List.getElem?_eq_getElem (by rw [h.1]; exact hj)), h.frozenAt j⟩
theorem set_mid : ∀ (a : List Value) (x y : Value) (b : List Value), (a ++ x :: b).set a.length y = a ++ y :: b
  | [], x, y, b => rfl
  | u :: a, x, y, b => by simp [set_mid a x y b]
def nv (L : List Nat) : List Value := i64s (L.map fun (c : Nat) => (c : Int))
theorem nv_len (L : List Nat) : (nv L).length = L.length := by simp [nv, i64s]
theorem nv_app (a b : List Nat) : nv (a ++ b) = nv a ++ nv b := by simp [nv, i64s]
def cdErr (lens : List Int) : Int := check lens
set_option maxHeartbeats 8000000 in
theorem codes_any (w : World) (A : Option Addr) (n c : Nat) (lens : List Int) (q : Option Nat) (hS : SlArg w A n c (i64s lens) q) (r : Int) (L : List Nat) (hr : r = check lens) (hL : L = codes lens) :
    Calls Try.prog 72 #[.slice A n c] w fun e w' => ∃ A' d', e = .returned (.tuple #[.slice A' L.length d', .int .i64 r]) ∧
      w'.ownsRow 0 3 1 (.slice A' L.length d') L.length (nv L) ∧ (∀ y, (Value.slice A' L.length d').ownBlock = some y → w.heap.size ≤ y) ∧ Fr w w' [] := by
  obtain ⟨j0, hj0, hj1, hj2, hj3⟩ := info_parts infoI64
  have HS := Hd.mk hS
  have HR := Hd.mk hr
  have HL := Hd.mk hL
  have hl : lens.length = n := by have := hS.len; simpa [i64s] using this
  clear hS hr hL
  go_enter Try.func72, Try.ntmps72
  go_wp2_with (fail)
  refine (check_any w A n c lens q HS.out r HR.out).mono ?_
  rintro e w1 ⟨rfl, h1⟩
  have F1 := Hd.mk h1
  clear h1
  by_cases hr0 : r = 0
  · subst hr0
    have hb : bad lens = false := by
      cases hb : bad lens with
      | false => rfl
      | true => have := HR.out; unfold check at this; rw [if_pos hb] at this; cases this
    have HB := Hd.mk hb
    obtain ⟨hl288, hall⟩ := bad_false hb
    have HALL := Hd.mk hall
    have HCZ : Hd (∀ l, cz lens l ≤ 288) := ⟨fun l => Nat.le_trans (cz_le lens l) hl288⟩
    have HL2 : Hd (L = codesF lens (firstF (cz lens))) := ⟨by rw [HL.out]; unfold codes; rw [if_pos HR.out.symm]⟩
    have hLn : L.length = n := by rw [HL2.out, codesF_len, hl]
    clear hb hall
    go_wp2_with (fail)
    refine (counts_any w1 A n c lens q (HS.out.frame F1.out (by simp)) false HB.out.symm).mono ?_
    rintro e w2 ⟨F, rfl, hF, h2⟩
    rw [hF rfl]
    have F2 := Hd.mk (F1.out.trans h2 (by simp))
    clear hF h2
    go_upto_region 5 with (rw [vec_zero]; refine wpl_store_vec rfl _ _ rfl w2.heap.size _ (fun _ => 0) rfl rfl (by exact blk_new w2 _) ?_)
    have N0 := laid_vec w2 (cz lens)
    have G0 := laid_fr w2 (cz lens)
    generalize ((w2.alloc (.cells (vec fun _ => 0) 126)).setRow w2.heap.size (vec (cz lens))) = w3 at *
    generalize w2.heap.size = gn at *
    have HN := Hd.mk N0
    have F3 := Hd.mk (F2.out.trans G0 (by simp))
    clear N0 G0 F2
    go_wp2_with (first | (refine wpl_load_vec rfl _ rfl gn rfl _ HN.out ?_))
    refine (firsts_any w3 (cz lens) HCZ.out).mono ?_
    rintro e w4 ⟨rfl, h4⟩
    have F4 := Hd.mk (F3.out.trans h4 (by simp))
    clear h4
    go_upto_region 6 with (rw [vec_zero]; refine wpl_store_vec rfl _ _ rfl w4.heap.size _ (fun _ => 0) rfl rfl (by exact blk_new w4 _) ?_)
    have N0 := laid_vec w4 (firstF (cz lens))
    have G0 := laid_fr w4 (firstF (cz lens))
    have hgx : w.heap.size ≤ w4.heap.size := F4.out.size
    generalize ((w4.alloc (.cells (vec fun _ => 0) 126)).setRow w4.heap.size (vec (firstF (cz lens)))) = w5 at *
    generalize w4.heap.size = gx at *
    have HX := Hd.mk N0
    have F5 := Hd.mk (F4.out.trans G0 (by simp))
    clear N0 G0 F4 HN
    go_wp2_with (refine wpList_make_full _ rfl _ _ 22 rfl 0 3 j0 (.int .i64 0) 1 Try.underlying22 hj0 hj1 hj2 .i64 .i64 _ _ n rfl rfl rfl rfl (by rw [hj3]; omega) (by unfold maxLen; omega) (Nat.zero_le _) ?_; intro w6 hown1 hgrow1; have O6 := Hd.mk hown1; have F6 := Hd.mk (F5.out.grown hgrow1 (by simp)); have X6 := Hd.mk (blk_grown hgrow1 HX.out (by simp)); clear hown1 hgrow1)
    have hgo : w.heap.size ≤ w5.heap.size := F5.out.size
    have F6' := F6
    generalize w5.heap.size = go at *
    have O6' : Hd (w6.ownsRow 0 3 1 (.slice (some ⟨go, 0, none⟩) n n) n (nv [] ++ i64s (List.replicate (n - 0) 0))) := ⟨by
      have e := toList_madeCells_one (Value.int .i64 0) (n * 1)
      have e2 : (Value.int .i64 0).cells = #[Value.int .i64 0] := rfl
      have e3 : nv [] ++ i64s (List.replicate (n - 0) 0) = (madeCells (Value.int .i64 0).cells (n * 1)).toList := by
        rw [e2, e]
        simp [nv, i64s]
      rw [e3]
      exact O6.out⟩
    clear O6
    go_loopg [28] n (fun kq iv wr => ∃ (i : Nat) (nx : Nat → Nat) (dn : List Nat), iv = .int .i64 (i : Nat) ∧ i + kq = n ∧ dn.length = i ∧ Hd (L = dn ++ codesF (lens.drop i) nx) ∧ Hd (∀ l, l < 16 → nx l ≤ 18874368 + i) ∧ Hd (wr.heap[gx]? = some (.cells (vec nx) 126 (0, 0))) ∧ Hd (wr.ownsRow 0 3 1 (.slice (some ⟨go, 0, none⟩) n n) n (nv dn ++ i64s (List.replicate (n - i) 0))) ∧ Hd (Fr w wr []))
    case atStart => exact ⟨0, firstF (cz lens), [], rfl, by omega, rfl, ⟨by rw [HL2.out]; rfl⟩, ⟨fun l hl => by
      have h1 := firstF_le HCZ.out l
      have h2 : 2 ^ (l + 1) * 288 ≤ 2 ^ 16 * 288 := Nat.mul_le_mul_right 288 (Nat.pow_le_pow_right (by omega) (by omega))
      omega⟩, X6, O6', F6⟩
    case round =>
      obtain ⟨i, nx, dn, rfl, hik, hdn, HLL, HNX, HX, HO, HFr⟩ := hrel
      have hne : go ≠ gx := by
        obtain ⟨cs, hcs⟩ := own_type HO.out (k := go) rfl
        exact blk_ne hcs HX.out (by decide)
      by_cases hi : i < n
      · obtain ⟨bd, off, rfl, _, hcc⟩ := (HS.out.sl.frame HFr.out (by simp)) (by rw [i64s_length]; omega)
        have kd := (hcc i (by rw [i64s_length]; omega)).trans (i64s_get lens i)
        obtain ⟨x, hx⟩ : ∃ x, lens[i]? = some x := ⟨_, List.getElem?_eq_getElem (by omega)⟩
        rw [hx] at kd
        simp only [Option.map_some] at kd
        obtain ⟨hil, hxe⟩ := List.getElem?_eq_some_iff.mp hx
        have hxb := HALL.out x (by rw [← hxe]; exact List.getElem_mem hil)
        have HDR : Hd (codesF (lens.drop i) nx = (if 0 < x then nx x.toNat else 0) :: codesF (lens.drop (i + 1)) (if 0 < x then upd nx x.toNat (nx x.toNat + 1) else nx)) := ⟨by rw [List.drop_eq_getElem_cons hil, hxe]; rfl⟩
        have hrep : Hd (List.replicate (n - i) (0 : Int) = 0 :: List.replicate (n - (i + 1)) 0) := ⟨by rw [show n - i = n - (i + 1) + 1 from by omega]; rfl⟩
        obtain ⟨v, rfl⟩ := Int.eq_ofNat_of_zero_le (show 0 ≤ x by omega)
        clear hcc hx hxe hil
        by_cases hv : (v : Int) > 0
        · have hv16 : (v : Int) < 16 := by omega
          have kn := (blk_cell HX.out v).trans (vec_get nx (by omega))
          have fn := blk_frozen HX.out v
          obtain ⟨nvv, hnv⟩ : ∃ z, z = nx v := ⟨_, rfl⟩
          have hnb : nvv ≤ 18874368 + i := by rw [hnv]; exact HNX.out v (by omega)
          rw [← hnv] at kn
          have HNV := Hd.mk hnv
          obtain ⟨u0, y0, f0⟩ := own_any HO.out (j := i) (by omega)
          have HO2 := Hd.mk ((HO.out.stored i (.int .i64 (nvv : Nat))).1)
          have kn2 : (wr.setCell ⟨go, i, none⟩ (.int .i64 (nvv : Nat))).cell? ⟨gx, v, none⟩ = some (.int .i64 (nvv : Nat)) := (blk_cell (blk_far HX.out (p := ⟨go, i, none⟩) (Ne.symm hne) _) v).trans (by rw [vec_get nx (by omega), hnv])
          have fn2 : (wr.setCell ⟨go, i, none⟩ (.int .i64 (nvv : Nat))).frozen? ⟨gx, v, none⟩ = false := blk_frozen (blk_far HX.out (p := ⟨go, i, none⟩) (Ne.symm hne) _) v
          have HX2 := Hd.mk (blk_set (blk_far HX.out (p := ⟨go, i, none⟩) (Ne.symm hne) (.int .i64 (nvv : Nat))) v (.int .i64 ((nvv + 1 : Nat) : Int)))
          have HO3 := Hd.mk (own_setFar HO2.out (a := ⟨gx, v, none⟩) (.int .i64 ((nvv + 1 : Nat) : Int)) (by simp [Value.ownBlock]; exact hne))
          clear hnv
          go_wp2
          go_roundg (gk - 1)
          case measure => omega
          case rel =>
            refine ⟨i + 1, upd nx v (nvv + 1), dn ++ [nvv], by go_num, by omega, by simp [hdn], ⟨?_⟩, ⟨?_⟩, ⟨?_⟩, ⟨?_⟩, ⟨(HFr.out.setCell _ (.inr hgo)).setCell _ (.inr hgx)⟩⟩
            · rw [HLL.out, HDR.out, if_pos hv, if_pos hv, Int.toNat_natCast, ← HNV.out, List.append_assoc]; rfl
            · intro l hl16
              have := HNX.out l hl16
              unfold upd
              split <;> omega
            · have := HX2.out
              rw [vec_set] at this
              exact this
            · have := HO3.out
              rw [hrep.out] at this
              have e : (nv dn ++ i64s (0 :: List.replicate (n - (i + 1)) 0)).set i (.int .i64 (nvv : Nat)) = nv (dn ++ [nvv]) ++ i64s (List.replicate (n - (i + 1)) 0) := by
                have h0 := set_mid (nv dn) (.int .i64 0) (.int .i64 (nvv : Nat)) (i64s (List.replicate (n - (i + 1)) 0))
                rw [nv_len, hdn] at h0
                rw [nv_app, List.append_assoc]
                exact h0
              rw [e] at this
              exact this
        · obtain rfl : v = 0 := by omega
          have HO2 : Hd (wr.ownsRow 0 3 1 (.slice (some ⟨go, 0, none⟩) n n) n (nv (dn ++ [0]) ++ i64s (List.replicate (n - (i + 1)) 0))) := ⟨by
            have := HO.out
            rw [hrep.out] at this
            rw [nv_app, List.append_assoc]
            exact this⟩
          have HL3 : Hd (L = (dn ++ [0]) ++ codesF (lens.drop (i + 1)) nx) := ⟨by rw [HLL.out, HDR.out, if_neg (by omega), if_neg (by omega), List.append_assoc]; rfl⟩
          clear HO HLL HDR
          go_wp2
          go_roundg (gk - 1)
          case measure => omega
          case rel => exact ⟨i + 1, nx, dn ++ [0], by go_num, by omega, by simp [hdn], HL3, ⟨fun l hl16 => by have := HNX.out l hl16; omega⟩, HX, HO2, HFr⟩
      · obtain rfl : i = n := by omega
        have e1 : Hd (L = dn) := ⟨by rw [HLL.out, List.drop_of_length_le (by omega)]; simp [codesF]⟩
        go_wp2
        go_ret2
        have := HO.out
        rw [Nat.sub_self, ← e1.out, show i64s (List.replicate 0 (0 : Int)) = [] from rfl, List.append_nil] at this
        rw [hLn]
        exact ⟨_, _, rfl, this, (by intro y hy; cases hy; exact hgo), HFr.out⟩
  · have hne : (r != 0) = true := by simpa using hr0
    obtain rfl : L = [] := by rw [HL.out]; unfold codes; rw [if_neg (by rw [← HR.out]; exact hr0)]
    go_wp2
    go_ret2
    exact ⟨none, 0, rfl, (show w1.ownsRow 0 3 1 (.slice none 0 0) 0 [] from own_nil _ _ _ _), (by intro j hj; cases hj), F1.out⟩
end Go.Proofs.Ytofajcifjmhomaa.Code
