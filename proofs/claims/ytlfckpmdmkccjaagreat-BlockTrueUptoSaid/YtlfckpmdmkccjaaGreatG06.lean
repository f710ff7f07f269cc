/- Texts of this claim, one behind the other: CodeA, BlkA, BlkB, BlkC. -/
import Derived.Test.YtlfckpmdmkccjaaGreatG05
import Derived.Test.YtlfckpmdmkccjaaGreatG01
import Derived.IntWalk
import Derived.Laws.Tables
/- How many codes there are of each length, and how much of the space these take: walked. Conditions: none but the slice's. -/
set_option linter.unusedVariables false
set_option linter.unusedSimpArgs false
set_option maxRecDepth 100000
namespace Go.Proofs.YtlfckpmdmkccjaaGreat.Code
open Go.RowKit Go.IntWalk Go.Proofs.YtlfckpmdmkccjaaGreat.Lib Go.Proofs.YtlfckpmdmkccjaaGreat.Ints

/-- sixteen numbers -/
def vec (f : Nat → Nat) : Array Value := ((List.range 16).map fun i => Value.int .i64 (f i : Nat)).toArray
theorem vec_size (f : Nat → Nat) : (vec f).size = 16 := by simp [vec]
theorem vec_get (f : Nat → Nat) {i : Nat} (h : i < 16) : (vec f)[i]? = some (.int .i64 (f i : Nat)) := by
  simp [vec, h]
theorem vec_set (f : Nat → Nat) (i v : Nat) : (vec f).setIfInBounds i (.int .i64 (v : Nat)) = vec (upd f i v) := by
  apply Array.ext_getElem?
  intro k
  rw [Array.getElem?_setIfInBounds]
  by_cases h : k < 16
  · by_cases e : i = k
    · subst e
      rw [if_pos rfl, if_pos (by rw [vec_size]; exact h), vec_get _ h]
      simp [upd]
    · rw [if_neg e, vec_get _ h, vec_get _ h]
      simp only [upd]
      rw [if_neg (fun e2 => e e2.symm)]
  · have h1 : (vec f)[k]? = none := Array.getElem?_eq_none (by rw [vec_size]; omega)
    have h2 : (vec (upd f i v))[k]? = none := Array.getElem?_eq_none (by rw [vec_size]; omega)
    rw [h1, h2]
    split
    · rename_i e
      subst e
      rw [if_neg (by rw [vec_size]; exact h)]
    · rfl
theorem vec_congr {f g : Nat → Nat} (h : ∀ i, i < 16 → f i = g i) : vec f = vec g := by
  apply Array.ext_getElem?
  intro k
  by_cases hk : k < 16
  · rw [vec_get _ hk, vec_get _ hk, h k hk]
  · rw [Array.getElem?_eq_none (by rw [vec_size]; omega), Array.getElem?_eq_none (by rw [vec_size]; omega)]
theorem vec_one (f : Nat → Nat) : (vec f).all (·.oneCell') = true := by
  rw [Array.all_eq_true_iff_forall_mem]
  intro v hv
  have : v ∈ (vec f).toList := by simpa using hv
  simp only [vec, List.mem_map] at this
  obtain ⟨_, _, rfl⟩ := this
  rfl
theorem vec_zero : (#[Value.int .i64 0, Value.int .i64 0, Value.int .i64 0, Value.int .i64 0, Value.int .i64 0, Value.int .i64 0, Value.int .i64 0, Value.int .i64 0, Value.int .i64 0, Value.int .i64 0, Value.int .i64 0, Value.int .i64 0, Value.int .i64 0, Value.int .i64 0, Value.int .i64 0, Value.int .i64 0] : Array Value) = vec (fun _ => 0) := by kernel_rfl
theorem infoArr : (Tryz.prog.info? 233).map (·.size) = some 16 := by kernel_rfl
theorem results_cell2 {fn : Func} {p q : Tmp} {ty : TypeId} (h : fn.results = #[.cell p ty, .tmp q]) (tmps : Array Value) (w : World) (g : Nat) (t : TypeId) (cs : Array Value) (fr : Nat × Nat) {k : Nat} {e : TypeId}
    (hp : tmps.getD p undef = .pointer (some ⟨g, 0, none⟩)) (hg : w.heap[g]? = some (.cells cs t fr)) (v : Value) (hv : tmps.getD q undef = v)
    (hu : Tryz.prog.underlying ty = some (.array k e)) (hi : (Tryz.prog.info? ty).map (·.size) = some cs.size) :
    (results fn tmps).run Tryz.prog w = .ok (.tuple #[.agg cs, v]) w := by
  have hp' : tmps[p]?.getD undef = .pointer (some ⟨g, 0, none⟩) := by simpa using hp
  have hv' : tmps[q]?.getD undef = v := by simpa using hv
  simp [results, h, hp', hv', asAddr, run_loadVar_row w g t ty cs fr _ hg hu rfl hi]
theorem wpl_load_vec {ops : Array Oper} {rest : List Oper} {o : Oper} {a : Act} {w : World} {Q : Exit → Act → World → Prop} (hgd : o.guard = none) (x : Operand) (ho : o.op = .load 233 x)
    (g : Nat) (hx : a.eval x = .pointer (some ⟨g, 0, none⟩)) (f : Nat → Nat) (hg : w.heap[g]? = some (.cells (vec f) 233 (0, 0)))
    (h : wpList Tryz.prog ops Q rest (a.put o.dst (.agg (vec f))) w) : wpList Tryz.prog ops Q (o :: rest) a w :=
  wpList_load_row hgd 233 x ho g hx 233 (vec f) (0, 0) _ hg Tryz.underlying233 rfl (infoArr.trans (by rw [vec_size])) h
theorem wpl_store_vec {ops : Array Oper} {rest : List Oper} {o : Oper} {a : Act} {w : World} {Q : Exit → Act → World → Prop} (hgd : o.guard = none) (x y : Operand) (ho : o.op = .store 233 x y)
    (g : Nat) (f e : Nat → Nat) (hx : a.eval x = .pointer (some ⟨g, 0, none⟩)) (hy : a.eval y = .agg (vec f)) (hg : w.heap[g]? = some (.cells (vec e) 233 (0, 0)))
    (h : wpList Tryz.prog ops Q rest (a.put o.dst undef) (w.setRow g (vec f))) : wpList Tryz.prog ops Q (o :: rest) a w :=
  wpList_store_row hgd 233 x y ho g (vec f) hx hy 233 (vec e) hg (infoArr.trans (by rw [vec_size])) ((vec_size _).trans (vec_size _).symm) (vec_one f) h
theorem Fr.setRow {w w' : World} {F : List Nat} (h : Fr w w' F) {g : Nat} (cs : Array Value) (hg : g ∈ F ∨ w.heap.size ≤ g) : Fr w (w'.setRow g cs) F :=
  ⟨h.os, h.tape, h.output, by rw [size_setRow]; exact h.size, fun k hk hF => (setRow_other w' g k cs (by rintro rfl; rcases hg with hg | hg; exact hF hg; omega)).trans (h.block k hk hF)⟩
set_option maxHeartbeats 8000000 in
theorem counts_any (w : World) (A : Option Addr) (n c : Nat) (lens : List Int) (q : Option Nat) (hS : SlArg w A n c (i64s lens) q) (b : Bool) (hb : b = bad lens) :
    Calls Tryz.prog 135 #[.slice A n c] w fun e w' => ∃ F, e = .returned (.tuple #[.agg (vec F), .bool (!b)]) ∧ (b = false → vec F = vec (cz lens)) ∧ Fr w w' [] := by
  have HS := Hd.mk hS
  have hl : lens.length = n := by have := hS.len; simpa [i64s] using this
  have HB := Hd.mk hb
  clear hS hb
  go_enter Tryz.func135, Tryz.ntmps135
  go_upto_region 2 with (fail)
  rw [vec_zero]
  have Z0 := blk_alloc (blk_new w (.cells (vec fun _ => 0) 233)) (.cells (vec fun _ => 0) 233)
  have N0 := blk_new (w.alloc (.cells (vec fun _ => 0) 233)) (.cells (vec fun _ => 0) 233)
  have F0 := ((Fr.refl w []).alloc (.cells (vec fun _ => 0) 233)).alloc (.cells (vec fun _ => 0) 233)
  rw [World.size_alloc] at N0
  obtain ⟨gz, hgz⟩ : ∃ gz, gz = w.heap.size := ⟨_, rfl⟩
  obtain ⟨gn, hgn⟩ : ∃ gn, gn = w.heap.size + 1 := ⟨_, rfl⟩
  rw [← hgn] at N0 ⊢
  rw [← hgz] at Z0 ⊢
  have hgb : w.heap.size ≤ gz ∧ w.heap.size ≤ gn ∧ gz ≠ gn := by omega
  generalize ((w.alloc (.cells (vec fun _ => 0) 233)).alloc (.cells (vec fun _ => 0) 233)) = w1 at *
  have HZ := Hd.mk Z0
  have HN := Hd.mk N0
  have F1 := Hd.mk F0
  clear Z0 N0 F0 hgz hgn
  by_cases h288 : (n : Int) > 288
  · obtain rfl : b = true := by rw [HB.out]; exact bad_long (by omega)
    go_wp2_with (first | (refine wpl_load_vec rfl _ rfl gn rfl _ HN.out ?_) | (refine wpl_store_vec rfl _ _ rfl gz (fun _ => 0) _ rfl rfl HZ.out ?_))
    refine bodyPost_ret (results_cell2 rfl _ _ gz 233 _ _ rfl (setRow_heap _ _ _ _ _ _ HZ.out) (.bool false) rfl Tryz.underlying233 (infoArr.trans (by rw [vec_size]))) rfl ?_
    exact ⟨_, rfl, (by intro h; cases h), Fr.setRow F1.out _ (.inr hgb.1)⟩
  · have HBL : Hd (b = false ∨ b = true) := ⟨by cases b <;> simp⟩
    go_wp2
    go_loopg [13] n (fun kq jv wr => ∃ (j : Nat) (f : Nat → Nat), jv = .int .i64 (j : Nat) ∧ j + kq = n ∧ Hd (wr.heap[gz]? = some (.cells (vec fun _ => 0) 233 (0, 0))) ∧ Hd (wr.heap[gn]? = some (.cells (vec f) 233 (0, 0))) ∧ Hd (f = cnt (lens.take j)) ∧ Hd (∀ (i : Nat) (hi : i < lens.length), i < j → 0 ≤ lens[i] ∧ lens[i] ≤ 15) ∧ Hd (Fr w wr []))
    case atStart => exact ⟨0, fun _ => 0, rfl, by omega, HZ, HN, ⟨by funext l; simp [cnt]⟩, ⟨by intro i hi h; omega⟩, F1⟩
    case round =>
      obtain ⟨j, f, rfl, hj, HZ, HN, HF, HP, HFr⟩ := hrel
      by_cases hjn : j < n
      · obtain ⟨bd, off, rfl, _, hcc⟩ := (HS.out.sl.frame HFr.out (by simp)) (by rw [i64s_length]; omega)
        have kd := (hcc j (by rw [i64s_length]; omega)).trans (i64s_get lens j)
        obtain ⟨x, hx⟩ : ∃ x, lens[j]? = some x := ⟨_, List.getElem?_eq_getElem (by omega)⟩
        rw [hx] at kd
        simp only [Option.map_some] at kd
        have HX : Hd (∃ h : j < lens.length, lens[j] = x) := ⟨List.getElem?_eq_some_iff.mp hx⟩
        clear hcc hx
        by_cases hx0 : x < 0
        · obtain rfl : b = true := by
            obtain ⟨e, he⟩ := HX.out
            rw [HB.out]; exact bad_at e (by omega)
          go_wp2_with (first | (refine wpl_load_vec rfl _ rfl gn rfl _ HN.out ?_) | (refine wpl_store_vec rfl _ _ rfl gz f _ rfl rfl HZ.out ?_))
          refine bodyPost_ret (results_cell2 rfl _ _ gz 233 _ _ rfl (setRow_heap _ _ _ _ _ _ HZ.out) (.bool false) rfl Tryz.underlying233 (infoArr.trans (by rw [vec_size]))) rfl ?_
          exact ⟨⟨_, rfl⟩, Fr.setRow HFr.out _ (.inr hgb.1)⟩
        · by_cases hx1 : x > 15
          · obtain rfl : b = true := by
              obtain ⟨e, he⟩ := HX.out
              rw [HB.out]; exact bad_at e (by omega)
            go_wp2_with (first | (refine wpl_load_vec rfl _ rfl gn rfl _ HN.out ?_) | (refine wpl_store_vec rfl _ _ rfl gz f _ rfl rfl HZ.out ?_))
            refine bodyPost_ret (results_cell2 rfl _ _ gz 233 _ _ rfl (setRow_heap _ _ _ _ _ _ HZ.out) (.bool false) rfl Tryz.underlying233 (infoArr.trans (by rw [vec_size]))) rfl ?_
            exact ⟨⟨_, rfl⟩, Fr.setRow HFr.out _ (.inr hgb.1)⟩
          · obtain ⟨v, rfl⟩ := Int.eq_ofNat_of_zero_le (show 0 ≤ x by omega)
            have hv16 : (v : Int) < 16 := by omega
            have kn := (blk_cell HN.out v).trans (vec_get f (by omega))
            have fn := blk_frozen HN.out v
            obtain ⟨fv, hfv⟩ : ∃ fv, fv = f v := ⟨_, rfl⟩
            have hfb : fv ≤ n := by
              rw [hfv, HF.out]
              have := cnt_le (lens.take j) v
              rw [List.length_take] at this
              omega
            rw [← hfv] at kn
            have HFV := Hd.mk hfv
            clear hfv
            go_wp2
            go_roundg (gk - 1)
            case measure => omega
            case rel =>
              refine ⟨j + 1, upd f v (fv + 1), by go_num, by omega, ⟨blk_far HZ.out hgb.2.2 _⟩, ⟨?_⟩, ⟨?_⟩, ⟨?_⟩, ⟨HFr.out.setCell _ (.inr hgb.2.1)⟩⟩
              · have := blk_set HN.out v (.int .i64 ((fv + 1 : Nat) : Int))
                rw [vec_set] at this
                exact this
              · obtain ⟨e, he⟩ := HX.out
                rw [cnt_take e he, ← HF.out, HFV.out]
              · intro i hi hij
                by_cases e : i = j
                · subst e
                  obtain ⟨e, he⟩ := HX.out
                  rw [he]; omega
                · exact HP.out i hi (by omega)
      · obtain rfl : j = n := by omega
        obtain rfl : b = false := by rw [HB.out]; exact bad_not (by omega) (fun i hi => HP.out i hi (by omega))
        have HF2 : Hd (f = cnt lens) := ⟨by rw [HF.out, ← hl, List.take_length]⟩
        have kn := (blk_cell HN.out 0).trans (vec_get f (by omega))
        have fn := blk_frozen HN.out 0
        go_upto_region 12 with (fail)
        have HN2 := Hd.mk (blk_set HN.out 0 (.int .i64 0))
        have HZ2 := Hd.mk (blk_far HZ.out (p := ⟨gn, 0, none⟩) hgb.2.2 (.int .i64 0))
        have HFr2 := Hd.mk (HFr.out.setCell (a := ⟨gn, 0, none⟩) (.int .i64 0) (.inr hgb.2.1))
        have e0 : (vec f).setIfInBounds 0 (.int .i64 0) = vec (cz lens) := by
          have := vec_set f 0 0
          rw [show (Value.int .i64 0) = .int .i64 ((0 : Nat) : Int) from rfl, this, HF2.out]
          exact congrArg vec (by funext l; simp only [upd, cz])
        rw [e0] at HN2
        generalize wr.setCell ⟨gn, 0, none⟩ (.int .i64 0) = w5 at *
        clear kn fn e0
        go_wp2_with (first | (refine wpl_load_vec rfl _ rfl gn rfl _ HN2.out ?_) | (refine wpl_store_vec rfl _ _ rfl gz (cz lens) _ rfl rfl HZ2.out ?_))
        refine bodyPost_ret (results_cell2 rfl _ _ gz 233 _ _ rfl (setRow_heap _ _ _ _ _ _ HZ2.out) (.bool true) rfl Tryz.underlying233 (infoArr.trans (by rw [vec_size]))) rfl ?_
        exact ⟨_, rfl, rfl, Fr.setRow HFr2.out _ (.inr hgb.1)⟩
theorem box_vec {f : Nat → Nat} : (Value.agg (vec f)).cells = vec f := rfl
set_option maxHeartbeats 8000000 in
theorem sp_any (w : World) (f : Nat → Nat) (hf : ∀ l, f l ≤ 288) :
    Calls Tryz.prog 152 #[.agg (vec f)] w fun e w' => e = .returned (.int .i64 (spaceF f 15 : Nat)) ∧ Fr w w' [] := by
  have HF := Hd.mk hf
  clear hf
  go_enter Tryz.func152, Tryz.ntmps152
  go_upto_region 1 with (fail)
  have N0 := blk_new w (.cells (vec f) 233)
  have F0 := (Fr.refl w []).alloc (.cells (vec f) 233)
  generalize w.alloc (.cells (vec f) 233) = w1 at *
  generalize w.heap.size = gn at *
  have HN := Hd.mk N0
  have F1 := Hd.mk F0
  clear N0 F0
  go_wp2
  go_loopg [3, 4] 15 (fun kq sv lv wr => ∃ (m s : Nat), sv = .int .i64 (s : Nat) ∧ lv = .int .i64 ((m + 1 : Nat) : Int) ∧ m + kq = 15 ∧ s ≤ m * 4718592 ∧ Hd (s = spaceF f m) ∧ wr = w1)
  case atStart => exact ⟨0, 0, rfl, rfl, rfl, by omega, ⟨rfl⟩, rfl⟩
  case round =>
    obtain ⟨m, s, rfl, rfl, hm, hs, HS, rfl⟩ := hrel
    by_cases h : m < 15
    · obtain ⟨l, hl⟩ : ∃ l, l = m + 1 := ⟨_, rfl⟩
      rw [← hl]
      have hl1 : 1 ≤ (l : Int) := by omega
      have hl2 : (l : Int) ≤ 15 := by omega
      have hl3 : (l : Int) < 16 := by omega
      have kn := (blk_cell HN.out l).trans (vec_get f (by omega))
      obtain ⟨fl, hfl⟩ : ∃ fl, fl = f l := ⟨_, rfl⟩
      have hfb : fl ≤ 288 := by rw [hfl]; exact HF.out l
      rw [← hfl] at kn
      have HL := Hd.mk hl
      have HFL := Hd.mk hfl
      clear hl hfl
      obtain ⟨z, hz⟩ : ∃ z, z = fl * 2 ^ (15 - l) := ⟨_, rfl⟩
      have hzb : z ≤ 4718592 := by
        rw [hz]
        have h2 : 2 ^ (15 - l) ≤ 2 ^ 14 := Nat.pow_le_pow_right (by omega) (by omega)
        have : fl * 2 ^ (15 - l) ≤ 288 * 2 ^ 14 := Nat.mul_le_mul hfb h2
        omega
      have HZ := Hd.mk hz
      clear hz
      go_wp2
      have e1 : wrap64 ((fl : Int) * 2 ^ (15 - l)) = (z : Nat) := by
        rw [show (fl : Int) * 2 ^ (15 - l) = (z : Nat) from by rw [HZ.out]; push_cast; rfl]
        exact wrap64_in _ (by omega)
      rw [e1]
      have e2 : wrap64 ((s : Int) + (z : Nat)) = ((s + z : Nat) : Int) := by
        rw [show (s : Int) + (z : Nat) = ((s + z : Nat) : Int) from by push_cast; rfl]
        exact wrap64_in _ (by omega)
      rw [e2]
      go_roundg (gk - 1)
      case measure => omega
      case rel => exact ⟨m + 1, s + z, rfl, (by rw [HL.out]; rfl), by omega, by omega, ⟨by rw [HS.out, HZ.out, HFL.out, HL.out]; rfl⟩, rfl⟩
    · obtain rfl : m = 15 := by omega
      go_wp2
      go_ret
      exact ⟨by rw [HS.out]; rfl, F1.out⟩
theorem at_vec (f : Nat → Nat) {i : Nat} (h : i < 16) (w : World) : (Instr.index 233 (.agg (vec f)) (.int .i64 (i : Nat))).run Tryz.prog w = .ok (.int .i64 (f i : Nat)) w := by
  have hi : (0 : Int) ≤ (i : Int) ∧ (i : Int) < 16 := by omega
  simp [Instr.index, run_underlying Tryz.underlying233, asIntOf, go_sem, vec_get f h]
  intro hh
  omega
/-- a new array, laid down -/
theorem laid_vec (w : World) (f : Nat → Nat) : ((w.alloc (.cells (vec fun _ => 0) 233)).setRow w.heap.size (vec f)).heap[w.heap.size]? = some (.cells (vec f) 233 (0, 0)) :=
  setRow_heap _ _ _ _ _ _ (blk_new w _)
theorem laid_fr (w : World) (f : Nat → Nat) : Fr w ((w.alloc (.cells (vec fun _ => 0) 233)).setRow w.heap.size (vec f)) [] :=
  Fr.setRow ((Fr.refl w []).alloc _) _ (.inr (Nat.le_refl _))
set_option maxHeartbeats 8000000 in
theorem check_any (w : World) (A : Option Addr) (n c : Nat) (lens : List Int) (q : Option Nat) (hS : SlArg w A n c (i64s lens) q) (r : Int) (hr : r = check lens) :
    Calls Tryz.prog 134 #[.slice A n c] w fun e w' => e = .returned (.int .i64 r) ∧ Fr w w' [] := by
  have HR := Hd.mk hr
  have hl : lens.length = n := by have := hS.len; simpa [i64s] using this
  clear hr
  go_enter Tryz.func134, Tryz.ntmps134
  go_wp2_with (fail)
  obtain ⟨b, hb⟩ : ∃ b, b = bad lens := ⟨_, rfl⟩
  refine (counts_any w A n c lens q hS b hb).mono ?_
  rintro e w1 ⟨F, rfl, hF, h1⟩
  have HB := Hd.mk hb
  have F1 := Hd.mk h1
  clear hS hb h1
  cases b with
  | true =>
    obtain rfl : r = 50 := by rw [HR.out]; unfold check; rw [if_pos HB.out.symm]
    go_wp2_with (rw [vec_zero]; refine wpl_store_vec rfl _ _ rfl w1.heap.size _ (fun _ => 0) rfl rfl (by exact blk_new w1 _) ?_)
    go_ret
    exact ⟨rfl, F1.out.trans (laid_fr w1 F) (by simp)⟩
  | false =>
    obtain ⟨hl288, hall⟩ := bad_false HB.out.symm
    rw [hF rfl]
    clear hF
    have HCZ : Hd (∀ l, cz lens l ≤ 288) := ⟨fun l => Nat.le_trans (cz_le lens l) hl288⟩
    have hsb : space lens ≤ 70778880 := by
      have := spaceF_le HCZ.out 15 (Nat.le_refl _)
      unfold space
      omega
    go_upto_region 2 with (rw [vec_zero]; refine wpl_store_vec rfl _ _ rfl w1.heap.size _ (fun _ => 0) rfl rfl (by exact blk_new w1 _) ?_)
    have N0 := laid_vec w1 (cz lens)
    have G0 := laid_fr w1 (cz lens)
    generalize ((w1.alloc (.cells (vec fun _ => 0) 233)).setRow w1.heap.size (vec (cz lens))) = w2 at *
    generalize w1.heap.size = gn at *
    have HN := Hd.mk N0
    have F2 := Hd.mk (F1.out.trans G0 (by simp))
    clear N0 G0 F1
    go_wp2_with (refine wpl_load_vec rfl _ rfl gn rfl _ HN.out ?_)
    go_loopg [5, 17] 16 (fun kq sv iv wr => ∃ (i s : Nat), sv = .int .i64 (s : Nat) ∧ iv = .int .i64 (i : Nat) ∧ i + kq = 16 ∧ s ≤ i * 288 ∧ Hd (s = usedF (cz lens) i) ∧ wr = w2)
    case atStart => exact ⟨0, 0, rfl, rfl, rfl, by omega, ⟨rfl⟩, rfl⟩
    case round =>
      obtain ⟨i, s, rfl, rfl, hi, hs, HS, rfl⟩ := hrel
      by_cases h : i < 16
      · have a0 := at_vec (cz lens) h
        obtain ⟨ci, hci⟩ : ∃ ci, ci = cz lens i := ⟨_, rfl⟩
        rw [← hci] at a0
        have hcb : ci ≤ 288 := by rw [hci]; exact HCZ.out i
        have HCI := Hd.mk hci
        clear hci
        go_wp2
        go_roundg (gk - 1)
        case measure => omega
        case rel => exact ⟨i + 1, s + ci, by go_num, by go_num, by omega, by omega, ⟨by rw [HS.out, HCI.out]; rfl⟩, rfl⟩
      · obtain rfl : i = 16 := by omega
        have HU : Hd (s = used lens) := ⟨HS.out⟩
        clear HS
        go_wp2_with (first | (refine wpl_load_vec rfl _ rfl gn rfl _ HN.out ?_))
        refine (sp_any wr (cz lens) HCZ.out).mono ?_
        rintro e w3 ⟨rfl, h3⟩
        have HN3 := Hd.mk (h3.blk HN.out (by simp))
        have F3 := Hd.mk (F2.out.trans h3 (by simp))
        clear h3
        obtain ⟨sp, hsp⟩ : ∃ sp, sp = space lens := ⟨_, rfl⟩
        rw [← hsp] at hsb
        rw [show spaceF (cz lens) 15 = sp from hsp.symm]
        have HSP := Hd.mk hsp
        obtain ⟨c1, hc1⟩ : ∃ c1, c1 = cz lens 1 := ⟨_, rfl⟩
        have k1 := (blk_cell HN3.out 1).trans (vec_get (cz lens) (by omega))
        rw [← hc1] at k1
        have HR2 : Hd (r = if 32768 < sp then 51 else if sp = 32768 ∨ s = 0 ∨ (s = 1 ∧ c1 = 1) then 0 else 52) := ⟨by
          rw [HR.out, hsp, hc1, HU.out]
          unfold check
          rw [if_neg (by rw [← HB.out]; simp)]⟩
        clear hsp hc1 HR HU HB
        by_cases h51 : 32768 < sp
        · obtain rfl : r = 51 := by rw [HR2.out, if_pos h51]
          go_wp2
          go_ret
          exact ⟨rfl, F3.out⟩
        · by_cases hw : sp = 32768
          · obtain rfl : r = 0 := by rw [HR2.out, if_neg h51, if_pos (.inl hw)]
            have g1 : ((sp : Int) == 32768) = true := by simp; omega
            clear hw
            go_wp2
            go_ret
            exact ⟨rfl, F3.out⟩
          · have g1 : ((sp : Int) == 32768) = false := by simp; omega
            by_cases hs0 : s = 0
            · obtain rfl : r = 0 := by rw [HR2.out, if_neg h51, if_pos (.inr (.inl hs0))]
              have g2 : ((s : Int) == 0) = true := by simp; omega
              clear hs0 hw
              go_wp2
              go_ret
              exact ⟨rfl, F3.out⟩
            · have g2 : ((s : Int) == 0) = false := by simp; omega
              by_cases hs1 : s = 1
              · have g3 : ((s : Int) == 1) = true := by simp; omega
                by_cases hc : c1 = 1
                · obtain rfl : r = 0 := by rw [HR2.out, if_neg h51, if_pos (.inr (.inr ⟨hs1, hc⟩))]
                  have g4 : ((c1 : Int) == 1) = true := by simp; omega
                  clear hs0 hw hs1 hc
                  go_wp2
                  go_ret
                  exact ⟨rfl, F3.out⟩
                · obtain rfl : r = 52 := by rw [HR2.out, if_neg h51, if_neg (by omega)]
                  have g4 : ((c1 : Int) == 1) = false := by simp; omega
                  clear hs0 hw hs1 hc
                  go_wp2
                  go_ret
                  exact ⟨rfl, F3.out⟩
              · obtain rfl : r = 52 := by rw [HR2.out, if_neg h51, if_neg (by omega)]
                have g3 : ((s : Int) == 1) = false := by simp; omega
                clear hs0 hw hs1
                go_wp2
                go_ret
                exact ⟨rfl, F3.out⟩
end Go.Proofs.YtlfckpmdmkccjaaGreat.Code
/- Chapter 09: the rows of lengths and distances, the place in them. No condition. -/
set_option linter.unusedVariables false
set_option linter.unusedSimpArgs false
set_option maxRecDepth 100000
namespace Go.Proofs.YtlfckpmdmkccjaaGreat.Blk
open Go.RowKit Go.Proofs.YtlfckpmdmkccjaaGreat.Lib Go.Proofs.YtlfckpmdmkccjaaGreat.Ints
def lenT : List (Int × Int) := [(3, 0), (4, 0), (5, 0), (6, 0), (7, 0), (8, 0), (9, 0), (10, 0), (11, 1), (13, 1), (15, 1), (17, 1), (19, 2), (23, 2), (27, 2), (31, 2), (35, 3), (43, 3), (51, 3), (59, 3), (67, 4), (83, 4), (99, 4), (115, 4), (131, 5), (163, 5), (195, 5), (227, 5), (258, 0)]
def distT : List (Int × Int) := [(1, 0), (2, 0), (3, 0), (4, 0), (5, 1), (7, 1), (9, 2), (13, 2), (17, 3), (25, 3), (33, 4), (49, 4), (65, 5), (97, 5), (129, 6), (193, 6), (257, 7), (385, 7), (513, 8), (769, 8), (1025, 9), (1537, 9), (2049, 10), (3073, 10), (4097, 11), (6145, 11), (8193, 12), (12289, 12), (16385, 13), (24577, 13)]
def rc (x : Int × Int) : List Value := [.int .i64 x.1, .int .i64 x.2]
def rcs (l : List (Int × Int)) : List Value := l.flatMap rc
theorem lenRows_info : (Tryz.prog.info? 190).map (·.size) = some (rcs lenT).toArray.size := by kernel_rfl
set_option maxHeartbeats 2000000 in
theorem lenRows_any (w : World) : Calls Tryz.prog 105 #[] w fun e w' => e = .returned (.agg (rcs lenT).toArray) ∧ Fr w w' [] := by
  go_enter Tryz.func105, Tryz.ntmps105
  go_upto_region 1 with (fail)
  go_wp2_with (first
    | (refine wpList_build rfl 190 #[(0, .tmp 1), (1, .tmp 2), (2, .tmp 3), (3, .tmp 4), (4, .tmp 5), (5, .tmp 6), (6, .tmp 7), (7, .tmp 8), (8, .tmp 9), (9, .tmp 10), (10, .tmp 11), (11, .tmp 12), (12, .tmp 13), (13, .tmp 14), (14, .tmp 15), (15, .tmp 16), (16, .tmp 17), (17, .tmp 18), (18, .tmp 19), (19, .tmp 20), (20, .tmp 21), (21, .tmp 22), (22, .tmp 23), (23, .tmp 24), (24, .tmp 25), (25, .tmp 26), (26, .tmp 27), (27, .tmp 28), (28, .tmp 29)] rfl (by kernel_rfl) ?_; rw [show (Tryz.prog.built 190 _).getD #[] = (rcs lenT).toArray from by kernel_rfl])
    | (refine wpList_store_row rfl 190 _ _ rfl w.heap.size (rcs lenT).toArray rfl rfl 190 _ (by exact blk_new w _) (by kernel_rfl) (by kernel_rfl) (by kernel_rfl) ?_))
  refine bodyPost_ret (results_cell_row rfl _ _ w.heap.size 190 _ _ _ rfl (setRow_heap _ _ _ _ _ _ (blk_new w _)) Tryz.underlying190 rfl lenRows_info) rfl ?_
  exact ⟨rfl, Code.Fr.setRow ((Fr.refl w []).alloc _) _ (.inr (Nat.le_refl _))⟩
theorem distRows_info : (Tryz.prog.info? 194).map (·.size) = some (rcs distT).toArray.size := by kernel_rfl
set_option maxHeartbeats 2000000 in
theorem distRows_any (w : World) : Calls Tryz.prog 107 #[] w fun e w' => e = .returned (.agg (rcs distT).toArray) ∧ Fr w w' [] := by
  go_enter Tryz.func107, Tryz.ntmps107
  go_upto_region 1 with (fail)
  go_wp2_with (first
    | (refine wpList_build rfl 194 #[(0, .tmp 1), (1, .tmp 2), (2, .tmp 3), (3, .tmp 4), (4, .tmp 5), (5, .tmp 6), (6, .tmp 7), (7, .tmp 8), (8, .tmp 9), (9, .tmp 10), (10, .tmp 11), (11, .tmp 12), (12, .tmp 13), (13, .tmp 14), (14, .tmp 15), (15, .tmp 16), (16, .tmp 17), (17, .tmp 18), (18, .tmp 19), (19, .tmp 20), (20, .tmp 21), (21, .tmp 22), (22, .tmp 23), (23, .tmp 24), (24, .tmp 25), (25, .tmp 26), (26, .tmp 27), (27, .tmp 28), (28, .tmp 29), (29, .tmp 30)] rfl (by kernel_rfl) ?_; rw [show (Tryz.prog.built 194 _).getD #[] = (rcs distT).toArray from by kernel_rfl])
    | (refine wpList_store_row rfl 194 _ _ rfl w.heap.size (rcs distT).toArray rfl rfl 194 _ (by exact blk_new w _) (by kernel_rfl) (by kernel_rfl) (by kernel_rfl) ?_))
  refine bodyPost_ret (results_cell_row rfl _ _ w.heap.size 194 _ _ _ rfl (setRow_heap _ _ _ _ _ _ (blk_new w _)) Tryz.underlying194 rfl distRows_info) rfl ?_
  exact ⟨rfl, Code.Fr.setRow ((Fr.refl w []).alloc _) _ (.inr (Nat.le_refl _))⟩
end Go.Proofs.YtlfckpmdmkccjaaGreat.Blk
/- Chapter 09: the place in the rows. No condition. -/
set_option linter.unusedVariables false
set_option linter.unusedSimpArgs false
set_option maxRecDepth 100000
namespace Go.Proofs.YtlfckpmdmkccjaaGreat.Blk
open Go.RowKit Go.Proofs.YtlfckpmdmkccjaaGreat.Lib Go.Proofs.YtlfckpmdmkccjaaGreat.Ints
/-- the last row whose least value is not above -/
def plc (l : List (Int × Int)) (v : Int) : Nat → Nat
  | 0 => 0
  | j + 1 => if (l.getD j (0, 0)).1 ≤ v then j else plc l v j
theorem plc_step {l : List (Int × Int)} {j : Nat} (h : j < l.length) (v : Int) : plc l v (j + 1) = if l[j].1 ≤ v then j else plc l v j := by
  rw [plc, List.getD_eq_getElem?_getD, List.getElem?_eq_getElem h, Option.getD_some]
theorem plc_lt (l : List (Int × Int)) (v : Int) : ∀ j, 0 < j → plc l v j < j
  | 0, h => absurd h (Nat.lt_irrefl 0)
  | j + 1, _ => by
    rw [plc]
    split
    · omega
    · by_cases h : 0 < j
      · have := plc_lt l v j h; omega
      · have : j = 0 := by omega
        subst this
        simp [plc]
theorem place_any (w : World) (A : Option Addr) (n c : Nat) (l : List (Int × Int)) (q : Option Nat) (v : Int) (hn : l.length = n) (hS : Sl w A (rcs l) q) (hb : n ≤ 1000) :
    Calls Tryz.prog 106 #[.slice A n c, .int .i64 v] w fun e w' => e = .returned (.int .i64 (plc l v n : Nat)) ∧ Fr w w' [] := by
  subst hn
  have HS := Hd.mk hS
  clear hS
  go_enter Tryz.func106, Tryz.ntmps106
  go_wp2
  go_loopg [5, 10] l.length (fun kq av jv wr => ∃ j : Nat, jv = .int .i64 (j : Nat) ∧ av = .int .i64 (plc l v j : Nat) ∧ j + kq = l.length ∧ Hd (Fr w wr []))
  case atStart => exact ⟨0, rfl, rfl, by omega, ⟨Fr.refl _ _⟩⟩
  case round =>
    obtain ⟨j, rfl, rfl, hj, HF⟩ := hrel
    by_cases h1 : j < l.length
    · obtain ⟨a, o1, rfl, _, ha⟩ := Sl.row (enc := rc) (sz := 2) (fun _ => rfl) (HS.out.frame HF.out (by simp)) h1 (by decide)
      have c0 := ha 0 (by decide)
      have c1 := ha 1 (by decide)
      obtain ⟨x, hx⟩ : ∃ x, x = l[j] := ⟨_, rfl⟩
      rw [← hx] at c0 c1
      have hp := plc_step h1 v
      rw [← hx] at hp
      simp only [rc, List.getElem?_cons_zero, List.getElem?_cons_succ, Nat.add_zero] at c0 c1
      have HP := Hd.mk hp
      clear ha hx hp
      by_cases h2 : x.1 ≤ v
      · have HP2 : Hd (plc l v (j + 1) = j) := ⟨by rw [HP.out, if_pos h2]⟩
        clear HP
        go_wp2
        go_roundg (gk - 1)
        case measure => omega
        case rel => exact ⟨j + 1, by go_num, by rw [HP2.out], by omega, ⟨HF.out.alloc _⟩⟩
      · have HP2 : Hd (plc l v (j + 1) = plc l v j) := ⟨by rw [HP.out, if_neg h2]⟩
        clear HP
        generalize plc l v j = z at *
        go_wp2
        go_roundg (gk - 1)
        case measure => omega
        case rel => exact ⟨j + 1, by go_num, by rw [HP2.out], by omega, ⟨HF.out.alloc _⟩⟩
    · obtain rfl : j = l.length := by omega
      go_wp2
      go_ret
      exact ⟨rfl, HF.out⟩
theorem find_any (w : World) (A : Option Addr) (n c : Nat) (l : List (Int × Int)) (q : Option Nat) (v : Int) (hn : l.length = n) (hS : Sl w A (rcs l) q) (hb : n ≤ 1000) :
    Calls Tryz.prog 80 #[.slice A n c, .int .i64 v] w fun e w' => e = .returned (.int .i64 (plc l v n : Nat)) ∧ Fr w w' [] := by
  subst hn
  have HS := Hd.mk hS
  clear hS
  go_enter Tryz.func80, Tryz.ntmps80
  go_wp2
  go_loopg [5, 10] l.length (fun kq av jv wr => ∃ j : Nat, jv = .int .i64 (j : Nat) ∧ av = .int .i64 (plc l v j : Nat) ∧ j + kq = l.length ∧ Hd (Fr w wr []))
  case atStart => exact ⟨0, rfl, rfl, by omega, ⟨Fr.refl _ _⟩⟩
  case round =>
    obtain ⟨j, rfl, rfl, hj, HF⟩ := hrel
    by_cases h1 : j < l.length
    · obtain ⟨a, o1, rfl, _, ha⟩ := Sl.row (enc := rc) (sz := 2) (fun _ => rfl) (HS.out.frame HF.out (by simp)) h1 (by decide)
      have c0 := ha 0 (by decide)
      have c1 := ha 1 (by decide)
      obtain ⟨x, hx⟩ : ∃ x, x = l[j] := ⟨_, rfl⟩
      rw [← hx] at c0 c1
      have hp := plc_step h1 v
      rw [← hx] at hp
      simp only [rc, List.getElem?_cons_zero, List.getElem?_cons_succ, Nat.add_zero] at c0 c1
      have HP := Hd.mk hp
      clear ha hx hp
      by_cases h2 : x.1 ≤ v
      · have HP2 : Hd (plc l v (j + 1) = j) := ⟨by rw [HP.out, if_pos h2]⟩
        clear HP
        go_wp2
        go_roundg (gk - 1)
        case measure => omega
        case rel => exact ⟨j + 1, by go_num, by rw [HP2.out], by omega, ⟨HF.out.alloc _⟩⟩
      · have HP2 : Hd (plc l v (j + 1) = plc l v j) := ⟨by rw [HP.out, if_neg h2]⟩
        clear HP
        generalize plc l v j = z at *
        go_wp2
        go_roundg (gk - 1)
        case measure => omega
        case rel => exact ⟨j + 1, by go_num, by rw [HP2.out], by omega, ⟨HF.out.alloc _⟩⟩
    · obtain rfl : j = l.length := by omega
      go_wp2
      go_ret
      exact ⟨rfl, HF.out⟩
end Go.Proofs.YtlfckpmdmkccjaaGreat.Blk
/- Chapter 09: the document's rows. No condition. -/
set_option linter.unusedVariables false
set_option linter.unusedSimpArgs false
set_option maxRecDepth 100000
namespace Go.Proofs.YtlfckpmdmkccjaaGreat.Blk
open Go.RowKit Go.Proofs.YtlfckpmdmkccjaaGreat.Lib Go.Proofs.YtlfckpmdmkccjaaGreat.Ints
theorem infoBegin : (Tryz.prog.info? 158).map (fun i => (i.zero, i.size, i.bytes)) = some (some (.agg #[.int .i64 0, .int .i64 0]), 2, 16) := by kernel_rfl
theorem rcs_app (a b : List (Int × Int)) : rcs (a ++ b) = rcs a ++ rcs b := by simp [rcs]
theorem tab_take {l : List (Int × Int)} {j : Nat} (h : j < l.length) : rcs (l.take (j + 1)) = rcs (l.take j) ++ [.int .i64 l[j].1, .int .i64 l[j].2] := by
  rw [List.take_succ_eq_append_getElem h, rcs_app]; rfl
theorem wr_le {x m : Nat} (hx : x ≤ 40000) (hm : m ≤ 13) : wrap64 ((x : Int) + wrap64 (2 ^ m)) = ((x + 2 ^ m : Nat) : Int) := by
  have h1 : 2 ^ m ≤ 2 ^ 13 := Nat.pow_le_pow_right (by decide) hm
  have h2 : (2 : Int) ^ m = ((2 ^ m : Nat) : Int) := by rw [Int.natCast_pow]; rfl
  rw [h2]
  generalize 2 ^ m = y at *
  unfold wrap64
  omega
def RowsPost (w : World) (n : Nat) (l : List (Int × Int)) (e : Ending) (w' : World) : Prop :=
  ∃ A c, e = .returned (.slice A n c) ∧ w'.ownsRow 0 158 2 (.slice A n c) n (rcs l) ∧ Fr w w' []
def leLs : List Nat := [3, 4, 5, 6, 7, 8, 9, 10, 11, 13, 15, 17, 19, 23, 27, 31, 35, 43, 51, 59, 67, 83, 99, 115, 131, 163, 195, 227, 259]
def leDs : List Nat := [1, 2, 3, 4, 5, 7, 9, 13, 17, 25, 33, 49, 65, 97, 129, 193, 257, 385, 513, 769, 1025, 1537, 2049, 3073, 4097, 6145, 8193, 12289, 16385, 24577, 32769]
def moL (j : Nat) : Nat := if 8 ≤ j then (j - 4) / 4 else 0
def leL (j : Nat) : Nat := leLs.getD j 0
theorem leL_at : ∀ j, j < 28 → lenT.getD j (0, 0) = ((leL j : Int), (moL j : Int)) ∧ leL (j + 1) = leL j + 2 ^ moL j ∧ moL j ≤ 13 ∧ leL j ≤ 40000 := by decide
set_option maxHeartbeats 1000000 in
theorem rLens_any (w : World) : Calls Tryz.prog 79 #[] w (RowsPost w 29 lenT) := by
  obtain ⟨i0, hi0, hz0, hz1, hz2⟩ := info_parts infoBegin
  go_enter Tryz.func79, Tryz.ntmps79
  go_wp2
  go_loopg [1, 2, 3] 28 (fun kq sv lv jv wr => ∃ (j : Nat) (B : Option Addr) (d : Nat), jv = .int .i64 (j : Nat) ∧ lv = .int .i64 (leL j : Nat) ∧ sv = .slice B j d ∧ j + kq = 28 ∧ Hd (wr.ownsRow 0 158 2 (.slice B j d) j (rcs (lenT.take j))) ∧ Hd (∀ k, (Value.slice B j d).ownBlock = some k → w.heap.size ≤ k) ∧ Hd (Fr w wr []))
  case atStart => exact ⟨0, none, 0, rfl, rfl, rfl, by omega, ⟨own_nil _ _ _ _⟩, ⟨fun k hk => by simp [Value.ownBlock] at hk⟩, ⟨Fr.refl _ _⟩⟩
  case round =>
    obtain ⟨j, B, d, rfl, rfl, rfl, hj, HO, HB, HF⟩ := hrel
    by_cases h1 : j < 28
    · obtain ⟨f1, f2, f3, f4⟩ := leL_at j h1
      have f5 : rcs (lenT.take (j + 1)) = rcs (lenT.take j) ++ [.int .i64 (leL j : Nat), .int .i64 (moL j : Nat)] := by
        rw [tab_take (show j < lenT.length by simp [lenT]; omega)]
        have : lenT[j]'(by simp [lenT]; omega) = ((leL j : Int), (moL j : Int)) := by rw [← f1, List.getD_eq_getElem?_getD, List.getElem?_eq_getElem (by simp [lenT]; omega)]; rfl
        rw [this]
      have F2 := Hd.mk f2
      have F5 := Hd.mk f5
      clear f1 f2 f5
      obtain ⟨x, hx⟩ : ∃ x, x = leL j := ⟨_, rfl⟩
      obtain ⟨m, hm⟩ : ∃ m, m = moL j := ⟨_, rfl⟩
      rw [← hx, ← hm] at F5 F2
      rw [← hm] at f3
      rw [← hx] at f4 ⊢
      have HM := Hd.mk hm
      clear hx hm
      by_cases h2 : 8 ≤ j
      · have q1 : ((j : Int) - 4).tdiv 4 = (m : Int) := by rw [HM.out]; unfold moL; rw [if_pos h2, Int.tdiv_eq_ediv_of_nonneg (by omega)]; omega
        have q2 : ((j : Int) - 4) / 4 = (m : Int) := by rw [HM.out]; unfold moL; rw [if_pos h2]; omega
        go_wp2_with (at_builtin; refine wpList_append_sl rfl (.tmp 14) (.tmp 18) 154 rfl 158 i0 (.agg #[.int .i64 0, .int .i64 0]) 2 16 Tryz.underlying154 hi0 hz0 hz1 hz2 rfl (by decide) (.slice B j d) j _ rfl (by exact HO.out.alloc _) (some ⟨wr.heap.size, 0, none⟩) 1 1 [.int .i64 (x : Nat), .int .i64 (m : Nat)] (some wr.heap.size) rfl rfl (by exact sl_of_blk (blk_new _ _)) (by intro h; cases h) (by intro u hu; simp at hu; rcases hu with rfl | rfl <;> rfl) (by unfold maxLen; omega) (by omega) ?_; intro A' c' w1 hown' hgrow haft; have O1 := Hd.mk hown'; have G1 := Hd.mk hgrow; have F1 := Hd.mk haft; clear hown' hgrow haft)
        go_roundg (gk - 1)
        case measure => omega
        case rel =>
          refine ⟨j + 1, A', c', by go_num, by rw [F2.out, wr_le f4 f3], rfl, by omega, ⟨by rw [F5.out]; exact O1.out⟩, ⟨fun k hk => ?_⟩, ⟨(HF.out.alloc _).grown G1.out (fun k hk => .inr (HB.out k hk))⟩⟩
          rcases F1.out with h | ⟨z, h, hz⟩
          · rw [h] at hk; exact HB.out k hk
          · rw [h] at hk; cases hk
            have := HF.out.size
            simp at hz
            omega
      · have q1 : m = 0 := by rw [HM.out]; unfold moL; rw [if_neg h2]
        subst q1
        go_wp2_with (at_builtin; refine wpList_append_sl rfl (.tmp 14) (.tmp 18) 154 rfl 158 i0 (.agg #[.int .i64 0, .int .i64 0]) 2 16 Tryz.underlying154 hi0 hz0 hz1 hz2 rfl (by decide) (.slice B j d) j _ rfl (by exact HO.out.alloc _) (some ⟨wr.heap.size, 0, none⟩) 1 1 [.int .i64 (x : Nat), .int .i64 0] (some wr.heap.size) rfl rfl (by exact sl_of_blk (blk_new _ _)) (by intro h; cases h) (by intro u hu; simp at hu; rcases hu with rfl | rfl <;> rfl) (by unfold maxLen; omega) (by omega) ?_; intro A' c' w1 hown' hgrow haft; have O1 := Hd.mk hown'; have G1 := Hd.mk hgrow; have F1 := Hd.mk haft; clear hown' hgrow haft)
        go_roundg (gk - 1)
        case measure => omega
        case rel =>
          refine ⟨j + 1, A', c', by go_num, by rw [F2.out]; go_num, rfl, by omega, ⟨by rw [F5.out]; exact O1.out⟩, ⟨fun k hk => ?_⟩, ⟨(HF.out.alloc _).grown G1.out (fun k hk => .inr (HB.out k hk))⟩⟩
          rcases F1.out with h | ⟨z, h, hz⟩
          · rw [h] at hk; exact HB.out k hk
          · rw [h] at hk; cases hk
            have := HF.out.size
            simp at hz
            omega
    · obtain rfl : j = 28 := by omega
      generalize leL 28 = x at *
      go_wp2_with (at_builtin; refine wpList_append_sl rfl (.tmp 24) (.tmp 26) 154 rfl 158 i0 (.agg #[.int .i64 0, .int .i64 0]) 2 16 Tryz.underlying154 hi0 hz0 hz1 hz2 rfl (by decide) (.slice B 28 d) 28 _ rfl (by exact HO.out.alloc _) (some ⟨wr.heap.size, 0, none⟩) 1 1 [.int .i64 258, .int .i64 0] (some wr.heap.size) rfl rfl (by exact sl_of_blk (blk_new _ _)) (by intro h; cases h) (by intro u hu; simp at hu; rcases hu with rfl | rfl <;> rfl) (by unfold maxLen; omega) (by omega) ?_; intro A' c' w1 hown' hgrow haft; have O1 := Hd.mk hown'; have G1 := Hd.mk hgrow; have F1 := Hd.mk haft; clear hown' hgrow haft)
      go_ret
      unfold RowsPost
      exact ⟨A', c', rfl, by have := O1.out; exact this, (HF.out.alloc _).grown G1.out (fun k hk => .inr (HB.out k hk))⟩
def moD (j : Nat) : Nat := if 4 ≤ j then (j - 2) / 2 else 0
def leD (j : Nat) : Nat := leDs.getD j 0
theorem leD_at : ∀ j, j < 30 → distT.getD j (0, 0) = ((leD j : Int), (moD j : Int)) ∧ leD (j + 1) = leD j + 2 ^ moD j ∧ moD j ≤ 13 ∧ leD j ≤ 40000 := by decide
set_option maxHeartbeats 1000000 in
theorem rDists_any (w : World) : Calls Tryz.prog 81 #[] w (RowsPost w 30 distT) := by
  obtain ⟨i0, hi0, hz0, hz1, hz2⟩ := info_parts infoBegin
  go_enter Tryz.func81, Tryz.ntmps81
  go_wp2
  go_loopg [1, 2, 3] 30 (fun kq sv lv jv wr => ∃ (j : Nat) (B : Option Addr) (d : Nat), jv = .int .i64 (j : Nat) ∧ lv = .int .i64 (leD j : Nat) ∧ sv = .slice B j d ∧ j + kq = 30 ∧ Hd (wr.ownsRow 0 158 2 (.slice B j d) j (rcs (distT.take j))) ∧ Hd (∀ k, (Value.slice B j d).ownBlock = some k → w.heap.size ≤ k) ∧ Hd (Fr w wr []))
  case atStart => exact ⟨0, none, 0, rfl, rfl, rfl, by omega, ⟨own_nil _ _ _ _⟩, ⟨fun k hk => by simp [Value.ownBlock] at hk⟩, ⟨Fr.refl _ _⟩⟩
  case round =>
    obtain ⟨j, B, d, rfl, rfl, rfl, hj, HO, HB, HF⟩ := hrel
    by_cases h1 : j < 30
    · obtain ⟨f1, f2, f3, f4⟩ := leD_at j h1
      have f5 : rcs (distT.take (j + 1)) = rcs (distT.take j) ++ [.int .i64 (leD j : Nat), .int .i64 (moD j : Nat)] := by
        rw [tab_take (show j < distT.length by simp [distT]; omega)]
        have : distT[j]'(by simp [distT]; omega) = ((leD j : Int), (moD j : Int)) := by rw [← f1, List.getD_eq_getElem?_getD, List.getElem?_eq_getElem (by simp [distT]; omega)]; rfl
        rw [this]
      have F2 := Hd.mk f2
      have F5 := Hd.mk f5
      clear f1 f2 f5
      obtain ⟨x, hx⟩ : ∃ x, x = leD j := ⟨_, rfl⟩
      obtain ⟨m, hm⟩ : ∃ m, m = moD j := ⟨_, rfl⟩
      rw [← hx, ← hm] at F5 F2
      rw [← hm] at f3
      rw [← hx] at f4 ⊢
      have HM := Hd.mk hm
      clear hx hm
      by_cases h2 : 4 ≤ j
      · have q1 : ((j : Int) - 2).tdiv 2 = (m : Int) := by rw [HM.out]; unfold moD; rw [if_pos h2, Int.tdiv_eq_ediv_of_nonneg (by omega)]; omega
        have q2 : ((j : Int) - 2) / 2 = (m : Int) := by rw [HM.out]; unfold moD; rw [if_pos h2]; omega
        go_wp2_with (at_builtin; refine wpList_append_sl rfl (.tmp 14) (.tmp 18) 154 rfl 158 i0 (.agg #[.int .i64 0, .int .i64 0]) 2 16 Tryz.underlying154 hi0 hz0 hz1 hz2 rfl (by decide) (.slice B j d) j _ rfl (by exact HO.out.alloc _) (some ⟨wr.heap.size, 0, none⟩) 1 1 [.int .i64 (x : Nat), .int .i64 (m : Nat)] (some wr.heap.size) rfl rfl (by exact sl_of_blk (blk_new _ _)) (by intro h; cases h) (by intro u hu; simp at hu; rcases hu with rfl | rfl <;> rfl) (by unfold maxLen; omega) (by omega) ?_; intro A' c' w1 hown' hgrow haft; have O1 := Hd.mk hown'; have G1 := Hd.mk hgrow; have F1 := Hd.mk haft; clear hown' hgrow haft)
        go_roundg (gk - 1)
        case measure => omega
        case rel =>
          refine ⟨j + 1, A', c', by go_num, by rw [F2.out, wr_le f4 f3], rfl, by omega, ⟨by rw [F5.out]; exact O1.out⟩, ⟨fun k hk => ?_⟩, ⟨(HF.out.alloc _).grown G1.out (fun k hk => .inr (HB.out k hk))⟩⟩
          rcases F1.out with h | ⟨z, h, hz⟩
          · rw [h] at hk; exact HB.out k hk
          · rw [h] at hk; cases hk
            have := HF.out.size
            simp at hz
            omega
      · have q1 : m = 0 := by rw [HM.out]; unfold moD; rw [if_neg h2]
        subst q1
        go_wp2_with (at_builtin; refine wpList_append_sl rfl (.tmp 14) (.tmp 18) 154 rfl 158 i0 (.agg #[.int .i64 0, .int .i64 0]) 2 16 Tryz.underlying154 hi0 hz0 hz1 hz2 rfl (by decide) (.slice B j d) j _ rfl (by exact HO.out.alloc _) (some ⟨wr.heap.size, 0, none⟩) 1 1 [.int .i64 (x : Nat), .int .i64 0] (some wr.heap.size) rfl rfl (by exact sl_of_blk (blk_new _ _)) (by intro h; cases h) (by intro u hu; simp at hu; rcases hu with rfl | rfl <;> rfl) (by unfold maxLen; omega) (by omega) ?_; intro A' c' w1 hown' hgrow haft; have O1 := Hd.mk hown'; have G1 := Hd.mk hgrow; have F1 := Hd.mk haft; clear hown' hgrow haft)
        go_roundg (gk - 1)
        case measure => omega
        case rel =>
          refine ⟨j + 1, A', c', by go_num, by rw [F2.out]; go_num, rfl, by omega, ⟨by rw [F5.out]; exact O1.out⟩, ⟨fun k hk => ?_⟩, ⟨(HF.out.alloc _).grown G1.out (fun k hk => .inr (HB.out k hk))⟩⟩
          rcases F1.out with h | ⟨z, h, hz⟩
          · rw [h] at hk; exact HB.out k hk
          · rw [h] at hk; cases hk
            have := HF.out.size
            simp at hz
            omega
    · obtain rfl : j = 30 := by omega
      generalize leD 30 = x at *
      go_wp2
      go_ret
      unfold RowsPost
      exact ⟨B, d, rfl, by have := HO.out; exact this, HF.out⟩
end Go.Proofs.YtlfckpmdmkccjaaGreat.Blk
