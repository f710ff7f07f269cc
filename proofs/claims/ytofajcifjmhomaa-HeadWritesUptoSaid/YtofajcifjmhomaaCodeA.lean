/- How many codes there are of each length, and how much of the space these take: walked. Conditions: none but the slice's. -/
import Derived.Test.YtofajcifjmhomaaInts
import Derived.Test.YtofajcifjmhomaaCodePlain
import Derived.IntWalk
set_option linter.unusedVariables false
set_option linter.unusedSimpArgs false
set_option maxRecDepth 100000
namespace Go.Proofs.Ytofajcifjmhomaa.Code
open Go.RowKit Go.IntWalk Go.Proofs.Ytofajcifjmhomaa.Lib Go.Proofs.Ytofajcifjmhomaa.Ints

/-- sixteen numbers -/
def vec (f : Nat → Nat) : Array Value := ((List.range 16).map fun i => Value.int .i64 (f i : Nat)).toArray
theorem vec_size (f : Nat → Nat) : (vec f).size = 16 := by simp [vec]
theorem vec_get (f : Nat → Nat) {i : Nat} (h : i < 16) : (vec f)[i]? = some (.int .i64 (f i : Nat)) := by
  simp [vec, h]
theorem vec_set (f : Nat → Nat) (i v : Nat) : (vec f).setIfInBounds i (.int .i64 (v : Nat)) = vec (upd f i v) := by
  apply Array.ext_getElem?
  intro k
  rw [Array.getElem?_setIfInBounds]
  by_cases h : k < 16
  · by_cases e : i = k
    · subst e
      rw [if_pos rfl, if_pos (by rw [vec_size]; exact h), vec_get _ h]
      simp [upd]
    · rw [if_neg e, vec_get _ h, vec_get _ h]
      simp only [upd]
      rw [if_neg (fun e2 => e e2.symm)]
  · have h1 : (vec f)[k]? = none := Array.getElem?_eq_none (by rw [vec_size]; omega)
    have h2 : (vec (upd f i v))[k]? = none := Array.getElem?_eq_none (by rw [vec_size]; omega)
    rw [h1, h2]
    split
    · rename_i e
      subst e
      rw [if_neg (by rw [vec_size]; exact h)]
    · rfl
theorem vec_congr {f g : Nat → Nat} (h : ∀ i, i < 16 → f i = g i) : vec f = vec g := by
  apply Array.ext_getElem?
  intro k
  by_cases hk : k < 16
  · rw [vec_get _ hk, vec_get _ hk, h k hk]
  · rw [Array.getElem?_eq_none (by rw [vec_size]; omega), Array.getElem?_eq_none (by rw [vec_size]; omega)]
theorem vec_one (f : Nat → Nat) : (vec f).all (·.oneCell') = true := by
  rw [Array.all_eq_true_iff_forall_mem]
  intro v hv
  have : v ∈ (vec f).toList := by simpa using hv
  simp only [vec, List.mem_map] at this
  obtain ⟨_, _, rfl⟩ := this
  rfl
theorem vec_zero : (#[Value.int .i64 0, Value.int .i64 0, Value.int .i64 0, Value.int .i64 0, Value.int .i64 0, Value.int .i64 0, Value.int .i64 0, Value.int .i64 0, Value.int .i64 0, Value.int .i64 0, Value.int .i64 0, Value.int .i64 0, Value.int .i64 0, Value.int .i64 0, Value.int .i64 0, Value.int .i64 0] : Array Value) = vec (fun _ => 0) := by kernel_rfl
theorem infoArr : (Try.prog.info? 126).map (·.size) = some 16 := by kernel_rfl
theorem results_cell2 {fn : Func} {p q : Tmp} {ty : TypeId} (h : fn.results = #[.cell p ty, .tmp q]) (tmps : Array Value) (w : World) (g : Nat) (t : TypeId) (cs : Array Value) (fr : Nat × Nat) {k : Nat} {e : TypeId}
    (hp : tmps.getD p undef = .pointer (some ⟨g, 0, none⟩)) (hg : w.heap[g]? = some (.cells cs t fr)) (v : Value) (hv : tmps.getD q undef = v)
    (hu : Try.prog.underlying ty = some (.array k e)) (hi : (Try.prog.info? ty).map (·.size) = some cs.size) :
    (results fn tmps).run Try.prog w = .ok (.tuple #[.agg cs, v]) w := by
  have hp' : tmps[p]?.getD undef = .pointer (some ⟨g, 0, none⟩) := by simpa using hp
  have hv' : tmps[q]?.getD undef = v := by simpa using hv
  simp [results, h, hp', hv', asAddr, run_loadVar_row w g t ty cs fr _ hg hu rfl hi]
theorem wpl_load_vec {ops : Array Oper} {rest : List Oper} {o : Oper} {a : Act} {w : World} {Q : Exit → Act → World → Prop} (hgd : o.guard = none) (x : Operand) (ho : o.op = .load 126 x)
    (g : Nat) (hx : a.eval x = .pointer (some ⟨g, 0, none⟩)) (f : Nat → Nat) (hg : w.heap[g]? = some (.cells (vec f) 126 (0, 0)))
    (h : wpList Try.prog ops Q rest (a.put o.dst (.agg (vec f))) w) : wpList Try.prog ops Q (o :: rest) a w :=
  wpList_load_row hgd 126 x ho g hx 126 (vec f) (0, 0) _ hg Try.underlying126 rfl (infoArr.trans (by rw [vec_size])) h
theorem wpl_store_vec {ops : Array Oper} {rest : List Oper} {o : Oper} {a : Act} {w : World} {Q : Exit → Act → World → Prop} (hgd : o.guard = none) (x y : Operand) (ho : o.op = .store 126 x y)
    (g : Nat) (f e : Nat → Nat) (hx : a.eval x = .pointer (some ⟨g, 0, none⟩)) (hy : a.eval y = .agg (vec f)) (hg : w.heap[g]? = some (.cells (vec e) 126 (0, 0)))
    (h : wpList Try.prog ops Q rest (a.put o.dst undef) (w.setRow g (vec f))) : wpList Try.prog ops Q (o :: rest) a w :=
  wpList_store_row hgd 126 x y ho g (vec f) hx hy 126 (vec e) hg (infoArr.trans (by rw [vec_size])) ((vec_size _).trans (vec_size _).symm) (vec_one f) h
theorem Fr.setRow {w w' : World} {F : List Nat} (h : Fr w w' F) {g : Nat} (cs : Array Value) (hg : g ∈ F ∨ w.heap.size ≤ g) : Fr w (w'.setRow g cs) F :=
  ⟨h.os, h.tape, h.output, by rw [size_setRow]; exact h.size, fun k hk hF => (setRow_other w' g k cs (by rintro rfl; rcases hg with hg | hg; exact hF hg; omega)).trans (h.block k hk hF)⟩
set_option maxHeartbeats 8000000 in
theorem counts_any (w : World) (A : Option Addr) (n c : Nat) (lens : List Int) (q : Option Nat) (hS : SlArg w A n c (i64s lens) q) (b : Bool) (hb : b = bad lens) :
    Calls Try.prog 82 #[.slice A n c] w fun e w' => ∃ F, e = .returned (.tuple #[.agg (vec F), .bool (!b)]) ∧ (b = false → vec F = vec (cz lens)) ∧ Fr w w' [] := by
  have HS := Hd.mk hS
  have hl : lens.length = n := by have := hS.len; simpa [i64s] using this
  have HB := Hd.mk hb
  clear hS hb
  go_enter Try.func82, Try.ntmps82
  go_upto_region 2 with (fail)
  rw [vec_zero]
  have Z0 := blk_alloc (blk_new w (.cells (vec fun _ => 0) 126)) (.cells (vec fun _ => 0) 126)
  have N0 := blk_new (w.alloc (.cells (vec fun _ => 0) 126)) (.cells (vec fun _ => 0) 126)
  have F0 := ((Fr.refl w []).alloc (.cells (vec fun _ => 0) 126)).alloc (.cells (vec fun _ => 0) 126)
  rw [World.size_alloc] at N0
  obtain ⟨gz, hgz⟩ : ∃ gz, gz = w.heap.size := ⟨_, rfl⟩
  obtain ⟨gn, hgn⟩ : ∃ gn, gn = w.heap.size + 1 := ⟨_, rfl⟩
  rw [← hgn] at N0 ⊢
  rw [← hgz] at Z0 ⊢
  have hgb : w.heap.size ≤ gz ∧ w.heap.size ≤ gn ∧ gz ≠ gn := by omega
  generalize ((w.alloc (.cells (vec fun _ => 0) 126)).alloc (.cells (vec fun _ => 0) 126)) = w1 at *
  have HZ := Hd.mk Z0
  have HN := Hd.mk N0
  have F1 := Hd.mk F0
  clear Z0 N0 F0 hgz hgn
  by_cases h288 : (n : Int) > 288
  · obtain rfl : b = true := by rw [HB.out]; exact bad_long (by omega)
    go_wp2_with (first | (refine wpl_load_vec rfl _ rfl gn rfl _ HN.out ?_) | (refine wpl_store_vec rfl _ _ rfl gz (fun _ => 0) _ rfl rfl HZ.out ?_))
    refine bodyPost_ret (results_cell2 rfl _ _ gz 126 _ _ rfl (setRow_heap _ _ _ _ _ _ HZ.out) (.bool false) rfl Try.underlying126 (infoArr.trans (by rw [vec_size]))) rfl ?_
    exact ⟨_, rfl, (by intro h; cases h), Fr.setRow F1.out _ (.inr hgb.1)⟩
  · have HBL : Hd (b = false ∨ b = true) := ⟨by cases b <;> simp⟩
    go_wp2
    go_loopg [13] n (fun kq jv wr => ∃ (j : Nat) (f : Nat → Nat), jv = .int .i64 (j : Nat) ∧ j + kq = n ∧ Hd (wr.heap[gz]? = some (.cells (vec fun _ => 0) 126 (0, 0))) ∧ Hd (wr.heap[gn]? = some (.cells (vec f) 126 (0, 0))) ∧ Hd (f = cnt (lens.take j)) ∧ Hd (∀ (i : Nat) (hi : i < lens.length), i < j → 0 ≤ lens[i] ∧ lens[i] ≤ 15) ∧ Hd (Fr w wr []))
    case atStart => exact ⟨0, fun _ => 0, rfl, by omega, HZ, HN, ⟨by funext l; simp [cnt]⟩, ⟨by intro i hi h; omega⟩, F1⟩
    case round =>
      obtain ⟨j, f, rfl, hj, HZ, HN, HF, HP, HFr⟩ := hrel
      by_cases hjn : j < n
      · obtain ⟨bd, off, rfl, _, hcc⟩ := (HS.out.sl.frame HFr.out (by simp)) (by rw [i64s_length]; omega)
        have kd := (hcc j (by rw [i64s_length]; omega)).trans (i64s_get lens j)
        obtain ⟨x, hx⟩ : ∃ x, lens[j]? = some x := ⟨_, List.getElem?_eq_getElem (by omega)⟩
        rw [hx] at kd
        simp only [Option.map_some] at kd
        have HX : Hd (∃ h : j < lens.length, lens[j] = x) := ⟨List.getElem?_eq_some_iff.mp hx⟩
        clear hcc hx
        by_cases hx0 : x < 0
        · obtain rfl : b = true := by
            obtain ⟨e, he⟩ := HX.out
            rw [HB.out]; exact bad_at e (by omega)
          go_wp2_with (first | (refine wpl_load_vec rfl _ rfl gn rfl _ HN.out ?_) | (refine wpl_store_vec rfl _ _ rfl gz f _ rfl rfl HZ.out ?_))
          refine bodyPost_ret (results_cell2 rfl _ _ gz 126 _ _ rfl (setRow_heap _ _ _ _ _ _ HZ.out) (.bool false) rfl Try.underlying126 (infoArr.trans (by rw [vec_size]))) rfl ?_
          exact ⟨⟨_, rfl⟩, Fr.setRow HFr.out _ (.inr hgb.1)⟩
        · by_cases hx1 : x > 15
          · obtain rfl : b = true := by
              obtain ⟨e, he⟩ := HX.out
              rw [HB.out]; exact bad_at e (by omega)
            go_wp2_with (first | (refine wpl_load_vec rfl _ rfl gn rfl _ HN.out ?_) | (refine wpl_store_vec rfl _ _ rfl gz f _ rfl rfl HZ.out ?_))
            refine bodyPost_ret (results_cell2 rfl _ _ gz 126 _ _ rfl (setRow_heap _ _ _ _ _ _ HZ.out) (.bool false) rfl Try.underlying126 (infoArr.trans (by rw [vec_size]))) rfl ?_
            exact ⟨⟨_, rfl⟩, Fr.setRow HFr.out _ (.inr hgb.1)⟩
          · obtain ⟨v, rfl⟩ := Int.eq_ofNat_of_zero_le (show 0 ≤ x by omega)
            have hv16 : (v : Int) < 16 := by omega
            have kn := (blk_cell HN.out v).trans (vec_get f (by omega))
            have fn := blk_frozen HN.out v
            obtain ⟨fv, hfv⟩ : ∃ fv, fv = f v := ⟨_, rfl⟩
            have hfb : fv ≤ n := by
              rw [hfv, HF.out]
              have := cnt_le (lens.take j) v
              rw [List.length_take] at this
              omega
            rw [← hfv] at kn
            have HFV := Hd.mk hfv
            clear hfv
            go_wp2
            go_roundg (gk - 1)
            case measure => omega
            case rel =>
              refine ⟨j + 1, upd f v (fv + 1), by go_num, by omega, ⟨blk_far HZ.out hgb.2.2 _⟩, ⟨?_⟩, ⟨?_⟩, ⟨?_⟩, ⟨HFr.out.setCell _ (.inr hgb.2.1)⟩⟩
              · have := blk_set HN.out v (.int .i64 ((fv + 1 : Nat) : Int))
                rw [vec_set] at this
                exact this
              · obtain ⟨e, he⟩ := HX.out
                rw [cnt_take e he, ← HF.out, HFV.out]
              · intro i hi hij
                by_cases e : i = j
                · subst e
                  obtain ⟨e, he⟩ := HX.out
                  rw [he]; omega
                · exact HP.out i hi (by omega)
      · obtain rfl : j = n := by omega
        obtain rfl : b = false := by rw [HB.out]; exact bad_not (by omega) (fun i hi => HP.out i hi (by omega))
        have HF2 : Hd (f = cnt lens) := ⟨by rw [HF.out, ← hl, List.take_length]⟩
        have kn := (blk_cell HN.out 0).trans (vec_get f (by omega))
        have fn := blk_frozen HN.out 0
        go_upto_region 12 with (fail)
        have HN2 := Hd.mk (blk_set HN.out 0 (.int .i64 0))
        have HZ2 := Hd.mk (blk_far HZ.out (p := ⟨gn, 0, none⟩) hgb.2.2 (.int .i64 0))
        have HFr2 := Hd.mk (HFr.out.setCell (a := ⟨gn, 0, none⟩) (.int .i64 0) (.inr hgb.2.1))
        have e0 : (vec f).setIfInBounds 0 (.int .i64 0) = vec (cz lens) := by
          have := vec_set f 0 0
          rw [show (Value.int .i64 0) = .int .i64 ((0 : Nat) : Int) from rfl, this, HF2.out]
          exact congrArg vec (by funext l; simp only [upd, cz])
        rw [e0] at HN2
        generalize wr.setCell ⟨gn, 0, none⟩ (.int .i64 0) = w5 at *
        clear kn fn e0
        go_wp2_with (first | (refine wpl_load_vec rfl _ rfl gn rfl _ HN2.out ?_) | (refine wpl_store_vec rfl _ _ rfl gz (cz lens) _ rfl rfl HZ2.out ?_))
        refine bodyPost_ret (results_cell2 rfl _ _ gz 126 _ _ rfl (setRow_heap _ _ _ _ _ _ HZ2.out) (.bool true) rfl Try.underlying126 (infoArr.trans (by rw [vec_size]))) rfl ?_
        exact ⟨_, rfl, rfl, Fr.setRow HFr2.out _ (.inr hgb.1)⟩
theorem box_vec {f : Nat → Nat} : (Value.agg (vec f)).cells = vec f := rfl
set_option maxHeartbeats 8000000 in
theorem sp_any (w : World) (f : Nat → Nat) (hf : ∀ l, f l ≤ 288) :
    Calls Try.prog 83 #[.agg (vec f)] w fun e w' => e = .returned (.int .i64 (spaceF f 15 : Nat)) ∧ Fr w w' [] := by
  have HF := Hd.mk hf
  clear hf
  go_enter Try.func83, Try.ntmps83
  go_upto_region 1 with (fail)
  have N0 := blk_new w (.cells (vec f) 126)
  have F0 := (Fr.refl w []).alloc (.cells (vec f) 126)
  generalize w.alloc (.cells (vec f) 126) = w1 at *
  generalize w.heap.size = gn at *
  have HN := Hd.mk N0
  have F1 := Hd.mk F0
  clear N0 F0
  go_wp2
  go_loopg [3, 4] 15 (fun kq sv lv wr => ∃ (m s : Nat), sv = .int .i64 (s : Nat) ∧ lv = .int .i64 ((m + 1 : Nat) : Int) ∧ m + kq = 15 ∧ s ≤ m * 4718592 ∧ Hd (s = spaceF f m) ∧ wr = w1)
  case atStart => exact ⟨0, 0, rfl, rfl, rfl, by omega, ⟨rfl⟩, rfl⟩
  case round =>
    obtain ⟨m, s, rfl, rfl, hm, hs, HS, rfl⟩ := hrel
    by_cases h : m < 15
    · obtain ⟨l, hl⟩ : ∃ l, l = m + 1 := ⟨_, rfl⟩
      rw [← hl]
      have hl1 : 1 ≤ (l : Int) := by omega
      have hl2 : (l : Int) ≤ 15 := by omega
      have hl3 : (l : Int) < 16 := by omega
      have kn := (blk_cell HN.out l).trans (vec_get f (by omega))
      obtain ⟨fl, hfl⟩ : ∃ fl, fl = f l := ⟨_, rfl⟩
      have hfb : fl ≤ 288 := by rw [hfl]; exact HF.out l
      rw [← hfl] at kn
      have HL := Hd.mk hl
      have HFL := Hd.mk hfl
      clear hl hfl
      obtain ⟨z, hz⟩ : ∃ z, z = fl * 2 ^ (15 - l) := ⟨_, rfl⟩
      have hzb : z ≤ 4718592 := by
        rw [hz]
        have h2 : 2 ^ (15 - l) ≤ 2 ^ 14 := Nat.pow_le_pow_right (by omega) (by omega)
        have : fl * 2 ^ (15 - l) ≤ 288 * 2 ^ 14 := Nat.mul_le_mul hfb h2
        omega
      have HZ := Hd.mk hz
      clear hz
      go_wp2
      have e1 : wrap64 ((fl : Int) * 2 ^ (15 - l)) = (z : Nat) := by
        rw [show (fl : Int) * 2 ^ (15 - l) = (z : Nat) from by rw [HZ.out]; push_cast; rfl]
        exact wrap64_in _ (by omega)
      rw [e1]
      have e2 : wrap64 ((s : Int) + (z : Nat)) = ((s + z : Nat) : Int) := by
        rw [show (s : Int) + (z : Nat) = ((s + z : Nat) : Int) from by push_cast; rfl]
        exact wrap64_in _ (by omega)
      rw [e2]
      go_roundg (gk - 1)
      case measure => omega
      case rel => exact ⟨m + 1, s + z, rfl, (by rw [HL.out]; rfl), by omega, by omega, ⟨by rw [HS.out, HZ.out, HFL.out, HL.out]; rfl⟩, rfl⟩
    · obtain rfl : m = 15 := by omega
      go_wp2
      go_ret
      exact ⟨by rw [HS.out]; rfl, F1.out⟩
theorem at_vec (f : Nat → Nat) {i : Nat} (h : i < 16) (w : World) : (Instr.index 126 (.agg (vec f)) (.int .i64 (i : Nat))).run Try.prog w = .ok (.int .i64 (f i : Nat)) w := by
  have hi : (0 : Int) ≤ (i : Int) ∧ (i : Int) < 16 := by omega
  simp [Instr.index, run_underlying Try.underlying126, asIntOf, go_sem, vec_get f h]
  intro hh
  omega
/-- a new array, laid down -/
theorem laid_vec (w : World) (f : Nat → Nat) : ((w.alloc (.cells (vec fun _ => 0) 126)).setRow w.heap.size (vec f)).heap[w.heap.size]? = some (.cells (vec f) 126 (0, 0)) :=
  setRow_heap _ _ _ _ _ _ (blk_new w _)
theorem laid_fr (w : World) (f : Nat → Nat) : Fr w ((w.alloc (.cells (vec fun _ => 0) 126)).setRow w.heap.size (vec f)) [] :=
  Fr.setRow ((Fr.refl w []).alloc _) _ (.inr (Nat.le_refl _))
set_option maxHeartbeats 8000000 in
theorem check_any (w : World) (A : Option Addr) (n c : Nat) (lens : List Int) (q : Option Nat) (hS : SlArg w A n c (i64s lens) q) (r : Int) (hr : r = check lens) :
    Calls Try.prog 65 #[.slice A n c] w fun e w' => e = .returned (.int .i64 r) ∧ Fr w w' [] := by
  have HR := Hd.mk hr
  have hl : lens.length = n := by have := hS.len; simpa [i64s] using this
  clear hr
  go_enter Try.func65, Try.ntmps65
  go_wp2_with (fail)
  obtain ⟨b, hb⟩ : ∃ b, b = bad lens := ⟨_, rfl⟩
  refine (counts_any w A n c lens q hS b hb).mono ?_
  rintro e w1 ⟨F, rfl, hF, h1⟩
  have HB := Hd.mk hb
  have F1 := Hd.mk h1
  clear hS hb h1
  cases b with
  | true =>
    obtain rfl : r = 50 := by rw [HR.out]; unfold check; rw [if_pos HB.out.symm]
    go_wp2_with (rw [vec_zero]; refine wpl_store_vec rfl _ _ rfl w1.heap.size _ (fun _ => 0) rfl rfl (by exact blk_new w1 _) ?_)
    go_ret
    exact ⟨rfl, F1.out.trans (laid_fr w1 F) (by simp)⟩
  | false =>
    obtain ⟨hl288, hall⟩ := bad_false HB.out.symm
    rw [hF rfl]
    clear hF
    have HCZ : Hd (∀ l, cz lens l ≤ 288) := ⟨fun l => Nat.le_trans (cz_le lens l) hl288⟩
    have hsb : space lens ≤ 70778880 := by
      have := spaceF_le HCZ.out 15 (Nat.le_refl _)
      unfold space
      omega
    go_upto_region 2 with (rw [vec_zero]; refine wpl_store_vec rfl _ _ rfl w1.heap.size _ (fun _ => 0) rfl rfl (by exact blk_new w1 _) ?_)
    have N0 := laid_vec w1 (cz lens)
    have G0 := laid_fr w1 (cz lens)
    generalize ((w1.alloc (.cells (vec fun _ => 0) 126)).setRow w1.heap.size (vec (cz lens))) = w2 at *
    generalize w1.heap.size = gn at *
    have HN := Hd.mk N0
    have F2 := Hd.mk (F1.out.trans G0 (by simp))
    clear N0 G0 F1
    go_wp2_with (refine wpl_load_vec rfl _ rfl gn rfl _ HN.out ?_)
    go_loopg [5, 17] 16 (fun kq sv iv wr => ∃ (i s : Nat), sv = .int .i64 (s : Nat) ∧ iv = .int .i64 (i : Nat) ∧ i + kq = 16 ∧ s ≤ i * 288 ∧ Hd (s = usedF (cz lens) i) ∧ wr = w2)
    case atStart => exact ⟨0, 0, rfl, rfl, rfl, by omega, ⟨rfl⟩, rfl⟩
    case round =>
      obtain ⟨i, s, rfl, rfl, hi, hs, HS, rfl⟩ := hrel
      by_cases h : i < 16
      · have a0 := at_vec (cz lens) h
        obtain ⟨ci, hci⟩ : ∃ ci, ci = cz lens i := ⟨_, rfl⟩
        rw [← hci] at a0
        have hcb : ci ≤ 288 := by rw [hci]; exact HCZ.out i
        have HCI := Hd.mk hci
        clear hci
        go_wp2
        go_roundg (gk - 1)
        case measure => omega
        case rel => exact ⟨i + 1, s + ci, by go_num, by go_num, by omega, by omega, ⟨by rw [HS.out, HCI.out]; rfl⟩, rfl⟩
      · obtain rfl : i = 16 := by omega
        have HU : Hd (s = used lens) := ⟨HS.out⟩
        clear HS
        go_wp2_with (first | (refine wpl_load_vec rfl _ rfl gn rfl _ HN.out ?_))
        refine (sp_any wr (cz lens) HCZ.out).mono ?_
        rintro e w3 ⟨rfl, h3⟩
        have HN3 := Hd.mk (h3.blk HN.out (by simp))
        have F3 := Hd.mk (F2.out.trans h3 (by simp))
        clear h3
        obtain ⟨sp, hsp⟩ : ∃ sp, sp = space lens := ⟨_, rfl⟩
        rw [← hsp] at hsb
        rw [show spaceF (cz lens) 15 = sp from hsp.symm]
        have HSP := Hd.mk hsp
        obtain ⟨c1, hc1⟩ : ∃ c1, c1 = cz lens 1 := ⟨_, rfl⟩
        have k1 := (blk_cell HN3.out 1).trans (vec_get (cz lens) (by omega))
        rw [← hc1] at k1
        have HR2 : Hd (r = if 32768 < sp then 51 else if sp = 32768 ∨ s = 0 ∨ (s = 1 ∧ c1 = 1) then 0 else 52) := ⟨by
          rw [HR.out, hsp, hc1, HU.out]
          unfold check
          rw [if_neg (by rw [← HB.out]; simp)]⟩
        clear hsp hc1 HR HU HB
        by_cases h51 : 32768 < sp
        · obtain rfl : r = 51 := by rw [HR2.out, if_pos h51]
          go_wp2
          go_ret
          exact ⟨rfl, F3.out⟩
        · by_cases hw : sp = 32768
          · obtain rfl : r = 0 := by rw [HR2.out, if_neg h51, if_pos (.inl hw)]
            have g1 : ((sp : Int) == 32768) = true := by simp; omega
            clear hw
            go_wp2
            go_ret
            exact ⟨rfl, F3.out⟩
          · have g1 : ((sp : Int) == 32768) = false := by simp; omega
            by_cases hs0 : s = 0
            · obtain rfl : r = 0 := by rw [HR2.out, if_neg h51, if_pos (.inr (.inl hs0))]
              have g2 : ((s : Int) == 0) = true := by simp; omega
              clear hs0 hw
              go_wp2
              go_ret
              exact ⟨rfl, F3.out⟩
            · have g2 : ((s : Int) == 0) = false := by simp; omega
              by_cases hs1 : s = 1
              · have g3 : ((s : Int) == 1) = true := by simp; omega
                by_cases hc : c1 = 1
                · obtain rfl : r = 0 := by rw [HR2.out, if_neg h51, if_pos (.inr (.inr ⟨hs1, hc⟩))]
                  have g4 : ((c1 : Int) == 1) = true := by simp; omega
                  clear hs0 hw hs1 hc
                  go_wp2
                  go_ret
                  exact ⟨rfl, F3.out⟩
                · obtain rfl : r = 52 := by rw [HR2.out, if_neg h51, if_neg (by omega)]
                  have g4 : ((c1 : Int) == 1) = false := by simp; omega
                  clear hs0 hw hs1 hc
                  go_wp2
                  go_ret
                  exact ⟨rfl, F3.out⟩
              · obtain rfl : r = 52 := by rw [HR2.out, if_neg h51, if_neg (by omega)]
                have g3 : ((s : Int) == 1) = false := by simp; omega
                clear hs0 hw hs1
                go_wp2
                go_ret
                exact ⟨rfl, F3.out⟩
end Go.Proofs.Ytofajcifjmhomaa.Code
