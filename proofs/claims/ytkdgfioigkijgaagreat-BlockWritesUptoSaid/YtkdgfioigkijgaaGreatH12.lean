/- Texts of this claim, one behind the other: HeadPlanA, HeadPlanB, CodeR, HeadTold, HeadShort, HeadDocA. -/
import Derived.Test.YtkdgfioigkijgaaGreatH01
import Derived.Test.YtkdgfioigkijgaaGreatH02
import Derived.Test.YtkdgfioigkijgaaGreatH03
import Derived.Test.YtkdgfioigkijgaaGreatH04
import Derived.Test.YtkdgfioigkijgaaGreatH05
import Derived.Test.YtkdgfioigkijgaaGreatH07
import Derived.Test.YtkdgfioigkijgaaGreatH08
import Derived.Test.YtkdgfioigkijgaaGreatH09
import Derived.Test.YtkdgfioigkijgaaGreatH10
import Derived.Test.YtkdgfioigkijgaaGreatH11
import Derived.Deep.CutRange
import Derived.Deep.Light
import Derived.Deep.CutBlock
/- Chapter 08: can, cut, order walked. No condition. -/
set_option linter.unusedVariables false
set_option linter.unusedSimpArgs false
set_option maxRecDepth 100000
namespace Go.Proofs.YtkdgfioigkijgaaGreat.Head
open Go.RowKit Go.Proofs.YtkdgfioigkijgaaGreat.Lib Go.Proofs.YtkdgfioigkijgaaGreat.Ints Go.Proofs.YtkdgfioigkijgaaGreat.Runs
theorem i64_at {w : World} {A : Option Addr} {l : List Int} {q : Option Nat} (h : Sl w A (i64s l) q) {i : Nat} (hi : i < l.length) {b off : Nat} (hA : A = some ⟨b, off, none⟩) : w.cell? ⟨b, off + i, none⟩ = some (.int .i64 (l.getD i 0)) := by
  obtain ⟨b', off', h1, _, hc⟩ := h (by rw [i64s_length]; omega)
  rw [hA] at h1
  cases h1
  rw [hc i (by rw [i64s_length]; omega), i64s_get, List.getD_eq_getElem?_getD, List.getElem?_eq_getElem hi]
  rfl
set_option maxHeartbeats 4000000 in
theorem can_any (w : World) (A B : Option Addr) (n c m d : Nat) (lit dist : List Int) (p q : Option Nat) (hX : SlArg w A n c (i64s lit) p) (hY : SlArg w B m d (i64s dist) q) (b : Bool) (hb : b = okH lit dist) :
    Calls Tryz.prog 192 #[.slice A n c, .slice B m d] w fun e w' => e = .returned (.bool b) ∧ Fr w w' [] := by
  have hn : lit.length = n := by have := hX.len; simpa [i64s] using this
  have hm : dist.length = m := by have := hY.len; simpa [i64s] using this
  have HX := Hd.mk hX
  have HY := Hd.mk hY
  have HB : Hd (b = decide (257 ≤ n ∧ n ≤ 286 ∧ m ≤ 30 ∧ Code.check lit = 0 ∧ Code.check dist = 0 ∧ lit.getD 256 0 ≠ 0)) := ⟨by rw [hb, ← hn, ← hm]; rfl⟩
  have hn2 := hX.le
  have hn3 := hX.max
  have hm2 := hY.le
  have hm3 := hY.max
  unfold maxLen at hn3 hm3
  clear hX hY hb
  go_enter Tryz.func192, Tryz.ntmps192
  by_cases h1 : 257 ≤ n
  · by_cases h2 : n ≤ 286
    · by_cases h3 : m ≤ 30
      · go_wp2_with (fail)
        refine (Code.check_any w A n c lit p HX.out _ rfl).mono ?_
        rintro e w1 ⟨rfl, h⟩
        have F1 := Hd.mk h
        clear h
        obtain ⟨k, hk⟩ : ∃ k, k = Code.check lit := ⟨_, rfl⟩
        rw [← hk] at HB ⊢
        have HK := Hd.mk hk
        clear hk
        by_cases h4 : k = 0
        · subst h4
          go_wp2_with (fail)
          refine (Code.check_any w1 B m d dist q (HY.out.frame F1.out (by simp)) _ rfl).mono ?_
          rintro e w2 ⟨rfl, h⟩
          have F2 := Hd.mk (F1.out.trans h (by simp))
          clear h
          obtain ⟨k2, hk⟩ : ∃ k, k = Code.check dist := ⟨_, rfl⟩
          rw [← hk] at HB ⊢
          clear hk
          by_cases h5 : k2 = 0
          · subst h5
            obtain ⟨bx, ox, rfl, _, _⟩ := HX.out.sl (by rw [i64s_length]; omega)
            have k0 := i64_at (HX.out.sl.frame F2.out (by simp)) (i := 256) (by omega) rfl
            obtain ⟨z, hz⟩ : ∃ z, z = lit.getD 256 0 := ⟨_, rfl⟩
            rw [← hz] at HB k0
            clear hz
            by_cases h6 : z = 0
            · subst h6
              obtain rfl : b = false := by rw [HB.out]; exact decide_eq_false (fun h => h.2.2.2.2.2 rfl)
              go_wp2
              go_ret
              exact ⟨rfl, F2.out⟩
            · obtain rfl : b = true := by rw [HB.out]; simp [h1, h2, h3, h6]
              have hne : (z != 0) = true := by simpa using h6
              go_wp2
              go_ret
              exact ⟨rfl, F2.out⟩
          · have hne : (k2 == 0) = false := by simpa using h5
            obtain rfl : b = false := by rw [HB.out]; exact decide_eq_false (fun h => h5 h.2.2.2.2.1)
            go_wp2
            go_ret
            exact ⟨rfl, F2.out⟩
        · have hne : (k == 0) = false := by simpa using h4
          obtain rfl : b = false := by rw [HB.out]; exact decide_eq_false (fun h => h4 h.2.2.2.1)
          go_wp2
          go_ret
          exact ⟨rfl, F1.out⟩
      · obtain rfl : b = false := by rw [HB.out]; exact decide_eq_false (fun h => h3 h.2.2.1)
        go_wp2
        go_ret
        exact ⟨rfl, Fr.refl _ _⟩
    · obtain rfl : b = false := by rw [HB.out]; exact decide_eq_false (fun h => h2 h.2.1)
      go_wp2
      go_ret
      exact ⟨rfl, Fr.refl _ _⟩
  · obtain rfl : b = false := by rw [HB.out]; exact decide_eq_false (fun h => h1 h.1)
    go_wp2
    go_ret
    exact ⟨rfl, Fr.refl _ _⟩
theorem run_cut_toE {P : Program} (t e : TypeId) (kh : IntKind) {i : TypeInfo} (ht : P.underlying t = some (.slice e)) (hi : P.info? e = some i) (size : Nat) (hsz : i.size = size) (A : Option Addr) (n c m : Nat) (hA : A = none → c = 0) (h2 : m ≤ c) :
    ∀ W : World, (Instr.slice t (.slice A n c) none (some (.int kh (m : Nat))) none).run P W = .ok (.slice A m c) W := Lens.run_cut_to t e kh ht hi size hsz A n c m hA h2
set_option maxHeartbeats 4000000 in
theorem cut_any (w : World) (A : Option Addr) (n c : Nat) (l : List Int) (p : Option Nat) (hX : SlArg w A n c (i64s l) p) (least : Nat) (hl : least ≤ 1000) (k : Nat) (hk : k = cutN l least n) :
    Calls Tryz.prog 193 #[.slice A n c, .int .i64 (least : Nat)] w fun e w' => e = .returned (.slice A k c) ∧ w = w' := by
  obtain ⟨j0, hj0, hj1, hj2, hj3⟩ := info_parts infoI64
  have hn : l.length = n := by have := hX.len; simpa [i64s] using this
  have HX := Hd.mk hX
  have HK := Hd.mk hk
  have hn2 := hX.le
  have hn3 := hX.max
  have HA := Hd.mk hX.nil
  unfold maxLen at hn3
  clear hX hk
  go_enter Tryz.func193, Tryz.ntmps193
  go_wp2
  go_loopg [0] n (fun kq av wr => ∃ j : Nat, av = .slice A j c ∧ j = kq ∧ j ≤ n ∧ Hd (cutN l least j = k) ∧ w = wr)
  case atStart => exact ⟨n, rfl, rfl, Nat.le_refl _, ⟨HK.out.symm⟩, rfl⟩
  case round =>
    obtain ⟨j, rfl, rfl, hj, HC, rfl⟩ := hrel
    by_cases h1 : least < j
    · obtain ⟨i, rfl⟩ : ∃ i, j = i + 1 := ⟨j - 1, by omega⟩
      obtain ⟨bx, ox, rfl, _, _⟩ := HX.out.sl (by rw [i64s_length]; omega)
      have k0 := i64_at HX.out.sl (i := i) (by omega) rfl
      obtain ⟨z, hz⟩ : ∃ z, z = l.getD i 0 := ⟨_, rfl⟩
      have HC2 : Hd ((if least < i + 1 ∧ z = 0 then cutN l least i else i + 1) = k) := ⟨by have := HC.out; rw [cutN, ← hz] at this; exact this⟩
      rw [← hz] at k0
      clear hz
      by_cases h2 : z = 0
      · subst h2
        have HC3 : Hd (cutN l least i = k) := ⟨by have := HC2.out; rwa [if_pos ⟨h1, rfl⟩] at this⟩
        have hs := run_cut_toE (P := Tryz.prog) 79 3 .i64 Tryz.underlying79 hj0 1 hj2 (some ⟨bx, ox, none⟩) (i + 1) c i (by intro h; cases h) (by omega)
        clear HC HC2
        go_wp2
        go_roundg i
        case measure => omega
        case rel => exact ⟨i, rfl, rfl, by omega, HC3, rfl⟩
      · have hne : (z == 0) = false := by simpa using h2
        obtain rfl : k = i + 1 := by have := HC2.out; rw [if_neg (fun h => h2 h.2)] at this; exact this.symm
        go_wp2
        go_ret
        exact ⟨rfl, rfl⟩
    · obtain rfl : k = j := by
        have := HC.out
        cases j with
        | zero => simpa [cutN] using this.symm
        | succ i => rw [cutN, if_neg (fun h => h1 h.1)] at this; exact this.symm
      go_wp2
      go_ret
      exact ⟨rfl, rfl⟩
end Go.Proofs.YtkdgfioigkijgaaGreat.Head
/- Chapter 08: newPlan walked. No condition. -/
set_option linter.unusedVariables false
set_option linter.unusedSimpArgs false
set_option maxRecDepth 100000
namespace Go.Proofs.YtkdgfioigkijgaaGreat.Head
open Go.RowKit Go.Proofs.YtkdgfioigkijgaaGreat.Lib Go.Proofs.YtkdgfioigkijgaaGreat.Ints Go.Proofs.YtkdgfioigkijgaaGreat.Runs
def ordC : Array Value := (i64s (ord.map fun (i : Nat) => (i : Int))).toArray
theorem ordInfo : (Tryz.prog.info? 294).map (·.size) = some ordC.size := by kernel_rfl
set_option maxHeartbeats 2000000 in
theorem order_any (w : World) : Calls Tryz.prog 179 #[] w fun e w' => e = .returned (.agg ordC) ∧ Fr w w' [] := by
  go_enter Tryz.func179, Tryz.ntmps179
  go_upto_region 1 with (fail)
  go_wp2_with (refine wpList_store_row rfl 294 _ _ rfl w.heap.size ordC rfl rfl 294 _ (by exact blk_new w _) (by kernel_rfl) (by kernel_rfl) (by kernel_rfl) ?_)
  refine bodyPost_ret (results_cell_row rfl _ _ w.heap.size 294 _ _ _ rfl (setRow_heap _ _ _ _ _ _ (blk_new w _)) Tryz.underlying294 rfl ordInfo) rfl ?_
  exact ⟨rfl, Code.Fr.setRow ((Fr.refl w []).alloc _) _ (.inr (Nat.le_refl _))⟩
theorem ordIdx : ∀ i : Nat, i < 19 → ∀ W : World, (Instr.index 294 (.agg ordC) (.int .i64 (i : Nat))).run Tryz.prog W = .ok (.int .i64 ((ord.getD i 0 : Nat) : Int)) W
  | 0, _, W => by kernel_rfl
  | 1, _, W => by kernel_rfl
  | 2, _, W => by kernel_rfl
  | 3, _, W => by kernel_rfl
  | 4, _, W => by kernel_rfl
  | 5, _, W => by kernel_rfl
  | 6, _, W => by kernel_rfl
  | 7, _, W => by kernel_rfl
  | 8, _, W => by kernel_rfl
  | 9, _, W => by kernel_rfl
  | 10, _, W => by kernel_rfl
  | 11, _, W => by kernel_rfl
  | 12, _, W => by kernel_rfl
  | 13, _, W => by kernel_rfl
  | 14, _, W => by kernel_rfl
  | 15, _, W => by kernel_rfl
  | 16, _, W => by kernel_rfl
  | 17, _, W => by kernel_rfl
  | 18, _, W => by kernel_rfl
  | k + 19, h, _ => absurd h (by omega)
theorem ord_lt : ∀ i, i < 19 → ord.getD i 0 < 19 := by decide
/-! ### the counts -/
theorem freqOf_len (rs : List (Int × Int)) : (freqOf rs).length = 19 := by simp [freqOf]
theorem freqF_snoc (rs : List (Int × Int)) (r : Int × Int) (i : Nat) : freqF (rs ++ [r]) i = freqF rs i + if r.1 = (i : Int) then 1 else 0 := by
  unfold freqF
  rw [List.countP_append, List.countP_cons, List.countP_nil]
  by_cases h : r.1 = (i : Int)
  · simp [h]
  · simp [h]
theorem freqF_le (rs : List (Int × Int)) (i : Nat) : freqF rs i ≤ rs.length := List.countP_le_length
theorem freq_get (rs : List (Int × Int)) {s : Nat} (h : s < 19) : (i64s (freqOf rs))[s]? = some (.int .i64 (freqF rs s : Nat)) := by
  rw [i64s_get]; simp [freqOf, h]
theorem freq_set (rs : List (Int × Int)) (r : Int × Int) {s : Nat} (h : s < 19) (hr : r.1 = (s : Int)) : (i64s (freqOf rs)).toArray.setIfInBounds s (.int .i64 ((freqF rs s : Nat) + 1 : Int)) = (i64s (freqOf (rs ++ [r]))).toArray := by
  apply Array.ext_getElem?
  intro k
  rw [Array.getElem?_setIfInBounds]
  simp only [List.getElem?_toArray]
  by_cases hk : k < 19
  · rw [freq_get _ hk]
    by_cases e : s = k
    · subst e
      rw [if_pos rfl, if_pos (by simp [i64s, freqOf]; exact h), freq_get _ h, freqF_snoc, if_pos hr]
      rfl
    · rw [if_neg e, freq_get _ hk, freqF_snoc, if_neg (by rw [hr]; omega), Nat.add_zero]
  · rw [if_neg (by omega)]
    rw [List.getElem?_eq_none (by simp [i64s, freqOf]; omega), List.getElem?_eq_none (by simp [i64s, freqOf]; omega)]
theorem freq_zero : (#[Value.int .i64 0, .int .i64 0, .int .i64 0, .int .i64 0, .int .i64 0, .int .i64 0, .int .i64 0, .int .i64 0, .int .i64 0, .int .i64 0, .int .i64 0, .int .i64 0, .int .i64 0, .int .i64 0, .int .i64 0, .int .i64 0, .int .i64 0, .int .i64 0, .int .i64 0] : Array Value) = (i64s (freqOf [])).toArray := by kernel_rfl
theorem freq_fine {rs : List (Int × Int)} (h : rs.length ≤ 1000) : Lens.cn (freqOf rs) = 0 := by
  unfold Lens.cn
  rw [if_neg (by rw [freqOf_len]; decide), Lens.out_false, if_neg (by decide)]
  intro i hi
  have h1 := freqF_le rs i
  simp only [freqOf, List.getElem_map, List.getElem_range]
  omega
theorem hlens_eq {rs : List (Int × Int)} (h : rs.length ≤ 1000) : Lens.lensN 7 (freqOf rs) = ((List.range 19).map fun s => (Lens.lenOf 7 (freqOf rs) s : Int), 0) ∧ hlens rs = (List.range 19).map fun s => (Lens.lenOf 7 (freqOf rs) s : Int) := by
  have hl : (Lens.lvs (freqOf rs)).length ≤ 19 := by have := Lens.lvs_le (freqOf rs); rw [freqOf_len] at this; exact this
  have e : Lens.lensN 7 (freqOf rs) = ((List.range 19).map fun s => (Lens.lenOf 7 (freqOf rs) s : Int), 0) := by
    unfold Lens.lensN
    rw [if_neg (by decide), if_neg (by rw [freq_fine h]; decide), if_neg (by have : 2 ^ (7 : Int).toNat = 128 := rfl; omega), freqOf_len]
    rfl
  exact ⟨e, by unfold hlens; rw [e]⟩
theorem hlens_len {rs : List (Int × Int)} (h : rs.length ≤ 1000) : (hlens rs).length = 19 := by rw [(hlens_eq h).2]; simp
theorem hlens_check {rs : List (Int × Int)} (h : rs.length ≤ 1000) : Code.check (hlens rs) = 0 := by
  rw [(hlens_eq h).2]
  have := Lens.lens_check (fs := freqOf rs) (limit := 7) (by decide) (by decide) (by have := Lens.lvs_le (freqOf rs); rw [freqOf_len] at this; have e : 2 ^ 7 = 128 := rfl; omega) (by rw [freqOf_len]; decide)
  rwa [freqOf_len] at this
theorem hlens_le {rs : List (Int × Int)} (h : rs.length ≤ 1000) (s : Nat) : 0 ≤ (hlens rs).getD s 0 ∧ (hlens rs).getD s 0 ≤ 7 := by
  rw [(hlens_eq h).2, List.getD_eq_getElem?_getD]
  by_cases hs : s < 19
  · simp only [List.getElem?_map, List.getElem?_range hs, Option.map_some, Option.getD_some]
    have := Lens.lenOf_le (fs := freqOf rs) (limit := 7) (by decide) (by have := Lens.lvs_le (freqOf rs); rw [freqOf_len] at this; have e : 2 ^ 7 = 128 := rfl; omega) s
    omega
  · rw [List.getElem?_eq_none (by simp; omega)]; simp
/-! ### lengths that may be told -/
theorem okH_parts {lit dist : List Int} (h : okH lit dist = true) : 257 ≤ lit.length ∧ lit.length ≤ 286 ∧ dist.length ≤ 30 ∧ Code.check lit = 0 ∧ Code.check dist = 0 ∧ lit.getD 256 0 ≠ 0 := of_decide_eq_true h
theorem check_vals {l : List Int} (h : Code.check l = 0) : ∀ x ∈ l, 0 ≤ x ∧ x ≤ 15 := (Code.bad_false (Code.check_zero h).1).2
theorem distL_len (dist : List Int) (h : dist.length ≤ 30) : 1 ≤ (distL dist).length ∧ (distL dist).length ≤ 30 := by
  unfold distL
  have := cutN_le dist 1 dist.length
  split
  · simp
  · rename_i h1
    rw [cutL_len] at h1 ⊢
    omega
theorem allL_ok {lit dist : List Int} (h : okH lit dist = true) : (∀ x ∈ allL lit dist, 0 ≤ x ∧ x ≤ 15) ∧ (allL lit dist).length ≤ 316 ∧ (cutL lit 257).length ≤ 286 ∧ 257 ≤ (cutL lit 257).length := by
  obtain ⟨h1, h2, h3, h4, h5, h6⟩ := okH_parts h
  have a1 := cutN_le lit 257 lit.length
  have a2 := cutN_ge lit 257 lit.length h1
  have a3 := distL_len dist h3
  refine ⟨fun x hx => ?_, ?_, ?_, ?_⟩
  · rcases List.mem_append.1 hx with e | e
    · exact check_vals h4 x (List.mem_of_mem_take e)
    · unfold distL at e
      split at e
      · rw [List.mem_singleton] at e; subst e; exact ⟨by decide, by decide⟩
      · exact check_vals h5 x (List.mem_of_mem_take e)
  · unfold allL; rw [List.length_append, cutL_len]; omega
  · rw [cutL_len]; omega
  · rw [cutL_len]; omega
theorem bad_of {l : List Int} (h1 : l.length ≤ 320) (h2 : ∀ x ∈ l, 0 ≤ x ∧ x ≤ 15) : bad l = false := by
  unfold bad
  rw [decide_eq_false (by omega), out_false (fun i hi => h2 _ (List.getElem_mem hi))]
  rfl
def hruns (lit dist : List Int) : List (Int × Int) := runs (allL lit dist)
theorem hruns_ok {lit dist : List Int} (h : okH lit dist = true) : (∀ r ∈ hruns lit dist, RunB r) ∧ (hruns lit dist).length ≤ 316 ∧ bad (allL lit dist) = false := by
  obtain ⟨h1, h2, _⟩ := allL_ok h
  obtain ⟨h3, h4⟩ := runs_run h1
  exact ⟨h3, Nat.le_trans h4 h2, bad_of (by omega) h1⟩
end Go.Proofs.YtkdgfioigkijgaaGreat.Head
/- The document's Space, Check and Codes, walked. Conditions: none but the slice's. -/
set_option linter.unusedVariables false
set_option linter.unusedSimpArgs false
set_option maxRecDepth 100000
namespace Go.Proofs.YtkdgfioigkijgaaGreat.Code
open Go.RowKit Go.IntWalk Go.Proofs.YtkdgfioigkijgaaGreat.Lib Go.Proofs.YtkdgfioigkijgaaGreat.Ints

set_option maxHeartbeats 8000000 in
theorem rspc_any (w : World) (A : Option Addr) (n c : Nat) (lens : List Int) (q : Option Nat) (hS : SlArg w A n c (i64s lens) q) (v : Nat) (r : Int) (hv : v = spVal lens) (hr : r = spErr lens) :
    Calls Tryz.prog 180 #[.slice A n c] w fun e w' => e = .returned (.tuple #[.int .i64 (v : Nat), .int .i64 r]) ∧ w = w' := by
  have HR := Hd.mk hr
  have HV := Hd.mk hv
  have HS := Hd.mk hS
  have hl : lens.length = n := by have := hS.len; simpa [i64s] using this
  have HBAD : Hd (bad lens = true → v = 0 ∧ r = 50) := ⟨fun h => ⟨by rw [hv]; unfold spVal; rw [if_pos h], by rw [hr]; unfold spErr; rw [if_pos h]⟩⟩
  clear hr hv hS
  go_enter Tryz.func180, Tryz.ntmps180
  by_cases h288 : (n : Int) > 288
  · obtain ⟨rfl, rfl⟩ := HBAD.out (bad_long (by omega))
    go_wp2
    go_ret2
    exact ⟨rfl, rfl⟩
  · go_wp2
    go_loopg [4, 12] n (fun kq sv jv wr => ∃ (j s : Nat), sv = .int .i64 (s : Nat) ∧ jv = .int .i64 (j : Nat) ∧ j + kq = n ∧ s ≤ j * 16384 ∧ Hd (s = spaceR (lens.take j)) ∧ Hd (∀ (i : Nat) (hi : i < lens.length), i < j → 0 ≤ lens[i] ∧ lens[i] ≤ 15) ∧ wr = w)
    case atStart => exact ⟨0, 0, rfl, rfl, by omega, by omega, ⟨by simp [spaceR]⟩, ⟨by intro i hi h; omega⟩, rfl⟩
    case round =>
      obtain ⟨j, s, rfl, rfl, hj, hs, HSS, HP, rfl⟩ := hrel
      by_cases hjn : j < n
      · obtain ⟨bd, off, rfl, _, hcc⟩ := HS.out.sl (by rw [i64s_length]; omega)
        have kd := (hcc j (by rw [i64s_length]; omega)).trans (i64s_get lens j)
        obtain ⟨x, hx⟩ : ∃ x, lens[j]? = some x := ⟨_, List.getElem?_eq_getElem (by omega)⟩
        rw [hx] at kd
        simp only [Option.map_some] at kd
        have HX : Hd (∃ h : j < lens.length, lens[j] = x) := ⟨List.getElem?_eq_some_iff.mp hx⟩
        clear hcc hx
        by_cases hx0 : x < 0
        · obtain ⟨rfl, rfl⟩ := HBAD.out (by obtain ⟨e, he⟩ := HX.out; exact bad_at e (by omega))
          go_wp2
          go_ret2
          exact ⟨rfl, rfl⟩
        · by_cases hx1 : x > 15
          · obtain ⟨rfl, rfl⟩ := HBAD.out (by obtain ⟨e, he⟩ := HX.out; exact bad_at e (by omega))
            go_wp2
            go_ret2
            exact ⟨rfl, rfl⟩
          · have HP2 : Hd (∀ (i : Nat) (hi : i < lens.length), i < j + 1 → 0 ≤ lens[i] ∧ lens[i] ≤ 15) := ⟨by
              intro i hi hij
              by_cases e : i = j
              · subst e
                obtain ⟨e, he⟩ := HX.out
                rw [he]; omega
              · exact HP.out i hi (by omega)⟩
            have HSX : Hd (spaceR (lens.take (j + 1)) = s + (if 0 < x then 2 ^ (15 - x.toNat) else 0)) := ⟨by
              obtain ⟨e, he⟩ := HX.out
              rw [spaceR_take e, he, ← HSS.out]⟩
            obtain ⟨v0, rfl⟩ := Int.eq_ofNat_of_zero_le (show 0 ≤ x by omega)
            by_cases hxp : (v0 : Int) > 0
            · obtain ⟨z, hz⟩ : ∃ z, z = 2 ^ (15 - v0) := ⟨_, rfl⟩
              have hzb : z ≤ 16384 := by
                rw [hz]
                have : 2 ^ (15 - v0) ≤ 2 ^ 14 := Nat.pow_le_pow_right (by omega) (by omega)
                simpa using this
              have HZ := Hd.mk hz
              clear hz
              go_wp2
              have e1 : wrap64 ((2 : Int) ^ (15 - v0)) = (z : Nat) := by
                rw [show (2 : Int) ^ (15 - v0) = (z : Nat) from by rw [HZ.out]; push_cast; rfl]
                exact wrap64_in _ (by omega)
              rw [e1]
              have e2 : wrap64 ((s : Int) + (z : Nat)) = ((s + z : Nat) : Int) := by
                rw [show (s : Int) + (z : Nat) = ((s + z : Nat) : Int) from by push_cast; rfl]
                exact wrap64_in _ (by omega)
              rw [e2]
              go_roundg (gk - 1)
              case measure => omega
              case rel => exact ⟨j + 1, s + z, rfl, by go_num, by omega, by omega, ⟨by rw [HSX.out, if_pos hxp, HZ.out, Int.toNat_natCast]⟩, HP2, rfl⟩
            · go_wp2
              go_roundg (gk - 1)
              case measure => omega
              case rel => exact ⟨j + 1, s, by go_num, by go_num, by omega, by omega, ⟨by rw [HSX.out, if_neg (by omega)]; rfl⟩, HP2, rfl⟩
      · obtain rfl : j = n := by omega
        have hb : bad lens = false := bad_not (by omega) (fun i hi => HP.out i hi (by omega))
        have hall := (bad_false hb).2
        obtain rfl : r = 0 := by rw [HR.out]; unfold spErr; rw [if_neg (by rw [hb]; simp)]
        obtain rfl : v = s := by rw [HV.out, HSS.out, ← hl, List.take_length, spaceR_eq lens hall]; unfold spVal; rw [if_neg (by rw [hb]; simp)]
        clear hb hall
        go_wp2
        go_ret2
        exact ⟨rfl, rfl⟩
set_option maxHeartbeats 8000000 in
theorem rchk_any (w : World) (A : Option Addr) (n c : Nat) (lens : List Int) (q : Option Nat) (hS : SlArg w A n c (i64s lens) q) (r : Int) (hr : r = check lens) :
    Calls Tryz.prog 150 #[.slice A n c] w fun e w' => e = .returned (.int .i64 r) ∧ w = w' := by
  have HR : Hd (r = checkR lens) := ⟨by rw [checkR_eq]; exact hr⟩
  have HS := Hd.mk hS
  have hl : lens.length = n := by have := hS.len; simpa [i64s] using this
  clear hr hS
  obtain ⟨b, hb⟩ : ∃ b, b = bad lens := ⟨_, rfl⟩
  have HB := Hd.mk hb
  clear hb
  obtain ⟨sp, hsp⟩ : ∃ sp, sp = spVal lens := ⟨_, rfl⟩
  obtain ⟨er, her⟩ : ∃ er, er = spErr lens := ⟨_, rfl⟩
  have HSP := Hd.mk hsp
  have HER := Hd.mk her
  clear hsp her
  go_enter Tryz.func150, Tryz.ntmps150
  go_wp2_with (fail)
  refine (rspc_any w A n c lens q HS.out sp er HSP.out HER.out).mono ?_
  rintro e w1 ⟨rfl, rfl⟩
  cases b with
  | true =>
    obtain rfl : er = 50 := by rw [HER.out]; unfold spErr; rw [if_pos HB.out.symm]
    obtain rfl : r = 50 := by rw [HR.out]; unfold checkR; rw [if_pos HB.out.symm]
    go_wp2
    go_ret
    exact ⟨rfl, rfl⟩
  | false =>
    obtain rfl : er = 0 := by rw [HER.out]; unfold spErr; rw [if_neg (by rw [← HB.out]; simp)]
    obtain ⟨hl288, hall⟩ := bad_false HB.out.symm
    have hsp2 : sp = spaceR lens := by rw [HSP.out, spaceR_eq lens hall]; unfold spVal; rw [if_neg (by rw [← HB.out]; simp)]
    have hspb : sp ≤ 4718592 := by
      have := spaceR_le lens
      rw [hsp2]
      omega
    have HSP2 := Hd.mk hsp2
    have HALL := Hd.mk hall
    have HR2 : Hd (r = if 32768 < sp then 51 else if sp = 32768 ∨ usedR lens = 0 ∨ (usedR lens = 1 ∧ sp = 16384) then 0 else 52) := ⟨by
      rw [HR.out, hsp2]
      unfold checkR
      rw [if_neg (by rw [← HB.out]; simp)]⟩
    clear hsp2 hall HR
    by_cases h51 : 32768 < sp
    · obtain rfl : r = 51 := by rw [HR2.out, if_pos h51]
      go_wp2
      go_ret
      exact ⟨rfl, rfl⟩
    · go_wp2
      go_loopg [5, 20] n (fun kq sv jv wr => ∃ (j s : Nat), sv = .int .i64 (s : Nat) ∧ jv = .int .i64 (j : Nat) ∧ j + kq = n ∧ s ≤ j ∧ Hd (s = usedR (lens.take j)) ∧ wr = w)
      case atStart => exact ⟨0, 0, rfl, rfl, by omega, by omega, ⟨by simp [usedR]⟩, rfl⟩
      case round =>
        obtain ⟨j, s, rfl, rfl, hj, hs, HSS, rfl⟩ := hrel
        by_cases hjn : j < n
        · obtain ⟨bd, off, rfl, _, hcc⟩ := HS.out.sl (by rw [i64s_length]; omega)
          have kd := (hcc j (by rw [i64s_length]; omega)).trans (i64s_get lens j)
          obtain ⟨x, hx⟩ : ∃ x, lens[j]? = some x := ⟨_, List.getElem?_eq_getElem (by omega)⟩
          rw [hx] at kd
          simp only [Option.map_some] at kd
          have HSX : Hd (usedR (lens.take (j + 1)) = s + (if 0 < x then 1 else 0)) := ⟨by
            obtain ⟨e, he⟩ := List.getElem?_eq_some_iff.mp hx
            rw [usedR_take e, he, ← HSS.out]⟩
          clear hcc hx
          by_cases hxp : x > 0
          · go_wp2
            go_roundg (gk - 1)
            case measure => omega
            case rel => exact ⟨j + 1, s + 1, by go_num, by go_num, by omega, by omega, ⟨by rw [HSX.out, if_pos hxp]⟩, rfl⟩
          · go_wp2
            go_roundg (gk - 1)
            case measure => omega
            case rel => exact ⟨j + 1, s, by go_num, by go_num, by omega, by omega, ⟨by rw [HSX.out, if_neg (by omega)]; rfl⟩, rfl⟩
        · obtain rfl : j = n := by omega
          have HR3 : Hd (r = if sp = 32768 ∨ s = 0 ∨ (s = 1 ∧ sp = 16384) then 0 else 52) := ⟨by rw [HR2.out, if_neg h51, HSS.out, ← hl, List.take_length]⟩
          clear HR2 HSS
          by_cases hw : sp = 32768
          · obtain rfl : r = 0 := by rw [HR3.out, if_pos (.inl hw)]
            have g1 : ((sp : Int) == 32768) = true := by simp; omega
            clear hw
            go_wp2
            go_ret
            exact ⟨rfl, rfl⟩
          · have g1 : ((sp : Int) == 32768) = false := by simp; omega
            by_cases hs0 : s = 0
            · obtain rfl : r = 0 := by rw [HR3.out, if_pos (.inr (.inl hs0))]
              have g2 : ((s : Int) == 0) = true := by simp; omega
              clear hs0 hw
              go_wp2
              go_ret
              exact ⟨rfl, rfl⟩
            · have g2 : ((s : Int) == 0) = false := by simp; omega
              by_cases hs1 : s = 1
              · have g3 : ((s : Int) == 1) = true := by simp; omega
                by_cases hc : sp = 16384
                · obtain rfl : r = 0 := by rw [HR3.out, if_pos (.inr (.inr ⟨hs1, hc⟩))]
                  have g4 : ((sp : Int) == 16384) = true := by simp; omega
                  clear hs0 hw hs1 hc
                  go_wp2
                  go_ret
                  exact ⟨rfl, rfl⟩
                · obtain rfl : r = 52 := by rw [HR3.out, if_neg (by omega)]
                  have g4 : ((sp : Int) == 16384) = false := by simp; omega
                  clear hs0 hw hs1 hc
                  go_wp2
                  go_ret
                  exact ⟨rfl, rfl⟩
              · obtain rfl : r = 52 := by rw [HR3.out, if_neg (by omega)]
                have g3 : ((s : Int) == 1) = false := by simp; omega
                clear hs0 hw hs1
                go_wp2
                go_ret
                exact ⟨rfl, rfl⟩
set_option maxHeartbeats 8000000 in
theorem rcodes_any (w : World) (A : Option Addr) (n c : Nat) (lens : List Int) (q : Option Nat) (hS : SlArg w A n c (i64s lens) q) (r : Int) (L : List Nat) (hr : r = check lens) (hL : L = codes lens) :
    Calls Tryz.prog 141 #[.slice A n c] w fun e w' => ∃ A' d', e = .returned (.tuple #[.slice A' L.length d', .int .i64 r]) ∧
      w'.ownsRow 0 3 1 (.slice A' L.length d') L.length (nv L) ∧ (∀ y, (Value.slice A' L.length d').ownBlock = some y → w.heap.size ≤ y) ∧ Fr w w' [] := by
  obtain ⟨j0, hj0, hj1, hj2, hj3⟩ := info_parts infoI64
  have HS := Hd.mk hS
  have HR := Hd.mk hr
  have HL := Hd.mk hL
  have hl : lens.length = n := by have := hS.len; simpa [i64s] using this
  clear hS hr hL
  go_enter Tryz.func141, Tryz.ntmps141
  go_wp2_with (fail)
  refine (rchk_any w A n c lens q HS.out r HR.out).mono ?_
  rintro e w1 ⟨rfl, rfl⟩
  by_cases hr0 : r = 0
  · subst hr0
    obtain ⟨hb, hsp⟩ := check_zero HR.out.symm
    obtain ⟨hl288, hall⟩ := bad_false hb
    have HALL := Hd.mk hall
    have HSP := Hd.mk hsp
    have hLn : L.length = n := by rw [HL.out, codes_len HR.out.symm, hl]
    clear hb hall hsp
    go_upto_region 5 with (refine wpList_make_full _ rfl _ _ 79 rfl 0 3 j0 (.int .i64 0) 1 Tryz.underlying79 hj0 hj1 hj2 .i64 .i64 _ _ n rfl rfl rfl rfl (by rw [hj3]; omega) (by unfold maxLen; omega) (Nat.zero_le _) ?_; intro w2 hown1 hgrow1; have O2 := Hd.mk hown1; have F2 := Hd.mk ((Fr.refl w []).grown hgrow1 (by simp)); clear hown1 hgrow1)
    have hgo : w.heap.size ≤ w.heap.size := Nat.le_refl _
    obtain ⟨go, hgoq⟩ : ∃ go, go = w.heap.size := ⟨_, rfl⟩
    rw [← hgoq] at O2 ⊢
    have hgo2 : w.heap.size ≤ go := by omega
    have O3 : Hd (w2.ownsRow 0 3 1 (.slice (some ⟨go, 0, none⟩) n n) n (nv (outL lens 1 0))) := ⟨by
      have e := toList_madeCells_one (Value.int .i64 0) (n * 1)
      have e2 : (Value.int .i64 0).cells = #[Value.int .i64 0] := rfl
      have e3 : nv (outL lens 1 0) = (madeCells (Value.int .i64 0).cells (n * 1)).toList := by
        rw [e2, e, ← outL_start, hl]
        simp [nv, i64s]
      rw [e3]
      exact O2.out⟩
    clear O2 hgo hgoq
    go_wp2
    go_loopg [6, 7, 8] 15 (fun kq xv lv nv' wr => ∃ (m nx la : Nat), xv = .int .i64 (nx : Nat) ∧ lv = .int .i64 (la : Nat) ∧ nv' = .int .i64 ((m + 1 : Nat) : Int) ∧ m + kq = 15 ∧ la ≤ 15 ∧ nx ≤ 32768 ∧ Hd (InvC lens (m + 1) 0 nx la) ∧ Hd (wr.ownsRow 0 3 1 (.slice (some ⟨go, 0, none⟩) n n) n (nv (outL lens (m + 1) 0))) ∧ Hd (Fr w wr []))
    case atStart => exact ⟨0, 0, 0, rfl, rfl, rfl, rfl, by omega, by omega, ⟨.inl ⟨rfl, rfl, by simp [firstF, cz, cnt]⟩⟩, O3, F2⟩
    case round =>
      obtain ⟨m, nx, la, rfl, rfl, rfl, hm, hla, hnx, HI, HO, HF⟩ := hrel
      obtain ⟨g0, rfl⟩ : ∃ g0 : Nat, g0 = gk := ⟨_, rfl⟩
      by_cases hm15 : m < 15
      · obtain ⟨nn, hnn⟩ : ∃ nn, nn = m + 1 := ⟨_, rfl⟩
        rw [← hnn] at HI HO ⊢
        have hn1 : 1 ≤ nn := by omega
        have hn15 : nn ≤ 15 := by omega
        have hn15i : (nn : Int) ≤ 15 := by omega
        have HNN := Hd.mk hnn
        clear hnn
        go_wp2_with (fail)
        go_loopg [6, 7, 25] n (fun kq xv lv iv wr => ∃ (i nx la : Nat), xv = .int .i64 (nx : Nat) ∧ lv = .int .i64 (la : Nat) ∧ iv = .int .i64 (i : Nat) ∧ i + kq = n ∧ la ≤ nn ∧ nx ≤ 32768 ∧ Hd (InvC lens nn i nx la) ∧ Hd (wr.ownsRow 0 3 1 (.slice (some ⟨go, 0, none⟩) n n) n (nv (outL lens nn i))) ∧ Hd (Fr w wr []))
        case atStart =>
          have hlan : la ≤ nn := by
            rcases HI.out with ⟨h1, _⟩ | ⟨_, h2, _⟩ <;> omega
          exact ⟨0, nx, la, rfl, rfl, rfl, by omega, hlan, hnx, HI, HO, HF⟩
        case round =>
          clear HI HO HF hnx
          obtain ⟨i, nx, la, rfl, rfl, rfl, hik, hla2, hnx, HI, HO, HF⟩ := hrel
          by_cases hi : i < n
          · obtain ⟨bd, off, rfl, _, hcc⟩ := (HS.out.sl.frame HF.out (by simp)) (by rw [i64s_length]; omega)
            have kd := (hcc i (by rw [i64s_length]; omega)).trans (i64s_get lens i)
            obtain ⟨x, hx⟩ : ∃ x, lens[i]? = some x := ⟨_, List.getElem?_eq_getElem (by omega)⟩
            rw [hx] at kd
            simp only [Option.map_some] at kd
            have HX : Hd (∃ h : i < lens.length, lens[i] = x) := ⟨List.getElem?_eq_some_iff.mp hx⟩
            clear hcc hx
            by_cases hxn : x = (nn : Int)
            · have g1 : (x != (nn : Int)) = false := by simp; exact hxn
              have HL2 : Hd (∃ h : i < lens.length, lens[i] = (nn : Int)) := ⟨by obtain ⟨h, e⟩ := HX.out; exact ⟨h, by rw [e, hxn]⟩⟩
              obtain ⟨hil, hie⟩ := HL2.out
              obtain ⟨p1, p2⟩ := inv_put hn1 hil hie HI.out
              obtain ⟨cd, hcd⟩ : ∃ cd, cd = firstF (cz lens) nn + cnt (lens.take i) nn := ⟨_, rfl⟩
              rw [← hcd] at p1 p2
              have hcb : cd ≤ 32768 := by
                obtain ⟨cd', c1, c2, c3, c4⟩ := code_fits HR.out.symm hil hie (by omega)
                have : 2 ^ nn ≤ 2 ^ 15 := Nat.pow_le_pow_right (by omega) (by omega)
                omega
              have P1 := Hd.mk p1
              have P2 := Hd.mk p2
              have O4 : Hd ((nv (outL lens nn i)).set i (.int .i64 (cd : Nat)) = nv (outL lens nn (i + 1))) := ⟨by
                rw [← outL_put hn1 hil hie, ← hcd]
                unfold nv i64s
                simp [List.map_set]⟩
              obtain ⟨u0, y0, f0⟩ := own_any HO.out (j := i) (by omega)
              clear hxn hil hie p1 p2 hcd
              by_cases hl0 : (la : Int) > 0
              · have e3 : Hd ((nx + 1) * 2 ^ (nn - la) = cd) := ⟨by have := P1.out; rw [if_pos (by omega)] at this; exact this⟩
                have hlan : (la : Int) ≤ (nn : Nat) := by omega
                go_upto_region 15 with (fail)
                have e4 : wrap64 (((nx : Int) + 1) * 2 ^ (nn - la)) = (cd : Nat) := by
                  rw [show ((nx : Int) + 1) * 2 ^ (nn - la) = (cd : Nat) from by rw [← e3.out]; push_cast; rfl]
                  exact wrap64_in _ (by omega)
                rw [e4]
                clear e4
                go_wp2
                go_roundg (gk - 1)
                case measure => omega
                case rel => exact ⟨i + 1, cd, nn, rfl, rfl, by go_num, by omega, Nat.le_refl _, hcb, P2, ⟨by rw [← O4.out]; exact (HO.out.stored _ _).1⟩, ⟨HF.out.setCell _ (.inr hgo2)⟩⟩
              · have e3 : nx = cd := by have := P1.out; rw [if_neg (by omega)] at this; exact this
                subst e3
                go_wp2
                go_roundg (gk - 1)
                case measure => omega
                case rel => exact ⟨i + 1, nx, nn, rfl, rfl, by go_num, by omega, Nat.le_refl _, hcb, P2, ⟨by rw [← O4.out]; exact (HO.out.stored _ _).1⟩, ⟨HF.out.setCell _ (.inr hgo2)⟩⟩
            · have g1 : (x != (nn : Int)) = true := by simp; exact hxn
              obtain ⟨hil, hie⟩ := HX.out
              have hne : lens[i] ≠ (nn : Int) := by rw [hie]; exact hxn
              have I2 := Hd.mk (inv_skip hil hne HI.out)
              have O4 : Hd (wr.ownsRow 0 3 1 (.slice (some ⟨go, 0, none⟩) n n) n (nv (outL lens nn (i + 1)))) := ⟨by rw [← outL_skip hil hne]; exact HO.out⟩
              clear hxn hil hie hne HO
              go_wp2
              go_roundg (gk - 1)
              case measure => omega
              case rel => exact ⟨i + 1, nx, la, rfl, rfl, by go_num, by omega, hla2, hnx, I2, O4, HF⟩
          · obtain rfl : i = n := by omega
            have I2 : Hd (InvC lens (nn + 1) 0 nx la) := ⟨inv_row hn1 (by rw [hl]; exact HI.out)⟩
            have O4 : Hd (wr.ownsRow 0 3 1 (.slice (some ⟨go, 0, none⟩) i i) i (nv (outL lens (nn + 1) 0))) := ⟨by rw [← outL_row, hl]; exact HO.out⟩
            clear HI HO
            have hla15 : la ≤ 15 := by omega
            go_wp2
            go_roundg (g0 - 1)
            case measure => omega
            case rel => exact ⟨nn, nx, la, rfl, rfl, by go_num, by have := HNN.out; omega, hla15, hnx, I2, O4, HF⟩
      · obtain rfl : m = 15 := by omega
        go_wp2
        go_ret2
        have h2 := HO.out
        rw [show 15 + 1 = 16 from rfl, outL_end HR.out.symm, ← HL.out] at h2
        rw [hLn]
        exact ⟨_, _, rfl, h2, (by intro y hy; cases hy; exact hgo2), HF.out⟩
  · have hne : (r != 0) = true := by simpa using hr0
    obtain rfl : L = [] := by rw [HL.out]; unfold codes; rw [if_neg (by rw [← HR.out]; exact hr0)]
    go_wp2
    go_ret2
    exact ⟨none, 0, rfl, (show w.ownsRow 0 3 1 (.slice none 0 0) 0 [] from own_nil _ _ _ _), (by intro j hj; cases hj), Fr.refl _ _⟩
end Go.Proofs.YtkdgfioigkijgaaGreat.Code
/- Chapter 08: the document's Told walked. No condition. -/
set_option linter.unusedVariables false
set_option linter.unusedSimpArgs false
set_option maxRecDepth 100000
namespace Go.Proofs.YtkdgfioigkijgaaGreat.Head
open Go.RowKit Go.Proofs.YtkdgfioigkijgaaGreat.Lib Go.Proofs.YtkdgfioigkijgaaGreat.Ints Go.Proofs.YtkdgfioigkijgaaGreat.Runs
set_option maxHeartbeats 4000000 in
theorem told_any (w : World) (A B : Option Addr) (n c m d : Nat) (lit dist : List Int) (p q : Option Nat) (hX : SlArg w A n c (i64s lit) p) (hY : SlArg w B m d (i64s dist) q) (b : Bool) (hb : b = okH lit dist) :
    Calls Tryz.prog 91 #[.slice A n c, .slice B m d] w fun e w' => e = .returned (.bool b) ∧ w = w' := by
  have HX := Hd.mk hX
  have HY := Hd.mk hY
  have HB := Hd.mk hb
  have hl : lit.length = n := by have := hX.len; simpa [i64s] using this
  have hm : dist.length = m := by have := hY.len; simpa [i64s] using this
  subst hl hm
  clear hX hY hb
  by_cases hA : 257 ≤ lit.length ∧ lit.length ≤ 286 ∧ dist.length ≤ 30
  · obtain ⟨h1, h2, h3⟩ := hA
    obtain ⟨r1, hr1⟩ : ∃ r, r = Code.check lit := ⟨_, rfl⟩
    obtain ⟨r2, hr2⟩ : ∃ r, r = Code.check dist := ⟨_, rfl⟩
    have R1 := Hd.mk hr1
    have R2 := Hd.mk hr2
    clear hr1 hr2
    obtain ⟨x, hx⟩ : ∃ x, x = lit[256] := ⟨_, rfl⟩
    have HXV : Hd (lit.getD 256 0 = x) := ⟨by rw [List.getD_eq_getElem?_getD, List.getElem?_eq_getElem (by omega), hx]; rfl⟩
    obtain ⟨a, o1, rfl, _, ha⟩ := HX.out.sl (by simp [i64s]; omega)
    have ca := (ha 256 (by simp [i64s]; omega)).trans (by rw [i64s_get, List.getElem?_eq_getElem (by omega), ← hx])
    clear ha hx
    have hi : ((256 : Nat) : Int) < (lit.length : Int) := by omega
    go_enter Tryz.func91, Tryz.ntmps91
    go_wp2_with (fail)
    refine (Code.rchk_any w _ _ _ lit p HX.out r1 R1.out).mono ?_
    rintro e w1 ⟨rfl, rfl⟩
    by_cases e1 : r1 = 0
    · subst e1
      go_wp2_with (fail)
      refine (Code.rchk_any w _ _ _ dist q HY.out r2 R2.out).mono ?_
      rintro e w1 ⟨rfl, rfl⟩
      by_cases e2 : r2 = 0
      · subst e2
        by_cases e3 : x = 0
        · subst e3
          have hbf : b = false := by rw [HB.out]; unfold okH; exact decide_eq_false (fun h => h.2.2.2.2.2 HXV.out)
          subst hbf
          go_wp2
          go_ret
          exact ⟨rfl, rfl⟩
        · have e4 : (x != 0) = true := by simpa using e3
          have hbt : b = true := by rw [HB.out]; unfold okH; exact decide_eq_true ⟨h1, h2, h3, R1.out.symm, R2.out.symm, by rw [HXV.out]; exact e3⟩
          subst hbt
          go_wp2
          go_ret
          exact ⟨rfl, rfl⟩
      · have e4 : (r2 == 0) = false := by simpa using e2
        have hbf : b = false := by rw [HB.out]; unfold okH; exact decide_eq_false (fun h => e2 (by rw [R2.out]; exact h.2.2.2.2.1))
        subst hbf
        go_wp2
        go_ret
        exact ⟨rfl, rfl⟩
    · have e4 : (r1 == 0) = false := by simpa using e1
      have hbf : b = false := by rw [HB.out]; unfold okH; exact decide_eq_false (fun h => e1 (by rw [R1.out]; exact h.2.2.2.1))
      subst hbf
      go_wp2
      go_ret
      exact ⟨rfl, rfl⟩
  · have hbf : b = false := by rw [HB.out]; unfold okH; exact decide_eq_false (fun h => hA ⟨h.1, h.2.1, h.2.2.1⟩)
    subst hbf
    go_enter Tryz.func91, Tryz.ntmps91
    by_cases g1 : lit.length ≤ 256
    · have g1' : (lit.length : Int) ≤ 256 := by omega
      go_wp2
      go_ret
      exact ⟨rfl, rfl⟩
    · have g1' : ¬ (lit.length : Int) ≤ 256 := by omega
      by_cases g2 : 286 < lit.length
      · have g2' : (286 : Int) < (lit.length : Int) := by omega
        go_wp2
        go_ret
        exact ⟨rfl, rfl⟩
      · have g2' : ¬ (286 : Int) < (lit.length : Int) := by omega
        have g3' : (30 : Int) < (dist.length : Int) := by omega
        go_wp2
        go_ret
        exact ⟨rfl, rfl⟩
end Go.Proofs.YtkdgfioigkijgaaGreat.Head
/- Chapter 08: the document's short walked. Conditions: at most 2^20 lengths. -/
set_option linter.unusedVariables false
set_option linter.unusedSimpArgs false
set_option maxRecDepth 100000
namespace Go.Proofs.YtkdgfioigkijgaaGreat.Head
open Go.RowKit Go.Proofs.YtkdgfioigkijgaaGreat.Lib Go.Proofs.YtkdgfioigkijgaaGreat.Ints Go.Proofs.YtkdgfioigkijgaaGreat.Runs
def stripN (l : List Int) : Nat → Nat
  | 0 => 0
  | n + 1 => if l.getD n 0 = 0 then stripN l n else n + 1
theorem stripN_le (l : List Int) : ∀ n, stripN l n ≤ n
  | 0 => Nat.le_refl 0
  | n + 1 => by
    rw [stripN]
    split
    · exact Nat.le_trans (stripN_le l n) (Nat.le_succ n)
    · exact Nat.le_refl _
def shortL (l : List Int) (k : Nat) : List Int := l.take (stripN l l.length) ++ List.replicate (k - stripN l l.length) 0
theorem short_cut (l : List Int) (k : Nat) : ∀ n, n ≤ l.length → k ≤ n → l.take (stripN l n) ++ List.replicate (k - stripN l n) 0 = l.take (cutN l k n)
  | 0, _, hk => by simp [stripN, cutN]; omega
  | n + 1, hn, hk => by
    rw [stripN, cutN]
    by_cases h0 : l.getD n 0 = 0
    · rw [if_pos h0]
      by_cases hk2 : k < n + 1
      · rw [if_pos ⟨hk2, h0⟩]
        exact short_cut l k n (by omega) (by omega)
      · rw [if_neg (fun h => hk2 h.1)]
        obtain rfl : k = n + 1 := by omega
        have ih := short_cut l n n (by omega) (Nat.le_refl n)
        have hc : cutN l n n = n := by
          cases n with
          | zero => rfl
          | succ n => rw [cutN, if_neg (fun h => Nat.lt_irrefl _ h.1)]
        have hs := stripN_le l n
        rw [hc] at ih
        have e : l.take (n + 1) = l.take n ++ [0] := by
          rw [List.take_succ_eq_append_getElem (by omega)]
          congr 2
          rw [List.getD_eq_getElem?_getD, List.getElem?_eq_getElem (by omega)] at h0
          simpa using h0
        rw [e, ← ih, show n + 1 - stripN l n = (n - stripN l n) + 1 from by omega, List.replicate_succ', List.append_assoc]
    · rw [if_neg h0, if_neg (fun h => h0 h.2), show k - (n + 1) = 0 from by omega]
      simp
theorem short_lit {l : List Int} (h : 257 ≤ l.length) : shortL l 257 = cutL l 257 := short_cut l 257 l.length (Nat.le_refl _) h
theorem short_dist (l : List Int) : shortL l 1 = distL l := by
  unfold distL
  by_cases h : 1 ≤ l.length
  · have e := short_cut l 1 l.length (Nat.le_refl _) h
    have hc : 1 ≤ cutN l 1 l.length := cutN_ge l 1 l.length h
    rw [if_neg (by unfold cutL; rw [List.length_take]; omega)]
    exact e
  · have : l = [] := List.length_eq_zero_iff.1 (by omega)
    subst this
    rfl
end Go.Proofs.YtkdgfioigkijgaaGreat.Head
/- Chapter 08: the document's short, order and more walked. Conditions: at most 2^20 lengths. -/
set_option linter.unusedVariables false
set_option linter.unusedSimpArgs false
set_option maxRecDepth 100000
namespace Go.Proofs.YtkdgfioigkijgaaGreat.Head
open Go.RowKit Go.Proofs.YtkdgfioigkijgaaGreat.Lib Go.Proofs.YtkdgfioigkijgaaGreat.Ints Go.Proofs.YtkdgfioigkijgaaGreat.Runs
set_option maxHeartbeats 4000000 in
theorem short_any (w : World) (A : Option Addr) (n c : Nat) (l : List Int) (p : Option Nat) (hX : SlArg w A n c (i64s l) p) (k : Nat) (hk : k ≤ 1048576) (hn1 : n ≤ 1048576) (m : Nat) (hm : m = (shortL l k).length) :
    Calls Tryz.prog 92 #[.slice A n c, .int .i64 (k : Nat)] w fun e w' => ∃ A' d, e = .returned (.slice A' m d) ∧ w'.ownsRow 0 3 1 (.slice A' m d) m (i64s (shortL l k)) ∧ (∀ j, (Value.slice A' m d).ownBlock = some j → w.heap.size ≤ j) ∧ Fr w w' [] := by
  obtain ⟨i0, hi0, hz0, hz1, hz2⟩ := info_parts infoI64
  have HX := Hd.mk hX
  have hn2 := hX.le
  have hn3 := hX.max
  have HA := Hd.mk hX.nil
  unfold maxLen at hn3
  have HM := Hd.mk hm
  have hl : l.length = n := by have := hX.len; simpa [i64s] using this
  subst hl
  obtain ⟨s, hs⟩ : ∃ s, s = stripN l l.length := ⟨_, rfl⟩
  have HS := Hd.mk hs
  have hsl : s ≤ l.length := by rw [hs]; exact stripN_le _ _
  clear hX hs hm
  go_enter Tryz.func92, Tryz.ntmps92
  go_upto_block 0 with (fail)
  go_cut [5] from 9 to 20 (fun s5 wd => s5 = .int .i64 (s : Nat) ∧ w = wd)
  case first =>
    go_wp2_with (fail)
    go_loopg [5] l.length (fun kq jv wr => ∃ j : Nat, jv = .int .i64 (j : Nat) ∧ j = kq ∧ j ≤ l.length ∧ Hd (stripN l j = s) ∧ wr = w)
    case atStart => exact ⟨l.length, rfl, rfl, Nat.le_refl _, ⟨HS.out.symm⟩, rfl⟩
    case round =>
      obtain ⟨j, rfl, rfl, hj, HE, rfl⟩ := hrel
      match j, hj, HE with
      | 0, hj, HE =>
        obtain rfl : s = 0 := HE.out.symm
        go_wp2
        go_meet
        case rel => exact ⟨rfl, rfl⟩
      | j + 1, hj, HE =>
        obtain ⟨x, hx⟩ : ∃ x, x = l[j] := ⟨_, rfl⟩
        have HXV : Hd (l.getD j 0 = x) := ⟨by rw [List.getD_eq_getElem?_getD, List.getElem?_eq_getElem (by omega), hx]; rfl⟩
        obtain ⟨a, o1, rfl, _, ha⟩ := HX.out.sl (by simp [i64s]; omega)
        have ca := (ha j (by simp [i64s]; omega)).trans (by rw [i64s_get, List.getElem?_eq_getElem (by omega), ← hx])
        clear ha hx
        have hp : (0 : Int) < ((j + 1 : Nat) : Int) := by omega
        have hi : (j : Int) < (l.length : Int) := by omega
        by_cases h0 : x = 0
        · subst h0
          have HN : Hd (stripN l j = s) := ⟨by rw [← HE.out, stripN, if_pos HXV.out]⟩
          clear HE
          go_wp2
          go_roundg j
          case measure => omega
          case rel => exact ⟨j, by go_num, by omega, by omega, HN, rfl⟩
        · have hN : s = j + 1 := by rw [← HE.out, stripN, if_neg (by rw [HXV.out]; exact h0)]
          subst hN
          have h0' : (x == 0) = false := by simpa using h0
          clear HE
          go_wp2
          go_meet
          case rel => exact ⟨rfl, rfl⟩
  case rest =>
    obtain ⟨rfl, rfl⟩ := hcut
    have hs1 := Lens.run_cut_to (P := Tryz.prog) 79 3 .i64 Tryz.underlying79 hi0 1 hz1 A l.length c s (fun h => (HA.out h).2) (by omega)
    have XS : Hd (Sl (w.alloc (.cells #[] 3)) A (i64s (l.take s)) p) := ⟨by have := (HX.out.sl.take s).alloc (.cells #[] 3); simpa [i64s, List.map_take] using this⟩
    have hlt : (l.take s).length = s := by rw [List.length_take]; omega
    have HLT := Hd.mk hlt
    have NS : Hd (A = none → s = 0 ∧ c = 0) := ⟨fun h => by have := HA.out h; omega⟩
    have F1 : Hd (Fr w (w.alloc (.cells #[] 3)) []) := ⟨(Fr.refl w []).alloc _⟩
    have OZ : Hd ((w.alloc (.cells #[] 3)).ownsRow 0 3 1 (.slice (some ⟨w.heap.size, 0, none⟩) 0 0) 0 []) := ⟨World.ownsRow_lit w #[] 0 (Nat.zero_le _) (Nat.zero_le _) rfl⟩
    clear hlt
    go_wp2_with (at_builtin; refine wpList_append_sl rfl (.tmp 21) (.tmp 24) 79 rfl 3 i0 (.int .i64 0) 1 8 Tryz.underlying79 hi0 hz0 hz1 hz2 rfl (by decide) (.slice (some ⟨w.heap.size, 0, none⟩) 0 0) 0 [] rfl (by exact OZ.out) A s c (i64s (l.take s)) p rfl (by rw [i64s_length, HLT.out, Nat.mul_one]) (by exact XS.out) NS.out (i64s_one _) (by unfold maxLen; omega) (by omega) ?_; intro A3 c3 w3 hown3 hgrow3 haft3; rw [Nat.zero_add, List.nil_append] at hown3; rw [Nat.zero_add] at haft3; have O3 := Hd.mk hown3; have G3 := Hd.mk hgrow3; have AF3 := Hd.mk haft3; clear hown3 hgrow3 haft3; rw [Nat.zero_add])
    have F3 : Hd (Fr w w3 []) := ⟨F1.out.grown G3.out (fun k hk => .inr (by simp [Value.ownBlock] at hk; omega))⟩
    have N3 : Hd (∀ y, (Value.slice A3 s c3).ownBlock = some y → w.heap.size ≤ y) := ⟨fun y hy => by
      rcases AF3.out with e | ⟨z, e, hz⟩
      · rw [e] at hy; simp [Value.ownBlock] at hy; omega
      · rw [e] at hy; cases hy; rw [World.size_alloc] at hz; omega⟩
    clear G3 AF3 F1 OZ XS NS hs1
    go_loopg [6] (k - s) (fun kq ov wr => ∃ (i : Nat) (A' : Option Addr) (d : Nat), ov = .slice A' (s + i) d ∧ i + kq = k - s ∧ Hd (wr.ownsRow 0 3 1 (.slice A' (s + i) d) (s + i) (i64s (l.take s ++ List.replicate i 0))) ∧ Hd (∀ y, (Value.slice A' (s + i) d).ownBlock = some y → w.heap.size ≤ y) ∧ Hd (Fr w wr []))
    case atStart => exact ⟨0, A3, c3, rfl, by omega, ⟨by simpa using O3.out⟩, N3, F3⟩
    case round =>
      obtain ⟨i, A4, d, rfl, hi, HO, HN, HF⟩ := hrel
      by_cases hlt : i < k - s
      · have ht : ((s + i : Nat) : Int) < (k : Int) := by omega
        go_wp2_with (at_builtin; refine wpList_append_sl rfl (.tmp 30) (.tmp 31) 79 rfl 3 i0 (.int .i64 0) 1 8 Tryz.underlying79 hi0 hz0 hz1 hz2 rfl (by decide) (.slice A4 (s + i) d) (s + i) _ rfl (by exact HO.out.alloc _) (some ⟨wr.heap.size, 0, none⟩) 1 1 [.int .i64 0] (some wr.heap.size) rfl rfl (by exact sl_of_blk (blk_new _ _)) (by intro h; cases h) (by intro u hu; simp at hu; subst hu; rfl) (by unfold maxLen; omega) (by omega) ?_; intro A5 c5 w5 hown5 hgrow5 haft5; have O5 := Hd.mk hown5; have G5 := Hd.mk hgrow5; have AF5 := Hd.mk haft5; clear hown5 hgrow5 haft5)
        go_roundg (gk - 1)
        case measure => omega
        case rel =>
          refine ⟨i + 1, A5, c5, rfl, by omega, ⟨?_⟩, ⟨fun y hy => ?_⟩, ⟨(HF.out.alloc _).grown G5.out (fun y hy => .inr (HN.out y hy))⟩⟩
          · have h := O5.out
            rw [List.replicate_succ', ← List.append_assoc, i64s_app _ [0]]
            exact h
          · rw [← Nat.add_assoc] at hy
            rcases AF5.out with e | ⟨z, e, hz⟩
            · rw [e] at hy; exact HN.out y hy
            · rw [e] at hy; cases hy; rw [World.size_alloc] at hz; have := HF.out.size; omega
      · obtain rfl : i = k - s := by omega
        have hmm : m = s + (k - s) := by rw [HM.out, shortL, ← HS.out, List.length_append, HLT.out, List.length_replicate]
        subst hmm
        have ht : ¬ ((s + (k - s) : Nat) : Int) < (k : Int) := by omega
        go_wp2
        go_ret
        exact ⟨A4, d, rfl, by rw [shortL, ← HS.out]; exact HO.out, HN.out, HF.out⟩
theorem rorder_any (w : World) : Calls Tryz.prog 94 #[] w fun e w' => ∃ g, e = .returned (.slice (some ⟨g, 0, none⟩) 19 19) ∧ w'.heap[g]? = some (.cells ordC 3 (0, 0)) ∧ w.heap.size ≤ g ∧ Fr w w' [] := by
  go_enter Tryz.func94, Tryz.ntmps94
  go_wp2
  go_ret
  exact ⟨w.heap.size, rfl, blk_new w (.cells ordC 3), Nat.le_refl _, (Fr.refl w []).alloc _⟩
theorem rleast_any (w : World) (s L : Int) (h1 : s ≤ 18) (hL : L = leastN s) : Calls Tryz.prog 95 #[.int .i64 s] w fun e w' => e = .returned (.int .i64 L) ∧ w = w' := by
  rw [hL]; exact least_any w s h1
theorem rmore_any (w : World) (s : Int) (h0 : 0 ≤ s) (h1 : s ≤ 18) (L : Int) (hL : L = kbits s) : Calls Tryz.prog 96 #[.int .i64 s] w fun e w' => e = .returned (.int .i64 L) ∧ w = w' := by
  have hc : s < 16 ∨ s = 16 ∨ s = 17 ∨ s = 18 := by omega
  rcases hc with h | rfl | rfl | rfl
  · have e1 : (s == 16) = false := by simp; omega
    have e2 : (s == 17) = false := by simp; omega
    have e3 : (s == 18) = false := by simp; omega
    have : L = 0 := by rw [hL]; unfold kbits; rw [if_pos h]
    subst this
    clear hL
    go_enter Tryz.func96, Tryz.ntmps96
    go_wp2
    go_ret
    exact ⟨rfl, rfl⟩
  · obtain rfl : L = 2 := hL.trans (by decide)
    clear hL
    go_enter Tryz.func96, Tryz.ntmps96
    go_wp2
    go_ret
    exact ⟨rfl, rfl⟩
  · obtain rfl : L = 3 := hL.trans (by decide)
    clear hL
    go_enter Tryz.func96, Tryz.ntmps96
    go_wp2
    go_ret
    exact ⟨rfl, rfl⟩
  · obtain rfl : L = 7 := hL.trans (by decide)
    clear hL
    go_enter Tryz.func96, Tryz.ntmps96
    go_wp2
    go_ret
    exact ⟨rfl, rfl⟩
end Go.Proofs.YtkdgfioigkijgaaGreat.Head
