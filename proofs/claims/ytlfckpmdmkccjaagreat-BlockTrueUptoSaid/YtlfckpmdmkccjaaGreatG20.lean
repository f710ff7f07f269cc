/- Texts of this claim, one behind the other: HeadLens, HeadPlan, HeadPlanA, HeadPlanB. -/
import Derived.Test.YtlfckpmdmkccjaaGreatG19
import Derived.Test.YtlfckpmdmkccjaaGreatG17
import Derived.Test.YtlfckpmdmkccjaaGreatG09
import Derived.Test.YtlfckpmdmkccjaaGreatG16
import Derived.Deep.CutRange
import Derived.Deep.Light
/- Runs as lengths: the document's Lens and the program's. Conditions: none but what memory bounds. -/
set_option linter.unusedVariables false
set_option linter.unusedSimpArgs false
set_option maxRecDepth 100000
namespace Go.Proofs.YtlfckpmdmkccjaaGreat.Head
open Go.RowKit Go.Proofs.YtlfckpmdmkccjaaGreat.Lib Go.Proofs.YtlfckpmdmkccjaaGreat.Ints Go.Proofs.YtlfckpmdmkccjaaGreat.Runs

theorem quiet_left {P : Program} {f : FuncId} {args : Array Value} {w : World} {n : Nat} {v : Value}
    (h : Calls P f args (w.drewN n) fun e w' => e = .returned v ∧ w.drewN n = w') : Calls P f args (w.drewN n) fun e w'' => e = .returned v ∧ ∃ m, w'' = w.drewN m :=
  h.mono fun _ _ ⟨he, hm⟩ => ⟨he, n, hm.symm⟩
def leastN (s : Int) : Int := if s < 16 then 1 else if s = 16 then 3 else if s = 17 then 3 else 11
def mostN (s : Int) : Int := if s < 16 then 1 else if s = 16 then 6 else if s = 17 then 10 else 138
theorem leastN_pos (s : Int) : 1 ≤ leastN s := by unfold leastN; split <;> (try split) <;> (try split) <;> omega
theorem mostN_le (s : Int) : mostN s ≤ 138 := by unfold mostN; split <;> (try split) <;> (try split) <;> omega
def okRun (out : List Int) (s k : Int) : Prop := 0 ≤ s ∧ s ≤ 18 ∧ leastN s ≤ k ∧ k ≤ mostN s ∧ ¬ (s = 16 ∧ out.length = 0) ∧ (out.length : Int) + k ≤ 320
instance (out : List Int) (s k : Int) : Decidable (okRun out s k) := by unfold okRun; exact inferInstance
def runVal (out : List Int) (s : Int) : Int := if s = 16 then out.getD (out.length - 1) 0 else if 15 < s then 0 else s
def lensF : List (Int × Int) → List Int → Option (List Int)
  | [], out => some out
  | r :: t, out => if okRun out r.1 r.2 then lensF t (out ++ List.replicate r.2.toNat (runVal out r.1)) else none
theorem lensF_cons (r : Int × Int) (t : List (Int × Int)) (out : List Int) : lensF (r :: t) out = if okRun out r.1 r.2 then lensF t (out ++ List.replicate r.2.toNat (runVal out r.1)) else none := rfl

theorem kinds_low (w : World) (s : Int) (h : s < 16) : Calls Tryz.prog 128 #[.int .i64 s] w fun e w' => e = .returned (.agg #[.int .i64 0, .int .i64 1, .int .i64 1]) ∧ Fr w w' [] := by
  go_enter Tryz.func128, Tryz.ntmps128
  go_wp2
  exact bodyPost_ret (v := .agg #[.int .i64 0, .int .i64 1, .int .i64 1]) (by simp [results, Tryz.results128, go_sem]) rfl ⟨rfl, ((Fr.refl _ _).alloc _).alloc _⟩
theorem kinds_all (w : World) (s L M : Int) (h0 : 0 ≤ s) (h1 : s ≤ 18) (hL : L = leastN s) (hM : M = mostN s) : Calls Tryz.prog 128 #[.int .i64 s] w fun e w' => ∃ b, e = .returned (.agg #[.int .i64 b, .int .i64 L, .int .i64 M]) ∧ Fr w w' [] := by
  subst hL hM
  by_cases h : s < 16
  · refine (kinds_low w s h).mono ?_
    rintro e w' ⟨rfl, hf⟩
    exact ⟨0, by unfold leastN mostN; rw [if_pos h, if_pos h], hf⟩
  · have : s = 16 ∨ s = 17 ∨ s = 18 := by omega
    rcases this with rfl | rfl | rfl
    · exact (kinds_16 w).mono fun e w' h => ⟨2, h⟩
    · exact (kinds_17 w).mono fun e w' h => ⟨3, h⟩
    · exact (kinds_18 w).mono fun e w' h => ⟨7, h⟩
theorem least_any (w : World) (s : Int) (h1 : s ≤ 18) : Calls Tryz.prog 69 #[.int .i64 s] w fun e w' => e = .returned (.int .i64 (leastN s)) ∧ w = w' := by
  have hc : s < 16 ∨ s = 16 ∨ s = 17 ∨ s = 18 := by omega
  obtain ⟨L, hL⟩ : ∃ L, L = leastN s := ⟨_, rfl⟩
  rw [← hL]
  rcases hc with h | rfl | rfl | rfl
  · have e1 : (s == 16) = false := by simp; omega
    have e2 : (s == 17) = false := by simp; omega
    have e3 : (s == 18) = false := by simp; omega
    have : L = 1 := by rw [hL]; unfold leastN; rw [if_pos h]
    subst this
    clear hL
    go_enter Tryz.func69, Tryz.ntmps69
    go_wp2
    go_ret
    exact ⟨rfl, rfl⟩
  · obtain rfl : L = 3 := hL.trans (by decide)
    clear hL
    go_enter Tryz.func69, Tryz.ntmps69
    go_wp2
    go_ret
    exact ⟨rfl, rfl⟩
  · obtain rfl : L = 3 := hL.trans (by decide)
    clear hL
    go_enter Tryz.func69, Tryz.ntmps69
    go_wp2
    go_ret
    exact ⟨rfl, rfl⟩
  · obtain rfl : L = 11 := hL.trans (by decide)
    clear hL
    go_enter Tryz.func69, Tryz.ntmps69
    go_wp2
    go_ret
    exact ⟨rfl, rfl⟩
/-- the row that grows: its block, and the list it holds -/
structure RowAt (w : World) (g : Nat) (A : Option Addr) (n c : Nat) (xs : List Int) : Prop where
  blk : w.heap[g]? = some (.cells #[.slice A n c, .int .i64 320] 244 (0, 0))
  own : w.ownsRow 0 3 1 (.slice A n c) n (i64s xs)
  len : xs.length = n
theorem RowAt.ne {w : World} {g : Nat} {A : Option Addr} {n c : Nat} {xs : List Int} (h : RowAt w g A n c xs) : (Value.slice A n c).ownBlock ≠ some g := own_ne h.own h.blk (by decide)
theorem RowAt.frame {w w' : World} {g : Nat} {A : Option Addr} {n c : Nat} {xs : List Int} (h : RowAt w g A n c xs) (hf : Fr w w' []) : RowAt w' g A n c xs := ⟨hf.blk h.blk (by simp), own_frame h.own hf (by simp), h.len⟩
theorem aft_alloc {w : World} {o : Obj} {q q' : Option Nat} (h : Aft (w.alloc o) q q') : Aft w q q' := by
  rcases h with h | ⟨z, h, hz⟩
  · exact .inl h
  · exact .inr ⟨z, h, by simp at hz; omega⟩
set_option maxHeartbeats 4000000 in
theorem add_any (w : World) (g : Nat) (A : Option Addr) (n c : Nat) (xs : List Int) (s k : Int) (hr : RowAt w g A n c xs) (hn : n ≤ 1000) (b : Bool) (hb : b = decide (okRun xs s k)) :
    Calls Tryz.prog 163 #[.pointer (some ⟨g, 0, none⟩), .agg #[.int .i64 s, .int .i64 k]] w fun e w' => e = .returned (.bool b) ∧
      (Hd (b = true) → ∃ A' n' c', RowAt w' g A' n' c' (xs ++ List.replicate k.toNat (runVal xs s)) ∧ Aft w (Value.slice A n c).ownBlock (Value.slice A' n' c').ownBlock) ∧ Fr w w' (g :: (Value.slice A n c).ownBlock.toList) := by
  obtain ⟨j0, hj0, hj1, hj2, hj3⟩ := info_parts infoI64
  have HR := Hd.mk hr
  have HB := Hd.mk hb
  have hl := hr.len
  have hg := blk_lt hr.blk
  clear hr hb
  have hF0 : Fr w (w.alloc (.cells #[.int .i64 s, .int .i64 k] 224)) [] := (Fr.refl w []).alloc _
  by_cases h1 : s < 0
  · obtain rfl : b = false := by rw [HB.out]; exact decide_eq_false (fun h => by have := h.1; omega)
    go_enter Tryz.func163, Tryz.ntmps163
    go_wp2
    go_ret
    exact ⟨rfl, (fun h => by cases h.out), hF0.mono (by simp)⟩
  by_cases h2 : 19 ≤ s
  · obtain rfl : b = false := by rw [HB.out]; exact decide_eq_false (fun h => by have := h.2.1; omega)
    go_enter Tryz.func163, Tryz.ntmps163
    go_wp2
    go_ret
    exact ⟨rfl, (fun h => by cases h.out), hF0.mono (by simp)⟩
  obtain ⟨L, hL⟩ : ∃ L, L = leastN s := ⟨_, rfl⟩
  obtain ⟨M, hM⟩ : ∃ M, M = mostN s := ⟨_, rfl⟩
  have hL1 : 1 ≤ L := by rw [hL]; exact leastN_pos s
  have hM1 : M ≤ 138 := by rw [hM]; exact mostN_le s
  have HL := Hd.mk hL
  have HM := Hd.mk hM
  clear hL hM
  go_enter Tryz.func163, Tryz.ntmps163
  go_wp2_with (fail)
  refine (kinds_all _ s L M (by omega) (by omega) HL.out HM.out).mono ?_
  rintro e w1 ⟨bb, rfl, f1⟩
  have F1 := Hd.mk (hF0.trans f1 (by simp))
  have hrb : w1.heap[w.heap.size]? = some (.cells #[.int .i64 s, .int .i64 k] 224 (0, 0)) := f1.blk (blk_new _ _) (by simp)
  have H1 := Hd.mk hrb
  clear f1 hrb
  go_wp2
  generalize hw2 : w1.alloc (.cells #[.int .i64 bb, .int .i64 L, .int .i64 M] 226) = w2
  have hrb := blk_alloc H1.out (.cells #[.int .i64 bb, .int .i64 L, .int .i64 M] 226)
  have hkb := blk_new w1 (.cells #[.int .i64 bb, .int .i64 L, .int .i64 M] 226)
  have F2 := F1.out.alloc (.cells #[.int .i64 bb, .int .i64 L, .int .i64 M] 226)
  rw [hw2] at hrb hkb F2
  have HR2 := HR.out.frame F2
  have c0 := blk_cell hrb 0
  have c1 := blk_cell hrb 1
  have d0 := blk_cell HR2.blk 0
  have d1 := blk_cell HR2.blk 1
  have e1 := blk_cell hkb 1
  have e2 := blk_cell hkb 2
  simp only [List.getElem?_toArray, List.getElem?_cons_zero, List.getElem?_cons_succ] at c0 c1 d0 d1 e1 e2
  have HRR := Hd.mk HR2
  have HF2 := Hd.mk F2
  have Hrb := Hd.mk hrb
  clear hrb hkb F2 HR2 hw2
  go_upto_region 4 with (fail)
  go_cut [57] from 18 to 58 (fun s57 wd => ∃ nq, s57 = .bool (!b) ∧ wd = w2.drewN nq)
  case first =>
    by_cases h3 : k < L
    · obtain rfl : b = false := by rw [HB.out]; exact decide_eq_false (fun h => by have := h.2.2.1; have := HL.out; omega)
      go_quiet (fail)
      go_wp2
      go_meet
      exact ⟨_, rfl, rfl⟩
    by_cases h4 : M < k
    · obtain rfl : b = false := by rw [HB.out]; exact decide_eq_false (fun h => by have := h.2.2.2.1; have := HM.out; omega)
      go_quiet (fail)
      go_wp2
      go_meet
      exact ⟨_, rfl, rfl⟩
    obtain ⟨k, rfl⟩ := Int.eq_ofNat_of_zero_le (show 0 ≤ k by omega)
    have hk138 : k ≤ 138 := by omega
    by_cases h16 : s = 16
    · subst h16
      by_cases hn0 : n = 0
      · subst hn0
        obtain rfl : b = false := by rw [HB.out]; exact decide_eq_false (fun h => h.2.2.2.2.1 ⟨rfl, hl⟩)
        go_quiet (fail)
        go_wp2
        go_meet
        exact ⟨_, rfl, rfl⟩
      have hnb : ((n : Int) == 0) = false := by simp; omega
      by_cases h5 : 320 < n + k
      · obtain rfl : b = false := by rw [HB.out]; exact decide_eq_false (fun h => by have := h.2.2.2.2.2; omega)
        go_quiet (fail)
        go_wp2
        go_meet
        exact ⟨_, by rw [show decide (320 < (n : Int) + (k : Int)) = true from decide_eq_true (by omega)]; rfl, rfl⟩
      · obtain rfl : b = true := by rw [HB.out]; exact decide_eq_true ⟨by omega, by omega, by have := HL.out; omega, by have := HM.out; omega, fun h => by omega, by omega⟩
        go_quiet (fail)
        go_wp2
        go_meet
        exact ⟨_, by rw [show decide (320 < (n : Int) + (k : Int)) = false from decide_eq_false (by omega)]; rfl, rfl⟩
    · have hsb : (s == 16) = false := by simpa using h16
      by_cases h5 : 320 < n + k
      · obtain rfl : b = false := by rw [HB.out]; exact decide_eq_false (fun h => by have := h.2.2.2.2.2; omega)
        go_quiet (fail)
        go_wp2
        go_meet
        exact ⟨_, by rw [show decide (320 < (n : Int) + (k : Int)) = true from decide_eq_true (by omega)]; rfl, rfl⟩
      · obtain rfl : b = true := by rw [HB.out]; exact decide_eq_true ⟨by omega, by omega, by have := HL.out; omega, by have := HM.out; omega, fun h => by omega, by omega⟩
        go_quiet (fail)
        go_wp2
        go_meet
        exact ⟨_, by rw [show decide (320 < (n : Int) + (k : Int)) = false from decide_eq_false (by omega)]; rfl, rfl⟩
  case rest =>
    obtain ⟨nq, rfl, rfl⟩ := hcut
    cases b with
    | false =>
      go_wp2
      go_ret
      exact ⟨rfl, (fun h => by cases h.out), (HF2.out.drewN _).mono (by simp)⟩
    | true =>
      have hok := of_decide_eq_true HB.out.symm
      obtain ⟨_, _, h3, h4, h5, h6⟩ := hok
      rw [← HL.out] at h3
      rw [← HM.out] at h4
      rw [hl] at h6
      obtain ⟨k, rfl⟩ := Int.eq_ofNat_of_zero_le (show 0 ≤ k by omega)
      obtain ⟨v, hv⟩ : ∃ v, v = runVal xs s := ⟨_, rfl⟩
      have HV := Hd.mk hv
      have H5 := Hd.mk h5
      clear hv h5
      go_upto_block 0 with (fail)
      go_cut [6] from 60 to 79 (fun s6 wd => ∃ nq, s6 = .int .i64 v ∧ wd = w2.drewN nq)
      case first =>
        have hc : s < 16 ∨ s = 16 ∨ s = 17 ∨ s = 18 := by omega
        rcases hc with h16 | rfl | rfl | rfl
        · have i1 : (s == 16) = false := by simp; omega
          have i2 : (s == 17) = false := by simp; omega
          have i3 : (s == 18) = false := by simp; omega
          obtain rfl : v = s := by rw [HV.out]; unfold runVal; rw [if_neg (by omega), if_neg (by omega)]
          go_wp2
          go_meet
          exact ⟨_, rfl, rfl⟩
        · have hn0 : 0 < n := by have := H5.out; omega
          obtain ⟨m, rfl⟩ : ∃ m, n = m + 1 := ⟨n - 1, by omega⟩
          obtain ⟨a, c', e, _⟩ := own_some HRR.out.own (by omega)
          injection e with e _ e'
          subst e e'
          have ca := HRR.out.own.cellAt m (by omega)
          have hvx : xs[m]? = some v := by
            rw [List.getElem?_eq_getElem (by omega), HV.out]
            unfold runVal
            rw [if_pos rfl, show xs.length - 1 = m from by omega, List.getD_eq_getElem?_getD, List.getElem?_eq_getElem (by omega)]
            rfl
          rw [i64s_get, hvx] at ca
          simp only [Option.map_some] at ca
          clear hvx
          go_wp2
          go_quiet (fail)
          go_wp2
          go_meet
          exact ⟨_, rfl, World.drewN_drewN _ _ _⟩
        · obtain rfl : v = 0 := by rw [HV.out]; rfl
          go_wp2
          go_meet
          exact ⟨_, rfl, rfl⟩
        · obtain rfl : v = 0 := by rw [HV.out]; rfl
          go_wp2
          go_meet
          exact ⟨_, rfl, rfl⟩
      case rest =>
        obtain ⟨nq, rfl, rfl⟩ := hcut
        go_wp2
        have HF3 := Hd.mk (HF2.out.drewN nq)
        have HR3 : Hd (RowAt (w2.drewN nq) g A n c xs) := ⟨⟨HRR.out.blk, HRR.out.own, HRR.out.len⟩⟩
        clear c0 c1 d0 d1 e1 e2 HRR H1 Hrb F1 HF2 hF0
        generalize w2.drewN nq = w3 at *
        go_loopg [81] k (fun kq jv wr => ∃ (i : Nat) (A' : Option Addr) (m c' : Nat), jv = .int .i64 (i : Nat) ∧ i + kq = k ∧ m = n + i ∧ Hd (RowAt wr g A' m c' (xs ++ List.replicate i v)) ∧ Hd (Aft w (Value.slice A n c).ownBlock (Value.slice A' m c').ownBlock) ∧ Hd (Fr w wr (g :: (Value.slice A n c).ownBlock.toList)))
        case atStart => exact ⟨0, A, n, c, rfl, by omega, rfl, ⟨by simpa using HR3.out⟩, ⟨Aft.refl _ _⟩, ⟨HF3.out.mono (by simp)⟩⟩
        case round =>
          obtain ⟨i, A', m, c', rfl, hi, hm, HR4, HA4, HF4⟩ := hrel
          have d0 := blk_cell HR4.out.blk 0
          simp only [List.getElem?_toArray, List.getElem?_cons_zero] at d0
          have hb := HR4.out.blk
          have hgl := blk_lt hb
          have hne := HR4.out.ne
          have HBK := Hd.mk hb
          have hmb : m ≤ 1320 := by omega
          have HM2 := Hd.mk hm
          clear hb hm
          by_cases h7 : i < k
          · go_wp2_with (at_builtin; refine wpList_append_sl rfl (.tmp 87) (.tmp 89) 65 rfl 3 j0 (.int .i64 0) 1 8 Tryz.underlying65 hj0 hj1 hj2 hj3 rfl (by decide) (.slice A' m c') m _ rfl (by exact HR4.out.own.alloc _) (some ⟨wr.heap.size, 0, none⟩) 1 1 [.int .i64 v] (some wr.heap.size) rfl rfl (by exact sl_of_blk (blk_new _ _)) (by intro h; cases h) (by intro u hu; simp at hu; rcases hu with rfl; rfl) (by unfold maxLen; omega) (by omega) ?_; intro A3 d3 w4 hown' hgrow haft; have O3 := Hd.mk hown'; have G3 := Hd.mk hgrow; have F3 := Hd.mk haft; have hb4 := blk_grown hgrow (blk_alloc HBK.out _) (fun e => hne e.symm); have f0 := blk_frozen hb4 0; have e0 := blk_cell hb4 0; simp only [List.getElem?_toArray, List.getElem?_cons_zero] at e0; have HB4 := Hd.mk hb4; clear hown' hgrow haft hb4)
            go_roundg (gk - 1)
            case measure => omega
            case rel =>
              refine ⟨i + 1, A3, m + 1, d3, by go_num, by omega, by have := HM2.out; omega, ⟨⟨by simpa using blk_set HB4.out 0 _, own_setFar (by
                rw [List.replicate_succ', ← List.append_assoc, i64s_app _ [v]]
                exact O3.out) _ (own_ne O3.out HB4.out (by decide)), by have := HR4.out.len; have := HM2.out; simp; omega⟩⟩, ⟨HA4.out.trans (aft_alloc F3.out) HF4.out.size⟩, ⟨((HF4.out.alloc _).grown G3.out (fun y hy => ?_)).setCell _ (.inl (by simp))⟩⟩
              have := HA4.out.mem (k := y) (by simp [hy])
              rcases this with h | h
              · exact .inl (List.mem_cons_of_mem _ h)
              · exact .inr h
          · obtain rfl : i = k := by omega
            go_wp2
            go_ret
            refine ⟨rfl, fun _ => ⟨A', m, c', by have := HR4.out; rw [HV.out] at this; simpa using this, HA4.out⟩, HF4.out⟩
end Go.Proofs.YtlfckpmdmkccjaaGreat.Head
/- Chapter 08, plain: what a head is told by. No condition. -/
set_option linter.unusedVariables false
set_option linter.unusedSimpArgs false
set_option maxRecDepth 100000
namespace Go.Proofs.YtlfckpmdmkccjaaGreat.Head
open Go.RowKit Go.Proofs.YtlfckpmdmkccjaaGreat.Lib Go.Proofs.YtlfckpmdmkccjaaGreat.Ints Go.Proofs.YtlfckpmdmkccjaaGreat.Runs
/-- how many are left where the noughts at the end are cut off -/
def cutN (l : List Int) (least : Nat) : Nat → Nat
  | 0 => 0
  | n + 1 => if least < n + 1 ∧ l.getD n 0 = 0 then cutN l least n else n + 1
def cutL (l : List Int) (least : Nat) : List Int := l.take (cutN l least l.length)
theorem cutN_le (l : List Int) (least : Nat) : ∀ n, cutN l least n ≤ n
  | 0 => Nat.le_refl 0
  | n + 1 => by
    rw [cutN]
    split
    · have := cutN_le l least n; omega
    · exact Nat.le_refl _
theorem cutN_ge (l : List Int) (least : Nat) : ∀ n, least ≤ n → least ≤ cutN l least n
  | 0, h => by simpa [cutN] using h
  | n + 1, h => by
    rw [cutN]
    split
    · rename_i h1
      exact cutN_ge l least n (by omega)
    · exact h
theorem cutL_len (l : List Int) (least : Nat) : (cutL l least).length = cutN l least l.length := by
  have := cutN_le l least l.length
  rw [cutL, List.length_take]
  omega
def distL (dist : List Int) : List Int := if (cutL dist 1).length = 0 then [0] else cutL dist 1
def allL (lit dist : List Int) : List Int := cutL lit 257 ++ distL dist
def okH (lit dist : List Int) : Bool := decide (257 ≤ lit.length ∧ lit.length ≤ 286 ∧ dist.length ≤ 30 ∧ Code.check lit = 0 ∧ Code.check dist = 0 ∧ lit.getD 256 0 ≠ 0)
def freqF (rs : List (Int × Int)) (i : Nat) : Nat := rs.countP fun r => decide (r.1 = (i : Int))
def freqOf (rs : List (Int × Int)) : List Int := (List.range 19).map fun i => (freqF rs i : Int)
def hlens (rs : List (Int × Int)) : List Int := (Lens.lensN 7 (freqOf rs)).1
def ord : List Nat := [16, 17, 18, 0, 8, 7, 9, 6, 10, 5, 11, 4, 12, 3, 13, 2, 14, 1, 15]
def toldN (l : List Int) : Nat → Nat
  | 0 => 4
  | j + 1 => if 0 < l.getD (ord.getD j 0) 0 then max (toldN l j) (j + 1) else toldN l j
theorem toldN_ge (l : List Int) : ∀ j, 4 ≤ toldN l j
  | 0 => Nat.le_refl 4
  | j + 1 => by
    rw [toldN]
    have := toldN_ge l j
    split <;> omega
theorem toldN_le (l : List Int) : ∀ j, toldN l j ≤ max 4 j
  | 0 => Nat.le_refl 4
  | j + 1 => by
    rw [toldN]
    have := toldN_le l j
    split <;> omega
def kbits (s : Int) : Int := if s < 16 then 0 else if s = 16 then 2 else if s = 17 then 3 else 7
/-- a run that may be -/
def RunB (r : Int × Int) : Prop := 0 ≤ r.1 ∧ r.1 ≤ 18 ∧ leastN r.1 ≤ r.2 ∧ r.2 ≤ mostN r.1 ∧ r.2 - leastN r.1 < 2 ^ (kbits r.1).toNat
theorem runB_of (s c L M B : Int) (h0 : 0 ≤ s) (h1 : s ≤ 18) (hL : leastN s = L) (hM : mostN s = M) (hB : (2 : Int) ^ (kbits s).toNat = B) (h2 : L ≤ c) (h3 : c ≤ M) (h4 : c - L < B) : RunB (s, c) :=
  ⟨h0, h1, by simp only [hL]; exact h2, by simp only [hM]; exact h3, by simp only [hL, hB]; exact h4⟩
theorem sixes_run : ∀ (f k : Nat), (∀ r ∈ sixes f k, RunB r) ∧ (sixes f k).length ≤ sixed f k
  | 0, k => ⟨fun r h => by simp [sixes] at h, by simp [sixes]⟩
  | f + 1, k => by
    rw [sixes, sixed]
    by_cases h' : ¬ k < 3
    · have h : 3 ≤ k := by omega
      rw [if_neg h', if_neg h']
      obtain ⟨h1, h2⟩ := sixes_run f (k - min k 6)
      refine ⟨fun r hr => ?_, by simp only [List.length_cons]; omega⟩
      rcases List.mem_cons.1 hr with e | hr
      · subst e
        exact runB_of 16 _ 3 6 4 (by decide) (by decide) (by decide) (by decide) (by decide) (by omega) (by omega) (by omega)
      · exact h1 r hr
    · have h : k < 3 := by omega
      rw [if_pos h, if_pos h]
      exact ⟨fun r h => absurd h (by simp), Nat.zero_le _⟩
theorem row_run {v : Int} {k : Nat} (h0 : 0 ≤ v) (h1 : v ≤ 15) (hk : 1 ≤ k) : (∀ r ∈ rowOf v k, RunB r) ∧ (rowOf v k).length ≤ Runs.rowLen v k := by
  unfold rowOf Runs.rowLen
  by_cases hv : v = 0
  · subst hv
    rw [if_pos rfl, if_pos rfl]
    by_cases h11 : 11 ≤ k
    · rw [if_pos h11, if_pos h11]
      refine ⟨fun r hr => ?_, by simp only [List.length_cons, List.length_nil]; omega⟩
      rw [List.mem_singleton] at hr
      subst hr
      exact runB_of 18 _ 11 138 128 (by decide) (by decide) (by decide) (by decide) (by decide) (by omega) (by omega) (by omega)
    · rw [if_neg h11, if_neg h11]
      by_cases h3 : 3 ≤ k
      · rw [if_pos h3, if_pos h3]
        refine ⟨fun r hr => ?_, by simp only [List.length_cons, List.length_nil]; omega⟩
        rw [List.mem_singleton] at hr
        subst hr
        exact runB_of 17 _ 3 10 8 (by decide) (by decide) (by decide) (by decide) (by decide) (by omega) (by omega) (by omega)
      · rw [if_neg h3, if_neg h3]
        refine ⟨fun r hr => ?_, by simp⟩
        rw [List.mem_singleton] at hr
        subst hr
        exact runB_of 0 1 1 1 1 (by decide) (by decide) (by decide) (by decide) (by decide) (by decide) (by decide) (by decide)
  · rw [if_neg hv, if_neg hv]
    obtain ⟨h2, h3⟩ := sixes_run (k - 1) (k - 1)
    refine ⟨fun r hr => ?_, by simp only [List.length_cons]; omega⟩
    rcases List.mem_cons.1 hr with e | hr
    · subst e
      have e1 : leastN v = 1 := by unfold leastN; rw [if_pos (by omega)]
      have e2 : mostN v = 1 := by unfold mostN; rw [if_pos (by omega)]
      have e3 : kbits v = 0 := by unfold kbits; rw [if_pos (by omega)]
      exact runB_of v 1 1 1 1 h0 (by omega) e1 e2 (by rw [e3]; rfl) (by decide) (by decide) (by decide)
    · exact h2 r hr
theorem runsF_run : ∀ (f : Nat) (l : List Int), (∀ x ∈ l, 0 ≤ x ∧ x ≤ 15) → (∀ r ∈ runsF f l, RunB r) ∧ (runsF f l).length ≤ l.length
  | 0, l, _ => by cases l <;> exact ⟨fun r h => by simp [runsF] at h, by simp [runsF]⟩
  | f + 1, [], _ => ⟨fun r h => by simp [runsF] at h, by simp [runsF]⟩
  | f + 1, v :: t, h => by
    rw [runsF]
    have hv := h v (by simp)
    have hk : 1 ≤ lead v t + 1 := by omega
    obtain ⟨h1, h2⟩ := row_run hv.1 hv.2 hk
    obtain ⟨h3, h4⟩ := runsF_run f ((v :: t).drop (Runs.rowLen v (lead v t + 1))) (fun x hx => h x (List.mem_of_mem_drop hx))
    refine ⟨fun r hr => ?_, ?_⟩
    · rcases List.mem_append.1 hr with e | e
      · exact h1 r e
      · exact h3 r e
    · have := rowLen_le v hk
      have := lead_le v t
      rw [List.length_append]
      rw [List.length_drop] at h4
      simp only [List.length_cons] at h4 ⊢
      omega
theorem runs_run {l : List Int} (h : ∀ x ∈ l, 0 ≤ x ∧ x ≤ 15) : (∀ r ∈ runs l, RunB r) ∧ (runs l).length ≤ l.length := runsF_run _ l h
end Go.Proofs.YtlfckpmdmkccjaaGreat.Head
/- Chapter 08: can, cut, order walked. No condition. -/
set_option linter.unusedVariables false
set_option linter.unusedSimpArgs false
set_option maxRecDepth 100000
namespace Go.Proofs.YtlfckpmdmkccjaaGreat.Head
open Go.RowKit Go.Proofs.YtlfckpmdmkccjaaGreat.Lib Go.Proofs.YtlfckpmdmkccjaaGreat.Ints Go.Proofs.YtlfckpmdmkccjaaGreat.Runs
theorem i64_at {w : World} {A : Option Addr} {l : List Int} {q : Option Nat} (h : Sl w A (i64s l) q) {i : Nat} (hi : i < l.length) {b off : Nat} (hA : A = some ⟨b, off, none⟩) : w.cell? ⟨b, off + i, none⟩ = some (.int .i64 (l.getD i 0)) := by
  obtain ⟨b', off', h1, _, hc⟩ := h (by rw [i64s_length]; omega)
  rw [hA] at h1
  cases h1
  rw [hc i (by rw [i64s_length]; omega), i64s_get, List.getD_eq_getElem?_getD, List.getElem?_eq_getElem hi]
  rfl
set_option maxHeartbeats 4000000 in
theorem can_any (w : World) (A B : Option Addr) (n c m d : Nat) (lit dist : List Int) (p q : Option Nat) (hX : SlArg w A n c (i64s lit) p) (hY : SlArg w B m d (i64s dist) q) (b : Bool) (hb : b = okH lit dist) :
    Calls Tryz.prog 146 #[.slice A n c, .slice B m d] w fun e w' => e = .returned (.bool b) ∧ Fr w w' [] := by
  have hn : lit.length = n := by have := hX.len; simpa [i64s] using this
  have hm : dist.length = m := by have := hY.len; simpa [i64s] using this
  have HX := Hd.mk hX
  have HY := Hd.mk hY
  have HB : Hd (b = decide (257 ≤ n ∧ n ≤ 286 ∧ m ≤ 30 ∧ Code.check lit = 0 ∧ Code.check dist = 0 ∧ lit.getD 256 0 ≠ 0)) := ⟨by rw [hb, ← hn, ← hm]; rfl⟩
  have hn2 := hX.le
  have hn3 := hX.max
  have hm2 := hY.le
  have hm3 := hY.max
  unfold maxLen at hn3 hm3
  clear hX hY hb
  go_enter Tryz.func146, Tryz.ntmps146
  by_cases h1 : 257 ≤ n
  · by_cases h2 : n ≤ 286
    · by_cases h3 : m ≤ 30
      · go_wp2_with (fail)
        refine (Code.check_any w A n c lit p HX.out _ rfl).mono ?_
        rintro e w1 ⟨rfl, h⟩
        have F1 := Hd.mk h
        clear h
        obtain ⟨k, hk⟩ : ∃ k, k = Code.check lit := ⟨_, rfl⟩
        rw [← hk] at HB ⊢
        have HK := Hd.mk hk
        clear hk
        by_cases h4 : k = 0
        · subst h4
          go_wp2_with (fail)
          refine (Code.check_any w1 B m d dist q (HY.out.frame F1.out (by simp)) _ rfl).mono ?_
          rintro e w2 ⟨rfl, h⟩
          have F2 := Hd.mk (F1.out.trans h (by simp))
          clear h
          obtain ⟨k2, hk⟩ : ∃ k, k = Code.check dist := ⟨_, rfl⟩
          rw [← hk] at HB ⊢
          clear hk
          by_cases h5 : k2 = 0
          · subst h5
            obtain ⟨bx, ox, rfl, _, _⟩ := HX.out.sl (by rw [i64s_length]; omega)
            have k0 := i64_at (HX.out.sl.frame F2.out (by simp)) (i := 256) (by omega) rfl
            obtain ⟨z, hz⟩ : ∃ z, z = lit.getD 256 0 := ⟨_, rfl⟩
            rw [← hz] at HB k0
            clear hz
            by_cases h6 : z = 0
            · subst h6
              obtain rfl : b = false := by rw [HB.out]; exact decide_eq_false (fun h => h.2.2.2.2.2 rfl)
              go_wp2
              go_ret
              exact ⟨rfl, F2.out⟩
            · obtain rfl : b = true := by rw [HB.out]; simp [h1, h2, h3, h6]
              have hne : (z != 0) = true := by simpa using h6
              go_wp2
              go_ret
              exact ⟨rfl, F2.out⟩
          · have hne : (k2 == 0) = false := by simpa using h5
            obtain rfl : b = false := by rw [HB.out]; exact decide_eq_false (fun h => h5 h.2.2.2.2.1)
            go_wp2
            go_ret
            exact ⟨rfl, F2.out⟩
        · have hne : (k == 0) = false := by simpa using h4
          obtain rfl : b = false := by rw [HB.out]; exact decide_eq_false (fun h => h4 h.2.2.2.1)
          go_wp2
          go_ret
          exact ⟨rfl, F1.out⟩
      · obtain rfl : b = false := by rw [HB.out]; exact decide_eq_false (fun h => h3 h.2.2.1)
        go_wp2
        go_ret
        exact ⟨rfl, Fr.refl _ _⟩
    · obtain rfl : b = false := by rw [HB.out]; exact decide_eq_false (fun h => h2 h.2.1)
      go_wp2
      go_ret
      exact ⟨rfl, Fr.refl _ _⟩
  · obtain rfl : b = false := by rw [HB.out]; exact decide_eq_false (fun h => h1 h.1)
    go_wp2
    go_ret
    exact ⟨rfl, Fr.refl _ _⟩
theorem run_cut_toE {P : Program} (t e : TypeId) (kh : IntKind) {i : TypeInfo} (ht : P.underlying t = some (.slice e)) (hi : P.info? e = some i) (size : Nat) (hsz : i.size = size) (A : Option Addr) (n c m : Nat) (hA : A = none → c = 0) (h2 : m ≤ c) :
    ∀ W : World, (Instr.slice t (.slice A n c) none (some (.int kh (m : Nat))) none).run P W = .ok (.slice A m c) W := Lens.run_cut_to t e kh ht hi size hsz A n c m hA h2
set_option maxHeartbeats 4000000 in
theorem cut_any (w : World) (A : Option Addr) (n c : Nat) (l : List Int) (p : Option Nat) (hX : SlArg w A n c (i64s l) p) (least : Nat) (hl : least ≤ 1000) (k : Nat) (hk : k = cutN l least n) :
    Calls Tryz.prog 147 #[.slice A n c, .int .i64 (least : Nat)] w fun e w' => e = .returned (.slice A k c) ∧ w = w' := by
  obtain ⟨j0, hj0, hj1, hj2, hj3⟩ := info_parts infoI64
  have hn : l.length = n := by have := hX.len; simpa [i64s] using this
  have HX := Hd.mk hX
  have HK := Hd.mk hk
  have hn2 := hX.le
  have hn3 := hX.max
  have HA := Hd.mk hX.nil
  unfold maxLen at hn3
  clear hX hk
  go_enter Tryz.func147, Tryz.ntmps147
  go_wp2
  go_loopg [0] n (fun kq av wr => ∃ j : Nat, av = .slice A j c ∧ j = kq ∧ j ≤ n ∧ Hd (cutN l least j = k) ∧ w = wr)
  case atStart => exact ⟨n, rfl, rfl, Nat.le_refl _, ⟨HK.out.symm⟩, rfl⟩
  case round =>
    obtain ⟨j, rfl, rfl, hj, HC, rfl⟩ := hrel
    by_cases h1 : least < j
    · obtain ⟨i, rfl⟩ : ∃ i, j = i + 1 := ⟨j - 1, by omega⟩
      obtain ⟨bx, ox, rfl, _, _⟩ := HX.out.sl (by rw [i64s_length]; omega)
      have k0 := i64_at HX.out.sl (i := i) (by omega) rfl
      obtain ⟨z, hz⟩ : ∃ z, z = l.getD i 0 := ⟨_, rfl⟩
      have HC2 : Hd ((if least < i + 1 ∧ z = 0 then cutN l least i else i + 1) = k) := ⟨by have := HC.out; rw [cutN, ← hz] at this; exact this⟩
      rw [← hz] at k0
      clear hz
      by_cases h2 : z = 0
      · subst h2
        have HC3 : Hd (cutN l least i = k) := ⟨by have := HC2.out; rwa [if_pos ⟨h1, rfl⟩] at this⟩
        have hs := run_cut_toE (P := Tryz.prog) 65 3 .i64 Tryz.underlying65 hj0 1 hj2 (some ⟨bx, ox, none⟩) (i + 1) c i (by intro h; cases h) (by omega)
        clear HC HC2
        go_wp2
        go_roundg i
        case measure => omega
        case rel => exact ⟨i, rfl, rfl, by omega, HC3, rfl⟩
      · have hne : (z == 0) = false := by simpa using h2
        obtain rfl : k = i + 1 := by have := HC2.out; rw [if_neg (fun h => h2 h.2)] at this; exact this.symm
        go_wp2
        go_ret
        exact ⟨rfl, rfl⟩
    · obtain rfl : k = j := by
        have := HC.out
        cases j with
        | zero => simpa [cutN] using this.symm
        | succ i => rw [cutN, if_neg (fun h => h1 h.1)] at this; exact this.symm
      go_wp2
      go_ret
      exact ⟨rfl, rfl⟩
end Go.Proofs.YtlfckpmdmkccjaaGreat.Head
/- Chapter 08: newPlan walked. No condition. -/
set_option linter.unusedVariables false
set_option linter.unusedSimpArgs false
set_option maxRecDepth 100000
namespace Go.Proofs.YtlfckpmdmkccjaaGreat.Head
open Go.RowKit Go.Proofs.YtlfckpmdmkccjaaGreat.Lib Go.Proofs.YtlfckpmdmkccjaaGreat.Ints Go.Proofs.YtlfckpmdmkccjaaGreat.Runs
def ordC : Array Value := (i64s (ord.map fun (i : Nat) => (i : Int))).toArray
theorem ordInfo : (Tryz.prog.info? 228).map (·.size) = some ordC.size := by kernel_rfl
set_option maxHeartbeats 2000000 in
theorem order_any (w : World) : Calls Tryz.prog 129 #[] w fun e w' => e = .returned (.agg ordC) ∧ Fr w w' [] := by
  go_enter Tryz.func129, Tryz.ntmps129
  go_upto_region 1 with (fail)
  go_wp2_with (refine wpList_store_row rfl 228 _ _ rfl w.heap.size ordC rfl rfl 228 _ (by exact blk_new w _) (by kernel_rfl) (by kernel_rfl) (by kernel_rfl) ?_)
  refine bodyPost_ret (results_cell_row rfl _ _ w.heap.size 228 _ _ _ rfl (setRow_heap _ _ _ _ _ _ (blk_new w _)) Tryz.underlying228 rfl ordInfo) rfl ?_
  exact ⟨rfl, Code.Fr.setRow ((Fr.refl w []).alloc _) _ (.inr (Nat.le_refl _))⟩
theorem ordIdx : ∀ i : Nat, i < 19 → ∀ W : World, (Instr.index 228 (.agg ordC) (.int .i64 (i : Nat))).run Tryz.prog W = .ok (.int .i64 ((ord.getD i 0 : Nat) : Int)) W
  | 0, _, W => by kernel_rfl
  | 1, _, W => by kernel_rfl
  | 2, _, W => by kernel_rfl
  | 3, _, W => by kernel_rfl
  | 4, _, W => by kernel_rfl
  | 5, _, W => by kernel_rfl
  | 6, _, W => by kernel_rfl
  | 7, _, W => by kernel_rfl
  | 8, _, W => by kernel_rfl
  | 9, _, W => by kernel_rfl
  | 10, _, W => by kernel_rfl
  | 11, _, W => by kernel_rfl
  | 12, _, W => by kernel_rfl
  | 13, _, W => by kernel_rfl
  | 14, _, W => by kernel_rfl
  | 15, _, W => by kernel_rfl
  | 16, _, W => by kernel_rfl
  | 17, _, W => by kernel_rfl
  | 18, _, W => by kernel_rfl
  | k + 19, h, _ => absurd h (by omega)
theorem ord_lt : ∀ i, i < 19 → ord.getD i 0 < 19 := by decide
/-! ### the counts -/
theorem freqOf_len (rs : List (Int × Int)) : (freqOf rs).length = 19 := by simp [freqOf]
theorem freqF_snoc (rs : List (Int × Int)) (r : Int × Int) (i : Nat) : freqF (rs ++ [r]) i = freqF rs i + if r.1 = (i : Int) then 1 else 0 := by
  unfold freqF
  rw [List.countP_append, List.countP_cons, List.countP_nil]
  by_cases h : r.1 = (i : Int)
  · simp [h]
  · simp [h]
theorem freqF_le (rs : List (Int × Int)) (i : Nat) : freqF rs i ≤ rs.length := List.countP_le_length
theorem freq_get (rs : List (Int × Int)) {s : Nat} (h : s < 19) : (i64s (freqOf rs))[s]? = some (.int .i64 (freqF rs s : Nat)) := by
  rw [i64s_get]; simp [freqOf, h]
theorem freq_set (rs : List (Int × Int)) (r : Int × Int) {s : Nat} (h : s < 19) (hr : r.1 = (s : Int)) : (i64s (freqOf rs)).toArray.setIfInBounds s (.int .i64 ((freqF rs s : Nat) + 1 : Int)) = (i64s (freqOf (rs ++ [r]))).toArray := by
  apply Array.ext_getElem?
  intro k
  rw [Array.getElem?_setIfInBounds]
  simp only [List.getElem?_toArray]
  by_cases hk : k < 19
  · rw [freq_get _ hk]
    by_cases e : s = k
    · subst e
      rw [if_pos rfl, if_pos (by simp [i64s, freqOf]; exact h), freq_get _ h, freqF_snoc, if_pos hr]
      rfl
    · rw [if_neg e, freq_get _ hk, freqF_snoc, if_neg (by rw [hr]; omega), Nat.add_zero]
  · rw [if_neg (by omega)]
    rw [List.getElem?_eq_none (by simp [i64s, freqOf]; omega), List.getElem?_eq_none (by simp [i64s, freqOf]; omega)]
theorem freq_zero : (#[Value.int .i64 0, .int .i64 0, .int .i64 0, .int .i64 0, .int .i64 0, .int .i64 0, .int .i64 0, .int .i64 0, .int .i64 0, .int .i64 0, .int .i64 0, .int .i64 0, .int .i64 0, .int .i64 0, .int .i64 0, .int .i64 0, .int .i64 0, .int .i64 0, .int .i64 0] : Array Value) = (i64s (freqOf [])).toArray := by kernel_rfl
theorem freq_fine {rs : List (Int × Int)} (h : rs.length ≤ 1000) : Lens.cn (freqOf rs) = 0 := by
  unfold Lens.cn
  rw [if_neg (by rw [freqOf_len]; decide), Lens.out_false, if_neg (by decide)]
  intro i hi
  have h1 := freqF_le rs i
  simp only [freqOf, List.getElem_map, List.getElem_range]
  omega
theorem hlens_eq {rs : List (Int × Int)} (h : rs.length ≤ 1000) : Lens.lensN 7 (freqOf rs) = ((List.range 19).map fun s => (Lens.lenOf 7 (freqOf rs) s : Int), 0) ∧ hlens rs = (List.range 19).map fun s => (Lens.lenOf 7 (freqOf rs) s : Int) := by
  have hl : (Lens.lvs (freqOf rs)).length ≤ 19 := by have := Lens.lvs_le (freqOf rs); rw [freqOf_len] at this; exact this
  have e : Lens.lensN 7 (freqOf rs) = ((List.range 19).map fun s => (Lens.lenOf 7 (freqOf rs) s : Int), 0) := by
    unfold Lens.lensN
    rw [if_neg (by decide), if_neg (by rw [freq_fine h]; decide), if_neg (by have : 2 ^ (7 : Int).toNat = 128 := rfl; omega), freqOf_len]
    rfl
  exact ⟨e, by unfold hlens; rw [e]⟩
theorem hlens_len {rs : List (Int × Int)} (h : rs.length ≤ 1000) : (hlens rs).length = 19 := by rw [(hlens_eq h).2]; simp
theorem hlens_check {rs : List (Int × Int)} (h : rs.length ≤ 1000) : Code.check (hlens rs) = 0 := by
  rw [(hlens_eq h).2]
  have := Lens.lens_check (fs := freqOf rs) (limit := 7) (by decide) (by decide) (by have := Lens.lvs_le (freqOf rs); rw [freqOf_len] at this; have e : 2 ^ 7 = 128 := rfl; omega) (by rw [freqOf_len]; decide)
  rwa [freqOf_len] at this
theorem hlens_le {rs : List (Int × Int)} (h : rs.length ≤ 1000) (s : Nat) : 0 ≤ (hlens rs).getD s 0 ∧ (hlens rs).getD s 0 ≤ 7 := by
  rw [(hlens_eq h).2, List.getD_eq_getElem?_getD]
  by_cases hs : s < 19
  · simp only [List.getElem?_map, List.getElem?_range hs, Option.map_some, Option.getD_some]
    have := Lens.lenOf_le (fs := freqOf rs) (limit := 7) (by decide) (by have := Lens.lvs_le (freqOf rs); rw [freqOf_len] at this; have e : 2 ^ 7 = 128 := rfl; omega) s
    omega
  · rw [List.getElem?_eq_none (by simp; omega)]; simp
/-! ### lengths that may be told -/
theorem okH_parts {lit dist : List Int} (h : okH lit dist = true) : 257 ≤ lit.length ∧ lit.length ≤ 286 ∧ dist.length ≤ 30 ∧ Code.check lit = 0 ∧ Code.check dist = 0 ∧ lit.getD 256 0 ≠ 0 := of_decide_eq_true h
theorem check_vals {l : List Int} (h : Code.check l = 0) : ∀ x ∈ l, 0 ≤ x ∧ x ≤ 15 := (Code.bad_false (Code.check_zero h).1).2
theorem distL_len (dist : List Int) (h : dist.length ≤ 30) : 1 ≤ (distL dist).length ∧ (distL dist).length ≤ 30 := by
  unfold distL
  have := cutN_le dist 1 dist.length
  split
  · simp
  · rename_i h1
    rw [cutL_len] at h1 ⊢
    omega
theorem allL_ok {lit dist : List Int} (h : okH lit dist = true) : (∀ x ∈ allL lit dist, 0 ≤ x ∧ x ≤ 15) ∧ (allL lit dist).length ≤ 316 ∧ (cutL lit 257).length ≤ 286 ∧ 257 ≤ (cutL lit 257).length := by
  obtain ⟨h1, h2, h3, h4, h5, h6⟩ := okH_parts h
  have a1 := cutN_le lit 257 lit.length
  have a2 := cutN_ge lit 257 lit.length h1
  have a3 := distL_len dist h3
  refine ⟨fun x hx => ?_, ?_, ?_, ?_⟩
  · rcases List.mem_append.1 hx with e | e
    · exact check_vals h4 x (List.mem_of_mem_take e)
    · unfold distL at e
      split at e
      · rw [List.mem_singleton] at e; subst e; exact ⟨by decide, by decide⟩
      · exact check_vals h5 x (List.mem_of_mem_take e)
  · unfold allL; rw [List.length_append, cutL_len]; omega
  · rw [cutL_len]; omega
  · rw [cutL_len]; omega
theorem bad_of {l : List Int} (h1 : l.length ≤ 320) (h2 : ∀ x ∈ l, 0 ≤ x ∧ x ≤ 15) : bad l = false := by
  unfold bad
  rw [decide_eq_false (by omega), out_false (fun i hi => h2 _ (List.getElem_mem hi))]
  rfl
def hruns (lit dist : List Int) : List (Int × Int) := runs (allL lit dist)
theorem hruns_ok {lit dist : List Int} (h : okH lit dist = true) : (∀ r ∈ hruns lit dist, RunB r) ∧ (hruns lit dist).length ≤ 316 ∧ bad (allL lit dist) = false := by
  obtain ⟨h1, h2, _⟩ := allL_ok h
  obtain ⟨h3, h4⟩ := runs_run h1
  exact ⟨h3, Nat.le_trans h4 h2, bad_of (by omega) h1⟩
end Go.Proofs.YtlfckpmdmkccjaaGreat.Head
