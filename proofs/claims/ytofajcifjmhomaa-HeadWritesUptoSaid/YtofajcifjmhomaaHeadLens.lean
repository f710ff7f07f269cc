/- Runs as lengths: the document's Lens and the program's. Conditions: none but what memory bounds. -/
import Derived.Test.YtofajcifjmhomaaHeadLaw
set_option linter.unusedVariables false
set_option linter.unusedSimpArgs false
set_option maxRecDepth 100000
namespace Go.Proofs.Ytofajcifjmhomaa.Head
open Go.RowKit Go.Proofs.Ytofajcifjmhomaa.Lib Go.Proofs.Ytofajcifjmhomaa.Ints Go.Proofs.Ytofajcifjmhomaa.Runs

theorem quiet_left {P : Program} {f : FuncId} {args : Array Value} {w : World} {n : Nat} {v : Value}
    (h : Calls P f args (w.drewN n) fun e w' => e = .returned v ∧ w.drewN n = w') : Calls P f args (w.drewN n) fun e w'' => e = .returned v ∧ ∃ m, w'' = w.drewN m :=
  h.mono fun _ _ ⟨he, hm⟩ => ⟨he, n, hm.symm⟩
def leastN (s : Int) : Int := if s < 16 then 1 else if s = 16 then 3 else if s = 17 then 3 else 11
def mostN (s : Int) : Int := if s < 16 then 1 else if s = 16 then 6 else if s = 17 then 10 else 138
theorem leastN_pos (s : Int) : 1 ≤ leastN s := by unfold leastN; split <;> (try split) <;> (try split) <;> omega
theorem mostN_le (s : Int) : mostN s ≤ 138 := by unfold mostN; split <;> (try split) <;> (try split) <;> omega
def okRun (out : List Int) (s k : Int) : Prop := 0 ≤ s ∧ s ≤ 18 ∧ leastN s ≤ k ∧ k ≤ mostN s ∧ ¬ (s = 16 ∧ out.length = 0) ∧ (out.length : Int) + k ≤ 320
instance (out : List Int) (s k : Int) : Decidable (okRun out s k) := by unfold okRun; exact inferInstance
def runVal (out : List Int) (s : Int) : Int := if s = 16 then out.getD (out.length - 1) 0 else if 15 < s then 0 else s
def lensF : List (Int × Int) → List Int → Option (List Int)
  | [], out => some out
  | r :: t, out => if okRun out r.1 r.2 then lensF t (out ++ List.replicate r.2.toNat (runVal out r.1)) else none
theorem lensF_cons (r : Int × Int) (t : List (Int × Int)) (out : List Int) : lensF (r :: t) out = if okRun out r.1 r.2 then lensF t (out ++ List.replicate r.2.toNat (runVal out r.1)) else none := rfl

theorem kinds_low (w : World) (s : Int) (h : s < 16) : Calls Try.prog 42 #[.int .i64 s] w fun e w' => e = .returned (.agg #[.int .i64 0, .int .i64 1, .int .i64 1]) ∧ Fr w w' [] := by
  go_enter Try.func42, Try.ntmps42
  go_wp2
  exact bodyPost_ret (v := .agg #[.int .i64 0, .int .i64 1, .int .i64 1]) (by simp [results, Try.results42, go_sem]) rfl ⟨rfl, ((Fr.refl _ _).alloc _).alloc _⟩
theorem kinds_all (w : World) (s L M : Int) (h0 : 0 ≤ s) (h1 : s ≤ 18) (hL : L = leastN s) (hM : M = mostN s) : Calls Try.prog 42 #[.int .i64 s] w fun e w' => ∃ b, e = .returned (.agg #[.int .i64 b, .int .i64 L, .int .i64 M]) ∧ Fr w w' [] := by
  subst hL hM
  by_cases h : s < 16
  · refine (kinds_low w s h).mono ?_
    rintro e w' ⟨rfl, hf⟩
    exact ⟨0, by unfold leastN mostN; rw [if_pos h, if_pos h], hf⟩
  · have : s = 16 ∨ s = 17 ∨ s = 18 := by omega
    rcases this with rfl | rfl | rfl
    · exact (kinds_16 w).mono fun e w' h => ⟨2, h⟩
    · exact (kinds_17 w).mono fun e w' h => ⟨3, h⟩
    · exact (kinds_18 w).mono fun e w' h => ⟨7, h⟩
theorem least_any (w : World) (s : Int) (h1 : s ≤ 18) : Calls Try.prog 43 #[.int .i64 s] w fun e w' => e = .returned (.int .i64 (leastN s)) ∧ w = w' := by
  have hc : s < 16 ∨ s = 16 ∨ s = 17 ∨ s = 18 := by omega
  obtain ⟨L, hL⟩ : ∃ L, L = leastN s := ⟨_, rfl⟩
  rw [← hL]
  rcases hc with h | rfl | rfl | rfl
  · have e1 : (s == 16) = false := by simp; omega
    have e2 : (s == 17) = false := by simp; omega
    have e3 : (s == 18) = false := by simp; omega
    have : L = 1 := by rw [hL]; unfold leastN; rw [if_pos h]
    subst this
    clear hL
    go_enter Try.func43, Try.ntmps43
    go_wp2
    go_ret
    exact ⟨rfl, rfl⟩
  · obtain rfl : L = 3 := hL.trans (by decide)
    clear hL
    go_enter Try.func43, Try.ntmps43
    go_wp2
    go_ret
    exact ⟨rfl, rfl⟩
  · obtain rfl : L = 3 := hL.trans (by decide)
    clear hL
    go_enter Try.func43, Try.ntmps43
    go_wp2
    go_ret
    exact ⟨rfl, rfl⟩
  · obtain rfl : L = 11 := hL.trans (by decide)
    clear hL
    go_enter Try.func43, Try.ntmps43
    go_wp2
    go_ret
    exact ⟨rfl, rfl⟩
theorem greatest_any (w : World) (s : Int) (h1 : s ≤ 18) : Calls Try.prog 44 #[.int .i64 s] w fun e w' => e = .returned (.int .i64 (mostN s)) ∧ w = w' := by
  have hc : s < 16 ∨ s = 16 ∨ s = 17 ∨ s = 18 := by omega
  obtain ⟨L, hL⟩ : ∃ L, L = mostN s := ⟨_, rfl⟩
  rw [← hL]
  rcases hc with h | rfl | rfl | rfl
  · have e1 : (s == 16) = false := by simp; omega
    have e2 : (s == 17) = false := by simp; omega
    have e3 : (s == 18) = false := by simp; omega
    have : L = 1 := by rw [hL]; unfold mostN; rw [if_pos h]
    subst this
    clear hL
    go_enter Try.func44, Try.ntmps44
    go_wp2
    go_ret
    exact ⟨rfl, rfl⟩
  · obtain rfl : L = 6 := hL.trans (by decide)
    clear hL
    go_enter Try.func44, Try.ntmps44
    go_wp2
    go_ret
    exact ⟨rfl, rfl⟩
  · obtain rfl : L = 10 := hL.trans (by decide)
    clear hL
    go_enter Try.func44, Try.ntmps44
    go_wp2
    go_ret
    exact ⟨rfl, rfl⟩
  · obtain rfl : L = 138 := hL.trans (by decide)
    clear hL
    go_enter Try.func44, Try.ntmps44
    go_wp2
    go_ret
    exact ⟨rfl, rfl⟩
/-- the row that grows: its block, and the list it holds -/
structure RowAt (w : World) (g : Nat) (A : Option Addr) (n c : Nat) (xs : List Int) : Prop where
  blk : w.heap[g]? = some (.cells #[.slice A n c, .int .i64 320] 49 (0, 0))
  own : w.ownsRow 0 3 1 (.slice A n c) n (i64s xs)
  len : xs.length = n
theorem RowAt.ne {w : World} {g : Nat} {A : Option Addr} {n c : Nat} {xs : List Int} (h : RowAt w g A n c xs) : (Value.slice A n c).ownBlock ≠ some g := own_ne h.own h.blk (by decide)
theorem RowAt.frame {w w' : World} {g : Nat} {A : Option Addr} {n c : Nat} {xs : List Int} (h : RowAt w g A n c xs) (hf : Fr w w' []) : RowAt w' g A n c xs := ⟨hf.blk h.blk (by simp), own_frame h.own hf (by simp), h.len⟩
theorem aft_alloc {w : World} {o : Obj} {q q' : Option Nat} (h : Aft (w.alloc o) q q') : Aft w q q' := by
  rcases h with h | ⟨z, h, hz⟩
  · exact .inl h
  · exact .inr ⟨z, h, by simp at hz; omega⟩
set_option maxHeartbeats 4000000 in
theorem add_any (w : World) (g : Nat) (A : Option Addr) (n c : Nat) (xs : List Int) (s k : Int) (hr : RowAt w g A n c xs) (hn : n ≤ 1000) (b : Bool) (hb : b = decide (okRun xs s k)) :
    Calls Try.prog 45 #[.pointer (some ⟨g, 0, none⟩), .agg #[.int .i64 s, .int .i64 k]] w fun e w' => e = .returned (.bool b) ∧
      (Hd (b = true) → ∃ A' n' c', RowAt w' g A' n' c' (xs ++ List.replicate k.toNat (runVal xs s)) ∧ Aft w (Value.slice A n c).ownBlock (Value.slice A' n' c').ownBlock) ∧ Fr w w' (g :: (Value.slice A n c).ownBlock.toList) := by
  obtain ⟨j0, hj0, hj1, hj2, hj3⟩ := info_parts infoI64
  have HR := Hd.mk hr
  have HB := Hd.mk hb
  have hl := hr.len
  have hg := blk_lt hr.blk
  clear hr hb
  have hF0 : Fr w (w.alloc (.cells #[.int .i64 s, .int .i64 k] 35)) [] := (Fr.refl w []).alloc _
  by_cases h1 : s < 0
  · obtain rfl : b = false := by rw [HB.out]; exact decide_eq_false (fun h => by have := h.1; omega)
    go_enter Try.func45, Try.ntmps45
    go_wp2
    go_ret
    exact ⟨rfl, (fun h => by cases h.out), hF0.mono (by simp)⟩
  by_cases h2 : 19 ≤ s
  · obtain rfl : b = false := by rw [HB.out]; exact decide_eq_false (fun h => by have := h.2.1; omega)
    go_enter Try.func45, Try.ntmps45
    go_wp2
    go_ret
    exact ⟨rfl, (fun h => by cases h.out), hF0.mono (by simp)⟩
  obtain ⟨L, hL⟩ : ∃ L, L = leastN s := ⟨_, rfl⟩
  obtain ⟨M, hM⟩ : ∃ M, M = mostN s := ⟨_, rfl⟩
  have hL1 : 1 ≤ L := by rw [hL]; exact leastN_pos s
  have hM1 : M ≤ 138 := by rw [hM]; exact mostN_le s
  have HL := Hd.mk hL
  have HM := Hd.mk hM
  clear hL hM
  go_enter Try.func45, Try.ntmps45
  go_wp2_with (fail)
  refine (kinds_all _ s L M (by omega) (by omega) HL.out HM.out).mono ?_
  rintro e w1 ⟨bb, rfl, f1⟩
  have F1 := Hd.mk (hF0.trans f1 (by simp))
  have hrb : w1.heap[w.heap.size]? = some (.cells #[.int .i64 s, .int .i64 k] 35 (0, 0)) := f1.blk (blk_new _ _) (by simp)
  have H1 := Hd.mk hrb
  clear f1 hrb
  go_wp2
  generalize hw2 : w1.alloc (.cells #[.int .i64 bb, .int .i64 L, .int .i64 M] 96) = w2
  have hrb := blk_alloc H1.out (.cells #[.int .i64 bb, .int .i64 L, .int .i64 M] 96)
  have hkb := blk_new w1 (.cells #[.int .i64 bb, .int .i64 L, .int .i64 M] 96)
  have F2 := F1.out.alloc (.cells #[.int .i64 bb, .int .i64 L, .int .i64 M] 96)
  rw [hw2] at hrb hkb F2
  have HR2 := HR.out.frame F2
  have c0 := blk_cell hrb 0
  have c1 := blk_cell hrb 1
  have d0 := blk_cell HR2.blk 0
  have d1 := blk_cell HR2.blk 1
  have e1 := blk_cell hkb 1
  have e2 := blk_cell hkb 2
  simp only [List.getElem?_toArray, List.getElem?_cons_zero, List.getElem?_cons_succ] at c0 c1 d0 d1 e1 e2
  have HRR := Hd.mk HR2
  have HF2 := Hd.mk F2
  have Hrb := Hd.mk hrb
  clear hrb hkb F2 HR2 hw2
  go_upto_region 4 with (fail)
  go_cut [57] from 18 to 58 (fun s57 wd => ∃ nq, s57 = .bool (!b) ∧ wd = w2.drewN nq)
  case first =>
    by_cases h3 : k < L
    · obtain rfl : b = false := by rw [HB.out]; exact decide_eq_false (fun h => by have := h.2.2.1; have := HL.out; omega)
      go_quiet (fail)
      go_wp2
      go_meet
      exact ⟨_, rfl, rfl⟩
    by_cases h4 : M < k
    · obtain rfl : b = false := by rw [HB.out]; exact decide_eq_false (fun h => by have := h.2.2.2.1; have := HM.out; omega)
      go_quiet (fail)
      go_wp2
      go_meet
      exact ⟨_, rfl, rfl⟩
    obtain ⟨k, rfl⟩ := Int.eq_ofNat_of_zero_le (show 0 ≤ k by omega)
    have hk138 : k ≤ 138 := by omega
    by_cases h16 : s = 16
    · subst h16
      by_cases hn0 : n = 0
      · subst hn0
        obtain rfl : b = false := by rw [HB.out]; exact decide_eq_false (fun h => h.2.2.2.2.1 ⟨rfl, hl⟩)
        go_quiet (fail)
        go_wp2
        go_meet
        exact ⟨_, rfl, rfl⟩
      have hnb : ((n : Int) == 0) = false := by simp; omega
      by_cases h5 : 320 < n + k
      · obtain rfl : b = false := by rw [HB.out]; exact decide_eq_false (fun h => by have := h.2.2.2.2.2; omega)
        go_quiet (fail)
        go_wp2
        go_meet
        exact ⟨_, by rw [show decide (320 < (n : Int) + (k : Int)) = true from decide_eq_true (by omega)]; rfl, rfl⟩
      · obtain rfl : b = true := by rw [HB.out]; exact decide_eq_true ⟨by omega, by omega, by have := HL.out; omega, by have := HM.out; omega, fun h => by omega, by omega⟩
        go_quiet (fail)
        go_wp2
        go_meet
        exact ⟨_, by rw [show decide (320 < (n : Int) + (k : Int)) = false from decide_eq_false (by omega)]; rfl, rfl⟩
    · have hsb : (s == 16) = false := by simpa using h16
      by_cases h5 : 320 < n + k
      · obtain rfl : b = false := by rw [HB.out]; exact decide_eq_false (fun h => by have := h.2.2.2.2.2; omega)
        go_quiet (fail)
        go_wp2
        go_meet
        exact ⟨_, by rw [show decide (320 < (n : Int) + (k : Int)) = true from decide_eq_true (by omega)]; rfl, rfl⟩
      · obtain rfl : b = true := by rw [HB.out]; exact decide_eq_true ⟨by omega, by omega, by have := HL.out; omega, by have := HM.out; omega, fun h => by omega, by omega⟩
        go_quiet (fail)
        go_wp2
        go_meet
        exact ⟨_, by rw [show decide (320 < (n : Int) + (k : Int)) = false from decide_eq_false (by omega)]; rfl, rfl⟩
  case rest =>
    obtain ⟨nq, rfl, rfl⟩ := hcut
    cases b with
    | false =>
      go_wp2
      go_ret
      exact ⟨rfl, (fun h => by cases h.out), (HF2.out.drewN _).mono (by simp)⟩
    | true =>
      have hok := of_decide_eq_true HB.out.symm
      obtain ⟨_, _, h3, h4, h5, h6⟩ := hok
      rw [← HL.out] at h3
      rw [← HM.out] at h4
      rw [hl] at h6
      obtain ⟨k, rfl⟩ := Int.eq_ofNat_of_zero_le (show 0 ≤ k by omega)
      obtain ⟨v, hv⟩ : ∃ v, v = runVal xs s := ⟨_, rfl⟩
      have HV := Hd.mk hv
      have H5 := Hd.mk h5
      clear hv h5
      go_upto_block 0 with (fail)
      go_cut [6] from 60 to 79 (fun s6 wd => ∃ nq, s6 = .int .i64 v ∧ wd = w2.drewN nq)
      case first =>
        have hc : s < 16 ∨ s = 16 ∨ s = 17 ∨ s = 18 := by omega
        rcases hc with h16 | rfl | rfl | rfl
        · have i1 : (s == 16) = false := by simp; omega
          have i2 : (s == 17) = false := by simp; omega
          have i3 : (s == 18) = false := by simp; omega
          obtain rfl : v = s := by rw [HV.out]; unfold runVal; rw [if_neg (by omega), if_neg (by omega)]
          go_wp2
          go_meet
          exact ⟨_, rfl, rfl⟩
        · have hn0 : 0 < n := by have := H5.out; omega
          obtain ⟨m, rfl⟩ : ∃ m, n = m + 1 := ⟨n - 1, by omega⟩
          obtain ⟨a, c', e, _⟩ := own_some HRR.out.own (by omega)
          injection e with e _ e'
          subst e e'
          have ca := HRR.out.own.cellAt m (by omega)
          have hvx : xs[m]? = some v := by
            rw [List.getElem?_eq_getElem (by omega), HV.out]
            unfold runVal
            rw [if_pos rfl, show xs.length - 1 = m from by omega, List.getD_eq_getElem?_getD, List.getElem?_eq_getElem (by omega)]
            rfl
          rw [i64s_get, hvx] at ca
          simp only [Option.map_some] at ca
          clear hvx
          go_wp2
          go_quiet (fail)
          go_wp2
          go_meet
          exact ⟨_, rfl, World.drewN_drewN _ _ _⟩
        · obtain rfl : v = 0 := by rw [HV.out]; rfl
          go_wp2
          go_meet
          exact ⟨_, rfl, rfl⟩
        · obtain rfl : v = 0 := by rw [HV.out]; rfl
          go_wp2
          go_meet
          exact ⟨_, rfl, rfl⟩
      case rest =>
        obtain ⟨nq, rfl, rfl⟩ := hcut
        go_wp2
        have HF3 := Hd.mk (HF2.out.drewN nq)
        have HR3 : Hd (RowAt (w2.drewN nq) g A n c xs) := ⟨⟨HRR.out.blk, HRR.out.own, HRR.out.len⟩⟩
        clear c0 c1 d0 d1 e1 e2 HRR H1 Hrb F1 HF2 hF0
        generalize w2.drewN nq = w3 at *
        go_loopg [81] k (fun kq jv wr => ∃ (i : Nat) (A' : Option Addr) (m c' : Nat), jv = .int .i64 (i : Nat) ∧ i + kq = k ∧ m = n + i ∧ Hd (RowAt wr g A' m c' (xs ++ List.replicate i v)) ∧ Hd (Aft w (Value.slice A n c).ownBlock (Value.slice A' m c').ownBlock) ∧ Hd (Fr w wr (g :: (Value.slice A n c).ownBlock.toList)))
        case atStart => exact ⟨0, A, n, c, rfl, by omega, rfl, ⟨by simpa using HR3.out⟩, ⟨Aft.refl _ _⟩, ⟨HF3.out.mono (by simp)⟩⟩
        case round =>
          obtain ⟨i, A', m, c', rfl, hi, hm, HR4, HA4, HF4⟩ := hrel
          have d0 := blk_cell HR4.out.blk 0
          simp only [List.getElem?_toArray, List.getElem?_cons_zero] at d0
          have hb := HR4.out.blk
          have hgl := blk_lt hb
          have hne := HR4.out.ne
          have HBK := Hd.mk hb
          have hmb : m ≤ 1320 := by omega
          have HM2 := Hd.mk hm
          clear hb hm
          by_cases h7 : i < k
          · go_wp2_with (at_builtin; refine wpList_append_sl rfl (.tmp 87) (.tmp 89) 22 rfl 3 j0 (.int .i64 0) 1 8 Try.underlying22 hj0 hj1 hj2 hj3 rfl (by decide) (.slice A' m c') m _ rfl (by exact HR4.out.own.alloc _) (some ⟨wr.heap.size, 0, none⟩) 1 1 [.int .i64 v] (some wr.heap.size) rfl rfl (by exact sl_of_blk (blk_new _ _)) (by intro h; cases h) (by intro u hu; simp at hu; rcases hu with rfl; rfl) (by unfold maxLen; omega) (by omega) ?_; intro A3 d3 w4 hown' hgrow haft; have O3 := Hd.mk hown'; have G3 := Hd.mk hgrow; have F3 := Hd.mk haft; have hb4 := blk_grown hgrow (blk_alloc HBK.out _) (fun e => hne e.symm); have f0 := blk_frozen hb4 0; have e0 := blk_cell hb4 0; simp only [List.getElem?_toArray, List.getElem?_cons_zero] at e0; have HB4 := Hd.mk hb4; clear hown' hgrow haft hb4)
            go_roundg (gk - 1)
            case measure => omega
            case rel =>
              refine ⟨i + 1, A3, m + 1, d3, by go_num, by omega, by have := HM2.out; omega, ⟨⟨by simpa using blk_set HB4.out 0 _, own_setFar (by
                rw [List.replicate_succ', ← List.append_assoc, i64s_app _ [v]]
                exact O3.out) _ (own_ne O3.out HB4.out (by decide)), by have := HR4.out.len; have := HM2.out; simp; omega⟩⟩, ⟨HA4.out.trans (aft_alloc F3.out) HF4.out.size⟩, ⟨((HF4.out.alloc _).grown G3.out (fun y hy => ?_)).setCell _ (.inl (by simp))⟩⟩
              have := HA4.out.mem (k := y) (by simp [hy])
              rcases this with h | h
              · exact .inl (List.mem_cons_of_mem _ h)
              · exact .inr h
          · obtain rfl : i = k := by omega
            go_wp2
            go_ret
            refine ⟨rfl, fun _ => ⟨A', m, c', by have := HR4.out; rw [HV.out] at this; simpa using this, HA4.out⟩, HF4.out⟩
end Go.Proofs.Ytofajcifjmhomaa.Head
