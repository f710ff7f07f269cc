/- Runs as lengths: the program's Lens. Conditions: none but what memory bounds. -/
import Derived.Test.YtofajcifjmhomaaHeadLens
set_option linter.unusedVariables false
set_option linter.unusedSimpArgs false
set_option maxRecDepth 100000
namespace Go.Proofs.Ytofajcifjmhomaa.Head
open Go.RowKit Go.Proofs.Ytofajcifjmhomaa.Lib Go.Proofs.Ytofajcifjmhomaa.Ints Go.Proofs.Ytofajcifjmhomaa.Runs

set_option maxHeartbeats 4000000 in
theorem lens_any (w : World) (A : Option Addr) (n c : Nat) (rs : List (Int × Int)) (p : Option Nat) (hn : rs.length = n) (hS : Sl w A (cells rs) p) (hn1 : n ≤ 4611686018427387904) (ec : Int) (ls : List Int) (hec : ec = if (lensF rs []).isSome then 0 else 81) (hls : ls = (lensF rs []).getD []) :
    Calls Try.prog 20 #[.slice A n c] w fun e w' => ∃ A' m d, e = .returned (.tuple #[.slice A' m d, .int .i64 ec]) ∧
      w'.ownsRow 0 3 1 (.slice A' m d) m (i64s ls) ∧ (∀ j, (Value.slice A' m d).ownBlock = some j → w.heap.size ≤ j) ∧ Fr w w' [] := by
  subst hn
  have HS := Hd.mk hS
  have HEC := Hd.mk hec
  have HLS := Hd.mk hls
  clear hS hec hls
  go_enter Try.func20, Try.ntmps20
  go_wp2
  generalize hw1 : w.alloc (.cells #[.slice none 0 0, .int .i64 320] 49) = w1
  have hb := blk_new w (.cells #[.slice none 0 0, .int .i64 320] 49)
  have hf := (Fr.refl w []).alloc (.cells #[.slice none 0 0, .int .i64 320] 49)
  rw [hw1] at hb hf
  have HR0 : Hd (RowAt w1 w.heap.size none 0 0 []) := ⟨⟨hb, own_nil _ _ _ _, rfl⟩⟩
  have HF0 := Hd.mk hf
  clear hb hf hw1
  go_loopg [11] rs.length (fun kq jv wr => ∃ (j : Nat) (A' : Option Addr) (m d : Nat) (out : List Int), jv = .int .i64 (j : Nat) ∧ j + kq = rs.length ∧ out.length ≤ 320 ∧ Hd (RowAt wr w.heap.size A' m d out) ∧ Hd (lensF rs [] = lensF (rs.drop j) out) ∧ Hd (∀ y, (Value.slice A' m d).ownBlock = some y → w.heap.size ≤ y) ∧ Hd (Fr w wr []))
  case atStart => exact ⟨0, none, 0, 0, [], rfl, by omega, by simp, HR0, ⟨rfl⟩, ⟨by intro y hy; cases hy⟩, HF0⟩
  case round =>
    obtain ⟨j, A', m, d, out, rfl, hj, ho, HR, HL, HB, HF⟩ := hrel
    by_cases h1 : j < rs.length
    · obtain ⟨a, o1, rfl, _, ha⟩ := Sl.row (enc := enc) (sz := 2) (fun _ => rfl) (HS.out.frame HF.out (by simp)) h1 (by decide)
      obtain ⟨x, hx⟩ : ∃ x, x = rs[j] := ⟨_, rfl⟩
      rw [← hx] at ha
      have ca := ha 0 (by decide)
      have ca1 := ha 1 (by decide)
      obtain ⟨xa, xb⟩ := x
      simp only [enc, List.getElem?_cons_zero, List.getElem?_cons_succ, Nat.add_zero] at ca ca1
      have HX := Hd.mk hx
      clear ha hx
      obtain ⟨b, hb⟩ : ∃ b, b = decide (okRun out xa xb) := ⟨_, rfl⟩
      have hbs := HF.out.size
      have hmm := HR.out.len
      have HBB := Hd.mk hb
      have HLL : Hd (lensF (rs.drop j) out = if okRun out xa xb then lensF (rs.drop (j + 1)) (out ++ List.replicate xb.toNat (runVal out xa)) else none) := ⟨by
        rw [List.drop_eq_getElem_cons h1, lensF_cons, ← HX.out]⟩
      clear hb
      have HBS := Hd.mk hbs
      go_wp2_with (fail)
      refine (add_any _ w.heap.size A' m d out xa xb (by exact HR.out.frame ((Fr.refl _ _).alloc _)) (by omega) b HBB.out).mono ?_
      rintro e w2 ⟨rfl, h2, h3⟩
      have F2 : Hd (Fr w w2 []) := ⟨(HF.out.alloc (.cells #[.int .i64 xa, .int .i64 xb] 35)).trans h3 (fun y hy hm => by
        rcases List.mem_cons.1 hm with e | e
        · omega
        · have := HB.out y (by simpa using e); omega)⟩
      have H2 := Hd.mk h2
      have L2 : Hd (wr.heap.size + 1 ≤ w2.heap.size) := ⟨by have := h3.size; simp at this; omega⟩
      clear h2 h3
      cases b with
      | false =>
        have hno : Hd (lensF rs [] = none) := ⟨by rw [HL.out, HLL.out, if_neg (of_decide_eq_false HBB.out.symm)]⟩
        go_wp2
        go_ret2
        exact ⟨none, 0, 0, by rw [HEC.out, hno.out]; rfl, by rw [HLS.out, hno.out]; exact own_nil _ _ _ _, (by intro j hj; cases hj), F2.out⟩
      | true =>
        have hok := of_decide_eq_true HBB.out.symm
        obtain ⟨A3, m3, d3, HR3, HA3⟩ := H2.out ⟨rfl⟩
        have hlen : (out ++ List.replicate xb.toNat (runVal out xa)).length ≤ 320 := by
          have h6 := hok.2.2.2.2.2
          have h7 := hok.2.2.1
          have := leastN_pos xa
          simp only [List.length_append, List.length_replicate]
          omega
        have HR3' := Hd.mk HR3
        have HA3' := Hd.mk HA3
        have hl2 : Hd (lensF rs [] = lensF (rs.drop (j + 1)) (out ++ List.replicate xb.toNat (runVal out xa))) := ⟨by rw [HL.out, HLL.out, if_pos hok]⟩
        clear HR3 HA3 hok
        go_wp2
        go_roundg (gk - 1)
        case measure => omega
        case rel => exact ⟨j + 1, A3, m3, d3, _, by go_num, by omega, hlen, HR3', hl2, ⟨fun y hy => by
          rcases aft_alloc HA3'.out with h | ⟨z, h, hz⟩
          · rw [h] at hy; exact HB.out y hy
          · rw [h] at hy; cases hy; exact Nat.le_trans HF.out.size hz⟩, F2⟩
    · obtain rfl : j = rs.length := by omega
      have d0 := blk_cell HR.out.blk 0
      simp only [List.getElem?_toArray, List.getElem?_cons_zero] at d0
      have hso : Hd (lensF rs [] = some out) := ⟨by rw [HL.out, List.drop_length]; rfl⟩
      go_wp2
      go_ret2
      exact ⟨A', m, d, by rw [HEC.out, hso.out]; rfl, by rw [HLS.out, hso.out]; exact HR.out.own, HB.out, HF.out⟩
theorem least_eq (w : World) (s L : Int) (h1 : s ≤ 18) (hL : L = leastN s) : Calls Try.prog 43 #[.int .i64 s] w fun e w' => e = .returned (.int .i64 L) ∧ w = w' := hL ▸ least_any w s h1
theorem greatest_eq (w : World) (s M : Int) (h1 : s ≤ 18) (hM : M = mostN s) : Calls Try.prog 44 #[.int .i64 s] w fun e w' => e = .returned (.int .i64 M) ∧ w = w' := hM ▸ greatest_any w s h1
theorem runVal_two {out : List Int} {s : Int} (h : ∀ x ∈ out, x ≤ 15) (h5 : ¬ (s = 16 ∧ out.length = 0)) : runVal out s = if 15 < (if s = 16 then out.getD (out.length - 1) 0 else s) then 0 else if s = 16 then out.getD (out.length - 1) 0 else s := by
  unfold runVal
  by_cases e : s = 16
  · rw [if_pos e, if_pos e, if_neg]
    rw [List.getD_eq_getElem?_getD, List.getElem?_eq_getElem (by omega)]
    have := h _ (List.getElem_mem (l := out) (n := out.length - 1) (by omega))
    simp only [Option.getD_some]
    omega
  · rw [if_neg e, if_neg e]
theorem runVal_le {out : List Int} {s : Int} (h : ∀ x ∈ out, x ≤ 15) : runVal out s ≤ 15 := by
  unfold runVal
  split
  · by_cases e : out.length - 1 < out.length
    · rw [List.getD_eq_getElem?_getD, List.getElem?_eq_getElem e]
      exact h _ (List.getElem_mem e)
    · rw [List.getD_eq_getElem?_getD, List.getElem?_eq_none (by omega)]; decide
  · split <;> omega
def okRef (out : List Int) (s k : Int) : Prop := 0 ≤ s ∧ s ≤ 18 ∧ leastN s ≤ k ∧ k ≤ mostN s ∧ ¬ (s = 16 ∧ out.length = 0)
instance (out : List Int) (s k : Int) : Decidable (okRef out s k) := by unfold okRef; exact inferInstance
theorem okRef_of {out : List Int} {s k : Int} (h : okRun out s k) : okRef out s k := ⟨h.1, h.2.1, h.2.2.1, h.2.2.2.1, h.2.2.2.2.1⟩
set_option maxHeartbeats 8000000 in
/-- the document's -/
theorem rlens_any (w : World) (A : Option Addr) (n c : Nat) (rs : List (Int × Int)) (p : Option Nat) (hn : rs.length = n) (hS : Sl w A (cells rs) p) (hn1 : n ≤ 4611686018427387904) (ec : Int) (ls : List Int) (hec : ec = if (lensF rs []).isSome then 0 else 81) (hls : ls = (lensF rs []).getD []) :
    Calls Try.prog 19 #[.slice A n c] w fun e w' => ∃ A' m d, e = .returned (.tuple #[.slice A' m d, .int .i64 ec]) ∧
      w'.ownsRow 0 3 1 (.slice A' m d) m (i64s ls) ∧ (∀ j, (Value.slice A' m d).ownBlock = some j → w.heap.size ≤ j) ∧ Fr w w' [] := by
  obtain ⟨j0, hj0, hj1, hj2, hj3⟩ := info_parts infoI64
  subst hn
  have HS := Hd.mk hS
  have HEC := Hd.mk hec
  have HLS := Hd.mk hls
  clear hS hec hls
  go_enter Try.func19, Try.ntmps19
  go_wp2
  go_loopg [4, 5] rs.length (fun kq sv jv wr => ∃ (j : Nat) (A' : Option Addr) (m d : Nat) (out : List Int), sv = .slice A' m d ∧ jv = .int .i64 (j : Nat) ∧ j + kq = rs.length ∧ out.length = m ∧ m ≤ 320 ∧ Hd (wr.ownsRow 0 3 1 (.slice A' m d) m (i64s out)) ∧ Hd (lensF rs [] = lensF (rs.drop j) out) ∧ Hd (∀ x ∈ out, x ≤ 15) ∧ Hd (∀ y, (Value.slice A' m d).ownBlock = some y → w.heap.size ≤ y) ∧ Hd (Fr w wr []))
  case atStart => exact ⟨0, none, 0, 0, [], rfl, rfl, by omega, rfl, by simp, ⟨own_nil _ _ _ _⟩, ⟨rfl⟩, ⟨by intro x hx; cases hx⟩, ⟨by intro y hy; cases hy⟩, ⟨Fr.refl _ _⟩⟩
  case round =>
    obtain ⟨ws, rfl⟩ : ∃ ws : World, ws = wr := ⟨_, rfl⟩
    obtain ⟨gx, rfl⟩ : ∃ gx : Nat, gx = gk := ⟨_, rfl⟩
    obtain ⟨j, A', m, d, out, rfl, rfl, hj, hm, ho, HO, HL, H15, HB, HF⟩ := hrel
    by_cases h1 : j < rs.length
    · obtain ⟨a, o1, rfl, _, ha⟩ := Sl.row (enc := enc) (sz := 2) (fun _ => rfl) (HS.out.frame HF.out (by simp)) h1 (by decide)
      obtain ⟨x, hx⟩ : ∃ x, x = rs[j] := ⟨_, rfl⟩
      rw [← hx] at ha
      have ca := ha 0 (by decide)
      have ca1 := ha 1 (by decide)
      obtain ⟨s, k⟩ := x
      simp only [enc, List.getElem?_cons_zero, List.getElem?_cons_succ, Nat.add_zero] at ca ca1
      have HX := Hd.mk hx
      clear ha hx
      obtain ⟨b, hb⟩ : ∃ b, b = decide (okRun out s k) := ⟨_, rfl⟩
      have hbs := HF.out.size
      have HBB := Hd.mk hb
      have HLL : Hd (lensF (rs.drop j) out = if okRun out s k then lensF (rs.drop (j + 1)) (out ++ List.replicate k.toNat (runVal out s)) else none) := ⟨by
        rw [List.drop_eq_getElem_cons h1, lensF_cons, ← HX.out]⟩
      clear hb
      have HBS := Hd.mk hbs
      have hkb := blk_new ws (.cells #[.int .i64 s, .int .i64 k] 38)
      have hf2 := HF.out.alloc (.cells #[.int .i64 s, .int .i64 k] 38)
      have hsz : (ws.alloc (.cells #[.int .i64 s, .int .i64 k] 38)).heap.size = ws.heap.size + 1 := by simp
      have ho2 := HO.out.alloc (.cells #[.int .i64 s, .int .i64 k] 38)
      go_upto_region 6 with (fail)
      generalize hw2 : ws.alloc (.cells #[.int .i64 s, .int .i64 k] 38) = w2
      rw [hw2] at hkb hf2 hsz ho2
      have HO2 := Hd.mk ho2
      have HF2 := Hd.mk hf2
      have HKB := Hd.mk hkb
      have c0 := blk_cell hkb 0
      have c1 := blk_cell hkb 1
      simp only [List.getElem?_toArray, List.getElem?_cons_zero, List.getElem?_cons_succ] at c0 c1
      have hown : Hd (∀ y, (Value.slice A' m d).ownBlock = some y → y ≠ ws.heap.size) := ⟨fun y hy => by have := own_lt HO.out hy; omega⟩
      clear hkb hf2 ho2 hw2 ca ca1
      obtain ⟨q, hq⟩ : ∃ q, q = decide (okRef out s k) := ⟨_, rfl⟩
      have HQ := Hd.mk hq
      clear hq
      go_cut [52] from 19 to 53 (fun s52 wd => ∃ nq, s52 = .bool (!q) ∧ wd = w2.drewN nq)
      case first =>
        by_cases h2 : s < 0
        · obtain rfl : q = false := by rw [HQ.out]; exact decide_eq_false (fun h => by have := h.1; omega)
          go_quiet (fail)
          go_wp2
          go_meet
          exact ⟨_, rfl, rfl⟩
        by_cases h3 : 18 < s
        · obtain rfl : q = false := by rw [HQ.out]; exact decide_eq_false (fun h => by have := h.2.1; omega)
          go_quiet (fail)
          go_wp2
          go_meet
          exact ⟨_, rfl, rfl⟩
        obtain ⟨L, hL⟩ : ∃ L, L = leastN s := ⟨_, rfl⟩
        obtain ⟨M, hM⟩ : ∃ M, M = mostN s := ⟨_, rfl⟩
        have HLQ := Hd.mk hL
        have HMQ := Hd.mk hM
        clear hL hM
        by_cases h4 : k < L
        · obtain rfl : q = false := by rw [HQ.out]; exact decide_eq_false (fun h => by have := h.2.2.1; have := HLQ.out; omega)
          go_quiet ((first | (go_at_call 43; exact quiet_left (least_eq _ s L (by omega) HLQ.out)) | (go_at_call 44; exact quiet_left (greatest_eq _ s M (by omega) HMQ.out))))
          go_wp2
          go_meet
          exact ⟨_, rfl, rfl⟩
        by_cases h5 : M < k
        · obtain rfl : q = false := by rw [HQ.out]; exact decide_eq_false (fun h => by have := h.2.2.2.1; have := HMQ.out; omega)
          go_quiet ((first | (go_at_call 43; exact quiet_left (least_eq _ s L (by omega) HLQ.out)) | (go_at_call 44; exact quiet_left (greatest_eq _ s M (by omega) HMQ.out))))
          go_wp2
          go_meet
          exact ⟨_, rfl, rfl⟩
        by_cases h16 : s = 16
        · subst h16
          by_cases hn0 : m = 0
          · subst hn0
            obtain rfl : q = false := by rw [HQ.out]; exact decide_eq_false (fun h => h.2.2.2.2 ⟨rfl, hm⟩)
            go_quiet ((first | (go_at_call 43; exact quiet_left (least_eq _ 16 L (by omega) HLQ.out)) | (go_at_call 44; exact quiet_left (greatest_eq _ 16 M (by omega) HMQ.out))))
            go_wp2
            go_meet
            exact ⟨_, rfl, rfl⟩
          · have hnb : ((m : Int) == 0) = false := by simp; omega
            obtain rfl : q = true := by rw [HQ.out]; exact decide_eq_true ⟨by omega, by omega, by have := HLQ.out; omega, by have := HMQ.out; omega, fun h => by omega⟩
            go_quiet ((first | (go_at_call 43; exact quiet_left (least_eq _ 16 L (by omega) HLQ.out)) | (go_at_call 44; exact quiet_left (greatest_eq _ 16 M (by omega) HMQ.out))))
            go_wp2
            go_meet
            exact ⟨_, rfl, rfl⟩
        · have hsb : (s == 16) = false := by simpa using h16
          obtain rfl : q = true := by rw [HQ.out]; exact decide_eq_true ⟨by omega, by omega, by have := HLQ.out; omega, by have := HMQ.out; omega, fun h => by omega⟩
          go_quiet ((first | (go_at_call 43; exact quiet_left (least_eq _ s L (by omega) HLQ.out)) | (go_at_call 44; exact quiet_left (greatest_eq _ s M (by omega) HMQ.out))))
          go_wp2
          go_meet
          exact ⟨_, rfl, rfl⟩
      case rest =>
        obtain ⟨nq, rfl, rfl⟩ := hcut
        cases q with
        | false =>
          have hno : Hd (lensF rs [] = none) := ⟨by rw [HL.out, HLL.out, if_neg (fun h => of_decide_eq_false HQ.out.symm (okRef_of h))]⟩
          go_wp2
          go_ret2
          exact ⟨none, 0, 0, by rw [HEC.out, hno.out]; rfl, by rw [HLS.out, hno.out]; exact own_nil _ _ _ _, (by intro j hj; cases hj), HF2.out.drewN _⟩
        | true =>
          have HO3 : Hd ((w2.drewN nq).ownsRow 0 3 1 (.slice A' m d) m (i64s out)) := ⟨HO2.out⟩
          have HF3 := Hd.mk (HF2.out.drewN nq)
          have HKB3 : Hd ((w2.drewN nq).heap[ws.heap.size]? = some (.cells #[.int .i64 s, .int .i64 k] 38 (0, 0))) := ⟨HKB.out⟩
          have hsz3 : (w2.drewN nq).heap.size = ws.heap.size + 1 := hsz
          clear HO2 HF2 HKB c0 c1 hsz
          generalize w2.drewN nq = w3 at *
          have hq := of_decide_eq_true HQ.out.symm
          obtain ⟨hs0, hs1, hk0, hk1, h5⟩ := hq
          have := leastN_pos s
          have := mostN_le s
          obtain ⟨k, rfl⟩ := Int.eq_ofNat_of_zero_le (show 0 ≤ k by omega)
          have hk138 : k ≤ 138 := by omega
          obtain ⟨v, hv⟩ : ∃ v, v = runVal out s := ⟨_, rfl⟩
          have HV := Hd.mk hv
          have H5 := Hd.mk h5
          have HK0 := Hd.mk hk0
          have HK1 := Hd.mk hk1
          clear hv h5 hk0 hk1
          have c0 := blk_cell HKB3.out 0
          have c1 := blk_cell HKB3.out 1
          simp only [List.getElem?_toArray, List.getElem?_cons_zero, List.getElem?_cons_succ] at c0 c1
          obtain ⟨v1, hv1⟩ : ∃ v1, v1 = if s = 16 then out.getD (out.length - 1) 0 else s := ⟨_, rfl⟩
          have HV1 := Hd.mk hv1
          have HVV : Hd (v = if 15 < v1 then 0 else v1) := ⟨by rw [HV.out, hv1]; exact runVal_two H15.out H5.out⟩
          clear hv1
          go_upto_if 56 with (fail)
          go_cut [7] from 57 to 63 (fun s7 wd => s7 = .int .i64 v1 ∧ wd = w3)
          case first =>
            by_cases h16 : s = 16
            · subst h16
              have hn0 : 0 < m := by have := H5.out; omega
              obtain ⟨m1, rfl⟩ : ∃ m1, m = m1 + 1 := ⟨m - 1, by omega⟩
              obtain ⟨a3, c', e, _⟩ := own_some HO3.out (by omega)
              injection e with e _ e'
              subst e e'
              have ca := HO3.out.cellAt m1 (by omega)
              have hvx : out[m1]? = some v1 := by
                rw [List.getElem?_eq_getElem (by omega), HV1.out, if_pos rfl, show out.length - 1 = m1 from by omega, List.getD_eq_getElem?_getD, List.getElem?_eq_getElem (by omega)]
                rfl
              rw [i64s_get, hvx] at ca
              simp only [Option.map_some] at ca
              clear hvx
              go_wp2
              go_meet
              exact ⟨rfl, rfl⟩
            · have hsb : (s == 16) = false := by simpa using h16
              obtain rfl : v1 = s := by rw [HV1.out, if_neg h16]
              go_wp2
              go_meet
              exact ⟨rfl, rfl⟩
          case rest =>
            obtain ⟨rfl, rfl⟩ := hcut
            go_upto_if 64 with (fail)
            go_cut [7] from 65 to 65 (fun s7 wd => s7 = .int .i64 v ∧ wd = wc)
            case first =>
              by_cases h15 : 15 < v1
              · obtain rfl : v = 0 := by rw [HVV.out, if_pos h15]
                go_wp2
                go_meet
                exact ⟨rfl, rfl⟩
              · obtain rfl : v = v1 := by rw [HVV.out, if_neg h15]
                go_wp2
                go_meet
                exact ⟨rfl, rfl⟩
            case rest =>
              obtain ⟨rfl, rfl⟩ := hcut
              go_wp2
              obtain ⟨wb, rfl⟩ : ∃ wb : World, wb = wc := ⟨_, rfl⟩
              clear c0 c1
              go_loopg [4, 8] k (fun kq sv iv wr => ∃ (i : Nat) (A4 : Option Addr) (m4 d4 : Nat), sv = .slice A4 m4 d4 ∧ iv = .int .i64 (i : Nat) ∧ i + kq = k ∧ m4 ≤ 500 ∧ Hd (m4 = m + i) ∧ Hd (wr.ownsRow 0 3 1 (.slice A4 m4 d4) m4 (i64s (out ++ List.replicate i v))) ∧ Hd (Aft wb (Value.slice A' m d).ownBlock (Value.slice A4 m4 d4).ownBlock) ∧ Hd (Fr wb wr (Value.slice A' m d).ownBlock.toList))
              case atStart => exact ⟨0, A', m, d, rfl, rfl, by omega, by omega, ⟨rfl⟩, ⟨by simpa using HO3.out⟩, ⟨Aft.refl _ _⟩, ⟨Fr.refl _ _⟩⟩
              case round =>
                obtain ⟨i, A4, m4, d4, rfl, rfl, hi, hm4, HM4, HO4, HA4, HF4⟩ := hrel
                have hkb := HF4.out.blk HKB3.out (fun hm => hown.out ws.heap.size (by simpa using hm) rfl)
                have c1 := blk_cell hkb 1
                simp only [List.getElem?_toArray, List.getElem?_cons_zero, List.getElem?_cons_succ] at c1
                clear hkb
                by_cases h7 : i < k
                · have h6 : m4 ≤ 458 := by have := HM4.out; omega
                  go_wp2_with (at_builtin; refine wpList_append_sl rfl (.tmp 71) (.tmp 73) 22 rfl 3 j0 (.int .i64 0) 1 8 Try.underlying22 hj0 hj1 hj2 hj3 rfl (by decide) (.slice A4 m4 d4) m4 _ rfl (by exact HO4.out.alloc _) (some ⟨wr.heap.size, 0, none⟩) 1 1 [.int .i64 v] (some wr.heap.size) rfl rfl (by exact sl_of_blk (blk_new _ _)) (by intro h; cases h) (by intro u hu; simp at hu; rcases hu with rfl; rfl) (by unfold maxLen; omega) (by omega) ?_; intro A3 d3 w4 hown' hgrow haft; have O3 := Hd.mk hown'; have G3 := Hd.mk hgrow; have F3 := Hd.mk haft; clear hown' hgrow haft)
                  go_roundg (gk - 1)
                  case measure => omega
                  case rel =>
                    refine ⟨i + 1, A3, m4 + 1, d3, rfl, by go_num, by omega, by omega, ⟨by have := HM4.out; omega⟩, ⟨by
                      rw [List.replicate_succ', ← List.append_assoc, i64s_app _ [v]]
                      exact O3.out⟩, ⟨HA4.out.trans (aft_alloc F3.out) HF4.out.size⟩, ⟨(HF4.out.alloc _).grown G3.out (fun y hy => HA4.out.mem (k := y) (by simp [hy]))⟩⟩
                · obtain rfl : i = k := by omega
                  have F5 : Hd (Fr w wr []) := ⟨HF3.out.trans HF4.out (fun y hy hm => by have := HB.out y (by simpa using hm); omega)⟩
                  have B5 : Hd (∀ y, (Value.slice A4 m4 d4).ownBlock = some y → w.heap.size ≤ y) := ⟨fun y hy => by
                    rcases HA4.out with h | ⟨z, h, hz⟩
                    · rw [h] at hy; exact HB.out y hy
                    · rw [h] at hy; cases hy; exact Nat.le_trans HF3.out.size hz⟩
                  have hl4 : (out ++ List.replicate i v).length = m4 := by have := HM4.out; simp; omega
                  by_cases h8 : 320 < m4
                  · have hno : Hd (lensF rs [] = none) := ⟨by rw [HL.out, HLL.out, if_neg (fun h => by have := h.2.2.2.2.2; have := HM4.out; omega)]⟩
                    go_wp2
                    go_ret2
                    exact ⟨none, 0, 0, by rw [HEC.out, hno.out]; rfl, by rw [HLS.out, hno.out]; exact own_nil _ _ _ _, (by intro j hj; cases hj), F5.out⟩
                  · have hyes : Hd (lensF rs [] = lensF (rs.drop (j + 1)) (out ++ List.replicate i v)) := ⟨by
                      rw [HL.out, HLL.out, if_pos ⟨hs0, hs1, HK0.out, HK1.out, H5.out, by have := HM4.out; omega⟩, HV.out]; rfl⟩
                    go_wp2
                    go_roundg (gx - 1)
                    case measure => omega
                    case rel =>
                      refine ⟨j + 1, A4, m4, d4, _, rfl, by go_num, by omega, hl4, by omega, HO4, hyes, ⟨fun x hx => ?_⟩, B5, F5⟩
                      rcases List.mem_append.1 hx with h | h
                      · exact H15.out x h
                      · rw [(List.mem_replicate.1 h).2, HV.out]; exact runVal_le H15.out
    · obtain rfl : j = rs.length := by omega
      have hso : Hd (lensF rs [] = some out) := ⟨by rw [HL.out, List.drop_length]; rfl⟩
      go_wp2
      go_ret2
      exact ⟨A', m, d, by rw [HEC.out, hso.out]; rfl, by rw [HLS.out, hso.out]; exact HO.out, HB.out, HF.out⟩
end Go.Proofs.Ytofajcifjmhomaa.Head
