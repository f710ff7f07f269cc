/- Chapter 08: newPlan walked. No condition. -/
import Derived.Test.YtofajcifjmhomaaHeadPlanB
set_option linter.unusedVariables false
set_option linter.unusedSimpArgs false
set_option maxRecDepth 100000
namespace Go.Proofs.Ytofajcifjmhomaa.Head
open Go.RowKit Go.Proofs.Ytofajcifjmhomaa.Lib Go.Proofs.Ytofajcifjmhomaa.Ints Go.Proofs.Ytofajcifjmhomaa.Runs
/-- a plan: how many are told of both, the runs, the lengths of their code -/
structure Plan (w0 w : World) (lit dist : List Int) (A : Option Addr) (n c : Nat) (B : Option Addr) (d : Nat) : Prop where
  runs : w.ownsRow 0 35 2 (.slice A n c) n (cells (hruns lit dist))
  lens : w.ownsRow 0 3 1 (.slice B 19 d) 19 (i64s (hlens (hruns lit dist)))
  newA : ∀ k, (Value.slice A n c).ownBlock = some k → w0.heap.size ≤ k
  newB : ∀ k, (Value.slice B 19 d).ownBlock = some k → w0.heap.size ≤ k
theorem Plan.frame {w0 w w' : World} {lit dist : List Int} {A B : Option Addr} {n c d : Nat} (h : Plan w0 w lit dist A n c B d) (hf : Fr w w' []) : Plan w0 w' lit dist A n c B d :=
  ⟨own_frame h.runs hf (by simp), own_frame h.lens hf (by simp), h.newA, h.newB⟩
def planC (lit dist : List Int) (A : Option Addr) (n c : Nat) (B : Option Addr) (d : Nat) : Array Value :=
  #[.int .i64 ((cutL lit 257).length : Nat), .int .i64 ((distL dist).length : Nat), .slice A n c, .slice B 19 d, .int .i64 (toldN (hlens (hruns lit dist)) 19 : Nat)]
def noPlan : Array Value := #[.int .i64 0, .int .i64 0, .slice none 0 0, .slice none 0 0, .int .i64 0]
def PlanPost (w : World) (lit dist : List Int) (e : Ending) (w' : World) : Prop :=
  (okH lit dist = true → ∃ A n c B d, e = .returned (.tuple #[.agg (planC lit dist A n c B d), .int .i64 0]) ∧ Plan w w' lit dist A n c B d ∧ Fr w w' []) ∧
  (okH lit dist = false → e = .returned (.tuple #[.agg noPlan, .int .i64 80]) ∧ Fr w w' [])
theorem planInfo : (Try.prog.info? 109).map (·.size) = some 5 := by kernel_rfl
theorem results_pt {fn : Func} {p q : Tmp} (h : fn.results = #[.cell p 109, .tmp q]) (tmps : Array Value) (w : World) (g : Nat) (cs : Array Value)
    (hp : tmps.getD p undef = .pointer (some ⟨g, 0, none⟩)) (hg : w.heap[g]? = some (.cells cs 109 (0, 0))) (hc : cs.size = 5) (v : Value) (hv : tmps.getD q undef = v) :
    (results fn tmps).run Try.prog w = .ok (.tuple #[.agg cs, v]) w := by
  have hp' : tmps[p]?.getD undef = .pointer (some ⟨g, 0, none⟩) := by simpa using hp
  have hv' : tmps[q]?.getD undef = v := by simpa using hv
  simp [results, h, hp', hv', asAddr, run_loadVar_row w g 109 109 cs _ _ hg Try.underlying109 rfl (by rw [hc]; exact planInfo)]
set_option maxHeartbeats 8000000 in
theorem newPlan_any (w : World) (A B : Option Addr) (n c m d : Nat) (lit dist : List Int) (p q : Option Nat) (hX : SlArg w A n c (i64s lit) p) (hY : SlArg w B m d (i64s dist) q) :
    Calls Try.prog 53 #[.slice A n c, .slice B m d] w (PlanPost w lit dist) := by
  obtain ⟨j0, hj0, hj1, hj2, hj3⟩ := info_parts infoI64
  have hn : lit.length = n := by have := hX.len; simpa [i64s] using this
  have hm : dist.length = m := by have := hY.len; simpa [i64s] using this
  have HX := Hd.mk hX
  have HY := Hd.mk hY
  clear hX hY
  obtain ⟨b, hb⟩ : ∃ b, b = okH lit dist := ⟨_, rfl⟩
  have HB := Hd.mk hb
  go_enter Try.func53, Try.ntmps53
  go_wp2_with (fail)
  have A0 := (Fr.refl w []).alloc (.cells noPlan 109)
  have K0 := Hd.mk (blk_new w (.cells noPlan 109))
  refine (can_any (w.alloc (.cells noPlan 109)) A B n c m d lit dist p q (HX.out.frame A0 (by simp)) (HY.out.frame A0 (by simp)) b hb).mono ?_
  rintro e w1 ⟨rfl, h1⟩
  have K1 := Hd.mk (h1.blk K0.out (by simp))
  have F1 := Hd.mk (A0.trans h1 (by simp))
  have hg0 : w.heap.size ≤ w.heap.size := Nat.le_refl _
  obtain ⟨g, hg⟩ : ∃ g, g = w.heap.size := ⟨_, rfl⟩
  rw [← hg] at K1 hg0 ⊢
  have hgw : w.heap.size ≤ g := by omega
  clear K0 A0 h1 hg hb hg0
  cases b with
  | false =>
    go_wp2_with (refine wpList_store_row rfl 109 _ _ rfl g noPlan rfl rfl 109 _ (by exact K1.out) (by kernel_rfl) (by kernel_rfl) (by kernel_rfl) ?_)
    refine bodyPost_ret (results_pt rfl _ _ g noPlan rfl (setRow_heap _ _ _ _ _ _ K1.out) rfl _ rfl) rfl ?_
    exact ⟨fun h => absurd h (by rw [← HB.out]; decide), fun _ => ⟨rfl, Code.Fr.setRow F1.out _ (.inr hgw)⟩⟩
  | true =>
    obtain ⟨o1, o2, o3, o4, o5, o6⟩ := okH_parts HB.out.symm
    obtain ⟨a1, a2, a3, a4⟩ := allL_ok HB.out.symm
    have HV := Hd.mk a1
    obtain ⟨r1, r2, r3⟩ := hruns_ok HB.out.symm
    have HR := Hd.mk (And.intro r1 r3)
    obtain ⟨ka, hka⟩ : ∃ k, k = cutN lit 257 n := ⟨_, rfl⟩
    obtain ⟨kb, hkb⟩ : ∃ k, k = cutN dist 1 m := ⟨_, rfl⟩
    have KA := Hd.mk hka
    have KB := Hd.mk hkb
    clear a1 o4 o5 o6 r1 r3 hka hkb
    go_wp2_with (fail)
    refine (cut_any w1 A n c lit p (HX.out.frame F1.out (by simp)) 257 (by omega) ka KA.out).mono ?_
    rintro e w2 ⟨rfl, rfl⟩
    go_wp2_with (fail)
    refine (cut_any w1 B m d dist q (HY.out.frame F1.out (by simp)) 1 (by omega) kb KB.out).mono ?_
    rintro e w2 ⟨rfl, rfl⟩
    have la : (cutL lit 257).length = ka := by rw [cutL_len, hn, KA.out]
    have lb : (cutL dist 1).length = kb := by rw [cutL_len, hm, KB.out]
    have hkan : ka ≤ n := by rw [KA.out]; exact cutN_le _ _ _
    have hkbm : kb ≤ m := by rw [KB.out]; exact cutN_le _ _ _
    have XA : Hd (Sl w1 A (i64s (cutL lit 257)) p) := ⟨by have := (HX.out.sl.frame F1.out (by simp)).take ka; unfold cutL; rw [hn, ← KA.out]; simpa [i64s, List.map_take] using this⟩
    have XB : Hd (Sl w1 B (i64s (cutL dist 1)) q) := ⟨by have := (HY.out.sl.frame F1.out (by simp)).take kb; unfold cutL; rw [hm, ← KB.out]; simpa [i64s, List.map_take] using this⟩
    have NA : Hd (A = none → n = 0 ∧ c = 0) := ⟨HX.out.nil⟩
    have NB : Hd (B = none → m = 0 ∧ d = 0) := ⟨HY.out.nil⟩
    obtain ⟨kd, hkd⟩ : ∃ k, k = (distL dist).length := ⟨_, rfl⟩
    have hkd2 := distL_len dist (by omega)
    rw [← hkd] at hkd2
    have HKD : Hd (distL dist = if kb = 0 then [0] else cutL dist 1) := ⟨by unfold distL; rw [lb]⟩
    go_upto_if 30 with (fail)
    go_cut [7] from 31 to 36 (fun s7 wc => ∃ (B' : Option Addr) (d' : Nat) (q' : Option Nat), s7 = .slice B' kd d' ∧ Hd (Sl wc B' (i64s (distL dist)) q') ∧ Hd (B' = none → kd = 0 ∧ d' = 0) ∧ Hd (Fr w1 wc []))
    case first =>
      by_cases h0 : kb = 0
      · have hz : distL dist = [0] := by rw [HKD.out, if_pos h0]
        have HZ := Hd.mk hz
        obtain rfl : kd = 1 := by rw [hkd, hz]; rfl
        have hkb0 : ((kb : Int) == 0) = true := by simp; omega
        clear hz hkd HX XA NA
        go_wp2
        go_meet
        case rel => exact ⟨_, 1, some w1.heap.size, rfl, ⟨by rw [HZ.out]; exact sl_of_blk (blk_new w1 _)⟩, ⟨fun h => by cases h⟩, ⟨(Fr.refl w1 []).alloc _⟩⟩
      · have hz : distL dist = cutL dist 1 := by rw [HKD.out, if_neg h0]
        obtain rfl : kd = kb := by rw [hkd, hz, lb]
        have HZ := Hd.mk hz
        have hkb0 : ((kd : Int) == 0) = false := by simp; omega
        clear hz hkd HX XA NA
        go_wp2
        go_meet
        case rel => exact ⟨B, d, q, rfl, ⟨by rw [HZ.out]; exact XB.out⟩, ⟨fun h => by have := NB.out h; omega⟩, ⟨Fr.refl w1 []⟩⟩
    case rest =>
      obtain ⟨B', d', q', rfl, XB2, NB2, FC⟩ := hcut
      have F2 := Hd.mk (F1.out.trans FC.out (by simp))
      have K2 := Hd.mk (FC.out.blk K1.out (by simp))
      have XA2 := Hd.mk (XA.out.frame FC.out (by simp))
      have HKL : Hd (distL dist = distL dist ∧ kd = (distL dist).length) := ⟨⟨rfl, hkd⟩⟩
      have HLA : Hd ((cutL lit 257).length = ka) := ⟨la⟩
      have HAD : Hd (allL lit dist = cutL lit 257 ++ distL dist) := ⟨rfl⟩
      have hka2 : ka ≤ 286 := by omega
      clear FC XA XB HY HKD KA KB NB K1 F1 la lb hkd a3 a4
      go_wp2_with (first
        | (at_builtin; refine wpList_append_sl rfl (.const (.slice none 0 0)) (.tmp 32) 22 rfl 3 j0 (.int .i64 0) 1 8 Try.underlying22 hj0 hj1 hj2 hj3 rfl (by decide) (.slice none 0 0) 0 [] rfl (own_nil _ _ _ _) A ka c _ _ rfl (by rw [i64s_length, HLA.out]; omega) XA2.out (by intro h; have := NA.out h; omega) (i64s_one _) (by unfold maxLen; omega) (by omega) ?_; intro A3 c3 w3 hown3 hgrow3 haft3; rw [Nat.zero_add] at hown3 haft3; have O3 := Hd.mk hown3; have G3 := Hd.mk hgrow3; have AF3 := Hd.mk haft3; clear hown3 hgrow3 haft3; rw [Nat.zero_add])
        | (at_builtin; refine wpList_append_sl rfl (.tmp 33) (.tmp 34) 22 rfl 3 j0 (.int .i64 0) 1 8 Try.underlying22 hj0 hj1 hj2 hj3 rfl (by decide) (.slice A3 ka c3) ka _ rfl O3.out B' kd d' (i64s (distL dist)) q' rfl (by rw [i64s_length, HKL.out.2]; omega) (XB2.out.frame ((Fr.refl wc []).grown G3.out (fun k hk => by simp [Value.ownBlock] at hk)) (by simp)) NB2.out (i64s_one _) (by unfold maxLen; omega) (by omega) ?_; intro A4 c4 w4 hown4 hgrow4 haft4; have O4 := Hd.mk hown4; have G4 := Hd.mk hgrow4; have AF4 := Hd.mk haft4; clear hown4 hgrow4 haft4))
      have B3 : ∀ k, (Value.slice A3 ka c3).ownBlock = some k → wc.heap.size ≤ k := fun k hk => by
        rcases AF3.out with e | ⟨j, e, hj⟩
        · rw [hk] at e; simp [Value.ownBlock] at e
        · rw [hk] at e; cases e; exact hj
      have K3 := blk_grown G3.out K2.out (by simp [Value.ownBlock])
      have K4 := Hd.mk (blk_grown G4.out K3 (own_ne O3.out K3 (by decide)).symm)
      have F4 : Hd (Fr w w4 []) := ⟨(F2.out.grown G3.out (fun k hk => by simp [Value.ownBlock] at hk)).grown G4.out (fun k hk => .inr (by have := B3 k hk; have := F2.out.size; omega))⟩
      have L4 : Hd (allL lit dist = allL lit dist ∧ ka + kd = (allL lit dist).length) := ⟨rfl, by unfold allL; rw [List.length_append, HLA.out, HKL.out.2]⟩
      have S4 : Hd (SlArg w4 A4 (ka + kd) c4 (i64s (allL lit dist)) (Value.slice A4 (ka + kd) c4).ownBlock) := ⟨by
        have h1 := O4.out
        rw [List.nil_append, ← i64s_app, ← HAD.out] at h1
        obtain ⟨A', c', e1, h2, h3, _⟩ := own_slice h1
        injection e1 with e1 _ e3
        subst e1 e3
        exact ⟨by have := h1.1; omega, h2, h3, fun hA => own_none h1 hA, sl_of_own h1, fun b hb => own_lt h1 hb⟩⟩
      have hkd3 : 1 ≤ kd ∧ kd ≤ 30 := hkd2
      clear B3 K3 K2 F2 O3 G3 AF3 O4 G4 AF4 XA2 XB2 NB2 HX NA HAD
      refine (runs_any w4 A4 (ka + kd) c4 (allL lit dist) _ L4.out.2.symm S4.out.le S4.out.sl S4.out.nil (by omega) 0 (hruns lit dist) (by rw [HR.out.2]; rfl) (by rw [HR.out.2]; rfl)).mono ?_
      rintro e w5 ⟨A5, n5, c5, rfl, h1, h2, h3⟩
      have hn5 : n5 = (hruns lit dist).length := by have := h1.1; rw [cells_len] at this; omega
      have O5 := Hd.mk h1
      have NW5 : Hd (∀ k, (Value.slice A5 n5 c5).ownBlock = some k → w.heap.size ≤ k) := ⟨fun k hk => by have := h2 k hk; have := F4.out.size; omega⟩
      have F5 := Hd.mk (F4.out.trans h3 (by simp))
      have K5 := Hd.mk (h3.blk K4.out (by simp))
      clear h1 h2 h3 S4 K4 F4 L4
      obtain ⟨rs, hrs⟩ : ∃ rs, rs = hruns lit dist := ⟨_, rfl⟩
      rw [← hrs] at O5 HR r2 hn5
      have HRS := Hd.mk hrs
      clear hrs
      go_upto_region 9 with (fail)
      rw [freq_zero]
      have Z0 := Hd.mk (blk_new w5 (.cells (i64s (freqOf [])).toArray 47))
      have A6 := (Fr.refl w5 []).alloc (.cells (i64s (freqOf [])).toArray 47)
      have O6 := Hd.mk (own_frame O5.out A6 (by simp))
      have F6 := Hd.mk (F5.out.trans A6 (by simp))
      have K6 := Hd.mk (A6.blk K5.out (by simp))
      have hgf : w.heap.size ≤ w5.heap.size := F5.out.size
      generalize w5.alloc (.cells (i64s (freqOf [])).toArray 47) = w6 at *
      generalize w5.heap.size = gf at *
      clear A6 O5 F5 K5
      have hnA : Hd (∀ k, (Value.slice A5 n5 c5).ownBlock = some k → k ≠ gf) := ⟨fun k hk => by
        obtain ⟨cs, hcs⟩ := own_type O6.out hk
        exact blk_ne hcs Z0.out (by decide)⟩
      have hgg : g ≠ gf := blk_ne K6.out Z0.out (by decide)
      go_wp2
      go_loopg [43] n5 (fun kq jv wr => ∃ j : Nat, jv = .int .i64 (j : Nat) ∧ j + kq = n5 ∧ Hd (wr.heap[gf]? = some (.cells (i64s (freqOf (rs.take j))).toArray 47 (0, 0))) ∧ Hd (wr.ownsRow 0 35 2 (.slice A5 n5 c5) n5 (cells rs)) ∧ Hd (wr.heap[g]? = some (.cells noPlan 109 (0, 0))) ∧ Hd (Fr w wr []))
      case atStart => exact ⟨0, rfl, by omega, Z0, O6, K6, F6⟩
      case round =>
        obtain ⟨j, rfl, hj, HZ, HO, HK, HF⟩ := hrel
        by_cases hjn : j < n5
        · have hjr : j < rs.length := by omega
          obtain ⟨a, o1', e1, _, hcc⟩ := Sl.row (enc := enc) (sz := 2) (fun _ => rfl) (sl_of_own2 HO.out (by omega)) hjr (by decide)
          subst e1
          obtain ⟨r, hr⟩ : ∃ r, r = rs[j] := ⟨_, rfl⟩
          rw [← hr] at hcc
          have hrb := HR.out.1 r (by rw [hr]; exact List.getElem_mem hjr)
          have c0 := hcc 0 (by decide)
          have c1 := hcc 1 (by decide)
          have HTK : Hd (rs.take (j + 1) = rs.take j ++ [r]) := ⟨by rw [List.take_succ_eq_append_getElem hjr, hr]⟩
          obtain ⟨rsym, rcnt⟩ := r
          obtain ⟨hb1, hb2, _⟩ := hrb
          simp only at hb1 hb2
          obtain ⟨s, rfl⟩ := Int.eq_ofNat_of_zero_le hb1
          simp only [enc, List.getElem?_cons_zero, List.getElem?_cons_succ, Nat.add_zero] at c0 c1
          have bz := blk_alloc HZ.out (.cells #[.int .i64 (s : Nat), .int .i64 rcnt] 35)
          have k0 : (wr.alloc (.cells #[.int .i64 (s : Nat), .int .i64 rcnt] 35)).cell? ⟨gf, s, none⟩ = some (.int .i64 (freqF (rs.take j) s : Nat)) := by rw [blk_cell bz s, List.getElem?_toArray]; exact freq_get _ (by omega)
          have kf := blk_frozen bz s
          have hfb := freqF_le (rs.take j) s
          rw [List.length_take] at hfb
          have HZ2 := Hd.mk (blk_set bz s (.int .i64 ((freqF (rs.take j) s : Nat) + 1 : Int)))
          rw [freq_set (rs.take j) ((s : Int), rcnt) (by omega) rfl, ← HTK.out] at HZ2
          have HO2 := Hd.mk (own_setFar (own_frame HO.out ((Fr.refl wr []).alloc (.cells #[.int .i64 (s : Nat), .int .i64 rcnt] 35)) (by simp)) (a := ⟨gf, s, none⟩) (.int .i64 ((freqF (rs.take j) s : Nat) + 1 : Int)) (fun h => hnA.out _ h rfl))
          have HK2 := Hd.mk (blk_far (blk_alloc HK.out (.cells #[.int .i64 (s : Nat), .int .i64 rcnt] 35)) (p := ⟨gf, s, none⟩) hgg (.int .i64 ((freqF (rs.take j) s : Nat) + 1 : Int)))
          clear bz
          generalize freqF (rs.take j) s = fq at *
          clear hcc hr
          go_wp2
          go_roundg (gk - 1)
          case measure => omega
          case rel => exact ⟨j + 1, by go_num, by omega, HZ2, HO2, HK2, ⟨(HF.out.alloc _).setCell _ (.inr hgf)⟩⟩
        · obtain rfl : j = n5 := by omega
          have hz7 := HZ.out
          rw [List.take_of_length_le (by omega)] at hz7
          have Z7 := Hd.mk hz7
          have HE := Hd.mk (hlens_eq (rs := rs) (by omega))
          have HLN := Hd.mk (hlens_le (rs := rs) (by omega))
          have SF : Hd (Sl wr (some ⟨gf, 0, none⟩) (i64s (freqOf rs)) (some gf)) := ⟨by have := sl_of_blk hz7; simpa using this⟩
          clear hz7 HZ Z0 K6 O6 F6
          go_wp2_with (fail)
          refine (Lens.lengths_any wr 7 (some ⟨gf, 0, none⟩) 19 19 (freqOf rs) _ (freqOf_len rs) SF.out (by omega)).mono ?_
          rintro e w8 hlp
          unfold Lens.LensPost at hlp
          obtain ⟨A8, n8, c8, rfl, h1, h2, h3⟩ := hlp
          rw [HE.out.1] at h1 ⊢
          rw [← HE.out.2] at h1
          have hn8 : n8 = 19 := by have := h1.1; rw [i64s_length, hlens_len (by omega)] at this; omega
          subst hn8
          have O8 := Hd.mk h1
          have NW8 : Hd (∀ k, (Value.slice A8 19 c8).ownBlock = some k → w.heap.size ≤ k) := ⟨fun k hk => by have := h2 k hk; have := HF.out.size; omega⟩
          have F8 := Hd.mk (HF.out.trans h3 (by simp))
          have K8 := Hd.mk (h3.blk HK.out (by simp))
          have OA8 := Hd.mk (own_frame HO.out h3 (by simp))
          clear h1 h2 h3 HF HK HO Z7 SF
          simp only
          obtain ⟨hl, hhl⟩ : ∃ hl, hl = hlens rs := ⟨_, rfl⟩
          rw [← hhl] at O8 HLN
          have HHL := Hd.mk hhl
          have hl19 : hl.length = 19 := by rw [hhl]; exact hlens_len (by omega)
          clear hhl HE
          have o8' := O8.out
          simp only at o8'
          have O8' := Hd.mk o8'
          subst hn5
          clear o8' O8
          go_upto_region 16 with (fail)
          obtain ⟨pc, hpc⟩ : ∃ pc : Nat → Array Value, pc = fun t => #[.int .i64 (ka : Nat), .int .i64 (kd : Nat), .slice A5 rs.length c5, .slice A8 19 c8, .int .i64 (t : Nat)] := ⟨_, rfl⟩
          have B9 : Hd ((w8.alloc (.cells #[.int .i64 (ka : Nat), .int .i64 (kd : Nat), .slice A5 rs.length c5, .slice A8 19 c8, .int .i64 4] 109)).heap[w8.heap.size]? = some (.cells (pc 4) 109 (0, 0))) := ⟨by rw [hpc]; exact blk_new w8 _⟩
          have A9 := (Fr.refl w8 []).alloc (.cells #[.int .i64 (ka : Nat), .int .i64 (kd : Nat), .slice A5 rs.length c5, .slice A8 19 c8, .int .i64 4] 109)
          have O9 := Hd.mk (own_frame O8'.out A9 (by simp))
          have OA9 := Hd.mk (own_frame OA8.out A9 (by simp))
          have K9 := Hd.mk (A9.blk K8.out (by simp))
          have F9 := Hd.mk (F8.out.trans A9 (by simp))
          have hgp : w.heap.size ≤ w8.heap.size := F8.out.size
          have hgp2 : g ≠ w8.heap.size := by have := blk_lt K8.out; omega
          have HPC := Hd.mk hpc
          clear A9 O8' OA8 K8 F8 hpc
          generalize w8.alloc (.cells #[.int .i64 (ka : Nat), .int .i64 (kd : Nat), .slice A5 rs.length c5, .slice A8 19 c8, .int .i64 4] 109) = w9 at *
          generalize w8.heap.size = gp at *
          have HPS : Hd (∀ t u : Nat, (pc t).setIfInBounds 4 (.int .i64 (u : Nat)) = pc u) := ⟨fun t u => by rw [HPC.out]; rfl⟩
          have HP4 : Hd (∀ t : Nat, (pc t)[4]? = some (.int .i64 (t : Nat))) := ⟨fun t => by rw [HPC.out]; rfl⟩
          go_wp2_with (fail)
          refine (order_any w9).mono ?_
          rintro e w10 ⟨rfl, h1⟩
          have B10 := Hd.mk (h1.blk B9.out (by simp))
          have K10 := Hd.mk (h1.blk K9.out (by simp))
          have O10 := Hd.mk (own_frame O9.out h1 (by simp))
          have OA10 := Hd.mk (own_frame OA9.out h1 (by simp))
          have F10 := Hd.mk (F9.out.trans h1 (by simp))
          clear h1 B9 K9 O9 OA9 F9
          go_wp2
          go_loopg [67] 19 (fun kq jv wq => ∃ j : Nat, jv = .int .i64 (j : Nat) ∧ j + kq = 19 ∧ Hd (wq.heap[gp]? = some (.cells (pc (toldN hl j)) 109 (0, 0))) ∧ Hd (wq.heap[g]? = some (.cells noPlan 109 (0, 0))) ∧ Hd (wq.ownsRow 0 3 1 (.slice A8 19 c8) 19 (i64s hl)) ∧ Hd (wq.ownsRow 0 35 2 (.slice A5 rs.length c5) rs.length (cells rs)) ∧ Hd (Fr w wq []))
          case atStart => exact ⟨0, rfl, rfl, B10, K10, O10, OA10, F10⟩
          case round =>
            obtain ⟨j, rfl, hj, HP, HK, HO, HOA, HF⟩ := hrel
            by_cases hjn : j < 19
            · have hi := ordIdx j hjn
              have hol := ord_lt j hjn
              have HT : Hd (toldN hl (j + 1) = if 0 < hl.getD (ord.getD j 0) 0 then max (toldN hl j) (j + 1) else toldN hl j) := ⟨rfl⟩
              obtain ⟨bx, _, rfl⟩ : ∃ bx, True ∧ A8 = some ⟨bx, 0, none⟩ := by
                obtain ⟨g8, c8', e8, _⟩ := own_some HO.out (by decide)
                injection e8 with e8 _ _
                exact ⟨g8, trivial, e8⟩
              have k0 := i64_at (sl_of_own HO.out) (i := ord.getD j 0) (by omega) rfl
              have htb := toldN_le hl j
              have htg := toldN_ge hl j
              have k4 := (blk_cell HP.out 4).trans (HP4.out _)
              have f4 := blk_frozen HP.out 4
              have HL2 := HLN.out (ord.getD j 0)
              generalize ord.getD j 0 = o at *
              generalize hl.getD o 0 = x at *
              obtain ⟨td, htd⟩ : ∃ td, td = toldN hl j := ⟨_, rfl⟩
              rw [← htd] at HP HT htb htg k4
              clear htd
              rw [Nat.zero_add] at k0
              by_cases hx : x > 0
              · have HT2 : Hd (toldN hl (j + 1) = max td (j + 1)) := ⟨by rw [HT.out, if_pos hx]⟩
                have HP2 := Hd.mk (blk_set HP.out 4 (.int .i64 ((max td (j + 1) : Nat) : Int)))
                rw [HPS.out, ← HT2.out] at HP2
                have HK2 := Hd.mk (blk_far HK.out (p := ⟨gp, 4, none⟩) hgp2 (.int .i64 ((max td (j + 1) : Nat) : Int)))
                have HO2 := Hd.mk (own_setFar HO.out (a := ⟨gp, 4, none⟩) (.int .i64 ((max td (j + 1) : Nat) : Int)) (own_ne HO.out HP.out (by decide)))
                have HOA2 := Hd.mk (own_setFar HOA.out (a := ⟨gp, 4, none⟩) (.int .i64 ((max td (j + 1) : Nat) : Int)) (own_ne HOA.out HP.out (by decide)))
                have hmx : (if (td : Int) < (j : Int) + 1 then (j : Int) + 1 else (td : Int)) = ((max td (j + 1) : Nat) : Int) := by split <;> omega
                clear HT HP HK HO HOA
                go_wp2
                go_roundg (gk - 1)
                case measure => omega
                case rel => exact ⟨j + 1, by go_num, by omega, by rw [HT2.out] at HP2 ⊢; exact HP2, HK2, HO2, HOA2, ⟨HF.out.setCell _ (.inr hgp)⟩⟩
              · have HT2 : Hd (toldN hl (j + 1) = td) := ⟨by rw [HT.out, if_neg hx]⟩
                go_wp2
                go_roundg (gk - 1)
                case measure => omega
                case rel => exact ⟨j + 1, by go_num, by omega, by rw [HT2.out]; exact HP, HK, HO, HOA, HF⟩
            · obtain rfl : j = 19 := by omega
              obtain ⟨td, htd⟩ : ∃ td, td = toldN hl 19 := ⟨_, rfl⟩
              rw [← htd] at HP
              have HTD := Hd.mk htd
              clear htd
              go_wp2_with (first
                | (refine wpList_load_row rfl 109 _ rfl gp rfl 109 (pc td) (0, 0) _ HP.out Try.underlying109 rfl (by rw [HPC.out]; exact planInfo) ?_)
                | (refine wpList_store_row rfl 109 _ _ rfl g (pc td) rfl rfl 109 _ (by exact HK.out) (by rw [HPC.out]; exact planInfo) (by rw [HPC.out]; rfl) (by rw [HPC.out]; first | rfl | simp [Value.oneCell']) ?_))
              refine bodyPost_ret (results_pt rfl _ _ g (pc td) rfl (setRow_heap _ _ _ _ _ _ HK.out) (by rw [HPC.out]; rfl) _ rfl) rfl ?_
              have HF2 := Code.Fr.setRow HF.out (pc td) (g := g) (.inr hgw)
              refine ⟨fun _ => ⟨A5, rs.length, c5, A8, c8, ?_, ?_, HF2⟩, fun h => absurd h (by rw [← HB.out]; decide)⟩
              · rw [HPC.out, planC, ← HRS.out, ← HHL.out, HTD.out, HLA.out, HKL.out.2]; rfl
              · have hw : Fr wr (wr.setRow g (pc td)) [g] := Code.Fr.setRow (Fr.refl wr [g]) _ (.inl (by simp))
                refine ⟨?_, ?_, NW5.out, NW8.out⟩
                · rw [← HRS.out]
                  exact own_frame HOA.out hw (fun k hk hm => by
                    simp at hm; subst hm
                    exact own_ne HOA.out HK.out (by decide) hk)
                · rw [← HRS.out, ← HHL.out]
                  exact own_frame HO.out hw (fun k hk hm => by
                    simp at hm; subst hm
                    exact own_ne HO.out HK.out (by decide) hk)
end Go.Proofs.Ytofajcifjmhomaa.Head
