/- Texts of this claim, one behind the other: HeadPlanC, HeadPlanD. -/
import Derived.Test.YtlfckpmdmkccjaaGreatG20
import Derived.Deep.RegionHeld3
/- Chapter 08: newPlan walked. No condition. -/
set_option linter.unusedVariables false
set_option linter.unusedSimpArgs false
set_option maxRecDepth 100000
namespace Go.Proofs.YtlfckpmdmkccjaaGreat.Head
open Go.RowKit Go.Proofs.YtlfckpmdmkccjaaGreat.Lib Go.Proofs.YtlfckpmdmkccjaaGreat.Ints Go.Proofs.YtlfckpmdmkccjaaGreat.Runs
/-- a plan: how many are told of both, the runs, the lengths of their code -/
structure Plan (w0 w : World) (lit dist : List Int) (A : Option Addr) (n c : Nat) (B : Option Addr) (d : Nat) : Prop where
  runs : w.ownsRow 0 224 2 (.slice A n c) n (cells (hruns lit dist))
  lens : w.ownsRow 0 3 1 (.slice B 19 d) 19 (i64s (hlens (hruns lit dist)))
  newA : ∀ k, (Value.slice A n c).ownBlock = some k → w0.heap.size ≤ k
  newB : ∀ k, (Value.slice B 19 d).ownBlock = some k → w0.heap.size ≤ k
theorem Plan.frame {w0 w w' : World} {lit dist : List Int} {A B : Option Addr} {n c d : Nat} (h : Plan w0 w lit dist A n c B d) (hf : Fr w w' []) : Plan w0 w' lit dist A n c B d :=
  ⟨own_frame h.runs hf (by simp), own_frame h.lens hf (by simp), h.newA, h.newB⟩
def planC (lit dist : List Int) (A : Option Addr) (n c : Nat) (B : Option Addr) (d : Nat) : Array Value :=
  #[.int .i64 ((cutL lit 257).length : Nat), .int .i64 ((distL dist).length : Nat), .slice A n c, .slice B 19 d, .int .i64 (toldN (hlens (hruns lit dist)) 19 : Nat)]
def noPlan : Array Value := #[.int .i64 0, .int .i64 0, .slice none 0 0, .slice none 0 0, .int .i64 0]
def PlanPost (w : World) (lit dist : List Int) (e : Ending) (w' : World) : Prop :=
  (okH lit dist = true → ∃ A n c B d, e = .returned (.tuple #[.agg (planC lit dist A n c B d), .int .i64 0]) ∧ Plan w w' lit dist A n c B d ∧ Fr w w' []) ∧
  (okH lit dist = false → e = .returned (.tuple #[.agg noPlan, .int .i64 80]) ∧ Fr w w' [])
theorem planInfo : (Tryz.prog.info? 221).map (·.size) = some 5 := by kernel_rfl
theorem results_pt {fn : Func} {p q : Tmp} (h : fn.results = #[.cell p 221, .tmp q]) (tmps : Array Value) (w : World) (g : Nat) (cs : Array Value)
    (hp : tmps.getD p undef = .pointer (some ⟨g, 0, none⟩)) (hg : w.heap[g]? = some (.cells cs 221 (0, 0))) (hc : cs.size = 5) (v : Value) (hv : tmps.getD q undef = v) :
    (results fn tmps).run Tryz.prog w = .ok (.tuple #[.agg cs, v]) w := by
  have hp' : tmps[p]?.getD undef = .pointer (some ⟨g, 0, none⟩) := by simpa using hp
  have hv' : tmps[q]?.getD undef = v := by simpa using hv
  simp [results, h, hp', hv', asAddr, run_loadVar_row w g 221 221 cs _ _ hg Tryz.underlying221 rfl (by rw [hc]; exact planInfo)]
set_option maxHeartbeats 8000000 in
theorem newPlan_any (w : World) (A B : Option Addr) (n c m d : Nat) (lit dist : List Int) (p q : Option Nat) (hX : SlArg w A n c (i64s lit) p) (hY : SlArg w B m d (i64s dist) q) :
    Calls Tryz.prog 127 #[.slice A n c, .slice B m d] w (PlanPost w lit dist) := by
  obtain ⟨j0, hj0, hj1, hj2, hj3⟩ := info_parts infoI64
  have hn : lit.length = n := by have := hX.len; simpa [i64s] using this
  have hm : dist.length = m := by have := hY.len; simpa [i64s] using this
  have HX := Hd.mk hX
  have HY := Hd.mk hY
  clear hX hY
  obtain ⟨b, hb⟩ : ∃ b, b = okH lit dist := ⟨_, rfl⟩
  have HB := Hd.mk hb
  go_enter Tryz.func127, Tryz.ntmps127
  go_wp2_with (fail)
  have A0 := (Fr.refl w []).alloc (.cells noPlan 221)
  have K0 := Hd.mk (blk_new w (.cells noPlan 221))
  refine (can_any (w.alloc (.cells noPlan 221)) A B n c m d lit dist p q (HX.out.frame A0 (by simp)) (HY.out.frame A0 (by simp)) b hb).mono ?_
  rintro e w1 ⟨rfl, h1⟩
  have K1 := Hd.mk (h1.blk K0.out (by simp))
  have F1 := Hd.mk (A0.trans h1 (by simp))
  have hg0 : w.heap.size ≤ w.heap.size := Nat.le_refl _
  obtain ⟨g, hg⟩ : ∃ g, g = w.heap.size := ⟨_, rfl⟩
  rw [← hg] at K1 hg0 ⊢
  have hgw : w.heap.size ≤ g := by omega
  clear K0 A0 h1 hg hb hg0
  cases b with
  | false =>
    go_wp2_with (refine wpList_store_row rfl 221 _ _ rfl g noPlan rfl rfl 221 _ (by exact K1.out) (by kernel_rfl) (by kernel_rfl) (by kernel_rfl) ?_)
    refine bodyPost_ret (results_pt rfl _ _ g noPlan rfl (setRow_heap _ _ _ _ _ _ K1.out) rfl _ rfl) rfl ?_
    exact ⟨fun h => absurd h (by rw [← HB.out]; decide), fun _ => ⟨rfl, Code.Fr.setRow F1.out _ (.inr hgw)⟩⟩
  | true =>
    obtain ⟨o1, o2, o3, o4, o5, o6⟩ := okH_parts HB.out.symm
    obtain ⟨a1, a2, a3, a4⟩ := allL_ok HB.out.symm
    have HV := Hd.mk a1
    obtain ⟨r1, r2, r3⟩ := hruns_ok HB.out.symm
    have HR := Hd.mk (And.intro r1 r3)
    obtain ⟨ka, hka⟩ : ∃ k, k = cutN lit 257 n := ⟨_, rfl⟩
    obtain ⟨kb, hkb⟩ : ∃ k, k = cutN dist 1 m := ⟨_, rfl⟩
    have KA := Hd.mk hka
    have KB := Hd.mk hkb
    clear a1 o4 o5 o6 r1 r3 hka hkb
    go_wp2_with (fail)
    refine (cut_any w1 A n c lit p (HX.out.frame F1.out (by simp)) 257 (by omega) ka KA.out).mono ?_
    rintro e w2 ⟨rfl, rfl⟩
    go_wp2_with (fail)
    refine (cut_any w1 B m d dist q (HY.out.frame F1.out (by simp)) 1 (by omega) kb KB.out).mono ?_
    rintro e w2 ⟨rfl, rfl⟩
    have la : (cutL lit 257).length = ka := by rw [cutL_len, hn, KA.out]
    have lb : (cutL dist 1).length = kb := by rw [cutL_len, hm, KB.out]
    have hkan : ka ≤ n := by rw [KA.out]; exact cutN_le _ _ _
    have hkbm : kb ≤ m := by rw [KB.out]; exact cutN_le _ _ _
    have XA : Hd (Sl w1 A (i64s (cutL lit 257)) p) := ⟨by have := (HX.out.sl.frame F1.out (by simp)).take ka; unfold cutL; rw [hn, ← KA.out]; simpa [i64s, List.map_take] using this⟩
    have XB : Hd (Sl w1 B (i64s (cutL dist 1)) q) := ⟨by have := (HY.out.sl.frame F1.out (by simp)).take kb; unfold cutL; rw [hm, ← KB.out]; simpa [i64s, List.map_take] using this⟩
    have NA : Hd (A = none → n = 0 ∧ c = 0) := ⟨HX.out.nil⟩
    have NB : Hd (B = none → m = 0 ∧ d = 0) := ⟨HY.out.nil⟩
    obtain ⟨kd, hkd⟩ : ∃ k, k = (distL dist).length := ⟨_, rfl⟩
    have hkd2 := distL_len dist (by omega)
    rw [← hkd] at hkd2
    have HKD : Hd (distL dist = if kb = 0 then [0] else cutL dist 1) := ⟨by unfold distL; rw [lb]⟩
    go_upto_if 30 with (fail)
    go_cut [7] from 31 to 36 (fun s7 wc => ∃ (B' : Option Addr) (d' : Nat) (q' : Option Nat), s7 = .slice B' kd d' ∧ Hd (Sl wc B' (i64s (distL dist)) q') ∧ Hd (B' = none → kd = 0 ∧ d' = 0) ∧ Hd (Fr w1 wc []))
    case first =>
      by_cases h0 : kb = 0
      · have hz : distL dist = [0] := by rw [HKD.out, if_pos h0]
        have HZ := Hd.mk hz
        obtain rfl : kd = 1 := by rw [hkd, hz]; rfl
        have hkb0 : ((kb : Int) == 0) = true := by simp; omega
        clear hz hkd HX XA NA
        go_wp2
        go_meet
        case rel => exact ⟨_, 1, some w1.heap.size, rfl, ⟨by rw [HZ.out]; exact sl_of_blk (blk_new w1 _)⟩, ⟨fun h => by cases h⟩, ⟨(Fr.refl w1 []).alloc _⟩⟩
      · have hz : distL dist = cutL dist 1 := by rw [HKD.out, if_neg h0]
        obtain rfl : kd = kb := by rw [hkd, hz, lb]
        have HZ := Hd.mk hz
        have hkb0 : ((kd : Int) == 0) = false := by simp; omega
        clear hz hkd HX XA NA
        go_wp2
        go_meet
        case rel => exact ⟨B, d, q, rfl, ⟨by rw [HZ.out]; exact XB.out⟩, ⟨fun h => by have := NB.out h; omega⟩, ⟨Fr.refl w1 []⟩⟩
    case rest =>
      obtain ⟨B', d', q', rfl, XB2, NB2, FC⟩ := hcut
      have F2 := Hd.mk (F1.out.trans FC.out (by simp))
      have K2 := Hd.mk (FC.out.blk K1.out (by simp))
      have XA2 := Hd.mk (XA.out.frame FC.out (by simp))
      have HKL : Hd (distL dist = distL dist ∧ kd = (distL dist).length) := ⟨⟨rfl, hkd⟩⟩
      have HLA : Hd ((cutL lit 257).length = ka) := ⟨la⟩
      have HAD : Hd (allL lit dist = cutL lit 257 ++ distL dist) := ⟨rfl⟩
      have hka2 : ka ≤ 286 := by omega
      clear FC XA XB HY HKD KA KB NB K1 F1 la lb hkd a3 a4
      go_wp2_with (first
        | (at_builtin; refine wpList_append_sl rfl (.const (.slice none 0 0)) (.tmp 32) 65 rfl 3 j0 (.int .i64 0) 1 8 Tryz.underlying65 hj0 hj1 hj2 hj3 rfl (by decide) (.slice none 0 0) 0 [] rfl (own_nil _ _ _ _) A ka c _ _ rfl (by rw [i64s_length, HLA.out]; omega) XA2.out (by intro h; have := NA.out h; omega) (i64s_one _) (by unfold maxLen; omega) (by omega) ?_; intro A3 c3 w3 hown3 hgrow3 haft3; rw [Nat.zero_add] at hown3 haft3; have O3 := Hd.mk hown3; have G3 := Hd.mk hgrow3; have AF3 := Hd.mk haft3; clear hown3 hgrow3 haft3; rw [Nat.zero_add])
        | (at_builtin; refine wpList_append_sl rfl (.tmp 33) (.tmp 34) 65 rfl 3 j0 (.int .i64 0) 1 8 Tryz.underlying65 hj0 hj1 hj2 hj3 rfl (by decide) (.slice A3 ka c3) ka _ rfl O3.out B' kd d' (i64s (distL dist)) q' rfl (by rw [i64s_length, HKL.out.2]; omega) (XB2.out.frame ((Fr.refl wc []).grown G3.out (fun k hk => by simp [Value.ownBlock] at hk)) (by simp)) NB2.out (i64s_one _) (by unfold maxLen; omega) (by omega) ?_; intro A4 c4 w4 hown4 hgrow4 haft4; have O4 := Hd.mk hown4; have G4 := Hd.mk hgrow4; have AF4 := Hd.mk haft4; clear hown4 hgrow4 haft4))
      have B3 : ∀ k, (Value.slice A3 ka c3).ownBlock = some k → wc.heap.size ≤ k := fun k hk => by
        rcases AF3.out with e | ⟨j, e, hj⟩
        · rw [hk] at e; simp [Value.ownBlock] at e
        · rw [hk] at e; cases e; exact hj
      have K3 := blk_grown G3.out K2.out (by simp [Value.ownBlock])
      have K4 := Hd.mk (blk_grown G4.out K3 (own_ne O3.out K3 (by decide)).symm)
      have F4 : Hd (Fr w w4 []) := ⟨(F2.out.grown G3.out (fun k hk => by simp [Value.ownBlock] at hk)).grown G4.out (fun k hk => .inr (by have := B3 k hk; have := F2.out.size; omega))⟩
      have L4 : Hd (allL lit dist = allL lit dist ∧ ka + kd = (allL lit dist).length) := ⟨rfl, by unfold allL; rw [List.length_append, HLA.out, HKL.out.2]⟩
      have S4 : Hd (SlArg w4 A4 (ka + kd) c4 (i64s (allL lit dist)) (Value.slice A4 (ka + kd) c4).ownBlock) := ⟨by
        have h1 := O4.out
        rw [List.nil_append, ← i64s_app, ← HAD.out] at h1
        obtain ⟨A', c', e1, h2, h3, _⟩ := own_slice h1
        injection e1 with e1 _ e3
        subst e1 e3
        exact ⟨by have := h1.1; omega, h2, h3, fun hA => own_none h1 hA, sl_of_own h1, fun b hb => own_lt h1 hb⟩⟩
      have hkd3 : 1 ≤ kd ∧ kd ≤ 30 := hkd2
      clear B3 K3 K2 F2 O3 G3 AF3 O4 G4 AF4 XA2 XB2 NB2 HX NA HAD
      refine (runs_any w4 A4 (ka + kd) c4 (allL lit dist) _ L4.out.2.symm S4.out.le S4.out.sl S4.out.nil (by omega) 0 (hruns lit dist) (by rw [HR.out.2]; rfl) (by rw [HR.out.2]; rfl)).mono ?_
      rintro e w5 ⟨A5, n5, c5, rfl, h1, h2, h3⟩
      have hn5 : n5 = (hruns lit dist).length := by have := h1.1; rw [cells_len] at this; omega
      have O5 := Hd.mk h1
      have NW5 : Hd (∀ k, (Value.slice A5 n5 c5).ownBlock = some k → w.heap.size ≤ k) := ⟨fun k hk => by have := h2 k hk; have := F4.out.size; omega⟩
      have F5 := Hd.mk (F4.out.trans h3 (by simp))
      have K5 := Hd.mk (h3.blk K4.out (by simp))
      clear h1 h2 h3 S4 K4 F4 L4
      obtain ⟨rs, hrs⟩ : ∃ rs, rs = hruns lit dist := ⟨_, rfl⟩
      rw [← hrs] at O5 HR r2 hn5
      have HRS := Hd.mk hrs
      clear hrs
      go_upto_region 9 with (fail)
      rw [freq_zero]
      have Z0 := Hd.mk (blk_new w5 (.cells (i64s (freqOf [])).toArray 228))
      have A6 := (Fr.refl w5 []).alloc (.cells (i64s (freqOf [])).toArray 228)
      have O6 := Hd.mk (own_frame O5.out A6 (by simp))
      have F6 := Hd.mk (F5.out.trans A6 (by simp))
      have K6 := Hd.mk (A6.blk K5.out (by simp))
      have hgf : w.heap.size ≤ w5.heap.size := F5.out.size
      generalize w5.alloc (.cells (i64s (freqOf [])).toArray 228) = w6 at *
      generalize w5.heap.size = gf at *
      clear A6 O5 F5 K5
      have hnA : Hd (∀ k, (Value.slice A5 n5 c5).ownBlock = some k → k ≠ gf) := ⟨fun k hk => by
        obtain ⟨cs, hcs⟩ := own_type O6.out hk
        exact blk_ne hcs Z0.out (by decide)⟩
      have hgg : g ≠ gf := blk_ne K6.out Z0.out (by decide)
      go_wp2
      go_loopg [43] n5 (fun kq jv wr => ∃ j : Nat, jv = .int .i64 (j : Nat) ∧ j + kq = n5 ∧ Hd (wr.heap[gf]? = some (.cells (i64s (freqOf (rs.take j))).toArray 228 (0, 0))) ∧ Hd (wr.ownsRow 0 224 2 (.slice A5 n5 c5) n5 (cells rs)) ∧ Hd (wr.heap[g]? = some (.cells noPlan 221 (0, 0))) ∧ Hd (Fr w wr []))
      case atStart => exact ⟨0, rfl, by omega, Z0, O6, K6, F6⟩
      case round =>
        obtain ⟨j, rfl, hj, HZ, HO, HK, HF⟩ := hrel
        by_cases hjn : j < n5
        · have hjr : j < rs.length := by omega
          obtain ⟨a, o1', e1, _, hcc⟩ := Sl.row (enc := enc) (sz := 2) (fun _ => rfl) (sl_of_own2 HO.out (by omega)) hjr (by decide)
          subst e1
          obtain ⟨r, hr⟩ : ∃ r, r = rs[j] := ⟨_, rfl⟩
          rw [← hr] at hcc
          have hrb := HR.out.1 r (by rw [hr]; exact List.getElem_mem hjr)
          have c0 := hcc 0 (by decide)
          have c1 := hcc 1 (by decide)
          have HTK : Hd (rs.take (j + 1) = rs.take j ++ [r]) := ⟨by rw [List.take_succ_eq_append_getElem hjr, hr]⟩
          obtain ⟨rsym, rcnt⟩ := r
          obtain ⟨hb1, hb2, _⟩ := hrb
          simp only at hb1 hb2
          obtain ⟨s, rfl⟩ := Int.eq_ofNat_of_zero_le hb1
          simp only [enc, List.getElem?_cons_zero, List.getElem?_cons_succ, Nat.add_zero] at c0 c1
          have bz := blk_alloc HZ.out (.cells #[.int .i64 (s : Nat), .int .i64 rcnt] 224)
          have k0 : (wr.alloc (.cells #[.int .i64 (s : Nat), .int .i64 rcnt] 224)).cell? ⟨gf, s, none⟩ = some (.int .i64 (freqF (rs.take j) s : Nat)) := by rw [blk_cell bz s, List.getElem?_toArray]; exact freq_get _ (by omega)
          have kf := blk_frozen bz s
          have hfb := freqF_le (rs.take j) s
          rw [List.length_take] at hfb
          have HZ2 := Hd.mk (blk_set bz s (.int .i64 ((freqF (rs.take j) s : Nat) + 1 : Int)))
          rw [freq_set (rs.take j) ((s : Int), rcnt) (by omega) rfl, ← HTK.out] at HZ2
          have HO2 := Hd.mk (own_setFar (own_frame HO.out ((Fr.refl wr []).alloc (.cells #[.int .i64 (s : Nat), .int .i64 rcnt] 224)) (by simp)) (a := ⟨gf, s, none⟩) (.int .i64 ((freqF (rs.take j) s : Nat) + 1 : Int)) (fun h => hnA.out _ h rfl))
          have HK2 := Hd.mk (blk_far (blk_alloc HK.out (.cells #[.int .i64 (s : Nat), .int .i64 rcnt] 224)) (p := ⟨gf, s, none⟩) hgg (.int .i64 ((freqF (rs.take j) s : Nat) + 1 : Int)))
          clear bz
          generalize freqF (rs.take j) s = fq at *
          clear hcc hr
          go_wp2
          go_roundg (gk - 1)
          case measure => omega
          case rel => exact ⟨j + 1, by go_num, by omega, HZ2, HO2, HK2, ⟨(HF.out.alloc _).setCell _ (.inr hgf)⟩⟩
        · obtain rfl : j = n5 := by omega
          have hz7 := HZ.out
          rw [List.take_of_length_le (by omega)] at hz7
          have Z7 := Hd.mk hz7
          have HE := Hd.mk (hlens_eq (rs := rs) (by omega))
          have HLN := Hd.mk (hlens_le (rs := rs) (by omega))
          have SF : Hd (Sl wr (some ⟨gf, 0, none⟩) (i64s (freqOf rs)) (some gf)) := ⟨by have := sl_of_blk hz7; simpa using this⟩
          clear hz7 HZ Z0 K6 O6 F6
          go_wp2_with (fail)
          refine (Lens.lengths_any wr 7 (some ⟨gf, 0, none⟩) 19 19 (freqOf rs) _ (freqOf_len rs) SF.out (by omega)).mono ?_
          rintro e w8 hlp
          unfold Lens.LensPost at hlp
          obtain ⟨A8, n8, c8, rfl, h1, h2, h3⟩ := hlp
          rw [HE.out.1] at h1 ⊢
          rw [← HE.out.2] at h1
          have hn8 : n8 = 19 := by have := h1.1; rw [i64s_length, hlens_len (by omega)] at this; omega
          subst hn8
          have O8 := Hd.mk h1
          have NW8 : Hd (∀ k, (Value.slice A8 19 c8).ownBlock = some k → w.heap.size ≤ k) := ⟨fun k hk => by have := h2 k hk; have := HF.out.size; omega⟩
          have F8 := Hd.mk (HF.out.trans h3 (by simp))
          have K8 := Hd.mk (h3.blk HK.out (by simp))
          have OA8 := Hd.mk (own_frame HO.out h3 (by simp))
          clear h1 h2 h3 HF HK HO Z7 SF
          simp only
          obtain ⟨hl, hhl⟩ : ∃ hl, hl = hlens rs := ⟨_, rfl⟩
          rw [← hhl] at O8 HLN
          have HHL := Hd.mk hhl
          have hl19 : hl.length = 19 := by rw [hhl]; exact hlens_len (by omega)
          clear hhl HE
          have o8' := O8.out
          simp only at o8'
          have O8' := Hd.mk o8'
          subst hn5
          clear o8' O8
          go_upto_region 16 with (fail)
          obtain ⟨pc, hpc⟩ : ∃ pc : Nat → Array Value, pc = fun t => #[.int .i64 (ka : Nat), .int .i64 (kd : Nat), .slice A5 rs.length c5, .slice A8 19 c8, .int .i64 (t : Nat)] := ⟨_, rfl⟩
          have B9 : Hd ((w8.alloc (.cells #[.int .i64 (ka : Nat), .int .i64 (kd : Nat), .slice A5 rs.length c5, .slice A8 19 c8, .int .i64 4] 221)).heap[w8.heap.size]? = some (.cells (pc 4) 221 (0, 0))) := ⟨by rw [hpc]; exact blk_new w8 _⟩
          have A9 := (Fr.refl w8 []).alloc (.cells #[.int .i64 (ka : Nat), .int .i64 (kd : Nat), .slice A5 rs.length c5, .slice A8 19 c8, .int .i64 4] 221)
          have O9 := Hd.mk (own_frame O8'.out A9 (by simp))
          have OA9 := Hd.mk (own_frame OA8.out A9 (by simp))
          have K9 := Hd.mk (A9.blk K8.out (by simp))
          have F9 := Hd.mk (F8.out.trans A9 (by simp))
          have hgp : w.heap.size ≤ w8.heap.size := F8.out.size
          have hgp2 : g ≠ w8.heap.size := by have := blk_lt K8.out; omega
          have HPC := Hd.mk hpc
          clear A9 O8' OA8 K8 F8 hpc
          generalize w8.alloc (.cells #[.int .i64 (ka : Nat), .int .i64 (kd : Nat), .slice A5 rs.length c5, .slice A8 19 c8, .int .i64 4] 221) = w9 at *
          generalize w8.heap.size = gp at *
          have HPS : Hd (∀ t u : Nat, (pc t).setIfInBounds 4 (.int .i64 (u : Nat)) = pc u) := ⟨fun t u => by rw [HPC.out]; rfl⟩
          have HP4 : Hd (∀ t : Nat, (pc t)[4]? = some (.int .i64 (t : Nat))) := ⟨fun t => by rw [HPC.out]; rfl⟩
          go_wp2_with (fail)
          refine (order_any w9).mono ?_
          rintro e w10 ⟨rfl, h1⟩
          have B10 := Hd.mk (h1.blk B9.out (by simp))
          have K10 := Hd.mk (h1.blk K9.out (by simp))
          have O10 := Hd.mk (own_frame O9.out h1 (by simp))
          have OA10 := Hd.mk (own_frame OA9.out h1 (by simp))
          have F10 := Hd.mk (F9.out.trans h1 (by simp))
          clear h1 B9 K9 O9 OA9 F9
          go_wp2
          go_loopg [67] 19 (fun kq jv wq => ∃ j : Nat, jv = .int .i64 (j : Nat) ∧ j + kq = 19 ∧ Hd (wq.heap[gp]? = some (.cells (pc (toldN hl j)) 221 (0, 0))) ∧ Hd (wq.heap[g]? = some (.cells noPlan 221 (0, 0))) ∧ Hd (wq.ownsRow 0 3 1 (.slice A8 19 c8) 19 (i64s hl)) ∧ Hd (wq.ownsRow 0 224 2 (.slice A5 rs.length c5) rs.length (cells rs)) ∧ Hd (Fr w wq []))
          case atStart => exact ⟨0, rfl, rfl, B10, K10, O10, OA10, F10⟩
          case round =>
            obtain ⟨j, rfl, hj, HP, HK, HO, HOA, HF⟩ := hrel
            by_cases hjn : j < 19
            · have hi := ordIdx j hjn
              have hol := ord_lt j hjn
              have HT : Hd (toldN hl (j + 1) = if 0 < hl.getD (ord.getD j 0) 0 then max (toldN hl j) (j + 1) else toldN hl j) := ⟨rfl⟩
              obtain ⟨bx, _, rfl⟩ : ∃ bx, True ∧ A8 = some ⟨bx, 0, none⟩ := by
                obtain ⟨g8, c8', e8, _⟩ := own_some HO.out (by decide)
                injection e8 with e8 _ _
                exact ⟨g8, trivial, e8⟩
              have k0 := i64_at (sl_of_own HO.out) (i := ord.getD j 0) (by omega) rfl
              have htb := toldN_le hl j
              have htg := toldN_ge hl j
              have k4 := (blk_cell HP.out 4).trans (HP4.out _)
              have f4 := blk_frozen HP.out 4
              have HL2 := HLN.out (ord.getD j 0)
              generalize ord.getD j 0 = o at *
              generalize hl.getD o 0 = x at *
              obtain ⟨td, htd⟩ : ∃ td, td = toldN hl j := ⟨_, rfl⟩
              rw [← htd] at HP HT htb htg k4
              clear htd
              rw [Nat.zero_add] at k0
              by_cases hx : x > 0
              · have HT2 : Hd (toldN hl (j + 1) = max td (j + 1)) := ⟨by rw [HT.out, if_pos hx]⟩
                have HP2 := Hd.mk (blk_set HP.out 4 (.int .i64 ((max td (j + 1) : Nat) : Int)))
                rw [HPS.out, ← HT2.out] at HP2
                have HK2 := Hd.mk (blk_far HK.out (p := ⟨gp, 4, none⟩) hgp2 (.int .i64 ((max td (j + 1) : Nat) : Int)))
                have HO2 := Hd.mk (own_setFar HO.out (a := ⟨gp, 4, none⟩) (.int .i64 ((max td (j + 1) : Nat) : Int)) (own_ne HO.out HP.out (by decide)))
                have HOA2 := Hd.mk (own_setFar HOA.out (a := ⟨gp, 4, none⟩) (.int .i64 ((max td (j + 1) : Nat) : Int)) (own_ne HOA.out HP.out (by decide)))
                have hmx : (if (td : Int) < (j : Int) + 1 then (j : Int) + 1 else (td : Int)) = ((max td (j + 1) : Nat) : Int) := by split <;> omega
                clear HT HP HK HO HOA
                go_wp2
                go_roundg (gk - 1)
                case measure => omega
                case rel => exact ⟨j + 1, by go_num, by omega, by rw [HT2.out] at HP2 ⊢; exact HP2, HK2, HO2, HOA2, ⟨HF.out.setCell _ (.inr hgp)⟩⟩
              · have HT2 : Hd (toldN hl (j + 1) = td) := ⟨by rw [HT.out, if_neg hx]⟩
                go_wp2
                go_roundg (gk - 1)
                case measure => omega
                case rel => exact ⟨j + 1, by go_num, by omega, by rw [HT2.out]; exact HP, HK, HO, HOA, HF⟩
            · obtain rfl : j = 19 := by omega
              obtain ⟨td, htd⟩ : ∃ td, td = toldN hl 19 := ⟨_, rfl⟩
              rw [← htd] at HP
              have HTD := Hd.mk htd
              clear htd
              go_wp2_with (first
                | (refine wpList_load_row rfl 221 _ rfl gp rfl 221 (pc td) (0, 0) _ HP.out Tryz.underlying221 rfl (by rw [HPC.out]; exact planInfo) ?_)
                | (refine wpList_store_row rfl 221 _ _ rfl g (pc td) rfl rfl 221 _ (by exact HK.out) (by rw [HPC.out]; exact planInfo) (by rw [HPC.out]; rfl) (by rw [HPC.out]; first | rfl | simp [Value.oneCell']) ?_))
              refine bodyPost_ret (results_pt rfl _ _ g (pc td) rfl (setRow_heap _ _ _ _ _ _ HK.out) (by rw [HPC.out]; rfl) _ rfl) rfl ?_
              have HF2 := Code.Fr.setRow HF.out (pc td) (g := g) (.inr hgw)
              refine ⟨fun _ => ⟨A5, rs.length, c5, A8, c8, ?_, ?_, HF2⟩, fun h => absurd h (by rw [← HB.out]; decide)⟩
              · rw [HPC.out, planC, ← HRS.out, ← HHL.out, HTD.out, HLA.out, HKL.out.2]; rfl
              · have hw : Fr wr (wr.setRow g (pc td)) [g] := Code.Fr.setRow (Fr.refl wr [g]) _ (.inl (by simp))
                refine ⟨?_, ?_, NW5.out, NW8.out⟩
                · rw [← HRS.out]
                  exact own_frame HOA.out hw (fun k hk hm => by
                    simp at hm; subst hm
                    exact own_ne HOA.out HK.out (by decide) hk)
                · rw [← HRS.out, ← HHL.out]
                  exact own_frame HO.out hw (fun k hk hm => by
                    simp at hm; subst hm
                    exact own_ne HO.out HK.out (by decide) hk)
end Go.Proofs.YtlfckpmdmkccjaaGreat.Head
/- Chapter 08: Cost walked. No condition. -/
set_option linter.unusedVariables false
set_option linter.unusedSimpArgs false
set_option maxRecDepth 100000
namespace Go.Proofs.YtlfckpmdmkccjaaGreat.Head
open Go.RowKit Go.Proofs.YtlfckpmdmkccjaaGreat.Lib Go.Proofs.YtlfckpmdmkccjaaGreat.Ints Go.Proofs.YtlfckpmdmkccjaaGreat.Runs
theorem kinds_full (w : World) (s b L M : Int) (h0 : 0 ≤ s) (h1 : s ≤ 18) (hb : b = kbits s) (hL : L = leastN s) (hM : M = mostN s) : Calls Tryz.prog 128 #[.int .i64 s] w fun e w' => e = .returned (.agg #[.int .i64 b, .int .i64 L, .int .i64 M]) ∧ Fr w w' [] := by
  subst hb hL hM
  by_cases h : s < 16
  · refine (kinds_low w s h).mono ?_
    rintro e w' ⟨rfl, hf⟩
    exact ⟨by unfold kbits leastN mostN; rw [if_pos h, if_pos h, if_pos h], hf⟩
  · have : s = 16 ∨ s = 17 ∨ s = 18 := by omega
    rcases this with rfl | rfl | rfl
    · exact kinds_16 w
    · exact kinds_17 w
    · exact kinds_18 w
theorem kf0 (a b c : Int) : ∀ w : World, (Instr.field 226 (.agg #[.int .i64 a, .int .i64 b, .int .i64 c]) 0).run Tryz.prog w = .ok (.int .i64 a) w := fun w => by kernel_rfl
def runCost (hl : List Int) (r : Int × Int) : Int := hl.getD r.1.toNat 0 + kbits r.1
def costF (hl : List Int) : List (Int × Int) → Int
  | [] => 0
  | r :: l => runCost hl r + costF hl l
theorem costF_app (hl : List Int) : ∀ a b, costF hl (a ++ b) = costF hl a + costF hl b
  | [], b => by simp [costF]
  | t :: a, b => by simp only [List.cons_append, costF, costF_app hl a b]; omega
theorem costF_take {hl : List Int} {l : List (Int × Int)} {j : Nat} (h : j < l.length) : costF hl (l.take (j + 1)) = costF hl (l.take j) + runCost hl l[j] := by
  rw [List.take_succ_eq_append_getElem h, costF_app]
  simp [costF]
theorem kbits_le (s : Int) : 0 ≤ kbits s ∧ kbits s ≤ 7 := by
  unfold kbits
  split
  · omega
  · split
    · omega
    · split <;> omega
theorem costF_le {hl : List Int} (h : ∀ s, 0 ≤ hl.getD s 0 ∧ hl.getD s 0 ≤ 7) : ∀ l, 0 ≤ costF hl l ∧ costF hl l ≤ 14 * (l.length : Nat)
  | [] => by simp [costF]
  | r :: l => by
    have h1 := h r.1.toNat
    have h2 := kbits_le r.1
    have h3 := costF_le h l
    simp only [costF, runCost, List.length_cons]
    omega
/-- how many bits a head has -/
def hcost (lit dist : List Int) : Int := 14 + 3 * (toldN (hlens (hruns lit dist)) 19 : Nat) + costF (hlens (hruns lit dist)) (hruns lit dist)
theorem fcell {w w' : World} {F : List Nat} (h : Fr w w' F) {a : Addr} {v : Value} (hc : w.cell? a = some v) (hF : a.block ∉ F) : w'.cell? a = some v := by
  rw [World.cell?_of_block (w := w) (h.block _ (World.block_lt_of_cell? w _ hc) hF)]; exact hc
set_option maxHeartbeats 8000000 in
theorem hcost_any (w : World) (A B : Option Addr) (n c m d : Nat) (lit dist : List Int) (p q : Option Nat) (hX : SlArg w A n c (i64s lit) p) (hY : SlArg w B m d (i64s dist) q) (er k : Int) (her : er = if okH lit dist then 0 else 80) (hk : k = if okH lit dist then hcost lit dist else 0) :
    Calls Tryz.prog 96 #[.slice A n c, .slice B m d] w fun e w' => e = .returned (.tuple #[.int .i64 k, .int .i64 er]) ∧ Fr w w' [] := by
  have HX := Hd.mk hX
  have HY := Hd.mk hY
  have HER := Hd.mk her
  have HK := Hd.mk hk
  clear hX hY her hk
  go_enter Tryz.func96, Tryz.ntmps96
  go_wp2_with (fail)
  refine (newPlan_any w A B n c m d lit dist p q HX.out HY.out).mono ?_
  intro e w1 hp
  unfold PlanPost at hp
  obtain ⟨hp1, hp2⟩ := hp
  obtain ⟨b, hb⟩ : ∃ b, b = okH lit dist := ⟨_, rfl⟩
  rw [← hb] at hp1 hp2 HER HK
  cases b with
  | false =>
    obtain ⟨rfl, hf⟩ := hp2 rfl
    have F1 := Hd.mk hf
    obtain rfl : er = 80 := HER.out
    obtain rfl : k = 0 := HK.out
    clear hp1 hp2 hf hb
    unfold noPlan
    go_wp2
    go_ret2
    exact ⟨rfl, F1.out.alloc _⟩
  | true =>
    obtain ⟨A1, n1, c1, B1, d1, rfl, hpl, hf⟩ := hp1 rfl
    obtain rfl : er = 0 := HER.out
    have hkk : k = hcost lit dist := HK.out
    obtain ⟨r1, r2, r3⟩ := hruns_ok hb.symm
    have HLE := hlens_le (rs := hruns lit dist) (by omega)
    have hl19 := hlens_len (rs := hruns lit dist) (by omega)
    have hnr : n1 = (hruns lit dist).length := by have := hpl.runs.1; rw [cells_len] at this; omega
    have P1 := Hd.mk hpl
    have F1 := Hd.mk hf
    have htl := toldN_le (hlens (hruns lit dist)) 19
    have hce := costF_le HLE (hruns lit dist)
    have hok := Hd.mk hb.symm
    have hcc : k = 14 + 3 * (toldN (hlens (hruns lit dist)) 19 : Nat) + costF (hlens (hruns lit dist)) (hruns lit dist) := hkk
    unfold planC
    obtain ⟨td, htd⟩ : ∃ td, td = toldN (hlens (hruns lit dist)) 19 := ⟨_, rfl⟩
    rw [← htd] at htl hcc ⊢
    have O1 := Hd.mk hpl.runs
    have O2 := Hd.mk hpl.lens
    obtain ⟨rs, hrs⟩ : ∃ rs, rs = hruns lit dist := ⟨_, rfl⟩
    obtain ⟨hl, hhl⟩ : ∃ hl, hl = hlens (hruns lit dist) := ⟨_, rfl⟩
    rw [← hhl] at O2 HLE hl19
    rw [← hhl, ← hrs] at hcc
    rw [← hrs] at O1 r1 r2 hnr
    have HCC := Hd.mk hcc
    have HRB := Hd.mk r1
    have HLE2 := Hd.mk HLE
    clear hp1 hp2 hf hpl hkk HLE hcc hrs hhl htd r1 r3 hce hb P1 HX HY HK HER
    generalize ((cutL lit 257).length : Int) = xa at *
    generalize ((distL dist).length : Int) = xb at *
    go_upto_region 4 with (fail)
    obtain ⟨pc, hpc⟩ : ∃ pc : Array Value, pc = #[.int .i64 xa, .int .i64 xb, .slice A1 n1 c1, .slice B1 19 d1, .int .i64 (td : Nat)] := ⟨_, rfl⟩
    have B2 : Hd ((w1.alloc (.cells #[.int .i64 xa, .int .i64 xb, .slice A1 n1 c1, .slice B1 19 d1, .int .i64 (td : Nat)] 221)).heap[w1.heap.size]? = some (.cells #[.int .i64 xa, .int .i64 xb, .slice A1 n1 c1, .slice B1 19 d1, .int .i64 (td : Nat)] 221 (0, 0))) := ⟨blk_new w1 _⟩
    subst hnr
    have A2 := (Fr.refl w1 []).alloc (.cells #[.int .i64 xa, .int .i64 xb, .slice A1 rs.length c1, .slice B1 19 d1, .int .i64 (td : Nat)] 221)
    have OA := Hd.mk (own_frame O1.out A2 (by simp))
    have OB := Hd.mk (own_frame O2.out A2 (by simp))
    have F2 := Hd.mk (F1.out.trans A2 (by simp))
    clear A2 O1 O2 F1 hpc
    generalize w1.alloc (.cells #[.int .i64 xa, .int .i64 xb, .slice A1 rs.length c1, .slice B1 19 d1, .int .i64 (td : Nat)] 221) = w2 at *
    generalize w1.heap.size = g at *
    have k4 := blk_cell B2.out 4
    have k2 := blk_cell B2.out 2
    simp only [List.getElem?_toArray, List.getElem?_cons_zero, List.getElem?_cons_succ] at k4 k2
    obtain ⟨bx, _, rfl⟩ : ∃ bx, True ∧ B1 = some ⟨bx, 0, none⟩ := by
      obtain ⟨g8, c8', e8, _⟩ := own_some OB.out (by decide)
      injection e8 with e8 _ _
      exact ⟨g8, trivial, e8⟩
    go_wp2
    go_loopg [8, 27] rs.length (fun kq sv jv wr => ∃ (j : Nat) (s : Int), sv = .int .i64 s ∧ jv = .int .i64 (j : Nat) ∧ j + kq = rs.length ∧ Hd (s = 14 + 3 * (td : Nat) + costF hl (rs.take j)) ∧ Hd (Fr w2 wr []))
    case atStart => exact ⟨0, 14 + 3 * (td : Nat), rfl, rfl, by omega, ⟨by simp [costF]⟩, ⟨Fr.refl _ _⟩⟩
    case round =>
      obtain ⟨j, s, rfl, rfl, hj, HM, HF⟩ := hrel
      by_cases hjn : j < rs.length
      · obtain ⟨a, o1, e1, _, hcc⟩ := Sl.row (enc := enc) (sz := 2) (fun _ => rfl) (sl_of_own2 (own_frame OA.out HF.out (by simp)) (by omega)) hjn (by decide)
        subst e1
        obtain ⟨r, hr⟩ : ∃ r, r = rs[j] := ⟨_, rfl⟩
        rw [← hr] at hcc
        have hrb := HRB.out r (by rw [hr]; exact List.getElem_mem hjn)
        have c0 := hcc 0 (by decide)
        have c1 := hcc 1 (by decide)
        have HTK : Hd (costF hl (rs.take (j + 1)) = costF hl (rs.take j) + runCost hl r) := ⟨by rw [costF_take hjn, hr]⟩
        have hce := costF_le HLE2.out (rs.take j)
        rw [List.length_take] at hce
        have hs0 : 0 ≤ s ∧ s ≤ 5000 := by rw [HM.out]; omega
        obtain ⟨rsym, rcnt⟩ := r
        obtain ⟨hb1, hb2, _⟩ := hrb
        simp only at hb1 hb2
        obtain ⟨y, rfl⟩ := Int.eq_ofNat_of_zero_le hb1
        simp only [enc, List.getElem?_cons_zero, List.getElem?_cons_succ, Nat.add_zero] at c0 c1
        have HRC : Hd (runCost hl ((y : Int), rcnt) = hl.getD y 0 + kbits (y : Int)) := ⟨rfl⟩
        have kl : wr.cell? ⟨bx, y, none⟩ = some (.int .i64 (hl.getD y 0)) := by
          have := i64_at (sl_of_own (own_frame OB.out HF.out (by simp))) (i := y) (by omega) rfl
          rwa [Nat.zero_add] at this
        have hlb := HLE2.out y
        have hkb := kbits_le (y : Int)
        obtain ⟨kb, hkb'⟩ : ∃ kb, kb = kbits (y : Int) := ⟨_, rfl⟩
        rw [← hkb'] at HRC hkb
        have HKB := Hd.mk hkb'
        have k3 : wr.cell? ⟨g, 3, none⟩ = some (.slice (some ⟨bx, 0, none⟩) 19 d1) := (blk_cell (HF.out.blk B2.out (by simp)) 3)
        generalize hl.getD y 0 = x at *
        clear hcc hr hkb' hce
        go_upto_region 8 with (fail)
        have bz := blk_new wr (.cells #[.int .i64 (y : Nat), .int .i64 rcnt] 224)
        have A3 := (Fr.refl wr []).alloc (.cells #[.int .i64 (y : Nat), .int .i64 rcnt] 224)
        have d0 := blk_cell bz 0
        simp only [List.getElem?_toArray, List.getElem?_cons_zero] at d0
        have d1' := fcell A3 kl (by simp)
        have d2 := fcell A3 k3 (by simp)
        have F3 := Hd.mk (HF.out.trans A3 (by simp))
        clear A3 bz kl k3 c0 c1
        generalize wr.alloc (.cells #[.int .i64 (y : Nat), .int .i64 rcnt] 224) = w3 at *
        generalize wr.heap.size = gr at *
        have hf0 := kf0
        have hb3 : (y : Int) < 19 := by omega
        have n1 : IntKind.i64.wrap (x + kb) = x + kb := IntWalk.i64_in _ (by omega)
        have n2 : IntKind.i64.wrap (s + (x + kb)) = s + (x + kb) := IntWalk.i64_in _ (by omega)
        go_region_held3 (fun w' => w'.cell? ⟨gr, 0, none⟩ = some (.int .i64 (y : Nat)) ∧ w'.cell? ⟨bx, y, none⟩ = some (.int .i64 x) ∧ w'.cell? ⟨g, 3, none⟩ = some (.slice (some ⟨bx, 0, none⟩) 19 d1)) (go_keep)
          (first | (go_at_call 128; refine (kinds_full _ (y : Int) kb _ _ hb1 hb2 HKB.out rfl rfl).mono ?_; rintro e w4 ⟨rfl, hf4⟩; have F4 := Hd.mk (F3.out.trans hf4.ofDrew (by simp)); have d0 := fcell hf4.ofDrew d0 (by simp); have d1' := fcell hf4.ofDrew d1' (by simp); have d2 := fcell hf4.ofDrew d2 (by simp); clear hf4))
        go_wp2
        go_roundg (gk - 1)
        case measure => omega
        case rel => exact ⟨j + 1, s + (x + kb), rfl, by go_num, by omega, ⟨by rw [HTK.out, HRC.out, HM.out]; omega⟩, F4⟩
      · obtain rfl : j = rs.length := by omega
        have hmm : Hd (k = s) := ⟨by rw [HCC.out, HM.out, List.take_length]⟩
        obtain rfl := hmm.out
        go_wp2
        go_ret2
        exact ⟨rfl, F2.out.trans HF.out (by simp)⟩
end Go.Proofs.YtlfckpmdmkccjaaGreat.Head
