/- Texts of this claim, one behind the other: HeadPlanC, HeadPlanD, HeadWr. -/
import Derived.Test.YtkdgfioigkijgaaT01
import Derived.Test.YtkdgfioigkijgaaT02
import Derived.Test.YtkdgfioigkijgaaT03
import Derived.Test.YtkdgfioigkijgaaT04
import Derived.Test.YtkdgfioigkijgaaT05
import Derived.Test.YtkdgfioigkijgaaT06
import Derived.Test.YtkdgfioigkijgaaT07
import Derived.Test.YtkdgfioigkijgaaT08
import Derived.Test.YtkdgfioigkijgaaT09
import Derived.Test.YtkdgfioigkijgaaT10
import Derived.Test.YtkdgfioigkijgaaT11
import Derived.Deep.RegionHeld3
/- Chapter 08: newPlan walked. No condition. -/
set_option linter.unusedVariables false
set_option linter.unusedSimpArgs false
set_option maxRecDepth 100000
namespace Go.Proofs.Ytkdgfioigkijgaa.Head
open Go.RowKit Go.Proofs.Ytkdgfioigkijgaa.Lib Go.Proofs.Ytkdgfioigkijgaa.Ints Go.Proofs.Ytkdgfioigkijgaa.Runs
/-- a plan: how many are told of both, the runs, the lengths of their code -/
structure Plan (w0 w : World) (lit dist : List Int) (A : Option Addr) (n c : Nat) (B : Option Addr) (d : Nat) : Prop where
  runs : w.ownsRow 0 187 2 (.slice A n c) n (cells (hruns lit dist))
  lens : w.ownsRow 0 3 1 (.slice B 19 d) 19 (i64s (hlens (hruns lit dist)))
  newA : ∀ k, (Value.slice A n c).ownBlock = some k → w0.heap.size ≤ k
  newB : ∀ k, (Value.slice B 19 d).ownBlock = some k → w0.heap.size ≤ k
theorem Plan.frame {w0 w w' : World} {lit dist : List Int} {A B : Option Addr} {n c d : Nat} (h : Plan w0 w lit dist A n c B d) (hf : Fr w w' []) : Plan w0 w' lit dist A n c B d :=
  ⟨own_frame h.runs hf (by simp), own_frame h.lens hf (by simp), h.newA, h.newB⟩
def planC (lit dist : List Int) (A : Option Addr) (n c : Nat) (B : Option Addr) (d : Nat) : Array Value :=
  #[.int .i64 ((cutL lit 257).length : Nat), .int .i64 ((distL dist).length : Nat), .slice A n c, .slice B 19 d, .int .i64 (toldN (hlens (hruns lit dist)) 19 : Nat)]
def noPlan : Array Value := #[.int .i64 0, .int .i64 0, .slice none 0 0, .slice none 0 0, .int .i64 0]
def PlanPost (w : World) (lit dist : List Int) (e : Ending) (w' : World) : Prop :=
  (okH lit dist = true → ∃ A n c B d, e = .returned (.tuple #[.agg (planC lit dist A n c B d), .int .i64 0]) ∧ Plan w w' lit dist A n c B d ∧ Fr w w' []) ∧
  (okH lit dist = false → e = .returned (.tuple #[.agg noPlan, .int .i64 80]) ∧ Fr w w' [])
theorem planInfo : (Try.prog.info? 183).map (·.size) = some 5 := by kernel_rfl
theorem results_pt {fn : Func} {p q : Tmp} (h : fn.results = #[.cell p 183, .tmp q]) (tmps : Array Value) (w : World) (g : Nat) (cs : Array Value)
    (hp : tmps.getD p undef = .pointer (some ⟨g, 0, none⟩)) (hg : w.heap[g]? = some (.cells cs 183 (0, 0))) (hc : cs.size = 5) (v : Value) (hv : tmps.getD q undef = v) :
    (results fn tmps).run Try.prog w = .ok (.tuple #[.agg cs, v]) w := by
  have hp' : tmps[p]?.getD undef = .pointer (some ⟨g, 0, none⟩) := by simpa using hp
  have hv' : tmps[q]?.getD undef = v := by simpa using hv
  simp [results, h, hp', hv', asAddr, run_loadVar_row w g 183 183 cs _ _ hg Try.underlying183 rfl (by rw [hc]; exact planInfo)]
set_option maxHeartbeats 8000000 in
theorem newPlan_any (w : World) (A B : Option Addr) (n c m d : Nat) (lit dist : List Int) (p q : Option Nat) (hX : SlArg w A n c (i64s lit) p) (hY : SlArg w B m d (i64s dist) q) :
    Calls Try.prog 94 #[.slice A n c, .slice B m d] w (PlanPost w lit dist) := by
  obtain ⟨j0, hj0, hj1, hj2, hj3⟩ := info_parts infoI64
  have hn : lit.length = n := by have := hX.len; simpa [i64s] using this
  have hm : dist.length = m := by have := hY.len; simpa [i64s] using this
  have HX := Hd.mk hX
  have HY := Hd.mk hY
  clear hX hY
  obtain ⟨b, hb⟩ : ∃ b, b = okH lit dist := ⟨_, rfl⟩
  have HB := Hd.mk hb
  go_enter Try.func94, Try.ntmps94
  go_wp2_with (fail)
  have A0 := (Fr.refl w []).alloc (.cells noPlan 183)
  have K0 := Hd.mk (blk_new w (.cells noPlan 183))
  refine (can_any (w.alloc (.cells noPlan 183)) A B n c m d lit dist p q (HX.out.frame A0 (by simp)) (HY.out.frame A0 (by simp)) b hb).mono ?_
  rintro e w1 ⟨rfl, h1⟩
  have K1 := Hd.mk (h1.blk K0.out (by simp))
  have F1 := Hd.mk (A0.trans h1 (by simp))
  have hg0 : w.heap.size ≤ w.heap.size := Nat.le_refl _
  obtain ⟨g, hg⟩ : ∃ g, g = w.heap.size := ⟨_, rfl⟩
  rw [← hg] at K1 hg0 ⊢
  have hgw : w.heap.size ≤ g := by omega
  clear K0 A0 h1 hg hb hg0
  cases b with
  | false =>
    go_wp2_with (refine wpList_store_row rfl 183 _ _ rfl g noPlan rfl rfl 183 _ (by exact K1.out) (by kernel_rfl) (by kernel_rfl) (by kernel_rfl) ?_)
    refine bodyPost_ret (results_pt rfl _ _ g noPlan rfl (setRow_heap _ _ _ _ _ _ K1.out) rfl _ rfl) rfl ?_
    exact ⟨fun h => absurd h (by rw [← HB.out]; decide), fun _ => ⟨rfl, Code.Fr.setRow F1.out _ (.inr hgw)⟩⟩
  | true =>
    obtain ⟨o1, o2, o3, o4, o5, o6⟩ := okH_parts HB.out.symm
    obtain ⟨a1, a2, a3, a4⟩ := allL_ok HB.out.symm
    have HV := Hd.mk a1
    obtain ⟨r1, r2, r3⟩ := hruns_ok HB.out.symm
    have HR := Hd.mk (And.intro r1 r3)
    obtain ⟨ka, hka⟩ : ∃ k, k = cutN lit 257 n := ⟨_, rfl⟩
    obtain ⟨kb, hkb⟩ : ∃ k, k = cutN dist 1 m := ⟨_, rfl⟩
    have KA := Hd.mk hka
    have KB := Hd.mk hkb
    clear a1 o4 o5 o6 r1 r3 hka hkb
    go_wp2_with (fail)
    refine (cut_any w1 A n c lit p (HX.out.frame F1.out (by simp)) 257 (by omega) ka KA.out).mono ?_
    rintro e w2 ⟨rfl, rfl⟩
    go_wp2_with (fail)
    refine (cut_any w1 B m d dist q (HY.out.frame F1.out (by simp)) 1 (by omega) kb KB.out).mono ?_
    rintro e w2 ⟨rfl, rfl⟩
    have la : (cutL lit 257).length = ka := by rw [cutL_len, hn, KA.out]
    have lb : (cutL dist 1).length = kb := by rw [cutL_len, hm, KB.out]
    have hkan : ka ≤ n := by rw [KA.out]; exact cutN_le _ _ _
    have hkbm : kb ≤ m := by rw [KB.out]; exact cutN_le _ _ _
    have XA : Hd (Sl w1 A (i64s (cutL lit 257)) p) := ⟨by have := (HX.out.sl.frame F1.out (by simp)).take ka; unfold cutL; rw [hn, ← KA.out]; simpa [i64s, List.map_take] using this⟩
    have XB : Hd (Sl w1 B (i64s (cutL dist 1)) q) := ⟨by have := (HY.out.sl.frame F1.out (by simp)).take kb; unfold cutL; rw [hm, ← KB.out]; simpa [i64s, List.map_take] using this⟩
    have NA : Hd (A = none → n = 0 ∧ c = 0) := ⟨HX.out.nil⟩
    have NB : Hd (B = none → m = 0 ∧ d = 0) := ⟨HY.out.nil⟩
    obtain ⟨kd, hkd⟩ : ∃ k, k = (distL dist).length := ⟨_, rfl⟩
    have hkd2 := distL_len dist (by omega)
    rw [← hkd] at hkd2
    have HKD : Hd (distL dist = if kb = 0 then [0] else cutL dist 1) := ⟨by unfold distL; rw [lb]⟩
    go_upto_if 30 with (fail)
    go_cut [7] from 31 to 36 (fun s7 wc => ∃ (B' : Option Addr) (d' : Nat) (q' : Option Nat), s7 = .slice B' kd d' ∧ Hd (Sl wc B' (i64s (distL dist)) q') ∧ Hd (B' = none → kd = 0 ∧ d' = 0) ∧ Hd (Fr w1 wc []))
    case first =>
      by_cases h0 : kb = 0
      · have hz : distL dist = [0] := by rw [HKD.out, if_pos h0]
        have HZ := Hd.mk hz
        obtain rfl : kd = 1 := by rw [hkd, hz]; rfl
        have hkb0 : ((kb : Int) == 0) = true := by simp; omega
        clear hz hkd HX XA NA
        go_wp2
        go_meet
        case rel => exact ⟨_, 1, some w1.heap.size, rfl, ⟨by rw [HZ.out]; exact sl_of_blk (blk_new w1 _)⟩, ⟨fun h => by cases h⟩, ⟨(Fr.refl w1 []).alloc _⟩⟩
      · have hz : distL dist = cutL dist 1 := by rw [HKD.out, if_neg h0]
        obtain rfl : kd = kb := by rw [hkd, hz, lb]
        have HZ := Hd.mk hz
        have hkb0 : ((kd : Int) == 0) = false := by simp; omega
        clear hz hkd HX XA NA
        go_wp2
        go_meet
        case rel => exact ⟨B, d, q, rfl, ⟨by rw [HZ.out]; exact XB.out⟩, ⟨fun h => by have := NB.out h; omega⟩, ⟨Fr.refl w1 []⟩⟩
    case rest =>
      obtain ⟨B', d', q', rfl, XB2, NB2, FC⟩ := hcut
      have F2 := Hd.mk (F1.out.trans FC.out (by simp))
      have K2 := Hd.mk (FC.out.blk K1.out (by simp))
      have XA2 := Hd.mk (XA.out.frame FC.out (by simp))
      have HKL : Hd (distL dist = distL dist ∧ kd = (distL dist).length) := ⟨⟨rfl, hkd⟩⟩
      have HLA : Hd ((cutL lit 257).length = ka) := ⟨la⟩
      have HAD : Hd (allL lit dist = cutL lit 257 ++ distL dist) := ⟨rfl⟩
      have hka2 : ka ≤ 286 := by omega
      clear FC XA XB HY HKD KA KB NB K1 F1 la lb hkd a3 a4
      go_wp2_with (first
        | (at_builtin; refine wpList_append_sl rfl (.const (.slice none 0 0)) (.tmp 32) 70 rfl 3 j0 (.int .i64 0) 1 8 Try.underlying70 hj0 hj1 hj2 hj3 rfl (by decide) (.slice none 0 0) 0 [] rfl (own_nil _ _ _ _) A ka c _ _ rfl (by rw [i64s_length, HLA.out]; omega) XA2.out (by intro h; have := NA.out h; omega) (i64s_one _) (by unfold maxLen; omega) (by omega) ?_; intro A3 c3 w3 hown3 hgrow3 haft3; rw [Nat.zero_add] at hown3 haft3; have O3 := Hd.mk hown3; have G3 := Hd.mk hgrow3; have AF3 := Hd.mk haft3; clear hown3 hgrow3 haft3; rw [Nat.zero_add])
        | (at_builtin; refine wpList_append_sl rfl (.tmp 33) (.tmp 34) 70 rfl 3 j0 (.int .i64 0) 1 8 Try.underlying70 hj0 hj1 hj2 hj3 rfl (by decide) (.slice A3 ka c3) ka _ rfl O3.out B' kd d' (i64s (distL dist)) q' rfl (by rw [i64s_length, HKL.out.2]; omega) (XB2.out.frame ((Fr.refl wc []).grown G3.out (fun k hk => by simp [Value.ownBlock] at hk)) (by simp)) NB2.out (i64s_one _) (by unfold maxLen; omega) (by omega) ?_; intro A4 c4 w4 hown4 hgrow4 haft4; have O4 := Hd.mk hown4; have G4 := Hd.mk hgrow4; have AF4 := Hd.mk haft4; clear hown4 hgrow4 haft4))
      have B3 : ∀ k, (Value.slice A3 ka c3).ownBlock = some k → wc.heap.size ≤ k := fun k hk => by
        rcases AF3.out with e | ⟨j, e, hj⟩
        · rw [hk] at e; simp [Value.ownBlock] at e
        · rw [hk] at e; cases e; exact hj
      have K3 := blk_grown G3.out K2.out (by simp [Value.ownBlock])
      have K4 := Hd.mk (blk_grown G4.out K3 (own_ne O3.out K3 (by decide)).symm)
      have F4 : Hd (Fr w w4 []) := ⟨(F2.out.grown G3.out (fun k hk => by simp [Value.ownBlock] at hk)).grown G4.out (fun k hk => .inr (by have := B3 k hk; have := F2.out.size; omega))⟩
      have L4 : Hd (allL lit dist = allL lit dist ∧ ka + kd = (allL lit dist).length) := ⟨rfl, by unfold allL; rw [List.length_append, HLA.out, HKL.out.2]⟩
      have S4 : Hd (SlArg w4 A4 (ka + kd) c4 (i64s (allL lit dist)) (Value.slice A4 (ka + kd) c4).ownBlock) := ⟨by
        have h1 := O4.out
        rw [List.nil_append, ← i64s_app, ← HAD.out] at h1
        obtain ⟨A', c', e1, h2, h3, _⟩ := own_slice h1
        injection e1 with e1 _ e3
        subst e1 e3
        exact ⟨by have := h1.1; omega, h2, h3, fun hA => own_none h1 hA, sl_of_own h1, fun b hb => own_lt h1 hb⟩⟩
      have hkd3 : 1 ≤ kd ∧ kd ≤ 30 := hkd2
      clear B3 K3 K2 F2 O3 G3 AF3 O4 G4 AF4 XA2 XB2 NB2 HX NA HAD
      refine (runs_any w4 A4 (ka + kd) c4 (allL lit dist) _ L4.out.2.symm S4.out.le S4.out.sl S4.out.nil (by omega) 0 (hruns lit dist) (by rw [HR.out.2]; rfl) (by rw [HR.out.2]; rfl)).mono ?_
      rintro e w5 ⟨A5, n5, c5, rfl, h1, h2, h3⟩
      have hn5 : n5 = (hruns lit dist).length := by have := h1.1; rw [cells_len] at this; omega
      have O5 := Hd.mk h1
      have NW5 : Hd (∀ k, (Value.slice A5 n5 c5).ownBlock = some k → w.heap.size ≤ k) := ⟨fun k hk => by have := h2 k hk; have := F4.out.size; omega⟩
      have F5 := Hd.mk (F4.out.trans h3 (by simp))
      have K5 := Hd.mk (h3.blk K4.out (by simp))
      clear h1 h2 h3 S4 K4 F4 L4
      obtain ⟨rs, hrs⟩ : ∃ rs, rs = hruns lit dist := ⟨_, rfl⟩
      rw [← hrs] at O5 HR r2 hn5
      have HRS := Hd.mk hrs
      clear hrs
      go_upto_region 9 with (fail)
      rw [freq_zero]
      have Z0 := Hd.mk (blk_new w5 (.cells (i64s (freqOf [])).toArray 191))
      have A6 := (Fr.refl w5 []).alloc (.cells (i64s (freqOf [])).toArray 191)
      have O6 := Hd.mk (own_frame O5.out A6 (by simp))
      have F6 := Hd.mk (F5.out.trans A6 (by simp))
      have K6 := Hd.mk (A6.blk K5.out (by simp))
      have hgf : w.heap.size ≤ w5.heap.size := F5.out.size
      generalize w5.alloc (.cells (i64s (freqOf [])).toArray 191) = w6 at *
      generalize w5.heap.size = gf at *
      clear A6 O5 F5 K5
      have hnA : Hd (∀ k, (Value.slice A5 n5 c5).ownBlock = some k → k ≠ gf) := ⟨fun k hk => by
        obtain ⟨cs, hcs⟩ := own_type O6.out hk
        exact blk_ne hcs Z0.out (by decide)⟩
      have hgg : g ≠ gf := blk_ne K6.out Z0.out (by decide)
      go_wp2
      go_loopg [43] n5 (fun kq jv wr => ∃ j : Nat, jv = .int .i64 (j : Nat) ∧ j + kq = n5 ∧ Hd (wr.heap[gf]? = some (.cells (i64s (freqOf (rs.take j))).toArray 191 (0, 0))) ∧ Hd (wr.ownsRow 0 187 2 (.slice A5 n5 c5) n5 (cells rs)) ∧ Hd (wr.heap[g]? = some (.cells noPlan 183 (0, 0))) ∧ Hd (Fr w wr []))
      case atStart => exact ⟨0, rfl, by omega, Z0, O6, K6, F6⟩
      case round =>
        obtain ⟨j, rfl, hj, HZ, HO, HK, HF⟩ := hrel
        by_cases hjn : j < n5
        · have hjr : j < rs.length := by omega
          obtain ⟨a, o1', e1, _, hcc⟩ := Sl.row (enc := enc) (sz := 2) (fun _ => rfl) (sl_of_own2 HO.out (by omega)) hjr (by decide)
          subst e1
          obtain ⟨r, hr⟩ : ∃ r, r = rs[j] := ⟨_, rfl⟩
          rw [← hr] at hcc
          have hrb := HR.out.1 r (by rw [hr]; exact List.getElem_mem hjr)
          have c0 := hcc 0 (by decide)
          have c1 := hcc 1 (by decide)
          have HTK : Hd (rs.take (j + 1) = rs.take j ++ [r]) := ⟨by rw [List.take_succ_eq_append_getElem hjr, hr]⟩
          obtain ⟨rsym, rcnt⟩ := r
          obtain ⟨hb1, hb2, _⟩ := hrb
          simp only at hb1 hb2
          obtain ⟨s, rfl⟩ := Int.eq_ofNat_of_zero_le hb1
          simp only [enc, List.getElem?_cons_zero, List.getElem?_cons_succ, Nat.add_zero] at c0 c1
          have bz := blk_alloc HZ.out (.cells #[.int .i64 (s : Nat), .int .i64 rcnt] 187)
          have k0 : (wr.alloc (.cells #[.int .i64 (s : Nat), .int .i64 rcnt] 187)).cell? ⟨gf, s, none⟩ = some (.int .i64 (freqF (rs.take j) s : Nat)) := by rw [blk_cell bz s, List.getElem?_toArray]; exact freq_get _ (by omega)
          have kf := blk_frozen bz s
          have hfb := freqF_le (rs.take j) s
          rw [List.length_take] at hfb
          have HZ2 := Hd.mk (blk_set bz s (.int .i64 ((freqF (rs.take j) s : Nat) + 1 : Int)))
          rw [freq_set (rs.take j) ((s : Int), rcnt) (by omega) rfl, ← HTK.out] at HZ2
          have HO2 := Hd.mk (own_setFar (own_frame HO.out ((Fr.refl wr []).alloc (.cells #[.int .i64 (s : Nat), .int .i64 rcnt] 187)) (by simp)) (a := ⟨gf, s, none⟩) (.int .i64 ((freqF (rs.take j) s : Nat) + 1 : Int)) (fun h => hnA.out _ h rfl))
          have HK2 := Hd.mk (blk_far (blk_alloc HK.out (.cells #[.int .i64 (s : Nat), .int .i64 rcnt] 187)) (p := ⟨gf, s, none⟩) hgg (.int .i64 ((freqF (rs.take j) s : Nat) + 1 : Int)))
          clear bz
          generalize freqF (rs.take j) s = fq at *
          clear hcc hr
          go_wp2
          go_roundg (gk - 1)
          case measure => omega
          case rel => exact ⟨j + 1, by go_num, by omega, HZ2, HO2, HK2, ⟨(HF.out.alloc _).setCell _ (.inr hgf)⟩⟩
        · obtain rfl : j = n5 := by omega
          have hz7 := HZ.out
          rw [List.take_of_length_le (by omega)] at hz7
          have Z7 := Hd.mk hz7
          have HE := Hd.mk (hlens_eq (rs := rs) (by omega))
          have HLN := Hd.mk (hlens_le (rs := rs) (by omega))
          have SF : Hd (Sl wr (some ⟨gf, 0, none⟩) (i64s (freqOf rs)) (some gf)) := ⟨by have := sl_of_blk hz7; simpa using this⟩
          clear hz7 HZ Z0 K6 O6 F6
          go_wp2_with (fail)
          refine (Lens.lengths_any wr 7 (some ⟨gf, 0, none⟩) 19 19 (freqOf rs) _ (freqOf_len rs) SF.out (by omega)).mono ?_
          rintro e w8 hlp
          unfold Lens.LensPost at hlp
          obtain ⟨A8, n8, c8, rfl, h1, h2, h3⟩ := hlp
          rw [HE.out.1] at h1 ⊢
          rw [← HE.out.2] at h1
          have hn8 : n8 = 19 := by have := h1.1; rw [i64s_length, hlens_len (by omega)] at this; omega
          subst hn8
          have O8 := Hd.mk h1
          have NW8 : Hd (∀ k, (Value.slice A8 19 c8).ownBlock = some k → w.heap.size ≤ k) := ⟨fun k hk => by have := h2 k hk; have := HF.out.size; omega⟩
          have F8 := Hd.mk (HF.out.trans h3 (by simp))
          have K8 := Hd.mk (h3.blk HK.out (by simp))
          have OA8 := Hd.mk (own_frame HO.out h3 (by simp))
          clear h1 h2 h3 HF HK HO Z7 SF
          simp only
          obtain ⟨hl, hhl⟩ : ∃ hl, hl = hlens rs := ⟨_, rfl⟩
          rw [← hhl] at O8 HLN
          have HHL := Hd.mk hhl
          have hl19 : hl.length = 19 := by rw [hhl]; exact hlens_len (by omega)
          clear hhl HE
          have o8' := O8.out
          simp only at o8'
          have O8' := Hd.mk o8'
          subst hn5
          clear o8' O8
          go_upto_region 16 with (fail)
          obtain ⟨pc, hpc⟩ : ∃ pc : Nat → Array Value, pc = fun t => #[.int .i64 (ka : Nat), .int .i64 (kd : Nat), .slice A5 rs.length c5, .slice A8 19 c8, .int .i64 (t : Nat)] := ⟨_, rfl⟩
          have B9 : Hd ((w8.alloc (.cells #[.int .i64 (ka : Nat), .int .i64 (kd : Nat), .slice A5 rs.length c5, .slice A8 19 c8, .int .i64 4] 183)).heap[w8.heap.size]? = some (.cells (pc 4) 183 (0, 0))) := ⟨by rw [hpc]; exact blk_new w8 _⟩
          have A9 := (Fr.refl w8 []).alloc (.cells #[.int .i64 (ka : Nat), .int .i64 (kd : Nat), .slice A5 rs.length c5, .slice A8 19 c8, .int .i64 4] 183)
          have O9 := Hd.mk (own_frame O8'.out A9 (by simp))
          have OA9 := Hd.mk (own_frame OA8.out A9 (by simp))
          have K9 := Hd.mk (A9.blk K8.out (by simp))
          have F9 := Hd.mk (F8.out.trans A9 (by simp))
          have hgp : w.heap.size ≤ w8.heap.size := F8.out.size
          have hgp2 : g ≠ w8.heap.size := by have := blk_lt K8.out; omega
          have HPC := Hd.mk hpc
          clear A9 O8' OA8 K8 F8 hpc
          generalize w8.alloc (.cells #[.int .i64 (ka : Nat), .int .i64 (kd : Nat), .slice A5 rs.length c5, .slice A8 19 c8, .int .i64 4] 183) = w9 at *
          generalize w8.heap.size = gp at *
          have HPS : Hd (∀ t u : Nat, (pc t).setIfInBounds 4 (.int .i64 (u : Nat)) = pc u) := ⟨fun t u => by rw [HPC.out]; rfl⟩
          have HP4 : Hd (∀ t : Nat, (pc t)[4]? = some (.int .i64 (t : Nat))) := ⟨fun t => by rw [HPC.out]; rfl⟩
          go_wp2_with (fail)
          refine (order_any w9).mono ?_
          rintro e w10 ⟨rfl, h1⟩
          have B10 := Hd.mk (h1.blk B9.out (by simp))
          have K10 := Hd.mk (h1.blk K9.out (by simp))
          have O10 := Hd.mk (own_frame O9.out h1 (by simp))
          have OA10 := Hd.mk (own_frame OA9.out h1 (by simp))
          have F10 := Hd.mk (F9.out.trans h1 (by simp))
          clear h1 B9 K9 O9 OA9 F9
          go_wp2
          go_loopg [67] 19 (fun kq jv wq => ∃ j : Nat, jv = .int .i64 (j : Nat) ∧ j + kq = 19 ∧ Hd (wq.heap[gp]? = some (.cells (pc (toldN hl j)) 183 (0, 0))) ∧ Hd (wq.heap[g]? = some (.cells noPlan 183 (0, 0))) ∧ Hd (wq.ownsRow 0 3 1 (.slice A8 19 c8) 19 (i64s hl)) ∧ Hd (wq.ownsRow 0 187 2 (.slice A5 rs.length c5) rs.length (cells rs)) ∧ Hd (Fr w wq []))
          case atStart => exact ⟨0, rfl, rfl, B10, K10, O10, OA10, F10⟩
          case round =>
            obtain ⟨j, rfl, hj, HP, HK, HO, HOA, HF⟩ := hrel
            by_cases hjn : j < 19
            · have hi := ordIdx j hjn
              have hol := ord_lt j hjn
              have HT : Hd (toldN hl (j + 1) = if 0 < hl.getD (ord.getD j 0) 0 then max (toldN hl j) (j + 1) else toldN hl j) := ⟨rfl⟩
              obtain ⟨bx, _, rfl⟩ : ∃ bx, True ∧ A8 = some ⟨bx, 0, none⟩ := by
                obtain ⟨g8, c8', e8, _⟩ := own_some HO.out (by decide)
                injection e8 with e8 _ _
                exact ⟨g8, trivial, e8⟩
              have k0 := i64_at (sl_of_own HO.out) (i := ord.getD j 0) (by omega) rfl
              have htb := toldN_le hl j
              have htg := toldN_ge hl j
              have k4 := (blk_cell HP.out 4).trans (HP4.out _)
              have f4 := blk_frozen HP.out 4
              have HL2 := HLN.out (ord.getD j 0)
              generalize ord.getD j 0 = o at *
              generalize hl.getD o 0 = x at *
              obtain ⟨td, htd⟩ : ∃ td, td = toldN hl j := ⟨_, rfl⟩
              rw [← htd] at HP HT htb htg k4
              clear htd
              rw [Nat.zero_add] at k0
              by_cases hx : x > 0
              · have HT2 : Hd (toldN hl (j + 1) = max td (j + 1)) := ⟨by rw [HT.out, if_pos hx]⟩
                have HP2 := Hd.mk (blk_set HP.out 4 (.int .i64 ((max td (j + 1) : Nat) : Int)))
                rw [HPS.out, ← HT2.out] at HP2
                have HK2 := Hd.mk (blk_far HK.out (p := ⟨gp, 4, none⟩) hgp2 (.int .i64 ((max td (j + 1) : Nat) : Int)))
                have HO2 := Hd.mk (own_setFar HO.out (a := ⟨gp, 4, none⟩) (.int .i64 ((max td (j + 1) : Nat) : Int)) (own_ne HO.out HP.out (by decide)))
                have HOA2 := Hd.mk (own_setFar HOA.out (a := ⟨gp, 4, none⟩) (.int .i64 ((max td (j + 1) : Nat) : Int)) (own_ne HOA.out HP.out (by decide)))
                have hmx : (if (td : Int) < (j : Int) + 1 then (j : Int) + 1 else (td : Int)) = ((max td (j + 1) : Nat) : Int) := by split <;> omega
                clear HT HP HK HO HOA
                go_wp2
                go_roundg (gk - 1)
                case measure => omega
                case rel => exact ⟨j + 1, by go_num, by omega, by rw [HT2.out] at HP2 ⊢; exact HP2, HK2, HO2, HOA2, ⟨HF.out.setCell _ (.inr hgp)⟩⟩
              · have HT2 : Hd (toldN hl (j + 1) = td) := ⟨by rw [HT.out, if_neg hx]⟩
                go_wp2
                go_roundg (gk - 1)
                case measure => omega
                case rel => exact ⟨j + 1, by go_num, by omega, by rw [HT2.out]; exact HP, HK, HO, HOA, HF⟩
            · obtain rfl : j = 19 := by omega
              obtain ⟨td, htd⟩ : ∃ td, td = toldN hl 19 := ⟨_, rfl⟩
              rw [← htd] at HP
              have HTD := Hd.mk htd
              clear htd
              go_wp2_with (first
                | (refine wpList_load_row rfl 183 _ rfl gp rfl 183 (pc td) (0, 0) _ HP.out Try.underlying183 rfl (by rw [HPC.out]; exact planInfo) ?_)
                | (refine wpList_store_row rfl 183 _ _ rfl g (pc td) rfl rfl 183 _ (by exact HK.out) (by rw [HPC.out]; exact planInfo) (by rw [HPC.out]; rfl) (by rw [HPC.out]; first | rfl | simp [Value.oneCell']) ?_))
              refine bodyPost_ret (results_pt rfl _ _ g (pc td) rfl (setRow_heap _ _ _ _ _ _ HK.out) (by rw [HPC.out]; rfl) _ rfl) rfl ?_
              have HF2 := Code.Fr.setRow HF.out (pc td) (g := g) (.inr hgw)
              refine ⟨fun _ => ⟨A5, rs.length, c5, A8, c8, ?_, ?_, HF2⟩, fun h => absurd h (by rw [← HB.out]; decide)⟩
              · rw [HPC.out, planC, ← HRS.out, ← HHL.out, HTD.out, HLA.out, HKL.out.2]; rfl
              · have hw : Fr wr (wr.setRow g (pc td)) [g] := Code.Fr.setRow (Fr.refl wr [g]) _ (.inl (by simp))
                refine ⟨?_, ?_, NW5.out, NW8.out⟩
                · rw [← HRS.out]
                  exact own_frame HOA.out hw (fun k hk hm => by
                    simp at hm; subst hm
                    exact own_ne HOA.out HK.out (by decide) hk)
                · rw [← HRS.out, ← HHL.out]
                  exact own_frame HO.out hw (fun k hk hm => by
                    simp at hm; subst hm
                    exact own_ne HO.out HK.out (by decide) hk)
end Go.Proofs.Ytkdgfioigkijgaa.Head
/- Chapter 08: Cost walked. No condition. -/
set_option linter.unusedVariables false
set_option linter.unusedSimpArgs false
set_option maxRecDepth 100000
namespace Go.Proofs.Ytkdgfioigkijgaa.Head
open Go.RowKit Go.Proofs.Ytkdgfioigkijgaa.Lib Go.Proofs.Ytkdgfioigkijgaa.Ints Go.Proofs.Ytkdgfioigkijgaa.Runs
theorem kinds_full (w : World) (s b L M : Int) (h0 : 0 ≤ s) (h1 : s ≤ 18) (hb : b = kbits s) (hL : L = leastN s) (hM : M = mostN s) : Calls Try.prog 95 #[.int .i64 s] w fun e w' => e = .returned (.agg #[.int .i64 b, .int .i64 L, .int .i64 M]) ∧ Fr w w' [] := by
  subst hb hL hM
  by_cases h : s < 16
  · refine (kinds_low w s h).mono ?_
    rintro e w' ⟨rfl, hf⟩
    exact ⟨by unfold kbits leastN mostN; rw [if_pos h, if_pos h, if_pos h], hf⟩
  · have : s = 16 ∨ s = 17 ∨ s = 18 := by omega
    rcases this with rfl | rfl | rfl
    · exact kinds_16 w
    · exact kinds_17 w
    · exact kinds_18 w
theorem kf0 (a b c : Int) : ∀ w : World, (Instr.field 189 (.agg #[.int .i64 a, .int .i64 b, .int .i64 c]) 0).run Try.prog w = .ok (.int .i64 a) w := fun w => by kernel_rfl
def runCost (hl : List Int) (r : Int × Int) : Int := hl.getD r.1.toNat 0 + kbits r.1
def costF (hl : List Int) : List (Int × Int) → Int
  | [] => 0
  | r :: l => runCost hl r + costF hl l
theorem costF_app (hl : List Int) : ∀ a b, costF hl (a ++ b) = costF hl a + costF hl b
  | [], b => by simp [costF]
  | t :: a, b => by simp only [List.cons_append, costF, costF_app hl a b]; omega
theorem costF_take {hl : List Int} {l : List (Int × Int)} {j : Nat} (h : j < l.length) : costF hl (l.take (j + 1)) = costF hl (l.take j) + runCost hl l[j] := by
  rw [List.take_succ_eq_append_getElem h, costF_app]
  simp [costF]
theorem kbits_le (s : Int) : 0 ≤ kbits s ∧ kbits s ≤ 7 := by
  unfold kbits
  split
  · omega
  · split
    · omega
    · split <;> omega
theorem costF_le {hl : List Int} (h : ∀ s, 0 ≤ hl.getD s 0 ∧ hl.getD s 0 ≤ 7) : ∀ l, 0 ≤ costF hl l ∧ costF hl l ≤ 14 * (l.length : Nat)
  | [] => by simp [costF]
  | r :: l => by
    have h1 := h r.1.toNat
    have h2 := kbits_le r.1
    have h3 := costF_le h l
    simp only [costF, runCost, List.length_cons]
    omega
/-- how many bits a head has -/
def hcost (lit dist : List Int) : Int := 14 + 3 * (toldN (hlens (hruns lit dist)) 19 : Nat) + costF (hlens (hruns lit dist)) (hruns lit dist)
theorem fcell {w w' : World} {F : List Nat} (h : Fr w w' F) {a : Addr} {v : Value} (hc : w.cell? a = some v) (hF : a.block ∉ F) : w'.cell? a = some v := by
  rw [World.cell?_of_block (w := w) (h.block _ (World.block_lt_of_cell? w _ hc) hF)]; exact hc
set_option maxHeartbeats 8000000 in
theorem hcost_any (w : World) (A B : Option Addr) (n c m d : Nat) (lit dist : List Int) (p q : Option Nat) (hX : SlArg w A n c (i64s lit) p) (hY : SlArg w B m d (i64s dist) q) (er k : Int) (her : er = if okH lit dist then 0 else 80) (hk : k = if okH lit dist then hcost lit dist else 0) :
    Calls Try.prog 88 #[.slice A n c, .slice B m d] w fun e w' => e = .returned (.tuple #[.int .i64 k, .int .i64 er]) ∧ Fr w w' [] := by
  have HX := Hd.mk hX
  have HY := Hd.mk hY
  have HER := Hd.mk her
  have HK := Hd.mk hk
  clear hX hY her hk
  go_enter Try.func88, Try.ntmps88
  go_wp2_with (fail)
  refine (newPlan_any w A B n c m d lit dist p q HX.out HY.out).mono ?_
  intro e w1 hp
  unfold PlanPost at hp
  obtain ⟨hp1, hp2⟩ := hp
  obtain ⟨b, hb⟩ : ∃ b, b = okH lit dist := ⟨_, rfl⟩
  rw [← hb] at hp1 hp2 HER HK
  cases b with
  | false =>
    obtain ⟨rfl, hf⟩ := hp2 rfl
    have F1 := Hd.mk hf
    obtain rfl : er = 80 := HER.out
    obtain rfl : k = 0 := HK.out
    clear hp1 hp2 hf hb
    unfold noPlan
    go_wp2
    go_ret2
    exact ⟨rfl, F1.out.alloc _⟩
  | true =>
    obtain ⟨A1, n1, c1, B1, d1, rfl, hpl, hf⟩ := hp1 rfl
    obtain rfl : er = 0 := HER.out
    have hkk : k = hcost lit dist := HK.out
    obtain ⟨r1, r2, r3⟩ := hruns_ok hb.symm
    have HLE := hlens_le (rs := hruns lit dist) (by omega)
    have hl19 := hlens_len (rs := hruns lit dist) (by omega)
    have hnr : n1 = (hruns lit dist).length := by have := hpl.runs.1; rw [cells_len] at this; omega
    have P1 := Hd.mk hpl
    have F1 := Hd.mk hf
    have htl := toldN_le (hlens (hruns lit dist)) 19
    have hce := costF_le HLE (hruns lit dist)
    have hok := Hd.mk hb.symm
    have hcc : k = 14 + 3 * (toldN (hlens (hruns lit dist)) 19 : Nat) + costF (hlens (hruns lit dist)) (hruns lit dist) := hkk
    unfold planC
    obtain ⟨td, htd⟩ : ∃ td, td = toldN (hlens (hruns lit dist)) 19 := ⟨_, rfl⟩
    rw [← htd] at htl hcc ⊢
    have O1 := Hd.mk hpl.runs
    have O2 := Hd.mk hpl.lens
    obtain ⟨rs, hrs⟩ : ∃ rs, rs = hruns lit dist := ⟨_, rfl⟩
    obtain ⟨hl, hhl⟩ : ∃ hl, hl = hlens (hruns lit dist) := ⟨_, rfl⟩
    rw [← hhl] at O2 HLE hl19
    rw [← hhl, ← hrs] at hcc
    rw [← hrs] at O1 r1 r2 hnr
    have HCC := Hd.mk hcc
    have HRB := Hd.mk r1
    have HLE2 := Hd.mk HLE
    clear hp1 hp2 hf hpl hkk HLE hcc hrs hhl htd r1 r3 hce hb P1 HX HY HK HER
    generalize ((cutL lit 257).length : Int) = xa at *
    generalize ((distL dist).length : Int) = xb at *
    go_upto_region 4 with (fail)
    obtain ⟨pc, hpc⟩ : ∃ pc : Array Value, pc = #[.int .i64 xa, .int .i64 xb, .slice A1 n1 c1, .slice B1 19 d1, .int .i64 (td : Nat)] := ⟨_, rfl⟩
    have B2 : Hd ((w1.alloc (.cells #[.int .i64 xa, .int .i64 xb, .slice A1 n1 c1, .slice B1 19 d1, .int .i64 (td : Nat)] 183)).heap[w1.heap.size]? = some (.cells #[.int .i64 xa, .int .i64 xb, .slice A1 n1 c1, .slice B1 19 d1, .int .i64 (td : Nat)] 183 (0, 0))) := ⟨blk_new w1 _⟩
    subst hnr
    have A2 := (Fr.refl w1 []).alloc (.cells #[.int .i64 xa, .int .i64 xb, .slice A1 rs.length c1, .slice B1 19 d1, .int .i64 (td : Nat)] 183)
    have OA := Hd.mk (own_frame O1.out A2 (by simp))
    have OB := Hd.mk (own_frame O2.out A2 (by simp))
    have F2 := Hd.mk (F1.out.trans A2 (by simp))
    clear A2 O1 O2 F1 hpc
    generalize w1.alloc (.cells #[.int .i64 xa, .int .i64 xb, .slice A1 rs.length c1, .slice B1 19 d1, .int .i64 (td : Nat)] 183) = w2 at *
    generalize w1.heap.size = g at *
    have k4 := blk_cell B2.out 4
    have k2 := blk_cell B2.out 2
    simp only [List.getElem?_toArray, List.getElem?_cons_zero, List.getElem?_cons_succ] at k4 k2
    obtain ⟨bx, _, rfl⟩ : ∃ bx, True ∧ B1 = some ⟨bx, 0, none⟩ := by
      obtain ⟨g8, c8', e8, _⟩ := own_some OB.out (by decide)
      injection e8 with e8 _ _
      exact ⟨g8, trivial, e8⟩
    go_wp2
    go_loopg [8, 27] rs.length (fun kq sv jv wr => ∃ (j : Nat) (s : Int), sv = .int .i64 s ∧ jv = .int .i64 (j : Nat) ∧ j + kq = rs.length ∧ Hd (s = 14 + 3 * (td : Nat) + costF hl (rs.take j)) ∧ Hd (Fr w2 wr []))
    case atStart => exact ⟨0, 14 + 3 * (td : Nat), rfl, rfl, by omega, ⟨by simp [costF]⟩, ⟨Fr.refl _ _⟩⟩
    case round =>
      obtain ⟨j, s, rfl, rfl, hj, HM, HF⟩ := hrel
      by_cases hjn : j < rs.length
      · obtain ⟨a, o1, e1, _, hcc⟩ := Sl.row (enc := enc) (sz := 2) (fun _ => rfl) (sl_of_own2 (own_frame OA.out HF.out (by simp)) (by omega)) hjn (by decide)
        subst e1
        obtain ⟨r, hr⟩ : ∃ r, r = rs[j] := ⟨_, rfl⟩
        rw [← hr] at hcc
        have hrb := HRB.out r (by rw [hr]; exact List.getElem_mem hjn)
        have c0 := hcc 0 (by decide)
        have c1 := hcc 1 (by decide)
        have HTK : Hd (costF hl (rs.take (j + 1)) = costF hl (rs.take j) + runCost hl r) := ⟨by rw [costF_take hjn, hr]⟩
        have hce := costF_le HLE2.out (rs.take j)
        rw [List.length_take] at hce
        have hs0 : 0 ≤ s ∧ s ≤ 5000 := by rw [HM.out]; omega
        obtain ⟨rsym, rcnt⟩ := r
        obtain ⟨hb1, hb2, _⟩ := hrb
        simp only at hb1 hb2
        obtain ⟨y, rfl⟩ := Int.eq_ofNat_of_zero_le hb1
        simp only [enc, List.getElem?_cons_zero, List.getElem?_cons_succ, Nat.add_zero] at c0 c1
        have HRC : Hd (runCost hl ((y : Int), rcnt) = hl.getD y 0 + kbits (y : Int)) := ⟨rfl⟩
        have kl : wr.cell? ⟨bx, y, none⟩ = some (.int .i64 (hl.getD y 0)) := by
          have := i64_at (sl_of_own (own_frame OB.out HF.out (by simp))) (i := y) (by omega) rfl
          rwa [Nat.zero_add] at this
        have hlb := HLE2.out y
        have hkb := kbits_le (y : Int)
        obtain ⟨kb, hkb'⟩ : ∃ kb, kb = kbits (y : Int) := ⟨_, rfl⟩
        rw [← hkb'] at HRC hkb
        have HKB := Hd.mk hkb'
        have k3 : wr.cell? ⟨g, 3, none⟩ = some (.slice (some ⟨bx, 0, none⟩) 19 d1) := (blk_cell (HF.out.blk B2.out (by simp)) 3)
        generalize hl.getD y 0 = x at *
        clear hcc hr hkb' hce
        go_upto_region 8 with (fail)
        have bz := blk_new wr (.cells #[.int .i64 (y : Nat), .int .i64 rcnt] 187)
        have A3 := (Fr.refl wr []).alloc (.cells #[.int .i64 (y : Nat), .int .i64 rcnt] 187)
        have d0 := blk_cell bz 0
        simp only [List.getElem?_toArray, List.getElem?_cons_zero] at d0
        have d1' := fcell A3 kl (by simp)
        have d2 := fcell A3 k3 (by simp)
        have F3 := Hd.mk (HF.out.trans A3 (by simp))
        clear A3 bz kl k3 c0 c1
        generalize wr.alloc (.cells #[.int .i64 (y : Nat), .int .i64 rcnt] 187) = w3 at *
        generalize wr.heap.size = gr at *
        have hf0 := kf0
        have hb3 : (y : Int) < 19 := by omega
        have n1 : IntKind.i64.wrap (x + kb) = x + kb := IntWalk.i64_in _ (by omega)
        have n2 : IntKind.i64.wrap (s + (x + kb)) = s + (x + kb) := IntWalk.i64_in _ (by omega)
        go_region_held3 (fun w' => w'.cell? ⟨gr, 0, none⟩ = some (.int .i64 (y : Nat)) ∧ w'.cell? ⟨bx, y, none⟩ = some (.int .i64 x) ∧ w'.cell? ⟨g, 3, none⟩ = some (.slice (some ⟨bx, 0, none⟩) 19 d1)) (go_keep)
          (first | (go_at_call 95; refine (kinds_full _ (y : Int) kb _ _ hb1 hb2 HKB.out rfl rfl).mono ?_; rintro e w4 ⟨rfl, hf4⟩; have F4 := Hd.mk (F3.out.trans hf4.ofDrew (by simp)); have d0 := fcell hf4.ofDrew d0 (by simp); have d1' := fcell hf4.ofDrew d1' (by simp); have d2 := fcell hf4.ofDrew d2 (by simp); clear hf4))
        go_wp2
        go_roundg (gk - 1)
        case measure => omega
        case rel => exact ⟨j + 1, s + (x + kb), rfl, by go_num, by omega, ⟨by rw [HTK.out, HRC.out, HM.out]; omega⟩, F4⟩
      · obtain rfl : j = rs.length := by omega
        have hmm : Hd (k = s) := ⟨by rw [HCC.out, HM.out, List.take_length]⟩
        obtain rfl := hmm.out
        go_wp2
        go_ret2
        exact ⟨rfl, F2.out.trans HF.out (by simp)⟩
end Go.Proofs.Ytkdgfioigkijgaa.Head
/- Chapter 08: Write walked. Conditions: the writer has fewer than 2^49 bits. -/
set_option linter.unusedVariables false
set_option linter.unusedSimpArgs false
set_option maxRecDepth 100000
namespace Go.Proofs.Ytkdgfioigkijgaa.Head
open Go.RowKit Go.Proofs.Ytkdgfioigkijgaa.Lib Go.Proofs.Ytkdgfioigkijgaa.Ints Go.Proofs.Ytkdgfioigkijgaa.Runs Go.Proofs.Ytkdgfioigkijgaa.Num Go.Proofs.Ytkdgfioigkijgaa.Blk
def runP (hl : List Int) (r : Int × Int) : List (Nat × Nat) := [Code.part hl r.1, ((r.2 - leastN r.1).toNat, (kbits r.1).toNat)]
def ordP (hl : List Int) (k : Nat) : List (Nat × Nat) := (ord.take k).map fun s => ((hl.getD s 0).toNat, 3)
def runsP (hl : List Int) (rs : List (Int × Int)) : List (Nat × Nat) := rs.flatMap (runP hl)
/-- a head's parts -/
def headP (lit dist : List Int) : List (Nat × Nat) :=
  [((cutL lit 257).length - 257, 5), ((distL dist).length - 1, 5), (toldN (hlens (hruns lit dist)) 19 - 4, 4)] ++ ordP (hlens (hruns lit dist)) (toldN (hlens (hruns lit dist)) 19) ++ runsP (hlens (hruns lit dist)) (hruns lit dist)
theorem runsP_take {hl : List Int} {rs : List (Int × Int)} {j : Nat} (h : j < rs.length) : runsP hl (rs.take (j + 1)) = runsP hl (rs.take j) ++ runP hl rs[j] := by
  unfold runsP
  rw [List.take_succ_eq_append_getElem h, List.flatMap_append]; simp
theorem ordP_take (hl : List Int) {j : Nat} (h : j < 19) : ordP hl (j + 1) = ordP hl j ++ [((hl.getD (ord.getD j 0) 0).toNat, 3)] := by
  unfold ordP
  have h' : j < ord.length := h
  have e : ord.getD j 0 = ord[j] := by rw [List.getD_eq_getElem?_getD, List.getElem?_eq_getElem h']; rfl
  rw [List.take_succ_eq_append_getElem h', List.map_append, e]
  rfl
theorem ordP_tot (hl : List Int) : ∀ k, k ≤ 19 → totOf (ordP hl k) = 3 * k
  | 0, _ => rfl
  | k + 1, h => by rw [ordP_take hl (by omega), totOf_snoc2, ordP_tot hl k (by omega)]; simp only; omega
theorem runP_tot {hl : List Int} (hc : Code.check hl = 0) (r : Int × Int) : totOf (runP hl r) ≤ 22 := by
  have h1 := part_le hc r.1
  have h2 := kbits_le r.1
  simp only [runP, totOf]
  omega
theorem runsP_tot {hl : List Int} (hc : Code.check hl = 0) : ∀ rs, totOf (runsP hl rs) ≤ 22 * rs.length
  | [] => by simp [runsP, totOf]
  | r :: rs => by
    have h1 := runP_tot hc r
    have h2 := runsP_tot hc rs
    have e : runsP hl (r :: rs) = runP hl r ++ runsP hl rs := by simp [runsP]
    rw [e, totOf_app, List.length_cons]
    omega
theorem ordC_get {j : Nat} (h : j < 19) : ordC[j]? = some (.int .i64 ((ord.getD j 0 : Nat) : Int)) := by
  have : ∀ j, j < 19 → ordC[j]? = some (.int .i64 ((ord.getD j 0 : Nat) : Int)) := by
    intro j hj
    unfold ordC
    rw [List.getElem?_toArray, i64s_get, List.getElem?_map, List.getD_eq_getElem?_getD, List.getElem?_eq_getElem (show j < ord.length from hj)]
    rfl
  exact this j h
/-- what a Write leaves: where it answers 0, the parts behind; else nothing -/
def WrP (w w' : World) (gw N m : Nat) (q : Option Nat) (ok : Bool) (P : List (Nat × Nat)) : Prop := (ok = true → ∃ q', Pw w w' gw q q' N m P) ∧ (ok = false → Fr w w' [])
set_option maxHeartbeats 8000000 in
theorem hwrite_any (w : World) (A B : Option Addr) (n c m' d : Nat) (lit dist : List Int) (p q' : Option Nat) (hX : SlArg w A n c (i64s lit) p) (hY : SlArg w B m' d (i64s dist) q') (er : Int) (her : er = if okH lit dist then 0 else 80)
    (gw N m : Nat) (q : Option Nat) (hT : Bits.Tl w gw 91 N m q) (hm : m ≤ 562949953421312) :
    Calls Try.prog 89 #[.pointer (some ⟨gw, 0, none⟩), .slice A n c, .slice B m' d] w fun e w' => e = .returned (.int .i64 er) ∧ WrP w w' gw N m q (okH lit dist) (headP lit dist) := by
  have HX := Hd.mk hX
  have HY := Hd.mk hY
  have HER := Hd.mk her
  have T0 := Hd.mk hT
  clear hX hY her hT
  go_enter Try.func89, Try.ntmps89
  go_wp2_with (fail)
  refine (newPlan_any w A B n c m' d lit dist p q' HX.out HY.out).mono ?_
  intro e w1 hp
  unfold PlanPost at hp
  obtain ⟨hp1, hp2⟩ := hp
  obtain ⟨b, hb⟩ : ∃ b, b = okH lit dist := ⟨_, rfl⟩
  rw [← hb] at hp1 hp2 HER
  have HB := Hd.mk hb
  clear hb
  cases b with
  | false =>
    obtain ⟨rfl, hf⟩ := hp2 rfl
    have F1 := Hd.mk hf
    obtain rfl : er = 80 := HER.out
    clear hp1 hp2 hf
    unfold noPlan
    go_wp2
    go_ret
    exact ⟨rfl, (fun h => by rw [← HB.out] at h; cases h), fun _ => F1.out.alloc _⟩
  | true =>
    obtain ⟨A1, n1, c1, B1, d1, rfl, hpl, hf⟩ := hp1 rfl
    obtain rfl : er = 0 := HER.out
    obtain ⟨r1, r2, r3⟩ := hruns_ok HB.out.symm
    obtain ⟨_, _, a3, a4⟩ := allL_ok HB.out.symm
    have hdl := distL_len dist (okH_parts HB.out.symm).2.2.1
    have HLE := hlens_le (rs := hruns lit dist) (by omega)
    have hl19 := hlens_len (rs := hruns lit dist) (by omega)
    have hck := hlens_check (rs := hruns lit dist) (by omega)
    have hnr : n1 = (hruns lit dist).length := by have := hpl.runs.1; rw [cells_len] at this; omega
    have F1 := Hd.mk hf
    have htl := toldN_le (hlens (hruns lit dist)) 19
    have htg := toldN_ge (hlens (hruns lit dist)) 19
    have HP : Hd (headP lit dist = [((cutL lit 257).length - 257, 5), ((distL dist).length - 1, 5), (toldN (hlens (hruns lit dist)) 19 - 4, 4)] ++ ordP (hlens (hruns lit dist)) (toldN (hlens (hruns lit dist)) 19) ++ runsP (hlens (hruns lit dist)) (hruns lit dist)) := ⟨rfl⟩
    have O1 := Hd.mk hpl.runs
    have O2 := Hd.mk hpl.lens
    unfold planC
    obtain ⟨td, htd⟩ : ∃ td, td = toldN (hlens (hruns lit dist)) 19 := ⟨_, rfl⟩
    rw [← htd] at htl htg HP ⊢
    obtain ⟨rs, hrs⟩ : ∃ rs, rs = hruns lit dist := ⟨_, rfl⟩
    obtain ⟨hl, hhl⟩ : ∃ hl, hl = hlens (hruns lit dist) := ⟨_, rfl⟩
    rw [← hhl] at O2 HLE hl19 HP hck
    rw [← hrs] at O1 r1 r2 hnr HP
    obtain ⟨xa, hxa⟩ : ∃ xa, xa = (cutL lit 257).length := ⟨_, rfl⟩
    obtain ⟨xb, hxb⟩ : ∃ xb, xb = (distL dist).length := ⟨_, rfl⟩
    rw [← hxa] at a3 a4 HP ⊢
    rw [← hxb] at hdl HP ⊢
    have HRB := Hd.mk r1
    have HLE2 := Hd.mk HLE
    have HCK := Hd.mk hck
    have T1 := Hd.mk (T0.out.frame hf (by simp) (by simp))
    clear hp1 hp2 hf hpl HLE hrs hhl htd r1 r3 HX HY HER hck hxa hxb
    subst hnr
    go_upto_region 4 with (fail)
    have B2 : Hd ((w1.alloc (.cells #[.int .i64 (xa : Nat), .int .i64 (xb : Nat), .slice A1 rs.length c1, .slice B1 19 d1, .int .i64 (td : Nat)] 183)).heap[w1.heap.size]? = some (.cells #[.int .i64 (xa : Nat), .int .i64 (xb : Nat), .slice A1 rs.length c1, .slice B1 19 d1, .int .i64 (td : Nat)] 183 (0, 0))) := ⟨blk_new w1 _⟩
    have A2 := (Fr.refl w1 []).alloc (.cells #[.int .i64 (xa : Nat), .int .i64 (xb : Nat), .slice A1 rs.length c1, .slice B1 19 d1, .int .i64 (td : Nat)] 183)
    have OA := Hd.mk (own_frame O1.out A2 (by simp))
    have OB := Hd.mk (own_frame O2.out A2 (by simp))
    have F2 := Hd.mk (F1.out.trans A2 (by simp))
    have T2 := Hd.mk (T1.out.frame A2 (by simp) (by simp))
    clear A2 O1 O2 F1 T1
    generalize w1.alloc (.cells #[.int .i64 (xa : Nat), .int .i64 (xb : Nat), .slice A1 rs.length c1, .slice B1 19 d1, .int .i64 (td : Nat)] 183) = w2 at *
    generalize w1.heap.size = g at *
    obtain ⟨bx, _, rfl⟩ : ∃ bx, True ∧ B1 = some ⟨bx, 0, none⟩ := by
      obtain ⟨g8, c8', e8, _⟩ := own_some OB.out (by decide)
      injection e8 with e8 _ _
      exact ⟨g8, trivial, e8⟩
    have k0 := blk_cell B2.out 0
    simp only [List.getElem?_toArray, List.getElem?_cons_zero, List.getElem?_cons_succ] at k0
    go_wp2_with (fail)
    refine (wput ((xa : Int) - 257) 5 (xa - 257) (by omega) (by have : (2 : Nat) ^ (5 : Int).toNat = 32 := rfl; omega) (by omega) (by omega) T2.out (by have : (5 : Int).toNat = 5 := rfl; omega)).mono ?_
    rintro e w3 ⟨rfl, hpl⟩
    have hpl' := hpl
    obtain ⟨_, _, _, f3⟩ := hpl'
    have B3 := Hd.mk (tl_keep T2.out B2.out (by decide) (by decide) f3)
    have OA3 := Hd.mk (own_keep T2.out f3 OA.out (by decide) (by decide))
    have OB3 := Hd.mk (own_keep T2.out f3 OB.out (by decide) (by decide))
    obtain ⟨q3, h3⟩ := (Pw.start T2.out).put (by simpa [numOf, totOf] using hpl)
    have W3 : Hd (Pw w2 w3 gw q q3 N m [(xa - 257, 5)]) := ⟨h3⟩
    clear hpl f3 h3 k0 B2 OA OB
    have k1 := blk_cell B3.out 1
    simp only [List.getElem?_toArray, List.getElem?_cons_zero, List.getElem?_cons_succ] at k1
    go_wp2_with (fail)
    refine (wput ((xb : Int) - 1) 5 (xb - 1) (by omega) (by have : (2 : Nat) ^ (5 : Int).toNat = 32 := rfl; omega) (by omega) (by omega) W3.out.tl (by have : (5 : Int).toNat = 5 := rfl; have : totOf [(xa - 257, 5)] = 5 := rfl; omega)).mono ?_
    rintro e w4 ⟨rfl, hpl⟩
    have hpl' := hpl
    obtain ⟨_, _, _, f3⟩ := hpl'
    have B4 := Hd.mk (tl_keep W3.out.tl B3.out (by decide) (by decide) f3)
    have OA4 := Hd.mk (own_keep W3.out.tl f3 OA3.out (by decide) (by decide))
    have OB4 := Hd.mk (own_keep W3.out.tl f3 OB3.out (by decide) (by decide))
    obtain ⟨q4, h3⟩ := W3.out.put hpl
    have W4 : Hd (Pw w2 w4 gw q q4 N m [(xa - 257, 5), (xb - 1, 5)]) := ⟨h3⟩
    clear hpl f3 h3 k1 B3 OA3 OB3 W3
    have k4 := blk_cell B4.out 4
    simp only [List.getElem?_toArray, List.getElem?_cons_zero, List.getElem?_cons_succ] at k4
    go_wp2_with (fail)
    refine (wput ((td : Int) - 4) 4 (td - 4) (by omega) (by have : (2 : Nat) ^ (4 : Int).toNat = 16 := rfl; omega) (by omega) (by omega) W4.out.tl (by have : (4 : Int).toNat = 4 := rfl; have : totOf [(xa - 257, 5), (xb - 1, 5)] = 10 := rfl; omega)).mono ?_
    rintro e w5 ⟨rfl, hpl⟩
    have hpl' := hpl
    obtain ⟨_, _, _, f3⟩ := hpl'
    have B5 := Hd.mk (tl_keep W4.out.tl B4.out (by decide) (by decide) f3)
    have OA5 := Hd.mk (own_keep W4.out.tl f3 OA4.out (by decide) (by decide))
    have OB5 := Hd.mk (own_keep W4.out.tl f3 OB4.out (by decide) (by decide))
    obtain ⟨q5, h3⟩ := W4.out.put hpl
    have W5 : Hd (Pw w2 w5 gw q q5 N m [(xa - 257, 5), (xb - 1, 5), (td - 4, 4)]) := ⟨h3⟩
    clear hpl f3 h3 k4 B4 OA4 OB4 W4
    go_upto_region 10 with (first
      | (go_at_call 96; refine (order_any w5).mono ?_; rintro e w6 ⟨rfl, hf⟩; have F6 := Hd.mk hf; clear hf)
      | (refine wpList_store_row rfl 191 _ _ rfl w6.heap.size ordC rfl rfl 191 _ (by exact blk_new w6 _) (by kernel_rfl) (by kernel_rfl) (by kernel_rfl) ?_))
    obtain ⟨w7, hw7⟩ : ∃ w7, w7 = (w6.alloc (.cells #[.int .i64 0, .int .i64 0, .int .i64 0, .int .i64 0, .int .i64 0, .int .i64 0, .int .i64 0, .int .i64 0, .int .i64 0, .int .i64 0, .int .i64 0, .int .i64 0, .int .i64 0, .int .i64 0, .int .i64 0, .int .i64 0, .int .i64 0, .int .i64 0, .int .i64 0] 191)).setRow w6.heap.size ordC := ⟨_, rfl⟩
    have HO7 : Hd (w7.heap[w6.heap.size]? = some (.cells ordC 191 (0, 0))) := ⟨by rw [hw7]; exact setRow_heap _ _ _ _ _ _ (blk_new w6 _)⟩
    have f7 : Fr w5 w7 [] := by rw [hw7]; exact Code.Fr.setRow (F6.out.alloc _) _ (.inr F6.out.size)
    rw [← hw7]
    have B7 := Hd.mk (f7.blk B5.out (by simp))
    have OA7 := Hd.mk (own_frame OA5.out f7 (by simp))
    have OB7 := Hd.mk (own_frame OB5.out f7 (by simp))
    have W7 := Hd.mk (W5.out.call f7)
    clear hw7 f7 B5 OA5 OB5 W5 F6
    generalize w6.heap.size = go at *
    have k4 := blk_cell B7.out 4
    simp only [List.getElem?_toArray, List.getElem?_cons_zero, List.getElem?_cons_succ] at k4
    have htd19 : (td : Int) ≤ 19 := by omega
    have htd0 : (0 : Int) ≤ td := by omega
    have W8 : Hd (∃ qj, Pw w2 w7 gw q qj N m ([(xa - 257, 5), (xb - 1, 5), (td - 4, 4)] ++ ordP hl 0)) := ⟨q5, by have := W7.out; simpa [ordP] using this⟩
    clear W7
    go_wp2
    go_loopg [51] td (fun kq jv wr => ∃ j : Nat, jv = .int .i64 (j : Nat) ∧ j + kq = td ∧ Hd (wr.heap[g]? = some (.cells #[.int .i64 (xa : Nat), .int .i64 (xb : Nat), .slice A1 rs.length c1, .slice (some ⟨bx, 0, none⟩) 19 d1, .int .i64 (td : Nat)] 183 (0, 0))) ∧ Hd (wr.heap[go]? = some (.cells ordC 191 (0, 0))) ∧ Hd (wr.ownsRow 0 187 2 (.slice A1 rs.length c1) rs.length (cells rs)) ∧ Hd (wr.ownsRow 0 3 1 (.slice (some ⟨bx, 0, none⟩) 19 d1) 19 (i64s hl)) ∧ Hd (∃ qj, Pw w2 wr gw q qj N m ([(xa - 257, 5), (xb - 1, 5), (td - 4, 4)] ++ ordP hl j)))
    case atStart => exact ⟨0, rfl, by omega, B7, HO7, OA7, OB7, W8⟩
    case round =>
      obtain ⟨j, rfl, hj, HB2, HO, HOA, HOB, HW⟩ := hrel
      obtain ⟨⟨qj, hPj⟩⟩ := HW
      have PJ := Hd.mk hPj
      clear hPj
      have hpt := ordP_tot hl j (by omega)
      have hmj : Hd (totOf ([(xa - 257, 5), (xb - 1, 5), (td - 4, 4)] ++ ordP hl j) ≤ 71) := ⟨by rw [totOf_app, hpt]; have : totOf [(xa - 257, 5), (xb - 1, 5), (td - 4, 4)] = 14 := rfl; omega⟩
      clear hpt
      by_cases h1 : j < td
      · have kO := (blk_cell HO.out j).trans (ordC_get (by omega))
        have hol := ord_lt j (by omega)
        have HT := Hd.mk (ordP_take hl (show j < 19 by omega))
        have HL := HLE2.out (ord.getD j 0)
        have kl := i64_at (sl_of_own HOB.out) (i := ord.getD j 0) (by omega) rfl
        rw [Nat.zero_add] at kl
        have k3 := blk_cell HB2.out 3
        simp only [List.getElem?_toArray, List.getElem?_cons_zero, List.getElem?_cons_succ] at k3
        generalize ord.getD j 0 = o at *
        generalize hl.getD o 0 = x at *
        obtain ⟨x, rfl⟩ := Int.eq_ofNat_of_zero_le HL.1
        rw [Int.toNat_natCast] at HT
        go_wp2_with (fail)
        refine (wput (x : Int) 3 x rfl (by have : (2 : Nat) ^ (3 : Int).toNat = 8 := rfl; omega) (by omega) (by omega) PJ.out.tl (by have : (3 : Int).toNat = 3 := rfl; have := hmj.out; omega)).mono ?_
        rintro e w8 ⟨rfl, hpl⟩
        have hpl' := hpl
        obtain ⟨_, _, _, f3⟩ := hpl'
        have HB3 := Hd.mk (tl_keep PJ.out.tl HB2.out (by decide) (by decide) f3)
        have HO3 := Hd.mk (tl_keep PJ.out.tl HO.out (by decide) (by decide) f3)
        have HOA3 := Hd.mk (own_keep PJ.out.tl f3 HOA.out (by decide) (by decide))
        have HOB3 := Hd.mk (own_keep PJ.out.tl f3 HOB.out (by decide) (by decide))
        obtain ⟨q8, h3⟩ := PJ.out.put hpl
        have W3 := Hd.mk h3
        clear hpl f3 h3
        go_wp2
        go_roundg (gk - 1)
        case measure => omega
        case rel => exact ⟨j + 1, by go_num, by omega, HB3, HO3, HOA3, HOB3, ⟨q8, by rw [HT.out, ← List.append_assoc]; exact W3.out⟩⟩
      · obtain rfl : j = td := by omega
        have k3 := blk_cell HB2.out 3
        simp only [List.getElem?_toArray, List.getElem?_cons_zero, List.getElem?_cons_succ] at k3
        clear HO k4 HO7 OA7 OB7 W8 B7
        go_wp2_with (fail)
        refine (Code.newenc_any wr (some ⟨bx, 0, none⟩) 19 d1 hl (some bx) ?_ 0 HCK.out.symm).mono ?_
        · obtain ⟨A', c', e1, h2, h3, _⟩ := own_slice HOB.out
          injection e1 with e1 _ e3
          subst e3
          exact ⟨by rw [i64s_length]; exact hl19, h2, h3, (fun h => by cases h), sl_of_own HOB.out, fun b hb => own_lt HOB.out hb⟩
        rintro e w8 ⟨p1, rfl, hf1, _, h3⟩
        obtain ⟨gx, ga, da, Bx, db, L, rfl, hE, _⟩ := h3 rfl
        have EX : Hd (EnP w8 gx hl) := ⟨⟨ga, da, Bx, db, L, hE⟩⟩
        have HB8 := Hd.mk (hf1.blk HB2.out (by simp))
        have HOA8 := Hd.mk (own_frame HOA.out hf1 (by simp))
        have PJ8 := Hd.mk (PJ.out.call hf1)
        have k2 := blk_cell HB8.out 2
        simp only [List.getElem?_toArray, List.getElem?_cons_zero, List.getElem?_cons_succ] at k2
        clear hf1 h3 hE HB2 HOA HOB PJ k3
        generalize [(xa - 257, 5), (xb - 1, 5), (j - 4, 4)] ++ ordP hl j = PR at *
        have W9 : Hd (∃ qj, Pw w2 w8 gw q qj N m (PR ++ runsP hl (rs.take 0))) := ⟨qj, by have := PJ8.out; simpa [runsP] using this⟩
        clear PJ8
        go_wp2
        go_loopg [73] rs.length (fun kq jv wr => ∃ j : Nat, jv = .int .i64 (j : Nat) ∧ j + kq = rs.length ∧ Hd (EnP wr gx hl) ∧ Hd (wr.ownsRow 0 187 2 (.slice A1 rs.length c1) rs.length (cells rs)) ∧ Hd (∃ qj, Pw w2 wr gw q qj N m (PR ++ runsP hl (rs.take j))))
        case atStart => exact ⟨0, rfl, by omega, EX, HOA8, W9⟩
        case round =>
          obtain ⟨i, rfl, hi, EXi, HOAi, HW⟩ := hrel
          obtain ⟨⟨qi, hPi⟩⟩ := HW
          have PI := Hd.mk hPi
          clear hPi
          have hmi : Hd (totOf (PR ++ runsP hl (rs.take i)) ≤ 71 + 22 * 316) := ⟨by
            rw [totOf_app]
            have h1 := runsP_tot HCK.out (rs.take i)
            rw [List.length_take] at h1
            have := hmj.out
            omega⟩
          by_cases h2 : i < rs.length
          · obtain ⟨a, o1, e1, _, hcc⟩ := Sl.row (enc := enc) (sz := 2) (fun _ => rfl) (sl_of_own2 HOAi.out (by omega)) h2 (by decide)
            subst e1
            obtain ⟨r, hr⟩ : ∃ r, r = rs[i] := ⟨_, rfl⟩
            rw [← hr] at hcc
            have hrb := HRB.out r (by rw [hr]; exact List.getElem_mem h2)
            have c0 := hcc 0 (by decide)
            have c1' := hcc 1 (by decide)
            have HTK : Hd (runsP hl (rs.take (i + 1)) = runsP hl (rs.take i) ++ runP hl r) := ⟨by rw [runsP_take h2, hr]⟩
            obtain ⟨rsym, rcnt⟩ := r
            obtain ⟨hb1, hb2, hb3, hb4, hb5⟩ := hrb
            simp only at hb1 hb2 hb3 hb4 hb5
            simp only [enc, List.getElem?_cons_zero, List.getElem?_cons_succ, Nat.add_zero] at c0 c1'
            have HRP : Hd (runP hl (rsym, rcnt) = [Code.part hl rsym, ((rcnt - leastN rsym).toNat, (kbits rsym).toNat)]) := ⟨rfl⟩
            have hkb := kbits_le rsym
            have hml := mostN_le rsym
            have hlp := leastN_pos rsym
            obtain ⟨kb, hkb'⟩ : ∃ kb, kb = kbits rsym := ⟨_, rfl⟩
            obtain ⟨lo, hlo'⟩ : ∃ lo, lo = leastN rsym := ⟨_, rfl⟩
            rw [← hkb'] at HRP hkb hb5
            rw [← hlo'] at HRP hlp hb3 hb5
            have HKB := Hd.mk hkb'
            have HLO := Hd.mk hlo'
            generalize runsP hl (rs.take i) = RP at *
            clear hcc hr hkb' hlo'
            go_upto_region 19 with (fail)
            have bz := blk_new wr (.cells #[.int .i64 rsym, .int .i64 rcnt] 187)
            have A3 := (Fr.refl wr []).alloc (.cells #[.int .i64 rsym, .int .i64 rcnt] 187)
            have BZ := Hd.mk bz
            have EX3 := Hd.mk (EXi.out.call A3)
            have HOA3 := Hd.mk (own_frame HOAi.out A3 (by simp))
            have P3 := Hd.mk (PI.out.call A3)
            clear bz A3 EXi HOAi PI c0 c1'
            generalize wr.alloc (.cells #[.int .i64 rsym, .int .i64 rcnt] 187) = w9 at *
            generalize wr.heap.size = gr at *
            have d0 := blk_cell BZ.out 0
            simp only [List.getElem?_toArray, List.getElem?_cons_zero] at d0
            go_wp2_with (fail)
            obtain ⟨er1, he1⟩ : ∃ e1 : Int, e1 = if Code.bitsOf hl rsym = 0 then 53 else 0 := ⟨_, rfl⟩
            refine (eput rsym EX3.out P3.out.tl (by have := hmi.out; omega) er1 he1).mono ?_
            clear he1
            rintro e w10 ⟨rfl, hpl⟩
            have hpl' := hpl
            obtain ⟨_, _, _, f4⟩ := hpl'
            have BZ4 := Hd.mk (tl_keep P3.out.tl BZ.out (by decide) (by decide) f4)
            have EX4 := Hd.mk (EX3.out.keep P3.out.tl f4)
            have HOA4 := Hd.mk (own_keep P3.out.tl f4 HOA3.out (by decide) (by decide))
            obtain ⟨q4', h4⟩ := P3.out.put hpl
            have P4 := Hd.mk h4
            clear hpl f4 h4 d0 BZ EX3 HOA3 P3
            have d0 := blk_cell BZ4.out 0
            simp only [List.getElem?_toArray, List.getElem?_cons_zero] at d0
            have hm4 : Hd (totOf (PR ++ RP ++ [Code.part hl rsym]) ≤ 71 + 22 * 316 + 15) := ⟨by have := hmi.out; have := part_le HCK.out rsym; rw [totOf_snoc2]; omega⟩
            go_wp2_with (fail)
            refine (kinds_full w10 rsym kb lo _ hb1 hb2 HKB.out HLO.out rfl).mono ?_
            rintro e w11 ⟨rfl, f5⟩
            have BZ5 := Hd.mk (f5.blk BZ4.out (by simp))
            have EX5 := Hd.mk (EX4.out.call f5)
            have HOA5 := Hd.mk (own_frame HOA4.out f5 (by simp))
            have P5 := Hd.mk (P4.out.call f5)
            clear f5 d0 BZ4 EX4 HOA4 P4
            obtain ⟨mo, hmo⟩ : ∃ mo, mo = mostN rsym := ⟨_, rfl⟩
            rw [← hmo]
            clear hmo
            go_upto_region 21 with (fail)
            have bz := blk_new w11 (.cells #[.int .i64 kb, .int .i64 lo, .int .i64 mo] 189)
            have A6 := (Fr.refl w11 []).alloc (.cells #[.int .i64 kb, .int .i64 lo, .int .i64 mo] 189)
            have BZ6 := Hd.mk (A6.blk BZ5.out (by simp))
            have KZ6 := Hd.mk bz
            have EX6 := Hd.mk (EX5.out.call A6)
            have HOA6 := Hd.mk (own_frame HOA5.out A6 (by simp))
            have P6 := Hd.mk (P5.out.call A6)
            clear bz A6 BZ5 EX5 HOA5 P5
            generalize w11.alloc (.cells #[.int .i64 kb, .int .i64 lo, .int .i64 mo] 189) = w12 at *
            generalize w11.heap.size = gz at *
            have d1 := blk_cell BZ6.out 1
            have z1 := blk_cell KZ6.out 1
            have z0 := blk_cell KZ6.out 0
            simp only [List.getElem?_toArray, List.getElem?_cons_zero, List.getElem?_cons_succ] at d1 z1 z0
            obtain ⟨ad, had⟩ := Int.eq_ofNat_of_zero_le (show 0 ≤ rcnt - lo by omega)
            obtain ⟨kbn, rfl⟩ := Int.eq_ofNat_of_zero_le hkb.1
            rw [had, Int.toNat_natCast, Int.toNat_natCast] at HRP
            rw [had, Int.toNat_natCast] at hb5
            have hadlt : ad < 2 ^ kbn := by exact_mod_cast hb5
            have had2 : ad ≤ 138 := by omega
            have HAL := Hd.mk hadlt
            have hrc : rcnt = lo + (ad : Int) := by omega
            subst hrc
            clear hb5 hadlt had
            go_wp2_with (fail)
            refine (wput (lo + (ad : Int) - lo) (kbn : Int) ad (by omega) (by simpa using HAL.out) (by omega) (by omega) P6.out.tl (by rw [Int.toNat_natCast]; have := hm4.out; omega)).mono ?_
            rintro e w13 ⟨rfl, hpl⟩
            rw [Int.toNat_natCast] at hpl
            have hpl' := hpl
            obtain ⟨_, _, _, f7⟩ := hpl'
            have EX7 := Hd.mk (EX6.out.keep P6.out.tl f7)
            have HOA7 := Hd.mk (own_keep P6.out.tl f7 HOA6.out (by decide) (by decide))
            obtain ⟨q7', h7⟩ := P6.out.put hpl
            have P7 := Hd.mk h7
            clear hpl f7 h7
            go_wp2
            go_roundg (gk - 1)
            case measure => omega
            case rel => exact ⟨i + 1, by go_num, by omega, EX7, HOA7, ⟨q7', by rw [HTK.out, HRP.out]; have := P7.out; simpa [List.append_assoc] using this⟩⟩
          · obtain rfl : i = rs.length := by omega
            have W10 : Hd (Pw w2 wr gw q qi N m (headP lit dist)) := ⟨by rw [HP.out]; have := PI.out; rwa [List.take_length] at this⟩
            go_wp2
            go_ret
            exact ⟨rfl, (fun _ => ⟨qi, Pw.after F2.out W10.out⟩), fun h => by rw [← HB.out] at h; cases h⟩
end Go.Proofs.Ytkdgfioigkijgaa.Head
