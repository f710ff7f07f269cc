/- Texts of this claim, one behind the other: CodeG, HeadDocB, HeadDocC, TwoW, RefWB. -/
import Derived.Test.YtofajcifjmhomaaM01
import Derived.Test.YtofajcifjmhomaaCodePlain2
import Derived.Test.YtofajcifjmhomaaM02
import Derived.Test.YtofajcifjmhomaaLensR4
import Derived.Deep.CutRange
import Derived.Deep.Light
/- The document's row and Bits, walked. Conditions: none but the slice's. -/
set_option linter.unusedVariables false
set_option linter.unusedSimpArgs false
set_option maxRecDepth 100000
namespace Go.Proofs.Ytofajcifjmhomaa.Code
open Go.RowKit Go.IntWalk Go.Proofs.Ytofajcifjmhomaa.Lib Go.Proofs.Ytofajcifjmhomaa.Ints Go.Proofs.Ytofajcifjmhomaa.Num

theorem and_one {a : Nat} (ha : a < 2 ^ 62) : Go.bits .and .i64 (a : Int) 1 = ((a % 2 : Nat) : Int) := by
  have h := (bits_nat .i64 62 (by decide) (fun n h0 h1 => IntWalk.i64_in n ⟨by omega, by omega⟩) a 1 ha (by decide)).1
  rw [show ((1 : Nat) : Int) = 1 from rfl] at h
  rw [h, Nat.and_one_is_mod]
theorem hand_biti {v i : Nat} (hv : v < 2 ^ 62) : (Go.bits .and .i64 ((v : Int) / 2 ^ i) 1 == 1) = v.testBit i := by
  have hle : v / 2 ^ i ≤ v := Nat.div_le_self _ _
  rw [div_cast, and_one (by omega), Nat.testBit_eq_decide_div_mod_eq, Bool.eq_iff_iff]
  simp only [beq_iff_eq, decide_eq_true_eq]
  omega
set_option maxHeartbeats 8000000 in
theorem row_any (w : World) (c n : Nat) (hc : c < 32768) (hn : n ≤ 15) :
    Calls Try.prog 81 #[.int .i64 (c : Nat), .int .i64 (n : Nat)] w fun e w' => ∃ A d, e = .returned (.slice A n d) ∧ w'.ownsRow 0 4 1 (.slice A n d) n (Bits.bools (rv c n) n) ∧ (∀ y, (Value.slice A n d).ownBlock = some y → w.heap.size ≤ y) ∧ Fr w w' [] := by
  obtain ⟨i0, hi0, hz0, hz1, hz2⟩ := info_parts Bits.infoBool
  go_enter Try.func81, Try.ntmps81
  go_wp2
  go_loopg [5, 6] n (fun kq lv iv wr => ∃ (j : Nat) (A : Option Addr) (d : Nat), lv = .slice A j d ∧ iv = .int .i64 ((kq : Int) - 1) ∧ j + kq = n ∧ Hd (wr.ownsRow 0 4 1 (.slice A j d) j (Bits.bools (rv c n % 2 ^ j) j)) ∧ Hd (∀ y, (Value.slice A j d).ownBlock = some y → w.heap.size ≤ y) ∧ Hd (Fr w wr []))
  case atStart => exact ⟨0, none, 0, rfl, by go_num, by omega, ⟨by simpa [Bits.bools] using own_nil w 0 4 1⟩, ⟨by intro y hy; cases hy⟩, ⟨Fr.refl _ _⟩⟩
  case round =>
    obtain ⟨j, A, d, rfl, rfl, hj, HO, HB, HF⟩ := hrel
    by_cases hlt : j < n
    · obtain ⟨f, rfl⟩ : ∃ f, gk = f + 1 := ⟨gk - 1, by omega⟩
      have hf : ((f + 1 : Nat) : Int) - 1 = (f : Int) := by omega
      rw [hf]
      clear hf
      obtain ⟨bt, hbt⟩ : ∃ bt, bt = c.testBit f := ⟨_, rfl⟩
      have hand : (Go.bits .and .i64 ((c : Int) / 2 ^ f) 1 == 1) = bt := by rw [hbt]; exact hand_biti (by omega)
      have Hbt : Hd (bt = (rv c n).testBit j) := ⟨by rw [hbt, rv_bit, decide_eq_true hlt, Bool.true_and, show n - 1 - j = f from by omega]⟩
      clear hbt
      go_wp2_with (at_builtin; refine wpList_append_sl rfl (.tmp 13) (.tmp 19) 72 rfl 4 i0 (.bool false) 1 1 Try.underlying72 hi0 hz0 hz1 hz2 rfl (by decide) (.slice A j d) j _ rfl (by exact HO.out.alloc _) (some ⟨wr.heap.size, 0, none⟩) 1 1 [.bool bt] (some wr.heap.size) rfl rfl (by exact sl_of_blk (blk_new _ _)) (by intro h; cases h) (by intro u hu; simp at hu; subst hu; rfl) (by unfold maxLen; omega) (by omega) ?_; intro A3 d3 w6 hown' hgrow haft; have O3 := Hd.mk hown'; have G3 := Hd.mk hgrow; have F3 := Hd.mk haft; clear hown' hgrow haft)
      go_roundg f
      case measure => omega
      case rel =>
        refine ⟨j + 1, A3, d3, rfl, by go_num, by omega, ⟨?_⟩, ⟨fun y hy => ?_⟩, ⟨(HF.out.alloc _).grown G3.out (fun y hy => .inr (HB.out y hy))⟩⟩
        · have h := O3.out
          rw [Bits.bools_snoc (Nat.mod_lt _ (Nat.pow_pos (by omega))), Hbt.out, ← Bits.low_bit] at h
          exact h
        · rcases F3.out with e | ⟨z, e, hz⟩
          · rw [e] at hy; exact HB.out y hy
          · rw [e] at hy; cases hy
            have := HF.out.size
            rw [World.size_alloc] at hz
            omega
    · obtain rfl : j = n := by omega
      obtain rfl : gk = 0 := by omega
      have e0 : (((0 : Nat) : Int) - 1) = -1 := by omega
      rw [e0]
      clear e0
      go_wp2
      go_ret
      have h := HO.out
      rw [Nat.mod_eq_of_lt (rv_lt c j)] at h
      exact ⟨A, d, rfl, h, HB.out, HF.out⟩
set_option maxHeartbeats 8000000 in
theorem bits_ref (w : World) (A : Option Addr) (n c : Nat) (lens : List Int) (q : Option Nat) (hS : SlArg w A n c (i64s lens) q) (hc : check lens = 0) (s : Int) (m cd : Nat) (hm : m = bitsOf lens s) (hcd : cd = codeOf lens s) :
    Calls Try.prog 63 #[.slice A n c, .int .i64 s] w fun e w' => ∃ A' d, e = .returned (.slice A' m d) ∧ w'.ownsRow 0 4 1 (.slice A' m d) m (Bits.bools (rv cd m) m) ∧ (∀ y, (Value.slice A' m d).ownBlock = some y → w.heap.size ≤ y) ∧ Fr w w' [] := by
  have HS := Hd.mk hS
  have HC := Hd.mk hc
  have HM := Hd.mk hm
  have HCD := Hd.mk hcd
  have hl : lens.length = n := by have := hS.len; simpa [i64s] using this
  have hln : (codes lens).length = n := by rw [codes_len hc, hl]
  clear hS hc hm hcd
  go_enter Try.func63, Try.ntmps63
  go_wp2_with (fail)
  refine (rcodes_any w A n c lens q HS.out 0 (codes lens) HC.out.symm rfl).mono ?_
  rintro e w1 ⟨A1, d1, rfl, h1, h2, h3⟩
  rw [hln] at h1 ⊢
  have O1 := Hd.mk h1
  have F1 := Hd.mk h3
  clear h1 h2 h3
  by_cases h0 : s < 0
  · obtain rfl : m = 0 := by rw [HM.out]; unfold bitsOf; rw [if_neg (by omega)]
    go_wp2
    go_ret
    exact ⟨none, 0, rfl, by simpa [Bits.bools] using own_nil w1 0 4 1, (by intro y hy; cases hy), F1.out⟩
  · by_cases h1 : s ≥ (n : Nat)
    · obtain rfl : m = 0 := by rw [HM.out]; unfold bitsOf; rw [if_neg (by omega)]
      go_wp2
      go_ret
      exact ⟨none, 0, rfl, by simpa [Bits.bools] using own_nil w1 0 4 1, (by intro y hy; cases hy), F1.out⟩
    · obtain ⟨i, rfl⟩ := Int.eq_ofNat_of_zero_le (show 0 ≤ s by omega)
      have hi : i < lens.length := by omega
      have hall := (bad_false (check_zero HC.out).1).2 lens[i] (List.getElem_mem hi)
      have hm2 : lens[i] = (m : Int) := by
        rw [HM.out]
        unfold bitsOf
        rw [if_pos (by omega), List.getD_eq_getElem?_getD, Int.toNat_natCast, List.getElem?_eq_getElem hi]
        simp only [Option.getD_some]
        omega
      have hcd2 : (codes lens)[i]? = some cd := by
        rw [HCD.out]
        unfold codeOf
        rw [Int.toNat_natCast, List.getD_eq_getElem?_getD, List.getElem?_eq_getElem (by omega)]
        rfl
      have hm15 : m ≤ 15 := by omega
      have hcdb : cd < 32768 := by
        by_cases hm0 : 0 < m
        · obtain ⟨c2, a1, a2, a3, a4⟩ := code_fits HC.out hi hm2 hm0
          rw [hcd2] at a1
          cases a1
          exact Nat.lt_of_lt_of_le a3 (Nat.pow_le_pow_right (by omega) hm15)
        · have h2 := codesF_zero lens (firstF (cz lens)) i hi (by rw [hm2]; omega)
          unfold codes at hcd2
          rw [if_pos HC.out, h2] at hcd2
          cases hcd2
          omega
      obtain ⟨bd, off, rfl, hq, hcc⟩ := (HS.out.sl.frame F1.out (by simp)) (by rw [i64s_length]; omega)
      have kd := (hcc i (by rw [i64s_length]; omega)).trans (i64s_get lens i)
      rw [List.getElem?_eq_getElem hi, hm2] at kd
      simp only [Option.map_some] at kd
      obtain ⟨gl, dl, e1, hdl⟩ := own_some O1.out (by omega)
      injection e1 with e1 _ e2
      subst e1 e2
      have kc := (O1.out.cellAt i (by omega)).trans (show (nv (codes lens))[i]? = some (.int .i64 (cd : Nat)) from by
        unfold nv
        rw [i64s_get, List.getElem?_map, hcd2]
        rfl)
      have hiI : (i : Int) < (n : Nat) := by omega
      clear hall hm2 hcd2 hcc hi hq
      go_upto_region 4 with (fail)
      go_region_with (first
        | (go_at_call 81; refine (row_any _ cd m hcdb hm15).mono ?_; rintro e w2 ⟨A2, d2, rfl, h1, h2, h3⟩; have O2 := Hd.mk h1; have B2 := Hd.mk h2; have F2 := Hd.mk h3; clear h1 h2 h3))
      all_goals
        go_wp2
        go_ret
        exact ⟨A2, d2, rfl, O2.out, fun y hy => Nat.le_trans F1.out.size (B2.out y hy), F1.out.trans F2.out.ofDrew (by simp)⟩
end Go.Proofs.Ytofajcifjmhomaa.Code
/- Chapter 08: the document's Write walked. Conditions: the writer has at most 2^45 bits. -/
set_option linter.unusedVariables false
set_option linter.unusedSimpArgs false
set_option maxRecDepth 100000
namespace Go.Proofs.Ytofajcifjmhomaa.Head
open Go.RowKit Go.Proofs.Ytofajcifjmhomaa.Lib Go.Proofs.Ytofajcifjmhomaa.Ints Go.Proofs.Ytofajcifjmhomaa.Runs Go.Proofs.Ytofajcifjmhomaa.Num Go.Proofs.Ytofajcifjmhomaa.Blk Go.Proofs.Ytofajcifjmhomaa.Bits
theorem slarg_drew {w : World} {A : Option Addr} {n c : Nat} {xs : List Value} {q : Option Nat} (h : SlArg w A n c xs q) : SlArg w.drew A n c xs q := ⟨h.len, h.le, h.max, h.nil, h.sl, h.lt⟩
theorem mk19 : ∀ w : World, (Instr.makeSlice 22 (.int .i64 19) (.int .i64 19)).run Try.prog w = .ok (.slice (some ⟨w.heap.size, 0, none⟩) 19 19) (w.alloc (.cells (i64s (freqOf [])).toArray 3)) := fun _ => by kernel_rfl
/-- what the document's Write leaves -/
def WrR (w w' : World) (gw N m : Nat) (q : Option Nat) (ok : Bool) (P : List (Nat × Nat)) : Prop := (ok = true → ∃ q', Rw w w' gw q q' N m P) ∧ (ok = false → Fr w w' [])
set_option maxHeartbeats 16000000 in
theorem rwrite_any (w : World) (A B : Option Addr) (n c m' d : Nat) (lit dist : List Int) (p q' : Option Nat) (hX : SlArg w A n c (i64s lit) p) (hY : SlArg w B m' d (i64s dist) q') (er : Int) (her : er = if okH lit dist then 0 else 80)
    (gw N m : Nat) (q : Option Nat) (hT : RW w gw N m q) (hm : m ≤ 35184372088832) :
    Calls Try.prog 34 #[.pointer (some ⟨gw, 0, none⟩), .slice A n c, .slice B m' d] w fun e w' => e = .returned (.int .i64 er) ∧ WrR w w' gw N m q (okH lit dist) (headP lit dist) := by
  obtain ⟨i0, hi0, hz0, hz1, hz2⟩ := info_parts infoI64
  obtain ⟨j0, hj0, jz0, jz1, jz2⟩ := info_parts Bits.infoBool
  have hn : lit.length = n := by have := hX.len; simpa [i64s] using this
  have hm2 : dist.length = m' := by have := hY.len; simpa [i64s] using this
  have HX := Hd.mk hX
  have HY := Hd.mk hY
  have HER := Hd.mk her
  have T0 := Hd.mk hT
  clear hX hY her hT
  obtain ⟨b, hb⟩ : ∃ b, b = okH lit dist := ⟨_, rfl⟩
  rw [← hb] at HER ⊢
  have HB := Hd.mk hb
  clear hb
  subst hn hm2
  go_enter Try.func34, Try.ntmps34
  go_wp2_with (fail)
  refine (told_any w A B _ c _ d lit dist p q' HX.out HY.out b HB.out).mono ?_
  rintro e w1 ⟨rfl, rfl⟩
  cases b with
  | false =>
    obtain rfl : er = 80 := HER.out
    go_wp2
    go_ret
    exact ⟨rfl, (fun h => by cases h), fun _ => Fr.refl _ _⟩
  | true =>
    obtain rfl : er = 0 := HER.out
    obtain ⟨o1, o2, o3, o4, o5, o6⟩ := okH_parts HB.out.symm
    obtain ⟨r1, r2, r3⟩ := hruns_ok HB.out.symm
    obtain ⟨a1, a2, a3, a4⟩ := allL_ok HB.out.symm
    have hdl := distL_len dist o3
    have HR3 := Hd.mk r3
    have HRB := Hd.mk r1
    clear r1 r3 a1 o4 o5 o6
    obtain ⟨xa, hxa⟩ : ∃ xa, xa = (cutL lit 257).length := ⟨_, rfl⟩
    obtain ⟨xb, hxb⟩ : ∃ xb, xb = (distL dist).length := ⟨_, rfl⟩
    rw [← hxa] at a3 a4
    rw [← hxb] at hdl
    have HXA := Hd.mk hxa
    have HXB := Hd.mk hxb
    have HSL := Hd.mk (short_lit o1)
    have HAL : Hd ((allL lit dist).length = xa + xb) := ⟨by rw [hxa, hxb]; unfold allL; rw [List.length_append]⟩
    clear hxa hxb
    go_wp2_with (fail)
    refine (short_any w A _ c lit p HX.out 257 (by omega) (by omega) xa (by rw [HSL.out]; exact HXA.out)).mono ?_
    rintro e w1 ⟨A1, c1, rfl, h1, h2, h3⟩
    rw [HSL.out] at h1
    have O1 := Hd.mk h1
    have F1 := Hd.mk h3
    clear h1 h2 h3
    go_wp2_with (fail)
    refine (short_any w1 B _ d dist q' (HY.out.frame F1.out (by simp)) 1 (by omega) (by omega) xb (by rw [short_dist]; exact HXB.out)).mono ?_
    rintro e w2 ⟨A2, c2, rfl, h1, h2, h3⟩
    rw [short_dist] at h1
    have O2 := Hd.mk h1
    have O1b := Hd.mk (own_frame O1.out h3 (by simp))
    have F2 := Hd.mk (F1.out.trans h3 (by simp))
    clear h1 h2 h3 O1 F1
    have A0 := (Fr.refl w2 []).alloc (.cells #[] 3)
    have OZ : Hd ((w2.alloc (.cells #[] 3)).ownsRow 0 3 1 (.slice (some ⟨w2.heap.size, 0, none⟩) 0 0) 0 []) := ⟨World.ownsRow_lit w2 #[] 0 (Nat.zero_le _) (Nat.zero_le _) rfl⟩
    have S1 := Hd.mk (sl_of_own (own_frame O1b.out A0 (by simp)))
    have N1 : Hd (A1 = none → xa = 0 ∧ c1 = 0) := ⟨fun h => own_none O1b.out h⟩
    have N2 : Hd (A2 = none → xb = 0 ∧ c2 = 0) := ⟨fun h => own_none O2.out h⟩
    have hs2 := F2.out.size
    clear A0 O1b
    go_wp2_with (first
      | (at_builtin; refine wpList_append_sl rfl (.tmp 30) (.tmp 31) 22 rfl 3 i0 (.int .i64 0) 1 8 Try.underlying22 hi0 hz0 hz1 hz2 rfl (by decide) (.slice (some ⟨w2.heap.size, 0, none⟩) 0 0) 0 [] rfl (by exact OZ.out) A1 xa c1 (i64s (cutL lit 257)) (Value.slice A1 xa c1).ownBlock rfl (by rw [i64s_length, ← HXA.out, Nat.mul_one]) (by exact S1.out) N1.out (i64s_one _) (by unfold maxLen; omega) (by omega) ?_; intro A3 c3 w3 hown3 hgrow3 haft3; rw [Nat.zero_add, List.nil_append] at hown3; rw [Nat.zero_add] at haft3; have O3 := Hd.mk hown3; have AF3 := Hd.mk haft3; have F23 : Hd (Fr w2 w3 []) := ⟨((Fr.refl w2 []).alloc (.cells #[] 3)).grown hgrow3 (fun k hk => .inr (by simp [Value.ownBlock] at hk; omega))⟩; have S2 := Hd.mk (sl_of_own (own_frame O2.out F23.out (by simp))); clear hown3 hgrow3 haft3; rw [Nat.zero_add])
      | (at_builtin; refine wpList_append_sl rfl (.tmp 32) (.tmp 33) 22 rfl 3 i0 (.int .i64 0) 1 8 Try.underlying22 hi0 hz0 hz1 hz2 rfl (by decide) (.slice A3 xa c3) xa _ rfl (by exact O3.out) A2 xb c2 (i64s (distL dist)) (Value.slice A2 xb c2).ownBlock rfl (by rw [i64s_length, ← HXB.out, Nat.mul_one]) (by exact S2.out) N2.out (i64s_one _) (by unfold maxLen; omega) (by omega) ?_; intro A4 c4 w4 hown4 hgrow4 haft4; have O4 := Hd.mk hown4; have G4 := Hd.mk hgrow4; clear hown4 hgrow4 haft4))
    have N3 : Hd (∀ y, (Value.slice A3 xa c3).ownBlock = some y → w.heap.size ≤ y) := ⟨fun y hy => by
      rcases AF3.out with e | ⟨z, e, hz⟩
      · rw [e] at hy; simp [Value.ownBlock] at hy; omega
      · rw [e] at hy; cases hy; rw [World.size_alloc] at hz; omega⟩
    have F3 := Hd.mk (F2.out.trans F23.out (by simp))
    have F4 : Hd (Fr w w4 []) := ⟨F3.out.grown G4.out (fun y hy => .inr (N3.out y hy))⟩
    have S4 : Hd (Sl w4 A4 (i64s (allL lit dist)) (Value.slice A4 (xa + xb) c4).ownBlock) := ⟨by have := sl_of_own O4.out; rw [← i64s_app] at this; exact this⟩
    clear O3 S2 N2 N3 G4 O4 F3 F23 OZ S1 N1 AF3 O2 F2
    refine (rruns_any w4 A4 (xa + xb) c4 (allL lit dist) _ HAL.out S4.out (by omega) 0 (hruns lit dist) (by rw [HR3.out]; rfl) (by rw [HR3.out]; rfl)).mono ?_
    rintro e w5 ⟨A5, n5, c5, rfl, h1, h2, h3⟩
    have hn5 : n5 = (hruns lit dist).length := by have := h1.1; rw [cells_len] at this; omega
    have O5 := Hd.mk h1
    have F5 := Hd.mk (F4.out.trans h3 (by simp))
    have HP : Hd (headP lit dist = [((cutL lit 257).length - 257, 5), ((distL dist).length - 1, 5), (toldN (hlens (hruns lit dist)) 19 - 4, 4)] ++ ordP (hlens (hruns lit dist)) (toldN (hlens (hruns lit dist)) 19) ++ runsP (hlens (hruns lit dist)) (hruns lit dist)) := ⟨rfl⟩
    rw [← HXA.out, ← HXB.out] at HP
    clear h1 h2 h3 S4 F4 HXA HXB HAL HSL HR3 HX HY HER
    obtain ⟨rs, hrs⟩ : ∃ rs, rs = hruns lit dist := ⟨_, rfl⟩
    rw [← hrs] at O5 HRB r2 hn5 HP
    clear hrs
    subst hn5
    have hmk := mk19
    go_upto_region 6 with (fail)
    have Z0 := Hd.mk (blk_new w5 (.cells (i64s (freqOf [])).toArray 3))
    have A6 := (Fr.refl w5 []).alloc (.cells (i64s (freqOf [])).toArray 3)
    have O6 := Hd.mk (own_frame O5.out A6 (by simp))
    have F6 := Hd.mk (F5.out.trans A6 (by simp))
    have hgf : w.heap.size ≤ w5.heap.size := F5.out.size
    generalize w5.alloc (.cells (i64s (freqOf [])).toArray 3) = w6 at *
    generalize w5.heap.size = gf at *
    clear A6 O5 F5 hmk
    go_wp2
    go_loopg [12] rs.length (fun kq jv wr => ∃ j : Nat, jv = .int .i64 (j : Nat) ∧ j + kq = rs.length ∧ Hd (wr.heap[gf]? = some (.cells (i64s (freqOf (rs.take j))).toArray 3 (0, 0))) ∧ Hd (wr.ownsRow 0 38 2 (.slice A5 rs.length c5) rs.length (cells rs)) ∧ Hd (Fr w wr []))
    case atStart => exact ⟨0, rfl, by omega, Z0, O6, F6⟩
    case round =>
      clear Z0 O6 F6
      obtain ⟨j, rfl, hj, HZ, HO, HF⟩ := hrel
      by_cases hjr : j < rs.length
      · obtain ⟨a, o1', e1, _, hcc⟩ := Sl.row (enc := enc) (sz := 2) (fun _ => rfl) (sl_of_own2 HO.out (by omega)) hjr (by decide)
        subst e1
        obtain ⟨r, hr⟩ : ∃ r, r = rs[j] := ⟨_, rfl⟩
        rw [← hr] at hcc
        have hrb := HRB.out r (by rw [hr]; exact List.getElem_mem hjr)
        have c0 := hcc 0 (by decide)
        have HTK : Hd (rs.take (j + 1) = rs.take j ++ [r]) := ⟨by rw [List.take_succ_eq_append_getElem hjr, hr]⟩
        obtain ⟨rsym, rcnt⟩ := r
        obtain ⟨hb1, hb2, _⟩ := hrb
        simp only at hb1 hb2
        obtain ⟨s, rfl⟩ := Int.eq_ofNat_of_zero_le hb1
        simp only [enc, List.getElem?_cons_zero, Nat.add_zero] at c0
        have k0 : wr.cell? ⟨gf, s, none⟩ = some (.int .i64 (freqF (rs.take j) s : Nat)) := by rw [blk_cell HZ.out s, List.getElem?_toArray]; exact freq_get _ (by omega)
        have kf := blk_frozen HZ.out s
        have hfb := freqF_le (rs.take j) s
        rw [List.length_take] at hfb
        have HZ2 := Hd.mk (blk_set HZ.out s (.int .i64 ((freqF (rs.take j) s : Nat) + 1 : Int)))
        rw [freq_set (rs.take j) ((s : Int), rcnt) (by omega) rfl, ← HTK.out] at HZ2
        have HO2 := Hd.mk (own_setFar HO.out (a := ⟨gf, s, none⟩) (.int .i64 ((freqF (rs.take j) s : Nat) + 1 : Int)) (own_ne HO.out HZ.out (by decide)))
        have HF2 := Hd.mk (HF.out.setCell (a := ⟨gf, s, none⟩) (.int .i64 ((freqF (rs.take j) s : Nat) + 1 : Int)) (.inr hgf))
        generalize freqF (rs.take j) s = fq at *
        have hjI : (j : Int) < (rs.length : Nat) := by omega
        clear hcc hr HZ HO HF
        go_wp2
        go_roundg (gk - 1)
        case measure => omega
        case rel => exact ⟨j + 1, by go_num, by omega, HZ2, HO2, HF2⟩
      · obtain rfl : j = rs.length := by omega
        have hz7 := HZ.out
        rw [List.take_length] at hz7
        have HE := Hd.mk (hlens_eq (rs := rs) (by omega))
        have HLE := Hd.mk (hlens_le (rs := rs) (by omega))
        have HCK := Hd.mk (hlens_check (rs := rs) (by omega))
        have SF : Hd (Sl wr (some ⟨gf, 0, none⟩) (i64s (freqOf rs)) (some gf)) := ⟨by have := sl_of_blk hz7; simpa using this⟩
        clear hz7 HZ
        go_wp2_with (fail)
        refine (Lens.rlengths_any wr 7 (some ⟨gf, 0, none⟩) 19 19 (freqOf rs) _ (freqOf_len rs) SF.out (by omega)).mono ?_
        rintro e w8 hlp
        unfold Lens.LensPost at hlp
        obtain ⟨A8, n8, c8, rfl, h1, h2, h3⟩ := hlp
        rw [HE.out.1] at h1 ⊢
        rw [← HE.out.2] at h1
        have hn8 : n8 = 19 := by have := h1.1; rw [i64s_length, hlens_len (by omega)] at this; omega
        subst hn8
        have O8 := Hd.mk h1
        have F8 := Hd.mk (HF.out.trans h3 (by simp))
        have OA8 := Hd.mk (own_frame HO.out h3 (by simp))
        clear h1 h2 h3 HF HO SF
        simp only
        obtain ⟨hl, hhl⟩ : ∃ hl, hl = hlens rs := ⟨_, rfl⟩
        rw [← hhl] at O8 HLE HCK HP
        have hl19 : hl.length = 19 := by rw [hhl]; exact hlens_len (by omega)
        clear hhl HE
        have o8' := O8.out
        simp only at o8'
        have O8' := Hd.mk o8'
        clear o8' O8
        obtain ⟨bx, _, rfl⟩ : ∃ bx, True ∧ A8 = some ⟨bx, 0, none⟩ := by
          obtain ⟨g8, c8', e8, _⟩ := own_some O8'.out (by decide)
          injection e8 with e8 _ _
          exact ⟨g8, trivial, e8⟩
        go_wp2_with (fail)
        refine (rorder_any w8).mono ?_
        rintro e w9 ⟨go, rfl, h1, h2, h3⟩
        have HO9 := Hd.mk h1
        have O9 := Hd.mk (own_frame O8'.out h3 (by simp))
        have OA9 := Hd.mk (own_frame OA8.out h3 (by simp))
        have F9 := Hd.mk (F8.out.trans h3 (by simp))
        clear h1 h2 h3 O8' OA8 F8
        go_wp2
        go_loopg [16, 17] 19 (fun kq tv jv wq => ∃ j : Nat, tv = .int .i64 (toldN hl j : Nat) ∧ jv = .int .i64 (j : Nat) ∧ j + kq = 19 ∧ w9 = wq)
        case atStart => exact ⟨0, rfl, rfl, rfl, rfl⟩
        case round =>
          obtain ⟨j, rfl, rfl, hj, rfl⟩ := hrel
          by_cases hj19 : j < 19
          · have hol := ord_lt j hj19
            have HT : Hd (toldN hl (j + 1) = if 0 < hl.getD (ord.getD j 0) 0 then max (toldN hl j) (j + 1) else toldN hl j) := ⟨rfl⟩
            have kO := (blk_cell HO9.out j).trans (ordC_get hj19)
            have k0 := i64_at (sl_of_own O9.out) (i := ord.getD j 0) (by omega) rfl
            have htb := toldN_le hl j
            have htg := toldN_ge hl j
            have HL2 := HLE.out (ord.getD j 0)
            generalize ord.getD j 0 = o at *
            generalize hl.getD o 0 = x at *
            obtain ⟨td, htd⟩ : ∃ td, td = toldN hl j := ⟨_, rfl⟩
            rw [← htd] at HT htb htg ⊢
            clear htd
            rw [Nat.zero_add] at k0
            have hoI : (o : Int) < 19 := by omega
            by_cases hx : x > 0
            · have hx1 : (x != 0) = true := by simp; omega
              by_cases hlt : td < j + 1
              · have HT2 : Hd (toldN hl (j + 1) = j + 1) := ⟨by rw [HT.out, if_pos hx]; omega⟩
                have hd1 : decide ((td : Int) < (j : Int) + 1) = true := by simp; omega
                clear HT
                go_wp2
                go_roundg (gk - 1)
                case measure => omega
                case rel => exact ⟨j + 1, by rw [HT2.out]; go_num, by go_num, by omega, rfl⟩
              · have HT2 : Hd (toldN hl (j + 1) = td) := ⟨by rw [HT.out, if_pos hx]; omega⟩
                have hd1 : decide ((td : Int) < (j : Int) + 1) = false := by simp; omega
                clear HT
                go_wp2
                go_roundg (gk - 1)
                case measure => omega
                case rel => exact ⟨j + 1, by rw [HT2.out], by go_num, by omega, rfl⟩
            · have HT2 : Hd (toldN hl (j + 1) = td) := ⟨by rw [HT.out, if_neg hx]⟩
              have hx1 : (x != 0) = false := by simp; omega
              clear HT
              go_wp2
              go_roundg (gk - 1)
              case measure => omega
              case rel => exact ⟨j + 1, by rw [HT2.out], by go_num, by omega, rfl⟩
          · obtain rfl : j = 19 := by omega
            have htl := toldN_le hl 19
            have htg := toldN_ge hl 19
            obtain ⟨td, htd⟩ : ∃ td, td = toldN hl 19 := ⟨_, rfl⟩
            rw [← htd] at HP htl htg ⊢
            clear htd
            have T2 := Hd.mk (T0.out.frame F9.out (by simp) (by simp))
            have hgo : ∃ cs, w9.heap[go]? = some (.cells cs 3 (0, 0)) := ⟨_, HO9.out⟩
            clear hgo
            go_wp2_with (fail)
            refine (rwput ((xa : Int) - 257) 5 (xa - 257) (by omega) (by have : (2 : Nat) ^ (5 : Int).toNat = 32 := rfl; omega) (by omega) (by omega) T2.out (by have : (5 : Int).toNat = 5 := rfl; omega)).mono ?_
            rintro e w3 ⟨rfl, hpl⟩
            have hpl' := hpl
            obtain ⟨_, _, _, f3⟩ := hpl'
            have B3 := Hd.mk (rw_keep T2.out HO9.out (by decide) (by decide) f3)
            have OA3 := Hd.mk (rown_keep T2.out f3 OA9.out (by decide) (by decide))
            have OB3 := Hd.mk (rown_keep T2.out f3 O9.out (by decide) (by decide))
            obtain ⟨q3, h3⟩ := (Rw.start T2.out).put (by simpa [numOf, totOf] using hpl)
            have W3 : Hd (Rw w9 w3 gw q q3 N m [(xa - 257, 5)]) := ⟨h3⟩
            clear hpl f3 h3 HO9 OA9 O9 T2
            go_wp2_with (fail)
            refine (rwput ((xb : Int) - 1) 5 (xb - 1) (by omega) (by have : (2 : Nat) ^ (5 : Int).toNat = 32 := rfl; omega) (by omega) (by omega) W3.out.rw_ (by have : (5 : Int).toNat = 5 := rfl; have : totOf [(xa - 257, 5)] = 5 := rfl; omega)).mono ?_
            rintro e w4 ⟨rfl, hpl⟩
            have hpl' := hpl
            obtain ⟨_, _, _, f3⟩ := hpl'
            have B4 := Hd.mk (rw_keep W3.out.rw_ B3.out (by decide) (by decide) f3)
            have OA4 := Hd.mk (rown_keep W3.out.rw_ f3 OA3.out (by decide) (by decide))
            have OB4 := Hd.mk (rown_keep W3.out.rw_ f3 OB3.out (by decide) (by decide))
            obtain ⟨q4, h3⟩ := W3.out.put hpl
            have W4 : Hd (Rw w9 w4 gw q q4 N m [(xa - 257, 5), (xb - 1, 5)]) := ⟨h3⟩
            clear hpl f3 h3 B3 OA3 OB3 W3
            go_wp2_with (fail)
            refine (rwput ((td : Int) - 4) 4 (td - 4) (by omega) (by have : (2 : Nat) ^ (4 : Int).toNat = 16 := rfl; omega) (by omega) (by omega) W4.out.rw_ (by have : (4 : Int).toNat = 4 := rfl; have : totOf [(xa - 257, 5), (xb - 1, 5)] = 10 := rfl; omega)).mono ?_
            rintro e w5 ⟨rfl, hpl⟩
            have hpl' := hpl
            obtain ⟨_, _, _, f3⟩ := hpl'
            have B5 := Hd.mk (rw_keep W4.out.rw_ B4.out (by decide) (by decide) f3)
            have OA5 := Hd.mk (rown_keep W4.out.rw_ f3 OA4.out (by decide) (by decide))
            have OB5 := Hd.mk (rown_keep W4.out.rw_ f3 OB4.out (by decide) (by decide))
            obtain ⟨q5, h3⟩ := W4.out.put hpl
            have W5 : Hd (Rw w9 w5 gw q q5 N m [(xa - 257, 5), (xb - 1, 5), (td - 4, 4)]) := ⟨h3⟩
            clear hpl f3 h3 B4 OA4 OB4 W4
            have htd19 : (td : Int) ≤ 19 := by omega
            have W8 : Hd (∃ qj, Rw w9 w5 gw q qj N m ([(xa - 257, 5), (xb - 1, 5), (td - 4, 4)] ++ ordP hl 0)) := ⟨q5, by have := W5.out; simpa [ordP] using this⟩
            clear W5
            go_wp2
            go_loopg [18] td (fun kq jv wr => ∃ j : Nat, jv = .int .i64 (j : Nat) ∧ j + kq = td ∧ Hd (wr.heap[go]? = some (.cells ordC 3 (0, 0))) ∧ Hd (wr.ownsRow 0 38 2 (.slice A5 rs.length c5) rs.length (cells rs)) ∧ Hd (wr.ownsRow 0 3 1 (.slice (some ⟨bx, 0, none⟩) 19 c8) 19 (i64s hl)) ∧ Hd (∃ qj, Rw w9 wr gw q qj N m ([(xa - 257, 5), (xb - 1, 5), (td - 4, 4)] ++ ordP hl j)))
            case atStart => exact ⟨0, rfl, by omega, B5, OA5, OB5, W8⟩
            case round =>
              clear B5 OA5 OB5 W8
              obtain ⟨j, rfl, hj, HO, HOA, HOB, HW⟩ := hrel
              obtain ⟨⟨qj, hPj⟩⟩ := HW
              have PJ := Hd.mk hPj
              clear hPj
              have hpt := ordP_tot hl j (by omega)
              have hmj : Hd (totOf ([(xa - 257, 5), (xb - 1, 5), (td - 4, 4)] ++ ordP hl j) ≤ 71) := ⟨by rw [totOf_app, hpt]; have : totOf [(xa - 257, 5), (xb - 1, 5), (td - 4, 4)] = 14 := rfl; omega⟩
              clear hpt
              by_cases h1 : j < td
              · have kO := (blk_cell HO.out j).trans (ordC_get (by omega))
                have hol := ord_lt j (by omega)
                have HT := Hd.mk (ordP_take hl (show j < 19 by omega))
                have HL := HLE.out (ord.getD j 0)
                have kl := i64_at (sl_of_own HOB.out) (i := ord.getD j 0) (by omega) rfl
                rw [Nat.zero_add] at kl
                generalize ord.getD j 0 = o at *
                generalize hl.getD o 0 = x at *
                obtain ⟨x, rfl⟩ := Int.eq_ofNat_of_zero_le HL.1
                rw [Int.toNat_natCast] at HT
                have hoI : (o : Int) < 19 := by omega
                have hjI : (j : Int) < 19 := by omega
                have hjt : (j : Int) < (td : Nat) := by omega
                go_wp2_with (fail)
                refine (rwput (x : Int) 3 x rfl (by have : (2 : Nat) ^ (3 : Int).toNat = 8 := rfl; omega) (by omega) (by omega) PJ.out.rw_ (by have : (3 : Int).toNat = 3 := rfl; have := hmj.out; omega)).mono ?_
                rintro e w8 ⟨rfl, hpl⟩
                have hpl' := hpl
                obtain ⟨_, _, _, f3⟩ := hpl'
                have HO3 := Hd.mk (rw_keep PJ.out.rw_ HO.out (by decide) (by decide) f3)
                have HOA3 := Hd.mk (rown_keep PJ.out.rw_ f3 HOA.out (by decide) (by decide))
                have HOB3 := Hd.mk (rown_keep PJ.out.rw_ f3 HOB.out (by decide) (by decide))
                obtain ⟨q8, h3⟩ := PJ.out.put hpl
                have W3 := Hd.mk h3
                clear hpl f3 h3
                go_wp2
                go_roundg (gk - 1)
                case measure => omega
                case rel => exact ⟨j + 1, by go_num, by omega, HO3, HOA3, HOB3, ⟨q8, by rw [HT.out, ← List.append_assoc]; exact W3.out⟩⟩
              · obtain rfl : j = td := by omega
                have hjt : ¬ (j : Int) < (j : Nat) := by omega
                clear HO
                generalize [(xa - 257, 5), (xb - 1, 5), (j - 4, 4)] ++ ordP hl j = PR at *
                have W9 : Hd (∃ qj, Rw w9 wr gw q qj N m (PR ++ runsP hl (rs.take 0))) := ⟨qj, by have := PJ.out; simpa [runsP] using this⟩
                clear PJ
                go_wp2
                go_loopg [19] rs.length (fun kq jv wr => ∃ j : Nat, jv = .int .i64 (j : Nat) ∧ j + kq = rs.length ∧ Hd (wr.ownsRow 0 3 1 (.slice (some ⟨bx, 0, none⟩) 19 c8) 19 (i64s hl)) ∧ Hd (wr.ownsRow 0 38 2 (.slice A5 rs.length c5) rs.length (cells rs)) ∧ Hd (∃ qj, Rw w9 wr gw q qj N m (PR ++ runsP hl (rs.take j))))
                case atStart => exact ⟨0, rfl, by omega, HOB, HOA, W9⟩
                case round =>
                  clear HOB HOA W9
                  obtain ⟨i, rfl, hi, HOB, HOA, HW⟩ := hrel
                  obtain ⟨⟨qi, hPi⟩⟩ := HW
                  have PI := Hd.mk hPi
                  clear hPi
                  have hmi : Hd (totOf (PR ++ runsP hl (rs.take i)) ≤ 71 + 22 * 316) := ⟨by
                    rw [totOf_app]
                    have h1 := runsP_tot HCK.out (rs.take i)
                    rw [List.length_take] at h1
                    have := hmj.out
                    omega⟩
                  by_cases h2 : i < rs.length
                  · obtain ⟨a, o1, e1, _, hcc⟩ := Sl.row (enc := enc) (sz := 2) (fun _ => rfl) (sl_of_own2 HOA.out (by omega)) h2 (by decide)
                    subst e1
                    obtain ⟨r, hr⟩ : ∃ r, r = rs[i] := ⟨_, rfl⟩
                    rw [← hr] at hcc
                    have hrb := HRB.out r (by rw [hr]; exact List.getElem_mem h2)
                    have c0 := hcc 0 (by decide)
                    have HTK : Hd (runsP hl (rs.take (i + 1)) = runsP hl (rs.take i) ++ runP hl r) := ⟨by rw [runsP_take h2, hr]⟩
                    have HRI : Hd (rs[i]'h2 = r) := ⟨hr.symm⟩
                    obtain ⟨rsym, rcnt⟩ := r
                    obtain ⟨hb1, hb2, hb3, hb4, hb5⟩ := hrb
                    simp only at hb1 hb2 hb3 hb4 hb5
                    simp only [enc, List.getElem?_cons_zero, Nat.add_zero] at c0
                    have HRP : Hd (runP hl (rsym, rcnt) = [Code.part hl rsym, ((rcnt - leastN rsym).toNat, (kbits rsym).toNat)]) := ⟨rfl⟩
                    have hkb := kbits_le rsym
                    have hml := mostN_le rsym
                    have hlp := leastN_pos rsym
                    obtain ⟨kb, hkb'⟩ : ∃ kb, kb = kbits rsym := ⟨_, rfl⟩
                    obtain ⟨lo, hlo'⟩ : ∃ lo, lo = leastN rsym := ⟨_, rfl⟩
                    rw [← hkb'] at HRP hkb hb5
                    rw [← hlo'] at HRP hlp hb3 hb5
                    have HKB := Hd.mk hkb'
                    have HLO := Hd.mk hlo'
                    obtain ⟨k, hk⟩ : ∃ k, k = Code.bitsOf hl rsym := ⟨_, rfl⟩
                    obtain ⟨cd, hcd⟩ : ∃ cd, cd = Code.codeOf hl rsym := ⟨_, rfl⟩
                    have HPT : Hd (Code.part hl rsym = (rv cd k, k)) := ⟨by rw [Code.part, ← hk, ← hcd]⟩
                    have hk15 : k ≤ 15 := by have := part_le HCK.out rsym; rw [HPT.out] at this; exact this
                    have HK := Hd.mk hk
                    have HCD := Hd.mk hcd
                    obtain ⟨M, hM⟩ : ∃ M, M = m + totOf (PR ++ runsP hl (rs.take i)) := ⟨_, rfl⟩
                    obtain ⟨NN, hNN⟩ : ∃ NN, NN = N + numOf (PR ++ runsP hl (rs.take i)) * 2 ^ m := ⟨_, rfl⟩
                    have hMb : M ≤ 35184372090000 + 7000 := by have := hmi.out; omega
                    have hrw := PI.out.rw_
                    rw [← hM, ← hNN] at hrw
                    have RWM := Hd.mk hrw
                    obtain ⟨Ax, cx, hxb, hxo, hxp, hxN⟩ := hrw
                    have XB := Hd.mk hxb
                    have XO := Hd.mk hxo
                    have XP := Hd.mk hxp
                    have XN := Hd.mk hxN
                    have NEX := Hd.mk (own_ne hxo hxb (by decide))
                    have x0 := blk_cell hxb 0
                    simp only [List.getElem?_toArray, List.getElem?_cons_zero] at x0
                    have HM := Hd.mk hM
                    have HNN := Hd.mk hNN
                    have SLH : Hd (SlArg wr (some ⟨bx, 0, none⟩) 19 c8 (i64s hl) (some bx)) := ⟨by
                      obtain ⟨A', c', e1, h2, h3, _⟩ := own_slice HOB.out
                      injection e1 with e1 _ e3
                      subst e3
                      exact ⟨by rw [i64s_length]; exact hl19, h2, h3, (fun h => by cases h), sl_of_own HOB.out, fun b hb => own_lt HOB.out hb⟩⟩
                    have hiI : (i : Int) < (rs.length : Nat) := by omega
                    clear hcc hr hkb' hlo' hk hcd hM hNN hxb hxo hxp hxN
                    go_upto_region 29 with (fail)
                    go_cut [] from 124 to 134 (fun wd => Hd (PutR wr wd gw NN M qi (rv cd k, k)))
                    case first =>
                      clear HOA HOB PI c0
                      go_region_law (first
                        | (refine step_append_sl rfl (.tmp 128) (.tmp 131) 72 rfl 4 j0 (.bool false) 1 1 Try.underlying72 hj0 jz0 jz1 jz2 rfl (by decide) (.slice Ax M cx) M (bools NN M) (by simp [Act.eval, Act.put]) (by exact XO7.out) Al k dl (bools (rv cd k) k) (Value.slice Al k dl).ownBlock (by simp [Act.eval, Act.put]) (by rw [bools_length, Nat.mul_one]) (by exact sl_of_own OL.out) (by exact fun h => own_none OL.out h) (by intro u hu; simp only [bools, List.mem_map] at hu; obtain ⟨_, _, rfl⟩ := hu; rfl) (by unfold maxLen; omega) (by omega) ?_; intro A3 d3 w9 hown' hgrow haft; have B9 := blk_grown hgrow (by exact XB7.out) NEX.out.symm; have y0 := blk_cell B9 0; have yf := blk_frozen B9 0; simp only [List.getElem?_toArray, List.getElem?_cons_zero] at y0; have HPR := Hd.mk (PutR.after F7.out (rw_app (by exact XB7.out) (by exact XO7.out) XN.out (rv_lt cd k) hown' hgrow haft)); clear hown' hgrow haft B9)
                        | (go_simp; go_at_call 63; refine (Code.bits_ref _ (some ⟨bx, 0, none⟩) 19 c8 hl (some bx) (by exact slarg_drew SLH.out) HCK.out.symm.symm rsym k cd HK.out HCD.out).mono ?_; rintro e w7 ⟨Al, dl, rfl, h1, h2, h3⟩; have OL := Hd.mk h1; have F7 := Hd.mk (h3.ofDrew); have XB7 := Hd.mk (F7.out.blk XB.out (by simp)); have XO7 := Hd.mk (own_frame XO.out F7.out (by simp)); have x7 := blk_cell XB7.out 0; simp only [List.getElem?_toArray, List.getElem?_cons_zero] at x7; clear h1 h2 h3))
                      all_goals
                        go_wp2_with (fail)
                        go_meet
                        case rel => exact ⟨by have := HPR.out; rw [XP.out] at this; exact this⟩
                    case rest =>
                      obtain ⟨w10, rfl⟩ : ∃ w10 : World, w10 = wc := ⟨_, rfl⟩
                      have hpl := hcut.out
                      clear hcut
                      have hpl' := hpl
                      obtain ⟨_, _, _, f4⟩ := hpl'
                      have HOA4 := Hd.mk (rown_keep RWM.out f4 HOA.out (by decide) (by decide))
                      have HOB4 := Hd.mk (rown_keep RWM.out f4 HOB.out (by decide) (by decide))
                      rw [HNN.out, HM.out] at hpl
                      obtain ⟨q4', h4⟩ := PI.out.put hpl
                      have P4 := Hd.mk h4
                      clear hpl f4 h4 XB XO XP XN NEX x0 SLH c0 HOA HOB PI RWM
                      obtain ⟨a', o1', e1', _, hcc⟩ := Sl.row (enc := enc) (sz := 2) (fun _ => rfl) (sl_of_own2 HOA4.out (by omega)) h2 (by decide)
                      rw [HRI.out] at hcc
                      cases e1'
                      have c1 := hcc 1 (by decide)
                      simp only [enc, List.getElem?_cons_zero, List.getElem?_cons_succ] at c1
                      obtain ⟨M2, hM2⟩ : ∃ M2, M2 = m + totOf (PR ++ runsP hl (rs.take i) ++ [(rv cd k, k)]) := ⟨_, rfl⟩
                      obtain ⟨N2, hN2⟩ : ∃ N2, N2 = N + numOf (PR ++ runsP hl (rs.take i) ++ [(rv cd k, k)]) * 2 ^ m := ⟨_, rfl⟩
                      have hM2b : M2 ≤ 35184372090000 + 7015 := by rw [hM2, totOf_snoc2]; have := HM.out; simp only; omega
                      have hrw := P4.out.rw_
                      rw [← hM2, ← hN2] at hrw
                      have RW4 := Hd.mk hrw
                      have HM2 := Hd.mk hM2
                      have HN2 := Hd.mk hN2
                      obtain ⟨ad, had⟩ := Int.eq_ofNat_of_zero_le (show 0 ≤ rcnt - lo by omega)
                      obtain ⟨kbn, rfl⟩ := Int.eq_ofNat_of_zero_le hkb.1
                      rw [had, Int.toNat_natCast, Int.toNat_natCast] at HRP
                      rw [had, Int.toNat_natCast] at hb5
                      have hadlt : ad < 2 ^ kbn := by exact_mod_cast hb5
                      have had2 : ad ≤ 138 := by omega
                      have HAL := Hd.mk hadlt
                      have hrc : rcnt = lo + (ad : Int) := by omega
                      subst hrc
                      clear hb5 hadlt had hcc hrw hM2 hN2
                      have hw1 : IntKind.i64.wrap (lo + (ad : Int) - lo) = lo + (ad : Int) - lo := IntWalk.i64_in _ (by omega)
                      have HW2 : Hd (IntKind.u64.wrap (lo + (ad : Int) - lo) = (ad : Int)) := ⟨by rw [IntWalk.u64_in _ (by omega)]; omega⟩
                      go_upto_region 30 with (fail)
                      go_region_with (first
                        | (go_at_call 43; refine (rleast_any _ rsym lo hb2 HLO.out).mono ?_; rintro e wz ⟨rfl, rfl⟩)
                        | (go_at_call 64; refine (rmore_any _ rsym hb1 hb2 (kbn : Int) HKB.out).mono ?_; rintro e wz ⟨rfl, rfl⟩)
                        | (go_at_call 31; refine (rwput (IntKind.u64.wrap (lo + (ad : Int) - lo)) (kbn : Int) ad HW2.out (by simpa using HAL.out) (by omega) (by omega) (by exact RW4.out) (by rw [Int.toNat_natCast]; omega)).mono ?_; rintro e wz ⟨rfl, hpl⟩; rw [Int.toNat_natCast] at hpl; have HPL := Hd.mk (hpl.ofDrew); clear hpl))
                      all_goals
                        have hpl := HPL.out
                        have hpl' := hpl
                        obtain ⟨_, _, _, f4⟩ := hpl'
                        have HOA5 := Hd.mk (rown_keep RW4.out f4 HOA4.out (by decide) (by decide))
                        have HOB5 := Hd.mk (rown_keep RW4.out f4 HOB4.out (by decide) (by decide))
                        rw [HN2.out, HM2.out] at hpl
                        obtain ⟨q5', h4⟩ := P4.out.put hpl
                        have P5 := Hd.mk h4
                        clear hpl f4 h4 HOA4 HOB4 P4 RW4 c1 hw1 HPL
                        go_wp2
                        go_roundg (gk - 1)
                        case measure => omega
                        case rel => exact ⟨i + 1, by go_num, by omega, HOB5, HOA5, ⟨q5', by rw [HTK.out, HRP.out, HPT.out]; have := P5.out; simpa [List.append_assoc] using this⟩⟩
                  · obtain rfl : i = rs.length := by omega
                    have W10 : Hd (Rw w9 wr gw q qi N m (headP lit dist)) := ⟨by rw [HP.out]; have := PI.out; rwa [List.take_length] at this⟩
                    go_wp2
                    go_ret
                    exact ⟨rfl, (fun _ => ⟨qi, Rw.after F9.out W10.out⟩), fun h => by cases h⟩
end Go.Proofs.Ytofajcifjmhomaa.Head
/- Chapter 08: the document's Cost walked. No condition. -/
set_option linter.unusedVariables false
set_option linter.unusedSimpArgs false
set_option maxRecDepth 100000
namespace Go.Proofs.Ytofajcifjmhomaa.Head
open Go.RowKit Go.Proofs.Ytofajcifjmhomaa.Lib Go.Proofs.Ytofajcifjmhomaa.Ints Go.Proofs.Ytofajcifjmhomaa.Runs Go.Proofs.Ytofajcifjmhomaa.Num Go.Proofs.Ytofajcifjmhomaa.Blk Go.Proofs.Ytofajcifjmhomaa.Bits
/-- a head has as many bits as it costs -/
theorem headP_tot {lit dist : List Int} (h : okH lit dist = true) : hcost lit dist = (totOf (headP lit dist) : Nat) := by
  obtain ⟨r1, r2, r3⟩ := hruns_ok h
  obtain ⟨hl, hhl⟩ : ∃ hl, hl = hlens (hruns lit dist) := ⟨_, rfl⟩
  have hck : Code.check hl = 0 := by rw [hhl]; exact hlens_check (by omega)
  have hle : ∀ s, 0 ≤ hl.getD s 0 ∧ hl.getD s 0 ≤ 7 := by rw [hhl]; exact hlens_le (by omega)
  have hln : hl.length = 19 := by rw [hhl]; exact hlens_len (by omega)
  have key : ∀ rs : List (Int × Int), (∀ r ∈ rs, RunB r) → costF hl rs = (totOf (runsP hl rs) : Nat) := by
    intro rs
    induction rs with
    | nil => intro _; rfl
    | cons r rs ih =>
      intro hb
      have h1 := hb r (by simp)
      have h2 := ih (fun x hx => hb x (List.mem_cons_of_mem _ hx))
      have e : runsP hl (r :: rs) = runP hl r ++ runsP hl rs := by simp [runsP]
      rw [e, totOf_app, costF, h2]
      have e2 : totOf (runP hl r) = (Code.part hl r.1).2 + (kbits r.1).toNat := by simp [runP, totOf]
      have hk := kbits_le r.1
      have e3 : ((Code.part hl r.1).2 : Int) = hl.getD r.1.toNat 0 := by
        unfold Code.part
        have := hle r.1.toNat
        simp only [Code.bitsOf]
        rw [if_pos (by have := h1.1; have := h1.2.1; omega)]
        omega
      rw [e2, runCost]
      omega
  unfold hcost headP
  rw [← hhl, key _ r1, totOf_app, totOf_app, ordP_tot hl _ (by have := toldN_le hl 19; omega)]
  have : totOf [((cutL lit 257).length - 257, 5), ((distL dist).length - 1, 5), (toldN hl 19 - 4, 4)] = 14 := rfl
  omega
set_option maxHeartbeats 4000000 in
theorem rhcost_any (w : World) (A B : Option Addr) (n c m d : Nat) (lit dist : List Int) (p q : Option Nat) (hX : SlArg w A n c (i64s lit) p) (hY : SlArg w B m d (i64s dist) q) (er k : Int) (her : er = if okH lit dist then 0 else 80) (hk : k = if okH lit dist then hcost lit dist else 0) :
    Calls Try.prog 33 #[.slice A n c, .slice B m d] w fun e w' => e = .returned (.tuple #[.int .i64 k, .int .i64 er]) ∧ Fr w w' [] := by
  have HX := Hd.mk hX
  have HY := Hd.mk hY
  have HER := Hd.mk her
  have HK := Hd.mk hk
  clear hX hY her hk
  go_enter Try.func33, Try.ntmps33
  go_upto_region 2 with (fail)
  have T0 := Hd.mk (rw_new w)
  have A0 := (Fr.refl w []).alloc (.cells #[.slice none 0 0] 80)
  have X1 := Hd.mk (HX.out.frame A0 (by simp))
  have Y1 := Hd.mk (HY.out.frame A0 (by simp))
  have F1 := Hd.mk A0
  have hg : w.heap.size ≤ w.heap.size := Nat.le_refl _
  obtain ⟨g, hgg⟩ : ∃ g, g = w.heap.size := ⟨_, rfl⟩
  rw [← hgg] at T0 ⊢
  have HG := Hd.mk hgg
  clear A0 HX HY hg hgg
  generalize w.alloc (.cells #[.slice none 0 0] 80) = w1 at *
  go_wp2_with (fail)
  refine (rwrite_any w1 A B n c m d lit dist p q X1.out Y1.out er HER.out g 0 0 none T0.out (by omega)).mono ?_
  rintro e w2 ⟨rfl, h1, h2⟩
  obtain ⟨b, hb⟩ : ∃ b, b = okH lit dist := ⟨_, rfl⟩
  rw [← hb] at HK h1 h2
  have HB := Hd.mk hb
  clear hb
  cases b with
  | false =>
    have h3 := h2 rfl
    obtain rfl : k = 0 := HK.out
    obtain ⟨Ax, cx, hxb, _⟩ := T0.out.frame h3 (by simp) (by simp)
    have x0 := blk_cell hxb 0
    simp only [List.getElem?_toArray, List.getElem?_cons_zero] at x0
    have F2 := Hd.mk (F1.out.trans h3 (by simp))
    clear h1 h2 h3 hxb
    go_wp2
    go_ret2
    exact ⟨rfl, F2.out⟩
  | true =>
    obtain ⟨q', h3⟩ := h1 rfl
    have hk2 : k = (totOf (headP lit dist) : Nat) := by rw [HK.out]; exact headP_tot HB.out.symm
    obtain ⟨T, hT⟩ : ∃ T, T = totOf (headP lit dist) := ⟨_, rfl⟩
    rw [← hT] at hk2
    subst hk2
    obtain ⟨Ax, cx, hxb, _⟩ := h3.rw_
    rw [Nat.zero_add, ← hT] at hxb
    have x0 := blk_cell hxb 0
    simp only [List.getElem?_toArray, List.getElem?_cons_zero] at x0
    have F2 : Hd (Fr w w2 []) := ⟨F1.out.trans h3.fr (fun x hx hm => by simp at hm; have := HG.out; omega)⟩
    clear h1 h2 h3 hxb hT
    go_wp2
    go_ret2
    exact ⟨rfl, F2.out⟩
end Go.Proofs.Ytofajcifjmhomaa.Head
/- The program's writer and the document's side by side. No condition. -/
set_option linter.unusedVariables false
set_option linter.unusedSimpArgs false
set_option maxRecDepth 100000
namespace Go.Proofs.Ytofajcifjmhomaa.Blk
open Go.RowKit Go.Proofs.Ytofajcifjmhomaa.Lib Go.Proofs.Ytofajcifjmhomaa.Ints Go.Proofs.Ytofajcifjmhomaa.Num Go.Proofs.Ytofajcifjmhomaa.Bits Go.Proofs.Ytofajcifjmhomaa.Code
structure Hs (W w : World) (gw N m : Nat) (q : Option Nat) (gx N' m' : Nat) (p : Option Nat) : Prop where
  tl : Tl w gw 78 N m q
  rw_ : RW w gx N' m' p
  fr : Fr W w []
  new : W.heap.size ≤ gw ∧ W.heap.size ≤ gx ∧ (∀ y, q = some y → W.heap.size ≤ y) ∧ (∀ y, p = some y → W.heap.size ≤ y)
section
variable {W w w' : World} {gw N m gx N' m' N2 m2 : Nat} {q p q2 : Option Nat}
theorem Hs.call (h : Hs W w gw N m q gx N' m' p) (hf : Fr w w' []) : Hs W w' gw N m q gx N' m' p :=
  ⟨h.tl.frame hf (by simp) (by simp), h.rw_.frame hf (by simp) (by simp), h.fr.trans hf (by simp), h.new⟩
theorem Hs.tl1 (h : Hs W w gw N m q gx N' m' p) (ht : Tl w' gw 78 N2 m2 q2) (ha : Aft w q q2) (hf : Fr w w' (gw :: q.toList)) : Hs W w' gw N2 m2 q2 gx N' m' p := by
  obtain ⟨A, c, hxb, hxo, hxp, hxN⟩ := h.rw_
  refine ⟨ht, h.rw_.frame hf (tl_not h.tl hxb (by decide) (by decide)) (fun k hk => ?_), h.fr.trans hf (fun x hx hm => ?_), h.new.1, h.new.2.1, fun y hy => ?_, h.new.2.2.2⟩
  · rw [← hxp] at hk
    obtain ⟨cs, hcs⟩ := own_type hxo hk
    exact tl_not h.tl hcs (by decide) (by decide)
  · rcases List.mem_cons.1 hm with e | hm
    · have := h.new.1; omega
    · have := h.new.2.2.1 x (by simpa using hm); omega
  · rcases ha with e | ⟨z, e, hz⟩
    · rw [e] at hy; exact h.new.2.2.1 y hy
    · rw [e] at hy; cases hy
      have := h.fr.size
      omega
theorem Hs.rw1 (h : Hs W w gw N m q gx N' m' p) (ht : RW w' gx N2 m2 q2) (ha : Aft w p q2) (hf : Fr w w' (gx :: p.toList)) : Hs W w' gw N m q gx N2 m2 q2 := by
  obtain ⟨⟨ds, hd⟩, hq⟩ := tl_blk h.tl
  refine ⟨h.tl.frame hf (rw_not h.rw_ hd (by decide) (by decide)) (fun k hk => ?_), ht, h.fr.trans hf (fun x hx hm => ?_), h.new.1, h.new.2.1, h.new.2.2.1, fun y hy => ?_⟩
  · obtain ⟨cs, hcs⟩ := hq k hk
    exact rw_not h.rw_ hcs (by decide) (by decide)
  · rcases List.mem_cons.1 hm with e | hm
    · have := h.new.2.1; omega
    · have := h.new.2.2.2 x (by simpa using hm); omega
  · rcases ha with e | ⟨z, e, hz⟩
    · rw [e] at hy; exact h.new.2.2.2 y hy
    · rw [e] at hy; cases hy
      have := h.fr.size
      omega
theorem Hs.put1 (h : Hs W w gw N m q gx N' m' p) {v : Nat × Nat} (hp : PutL w w' gw N m q v) : ∃ q2, Hs W w' gw (N + v.1 * 2 ^ m) (m + v.2) q2 gx N' m' p := by
  obtain ⟨q2, a, b, c⟩ := hp
  exact ⟨q2, h.tl1 a b c⟩
theorem Hs.put2 (h : Hs W w gw N m q gx N' m' p) {v : Nat × Nat} (hp : PutR w w' gx N' m' p v) : ∃ p2, Hs W w' gw N m q gx (N' + v.1 * 2 ^ m') (m' + v.2) p2 := by
  obtain ⟨q2, a, b, c⟩ := hp
  exact ⟨q2, h.rw1 a b c⟩
theorem Hs.pw (h : Hs W w gw N m q gx N' m' p) {P : List (Nat × Nat)} (hp : Pw w w' gw q q2 N m P) : Hs W w' gw (N + numOf P * 2 ^ m) (m + totOf P) q2 gx N' m' p := h.tl1 hp.tl hp.aft hp.fr
theorem Hs.rw2 (h : Hs W w gw N m q gx N' m' p) {P : List (Nat × Nat)} (hp : Rw w w' gx p q2 N' m' P) : Hs W w' gw N m q gx (N' + numOf P * 2 ^ m') (m' + totOf P) q2 := h.rw1 hp.rw_ hp.aft hp.fr
/-- a block that was there when the law began, or that is neither writers' -/
theorem Hs.keep1 (h : Hs W w gw N m q gx N' m' p) {g : Nat} {cs : Array Value} {t : TypeId} {fr : Nat × Nat} (hb : w.heap[g]? = some (.cells cs t fr)) (h1 : t ≠ 78) (h2 : t ≠ 5) (hf : Fr w w' (gw :: q.toList)) : w'.heap[g]? = some (.cells cs t fr) := tl_keep h.tl hb h1 h2 hf
theorem Hs.keep2 (h : Hs W w gw N m q gx N' m' p) {g : Nat} {cs : Array Value} {t : TypeId} {fr : Nat × Nat} (hb : w.heap[g]? = some (.cells cs t fr)) (h1 : t ≠ 80) (h2 : t ≠ 4) (hf : Fr w w' (gx :: p.toList)) : w'.heap[g]? = some (.cells cs t fr) := rw_keep h.rw_ hb h1 h2 hf
end
end Go.Proofs.Ytofajcifjmhomaa.Blk
/- The document's writer's Bytes. Conditions: fewer than 2^46 bits. -/
set_option maxRecDepth 100000
set_option linter.unusedVariables false
set_option linter.unusedSimpArgs false
namespace Go.Proofs.Ytofajcifjmhomaa.Bits
open Go.RowKit Go.Proofs.Ytofajcifjmhomaa.Lib Go.Proofs.Ytofajcifjmhomaa.Num
section
variable {g N m : Nat} {q : Option Nat}
theorem bytes_none (m : Nat) : (madeCells (Value.int .u8 0).cells ((m + 7) / 8 * 1)).toList = u8s (bytesOf (N % 2 ^ 0) m) := by
  simp [madeCells, u8s, bytesOf, Value.cells, Nat.mod_one, Nat.mod_one]
theorem bytes_bit {K m i : Nat} (hK : K < 2 ^ i) (hi : i < m) : (bytesOf K m).set (i / 8) ((K / 2 ^ (8 * (i / 8)) + 2 ^ (i % 8) : Nat) : Int) = bytesOf (K + 2 ^ i) m := by
  have h8 : i / 8 < (m + 7) / 8 := by omega
  apply List.ext_getElem?
  intro j
  rw [List.getElem?_set]
  by_cases h1 : i / 8 = j
  · subst h1
    rw [if_pos rfl, if_pos (by rw [bytesOf_length]; exact h8), bytesOf_get h8]
    have a := top_new (N := K) (m := i) (x := 1)
    have b := top_new_lt (x := 1) (k := 1) hK (by decide) (by omega)
    rw [Nat.one_mul] at a b
    rw [Nat.one_mul] at a
    rw [a, Nat.mod_eq_of_lt b]
  · rw [if_neg h1]
    by_cases h2 : j < (m + 7) / 8
    · rw [bytesOf_get h2, bytesOf_get h2]
      congr 2
      by_cases h3 : j < i / 8
      · have := low_same (N := K) (x := 1) h3
        rw [Nat.one_mul] at this
        rw [this]
      · have h4 : K + 2 ^ i < 2 ^ (8 * j) := Nat.lt_of_lt_of_le (show K + 2 ^ i < 2 ^ (i + 1) by rw [Nat.pow_succ]; omega) (Nat.pow_le_pow_right (by decide) (by omega))
        rw [Nat.div_eq_of_lt h4, Nat.div_eq_of_lt (by omega)]
    · rw [List.getElem?_eq_none (by rw [bytesOf_length]; omega), List.getElem?_eq_none (by rw [bytesOf_length]; omega)]
theorem wbytes_any (w : World) (hm : m ≤ 70368744177664) (hT : RW w g N m q) :
    Calls Try.prog 37 #[.pointer (some ⟨g, 0, none⟩)] w fun e w' => ∃ v, e = .returned v ∧
      w'.ownsRow 0 5 1 v ((m + 7) / 8) (u8s (bytesOf N m)) ∧ (∀ k, v.ownBlock = some k → w.heap.size ≤ k) ∧ Fr w w' [] := by
  obtain ⟨i0, hi0, hz0, hz1, hz2⟩ := info_parts infoU8
  obtain ⟨A, c, hb, hown, _, hN⟩ := hT
  have h0 := blk_cell hb 0
  simp only [List.getElem?_toArray, List.getElem?_cons_zero, List.getElem?_cons_succ] at h0
  have HS := Hd.mk (sl_of_own hown)
  have HN := Hd.mk hN
  have HB := Hd.mk hb
  clear hb hown hN
  go_enter Try.func37, Try.ntmps37
  go_wp2_with (refine wpList_make_full _ rfl _ _ 57 rfl 0 5 i0 (.int .u8 0) 1 Try.underlying57 hi0 hz0 hz1 .i64 .i64 _ _ ((m + 7) / 8) rfl rfl (by omega) (by omega) (by rw [hz2]; omega) (by unfold maxLen; omega) (Nat.zero_le _) ?_; intro w1 hown1 hgrow1; have O1 := Hd.mk hown1; have G1 := Hd.mk hgrow1; have h1 := blk_cell (blk_grown hgrow1 HB.out (by simp)) 0; simp only [List.getElem?_toArray, List.getElem?_cons_zero, List.getElem?_cons_succ] at h1; clear hown1 hgrow1)
  go_loopg [19] m (fun kq iv wr => ∃ i : Nat, iv = .int .i64 (i : Nat) ∧ i + kq = m ∧ Hd (wr.ownsRow 0 5 1 (.slice (some ⟨w.heap.size, 0, none⟩) ((m + 7) / 8) ((m + 7) / 8)) ((m + 7) / 8) (u8s (bytesOf (N % 2 ^ i) m))) ∧ Hd (Fr w wr []))
  case atStart => exact ⟨0, rfl, by omega, ⟨by rw [← bytes_none]; exact O1.out⟩, ⟨(Fr.refl w []).grown G1.out (by simp)⟩⟩
  case round =>
    obtain ⟨i, rfl, hi, HO, HF⟩ := hrel
    by_cases hlt : i < m
    · obtain ⟨p, off, rfl, hp, hcell⟩ := (HS.out.frame HF.out (by simp)) (by simp [bools]; omega)
      have hcj := (hcell i (by simp [bools]; omega)).trans (bools_get hlt)
      clear hcell
      by_cases hbit : N.testBit i = true
      · rw [hbit] at hcj
        have hlow : Hd (N % 2 ^ (i + 1) = N % 2 ^ i + 2 ^ i) := ⟨by rw [low_bit, hbit]; simp⟩
        obtain ⟨K, hK⟩ : ∃ K, K = N % 2 ^ i := ⟨_, rfl⟩
        have hKlt : K < 2 ^ i := by rw [hK]; exact Nat.mod_lt _ (Nat.two_pow_pos _)
        rw [← hK] at HO
        have HK := Hd.mk hK
        have HKL := Hd.mk hKlt
        obtain ⟨y, hy⟩ : ∃ y, y = K / 2 ^ (8 * (i / 8)) := ⟨_, rfl⟩
        have hcb : wr.cell? ⟨w.heap.size, i / 8, none⟩ = some (.int .u8 (y : Nat)) := by
          obtain ⟨_, _, e1, _, hc⟩ := sl_of_own HO.out (by simp [u8s, bytesOf]; omega)
          cases e1
          have := hc (i / 8) (by simp [u8s, bytesOf]; omega)
          rw [Nat.zero_add, u8s_get, bytesOf_get (by omega)] at this
          rw [this, hy, Nat.mod_eq_of_lt (top_lt8 hKlt)]
          rfl
        have hfz : wr.frozen? ⟨w.heap.size, i / 8, none⟩ = false := by
          obtain ⟨ds, hds⟩ := own_type HO.out (k := w.heap.size) rfl
          exact blk_frozen hds _
        have hy1 : y + 2 ^ (i % 8) < 256 := by
          have := top_new_lt (x := 1) (k := 1) hKlt (by decide) (by omega)
          rw [← hy] at this; omega
        have HY := Hd.mk hy
        clear hK hKlt hy hbit
        go_wp2
        go_region
        go_wp2
        go_roundg (gk - 1)
        case measure => omega
        case rel =>
          have e : ((y : Int) + 2 ^ (i % 8)) % 256 = ((y + 2 ^ (i % 8) : Nat) : Int) := by
            have e1 : ((2 ^ (i % 8) : Nat) : Int) = 2 ^ (i % 8) := by simp
            rw [← e1, ← Int.natCast_add]
            obtain ⟨z, hz⟩ : ∃ z, z = y + 2 ^ (i % 8) := ⟨_, rfl⟩
            rw [← hz] at hy1 ⊢
            omega
          have h := (HO.out.stored (i / 8) (.int .u8 ((y + 2 ^ (i % 8) : Nat) : Int))).1
          have e2 : (u8s (bytesOf K m)).set (i / 8) (.int .u8 ((y + 2 ^ (i % 8) : Nat) : Int)) = u8s (bytesOf (N % 2 ^ (i + 1)) m) := by
            rw [hlow.out, ← HK.out, ← bytes_bit HKL.out hlt, ← HY.out]
            unfold u8s
            rw [List.map_set]
          rw [e2] at h
          rw [e]
          exact ⟨i + 1, by go_num, by omega, ⟨h⟩, ⟨(HF.out.setCell _ (.inr (Nat.le_refl _))).drew⟩⟩
      · have hb0 : N.testBit i = false := by simpa using hbit
        rw [hb0] at hcj
        have hlow : Hd (N % 2 ^ (i + 1) = N % 2 ^ i) := ⟨by rw [low_bit, hb0]; simp⟩
        clear hbit hb0
        go_wp2
        go_roundg (gk - 1)
        case measure => omega
        case rel => exact ⟨i + 1, by go_num, by omega, ⟨by rw [hlow.out]; exact HO.out⟩, HF⟩
    · obtain rfl : i = m := by omega
      go_wp2
      go_ret
      have := HO.out
      rw [Nat.mod_eq_of_lt HN.out] at this
      exact ⟨_, rfl, this, by intro k hk; simp [Value.ownBlock] at hk; omega, HF.out⟩
end
end Go.Proofs.Ytofajcifjmhomaa.Bits
