import Derived.Test.YtkdgfioigkijgaaGreatW01
import Derived.Test.YtkdgfioigkijgaaGreatW02
import Derived.Test.YtkdgfioigkijgaaGreatW03
import Derived.Test.YtkdgfioigkijgaaGreatW04
import Derived.Test.YtkdgfioigkijgaaGreatW05
import Derived.Test.YtkdgfioigkijgaaGreatW06
import Derived.Test.YtkdgfioigkijgaaGreatW07
import Derived.Test.YtkdgfioigkijgaaGreatW08
import Derived.Test.YtkdgfioigkijgaaGreatW09
import Derived.Test.YtkdgfioigkijgaaGreatW10
import Derived.Test.YtkdgfioigkijgaaGreatW11
import Derived.Test.YtkdgfioigkijgaaGreatW12
import Derived.Test.YtkdgfioigkijgaaGreatW13
import Derived.Test.YtkdgfioigkijgaaGreatW14
import Derived.Test.YtkdgfioigkijgaaGreatW18
import Derived.Test.YtkdgfioigkijgaaGreatW19
import Derived.Test.YtkdgfioigkijgaaGreatW20
import Derived.Test.YtkdgfioigkijgaaGreatW21
import Derived.Deep.CutRange
import Derived.Deep.Light
import Derived.BigRegion
import Derived.BigQuiet
import Derived.Deep.QuietTactic
import Derived.Deep.LoopGhost
import Derived.Deep.DeepCutAuto
import Derived.KernelRfl
import Derived.Deep.RegionLaw
import Derived.Outline
set_option linter.unusedVariables false
set_option linter.unusedSimpArgs false
set_option maxRecDepth 100000
namespace Go.Proofs.YtkdgfioigkijgaaGreat.Head
open Go.RowKit Go.Proofs.YtkdgfioigkijgaaGreat.Lib Go.Proofs.YtkdgfioigkijgaaGreat.Ints Go.Proofs.YtkdgfioigkijgaaGreat.Runs Go.Proofs.YtkdgfioigkijgaaGreat.Num Go.Proofs.YtkdgfioigkijgaaGreat.Blk Go.Proofs.YtkdgfioigkijgaaGreat.Bits
theorem slarg_drew {w : World} {A : Option Addr} {n c : Nat} {xs : List Value} {q : Option Nat} (h : SlArg w A n c xs q) : SlArg w.drew A n c xs q := ⟨h.len, h.le, h.max, h.nil, h.sl, h.lt⟩
theorem mk19 : ∀ w : World, (Instr.makeSlice 79 (.int .i64 19) (.int .i64 19)).run Tryz.prog w = .ok (.slice (some ⟨w.heap.size, 0, none⟩) 19 19) (w.alloc (.cells (i64s (freqOf [])).toArray 3)) := fun _ => by kernel_rfl
def WrR (w w' : World) (gw N m : Nat) (q : Option Nat) (ok : Bool) (P : List (Nat × Nat)) : Prop := (ok = true → ∃ q', Rw w w' gw q q' N m P) ∧ (ok = false → Fr w w' [])
set_option maxHeartbeats 16000000 in
theorem rwrite_any (w : World) (A B : Option Addr) (n c m' d : Nat) (lit dist : List Int) (p q' : Option Nat) (hX : SlArg w A n c (i64s lit) p) (hY : SlArg w B m' d (i64s dist) q') (er : Int) (her : er = if okH lit dist then 0 else 80)
    (gw N m : Nat) (q : Option Nat) (hT : RW w gw N m q) (hm : m ≤ 35184372088832) :
    Calls Tryz.prog 58 #[.pointer (some ⟨gw, 0, none⟩), .slice A n c, .slice B m' d] w fun e w' => e = .returned (.int .i64 er) ∧ WrR w w' gw N m q (okH lit dist) (headP lit dist) := by
  obtain ⟨i0, hi0, hz0, hz1, hz2⟩ := info_parts infoI64
  obtain ⟨j0, hj0, jz0, jz1, jz2⟩ := info_parts Bits.infoBool
  have hn : lit.length = n := by have := hX.len; simpa [i64s] using this
  have hm2 : dist.length = m' := by have := hY.len; simpa [i64s] using this
  have HX := Hd.mk hX
  have HY := Hd.mk hY
  have HER := Hd.mk her
  have T0 := Hd.mk hT
  clear hX hY her hT
  obtain ⟨b, hb⟩ : ∃ b, b = okH lit dist := ⟨_, rfl⟩
  rw [← hb] at HER ⊢
  have HB := Hd.mk hb
  clear hb
  subst hn hm2
  go_enter Tryz.func58, Tryz.ntmps58
  go_wp2_with (fail)
  refine (told_any w A B _ c _ d lit dist p q' HX.out HY.out b HB.out).mono ?_
  rintro e w1 ⟨rfl, rfl⟩
  cases b with
  | false =>
    obtain rfl : er = 80 := HER.out
    go_wp2
    go_ret
    exact ⟨rfl, (fun h => by cases h), fun _ => Fr.refl _ _⟩
  | true =>
    obtain rfl : er = 0 := HER.out
    obtain ⟨o1, o2, o3, o4, o5, o6⟩ := okH_parts HB.out.symm
    obtain ⟨r1, r2, r3⟩ := hruns_ok HB.out.symm
    obtain ⟨a1, a2, a3, a4⟩ := allL_ok HB.out.symm
    have hdl := distL_len dist o3
    have HR3 := Hd.mk r3
    have HRB := Hd.mk r1
    clear r1 r3 a1 o4 o5 o6
    obtain ⟨xa, hxa⟩ : ∃ xa, xa = (cutL lit 257).length := ⟨_, rfl⟩
    obtain ⟨xb, hxb⟩ : ∃ xb, xb = (distL dist).length := ⟨_, rfl⟩
    rw [← hxa] at a3 a4
    rw [← hxb] at hdl
    have HXA := Hd.mk hxa
    have HXB := Hd.mk hxb
    have HSL := Hd.mk (short_lit o1)
    have HAL : Hd ((allL lit dist).length = xa + xb) := ⟨by rw [hxa, hxb]; unfold allL; rw [List.length_append]⟩
    clear hxa hxb
    go_wp2_with (fail)
    refine (short_any w A _ c lit p HX.out 257 (by omega) (by omega) xa (by rw [HSL.out]; exact HXA.out)).mono ?_
    rintro e w1 ⟨A1, c1, rfl, h1, h2, h3⟩
    rw [HSL.out] at h1
    have O1 := Hd.mk h1
    have F1 := Hd.mk h3
    clear h1 h2 h3
    go_wp2_with (fail)
    refine (short_any w1 B _ d dist q' (HY.out.frame F1.out (by simp)) 1 (by omega) (by omega) xb (by rw [short_dist]; exact HXB.out)).mono ?_
    rintro e w2 ⟨A2, c2, rfl, h1, h2, h3⟩
    rw [short_dist] at h1
    have O2 := Hd.mk h1
    have O1b := Hd.mk (own_frame O1.out h3 (by simp))
    have F2 := Hd.mk (F1.out.trans h3 (by simp))
    clear h1 h2 h3 O1 F1
    have A0 := (Fr.refl w2 []).alloc (.cells #[] 3)
    have OZ : Hd ((w2.alloc (.cells #[] 3)).ownsRow 0 3 1 (.slice (some ⟨w2.heap.size, 0, none⟩) 0 0) 0 []) := ⟨World.ownsRow_lit w2 #[] 0 (Nat.zero_le _) (Nat.zero_le _) rfl⟩
    have S1 := Hd.mk (sl_of_own (own_frame O1b.out A0 (by simp)))
    have N1 : Hd (A1 = none → xa = 0 ∧ c1 = 0) := ⟨fun h => own_none O1b.out h⟩
    have N2 : Hd (A2 = none → xb = 0 ∧ c2 = 0) := ⟨fun h => own_none O2.out h⟩
    have hs2 := F2.out.size
    clear A0 O1b
    go_wp2_with (first
      | (at_builtin; refine wpList_append_sl rfl (.tmp 30) (.tmp 31) 79 rfl 3 i0 (.int .i64 0) 1 8 Tryz.underlying79 hi0 hz0 hz1 hz2 rfl (by decide) (.slice (some ⟨w2.heap.size, 0, none⟩) 0 0) 0 [] rfl (by exact OZ.out) A1 xa c1 (i64s (cutL lit 257)) (Value.slice A1 xa c1).ownBlock rfl (by rw [i64s_length, ← HXA.out, Nat.mul_one]) (by exact S1.out) N1.out (i64s_one _) (by unfold maxLen; omega) (by omega) ?_; intro A3 c3 w3 hown3 hgrow3 haft3; rw [Nat.zero_add, List.nil_append] at hown3; rw [Nat.zero_add] at haft3; have O3 := Hd.mk hown3; have AF3 := Hd.mk haft3; have F23 : Hd (Fr w2 w3 []) := ⟨((Fr.refl w2 []).alloc (.cells #[] 3)).grown hgrow3 (fun k hk => .inr (by simp [Value.ownBlock] at hk; omega))⟩; have S2 := Hd.mk (sl_of_own (own_frame O2.out F23.out (by simp))); clear hown3 hgrow3 haft3; rw [Nat.zero_add])
      | (at_builtin; refine wpList_append_sl rfl (.tmp 32) (.tmp 33) 79 rfl 3 i0 (.int .i64 0) 1 8 Tryz.underlying79 hi0 hz0 hz1 hz2 rfl (by decide) (.slice A3 xa c3) xa _ rfl (by exact O3.out) A2 xb c2 (i64s (distL dist)) (Value.slice A2 xb c2).ownBlock rfl (by rw [i64s_length, ← HXB.out, Nat.mul_one]) (by exact S2.out) N2.out (i64s_one _) (by unfold maxLen; omega) (by omega) ?_; intro A4 c4 w4 hown4 hgrow4 haft4; have O4 := Hd.mk hown4; have G4 := Hd.mk hgrow4; clear hown4 hgrow4 haft4))
    have N3 : Hd (∀ y, (Value.slice A3 xa c3).ownBlock = some y → w.heap.size ≤ y) := ⟨fun y hy => by
      rcases AF3.out with e | ⟨z, e, hz⟩
      · rw [e] at hy; simp [Value.ownBlock] at hy; omega
      · rw [e] at hy; cases hy; rw [World.size_alloc] at hz; omega⟩
    have F3 := Hd.mk (F2.out.trans F23.out (by simp))
    have F4 : Hd (Fr w w4 []) := ⟨F3.out.grown G4.out (fun y hy => .inr (N3.out y hy))⟩
    have S4 : Hd (Sl w4 A4 (i64s (allL lit dist)) (Value.slice A4 (xa + xb) c4).ownBlock) := ⟨by have := sl_of_own O4.out; rw [← i64s_app] at this; exact this⟩
    clear O3 S2 N2 N3 G4 O4 F3 F23 OZ S1 N1 AF3 O2 F2
    refine (rruns_any w4 A4 (xa + xb) c4 (allL lit dist) _ HAL.out S4.out (by omega) 0 (hruns lit dist) (by rw [HR3.out]; rfl) (by rw [HR3.out]; rfl)).mono ?_
    rintro e w5 ⟨A5, n5, c5, rfl, h1, h2, h3⟩
    have hn5 : n5 = (hruns lit dist).length := by have := h1.1; rw [cells_len] at this; omega
    have O5 := Hd.mk h1
    have F5 := Hd.mk (F4.out.trans h3 (by simp))
    have HP : Hd (headP lit dist = [((cutL lit 257).length - 257, 5), ((distL dist).length - 1, 5), (toldN (hlens (hruns lit dist)) 19 - 4, 4)] ++ ordP (hlens (hruns lit dist)) (toldN (hlens (hruns lit dist)) 19) ++ runsP (hlens (hruns lit dist)) (hruns lit dist)) := ⟨rfl⟩
    rw [← HXA.out, ← HXB.out] at HP
    clear h1 h2 h3 S4 F4 HXA HXB HAL HSL HR3 HX HY HER
    obtain ⟨rs, hrs⟩ : ∃ rs, rs = hruns lit dist := ⟨_, rfl⟩
    rw [← hrs] at O5 HRB r2 hn5 HP
    clear hrs
    subst hn5
    have hmk := mk19
    go_upto_region 6 with (fail)
    have Z0 := Hd.mk (blk_new w5 (.cells (i64s (freqOf [])).toArray 3))
    have A6 := (Fr.refl w5 []).alloc (.cells (i64s (freqOf [])).toArray 3)
    have O6 := Hd.mk (own_frame O5.out A6 (by simp))
    have F6 := Hd.mk (F5.out.trans A6 (by simp))
    have hgf : w.heap.size ≤ w5.heap.size := F5.out.size
    generalize w5.alloc (.cells (i64s (freqOf [])).toArray 3) = w6 at *
    generalize w5.heap.size = gf at *
    clear A6 O5 F5 hmk
    go_wp2
    go_loopg [12] rs.length (fun kq jv wr => ∃ j : Nat, jv = .int .i64 (j : Nat) ∧ j + kq = rs.length ∧ Hd (wr.heap[gf]? = some (.cells (i64s (freqOf (rs.take j))).toArray 3 (0, 0))) ∧ Hd (wr.ownsRow 0 188 2 (.slice A5 rs.length c5) rs.length (cells rs)) ∧ Hd (Fr w wr []))
    case atStart => exact ⟨0, rfl, by omega, Z0, O6, F6⟩
    case round =>
      clear Z0 O6 F6
      obtain ⟨j, rfl, hj, HZ, HO, HF⟩ := hrel
      by_cases hjr : j < rs.length
      · obtain ⟨a, o1', e1, _, hcc⟩ := Sl.row (enc := enc) (sz := 2) (fun _ => rfl) (sl_of_own2 HO.out (by omega)) hjr (by decide)
        subst e1
        obtain ⟨r, hr⟩ : ∃ r, r = rs[j] := ⟨_, rfl⟩
        rw [← hr] at hcc
        have hrb := HRB.out r (by rw [hr]; exact List.getElem_mem hjr)
        have c0 := hcc 0 (by decide)
        have HTK : Hd (rs.take (j + 1) = rs.take j ++ [r]) := ⟨by rw [List.take_succ_eq_append_getElem hjr, hr]⟩
        obtain ⟨rsym, rcnt⟩ := r
        obtain ⟨hb1, hb2, _⟩ := hrb
        simp only at hb1 hb2
        obtain ⟨s, rfl⟩ := Int.eq_ofNat_of_zero_le hb1
        simp only [enc, List.getElem?_cons_zero, Nat.add_zero] at c0
        have k0 : wr.cell? ⟨gf, s, none⟩ = some (.int .i64 (freqF (rs.take j) s : Nat)) := by rw [blk_cell HZ.out s, List.getElem?_toArray]; exact freq_get _ (by omega)
        have kf := blk_frozen HZ.out s
        have hfb := freqF_le (rs.take j) s
        rw [List.length_take] at hfb
        have HZ2 := Hd.mk (blk_set HZ.out s (.int .i64 ((freqF (rs.take j) s : Nat) + 1 : Int)))
        rw [freq_set (rs.take j) ((s : Int), rcnt) (by omega) rfl, ← HTK.out] at HZ2
        have HO2 := Hd.mk (own_setFar HO.out (a := ⟨gf, s, none⟩) (.int .i64 ((freqF (rs.take j) s : Nat) + 1 : Int)) (own_ne HO.out HZ.out (by decide)))
        have HF2 := Hd.mk (HF.out.setCell (a := ⟨gf, s, none⟩) (.int .i64 ((freqF (rs.take j) s : Nat) + 1 : Int)) (.inr hgf))
        generalize freqF (rs.take j) s = fq at *
        have hjI : (j : Int) < (rs.length : Nat) := by omega
        clear hcc hr HZ HO HF
        go_wp2
        go_roundg (gk - 1)
        case measure => omega
        case rel => exact ⟨j + 1, by go_num, by omega, HZ2, HO2, HF2⟩
      · obtain rfl : j = rs.length := by omega
        have hz7 := HZ.out
        rw [List.take_length] at hz7
        have HE := Hd.mk (hlens_eq (rs := rs) (by omega))
        have HLE := Hd.mk (hlens_le (rs := rs) (by omega))
        have HCK := Hd.mk (hlens_check (rs := rs) (by omega))
        have SF : Hd (Sl wr (some ⟨gf, 0, none⟩) (i64s (freqOf rs)) (some gf)) := ⟨by have := sl_of_blk hz7; simpa using this⟩
        clear hz7 HZ
        go_wp2_with (fail)
        refine (Lens.rlengths_any wr 7 (some ⟨gf, 0, none⟩) 19 19 (freqOf rs) _ (freqOf_len rs) SF.out (by omega)).mono ?_
        rintro e w8 hlp
        unfold Lens.LensPost at hlp
        obtain ⟨A8, n8, c8, rfl, h1, h2, h3⟩ := hlp
        rw [HE.out.1] at h1 ⊢
        rw [← HE.out.2] at h1
        have hn8 : n8 = 19 := by have := h1.1; rw [i64s_length, hlens_len (by omega)] at this; omega
        subst hn8
        have O8 := Hd.mk h1
        have F8 := Hd.mk (HF.out.trans h3 (by simp))
        have OA8 := Hd.mk (own_frame HO.out h3 (by simp))
        clear h1 h2 h3 HF HO SF
        simp only
        obtain ⟨hl, hhl⟩ : ∃ hl, hl = hlens rs := ⟨_, rfl⟩
        rw [← hhl] at O8 HLE HCK HP
        have hl19 : hl.length = 19 := by rw [hhl]; exact hlens_len (by omega)
        clear hhl HE
        have o8' := O8.out
        simp only at o8'
        have O8' := Hd.mk o8'
        clear o8' O8
        obtain ⟨bx, _, rfl⟩ : ∃ bx, True ∧ A8 = some ⟨bx, 0, none⟩ := by
          obtain ⟨g8, c8', e8, _⟩ := own_some O8'.out (by decide)
          injection e8 with e8 _ _
          exact ⟨g8, trivial, e8⟩
        go_wp2_with (fail)
        refine (rorder_any w8).mono ?_
        rintro e w9 ⟨go, rfl, h1, h2, h3⟩
        have HO9 := Hd.mk h1
        have O9 := Hd.mk (own_frame O8'.out h3 (by simp))
        have OA9 := Hd.mk (own_frame OA8.out h3 (by simp))
        have F9 := Hd.mk (F8.out.trans h3 (by simp))
        clear h1 h2 h3 O8' OA8 F8
        go_wp2
        go_loopg [16, 17] 19 (fun kq tv jv wq => ∃ j : Nat, tv = .int .i64 (toldN hl j : Nat) ∧ jv = .int .i64 (j : Nat) ∧ j + kq = 19 ∧ w9 = wq)
        case atStart => exact ⟨0, rfl, rfl, rfl, rfl⟩
        case round =>
          obtain ⟨j, rfl, rfl, hj, rfl⟩ := hrel
          by_cases hj19 : j < 19
          · have hol := ord_lt j hj19
            have HT : Hd (toldN hl (j + 1) = if 0 < hl.getD (ord.getD j 0) 0 then max (toldN hl j) (j + 1) else toldN hl j) := ⟨rfl⟩
            have kO := (blk_cell HO9.out j).trans (ordC_get hj19)
            have k0 := i64_at (sl_of_own O9.out) (i := ord.getD j 0) (by omega) rfl
            have htb := toldN_le hl j
            have htg := toldN_ge hl j
            have HL2 := HLE.out (ord.getD j 0)
            generalize ord.getD j 0 = o at *
            generalize hl.getD o 0 = x at *
            obtain ⟨td, htd⟩ : ∃ td, td = toldN hl j := ⟨_, rfl⟩
            rw [← htd] at HT htb htg ⊢
            clear htd
            rw [Nat.zero_add] at k0
            have hoI : (o : Int) < 19 := by omega
            by_cases hx : x > 0
            · have hx1 : (x != 0) = true := by simp; omega
              by_cases hlt : td < j + 1
              · have HT2 : Hd (toldN hl (j + 1) = j + 1) := ⟨by rw [HT.out, if_pos hx]; omega⟩
                have hd1 : decide ((td : Int) < (j : Int) + 1) = true := by simp; omega
                clear HT
                go_wp2
                go_roundg (gk - 1)
                case measure => omega
                case rel => exact ⟨j + 1, by rw [HT2.out]; go_num, by go_num, by omega, rfl⟩
              · have HT2 : Hd (toldN hl (j + 1) = td) := ⟨by rw [HT.out, if_pos hx]; omega⟩
                have hd1 : decide ((td : Int) < (j : Int) + 1) = false := by simp; omega
                clear HT
                go_wp2
                go_roundg (gk - 1)
                case measure => omega
                case rel => exact ⟨j + 1, by rw [HT2.out], by go_num, by omega, rfl⟩
            · have HT2 : Hd (toldN hl (j + 1) = td) := ⟨by rw [HT.out, if_neg hx]⟩
              have hx1 : (x != 0) = false := by simp; omega
              clear HT
              go_wp2
              go_roundg (gk - 1)
              case measure => omega
              case rel => exact ⟨j + 1, by rw [HT2.out], by go_num, by omega, rfl⟩
          · obtain rfl : j = 19 := by omega
            have htl := toldN_le hl 19
            have htg := toldN_ge hl 19
            obtain ⟨td, htd⟩ : ∃ td, td = toldN hl 19 := ⟨_, rfl⟩
            rw [← htd] at HP htl htg ⊢
            clear htd
            have T2 := Hd.mk (T0.out.frame F9.out (by simp) (by simp))
            have hgo : ∃ cs, w9.heap[go]? = some (.cells cs 3 (0, 0)) := ⟨_, HO9.out⟩
            clear hgo
            go_wp2_with (fail)
            refine (rwput ((xa : Int) - 257) 5 (xa - 257) (by omega) (by have : (2 : Nat) ^ (5 : Int).toNat = 32 := rfl; omega) (by omega) (by omega) T2.out (by have : (5 : Int).toNat = 5 := rfl; omega)).mono ?_
            rintro e w3 ⟨rfl, hpl⟩
            have hpl' := hpl
            obtain ⟨_, _, _, f3⟩ := hpl'
            have B3 := Hd.mk (rw_keep T2.out HO9.out (by decide) (by decide) f3)
            have OA3 := Hd.mk (rown_keep T2.out f3 OA9.out (by decide) (by decide))
            have OB3 := Hd.mk (rown_keep T2.out f3 O9.out (by decide) (by decide))
            obtain ⟨q3, h3⟩ := (Rw.start T2.out).put (by simpa [numOf, totOf] using hpl)
            have W3 : Hd (Rw w9 w3 gw q q3 N m [(xa - 257, 5)]) := ⟨h3⟩
            clear hpl f3 h3 HO9 OA9 O9 T2
            go_wp2_with (fail)
            refine (rwput ((xb : Int) - 1) 5 (xb - 1) (by omega) (by have : (2 : Nat) ^ (5 : Int).toNat = 32 := rfl; omega) (by omega) (by omega) W3.out.rw_ (by have : (5 : Int).toNat = 5 := rfl; have : totOf [(xa - 257, 5)] = 5 := rfl; omega)).mono ?_
            rintro e w4 ⟨rfl, hpl⟩
            have hpl' := hpl
            obtain ⟨_, _, _, f3⟩ := hpl'
            have B4 := Hd.mk (rw_keep W3.out.rw_ B3.out (by decide) (by decide) f3)
            have OA4 := Hd.mk (rown_keep W3.out.rw_ f3 OA3.out (by decide) (by decide))
            have OB4 := Hd.mk (rown_keep W3.out.rw_ f3 OB3.out (by decide) (by decide))
            obtain ⟨q4, h3⟩ := W3.out.put hpl
            have W4 : Hd (Rw w9 w4 gw q q4 N m [(xa - 257, 5), (xb - 1, 5)]) := ⟨h3⟩
            clear hpl f3 h3 B3 OA3 OB3 W3
            go_wp2_with (fail)
            refine (rwput ((td : Int) - 4) 4 (td - 4) (by omega) (by have : (2 : Nat) ^ (4 : Int).toNat = 16 := rfl; omega) (by omega) (by omega) W4.out.rw_ (by have : (4 : Int).toNat = 4 := rfl; have : totOf [(xa - 257, 5), (xb - 1, 5)] = 10 := rfl; omega)).mono ?_
            rintro e w5 ⟨rfl, hpl⟩
            have hpl' := hpl
            obtain ⟨_, _, _, f3⟩ := hpl'
            have B5 := Hd.mk (rw_keep W4.out.rw_ B4.out (by decide) (by decide) f3)
            have OA5 := Hd.mk (rown_keep W4.out.rw_ f3 OA4.out (by decide) (by decide))
            have OB5 := Hd.mk (rown_keep W4.out.rw_ f3 OB4.out (by decide) (by decide))
            obtain ⟨q5, h3⟩ := W4.out.put hpl
            have W5 : Hd (Rw w9 w5 gw q q5 N m [(xa - 257, 5), (xb - 1, 5), (td - 4, 4)]) := ⟨h3⟩
            clear hpl f3 h3 B4 OA4 OB4 W4
            have htd19 : (td : Int) ≤ 19 := by omega
            have W8 : Hd (∃ qj, Rw w9 w5 gw q qj N m ([(xa - 257, 5), (xb - 1, 5), (td - 4, 4)] ++ ordP hl 0)) := ⟨q5, by have := W5.out; simpa [ordP] using this⟩
            clear W5
            go_wp2
            go_loopg [18] td (fun kq jv wr => ∃ j : Nat, jv = .int .i64 (j : Nat) ∧ j + kq = td ∧ Hd (wr.heap[go]? = some (.cells ordC 3 (0, 0))) ∧ Hd (wr.ownsRow 0 188 2 (.slice A5 rs.length c5) rs.length (cells rs)) ∧ Hd (wr.ownsRow 0 3 1 (.slice (some ⟨bx, 0, none⟩) 19 c8) 19 (i64s hl)) ∧ Hd (∃ qj, Rw w9 wr gw q qj N m ([(xa - 257, 5), (xb - 1, 5), (td - 4, 4)] ++ ordP hl j)))
            case atStart => exact ⟨0, rfl, by omega, B5, OA5, OB5, W8⟩
            case round =>
              clear B5 OA5 OB5 W8
              obtain ⟨j, rfl, hj, HO, HOA, HOB, HW⟩ := hrel
              obtain ⟨⟨qj, hPj⟩⟩ := HW
              have PJ := Hd.mk hPj
              clear hPj
              have hpt := ordP_tot hl j (by omega)
              have hmj : Hd (totOf ([(xa - 257, 5), (xb - 1, 5), (td - 4, 4)] ++ ordP hl j) ≤ 71) := ⟨by rw [totOf_app, hpt]; have : totOf [(xa - 257, 5), (xb - 1, 5), (td - 4, 4)] = 14 := rfl; omega⟩
              clear hpt
              by_cases h1 : j < td
              · have kO := (blk_cell HO.out j).trans (ordC_get (by omega))
                have hol := ord_lt j (by omega)
                have HT := Hd.mk (ordP_take hl (show j < 19 by omega))
                have HL := HLE.out (ord.getD j 0)
                have kl := i64_at (sl_of_own HOB.out) (i := ord.getD j 0) (by omega) rfl
                rw [Nat.zero_add] at kl
                generalize ord.getD j 0 = o at *
                generalize hl.getD o 0 = x at *
                obtain ⟨x, rfl⟩ := Int.eq_ofNat_of_zero_le HL.1
                rw [Int.toNat_natCast] at HT
                have hoI : (o : Int) < 19 := by omega
                have hjI : (j : Int) < 19 := by omega
                have hjt : (j : Int) < (td : Nat) := by omega
                go_wp2_with (fail)
                refine (rwput (x : Int) 3 x rfl (by have : (2 : Nat) ^ (3 : Int).toNat = 8 := rfl; omega) (by omega) (by omega) PJ.out.rw_ (by have : (3 : Int).toNat = 3 := rfl; have := hmj.out; omega)).mono ?_
                rintro e w8 ⟨rfl, hpl⟩
                have hpl' := hpl
                obtain ⟨_, _, _, f3⟩ := hpl'
                have HO3 := Hd.mk (rw_keep PJ.out.rw_ HO.out (by decide) (by decide) f3)
                have HOA3 := Hd.mk (rown_keep PJ.out.rw_ f3 HOA.out (by decide) (by decide))
                have HOB3 := Hd.mk (rown_keep PJ.out.rw_ f3 HOB.out (by decide) (by decide))
                obtain ⟨q8, h3⟩ := PJ.out.put hpl
                have W3 := Hd.mk h3
                clear hpl f3 h3
                go_wp2
                go_roundg (gk - 1)
                case measure => omega
                case rel => exact ⟨j + 1, by go_num, by omega, HO3, HOA3, HOB3, ⟨q8, by rw [HT.out, ← List.append_assoc]; exact W3.out⟩⟩
              · obtain rfl : j = td := by omega
                have hjt : ¬ (j : Int) < (j : Nat) := by omega
                clear HO
                generalize [(xa - 257, 5), (xb - 1, 5), (j - 4, 4)] ++ ordP hl j = PR at *
                have W9 : Hd (∃ qj, Rw w9 wr gw q qj N m (PR ++ runsP hl (rs.take 0))) := ⟨qj, by have := PJ.out; simpa [runsP] using this⟩
                clear PJ
                go_wp2
                go_loopg [19] rs.length (fun kq jv wr => ∃ j : Nat, jv = .int .i64 (j : Nat) ∧ j + kq = rs.length ∧ Hd (wr.ownsRow 0 3 1 (.slice (some ⟨bx, 0, none⟩) 19 c8) 19 (i64s hl)) ∧ Hd (wr.ownsRow 0 188 2 (.slice A5 rs.length c5) rs.length (cells rs)) ∧ Hd (∃ qj, Rw w9 wr gw q qj N m (PR ++ runsP hl (rs.take j))))
                case atStart => exact ⟨0, rfl, by omega, HOB, HOA, W9⟩
                case round =>
                  clear HOB HOA W9
                  obtain ⟨i, rfl, hi, HOB, HOA, HW⟩ := hrel
                  obtain ⟨⟨qi, hPi⟩⟩ := HW
                  have PI := Hd.mk hPi
                  clear hPi
                  have hmi : Hd (totOf (PR ++ runsP hl (rs.take i)) ≤ 71 + 22 * 316) := ⟨by
                    rw [totOf_app]
                    have h1 := runsP_tot HCK.out (rs.take i)
                    rw [List.length_take] at h1
                    have := hmj.out
                    omega⟩
                  by_cases h2 : i < rs.length
                  · obtain ⟨a, o1, e1, _, hcc⟩ := Sl.row (enc := enc) (sz := 2) (fun _ => rfl) (sl_of_own2 HOA.out (by omega)) h2 (by decide)
                    subst e1
                    obtain ⟨r, hr⟩ : ∃ r, r = rs[i] := ⟨_, rfl⟩
                    rw [← hr] at hcc
                    have hrb := HRB.out r (by rw [hr]; exact List.getElem_mem h2)
                    have c0 := hcc 0 (by decide)
                    have HTK : Hd (runsP hl (rs.take (i + 1)) = runsP hl (rs.take i) ++ runP hl r) := ⟨by rw [runsP_take h2, hr]⟩
                    have HRI : Hd (rs[i]'h2 = r) := ⟨hr.symm⟩
                    obtain ⟨rsym, rcnt⟩ := r
                    obtain ⟨hb1, hb2, hb3, hb4, hb5⟩ := hrb
                    simp only at hb1 hb2 hb3 hb4 hb5
                    simp only [enc, List.getElem?_cons_zero, Nat.add_zero] at c0
                    have HRP : Hd (runP hl (rsym, rcnt) = [Code.part hl rsym, ((rcnt - leastN rsym).toNat, (kbits rsym).toNat)]) := ⟨rfl⟩
                    have hkb := kbits_le rsym
                    have hml := mostN_le rsym
                    have hlp := leastN_pos rsym
                    obtain ⟨kb, hkb'⟩ : ∃ kb, kb = kbits rsym := ⟨_, rfl⟩
                    obtain ⟨lo, hlo'⟩ : ∃ lo, lo = leastN rsym := ⟨_, rfl⟩
                    rw [← hkb'] at HRP hkb hb5
                    rw [← hlo'] at HRP hlp hb3 hb5
                    have HKB := Hd.mk hkb'
                    have HLO := Hd.mk hlo'
                    obtain ⟨k, hk⟩ : ∃ k, k = Code.bitsOf hl rsym := ⟨_, rfl⟩
                    obtain ⟨cd, hcd⟩ : ∃ cd, cd = Code.codeOf hl rsym := ⟨_, rfl⟩
                    have HPT : Hd (Code.part hl rsym = (rv cd k, k)) := ⟨by rw [Code.part, ← hk, ← hcd]⟩
                    have hk15 : k ≤ 15 := by have := part_le HCK.out rsym; rw [HPT.out] at this; exact this
                    have HK := Hd.mk hk
                    have HCD := Hd.mk hcd
                    obtain ⟨M, hM⟩ : ∃ M, M = m + totOf (PR ++ runsP hl (rs.take i)) := ⟨_, rfl⟩
                    obtain ⟨NN, hNN⟩ : ∃ NN, NN = N + numOf (PR ++ runsP hl (rs.take i)) * 2 ^ m := ⟨_, rfl⟩
                    have hMb : M ≤ 35184372090000 + 7000 := by have := hmi.out; omega
                    have hrw := PI.out.rw_
                    rw [← hM, ← hNN] at hrw
                    have RWM := Hd.mk hrw
                    obtain ⟨Ax, cx, hxb, hxo, hxp, hxN⟩ := hrw
                    have XB := Hd.mk hxb
                    have XO := Hd.mk hxo
                    have XP := Hd.mk hxp
                    have XN := Hd.mk hxN
                    have NEX := Hd.mk (own_ne hxo hxb (by decide))
                    have x0 := blk_cell hxb 0
                    simp only [List.getElem?_toArray, List.getElem?_cons_zero] at x0
                    have HM := Hd.mk hM
                    have HNN := Hd.mk hNN
                    have SLH : Hd (SlArg wr (some ⟨bx, 0, none⟩) 19 c8 (i64s hl) (some bx)) := ⟨by
                      obtain ⟨A', c', e1, h2, h3, _⟩ := own_slice HOB.out
                      injection e1 with e1 _ e3
                      subst e3
                      exact ⟨by rw [i64s_length]; exact hl19, h2, h3, (fun h => by cases h), sl_of_own HOB.out, fun b hb => own_lt HOB.out hb⟩⟩
                    have hiI : (i : Int) < (rs.length : Nat) := by omega
                    clear hcc hr hkb' hlo' hk hcd hM hNN hxb hxo hxp hxN
                    go_upto_region 29 with (fail)
                    go_cut [] from 124 to 134 (fun wd => Hd (PutR wr wd gw NN M qi (rv cd k, k)))
                    case first =>
                      clear HOA HOB PI c0
                      go_region_law (first
                        | (refine step_append_sl rfl (.tmp 128) (.tmp 131) 28 rfl 4 j0 (.bool false) 1 1 Tryz.underlying28 hj0 jz0 jz1 jz2 rfl (by decide) (.slice Ax M cx) M (bools NN M) (by simp [Act.eval, Act.put]) (by exact XO7.out) Al k dl (bools (rv cd k) k) (Value.slice Al k dl).ownBlock (by simp [Act.eval, Act.put]) (by rw [bools_length, Nat.mul_one]) (by exact sl_of_own OL.out) (by exact fun h => own_none OL.out h) (by intro u hu; simp only [bools, List.mem_map] at hu; obtain ⟨_, _, rfl⟩ := hu; rfl) (by unfold maxLen; omega) (by omega) ?_; intro A3 d3 w9 hown' hgrow haft; have B9 := blk_grown hgrow (by exact XB7.out) NEX.out.symm; have y0 := blk_cell B9 0; have yf := blk_frozen B9 0; simp only [List.getElem?_toArray, List.getElem?_cons_zero] at y0; have HPR := Hd.mk (PutR.after F7.out (rw_app (by exact XB7.out) (by exact XO7.out) XN.out (rv_lt cd k) hown' hgrow haft)); clear hown' hgrow haft B9)
                        | (go_simp; go_at_call 87; refine (Code.bits_ref _ (some ⟨bx, 0, none⟩) 19 c8 hl (some bx) (by exact slarg_drew SLH.out) HCK.out.symm.symm rsym k cd HK.out HCD.out).mono ?_; rintro e w7 ⟨Al, dl, rfl, h1, h2, h3⟩; have OL := Hd.mk h1; have F7 := Hd.mk (h3.ofDrew); have XB7 := Hd.mk (F7.out.blk XB.out (by simp)); have XO7 := Hd.mk (own_frame XO.out F7.out (by simp)); have x7 := blk_cell XB7.out 0; simp only [List.getElem?_toArray, List.getElem?_cons_zero] at x7; clear h1 h2 h3))
                      all_goals
                        go_wp2_with (fail)
                        go_meet
                        case rel => exact ⟨by have := HPR.out; rw [XP.out] at this; exact this⟩
                    case rest =>
                      obtain ⟨w10, rfl⟩ : ∃ w10 : World, w10 = wc := ⟨_, rfl⟩
                      have hpl := hcut.out
                      clear hcut
                      have hpl' := hpl
                      obtain ⟨_, _, _, f4⟩ := hpl'
                      have HOA4 := Hd.mk (rown_keep RWM.out f4 HOA.out (by decide) (by decide))
                      have HOB4 := Hd.mk (rown_keep RWM.out f4 HOB.out (by decide) (by decide))
                      rw [HNN.out, HM.out] at hpl
                      obtain ⟨q4', h4⟩ := PI.out.put hpl
                      have P4 := Hd.mk h4
                      clear hpl f4 h4 XB XO XP XN NEX x0 SLH c0 HOA HOB PI RWM
                      obtain ⟨a', o1', e1', _, hcc⟩ := Sl.row (enc := enc) (sz := 2) (fun _ => rfl) (sl_of_own2 HOA4.out (by omega)) h2 (by decide)
                      rw [HRI.out] at hcc
                      cases e1'
                      have c1 := hcc 1 (by decide)
                      simp only [enc, List.getElem?_cons_zero, List.getElem?_cons_succ] at c1
                      obtain ⟨M2, hM2⟩ : ∃ M2, M2 = m + totOf (PR ++ runsP hl (rs.take i) ++ [(rv cd k, k)]) := ⟨_, rfl⟩
                      obtain ⟨N2, hN2⟩ : ∃ N2, N2 = N + numOf (PR ++ runsP hl (rs.take i) ++ [(rv cd k, k)]) * 2 ^ m := ⟨_, rfl⟩
                      have hM2b : M2 ≤ 35184372090000 + 7015 := by rw [hM2, totOf_snoc2]; have := HM.out; simp only; omega
                      have hrw := P4.out.rw_
                      rw [← hM2, ← hN2] at hrw
                      have RW4 := Hd.mk hrw
                      have HM2 := Hd.mk hM2
                      have HN2 := Hd.mk hN2
                      obtain ⟨ad, had⟩ := Int.eq_ofNat_of_zero_le (show 0 ≤ rcnt - lo by omega)
                      obtain ⟨kbn, rfl⟩ := Int.eq_ofNat_of_zero_le hkb.1
                      rw [had, Int.toNat_natCast, Int.toNat_natCast] at HRP
                      rw [had, Int.toNat_natCast] at hb5
                      have hadlt : ad < 2 ^ kbn := by exact_mod_cast hb5
                      have had2 : ad ≤ 138 := by omega
                      have HAL := Hd.mk hadlt
                      have hrc : rcnt = lo + (ad : Int) := by omega
                      subst hrc
                      clear hb5 hadlt had hcc hrw hM2 hN2
                      have hw1 : IntKind.i64.wrap (lo + (ad : Int) - lo) = lo + (ad : Int) - lo := IntWalk.i64_in _ (by omega)
                      have HW2 : Hd (IntKind.u64.wrap (lo + (ad : Int) - lo) = (ad : Int)) := ⟨by rw [IntWalk.u64_in _ (by omega)]; omega⟩
                      go_upto_region 30 with (fail)
                      go_region_with (first
                        | (go_at_call 95; refine (rleast_any _ rsym lo hb2 HLO.out).mono ?_; rintro e wz ⟨rfl, rfl⟩)
                        | (go_at_call 96; refine (rmore_any _ rsym hb1 hb2 (kbn : Int) HKB.out).mono ?_; rintro e wz ⟨rfl, rfl⟩)
                        | (go_at_call 12; refine (rwput (IntKind.u64.wrap (lo + (ad : Int) - lo)) (kbn : Int) ad HW2.out (by simpa using HAL.out) (by omega) (by omega) (by exact RW4.out) (by rw [Int.toNat_natCast]; omega)).mono ?_; rintro e wz ⟨rfl, hpl⟩; rw [Int.toNat_natCast] at hpl; have HPL := Hd.mk (hpl.ofDrew); clear hpl))
                      all_goals
                        have hpl := HPL.out
                        have hpl' := hpl
                        obtain ⟨_, _, _, f4⟩ := hpl'
                        have HOA5 := Hd.mk (rown_keep RW4.out f4 HOA4.out (by decide) (by decide))
                        have HOB5 := Hd.mk (rown_keep RW4.out f4 HOB4.out (by decide) (by decide))
                        rw [HN2.out, HM2.out] at hpl
                        obtain ⟨q5', h4⟩ := P4.out.put hpl
                        have P5 := Hd.mk h4
                        clear hpl f4 h4 HOA4 HOB4 P4 RW4 c1 hw1 HPL
                        go_wp2
                        go_roundg (gk - 1)
                        case measure => omega
                        case rel => exact ⟨i + 1, by go_num, by omega, HOB5, HOA5, ⟨q5', by rw [HTK.out, HRP.out, HPT.out]; have := P5.out; simpa [List.append_assoc] using this⟩⟩
                  · obtain rfl : i = rs.length := by omega
                    have W10 : Hd (Rw w9 wr gw q qi N m (headP lit dist)) := ⟨by rw [HP.out]; have := PI.out; rwa [List.take_length] at this⟩
                    go_wp2
                    go_ret
                    exact ⟨rfl, (fun _ => ⟨qi, Rw.after F9.out W10.out⟩), fun h => by cases h⟩
end Go.Proofs.YtkdgfioigkijgaaGreat.Head
set_option linter.unusedVariables false
set_option linter.unusedSimpArgs false
set_option maxRecDepth 100000
namespace Go.Proofs.YtkdgfioigkijgaaGreat.Blk
open Go.RowKit Go.Proofs.YtkdgfioigkijgaaGreat.Lib Go.Proofs.YtkdgfioigkijgaaGreat.Ints Go.Proofs.YtkdgfioigkijgaaGreat.Lz Go.Proofs.YtkdgfioigkijgaaGreat.Num Go.Proofs.YtkdgfioigkijgaaGreat.Bits
theorem slarg_drew {w : World} {A : Option Addr} {n c : Nat} {xs : List Value} {q : Option Nat} (h : SlArg w A n c xs q) : SlArg w.drew A n c xs q := ⟨h.len, h.le, h.max, h.nil, h.sl, h.lt⟩
set_option maxHeartbeats 16000000 in
theorem rbody_any (w : World) (X Y : Option Addr) (nx cx ny cy : Nat) (lit dist : List Int) (px py : Option Nat) (hX : SlArg w X nx cx (i64s lit) px) (hY : SlArg w Y ny cy (i64s dist) py) (hcx : Code.check lit = 0) (hcy : Code.check dist = 0)
    (A : Option Addr) (n c : Nat) (l : List Tok) (p : Option Nat) (hn : l.length = n) (hS : Sl w A (tcells l) p) (hb : n ≤ 65536) (hr : ∀ t ∈ l, right t = true) (hl : LitB l)
    (gw N m : Nat) (q : Option Nat) (hT : RW w gw N m q) (hp : ∀ k, p = some k → k ∉ gw :: q.toList) (hpx : ∀ k, px = some k → k ∉ gw :: q.toList) (hpy : ∀ k, py = some k → k ∉ gw :: q.toList) (hm : m ≤ 35184372088832) :
    Calls Tryz.prog 56 #[.pointer (some ⟨gw, 0, none⟩), .slice X nx cx, .slice Y ny cy, .slice A n c] w fun e w' => e = .returned (.tuple #[]) ∧ ∃ q', Rw w w' gw q q' N m (bodyP lit dist l) := by
  obtain ⟨j0, hj0, jz0, jz1, jz2⟩ := info_parts Bits.infoBool
  subst hn
  have HS := Hd.mk hS
  have HX := Hd.mk hX
  have HY := Hd.mk hY
  have HC := Hd.mk (And.intro hcx hcy)
  have HR := Hd.mk (And.intro hr hl)
  have HP := Hd.mk hp
  have HPX := Hd.mk hpx
  have HPY := Hd.mk hpy
  have T0 := Hd.mk hT
  clear hS hX hY hcx hcy hr hl hp hT hpx hpy
  have W2 : Hd (∃ qj, Rw w w gw q qj N m (toksP lit dist (l.take 0))) := ⟨⟨q, Rw.start T0.out⟩⟩
  go_enter Tryz.func56, Tryz.ntmps56
  go_wp2
  go_loopg [16] l.length (fun kq jv wr => ∃ j : Nat, jv = .int .i64 (j : Nat) ∧ j + kq = l.length ∧ Hd (∃ qj, Rw w wr gw q qj N m (toksP lit dist (l.take j))))
  case atStart => exact ⟨0, rfl, by omega, W2⟩
  case round =>
    clear W2
    obtain ⟨j, rfl, hj, HW⟩ := hrel
    obtain ⟨⟨qj, hPj⟩⟩ := HW
    have PJ := Hd.mk hPj
    clear hPj
    have hmj : Hd (totOf (toksP lit dist (l.take j)) ≤ 48 * 65536) := ⟨by
      have := toksP_le HC.out.1 HC.out.2 (l.take j) (fun u hu => HR.out.1 u (List.mem_of_mem_take hu)) (fun u hu => HR.out.2 u (List.mem_of_mem_take hu))
      rw [List.length_take] at this
      omega⟩
    by_cases h1 : j < l.length
    · obtain ⟨a, o1, rfl, _, hcc⟩ := Sl.row (enc := tcell) (sz := 3) (fun _ => rfl) (HS.out.frame PJ.out.fr HP.out) h1 (by decide)
      obtain ⟨t, ht⟩ : ∃ t, t = l[j] := ⟨_, rfl⟩
      rw [← ht] at hcc
      have c0 := hcc 0 (by decide)
      have c1 := hcc 1 (by decide)
      have c2 := hcc 2 (by decide)
      simp only [tcell, List.getElem?_cons_zero, List.getElem?_cons_succ, Nat.add_zero] at c0 c1 c2
      have htm : t ∈ l := by rw [ht]; exact List.getElem_mem h1
      have hrt := HR.out.1 t htm
      have hlt := HR.out.2 t htm
      have HTK : Hd (toksP lit dist (l.take (j + 1)) = toksP lit dist (l.take j) ++ tokP lit dist t) := ⟨by rw [toksP_take h1, ht]⟩
      have HTD : Hd (tokP lit dist t = [Code.part lit (sgA t).1, ((sgA t).2.1.toNat, (sgA t).2.2.toNat)] ++ if t.len = 0 then [] else [Code.part dist (sgB t).1, ((sgB t).2.1.toNat, (sgB t).2.2.toNat)]) := ⟨rfl⟩
      have sa := (sgA_fit hrt hlt).1
      have sb := sgB_fit hrt
      have hjI : (j : Int) < (l.length : Nat) := by omega
      clear hcc ht htm
      generalize toksP lit dist (l.take j) = PR at *
      go_upto_region 3 with (fail)
      have bz := blk_new wr (.cells #[.int .u8 t.lit, .int .i64 t.len, .int .i64 t.dist] 80)
      have A3 := (Fr.refl wr []).alloc (.cells #[.int .u8 t.lit, .int .i64 t.len, .int .i64 t.dist] 80)
      have BZ := Hd.mk bz
      have PJ3 := Hd.mk (PJ.out.call A3)
      clear bz A3 PJ c0 c1 c2
      generalize wr.alloc (.cells #[.int .u8 t.lit, .int .i64 t.len, .int .i64 t.dist] 80) = w3 at *
      generalize wr.heap.size = gt at *
      have d0 := blk_cell BZ.out 0
      have d1 := blk_cell BZ.out 1
      simp only [List.getElem?_toArray, List.getElem?_cons_zero, List.getElem?_cons_succ] at d0 d1
      by_cases hlen : t.len = 0
      · have hle : (t.len == 0) = true := by simpa using hlen
        have HT1 : Hd (tokP lit dist t = [Code.part lit t.lit, (0, 0)]) := ⟨by rw [HTD.out, if_pos hlen, List.append_nil]; unfold sgA; rw [if_pos hlen]; rfl⟩
        have hl8 : t.lit ≤ 255 := hlt.2
        have hl0 : 0 ≤ t.lit := hlt.1
        have hwl : IntKind.i64.wrap t.lit = t.lit := IntWalk.i64_in _ (by omega)
        clear HTD sa sb hlen
        obtain ⟨k, hk⟩ : ∃ k, k = Code.bitsOf lit t.lit := ⟨_, rfl⟩
        obtain ⟨cd, hcd⟩ : ∃ cd, cd = Code.codeOf lit t.lit := ⟨_, rfl⟩
        have HPT : Hd (Code.part lit t.lit = (rv cd k, k)) := ⟨by rw [Code.part, ← hk, ← hcd]⟩
        have hk15 : k ≤ 15 := by have := part_le HC.out.1 t.lit; rw [HPT.out] at this; exact this
        have HK := Hd.mk hk
        have HCD := Hd.mk hcd
        obtain ⟨M, hM⟩ : ∃ M, M = m + totOf (PR) := ⟨_, rfl⟩
        obtain ⟨NN, hNN⟩ : ∃ NN, NN = N + numOf (PR) * 2 ^ m := ⟨_, rfl⟩
        have hMb : M ≤ 35184372088832 + 48 * 65536 := by have := hmj.out; omega
        have hrw := PJ3.out.rw_
        rw [← hM, ← hNN] at hrw
        have RWM := Hd.mk hrw
        obtain ⟨Ax, cx', hxb, hxo, hxp, hxN⟩ := hrw
        have XB := Hd.mk hxb
        have XO := Hd.mk hxo
        have XP := Hd.mk hxp
        have XN := Hd.mk hxN
        have NEX := Hd.mk (own_ne hxo hxb (by decide))
        have x0 := blk_cell hxb 0
        simp only [List.getElem?_toArray, List.getElem?_cons_zero] at x0
        have HM := Hd.mk hM
        have HNN := Hd.mk hNN
        have SLX := Hd.mk (HX.out.frame PJ3.out.fr HPX.out)
        clear hk hcd hM hNN hxb hxo hxp hxN
        go_upto_region 4 with (fail)
        go_cut [] from 23 to 35 (fun wd => Hd (PutR w3 wd gw NN M qj (rv cd k, k)))
        case first =>
          clear PJ3
          go_region_law (first
            | (refine step_append_sl rfl (.tmp 27) (.tmp 32) 28 rfl 4 j0 (.bool false) 1 1 Tryz.underlying28 hj0 jz0 jz1 jz2 rfl (by decide) (.slice Ax M cx') M (bools NN M) (by simp [Act.eval, Act.put]) (by exact XO7.out) Al k dl (bools (rv cd k) k) (Value.slice Al k dl).ownBlock (by simp [Act.eval, Act.put]) (by rw [bools_length, Nat.mul_one]) (by exact sl_of_own OL.out) (by exact fun h => own_none OL.out h) (by intro u hu; simp only [bools, List.mem_map] at hu; obtain ⟨_, _, rfl⟩ := hu; rfl) (by unfold maxLen; omega) (by omega) ?_; intro A3 d3 w9 hown' hgrow haft; have B9 := blk_grown hgrow (by exact XB7.out) NEX.out.symm; have y0 := blk_cell B9 0; have yf := blk_frozen B9 0; simp only [List.getElem?_toArray, List.getElem?_cons_zero] at y0; have HPR := Hd.mk (PutR.after F7.out (rw_app (by exact XB7.out) (by exact XO7.out) XN.out (rv_lt cd k) hown' hgrow haft)); rw [XP.out] at HPR; clear hown' hgrow haft B9)
            | (go_simp; go_at_call 87; (with_reducible refine (Code.bits_ref _ X nx cx lit px (by exact slarg_drew SLX.out) HC.out.1 t.lit k cd HK.out HCD.out).mono ?_); rintro e w7 ⟨Al, dl, rfl, h1, h2, h3⟩; have OL := Hd.mk h1; have F7 := Hd.mk (h3.ofDrew); have XB7 := Hd.mk (F7.out.blk XB.out (by simp)); have XO7 := Hd.mk (own_frame XO.out F7.out (by simp)); have x7 := blk_cell XB7.out 0; simp only [List.getElem?_toArray, List.getElem?_cons_zero] at x7; have d7 := Head.fcell h3.ofDrew d0 (by simp); clear h1 h2 h3))
          all_goals
            go_wp2_with (fail)
            go_meet
            case rel => exact ⟨HPR.out⟩
        case rest =>
          obtain ⟨wn, rfl⟩ : ∃ wn : World, wn = wc := ⟨_, rfl⟩
          have hpl := hcut.out
          clear hcut
          have hpl' := hpl
          obtain ⟨_, _, _, f4⟩ := hpl'
          rw [HNN.out, HM.out] at hpl
          obtain ⟨q', h4⟩ := PJ3.out.put hpl
          have PJ4 := Hd.mk h4
          clear hpl f4 h4 XB XO XP XN NEX x0 SLX d0 d1 RWM
          go_wp2
          go_roundg (gk - 1)
          case measure => omega
          case rel => exact ⟨j + 1, by go_num, by omega, ⟨q', by
            rw [HTK.out, HT1.out, HPT.out]
            have h := PJ4.out
            exact ⟨by simpa [numOf_app, totOf_app, numOf, totOf] using h.rw_, h.aft, h.fr⟩⟩⟩
      · have hle : (t.len == 0) = false := by simpa using hlen
        have hla : sgA t = ((symN lenT 257 3 258 t.len).1, (symN lenT 257 3 258 t.len).2.2.1, (symN lenT 257 3 258 t.len).2.1) := by unfold sgA; rw [if_neg hlen]
        have hlb : sgB t = ((symN distT 0 1 32768 t.dist).1, (symN distT 0 1 32768 t.dist).2.2.1, (symN distT 0 1 32768 t.dist).2.1) := by unfold sgB; rw [if_neg hlen]
        rw [if_neg hlen] at HTD
        obtain ⟨⟨sx, bxx, vx, ex⟩, hs⟩ : ∃ x, x = symN lenT 257 3 258 t.len := ⟨_, rfl⟩
        obtain ⟨⟨sy, byy, vy, ey⟩, hu⟩ : ∃ x, x = symN distT 0 1 32768 t.dist := ⟨_, rfl⟩
        rw [hla, ← hs] at sa HTD
        rw [hlb, ← hu] at sb HTD
        obtain ⟨_, ⟨a3, a4⟩, a5, a6⟩ := sa
        obtain ⟨_, ⟨b3, b4⟩, b5, b6⟩ := sb
        simp only at a3 a4 a5 a6 b3 b4 b5 b6 HTD
        have HS1 := Hd.mk hs
        have HU1 := Hd.mk hu
        obtain ⟨vx, rfl⟩ := Int.eq_ofNat_of_zero_le a5
        obtain ⟨vy, rfl⟩ := Int.eq_ofNat_of_zero_le b5
        obtain ⟨bxx, rfl⟩ := Int.eq_ofNat_of_zero_le a3
        obtain ⟨byy, rfl⟩ := Int.eq_ofNat_of_zero_le b3
        simp only [Int.toNat_natCast] at a6 b6 HTD
        have a7 : vx < 2 ^ bxx := by exact_mod_cast a6
        have b7 : vy < 2 ^ byy := by exact_mod_cast b6
        have hvx : vx < 8192 := Nat.lt_of_lt_of_le a7 (Nat.pow_le_pow_right (by omega) (show bxx ≤ 13 by omega))
        have hvy : vy < 8192 := Nat.lt_of_lt_of_le b7 (Nat.pow_le_pow_right (by omega) (show byy ≤ 13 by omega))
        have A7 := Hd.mk a7
        have B7 := Hd.mk b7
        clear a6 b6 a7 b7 hla hlb hs hu hlen d0
        go_wp2_with (fail)
        refine (rlenSymbol_any w3 t.len).mono ?_
        rintro r w4 ⟨rfl, h3⟩
        rw [← HS1.out]
        have PJ4 := Hd.mk (PJ3.out.call h3)
        have BZ4 := Hd.mk (h3.blk BZ.out (by simp))
        clear h3 PJ3 BZ d1
        simp only
        obtain ⟨k, hk⟩ : ∃ k, k = Code.bitsOf lit sx := ⟨_, rfl⟩
        obtain ⟨cd, hcd⟩ : ∃ cd, cd = Code.codeOf lit sx := ⟨_, rfl⟩
        have HPT : Hd (Code.part lit sx = (rv cd k, k)) := ⟨by rw [Code.part, ← hk, ← hcd]⟩
        have hk15 : k ≤ 15 := by have := part_le HC.out.1 sx; rw [HPT.out] at this; exact this
        have HK := Hd.mk hk
        have HCD := Hd.mk hcd
        obtain ⟨M, hM⟩ : ∃ M, M = m + totOf (PR) := ⟨_, rfl⟩
        obtain ⟨NN, hNN⟩ : ∃ NN, NN = N + numOf (PR) * 2 ^ m := ⟨_, rfl⟩
        have hMb : M ≤ 35184372088832 + 48 * 65536 := by have := hmj.out; omega
        have hrw := PJ4.out.rw_
        rw [← hM, ← hNN] at hrw
        have RWM := Hd.mk hrw
        obtain ⟨Ax, cx', hxb, hxo, hxp, hxN⟩ := hrw
        have XB := Hd.mk hxb
        have XO := Hd.mk hxo
        have XP := Hd.mk hxp
        have XN := Hd.mk hxN
        have NEX := Hd.mk (own_ne hxo hxb (by decide))
        have x0 := blk_cell hxb 0
        simp only [List.getElem?_toArray, List.getElem?_cons_zero] at x0
        have HM := Hd.mk hM
        have HNN := Hd.mk hNN
        have SLX := Hd.mk (HX.out.frame PJ4.out.fr HPX.out)
        clear hk hcd hM hNN hxb hxo hxp hxN
        go_upto_region 6 with (fail)
        go_cut [] from 44 to 54 (fun wd => Hd (PutR w4 wd gw NN M qj (rv cd k, k)))
        case first =>
          clear PJ4 BZ4
          go_region_law (first
            | (refine step_append_sl rfl (.tmp 48) (.tmp 51) 28 rfl 4 j0 (.bool false) 1 1 Tryz.underlying28 hj0 jz0 jz1 jz2 rfl (by decide) (.slice Ax M cx') M (bools NN M) (by simp [Act.eval, Act.put]) (by exact XO7.out) Al k dl (bools (rv cd k) k) (Value.slice Al k dl).ownBlock (by simp [Act.eval, Act.put]) (by rw [bools_length, Nat.mul_one]) (by exact sl_of_own OL.out) (by exact fun h => own_none OL.out h) (by intro u hu; simp only [bools, List.mem_map] at hu; obtain ⟨_, _, rfl⟩ := hu; rfl) (by unfold maxLen; omega) (by omega) ?_; intro A3 d3 w9 hown' hgrow haft; have B9 := blk_grown hgrow (by exact XB7.out) NEX.out.symm; have y0 := blk_cell B9 0; have yf := blk_frozen B9 0; simp only [List.getElem?_toArray, List.getElem?_cons_zero] at y0; have HPR := Hd.mk (PutR.after F7.out (rw_app (by exact XB7.out) (by exact XO7.out) XN.out (rv_lt cd k) hown' hgrow haft)); rw [XP.out] at HPR; clear hown' hgrow haft B9)
            | (go_simp; go_at_call 87; (with_reducible refine (Code.bits_ref _ X nx cx lit px (by exact slarg_drew SLX.out) HC.out.1 sx k cd HK.out HCD.out).mono ?_); rintro e w7 ⟨Al, dl, rfl, h1, h2, h3⟩; have OL := Hd.mk h1; have F7 := Hd.mk (h3.ofDrew); have XB7 := Hd.mk (F7.out.blk XB.out (by simp)); have XO7 := Hd.mk (own_frame XO.out F7.out (by simp)); have x7 := blk_cell XB7.out 0; simp only [List.getElem?_toArray, List.getElem?_cons_zero] at x7; clear h1 h2 h3))
          all_goals
            go_wp2_with (fail)
            go_meet
            case rel => exact ⟨HPR.out⟩
        case rest =>
          obtain ⟨wn, rfl⟩ : ∃ wn : World, wn = wc := ⟨_, rfl⟩
          have hpl := hcut.out
          clear hcut
          have hpl' := hpl
          obtain ⟨_, _, _, f4⟩ := hpl'
          have BZ5 := Hd.mk (rw_keep RWM.out BZ4.out (by decide) (by decide) f4)
          rw [HNN.out, HM.out] at hpl
          obtain ⟨q5, h4⟩ := PJ4.out.put hpl
          have h5 := h4
          rw [← HPT.out] at h5
          have PJ5 := Hd.mk h5
          clear hpl f4 h4 h5 XB XO XP XN NEX x0 SLX RWM BZ4 PJ4 HM HNN hMb HPT HK HCD hk15
          have ht5 : Hd (totOf (PR ++ [Code.part lit sx]) ≤ 48 * 65536 + 15) := ⟨by have := hmj.out; have := part_le HC.out.1 sx; rw [totOf_snoc2]; omega⟩
          go_wp2_with (fail)
          refine (rwput (vx : Int) (bxx : Int) vx rfl (by simpa using A7.out) (by omega) (by omega) PJ5.out.rw_ (by rw [Int.toNat_natCast]; have := ht5.out; omega)).mono ?_
          rintro e w6 ⟨rfl, hpl⟩
          rw [Int.toNat_natCast] at hpl
          have hpl' := hpl
          obtain ⟨_, _, _, f6⟩ := hpl'
          have BZ6 := Hd.mk (rw_keep PJ5.out.rw_ BZ5.out (by decide) (by decide) f6)
          obtain ⟨q6, h6⟩ := PJ5.out.put hpl
          have PJ6 := Hd.mk h6
          clear hpl f6 h6 BZ5 PJ5
          have ht6 : Hd (totOf (PR ++ [Code.part lit sx] ++ [(vx, bxx)]) ≤ 48 * 65536 + 15 + 5) := ⟨by have := ht5.out; rw [totOf_snoc]; omega⟩
          have d2 := blk_cell BZ6.out 2
          simp only [List.getElem?_toArray, List.getElem?_cons_zero, List.getElem?_cons_succ] at d2
          go_wp2_with (fail)
          refine (rdistSymbol_any w6 t.dist).mono ?_
          rintro r w7 ⟨rfl, h3⟩
          rw [← HU1.out]
          have PJ7 := Hd.mk (PJ6.out.call h3)
          clear h3 PJ6 BZ6 d2
          simp only
          obtain ⟨qj6, rfl⟩ : ∃ qj6, qj6 = q6 := ⟨_, rfl⟩
          obtain ⟨k, hk⟩ : ∃ k, k = Code.bitsOf dist sy := ⟨_, rfl⟩
          obtain ⟨cd, hcd⟩ : ∃ cd, cd = Code.codeOf dist sy := ⟨_, rfl⟩
          have HPT : Hd (Code.part dist sy = (rv cd k, k)) := ⟨by rw [Code.part, ← hk, ← hcd]⟩
          have hk15 : k ≤ 15 := by have := part_le HC.out.2 sy; rw [HPT.out] at this; exact this
          have HK := Hd.mk hk
          have HCD := Hd.mk hcd
          obtain ⟨M, hM⟩ : ∃ M, M = m + totOf (PR ++ [Code.part lit sx] ++ [(vx, bxx)]) := ⟨_, rfl⟩
          obtain ⟨NN, hNN⟩ : ∃ NN, NN = N + numOf (PR ++ [Code.part lit sx] ++ [(vx, bxx)]) * 2 ^ m := ⟨_, rfl⟩
          have hMb : M ≤ 35184372088832 + 48 * 65536 + 20 := by have := ht6.out; omega
          have hrw := PJ7.out.rw_
          rw [← hM, ← hNN] at hrw
          have RWM := Hd.mk hrw
          obtain ⟨Ax, cx', hxb, hxo, hxp, hxN⟩ := hrw
          have XB := Hd.mk hxb
          have XO := Hd.mk hxo
          have XP := Hd.mk hxp
          have XN := Hd.mk hxN
          have NEX := Hd.mk (own_ne hxo hxb (by decide))
          have x0 := blk_cell hxb 0
          simp only [List.getElem?_toArray, List.getElem?_cons_zero] at x0
          have HM := Hd.mk hM
          have HNN := Hd.mk hNN
          have SLX := Hd.mk (HY.out.frame PJ7.out.fr HPY.out)
          clear hk hcd hM hNN hxb hxo hxp hxN
          go_upto_region 9 with (fail)
          go_cut [] from 68 to 78 (fun wd => Hd (PutR w7 wd gw NN M qj6 (rv cd k, k)))
          case first =>
            clear PJ7
            go_region_law (first
              | (refine step_append_sl rfl (.tmp 72) (.tmp 75) 28 rfl 4 j0 (.bool false) 1 1 Tryz.underlying28 hj0 jz0 jz1 jz2 rfl (by decide) (.slice Ax M cx') M (bools NN M) (by simp [Act.eval, Act.put]) (by exact XO7.out) Al k dl (bools (rv cd k) k) (Value.slice Al k dl).ownBlock (by simp [Act.eval, Act.put]) (by rw [bools_length, Nat.mul_one]) (by exact sl_of_own OL.out) (by exact fun h => own_none OL.out h) (by intro u hu; simp only [bools, List.mem_map] at hu; obtain ⟨_, _, rfl⟩ := hu; rfl) (by unfold maxLen; omega) (by omega) ?_; intro A3 d3 w9 hown' hgrow haft; have B9 := blk_grown hgrow (by exact XB7.out) NEX.out.symm; have y0 := blk_cell B9 0; have yf := blk_frozen B9 0; simp only [List.getElem?_toArray, List.getElem?_cons_zero] at y0; have HPR := Hd.mk (PutR.after F7.out (rw_app (by exact XB7.out) (by exact XO7.out) XN.out (rv_lt cd k) hown' hgrow haft)); rw [XP.out] at HPR; clear hown' hgrow haft B9)
              | (go_simp; go_at_call 87; (with_reducible refine (Code.bits_ref _ Y ny cy dist py (by exact slarg_drew SLX.out) HC.out.2 sy k cd HK.out HCD.out).mono ?_); rintro e w7 ⟨Al, dl, rfl, h1, h2, h3⟩; have OL := Hd.mk h1; have F7 := Hd.mk (h3.ofDrew); have XB7 := Hd.mk (F7.out.blk XB.out (by simp)); have XO7 := Hd.mk (own_frame XO.out F7.out (by simp)); have x7 := blk_cell XB7.out 0; simp only [List.getElem?_toArray, List.getElem?_cons_zero] at x7; clear h1 h2 h3))
            all_goals
              go_wp2_with (fail)
              go_meet
              case rel => exact ⟨HPR.out⟩
          case rest =>
            obtain ⟨wn, rfl⟩ : ∃ wn : World, wn = wc := ⟨_, rfl⟩
            have hpl := hcut.out
            clear hcut
            have hpl' := hpl
            obtain ⟨_, _, _, f4⟩ := hpl'
            rw [HNN.out, HM.out] at hpl
            obtain ⟨q8, h4⟩ := PJ7.out.put hpl
            have h5 := h4
            rw [← HPT.out] at h5
            have PJ8 := Hd.mk h5
            clear hpl f4 h4 h5 XB XO XP XN NEX x0 SLX RWM PJ7 HM HNN hMb HPT HK HCD hk15
            have ht8 : Hd (totOf (PR ++ [Code.part lit sx] ++ [(vx, bxx)] ++ [Code.part dist sy]) ≤ 48 * 65536 + 15 + 5 + 15) := ⟨by have := ht6.out; have := part_le HC.out.2 sy; rw [totOf_snoc2]; omega⟩
            go_wp2_with (fail)
            refine (rwput (vy : Int) (byy : Int) vy rfl (by simpa using B7.out) (by omega) (by omega) PJ8.out.rw_ (by rw [Int.toNat_natCast]; have := ht8.out; omega)).mono ?_
            rintro e w9 ⟨rfl, hpl⟩
            rw [Int.toNat_natCast] at hpl
            obtain ⟨q9, h6⟩ := PJ8.out.put hpl
            have PJ9 := Hd.mk h6
            clear hpl h6 PJ8
            go_wp2
            go_roundg (gk - 1)
            case measure => omega
            case rel => exact ⟨j + 1, by go_num, by omega, ⟨q9, by rw [HTK.out, HTD.out]; have := PJ9.out; simpa [List.append_assoc] using this⟩⟩
    · obtain rfl : j = l.length := by omega
      rw [List.take_length] at PJ hmj
      have hjI : ¬ (l.length : Int) < (l.length : Nat) := by omega
      obtain ⟨k, hk⟩ : ∃ k, k = Code.bitsOf lit 256 := ⟨_, rfl⟩
      obtain ⟨cd, hcd⟩ : ∃ cd, cd = Code.codeOf lit 256 := ⟨_, rfl⟩
      have HPT : Hd (Code.part lit 256 = (rv cd k, k)) := ⟨by rw [Code.part, ← hk, ← hcd]⟩
      have hk15 : k ≤ 15 := by have := part_le HC.out.1 256; rw [HPT.out] at this; exact this
      have HK := Hd.mk hk
      have HCD := Hd.mk hcd
      obtain ⟨M, hM⟩ : ∃ M, M = m + totOf (toksP lit dist l) := ⟨_, rfl⟩
      obtain ⟨NN, hNN⟩ : ∃ NN, NN = N + numOf (toksP lit dist l) * 2 ^ m := ⟨_, rfl⟩
      have hMb : M ≤ 35184372088832 + 48 * 65536 := by have := hmj.out; omega
      have hrw := PJ.out.rw_
      rw [← hM, ← hNN] at hrw
      have RWM := Hd.mk hrw
      obtain ⟨Ax, cx', hxb, hxo, hxp, hxN⟩ := hrw
      have XB := Hd.mk hxb
      have XO := Hd.mk hxo
      have XP := Hd.mk hxp
      have XN := Hd.mk hxN
      have NEX := Hd.mk (own_ne hxo hxb (by decide))
      have x0 := blk_cell hxb 0
      simp only [List.getElem?_toArray, List.getElem?_cons_zero] at x0
      have HM := Hd.mk hM
      have HNN := Hd.mk hNN
      have SLX := Hd.mk (HX.out.frame PJ.out.fr HPX.out)
      clear hk hcd hM hNN hxb hxo hxp hxN
      go_upto_region 12 with (fail)
      go_region_law (first
        | (refine step_append_sl rfl (.tmp 89) (.tmp 91) 28 rfl 4 j0 (.bool false) 1 1 Tryz.underlying28 hj0 jz0 jz1 jz2 rfl (by decide) (.slice Ax M cx') M (bools NN M) (by simp [Act.eval, Act.put]) (by exact XO7.out) Al k dl (bools (rv cd k) k) (Value.slice Al k dl).ownBlock (by simp [Act.eval, Act.put]) (by rw [bools_length, Nat.mul_one]) (by exact sl_of_own OL.out) (by exact fun h => own_none OL.out h) (by intro u hu; simp only [bools, List.mem_map] at hu; obtain ⟨_, _, rfl⟩ := hu; rfl) (by unfold maxLen; omega) (by omega) ?_; intro A3 d3 w9 hown' hgrow haft; have B9 := blk_grown hgrow (by exact XB7.out) NEX.out.symm; have y0 := blk_cell B9 0; have yf := blk_frozen B9 0; simp only [List.getElem?_toArray, List.getElem?_cons_zero] at y0; have HPR := Hd.mk (PutR.after F7.out (rw_app (by exact XB7.out) (by exact XO7.out) XN.out (rv_lt cd k) hown' hgrow haft)); rw [XP.out] at HPR; clear hown' hgrow haft B9)
        | (go_simp; go_at_call 87; (with_reducible refine (Code.bits_ref _ X nx cx lit px (by exact slarg_drew SLX.out) HC.out.1 256 k cd HK.out HCD.out).mono ?_); rintro e w7 ⟨Al, dl, rfl, h1, h2, h3⟩; have OL := Hd.mk h1; have F7 := Hd.mk (h3.ofDrew); have XB7 := Hd.mk (F7.out.blk XB.out (by simp)); have XO7 := Hd.mk (own_frame XO.out F7.out (by simp)); have x7 := blk_cell XB7.out 0; simp only [List.getElem?_toArray, List.getElem?_cons_zero] at x7; clear h1 h2 h3))
      all_goals
        have hpl := HPR.out
        obtain ⟨q', h4⟩ := PJ.out.put (p := (rv cd k, k)) (by rw [← HNN.out, ← HM.out]; exact hpl)
        have PJ4 := Hd.mk h4
        clear hpl h4 XB XO XP XN NEX x0 SLX RWM PJ
        go_wp2
        go_end0
        exact ⟨rfl, q', by rw [bodyP, HPT.out]; exact PJ4.out⟩
end Go.Proofs.YtkdgfioigkijgaaGreat.Blk
set_option linter.unusedVariables false
set_option linter.unusedSimpArgs false
set_option maxRecDepth 100000
namespace Go.Proofs.YtkdgfioigkijgaaGreat.Blk
open Go.RowKit Go.Proofs.YtkdgfioigkijgaaGreat.Lib Go.Proofs.YtkdgfioigkijgaaGreat.Ints Go.Proofs.YtkdgfioigkijgaaGreat.Lz
set_option maxHeartbeats 2000000 in
theorem rmay_any (w : World) (A : Option Addr) (n c : Nat) (l : List Tok) (p : Option Nat) (hn : l.length = n) (hS : Sl w A (tcells l) p) (hb : n ≤ 6000000000000) (r : Int) (hr : r = mayB l) :
    Calls Tryz.prog 52 #[.slice A n c] w fun e w' => e = .returned (.int .i64 r) ∧ Fr w w' [] := by
  subst hn
  have HS := Hd.mk hS
  have HR := Hd.mk hr
  clear hS hr
  go_enter Tryz.func52, Tryz.ntmps52
  by_cases hlong : 65536 < l.length
  · obtain rfl : r = 90 := by rw [HR.out]; unfold mayB; rw [if_pos hlong]
    go_wp2
    go_ret
    exact ⟨rfl, Fr.refl _ _⟩
  · have hmr : Hd (r = if l.all right then 0 else 91) := ⟨by rw [HR.out]; unfold mayB; rw [if_neg hlong]⟩
    have hl2 : l.length ≤ 65536 := by omega
    go_wp2
    go_loopg [10] l.length (fun kq jv wr => ∃ j : Nat, jv = .int .i64 (j : Nat) ∧ j + kq = l.length ∧ Hd ((l.take j).all right = true) ∧ Hd (Fr w wr []))
    case atStart => exact ⟨0, rfl, by omega, ⟨rfl⟩, ⟨Fr.refl _ _⟩⟩
    case round =>
      obtain ⟨j, rfl, hj, HA, HF⟩ := hrel
      by_cases h1 : j < l.length
      · obtain ⟨a, o1, rfl, _, ha⟩ := Sl.row (enc := tcell) (sz := 3) (fun _ => rfl) (HS.out.frame HF.out (by simp)) h1 (by decide)
        obtain ⟨t, ht⟩ : ∃ t, t = l[j] := ⟨_, rfl⟩
        rw [← ht] at ha
        have c0 := ha 0 (by decide)
        have c1 := ha 1 (by decide)
        have c2 := ha 2 (by decide)
        simp only [tcell, List.getElem?_cons_zero, List.getElem?_cons_succ, Nat.add_zero] at c0 c1 c2
        have HT := Hd.mk ht
        clear ha ht
        obtain ⟨x, hx⟩ : ∃ x, x = right t := ⟨_, rfl⟩
        have HX := Hd.mk hx
        clear hx
        go_wp2_with (fail)
        refine (Lz.may_any _ t x HX.out).mono ?_
        rintro e w2 ⟨rfl, h2⟩
        have F2 := Hd.mk ((HF.out.alloc _).trans h2 (by simp))
        clear h2
        cases x with
        | false =>
          have : Hd (r = 91) := ⟨by rw [hmr.out, all_not h1 (by rw [← HT.out]; exact HX.out.symm)]; rfl⟩
          obtain rfl := this.out
          go_wp2
          go_ret
          exact ⟨rfl, F2.out⟩
        | true =>
          go_wp2
          go_roundg (gk - 1)
          case measure => omega
          case rel => exact ⟨j + 1, by go_num, by omega, ⟨by rw [all_take h1, HA.out, ← HT.out, ← HX.out]; rfl⟩, F2⟩
      · obtain rfl : j = l.length := by omega
        have : Hd (r = 0) := ⟨by rw [hmr.out]; rw [List.take_length] at HA; rw [HA.out]; rfl⟩
        obtain rfl := this.out
        go_wp2
        go_ret
        exact ⟨rfl, HF.out⟩
end Go.Proofs.YtkdgfioigkijgaaGreat.Blk
