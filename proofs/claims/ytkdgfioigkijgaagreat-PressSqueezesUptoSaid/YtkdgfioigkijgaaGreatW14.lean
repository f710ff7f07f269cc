import Derived.Test.YtkdgfioigkijgaaGreatW01
import Derived.Test.YtkdgfioigkijgaaGreatW02
import Derived.Test.YtkdgfioigkijgaaGreatW03
import Derived.Test.YtkdgfioigkijgaaGreatW04
import Derived.Test.YtkdgfioigkijgaaGreatW05
import Derived.Test.YtkdgfioigkijgaaGreatW06
import Derived.Test.YtkdgfioigkijgaaGreatW07
import Derived.Test.YtkdgfioigkijgaaGreatW08
import Derived.Test.YtkdgfioigkijgaaGreatW09
import Derived.Test.YtkdgfioigkijgaaGreatW10
import Derived.Test.YtkdgfioigkijgaaGreatW11
import Derived.Test.YtkdgfioigkijgaaGreatW12
import Derived.Test.YtkdgfioigkijgaaGreatW13
import Derived.BigRegion
import Derived.BigQuiet
import Derived.Deep.QuietTactic
import Derived.Deep.LoopGhost
import Derived.Deep.DeepCutAuto
import Derived.KernelRfl
import Derived.Deep.RegionLaw
import Derived.Outline
import Derived.Laws.Bits64
set_option linter.unusedVariables false
set_option linter.unusedSimpArgs false
set_option maxRecDepth 100000
namespace Go.Proofs.YtkdgfioigkijgaaGreat.Head
open Go.RowKit Go.Proofs.YtkdgfioigkijgaaGreat.Lib Go.Proofs.YtkdgfioigkijgaaGreat.Ints Go.Proofs.YtkdgfioigkijgaaGreat.Runs Go.Proofs.YtkdgfioigkijgaaGreat.Num Go.Proofs.YtkdgfioigkijgaaGreat.Blk
def runP (hl : List Int) (r : Int × Int) : List (Nat × Nat) := [Code.part hl r.1, ((r.2 - leastN r.1).toNat, (kbits r.1).toNat)]
def ordP (hl : List Int) (k : Nat) : List (Nat × Nat) := (ord.take k).map fun s => ((hl.getD s 0).toNat, 3)
def runsP (hl : List Int) (rs : List (Int × Int)) : List (Nat × Nat) := rs.flatMap (runP hl)
def headP (lit dist : List Int) : List (Nat × Nat) :=
  [((cutL lit 257).length - 257, 5), ((distL dist).length - 1, 5), (toldN (hlens (hruns lit dist)) 19 - 4, 4)] ++ ordP (hlens (hruns lit dist)) (toldN (hlens (hruns lit dist)) 19) ++ runsP (hlens (hruns lit dist)) (hruns lit dist)
theorem runsP_take {hl : List Int} {rs : List (Int × Int)} {j : Nat} (h : j < rs.length) : runsP hl (rs.take (j + 1)) = runsP hl (rs.take j) ++ runP hl rs[j] := by
  unfold runsP
  rw [List.take_succ_eq_append_getElem h, List.flatMap_append]; simp
theorem ordP_take (hl : List Int) {j : Nat} (h : j < 19) : ordP hl (j + 1) = ordP hl j ++ [((hl.getD (ord.getD j 0) 0).toNat, 3)] := by
  unfold ordP
  have h' : j < ord.length := h
  have e : ord.getD j 0 = ord[j] := by rw [List.getD_eq_getElem?_getD, List.getElem?_eq_getElem h']; rfl
  rw [List.take_succ_eq_append_getElem h', List.map_append, e]
  rfl
theorem ordP_tot (hl : List Int) : ∀ k, k ≤ 19 → totOf (ordP hl k) = 3 * k
  | 0, _ => rfl
  | k + 1, h => by rw [ordP_take hl (by omega), totOf_snoc2, ordP_tot hl k (by omega)]; simp only; omega
theorem runP_tot {hl : List Int} (hc : Code.check hl = 0) (r : Int × Int) : totOf (runP hl r) ≤ 22 := by
  have h1 := part_le hc r.1
  have h2 := kbits_le r.1
  simp only [runP, totOf]
  omega
theorem runsP_tot {hl : List Int} (hc : Code.check hl = 0) : ∀ rs, totOf (runsP hl rs) ≤ 22 * rs.length
  | [] => by simp [runsP, totOf]
  | r :: rs => by
    have h1 := runP_tot hc r
    have h2 := runsP_tot hc rs
    have e : runsP hl (r :: rs) = runP hl r ++ runsP hl rs := by simp [runsP]
    rw [e, totOf_app, List.length_cons]
    omega
theorem ordC_get {j : Nat} (h : j < 19) : ordC[j]? = some (.int .i64 ((ord.getD j 0 : Nat) : Int)) := by
  have : ∀ j, j < 19 → ordC[j]? = some (.int .i64 ((ord.getD j 0 : Nat) : Int)) := by
    intro j hj
    unfold ordC
    rw [List.getElem?_toArray, i64s_get, List.getElem?_map, List.getD_eq_getElem?_getD, List.getElem?_eq_getElem (show j < ord.length from hj)]
    rfl
  exact this j h
def WrP (w w' : World) (gw N m : Nat) (q : Option Nat) (ok : Bool) (P : List (Nat × Nat)) : Prop := (ok = true → ∃ q', Pw w w' gw q q' N m P) ∧ (ok = false → Fr w w' [])
set_option maxHeartbeats 8000000 in
theorem hwrite_any (w : World) (A B : Option Addr) (n c m' d : Nat) (lit dist : List Int) (p q' : Option Nat) (hX : SlArg w A n c (i64s lit) p) (hY : SlArg w B m' d (i64s dist) q') (er : Int) (her : er = if okH lit dist then 0 else 80)
    (gw N m : Nat) (q : Option Nat) (hT : Bits.Tl w gw 27 N m q) (hm : m ≤ 562949953421312) :
    Calls Tryz.prog 140 #[.pointer (some ⟨gw, 0, none⟩), .slice A n c, .slice B m' d] w fun e w' => e = .returned (.int .i64 er) ∧ WrP w w' gw N m q (okH lit dist) (headP lit dist) := by
  have HX := Hd.mk hX
  have HY := Hd.mk hY
  have HER := Hd.mk her
  have T0 := Hd.mk hT
  clear hX hY her hT
  go_enter Tryz.func140, Tryz.ntmps140
  go_wp2_with (fail)
  refine (newPlan_any w A B n c m' d lit dist p q' HX.out HY.out).mono ?_
  intro e w1 hp
  unfold PlanPost at hp
  obtain ⟨hp1, hp2⟩ := hp
  obtain ⟨b, hb⟩ : ∃ b, b = okH lit dist := ⟨_, rfl⟩
  rw [← hb] at hp1 hp2 HER
  have HB := Hd.mk hb
  clear hb
  cases b with
  | false =>
    obtain ⟨rfl, hf⟩ := hp2 rfl
    have F1 := Hd.mk hf
    obtain rfl : er = 80 := HER.out
    clear hp1 hp2 hf
    unfold noPlan
    go_wp2
    go_ret
    exact ⟨rfl, (fun h => by rw [← HB.out] at h; cases h), fun _ => F1.out.alloc _⟩
  | true =>
    obtain ⟨A1, n1, c1, B1, d1, rfl, hpl, hf⟩ := hp1 rfl
    obtain rfl : er = 0 := HER.out
    obtain ⟨r1, r2, r3⟩ := hruns_ok HB.out.symm
    obtain ⟨_, _, a3, a4⟩ := allL_ok HB.out.symm
    have hdl := distL_len dist (okH_parts HB.out.symm).2.2.1
    have HLE := hlens_le (rs := hruns lit dist) (by omega)
    have hl19 := hlens_len (rs := hruns lit dist) (by omega)
    have hck := hlens_check (rs := hruns lit dist) (by omega)
    have hnr : n1 = (hruns lit dist).length := by have := hpl.runs.1; rw [cells_len] at this; omega
    have F1 := Hd.mk hf
    have htl := toldN_le (hlens (hruns lit dist)) 19
    have htg := toldN_ge (hlens (hruns lit dist)) 19
    have HP : Hd (headP lit dist = [((cutL lit 257).length - 257, 5), ((distL dist).length - 1, 5), (toldN (hlens (hruns lit dist)) 19 - 4, 4)] ++ ordP (hlens (hruns lit dist)) (toldN (hlens (hruns lit dist)) 19) ++ runsP (hlens (hruns lit dist)) (hruns lit dist)) := ⟨rfl⟩
    have O1 := Hd.mk hpl.runs
    have O2 := Hd.mk hpl.lens
    unfold planC
    obtain ⟨td, htd⟩ : ∃ td, td = toldN (hlens (hruns lit dist)) 19 := ⟨_, rfl⟩
    rw [← htd] at htl htg HP ⊢
    obtain ⟨rs, hrs⟩ : ∃ rs, rs = hruns lit dist := ⟨_, rfl⟩
    obtain ⟨hl, hhl⟩ : ∃ hl, hl = hlens (hruns lit dist) := ⟨_, rfl⟩
    rw [← hhl] at O2 HLE hl19 HP hck
    rw [← hrs] at O1 r1 r2 hnr HP
    obtain ⟨xa, hxa⟩ : ∃ xa, xa = (cutL lit 257).length := ⟨_, rfl⟩
    obtain ⟨xb, hxb⟩ : ∃ xb, xb = (distL dist).length := ⟨_, rfl⟩
    rw [← hxa] at a3 a4 HP ⊢
    rw [← hxb] at hdl HP ⊢
    have HRB := Hd.mk r1
    have HLE2 := Hd.mk HLE
    have HCK := Hd.mk hck
    have T1 := Hd.mk (T0.out.frame hf (by simp) (by simp))
    clear hp1 hp2 hf hpl HLE hrs hhl htd r1 r3 HX HY HER hck hxa hxb
    subst hnr
    go_upto_region 4 with (fail)
    have B2 : Hd ((w1.alloc (.cells #[.int .i64 (xa : Nat), .int .i64 (xb : Nat), .slice A1 rs.length c1, .slice B1 19 d1, .int .i64 (td : Nat)] 307)).heap[w1.heap.size]? = some (.cells #[.int .i64 (xa : Nat), .int .i64 (xb : Nat), .slice A1 rs.length c1, .slice B1 19 d1, .int .i64 (td : Nat)] 307 (0, 0))) := ⟨blk_new w1 _⟩
    have A2 := (Fr.refl w1 []).alloc (.cells #[.int .i64 (xa : Nat), .int .i64 (xb : Nat), .slice A1 rs.length c1, .slice B1 19 d1, .int .i64 (td : Nat)] 307)
    have OA := Hd.mk (own_frame O1.out A2 (by simp))
    have OB := Hd.mk (own_frame O2.out A2 (by simp))
    have F2 := Hd.mk (F1.out.trans A2 (by simp))
    have T2 := Hd.mk (T1.out.frame A2 (by simp) (by simp))
    clear A2 O1 O2 F1 T1
    generalize w1.alloc (.cells #[.int .i64 (xa : Nat), .int .i64 (xb : Nat), .slice A1 rs.length c1, .slice B1 19 d1, .int .i64 (td : Nat)] 307) = w2 at *
    generalize w1.heap.size = g at *
    obtain ⟨bx, _, rfl⟩ : ∃ bx, True ∧ B1 = some ⟨bx, 0, none⟩ := by
      obtain ⟨g8, c8', e8, _⟩ := own_some OB.out (by decide)
      injection e8 with e8 _ _
      exact ⟨g8, trivial, e8⟩
    have k0 := blk_cell B2.out 0
    simp only [List.getElem?_toArray, List.getElem?_cons_zero, List.getElem?_cons_succ] at k0
    go_wp2_with (fail)
    refine (wput ((xa : Int) - 257) 5 (xa - 257) (by omega) (by have : (2 : Nat) ^ (5 : Int).toNat = 32 := rfl; omega) (by omega) (by omega) T2.out (by have : (5 : Int).toNat = 5 := rfl; omega)).mono ?_
    rintro e w3 ⟨rfl, hpl⟩
    have hpl' := hpl
    obtain ⟨_, _, _, f3⟩ := hpl'
    have B3 := Hd.mk (tl_keep T2.out B2.out (by decide) (by decide) f3)
    have OA3 := Hd.mk (own_keep T2.out f3 OA.out (by decide) (by decide))
    have OB3 := Hd.mk (own_keep T2.out f3 OB.out (by decide) (by decide))
    obtain ⟨q3, h3⟩ := (Pw.start T2.out).put (by simpa [numOf, totOf] using hpl)
    have W3 : Hd (Pw w2 w3 gw q q3 N m [(xa - 257, 5)]) := ⟨h3⟩
    clear hpl f3 h3 k0 B2 OA OB
    have k1 := blk_cell B3.out 1
    simp only [List.getElem?_toArray, List.getElem?_cons_zero, List.getElem?_cons_succ] at k1
    go_wp2_with (fail)
    refine (wput ((xb : Int) - 1) 5 (xb - 1) (by omega) (by have : (2 : Nat) ^ (5 : Int).toNat = 32 := rfl; omega) (by omega) (by omega) W3.out.tl (by have : (5 : Int).toNat = 5 := rfl; have : totOf [(xa - 257, 5)] = 5 := rfl; omega)).mono ?_
    rintro e w4 ⟨rfl, hpl⟩
    have hpl' := hpl
    obtain ⟨_, _, _, f3⟩ := hpl'
    have B4 := Hd.mk (tl_keep W3.out.tl B3.out (by decide) (by decide) f3)
    have OA4 := Hd.mk (own_keep W3.out.tl f3 OA3.out (by decide) (by decide))
    have OB4 := Hd.mk (own_keep W3.out.tl f3 OB3.out (by decide) (by decide))
    obtain ⟨q4, h3⟩ := W3.out.put hpl
    have W4 : Hd (Pw w2 w4 gw q q4 N m [(xa - 257, 5), (xb - 1, 5)]) := ⟨h3⟩
    clear hpl f3 h3 k1 B3 OA3 OB3 W3
    have k4 := blk_cell B4.out 4
    simp only [List.getElem?_toArray, List.getElem?_cons_zero, List.getElem?_cons_succ] at k4
    go_wp2_with (fail)
    refine (wput ((td : Int) - 4) 4 (td - 4) (by omega) (by have : (2 : Nat) ^ (4 : Int).toNat = 16 := rfl; omega) (by omega) (by omega) W4.out.tl (by have : (4 : Int).toNat = 4 := rfl; have : totOf [(xa - 257, 5), (xb - 1, 5)] = 10 := rfl; omega)).mono ?_
    rintro e w5 ⟨rfl, hpl⟩
    have hpl' := hpl
    obtain ⟨_, _, _, f3⟩ := hpl'
    have B5 := Hd.mk (tl_keep W4.out.tl B4.out (by decide) (by decide) f3)
    have OA5 := Hd.mk (own_keep W4.out.tl f3 OA4.out (by decide) (by decide))
    have OB5 := Hd.mk (own_keep W4.out.tl f3 OB4.out (by decide) (by decide))
    obtain ⟨q5, h3⟩ := W4.out.put hpl
    have W5 : Hd (Pw w2 w5 gw q q5 N m [(xa - 257, 5), (xb - 1, 5), (td - 4, 4)]) := ⟨h3⟩
    clear hpl f3 h3 k4 B4 OA4 OB4 W4
    go_upto_region 10 with (first
      | (go_at_call 179; refine (order_any w5).mono ?_; rintro e w6 ⟨rfl, hf⟩; have F6 := Hd.mk hf; clear hf)
      | (refine wpList_store_row rfl 294 _ _ rfl w6.heap.size ordC rfl rfl 294 _ (by exact blk_new w6 _) (by kernel_rfl) (by kernel_rfl) (by kernel_rfl) ?_))
    obtain ⟨w7, hw7⟩ : ∃ w7, w7 = (w6.alloc (.cells #[.int .i64 0, .int .i64 0, .int .i64 0, .int .i64 0, .int .i64 0, .int .i64 0, .int .i64 0, .int .i64 0, .int .i64 0, .int .i64 0, .int .i64 0, .int .i64 0, .int .i64 0, .int .i64 0, .int .i64 0, .int .i64 0, .int .i64 0, .int .i64 0, .int .i64 0] 294)).setRow w6.heap.size ordC := ⟨_, rfl⟩
    have HO7 : Hd (w7.heap[w6.heap.size]? = some (.cells ordC 294 (0, 0))) := ⟨by rw [hw7]; exact setRow_heap _ _ _ _ _ _ (blk_new w6 _)⟩
    have f7 : Fr w5 w7 [] := by rw [hw7]; exact Code.Fr.setRow (F6.out.alloc _) _ (.inr F6.out.size)
    rw [← hw7]
    have B7 := Hd.mk (f7.blk B5.out (by simp))
    have OA7 := Hd.mk (own_frame OA5.out f7 (by simp))
    have OB7 := Hd.mk (own_frame OB5.out f7 (by simp))
    have W7 := Hd.mk (W5.out.call f7)
    clear hw7 f7 B5 OA5 OB5 W5 F6
    generalize w6.heap.size = go at *
    have k4 := blk_cell B7.out 4
    simp only [List.getElem?_toArray, List.getElem?_cons_zero, List.getElem?_cons_succ] at k4
    have htd19 : (td : Int) ≤ 19 := by omega
    have htd0 : (0 : Int) ≤ td := by omega
    have W8 : Hd (∃ qj, Pw w2 w7 gw q qj N m ([(xa - 257, 5), (xb - 1, 5), (td - 4, 4)] ++ ordP hl 0)) := ⟨q5, by have := W7.out; simpa [ordP] using this⟩
    clear W7
    go_wp2
    go_loopg [51] td (fun kq jv wr => ∃ j : Nat, jv = .int .i64 (j : Nat) ∧ j + kq = td ∧ Hd (wr.heap[g]? = some (.cells #[.int .i64 (xa : Nat), .int .i64 (xb : Nat), .slice A1 rs.length c1, .slice (some ⟨bx, 0, none⟩) 19 d1, .int .i64 (td : Nat)] 307 (0, 0))) ∧ Hd (wr.heap[go]? = some (.cells ordC 294 (0, 0))) ∧ Hd (wr.ownsRow 0 297 2 (.slice A1 rs.length c1) rs.length (cells rs)) ∧ Hd (wr.ownsRow 0 3 1 (.slice (some ⟨bx, 0, none⟩) 19 d1) 19 (i64s hl)) ∧ Hd (∃ qj, Pw w2 wr gw q qj N m ([(xa - 257, 5), (xb - 1, 5), (td - 4, 4)] ++ ordP hl j)))
    case atStart => exact ⟨0, rfl, by omega, B7, HO7, OA7, OB7, W8⟩
    case round =>
      obtain ⟨j, rfl, hj, HB2, HO, HOA, HOB, HW⟩ := hrel
      obtain ⟨⟨qj, hPj⟩⟩ := HW
      have PJ := Hd.mk hPj
      clear hPj
      have hpt := ordP_tot hl j (by omega)
      have hmj : Hd (totOf ([(xa - 257, 5), (xb - 1, 5), (td - 4, 4)] ++ ordP hl j) ≤ 71) := ⟨by rw [totOf_app, hpt]; have : totOf [(xa - 257, 5), (xb - 1, 5), (td - 4, 4)] = 14 := rfl; omega⟩
      clear hpt
      by_cases h1 : j < td
      · have kO := (blk_cell HO.out j).trans (ordC_get (by omega))
        have hol := ord_lt j (by omega)
        have HT := Hd.mk (ordP_take hl (show j < 19 by omega))
        have HL := HLE2.out (ord.getD j 0)
        have kl := i64_at (sl_of_own HOB.out) (i := ord.getD j 0) (by omega) rfl
        rw [Nat.zero_add] at kl
        have k3 := blk_cell HB2.out 3
        simp only [List.getElem?_toArray, List.getElem?_cons_zero, List.getElem?_cons_succ] at k3
        generalize ord.getD j 0 = o at *
        generalize hl.getD o 0 = x at *
        obtain ⟨x, rfl⟩ := Int.eq_ofNat_of_zero_le HL.1
        rw [Int.toNat_natCast] at HT
        go_wp2_with (fail)
        refine (wput (x : Int) 3 x rfl (by have : (2 : Nat) ^ (3 : Int).toNat = 8 := rfl; omega) (by omega) (by omega) PJ.out.tl (by have : (3 : Int).toNat = 3 := rfl; have := hmj.out; omega)).mono ?_
        rintro e w8 ⟨rfl, hpl⟩
        have hpl' := hpl
        obtain ⟨_, _, _, f3⟩ := hpl'
        have HB3 := Hd.mk (tl_keep PJ.out.tl HB2.out (by decide) (by decide) f3)
        have HO3 := Hd.mk (tl_keep PJ.out.tl HO.out (by decide) (by decide) f3)
        have HOA3 := Hd.mk (own_keep PJ.out.tl f3 HOA.out (by decide) (by decide))
        have HOB3 := Hd.mk (own_keep PJ.out.tl f3 HOB.out (by decide) (by decide))
        obtain ⟨q8, h3⟩ := PJ.out.put hpl
        have W3 := Hd.mk h3
        clear hpl f3 h3
        go_wp2
        go_roundg (gk - 1)
        case measure => omega
        case rel => exact ⟨j + 1, by go_num, by omega, HB3, HO3, HOA3, HOB3, ⟨q8, by rw [HT.out, ← List.append_assoc]; exact W3.out⟩⟩
      · obtain rfl : j = td := by omega
        have k3 := blk_cell HB2.out 3
        simp only [List.getElem?_toArray, List.getElem?_cons_zero, List.getElem?_cons_succ] at k3
        clear HO k4 HO7 OA7 OB7 W8 B7
        go_wp2_with (fail)
        refine (Code.newenc_any wr (some ⟨bx, 0, none⟩) 19 d1 hl (some bx) ?_ 0 HCK.out.symm).mono ?_
        · obtain ⟨A', c', e1, h2, h3, _⟩ := own_slice HOB.out
          injection e1 with e1 _ e3
          subst e3
          exact ⟨by rw [i64s_length]; exact hl19, h2, h3, (fun h => by cases h), sl_of_own HOB.out, fun b hb => own_lt HOB.out hb⟩
        rintro e w8 ⟨p1, rfl, hf1, _, h3⟩
        obtain ⟨gx, ga, da, Bx, db, L, rfl, hE, _⟩ := h3 rfl
        have EX : Hd (EnP w8 gx hl) := ⟨⟨ga, da, Bx, db, L, hE⟩⟩
        have HB8 := Hd.mk (hf1.blk HB2.out (by simp))
        have HOA8 := Hd.mk (own_frame HOA.out hf1 (by simp))
        have PJ8 := Hd.mk (PJ.out.call hf1)
        have k2 := blk_cell HB8.out 2
        simp only [List.getElem?_toArray, List.getElem?_cons_zero, List.getElem?_cons_succ] at k2
        clear hf1 h3 hE HB2 HOA HOB PJ k3
        generalize [(xa - 257, 5), (xb - 1, 5), (j - 4, 4)] ++ ordP hl j = PR at *
        have W9 : Hd (∃ qj, Pw w2 w8 gw q qj N m (PR ++ runsP hl (rs.take 0))) := ⟨qj, by have := PJ8.out; simpa [runsP] using this⟩
        clear PJ8
        go_wp2
        go_loopg [73] rs.length (fun kq jv wr => ∃ j : Nat, jv = .int .i64 (j : Nat) ∧ j + kq = rs.length ∧ Hd (EnP wr gx hl) ∧ Hd (wr.ownsRow 0 297 2 (.slice A1 rs.length c1) rs.length (cells rs)) ∧ Hd (∃ qj, Pw w2 wr gw q qj N m (PR ++ runsP hl (rs.take j))))
        case atStart => exact ⟨0, rfl, by omega, EX, HOA8, W9⟩
        case round =>
          obtain ⟨i, rfl, hi, EXi, HOAi, HW⟩ := hrel
          obtain ⟨⟨qi, hPi⟩⟩ := HW
          have PI := Hd.mk hPi
          clear hPi
          have hmi : Hd (totOf (PR ++ runsP hl (rs.take i)) ≤ 71 + 22 * 316) := ⟨by
            rw [totOf_app]
            have h1 := runsP_tot HCK.out (rs.take i)
            rw [List.length_take] at h1
            have := hmj.out
            omega⟩
          by_cases h2 : i < rs.length
          · obtain ⟨a, o1, e1, _, hcc⟩ := Sl.row (enc := enc) (sz := 2) (fun _ => rfl) (sl_of_own2 HOAi.out (by omega)) h2 (by decide)
            subst e1
            obtain ⟨r, hr⟩ : ∃ r, r = rs[i] := ⟨_, rfl⟩
            rw [← hr] at hcc
            have hrb := HRB.out r (by rw [hr]; exact List.getElem_mem h2)
            have c0 := hcc 0 (by decide)
            have c1' := hcc 1 (by decide)
            have HTK : Hd (runsP hl (rs.take (i + 1)) = runsP hl (rs.take i) ++ runP hl r) := ⟨by rw [runsP_take h2, hr]⟩
            obtain ⟨rsym, rcnt⟩ := r
            obtain ⟨hb1, hb2, hb3, hb4, hb5⟩ := hrb
            simp only at hb1 hb2 hb3 hb4 hb5
            simp only [enc, List.getElem?_cons_zero, List.getElem?_cons_succ, Nat.add_zero] at c0 c1'
            have HRP : Hd (runP hl (rsym, rcnt) = [Code.part hl rsym, ((rcnt - leastN rsym).toNat, (kbits rsym).toNat)]) := ⟨rfl⟩
            have hkb := kbits_le rsym
            have hml := mostN_le rsym
            have hlp := leastN_pos rsym
            obtain ⟨kb, hkb'⟩ : ∃ kb, kb = kbits rsym := ⟨_, rfl⟩
            obtain ⟨lo, hlo'⟩ : ∃ lo, lo = leastN rsym := ⟨_, rfl⟩
            rw [← hkb'] at HRP hkb hb5
            rw [← hlo'] at HRP hlp hb3 hb5
            have HKB := Hd.mk hkb'
            have HLO := Hd.mk hlo'
            generalize runsP hl (rs.take i) = RP at *
            clear hcc hr hkb' hlo'
            go_upto_region 19 with (fail)
            have bz := blk_new wr (.cells #[.int .i64 rsym, .int .i64 rcnt] 297)
            have A3 := (Fr.refl wr []).alloc (.cells #[.int .i64 rsym, .int .i64 rcnt] 297)
            have BZ := Hd.mk bz
            have EX3 := Hd.mk (EXi.out.call A3)
            have HOA3 := Hd.mk (own_frame HOAi.out A3 (by simp))
            have P3 := Hd.mk (PI.out.call A3)
            clear bz A3 EXi HOAi PI c0 c1'
            generalize wr.alloc (.cells #[.int .i64 rsym, .int .i64 rcnt] 297) = w9 at *
            generalize wr.heap.size = gr at *
            have d0 := blk_cell BZ.out 0
            simp only [List.getElem?_toArray, List.getElem?_cons_zero] at d0
            go_wp2_with (fail)
            obtain ⟨er1, he1⟩ : ∃ e1 : Int, e1 = if Code.bitsOf hl rsym = 0 then 53 else 0 := ⟨_, rfl⟩
            refine (eput rsym EX3.out P3.out.tl (by have := hmi.out; omega) er1 he1).mono ?_
            clear he1
            rintro e w10 ⟨rfl, hpl⟩
            have hpl' := hpl
            obtain ⟨_, _, _, f4⟩ := hpl'
            have BZ4 := Hd.mk (tl_keep P3.out.tl BZ.out (by decide) (by decide) f4)
            have EX4 := Hd.mk (EX3.out.keep P3.out.tl f4)
            have HOA4 := Hd.mk (own_keep P3.out.tl f4 HOA3.out (by decide) (by decide))
            obtain ⟨q4', h4⟩ := P3.out.put hpl
            have P4 := Hd.mk h4
            clear hpl f4 h4 d0 BZ EX3 HOA3 P3
            have d0 := blk_cell BZ4.out 0
            simp only [List.getElem?_toArray, List.getElem?_cons_zero] at d0
            have hm4 : Hd (totOf (PR ++ RP ++ [Code.part hl rsym]) ≤ 71 + 22 * 316 + 15) := ⟨by have := hmi.out; have := part_le HCK.out rsym; rw [totOf_snoc2]; omega⟩
            go_wp2_with (fail)
            refine (kinds_full w10 rsym kb lo _ hb1 hb2 HKB.out HLO.out rfl).mono ?_
            rintro e w11 ⟨rfl, f5⟩
            have BZ5 := Hd.mk (f5.blk BZ4.out (by simp))
            have EX5 := Hd.mk (EX4.out.call f5)
            have HOA5 := Hd.mk (own_frame HOA4.out f5 (by simp))
            have P5 := Hd.mk (P4.out.call f5)
            clear f5 d0 BZ4 EX4 HOA4 P4
            obtain ⟨mo, hmo⟩ : ∃ mo, mo = mostN rsym := ⟨_, rfl⟩
            rw [← hmo]
            clear hmo
            go_upto_region 21 with (fail)
            have bz := blk_new w11 (.cells #[.int .i64 kb, .int .i64 lo, .int .i64 mo] 311)
            have A6 := (Fr.refl w11 []).alloc (.cells #[.int .i64 kb, .int .i64 lo, .int .i64 mo] 311)
            have BZ6 := Hd.mk (A6.blk BZ5.out (by simp))
            have KZ6 := Hd.mk bz
            have EX6 := Hd.mk (EX5.out.call A6)
            have HOA6 := Hd.mk (own_frame HOA5.out A6 (by simp))
            have P6 := Hd.mk (P5.out.call A6)
            clear bz A6 BZ5 EX5 HOA5 P5
            generalize w11.alloc (.cells #[.int .i64 kb, .int .i64 lo, .int .i64 mo] 311) = w12 at *
            generalize w11.heap.size = gz at *
            have d1 := blk_cell BZ6.out 1
            have z1 := blk_cell KZ6.out 1
            have z0 := blk_cell KZ6.out 0
            simp only [List.getElem?_toArray, List.getElem?_cons_zero, List.getElem?_cons_succ] at d1 z1 z0
            obtain ⟨ad, had⟩ := Int.eq_ofNat_of_zero_le (show 0 ≤ rcnt - lo by omega)
            obtain ⟨kbn, rfl⟩ := Int.eq_ofNat_of_zero_le hkb.1
            rw [had, Int.toNat_natCast, Int.toNat_natCast] at HRP
            rw [had, Int.toNat_natCast] at hb5
            have hadlt : ad < 2 ^ kbn := by exact_mod_cast hb5
            have had2 : ad ≤ 138 := by omega
            have HAL := Hd.mk hadlt
            have hrc : rcnt = lo + (ad : Int) := by omega
            subst hrc
            clear hb5 hadlt had
            go_wp2_with (fail)
            refine (wput (lo + (ad : Int) - lo) (kbn : Int) ad (by omega) (by simpa using HAL.out) (by omega) (by omega) P6.out.tl (by rw [Int.toNat_natCast]; have := hm4.out; omega)).mono ?_
            rintro e w13 ⟨rfl, hpl⟩
            rw [Int.toNat_natCast] at hpl
            have hpl' := hpl
            obtain ⟨_, _, _, f7⟩ := hpl'
            have EX7 := Hd.mk (EX6.out.keep P6.out.tl f7)
            have HOA7 := Hd.mk (own_keep P6.out.tl f7 HOA6.out (by decide) (by decide))
            obtain ⟨q7', h7⟩ := P6.out.put hpl
            have P7 := Hd.mk h7
            clear hpl f7 h7
            go_wp2
            go_roundg (gk - 1)
            case measure => omega
            case rel => exact ⟨i + 1, by go_num, by omega, EX7, HOA7, ⟨q7', by rw [HTK.out, HRP.out]; have := P7.out; simpa [List.append_assoc] using this⟩⟩
          · obtain rfl : i = rs.length := by omega
            have W10 : Hd (Pw w2 wr gw q qi N m (headP lit dist)) := ⟨by rw [HP.out]; have := PI.out; rwa [List.take_length] at this⟩
            go_wp2
            go_ret
            exact ⟨rfl, (fun _ => ⟨qi, Pw.after F2.out W10.out⟩), fun h => by rw [← HB.out] at h; cases h⟩
end Go.Proofs.YtkdgfioigkijgaaGreat.Head
set_option linter.unusedVariables false
set_option linter.unusedSimpArgs false
set_option maxRecDepth 100000
namespace Go.Proofs.YtkdgfioigkijgaaGreat.Blk
open Go.RowKit Go.Proofs.YtkdgfioigkijgaaGreat.Lib Go.Proofs.YtkdgfioigkijgaaGreat.Ints Go.Proofs.YtkdgfioigkijgaaGreat.Lz
theorem own_okH (l : List Tok) : Head.okH (ownLit l) (ownDist l) = true := by
  refine decide_eq_true ⟨by rw [ownLit_len]; decide, by rw [ownLit_len]; decide, by rw [ownDist_len]; decide, ownLit_check l, ownDist_check l, ?_⟩
  have h256 : 256 < (litFrq l).length := by unfold litFrq; rw [frq_len]; decide
  have h := Lens.lenOf_at (fs := litFrq l) (limit := 15) (by decide) (lvs_frq _ (by decide)) h256
  have hp : (0 : Int) < (litFrq l)[256] := by
    have : (litFrq l)[256] = (Code.cnt (symsA l ++ [256]) 256 : Int) := by simp [litFrq, frq]
    rw [this, cnt_snoc]
    simp only [show ((256 : Nat) : Int) = 256 from rfl, if_true]
    omega
  rw [if_pos hp] at h
  have e : (ownLit l).getD 256 0 = (Lens.lenOf 15 (litFrq l) 256 : Int) := by
    rw [List.getD_eq_getElem?_getD]; simp [ownLit]
  rw [e]
  omega
def costK (k : Nat) (bh : Int) (l : List Tok) : Int × Int :=
  if k = 0 then (if 65535 < Lz.sizeOf l then (0, 90) else (3 + (13 - bh) % 8 + 32 + 8 * (Lz.sizeOf l : Nat), 0))
  else if k = 1 then (3 + codedN plainLit plainDist l, 0)
  else (3 + Head.hcost (ownLit l) (ownDist l) + codedN (ownLit l) (ownDist l) l, 0)
set_option maxHeartbeats 4000000 in
theorem storedCost_any (w : World) (bh : Int) (h0 : 0 ≤ bh) (h7 : bh ≤ 7) (A : Option Addr) (n c : Nat) (l : List Tok) (p : Option Nat) (hn : l.length = n) (hS : Sl w A (tcells l) p) (hb : n ≤ 65536) (m er : Int) (hm : m = (costK 0 bh l).1) (her : er = (costK 0 bh l).2) :
    Calls Tryz.prog 81 #[.int .i64 bh, .slice A n c] w fun e w' => e = .returned (.tuple #[.int .i64 m, .int .i64 er]) ∧ Fr w w' [] := by
  have HS := Hd.mk hS
  have HK : Hd (costK 0 bh l = if 65535 < Lz.sizeOf l then (0, 90) else (3 + (13 - bh) % 8 + 32 + 8 * (Lz.sizeOf l : Nat), 0)) := ⟨rfl⟩
  have HM := Hd.mk (And.intro hm her)
  clear hS hm her
  have hsz := Lz.sizeOf_le l
  go_enter Tryz.func81, Tryz.ntmps81
  go_wp2_with (fail)
  refine (size_any w A n c l p hn HS.out (by omega)).mono ?_
  rintro r w1 ⟨rfl, h1⟩
  have F1 := Hd.mk h1
  clear h1
  obtain ⟨s, hs⟩ : ∃ s, s = Lz.sizeOf l := ⟨_, rfl⟩
  rw [← hs] at HK hsz ⊢
  clear hs
  have hsb : (s : Int) ≤ 16908288 := by omega
  by_cases h : 65535 < s
  · have e := HK.out
    rw [if_pos h] at e
    obtain rfl : m = 0 := by rw [HM.out.1, e]
    obtain rfl : er = 90 := by rw [HM.out.2, e]
    clear e
    go_wp2
    go_ret2
    exact ⟨rfl, F1.out⟩
  · have e := HK.out
    rw [if_neg h] at e
    obtain rfl : er = 0 := by rw [HM.out.2, e]
    have hm : m = 3 + (13 - bh) % 8 + 32 + 8 * (s : Int) := by rw [HM.out.1, e]
    have HMM := Hd.mk hm
    clear e hm
    have n1 : Int.tmod (16 - bh - 3) 8 = (13 - bh) % 8 := by rw [Int.tmod_eq_emod_of_nonneg (by omega)]; congr 1; omega
    go_wp2
    go_ret2
    exact ⟨by rw [HMM.out]; rfl, F1.out⟩
set_option maxHeartbeats 4000000 in
theorem ownCost_any (w : World) (bh : Int) (A : Option Addr) (n c : Nat) (l : List Tok) (p : Option Nat) (hn : l.length = n) (hS : Sl w A (tcells l) p) (hb : n ≤ 65536) (hr : ∀ t ∈ l, right t = true) (hl : LitB l) (hmay : mayB l = 0) (m er : Int) (hm : m = (costK 2 bh l).1) (her : er = (costK 2 bh l).2) :
    Calls Tryz.prog 85 #[.int .i64 bh, .slice A n c] w fun e w' => e = .returned (.tuple #[.int .i64 m, .int .i64 er]) ∧ Fr w w' [] := by
  obtain rfl : er = 0 := her
  have HS := Hd.mk hS
  have HR := Hd.mk (And.intro hr hl)
  have HM : Hd (m = 3 + Head.hcost (ownLit l) (ownDist l) + codedN (ownLit l) (ownDist l) l) := ⟨hm⟩
  have HMAY := Hd.mk hmay
  have hcb : 0 ≤ codedN (ownLit l) (ownDist l) l ∧ codedN (ownLit l) (ownDist l) l ≤ 15 + 48 * 65536 := by
    have h1 := codedF_le (check15 (ownLit_check l)) (check15 (ownDist_check l)) l hr hl
    have h2 := lens15_get (check15 (ownLit_check l)) 256
    unfold codedN
    omega
  have hhb : 0 ≤ Head.hcost (ownLit l) (ownDist l) ∧ Head.hcost (ownLit l) (ownDist l) ≤ 5000 := by
    obtain ⟨_, r2, _⟩ := Head.hruns_ok (own_okH l)
    have h1 := Head.costF_le (Head.hlens_le (rs := Head.hruns (ownLit l) (ownDist l)) (by omega)) (Head.hruns (ownLit l) (ownDist l))
    have h2 := Head.toldN_le (Head.hlens (Head.hruns (ownLit l) (ownDist l))) 19
    unfold Head.hcost
    omega
  obtain ⟨k1, hk1⟩ : ∃ k, k = Head.hcost (ownLit l) (ownDist l) := ⟨_, rfl⟩
  obtain ⟨k2, hk2⟩ : ∃ k, k = codedN (ownLit l) (ownDist l) l := ⟨_, rfl⟩
  rw [← hk1] at HM hhb
  rw [← hk2] at HM hcb
  have HK1 := Hd.mk hk1
  have HK2 := Hd.mk hk2
  clear hS hm hr hl hmay hk1 hk2
  go_enter Tryz.func85, Tryz.ntmps85
  go_wp2_with (fail)
  refine (ownLens_any w A n c l p hn HS.out (by omega) HR.out.2).mono ?_
  rintro r w1 hp
  unfold OwnPost at hp
  obtain ⟨A1, c1, B1, d1, rfl, h1, h2, _, _, h3⟩ := hp.1 HMAY.out
  have X1 := Hd.mk (slArg_own h1)
  have Y1 := Hd.mk (slArg_own h2)
  have F1 := Hd.mk h3
  clear h1 h2 h3 hp
  go_wp2_with (fail)
  refine (Head.hcost_any w1 A1 B1 286 c1 30 d1 (ownLit l) (ownDist l) _ _ X1.out Y1.out 0 k1 (by rw [own_okH]; rfl) (by rw [own_okH]; exact HK1.out)).mono ?_
  rintro r w2 ⟨rfl, h1⟩
  have F2 := Hd.mk (F1.out.trans h1 (by simp))
  have X2 := Hd.mk (X1.out.sl.frame h1 (by simp))
  have Y2 := Hd.mk (Y1.out.sl.frame h1 (by simp))
  clear h1 X1 Y1 F1
  go_wp2_with (fail)
  refine (coded_any w2 A1 B1 286 c1 30 d1 (ownLit l) (ownDist l) _ _ X2.out Y2.out (ownLit_len l) (ownDist_len l) (by omega) (by omega) A n c l p hn (HS.out.frame F2.out (by simp)) hb HR.out.1 HR.out.2 (check15 (ownLit_check l)) (check15 (ownDist_check l)) k2 HK2.out).mono ?_
  rintro r w3 ⟨rfl, h1⟩
  have F3 := Hd.mk (F2.out.trans h1 (by simp))
  clear h1
  go_wp2
  go_ret2
  exact ⟨by rw [HM.out]; rfl, F3.out⟩
end Go.Proofs.YtkdgfioigkijgaaGreat.Blk
set_option linter.unusedVariables false
set_option linter.unusedSimpArgs false
set_option maxRecDepth 100000
namespace Go.Proofs.YtkdgfioigkijgaaGreat.Blk
open Go.RowKit Go.Proofs.YtkdgfioigkijgaaGreat.Lib Go.Proofs.YtkdgfioigkijgaaGreat.Ints Go.Proofs.YtkdgfioigkijgaaGreat.Lz
theorem plainCost2 (w : World) (bh : Int) (A : Option Addr) (n c : Nat) (l : List Tok) (p : Option Nat) (hn : l.length = n) (hS : Sl w A (tcells l) p) (hb : n ≤ 65536) (hr : ∀ t ∈ l, right t = true) (hl : LitB l) (m er : Int) (hm : m = (costK 1 bh l).1) (her : er = (costK 1 bh l).2) :
    Calls Tryz.prog 83 #[.int .i64 bh, .slice A n c] w fun e w' => e = .returned (.tuple #[.int .i64 m, .int .i64 er]) ∧ Fr w w' [] := by
  obtain rfl : er = 0 := her
  obtain rfl : m = 3 + codedN plainLit plainDist l := hm
  exact plainCost_any w bh A n c l p hn hS hb hr hl _ rfl
set_option maxHeartbeats 8000000 in
theorem cost3_any (w : World) (k : Nat) (hk : k < 3) (bh : Int) (h0 : 0 ≤ bh) (h7 : bh ≤ 7) (A : Option Addr) (n c : Nat) (l : List Tok) (p : Option Nat) (hn : l.length = n) (hS : Sl w A (tcells l) p) (hb : n ≤ 6000000000000) (hl : LitB l) (m er : Int) (hm : if mayB l = 0 then m = (costK k bh l).1 ∧ er = (costK k bh l).2 else m = 0 ∧ er = mayB l) :
    Calls Tryz.prog 26 #[.int .i64 (k : Nat), .int .i64 bh, .slice A n c] w fun r w' => r = .returned (.tuple #[.int .i64 m, .int .i64 er]) ∧ Fr w w' [] := by
  have HS := Hd.mk hS
  have HL := Hd.mk hl
  obtain ⟨e, he⟩ : ∃ e, e = mayB l := ⟨_, rfl⟩
  rw [← he] at hm
  have HE := Hd.mk he
  have HM := Hd.mk hm
  clear hS hl hm he
  go_enter Tryz.func26, Tryz.ntmps26
  have hc : k = 0 ∨ k = 1 ∨ k = 2 := by omega
  rcases hc with rfl | rfl | rfl
  · have hi := ways0
    have hf := way0c
    go_wp2_with (fail)
    refine (may_any w A n c l p hn HS.out (Nat.le_trans hb (by decide)) e HE.out).mono ?_
    rintro r w1 ⟨rfl, h1⟩
    have F1 := Hd.mk h1
    clear h1
    by_cases h : e = 0
    · have hmm : Hd (m = (costK 0 bh l).1 ∧ er = (costK 0 bh l).2) := ⟨by have := HM.out; rw [if_pos h] at this; exact this⟩
      subst h
      have hz := mayB_zero HE.out.symm
      have HZ := Hd.mk hz.2
      have hz1 := hz.1
      clear hz
      go_wp2_with (fail)
      refine (ways_any w1).mono ?_
      rintro r w2 ⟨rfl, h2⟩
      have F2 := Hd.mk (F1.out.trans h2 (by simp))
      clear h2
      go_wp2_with (fail)
      refine (storedCost_any w2 bh h0 h7 A n c l p hn (HS.out.frame F2.out (by simp)) (by omega) m er hmm.out.1 hmm.out.2).mono ?_
      rintro r w3 ⟨rfl, h3⟩
      have F3 := Hd.mk (F2.out.trans h3 (by simp))
      clear h3
      go_wp2
      go_ret2
      exact ⟨rfl, F3.out⟩
    · have hne : (e != 0) = true := by simpa using h
      obtain ⟨e1, e2⟩ := (show m = 0 ∧ er = e by have := HM.out; rw [if_neg h] at this; exact this)
      subst e1 e2
      go_wp2
      go_ret2
      exact ⟨rfl, F1.out⟩
  · have hi := ways1
    have hf := way1c
    go_wp2_with (fail)
    refine (may_any w A n c l p hn HS.out (Nat.le_trans hb (by decide)) e HE.out).mono ?_
    rintro r w1 ⟨rfl, h1⟩
    have F1 := Hd.mk h1
    clear h1
    by_cases h : e = 0
    · have hmm : Hd (m = (costK 1 bh l).1 ∧ er = (costK 1 bh l).2) := ⟨by have := HM.out; rw [if_pos h] at this; exact this⟩
      subst h
      have hz := mayB_zero HE.out.symm
      have HZ := Hd.mk hz.2
      have hz1 := hz.1
      clear hz
      go_wp2_with (fail)
      refine (ways_any w1).mono ?_
      rintro r w2 ⟨rfl, h2⟩
      have F2 := Hd.mk (F1.out.trans h2 (by simp))
      clear h2
      go_wp2_with (fail)
      refine (plainCost2 w2 bh A n c l p hn (HS.out.frame F2.out (by simp)) (by omega) HZ.out HL.out m er hmm.out.1 hmm.out.2).mono ?_
      rintro r w3 ⟨rfl, h3⟩
      have F3 := Hd.mk (F2.out.trans h3 (by simp))
      clear h3
      go_wp2
      go_ret2
      exact ⟨rfl, F3.out⟩
    · have hne : (e != 0) = true := by simpa using h
      obtain ⟨e1, e2⟩ := (show m = 0 ∧ er = e by have := HM.out; rw [if_neg h] at this; exact this)
      subst e1 e2
      go_wp2
      go_ret2
      exact ⟨rfl, F1.out⟩
  · have hi := ways2
    have hf := way2c
    go_wp2_with (fail)
    refine (may_any w A n c l p hn HS.out (Nat.le_trans hb (by decide)) e HE.out).mono ?_
    rintro r w1 ⟨rfl, h1⟩
    have F1 := Hd.mk h1
    clear h1
    by_cases h : e = 0
    · have hmm : Hd (m = (costK 2 bh l).1 ∧ er = (costK 2 bh l).2) := ⟨by have := HM.out; rw [if_pos h] at this; exact this⟩
      subst h
      have hz := mayB_zero HE.out.symm
      have HZ := Hd.mk hz.2
      have hz1 := hz.1
      clear hz
      go_wp2_with (fail)
      refine (ways_any w1).mono ?_
      rintro r w2 ⟨rfl, h2⟩
      have F2 := Hd.mk (F1.out.trans h2 (by simp))
      clear h2
      go_wp2_with (fail)
      refine (ownCost_any w2 bh A n c l p hn (HS.out.frame F2.out (by simp)) (by omega) HZ.out HL.out HE.out.symm m er hmm.out.1 hmm.out.2).mono ?_
      rintro r w3 ⟨rfl, h3⟩
      have F3 := Hd.mk (F2.out.trans h3 (by simp))
      clear h3
      go_wp2
      go_ret2
      exact ⟨rfl, F3.out⟩
    · have hne : (e != 0) = true := by simpa using h
      obtain ⟨e1, e2⟩ := (show m = 0 ∧ er = e by have := HM.out; rw [if_neg h] at this; exact this)
      subst e1 e2
      go_wp2
      go_ret2
      exact ⟨rfl, F1.out⟩
def pickF (bh : Int) (l : List Tok) : Nat → Int × Int
  | 0 => (1, -1)
  | k + 1 => if (costK k bh l).2 = 0 ∧ ((pickF bh l k).2 < 0 ∨ (costK k bh l).1 < (pickF bh l k).2) then ((k : Int), (costK k bh l).1) else pickF bh l k
end Go.Proofs.YtkdgfioigkijgaaGreat.Blk
set_option linter.unusedVariables false
set_option linter.unusedSimpArgs false
set_option maxRecDepth 100000
namespace Go.Proofs.YtkdgfioigkijgaaGreat.Blk
open Go.RowKit Go.Proofs.YtkdgfioigkijgaaGreat.Lib Go.Proofs.YtkdgfioigkijgaaGreat.Ints Go.Proofs.YtkdgfioigkijgaaGreat.Lz
theorem costK_le {bh : Int} (h0 : 0 ≤ bh) (h7 : bh ≤ 7) {l : List Tok} (h : mayB l = 0) (hl : LitB l) (k : Nat) : 0 ≤ (costK k bh l).1 ∧ (costK k bh l).1 ≤ 4503599627370496 ∧ ((costK k bh l).2 = 0 → 3 ≤ (costK k bh l).1) := by
  obtain ⟨h1, hr⟩ := mayB_zero h
  unfold costK
  split
  · split
    · exact ⟨by decide, by decide, fun h => absurd h (by decide)⟩
    · have := Lz.sizeOf_le l
      refine ⟨?_, ?_, fun _ => ?_⟩ <;> simp only <;> omega
  · split
    · have a := codedF_le plainLit15 plainDist15 l hr hl
      have b := lens15_get plainLit15 256
      unfold codedN
      refine ⟨?_, ?_, fun _ => ?_⟩ <;> simp only <;> omega
    · have a := codedF_le (check15 (ownLit_check l)) (check15 (ownDist_check l)) l hr hl
      have b := lens15_get (check15 (ownLit_check l)) 256
      obtain ⟨_, r2, _⟩ := Head.hruns_ok (own_okH l)
      have c := Head.costF_le (Head.hlens_le (rs := Head.hruns (ownLit l) (ownDist l)) (by omega)) (Head.hruns (ownLit l) (ownDist l))
      have d := Head.toldN_le (Head.hlens (Head.hruns (ownLit l) (ownDist l))) 19
      unfold codedN Head.hcost
      refine ⟨?_, ?_, fun _ => ?_⟩ <;> simp only <;> omega
theorem pickF_le {bh : Int} (h0 : 0 ≤ bh) (h7 : bh ≤ 7) {l : List Tok} (h : mayB l = 0) (hl : LitB l) : ∀ k, k ≤ 3 → -1 ≤ (pickF bh l k).2 ∧ (pickF bh l k).2 ≤ 4503599627370496 ∧ 0 ≤ (pickF bh l k).1 ∧ (pickF bh l k).1 ≤ 2
  | 0, _ => by simp [pickF]
  | k + 1, hk => by
    have a := pickF_le h0 h7 h hl k (by omega)
    have b := costK_le h0 h7 h hl k
    rw [pickF]
    split
    · refine ⟨?_, ?_, ?_, ?_⟩ <;> simp only <;> omega
    · exact a
set_option maxHeartbeats 8000000 in
theorem pick_any (w : World) (bh : Int) (h0 : 0 ≤ bh) (h7 : bh ≤ 7) (A : Option Addr) (n c : Nat) (l : List Tok) (p : Option Nat) (hn : l.length = n) (hS : Sl w A (tcells l) p) (hb : n ≤ 6000000000000) (hl : LitB l) (m er : Int) (hm : if mayB l = 0 then m = (pickF bh l 3).1 ∧ er = 0 else m = 0 ∧ er = mayB l) :
    Calls Tryz.prog 28 #[.int .i64 bh, .slice A n c] w fun r w' => r = .returned (.tuple #[.int .i64 m, .int .i64 er]) ∧ Fr w w' [] := by
  have HS := Hd.mk hS
  have HL := Hd.mk hl
  obtain ⟨e, he⟩ : ∃ e, e = mayB l := ⟨_, rfl⟩
  rw [← he] at hm
  have HE := Hd.mk he
  have HM := Hd.mk hm
  clear hS hl hm he
  go_enter Tryz.func28, Tryz.ntmps28
  go_wp2_with (fail)
  refine (may_any w A n c l p hn HS.out (Nat.le_trans hb (by decide)) e HE.out).mono ?_
  rintro r w1 ⟨rfl, h1⟩
  have F1 := Hd.mk h1
  clear h1
  by_cases h : e = 0
  · have hmm : Hd (m = (pickF bh l 3).1 ∧ er = 0) := ⟨by have := HM.out; rw [if_pos h] at this; exact this⟩
    obtain rfl : er = 0 := hmm.out.2
    subst h
    have hz := mayB_zero HE.out.symm
    have HZ := Hd.mk hz.2
    have hz1 := hz.1
    have HCL := fun k => costK_le h0 h7 HE.out.symm HL.out k
    have HPL := fun k hk => pickF_le h0 h7 HE.out.symm HL.out k hk
    have HB := Hd.mk (And.intro HCL HPL)
    clear hz HCL HPL
    go_wp2_with (fail)
    refine (ways_any w1).mono ?_
    rintro r w2 ⟨rfl, h2⟩
    have F2 := Hd.mk (F1.out.trans h2 (by simp))
    clear h2 F1
    go_wp2
    go_loopg [7, 8, 25] 3 (fun kq bv lv jv wr => ∃ (j : Nat) (b s : Int), bv = .int .i64 b ∧ lv = .int .i64 s ∧ jv = .int .i64 (j : Nat) ∧ j + kq = 3 ∧ Hd ((b, s) = pickF bh l j) ∧ Hd (Fr w wr []))
    case atStart => exact ⟨0, 1, -1, rfl, rfl, rfl, by omega, ⟨rfl⟩, F2⟩
    case round =>
      obtain ⟨j, b, s, rfl, rfl, rfl, hj, HP, HF⟩ := hrel
      by_cases hj3 : j < 3
      · have hcl := HB.out.1 j
        have hpl := HB.out.2 j (by omega)
        rw [← HP.out] at hpl
        simp only at hpl
        have HST : Hd (pickF bh l (j + 1) = if (costK j bh l).2 = 0 ∧ (s < 0 ∨ (costK j bh l).1 < s) then ((j : Int), (costK j bh l).1) else (b, s)) := ⟨by rw [pickF, ← HP.out]⟩
        obtain ⟨q1, hq1⟩ : ∃ q, q = (costK j bh l).1 := ⟨_, rfl⟩
        obtain ⟨q2, hq2⟩ : ∃ q, q = (costK j bh l).2 := ⟨_, rfl⟩
        rw [← hq1, ← hq2] at HST hcl
        have HQ := Hd.mk (And.intro hq1 hq2)
        clear hq1 hq2
        have hc : j = 0 ∨ j = 1 ∨ j = 2 := by omega
        rcases hc with rfl | rfl | rfl
        · have hi : ∀ W : World, (Instr.index 121 (.agg waysC) (.int .i64 ((0 : Nat) : Int))).run Tryz.prog W = _ := ways0
          have hi2 := ways0
          go_wp2_with (fail)
          refine (storedCost_any _ bh h0 h7 A n c l p hn (HS.out.frame (HF.out.alloc _) (by simp)) (by omega) q1 q2 HQ.out.1 HQ.out.2).mono ?_
          rintro r w3 ⟨rfl, h3⟩
          have F3 := Hd.mk ((HF.out.alloc _).trans h3 (by simp))
          clear h3
          by_cases hq : q2 = 0
          · by_cases hs : s < 0
            · have HS2 : Hd (pickF bh l (0 + 1) = (((0 : Nat) : Int), q1)) := ⟨by rw [HST.out, if_pos ⟨hq, .inl hs⟩]⟩
              subst hq
              go_wp2
              go_roundg (gk - 1)
              case measure => omega
              case rel => exact ⟨0 + 1, _, _, rfl, rfl, by go_num, by omega, ⟨HS2.out.symm⟩, F3⟩
            · by_cases ht : q1 < s
              · have HS2 : Hd (pickF bh l (0 + 1) = (((0 : Nat) : Int), q1)) := ⟨by rw [HST.out, if_pos ⟨hq, .inr ht⟩]⟩
                subst hq
                go_wp2
                go_roundg (gk - 1)
                case measure => omega
                case rel => exact ⟨0 + 1, _, _, rfl, rfl, by go_num, by omega, ⟨HS2.out.symm⟩, F3⟩
              · have HS2 : Hd (pickF bh l (0 + 1) = (b, s)) := ⟨by rw [HST.out, if_neg (fun h => by rcases h.2 with h | h <;> contradiction)]⟩
                subst hq
                go_wp2
                go_roundg (gk - 1)
                case measure => omega
                case rel => exact ⟨0 + 1, b, s, rfl, rfl, by go_num, by omega, ⟨HS2.out.symm⟩, F3⟩
          · have HS2 : Hd (pickF bh l (0 + 1) = (b, s)) := ⟨by rw [HST.out, if_neg (fun h => hq h.1)]⟩
            have hne : (q2 == 0) = false := by simpa using hq
            go_wp2
            go_roundg (gk - 1)
            case measure => omega
            case rel => exact ⟨0 + 1, b, s, rfl, rfl, by go_num, by omega, ⟨HS2.out.symm⟩, F3⟩
        · have hi : ∀ W : World, (Instr.index 121 (.agg waysC) (.int .i64 ((1 : Nat) : Int))).run Tryz.prog W = _ := ways1
          have hi2 := ways1
          go_wp2_with (fail)
          refine (plainCost2 _ bh A n c l p hn (HS.out.frame (HF.out.alloc _) (by simp)) (by omega) HZ.out HL.out q1 q2 HQ.out.1 HQ.out.2).mono ?_
          rintro r w3 ⟨rfl, h3⟩
          have F3 := Hd.mk ((HF.out.alloc _).trans h3 (by simp))
          clear h3
          by_cases hq : q2 = 0
          · by_cases hs : s < 0
            · have HS2 : Hd (pickF bh l (1 + 1) = (((1 : Nat) : Int), q1)) := ⟨by rw [HST.out, if_pos ⟨hq, .inl hs⟩]⟩
              subst hq
              go_wp2
              go_roundg (gk - 1)
              case measure => omega
              case rel => exact ⟨1 + 1, _, _, rfl, rfl, by go_num, by omega, ⟨HS2.out.symm⟩, F3⟩
            · by_cases ht : q1 < s
              · have HS2 : Hd (pickF bh l (1 + 1) = (((1 : Nat) : Int), q1)) := ⟨by rw [HST.out, if_pos ⟨hq, .inr ht⟩]⟩
                subst hq
                go_wp2
                go_roundg (gk - 1)
                case measure => omega
                case rel => exact ⟨1 + 1, _, _, rfl, rfl, by go_num, by omega, ⟨HS2.out.symm⟩, F3⟩
              · have HS2 : Hd (pickF bh l (1 + 1) = (b, s)) := ⟨by rw [HST.out, if_neg (fun h => by rcases h.2 with h | h <;> contradiction)]⟩
                subst hq
                go_wp2
                go_roundg (gk - 1)
                case measure => omega
                case rel => exact ⟨1 + 1, b, s, rfl, rfl, by go_num, by omega, ⟨HS2.out.symm⟩, F3⟩
          · have HS2 : Hd (pickF bh l (1 + 1) = (b, s)) := ⟨by rw [HST.out, if_neg (fun h => hq h.1)]⟩
            have hne : (q2 == 0) = false := by simpa using hq
            go_wp2
            go_roundg (gk - 1)
            case measure => omega
            case rel => exact ⟨1 + 1, b, s, rfl, rfl, by go_num, by omega, ⟨HS2.out.symm⟩, F3⟩
        · have hi : ∀ W : World, (Instr.index 121 (.agg waysC) (.int .i64 ((2 : Nat) : Int))).run Tryz.prog W = _ := ways2
          have hi2 := ways2
          go_wp2_with (fail)
          refine (ownCost_any _ bh A n c l p hn (HS.out.frame (HF.out.alloc _) (by simp)) (by omega) HZ.out HL.out HE.out.symm q1 q2 HQ.out.1 HQ.out.2).mono ?_
          rintro r w3 ⟨rfl, h3⟩
          have F3 := Hd.mk ((HF.out.alloc _).trans h3 (by simp))
          clear h3
          by_cases hq : q2 = 0
          · by_cases hs : s < 0
            · have HS2 : Hd (pickF bh l (2 + 1) = (((2 : Nat) : Int), q1)) := ⟨by rw [HST.out, if_pos ⟨hq, .inl hs⟩]⟩
              subst hq
              go_wp2
              go_roundg (gk - 1)
              case measure => omega
              case rel => exact ⟨2 + 1, _, _, rfl, rfl, by go_num, by omega, ⟨HS2.out.symm⟩, F3⟩
            · by_cases ht : q1 < s
              · have HS2 : Hd (pickF bh l (2 + 1) = (((2 : Nat) : Int), q1)) := ⟨by rw [HST.out, if_pos ⟨hq, .inr ht⟩]⟩
                subst hq
                go_wp2
                go_roundg (gk - 1)
                case measure => omega
                case rel => exact ⟨2 + 1, _, _, rfl, rfl, by go_num, by omega, ⟨HS2.out.symm⟩, F3⟩
              · have HS2 : Hd (pickF bh l (2 + 1) = (b, s)) := ⟨by rw [HST.out, if_neg (fun h => by rcases h.2 with h | h <;> contradiction)]⟩
                subst hq
                go_wp2
                go_roundg (gk - 1)
                case measure => omega
                case rel => exact ⟨2 + 1, b, s, rfl, rfl, by go_num, by omega, ⟨HS2.out.symm⟩, F3⟩
          · have HS2 : Hd (pickF bh l (2 + 1) = (b, s)) := ⟨by rw [HST.out, if_neg (fun h => hq h.1)]⟩
            have hne : (q2 == 0) = false := by simpa using hq
            go_wp2
            go_roundg (gk - 1)
            case measure => omega
            case rel => exact ⟨2 + 1, b, s, rfl, rfl, by go_num, by omega, ⟨HS2.out.symm⟩, F3⟩
      · obtain rfl : j = 3 := by omega
        have hb2 : Hd (m = b) := ⟨by rw [hmm.out.1, ← HP.out]⟩
        obtain rfl := hb2.out
        go_wp2
        go_ret2
        exact ⟨rfl, HF.out⟩
  · have hne : (e != 0) = true := by simpa using h
    obtain ⟨e1, e2⟩ := (show m = 0 ∧ er = e by have := HM.out; rw [if_neg h] at this; exact this)
    subst e1 e2
    go_wp2
    go_ret2
    exact ⟨rfl, F1.out⟩
end Go.Proofs.YtkdgfioigkijgaaGreat.Blk
set_option linter.unusedVariables false
set_option linter.unusedSimpArgs false
set_option maxRecDepth 100000
namespace Go.Proofs.YtkdgfioigkijgaaGreat.Blk
open Go.RowKit Go.Proofs.YtkdgfioigkijgaaGreat.Lib Go.Proofs.YtkdgfioigkijgaaGreat.Ints Go.Proofs.YtkdgfioigkijgaaGreat.Lz Go.Proofs.YtkdgfioigkijgaaGreat.Num Go.Proofs.YtkdgfioigkijgaaGreat.Bits
def bytesP (data : List Int) : List (Nat × Nat) := data.map fun b => (b.toNat, 8)
theorem bytesP_tot (data : List Int) : totOf (bytesP data) = 8 * data.length := by
  induction data with
  | nil => rfl
  | cons b d ih => simp only [bytesP, List.map_cons, totOf, List.length_cons] at ih ⊢; rw [ih]; omega
theorem bytesP_num (data : List Int) : numOf (bytesP data) = valB data := by
  induction data with
  | nil => rfl
  | cons b d ih => simp only [bytesP, List.map_cons, numOf] at ih ⊢; rw [ih, valB]; omega
def storedP (m : Nat) (data : List Int) : List (Nat × Nat) := [(0, (8 - m % 8) % 8), (data.length, 16), (65535 - data.length, 16)] ++ bytesP data
theorem xor_ones {n : Nat} (h : n < 2 ^ 64) : (2 ^ 64 - 1) ^^^ n = 2 ^ 64 - (n + 1) := by
  apply Nat.eq_of_testBit_eq
  intro i
  rw [Nat.testBit_xor, Nat.testBit_two_pow_sub_one, Nat.testBit_two_pow_sub_succ h]
  by_cases hi : i < 64
  · simp [hi]
  · have h1 : n.testBit i = false := Nat.testBit_lt_two_pow (Nat.lt_of_lt_of_le h (Nat.pow_le_pow_right (by decide) (by omega)))
    simp [hi, h1]
theorem not16 {n : Nat} (h : n ≤ 65535) : Go.bits .and .u64 (Go.bits .xor .u64 IntKind.u64.max (n : Int)) 65535 = ((65535 - n : Nat) : Int) := by
  have e : IntKind.u64.max = ((18446744073709551615 : Nat) : Int) := by decide
  rw [e, bits_xor_u64_nat _ _ (by decide) (by omega)]
  have hx := xor_ones (n := n) (by omega)
  rw [show (2 ^ 64 - 1 : Nat) = 18446744073709551615 from rfl, show (2 ^ 64 : Nat) = 18446744073709551616 from rfl] at hx
  rw [hx]
  have hm := n64mask (a := 18446744073709551616 - (n + 1)) (n := 16) (by omega) (by decide)
  rw [show ((2 ^ 16 - 1 : Nat) : Int) = 65535 from rfl, show (2 : Nat) ^ 16 = 65536 from rfl] at hm
  rw [hm]
  congr 1
  omega
set_option maxHeartbeats 4000000 in
theorem storedWrite_any (w : World) (D : Option Addr) (cd : Nat) (data : List Int) (pd : Option Nat) (hD : Sl w D (u8s data) pd) (hDn : D = none → data.length = 0 ∧ cd = 0) (hby : ∀ x ∈ data, 0 ≤ x ∧ x ≤ 255) (hd : data.length ≤ 65535) (A : Option Addr) (n c : Nat)
    (gw N m : Nat) (q : Option Nat) (hT : Tl w gw 27 N m q) (hp : ∀ k, pd = some k → k ∉ gw :: q.toList ∧ k < w.heap.size) (hm : m ≤ 562949953421312) :
    Calls Tryz.prog 82 #[.pointer (some ⟨gw, 0, none⟩), .slice D data.length cd, .slice A n c] w fun e w' => e = .returned (.int .i64 0) ∧ ∃ q', Pw w w' gw q q' N m (storedP m data) := by
  have HD := Hd.mk hD
  have HN := Hd.mk hDn
  have HB := Hd.mk hby
  have HP := Hd.mk hp
  have T0 := Hd.mk hT
  clear hD hDn hby hp hT
  have HS : Hd (storedP m data = [(0, (8 - m % 8) % 8), (data.length, 16), (65535 - data.length, 16)] ++ bytesP data) := ⟨rfl⟩
  obtain ⟨nd, hnd⟩ : ∃ nd, nd = data.length := ⟨_, rfl⟩
  rw [← hnd] at hd HS ⊢
  have HND := Hd.mk hnd
  clear hnd
  have hnot := not16 hd
  have hsg : IntKind.u64.signed = false := rfl
  go_enter Tryz.func82, Tryz.ntmps82
  go_wp2_with (fail)
  refine (align_any w (by omega) T0.out).mono ?_
  rintro e w1 ⟨rfl, q1, h1, h2, h3⟩
  obtain ⟨q1', h4⟩ := (Pw.start T0.out).put (p := (0, (8 - m % 8) % 8)) ⟨q1, by simpa [numOf, totOf] using h1, h2, h3⟩
  have W1 : Hd (Pw w w1 gw q q1' N m [(0, (8 - m % 8) % 8)]) := ⟨h4⟩
  clear h1 h2 h3 h4
  have t1 : totOf [(0, (8 - m % 8) % 8)] = (8 - m % 8) % 8 := rfl
  go_wp2_with (fail)
  refine (wput (nd : Int) 16 nd rfl (by have : (2 : Nat) ^ (16 : Int).toNat = 65536 := rfl; omega) (by omega) (by omega) W1.out.tl (by have : (16 : Int).toNat = 16 := rfl; omega)).mono ?_
  rintro r w2 ⟨rfl, hpl⟩
  obtain ⟨q2, h2⟩ := W1.out.put hpl
  have W2 : Hd (Pw w w2 gw q q2 N m ([(0, (8 - m % 8) % 8)] ++ [(nd, 16)])) := ⟨h2⟩
  clear hpl h2 W1
  have t2 : totOf ([(0, (8 - m % 8) % 8)] ++ [(nd, 16)]) = (8 - m % 8) % 8 + 16 := rfl
  go_wp2_with (fail)
  refine (wput ((65535 - nd : Nat) : Int) 16 (65535 - nd) rfl (by have : (2 : Nat) ^ (16 : Int).toNat = 65536 := rfl; omega) (by omega) (by omega) W2.out.tl (by have : (16 : Int).toNat = 16 := rfl; omega)).mono ?_
  rintro r w3 ⟨rfl, hpl⟩
  obtain ⟨q3, h3⟩ := W2.out.put hpl
  have W3 : Hd (Pw w w3 gw q q3 N m [(0, (8 - m % 8) % 8), (nd, 16), (65535 - nd, 16)]) := ⟨h3⟩
  clear hpl h3 W2
  have t3 : totOf [(0, (8 - m % 8) % 8), (nd, 16), (65535 - nd, 16)] = (8 - m % 8) % 8 + 32 := rfl
  have hal : (8 - (m + totOf [(0, (8 - m % 8) % 8), (nd, 16), (65535 - nd, 16)]) % 8) % 8 = 0 := by rw [t3]; omega
  go_wp2_with (fail)
  have hwh := whole_any (g := gw) (T := 27) (q := q3) w3 D cd data pd HB.out (HD.out.frame W3.out.fr (fun k hk => (HP.out k hk).1)) HN.out (fun k hk hm' => (HP.out k hk).1 (W3.out.mem (HP.out k hk).2 hm')) (by rw [t3, ← HND.out]; omega) W3.out.tl
  rw [← HND.out] at hwh
  refine hwh.mono ?_
  rintro r w4 ⟨rfl, q4, h1, h2, h3⟩
  rw [hal, Nat.add_zero] at h1
  have W4 : Hd (Pw w3 w4 gw q3 q4 (N + numOf [(0, (8 - m % 8) % 8), (nd, 16), (65535 - nd, 16)] * 2 ^ m) (m + totOf [(0, (8 - m % 8) % 8), (nd, 16), (65535 - nd, 16)]) (bytesP data)) := ⟨⟨by rw [bytesP_num, bytesP_tot, ← HND.out]; exact h1, h2, h3⟩⟩
  have W5 := Hd.mk (W3.out.more W4.out)
  clear h1 h2 h3 W3 W4 hwh
  go_wp2
  go_ret
  exact ⟨rfl, q4, by rw [HS.out]; exact W5.out⟩
end Go.Proofs.YtkdgfioigkijgaaGreat.Blk
