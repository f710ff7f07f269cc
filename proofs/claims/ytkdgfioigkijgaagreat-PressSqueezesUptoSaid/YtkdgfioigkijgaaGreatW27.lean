import Derived.Test.YtkdgfioigkijgaaGreatW01
import Derived.Test.YtkdgfioigkijgaaGreatW02
import Derived.Test.YtkdgfioigkijgaaGreatW03
import Derived.Test.YtkdgfioigkijgaaGreatW04
import Derived.Test.YtkdgfioigkijgaaGreatW05
import Derived.Test.YtkdgfioigkijgaaGreatW06
import Derived.Test.YtkdgfioigkijgaaGreatW07
import Derived.Test.YtkdgfioigkijgaaGreatW08
import Derived.Test.YtkdgfioigkijgaaGreatW09
import Derived.Test.YtkdgfioigkijgaaGreatW10
import Derived.Test.YtkdgfioigkijgaaGreatW11
import Derived.Test.YtkdgfioigkijgaaGreatW12
import Derived.Test.YtkdgfioigkijgaaGreatW13
import Derived.Test.YtkdgfioigkijgaaGreatW14
import Derived.Test.YtkdgfioigkijgaaGreatW15
import Derived.Test.YtkdgfioigkijgaaGreatW16
import Derived.Test.YtkdgfioigkijgaaGreatW17
import Derived.Test.YtkdgfioigkijgaaGreatW18
import Derived.Test.YtkdgfioigkijgaaGreatW19
import Derived.Test.YtkdgfioigkijgaaGreatW20
import Derived.Test.YtkdgfioigkijgaaGreatW21
import Derived.Test.YtkdgfioigkijgaaGreatW22
import Derived.Test.YtkdgfioigkijgaaGreatW23
import Derived.Test.YtkdgfioigkijgaaGreatW24
import Derived.Test.YtkdgfioigkijgaaGreatW25
import Derived.Test.YtkdgfioigkijgaaGreatW26
import Derived.BigRegion
import Derived.BigQuiet
import Derived.Deep.QuietTactic
import Derived.Deep.LoopGhost
import Derived.Deep.DeepCutAuto
import Derived.KernelRfl
import Derived.Deep.RegionLaw
import Derived.Outline
import Derived.Deep.CutRange
set_option linter.unusedVariables false
set_option linter.unusedSimpArgs false
set_option maxRecDepth 100000
namespace Go.Proofs.YtkdgfioigkijgaaGreat.Prs
open Go.RowKit Go.Proofs.YtkdgfioigkijgaaGreat.Lib Go.Proofs.YtkdgfioigkijgaaGreat.Ints Go.Proofs.YtkdgfioigkijgaaGreat.Lz Go.Proofs.YtkdgfioigkijgaaGreat.Num Go.Proofs.YtkdgfioigkijgaaGreat.Bits Go.Proofs.YtkdgfioigkijgaaGreat.Blk
def mcell (s c : Int) : Array Value := #[.int .i64 s, .int .i64 c]
set_option maxHeartbeats 4000000 in
theorem mean_add (w : World) (g : Nat) (s c n : Int) (hs : 0 ≤ s ∧ s ≤ 4503599627370496) (hc : 0 ≤ c ∧ c ≤ 4503599627370496) (hn : 0 ≤ n ∧ n ≤ 1000) (hb : w.heap[g]? = some (.cells (mcell s c) 212 (0, 0))) :
    Calls Tryz.prog 116 #[.pointer (some ⟨g, 0, none⟩), .int .i64 n] w fun e w' => e = .returned (.tuple #[]) ∧ w'.heap[g]? = some (.cells (mcell (s + n) (c + 1)) 212 (0, 0)) ∧ Fr w w' [g] := by
  have k0 := blk_cell hb 0
  have k1 := blk_cell hb 1
  simp only [mcell, List.getElem?_toArray, List.getElem?_cons_zero, List.getElem?_cons_succ] at k0 k1
  have f0 := blk_frozen hb 0
  have f1 := blk_frozen hb 1
  have b1 := blk_set hb 0 (.int .i64 (s + n))
  have b2 := blk_set b1 1 (.int .i64 (c + 1))
  have b3 := blk_set hb 1 (.int .i64 (c + 1))
  have b4 := blk_set b3 0 (.int .i64 (s + n))
  have g1 := blk_frozen b1 1
  have g3 := blk_frozen b3 0
  have c1 := blk_cell b1 1
  have c3 := blk_cell b3 0
  have HX : Hd (((w.setCell ⟨g, 0, none⟩ (.int .i64 (s + n))).setCell ⟨g, 1, none⟩ (.int .i64 (c + 1))).heap[g]? = some (.cells (mcell (s + n) (c + 1)) 212 (0, 0))) := ⟨b2⟩
  have HY : Hd (((w.setCell ⟨g, 1, none⟩ (.int .i64 (c + 1))).setCell ⟨g, 0, none⟩ (.int .i64 (s + n))).heap[g]? = some (.cells (mcell (s + n) (c + 1)) 212 (0, 0))) := ⟨b4⟩
  have FX : Hd (Fr w ((w.setCell ⟨g, 0, none⟩ (.int .i64 (s + n))).setCell ⟨g, 1, none⟩ (.int .i64 (c + 1))) [g]) := ⟨((Fr.refl w [g]).setCell _ (.inl (by simp))).setCell _ (.inl (by simp))⟩
  have FY : Hd (Fr w ((w.setCell ⟨g, 1, none⟩ (.int .i64 (c + 1))).setCell ⟨g, 0, none⟩ (.int .i64 (s + n))) [g]) := ⟨((Fr.refl w [g]).setCell _ (.inl (by simp))).setCell _ (.inl (by simp))⟩
  simp only [mcell, List.getElem?_toArray, List.getElem?_cons_zero, List.getElem?_cons_succ] at c1 c3
  clear hb b1 b2 b3 b4
  go_enter Tryz.func116, Tryz.ntmps116
  go_upto_region 0 with (fail)
  go_region
  all_goals
    go_wp2
    go_end0
    first
    | exact ⟨rfl, HX.out, FX.out.drew⟩
    | exact ⟨rfl, HY.out, FY.out.drew⟩
set_option maxHeartbeats 4000000 in
theorem mean_or (w : World) (g : Nat) (s c d r : Int) (hs : 0 ≤ s ∧ s ≤ 4503599627370496) (hc : 0 ≤ c ∧ c ≤ 4503599627370496) (hb : w.heap[g]? = some (.cells (mcell s c) 212 (0, 0))) (hr : r = meanN s c d) :
    Calls Tryz.prog 119 #[.pointer (some ⟨g, 0, none⟩), .int .i64 d] w fun e w' => e = .returned (.int .i64 r) ∧ Fr w w' [] := by
  have k0 := blk_cell hb 0
  have k1 := blk_cell hb 1
  simp only [mcell, List.getElem?_toArray, List.getElem?_cons_zero, List.getElem?_cons_succ] at k0 k1
  have HR := Hd.mk hr
  clear hb hr
  go_enter Tryz.func119, Tryz.ntmps119
  by_cases h : c = 0
  · subst h
    have hr : Hd (r = d) := ⟨by rw [HR.out]; rfl⟩
    obtain rfl := hr.out
    go_wp2
    go_ret
    exact ⟨rfl, Fr.refl _ _⟩
  · have hr : Hd (r = (s + c - 1).tdiv c) := ⟨by rw [HR.out]; unfold meanN; rw [if_neg h]⟩
    have hcb : (c == 0) = false := by simpa using h
    have hq : 0 ≤ (s + c - 1).tdiv c ∧ (s + c - 1).tdiv c ≤ s + c - 1 := by
      rw [Int.tdiv_eq_ediv_of_nonneg (by omega)]
      exact ⟨Int.ediv_nonneg (by omega) (by omega), Int.ediv_le_self _ (by omega)⟩
    obtain ⟨y, hy⟩ : ∃ y, y = (s + c - 1).tdiv c := ⟨_, rfl⟩
    rw [← hy] at hq hr
    have hyq : (s + c - 1).tdiv c = y := hy.symm
    clear hy
    go_upto_region 3 with (fail)
    go_region
    go_wp2
    go_ret
    rw [hr.out]
    exact ⟨rfl, (Fr.refl _ _).drew⟩
theorem results_pr {fn : Func} {p r : Tmp} {ty : TypeId} (h : fn.results = #[.cell p ty, .tmp r]) (tmps : Array Value) (w : World) (g : Nat) (v : Value)
    (hp : tmps.getD p undef = .pointer (some ⟨g, 0, none⟩)) (hl : (loadVar ty ⟨g, 0, none⟩).run Tryz.prog w = .ok v w) :
    (results fn tmps).run Tryz.prog w = .ok (.tuple #[v, tmps.getD r undef]) w := by
  have hp' : tmps[p]?.getD undef = .pointer (some ⟨g, 0, none⟩) := by simpa using hp
  simp [results, h, hp', asAddr, hl]
def pcell (a b c : Int) : Array Value := #[.int .i64 a, .int .i64 b, .int .i64 c]
theorem infoPrice (a b c : Int) : (Tryz.prog.info? 165).map (·.size) = some (pcell a b c).size := by kernel_rfl
theorem infoTokK : (Tryz.prog.info? 77).map (fun i => (i.zero, i.size, i.bytes)) = some (some (.agg #[.int .u8 0, .int .i64 0, .int .i64 0]), 3, 24) := by kernel_rfl
set_option maxHeartbeats 16000000 in
theorem prices_any (w : World) (A : Option Addr) (n c : Nat) (l : List Tok) (p : Option Nat) (hn : l.length = n) (hnc : n ≤ c) (hA : A = none → c = 0) (hS : Sl w A (tcells l) p) (hb : n ≤ 6000000000000) (hl : LitB l) (P : Int × Int × Int) (er : Int) (hP : pricesN l = (P, er)) :
    Calls Tryz.prog 73 #[.slice A n c] w fun e w' => e = .returned (.tuple #[.agg (pcell P.1 P.2.1 P.2.2), .int .i64 er]) ∧ Fr w w' [] := by
  obtain ⟨i1, hi1, jz0, jz1, jz2⟩ := info_parts infoTokK
  obtain ⟨m, hm⟩ : ∃ m, m = min n 65536 := ⟨_, rfl⟩
  obtain ⟨T, hT⟩ : ∃ T, T = l.take 65536 := ⟨_, rfl⟩
  have hTm : T = l.take m := by
    rw [hT, hm]
    rcases Nat.le_total n 65536 with h | h
    · rw [Nat.min_eq_left h, List.take_of_length_le (by omega), List.take_of_length_le (by omega)]
    · rw [Nat.min_eq_right h]
  have hTl : T.length = m := by rw [hTm, List.length_take]; omega
  have ST : Hd (Sl w A (tcells T) p) := ⟨by
    rw [hTm]
    have := hS.take (3 * m)
    have e : tcells (l.take m) = (tcells l).take (3 * m) := by
      have h2 : tcells l = tcells (l.take m) ++ tcells (l.drop m) := by rw [← tcells_app, List.take_append_drop]
      have h3 : (tcells (l.take m)).length = 3 * m := by rw [tcells_len, List.length_take]; omega
      rw [h2, ← h3, List.take_left]
    rwa [e]⟩
  have HL : Hd (LitB T) := ⟨fun t ht => hl t (by rw [hTm] at ht; exact List.mem_of_mem_take ht)⟩
  obtain ⟨ez, hez⟩ : ∃ e, e = mayB T := ⟨_, rfl⟩
  have HE := Hd.mk hez
  have HPP : Hd (if ez = 0 then P = (priceL T, priceM T, 1) ∧ er = 0 else P = (0, 0, 0) ∧ er = ez) := ⟨by
    unfold pricesN at hP
    rw [← hT, ← hez] at hP
    split at hP
    · rename_i h
      rw [if_pos h]
      injection hP with h1 h2
      exact ⟨h1.symm, h2.symm⟩
    · rename_i h
      rw [if_neg h]
      injection hP with h1 h2
      exact ⟨h1.symm, h2.symm⟩⟩
  have hmin : (if (65536 : Int) < (n : Int) then (65536 : Int) else (n : Int)) = (m : Int) := by
    rw [hm]
    split <;> omega
  have hq1 := Lens.run_cut_to (P := Tryz.prog) 41 77 .i64 Tryz.underlying41 hi1 3 jz1 A n c m hA (by omega)
  have hm2 : m ≤ 65536 := by omega
  clear hP hT hTm hS hl hez hA hm
  go_enter Tryz.func73, Tryz.ntmps73
  have F0 := Hd.mk ((Fr.refl w []).alloc (.cells (pcell 0 0 0) 165))
  have B0 := Hd.mk (blk_new w (.cells (pcell 0 0 0) 165))
  have NG : Hd (w.heap.size ≤ w.heap.size) := ⟨Nat.le_refl _⟩
  go_upto_region 1 with (fail)
  obtain ⟨w0, hw0⟩ : ∃ w0, w0 = w.alloc (.cells #[.int .i64 0, .int .i64 0, .int .i64 0] 165) := ⟨_, rfl⟩
  obtain ⟨gp, hgp⟩ : ∃ g, g = w.heap.size := ⟨_, rfl⟩
  have F0 : Hd (Fr w w0 []) := ⟨by rw [hw0]; exact F0.out⟩
  have B0 : Hd (w0.heap[gp]? = some (.cells (pcell 0 0 0) 165 (0, 0))) := ⟨by rw [hw0, hgp]; exact B0.out⟩
  have NG : Hd (w.heap.size ≤ gp) := ⟨by omega⟩
  rw [← hw0, ← hgp]
  clear hw0 hgp
  go_upto_region 2 with (fail)
  try rw [hmin]
  clear hmin
  go_wp2_with (fail)
  refine (ownLens_any w0 A m c T p hTl (ST.out.frame F0.out (by simp)) (by omega) HL.out).mono ?_
  rintro e w1 hO
  have HO := Hd.mk hO
  clear hO hq1
  by_cases h0 : ez = 0
  · subst h0
    obtain ⟨A1, c1, B1, d1, rfl, o1, o2, o3, o4, h1⟩ := HO.out.1 HE.out.symm
    have O1 := Hd.mk o1
    have O2 := Hd.mk o2
    have F1 := Hd.mk (F0.out.trans h1 (by simp))
    have P1 := Hd.mk (h1.blk B0.out (by simp))
    have hPP := HPP.out
    rw [if_pos rfl] at hPP
    obtain ⟨hP1, rfl⟩ := hPP
    have HP1 := Hd.mk hP1
    have HR := Hd.mk (mayB_zero HE.out.symm).2
    have L1 := Hd.mk (check15 (ownLit_check T))
    have L2 := Hd.mk (check15 (ownDist_check T))
    have SL1 := Hd.mk (sl_of_own o1)
    have SL2 := Hd.mk (sl_of_own o2)
    have N1 : Hd (w.heap.size ≤ w1.heap.size) := ⟨F1.out.size⟩
    have e1 := ownLit_len T
    have e2 := ownDist_len T
    obtain ⟨bx, ox, hx1, _, _⟩ := SL1.out (by rw [i64s_length]; omega)
    obtain ⟨by_, oy, hy1, _, _⟩ := SL2.out (by rw [i64s_length]; omega)
    subst hx1 hy1
    clear o1 o2 o3 o4 h1 hP1 HPP HO B0 F0
    obtain ⟨lt, hlt⟩ : ∃ x, x = ownLit T := ⟨_, rfl⟩
    obtain ⟨ds, hds⟩ : ∃ x, x = ownDist T := ⟨_, rfl⟩
    have HPR : Hd (P = (meanN (sumF (fA lt) T) (sumF fN T) 8, meanN (sumF (fB lt ds) T) (sumF fM T) 20, 1)) := ⟨by rw [HP1.out, hlt, hds]; rfl⟩
    rw [← hlt] at SL1 O1 L1 e1
    rw [← hds] at SL2 O2 L2 e2
    clear hlt hds HP1
    go_upto_region 6 with (fail)
    have XB : Hd (((w1.alloc (.cells #[.int .i64 0, .int .i64 0] 212)).alloc (.cells #[.int .i64 0, .int .i64 0] 212)).heap[w1.heap.size]? = some (.cells (mcell 0 0) 212 (0, 0))) := ⟨blk_alloc (blk_new w1 _) _⟩
    have XM : Hd (((w1.alloc (.cells #[.int .i64 0, .int .i64 0] 212)).alloc (.cells #[.int .i64 0, .int .i64 0] 212)).heap[w1.heap.size + 1]? = some (.cells (mcell 0 0) 212 (0, 0))) := ⟨by have := blk_new (w1.alloc (.cells #[.int .i64 0, .int .i64 0] 212)) (.cells #[.int .i64 0, .int .i64 0] 212); rw [World.size_alloc] at this; exact this⟩
    have F2 := Hd.mk (((Fr.refl w1 []).alloc (.cells #[.int .i64 0, .int .i64 0] 212)).alloc (.cells #[.int .i64 0, .int .i64 0] 212))
    obtain ⟨gb, hgb⟩ : ∃ g, g = w1.heap.size := ⟨_, rfl⟩
    rw [← hgb] at XB XM ⊢
    have hgw : w1.heap.size ≤ gb := by omega
    clear hgb
    generalize (w1.alloc (.cells #[.int .i64 0, .int .i64 0] 212)).alloc (.cells #[.int .i64 0, .int .i64 0] 212) = w2 at *
    have XB3 : Hd (w2.heap[gb]? = some (.cells (mcell (sumF (fA lt) (T.take 0)) (sumF fN (T.take 0))) 212 (0, 0))) := ⟨XB.out⟩
    have XM3 : Hd (w2.heap[gb + 1]? = some (.cells (mcell (sumF (fB lt ds) (T.take 0)) (sumF fM (T.take 0))) 212 (0, 0))) := ⟨XM.out⟩
    clear XB XM
    go_wp2
    go_loopg [36] m (fun kq jv wr => ∃ j : Nat, jv = .int .i64 (j : Nat) ∧ j + kq = m ∧ Hd (wr.heap[gb]? = some (.cells (mcell (sumF (fA lt) (T.take j)) (sumF fN (T.take j))) 212 (0, 0))) ∧ Hd (wr.heap[gb + 1]? = some (.cells (mcell (sumF (fB lt ds) (T.take j)) (sumF fM (T.take j))) 212 (0, 0))) ∧ Hd (Fr w1 wr []))
    case atStart => exact ⟨0, rfl, by omega, XB3, XM3, F2⟩
    case round =>
      clear XB3 XM3 F2
      obtain ⟨j, rfl, hj, HX, HY, HF⟩ := hrel
      have hmt : ∀ t ∈ T.take j, t ∈ T := fun t ht => List.mem_of_mem_take ht
      have hlen : ((T.take j).length : Int) ≤ 65536 := by rw [List.length_take]; omega
      have y1 := sumF_le (f := fA lt) (K := 15) (l := T.take j) (fun t ht => fA_le L1.out t)
      have y2 := sumF_le (f := fN) (K := 1) (l := T.take j) (fun t ht => fN_le t)
      have y3 := sumF_le (f := fB lt ds) (K := 35) (l := T.take j) (fun t ht => fB_le L1.out L2.out (HR.out t (hmt t ht)) (HL.out t (hmt t ht)))
      have y4 := sumF_le (f := fM) (K := 1) (l := T.take j) (fun t ht => fM_le t)
      have z1 : sumF (fA lt) (T.take j) ≤ 15 * 65536 := Int.le_trans y1.2 (by omega)
      have z2 : sumF fN (T.take j) ≤ 1 * 65536 := Int.le_trans y2.2 (by omega)
      have z3 : sumF (fB lt ds) (T.take j) ≤ 35 * 65536 := Int.le_trans y3.2 (by omega)
      have z4 : sumF fM (T.take j) ≤ 1 * 65536 := Int.le_trans y4.2 (by omega)
      replace y1 := y1.1
      replace y2 := y2.1
      replace y3 := y3.1
      replace y4 := y4.1
      clear hmt hlen
      by_cases h1 : j < m
      · have hjt : j < T.length := by omega
        have s1 : Hd (sumF (fA lt) (T.take (j + 1)) = sumF (fA lt) (T.take j) + fA lt T[j]) := ⟨sumF_take _ hjt⟩
        have s2 : Hd (sumF fN (T.take (j + 1)) = sumF fN (T.take j) + fN T[j]) := ⟨sumF_take _ hjt⟩
        have s3 : Hd (sumF (fB lt ds) (T.take (j + 1)) = sumF (fB lt ds) (T.take j) + fB lt ds T[j]) := ⟨sumF_take _ hjt⟩
        have s4 : Hd (sumF fM (T.take (j + 1)) = sumF fM (T.take j) + fM T[j]) := ⟨sumF_take _ hjt⟩
        obtain ⟨a, o1, rfl, _, hcc⟩ := Sl.row (enc := tcell) (sz := 3) (fun _ => rfl) (ST.out.frame (F1.out.trans HF.out (by simp)) (by simp)) hjt (by decide)
        obtain ⟨t, ht⟩ : ∃ t, t = T[j] := ⟨_, rfl⟩
        rw [← ht] at hcc s1 s2 s3 s4
        have c0 := hcc 0 (by decide)
        have c1 := hcc 1 (by decide)
        have c2 := hcc 2 (by decide)
        simp only [tcell, List.getElem?_cons_zero, List.getElem?_cons_succ, Nat.add_zero] at c0 c1 c2
        have htm : t ∈ T := by rw [ht]; exact List.getElem_mem hjt
        have hrt := HR.out t htm
        have hlt := HL.out t htm
        have A0 := (Fr.refl wr []).alloc (.cells #[.int .u8 t.lit, .int .i64 t.len, .int .i64 t.dist] 77)
        have X5 := Hd.mk (A0.blk HX.out (by simp))
        have Y5 := Hd.mk (A0.blk HY.out (by simp))
        have F5 := Hd.mk (HF.out.trans A0 (by simp))
        have hjI : (j : Int) < (m : Nat) := by omega
        generalize sumF (fA lt) (T.take j) = sA at *
        generalize sumF fN (T.take j) = sN at *
        generalize sumF (fB lt ds) (T.take j) = sB at *
        generalize sumF fM (T.take j) = sM at *
        clear hcc ht htm HX HY HF A0
        by_cases hlen : t.len = 0
        · have u1 : Hd (fA lt t = lt.getD t.lit.toNat 0) := ⟨by unfold fA; rw [if_pos hlen]⟩
          have u2 : Hd (fN t = 1) := ⟨by unfold fN; rw [if_pos hlen]⟩
          have u3 : Hd (fB lt ds t = 0) := ⟨by unfold fB; rw [if_pos hlen]⟩
          have u4 : Hd (fM t = 0) := ⟨by unfold fM; rw [if_pos hlen]⟩
          obtain ⟨tl, tn, td⟩ := t
          simp only at hlen hlt u1
          subst hlen
          obtain ⟨tl, rfl⟩ := Int.eq_ofNat_of_zero_le hlt.1
          rw [Int.toNat_natCast] at u1
          have hlt2 : (tl : Int) ≤ 255 := hlt.2
          have kx := i64_getD (SL1.out.frame F5.out (by simp)) (i := tl) (by omega) rfl
          have hx := lens15_get L1.out tl
          generalize lt.getD tl 0 = x at *
          go_wp2_with (fail)
          refine (mean_add _ gb sA sN x (by omega) (by omega) (by omega) X5.out).mono ?_
          rintro e w3 ⟨rfl, h3, h4⟩
          have X6 : Hd (w3.heap[gb]? = some (.cells (mcell (sumF (fA lt) (T.take (j + 1))) (sumF fN (T.take (j + 1)))) 212 (0, 0))) := ⟨by rw [s1.out, s2.out, u1.out, u2.out]; exact h3⟩
          have Y6 : Hd (w3.heap[gb + 1]? = some (.cells (mcell (sumF (fB lt ds) (T.take (j + 1))) (sumF fM (T.take (j + 1)))) 212 (0, 0))) := ⟨by rw [s3.out, s4.out, u3.out, u4.out, Int.add_zero, Int.add_zero]; exact h4.blk Y5.out (by simp)⟩
          have F6 := Hd.mk (F5.out.trans h4 (fun x hx hm => by simp at hm; omega))
          clear h3 h4 X5 Y5 F5 kx
          go_wp2
          go_roundg (gk - 1)
          case measure => omega
          case rel => exact ⟨j + 1, by go_num, by omega, X6, Y6, F6⟩
        · have sa := (sgA_fit hrt hlt).1
          have sb := sgB_fit hrt
          have u1 : Hd (fA lt t = 0) := ⟨by unfold fA; rw [if_neg hlen]⟩
          have u2 : Hd (fN t = 0) := ⟨by unfold fN; rw [if_neg hlen]⟩
          have u3 : Hd (fB lt ds t = lt.getD (sgA t).1.toNat 0 + (sgA t).2.2 + ds.getD (sgB t).1.toNat 0) := ⟨by unfold fB; rw [if_neg hlen]⟩
          have u4 : Hd (fM t = 1) := ⟨by unfold fM; rw [if_neg hlen]⟩
          have ea : sgA t = ((symN lenT 257 3 258 t.len).1, (symN lenT 257 3 258 t.len).2.2.1, (symN lenT 257 3 258 t.len).2.1) := by unfold sgA; rw [if_neg hlen]
          have eb : sgB t = ((symN distT 0 1 32768 t.dist).1, (symN distT 0 1 32768 t.dist).2.2.1, (symN distT 0 1 32768 t.dist).2.1) := by unfold sgB; rw [if_neg hlen]
          rw [ea] at sa u3
          rw [eb] at sb u3
          obtain ⟨⟨a1, a2⟩, ⟨a3, a4⟩, a5, a6⟩ := sa
          obtain ⟨⟨b1, b2⟩, ⟨b3, b4⟩, b5, b6⟩ := sb
          simp only at a1 a2 a3 a4 b1 b2 u3
          clear a5 a6 b5 b6 b3 b4 ea eb
          obtain ⟨⟨sx, mx, vx, ex⟩, hsx⟩ : ∃ x, x = symN lenT 257 3 258 t.len := ⟨_, rfl⟩
          obtain ⟨⟨sy, my, vy, ey⟩, hsy⟩ : ∃ x, x = symN distT 0 1 32768 t.dist := ⟨_, rfl⟩
          rw [← hsx] at a1 a2 a3 a4 u3
          rw [← hsy] at b1 b2 u3
          have HSX := Hd.mk hsx
          have HSY := Hd.mk hsy
          clear hsx hsy
          simp only at a1 a2 a3 a4 b1 b2 u3
          obtain ⟨sx, rfl⟩ := Int.eq_ofNat_of_zero_le a1
          obtain ⟨sy, rfl⟩ := Int.eq_ofNat_of_zero_le b1
          rw [Int.toNat_natCast, Int.toNat_natCast] at u3
          have hkx := lens15_get L1.out sx
          have hky := lens15_get L2.out sy
          have kx := fun (w' : World) (hf : Fr w1 w' []) => i64_getD (SL1.out.frame hf (by simp)) (i := sx) (by omega) rfl
          have ky := fun (w' : World) (hf : Fr w1 w' []) => i64_getD (SL2.out.frame hf (by simp)) (i := sy) (by omega) rfl
          generalize lt.getD sx 0 = x at *
          generalize ds.getD sy 0 = y at *
          have BT := Hd.mk (blk_new wr (.cells #[.int .u8 t.lit, .int .i64 t.len, .int .i64 t.dist] 77))
          go_wp2_with (fail)
          refine (lenSymbol_any _ t.len).mono ?_
          rintro e w3 ⟨rfl, h3⟩
          rw [← HSX.out]
          have X6 := Hd.mk (h3.blk X5.out (by simp))
          have Y6 := Hd.mk (h3.blk Y5.out (by simp))
          have BT6 := Hd.mk (h3.blk BT.out (by simp))
          have F6 := Hd.mk (F5.out.trans h3 (by simp))
          clear h3 X5 Y5 F5 BT c0 c1 c2
          have d2 := blk_cell BT6.out 2
          simp only [List.getElem?_toArray, List.getElem?_cons_zero, List.getElem?_cons_succ] at d2
          simp only
          go_wp2_with (fail)
          refine (distSymbol_any _ t.dist).mono ?_
          rintro e w4 ⟨rfl, h3⟩
          rw [← HSY.out]
          have X7 := Hd.mk (h3.blk X6.out (by simp))
          have Y7 := Hd.mk (h3.blk Y6.out (by simp))
          have F7 := Hd.mk (F6.out.trans h3 (by simp))
          clear h3 X6 Y6 F6 BT6 d2
          have kx1 := kx w4 F7.out
          have ky1 := ky w4 F7.out
          simp only
          go_upto_region 13 with (fail)
          have n1 : IntKind.i64.wrap (x + mx) = x + mx := IntWalk.i64_in _ (by omega)
          have n2 : IntKind.i64.wrap (x + mx + y) = x + mx + y := IntWalk.i64_in _ (by omega)
          go_region_held3 (fun w' => w'.cell? ⟨bx, ox + sx, none⟩ = some (.int .i64 x) ∧ w'.cell? ⟨by_, oy + sy, none⟩ = some (.int .i64 y)) (go_keep)
            (first | (go_at_call 116; refine (mean_add _ (gb + 1) sB sM (x + mx + y) (by omega) (by omega) (by omega) (by exact Y7.out)).mono ?_; rintro e w5 ⟨rfl, h3, h4⟩; have Y8 := Hd.mk h3; have F8 := Hd.mk (Fr.ofDrew h4); have F9 := Hd.mk (F7.out.trans (Fr.ofDrew h4) (fun x hx hm => by simp at hm; omega)); clear h3 h4; have kx2 := kx w5 F9.out; have ky2 := ky w5 F9.out))
          all_goals
            have X9 : Hd (w5.heap[gb]? = some (.cells (mcell (sumF (fA lt) (T.take (j + 1))) (sumF fN (T.take (j + 1)))) 212 (0, 0))) := ⟨by rw [s1.out, s2.out, u1.out, u2.out, Int.add_zero, Int.add_zero]; exact F8.out.blk X7.out (by simp)⟩
            have Y9 : Hd (w5.heap[gb + 1]? = some (.cells (mcell (sumF (fB lt ds) (T.take (j + 1))) (sumF fM (T.take (j + 1)))) 212 (0, 0))) := ⟨by rw [s3.out, s4.out, u3.out, u4.out]; exact Y8.out⟩
            go_wp2
            go_roundg (gk - 1)
            case measure => omega
            case rel => exact ⟨j + 1, by go_num, by omega, X9, Y9, F9⟩
      · obtain rfl : j = m := by omega
        have eT : T.take j = T := List.take_of_length_le (by omega)
        rw [eT] at HX HY y1 y2 y3 y4 z1 z2 z3 z4
        have P3 := Hd.mk (HF.out.blk P1.out (by simp))
        obtain ⟨pa, hpa⟩ : ∃ x, x = meanN (sumF (fA lt) T) (sumF fN T) 8 := ⟨_, rfl⟩
        obtain ⟨pm, hpm⟩ : ∃ x, x = meanN (sumF (fB lt ds) T) (sumF fM T) 20 := ⟨_, rfl⟩
        have HPR2 : Hd (P = (pa, pm, 1)) := ⟨by rw [HPR.out, hpa, hpm]⟩
        have HPA := Hd.mk hpa
        have HPM := Hd.mk hpm
        clear hpa hpm HPR eT
        generalize sumF (fA lt) T = sA at *
        generalize sumF fN T = sN at *
        generalize sumF (fB lt ds) T = sB at *
        generalize sumF fM T = sM at *
        go_wp2_with (fail)
        refine (mean_or _ gb sA sN 8 pa (by omega) (by omega) HX.out HPA.out).mono ?_
        rintro e w5 ⟨rfl, h3⟩
        have Y6 := Hd.mk (h3.blk HY.out (by simp))
        have P6 := Hd.mk (h3.blk P3.out (by simp))
        have F6 := Hd.mk (HF.out.trans h3 (by simp))
        clear h3 HX HY HF
        go_wp2_with (fail)
        refine (mean_or _ (gb + 1) sB sM 20 pm (by omega) (by omega) Y6.out HPM.out).mono ?_
        rintro e w6 ⟨rfl, h3⟩
        have P7 := Hd.mk (h3.blk P6.out (by simp))
        have F7 := Hd.mk (F1.out.trans (F6.out.trans h3 (by simp)) (by simp))
        clear h3 P6 F6 Y6
        have R8 := Hd.mk (setRow_heap w6 gp _ (pcell pa pm 1) _ _ P7.out)
        have F8 := Hd.mk (Code.Fr.setRow (F := []) F7.out (g := gp) (pcell pa pm 1) (.inr NG.out))
        go_wp2_with (refine wpList_store_row rfl 165 _ _ rfl gp (pcell pa pm 1) rfl rfl 165 _ (by exact P7.out) (by kernel_rfl) (by kernel_rfl) (by kernel_rfl) ?_)
        refine bodyPost_ret (results_pr rfl _ _ gp _ rfl (run_loadVar_row _ gp 165 165 (pcell pa pm 1) _ _ (by exact R8.out) Tryz.underlying165 rfl (infoPrice _ _ _))) rfl ?_
        rw [HPR2.out]
        exact ⟨rfl, F8.out⟩
  · have hne : (ez != 0) = true := by simpa using h0
    obtain ⟨rfl, h1⟩ := HO.out.2 (by rw [← HE.out]; exact h0)
    have hPP := HPP.out
    rw [if_neg h0] at hPP
    obtain ⟨rfl, rfl⟩ := hPP
    rw [← HE.out]
    have P1 := Hd.mk (h1.blk B0.out (by simp))
    have F1 := Hd.mk (F0.out.trans h1 (by simp))
    clear h1 HO HPP
    have R8 := Hd.mk (setRow_heap w1 gp _ (pcell 0 0 0) _ _ P1.out)
    have F8 := Hd.mk (Code.Fr.setRow (F := []) F1.out (g := gp) (pcell 0 0 0) (.inr NG.out))
    go_wp2_with (refine wpList_store_row rfl 165 _ _ rfl gp (pcell 0 0 0) rfl rfl 165 _ (by exact P1.out) (by kernel_rfl) (by kernel_rfl) (by kernel_rfl) ?_)
    refine bodyPost_ret (results_pr rfl _ _ gp _ rfl (run_loadVar_row _ gp 165 165 (pcell 0 0 0) _ _ (by exact R8.out) Tryz.underlying165 rfl (infoPrice _ _ _))) rfl ?_
    exact ⟨rfl, F8.out⟩
end Go.Proofs.YtkdgfioigkijgaaGreat.Prs
set_option linter.unusedVariables false
set_option linter.unusedSimpArgs false
set_option maxRecDepth 100000
namespace Go.Proofs.YtkdgfioigkijgaaGreat.Prs
open Go.RowKit Go.Proofs.YtkdgfioigkijgaaGreat.Lib Go.Proofs.YtkdgfioigkijgaaGreat.Ints Go.Proofs.YtkdgfioigkijgaaGreat.Lz Go.Proofs.YtkdgfioigkijgaaGreat.Num Go.Proofs.YtkdgfioigkijgaaGreat.Bits Go.Proofs.YtkdgfioigkijgaaGreat.Blk
theorem infoRPrice (a b c : Int) : (Tryz.prog.info? 160).map (·.size) = some (pcell a b c).size := by kernel_rfl
theorem infoRTokK : (Tryz.prog.info? 80).map (fun i => (i.zero, i.size, i.bytes)) = some (some (.agg #[.int .u8 0, .int .i64 0, .int .i64 0]), 3, 24) := by kernel_rfl
set_option maxHeartbeats 16000000 in
theorem rprices_any (w : World) (A : Option Addr) (n c : Nat) (l : List Tok) (p : Option Nat) (hn : l.length = n) (hnc : n ≤ c) (hA : A = none → c = 0) (hS : Sl w A (tcells l) p) (hb : n ≤ 6000000000000) (hl : LitB l) (P : Int × Int × Int) (er : Int) (hP : pricesN l = (P, er)) :
    Calls Tryz.prog 71 #[.slice A n c] w fun e w' => e = .returned (.tuple #[.agg (pcell P.1 P.2.1 P.2.2), .int .i64 er]) ∧ Fr w w' [] := by
  obtain ⟨i1, hi1, jz0, jz1, jz2⟩ := info_parts infoRTokK
  obtain ⟨m, hm⟩ : ∃ m, m = min n 65536 := ⟨_, rfl⟩
  obtain ⟨T, hT⟩ : ∃ T, T = l.take 65536 := ⟨_, rfl⟩
  have hTm : T = l.take m := by
    rw [hT, hm]
    rcases Nat.le_total n 65536 with h | h
    · rw [Nat.min_eq_left h, List.take_of_length_le (by omega), List.take_of_length_le (by omega)]
    · rw [Nat.min_eq_right h]
  have hTl : T.length = m := by rw [hTm, List.length_take]; omega
  have ST : Hd (Sl w A (tcells T) p) := ⟨by
    rw [hTm]
    have := hS.take (3 * m)
    have e : tcells (l.take m) = (tcells l).take (3 * m) := by
      have h2 : tcells l = tcells (l.take m) ++ tcells (l.drop m) := by rw [← tcells_app, List.take_append_drop]
      have h3 : (tcells (l.take m)).length = 3 * m := by rw [tcells_len, List.length_take]; omega
      rw [h2, ← h3, List.take_left]
    rwa [e]⟩
  have HL : Hd (LitB T) := ⟨fun t ht => hl t (by rw [hTm] at ht; exact List.mem_of_mem_take ht)⟩
  obtain ⟨ez, hez⟩ : ∃ e, e = mayB T := ⟨_, rfl⟩
  have HE := Hd.mk hez
  have HPP : Hd (if ez = 0 then P = (priceL T, priceM T, 1) ∧ er = 0 else P = (0, 0, 0) ∧ er = ez) := ⟨by
    unfold pricesN at hP
    rw [← hT, ← hez] at hP
    split at hP
    · rename_i h
      rw [if_pos h]
      injection hP with h1 h2
      exact ⟨h1.symm, h2.symm⟩
    · rename_i h
      rw [if_neg h]
      injection hP with h1 h2
      exact ⟨h1.symm, h2.symm⟩⟩
  have hq1 := Lens.run_cut_to (P := Tryz.prog) 35 80 .i64 Tryz.underlying35 hi1 3 jz1 A n c m hA (by omega)
  have hm2 : m ≤ 65536 := by omega
  clear hP hT hTm hS hl hez hA
  go_enter Tryz.func71, Tryz.ntmps71
  have F0 := Hd.mk ((Fr.refl w []).alloc (.cells (pcell 0 0 0) 160))
  have B0 := Hd.mk (blk_new w (.cells (pcell 0 0 0) 160))
  have NG : Hd (w.heap.size ≤ w.heap.size) := ⟨Nat.le_refl _⟩
  go_upto_region 1 with (fail)
  obtain ⟨w0, hw0⟩ : ∃ w0, w0 = w.alloc (.cells #[.int .i64 0, .int .i64 0, .int .i64 0] 160) := ⟨_, rfl⟩
  obtain ⟨gp, hgp⟩ : ∃ g, g = w.heap.size := ⟨_, rfl⟩
  have F0 : Hd (Fr w w0 []) := ⟨by rw [hw0]; exact F0.out⟩
  have B0 : Hd (w0.heap[gp]? = some (.cells (pcell 0 0 0) 160 (0, 0))) := ⟨by rw [hw0, hgp]; exact B0.out⟩
  have NG : Hd (w.heap.size ≤ gp) := ⟨by omega⟩
  rw [← hw0, ← hgp]
  clear hw0 hgp
  go_upto_if 24 with (fail)
  go_cut [0] from 19 to 26 (fun s0 wd => s0 = .slice A m c ∧ w0 = wd)
  case first =>
    by_cases hbig : 65536 < n
    · have hgt : (n : Int) > 65536 := by omega
      have hq2 : ∀ (W : World), (Instr.slice 35 (.slice A n c) none (some (.int .i64 65536)) none).run Tryz.prog W = .ok (.slice A m c) W := by
        have e : (m : Int) = 65536 := by omega
        rw [e] at hq1
        exact hq1
      clear hq1 hm hTl hm2 hbig
      go_wp2
      go_meet
      case rel => exact ⟨rfl, rfl⟩
    · obtain rfl : m = n := by omega
      have hgt : ¬ (m : Int) > 65536 := by omega
      clear hq1 hm hTl hbig
      go_wp2
      go_meet
      case rel => exact ⟨rfl, rfl⟩
  case rest =>
  obtain ⟨rfl, rfl⟩ := hcut
  clear hm
  go_wp2_with (fail)
  refine (rownLens_any w0 A m c T p hTl (ST.out.frame F0.out (by simp)) (by omega) HL.out).mono ?_
  rintro e w1 hO
  have HO := Hd.mk hO
  clear hO hq1
  by_cases h0 : ez = 0
  · subst h0
    obtain ⟨A1, c1, B1, d1, rfl, o1, o2, o3, o4, h1⟩ := HO.out.1 HE.out.symm
    have O1 := Hd.mk o1
    have O2 := Hd.mk o2
    have F1 := Hd.mk (F0.out.trans h1 (by simp))
    have P1 := Hd.mk (h1.blk B0.out (by simp))
    have hPP := HPP.out
    rw [if_pos rfl] at hPP
    obtain ⟨hP1, rfl⟩ := hPP
    have HP1 := Hd.mk hP1
    have HR := Hd.mk (mayB_zero HE.out.symm).2
    have L1 := Hd.mk (check15 (ownLit_check T))
    have L2 := Hd.mk (check15 (ownDist_check T))
    have SL1 := Hd.mk (sl_of_own o1)
    have SL2 := Hd.mk (sl_of_own o2)
    have N1 : Hd (w.heap.size ≤ w1.heap.size) := ⟨F1.out.size⟩
    have e1 := ownLit_len T
    have e2 := ownDist_len T
    obtain ⟨bx, ox, hx1, _, _⟩ := SL1.out (by rw [i64s_length]; omega)
    obtain ⟨by_, oy, hy1, _, _⟩ := SL2.out (by rw [i64s_length]; omega)
    subst hx1 hy1
    clear o1 o2 o3 o4 h1 hP1 HPP HO B0 F0
    obtain ⟨lt, hlt⟩ : ∃ x, x = ownLit T := ⟨_, rfl⟩
    obtain ⟨ds, hds⟩ : ∃ x, x = ownDist T := ⟨_, rfl⟩
    have HPR : Hd (P = (meanN (sumF (fA lt) T) (sumF fN T) 8, meanN (sumF (fB lt ds) T) (sumF fM T) 20, 1)) := ⟨by rw [HP1.out, hlt, hds]; rfl⟩
    rw [← hlt] at SL1 O1 L1 e1
    rw [← hds] at SL2 O2 L2 e2
    clear hlt hds HP1
    go_wp2
    go_loopg [7, 8, 9, 10, 11] m (fun kq v7 v8 v9 v10 jv wr => ∃ j : Nat, jv = .int .i64 (j : Nat) ∧ j + kq = m ∧ v7 = .int .i64 (sumF fN (T.take j)) ∧ v8 = .int .i64 (sumF fM (T.take j)) ∧ v9 = .int .i64 (sumF (fA lt) (T.take j)) ∧ v10 = .int .i64 (sumF (fB lt ds) (T.take j)) ∧ Hd (Fr w1 wr []))
    case atStart => exact ⟨0, rfl, by omega, rfl, rfl, rfl, rfl, ⟨Fr.refl _ _⟩⟩
    case round =>
      obtain ⟨j, rfl, hj, rfl, rfl, rfl, rfl, HF⟩ := hrel
      have hmt : ∀ t ∈ T.take j, t ∈ T := fun t ht => List.mem_of_mem_take ht
      have hlen : ((T.take j).length : Int) ≤ 65536 := by rw [List.length_take]; omega
      have y1 := sumF_le (f := fA lt) (K := 15) (l := T.take j) (fun t ht => fA_le L1.out t)
      have y2 := sumF_le (f := fN) (K := 1) (l := T.take j) (fun t ht => fN_le t)
      have y3 := sumF_le (f := fB lt ds) (K := 35) (l := T.take j) (fun t ht => fB_le L1.out L2.out (HR.out t (hmt t ht)) (HL.out t (hmt t ht)))
      have y4 := sumF_le (f := fM) (K := 1) (l := T.take j) (fun t ht => fM_le t)
      have z1 : sumF (fA lt) (T.take j) ≤ 15 * 65536 := Int.le_trans y1.2 (by omega)
      have z2 : sumF fN (T.take j) ≤ 1 * 65536 := Int.le_trans y2.2 (by omega)
      have z3 : sumF (fB lt ds) (T.take j) ≤ 35 * 65536 := Int.le_trans y3.2 (by omega)
      have z4 : sumF fM (T.take j) ≤ 1 * 65536 := Int.le_trans y4.2 (by omega)
      replace y1 := y1.1
      replace y2 := y2.1
      replace y3 := y3.1
      replace y4 := y4.1
      clear hmt hlen
      by_cases h1 : j < m
      · have hjt : j < T.length := by omega
        have s1 : Hd (sumF (fA lt) (T.take (j + 1)) = sumF (fA lt) (T.take j) + fA lt T[j]) := ⟨sumF_take _ hjt⟩
        have s2 : Hd (sumF fN (T.take (j + 1)) = sumF fN (T.take j) + fN T[j]) := ⟨sumF_take _ hjt⟩
        have s3 : Hd (sumF (fB lt ds) (T.take (j + 1)) = sumF (fB lt ds) (T.take j) + fB lt ds T[j]) := ⟨sumF_take _ hjt⟩
        have s4 : Hd (sumF fM (T.take (j + 1)) = sumF fM (T.take j) + fM T[j]) := ⟨sumF_take _ hjt⟩
        obtain ⟨a, o1, rfl, _, hcc⟩ := Sl.row (enc := tcell) (sz := 3) (fun _ => rfl) (ST.out.frame (F1.out.trans HF.out (by simp)) (by simp)) hjt (by decide)
        obtain ⟨t, ht⟩ : ∃ t, t = T[j] := ⟨_, rfl⟩
        rw [← ht] at hcc s1 s2 s3 s4
        have c0 := hcc 0 (by decide)
        have c1 := hcc 1 (by decide)
        have c2 := hcc 2 (by decide)
        simp only [tcell, List.getElem?_cons_zero, List.getElem?_cons_succ, Nat.add_zero] at c0 c1 c2
        have htm : t ∈ T := by rw [ht]; exact List.getElem_mem hjt
        have hrt := HR.out t htm
        have hlt := HL.out t htm
        have A0 := (Fr.refl wr []).alloc (.cells #[.int .u8 t.lit, .int .i64 t.len, .int .i64 t.dist] 80)
        have F5 := Hd.mk (HF.out.trans A0 (by simp))
        have hjI : (j : Int) < (m : Nat) := by omega
        generalize sumF (fA lt) (T.take j) = sA at *
        generalize sumF fN (T.take j) = sN at *
        generalize sumF (fB lt ds) (T.take j) = sB at *
        generalize sumF fM (T.take j) = sM at *
        clear hcc ht htm HF A0
        by_cases hlen : t.len = 0
        · have u1 : Hd (fA lt t = lt.getD t.lit.toNat 0) := ⟨by unfold fA; rw [if_pos hlen]⟩
          have u2 : Hd (fN t = 1) := ⟨by unfold fN; rw [if_pos hlen]⟩
          have u3 : Hd (fB lt ds t = 0) := ⟨by unfold fB; rw [if_pos hlen]⟩
          have u4 : Hd (fM t = 0) := ⟨by unfold fM; rw [if_pos hlen]⟩
          obtain ⟨tl, tn, td⟩ := t
          simp only at hlen hlt u1
          subst hlen
          obtain ⟨tl, rfl⟩ := Int.eq_ofNat_of_zero_le hlt.1
          rw [Int.toNat_natCast] at u1
          have hlt2 : (tl : Int) ≤ 255 := hlt.2
          have kx := i64_getD (SL1.out.frame F5.out (by simp)) (i := tl) (by omega) rfl
          have hx := lens15_get L1.out tl
          generalize lt.getD tl 0 = x at *
          go_wp2
          go_roundg (gk - 1)
          case measure => omega
          case rel =>
            refine ⟨j + 1, by go_num, by omega, ?_, ?_, ?_, ?_, F5⟩
            · rw [s2.out, u2.out]
            · rw [s4.out, u4.out, Int.add_zero]
            · rw [s1.out, u1.out]
            · rw [s3.out, u3.out, Int.add_zero]
        · have sa := (sgA_fit hrt hlt).1
          have sb := sgB_fit hrt
          have u1 : Hd (fA lt t = 0) := ⟨by unfold fA; rw [if_neg hlen]⟩
          have u2 : Hd (fN t = 0) := ⟨by unfold fN; rw [if_neg hlen]⟩
          have u3 : Hd (fB lt ds t = lt.getD (sgA t).1.toNat 0 + (sgA t).2.2 + ds.getD (sgB t).1.toNat 0) := ⟨by unfold fB; rw [if_neg hlen]⟩
          have u4 : Hd (fM t = 1) := ⟨by unfold fM; rw [if_neg hlen]⟩
          have ea : sgA t = ((symN lenT 257 3 258 t.len).1, (symN lenT 257 3 258 t.len).2.2.1, (symN lenT 257 3 258 t.len).2.1) := by unfold sgA; rw [if_neg hlen]
          have eb : sgB t = ((symN distT 0 1 32768 t.dist).1, (symN distT 0 1 32768 t.dist).2.2.1, (symN distT 0 1 32768 t.dist).2.1) := by unfold sgB; rw [if_neg hlen]
          rw [ea] at sa u3
          rw [eb] at sb u3
          obtain ⟨⟨a1, a2⟩, ⟨a3, a4⟩, a5, a6⟩ := sa
          obtain ⟨⟨b1, b2⟩, ⟨b3, b4⟩, b5, b6⟩ := sb
          simp only at a1 a2 a3 a4 b1 b2 u3
          clear a5 a6 b5 b6 b3 b4 ea eb
          obtain ⟨⟨sx, mx, vx, ex⟩, hsx⟩ : ∃ x, x = symN lenT 257 3 258 t.len := ⟨_, rfl⟩
          obtain ⟨⟨sy, my, vy, ey⟩, hsy⟩ : ∃ x, x = symN distT 0 1 32768 t.dist := ⟨_, rfl⟩
          rw [← hsx] at a1 a2 a3 a4 u3
          rw [← hsy] at b1 b2 u3
          have HSX := Hd.mk hsx
          have HSY := Hd.mk hsy
          clear hsx hsy
          simp only at a1 a2 a3 a4 b1 b2 u3
          obtain ⟨sx, rfl⟩ := Int.eq_ofNat_of_zero_le a1
          obtain ⟨sy, rfl⟩ := Int.eq_ofNat_of_zero_le b1
          rw [Int.toNat_natCast, Int.toNat_natCast] at u3
          have hkx := lens15_get L1.out sx
          have hky := lens15_get L2.out sy
          have kx := fun (w' : World) (hf : Fr w1 w' []) => i64_getD (SL1.out.frame hf (by simp)) (i := sx) (by omega) rfl
          have ky := fun (w' : World) (hf : Fr w1 w' []) => i64_getD (SL2.out.frame hf (by simp)) (i := sy) (by omega) rfl
          generalize lt.getD sx 0 = x at *
          generalize ds.getD sy 0 = y at *
          have BT := Hd.mk (blk_new wr (.cells #[.int .u8 t.lit, .int .i64 t.len, .int .i64 t.dist] 80))
          go_wp2_with (fail)
          refine (rlenSymbol_any _ t.len).mono ?_
          rintro e w3 ⟨rfl, h3⟩
          rw [← HSX.out]
          have BT6 := Hd.mk (h3.blk BT.out (by simp))
          have F6 := Hd.mk (F5.out.trans h3 (by simp))
          clear h3 F5 BT c0 c1 c2
          have d2 := blk_cell BT6.out 2
          simp only [List.getElem?_toArray, List.getElem?_cons_zero, List.getElem?_cons_succ] at d2
          simp only
          go_wp2_with (fail)
          refine (rdistSymbol_any _ t.dist).mono ?_
          rintro e w4 ⟨rfl, h3⟩
          rw [← HSY.out]
          have F7 := Hd.mk (F6.out.trans h3 (by simp))
          clear h3 F6 BT6 d2
          have kx1 := kx w4 F7.out
          have ky1 := ky w4 F7.out
          simp only
          go_upto_region 17 with (fail)
          clear kx ky
          have n1 : IntKind.i64.wrap (x + mx) = x + mx := IntWalk.i64_in _ (by omega)
          have n2 : IntKind.i64.wrap (x + mx + y) = x + mx + y := IntWalk.i64_in _ (by omega)
          have n3 : IntKind.i64.wrap (sB + (x + mx + y)) = sB + (x + mx + y) := IntWalk.i64_in _ (by omega)
          go_region
          go_wp2
          go_roundg (gk - 1)
          case measure => omega
          case rel =>
            refine ⟨j + 1, by go_num, by omega, ?_, ?_, ?_, ?_, ⟨F7.out.drew⟩⟩
            · rw [s2.out, u2.out, Int.add_zero]
            · rw [s4.out, u4.out]
            · rw [s1.out, u1.out, Int.add_zero]
            · rw [s3.out, u3.out]
      · obtain rfl : j = m := by omega
        have eT : T.take j = T := List.take_of_length_le (by omega)
        rw [eT] at y1 y2 y3 y4 z1 z2 z3 z4 ⊢
        have P3 := Hd.mk (HF.out.blk P1.out (by simp))
        obtain ⟨pa, hpa⟩ : ∃ x, x = meanN (sumF (fA lt) T) (sumF fN T) 8 := ⟨_, rfl⟩
        obtain ⟨pm, hpm⟩ : ∃ x, x = meanN (sumF (fB lt ds) T) (sumF fM T) 20 := ⟨_, rfl⟩
        have HPR2 : Hd (P = (pa, pm, 1)) := ⟨by rw [HPR.out, hpa, hpm]⟩
        have HPA := Hd.mk hpa
        have HPM := Hd.mk hpm
        clear hpa hpm HPR eT
        generalize sumF (fA lt) T = sA at *
        generalize sumF fN T = sN at *
        generalize sumF (fB lt ds) T = sB at *
        generalize sumF fM T = sM at *
        go_upto_if 92 with (fail)
        have Q0 := Hd.mk (blk_new wr (.cells (pcell 8 20 1) 160))
        have G0 := Hd.mk (HF.out.alloc (.cells (pcell 8 20 1) 160))
        have Q1 : Hd ((wr.alloc (.cells #[.int .i64 8, .int .i64 20, .int .i64 1] 160)).heap[wr.heap.size]? = some (.cells (pcell 8 20 1) 160 (0, 0))) := ⟨Q0.out⟩
        have G1 : Hd (Fr w1 (wr.alloc (.cells #[.int .i64 8, .int .i64 20, .int .i64 1] 160)) []) := ⟨G0.out⟩
        have NQ : w1.heap.size ≤ wr.heap.size := HF.out.size
        clear Q0 G0 HF P3
        generalize wr.alloc (.cells #[.int .i64 8, .int .i64 20, .int .i64 1] 160) = w4 at *
        generalize wr.heap.size = gq at *
        go_cut [21] from 92 to 99 (fun s wd => s = .pointer (some ⟨gq, 0, none⟩) ∧ Hd (wd.heap[gq]? = some (.cells (pcell pa 20 1) 160 (0, 0))) ∧ Hd (Fr w1 wd []))
        case first =>
          by_cases h : sN = 0
          · have hlt : ¬ (0 : Int) < sN := by omega
            have e : Hd (pa = 8) := ⟨by rw [HPA.out, h]; rfl⟩
            clear h
            go_wp2
            go_meet
            case rel => exact ⟨rfl, ⟨by rw [e.out]; exact Q1.out⟩, G1⟩
          · have hlt : (0 : Int) < sN := by omega
            have hq : 0 ≤ (sA + sN - 1).tdiv sN ∧ (sA + sN - 1).tdiv sN ≤ sA + sN - 1 := by
              rw [Int.tdiv_eq_ediv_of_nonneg (by omega)]
              exact ⟨Int.ediv_nonneg (by omega) (by omega), Int.ediv_le_self _ (by omega)⟩
            have e : Hd (pa = (sA + sN - 1).tdiv sN) := ⟨by rw [HPA.out]; unfold meanN; rw [if_neg h]⟩
            obtain ⟨y, hy⟩ : ∃ y, y = (sA + sN - 1).tdiv sN := ⟨_, rfl⟩
            rw [← hy] at hq e
            have hyq : (sA + sN - 1).tdiv sN = y := hy.symm
            have hz : (sN == 0) = false := by simpa using h
            have f0 := blk_frozen Q1.out 0
            have k0 := blk_cell Q1.out 0
            simp only [pcell, List.getElem?_toArray, List.getElem?_cons_zero, List.getElem?_cons_succ] at k0
            have Q2 := Hd.mk (blk_set Q1.out 0 (.int .i64 y))
            have G2 := Hd.mk (G1.out.setCell (a := ⟨gq, 0, none⟩) (.int .i64 y) (.inr NQ))
            clear hy h
            go_wp2
            go_meet
            case rel => exact ⟨rfl, ⟨by rw [e.out]; exact Q2.out⟩, G2⟩
        case rest =>
        obtain ⟨rfl, Q2, G2⟩ := hcut
        obtain ⟨w5, rfl⟩ : ∃ w5 : World, w5 = wc := ⟨_, rfl⟩
        clear Q1 G1
        go_upto_if 101 with (fail)
        go_cut [21] from 101 to 108 (fun s wd => s = .pointer (some ⟨gq, 0, none⟩) ∧ Hd (wd.heap[gq]? = some (.cells (pcell pa pm 1) 160 (0, 0))) ∧ Hd (Fr w1 wd []))
        case first =>
          by_cases h : sM = 0
          · have hlt : ¬ (0 : Int) < sM := by omega
            have e : Hd (pm = 20) := ⟨by rw [HPM.out, h]; rfl⟩
            clear h
            go_wp2
            go_meet
            case rel => exact ⟨rfl, ⟨by rw [e.out]; exact Q2.out⟩, G2⟩
          · have hlt : (0 : Int) < sM := by omega
            have hq : 0 ≤ (sB + sM - 1).tdiv sM ∧ (sB + sM - 1).tdiv sM ≤ sB + sM - 1 := by
              rw [Int.tdiv_eq_ediv_of_nonneg (by omega)]
              exact ⟨Int.ediv_nonneg (by omega) (by omega), Int.ediv_le_self _ (by omega)⟩
            have e : Hd (pm = (sB + sM - 1).tdiv sM) := ⟨by rw [HPM.out]; unfold meanN; rw [if_neg h]⟩
            obtain ⟨y, hy⟩ : ∃ y, y = (sB + sM - 1).tdiv sM := ⟨_, rfl⟩
            rw [← hy] at hq e
            have hyq : (sB + sM - 1).tdiv sM = y := hy.symm
            have hz : (sM == 0) = false := by simpa using h
            have f0 := blk_frozen Q2.out 1
            have k0 := blk_cell Q2.out 1
            simp only [pcell, List.getElem?_toArray, List.getElem?_cons_zero, List.getElem?_cons_succ] at k0
            have Q3 := Hd.mk (blk_set Q2.out 1 (.int .i64 y))
            have G3 := Hd.mk (G2.out.setCell (a := ⟨gq, 1, none⟩) (.int .i64 y) (.inr NQ))
            clear hy h
            go_wp2
            go_meet
            case rel => exact ⟨rfl, ⟨by rw [e.out]; exact Q3.out⟩, G3⟩
        case rest =>
        obtain ⟨rfl, Q3, G3⟩ := hcut
        obtain ⟨w6, rfl⟩ : ∃ w6 : World, w6 = wc := ⟨_, rfl⟩
        clear Q2 G2
        have P7 := Hd.mk (G3.out.blk P1.out (by simp))
        have F7 := Hd.mk (F1.out.trans G3.out (by simp))
        have R8 := Hd.mk (setRow_heap w6 gp _ (pcell pa pm 1) _ _ P7.out)
        have F8 := Hd.mk (Code.Fr.setRow (F := []) F7.out (g := gp) (pcell pa pm 1) (.inr NG.out))
        have k0 := blk_cell Q3.out 0
        have k1 := blk_cell Q3.out 1
        have k2 := blk_cell Q3.out 2
        simp only [pcell, List.getElem?_toArray, List.getElem?_cons_zero, List.getElem?_cons_succ] at k0 k1 k2
        go_wp2_with (refine wpList_store_row rfl 160 _ _ rfl gp (pcell pa pm 1) rfl rfl 160 _ (by exact P7.out) (by kernel_rfl) (by kernel_rfl) (by kernel_rfl) ?_)
        refine bodyPost_ret (results_pr rfl _ _ gp _ rfl (run_loadVar_row _ gp 160 160 (pcell pa pm 1) _ _ (by exact R8.out) Tryz.underlying160 rfl (infoRPrice _ _ _))) rfl ?_
        rw [HPR2.out]
        exact ⟨rfl, F8.out⟩
  · have hne : (ez != 0) = true := by simpa using h0
    obtain ⟨rfl, h1⟩ := HO.out.2 (by rw [← HE.out]; exact h0)
    have hPP := HPP.out
    rw [if_neg h0] at hPP
    obtain ⟨rfl, rfl⟩ := hPP
    rw [← HE.out]
    have P1 := Hd.mk (h1.blk B0.out (by simp))
    have F1 := Hd.mk (F0.out.trans h1 (by simp))
    clear h1 HO HPP
    have R8 := Hd.mk (setRow_heap w1 gp _ (pcell 0 0 0) _ _ P1.out)
    have F8 := Hd.mk (Code.Fr.setRow (F := []) F1.out (g := gp) (pcell 0 0 0) (.inr NG.out))
    go_wp2_with (refine wpList_store_row rfl 160 _ _ rfl gp (pcell 0 0 0) rfl rfl 160 _ (by exact P1.out) (by kernel_rfl) (by kernel_rfl) (by kernel_rfl) ?_)
    refine bodyPost_ret (results_pr rfl _ _ gp _ rfl (run_loadVar_row _ gp 160 160 (pcell 0 0 0) _ _ (by exact R8.out) Tryz.underlying160 rfl (infoRPrice _ _ _))) rfl ?_
    exact ⟨rfl, F8.out⟩
end Go.Proofs.YtkdgfioigkijgaaGreat.Prs
set_option linter.unusedVariables false
set_option linter.unusedSimpArgs false
set_option maxRecDepth 100000
namespace Go.Proofs.YtkdgfioigkijgaaGreat.Prs
open Go.RowKit Go.Proofs.YtkdgfioigkijgaaGreat.Lib Go.Proofs.YtkdgfioigkijgaaGreat.Ints Go.Proofs.YtkdgfioigkijgaaGreat.Lz Go.Proofs.YtkdgfioigkijgaaGreat.Num Go.Proofs.YtkdgfioigkijgaaGreat.Bits Go.Proofs.YtkdgfioigkijgaaGreat.Blk
theorem row_strm {w : World} {l : List Tok} {d : List Int} {M J : Nat} {v : Value} (hM : 1 ≤ M) (j1 : 1 ≤ J) (j2 : l.length ≤ J * M) (j3 : J = 1 ∨ (J - 1) * M < l.length) (h : w.ownsRow 0 5 1 v ((btN l M J + 7) / 8) (u8s (bytesOf (numOf (PBx l d M (List.range J))) (btN l M J)))) :
    ∃ A c, v = .slice A (strm d M l).length c ∧ w.ownsRow 0 5 1 (.slice A (strm d M l).length c) (strm d M l).length (u8s (strm d M l)) := by
  obtain ⟨k1, k2, k3⟩ := jOf_ok (T := l.length) hM
  obtain rfl := one_J k1 k2 k3 j1 j2 j3
  have e : (strm d M l).length = (btN l M (jOf l.length M) + 7) / 8 := strm_len d M l
  obtain ⟨A, c, rfl⟩ := slice_own h
  exact ⟨A, c, by rw [e], by rw [e]; exact h⟩
theorem toks_own {w : World} {A : Option Addr} {m c : Nat} {l : List Tok} {e : TypeId} (h : w.ownsRow 0 e 3 (.slice A m c) m (tcells l)) : m = l.length := by
  have h1 := h.1
  have h2 := flat_len tcell 3 (fun _ => rfl) l
  unfold tcells at h1
  omega
set_option maxHeartbeats 16000000 in
theorem rsqueeze_any (w : World) (A : Option Addr) (n c : Nat) (d : List Int) (q : Option Nat) (k : Opt) (most rounds er : Int) (he : er = sqzErr k most rounds) (hS : SlArg w A n c (u8s d) q) (hby : Bytes d) (hn : n ≤ 1048576) (bs : List Int) (at_ : Nat) (hr : sqzN d k most rounds = (bs, at_)) :
    Calls Tryz.prog 42 #[.slice A n c, .agg #[.int .i64 k.window, .int .i64 k.chain, .bool k.isLazy], .int .i64 most, .int .i64 rounds] w fun e w' => ∃ A' c', e = .returned (.tuple #[.slice A' bs.length c', .int .i64 (at_ : Nat), .int .i64 er]) ∧ w'.ownsRow 0 5 1 (.slice A' bs.length c') bs.length (u8s bs) ∧ (∀ y, (Value.slice A' bs.length c').ownBlock = some y → w.heap.size ≤ y) ∧ Fr w w' [] := by
  have HS := Hd.mk hS
  have hl : d.length = n := by have := hS.len; simpa [u8s] using this
  have HBY := Hd.mk hby
  obtain ⟨e0, he0⟩ : ∃ e, e = popErr k most := ⟨_, rfl⟩
  have h2 : e0 = 0 ∨ e0 = 100 := he0 ▸ popErr_two k most
  have HE := Hd.mk he0
  have HER : Hd (er = if e0 ≠ 0 then e0 else if rounds < 0 ∨ 8 < rounds then 1 else 0) := ⟨by rw [he, he0]; rfl⟩
  have HSQ : Hd (sqzN d k most rounds = (bs, at_) ∧ er = sqzErr k most rounds) := ⟨hr, he⟩
  clear he hS hby hr he0
  go_enter Tryz.func42, Tryz.ntmps42
  have F0 := Hd.mk ((Fr.refl w []).alloc (.cells #[.int .i64 k.window, .int .i64 k.chain, .bool k.isLazy] 90))
  have BX := Hd.mk (blk_new w (.cells #[.int .i64 k.window, .int .i64 k.chain, .bool k.isLazy] 90))
  go_wp2_with (fail)
  refine (rpress_any _ A n c d q k most e0 HE.out (HS.out.frame F0.out (by simp)) HBY.out hn).mono ?_
  rintro e w1 ⟨v, u, rfl, hP⟩
  have F1 := Hd.mk (F0.out.trans hP.2.2 (by simp))
  have BX := Hd.mk (hP.2.2.blk BX.out (by simp))
  have HP := Hd.mk hP
  have ZZ : Hd (w.heap.size ≤ (w.alloc (.cells #[.int .i64 k.window, .int .i64 k.chain, .bool k.isLazy] 90)).heap.size) := ⟨F0.out.size⟩
  clear hP F0
  rcases h2 with rfl | rfl
  · obtain ⟨hk0, hm1, hm2⟩ := popErr_zero HE.out.symm
    obtain ⟨M, rfl⟩ := Int.eq_ofNat_of_zero_le (show 0 ≤ most by omega)
    have hM1 : 1 ≤ M := by omega
    have hM2 : M ≤ 65536 := by omega
    have HK0 := Hd.mk hk0
    obtain ⟨J, j1, j2, j3, hR⟩ := HP.out.2.1 rfl
    rw [Int.toNat_natCast] at j2 j3 hR
    obtain ⟨A1, c1, rfl, o1⟩ := row_strm hM1 j1 j2 j3 hR.1
    have O1 := Hd.mk o1
    have N1 : Hd (∀ y, (Value.slice A1 (strm d M (parse d k)).length c1).ownBlock = some y → w.heap.size ≤ y) := ⟨fun y hy => Nat.le_trans ZZ.out (hR.2.1 y hy)⟩
    clear hR j1 j2 j3 hk0 o1 HP ZZ hm1 hm2
    by_cases hrd : rounds < 0 ∨ 8 < rounds
    · obtain rfl : er = 1 := by rw [HER.out, if_neg (by simp), if_pos hrd]
      have hz : Hd (bs = [] ∧ at_ = 0) := ⟨by
        obtain ⟨h1, h2⟩ := HSQ.out
        unfold sqzN at h1
        rw [← h2, if_neg (by decide)] at h1
        injection h1 with h1 h3
        exact ⟨h1.symm, h3.symm⟩⟩
      obtain ⟨hz1, hz2⟩ := hz.out
      subst hz1 hz2
      have hfin : ∀ W : World, Fr w W [] → ∃ A' c', Ending.returned (.tuple #[.slice none 0 0, .int .i64 0, .int .i64 1]) = .returned (.tuple #[.slice A' ([] : List Int).length c', .int .i64 ((0 : Nat) : Int), .int .i64 1]) ∧ W.ownsRow 0 5 1 (.slice A' ([] : List Int).length c') ([] : List Int).length (u8s []) ∧ (∀ y, (Value.slice A' ([] : List Int).length c').ownBlock = some y → w.heap.size ≤ y) ∧ Fr w W [] := fun W hf => ⟨none, 0, rfl, own_nil _ _ _ _, by simp [Value.ownBlock], hf⟩
      by_cases h0 : rounds < 0
      · go_wp2
        go_ret3
        exact hfin _ F1.out
      · have h8 : rounds > 8 := by omega
        go_wp2
        go_ret3
        exact hfin _ F1.out
    · have h0 : ¬ rounds < 0 := by omega
      have h8 : ¬ rounds > 8 := by omega
      obtain ⟨R, rfl⟩ := Int.eq_ofNat_of_zero_le (show 0 ≤ rounds by omega)
      obtain rfl : er = 0 := by rw [HER.out, if_neg (by simp), if_neg hrd]
      have HBS : Hd (bestN d k M R = (bs, at_)) := ⟨by
        obtain ⟨h1, h2⟩ := HSQ.out
        unfold sqzN at h1
        rw [← h2, if_pos rfl, Int.toNat_natCast, Int.toNat_natCast] at h1
        exact h1⟩
      have hR8 : R ≤ 8 := by omega
      clear HSQ HER hrd
      have b0 := blk_cell BX.out 0
      have b1 := blk_cell BX.out 1
      have b2 := blk_cell BX.out 2
      simp only [List.getElem?_toArray, List.getElem?_cons_zero, List.getElem?_cons_succ] at b0 b1 b2
      go_wp2_with (fail)
      refine (rparse_any w1 A n c d q k (HS.out.frame F1.out (by simp)) hn (optErr k) (parse d k) rfl rfl).mono ?_
      rintro e w2 ⟨A2, m2, c2, rfl, o2, n2, hh⟩
      obtain rfl := toks_own o2
      have T2 := Hd.mk o2
      have O2 := Hd.mk (own_frame O1.out hh (by simp))
      have BX2 := Hd.mk (hh.blk BX.out (by simp))
      have F2 := Hd.mk (F1.out.trans hh (by simp))
      clear hh o2 n2 O1 F1 BX b0 b1 b2
      subst hl
      go_wp2
      go_loopg [11, 14, 15, 17] R (fun kq bv av lv iv wr => ∃ (i : Nat) (Ab : Option Addr) (cb : Nat) (At : Option Addr) (ct : Nat), bv = .slice Ab (bestN d k M i).1.length cb ∧ av = .int .i64 ((bestN d k M i).2 : Nat) ∧ lv = .slice At (toksR d k i).length ct ∧ iv = .int .i64 ((i : Nat) + 1 : Int) ∧ i + kq = R ∧ Hd (wr.ownsRow 0 5 1 (.slice Ab (bestN d k M i).1.length cb) (bestN d k M i).1.length (u8s (bestN d k M i).1)) ∧ Hd (∀ y, (Value.slice Ab (bestN d k M i).1.length cb).ownBlock = some y → w.heap.size ≤ y) ∧ Hd (wr.ownsRow 0 80 3 (.slice At (toksR d k i).length ct) (toksR d k i).length (tcells (toksR d k i))) ∧ Hd (wr.heap[w.heap.size]? = some (.cells #[.int .i64 k.window, .int .i64 k.chain, .bool k.isLazy] 90 (0, 0))) ∧ Hd (Fr w wr []))
      case atStart => exact ⟨0, A1, c1, A2, c2, rfl, rfl, rfl, rfl, by omega, O2, N1, T2, BX2, F2⟩
      case round =>
        clear O2 N1 T2 F2 BX2
        obtain ⟨i, Ab, cb, At, ct, rfl, rfl, rfl, rfl, hi, HO, HN, HT, BX, HF⟩ := hrel
        have hg := toksR_good HK0.out HBY.out i
        have hbn := bestN_le HK0.out HBY.out hM1 hM2 hn i
        have hbn1 := hbn.1
        have hbn2 := hbn.2.1
        have hgn := hg.n
        by_cases hiR : i < R
        · have hiI : ((i : Nat) : Int) + 1 ≤ ((R : Nat) : Int) := by omega
          obtain ⟨-, t2, t3, t4, t5, t6⟩ := own_rtok HT.out
          obtain ⟨pe, ge⟩ := hg.next HK0.out HBY.out
          have hgs := toksR_good HK0.out HBY.out (i + 1)
          have HPR := hg.take.2
          have HTT : Hd (toksR d k (i + 1) = cheapToks d k (prOf (toksR d k i))) := ⟨rfl⟩
          have HBE : Hd (bestN d k M (i + 1) = if (strm d M (toksR d k (i + 1))).length < (bestN d k M i).1.length then (strm d M (toksR d k (i + 1)), i + 1) else bestN d k M i) := ⟨rfl⟩
          unfold prOf at pe HTT
          obtain ⟨pl, hpl⟩ : ∃ x, x = priceL ((toksR d k i).take 65536) := ⟨_, rfl⟩
          obtain ⟨pm, hpm⟩ : ∃ x, x = priceM ((toksR d k i).take 65536) := ⟨_, rfl⟩
          rw [← hpl, ← hpm] at pe HTT HPR
          obtain ⟨co, hco⟩ : ∃ x, x = cheapCost d k ⟨pl, pm, 1⟩ := ⟨_, rfl⟩
          have HCE := Hd.mk pe
          have HCO := Hd.mk hco
          have HGB := Hd.mk hg.b
          have HPR := Hd.mk HPR
          have HGS := Hd.mk hgs
          have HT5 := Hd.mk t5
          have HT2 := Hd.mk t2
          have hgsn := hgs.n
          clear pe hco hpl hpm hg hgs ge t2 t5 t6 hbn
          obtain ⟨lt, hlt⟩ : ∃ x, x = (toksR d k i).length := ⟨_, rfl⟩
          have HLT := Hd.mk hlt
          rw [← hlt] at t3 hgn HT5 ⊢
          clear hlt
          go_wp2_with (fail)
          refine (rprices_any wr At lt ct (toksR d k i) _ HLT.out.symm t3 (fun h => (HT5.out h).2) HT2.out (by omega) HGB.out (pl, pm, 1) 0 HPR.out).mono ?_
          rintro e w3 ⟨rfl, h3⟩
          simp only [pcell]
          have F3 := Hd.mk (HF.out.trans h3 (by simp))
          have O3 := Hd.mk (own_frame HO.out h3 (by simp))
          have BX3 := Hd.mk (h3.blk BX.out (by simp))
          clear h3 BX HF HO HT HT2 HT5 t3 t4 HPR HGB
          go_upto_region 12 with (fail)
          have F4 := Hd.mk (F3.out.alloc (.cells #[.int .i64 pl, .int .i64 pm, .int .i64 1] 160))
          have P4 := Hd.mk (blk_new w3 (.cells #[.int .i64 pl, .int .i64 pm, .int .i64 1] 160))
          have O4 := Hd.mk (own_frame O3.out ((Fr.refl w3 []).alloc (.cells #[.int .i64 pl, .int .i64 pm, .int .i64 1] 160)) (by simp))
          have BX4 := Hd.mk (blk_alloc BX3.out (.cells #[.int .i64 pl, .int .i64 pm, .int .i64 1] 160))
          clear F3 O3 BX3
          generalize w3.alloc (.cells #[.int .i64 pl, .int .i64 pm, .int .i64 1] 160) = w4 at *
          generalize w3.heap.size = gp at *
          have b0 := blk_cell BX4.out 0
          have b1 := blk_cell BX4.out 1
          have b2 := blk_cell BX4.out 2
          have p0 := blk_cell P4.out 0
          have p1 := blk_cell P4.out 1
          have p2 := blk_cell P4.out 2
          simp only [List.getElem?_toArray, List.getElem?_cons_zero, List.getElem?_cons_succ] at b0 b1 b2 p0 p1 p2
          go_wp2_with (fail)
          refine (rcheap_any w4 A d.length c d q k ⟨pl, pm, 1⟩ (HS.out.frame F4.out (by simp)) hn 0 co (toksR d k (i + 1)) HCE.out.symm HCO.out HTT.out).mono ?_
          rintro e w5 ⟨A5, m5, c5, rfl, o5, n5, hh⟩
          obtain rfl := toks_own o5
          have T5 := Hd.mk o5
          have O5 := Hd.mk (own_frame O4.out hh (by simp))
          have BX5 := Hd.mk (hh.blk BX4.out (by simp))
          have F5 := Hd.mk (F4.out.trans hh (by simp))
          clear hh o5 n5 O4 F4 BX4 P4 b0 b1 b2 p0 p1 p2 HCO HTT
          obtain ⟨-, t2, t3, t4, t5, t6⟩ := own_rtok T5.out
          have hS5 := HS.out.frame F5.out (by simp)
          have hp5 : ∀ b, b ∈ (Value.slice A5 (toksR d k (i + 1)).length c5).ownBlock.toList ++ q.toList → b < w5.heap.size := fun b hb => by
            rcases List.mem_append.1 hb with h | h
            · exact t6 b (by simpa using h)
            · exact hS5.lt b (by simpa using h)
          have CW := rwritten_any w5 c5 c M A5 A (toksR d k (i + 1)) d _ q t2 t3 t4 t5 hS5.sl hS5.le hS5.max hS5.nil hp5 HBY.out HGS.out.r HGS.out.b HGS.out.s hM1 hM2 (by omega) hn
          have HCW := Hd.mk CW
          clear CW hp5 hS5 t2 t3 t4 t5 t6
          go_wp2_with (fail)
          refine HCW.out.mono ?_
          rintro e w6 ⟨J, v, u, j1, j2, j3, rfl, hR⟩
          obtain ⟨A6, c6, rfl, o6⟩ := row_strm hM1 j1 j2 j3 hR.1
          have O6 := Hd.mk o6
          have N6 : Hd (∀ y, (Value.slice A6 (strm d M (toksR d k (i + 1))).length c6).ownBlock = some y → w.heap.size ≤ y) := ⟨fun y hy => Nat.le_trans F5.out.size (hR.2.1 y hy)⟩
          have hh := hR.2.2.2.2
          have O7 := Hd.mk (own_frame O5.out hh (by simp))
          have T7 := Hd.mk (own_frame T5.out hh (by simp))
          have BX7 := Hd.mk (hh.blk BX5.out (by simp))
          have F7 := Hd.mk (F5.out.trans hh (by simp))
          have hsl := strm_le HGS.out hM1 hM2 hn
          clear hh hR j1 j2 j3 o6 O5 T5 BX5 F5 HCW
          by_cases hlt : (strm d M (toksR d k (i + 1))).length < (bestN d k M i).1.length
          · have HB1 : Hd (bestN d k M (i + 1) = (strm d M (toksR d k (i + 1)), i + 1)) := ⟨by rw [HBE.out, if_pos hlt]⟩
            have hltI : (((strm d M (toksR d k (i + 1))).length : Nat) : Int) < (((bestN d k M i).1.length : Nat) : Int) := by omega
            go_wp2
            go_roundg (gk - 1)
            case measure => omega
            case rel => exact ⟨i + 1, A6, c6, A5, c5, by rw [HB1.out], by rw [HB1.out]; go_num, rfl, by go_num, by omega, by rw [HB1.out]; exact O6, by rw [HB1.out]; exact N6, T7, BX7, F7⟩
          · have HB1 : Hd (bestN d k M (i + 1) = bestN d k M i) := ⟨by rw [HBE.out, if_neg hlt]⟩
            have hltI : ¬ (((strm d M (toksR d k (i + 1))).length : Nat) : Int) < (((bestN d k M i).1.length : Nat) : Int) := by omega
            go_wp2
            go_roundg (gk - 1)
            case measure => omega
            case rel => exact ⟨i + 1, Ab, cb, A5, c5, by rw [HB1.out], by rw [HB1.out], rfl, by go_num, by omega, by rw [HB1.out]; exact O7, by rw [HB1.out]; exact HN, T7, BX7, F7⟩
        · obtain rfl : i = R := by omega
          have hiI : ¬ ((i : Nat) : Int) + 1 ≤ ((i : Nat) : Int) := by omega
          clear hbn hbn1 hbn2 hg hgn
          obtain ⟨bb, hbb⟩ : ∃ x, x = bestN d k M i := ⟨_, rfl⟩
          rw [← hbb] at HO HN HBS ⊢
          have hbb2 := HBS.out
          subst hbb2
          clear hbb
          go_wp2
          go_ret3
          exact ⟨Ab, cb, rfl, HO.out, HN.out, HF.out⟩
  · obtain ⟨rfl, rfl⟩ := HP.out.1 (by decide)
    obtain rfl : er = 100 := by rw [HER.out, if_pos (by decide)]
    have hz : Hd (bs = [] ∧ at_ = 0) := ⟨by
      obtain ⟨h1, h2⟩ := HSQ.out
      unfold sqzN at h1
      rw [← h2, if_neg (by decide)] at h1
      injection h1 with h1 h3
      exact ⟨h1.symm, h3.symm⟩⟩
    obtain ⟨hz1, hz2⟩ := hz.out
    subst hz1 hz2
    go_wp2
    go_ret3
    exact ⟨none, 0, rfl, own_nil _ _ _ _, by simp [Value.ownBlock], F1.out⟩
end Go.Proofs.YtkdgfioigkijgaaGreat.Prs
