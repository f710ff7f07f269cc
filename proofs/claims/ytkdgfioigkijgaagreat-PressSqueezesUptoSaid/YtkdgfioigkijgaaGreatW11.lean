import Derived.Test.YtkdgfioigkijgaaGreatW01
import Derived.Test.YtkdgfioigkijgaaGreatW02
import Derived.Test.YtkdgfioigkijgaaGreatW04
import Derived.Test.YtkdgfioigkijgaaGreatW05
import Derived.Test.YtkdgfioigkijgaaGreatW06
import Derived.Test.YtkdgfioigkijgaaGreatW07
import Derived.Test.YtkdgfioigkijgaaGreatW08
import Derived.Test.YtkdgfioigkijgaaGreatW09
import Derived.Test.YtkdgfioigkijgaaGreatW10
import Derived.Laws.EntriesVeiled
import Derived.BigRegion
import Derived.BigQuiet
import Derived.Deep.QuietTactic
import Derived.Deep.LoopGhost
import Derived.Deep.DeepCutAuto
import Derived.KernelRfl
import Derived.Deep.RegionLaw
import Derived.Outline
set_option linter.unusedVariables false
set_option linter.unusedSimpArgs false
set_option maxRecDepth 100000
namespace Go.Proofs.YtkdgfioigkijgaaGreat.Lens
open Go.RowKit Go.Proofs.YtkdgfioigkijgaaGreat.Lib Go.Proofs.YtkdgfioigkijgaaGreat.Ints Go.Proofs.YtkdgfioigkijgaaGreat.Sorts Go.Proofs.YtkdgfioigkijgaaGreat.Sort Go.Proofs.YtkdgfioigkijgaaGreat.Pm Go.Proofs.YtkdgfioigkijgaaGreat.Num
def lvs (fs : List Int) : List T := (srt (lv fs 0)).map fun x => .leaf x.1 x.2
def lenOf (limit : Nat) (fs : List Int) (s : Nat) : Nat :=
  if (lvs fs).length = 1 then cl (lvs fs) s else cl ((row (lvs fs) (limit - 1)).take (2 * (lvs fs).length - 2)) s
def lensN (limit : Int) (fs : List Int) : List Int × Int :=
  if limit < 1 ∨ 15 < limit then ([], 1) else if cn fs ≠ 0 then ([], cn fs) else if 2 ^ limit.toNat < (lvs fs).length then ([], 41) else ((List.range fs.length).map fun s => (lenOf limit.toNat fs s : Int), 0)
theorem lvs_len (fs : List Int) : (lvs fs).length = (srt (lv fs 0)).length := by simp [lvs]
theorem lvs_le (fs : List Int) : (lvs fs).length ≤ fs.length := by
  rw [lvs_len, (srt_ok fs 0).2.length_eq]; exact lv_len fs 0
theorem lvs_sd (fs : List Int) : Sd (lvs fs) := by
  unfold Sd lvs
  rw [List.pairwise_map]
  refine List.Pairwise.imp ?_ (srt_ok fs 0).1
  intro a b h
  simp only [T.wt]
  unfold lx ky at h
  omega
theorem lvs_mem {fs : List Int} {t : T} (h : t ∈ lvs fs) : ∃ s, ∃ hs : s < fs.length, t = .leaf (fs[s]).toNat s ∧ 0 < fs[s] := by
  unfold lvs at h
  obtain ⟨x, hx, rfl⟩ := List.mem_map.1 h
  have hm := (srt_ok fs 0).2.mem_iff.1 hx
  obtain ⟨_, h2, h3, h4⟩ := lv_mem fs 0 x hm
  simp only [Nat.sub_zero] at h2 h3 h4
  exact ⟨x.2, h2, by rw [h4], h3⟩
theorem lvs_pos (fs : List Int) : ∀ t ∈ lvs fs, t.pos := fun t h => by
  obtain ⟨s, hs, rfl, hp⟩ := lvs_mem h
  simp only [T.pos]; omega
theorem lvs_bel (fs : List Int) : ∀ t ∈ lvs fs, bel fs.length t := fun t h => by
  obtain ⟨s, hs, rfl, hp⟩ := lvs_mem h
  exact hs
theorem lvs_wt {fs : List Int} (h : out 1099511627776 fs = false) : ∀ t ∈ lvs fs, t.wt ≤ 1099511627776 := fun t ht => by
  obtain ⟨s, hs, rfl, hp⟩ := lvs_mem ht
  have := of_out h hs
  simp only [T.wt]; omega
def sy (fs : List Int) (r : Nat) : Nat := ((srt (lv fs 0)).getD r (0, 0)).2
theorem lvs_leaves (fs : List Int) : Pm.Leaves (lvs fs) (sy fs) := fun r h => by
  have h' : r < (srt (lv fs 0)).length := by rw [← lvs_len]; exact h
  refine ⟨((srt (lv fs 0))[r]'h').1, ?_⟩
  simp only [lvs, List.getElem_map, sy, List.getD_eq_getElem?_getD, List.getElem?_eq_getElem h', Option.getD_some]
theorem lvs_inj (fs : List Int) : Inj (sy fs) (lvs fs).length := by
  intro r r' h h' e
  rw [lvs_len] at h h'
  have hnd : (srt (lv fs 0)).Pairwise (fun x y => x.2 ≠ y.2) := by
    have h1 : (lv fs 0).Pairwise (fun x y => x.2 ≠ y.2) := List.Pairwise.imp (fun h => Nat.ne_of_lt h) (lv_inc fs 0)
    exact ((srt_ok fs 0).2.pairwise_iff (fun h => Ne.symm h)).2 h1
  have e1 : sy fs r = ((srt (lv fs 0))[r]'h).2 := by simp [sy, h]
  have e2 : sy fs r' = ((srt (lv fs 0))[r']'h').2 := by simp [sy, h']
  rw [e1, e2] at e
  have hp := List.pairwise_iff_getElem.1 hnd
  by_cases c : r < r'
  · exact absurd e (hp r r' h h' c)
  · by_cases c2 : r' < r
    · exact absurd e.symm (hp r' r h' h c2)
    · omega
theorem lenOf_le {fs : List Int} {limit : Nat} (h1 : 1 ≤ limit) (hn : (lvs fs).length ≤ 2 ^ limit) (s : Nat) : lenOf limit fs s ≤ limit := by
  unfold lenOf
  split
  · rename_i h
    have := cl_bd (lvs_leaves fs) (lvs_inj fs) (J := 0) (m := 1) (a := fun _ => 1) ?_ s
    · rw [row, List.take_of_length_le (by omega)] at this; omega
    · obtain ⟨a, ha⟩ := sel (lvs fs) (lvs_sd fs) (lvs_pos fs) 0 1 (by rw [row]; omega)
      exact ⟨fun _ => by omega, fun _ h => absurd h (by omega), fun s => by simp [sumN, row], by simp [sumN, row], by simp [sumN], fun t h => h⟩
  · have hl := long (lvs fs) (limit - 1) (by rw [show limit - 1 + 1 = limit from by omega]; exact hn)
    obtain ⟨a, ha⟩ := sel (lvs fs) (lvs_sd fs) (lvs_pos fs) (limit - 1) (2 * (lvs fs).length - 2) hl
    have := cl_bd (lvs_leaves fs) (lvs_inj fs) ha s
    omega
theorem cnt_of_own {w : World} {g N : Nat} {f : Nat → Nat} (h : w.ownsRow 0 3 1 (.slice (some ⟨g, 0, none⟩) N N) N ((List.range N).map fun s => Value.int .i64 (f s))) : Cnt w g N f := by
  rcases h.2 with ⟨h', _⟩ | ⟨g', cap, cur, h', hb, hh, hnc, hcm, hcs, ht⟩
  · cases h'
  · injection h' with h1 _ h3
    injection h1 with h1
    injection h1 with h1
    subst h1 h3
    unfold Cnt
    rw [hh]
    congr 2
    unfold cv
    rw [← ht, List.take_of_length_le (by simp; omega)]
theorem own_of_cnt {w : World} {g N : Nat} {f : Nat → Nat} (h : Cnt w g N f) (hN : N ≤ 1000) : w.ownsRow 0 3 1 (.slice (some ⟨g, 0, none⟩) N N) N (i64s ((List.range N).map fun s => (f s : Int))) := by
  refine ⟨by simp [i64s], .inr ⟨g, N, cv N f, rfl, Nat.zero_le _, h, Nat.le_refl _, by unfold maxLen; omega, by simp [cv], ?_⟩⟩
  rw [List.take_of_length_le (by simp [cv])]
  simp [cv, i64s]
theorem run_cut_to {P : Program} (t e : TypeId) (kh : IntKind) {i : TypeInfo} (ht : P.underlying t = some (.slice e)) (hi : P.info? e = some i) (size : Nat) (hsz : i.size = size) (A : Option Addr) (n c m : Nat) (hA : A = none → c = 0) (h2 : m ≤ c) :
    ∀ W : World, (Instr.slice t (.slice A n c) none (some (.int kh (m : Nat))) none).run P W = .ok (.slice A m c) W := by
  intro W
  have hel : P.elem t = e := by simp [Program.elem, ht]
  have hu : P.underlying t = some (.slice (P.elem t)) := by rw [hel]; exact ht
  rw [run_slice_h W t A n c hu kh m (by omega) (by omega), hel]
  simp [sizeOf, typeInfo, hi, hsz, sliced, Result.andThen]
  cases A with
  | none => intro _; rfl
  | some a => intro _; simp [Addr.add]
def LensPost (w : World) (r : List Int × Int) (e : Ending) (w' : World) : Prop :=
  ∃ A n c, e = .returned (.tuple #[.slice A n c, .int .i64 r.2]) ∧ w'.ownsRow 0 3 1 (.slice A n c) n (i64s r.1) ∧ (∀ k, (Value.slice A n c).ownBlock = some k → w.heap.size ≤ k) ∧ Fr w w' []
set_option maxHeartbeats 4000000 in
theorem lengths_any (w : World) (limit : Int) (A : Option Addr) (n c : Nat) (fs : List Int) (p : Option Nat) (hn : fs.length = n) (hS : Sl w A (i64s fs) p) (hn1 : n ≤ 4611686018427387904) :
    Calls Tryz.prog 162 #[.int .i64 limit, .slice A n c] w (LensPost w (lensN limit fs)) := by
  subst hn
  have HS := Hd.mk hS
  clear hS
  by_cases hl1 : limit < 1
  · have hr : Hd (lensN limit fs = ([], 1)) := ⟨by unfold lensN; rw [if_pos (.inl hl1)]⟩
    go_enter Tryz.func162, Tryz.ntmps162
    go_wp2
    go_ret2
    rw [hr.out]
    exact ⟨none, 0, 0, rfl, own_nil _ _ _ _, fun k hk => by simp [Value.ownBlock] at hk, Fr.refl _ _⟩
  by_cases hl2 : 15 < limit
  · have hr : Hd (lensN limit fs = ([], 1)) := ⟨by unfold lensN; rw [if_pos (.inr hl2)]⟩
    go_enter Tryz.func162, Tryz.ntmps162
    go_wp2
    go_ret2
    rw [hr.out]
    exact ⟨none, 0, 0, rfl, own_nil _ _ _ _, fun k hk => by simp [Value.ownBlock] at hk, Fr.refl _ _⟩
  obtain ⟨l, hl⟩ : ∃ l : Nat, l = limit.toNat := ⟨_, rfl⟩
  obtain rfl : limit = (l : Int) := by omega
  by_cases hc : cn fs = 0
  · have hcz := cn_zero hc
    have HC := Hd.mk hc
    have HO := Hd.mk hcz.2
    have h288 := hcz.1
    clear hcz hc hl
    obtain ⟨j0, hj0, hj1, hj2, hj3⟩ := info_parts infoI64
    obtain ⟨i0, hi0, hz0, hz1, hz2⟩ := info_parts infoItem
    go_enter Tryz.func162, Tryz.ntmps162
    go_wp2_with (fail)
    refine (counts_any w A fs.length c fs p rfl HS.out hn1).mono ?_
    rintro e w' ⟨rfl, rfl⟩
    rw [HC.out]
    go_wp2_with (fail)
    refine (leaves_any w A fs.length c fs p rfl HS.out h288 HO.out).mono ?_
    rintro e w1 ⟨B, m, d, q, rfl, k1, k2, k3, k4, k5, k6, k7⟩
    have hml : (lvs fs).length = m := by rw [lvs_len]; exact k1
    have hmle : m ≤ fs.length := by rw [← hml]; exact lvs_le fs
    have HML := Hd.mk hml
    have K4 := Hd.mk k4
    have K5 : Hd (Sl w1 B (encs ((srt (lv fs 0)).map fun x => (T.leaf x.1 x.2, Value.slice none 0 0))) q) := ⟨by
      have e : encs ((srt (lv fs 0)).map fun x => (T.leaf x.1 x.2, Value.slice none 0 0)) = lfs (srt (lv fs 0)) := by
        unfold encs lfs
        rw [List.flatMap_map]
        rfl
      rw [e]; exact k5⟩
    have K6 := Hd.mk k6
    have K7 := Hd.mk k7
    clear k1 k4 k5 k6 k7 hml
    have hpl : 2 ^ l ≤ 32768 := Nat.pow_le_pow_right (n := 2) (by decide) (show l ≤ 15 by omega)
    have hpw : (2 : Int) ^ l = ((2 ^ l : Nat) : Int) := (pow_cast l).symm
    obtain ⟨P, hP⟩ : ∃ P, P = 2 ^ l := ⟨_, rfl⟩
    rw [← hP] at hpl hpw
    have hpw2 : wrap64 ((2 : Int) ^ l) = (P : Int) := by rw [hpw]; exact wrap64_id (by omega) (by omega)
    have HPW := Hd.mk hpw2
    have HPP := Hd.mk hP
    clear hpw hpw2 hP
    by_cases hbig : P < m
    · have hd1 : decide (wrap64 ((2 : Int) ^ l) < (m : Int)) = true := by rw [HPW.out]; exact decide_eq_true (by omega)
      have hr : Hd (lensN (l : Int) fs = ([], 41)) := ⟨by unfold lensN; rw [if_neg (by omega), if_neg (by rw [HC.out]; decide), if_pos (by rw [HML.out, Int.toNat_natCast, ← HPP.out]; exact hbig)]⟩
      go_wp2
      go_ret2
      rw [hr.out]
      exact ⟨none, 0, 0, rfl, own_nil _ _ _ _, fun k hk => by simp [Value.ownBlock] at hk, K7.out⟩
    · have hd1 : decide (wrap64 ((2 : Int) ^ l) < (m : Int)) = false := by rw [HPW.out]; exact decide_eq_false (by omega)
      have hr : Hd (lensN (l : Int) fs = ((List.range fs.length).map fun s => (lenOf l fs s : Int), 0)) := ⟨by unfold lensN; rw [if_neg (by omega), if_neg (by rw [HC.out]; decide), if_neg (by rw [HML.out, Int.toNat_natCast, ← HPP.out]; exact hbig)]; rfl⟩
      go_upto_region 11 with (refine wpList_make_full _ rfl _ _ 79 rfl 0 3 j0 (.int .i64 0) 1 Tryz.underlying79 hj0 hj1 hj2 .i64 .i64 _ _ fs.length rfl rfl rfl rfl (by rw [hj3]; omega) (by unfold maxLen; omega) (Nat.zero_le _) ?_; intro w2 hown1 hgrow1; have O2 := Hd.mk hown1; have F2 := Hd.mk (K7.out.trans ((Fr.refl w1 []).grown hgrow1 (by simp)) (by simp)); have K52 := Hd.mk (K5.out.frame ((Fr.refl w1 []).grown hgrow1 (by simp)) (by simp)); clear hown1 hgrow1)
      have hC : Cnt w2 w1.heap.size fs.length (fun _ => 0) := cnt_of_own (by
        have e : (madeCells (Value.int .i64 0).cells (fs.length * 1)).toList = (List.range fs.length).map fun s => Value.int .i64 ((0 : Nat) : Int) := by
          have e1 := toList_madeCells_one (Value.int .i64 0) (fs.length * 1)
          refine e1.trans ?_
          rw [eq_comm, List.eq_replicate_iff]
          simp
        have := O2.out
        rw [e] at this
        exact this)
      have hglw : Hd (w.heap.size ≤ w1.heap.size) := ⟨K7.out.size⟩
      have hqg : Hd (q ≠ some w1.heap.size) := ⟨by intro e; have := (K6.out _ e).2; omega⟩
      have A3 := (Fr.refl w2 []).alloc (.cells #[.slice (some ⟨w1.heap.size, 0, none⟩) fs.length fs.length] 79)
      have B3 := Hd.mk (blk_new w2 (.cells #[.slice (some ⟨w1.heap.size, 0, none⟩) fs.length fs.length] 79))
      have C3 := Hd.mk (hC.frame A3 (by simp))
      have K53 := Hd.mk (K52.out.frame A3 (by simp))
      have F3 := Hd.mk (F2.out.trans A3 (by simp))
      clear A3 hC K52 F2 O2 K5
      generalize w2.alloc (.cells #[.slice (some ⟨w1.heap.size, 0, none⟩) fs.length fs.length] 79) = w3 at *
      generalize w2.heap.size = gv at *
      generalize w1.heap.size = gl at *
      have HB := Hd.mk hbig
      clear hbig hd1
      by_cases hm1 : m = 1
      · have e1 : ((m : Int) == 1) = true := by simp; omega
        have hm1' : m ≤ 1 ∧ 1 ≤ m := by omega
        have HM1 := Hd.mk hm1
        clear hm1
        obtain ⟨x, hL⟩ : ∃ x, srt (lv fs 0) = [x] := List.length_eq_one_iff.1 (by rw [← lvs_len, HML.out]; omega)
        have hlv : Hd (lvs fs = [.leaf x.1 x.2]) := ⟨by unfold lvs; rw [hL]; rfl⟩
        rw [hL] at K53
        obtain ⟨b0, o1, hBe, hqb, ha⟩ := Sl.row (enc := enc) (sz := 3) (fun _ => rfl) K53.out (i := 0) (by simp) (by decide)
        have c1 := ha 1 (by decide)
        simp only [List.map_cons, List.map_nil, List.getElem_cons_zero, enc, List.getElem?_cons_zero, List.getElem?_cons_succ, Nat.zero_mul, Nat.add_zero, sym] at c1
        have hxs : x.2 < fs.length := by
          have h1 : T.leaf x.1 x.2 ∈ lvs fs := by rw [hlv.out]; simp
          exact lvs_bel fs _ h1
        clear hL
        subst hBe
        have vc := blk_cell B3.out 0
        simp only [List.getElem?_toArray, List.getElem?_cons_zero] at vc
        have lf := C3.out.free x.2
        have lc := C3.out.cell hxs
        have hm0 : 0 < m := by omega
        have hne : gv ≠ gl := blk_ne B3.out C3.out (by decide)
        have HP := Hd.mk (C3.out.put hxs 1)
        have HG := Hd.mk (Fr.setCell (a := ⟨gl, x.2, none⟩) F3.out (.int .i64 ((1 : Nat) : Int)) (.inr hglw.out))
        have HV := Hd.mk (blk_far (p := ⟨gl, x.2, none⟩) B3.out hne (.int .i64 ((1 : Nat) : Int)))
        rw [show ((1 : Nat) : Int) = 1 from rfl] at HG HP HV
        clear ha hne
        go_upto_region 12 with (fail)
        go_region
        clear vc lf lc c1
        generalize w3.setCell ⟨gl, x.2, none⟩ (.int .i64 1) = w4 at *
        have vc := blk_cell HV.out 0
        simp only [List.getElem?_toArray, List.getElem?_cons_zero] at vc
        go_wp2
        go_ret2
        rw [hr.out]
        refine ⟨some ⟨gl, 0, none⟩, fs.length, fs.length, rfl, ?_, fun k hk => by cases hk; exact hglw.out, HG.out.drew⟩
        have h5 := own_of_cnt HP.out (by omega)
        have e5 : (List.range fs.length).map (fun s => (lenOf l fs s : Int)) = (List.range fs.length).map (fun s => (((if s = x.2 then 1 else 0 : Nat)) : Int)) := by
          refine List.map_congr_left fun s _ => ?_
          unfold lenOf
          rw [hlv.out]
          simp only [List.length_cons, List.length_nil, if_true, cl, T.cnt, Nat.add_zero]
          by_cases e : x.2 = s
          · rw [if_pos e, if_pos e.symm]
          · rw [if_neg e, if_neg (fun h => e h.symm)]
        rw [e5]
        exact h5.drew
      · have e1 : ((m : Int) == 1) = false := by simp; omega
        have HM1 := Hd.mk hm1
        clear hm1
        obtain ⟨lp, hlp⟩ : ∃ lp, lp = (srt (lv fs 0)).map fun x => (T.leaf x.1 x.2, Value.slice none 0 0) := ⟨_, rfl⟩
        rw [← hlp] at K53
        have hlpl : lp.length = m := by rw [hlp, List.length_map, ← lvs_len]; exact HML.out
        have hlpm : lp.map (·.1) = lvs fs := by rw [hlp, List.map_map]; rfl
        have HLPO : Hd (∀ (W : World), ∀ p ∈ lp, Ok W gl p.1 p.2) := ⟨fun W p hp => by
          rw [hlp] at hp
          obtain ⟨x, _, rfl⟩ := List.mem_map.1 hp
          rfl⟩
        have HLPM := Hd.mk hlpm
        have HLPL := Hd.mk hlpl
        have hg3 : Hd (gl < w3.heap.size) := ⟨blk_lt C3.out⟩
        clear hlp hlpl hlpm
        go_wp2
        go_loopg [10, 46] (l - 1) (fun kq rv iv wr => ∃ (i : Nat) (R : Option Addr) (nr cr : Nat) (ps : List (T × Value)) (qr : Option Nat), rv = .slice R nr cr ∧ iv = .int .i64 (i : Nat) ∧ i + kq = l - 1 ∧ nr ≤ cr ∧ nr ≤ 576 ∧ Hd (ps.length = nr) ∧ Hd (ps.map (·.1) = row (lvs fs) i) ∧ Hd (Sl wr R (encs ps) qr) ∧ Hd (qr ≠ some gl) ∧ Hd (∀ p ∈ ps, Ok wr gl p.1 p.2) ∧ Hd (Fr w3 wr []) ∧ Hd (R = none → nr = 0 ∧ cr = 0))
        case atStart => exact ⟨0, B, m, d, lp, q, rfl, rfl, by omega, k2, by omega, HLPL, HLPM, K53, hqg, ⟨HLPO.out w3⟩, ⟨Fr.refl _ _⟩, K4⟩
        case round =>
          obtain ⟨i, R, nr, cr, ps, qr, rfl, rfl, hi, hnr, hnr2, HL, HMP, HSR, HQR, HOK, HF, HRN⟩ := hrel
          by_cases hil : i < l - 1
          · have hwt : Hd (∀ p ∈ ps, p.1.wt ≤ 18014398509481984) := ⟨fun p hp => by
              have h1 : p.1 ∈ row (lvs fs) i := by rw [← HMP.out]; exact List.mem_map.2 ⟨p, hp, rfl⟩
              have h2 := row_wt (lvs_wt HO.out) i p.1 h1
              have h3 : 2 ^ i ≤ 2 ^ 14 := Nat.pow_le_pow_right (by decide) (by omega)
              have h4 : 2 ^ i * 1099511627776 ≤ 2 ^ 14 * 1099511627776 := Nat.mul_le_mul_right _ h3
              omega⟩
            go_wp2_with (fail)
            refine (packed_any wr gl R nr cr ps qr 18014398509481984 HL.out hnr HSR.out HQR.out HOK.out hwt.out (by omega) (by omega)).mono ?_
            rintro e w5 ⟨R2, n2, c2, ps2, q2, rfl, r1, r2, r3, r4, r5, r6, r7, r8, r9⟩
            have S1 := Hd.mk r1
            have S2 := Hd.mk r2
            have S6 := Hd.mk r6
            have S8 := Hd.mk r8
            have S9 := Hd.mk r9
            have hn2 : n2 ≤ 1000 := by
              have e2 := congrArg List.length r1
              rw [List.length_map, pk_len, List.length_map, HL.out, r2] at e2
              omega
            have K55 := Hd.mk (K53.out.frame (HF.out.trans r9 (by simp)) (by simp))
            clear r1 r2 r4 r5 r6 r7 r8 r9
            go_wp2_with (fail)
            refine (merged_any w5 gl B R2 m d n2 c2 lp ps2 q q2 HLPL.out S2.out k2 r3 K55.out S6.out (HLPO.out w5) S8.out (by omega) hn2).mono ?_
            rintro e w6 ⟨R3, n3, c3, ps3, q3, rfl, t1, t2, t3, t4, t5, t6, t7, t8, t9⟩
            have U1 : Hd (ps3.map (·.1) = row (lvs fs) (i + 1)) := ⟨by rw [t1, S1.out, HLPM.out, HMP.out]; rfl⟩
            have U2 := Hd.mk t2
            have U5 := Hd.mk t5
            have U6 := Hd.mk t6
            have U7 : Hd (q3 ≠ some gl) := ⟨by
              intro e
              have h1 := t7 gl e
              have h2 := hg3.out
              have h3 := HF.out.size
              have h4 := S9.out.size
              omega⟩
            have U8 := Hd.mk t8
            have U9 := Hd.mk ((HF.out.trans S9.out (by simp)).trans t9 (by simp))
            have hn3 : n3 ≤ 576 := by
              have e2 := congrArg List.length U1.out
              have e3 := row_len_le (lvs fs) (i + 1)
              rw [List.length_map, t2] at e2
              rw [HML.out] at e3
              omega
            clear t1 t2 t4 t5 t6 t7 t8 t9 S1 S2 S6 S8 S9 K55
            go_wp2
            go_roundg (gk - 1)
            case measure => go_light; omega
            case rel => go_light; exact ⟨i + 1, R3, n3, c3, ps3, q3, rfl, by go_num, by omega, t3, hn3, U2, U1, U6, U7, U8, U9, U5⟩
          · obtain rfl : i = l - 1 := by omega
            have C4 := Hd.mk (C3.out.frame HF.out (by simp))
            have B4 := Hd.mk (HF.out.blk B3.out (by simp))
            have F4 := Hd.mk (F3.out.trans HF.out (by simp))
            have hlong : Hd (2 * m - 2 ≤ nr) := ⟨by
              have h1 := long (lvs fs) (l - 1) (by rw [show l - 1 + 1 = l from by omega, ← HPP.out, HML.out]; have := HB.out; omega)
              have h2 := congrArg List.length HMP.out
              rw [List.length_map, HL.out] at h2
              rw [HML.out] at h1
              omega⟩
            go_upto_region 20 with (fail)
            have B6 := blk_new wr (.cells #[.func (.func 186) #[] #[.pointer (some ⟨gv, 0, none⟩), .pointer (some ⟨wr.heap.size, 0, none⟩)]] 323)
            have A6 := (Fr.refl wr []).alloc (.cells #[.func (.func 186) #[] #[.pointer (some ⟨gv, 0, none⟩), .pointer (some ⟨wr.heap.size, 0, none⟩)]] 323)
            have C6 := Hd.mk (C4.out.frame A6 (by simp))
            have V6 := Hd.mk (A6.blk B4.out (by simp))
            have F6 := Hd.mk (F4.out.trans A6 (by simp))
            have R6 := Hd.mk (HSR.out.frame A6 (by simp))
            have O6 : Hd (∀ p ∈ ps, Ok _ gl p.1 p.2) := ⟨fun p hp => Ok.frame A6 (by simp) _ _ (HOK.out p hp)⟩
            have HB6 := Hd.mk B6
            clear A6 B6 C4 B4 F4 HSR HOK HF K53 C3 B3 F3
            go_upto_region 21 with (fail)
            generalize wr.alloc (.cells #[.func (.func 186) #[] #[.pointer (some ⟨gv, 0, none⟩), .pointer (some ⟨wr.heap.size, 0, none⟩)]] 323) = w6 at *
            generalize wr.heap.size = gc at *
            have HCL : Hd (Cl w6 gv gc gl fs.length) := ⟨⟨V6.out, HB6.out⟩⟩
            have vc := blk_cell V6.out 0
            have cc := blk_cell HCL.out.c 0
            simp only [List.getElem?_toArray, List.getElem?_cons_zero] at vc cc
            by_cases hm2 : 1 < m
            · have hcut := run_cut_to (P := Tryz.prog) 317 320 .i64 Tryz.underlying317 hi0 3 hz1 R nr cr (2 * m - 2) (fun h => (HRN.out h).2) (by have := hlong.out; omega)
              rw [show ((2 * m - 2 : Nat) : Int) = 2 * (m : Int) - 2 from by omega] at hcut
              have hll := hlong.out
              have n1 : IntKind.i64.wrap (2 * (m : Int)) = 2 * (m : Int) := IntWalk.i64_in _ (by omega)
              have n2 : IntKind.i64.wrap (2 * (m : Int) - 2) = 2 * (m : Int) - 2 := IntWalk.i64_in _ (by omega)
              have n3 : (0 : Int) ≤ 2 * (m : Int) - 2 := by omega
              have n4 : 2 * (m : Int) - 2 ≤ cr := by omega
              have hts : Hd ((ps.take (2 * m - 2)).map (·.1) = (row (lvs fs) (l - 1)).take (2 * m - 2)) := ⟨by rw [List.map_take, HMP.out]⟩
              have hcl : Hd (∀ s, cl ((ps.take (2 * m - 2)).map (·.1)) s = lenOf l fs s) := ⟨fun s => by
                rw [hts.out]
                unfold lenOf
                rw [HML.out, if_neg (by omega)]⟩
              have HCT := Hd.mk (count_any gv gc gl fs.length (by omega) _ w6.drew R (2 * m - 2) cr (ps.take (2 * m - 2)) qr (fun _ => 0) (Nat.lt_succ_self _) (by rw [List.length_take, HL.out]; omega) (by omega) (by omega) (by
                  have h5 := R6.out.take ((2 * m - 2) * 3)
                  have h6 : encs (ps.take (2 * m - 2)) = (encs ps).take ((2 * m - 2) * 3) := by
                    conv => rhs; rw [← List.take_append_drop (2 * m - 2) ps, encs_app, List.take_left' (by rw [encs_len, List.length_take, HL.out, Nat.min_eq_left (by omega)])]
                  rw [h6]; exact h5.drew) HQR.out (fun p hp => Ok.frame (Fr.refl w6 []).drew (by simp) _ _ (O6.out p (List.mem_of_mem_take hp))) (fun p hp => by
                  have h1 : p.1 ∈ row (lvs fs) (l - 1) := by rw [← HMP.out]; exact List.mem_map.2 ⟨p, List.mem_of_mem_take hp, rfl⟩
                  exact row_all (P := bel fs.length) (fun a b ha hb => ⟨ha, hb⟩) (lvs_bel fs) _ _ h1) (HCL.out.frame (Fr.refl w6 []).drew (by simp) (by simp)) (C6.out.frame (Fr.refl w6 []).drew (by simp)) (fun s => by
                    have h1 := hcl.out s
                    have h2 := lenOf_le (fs := fs) (limit := l) (by omega) (by rw [HML.out, ← HPP.out]; have := HB.out; omega) s
                    omega))
              have hne := gv_ne HCL.out C6.out
              have HNE := Hd.mk hne
              clear hne
              go_upto_region 22 with (fail)
              go_region_held3 (fun w' => w'.cell? ⟨gc, 0, none⟩ = some (.func (.func 186) #[] #[.pointer (some ⟨gv, 0, none⟩), .pointer (some ⟨gc, 0, none⟩)])) (go_keep)
                (first | (go_at_call 186; refine (HCT.out).mono ?_; rintro e w7 ⟨rfl, t1, t2⟩; have k7 := Fr.cellAt (w := w6) t2.ofDrew (by simpa using HNE.out.2) cc; have T1 := Hd.mk t1; have T2 := Hd.mk (t2.ofDrew); clear t1 t2))
              clear n1 n2 n3 n4 hcut vc cc
              have vc := blk_cell (T2.out.blk V6.out (by simpa using HNE.out.1)) 0
              simp only [List.getElem?_toArray, List.getElem?_cons_zero] at vc
              clear k7
              go_wp2
              go_ret2
              rw [hr.out]
              refine ⟨some ⟨gl, 0, none⟩, fs.length, fs.length, rfl, ?_, fun k hk => by cases hk; exact hglw.out, F6.out.trans T2.out (fun x hx hm => by simp at hm; have := hglw.out; omega)⟩
              have h5 := own_of_cnt (Cnt.congr T1.out (fun s => by rw [hcl.out s, Nat.zero_add])) (by omega)
              exact h5
            · have hm0 : m = 0 := by have := HM1.out; omega
              have hm2' : ¬ (1 : Int) < m := by omega
              have HM0 := Hd.mk hm0
              clear hm0 hm2
              go_wp2
              go_ret2
              rw [hr.out]
              refine ⟨some ⟨gl, 0, none⟩, fs.length, fs.length, rfl, ?_, fun k hk => by cases hk; exact hglw.out, F6.out⟩
              have h5 := own_of_cnt (Cnt.congr C6.out (fun s => show 0 = lenOf l fs s from by
                unfold lenOf
                rw [HML.out, HM0.out]
                simp [cl])) (by omega)
              exact h5
  · have hr : Hd (lensN (l : Int) fs = ([], cn fs)) := ⟨by unfold lensN; rw [if_neg (by omega), if_pos hc]⟩
    obtain ⟨r0, hr0⟩ : ∃ r0, r0 = cn fs := ⟨_, rfl⟩
    rw [← hr0] at hc hr
    have hcb : (r0 != 0) = true := by simpa using hc
    have HR0 := Hd.mk hr0
    clear hr0 hc hl
    go_enter Tryz.func162, Tryz.ntmps162
    go_wp2_with (fail)
    refine (counts_any w A fs.length c fs p rfl HS.out hn1).mono ?_
    rintro e w' ⟨rfl, rfl⟩
    rw [← HR0.out]
    go_wp2
    go_ret2
    rw [hr.out]
    exact ⟨none, 0, 0, rfl, own_nil _ _ _ _, fun k hk => by simp [Value.ownBlock] at hk, Fr.refl _ _⟩
end Go.Proofs.YtkdgfioigkijgaaGreat.Lens
set_option maxRecDepth 100000
set_option linter.unusedVariables false
set_option linter.unusedSimpArgs false
namespace Go.Proofs.YtkdgfioigkijgaaGreat.Lens
open Go.RowKit Go.Proofs.YtkdgfioigkijgaaGreat.Lib Go.Proofs.YtkdgfioigkijgaaGreat.Ints Go.Proofs.YtkdgfioigkijgaaGreat.Sorts Go.Proofs.YtkdgfioigkijgaaGreat.Sort Go.Proofs.YtkdgfioigkijgaaGreat.Pm Go.Proofs.YtkdgfioigkijgaaGreat.Num
theorem sumL_sumN {α : Type} (f : α → Nat) (d : α) : ∀ (l : List α), sumL f l = sumN (fun r => f (l.getD r d)) l.length
  | [] => rfl
  | x :: l => by
    have e : ∀ n (g : Nat → Nat), sumN g (n + 1) = g 0 + sumN (fun r => g (r + 1)) n := by
      intro n g
      induction n with
      | zero => simp [sumN]
      | succ n ih => rw [sumN, ih, sumN]; omega
    rw [sumL, List.length_cons, e, sumL_sumN f d l]
    simp
theorem sumN_lvs (fs : List Int) (g : Nat → Nat) : sumL (fun x => g x.2) (lv fs 0) = sumN (fun r => g (sy fs r)) (lvs fs).length := by
  rw [← sumL_perm (srt_ok fs 0).2, sumL_sumN _ (0, 0), lvs_len]
  rfl
theorem used_len (fs : List Int) : (lvs fs).length = (lv fs 0).length := by rw [lvs_len, (srt_ok fs 0).2.length_eq]
theorem mem_sy {fs : List Int} {x : Nat × Nat} (h : x ∈ lv fs 0) : ∃ r, r < (lvs fs).length ∧ sy fs r = x.2 := by
  obtain ⟨r, hr⟩ := List.mem_iff_getElem?.1 ((srt_ok fs 0).2.mem_iff.2 h)
  have hl : r < (srt (lv fs 0)).length := (List.getElem?_eq_some_iff.1 hr).1
  refine ⟨r, by rw [lvs_len]; exact hl, ?_⟩
  unfold sy
  rw [List.getD_eq_getElem?_getD, hr]; rfl
theorem mem_lv {fs : List Int} {i : Nat} (h : i < fs.length) (hp : 0 < fs[i]) : ((fs[i]).toNat, i) ∈ lv fs 0 := by
  have : ∀ (l : List Int) (s i : Nat) (h : i < l.length), 0 < l[i] → ((l[i]).toNat, s + i) ∈ lv l s := by
    intro l
    induction l with
    | nil => intro s i h; simp at h
    | cons f l ih =>
      intro s i h hp
      cases i with
      | zero =>
        simp only [List.getElem_cons_zero] at hp ⊢
        rw [lv, if_pos hp]
        simp
      | succ i =>
        simp only [List.getElem_cons_succ] at hp ⊢
        have := ih (s + 1) i (by simpa using h) hp
        rw [show s + 1 + i = s + (i + 1) from by omega] at this
        rw [lv]
        split
        · exact List.mem_cons_of_mem _ this
        · exact this
  simpa using this fs 0 i h hp
theorem sy_mem {fs : List Int} {r : Nat} (h : r < (lvs fs).length) : ∃ hs : sy fs r < fs.length, (lvs fs)[r] = .leaf (fs[sy fs r]).toNat (sy fs r) ∧ 0 < fs[sy fs r] := by
  obtain ⟨w, hw⟩ := lvs_leaves fs r h
  obtain ⟨s, hs, he, hp⟩ := lvs_mem (List.getElem_mem h)
  rw [hw] at he
  injection he with e1 e2
  subst e2
  exact ⟨hs, by rw [hw, e1], hp⟩
theorem lenOf_none {fs : List Int} {limit s : Nat} (hn : (lvs fs).length ≤ 2 ^ limit) (h1 : 1 ≤ limit) (h : ∀ (hs : s < fs.length), ¬ 0 < fs[s]) : lenOf limit fs s = 0 := by
  have hne : ∀ r, r < (lvs fs).length → sy fs r ≠ s := by
    intro r hr e
    obtain ⟨hs, _, hp⟩ := sy_mem hr
    subst e
    exact h hs hp
  unfold lenOf
  split
  · have := cl_none (lvs_leaves fs) hne (lvs fs).length
    rwa [List.take_of_length_le (Nat.le_refl _)] at this
  · have hl := long (lvs fs) (limit - 1) (by rw [show limit - 1 + 1 = limit from by omega]; exact hn)
    obtain ⟨a, ha⟩ := sel (lvs fs) (lvs_sd fs) (lvs_pos fs) (limit - 1) (2 * (lvs fs).length - 2) hl
    rw [ha.cl]
    have : sumN (fun k => cl ((lvs fs).take (a k)) s) (limit - 1 + 1) = sumN (fun _ => 0) (limit - 1 + 1) := sumN_congr _ fun k _ => cl_none (lvs_leaves fs) hne _
    rw [this, sumN_zero]
theorem lenOf_one {fs : List Int} {limit r : Nat} (h : (lvs fs).length = 1) (hr : r < (lvs fs).length) : lenOf limit fs (sy fs r) = 1 := by
  unfold lenOf
  rw [if_pos h]
  have := cl_take (lvs_leaves fs) (lvs_inj fs) hr (lvs fs).length (Nat.le_refl _)
  rw [List.take_of_length_le (Nat.le_refl _), if_pos hr] at this
  exact this
theorem lenOf_sel {fs : List Int} {limit : Nat} (h2 : 2 ≤ (lvs fs).length) (h1 : 1 ≤ limit) (hn : (lvs fs).length ≤ 2 ^ limit) :
    ∃ a, Sel (lvs fs) (limit - 1) (2 * (lvs fs).length - 2) a ∧ ∀ r, r < (lvs fs).length → lenOf limit fs (sy fs r) = lenR a (limit - 1) r := by
  have hl := long (lvs fs) (limit - 1) (by rw [show limit - 1 + 1 = limit from by omega]; exact hn)
  obtain ⟨a, ha⟩ := sel (lvs fs) (lvs_sd fs) (lvs_pos fs) (limit - 1) (2 * (lvs fs).length - 2) hl
  refine ⟨a, ha, fun r hr => ?_⟩
  unfold lenOf
  rw [if_neg (by omega)]
  exact cl_len (lvs_leaves fs) (lvs_inj fs) ha hr
theorem lenOf_pos {fs : List Int} {limit r : Nat} (h1 : 1 ≤ limit) (hn : (lvs fs).length ≤ 2 ^ limit) (hr : r < (lvs fs).length) : 1 ≤ lenOf limit fs (sy fs r) := by
  by_cases h : (lvs fs).length = 1
  · rw [lenOf_one h hr]; exact Nat.le_refl _
  · obtain ⟨a, ha, hlen⟩ := lenOf_sel (by omega) h1 hn
    rw [hlen r hr]
    exact pm_pos ha (by omega) hr
theorem lens_whole {fs : List Int} {limit : Nat} (h1 : 1 ≤ limit) (h15 : limit ≤ 15) (hn : (lvs fs).length ≤ 2 ^ limit) :
    (2 ≤ (lvs fs).length → sumL (fun x => 2 ^ (15 - lenOf limit fs x.2)) (lv fs 0) = 2 ^ 15) ∧ ((lvs fs).length = 1 → sumL (fun x => 2 ^ (15 - lenOf limit fs x.2)) (lv fs 0) = 2 ^ 14) := by
  rw [sumN_lvs fs (fun s => 2 ^ (15 - lenOf limit fs s))]
  constructor
  · intro h2
    obtain ⟨a, ha, hlen⟩ := lenOf_sel h2 h1 hn
    have hw := pm_whole ha h2
    have e : ∀ r, r < (lvs fs).length → 2 ^ (15 - lenOf limit fs (sy fs r)) = 2 ^ (15 - limit) * 2 ^ (limit - 1 + 1 - lenR a (limit - 1) r) := by
      intro r hr
      have := lenR_le a (limit - 1) r
      rw [hlen r hr, ← Nat.pow_add]
      congr 1; omega
    rw [sumN_congr _ e, sumN_mul, hw, ← Nat.pow_add, show 15 - limit + (limit - 1 + 1) = 15 from by omega]
  · intro h2
    rw [h2]
    simp only [sumN, lenOf_one h2 (show 0 < (lvs fs).length by omega)]
end Go.Proofs.YtkdgfioigkijgaaGreat.Lens
set_option linter.unusedVariables false
set_option linter.unusedSimpArgs false
set_option maxRecDepth 100000
namespace Go.Proofs.YtkdgfioigkijgaaGreat.Lens
open Go.RowKit Go.Proofs.YtkdgfioigkijgaaGreat.Lib Go.Proofs.YtkdgfioigkijgaaGreat.Ints Go.Proofs.YtkdgfioigkijgaaGreat.Sorts Go.Proofs.YtkdgfioigkijgaaGreat.Sort Go.Proofs.YtkdgfioigkijgaaGreat.Pm Go.Proofs.YtkdgfioigkijgaaGreat.Num
theorem lenOf_at {fs : List Int} {limit s : Nat} (h1 : 1 ≤ limit) (hn : (lvs fs).length ≤ 2 ^ limit) (hs : s < fs.length) : if 0 < fs[s] then 1 ≤ lenOf limit fs s else lenOf limit fs s = 0 := by
  split
  · rename_i hp
    obtain ⟨r, hr, e⟩ := mem_sy (mem_lv hs hp)
    have := lenOf_pos h1 hn hr
    rw [e] at this
    exact this
  · rename_i hp
    exact lenOf_none hn h1 (fun hs' => hp)
theorem spaceR_app (a b : List Int) : Code.spaceR (a ++ b) = Code.spaceR a + Code.spaceR b := by simp [Code.spaceR]
theorem sumL_app {α : Type} (f : α → Nat) : ∀ a b : List α, sumL f (a ++ b) = sumL f a + sumL f b
  | [], b => by simp [sumL]
  | x :: a, b => by simp only [List.cons_append, sumL, sumL_app f a b, Nat.add_assoc]
theorem spaceR_lens {fs : List Int} {limit : Nat} (h1 : 1 ≤ limit) (hn : (lvs fs).length ≤ 2 ^ limit) : ∀ k, k ≤ fs.length →
    Code.spaceR ((List.range k).map fun s => (lenOf limit fs s : Int)) = sumL (fun x => 2 ^ (15 - lenOf limit fs x.2)) (lv (fs.take k) 0) ∧ Code.usedR ((List.range k).map fun s => (lenOf limit fs s : Int)) = (lv (fs.take k) 0).length
  | 0, _ => ⟨rfl, rfl⟩
  | k + 1, h => by
    obtain ⟨i1, i2⟩ := spaceR_lens h1 hn k (by omega)
    have hk : k < fs.length := by omega
    have ha := lenOf_at h1 hn hk
    rw [List.range_succ, List.map_append, List.map_cons, List.map_nil, spaceR_app, lv_snoc hk, sumL_app, i1]
    unfold Code.usedR at i2 ⊢
    rw [List.countP_append, i2, List.length_append]
    by_cases hp : 0 < fs[k]
    · rw [if_pos hp] at ha
      rw [if_pos hp]
      simp only [Code.spaceR, sumL, List.map_cons, List.map_nil, List.sum_cons, List.sum_nil, List.countP_cons, List.countP_nil, List.length_cons, List.length_nil, Int.toNat_natCast]
      rw [if_pos (by omega), if_pos (by simpa using (show 0 < lenOf limit fs k by omega))]
      exact ⟨rfl, rfl⟩
    · rw [if_neg hp] at ha
      rw [if_neg hp, ha]
      exact ⟨rfl, rfl⟩
theorem lens_check {fs : List Int} {limit : Nat} (h1 : 1 ≤ limit) (h15 : limit ≤ 15) (hn : (lvs fs).length ≤ 2 ^ limit) (hl : fs.length ≤ 288) : Code.check ((List.range fs.length).map fun s => (lenOf limit fs s : Int)) = 0 := by
  rw [← Code.checkR_eq]
  obtain ⟨e1, e2⟩ := spaceR_lens h1 hn fs.length (Nat.le_refl _)
  rw [List.take_length] at e1 e2
  have hb : Code.bad ((List.range fs.length).map fun s => (lenOf limit fs s : Int)) = false := by
    unfold Code.bad
    refine decide_eq_false ?_
    rintro (h | ⟨x, hx, h⟩)
    · simp at h; omega
    · obtain ⟨s, _, rfl⟩ := List.mem_map.1 hx
      have := lenOf_le h1 hn s
      omega
  unfold Code.checkR
  rw [hb, if_neg (by decide), e1, e2, ← used_len]
  obtain ⟨w1, w2⟩ := lens_whole h1 h15 hn
  by_cases c0 : (lvs fs).length = 0
  · have : lv fs 0 = [] := List.eq_nil_of_length_eq_zero (by rw [← used_len]; exact c0)
    rw [this, c0, if_neg (by simp [sumL]), if_pos (.inr (.inl rfl))]
  · by_cases c1 : (lvs fs).length = 1
    · rw [w2 c1, c1, if_neg (by decide), if_pos (.inr (.inr ⟨rfl, rfl⟩))]
    · rw [w1 (by omega), if_neg (by decide), if_pos (.inl rfl)]
end Go.Proofs.YtkdgfioigkijgaaGreat.Lens
set_option linter.unusedVariables false
set_option linter.unusedSimpArgs false
set_option maxRecDepth 100000
namespace Go.Proofs.YtkdgfioigkijgaaGreat.Blk
open Go.RowKit Go.Proofs.YtkdgfioigkijgaaGreat.Lib Go.Proofs.YtkdgfioigkijgaaGreat.Ints Go.Proofs.YtkdgfioigkijgaaGreat.Lz
def frq (N : Nat) (xs : List Int) : List Int := (List.range N).map fun i => (Code.cnt xs i : Int)
theorem frq_len (N : Nat) (xs : List Int) : (frq N xs).length = N := by simp [frq]
theorem cnt_snoc (xs : List Int) (x : Int) (i : Nat) : Code.cnt (xs ++ [x]) i = Code.cnt xs i + if x = (i : Int) then 1 else 0 := by
  unfold Code.cnt
  rw [List.countP_append, List.countP_cons, List.countP_nil]
  by_cases h : x = (i : Int) <;> simp [h]
theorem cnt_le (xs : List Int) (i : Nat) : Code.cnt xs i ≤ xs.length := List.countP_le_length
theorem frq_get {N : Nat} (xs : List Int) {s : Nat} (h : s < N) : (i64s (frq N xs)).toArray[s]? = some (.int .i64 (Code.cnt xs s : Nat)) := by
  rw [List.getElem?_toArray, i64s_get]; simp [frq, h]
theorem frq_set {N : Nat} (xs : List Int) {s : Nat} (h : s < N) : (i64s (frq N xs)).toArray.setIfInBounds s (.int .i64 ((Code.cnt xs s : Nat) + 1 : Int)) = (i64s (frq N (xs ++ [(s : Int)]))).toArray := by
  apply Array.ext_getElem?
  intro k
  rw [Array.getElem?_setIfInBounds]
  by_cases hk : k < N
  · rw [frq_get _ hk, frq_get _ hk, cnt_snoc]
    by_cases e : s = k
    · subst e
      rw [if_pos rfl, if_pos (by simp [i64s, frq]; exact h), if_pos rfl]
      rfl
    · rw [if_neg e, if_neg (by omega), Nat.add_zero]
  · rw [if_neg (by omega)]
    simp only [List.getElem?_toArray]
    rw [List.getElem?_eq_none (by simp [i64s, frq]; omega), List.getElem?_eq_none (by simp [i64s, frq]; omega)]
theorem frq_fine {N : Nat} {xs : List Int} (h : xs.length ≤ 1099511627776) (hN : N ≤ 288) : Lens.cn (frq N xs) = 0 := by
  unfold Lens.cn
  rw [if_neg (by rw [frq_len]; omega), Lens.out_false, if_neg (by decide)]
  intro i hi
  have h1 := cnt_le xs i
  simp only [frq, List.getElem_map, List.getElem_range]
  omega
theorem lvs_frq {N : Nat} (xs : List Int) (hN : N ≤ 288) : (Lens.lvs (frq N xs)).length ≤ 2 ^ 15 := by
  have := Lens.lvs_le (frq N xs)
  rw [frq_len] at this
  have e : 2 ^ 15 = 32768 := rfl
  omega
theorem lens15_eq {N : Nat} {xs : List Int} (h : xs.length ≤ 1099511627776) (hN : N ≤ 288) : Lens.lensN 15 (frq N xs) = ((List.range N).map fun s => (Lens.lenOf 15 (frq N xs) s : Int), 0) := by
  unfold Lens.lensN
  rw [if_neg (by decide), if_neg (by rw [frq_fine h hN]; decide), if_neg (by have := lvs_frq xs hN; have e : (15 : Int).toNat = 15 := rfl; rw [e]; omega), frq_len]
  rfl
def symsA (l : List Tok) : List Int := l.map fun t => (sgA t).1
def symsB : List Tok → List Int
  | [] => []
  | t :: l => (if t.len = 0 then [] else [(sgB t).1]) ++ symsB l
theorem symsB_app : ∀ a b, symsB (a ++ b) = symsB a ++ symsB b
  | [], b => rfl
  | t :: a, b => by simp only [List.cons_append, symsB, symsB_app a b, List.append_assoc]
theorem symsB_take {l : List Tok} {j : Nat} (h : j < l.length) : symsB (l.take (j + 1)) = symsB (l.take j) ++ if l[j].len = 0 then [] else [(sgB l[j]).1] := by
  rw [List.take_succ_eq_append_getElem h, symsB_app]; simp [symsB]
theorem symsA_take {l : List Tok} {j : Nat} (h : j < l.length) : symsA (l.take (j + 1)) = symsA (l.take j) ++ [(sgA l[j]).1] := by
  unfold symsA
  rw [List.take_succ_eq_append_getElem h, List.map_append]; rfl
theorem symsB_len : ∀ l : List Tok, (symsB l).length ≤ l.length
  | [] => Nat.le_refl 0
  | t :: l => by
    have := symsB_len l
    simp only [symsB, List.length_append, List.length_cons]
    split <;> simp <;> omega
theorem symsA_len (l : List Tok) : (symsA l).length = l.length := by simp [symsA]
def litFrq (l : List Tok) : List Int := frq 286 (symsA l ++ [256])
def distFrq (l : List Tok) : List Int := frq 30 (symsB l)
def ownLit (l : List Tok) : List Int := (List.range 286).map fun s => (Lens.lenOf 15 (litFrq l) s : Int)
def ownDist (l : List Tok) : List Int := (List.range 30).map fun s => (Lens.lenOf 15 (distFrq l) s : Int)
theorem ownLit_len (l : List Tok) : (ownLit l).length = 286 := by simp [ownLit]
theorem ownDist_len (l : List Tok) : (ownDist l).length = 30 := by simp [ownDist]
theorem litFrq_eq {l : List Tok} (h : l.length ≤ 65536) : Lens.lensN 15 (litFrq l) = (ownLit l, 0) := lens15_eq (by rw [List.length_append, symsA_len]; simp; omega) (by decide)
theorem distFrq_eq {l : List Tok} (h : l.length ≤ 65536) : Lens.lensN 15 (distFrq l) = (ownDist l, 0) := lens15_eq (by have := symsB_len l; omega) (by decide)
theorem ownLit_check (l : List Tok) : Code.check (ownLit l) = 0 := by
  have := Lens.lens_check (fs := litFrq l) (limit := 15) (by decide) (by decide) (lvs_frq _ (by decide)) (by unfold litFrq; rw [frq_len]; decide)
  unfold litFrq at this
  rwa [frq_len] at this
theorem ownDist_check (l : List Tok) : Code.check (ownDist l) = 0 := by
  have := Lens.lens_check (fs := distFrq l) (limit := 15) (by decide) (by decide) (lvs_frq _ (by decide)) (by unfold distFrq; rw [frq_len]; decide)
  unfold distFrq at this
  rwa [frq_len] at this
theorem check15 {l : List Int} (h : Code.check l = 0) : Lens15 l := (Code.bad_false (Code.check_zero h).1).2
def OwnPost (w : World) (l : List Tok) (e : Ending) (w' : World) : Prop :=
  (mayB l = 0 → ∃ A c B d, e = .returned (.tuple #[.slice A 286 c, .slice B 30 d, .int .i64 0]) ∧ w'.ownsRow 0 3 1 (.slice A 286 c) 286 (i64s (ownLit l)) ∧ w'.ownsRow 0 3 1 (.slice B 30 d) 30 (i64s (ownDist l)) ∧
    (∀ k, (Value.slice A 286 c).ownBlock = some k → w.heap.size ≤ k ∧ (Value.slice B 30 d).ownBlock ≠ some k) ∧ (∀ k, (Value.slice B 30 d).ownBlock = some k → w.heap.size ≤ k) ∧ Fr w w' []) ∧
  (mayB l ≠ 0 → e = .returned (.tuple #[.slice none 0 0, .slice none 0 0, .int .i64 (mayB l)]) ∧ Fr w w' [])
theorem zero286 : ∀ W : World, (zeroValue 264).run Tryz.prog W = .ok (.agg (i64s (frq 286 [])).toArray) W := fun W => by kernel_rfl
theorem zero30 : ∀ W : World, (zeroValue 265).run Tryz.prog W = .ok (.agg (i64s (frq 30 [])).toArray) W := fun W => by kernel_rfl
set_option maxHeartbeats 8000000 in
theorem ownLens_any (w : World) (A : Option Addr) (n c : Nat) (l : List Tok) (p : Option Nat) (hn : l.length = n) (hS : Sl w A (tcells l) p) (hb : n ≤ 6000000000000) (hl : LitB l) :
    Calls Tryz.prog 115 #[.slice A n c] w (OwnPost w l) := by
  have HS := Hd.mk hS
  have HL := Hd.mk hl
  obtain ⟨e, he⟩ : ∃ e, e = mayB l := ⟨_, rfl⟩
  have HE := Hd.mk he
  clear hS hl he
  have hz1 := zero286
  have hz2 := zero30
  go_enter Tryz.func115, Tryz.ntmps115
  go_wp2_with (fail)
  refine (may_any w A n c l p hn HS.out hb e HE.out).mono ?_
  rintro r w1 ⟨rfl, h1⟩
  have F1 := Hd.mk h1
  clear h1
  by_cases h : e = 0
  · subst h
    have hz := mayB_zero HE.out.symm
    have HZ := Hd.mk hz.2
    have hz3 := hz.1
    clear hz
    go_upto_region 6 with (fail)
    clear hz1 hz2
    have X2 : Hd (((w1.alloc (.cells (i64s (frq 286 [])).toArray 264)).alloc (.cells (i64s (frq 30 [])).toArray 265)).heap[w1.heap.size]? = some (.cells (i64s (frq 286 [])).toArray 264 (0, 0))) := ⟨blk_alloc (blk_new w1 _) _⟩
    have Y2 : Hd (((w1.alloc (.cells (i64s (frq 286 [])).toArray 264)).alloc (.cells (i64s (frq 30 [])).toArray 265)).heap[w1.heap.size + 1]? = some (.cells (i64s (frq 30 [])).toArray 265 (0, 0))) := ⟨by simpa using blk_new (w1.alloc _) _⟩
    have F2 := Hd.mk ((F1.out.alloc (.cells (i64s (frq 286 [])).toArray 264)).alloc (.cells (i64s (frq 30 [])).toArray 265))
    have hgx : w.heap.size ≤ w1.heap.size := F1.out.size
    clear F1
    generalize (w1.alloc (.cells (i64s (frq 286 [])).toArray 264)).alloc (.cells (i64s (frq 30 [])).toArray 265) = w2 at *
    generalize w1.heap.size = gx at *
    have X3 : Hd (w2.heap[gx]? = some (.cells (i64s (frq 286 (symsA (l.take 0)))).toArray 264 (0, 0))) := ⟨X2.out⟩
    have Y3 : Hd (w2.heap[gx + 1]? = some (.cells (i64s (frq 30 (symsB (l.take 0)))).toArray 265 (0, 0))) := ⟨Y2.out⟩
    clear X2 Y2
    go_wp2
    go_loopg [22] l.length (fun kq jv wr => ∃ j : Nat, jv = .int .i64 (j : Nat) ∧ j + kq = l.length ∧ Hd (wr.heap[gx]? = some (.cells (i64s (frq 286 (symsA (l.take j)))).toArray 264 (0, 0))) ∧ Hd (wr.heap[gx + 1]? = some (.cells (i64s (frq 30 (symsB (l.take j)))).toArray 265 (0, 0))) ∧ Hd (Fr w wr []))
    case atStart => exact ⟨0, rfl, by omega, X3, Y3, F2⟩
    case round =>
      obtain ⟨j, rfl, hj, HX, HY, HF⟩ := hrel
      have hca := symsA_len (l.take j)
      have hcb := symsB_len (l.take j)
      rw [List.length_take] at hca hcb
      by_cases h1 : j < l.length
      · obtain ⟨a, o1, rfl, _, hcc⟩ := Sl.row (enc := tcell) (sz := 3) (fun _ => rfl) (HS.out.frame HF.out (by simp)) h1 (by decide)
        obtain ⟨t, ht⟩ : ∃ t, t = l[j] := ⟨_, rfl⟩
        rw [← ht] at hcc
        have c0 := hcc 0 (by decide)
        have c1 := hcc 1 (by decide)
        have c2 := hcc 2 (by decide)
        simp only [tcell, List.getElem?_cons_zero, List.getElem?_cons_succ, Nat.add_zero] at c0 c1 c2
        have htm : t ∈ l := by rw [ht]; exact List.getElem_mem h1
        have hrt := HZ.out t htm
        have hlt := HL.out t htm
        have HTA : Hd (symsA (l.take (j + 1)) = symsA (l.take j) ++ [(sgA t).1]) := ⟨by rw [symsA_take h1, ht]⟩
        have HTB : Hd (symsB (l.take (j + 1)) = symsB (l.take j) ++ if t.len = 0 then [] else [(sgB t).1]) := ⟨by rw [symsB_take h1, ht]⟩
        have sa := (sgA_fit hrt hlt).1
        have sb := sgB_fit hrt
        clear hcc ht htm
        generalize symsA (l.take j) = SA at *
        generalize symsB (l.take j) = SB at *
        go_wp2_with (fail)
        refine (signs_any _ t hlt).mono ?_
        rintro r w3 ⟨rfl, h2⟩
        have f3 := ((Fr.refl wr []).alloc (.cells #[.int .u8 t.lit, .int .i64 t.len, .int .i64 t.dist] 77)).trans h2 (by simp)
        have F3 := Hd.mk (HF.out.trans f3 (by simp))
        have X4 := Hd.mk (f3.blk HX.out (by simp))
        have Y4 := Hd.mk (f3.blk HY.out (by simp))
        clear h2 f3 HX HY
        obtain ⟨⟨sx, vx, bxx⟩, hsa⟩ : ∃ x, x = sgA t := ⟨_, rfl⟩
        obtain ⟨⟨sy, vy, byy⟩, hsb2⟩ : ∃ x, x = sgB t := ⟨_, rfl⟩
        rw [← hsa] at sa HTA ⊢
        rw [← hsb2] at sb HTB ⊢
        obtain ⟨⟨a1, a2⟩, _, _, _⟩ := sa
        obtain ⟨⟨b1, b2⟩, _, _, _⟩ := sb
        clear hsa hsb2
        simp only at a1 a2 b1 b2 HTA HTB
        obtain ⟨sx, rfl⟩ := Int.eq_ofNat_of_zero_le a1
        obtain ⟨sy, rfl⟩ := Int.eq_ofNat_of_zero_le b1
        simp only [sgV]
        obtain ⟨mt, hmt⟩ : ∃ m, m = decide (t.len ≠ 0) := ⟨_, rfl⟩
        rw [← hmt]
        have HMT := Hd.mk hmt
        clear hmt
        go_upto_region 10 with (fail)
        have B1 : Hd (((w3.alloc (.cells #[.int .i64 (sx : Nat), .int .i64 vx, .int .i64 bxx] 269)).alloc (.cells #[.int .i64 (sy : Nat), .int .i64 vy, .int .i64 byy] 269)).heap[w3.heap.size]? = some (.cells #[.int .i64 (sx : Nat), .int .i64 vx, .int .i64 bxx] 269 (0, 0))) := ⟨blk_alloc (blk_new w3 _) _⟩
        have B2 : Hd (((w3.alloc (.cells #[.int .i64 (sx : Nat), .int .i64 vx, .int .i64 bxx] 269)).alloc (.cells #[.int .i64 (sy : Nat), .int .i64 vy, .int .i64 byy] 269)).heap[w3.heap.size + 1]? = some (.cells #[.int .i64 (sy : Nat), .int .i64 vy, .int .i64 byy] 269 (0, 0))) := ⟨by simpa using blk_new (w3.alloc _) _⟩
        have f4 := ((Fr.refl w3 []).alloc (.cells #[.int .i64 (sx : Nat), .int .i64 vx, .int .i64 bxx] 269)).alloc (.cells #[.int .i64 (sy : Nat), .int .i64 vy, .int .i64 byy] 269)
        have F4 := Hd.mk (F3.out.trans f4 (by simp))
        have X5 := Hd.mk (f4.blk X4.out (by simp))
        have Y5 := Hd.mk (f4.blk Y4.out (by simp))
        clear f4 F3 X4 Y4
        generalize (w3.alloc (.cells #[.int .i64 (sx : Nat), .int .i64 vx, .int .i64 bxx] 269)).alloc (.cells #[.int .i64 (sy : Nat), .int .i64 vy, .int .i64 byy] 269) = w4 at *
        generalize w3.heap.size = g at *
        have n1 : gx + 1 ≠ gx := by omega
        have n2 : g + 1 ≠ gx := blk_ne B2.out X5.out (by decide)
        have d0 := blk_cell B1.out 0
        simp only [List.getElem?_toArray, List.getElem?_cons_zero, List.getElem?_cons_succ] at d0
        have kx := (blk_cell X5.out sx).trans (frq_get SA (s := sx) (by omega))
        have fx := blk_frozen X5.out sx
        have hcx := cnt_le SA sx
        have X6 := Hd.mk (blk_set X5.out sx (.int .i64 ((Code.cnt SA sx : Nat) + 1 : Int)))
        rw [frq_set SA (by omega), ← HTA.out] at X6
        have Y6 := Hd.mk (blk_far Y5.out (p := ⟨gx, sx, none⟩) n1 (.int .i64 ((Code.cnt SA sx : Nat) + 1 : Int)))
        have B6 := Hd.mk (blk_far B2.out (p := ⟨gx, sx, none⟩) n2 (.int .i64 ((Code.cnt SA sx : Nat) + 1 : Int)))
        have F6 := Hd.mk (F4.out.setCell (a := ⟨gx, sx, none⟩) (.int .i64 ((Code.cnt SA sx : Nat) + 1 : Int)) (.inr hgx))
        generalize Code.cnt SA sx = cx at *
        have hcx2 : (cx : Int) ≤ 65536 := by omega
        clear hcx
        cases mt with
        | false =>
          have hlen0 : t.len = 0 := by have := HMT.out; simpa using this
          rw [if_pos hlen0, List.append_nil] at HTB
          go_wp2
          go_roundg (gk - 1)
          case measure => omega
          case rel => exact ⟨j + 1, by go_num, by omega, X6, ⟨by rw [HTB.out]; exact Y6.out⟩, F6⟩
        | true =>
          have hlen0 : ¬ t.len = 0 := by have := HMT.out; simpa using this
          rw [if_neg hlen0] at HTB
          go_upto_region 11 with (fail)
          generalize w4.setCell ⟨gx, sx, none⟩ (.int .i64 ((cx : Nat) + 1 : Int)) = w5 at *
          have e0 := blk_cell B6.out 0
          simp only [List.getElem?_toArray, List.getElem?_cons_zero, List.getElem?_cons_succ] at e0
          have ky := (blk_cell Y6.out sy).trans (frq_get SB (s := sy) (by omega))
          have fy := blk_frozen Y6.out sy
          have hcy := cnt_le SB sy
          have Y7 := Hd.mk (blk_set Y6.out sy (.int .i64 ((Code.cnt SB sy : Nat) + 1 : Int)))
          rw [frq_set SB (by omega), ← HTB.out] at Y7
          have X7 := Hd.mk (blk_far X6.out (p := ⟨gx + 1, sy, none⟩) n1.symm (.int .i64 ((Code.cnt SB sy : Nat) + 1 : Int)))
          have F7 := Hd.mk (F6.out.setCell (a := ⟨gx + 1, sy, none⟩) (.int .i64 ((Code.cnt SB sy : Nat) + 1 : Int)) (.inr (show w.heap.size ≤ gx + 1 by omega)))
          generalize Code.cnt SB sy = cy at *
          have hcy2 : (cy : Int) ≤ 65536 := by omega
          clear hcy d0 kx fx B6 B1 B2
          go_wp2
          go_roundg (gk - 1)
          case measure => omega
          case rel => exact ⟨j + 1, by go_num, by omega, X7, Y7, F7⟩
      · obtain rfl : j = l.length := by omega
        rw [List.take_length] at HX HY hca
        have kx := (blk_cell HX.out 256).trans (frq_get (symsA l) (s := 256) (by omega))
        have fx := blk_frozen HX.out 256
        have hcx := cnt_le (symsA l) 256
        have X6 := Hd.mk (blk_set HX.out 256 (.int .i64 ((Code.cnt (symsA l) 256 : Nat) + 1 : Int)))
        rw [frq_set (symsA l) (by omega)] at X6
        have Y6 := Hd.mk (blk_far HY.out (p := ⟨gx, 256, none⟩) (show gx + 1 ≠ gx by omega) (.int .i64 ((Code.cnt (symsA l) 256 : Nat) + 1 : Int)))
        have F6 := Hd.mk (HF.out.setCell (a := ⟨gx, 256, none⟩) (.int .i64 ((Code.cnt (symsA l) 256 : Nat) + 1 : Int)) (.inr hgx))
        generalize Code.cnt (symsA l) 256 = cx at *
        have hcx2 : (cx : Int) ≤ 65536 := by omega
        clear hcx HX HY HF X3 Y3 F2
        go_upto_region 15 with (fail)
        generalize wr.setCell ⟨gx, 256, none⟩ (.int .i64 ((cx : Nat) + 1 : Int)) = w5 at *
        have SX : Hd (Sl w5 (some ⟨gx, 0, none⟩) (i64s (litFrq l)) (some gx)) := ⟨by have := sl_of_blk X6.out; simpa [litFrq] using this⟩
        have EA := Hd.mk (litFrq_eq hz3)
        have EB := Hd.mk (distFrq_eq hz3)
        clear kx fx
        go_wp2_with (fail)
        refine (Lens.lengths_any w5 15 (some ⟨gx, 0, none⟩) 286 286 (litFrq l) _ (frq_len _ _) SX.out (by omega)).mono ?_
        rintro r w6 hlp
        unfold Lens.LensPost at hlp
        obtain ⟨A8, n8, c8, rfl, h1', h2, h3⟩ := hlp
        rw [EA.out] at h1' ⊢
        have hn8 : n8 = 286 := by have := h1'.1; rw [i64s_length, ownLit_len] at this; omega
        subst hn8
        have O8 := Hd.mk h1'
        have NW8 : Hd (∀ k, (Value.slice A8 286 c8).ownBlock = some k → w.heap.size ≤ k) := ⟨fun k hk => by have := h2 k hk; have := F6.out.size; omega⟩
        have F8 := Hd.mk (F6.out.trans h3 (by simp))
        have Y8 := Hd.mk (h3.blk Y6.out (by simp))
        have SY : Hd (Sl w6 (some ⟨gx + 1, 0, none⟩) (i64s (distFrq l)) (some (gx + 1))) := ⟨by have := sl_of_blk Y8.out; simpa [distFrq] using this⟩
        clear h1' h2 h3 F6 Y6 X6 SX
        simp only
        go_wp2_with (fail)
        refine (Lens.lengths_any w6 15 (some ⟨gx + 1, 0, none⟩) 30 30 (distFrq l) _ (frq_len _ _) SY.out (by omega)).mono ?_
        rintro r w7 hlp
        unfold Lens.LensPost at hlp
        obtain ⟨A9, n9, c9, rfl, h1', h2, h3⟩ := hlp
        rw [EB.out] at h1' ⊢
        have hn9 : n9 = 30 := by have := h1'.1; rw [i64s_length, ownDist_len] at this; omega
        subst hn9
        have O9 := Hd.mk h1'
        have NE9 : Hd (∀ k, (Value.slice A8 286 c8).ownBlock = some k → w.heap.size ≤ k ∧ (Value.slice A9 30 c9).ownBlock ≠ some k) := ⟨fun k hk => ⟨NW8.out k hk, fun h9 => by have := h2 k h9; have := own_lt O8.out hk; omega⟩⟩
        have NW9 : Hd (∀ k, (Value.slice A9 30 c9).ownBlock = some k → w.heap.size ≤ k) := ⟨fun k hk => by have := h2 k hk; have := F8.out.size; omega⟩
        have F9 := Hd.mk (F8.out.trans h3 (by simp))
        have O10 := Hd.mk (own_frame O8.out h3 (by simp))
        clear h1' h2 h3 F8 Y8 SY O8
        simp only
        go_wp2
        go_ret3
        exact ⟨fun _ => ⟨A8, c8, A9, c9, rfl, O10.out, O9.out, NE9.out, NW9.out, F9.out⟩, fun h => absurd HE.out.symm h⟩
  · have hne : (e != 0) = true := by simpa using h
    go_wp2
    go_ret3
    exact ⟨fun h' => absurd (HE.out.trans h') h, fun _ => ⟨by rw [← HE.out]; rfl, F1.out⟩⟩
end Go.Proofs.YtkdgfioigkijgaaGreat.Blk
set_option linter.unusedVariables false
set_option linter.unusedSimpArgs false
set_option maxRecDepth 100000
namespace Go.Proofs.YtkdgfioigkijgaaGreat.Prs
open Go.Proofs.YtkdgfioigkijgaaGreat.Lib Go.Proofs.YtkdgfioigkijgaaGreat.Ints Go.Proofs.YtkdgfioigkijgaaGreat.Lz Go.Proofs.YtkdgfioigkijgaaGreat.Blk
def sumF (f : Tok → Int) : List Tok → Int
  | [] => 0
  | t :: l => f t + sumF f l
theorem sumF_app (f : Tok → Int) : ∀ a b, sumF f (a ++ b) = sumF f a + sumF f b
  | [], b => by simp [sumF]
  | t :: a, b => by simp only [List.cons_append, sumF, sumF_app f a b]; omega
theorem sumF_take (f : Tok → Int) {l : List Tok} {j : Nat} (h : j < l.length) : sumF f (l.take (j + 1)) = sumF f (l.take j) + f l[j] := by
  rw [List.take_succ_eq_append_getElem h, sumF_app]
  simp [sumF]
theorem sumF_le {f : Tok → Int} {K : Int} : ∀ {l : List Tok}, (∀ t ∈ l, 0 ≤ f t ∧ f t ≤ K) → 0 ≤ sumF f l ∧ sumF f l ≤ K * (l.length : Nat)
  | [], _ => by simp [sumF]
  | t :: l, h => by
    have h1 := sumF_le (fun x hx => h x (List.mem_cons_of_mem _ hx))
    have h2 := h t List.mem_cons_self
    have e : K * ((t :: l).length : Nat) = K * (l.length : Nat) + K := by
      rw [List.length_cons, Int.natCast_add, Int.mul_add]
      simp
    rw [e, sumF]
    omega
def fA (lit : List Int) (t : Tok) : Int := if t.len = 0 then lit.getD t.lit.toNat 0 else 0
def fN (t : Tok) : Int := if t.len = 0 then 1 else 0
def fB (lit dist : List Int) (t : Tok) : Int := if t.len = 0 then 0 else lit.getD (sgA t).1.toNat 0 + (sgA t).2.2 + dist.getD (sgB t).1.toNat 0
def fM (t : Tok) : Int := if t.len = 0 then 0 else 1
theorem fA_le {lit : List Int} (h : Lens15 lit) (t : Tok) : 0 ≤ fA lit t ∧ fA lit t ≤ 15 := by
  unfold fA
  have := lens15_get h t.lit.toNat
  split <;> omega
theorem fN_le (t : Tok) : 0 ≤ fN t ∧ fN t ≤ 1 := by unfold fN; split <;> omega
theorem fM_le (t : Tok) : 0 ≤ fM t ∧ fM t ≤ 1 := by unfold fM; split <;> omega
theorem fB_le {lit dist : List Int} (h : Lens15 lit) (h2 : Lens15 dist) {t : Tok} (hr : right t = true) (hl : 0 ≤ t.lit ∧ t.lit ≤ 255) : 0 ≤ fB lit dist t ∧ fB lit dist t ≤ 35 := by
  unfold fB
  have h3 := lens15_get h (sgA t).1.toNat
  have h4 := lens15_get h2 (sgB t).1.toNat
  have h5 := (sgA_fit hr hl).1.bits
  split <;> omega
def meanN (s c d : Int) : Int := if c = 0 then d else (s + c - 1).tdiv c
def priceL (T : List Tok) : Int := meanN (sumF (fA (ownLit T)) T) (sumF fN T) 8
def priceM (T : List Tok) : Int := meanN (sumF (fB (ownLit T) (ownDist T)) T) (sumF fM T) 20
def pricesN (l : List Tok) : (Int × Int × Int) × Int :=
  if mayB (l.take 65536) = 0 then ((priceL (l.take 65536), priceM (l.take 65536), 1), 0) else ((0, 0, 0), mayB (l.take 65536))
end Go.Proofs.YtkdgfioigkijgaaGreat.Prs
