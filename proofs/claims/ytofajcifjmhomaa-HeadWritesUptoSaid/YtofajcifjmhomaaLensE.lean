/- lens.Lengths (chapter 04), whole. Conditions: at most 2^43 counts. -/
import Derived.Test.YtofajcifjmhomaaLensD
import Derived.Test.YtofajcifjmhomaaPm3
import Derived.Test.YtofajcifjmhomaaNum
import Derived.Laws.EntriesVeiled
set_option linter.unusedVariables false
set_option linter.unusedSimpArgs false
set_option maxRecDepth 100000
namespace Go.Proofs.Ytofajcifjmhomaa.Lens
open Go.RowKit Go.Proofs.Ytofajcifjmhomaa.Lib Go.Proofs.Ytofajcifjmhomaa.Ints Go.Proofs.Ytofajcifjmhomaa.Sorts Go.Proofs.Ytofajcifjmhomaa.Sort Go.Proofs.Ytofajcifjmhomaa.Pm Go.Proofs.Ytofajcifjmhomaa.Num

/-- the leaves, as trees -/
def lvs (fs : List Int) : List T := (srt (lv fs 0)).map fun x => .leaf x.1 x.2
/-- how long symbol s's code is -/
def lenOf (limit : Nat) (fs : List Int) (s : Nat) : Nat :=
  if (lvs fs).length = 1 then cl (lvs fs) s else cl ((row (lvs fs) (limit - 1)).take (2 * (lvs fs).length - 2)) s
def lensN (limit : Int) (fs : List Int) : List Int × Int :=
  if limit < 1 ∨ 15 < limit then ([], 1) else if cn fs ≠ 0 then ([], cn fs) else if 2 ^ limit.toNat < (lvs fs).length then ([], 41) else ((List.range fs.length).map fun s => (lenOf limit.toNat fs s : Int), 0)
theorem lvs_len (fs : List Int) : (lvs fs).length = (srt (lv fs 0)).length := by simp [lvs]
theorem lvs_le (fs : List Int) : (lvs fs).length ≤ fs.length := by
  rw [lvs_len, (srt_ok fs 0).2.length_eq]; exact lv_len fs 0
theorem lvs_sd (fs : List Int) : Sd (lvs fs) := by
  unfold Sd lvs
  rw [List.pairwise_map]
  refine List.Pairwise.imp ?_ (srt_ok fs 0).1
  intro a b h
  simp only [T.wt]
  unfold lx ky at h
  omega
theorem lvs_mem {fs : List Int} {t : T} (h : t ∈ lvs fs) : ∃ s, ∃ hs : s < fs.length, t = .leaf (fs[s]).toNat s ∧ 0 < fs[s] := by
  unfold lvs at h
  obtain ⟨x, hx, rfl⟩ := List.mem_map.1 h
  have hm := (srt_ok fs 0).2.mem_iff.1 hx
  obtain ⟨_, h2, h3, h4⟩ := lv_mem fs 0 x hm
  simp only [Nat.sub_zero] at h2 h3 h4
  exact ⟨x.2, h2, by rw [h4], h3⟩
theorem lvs_pos (fs : List Int) : ∀ t ∈ lvs fs, t.pos := fun t h => by
  obtain ⟨s, hs, rfl, hp⟩ := lvs_mem h
  simp only [T.pos]; omega
theorem lvs_bel (fs : List Int) : ∀ t ∈ lvs fs, bel fs.length t := fun t h => by
  obtain ⟨s, hs, rfl, hp⟩ := lvs_mem h
  exact hs
theorem lvs_wt {fs : List Int} (h : out 1099511627776 fs = false) : ∀ t ∈ lvs fs, t.wt ≤ 1099511627776 := fun t ht => by
  obtain ⟨s, hs, rfl, hp⟩ := lvs_mem ht
  have := of_out h hs
  simp only [T.wt]; omega
/-- where a leaf's symbol stands -/
def sy (fs : List Int) (r : Nat) : Nat := ((srt (lv fs 0)).getD r (0, 0)).2
theorem lvs_leaves (fs : List Int) : Pm.Leaves (lvs fs) (sy fs) := fun r h => by
  have h' : r < (srt (lv fs 0)).length := by rw [← lvs_len]; exact h
  refine ⟨((srt (lv fs 0))[r]'h').1, ?_⟩
  simp only [lvs, List.getElem_map, sy, List.getD_eq_getElem?_getD, List.getElem?_eq_getElem h', Option.getD_some]
theorem lvs_inj (fs : List Int) : Inj (sy fs) (lvs fs).length := by
  intro r r' h h' e
  rw [lvs_len] at h h'
  have hnd : (srt (lv fs 0)).Pairwise (fun x y => x.2 ≠ y.2) := by
    have h1 : (lv fs 0).Pairwise (fun x y => x.2 ≠ y.2) := List.Pairwise.imp (fun h => Nat.ne_of_lt h) (lv_inc fs 0)
    exact ((srt_ok fs 0).2.pairwise_iff (fun h => Ne.symm h)).2 h1
  have e1 : sy fs r = ((srt (lv fs 0))[r]'h).2 := by simp [sy, h]
  have e2 : sy fs r' = ((srt (lv fs 0))[r']'h').2 := by simp [sy, h']
  rw [e1, e2] at e
  have hp := List.pairwise_iff_getElem.1 hnd
  by_cases c : r < r'
  · exact absurd e (hp r r' h h' c)
  · by_cases c2 : r' < r
    · exact absurd e.symm (hp r' r h' h c2)
    · omega
theorem lenOf_le {fs : List Int} {limit : Nat} (h1 : 1 ≤ limit) (hn : (lvs fs).length ≤ 2 ^ limit) (s : Nat) : lenOf limit fs s ≤ limit := by
  unfold lenOf
  split
  · rename_i h
    have := cl_bd (lvs_leaves fs) (lvs_inj fs) (J := 0) (m := 1) (a := fun _ => 1) ?_ s
    · rw [row, List.take_of_length_le (by omega)] at this; omega
    · obtain ⟨a, ha⟩ := sel (lvs fs) (lvs_sd fs) (lvs_pos fs) 0 1 (by rw [row]; omega)
      exact ⟨fun _ => by omega, fun _ h => absurd h (by omega), fun s => by simp [sumN, row], by simp [sumN, row], by simp [sumN], fun t h => h⟩
  · have hl := long (lvs fs) (limit - 1) (by rw [show limit - 1 + 1 = limit from by omega]; exact hn)
    obtain ⟨a, ha⟩ := sel (lvs fs) (lvs_sd fs) (lvs_pos fs) (limit - 1) (2 * (lvs fs).length - 2) hl
    have := cl_bd (lvs_leaves fs) (lvs_inj fs) ha s
    omega
theorem cnt_of_own {w : World} {g N : Nat} {f : Nat → Nat} (h : w.ownsRow 0 3 1 (.slice (some ⟨g, 0, none⟩) N N) N ((List.range N).map fun s => Value.int .i64 (f s))) : Cnt w g N f := by
  rcases h.2 with ⟨h', _⟩ | ⟨g', cap, cur, h', hb, hh, hnc, hcm, hcs, ht⟩
  · cases h'
  · injection h' with h1 _ h3
    injection h1 with h1
    injection h1 with h1
    subst h1 h3
    unfold Cnt
    rw [hh]
    congr 2
    unfold cv
    rw [← ht, List.take_of_length_le (by simp; omega)]
theorem own_of_cnt {w : World} {g N : Nat} {f : Nat → Nat} (h : Cnt w g N f) (hN : N ≤ 1000) : w.ownsRow 0 3 1 (.slice (some ⟨g, 0, none⟩) N N) N (i64s ((List.range N).map fun s => (f s : Int))) := by
  refine ⟨by simp [i64s], .inr ⟨g, N, cv N f, rfl, Nat.zero_le _, h, Nat.le_refl _, by unfold maxLen; omega, by simp [cv], ?_⟩⟩
  rw [List.take_of_length_le (by simp [cv])]
  simp [cv, i64s]
theorem run_cut_to {P : Program} (t e : TypeId) (kh : IntKind) {i : TypeInfo} (ht : P.underlying t = some (.slice e)) (hi : P.info? e = some i) (size : Nat) (hsz : i.size = size) (A : Option Addr) (n c m : Nat) (hA : A = none → c = 0) (h2 : m ≤ c) :
    ∀ W : World, (Instr.slice t (.slice A n c) none (some (.int kh (m : Nat))) none).run P W = .ok (.slice A m c) W := by
  intro W
  have hel : P.elem t = e := by simp [Program.elem, ht]
  have hu : P.underlying t = some (.slice (P.elem t)) := by rw [hel]; exact ht
  rw [run_slice_h W t A n c hu kh m (by omega) (by omega), hel]
  simp [sizeOf, typeInfo, hi, hsz, sliced, Result.andThen]
  cases A with
  | none => intro _; rfl
  | some a => intro _; simp [Addr.add]
def LensPost (w : World) (r : List Int × Int) (e : Ending) (w' : World) : Prop :=
  ∃ A n c, e = .returned (.tuple #[.slice A n c, .int .i64 r.2]) ∧ w'.ownsRow 0 3 1 (.slice A n c) n (i64s r.1) ∧ (∀ k, (Value.slice A n c).ownBlock = some k → w.heap.size ≤ k) ∧ Fr w w' []
set_option maxHeartbeats 4000000 in
theorem lengths_any (w : World) (limit : Int) (A : Option Addr) (n c : Nat) (fs : List Int) (p : Option Nat) (hn : fs.length = n) (hS : Sl w A (i64s fs) p) (hn1 : n ≤ 4611686018427387904) :
    Calls Try.prog 71 #[.int .i64 limit, .slice A n c] w (LensPost w (lensN limit fs)) := by
  subst hn
  have HS := Hd.mk hS
  clear hS
  by_cases hl1 : limit < 1
  · have hr : Hd (lensN limit fs = ([], 1)) := ⟨by unfold lensN; rw [if_pos (.inl hl1)]⟩
    go_enter Try.func71, Try.ntmps71
    go_wp2
    go_ret2
    rw [hr.out]
    exact ⟨none, 0, 0, rfl, own_nil _ _ _ _, fun k hk => by simp [Value.ownBlock] at hk, Fr.refl _ _⟩
  by_cases hl2 : 15 < limit
  · have hr : Hd (lensN limit fs = ([], 1)) := ⟨by unfold lensN; rw [if_pos (.inr hl2)]⟩
    go_enter Try.func71, Try.ntmps71
    go_wp2
    go_ret2
    rw [hr.out]
    exact ⟨none, 0, 0, rfl, own_nil _ _ _ _, fun k hk => by simp [Value.ownBlock] at hk, Fr.refl _ _⟩
  obtain ⟨l, hl⟩ : ∃ l : Nat, l = limit.toNat := ⟨_, rfl⟩
  obtain rfl : limit = (l : Int) := by omega
  by_cases hc : cn fs = 0
  · have hcz := cn_zero hc
    have HC := Hd.mk hc
    have HO := Hd.mk hcz.2
    have h288 := hcz.1
    clear hcz hc hl
    obtain ⟨j0, hj0, hj1, hj2, hj3⟩ := info_parts infoI64
    obtain ⟨i0, hi0, hz0, hz1, hz2⟩ := info_parts infoItem
    go_enter Try.func71, Try.ntmps71
    go_wp2_with (fail)
    refine (counts_any w A fs.length c fs p rfl HS.out hn1).mono ?_
    rintro e w' ⟨rfl, rfl⟩
    rw [HC.out]
    go_wp2_with (fail)
    refine (leaves_any w A fs.length c fs p rfl HS.out h288 HO.out).mono ?_
    rintro e w1 ⟨B, m, d, q, rfl, k1, k2, k3, k4, k5, k6, k7⟩
    have hml : (lvs fs).length = m := by rw [lvs_len]; exact k1
    have hmle : m ≤ fs.length := by rw [← hml]; exact lvs_le fs
    have HML := Hd.mk hml
    have K4 := Hd.mk k4
    have K5 : Hd (Sl w1 B (encs ((srt (lv fs 0)).map fun x => (T.leaf x.1 x.2, Value.slice none 0 0))) q) := ⟨by
      have e : encs ((srt (lv fs 0)).map fun x => (T.leaf x.1 x.2, Value.slice none 0 0)) = lfs (srt (lv fs 0)) := by
        unfold encs lfs
        rw [List.flatMap_map]
        rfl
      rw [e]; exact k5⟩
    have K6 := Hd.mk k6
    have K7 := Hd.mk k7
    clear k1 k4 k5 k6 k7 hml
    have hpl : 2 ^ l ≤ 32768 := Nat.pow_le_pow_right (n := 2) (by decide) (show l ≤ 15 by omega)
    have hpw : (2 : Int) ^ l = ((2 ^ l : Nat) : Int) := (pow_cast l).symm
    obtain ⟨P, hP⟩ : ∃ P, P = 2 ^ l := ⟨_, rfl⟩
    rw [← hP] at hpl hpw
    have hpw2 : wrap64 ((2 : Int) ^ l) = (P : Int) := by rw [hpw]; exact wrap64_id (by omega) (by omega)
    have HPW := Hd.mk hpw2
    have HPP := Hd.mk hP
    clear hpw hpw2 hP
    by_cases hbig : P < m
    · have hd1 : decide (wrap64 ((2 : Int) ^ l) < (m : Int)) = true := by rw [HPW.out]; exact decide_eq_true (by omega)
      have hr : Hd (lensN (l : Int) fs = ([], 41)) := ⟨by unfold lensN; rw [if_neg (by omega), if_neg (by rw [HC.out]; decide), if_pos (by rw [HML.out, Int.toNat_natCast, ← HPP.out]; exact hbig)]⟩
      go_wp2
      go_ret2
      rw [hr.out]
      exact ⟨none, 0, 0, rfl, own_nil _ _ _ _, fun k hk => by simp [Value.ownBlock] at hk, K7.out⟩
    · have hd1 : decide (wrap64 ((2 : Int) ^ l) < (m : Int)) = false := by rw [HPW.out]; exact decide_eq_false (by omega)
      have hr : Hd (lensN (l : Int) fs = ((List.range fs.length).map fun s => (lenOf l fs s : Int), 0)) := ⟨by unfold lensN; rw [if_neg (by omega), if_neg (by rw [HC.out]; decide), if_neg (by rw [HML.out, Int.toNat_natCast, ← HPP.out]; exact hbig)]; rfl⟩
      go_upto_region 11 with (refine wpList_make_full _ rfl _ _ 22 rfl 0 3 j0 (.int .i64 0) 1 Try.underlying22 hj0 hj1 hj2 .i64 .i64 _ _ fs.length rfl rfl rfl rfl (by rw [hj3]; omega) (by unfold maxLen; omega) (Nat.zero_le _) ?_; intro w2 hown1 hgrow1; have O2 := Hd.mk hown1; have F2 := Hd.mk (K7.out.trans ((Fr.refl w1 []).grown hgrow1 (by simp)) (by simp)); have K52 := Hd.mk (K5.out.frame ((Fr.refl w1 []).grown hgrow1 (by simp)) (by simp)); clear hown1 hgrow1)
      have hC : Cnt w2 w1.heap.size fs.length (fun _ => 0) := cnt_of_own (by
        have e : (madeCells (Value.int .i64 0).cells (fs.length * 1)).toList = (List.range fs.length).map fun s => Value.int .i64 ((0 : Nat) : Int) := by
          have e1 := toList_madeCells_one (Value.int .i64 0) (fs.length * 1)
          refine e1.trans ?_
          rw [eq_comm, List.eq_replicate_iff]
          simp
        have := O2.out
        rw [e] at this
        exact this)
      have hglw : Hd (w.heap.size ≤ w1.heap.size) := ⟨K7.out.size⟩
      have hqg : Hd (q ≠ some w1.heap.size) := ⟨by intro e; have := (K6.out _ e).2; omega⟩
      have A3 := (Fr.refl w2 []).alloc (.cells #[.slice (some ⟨w1.heap.size, 0, none⟩) fs.length fs.length] 22)
      have B3 := Hd.mk (blk_new w2 (.cells #[.slice (some ⟨w1.heap.size, 0, none⟩) fs.length fs.length] 22))
      have C3 := Hd.mk (hC.frame A3 (by simp))
      have K53 := Hd.mk (K52.out.frame A3 (by simp))
      have F3 := Hd.mk (F2.out.trans A3 (by simp))
      clear A3 hC K52 F2 O2 K5
      generalize w2.alloc (.cells #[.slice (some ⟨w1.heap.size, 0, none⟩) fs.length fs.length] 22) = w3 at *
      generalize w2.heap.size = gv at *
      generalize w1.heap.size = gl at *
      have HB := Hd.mk hbig
      clear hbig hd1
      by_cases hm1 : m = 1
      · have e1 : ((m : Int) == 1) = true := by simp; omega
        have hm1' : m ≤ 1 ∧ 1 ≤ m := by omega
        have HM1 := Hd.mk hm1
        clear hm1
        obtain ⟨x, hL⟩ : ∃ x, srt (lv fs 0) = [x] := List.length_eq_one_iff.1 (by rw [← lvs_len, HML.out]; omega)
        have hlv : Hd (lvs fs = [.leaf x.1 x.2]) := ⟨by unfold lvs; rw [hL]; rfl⟩
        rw [hL] at K53
        obtain ⟨b0, o1, hBe, hqb, ha⟩ := Sl.row (enc := enc) (sz := 3) (fun _ => rfl) K53.out (i := 0) (by simp) (by decide)
        have c1 := ha 1 (by decide)
        simp only [List.map_cons, List.map_nil, List.getElem_cons_zero, enc, List.getElem?_cons_zero, List.getElem?_cons_succ, Nat.zero_mul, Nat.add_zero, sym] at c1
        have hxs : x.2 < fs.length := by
          have h1 : T.leaf x.1 x.2 ∈ lvs fs := by rw [hlv.out]; simp
          exact lvs_bel fs _ h1
        clear hL
        subst hBe
        have vc := blk_cell B3.out 0
        simp only [List.getElem?_toArray, List.getElem?_cons_zero] at vc
        have lf := C3.out.free x.2
        have lc := C3.out.cell hxs
        have hm0 : 0 < m := by omega
        have hne : gv ≠ gl := blk_ne B3.out C3.out (by decide)
        have HP := Hd.mk (C3.out.put hxs 1)
        have HG := Hd.mk (Fr.setCell (a := ⟨gl, x.2, none⟩) F3.out (.int .i64 ((1 : Nat) : Int)) (.inr hglw.out))
        have HV := Hd.mk (blk_far (p := ⟨gl, x.2, none⟩) B3.out hne (.int .i64 ((1 : Nat) : Int)))
        rw [show ((1 : Nat) : Int) = 1 from rfl] at HG HP HV
        clear ha hne
        go_upto_region 12 with (fail)
        go_region
        clear vc lf lc c1
        generalize w3.setCell ⟨gl, x.2, none⟩ (.int .i64 1) = w4 at *
        have vc := blk_cell HV.out 0
        simp only [List.getElem?_toArray, List.getElem?_cons_zero] at vc
        go_wp2
        go_ret2
        rw [hr.out]
        refine ⟨some ⟨gl, 0, none⟩, fs.length, fs.length, rfl, ?_, fun k hk => by cases hk; exact hglw.out, HG.out.drew⟩
        have h5 := own_of_cnt HP.out (by omega)
        have e5 : (List.range fs.length).map (fun s => (lenOf l fs s : Int)) = (List.range fs.length).map (fun s => (((if s = x.2 then 1 else 0 : Nat)) : Int)) := by
          refine List.map_congr_left fun s _ => ?_
          unfold lenOf
          rw [hlv.out]
          simp only [List.length_cons, List.length_nil, if_true, cl, T.cnt, Nat.add_zero]
          by_cases e : x.2 = s
          · rw [if_pos e, if_pos e.symm]
          · rw [if_neg e, if_neg (fun h => e h.symm)]
        rw [e5]
        exact h5.drew
      · have e1 : ((m : Int) == 1) = false := by simp; omega
        have HM1 := Hd.mk hm1
        clear hm1
        obtain ⟨lp, hlp⟩ : ∃ lp, lp = (srt (lv fs 0)).map fun x => (T.leaf x.1 x.2, Value.slice none 0 0) := ⟨_, rfl⟩
        rw [← hlp] at K53
        have hlpl : lp.length = m := by rw [hlp, List.length_map, ← lvs_len]; exact HML.out
        have hlpm : lp.map (·.1) = lvs fs := by rw [hlp, List.map_map]; rfl
        have HLPO : Hd (∀ (W : World), ∀ p ∈ lp, Ok W gl p.1 p.2) := ⟨fun W p hp => by
          rw [hlp] at hp
          obtain ⟨x, _, rfl⟩ := List.mem_map.1 hp
          rfl⟩
        have HLPM := Hd.mk hlpm
        have HLPL := Hd.mk hlpl
        have hg3 : Hd (gl < w3.heap.size) := ⟨blk_lt C3.out⟩
        clear hlp hlpl hlpm
        go_wp2
        go_loopg [10, 46] (l - 1) (fun kq rv iv wr => ∃ (i : Nat) (R : Option Addr) (nr cr : Nat) (ps : List (T × Value)) (qr : Option Nat), rv = .slice R nr cr ∧ iv = .int .i64 (i : Nat) ∧ i + kq = l - 1 ∧ nr ≤ cr ∧ nr ≤ 576 ∧ Hd (ps.length = nr) ∧ Hd (ps.map (·.1) = row (lvs fs) i) ∧ Hd (Sl wr R (encs ps) qr) ∧ Hd (qr ≠ some gl) ∧ Hd (∀ p ∈ ps, Ok wr gl p.1 p.2) ∧ Hd (Fr w3 wr []) ∧ Hd (R = none → nr = 0 ∧ cr = 0))
        case atStart => exact ⟨0, B, m, d, lp, q, rfl, rfl, by omega, k2, by omega, HLPL, HLPM, K53, hqg, ⟨HLPO.out w3⟩, ⟨Fr.refl _ _⟩, K4⟩
        case round =>
          obtain ⟨i, R, nr, cr, ps, qr, rfl, rfl, hi, hnr, hnr2, HL, HMP, HSR, HQR, HOK, HF, HRN⟩ := hrel
          by_cases hil : i < l - 1
          · have hwt : Hd (∀ p ∈ ps, p.1.wt ≤ 18014398509481984) := ⟨fun p hp => by
              have h1 : p.1 ∈ row (lvs fs) i := by rw [← HMP.out]; exact List.mem_map.2 ⟨p, hp, rfl⟩
              have h2 := row_wt (lvs_wt HO.out) i p.1 h1
              have h3 : 2 ^ i ≤ 2 ^ 14 := Nat.pow_le_pow_right (by decide) (by omega)
              have h4 : 2 ^ i * 1099511627776 ≤ 2 ^ 14 * 1099511627776 := Nat.mul_le_mul_right _ h3
              omega⟩
            go_wp2_with (fail)
            refine (packed_any wr gl R nr cr ps qr 18014398509481984 HL.out hnr HSR.out HQR.out HOK.out hwt.out (by omega) (by omega)).mono ?_
            rintro e w5 ⟨R2, n2, c2, ps2, q2, rfl, r1, r2, r3, r4, r5, r6, r7, r8, r9⟩
            have S1 := Hd.mk r1
            have S2 := Hd.mk r2
            have S6 := Hd.mk r6
            have S8 := Hd.mk r8
            have S9 := Hd.mk r9
            have hn2 : n2 ≤ 1000 := by
              have e2 := congrArg List.length r1
              rw [List.length_map, pk_len, List.length_map, HL.out, r2] at e2
              omega
            have K55 := Hd.mk (K53.out.frame (HF.out.trans r9 (by simp)) (by simp))
            clear r1 r2 r4 r5 r6 r7 r8 r9
            go_wp2_with (fail)
            refine (merged_any w5 gl B R2 m d n2 c2 lp ps2 q q2 HLPL.out S2.out k2 r3 K55.out S6.out (HLPO.out w5) S8.out (by omega) hn2).mono ?_
            rintro e w6 ⟨R3, n3, c3, ps3, q3, rfl, t1, t2, t3, t4, t5, t6, t7, t8, t9⟩
            have U1 : Hd (ps3.map (·.1) = row (lvs fs) (i + 1)) := ⟨by rw [t1, S1.out, HLPM.out, HMP.out]; rfl⟩
            have U2 := Hd.mk t2
            have U5 := Hd.mk t5
            have U6 := Hd.mk t6
            have U7 : Hd (q3 ≠ some gl) := ⟨by
              intro e
              have h1 := t7 gl e
              have h2 := hg3.out
              have h3 := HF.out.size
              have h4 := S9.out.size
              omega⟩
            have U8 := Hd.mk t8
            have U9 := Hd.mk ((HF.out.trans S9.out (by simp)).trans t9 (by simp))
            have hn3 : n3 ≤ 576 := by
              have e2 := congrArg List.length U1.out
              have e3 := row_len_le (lvs fs) (i + 1)
              rw [List.length_map, t2] at e2
              rw [HML.out] at e3
              omega
            clear t1 t2 t4 t5 t6 t7 t8 t9 S1 S2 S6 S8 S9 K55
            go_wp2
            go_roundg (gk - 1)
            case measure => go_light; omega
            case rel => go_light; exact ⟨i + 1, R3, n3, c3, ps3, q3, rfl, by go_num, by omega, t3, hn3, U2, U1, U6, U7, U8, U9, U5⟩
          · obtain rfl : i = l - 1 := by omega
            have C4 := Hd.mk (C3.out.frame HF.out (by simp))
            have B4 := Hd.mk (HF.out.blk B3.out (by simp))
            have F4 := Hd.mk (F3.out.trans HF.out (by simp))
            have hlong : Hd (2 * m - 2 ≤ nr) := ⟨by
              have h1 := long (lvs fs) (l - 1) (by rw [show l - 1 + 1 = l from by omega, ← HPP.out, HML.out]; have := HB.out; omega)
              have h2 := congrArg List.length HMP.out
              rw [List.length_map, HL.out] at h2
              rw [HML.out] at h1
              omega⟩
            go_upto_region 20 with (fail)
            have B6 := blk_new wr (.cells #[.func (.func 93) #[] #[.pointer (some ⟨gv, 0, none⟩), .pointer (some ⟨wr.heap.size, 0, none⟩)]] 157)
            have A6 := (Fr.refl wr []).alloc (.cells #[.func (.func 93) #[] #[.pointer (some ⟨gv, 0, none⟩), .pointer (some ⟨wr.heap.size, 0, none⟩)]] 157)
            have C6 := Hd.mk (C4.out.frame A6 (by simp))
            have V6 := Hd.mk (A6.blk B4.out (by simp))
            have F6 := Hd.mk (F4.out.trans A6 (by simp))
            have R6 := Hd.mk (HSR.out.frame A6 (by simp))
            have O6 : Hd (∀ p ∈ ps, Ok _ gl p.1 p.2) := ⟨fun p hp => Ok.frame A6 (by simp) _ _ (HOK.out p hp)⟩
            have HB6 := Hd.mk B6
            clear A6 B6 C4 B4 F4 HSR HOK HF K53 C3 B3 F3
            go_upto_region 21 with (fail)
            generalize wr.alloc (.cells #[.func (.func 93) #[] #[.pointer (some ⟨gv, 0, none⟩), .pointer (some ⟨wr.heap.size, 0, none⟩)]] 157) = w6 at *
            generalize wr.heap.size = gc at *
            have HCL : Hd (Cl w6 gv gc gl fs.length) := ⟨⟨V6.out, HB6.out⟩⟩
            have vc := blk_cell V6.out 0
            have cc := blk_cell HCL.out.c 0
            simp only [List.getElem?_toArray, List.getElem?_cons_zero] at vc cc
            by_cases hm2 : 1 < m
            · have hcut := run_cut_to (P := Try.prog) 151 154 .i64 Try.underlying151 hi0 3 hz1 R nr cr (2 * m - 2) (fun h => (HRN.out h).2) (by have := hlong.out; omega)
              rw [show ((2 * m - 2 : Nat) : Int) = 2 * (m : Int) - 2 from by omega] at hcut
              have hll := hlong.out
              have n1 : IntKind.i64.wrap (2 * (m : Int)) = 2 * (m : Int) := IntWalk.i64_in _ (by omega)
              have n2 : IntKind.i64.wrap (2 * (m : Int) - 2) = 2 * (m : Int) - 2 := IntWalk.i64_in _ (by omega)
              have n3 : (0 : Int) ≤ 2 * (m : Int) - 2 := by omega
              have n4 : 2 * (m : Int) - 2 ≤ cr := by omega
              have hts : Hd ((ps.take (2 * m - 2)).map (·.1) = (row (lvs fs) (l - 1)).take (2 * m - 2)) := ⟨by rw [List.map_take, HMP.out]⟩
              have hcl : Hd (∀ s, cl ((ps.take (2 * m - 2)).map (·.1)) s = lenOf l fs s) := ⟨fun s => by
                rw [hts.out]
                unfold lenOf
                rw [HML.out, if_neg (by omega)]⟩
              have HCT := Hd.mk (count_any gv gc gl fs.length (by omega) _ w6.drew R (2 * m - 2) cr (ps.take (2 * m - 2)) qr (fun _ => 0) (Nat.lt_succ_self _) (by rw [List.length_take, HL.out]; omega) (by omega) (by omega) (by
                  have h5 := R6.out.take ((2 * m - 2) * 3)
                  have h6 : encs (ps.take (2 * m - 2)) = (encs ps).take ((2 * m - 2) * 3) := by
                    conv => rhs; rw [← List.take_append_drop (2 * m - 2) ps, encs_app, List.take_left' (by rw [encs_len, List.length_take, HL.out, Nat.min_eq_left (by omega)])]
                  rw [h6]; exact h5.drew) HQR.out (fun p hp => Ok.frame (Fr.refl w6 []).drew (by simp) _ _ (O6.out p (List.mem_of_mem_take hp))) (fun p hp => by
                  have h1 : p.1 ∈ row (lvs fs) (l - 1) := by rw [← HMP.out]; exact List.mem_map.2 ⟨p, List.mem_of_mem_take hp, rfl⟩
                  exact row_all (P := bel fs.length) (fun a b ha hb => ⟨ha, hb⟩) (lvs_bel fs) _ _ h1) (HCL.out.frame (Fr.refl w6 []).drew (by simp) (by simp)) (C6.out.frame (Fr.refl w6 []).drew (by simp)) (fun s => by
                    have h1 := hcl.out s
                    have h2 := lenOf_le (fs := fs) (limit := l) (by omega) (by rw [HML.out, ← HPP.out]; have := HB.out; omega) s
                    omega))
              have hne := gv_ne HCL.out C6.out
              have HNE := Hd.mk hne
              clear hne
              go_upto_region 22 with (fail)
              go_region_held3 (fun w' => w'.cell? ⟨gc, 0, none⟩ = some (.func (.func 93) #[] #[.pointer (some ⟨gv, 0, none⟩), .pointer (some ⟨gc, 0, none⟩)])) (go_keep)
                (first | (go_at_call 93; refine (HCT.out).mono ?_; rintro e w7 ⟨rfl, t1, t2⟩; have k7 := Fr.cellAt (w := w6) t2.ofDrew (by simpa using HNE.out.2) cc; have T1 := Hd.mk t1; have T2 := Hd.mk (t2.ofDrew); clear t1 t2))
              clear n1 n2 n3 n4 hcut vc cc
              have vc := blk_cell (T2.out.blk V6.out (by simpa using HNE.out.1)) 0
              simp only [List.getElem?_toArray, List.getElem?_cons_zero] at vc
              clear k7
              go_wp2
              go_ret2
              rw [hr.out]
              refine ⟨some ⟨gl, 0, none⟩, fs.length, fs.length, rfl, ?_, fun k hk => by cases hk; exact hglw.out, F6.out.trans T2.out (fun x hx hm => by simp at hm; have := hglw.out; omega)⟩
              have h5 := own_of_cnt (Cnt.congr T1.out (fun s => by rw [hcl.out s, Nat.zero_add])) (by omega)
              exact h5
            · have hm0 : m = 0 := by have := HM1.out; omega
              have hm2' : ¬ (1 : Int) < m := by omega
              have HM0 := Hd.mk hm0
              clear hm0 hm2
              go_wp2
              go_ret2
              rw [hr.out]
              refine ⟨some ⟨gl, 0, none⟩, fs.length, fs.length, rfl, ?_, fun k hk => by cases hk; exact hglw.out, F6.out⟩
              have h5 := own_of_cnt (Cnt.congr C6.out (fun s => show 0 = lenOf l fs s from by
                unfold lenOf
                rw [HML.out, HM0.out]
                simp [cl])) (by omega)
              exact h5
  · have hr : Hd (lensN (l : Int) fs = ([], cn fs)) := ⟨by unfold lensN; rw [if_neg (by omega), if_pos hc]⟩
    obtain ⟨r0, hr0⟩ : ∃ r0, r0 = cn fs := ⟨_, rfl⟩
    rw [← hr0] at hc hr
    have hcb : (r0 != 0) = true := by simpa using hc
    have HR0 := Hd.mk hr0
    clear hr0 hc hl
    go_enter Try.func71, Try.ntmps71
    go_wp2_with (fail)
    refine (counts_any w A fs.length c fs p rfl HS.out hn1).mono ?_
    rintro e w' ⟨rfl, rfl⟩
    rw [← HR0.out]
    go_wp2
    go_ret2
    rw [hr.out]
    exact ⟨none, 0, 0, rfl, own_nil _ _ _ _, fun k hk => by simp [Value.ownBlock] at hk, Fr.refl _ _⟩
end Go.Proofs.Ytofajcifjmhomaa.Lens
