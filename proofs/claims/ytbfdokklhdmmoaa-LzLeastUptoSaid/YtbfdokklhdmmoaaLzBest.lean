/- The finder's best, Best, Options, newFinder; the document's alike, Best, Options. Conditions: at most 2^40 bytes. -/
import Derived.Test.YtbfdokklhdmmoaaLzLearn
set_option linter.unusedVariables false
set_option linter.unusedSimpArgs false
set_option maxRecDepth 100000
namespace Go.Proofs.Ytbfdokklhdmmoaa.Lz
open Go.RowKit Go.Maps Go.Proofs.Ytbfdokklhdmmoaa.Lib Go.Proofs.Ytbfdokklhdmmoaa.Num Go.Proofs.Ytbfdokklhdmmoaa.Bits

section
variable {w w' : World} {g : Nat} {A : Option Addr} {n c : Nat} {d : List Int} {q : Option Nat} {k : Opt} {B : Nat} {E : Option Addr} {ec kn : Nat}
theorem optErr_ok {k : Opt} (h : optErr k = 0) : 1 ≤ k.window ∧ k.window ≤ 32768 ∧ 0 ≤ k.chain ∧ k.chain ≤ 4096 := by
  unfold optErr at h
  split at h
  · cases h
  · omega
set_option maxHeartbeats 4000000 in
theorem best_any (w : World) (p : Nat) (hp : p < n) (hn : n ≤ 1099511627776) (hk : optErr k = 0) (r : Nat × Nat) (hr : r = best d p k.window.toNat k.chain.toNat) (hF : Fd w g A n c d q k B E ec kn) :
    Calls Try.prog 41 #[.pointer (some ⟨g, 0, none⟩), .int .i64 (p : Nat)] w fun e w' => e = .returned (.tuple #[.int .i64 (r.1 : Nat), .int .i64 (r.2 : Nat)]) ∧ ∃ E' ec' kn', Fd w' g A n c d q k B E' ec' kn' ∧ Aft w (Value.slice E kn ec).ownBlock (Value.slice E' kn' ec').ownBlock ∧ Fr w w' (g :: B :: (Value.slice E kn ec).ownBlock.toList) := by
  obtain ⟨r1, r2⟩ := r
  simp only
  have HF := Hd.mk hF
  have HR := Hd.mk hr
  have hl := hF.len
  obtain ⟨c0, c1, c2, c3, c4, c5, c6⟩ := hF.cell
  clear hF hr
  by_cases h3 : n < p + 3
  · have hz := HR.out
    rw [best_short (by omega) (by omega)] at hz
    obtain ⟨rfl, rfl⟩ : r1 = 0 ∧ r2 = 0 := by simpa using hz
    clear hz
    go_enter Try.func41, Try.ntmps41
    go_wp2
    go_ret2
    exact ⟨rfl, E, ec, kn, HF.out, Aft.refl _ _, Fr.refl _ _⟩
  · have HR2 : Hd ((r1, r2) = chainF d p k.window.toNat k.chain.toNat (prev d p) 0 0) := ⟨by rw [HR.out, best_chain (by omega)]⟩
    obtain ⟨hw1, hw2, hc1, hc2⟩ := optErr_ok hk
    obtain ⟨W, hW⟩ : ∃ W : Nat, k.window = (W : Nat) := ⟨k.window.toNat, by omega⟩
    obtain ⟨C, hC⟩ : ∃ C : Nat, k.chain = (C : Nat) := ⟨k.chain.toNat, by omega⟩
    have HR3 : Hd ((r1, r2) = chainF d p W C (prev d p) 0 0) := ⟨by rw [HR2.out, hW, hC]; rfl⟩
    clear HR HR2
    have HW := Hd.mk hW
    have HC := Hd.mk hC
    have hWb : W ≤ 32768 := by omega
    have hCb : C ≤ 4096 := by omega
    clear hW hC
    go_enter Try.func41, Try.ntmps41
    go_wp2_with (fail)
    refine (learn_any w (p : Nat) (by omega) hn HF.out).mono ?_
    rintro e w1 ⟨rfl, E1, ec1, k1, _, hk1, hF1, hA1, hW1⟩
    have hpk := hk1 p (by omega) (by omega)
    have HF1 := Hd.mk hF1
    have HA1 := Hd.mk hA1
    have HW1 := Hd.mk hW1
    obtain ⟨c0, c1, c2, c3, c4, c5, c6⟩ := hF1.cell
    have hkl := hF1.kle
    obtain ⟨ga, d1, e1, hd1⟩ := own_some hF1.own (by omega)
    injection e1 with e1 _ e2
    subst e1 e2
    have hcp := (hF1.own.cellAt p (by omega)).trans (links_get hpk)
    rw [HW.out] at c1
    rw [HC.out] at c2
    obtain ⟨pv, hpv⟩ : ∃ pv, pv = prev d p := ⟨_, rfl⟩
    rw [← hpv] at hcp HR3
    have hpv1 := prevF_lt d p p
    have HPV := Hd.mk hpv
    have hpb : -1 ≤ pv ∧ pv < p ∧ (0 ≤ pv → same3 d pv.toNat p) := ⟨by rw [hpv]; exact hpv1.2, by rw [hpv]; exact hpv1.1, by rw [hpv]; exact prevF_hit⟩
    have HPB := Hd.mk hpb
    clear hk1 hF1 hA1 hW1 hpv hpv1 hpb
    go_wp2
    go_loopg [6, 7, 8, 33] C (fun kq nv sv cv iv wr => ∃ (i b s : Nat) (x : Int), nv = .int .i64 (b : Nat) ∧ sv = .int .i64 (s : Nat) ∧ cv = .int .i64 x ∧ iv = .int .i64 (i : Nat) ∧ i + kq = C ∧ -1 ≤ x ∧ x < p ∧ Hd ((r1, r2) = chainF d p W (C - i) x b s) ∧ Hd (Fr w1 wr []))
    case atStart => exact ⟨0, 0, 0, pv, rfl, rfl, rfl, rfl, by omega, HPB.out.1, HPB.out.2.1, HR3, ⟨Fr.refl _ _⟩⟩
    case round =>
      obtain ⟨i, b, s, x, rfl, rfl, rfl, rfl, hi, hx0, hx1, HR4, HG⟩ := hrel
      by_cases h4 : i < C
      · have HR5 : Hd ((r1, r2) = if x < 0 ∨ (W : Int) < p - x then (b, s) else if b < alike d x.toNat p then chainF d p W (C - (i + 1)) (prev d x.toNat) (alike d x.toNat p) ((p : Int) - x).toNat else chainF d p W (C - (i + 1)) (prev d x.toNat) b s) := ⟨by
          rw [HR4.out, show C - i = (C - (i + 1)) + 1 from by omega]; rfl⟩
        clear HR4
        by_cases h5 : x < 0
        · have hz := HR5.out
          rw [if_pos (.inl h5)] at hz
          obtain ⟨rfl, rfl⟩ : r1 = b ∧ r2 = s := by simpa using hz
          clear hz
          go_wp2
          go_ret2
          exact ⟨rfl, some ⟨ga, 0, none⟩, ec1, k1, HF1.out.frame HG.out, HA1.out, HW1.out.trans HG.out (by simp)⟩
        · obtain ⟨x, rfl⟩ := Int.eq_ofNat_of_zero_le (show 0 ≤ x by omega)
          have e1 := (World.cell?_of_block (w := w1) (HG.out.block g (World.block_lt_of_cell? w1 _ c1) (by simp)) : wr.cell? ⟨g, 1, none⟩ = _).trans c1
          by_cases h6 : (W : Int) < (p : Int) - (x : Int)
          · have hz := HR5.out
            rw [if_pos (.inr h6)] at hz
            obtain ⟨rfl, rfl⟩ : r1 = b ∧ r2 = s := by simpa using hz
            clear hz
            go_wp2
            go_ret2
            exact ⟨rfl, some ⟨ga, 0, none⟩, ec1, k1, HF1.out.frame HG.out, HA1.out, HW1.out.trans HG.out (by simp)⟩
          · obtain ⟨m, hm⟩ : ∃ m, m = alike d x p := ⟨_, rfl⟩
            have hmb : m ≤ 258 := by rw [hm]; exact alike_le d x p
            have HR6 : Hd ((r1, r2) = if b < m then chainF d p W (C - (i + 1)) (prev d x) m (p - x) else chainF d p W (C - (i + 1)) (prev d x) b s) := ⟨by
              have := HR5.out
              rw [if_neg (by omega), Int.toNat_natCast, ← hm, show ((p : Int) - (x : Int)).toNat = p - x from by omega] at this
              exact this⟩
            have HMM := Hd.mk hm
            clear hm HR5
            obtain ⟨pv2, hpv2⟩ : ∃ pv2, pv2 = prev d x := ⟨_, rfl⟩
            rw [← hpv2] at HR6
            have hpv3 := prevF_lt d x x
            have hpb2 : -1 ≤ pv2 ∧ pv2 < p := by rw [hpv2]; unfold prev; omega
            have hcx := (HF1.out.own.cellAt x (by omega)).trans (links_get (show x < k1 by omega))
            rw [← hpv2] at hcx
            clear hpv2 hpv3
            go_wp2_with (fail)
            refine (common_any wr x p (by omega) (by omega) hn (HF1.out.frame HG.out)).mono ?_
            rintro e w3 ⟨rfl, h3g⟩
            rw [← HMM.out]
            have HG3 := Hd.mk (HG.out.trans h3g (by simp))
            clear h3g e1
            have e5 := (World.cell?_of_block (w := w1) (HG3.out.block g (World.block_lt_of_cell? w1 _ c5) (by simp)) : w3.cell? ⟨g, 5, none⟩ = _).trans c5
            have ex := (World.cell?_of_block (w := w1) (HG3.out.block ga (World.block_lt_of_cell? w1 _ hcx) (by simp)) : w3.cell? ⟨ga, x, none⟩ = _).trans hcx
            have hxk : x < k1 := by omega
            have hsub : (p : Int) - (x : Int) = ((p - x : Nat) : Int) := by omega
            by_cases h7 : b < m
            · go_wp2
              go_roundg (gk - 1)
              case measure => omega
              case rel => exact ⟨i + 1, m, p - x, pv2, rfl, by go_num, rfl, by go_num, by omega, hpb2.1, hpb2.2, ⟨by have := HR6.out; rwa [if_pos h7] at this⟩, HG3⟩
            · go_wp2
              go_roundg (gk - 1)
              case measure => omega
              case rel => exact ⟨i + 1, b, s, pv2, rfl, rfl, rfl, by go_num, by omega, hpb2.1, hpb2.2, ⟨by have := HR6.out; rwa [if_neg h7] at this⟩, HG3⟩
      · obtain rfl : i = C := by omega
        have hz := HR4.out
        rw [Nat.sub_self] at hz
        obtain ⟨rfl, rfl⟩ : r1 = b ∧ r2 = s := by simpa [chainF] using hz
        clear hz
        go_wp2
        go_ret2
        exact ⟨rfl, some ⟨ga, 0, none⟩, ec1, k1, HF1.out.frame HG.out, HA1.out, HW1.out.trans HG.out (by simp)⟩
end
end Go.Proofs.Ytbfdokklhdmmoaa.Lz
