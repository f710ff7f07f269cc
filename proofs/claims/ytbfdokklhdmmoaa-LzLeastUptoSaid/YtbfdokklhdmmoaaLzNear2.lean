/- nearest and bitsOf of the program; nearest and bits of the document. Conditions: at most 2^40 bytes. -/
import Derived.Test.YtbfdokklhdmmoaaLzBest2
import Derived.Test.YtbfdokklhdmmoaaLzNear
set_option linter.unusedVariables false
set_option linter.unusedSimpArgs false
set_option maxRecDepth 100000
namespace Go.Proofs.Ytbfdokklhdmmoaa.Lz
open Go.RowKit Go.Maps Go.Proofs.Ytbfdokklhdmmoaa.Lib Go.Proofs.Ytbfdokklhdmmoaa.Num Go.Proofs.Ytbfdokklhdmmoaa.Bits

def nats (L : List Nat) : List Value := L.map fun k => .int .i64 (k : Nat)
theorem nats_app (a b : List Nat) : nats (a ++ b) = nats a ++ nats b := by simp [nats]
theorem nats_len (a : List Nat) : (nats a).length = a.length := by simp [nats]
theorem bitsOf_any (w : World) (x : Nat) (hx : x < 18446744073709551616) (hx2 : x ≤ 4611686018427387904) : Calls Try.prog 45 #[.int .i64 (x : Nat)] w fun e w' => e = .returned (.int .i64 (bitLen x : Nat)) ∧ w = w' := by
  go_enter Try.func45, Try.ntmps45
  go_wp2
  go_loopg [0, 3] 64 (fun kq xv nv wr => ∃ (y m : Nat), xv = .int .i64 (y : Nat) ∧ nv = .int .i64 (m : Nat) ∧ m + kq = 64 ∧ y ≤ x ∧ y < 2 ^ kq ∧ Hd (bitLen x = m + bitsF kq y) ∧ wr = w)
  case atStart => exact ⟨x, 0, rfl, rfl, rfl, Nat.le_refl _, by simpa using hx, ⟨by simp [bitLen]⟩, rfl⟩
  case round =>
    obtain ⟨y, m, rfl, rfl, hm, hyx, hy, HB, rfl⟩ := hrel
    by_cases h1 : 0 < y
    · obtain ⟨f, rfl⟩ : ∃ f, gk = f + 1 := ⟨gk - 1, by
        cases gk with
        | zero => simp at hy; omega
        | succ f => rfl⟩
      have HB2 : Hd (bitLen x = m + 1 + bitsF f (y / 2)) := ⟨by rw [HB.out]; simp only [bitsF]; rw [if_neg (by omega)]; omega⟩
      have hy2 : y / 2 < 2 ^ f := by rw [Nat.pow_succ] at hy; omega
      clear HB hy
      go_wp2
      go_roundg f
      case measure => omega
      case rel => exact ⟨y / 2, m + 1, by go_num, by go_num, by omega, by omega, hy2, HB2, rfl⟩
    · obtain rfl : y = 0 := by omega
      have HB2 : Hd (bitLen x = m) := ⟨by rw [HB.out]; cases gk <;> simp [bitsF]⟩
      go_wp2
      go_ret
      rw [HB2.out]
      exact ⟨rfl, rfl⟩
theorem bits_any (w : World) (x : Nat) (hx : x < 18446744073709551616) (hx2 : x ≤ 4611686018427387904) : Calls Try.prog 47 #[.int .i64 (x : Nat)] w fun e w' => e = .returned (.int .i64 (bitLen x : Nat)) ∧ w = w' := by
  go_enter Try.func47, Try.ntmps47
  go_wp2
  go_loopg [0, 3] 64 (fun kq xv nv wr => ∃ (y m : Nat), xv = .int .i64 (y : Nat) ∧ nv = .int .i64 (m : Nat) ∧ m + kq = 64 ∧ y ≤ x ∧ y < 2 ^ kq ∧ Hd (bitLen x = m + bitsF kq y) ∧ wr = w)
  case atStart => exact ⟨x, 0, rfl, rfl, rfl, Nat.le_refl _, by simpa using hx, ⟨by simp [bitLen]⟩, rfl⟩
  case round =>
    obtain ⟨y, m, rfl, rfl, hm, hyx, hy, HB, rfl⟩ := hrel
    by_cases h1 : 0 < y
    · obtain ⟨f, rfl⟩ : ∃ f, gk = f + 1 := ⟨gk - 1, by
        cases gk with
        | zero => simp at hy; omega
        | succ f => rfl⟩
      have HB2 : Hd (bitLen x = m + 1 + bitsF f (y / 2)) := ⟨by rw [HB.out]; simp only [bitsF]; rw [if_neg (by omega)]; omega⟩
      have hy2 : y / 2 < 2 ^ f := by rw [Nat.pow_succ] at hy; omega
      clear HB hy
      go_wp2
      go_roundg f
      case measure => omega
      case rel => exact ⟨y / 2, m + 1, by go_num, by go_num, by omega, by omega, hy2, HB2, rfl⟩
    · obtain rfl : y = 0 := by omega
      have HB2 : Hd (bitLen x = m) := ⟨by rw [HB.out]; cases gk <;> simp [bitsF]⟩
      go_wp2
      go_ret
      rw [HB2.out]
      exact ⟨rfl, rfl⟩
set_option maxHeartbeats 4000000 in
theorem rnear_any (w : World) (A : Option Addr) (n c : Nat) (d : List Int) (q : Option Nat) (p l W : Nat) (hp : p ≤ n) (hn : n ≤ 1099511627776) (hl : d.length = n) (hW : W ≤ 32768) (hlb : l ≤ 258) (hD : Sl w A (u8s d) q) :
    Calls Try.prog 46 #[.slice A n c, .int .i64 (p : Nat), .int .i64 (l : Nat), .int .i64 (W : Nat)] w fun e w' => e = .returned (.int .i64 (near d p l W : Nat)) ∧ Fr w w' [] := by
  have HD := Hd.mk hD
  clear hD
  go_enter Try.func46, Try.ntmps46
  go_wp2
  go_loopg [9] (p + 1) (fun kq kv wr => ∃ k : Nat, kv = .int .i64 (k : Nat) ∧ k + kq = p + 2 ∧ 1 ≤ k ∧ Hd (near d p l W = nearF d p l W kq k) ∧ Hd (Fr w wr []))
  case atStart => exact ⟨1, rfl, by omega, Nat.le_refl _, ⟨rfl⟩, ⟨Fr.refl _ _⟩⟩
  case round =>
    obtain ⟨k, rfl, hk, hk1, HN, HF⟩ := hrel
    by_cases h1 : k ≤ W
    · by_cases h2 : k ≤ p
      · obtain ⟨f, rfl⟩ : ∃ f, gk = f + 1 := ⟨gk - 1, by omega⟩
        have HN2 : Hd (near d p l W = if l ≤ alike d (p - k) p then k else nearF d p l W f (k + 1)) := ⟨by rw [HN.out]; simp only [nearF]; rw [if_pos ⟨h1, h2⟩]⟩
        obtain ⟨m, hm⟩ : ∃ m, m = alike d (p - k) p := ⟨_, rfl⟩
        have hmb : m ≤ 258 := by rw [hm]; exact alike_le _ _ _
        rw [← hm] at HN2
        have HM := Hd.mk hm
        have hsub : (p : Int) - (k : Int) = ((p - k : Nat) : Int) := by omega
        clear hm HN
        go_wp2_with (fail)
        refine (ralike_any wr A n c d q (p - k) p (by omega) hp hn hl (HD.out.frame HF.out (by simp))).mono ?_
        rintro e w2 ⟨rfl, h3⟩
        rw [← HM.out]
        have HF2 := Hd.mk (HF.out.trans h3 (by simp))
        clear h3
        by_cases h4 : l ≤ m
        · have HN3 : Hd (near d p l W = k) := ⟨by rw [HN2.out, if_pos h4]⟩
          go_wp2
          go_ret
          rw [HN3.out]
          exact ⟨rfl, HF2.out⟩
        · have HN3 : Hd (near d p l W = nearF d p l W f (k + 1)) := ⟨by rw [HN2.out, if_neg h4]⟩
          go_wp2
          go_roundg f
          case measure => omega
          case rel => exact ⟨k + 1, by go_num, by omega, by omega, HN3, HF2⟩
      · have HN2 : Hd (near d p l W = 0) := ⟨by rw [HN.out]; cases gk <;> simp [nearF]; omega⟩
        go_wp2
        go_ret
        rw [HN2.out]
        exact ⟨rfl, HF.out⟩
    · have HN2 : Hd (near d p l W = 0) := ⟨by rw [HN.out]; cases gk <;> simp [nearF]; omega⟩
      go_wp2
      go_ret
      rw [HN2.out]
      exact ⟨rfl, HF.out⟩
section
variable {w w' : World} {g : Nat} {A : Option Addr} {n c : Nat} {d : List Int} {q : Option Nat} {k : Opt} {B : Nat} {E : Option Addr} {ec kn : Nat}
set_option maxHeartbeats 8000000 in
theorem nearest_any (w : World) (p : Nat) (hp : p < n) (hn : n ≤ 1099511627776) (hk : optErr k = 0) (hkn : p + 3 ≤ n → p < kn) (hF : Fd w g A n c d q k B E ec kn) :
    Calls Try.prog 44 #[.pointer (some ⟨g, 0, none⟩), .int .i64 (p : Nat)] w fun e w' => ∃ A' dd L, e = .returned (.slice A' L.length dd) ∧ w'.ownsRow 0 3 1 (.slice A' L.length dd) L.length (nats L) ∧ IsNear d p k.window.toNat L ∧ (∀ y, (Value.slice A' L.length dd).ownBlock = some y → w.heap.size ≤ y) ∧ Fr w w' [] := by
  obtain ⟨j0, hj0, hj1, hj2, hj3⟩ := info_parts infoI
  have HF := Hd.mk hF
  have hl := hF.len
  have hkl := hF.kle
  obtain ⟨c0, c1, c2, c3, c4, c5, c6⟩ := hF.cell
  by_cases h3 : n < p + 3
  · have HI : Hd (IsNear d p k.window.toNat []) := ⟨⟨fun i h => absurd h (Nat.not_lt_zero _), fun i _ h => by unfold most at h; omega, .inr rfl⟩⟩
    clear hF
    go_enter Try.func44, Try.ntmps44
    go_wp2
    go_ret
    exact ⟨none, 0, [], rfl, own_nil _ _ _ _, HI.out, (by intro y hy; cases hy), Fr.refl _ _⟩
  · obtain ⟨hw1, hw2, hc1, hc2⟩ := optErr_ok hk
    obtain ⟨W, hW⟩ : ∃ W : Nat, k.window = (W : Nat) := ⟨k.window.toNat, by omega⟩
    have hWt : k.window.toNat = W := by omega
    rw [hWt]
    have HW := Hd.mk hW
    have hWb : W ≤ 32768 := by omega
    clear hW hWt
    have hpk := hkn (by omega)
    obtain ⟨ga, d1, e1, hd1⟩ := own_some hF.own (by omega)
    injection e1 with e1 _ e2
    subst e1 e2
    have hcp := (hF.own.cellAt p (by omega)).trans (links_get hpk)
    rw [HW.out] at c1
    obtain ⟨pv, hpv⟩ : ∃ pv, pv = prev d p := ⟨_, rfl⟩
    rw [← hpv] at hcp
    have hpv1 := prevF_lt d p p
    have HPB : Hd (-1 ≤ pv ∧ pv < p ∧ (0 ≤ pv → same3 d pv.toNat p) ∧ Going d p W [] pv) := ⟨by rw [hpv]; exact ⟨hpv1.2, hpv1.1, prevF_hit, Going.start (by omega)⟩⟩
    obtain ⟨ms, hms⟩ : ∃ ms, ms = most d p := ⟨_, rfl⟩
    have hms2 : ms = min 258 (n - p) := by rw [hms, ← hl]; rfl
    have hms3 : 3 ≤ ms := by omega
    have hms258 : ms ≤ 258 := by omega
    have HMS := Hd.mk hms
    have HMS2 := Hd.mk hms2
    clear hF hpv hpv1 hms hms2
    go_enter Try.func44, Try.ntmps44
    go_upto_region 4 with (fail)
    go_cut [6] from 17 to 25 (fun s6 wd => s6 = .int .i64 (ms : Nat) ∧ wd = w)
    case first =>
      by_cases h4 : 258 ≤ n - p
      · obtain rfl : ms = 258 := by have := HMS2.out; omega
        have e6 : (n : Int) - (p : Int) = ((n - p : Nat) : Int) := by omega
        have e7 : (258 : Int) ≤ ((n - p : Nat) : Int) := by omega
        go_wp2
        go_meet
        exact ⟨rfl, rfl⟩
      · have e6 : (n : Int) - (p : Int) = (ms : Int) := by have := HMS2.out; omega
        have e7 : ¬ (258 : Int) ≤ (ms : Int) := by have := HMS2.out; omega
        go_wp2
        go_meet
        exact ⟨rfl, rfl⟩
    case rest =>
      obtain ⟨rfl, rfl⟩ := hcut
      obtain ⟨wo, rfl⟩ : ∃ wo : World, wo = wc := ⟨_, rfl⟩
      go_wp2
      go_loopg [5, 7] (p + 1) (fun kq sv cv wr => ∃ (L : List Nat) (A1 : Option Addr) (m d2 : Nat) (x : Int), sv = .slice A1 m d2 ∧ cv = .int .i64 x ∧ L.length = m ∧ m ≤ 258 ∧ -1 ≤ x ∧ x < p ∧ (x + 1).toNat ≤ kq ∧ Hd (0 ≤ x → same3 d x.toNat p) ∧ Hd (Going d p W L x) ∧ Hd (wr.ownsRow 0 3 1 (.slice A1 m d2) m (nats L)) ∧ Hd (∀ y, (Value.slice A1 m d2).ownBlock = some y → wo.heap.size ≤ y) ∧ Hd (Fr wo wr []))
      case atStart => exact ⟨[], none, 0, 0, pv, rfl, rfl, rfl, by omega, HPB.out.1, HPB.out.2.1, by have := HPB.out.2.1; omega, ⟨HPB.out.2.2.1⟩, ⟨HPB.out.2.2.2⟩, ⟨own_nil _ _ _ _⟩, ⟨by intro y hy; cases hy⟩, ⟨Fr.refl _ _⟩⟩
      case round =>
        obtain ⟨ws, rfl⟩ : ∃ ws : World, ws = wr := ⟨_, rfl⟩
        obtain ⟨gx, rfl⟩ : ∃ gx : Nat, gx = gk := ⟨_, rfl⟩
        obtain ⟨L, A1, m, d2, x, rfl, rfl, hLm, hm258, hx0, hx1, hxk, HSx, HGo, HO, HB, HG⟩ := hrel
        have e1 := (World.cell?_of_block (w := wo) (HG.out.block g (World.block_lt_of_cell? wo _ c1) (by simp)) : ws.cell? ⟨g, 1, none⟩ = _).trans c1
        by_cases h5 : x < 0
        · have HI : Hd (IsNear d p W L) := ⟨HGo.out.stop (.inl h5)⟩
          obtain rfl : x = -1 := by omega
          subst hLm
          go_wp2
          go_ret
          exact ⟨A1, d2, L, rfl, HO.out, HI.out, HB.out, HG.out⟩
        · obtain ⟨x, rfl⟩ := Int.eq_ofNat_of_zero_le (show 0 ≤ x by omega)
          have hsub : (p : Int) - (x : Int) = ((p - x : Nat) : Int) := by omega
          by_cases h6 : p - x ≤ W
          · have hms4 : (ms : Int) - 3 = ((ms - 3 : Nat) : Int) := by omega
            by_cases h7 : m ≤ ms - 3
            · obtain ⟨al, hal⟩ : ∃ al, al = alike d x p := ⟨_, rfl⟩
              have halb : al ≤ 258 := by rw [hal]; exact alike_le d x p
              have hal3 : 3 ≤ al := by rw [hal]; exact (alike_three (by omega)).2 (HSx.out (by omega))
              have HAL := Hd.mk hal
              clear hal
              go_wp2_with (fail)
              refine (common_any ws x p (by omega) (by omega) hn (HF.out.frame HG.out)).mono ?_
              rintro e w3 ⟨rfl, h3g⟩
              rw [← HAL.out]
              have HG3 := Hd.mk (HG.out.trans h3g (by simp))
              have HO3 := Hd.mk (own_frame HO.out h3g (by simp))
              clear h3g e1
              have hal4 : (al : Int) - 3 = ((al - 3 : Nat) : Int) := by omega
              go_wp2
              go_loopg [5] al (fun kq sv wr => ∃ (L2 : List Nat) (A2 : Option Addr) (m2 d3 : Nat), sv = .slice A2 m2 d3 ∧ L2.length = m2 ∧ m2 ≤ 258 ∧ al ≤ m2 + kq + 2 ∧ Hd (Going d p W L2 (x : Nat)) ∧ Hd (wr.ownsRow 0 3 1 (.slice A2 m2 d3) m2 (nats L2)) ∧ Hd (∀ y, (Value.slice A2 m2 d3).ownBlock = some y → wo.heap.size ≤ y) ∧ Hd (Fr wo wr []))
              case atStart => exact ⟨L, A1, m, d2, rfl, hLm, hm258, by omega, HGo, HO3, HB, HG3⟩
              case round =>
                clear HO HO3 HB HG HG3 HGo
                obtain ⟨L2, A2, m2, d3, rfl, hL2, hm2, hak, HGo2, HO2, HB2, HG2⟩ := hrel
                by_cases h8 : m2 ≤ al - 3
                · have hpush : Hd (Going d p W (L2 ++ [p - x]) (x : Nat)) := ⟨HGo2.out.push (by omega) (by omega) h6 (by rw [← HAL.out]; omega)⟩
                  go_wp2_with (at_builtin; refine wpList_append_sl rfl (.tmp 68) (.tmp 72) 86 rfl 3 j0 (.int .i64 0) 1 8 Try.underlying86 hj0 hj1 hj2 hj3 rfl (by decide) (.slice A2 m2 d3) m2 _ rfl (by exact HO2.out.alloc _) (some ⟨wr.heap.size, 0, none⟩) 1 1 [.int .i64 ((p - x : Nat) : Int)] (some wr.heap.size) rfl rfl (by exact sl_of_blk (blk_new _ _)) (by intro h; cases h) (by intro u hu; simp at hu; rcases hu with rfl; rfl) (by unfold maxLen; omega) (by omega) ?_; intro A3 d4 w4 hown' hgrow haft; have O3 := Hd.mk hown'; have G3 := Hd.mk hgrow; have F3 := Hd.mk haft; clear hown' hgrow haft)
                  go_roundg (gk - 1)
                  case measure => omega
                  case rel =>
                    refine ⟨L2 ++ [p - x], A3, m2 + 1, d4, rfl, by simp [hL2], by omega, by omega, hpush, ⟨?_⟩, ⟨?_⟩, ⟨(HG2.out.alloc _).grown G3.out (fun y hy => .inr (HB2.out y hy))⟩⟩
                    · rw [nats_app]; exact O3.out
                    · intro y hy
                      rcases F3.out with h | ⟨z, h, hz⟩
                      · rw [h] at hy; exact HB2.out y hy
                      · rw [h] at hy; cases hy; have := HG2.out.size; simp at hz; omega
                · obtain ⟨pv2, hpv2⟩ : ∃ pv2, pv2 = prev d x := ⟨_, rfl⟩
                  have hpv3 := prevF_lt d x x
                  have hpb2 : -1 ≤ pv2 ∧ pv2 < x := by rw [hpv2]; unfold prev; omega
                  have hs2 : Hd (0 ≤ pv2 → same3 d pv2.toNat p) := ⟨fun h => by
                    rw [hpv2] at h ⊢
                    exact same3_trans (prevF_hit h) (HSx.out (by omega))⟩
                  have hnext : Hd (Going d p W L2 pv2) := ⟨by rw [hpv2]; exact HGo2.out.next (by omega) (by omega) (by simpa using HSx.out (by omega)) (by rw [← HAL.out]; omega)⟩
                  have hcx := (HF.out.own.cellAt x (by omega)).trans (links_get (show x < kn by omega))
                  rw [← hpv2] at hcx
                  have e5 := (World.cell?_of_block (w := wo) (HG2.out.block g (World.block_lt_of_cell? wo _ c5) (by simp)) : wr.cell? ⟨g, 5, none⟩ = _).trans c5
                  have ex := (World.cell?_of_block (w := wo) (HG2.out.block ga (World.block_lt_of_cell? wo _ hcx) (by simp)) : wr.cell? ⟨ga, x, none⟩ = _).trans hcx
                  have hxk2 : x < kn := by omega
                  clear hpv2 hpv3
                  go_wp2
                  go_roundg (gx - 1)
                  case measure => omega
                  case rel => exact ⟨L2, A2, m2, d3, pv2, rfl, rfl, hL2, hm2, hpb2.1, by omega, by omega, hs2, hnext, HO2, HB2, HG2⟩
            · have HI : Hd (IsNear d p W L) := ⟨HGo.out.stop (.inr (.inr (by rw [← HMS.out]; omega)))⟩
              subst hLm
              go_wp2
              go_ret
              exact ⟨A1, d2, L, rfl, HO.out, HI.out, HB.out, HG.out⟩
          · have HI : Hd (IsNear d p W L) := ⟨HGo.out.stop (.inr (.inl (by omega)))⟩
            subst hLm
            go_wp2
            go_ret
            exact ⟨A1, d2, L, rfl, HO.out, HI.out, HB.out, HG.out⟩
end
end Go.Proofs.Ytbfdokklhdmmoaa.Lz
