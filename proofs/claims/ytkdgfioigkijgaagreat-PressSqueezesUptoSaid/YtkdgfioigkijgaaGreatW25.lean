import Derived.Test.YtkdgfioigkijgaaGreatW01
import Derived.Test.YtkdgfioigkijgaaGreatW02
import Derived.Test.YtkdgfioigkijgaaGreatW03
import Derived.Test.YtkdgfioigkijgaaGreatW04
import Derived.Test.YtkdgfioigkijgaaGreatW05
import Derived.Test.YtkdgfioigkijgaaGreatW06
import Derived.Test.YtkdgfioigkijgaaGreatW07
import Derived.Test.YtkdgfioigkijgaaGreatW08
import Derived.Test.YtkdgfioigkijgaaGreatW09
import Derived.Test.YtkdgfioigkijgaaGreatW10
import Derived.Test.YtkdgfioigkijgaaGreatW11
import Derived.Test.YtkdgfioigkijgaaGreatW12
import Derived.Test.YtkdgfioigkijgaaGreatW13
import Derived.Test.YtkdgfioigkijgaaGreatW14
import Derived.Test.YtkdgfioigkijgaaGreatW15
import Derived.Test.YtkdgfioigkijgaaGreatW16
import Derived.Test.YtkdgfioigkijgaaGreatW17
import Derived.Test.YtkdgfioigkijgaaGreatW18
import Derived.Test.YtkdgfioigkijgaaGreatW19
import Derived.Test.YtkdgfioigkijgaaGreatW20
import Derived.Test.YtkdgfioigkijgaaGreatW21
import Derived.Test.YtkdgfioigkijgaaGreatW22
import Derived.Test.YtkdgfioigkijgaaGreatW23
import Derived.Test.YtkdgfioigkijgaaGreatW24
import Derived.Deep.RegionHeld3
import Derived.BigRegion
import Derived.BigQuiet
import Derived.Deep.QuietTactic
import Derived.Deep.LoopGhost
import Derived.Deep.DeepCutAuto
import Derived.KernelRfl
import Derived.Deep.RegionLaw
import Derived.Outline
set_option linter.unusedVariables false
set_option linter.unusedSimpArgs false
set_option maxRecDepth 100000
namespace Go.Proofs.YtkdgfioigkijgaaGreat.Prs
open Go.RowKit Go.Proofs.YtkdgfioigkijgaaGreat.Lib Go.Proofs.YtkdgfioigkijgaaGreat.Ints Go.Proofs.YtkdgfioigkijgaaGreat.Lz Go.Proofs.YtkdgfioigkijgaaGreat.Num Go.Proofs.YtkdgfioigkijgaaGreat.Bits Go.Proofs.YtkdgfioigkijgaaGreat.Blk
theorem lookInfo (a b : Int) (z : Bool) : (Tryz.prog.info? 90).map (·.size) = some (#[Value.int .i64 a, .int .i64 b, .bool z] : Array Value).size := by
  have h : (Tryz.prog.info? 90).map (·.size) = some 3 := by kernel_rfl
  exact h
theorem plain_any (w : World) (k : Opt) : Calls Tryz.prog 35 #[.agg #[.int .i64 k.window, .int .i64 k.chain, .bool k.isLazy]] w fun e w' => e = .returned (.agg #[.int .i64 k.window, .int .i64 k.chain, .bool k.isLazy]) ∧ Fr w w' [] := by
  obtain ⟨a, b, z⟩ := k
  simp only
  go_enter Tryz.func35, Tryz.ntmps35
  go_wp2
  (try simp only [Exit.inBlock, Exit.then])
  have hb := blk_new (w.alloc (.cells #[.int .i64 a, .int .i64 b, .bool z] 84)) (.cells #[.int .i64 a, .int .i64 b, .bool z] 90)
  simp only [World.size_alloc] at hb
  refine bodyPost_ret (results_cell_row rfl _ _ (w.heap.size + 1) 90 _ _ _ rfl hb Tryz.underlying90 rfl (lookInfo a b z)) rfl ?_
  exact ⟨rfl, ((Fr.refl w []).alloc _).alloc _⟩
set_option maxHeartbeats 4000000 in
theorem ropt10_any (w : World) (k : Opt) (most er : Int) (he : er = popErr k most) : Calls Tryz.prog 63 #[.agg #[.int .i64 k.window, .int .i64 k.chain, .bool k.isLazy], .int .i64 most] w fun e w' => e = .returned (.int .i64 er) ∧ Fr w w' [] := by
  obtain ⟨e1, he1⟩ : ∃ e, e = optErr k := ⟨_, rfl⟩
  have HE := Hd.mk he1
  have h2 : e1 = 0 ∨ e1 = 72 := he1 ▸ optErr_two k
  have HR : Hd (er = if e1 ≠ 0 ∨ most < 1 ∨ 65536 < most then 100 else 0) := ⟨by rw [he, he1]; rfl⟩
  clear he he1
  go_enter Tryz.func63, Tryz.ntmps63
  go_wp2_with (fail)
  refine (ropt_any _ k e1 HE.out).mono ?_
  rintro e w1 ⟨rfl, h1⟩
  have F1 := Hd.mk (((Fr.refl w []).alloc (.cells #[.int .i64 k.window, .int .i64 k.chain, .bool k.isLazy] 90)).trans h1 (by simp))
  clear h1
  rcases h2 with rfl | rfl
  · by_cases h3 : most < 1
    · obtain rfl : er = 100 := by rw [HR.out, if_pos (.inr (.inl h3))]
      go_wp2
      go_ret
      exact ⟨rfl, F1.out⟩
    · by_cases h4 : 65536 < most
      · obtain rfl : er = 100 := by rw [HR.out, if_pos (.inr (.inr h4))]
        go_wp2
        go_ret
        exact ⟨rfl, F1.out⟩
      · obtain rfl : er = 0 := by rw [HR.out, if_neg (by omega)]
        go_wp2
        go_ret
        exact ⟨rfl, F1.out⟩
  · obtain rfl : er = 100 := by rw [HR.out, if_pos (.inl (by decide))]
    go_wp2
    go_ret
    exact ⟨rfl, F1.out⟩
end Go.Proofs.YtkdgfioigkijgaaGreat.Prs
set_option linter.unusedVariables false
set_option linter.unusedSimpArgs false
set_option maxRecDepth 100000
namespace Go.Proofs.YtkdgfioigkijgaaGreat.Prs
open Go.RowKit Go.Proofs.YtkdgfioigkijgaaGreat.Lib Go.Proofs.YtkdgfioigkijgaaGreat.Ints Go.Proofs.YtkdgfioigkijgaaGreat.Lz Go.Proofs.YtkdgfioigkijgaaGreat.Num Go.Proofs.YtkdgfioigkijgaaGreat.Bits Go.Proofs.YtkdgfioigkijgaaGreat.Blk
theorem own_rtok {w : World} {A : Option Addr} {n c : Nat} {l : List Tok} (h : w.ownsRow 0 80 3 (.slice A n c) n (tcells l)) : n = l.length ∧ Sl w A (tcells l) (Value.slice A n c).ownBlock ∧ l.length ≤ c ∧ c ≤ maxLen ∧ (A = none → l.length = 0 ∧ c = 0) ∧ ∀ y, (Value.slice A n c).ownBlock = some y → y < w.heap.size := by
  have h0 : n = l.length := by
    have h1 := h.1
    have h2 := flat_len tcell 3 (fun _ => rfl) l
    unfold tcells at h1
    omega
  subst h0
  refine ⟨rfl, ?_, ?_, ?_, fun hA => own_none h hA, fun y hy => by obtain ⟨cs, hc⟩ := own_type h hy; exact blk_lt hc⟩
  · intro hx
    rcases h.2 with ⟨h', h''⟩ | ⟨g, cap, cur, h', hb, hh, hnc, hcm, hcs, ht⟩
    · have := h.1
      omega
    · injection h' with h1 _ _
      subst h1
      refine ⟨g, 0, rfl, rfl, fun j hj => ?_⟩
      rw [Nat.zero_add, blk_cell hh, ← ht, List.getElem?_take, if_pos (by have := h.1; omega)]
      simp
  · obtain ⟨A2, c2, e, h1, h2, _⟩ := own_slice h
    injection e with _ _ e
    omega
  · obtain ⟨A2, c2, e, h1, h2, _⟩ := own_slice h
    injection e with _ _ e
    omega
def RprPost (w w' : World) (d : List Int) (l : List Tok) (most : Nat) (er : Int) (v u : Value) : Prop :=
  (er ≠ 0 → v = .slice none 0 0 ∧ u = .slice none 0 0) ∧ (er = 0 → ∃ J, 1 ≤ J ∧ l.length ≤ J * most ∧ (J = 1 ∨ (J - 1) * most < l.length) ∧ RwnPost w w' l d most J v u) ∧ Fr w w' []
set_option maxHeartbeats 8000000 in
theorem rpress_any (w : World) (A : Option Addr) (n c : Nat) (d : List Int) (q : Option Nat) (k : Opt) (most er : Int) (he : er = popErr k most) (hS : SlArg w A n c (u8s d) q) (hby : Bytes d) (hn : n ≤ 1048576) :
    Calls Tryz.prog 34 #[.slice A n c, .agg #[.int .i64 k.window, .int .i64 k.chain, .bool k.isLazy], .int .i64 most] w fun e w' => ∃ v u, e = .returned (.tuple #[v, u, .int .i64 er]) ∧ RprPost w w' d (parse d k) most.toNat er v u := by
  have HS := Hd.mk hS
  have hl : d.length = n := by have := hS.len; simpa [u8s] using this
  have HBY := Hd.mk hby
  have h2 : er = 0 ∨ er = 100 := he ▸ popErr_two k most
  have HE := Hd.mk he
  clear he hS hby
  go_enter Tryz.func34, Tryz.ntmps34
  have F0 := Hd.mk ((Fr.refl w []).alloc (.cells #[.int .i64 k.window, .int .i64 k.chain, .bool k.isLazy] 90))
  go_wp2_with (fail)
  refine (ropt10_any _ k most er HE.out).mono ?_
  rintro e w1 ⟨rfl, h1⟩
  have F1 := Hd.mk (F0.out.trans h1 (by simp))
  have hbk := Hd.mk (h1.blk (blk_new w (.cells #[.int .i64 k.window, .int .i64 k.chain, .bool k.isLazy] 90)) (by simp))
  clear h1 F0
  rcases h2 with rfl | rfl
  · obtain ⟨hk0, hm1, hm2⟩ := popErr_zero HE.out.symm
    have HK0 := Hd.mk hk0
    have b0 := blk_cell hbk.out 0
    have b1 := blk_cell hbk.out 1
    have b2 := blk_cell hbk.out 2
    simp only [List.getElem?_toArray, List.getElem?_cons_zero, List.getElem?_cons_succ] at b0 b1 b2
    clear hk0
    go_wp2_with (fail)
    have hS1 := HS.out.frame F1.out (by simp)
    refine (rparse_any w1 A n c d q k hS1 hn (optErr k) (parse d k) rfl rfl).mono ?_
    rintro e w2 ⟨A', m, dd, rfl, o2, n2, h2⟩
    have F2 := Hd.mk (F1.out.trans h2 (by simp))
    have O2 := Hd.mk o2
    clear o2 n2 h2 b0 b1 b2 hS1
    obtain ⟨M, rfl⟩ := Int.eq_ofNat_of_zero_le (show 0 ≤ most by omega)
    obtain ⟨p1, p2, p3, p4⟩ := parse_law (d := d) HK0.out
    obtain ⟨g1, g2⟩ := parse_right HK0.out HBY.out
    have hS2 := HS.out.frame F2.out (by simp)
    subst hl
    go_wp2_with (fail)
    obtain ⟨t1, t2, t3, t4, t5, t6⟩ := own_rtok O2.out
    subst t1
    have hd2 := hS2.le
    have hA2 : A = none → d.length = 0 ∧ c = 0 := fun h => hS2.nil h
    have hp2 : ∀ b, b ∈ (Value.slice A' (parse d k).length dd).ownBlock.toList ++ q.toList → b < w2.heap.size := fun b hb => by
      rcases List.mem_append.1 hb with h | h
      · exact t6 b (by simpa using h)
      · exact hS2.lt b (by simpa using h)
    have hsl2 := hS2.sl
    have hmx2 := hS2.max
    have b1 : 1 ≤ M := by omega
    have b2 : M ≤ 65536 := by omega
    have b3 : (parse d k).length ≤ 1048576 := by omega
    have b4 : d.length ≤ 1048576 := by omega
    have CW := rwritten_any w2 dd c M A' A (parse d k) d (Value.slice A' (parse d k).length dd).ownBlock q t2 t3 t4 t5 hsl2 hd2 hmx2 hA2 hp2 HBY.out g1 g2 p3 b1 b2 b3 b4
    refine CW.mono ?_
    rintro e w3 ⟨J, v, u, j1, j2, j3, rfl, hR⟩
    have HP3 : Hd (RprPost w w3 d (parse d k) ((M : Int).toNat) 0 v u) := ⟨⟨fun h => absurd rfl h, fun _ => ⟨J, j1, by rw [Int.toNat_natCast]; exact j2, by rw [Int.toNat_natCast]; exact j3, hR.1, fun y hy => Nat.le_trans F2.out.size (hR.2.1 y hy), hR.2.2.1, fun y hy => Nat.le_trans F2.out.size (hR.2.2.2.1 y hy), F2.out.trans hR.2.2.2.2 (by simp)⟩, F2.out.trans hR.2.2.2.2 (by simp)⟩⟩
    clear hR t2 t3 t4 t5 t6 g1 g2 p1 p2 p3 p4 j2 j3
    go_wp2
    go_ret3
    exact ⟨v, u, rfl, HP3.out⟩
  · go_wp2
    go_ret3
    exact ⟨_, _, rfl, fun _ => ⟨rfl, rfl⟩, fun h => absurd h (by decide), F1.out⟩
end Go.Proofs.YtkdgfioigkijgaaGreat.Prs
set_option linter.unusedVariables false
set_option linter.unusedSimpArgs false
set_option maxRecDepth 100000
namespace Go.Proofs.YtkdgfioigkijgaaGreat.Prs
open Go.RowKit Go.Proofs.YtkdgfioigkijgaaGreat.Lib Go.Proofs.YtkdgfioigkijgaaGreat.Ints Go.Proofs.YtkdgfioigkijgaaGreat.Lz Go.Proofs.YtkdgfioigkijgaaGreat.Num Go.Proofs.YtkdgfioigkijgaaGreat.Bits Go.Proofs.YtkdgfioigkijgaaGreat.Blk
theorem one_J {T most J K : Nat} (j1 : 1 ≤ J) (j2 : T ≤ J * most) (j3 : J = 1 ∨ (J - 1) * most < T) (k1 : 1 ≤ K) (k2 : T ≤ K * most) (k3 : K = 1 ∨ (K - 1) * most < T) : J = K := by
  rcases Nat.lt_trichotomy J K with h | h | h
  · have h1 : J * most ≤ (K - 1) * most := Nat.mul_le_mul_right _ (by omega)
    omega
  · exact h
  · have h1 : K * most ≤ (J - 1) * most := Nat.mul_le_mul_right _ (by omega)
    omega
end Go.Proofs.YtkdgfioigkijgaaGreat.Prs
set_option linter.unusedVariables false
set_option linter.unusedSimpArgs false
set_option maxRecDepth 100000
namespace Go.Proofs.YtkdgfioigkijgaaGreat.Prs
open Go.RowKit Go.Proofs.YtkdgfioigkijgaaGreat.Lib Go.Proofs.YtkdgfioigkijgaaGreat.Ints Go.Proofs.YtkdgfioigkijgaaGreat.Lz Go.Proofs.YtkdgfioigkijgaaGreat.Num Go.Proofs.YtkdgfioigkijgaaGreat.Bits Go.Proofs.YtkdgfioigkijgaaGreat.Blk
theorem slice_own {w : World} {b : Nat} {e : TypeId} {sz n : Nat} {v : Value} {xs : List Value} (h : w.ownsRow b e sz v n xs) : ∃ A c, v = .slice A n c := by
  rcases h.2 with ⟨rfl, h2⟩ | ⟨g, cap, cur, rfl, _⟩
  · obtain rfl : n = 0 := by first | exact h2 | omega | exact h2.symm
    exact ⟨none, 0, rfl⟩
  · exact ⟨_, _, rfl⟩
end Go.Proofs.YtkdgfioigkijgaaGreat.Prs
set_option linter.unusedVariables false
set_option linter.unusedSimpArgs false
set_option maxRecDepth 100000
namespace Go.Proofs.YtkdgfioigkijgaaGreat.Lz
open Go.RowKit Go.Maps Go.Proofs.YtkdgfioigkijgaaGreat.Lib Go.Proofs.YtkdgfioigkijgaaGreat.Num Go.Proofs.YtkdgfioigkijgaaGreat.Bits
def nats (L : List Nat) : List Value := L.map fun k => .int .i64 (k : Nat)
theorem nats_app (a b : List Nat) : nats (a ++ b) = nats a ++ nats b := by simp [nats]
theorem bitsOf_any (w : World) (x : Nat) (hx : x < 18446744073709551616) (hx2 : x ≤ 4611686018427387904) : Calls Tryz.prog 122 #[.int .i64 (x : Nat)] w fun e w' => e = .returned (.int .i64 (bitLen x : Nat)) ∧ w = w' := by
  go_enter Tryz.func122, Tryz.ntmps122
  go_wp2
  go_loopg [0, 3] 64 (fun kq xv nv wr => ∃ (y m : Nat), xv = .int .i64 (y : Nat) ∧ nv = .int .i64 (m : Nat) ∧ m + kq = 64 ∧ y ≤ x ∧ y < 2 ^ kq ∧ Hd (bitLen x = m + bitsF kq y) ∧ wr = w)
  case atStart => exact ⟨x, 0, rfl, rfl, rfl, Nat.le_refl _, by simpa using hx, ⟨by simp [bitLen]⟩, rfl⟩
  case round =>
    obtain ⟨y, m, rfl, rfl, hm, hyx, hy, HB, rfl⟩ := hrel
    by_cases h1 : 0 < y
    · obtain ⟨f, rfl⟩ : ∃ f, gk = f + 1 := ⟨gk - 1, by
        cases gk with
        | zero => simp at hy; omega
        | succ f => rfl⟩
      have HB2 : Hd (bitLen x = m + 1 + bitsF f (y / 2)) := ⟨by rw [HB.out]; simp only [bitsF]; rw [if_neg (by omega)]; omega⟩
      have hy2 : y / 2 < 2 ^ f := by rw [Nat.pow_succ] at hy; omega
      clear HB hy
      go_wp2
      go_roundg f
      case measure => omega
      case rel => exact ⟨y / 2, m + 1, by go_num, by go_num, by omega, by omega, hy2, HB2, rfl⟩
    · obtain rfl : y = 0 := by omega
      have HB2 : Hd (bitLen x = m) := ⟨by rw [HB.out]; cases gk <;> simp [bitsF]⟩
      go_wp2
      go_ret
      rw [HB2.out]
      exact ⟨rfl, rfl⟩
theorem bits_any (w : World) (x : Nat) (hx : x < 18446744073709551616) (hx2 : x ≤ 4611686018427387904) : Calls Tryz.prog 114 #[.int .i64 (x : Nat)] w fun e w' => e = .returned (.int .i64 (bitLen x : Nat)) ∧ w = w' := by
  go_enter Tryz.func114, Tryz.ntmps114
  go_wp2
  go_loopg [0, 3] 64 (fun kq xv nv wr => ∃ (y m : Nat), xv = .int .i64 (y : Nat) ∧ nv = .int .i64 (m : Nat) ∧ m + kq = 64 ∧ y ≤ x ∧ y < 2 ^ kq ∧ Hd (bitLen x = m + bitsF kq y) ∧ wr = w)
  case atStart => exact ⟨x, 0, rfl, rfl, rfl, Nat.le_refl _, by simpa using hx, ⟨by simp [bitLen]⟩, rfl⟩
  case round =>
    obtain ⟨y, m, rfl, rfl, hm, hyx, hy, HB, rfl⟩ := hrel
    by_cases h1 : 0 < y
    · obtain ⟨f, rfl⟩ : ∃ f, gk = f + 1 := ⟨gk - 1, by
        cases gk with
        | zero => simp at hy; omega
        | succ f => rfl⟩
      have HB2 : Hd (bitLen x = m + 1 + bitsF f (y / 2)) := ⟨by rw [HB.out]; simp only [bitsF]; rw [if_neg (by omega)]; omega⟩
      have hy2 : y / 2 < 2 ^ f := by rw [Nat.pow_succ] at hy; omega
      clear HB hy
      go_wp2
      go_roundg f
      case measure => omega
      case rel => exact ⟨y / 2, m + 1, by go_num, by go_num, by omega, by omega, hy2, HB2, rfl⟩
    · obtain rfl : y = 0 := by omega
      have HB2 : Hd (bitLen x = m) := ⟨by rw [HB.out]; cases gk <;> simp [bitsF]⟩
      go_wp2
      go_ret
      rw [HB2.out]
      exact ⟨rfl, rfl⟩
set_option maxHeartbeats 4000000 in
theorem rnear_any (w : World) (A : Option Addr) (n c : Nat) (d : List Int) (q : Option Nat) (p l W : Nat) (hp : p ≤ n) (hn : n ≤ 1099511627776) (hl : d.length = n) (hW : W ≤ 32768) (hlb : l ≤ 258) (hD : Sl w A (u8s d) q) :
    Calls Tryz.prog 113 #[.slice A n c, .int .i64 (p : Nat), .int .i64 (l : Nat), .int .i64 (W : Nat)] w fun e w' => e = .returned (.int .i64 (near d p l W : Nat)) ∧ Fr w w' [] := by
  have HD := Hd.mk hD
  clear hD
  go_enter Tryz.func113, Tryz.ntmps113
  go_wp2
  go_loopg [9] (p + 1) (fun kq kv wr => ∃ k : Nat, kv = .int .i64 (k : Nat) ∧ k + kq = p + 2 ∧ 1 ≤ k ∧ Hd (near d p l W = nearF d p l W kq k) ∧ Hd (Fr w wr []))
  case atStart => exact ⟨1, rfl, by omega, Nat.le_refl _, ⟨rfl⟩, ⟨Fr.refl _ _⟩⟩
  case round =>
    obtain ⟨k, rfl, hk, hk1, HN, HF⟩ := hrel
    by_cases h1 : k ≤ W
    · by_cases h2 : k ≤ p
      · obtain ⟨f, rfl⟩ : ∃ f, gk = f + 1 := ⟨gk - 1, by omega⟩
        have HN2 : Hd (near d p l W = if l ≤ alike d (p - k) p then k else nearF d p l W f (k + 1)) := ⟨by rw [HN.out]; simp only [nearF]; rw [if_pos ⟨h1, h2⟩]⟩
        obtain ⟨m, hm⟩ : ∃ m, m = alike d (p - k) p := ⟨_, rfl⟩
        have hmb : m ≤ 258 := by rw [hm]; exact alike_le _ _ _
        rw [← hm] at HN2
        have HM := Hd.mk hm
        have hsub : (p : Int) - (k : Int) = ((p - k : Nat) : Int) := by omega
        clear hm HN
        go_wp2_with (fail)
        refine (ralike_any wr A n c d q (p - k) p (by omega) hp hn hl (HD.out.frame HF.out (by simp))).mono ?_
        rintro e w2 ⟨rfl, h3⟩
        rw [← HM.out]
        have HF2 := Hd.mk (HF.out.trans h3 (by simp))
        clear h3
        by_cases h4 : l ≤ m
        · have HN3 : Hd (near d p l W = k) := ⟨by rw [HN2.out, if_pos h4]⟩
          go_wp2
          go_ret
          rw [HN3.out]
          exact ⟨rfl, HF2.out⟩
        · have HN3 : Hd (near d p l W = nearF d p l W f (k + 1)) := ⟨by rw [HN2.out, if_neg h4]⟩
          go_wp2
          go_roundg f
          case measure => omega
          case rel => exact ⟨k + 1, by go_num, by omega, by omega, HN3, HF2⟩
      · have HN2 : Hd (near d p l W = 0) := ⟨by rw [HN.out]; cases gk <;> simp [nearF]; omega⟩
        go_wp2
        go_ret
        rw [HN2.out]
        exact ⟨rfl, HF.out⟩
    · have HN2 : Hd (near d p l W = 0) := ⟨by rw [HN.out]; cases gk <;> simp [nearF]; omega⟩
      go_wp2
      go_ret
      rw [HN2.out]
      exact ⟨rfl, HF.out⟩
section
variable {w w' : World} {g : Nat} {A : Option Addr} {n c : Nat} {d : List Int} {q : Option Nat} {k : Opt} {B : Nat} {E : Option Addr} {ec kn : Nat}
set_option maxHeartbeats 8000000 in
theorem nearest_any (w : World) (p : Nat) (hp : p < n) (hn : n ≤ 1099511627776) (hk : optErr k = 0) (hkn : p + 3 ≤ n → p < kn) (hF : Fd w g A n c d q k B E ec kn) :
    Calls Tryz.prog 121 #[.pointer (some ⟨g, 0, none⟩), .int .i64 (p : Nat)] w fun e w' => ∃ A' dd L, e = .returned (.slice A' L.length dd) ∧ w'.ownsRow 0 3 1 (.slice A' L.length dd) L.length (nats L) ∧ IsNear d p k.window.toNat L ∧ (∀ y, (Value.slice A' L.length dd).ownBlock = some y → w.heap.size ≤ y) ∧ Fr w w' [] := by
  obtain ⟨j0, hj0, hj1, hj2, hj3⟩ := info_parts infoI
  have HF := Hd.mk hF
  have hl := hF.len
  have hkl := hF.kle
  obtain ⟨c0, c1, c2, c3, c4, c5, c6⟩ := hF.cell
  by_cases h3 : n < p + 3
  · have HI : Hd (IsNear d p k.window.toNat []) := ⟨⟨fun i h => absurd h (Nat.not_lt_zero _), fun i _ h => by unfold most at h; omega, .inr rfl⟩⟩
    clear hF
    go_enter Tryz.func121, Tryz.ntmps121
    go_wp2
    go_ret
    exact ⟨none, 0, [], rfl, own_nil _ _ _ _, HI.out, (by intro y hy; cases hy), Fr.refl _ _⟩
  · obtain ⟨hw1, hw2, hc1, hc2⟩ := optErr_ok hk
    obtain ⟨W, hW⟩ : ∃ W : Nat, k.window = (W : Nat) := ⟨k.window.toNat, by omega⟩
    have hWt : k.window.toNat = W := by omega
    rw [hWt]
    have HW := Hd.mk hW
    have hWb : W ≤ 32768 := by omega
    clear hW hWt
    have hpk := hkn (by omega)
    obtain ⟨ga, d1, e1, hd1⟩ := own_some hF.own (by omega)
    injection e1 with e1 _ e2
    subst e1 e2
    have hcp := (hF.own.cellAt p (by omega)).trans (links_get hpk)
    rw [HW.out] at c1
    obtain ⟨pv, hpv⟩ : ∃ pv, pv = prev d p := ⟨_, rfl⟩
    rw [← hpv] at hcp
    have hpv1 := prevF_lt d p p
    have HPB : Hd (-1 ≤ pv ∧ pv < p ∧ (0 ≤ pv → same3 d pv.toNat p) ∧ Going d p W [] pv) := ⟨by rw [hpv]; exact ⟨hpv1.2, hpv1.1, prevF_hit, Going.start (by omega)⟩⟩
    obtain ⟨ms, hms⟩ : ∃ ms, ms = most d p := ⟨_, rfl⟩
    have hms2 : ms = min 258 (n - p) := by rw [hms, ← hl]; rfl
    have hms3 : 3 ≤ ms := by omega
    have hms258 : ms ≤ 258 := by omega
    have HMS := Hd.mk hms
    have HMS2 := Hd.mk hms2
    clear hF hpv hpv1 hms hms2
    go_enter Tryz.func121, Tryz.ntmps121
    go_upto_region 4 with (fail)
    go_cut [6] from 17 to 25 (fun s6 wd => s6 = .int .i64 (ms : Nat) ∧ wd = w)
    case first =>
      by_cases h4 : 258 ≤ n - p
      · obtain rfl : ms = 258 := by have := HMS2.out; omega
        have e6 : (n : Int) - (p : Int) = ((n - p : Nat) : Int) := by omega
        have e7 : (258 : Int) ≤ ((n - p : Nat) : Int) := by omega
        go_wp2
        go_meet
        exact ⟨rfl, rfl⟩
      · have e6 : (n : Int) - (p : Int) = (ms : Int) := by have := HMS2.out; omega
        have e7 : ¬ (258 : Int) ≤ (ms : Int) := by have := HMS2.out; omega
        go_wp2
        go_meet
        exact ⟨rfl, rfl⟩
    case rest =>
      obtain ⟨rfl, rfl⟩ := hcut
      obtain ⟨wo, rfl⟩ : ∃ wo : World, wo = wc := ⟨_, rfl⟩
      go_wp2
      go_loopg [5, 7] (p + 1) (fun kq sv cv wr => ∃ (L : List Nat) (A1 : Option Addr) (m d2 : Nat) (x : Int), sv = .slice A1 m d2 ∧ cv = .int .i64 x ∧ L.length = m ∧ m ≤ 258 ∧ -1 ≤ x ∧ x < p ∧ (x + 1).toNat ≤ kq ∧ Hd (0 ≤ x → same3 d x.toNat p) ∧ Hd (Going d p W L x) ∧ Hd (wr.ownsRow 0 3 1 (.slice A1 m d2) m (nats L)) ∧ Hd (∀ y, (Value.slice A1 m d2).ownBlock = some y → wo.heap.size ≤ y) ∧ Hd (Fr wo wr []))
      case atStart => exact ⟨[], none, 0, 0, pv, rfl, rfl, rfl, by omega, HPB.out.1, HPB.out.2.1, by have := HPB.out.2.1; omega, ⟨HPB.out.2.2.1⟩, ⟨HPB.out.2.2.2⟩, ⟨own_nil _ _ _ _⟩, ⟨by intro y hy; cases hy⟩, ⟨Fr.refl _ _⟩⟩
      case round =>
        obtain ⟨ws, rfl⟩ : ∃ ws : World, ws = wr := ⟨_, rfl⟩
        obtain ⟨gx, rfl⟩ : ∃ gx : Nat, gx = gk := ⟨_, rfl⟩
        obtain ⟨L, A1, m, d2, x, rfl, rfl, hLm, hm258, hx0, hx1, hxk, HSx, HGo, HO, HB, HG⟩ := hrel
        have e1 := (World.cell?_of_block (w := wo) (HG.out.block g (World.block_lt_of_cell? wo _ c1) (by simp)) : ws.cell? ⟨g, 1, none⟩ = _).trans c1
        by_cases h5 : x < 0
        · have HI : Hd (IsNear d p W L) := ⟨HGo.out.stop (.inl h5)⟩
          obtain rfl : x = -1 := by omega
          subst hLm
          go_wp2
          go_ret
          exact ⟨A1, d2, L, rfl, HO.out, HI.out, HB.out, HG.out⟩
        · obtain ⟨x, rfl⟩ := Int.eq_ofNat_of_zero_le (show 0 ≤ x by omega)
          have hsub : (p : Int) - (x : Int) = ((p - x : Nat) : Int) := by omega
          by_cases h6 : p - x ≤ W
          · have hms4 : (ms : Int) - 3 = ((ms - 3 : Nat) : Int) := by omega
            by_cases h7 : m ≤ ms - 3
            · obtain ⟨al, hal⟩ : ∃ al, al = alike d x p := ⟨_, rfl⟩
              have halb : al ≤ 258 := by rw [hal]; exact alike_le d x p
              have hal3 : 3 ≤ al := by rw [hal]; exact (alike_three (by omega)).2 (HSx.out (by omega))
              have HAL := Hd.mk hal
              clear hal
              go_wp2_with (fail)
              refine (common_any ws x p (by omega) (by omega) hn (HF.out.frame HG.out)).mono ?_
              rintro e w3 ⟨rfl, h3g⟩
              rw [← HAL.out]
              have HG3 := Hd.mk (HG.out.trans h3g (by simp))
              have HO3 := Hd.mk (own_frame HO.out h3g (by simp))
              clear h3g e1
              have hal4 : (al : Int) - 3 = ((al - 3 : Nat) : Int) := by omega
              go_wp2
              go_loopg [5] al (fun kq sv wr => ∃ (L2 : List Nat) (A2 : Option Addr) (m2 d3 : Nat), sv = .slice A2 m2 d3 ∧ L2.length = m2 ∧ m2 ≤ 258 ∧ al ≤ m2 + kq + 2 ∧ Hd (Going d p W L2 (x : Nat)) ∧ Hd (wr.ownsRow 0 3 1 (.slice A2 m2 d3) m2 (nats L2)) ∧ Hd (∀ y, (Value.slice A2 m2 d3).ownBlock = some y → wo.heap.size ≤ y) ∧ Hd (Fr wo wr []))
              case atStart => exact ⟨L, A1, m, d2, rfl, hLm, hm258, by omega, HGo, HO3, HB, HG3⟩
              case round =>
                clear HO HO3 HB HG HG3 HGo
                obtain ⟨L2, A2, m2, d3, rfl, hL2, hm2, hak, HGo2, HO2, HB2, HG2⟩ := hrel
                by_cases h8 : m2 ≤ al - 3
                · have hpush : Hd (Going d p W (L2 ++ [p - x]) (x : Nat)) := ⟨HGo2.out.push (by omega) (by omega) h6 (by rw [← HAL.out]; omega)⟩
                  go_wp2_with (at_builtin; refine wpList_append_sl rfl (.tmp 68) (.tmp 72) 79 rfl 3 j0 (.int .i64 0) 1 8 Tryz.underlying79 hj0 hj1 hj2 hj3 rfl (by decide) (.slice A2 m2 d3) m2 _ rfl (by exact HO2.out.alloc _) (some ⟨wr.heap.size, 0, none⟩) 1 1 [.int .i64 ((p - x : Nat) : Int)] (some wr.heap.size) rfl rfl (by exact sl_of_blk (blk_new _ _)) (by intro h; cases h) (by intro u hu; simp at hu; rcases hu with rfl; rfl) (by unfold maxLen; omega) (by omega) ?_; intro A3 d4 w4 hown' hgrow haft; have O3 := Hd.mk hown'; have G3 := Hd.mk hgrow; have F3 := Hd.mk haft; clear hown' hgrow haft)
                  go_roundg (gk - 1)
                  case measure => omega
                  case rel =>
                    refine ⟨L2 ++ [p - x], A3, m2 + 1, d4, rfl, by simp [hL2], by omega, by omega, hpush, ⟨?_⟩, ⟨?_⟩, ⟨(HG2.out.alloc _).grown G3.out (fun y hy => .inr (HB2.out y hy))⟩⟩
                    · rw [nats_app]; exact O3.out
                    · intro y hy
                      rcases F3.out with h | ⟨z, h, hz⟩
                      · rw [h] at hy; exact HB2.out y hy
                      · rw [h] at hy; cases hy; have := HG2.out.size; simp at hz; omega
                · obtain ⟨pv2, hpv2⟩ : ∃ pv2, pv2 = prev d x := ⟨_, rfl⟩
                  have hpv3 := prevF_lt d x x
                  have hpb2 : -1 ≤ pv2 ∧ pv2 < x := by rw [hpv2]; unfold prev; omega
                  have hs2 : Hd (0 ≤ pv2 → same3 d pv2.toNat p) := ⟨fun h => by
                    rw [hpv2] at h ⊢
                    exact same3_trans (prevF_hit h) (HSx.out (by omega))⟩
                  have hnext : Hd (Going d p W L2 pv2) := ⟨by rw [hpv2]; exact HGo2.out.next (by omega) (by omega) (by simpa using HSx.out (by omega)) (by rw [← HAL.out]; omega)⟩
                  have hcx := (HF.out.own.cellAt x (by omega)).trans (links_get (show x < kn by omega))
                  rw [← hpv2] at hcx
                  have e5 := (World.cell?_of_block (w := wo) (HG2.out.block g (World.block_lt_of_cell? wo _ c5) (by simp)) : wr.cell? ⟨g, 5, none⟩ = _).trans c5
                  have ex := (World.cell?_of_block (w := wo) (HG2.out.block ga (World.block_lt_of_cell? wo _ hcx) (by simp)) : wr.cell? ⟨ga, x, none⟩ = _).trans hcx
                  have hxk2 : x < kn := by omega
                  clear hpv2 hpv3
                  go_wp2
                  go_roundg (gx - 1)
                  case measure => omega
                  case rel => exact ⟨L2, A2, m2, d3, pv2, rfl, rfl, hL2, hm2, hpb2.1, by omega, by omega, hs2, hnext, HO2, HB2, HG2⟩
            · have HI : Hd (IsNear d p W L) := ⟨HGo.out.stop (.inr (.inr (by rw [← HMS.out]; omega)))⟩
              subst hLm
              go_wp2
              go_ret
              exact ⟨A1, d2, L, rfl, HO.out, HI.out, HB.out, HG.out⟩
          · have HI : Hd (IsNear d p W L) := ⟨HGo.out.stop (.inr (.inl (by omega)))⟩
            subst hLm
            go_wp2
            go_ret
            exact ⟨A1, d2, L, rfl, HO.out, HI.out, HB.out, HG.out⟩
end
end Go.Proofs.YtkdgfioigkijgaaGreat.Lz
