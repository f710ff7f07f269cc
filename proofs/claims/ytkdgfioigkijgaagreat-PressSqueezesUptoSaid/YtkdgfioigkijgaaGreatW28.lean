import Derived.Test.YtkdgfioigkijgaaGreatW01
import Derived.Test.YtkdgfioigkijgaaGreatW02
import Derived.Test.YtkdgfioigkijgaaGreatW03
import Derived.Test.YtkdgfioigkijgaaGreatW04
import Derived.Test.YtkdgfioigkijgaaGreatW05
import Derived.Test.YtkdgfioigkijgaaGreatW06
import Derived.Test.YtkdgfioigkijgaaGreatW07
import Derived.Test.YtkdgfioigkijgaaGreatW08
import Derived.Test.YtkdgfioigkijgaaGreatW09
import Derived.Test.YtkdgfioigkijgaaGreatW10
import Derived.Test.YtkdgfioigkijgaaGreatW11
import Derived.Test.YtkdgfioigkijgaaGreatW12
import Derived.Test.YtkdgfioigkijgaaGreatW13
import Derived.Test.YtkdgfioigkijgaaGreatW14
import Derived.Test.YtkdgfioigkijgaaGreatW15
import Derived.Test.YtkdgfioigkijgaaGreatW16
import Derived.Test.YtkdgfioigkijgaaGreatW17
import Derived.Test.YtkdgfioigkijgaaGreatW18
import Derived.Test.YtkdgfioigkijgaaGreatW19
import Derived.Test.YtkdgfioigkijgaaGreatW20
import Derived.Test.YtkdgfioigkijgaaGreatW21
import Derived.Test.YtkdgfioigkijgaaGreatW22
import Derived.Test.YtkdgfioigkijgaaGreatW23
import Derived.Test.YtkdgfioigkijgaaGreatW24
import Derived.Test.YtkdgfioigkijgaaGreatW25
import Derived.Test.YtkdgfioigkijgaaGreatW26
import Derived.Test.YtkdgfioigkijgaaGreatW27
import Derived.BigRegion
import Derived.BigQuiet
import Derived.Deep.QuietTactic
import Derived.Deep.LoopGhost
import Derived.Deep.DeepCutAuto
import Derived.KernelRfl
import Derived.Deep.RegionLaw
import Derived.Outline
import Derived.Deep.RegionHeld3
set_option linter.unusedVariables false
set_option linter.unusedSimpArgs false
set_option maxRecDepth 100000
namespace Go.Proofs.YtkdgfioigkijgaaGreat.Lz
open Go.RowKit Go.Maps Go.Proofs.YtkdgfioigkijgaaGreat.Lib Go.Proofs.YtkdgfioigkijgaaGreat.Num Go.Proofs.YtkdgfioigkijgaaGreat.Bits
theorem pbits_at (w : World) (x b : Nat) (hb : b = bitLen x) (hx : x ≤ 32768) : Calls Tryz.prog 122 #[.int .i64 (x : Nat)] w fun e w' => e = .returned (.int .i64 (b : Nat)) ∧ w = w' := by
  subst hb
  exact bitsOf_any w x (by omega) (by omega)
set_option maxHeartbeats 16000000 in
theorem cheap_any (w : World) (A : Option Addr) (n cc : Nat) (d : List Int) (q : Option Nat) (k : Opt) (c : Pr) (hS : SlArg w A n cc (u8s d) q) (hby : Bytes d) (hn : n ≤ 1048576) (er cost : Int) (ts : List Tok) (her : er = cheapErr k c) (hcost : cost = cheapCost d k c) (hts : ts = cheapToks d k c) :
    Calls Tryz.prog 74 #[.slice A n cc, .agg #[.int .i64 k.window, .int .i64 k.chain, .bool k.isLazy], .agg #[.int .i64 c.lit, .int .i64 c.mat, .int .i64 c.far]] w fun e w' => ∃ A' mm dd, e = .returned (.tuple #[.slice A' mm dd, .int .i64 cost, .int .i64 er]) ∧
      w'.ownsRow 0 77 3 (.slice A' mm dd) mm (tcells ts) ∧ (∀ y, (Value.slice A' mm dd).ownBlock = some y → w.heap.size ≤ y) ∧ Fr w w' [] := by
  obtain ⟨i0, hi0, hz0, hz1, hz2⟩ := info_parts infoTok
  obtain ⟨j0, hj0, hj1, hj2, hj3⟩ := info_parts infoI
  have HS := Hd.mk hS
  have hl : d.length = n := by have := hS.len; simpa [u8s] using this
  have HE := Hd.mk her
  have HC := Hd.mk hcost
  have HT := Hd.mk hts
  have HBy := Hd.mk hby
  clear hS her hcost hts hby
  have F0 := ((Fr.refl w []).alloc (.cells #[.int .i64 k.window, .int .i64 k.chain, .bool k.isLazy] 84)).alloc (.cells #[.int .i64 c.lit, .int .i64 c.mat, .int .i64 c.far] 165)
  have hk0 := blk_alloc (blk_new w (.cells #[.int .i64 k.window, .int .i64 k.chain, .bool k.isLazy] 84)) (.cells #[.int .i64 c.lit, .int .i64 c.mat, .int .i64 c.far] 165)
  have hp0 := blk_new (w.alloc (.cells #[.int .i64 k.window, .int .i64 k.chain, .bool k.isLazy] 84)) (.cells #[.int .i64 c.lit, .int .i64 c.mat, .int .i64 c.far] 165)
  rw [World.size_alloc] at hp0
  go_enter Tryz.func74, Tryz.ntmps74
  go_upto_region 1 with (fail)
  obtain ⟨kb, hkb⟩ : ∃ kb, kb = w.heap.size := ⟨_, rfl⟩
  obtain ⟨pb, hpb⟩ : ∃ pb, pb = w.heap.size + 1 := ⟨_, rfl⟩
  rw [← hpb] at hp0 ⊢
  rw [← hkb] at hk0 ⊢
  generalize hw0 : (w.alloc (.cells #[.int .i64 k.window, .int .i64 k.chain, .bool k.isLazy] 84)).alloc (.cells #[.int .i64 c.lit, .int .i64 c.mat, .int .i64 c.far] 165) = w1
  rw [hw0] at F0 hk0 hp0
  have F1 := Hd.mk F0
  have K1 := Hd.mk hk0
  have P1 := Hd.mk hp0
  have b0 := blk_cell hk0 0
  have b1 := blk_cell hk0 1
  have b2 := blk_cell hk0 2
  simp only [List.getElem?_toArray, List.getElem?_cons_zero, List.getElem?_cons_succ] at b0 b1 b2
  clear F0 hk0 hp0 hw0 hkb hpb
  obtain ⟨eo, heo⟩ : ∃ eo, eo = optErr k := ⟨_, rfl⟩
  have HEO := Hd.mk heo
  have heo2 : eo = 0 ∨ eo = 72 := heo ▸ optErr_two k
  clear heo
  go_wp2_with (fail)
  refine (opt_any w1 k eo HEO.out).mono ?_
  rintro e w2 ⟨rfl, h3⟩
  have F2 := Hd.mk (F1.out.trans h3 (by simp))
  have K2 := Hd.mk (h3.blk K1.out (by simp))
  have P2 := Hd.mk (h3.blk P1.out (by simp))
  clear h3 b0 b1 b2 K1 P1
  rcases heo2 with rfl | rfl
  · obtain ⟨bad, hbad⟩ : ∃ bad, bad = prBad c := ⟨_, rfl⟩
    have HBD := Hd.mk hbad
    clear hbad
    have p0 := blk_cell P2.out 0
    have p1 := blk_cell P2.out 1
    have p2 := blk_cell P2.out 2
    simp only [List.getElem?_toArray, List.getElem?_cons_zero, List.getElem?_cons_succ] at p0 p1 p2
    obtain ⟨x0, hx0⟩ : ∃ x0, x0 = c.lit := ⟨_, rfl⟩
    obtain ⟨x1, hx1⟩ : ∃ x1, x1 = c.mat := ⟨_, rfl⟩
    obtain ⟨x2, hx2⟩ : ∃ x2, x2 = c.far := ⟨_, rfl⟩
    have HB2 : Hd (bad = decide (x0 < 0 ∨ 1048576 < x0 ∨ x1 < 0 ∨ 1048576 < x1 ∨ x2 < 0 ∨ 1048576 < x2)) := ⟨by rw [hx0, hx1, hx2]; exact HBD.out⟩
    have hback : Hd (bad = true → er = 72 ∧ ts = [] ∧ cost = 0) := ⟨fun hb => by
      have h1 : cheapErr k c = 72 := by unfold cheapErr; rw [if_neg (by rw [← HEO.out]; simp), if_pos (by rw [← HBD.out]; exact hb)]
      refine ⟨HE.out.trans h1, ?_, ?_⟩
      · rw [HT.out]; unfold cheapToks; rw [if_neg (by rw [h1]; simp)]
      · rw [HC.out]; unfold cheapCost; rw [if_neg (by rw [h1]; simp)]⟩
    rw [← hx0] at p0
    rw [← hx1] at p1
    rw [← hx2] at p2
    have HX0 := Hd.mk hx0
    have HX1 := Hd.mk hx1
    have HX2 := Hd.mk hx2
    clear hx0 hx1 hx2
    go_wp2_with (fail)
    go_loopg [32] 3 (fun kq iv wr => ∃ i : Nat, iv = .int .i64 (i : Nat) ∧ i + kq = 3 ∧ wr = w2 ∧ (0 < i → 0 ≤ x0 ∧ x0 ≤ 1048576) ∧ (1 < i → 0 ≤ x1 ∧ x1 ≤ 1048576) ∧ (2 < i → 0 ≤ x2 ∧ x2 ≤ 1048576))
    case atStart => exact ⟨0, rfl, rfl, rfl, by omega, by omega, by omega⟩
    case round =>
      obtain ⟨i, rfl, hi, rfl, c0, c1, c2⟩ := hrel
      by_cases hi3 : i < 3
      · rcases (show i = 0 ∨ i = 1 ∨ i = 2 by omega) with rfl | rfl | rfl
        · clear p0 p1 p2
          have a0 : ∀ w : World, (Instr.index 216 (.agg #[.int .i64 x0, .int .i64 x1, .int .i64 x2]) (.int .i64 0)).run Tryz.prog w = .ok (.int .i64 x0) w := fun _ => by kernel_rfl
          by_cases h : x0 < 0
          · obtain ⟨rfl, rfl, rfl⟩ := hback.out (by rw [HB2.out]; exact decide_eq_true (by omega))
            go_wp2
            go_ret3
            exact ⟨none, 0, 0, rfl, own_nil _ _ _ _, (by intro j hj; cases hj), F2.out⟩
          · by_cases h2 : 1048576 < x0
            · obtain ⟨rfl, rfl, rfl⟩ := hback.out (by rw [HB2.out]; exact decide_eq_true (by omega))
              go_wp2
              go_ret3
              exact ⟨none, 0, 0, rfl, own_nil _ _ _ _, (by intro j hj; cases hj), F2.out⟩
            · go_wp2
              go_roundg (gk - 1)
              case measure => omega
              case rel => exact ⟨1, by go_num, by omega, rfl, fun _ => ⟨by omega, by omega⟩, by omega, by omega⟩
        · clear p0 p1 p2
          have a0 : ∀ w : World, (Instr.index 216 (.agg #[.int .i64 x0, .int .i64 x1, .int .i64 x2]) (.int .i64 1)).run Tryz.prog w = .ok (.int .i64 x1) w := fun _ => by kernel_rfl
          by_cases h : x1 < 0
          · obtain ⟨rfl, rfl, rfl⟩ := hback.out (by rw [HB2.out]; exact decide_eq_true (by omega))
            go_wp2
            go_ret3
            exact ⟨none, 0, 0, rfl, own_nil _ _ _ _, (by intro j hj; cases hj), F2.out⟩
          · by_cases h2 : 1048576 < x1
            · obtain ⟨rfl, rfl, rfl⟩ := hback.out (by rw [HB2.out]; exact decide_eq_true (by omega))
              go_wp2
              go_ret3
              exact ⟨none, 0, 0, rfl, own_nil _ _ _ _, (by intro j hj; cases hj), F2.out⟩
            · go_wp2
              go_roundg (gk - 1)
              case measure => omega
              case rel => exact ⟨2, by go_num, by omega, rfl, fun _ => c0 (by omega), fun _ => ⟨by omega, by omega⟩, by omega⟩
        · clear p0 p1 p2
          have a0 : ∀ w : World, (Instr.index 216 (.agg #[.int .i64 x0, .int .i64 x1, .int .i64 x2]) (.int .i64 2)).run Tryz.prog w = .ok (.int .i64 x2) w := fun _ => by kernel_rfl
          by_cases h : x2 < 0
          · obtain ⟨rfl, rfl, rfl⟩ := hback.out (by rw [HB2.out]; exact decide_eq_true (by omega))
            go_wp2
            go_ret3
            exact ⟨none, 0, 0, rfl, own_nil _ _ _ _, (by intro j hj; cases hj), F2.out⟩
          · by_cases h2 : 1048576 < x2
            · obtain ⟨rfl, rfl, rfl⟩ := hback.out (by rw [HB2.out]; exact decide_eq_true (by omega))
              go_wp2
              go_ret3
              exact ⟨none, 0, 0, rfl, own_nil _ _ _ _, (by intro j hj; cases hj), F2.out⟩
            · go_wp2
              go_roundg (gk - 1)
              case measure => omega
              case rel => exact ⟨3, by go_num, by omega, rfl, fun _ => c0 (by omega), fun _ => c1 (by omega), fun _ => ⟨by omega, by omega⟩⟩
      · obtain rfl : i = 3 := by omega
        obtain rfl : bad = false := by
          have := c0 (by omega)
          have := c1 (by omega)
          have := c2 (by omega)
          rw [HB2.out]
          exact decide_eq_false (by omega)
        obtain rfl : er = 0 := by rw [HE.out]; unfold cheapErr; rw [if_neg (by rw [← HEO.out]; simp), if_neg (by rw [← HBD.out]; simp)]
        have HPK : Hd (PrOk c) := ⟨prOk_of HBD.out.symm⟩
        have HOK : Hd (optErr k = 0) := ⟨HEO.out.symm⟩
        obtain ⟨hw1, hw2, _, _⟩ := optErr_ok HEO.out.symm
        obtain ⟨Wn, hW⟩ : ∃ Wn : Nat, k.window = (Wn : Nat) := ⟨k.window.toNat, by omega⟩
        have hWt : k.window.toNat = Wn := by omega
        have hWb : Wn ≤ 32768 := by omega
        have HX : Hd (ts = outF d Wn c n 0) := ⟨by rw [HT.out]; unfold cheapToks; rw [if_pos HE.out.symm, hWt, hl]⟩
        have HCC : Hd (cost = (tab d Wn c 0).1) := ⟨by rw [HC.out]; unfold cheapCost; rw [if_pos HE.out.symm, hWt]⟩
        have HW := Hd.mk hWt
        clear hW hWt hw1 hw2 p0 p1 p2 hback HB2 c0 c1 c2 hi hi3
        have b0 := blk_cell K2.out 0
        have b1 := blk_cell K2.out 1
        have b2 := blk_cell K2.out 2
        simp only [List.getElem?_toArray, List.getElem?_cons_zero, List.getElem?_cons_succ] at b0 b1 b2
        go_wp2_with (fail)
        refine (new_any wr A n cc d q k (HS.out.frame F2.out (by simp)) HBy.out).mono ?_
        rintro e w3 ⟨g, B, rfl, hf, hg, hB, h2⟩
        have HF3 := Hd.mk hf
        have F3 := Hd.mk (F2.out.trans h2 (by simp))
        have K3 := Hd.mk (h2.blk K2.out (by simp))
        have P3 := Hd.mk (h2.blk P2.out (by simp))
        have HGB := Hd.mk (And.intro hg hB)
        have KLT := Hd.mk (And.intro (blk_lt K2.out) (blk_lt P2.out))
        clear hf hg hB h2 b0 b1 b2 K2 P2
        go_wp2_with (fail)
        refine (learn_any w3 ((n : Int) - 1) (by omega) (by omega) HF3.out).mono ?_
        rintro e w4 ⟨rfl, E, ec, kn, _, hkn, hf4, _, h4⟩
        have HF4 := Hd.mk hf4
        have HKN := Hd.mk hkn
        have F4 : Hd (Fr w w4 []) := ⟨F3.out.trans h4 (fun y hy hm => by
          have h0 := F2.out.size
          have h1 := HGB.out
          simp only [Value.ownBlock, Option.toList, List.mem_cons, List.not_mem_nil, or_false] at hm
          rcases hm with e | e <;> omega)⟩
        have hkb2 : Hd (¬ kb ∈ g :: B :: (Value.slice none 0 0).ownBlock.toList ∧ ¬ pb ∈ g :: B :: (Value.slice none 0 0).ownBlock.toList) := ⟨by
          have h0 := KLT.out
          have h1 := HGB.out
          simp only [Value.ownBlock, Option.toList, List.mem_cons, List.not_mem_nil, or_false]
          omega⟩
        have K4 := Hd.mk (h4.blk K3.out hkb2.out.1)
        have P4 := Hd.mk (h4.blk P3.out hkb2.out.2)
        clear hf4 hkn h4 K3 P3 HF3 F3 hkb2 KLT HGB
        have F4' : Hd (Fr w4 w4 []) := ⟨Fr.refl _ _⟩
        go_wp2_with (first | (refine wpList_make_full _ rfl _ _ 79 rfl 0 3 j0 (.int .i64 0) 1 Tryz.underlying79 hj0 hj1 hj2 .i64 .i64 _ _ (n + 1) rfl rfl rfl rfl (by rw [hj3]; omega) (by unfold maxLen; omega) (Nat.zero_le _) ?_; intro w5 hown1 hgrow1; have O5 := Hd.mk hown1; have F5 := Hd.mk (F4'.out.grown hgrow1 (by simp)); have K5 := Hd.mk (blk_grown hgrow1 K4.out (by simp)); have P5 := Hd.mk (blk_grown hgrow1 P4.out (by simp)); clear hown1 hgrow1) | (refine wpList_make_full _ rfl _ _ 41 rfl 0 77 i0 (.agg #[.int .u8 0, .int .i64 0, .int .i64 0]) 3 Tryz.underlying41 hi0 hz0 hz1 .i64 .i64 _ _ n rfl rfl rfl rfl (by rw [hz2]; omega) (by unfold maxLen; omega) (Nat.zero_le _) ?_; intro w6 hown1 hgrow1; have O6 := Hd.mk hown1; have F6 := Hd.mk (F5.out.grown hgrow1 (by simp)); have K6 := Hd.mk (blk_grown hgrow1 K5.out (by simp)); have P6 := Hd.mk (blk_grown hgrow1 P5.out (by simp)); have O56 := Hd.mk (own_frame O5.out ((Fr.refl w5 []).grown hgrow1 (by simp)) (by simp)); clear hown1 hgrow1))
        have hgl : w4.heap.size ≤ w4.heap.size := Nat.le_refl _
        have hgf : w4.heap.size ≤ w5.heap.size := F5.out.size
        have hTb : Hd (Tb w4 w6 77 kb pb w4.heap.size w5.heap.size n n 84 165 k c d Wn n (madeCells (Value.int .i64 0).cells ((n + 1) * 1)).toList (madeCells (Value.agg #[.int .u8 0, .int .i64 0, .int .i64 0]).cells (n * 3)).toList) := ⟨⟨O56.out, O6.out, fun i h1 h2 => by
          obtain rfl : i = n := by omega
          rw [tab_end d Wn c (by omega)]
          have e := toList_madeCells_one (Value.int .i64 0) ((i + 1) * 1)
          have e2 : (Value.int .i64 0).cells = #[Value.int .i64 0] := rfl
          rw [e2, e]
          simp, fun i h1 h2 => by omega, K6.out, P6.out, hgl, hgf, F6.out, by decide⟩⟩
        obtain ⟨zs0, hzs0⟩ : ∃ zs, zs = (madeCells (Value.int .i64 0).cells ((n + 1) * 1)).toList := ⟨_, rfl⟩
        obtain ⟨ys0, hys0⟩ : ∃ ys, ys = (madeCells (Value.agg #[.int .u8 0, .int .i64 0, .int .i64 0]).cells (n * 3)).toList := ⟨_, rfl⟩
        rw [← hzs0, ← hys0] at hTb
        obtain ⟨gl, hglq⟩ : ∃ gl, gl = w4.heap.size := ⟨_, rfl⟩
        obtain ⟨gf, hgfq⟩ : ∃ gf, gf = w5.heap.size := ⟨_, rfl⟩
        rw [← hglq, ← hgfq] at hTb
        rw [← hglq, ← hgfq]
        clear hzs0 hys0 hglq hgfq O5 O6 O56 K4 K5 K6 P4 P5 P6 F4' F5 F6 hgl hgf
        go_wp2
        go_loopg [14] n (fun kq qv wr => ∃ (zs ys : List Value), qv = .int .i64 ((kq : Int) - 1) ∧ kq ≤ n ∧ Hd (Tb w4 wr 77 kb pb gl gf n n 84 165 k c d Wn kq zs ys))
        case atStart => exact ⟨zs0, ys0, by go_num, Nat.le_refl _, hTb⟩
        case round =>
          obtain ⟨gx, rfl⟩ : ∃ gx : Nat, gx = gk := ⟨_, rfl⟩
          obtain ⟨zs, ys, rfl, hkn, HTb⟩ := hrel
          cases gx with
          | zero =>
            have e0 : (((0 : Nat) : Int) - 1) = -1 := by omega
            rw [e0]
            clear e0
            go_wp2
            go_loopg [19, 20] n (fun kq ov pv wq => ∃ (p : Nat) (A1 : Option Addr) (m d1 : Nat) (P : List Tok), ov = .slice A1 m d1 ∧ pv = .int .i64 (p : Nat) ∧ p ≤ n ∧ m ≤ p ∧ p + kq = n ∧ Hd (ts = P ++ outF d Wn c n p) ∧ Hd (wq.ownsRow 0 77 3 (.slice A1 m d1) m (tcells P)) ∧ Hd (∀ y, (Value.slice A1 m d1).ownBlock = some y → wr.heap.size ≤ y) ∧ Hd (Fr wr wq []))
            case atStart => exact ⟨0, none, 0, 0, [], rfl, rfl, Nat.zero_le _, Nat.le_refl _, by omega, ⟨HX.out⟩, ⟨own_nil _ _ _ _⟩, ⟨by intro j hj; cases hj⟩, ⟨Fr.refl _ _⟩⟩
            case round =>
              obtain ⟨p, A1, m, d1, P, rfl, rfl, hpn, hmp, hpk, HP, HO, HB, HF⟩ := hrel
              obtain ⟨wx, rfl⟩ : ∃ wx : World, wx = wr := ⟨_, rfl⟩
              have HTq := Hd.mk (HTb.out.call HF.out)
              by_cases h1 : p < n
              · have q0 := (HTq.out.oy.cellAt (p * 3) (by omega)).trans (HTq.out.yget p (Nat.zero_le _) h1 0 (by omega))
                have q1 := (HTq.out.oy.cellAt (p * 3 + 1) (by omega)).trans (HTq.out.yget p (Nat.zero_le _) h1 1 (by omega))
                have q2 := (HTq.out.oy.cellAt (p * 3 + 2) (by omega)).trans (HTq.out.yget p (Nat.zero_le _) h1 2 (by omega))
                have HST := Hd.mk (outF_step (d := d) (W := Wn) (c := c) (f := n) (p := p) (by omega) (by omega))
                rcases tab_tok (d := d) (w := Wn) (c := c) (p := p) (by omega) with ht | ⟨l, hl3, hl258, hpl, hnr, ht⟩
                · rw [ht] at q0 q1 q2
                  obtain ⟨x, hx⟩ : ∃ x, x = at0 d p := ⟨_, rfl⟩
                  rw [← hx] at q0 q1 q2 ht
                  have HTT := Hd.mk ht
                  have z0 : wx.cell? ⟨gf, p * 3, none⟩ = some (.int .u8 x) := q0
                  have z1 : wx.cell? ⟨gf, p * 3 + 1, none⟩ = some (.int .i64 0) := q1
                  have z2 : wx.cell? ⟨gf, p * 3 + 2, none⟩ = some (.int .i64 0) := q2
                  clear ht hx q0 q1 q2
                  have hp1 : (p : Int) < (n : Int) + 1 := by omega
                  go_upto_region 30 with (fail)
                  have N1 := blk_new wx (.cells #[.int .u8 x, .int .i64 0, .int .i64 0] 77)
                  have F2 := Hd.mk (HF.out.alloc (.cells #[.int .u8 x, .int .i64 0, .int .i64 0] 77))
                  have O2 := Hd.mk (HO.out.alloc (.cells #[.int .u8 x, .int .i64 0, .int .i64 0] 77))
                  have hne : Hd (some wx.heap.size ≠ (Value.slice A1 m d1).ownBlock) := ⟨by
                    intro e
                    obtain ⟨cs, hcs⟩ := own_type HO.out e.symm
                    exact Nat.lt_irrefl _ (blk_lt hcs)⟩
                  generalize wx.alloc (.cells #[.int .u8 x, .int .i64 0, .int .i64 0] 77) = wy at *
                  generalize wx.heap.size = tb at *
                  have n0 := blk_cell N1 0
                  have n1 := blk_cell N1 1
                  have n2 := blk_cell N1 2
                  simp only [List.getElem?_toArray, List.getElem?_cons_zero, List.getElem?_cons_succ] at n0 n1 n2
                  have N2 := Hd.mk N1
                  clear N1 z0 z1 z2
                  go_wp2_with (at_builtin; refine wpList_append_sl rfl (.tmp 150) (.tmp 152) 41 rfl 77 i0 (.agg #[.int .u8 0, .int .i64 0, .int .i64 0]) 3 24 Tryz.underlying41 hi0 hz0 hz1 hz2 rfl (by decide) (.slice A1 m d1) m _ rfl (by exact O2.out.alloc _) (some ⟨wy.heap.size, 0, none⟩) 1 1 [.int .u8 x, .int .i64 0, .int .i64 0] (some wy.heap.size) rfl rfl (by exact sl_of_blk (blk_new _ _)) (by intro h; cases h) (by intro u hu; simp at hu; rcases hu with rfl | rfl | rfl <;> rfl) (by unfold maxLen; omega) (by omega) ?_; intro A3 d3 w6 hown' hgrow haft; have O3 := Hd.mk hown'; have G3 := Hd.mk hgrow; have F3 := Hd.mk haft; have m1 := blk_cell (blk_grown hgrow (blk_alloc N2.out _) hne.out) 1; simp only [List.getElem?_toArray, List.getElem?_cons_zero, List.getElem?_cons_succ] at m1; clear hown' hgrow haft n0 n1 n2)
                  go_roundg (gk - 1)
                  case measure => omega
                  case rel =>
                    refine ⟨p + 1, A3, m + 1, d3, P ++ [(tab d Wn c p).2], rfl, by go_num, by omega, by omega, by omega, ⟨by rw [HP.out, HST.out, List.append_assoc, HTT.out]; rfl⟩, ⟨?_⟩, ⟨tokOwn_new HB.out F2.out.size F3.out⟩, ⟨(F2.out.alloc _).grown G3.out (fun y hy => .inr (HB.out y hy))⟩⟩
                    rw [tcells_app, HTT.out]
                    exact O3.out
                · rw [ht] at q0 q1 q2
                  obtain ⟨k2, hk2⟩ : ∃ k2, k2 = near d p l Wn := ⟨_, rfl⟩
                  rw [← hk2] at q0 q1 q2 ht hnr
                  have hl0 : (((l : Nat) : Int) == 0) = false := by simp; omega
                  have HTT := Hd.mk ht
                  have z0 : wx.cell? ⟨gf, p * 3, none⟩ = some (.int .u8 0) := q0
                  have z1 : wx.cell? ⟨gf, p * 3 + 1, none⟩ = some (.int .i64 (l : Nat)) := q1
                  have z2 : wx.cell? ⟨gf, p * 3 + 2, none⟩ = some (.int .i64 (k2 : Nat)) := q2
                  clear ht hk2 q0 q1 q2
                  have hp1 : (p : Int) < (n : Int) + 1 := by omega
                  go_upto_region 30 with (fail)
                  have N1 := blk_new wx (.cells #[.int .u8 0, .int .i64 (l : Nat), .int .i64 (k2 : Nat)] 77)
                  have F2 := Hd.mk (HF.out.alloc (.cells #[.int .u8 0, .int .i64 (l : Nat), .int .i64 (k2 : Nat)] 77))
                  have O2 := Hd.mk (HO.out.alloc (.cells #[.int .u8 0, .int .i64 (l : Nat), .int .i64 (k2 : Nat)] 77))
                  have hne : Hd (some wx.heap.size ≠ (Value.slice A1 m d1).ownBlock) := ⟨by
                    intro e
                    obtain ⟨cs, hcs⟩ := own_type HO.out e.symm
                    exact Nat.lt_irrefl _ (blk_lt hcs)⟩
                  generalize wx.alloc (.cells #[.int .u8 0, .int .i64 (l : Nat), .int .i64 (k2 : Nat)] 77) = wy at *
                  generalize wx.heap.size = tb at *
                  have n0 := blk_cell N1 0
                  have n1 := blk_cell N1 1
                  have n2 := blk_cell N1 2
                  simp only [List.getElem?_toArray, List.getElem?_cons_zero, List.getElem?_cons_succ] at n0 n1 n2
                  have N2 := Hd.mk N1
                  clear N1 z0 z1 z2
                  go_wp2_with (at_builtin; refine wpList_append_sl rfl (.tmp 150) (.tmp 152) 41 rfl 77 i0 (.agg #[.int .u8 0, .int .i64 0, .int .i64 0]) 3 24 Tryz.underlying41 hi0 hz0 hz1 hz2 rfl (by decide) (.slice A1 m d1) m _ rfl (by exact O2.out.alloc _) (some ⟨wy.heap.size, 0, none⟩) 1 1 [.int .u8 0, .int .i64 (l : Nat), .int .i64 (k2 : Nat)] (some wy.heap.size) rfl rfl (by exact sl_of_blk (blk_new _ _)) (by intro h; cases h) (by intro u hu; simp at hu; rcases hu with rfl | rfl | rfl <;> rfl) (by unfold maxLen; omega) (by omega) ?_; intro A3 d3 w6 hown' hgrow haft; have O3 := Hd.mk hown'; have G3 := Hd.mk hgrow; have F3 := Hd.mk haft; have m1 := blk_cell (blk_grown hgrow (blk_alloc N2.out _) hne.out) 1; simp only [List.getElem?_toArray, List.getElem?_cons_zero, List.getElem?_cons_succ] at m1; clear hown' hgrow haft n0 n1 n2)
                  go_roundg (gk - l)
                  case measure => omega
                  case rel =>
                    refine ⟨p + l, A3, m + 1, d3, P ++ [(tab d Wn c p).2], rfl, by go_num, by omega, by omega, by omega, ⟨by rw [HP.out, HST.out, List.append_assoc, HTT.out, show max ((⟨0, (l : Nat), (k2 : Nat)⟩ : Tok).len.toNat) 1 = l from by simp; omega]; rfl⟩, ⟨?_⟩, ⟨tokOwn_new HB.out F2.out.size F3.out⟩, ⟨(F2.out.alloc _).grown G3.out (fun y hy => .inr (HB.out y hy))⟩⟩
                    rw [tcells_app, HTT.out]
                    exact O3.out
              · obtain rfl : p = n := by omega
                have hpp : Hd (ts = P) := ⟨by rw [HP.out, outF_end (by omega), List.append_nil]⟩
                have z1 := (HTq.out.oz.cellAt 0 (by omega)).trans (HTq.out.zget 0 (by omega) (by omega))
                rw [← HCC.out] at z1
                go_wp2_with (fail)
                go_region
                go_wp2
                go_ret3
                exact ⟨A1, m, d1, rfl, by rw [hpp.out]; exact own_frame HO.out ((Fr.refl _ []).drew) (by simp), fun y hy => Nat.le_trans F4.out.size (Nat.le_trans HTb.out.fr.size (HB.out y hy)), ((F4.out.trans HTb.out.fr (by simp)).trans HF.out (by simp)).drew⟩
          | succ t =>
            have e0 : (((t + 1 : Nat) : Int) - 1) = (t : Int) := by omega
            rw [e0]
            clear e0
            obtain ⟨r, hr⟩ : ∃ r, r = (tab d Wn c (t + 1)).1 := ⟨_, rfl⟩
            have HR := Hd.mk hr
            have hrb : 0 ≤ r ∧ r ≤ 1099511627776 := by
              have := tab_bound (d := d) (w := Wn) HPK.out (n - (t + 1)) (t + 1) (by omega)
              have h3 : ((n - (t + 1) : Nat) : Int) * 1048576 ≤ 1048576 * 1048576 := Int.mul_le_mul (by omega) (by omega) (by omega) (by omega)
              rw [hr]
              omega
            have z1 := (HTb.out.oz.cellAt (t + 1) (by omega)).trans (HTb.out.zget (t + 1) (by omega) (by omega))
            rw [← hr] at z1
            obtain ⟨v0, z0, f0⟩ := own_any HTb.out.oz (j := t) (by omega)
            have p0 := blk_cell HTb.out.pblk 0
            simp only [List.getElem?_toArray, List.getElem?_cons_zero, List.getElem?_cons_succ] at p0
            rw [← HX0.out] at p0
            have hx0b : 0 ≤ x0 ∧ x0 ≤ 1048576 := by rw [HX0.out]; exact ⟨HPK.out.1, HPK.out.2.1⟩
            have ht1 : (t : Int) < (n : Int) + 1 := by omega
            have ht2 : (t : Int) + 1 < (n : Int) + 1 := by omega
            clear hr
            go_wp2_with (fail)
            go_region
            have HT1 := Hd.mk ((HTb.out.setL (Nat.lt_succ_self t) (.int .i64 (x0 + r))).call ((Fr.refl _ []).drew))
            generalize ((wr.setCell ⟨gl, t, none⟩ (.int .i64 (x0 + r))).drew) = w5 at *
            generalize hzs1 : zs.set t (.int .i64 (x0 + r)) = zs1 at HT1
            have hzt : zs1[t]? = some (.int .i64 (x0 + r)) := by rw [← hzs1]; exact List.getElem?_set_self (by have := HTb.out.oz.1; omega)
            have HZT := Hd.mk hzt
            clear hzs1 hzt HTb z0 z1 f0 p0
            obtain ⟨bd, off, ed, _, hcc⟩ := (HS.out.sl.frame (F4.out.trans HT1.out.fr (by simp)) (by simp)) (by rw [u8s_length]; omega)
            subst ed
            have kd := (hcc t (by rw [u8s_length]; omega)).trans (u8s_at (by omega))
            obtain ⟨x, hx⟩ : ∃ x, x = at0 d t := ⟨_, rfl⟩
            rw [← hx] at kd
            have HXX := Hd.mk hx
            clear hcc hx
            obtain ⟨u0, y0, f0⟩ := own_any HT1.out.oy (j := t * 3) (by omega)
            obtain ⟨u1, y1, f1⟩ := own_any HT1.out.oy (j := t * 3 + 1) (by omega)
            obtain ⟨u2, y2, f2⟩ := own_any HT1.out.oy (j := t * 3 + 2) (by omega)
            go_wp2_with (fail)
            have HT2 := Hd.mk (HT1.out.setF (Nat.lt_succ_self t) (.int .u8 x) (.int .i64 0) (.int .i64 0))
            generalize (((w5.setCell ⟨gf, t * 3, none⟩ (.int .u8 x)).setCell ⟨gf, t * 3 + 1, none⟩ (.int .i64 0)).setCell ⟨gf, t * 3 + 2, none⟩ (.int .i64 0)) = w6 at *
            have hys : ∀ j, j < 3 → (((ys.set (t * 3) (.int .u8 x)).set (t * 3 + 1) (.int .i64 0)).set (t * 3 + 2) (.int .i64 0))[j + t * 3]? = (tcell ⟨x, 0, 0⟩)[j]? := by
              have hlen2 := HT1.out.oy.1
              exact set3_get (by omega)
            generalize ((ys.set (t * 3) (.int .u8 x)).set (t * 3 + 1) (.int .i64 0)).set (t * 3 + 2) (.int .i64 0) = ys2 at HT2 hys
            have HYS := Hd.mk hys
            clear hys y0 y1 y2 f0 f1 f2 u0 u1 u2 kd HT1
            go_wp2_with (fail)
            have hgb : gl < w6.heap.size ∧ gf < w6.heap.size := by
              obtain ⟨cs, hcs⟩ := own_type HT2.out.oz (k := gl) rfl
              obtain ⟨ds, hds⟩ := own_type HT2.out.oy (k := gf) rfl
              exact ⟨blk_lt hcs, blk_lt hds⟩
            refine (nearest_any w6 t (by omega) (by omega) HOK.out (fun h => HKN.out t (by omega) h) (HF4.out.frame2 HT2.out.fr (by simp))).mono ?_
            rintro e w7 ⟨A7, d7, L, rfl, hoL, hnear, hyL, h7⟩
            have HT3 := Hd.mk (HT2.out.call h7)
            have HNL : Hd (∀ y, (Value.slice A7 L.length d7).ownBlock = some y → y ≠ gl ∧ y ≠ gf) := ⟨fun y hy => by have := hyL y hy; omega⟩
            rw [HW.out] at hnear
            have hLl : L.length ≤ 256 := by
              rcases hnear.len with e | e
              · unfold most at e; omega
              · rw [e]; simp
            have HOL := Hd.mk hoL
            have HNR := Hd.mk hnear
            clear hoL hnear hyL h7 HT2 hgb
            obtain ⟨ll, hll⟩ : ∃ ll, ll = L.length := ⟨_, rfl⟩
            have HLL := Hd.mk hll
            rw [← hll] at HOL HNL hLl ⊢
            clear hll
            go_wp2
            go_loopg [87] ll (fun kq iv wr => ∃ (zs ys : List Value) (cur : Int × Tok) (i : Nat), iv = .int .i64 (i : Nat) ∧ i + kq = ll ∧ Hd (Tb w4 wr 77 kb pb gl gf n n 84 165 k c d Wn (t + 1) zs ys) ∧ Hd (zs[t]? = some (.int .i64 cur.1)) ∧ Hd (∀ j, j < 3 → ys[j + t * 3]? = (tcell cur.2)[j]?) ∧ 0 ≤ cur.1 ∧ cur.1 ≤ 1099512676352 ∧ 0 ≤ cur.2.len ∧ cur.2.len ≤ 300 ∧ Hd (tab d Wn c t = ascF t c (fun i => (tab d Wn c i).1) (L.drop i) i cur) ∧ Hd (wr.ownsRow 0 3 1 (.slice A7 ll d7) ll (nats L)))
            case atStart => exact ⟨zs1, ys2, (x0 + r, ⟨x, 0, 0⟩), 0, rfl, by omega, HT3, HZT, HYS, by simp only; omega, by simp only; omega, by simp only; omega, by simp only; omega, ⟨by rw [tab_step (by omega)]; unfold entry; rw [List.drop_zero, asc_desc (by omega) HNR.out _ rfl, HX0.out, HR.out, HXX.out]⟩, HOL⟩
            case round =>
              clear HT3 HZT HYS HOL
              obtain ⟨zs, ys, ⟨cv, ct⟩, i, rfl, hil, HT3, HZT, HYS, hc0, hc1, hct, hct2, HTA, HOL⟩ := hrel
              by_cases hi : i < ll
              · obtain ⟨ga, d1, e1, hd1⟩ := own_some HOL.out (by omega)
                injection e1 with e1 _ e2
                subst e1 e2
                obtain ⟨dd, hdd⟩ : ∃ dd : Nat, L[i]? = some dd := by
                  have := HLL.out
                  exact ⟨_, List.getElem?_eq_getElem (show i < L.length by omega)⟩
                have kd : wr.cell? ⟨ga, i, none⟩ = some (.int .i64 (dd : Nat)) := (HOL.out.cellAt i (by omega)).trans (by unfold nats; rw [List.getElem?_map, hdd]; rfl)
                have hid : (dd = near d t (3 + i) Wn ∧ 1 ≤ dd) ∧ t + (3 + i) ≤ n := by
                  have hll := HLL.out
                  obtain ⟨e, he⟩ := List.getElem?_eq_some_iff.mp hdd
                  have := HNR.out.get i e
                  rw [he] at this
                  refine ⟨this, ?_⟩
                  rcases HNR.out.len with e3 | e3
                  · unfold most at e3; omega
                  · rw [e3] at e; simp at e
                have HDR : Hd (L.drop i = dd :: L.drop (i + 1)) := ⟨by
                  obtain ⟨e, he⟩ := List.getElem?_eq_some_iff.mp hdd
                  rw [List.drop_eq_getElem_cons e, he]⟩
                have hddb : dd ≤ 32768 := by
                  have := (nearF_le (d := d) (p := t) (n := 3 + i) (w := Wn) (t + 1) 1).1
                  have := hid.1.1
                  unfold near at this
                  omega
                have hdd1 := hid.1.2
                have htl := hid.2
                obtain ⟨l, hl3⟩ : ∃ l : Nat, l = 3 + i := ⟨_, rfl⟩
                have hlc : (3 : Int) + (i : Int) = (l : Int) := by omega
                have hl300 : l ≤ 300 := by omega
                have hl33 : 3 ≤ l := by omega
                rw [← hl3] at hid htl
                have HLI := Hd.mk hl3
                have hii : (i : Int) < (ll : Int) := by omega
                clear hdd hid hl3
                go_upto_region 22 with (fail)
                clear kd hlc
                obtain ⟨bl, hbl⟩ : ∃ bl, bl = bitLen dd := ⟨_, rfl⟩
                obtain ⟨z, hz⟩ : ∃ z, x2 * (bl : Int) = z := ⟨_, rfl⟩
                obtain ⟨rl, hrl⟩ : ∃ rl, rl = (tab d Wn c (t + l)).1 := ⟨_, rfl⟩
                have hrlb : 0 ≤ rl ∧ rl ≤ 1099511627776 := by
                  have := tab_bound (d := d) (w := Wn) HPK.out (n - (t + l)) (t + l) (by omega)
                  have h3 : ((n - (t + l) : Nat) : Int) * 1048576 ≤ 1048576 * 1048576 := Int.mul_le_mul (by omega) (by omega) (by omega) (by omega)
                  rw [hrl]
                  omega
                have hzb : 0 ≤ z ∧ z ≤ 67108864 := by
                  have := mcost_bound HPK.out dd hrlb.1
                  rw [← hbl, ← HX2.out, hz] at this
                  omega
                have hx1b : 0 ≤ x1 ∧ x1 ≤ 1048576 := by rw [HX1.out]; exact ⟨HPK.out.2.2.1, HPK.out.2.2.2.1⟩
                have z1 := (HT3.out.oz.cellAt (t + l) (by omega)).trans (HT3.out.zget (t + l) (by omega) (by omega))
                rw [← hrl] at z1
                have p1 := blk_cell HT3.out.pblk 1
                have p2 := blk_cell HT3.out.pblk 2
                simp only [List.getElem?_toArray, List.getElem?_cons_zero, List.getElem?_cons_succ] at p1 p2
                rw [← HX1.out] at p1
                rw [← HX2.out] at p2
                have HV : Hd (mcost c dd rl = x1 + z + rl) := ⟨by unfold mcost; rw [← hbl, ← HX1.out, ← HX2.out, hz]⟩
                have HBL := Hd.mk hbl
                have HRL := Hd.mk hrl
                clear hbl hrl
                have ht3 : (t : Int) + (l : Int) < (n : Int) + 1 := by omega
                have i1 : IntKind.i64.wrap (x2 * (bl : Int)) = z := by rw [hz]; exact IntWalk.i64_in _ ⟨by omega, by omega⟩
                have i2 : IntKind.i64.wrap (x1 + z) = x1 + z := IntWalk.i64_in _ ⟨by omega, by omega⟩
                have i3 : IntKind.i64.wrap ((t : Int) + (l : Int)) = (t : Int) + (l : Int) := IntWalk.i64_in _ ⟨by omega, by omega⟩
                have i4 : IntKind.i64.wrap (x1 + z + rl) = x1 + z + rl := IntWalk.i64_in _ ⟨by omega, by omega⟩
                have j1 : (decide ((t : Int) + (l : Int) < (n : Int) + 1)) = true := decide_eq_true ht3
                clear hz
                go_wp2_with (fail)
                go_quiet ((first | (go_at_call 122; exact quiet_left (pbits_at _ dd bl HBL.out hddb))))
                go_upto_region 23 with (fail)
                have HT4 := Hd.mk (HT3.out.call ((Fr.refl wr []).drewN nq))
                have HOL4 := Hd.mk (own_frame HOL.out ((Fr.refl wr []).drewN nq) (by simp))
                clear z1 p1 p2 i1 i2 i3 i4 j1 HT3 HOL
                generalize wr.drewN nq = w8 at *
                have hzt := HZT.out
                have z1 := (HT4.out.oz.cellAt t (by omega)).trans hzt
                have f1 := HT4.out.oz.frozenAt t
                have hyt := HYS.out 1 (by omega)
                have y1 : w8.cell? ⟨gf, t * 3 + 1, none⟩ = some (.int .i64 ct.len) := (HT4.out.oy.cellAt (t * 3 + 1) (by omega)).trans (by rw [Nat.add_comm]; exact hyt)
                clear hzt hyt
                obtain ⟨v, hv⟩ : ∃ v, v = x1 + z + rl := ⟨_, rfl⟩
                have hvb : 0 ≤ v := by omega
                rw [← hv] at HV ⊢
                clear hv
                have HST : Hd (ascF t c (fun i => (tab d Wn c i).1) (L.drop i) i (cv, ct) = ascF t c (fun i => (tab d Wn c i).1) (L.drop (i + 1)) (i + 1) (if v < cv ∨ (v = cv ∧ 0 < ct.len) then (v, ⟨0, (l : Int), (dd : Nat)⟩) else (cv, ct))) := ⟨by
                  have e3 := HV.out
                  rw [HRL.out] at e3
                  rw [HDR.out]
                  simp only [ascF]
                  rw [← HLI.out, e3]⟩
                obtain ⟨tl, htl2⟩ : ∃ tl, tl = ct.len := ⟨_, rfl⟩
                rw [← htl2] at y1 HST hct hct2
                have HTL := Hd.mk htl2
                clear htl2
                have k1 : (t : Int) < (n : Int) + 1 := by omega
                have k2 : (t : Int) < (n : Int) := by omega
                go_cut [130] from 109 to 131 (fun s wd => s = .bool (decide (v < cv ∨ (v = cv ∧ 0 < tl))) ∧ wd = w8)
                case first =>
                  by_cases h1 : v < cv
                  · have HE1 : Hd (decide (v < cv ∨ (v = cv ∧ 0 < tl)) = true) := ⟨decide_eq_true (.inl h1)⟩
                    have g1 : decide (v < cv) = true := decide_eq_true h1
                    go_wp2
                    go_meet
                    exact ⟨by rw [HE1.out], rfl⟩
                  · by_cases h2 : v = cv
                    · by_cases h3 : 0 < tl
                      · have HE1 : Hd (decide (v < cv ∨ (v = cv ∧ 0 < tl)) = true) := ⟨decide_eq_true (.inr ⟨h2, h3⟩)⟩
                        have g1 : decide (v < cv) = false := decide_eq_false h1
                        have g2 : (v == cv) = true := by simp; exact h2
                        clear h2
                        have g3 : decide (tl > 0) = true := decide_eq_true h3
                        go_wp2
                        go_meet
                        exact ⟨by rw [HE1.out], rfl⟩
                      · have HE1 : Hd (decide (v < cv ∨ (v = cv ∧ 0 < tl)) = false) := ⟨decide_eq_false (by omega)⟩
                        have g1 : decide (v < cv) = false := decide_eq_false h1
                        have g2 : (v == cv) = true := by simp; exact h2
                        clear h2
                        have g3 : decide (tl > 0) = false := decide_eq_false h3
                        go_wp2
                        go_meet
                        exact ⟨by rw [HE1.out], rfl⟩
                    · have HE1 : Hd (decide (v < cv ∨ (v = cv ∧ 0 < tl)) = false) := ⟨decide_eq_false (by omega)⟩
                      have g1 : decide (v < cv) = false := decide_eq_false h1
                      have g2 : (v == cv) = false := by simp; exact h2
                      go_wp2
                      go_meet
                      exact ⟨by rw [HE1.out], rfl⟩
                case rest =>
                  obtain ⟨rfl, rfl⟩ := hcut
                  obtain ⟨w9, rfl⟩ : ∃ w9 : World, w9 = wc := ⟨_, rfl⟩
                  have HT5 := Hd.mk HT4.out
                  have HOL5 := Hd.mk HOL4.out
                  clear z1 f1 y1 HT4 HOL4
                  by_cases hlt : v < cv ∨ (v = cv ∧ 0 < tl)
                  · have HTA2 : Hd (tab d Wn c t = ascF t c (fun i => (tab d Wn c i).1) (L.drop (i + 1)) (i + 1) (v, ⟨0, (l : Int), (dd : Nat)⟩)) := ⟨by rw [HTA.out, HST.out, if_pos hlt]⟩
                    rw [decide_eq_true hlt]
                    clear HTA HST HYS HZT
                    obtain ⟨u3, z1, f1⟩ := own_any HT5.out.oz (j := t) (by omega)
                    have HT6 := Hd.mk (HT5.out.setL (Nat.lt_succ_self t) (.int .i64 v))
                    obtain ⟨u0, y0, f2⟩ := own_any HT6.out.oy (j := t * 3) (by omega)
                    obtain ⟨u1, y1, f3⟩ := own_any HT6.out.oy (j := t * 3 + 1) (by omega)
                    obtain ⟨u2, y2, f4⟩ := own_any HT6.out.oy (j := t * 3 + 2) (by omega)
                    have hcv2 : v ≤ 1099512676352 := by omega
                    clear hlt
                    go_wp2
                    have HT7 := Hd.mk (HT6.out.setF (Nat.lt_succ_self t) (.int .u8 0) (.int .i64 (l : Int)) (.int .i64 (dd : Nat)))
                    have hfr : Hd (Fr w9 ((((w9.setCell ⟨gl, t, none⟩ (.int .i64 v)).setCell ⟨gf, t * 3, none⟩ (.int .u8 0)).setCell ⟨gf, t * 3 + 1, none⟩ (.int .i64 (l : Int))).setCell ⟨gf, t * 3 + 2, none⟩ (.int .i64 (dd : Nat))) [gl, gf]) := ⟨(((((Fr.refl w9 [gl, gf]).setCell _ (.inl (by simp))).setCell _ (.inl (by simp))).setCell _ (.inl (by simp))).setCell _ (.inl (by simp)))⟩
                    have HOL6 := Hd.mk (own_frame HOL5.out hfr.out (fun y hy hm => by
                      have := HNL.out y hy
                      simp only [List.mem_cons, List.not_mem_nil, or_false] at hm
                      omega))
                    go_roundg (gk - 1)
                    case measure => omega
                    case rel =>
                      have hlen1 := HT5.out.oz.1
                      have hlen2 := HT5.out.oy.1
                      exact ⟨_, _, (v, ⟨0, (l : Int), (dd : Nat)⟩), i + 1, by go_num, by omega, HT7, ⟨List.getElem?_set_self (by omega)⟩, ⟨set3_get (by omega)⟩, hvb, hcv2, by simp only; omega, by simp only; omega, HTA2, HOL6⟩
                  · have HTA2 : Hd (tab d Wn c t = ascF t c (fun i => (tab d Wn c i).1) (L.drop (i + 1)) (i + 1) (cv, ct)) := ⟨by rw [HTA.out, HST.out, if_neg hlt]⟩
                    rw [decide_eq_false hlt]
                    clear HTA HST hlt
                    go_wp2
                    go_roundg (gk - 1)
                    case measure => omega
                    case rel => exact ⟨zs, ys, (cv, ct), i + 1, by go_num, by omega, HT5, HZT, HYS, hc0, hc1, by rw [← HTL.out]; exact hct, by rw [← HTL.out]; exact hct2, HTA2, HOL5⟩
              · obtain rfl : i = ll := by omega
                have HTD := Hd.mk (HT3.out.done (by rw [HTA.out, HLL.out, List.drop_length]; exact HZT.out) (fun j hj => by rw [HTA.out, HLL.out, List.drop_length, Nat.add_comm]; exact HYS.out j hj))
                clear HTA HZT HYS
                go_wp2
                go_roundg t
                case measure => omega
                case rel => exact ⟨zs, ys, by go_num, by omega, HTD⟩
  · obtain rfl : er = 72 := by rw [HE.out]; unfold cheapErr; rw [if_pos (by rw [← HEO.out]; simp)]
    obtain rfl : ts = [] := by rw [HT.out]; unfold cheapToks; rw [if_neg (by rw [← HE.out]; simp)]
    obtain rfl : cost = 0 := by rw [HC.out]; unfold cheapCost; rw [if_neg (by rw [← HE.out]; simp)]
    go_wp2
    go_ret3
    exact ⟨none, 0, 0, rfl, own_nil _ _ _ _, (by intro j hj; cases hj), F2.out⟩
end Go.Proofs.YtkdgfioigkijgaaGreat.Lz
set_option linter.unusedVariables false
set_option linter.unusedSimpArgs false
set_option maxRecDepth 100000
namespace Go.Proofs.YtkdgfioigkijgaaGreat.Prs
open Go.RowKit Go.Proofs.YtkdgfioigkijgaaGreat.Lib Go.Proofs.YtkdgfioigkijgaaGreat.Ints Go.Proofs.YtkdgfioigkijgaaGreat.Lz Go.Proofs.YtkdgfioigkijgaaGreat.Num Go.Proofs.YtkdgfioigkijgaaGreat.Bits Go.Proofs.YtkdgfioigkijgaaGreat.Blk
set_option maxHeartbeats 16000000 in
theorem squeeze_any (w : World) (A : Option Addr) (n c : Nat) (d : List Int) (q : Option Nat) (k : Opt) (most rounds er : Int) (he : er = sqzErr k most rounds) (hS : SlArg w A n c (u8s d) q) (hby : Bytes d) (hn : n ≤ 1048576) (bs : List Int) (at_ : Nat) (hr : sqzN d k most rounds = (bs, at_)) :
    Calls Tryz.prog 43 #[.slice A n c, .agg #[.int .i64 k.window, .int .i64 k.chain, .bool k.isLazy, .int .i64 most], .int .i64 rounds] w fun e w' => ∃ A' c', e = .returned (.tuple #[.slice A' bs.length c', .int .i64 (at_ : Nat), .int .i64 er]) ∧ w'.ownsRow 0 5 1 (.slice A' bs.length c') bs.length (u8s bs) ∧ (∀ y, (Value.slice A' bs.length c').ownBlock = some y → w.heap.size ≤ y) ∧ Fr w w' [] := by
  have HS := Hd.mk hS
  have hl : d.length = n := by have := hS.len; simpa [u8s] using this
  have HBY := Hd.mk hby
  obtain ⟨e0, he0⟩ : ∃ e, e = popErr k most := ⟨_, rfl⟩
  have h2 : e0 = 0 ∨ e0 = 100 := he0 ▸ popErr_two k most
  have HE := Hd.mk he0
  have HER : Hd (er = if e0 ≠ 0 then e0 else if rounds < 0 ∨ 8 < rounds then 1 else 0) := ⟨by rw [he, he0]; rfl⟩
  have HSQ : Hd (sqzN d k most rounds = (bs, at_) ∧ er = sqzErr k most rounds) := ⟨hr, he⟩
  clear he hS hby hr he0
  go_enter Tryz.func43, Tryz.ntmps43
  have F0 := Hd.mk ((Fr.refl w []).alloc (.cells #[.int .i64 k.window, .int .i64 k.chain, .bool k.isLazy, .int .i64 most] 86))
  have BX := Hd.mk (blk_new w (.cells #[.int .i64 k.window, .int .i64 k.chain, .bool k.isLazy, .int .i64 most] 86))
  go_wp2_with (fail)
  refine (check_any _ A n c (by omega) k most e0 HE.out).mono ?_
  rintro e w1 ⟨rfl, hh⟩
  have F1 := Hd.mk (F0.out.trans hh (by simp))
  have BX := Hd.mk (hh.blk BX.out (by simp))
  clear hh F0
  rcases h2 with rfl | rfl
  · obtain ⟨hk0, hm1, hm2⟩ := popErr_zero HE.out.symm
    obtain ⟨M, rfl⟩ := Int.eq_ofNat_of_zero_le (show 0 ≤ most by omega)
    have hM1 : 1 ≤ M := by omega
    have hM2 : M ≤ 65536 := by omega
    have HK0 := Hd.mk hk0
    clear hk0 hm1 hm2
    by_cases hrd : rounds < 0 ∨ 8 < rounds
    · obtain rfl : er = 1 := by rw [HER.out, if_neg (by simp), if_pos hrd]
      have hz : Hd (bs = [] ∧ at_ = 0) := ⟨by
        obtain ⟨h1, h2⟩ := HSQ.out
        unfold sqzN at h1
        rw [← h2, if_neg (by decide)] at h1
        injection h1 with h1 h3
        exact ⟨h1.symm, h3.symm⟩⟩
      obtain ⟨hz1, hz2⟩ := hz.out
      subst hz1 hz2
      have hfin : ∀ W : World, Fr w W [] → ∃ A' c', Ending.returned (.tuple #[.slice none 0 0, .int .i64 0, .int .i64 1]) = .returned (.tuple #[.slice A' ([] : List Int).length c', .int .i64 ((0 : Nat) : Int), .int .i64 1]) ∧ W.ownsRow 0 5 1 (.slice A' ([] : List Int).length c') ([] : List Int).length (u8s []) ∧ (∀ y, (Value.slice A' ([] : List Int).length c').ownBlock = some y → w.heap.size ≤ y) ∧ Fr w W [] := fun W hf => ⟨none, 0, rfl, own_nil _ _ _ _, by simp [Value.ownBlock], hf⟩
      by_cases h0 : rounds < 0
      · go_wp2
        go_ret3
        exact hfin _ F1.out
      · have h8 : rounds > 8 := by omega
        go_wp2
        go_ret3
        exact hfin _ F1.out
    · have h0 : ¬ rounds < 0 := by omega
      have h8 : ¬ rounds > 8 := by omega
      obtain ⟨R, rfl⟩ := Int.eq_ofNat_of_zero_le (show 0 ≤ rounds by omega)
      obtain rfl : er = 0 := by rw [HER.out, if_neg (by simp), if_neg hrd]
      have HBS : Hd (bestN d k M R = (bs, at_)) := ⟨by
        obtain ⟨h1, h2⟩ := HSQ.out
        unfold sqzN at h1
        rw [← h2, if_pos rfl, Int.toNat_natCast, Int.toNat_natCast] at h1
        exact h1⟩
      have hR8 : R ≤ 8 := by omega
      clear HSQ HER hrd
      have b0 := blk_cell BX.out 0
      have b1 := blk_cell BX.out 1
      have b2 := blk_cell BX.out 2
      have b3 := blk_cell BX.out 3
      simp only [List.getElem?_toArray, List.getElem?_cons_zero, List.getElem?_cons_succ] at b0 b1 b2 b3
      go_wp2_with (fail)
      refine (parse_any w1 A n c d q k (HS.out.frame F1.out (by simp)) HBY.out hn (optErr k) (parse d k) rfl rfl).mono ?_
      rintro e w2 ⟨A2, m2, c2, rfl, o2, n2, hh⟩
      obtain rfl := toks_own o2
      have T2 := Hd.mk o2
      have BX2 := Hd.mk (hh.blk BX.out (by simp))
      have F2 := Hd.mk (F1.out.trans hh (by simp))
      clear hh o2 n2 F1 BX b0 b1 b2 b3
      subst hl
      have b3 := blk_cell BX2.out 3
      simp only [List.getElem?_toArray, List.getElem?_cons_zero, List.getElem?_cons_succ] at b3
      obtain ⟨-, t2, t3, t4, t5, t6⟩ := own_tok T2.out
      have hS5 := HS.out.frame F2.out (by simp)
      have hp5 : ∀ b, b ∈ (Value.slice A2 (parse d k).length c2).ownBlock.toList ++ q.toList → b < w2.heap.size := fun b hb => by
        rcases List.mem_append.1 hb with h | h
        · exact t6 b (by simpa using h)
        · exact hS5.lt b (by simpa using h)
      have hg0 := toksR_good HK0.out HBY.out 0
      have hg0n : (parse d k).length ≤ d.length := hg0.n
      have CW := callsIn_wide.1 (written_any w2 c2 c M A2 A (parse d k) d _ q t2 t3 t4 t5 hS5.sl hS5.le hS5.max hS5.nil hp5 HBY.out hg0.r hg0.b hg0.s hM1 hM2 (by omega) (by omega))
      have HCW := Hd.mk CW
      clear CW hp5 hS5 t2 t3 t4 t5 t6 hg0
      go_wp2_with (fail)
      refine HCW.out.mono ?_
      rintro e w3 ⟨J, v, j1, j2, j3, rfl, o1, a1, hh⟩
      obtain ⟨A1, c1, rfl, o1b⟩ := row_strm hM1 j1 j2 j3 o1
      have O2 := Hd.mk o1b
      have N1 : Hd (∀ y, (Value.slice A1 (strm d M (parse d k)).length c1).ownBlock = some y → w.heap.size ≤ y) := ⟨fun y hy => by
        rcases a1 with e | ⟨z, e, hz⟩
        · rw [e] at hy; cases hy
        · rw [e] at hy; cases hy; have := F2.out.size; omega⟩
      have T2 := Hd.mk (own_frame T2.out hh (by simp))
      have BX2 := Hd.mk (hh.blk BX2.out (by simp))
      have F2 := Hd.mk (F2.out.trans hh (by simp))
      clear hh o1 o1b a1 j1 j2 j3 HCW b3 hg0n
      go_wp2
      go_loopg [10, 12, 13, 14] R (fun kq lv bv av iv wr => ∃ (i : Nat) (Ab : Option Addr) (cb : Nat) (At : Option Addr) (ct : Nat), bv = .slice Ab (bestN d k M i).1.length cb ∧ av = .int .i64 ((bestN d k M i).2 : Nat) ∧ lv = .slice At (toksR d k i).length ct ∧ iv = .int .i64 ((i : Nat) + 1 : Int) ∧ i + kq = R ∧ Hd (wr.ownsRow 0 5 1 (.slice Ab (bestN d k M i).1.length cb) (bestN d k M i).1.length (u8s (bestN d k M i).1)) ∧ Hd (∀ y, (Value.slice Ab (bestN d k M i).1.length cb).ownBlock = some y → w.heap.size ≤ y) ∧ Hd (wr.ownsRow 0 77 3 (.slice At (toksR d k i).length ct) (toksR d k i).length (tcells (toksR d k i))) ∧ Hd (wr.heap[w.heap.size]? = some (.cells #[.int .i64 k.window, .int .i64 k.chain, .bool k.isLazy, .int .i64 (M : Nat)] 86 (0, 0))) ∧ Hd (Fr w wr []))
      case atStart => exact ⟨0, A1, c1, A2, c2, rfl, rfl, rfl, rfl, by omega, O2, N1, T2, BX2, F2⟩
      case round =>
        clear O2 N1 T2 F2 BX2
        obtain ⟨i, Ab, cb, At, ct, rfl, rfl, rfl, rfl, hi, HO, HN, HT, BX, HF⟩ := hrel
        have hg := toksR_good HK0.out HBY.out i
        have hbn := bestN_le HK0.out HBY.out hM1 hM2 hn i
        have hbn1 := hbn.1
        have hbn2 := hbn.2.1
        have hgn := hg.n
        by_cases hiR : i < R
        · have hiI : ((i : Nat) : Int) + 1 ≤ ((R : Nat) : Int) := by omega
          obtain ⟨-, t2, t3, t4, t5, t6⟩ := own_tok HT.out
          obtain ⟨pe, ge⟩ := hg.next HK0.out HBY.out
          have hgs := toksR_good HK0.out HBY.out (i + 1)
          have HPR := hg.take.2
          have HTT : Hd (toksR d k (i + 1) = cheapToks d k (prOf (toksR d k i))) := ⟨rfl⟩
          have HBE : Hd (bestN d k M (i + 1) = if (strm d M (toksR d k (i + 1))).length < (bestN d k M i).1.length then (strm d M (toksR d k (i + 1)), i + 1) else bestN d k M i) := ⟨rfl⟩
          unfold prOf at pe HTT
          obtain ⟨pl, hpl⟩ : ∃ x, x = priceL ((toksR d k i).take 65536) := ⟨_, rfl⟩
          obtain ⟨pm, hpm⟩ : ∃ x, x = priceM ((toksR d k i).take 65536) := ⟨_, rfl⟩
          rw [← hpl, ← hpm] at pe HTT HPR
          obtain ⟨co, hco⟩ : ∃ x, x = cheapCost d k ⟨pl, pm, 1⟩ := ⟨_, rfl⟩
          have HCE := Hd.mk pe
          have HCO := Hd.mk hco
          have HGB := Hd.mk hg.b
          have HPR := Hd.mk HPR
          have HGS := Hd.mk hgs
          have HT5 := Hd.mk t5
          have HT2 := Hd.mk t2
          have hgsn := hgs.n
          clear pe hco hpl hpm hg hgs ge t2 t5 t6 hbn
          obtain ⟨lt, hlt⟩ : ∃ x, x = (toksR d k i).length := ⟨_, rfl⟩
          have HLT := Hd.mk hlt
          rw [← hlt] at t3 hgn HT5 ⊢
          clear hlt
          go_wp2_with (fail)
          refine (prices_any wr At lt ct (toksR d k i) _ HLT.out.symm t3 (fun h => (HT5.out h).2) HT2.out (by omega) HGB.out (pl, pm, 1) 0 HPR.out).mono ?_
          rintro e w3 ⟨rfl, h3⟩
          simp only [pcell]
          have F3 := Hd.mk (HF.out.trans h3 (by simp))
          have O3 := Hd.mk (own_frame HO.out h3 (by simp))
          have BX3 := Hd.mk (h3.blk BX.out (by simp))
          clear h3 BX HF HO HT HT2 HT5 t3 t4 HPR HGB
          go_upto_region 14 with (fail)
          have F4 := Hd.mk (F3.out.alloc (.cells #[.int .i64 pl, .int .i64 pm, .int .i64 1] 165))
          have P4 := Hd.mk (blk_new w3 (.cells #[.int .i64 pl, .int .i64 pm, .int .i64 1] 165))
          have O4 := Hd.mk (own_frame O3.out ((Fr.refl w3 []).alloc (.cells #[.int .i64 pl, .int .i64 pm, .int .i64 1] 165)) (by simp))
          have BX4 := Hd.mk (blk_alloc BX3.out (.cells #[.int .i64 pl, .int .i64 pm, .int .i64 1] 165))
          clear F3 O3 BX3
          generalize w3.alloc (.cells #[.int .i64 pl, .int .i64 pm, .int .i64 1] 165) = w4 at *
          generalize w3.heap.size = gp at *
          have b0 := blk_cell BX4.out 0
          have b1 := blk_cell BX4.out 1
          have b2 := blk_cell BX4.out 2
          have b3 := blk_cell BX4.out 3
          have p0 := blk_cell P4.out 0
          have p1 := blk_cell P4.out 1
          have p2 := blk_cell P4.out 2
          simp only [List.getElem?_toArray, List.getElem?_cons_zero, List.getElem?_cons_succ] at b0 b1 b2 b3 p0 p1 p2
          go_wp2_with (fail)
          refine (cheap_any w4 A d.length c d q k ⟨pl, pm, 1⟩ (HS.out.frame F4.out (by simp)) HBY.out hn 0 co (toksR d k (i + 1)) HCE.out.symm HCO.out HTT.out).mono ?_
          rintro e w5 ⟨A5, m5, c5, rfl, o5, n5, hh⟩
          obtain rfl := toks_own o5
          have T5 := Hd.mk o5
          have O5 := Hd.mk (own_frame O4.out hh (by simp))
          have BX5 := Hd.mk (hh.blk BX4.out (by simp))
          have F5 := Hd.mk (F4.out.trans hh (by simp))
          clear hh o5 n5 O4 F4 BX4 P4 b0 b1 b2 b3 p0 p1 p2 HCO HTT
          obtain ⟨-, t2, t3, t4, t5, t6⟩ := own_tok T5.out
          have hS5 := HS.out.frame F5.out (by simp)
          have hp5 : ∀ b, b ∈ (Value.slice A5 (toksR d k (i + 1)).length c5).ownBlock.toList ++ q.toList → b < w5.heap.size := fun b hb => by
            rcases List.mem_append.1 hb with h | h
            · exact t6 b (by simpa using h)
            · exact hS5.lt b (by simpa using h)
          have CW := callsIn_wide.1 (written_any w5 c5 c M A5 A (toksR d k (i + 1)) d _ q t2 t3 t4 t5 hS5.sl hS5.le hS5.max hS5.nil hp5 HBY.out HGS.out.r HGS.out.b HGS.out.s hM1 hM2 (by omega) (by omega))
          have HCW := Hd.mk CW
          clear CW hp5 hS5 t2 t3 t4 t5 t6
          have b3 := blk_cell BX5.out 3
          simp only [List.getElem?_toArray, List.getElem?_cons_zero, List.getElem?_cons_succ] at b3
          go_wp2_with (fail)
          refine HCW.out.mono ?_
          rintro e w6 ⟨J, v, j1, j2, j3, rfl, o6, a6, hh⟩
          obtain ⟨A6, c6, rfl, o6b⟩ := row_strm hM1 j1 j2 j3 o6
          have O6 := Hd.mk o6b
          have N6 : Hd (∀ y, (Value.slice A6 (strm d M (toksR d k (i + 1))).length c6).ownBlock = some y → w.heap.size ≤ y) := ⟨fun y hy => by
            rcases a6 with e | ⟨z, e, hz⟩
            · rw [e] at hy; cases hy
            · rw [e] at hy; cases hy; have := F5.out.size; omega⟩
          have O7 := Hd.mk (own_frame O5.out hh (by simp))
          have T7 := Hd.mk (own_frame T5.out hh (by simp))
          have BX7 := Hd.mk (hh.blk BX5.out (by simp))
          have F7 := Hd.mk (F5.out.trans hh (by simp))
          have hsl := strm_le HGS.out hM1 hM2 hn
          clear hh a6 j1 j2 j3 o6 o6b O5 T5 BX5 F5 HCW b3
          by_cases hlt : (strm d M (toksR d k (i + 1))).length < (bestN d k M i).1.length
          · have HB1 : Hd (bestN d k M (i + 1) = (strm d M (toksR d k (i + 1)), i + 1)) := ⟨by rw [HBE.out, if_pos hlt]⟩
            have hltI : (((strm d M (toksR d k (i + 1))).length : Nat) : Int) < (((bestN d k M i).1.length : Nat) : Int) := by omega
            go_wp2
            go_roundg (gk - 1)
            case measure => omega
            case rel => exact ⟨i + 1, A6, c6, A5, c5, by rw [HB1.out], by rw [HB1.out]; go_num, rfl, by go_num, by omega, by rw [HB1.out]; exact O6, by rw [HB1.out]; exact N6, T7, BX7, F7⟩
          · have HB1 : Hd (bestN d k M (i + 1) = bestN d k M i) := ⟨by rw [HBE.out, if_neg hlt]⟩
            have hltI : ¬ (((strm d M (toksR d k (i + 1))).length : Nat) : Int) < (((bestN d k M i).1.length : Nat) : Int) := by omega
            go_wp2
            go_roundg (gk - 1)
            case measure => omega
            case rel => exact ⟨i + 1, Ab, cb, A5, c5, by rw [HB1.out], by rw [HB1.out], rfl, by go_num, by omega, by rw [HB1.out]; exact O7, by rw [HB1.out]; exact HN, T7, BX7, F7⟩
        · obtain rfl : i = R := by omega
          have hiI : ¬ ((i : Nat) : Int) + 1 ≤ ((i : Nat) : Int) := by omega
          clear hbn hbn1 hbn2 hg hgn
          obtain ⟨bb, hbb⟩ : ∃ x, x = bestN d k M i := ⟨_, rfl⟩
          rw [← hbb] at HO HN HBS ⊢
          have hbb2 := HBS.out
          subst hbb2
          clear hbb
          go_wp2
          go_ret3
          exact ⟨Ab, cb, rfl, HO.out, HN.out, HF.out⟩
  · obtain rfl : er = 100 := by rw [HER.out, if_pos (by decide)]
    have hz : Hd (bs = [] ∧ at_ = 0) := ⟨by
      obtain ⟨h1, h2⟩ := HSQ.out
      unfold sqzN at h1
      rw [← h2, if_neg (by decide)] at h1
      injection h1 with h1 h3
      exact ⟨h1.symm, h3.symm⟩⟩
    obtain ⟨hz1, hz2⟩ := hz.out
    subst hz1 hz2
    go_wp2
    go_ret3
    exact ⟨none, 0, rfl, own_nil _ _ _ _, by simp [Value.ownBlock], F1.out⟩
end Go.Proofs.YtkdgfioigkijgaaGreat.Prs
set_option linter.unusedVariables false
set_option linter.unusedSimpArgs false
set_option maxRecDepth 100000
namespace Go.Proofs.YtkdgfioigkijgaaGreat.Prs
open Go.RowKit Go.Proofs.YtkdgfioigkijgaaGreat.Lib Go.Proofs.YtkdgfioigkijgaaGreat.Ints Go.Proofs.YtkdgfioigkijgaaGreat.Lz Go.Proofs.YtkdgfioigkijgaaGreat.Num Go.Proofs.YtkdgfioigkijgaaGreat.Bits Go.Proofs.YtkdgfioigkijgaaGreat.Blk
theorem u8s_app (a b : List Int) : u8s (a ++ b) = u8s a ++ u8s b := by unfold u8s; rw [List.map_append]
theorem own_pre {w : World} {A : Option Addr} {n c : Nat} {xs ys : List Int} (h : w.ownsRow 0 5 1 (.slice A n c) n (u8s (xs ++ ys))) : Sl w A (u8s xs) (Value.slice A n c).ownBlock := by
  have := (sl_of_own h).take xs.length
  rw [u8s_app, List.take_left' (by simp [u8s])] at this
  exact this
theorem room_arg {w : World} {g dr n : Nat} {d : List Int} (h : w.ownsRow 0 5 1 (.slice (some ⟨g, 0, none⟩) (n + 3) dr) (n + 3) (u8s (d ++ [71, 72, 73]))) (hl : d.length = n) : SlArg w (some ⟨g, 0, none⟩) n dr (u8s d) (some g) := by
  have s := slArg_own h
  exact ⟨by simp [u8s, hl], by have := s.le; omega, s.max, (by intro e; cases e), own_pre h, s.lt⟩
end Go.Proofs.YtkdgfioigkijgaaGreat.Prs
