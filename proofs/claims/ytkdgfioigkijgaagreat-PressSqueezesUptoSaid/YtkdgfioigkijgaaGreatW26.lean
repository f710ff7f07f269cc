import Derived.Test.YtkdgfioigkijgaaGreatW01
import Derived.Test.YtkdgfioigkijgaaGreatW02
import Derived.Test.YtkdgfioigkijgaaGreatW03
import Derived.Test.YtkdgfioigkijgaaGreatW04
import Derived.Test.YtkdgfioigkijgaaGreatW05
import Derived.Test.YtkdgfioigkijgaaGreatW06
import Derived.Test.YtkdgfioigkijgaaGreatW07
import Derived.Test.YtkdgfioigkijgaaGreatW08
import Derived.Test.YtkdgfioigkijgaaGreatW09
import Derived.Test.YtkdgfioigkijgaaGreatW10
import Derived.Test.YtkdgfioigkijgaaGreatW11
import Derived.Test.YtkdgfioigkijgaaGreatW12
import Derived.Test.YtkdgfioigkijgaaGreatW13
import Derived.Test.YtkdgfioigkijgaaGreatW14
import Derived.Test.YtkdgfioigkijgaaGreatW15
import Derived.Test.YtkdgfioigkijgaaGreatW16
import Derived.Test.YtkdgfioigkijgaaGreatW17
import Derived.Test.YtkdgfioigkijgaaGreatW18
import Derived.Test.YtkdgfioigkijgaaGreatW19
import Derived.Test.YtkdgfioigkijgaaGreatW20
import Derived.Test.YtkdgfioigkijgaaGreatW21
import Derived.Test.YtkdgfioigkijgaaGreatW22
import Derived.Test.YtkdgfioigkijgaaGreatW23
import Derived.Test.YtkdgfioigkijgaaGreatW24
import Derived.Test.YtkdgfioigkijgaaGreatW25
import Derived.BigRegion
import Derived.BigQuiet
import Derived.Deep.QuietTactic
import Derived.Deep.LoopGhost
import Derived.Deep.DeepCutAuto
import Derived.KernelRfl
import Derived.Deep.RegionLaw
import Derived.Outline
set_option linter.unusedVariables false
set_option linter.unusedSimpArgs false
set_option maxRecDepth 100000
namespace Go.Proofs.YtkdgfioigkijgaaGreat.Lz
open Go.RowKit Go.Maps Go.Proofs.YtkdgfioigkijgaaGreat.Lib Go.Proofs.YtkdgfioigkijgaaGreat.Num Go.Proofs.YtkdgfioigkijgaaGreat.Bits
structure Tb (w0 w : World) (T : TypeId) (kb pb gl gf n m : Nat) (KT PT : TypeId) (k : Opt) (c : Pr) (d : List Int) (W b : Nat) (zs ys : List Value) : Prop where
  oz : w.ownsRow 0 3 1 (.slice (some ⟨gl, 0, none⟩) (n + 1) (n + 1)) (n + 1) zs
  oy : w.ownsRow 0 T 3 (.slice (some ⟨gf, 0, none⟩) m m) m ys
  zget : ∀ i, b ≤ i → i ≤ n → zs[i]? = some (.int .i64 (tab d W c i).1)
  yget : ∀ i, b ≤ i → i < n → ∀ j, j < 3 → ys[i * 3 + j]? = (tcell (tab d W c i).2)[j]?
  kblk : w.heap[kb]? = some (.cells #[.int .i64 k.window, .int .i64 k.chain, .bool k.isLazy] KT (0, 0))
  pblk : w.heap[pb]? = some (.cells #[.int .i64 c.lit, .int .i64 c.mat, .int .i64 c.far] PT (0, 0))
  gln : w0.heap.size ≤ gl
  gfn : w0.heap.size ≤ gf
  fr : Fr w0 w []
  kt : KT ≠ 3 ∧ KT ≠ T ∧ PT ≠ 3 ∧ PT ≠ T ∧ T ≠ 3
section
variable {w0 w w' : World} {T : TypeId} {kb pb gl gf n m : Nat} {KT PT : TypeId} {k : Opt} {c : Pr} {d : List Int} {W b : Nat} {zs ys : List Value}
theorem Tb.call (h : Tb w0 w T kb pb gl gf n m KT PT k c d W b zs ys) (hf : Fr w w' []) : Tb w0 w' T kb pb gl gf n m KT PT k c d W b zs ys :=
  ⟨own_frame h.oz hf (by simp), own_frame h.oy hf (by simp), h.zget, h.yget, hf.blk h.kblk (by simp), hf.blk h.pblk (by simp), h.gln, h.gfn, h.fr.trans hf (by simp), h.kt⟩
theorem Tb.ne (h : Tb w0 w T kb pb gl gf n m KT PT k c d W b zs ys) : gl ≠ gf ∧ kb ≠ gl ∧ kb ≠ gf ∧ pb ≠ gl ∧ pb ≠ gf := by
  obtain ⟨cs, hcs⟩ := own_type h.oz (k := gl) rfl
  obtain ⟨ds, hds⟩ := own_type h.oy (k := gf) rfl
  obtain ⟨k1, k2, k3, k4, k5⟩ := h.kt
  exact ⟨blk_ne hcs hds (Ne.symm k5), blk_ne h.kblk hcs k1, blk_ne h.kblk hds k2, blk_ne h.pblk hcs k3, blk_ne h.pblk hds k4⟩
theorem Tb.setL (h : Tb w0 w T kb pb gl gf n m KT PT k c d W b zs ys) {p : Nat} (hp : p < b) (v : Value) : Tb w0 (w.setCell ⟨gl, p, none⟩ v) T kb pb gl gf n m KT PT k c d W b (zs.set p v) ys := by
  obtain ⟨n1, n2, n3, n4, n5⟩ := h.ne
  have hf : Fr w (w.setCell ⟨gl, p, none⟩ v) [gl] := (Fr.refl w [gl]).setCell _ (.inl (by simp))
  refine ⟨(h.oz.stored p v).1, own_frame h.oy hf (fun y hy hm => ?_), fun i h1 h2 => ?_, h.yget, hf.blk h.kblk (by simp; exact n2), hf.blk h.pblk (by simp; exact n4), h.gln, h.gfn, h.fr.trans hf (fun y hy hm => ?_), h.kt⟩
  · cases hy; simp at hm; exact n1 hm.symm
  · rw [List.getElem?_set_ne (by omega)]; exact h.zget i h1 h2
  · simp at hm; have := h.gln; omega
theorem Tb.setF (h : Tb w0 w T kb pb gl gf n m KT PT k c d W b zs ys) {p : Nat} (hp : p < b) (v0 v1 v2 : Value) : Tb w0 (((w.setCell ⟨gf, p * 3, none⟩ v0).setCell ⟨gf, p * 3 + 1, none⟩ v1).setCell ⟨gf, p * 3 + 2, none⟩ v2) T kb pb gl gf n m KT PT k c d W b zs (((ys.set (p * 3) v0).set (p * 3 + 1) v1).set (p * 3 + 2) v2) := by
  obtain ⟨n1, n2, n3, n4, n5⟩ := h.ne
  have hf : Fr w (((w.setCell ⟨gf, p * 3, none⟩ v0).setCell ⟨gf, p * 3 + 1, none⟩ v1).setCell ⟨gf, p * 3 + 2, none⟩ v2) [gf] := (((Fr.refl w [gf]).setCell _ (.inl (by simp))).setCell _ (.inl (by simp))).setCell _ (.inl (by simp))
  refine ⟨own_frame h.oz hf (fun y hy hm => ?_), ((((h.oy.stored _ v0).1).stored _ v1).1.stored _ v2).1, h.zget, fun i h1 h2 j hj => ?_, hf.blk h.kblk (by simp; exact n3), hf.blk h.pblk (by simp; exact n5), h.gln, h.gfn, h.fr.trans hf (fun y hy hm => ?_), h.kt⟩
  · cases hy; simp at hm; exact n1 hm
  · rw [List.getElem?_set_ne (by omega), List.getElem?_set_ne (by omega), List.getElem?_set_ne (by omega)]; exact h.yget i h1 h2 j hj
  · simp at hm; have := h.gfn; omega
theorem Tb.done (h : Tb w0 w T kb pb gl gf n m KT PT k c d W (b + 1) zs ys) (h1 : zs[b]? = some (.int .i64 (tab d W c b).1)) (h2 : ∀ j, j < 3 → ys[b * 3 + j]? = (tcell (tab d W c b).2)[j]?) : Tb w0 w T kb pb gl gf n m KT PT k c d W b zs ys := by
  refine ⟨h.oz, h.oy, fun i h3 h4 => ?_, fun i h3 h4 j hj => ?_, h.kblk, h.pblk, h.gln, h.gfn, h.fr, h.kt⟩
  · by_cases e : i = b
    · subst e; exact h1
    · exact h.zget i (by omega) h4
  · by_cases e : i = b
    · subst e; exact h2 j hj
    · exact h.yget i (by omega) h4 j hj
end
theorem quiet_left {P : Program} {f : FuncId} {args : Array Value} {w : World} {n : Nat} {v : Value}
    (h : Calls P f args (w.drewN n) fun e w' => e = .returned v ∧ w.drewN n = w') : Calls P f args (w.drewN n) fun e w'' => e = .returned v ∧ ∃ m, w'' = w.drewN m :=
  h.mono fun _ _ ⟨he, hm⟩ => ⟨he, n, hm.symm⟩
theorem bits_at (w : World) (x b : Nat) (hb : b = bitLen x) (hx : x ≤ 32768) : Calls Tryz.prog 114 #[.int .i64 (x : Nat)] w fun e w' => e = .returned (.int .i64 (b : Nat)) ∧ w = w' := by
  subst hb
  exact bits_any w x (by omega) (by omega)
theorem set3_get {ys : List Value} {t : Nat} {a b e : Int} (h : t * 3 + 2 < ys.length) : ∀ j, j < 3 → (((ys.set (t * 3) (.int .u8 a)).set (t * 3 + 1) (.int .i64 b)).set (t * 3 + 2) (.int .i64 e))[j + t * 3]? = (tcell ⟨a, b, e⟩)[j]? := by
  intro j hj
  rcases (show j = 0 ∨ j = 1 ∨ j = 2 by omega) with rfl | rfl | rfl
  · rw [List.getElem?_set_ne (by omega), List.getElem?_set_ne (by omega), show 0 + t * 3 = t * 3 from by omega, List.getElem?_set_self (by omega)]
    rfl
  · rw [List.getElem?_set_ne (by omega), show 1 + t * 3 = t * 3 + 1 from by omega, List.getElem?_set_self (by rw [List.length_set]; omega)]
    rfl
  · rw [show 2 + t * 3 = t * 3 + 2 from by omega, List.getElem?_set_self (by rw [List.length_set, List.length_set]; omega)]
    rfl
theorem own_any {w : World} {base g : Nat} {e : TypeId} {size n cap : Nat} {xs : List Value} (h : w.ownsRow base e size (.slice (some ⟨g, 0, none⟩) n cap) n xs) {j : Nat} (hj : j < n * size) : ∃ v, w.cell? ⟨g, j, none⟩ = some v ∧ w.frozen? ⟨g, j, none⟩ = false :=
  ⟨_, (h.cellAt j hj).trans (List.getElem?_eq_getElem (by rw [h.1]; exact hj)), h.frozenAt j⟩
def prBad (c : Pr) : Bool := decide (c.lit < 0 ∨ 1048576 < c.lit ∨ c.mat < 0 ∨ 1048576 < c.mat ∨ c.far < 0 ∨ 1048576 < c.far)
theorem prOk_of {c : Pr} (h : prBad c = false) : PrOk c := by
  have := of_decide_eq_false h
  unfold PrOk
  omega
def cheapErr (k : Opt) (c : Pr) : Int := if optErr k ≠ 0 then 72 else if prBad c then 72 else 0
def cheapToks (d : List Int) (k : Opt) (c : Pr) : List Tok := if cheapErr k c = 0 then outF d k.window.toNat c d.length 0 else []
def cheapCost (d : List Int) (k : Opt) (c : Pr) : Int := if cheapErr k c = 0 then (tab d k.window.toNat c 0).1 else 0
set_option maxHeartbeats 16000000 in
theorem rcheap_any (w : World) (A : Option Addr) (n cc : Nat) (d : List Int) (q : Option Nat) (k : Opt) (c : Pr) (hS : SlArg w A n cc (u8s d) q) (hn : n ≤ 1048576) (er cost : Int) (ts : List Tok) (her : er = cheapErr k c) (hcost : cost = cheapCost d k c) (hts : ts = cheapToks d k c) :
    Calls Tryz.prog 72 #[.slice A n cc, .agg #[.int .i64 k.window, .int .i64 k.chain, .bool k.isLazy], .agg #[.int .i64 c.lit, .int .i64 c.mat, .int .i64 c.far]] w fun e w' => ∃ A' mm dd, e = .returned (.tuple #[.slice A' mm dd, .int .i64 cost, .int .i64 er]) ∧
      w'.ownsRow 0 80 3 (.slice A' mm dd) mm (tcells ts) ∧ (∀ y, (Value.slice A' mm dd).ownBlock = some y → w.heap.size ≤ y) ∧ Fr w w' [] := by
  obtain ⟨i0, hi0, hz0, hz1, hz2⟩ := info_parts infoTokR
  obtain ⟨j0, hj0, hj1, hj2, hj3⟩ := info_parts infoI
  have HS := Hd.mk hS
  have hl : d.length = n := by have := hS.len; simpa [u8s] using this
  have HE := Hd.mk her
  have HC := Hd.mk hcost
  have HT := Hd.mk hts
  clear hS her hcost hts
  have F0 := ((Fr.refl w []).alloc (.cells #[.int .i64 k.window, .int .i64 k.chain, .bool k.isLazy] 90)).alloc (.cells #[.int .i64 c.lit, .int .i64 c.mat, .int .i64 c.far] 160)
  have hk0 := blk_alloc (blk_new w (.cells #[.int .i64 k.window, .int .i64 k.chain, .bool k.isLazy] 90)) (.cells #[.int .i64 c.lit, .int .i64 c.mat, .int .i64 c.far] 160)
  have hp0 := blk_new (w.alloc (.cells #[.int .i64 k.window, .int .i64 k.chain, .bool k.isLazy] 90)) (.cells #[.int .i64 c.lit, .int .i64 c.mat, .int .i64 c.far] 160)
  rw [World.size_alloc] at hp0
  go_enter Tryz.func72, Tryz.ntmps72
  go_upto_region 1 with (fail)
  obtain ⟨kb, hkb⟩ : ∃ kb, kb = w.heap.size := ⟨_, rfl⟩
  obtain ⟨pb, hpb⟩ : ∃ pb, pb = w.heap.size + 1 := ⟨_, rfl⟩
  rw [← hpb] at hp0 ⊢
  rw [← hkb] at hk0 ⊢
  generalize hw0 : (w.alloc (.cells #[.int .i64 k.window, .int .i64 k.chain, .bool k.isLazy] 90)).alloc (.cells #[.int .i64 c.lit, .int .i64 c.mat, .int .i64 c.far] 160) = w1
  rw [hw0] at F0 hk0 hp0
  have F1 := Hd.mk F0
  have K1 := Hd.mk hk0
  have P1 := Hd.mk hp0
  have b0 := blk_cell hk0 0
  have b1 := blk_cell hk0 1
  have b2 := blk_cell hk0 2
  simp only [List.getElem?_toArray, List.getElem?_cons_zero, List.getElem?_cons_succ] at b0 b1 b2
  clear F0 hk0 hp0 hw0 hkb hpb
  obtain ⟨eo, heo⟩ : ∃ eo, eo = optErr k := ⟨_, rfl⟩
  have HEO := Hd.mk heo
  have heo2 : eo = 0 ∨ eo = 72 := heo ▸ optErr_two k
  clear heo
  go_wp2_with (fail)
  refine (ropt_any w1 k eo HEO.out).mono ?_
  rintro e w2 ⟨rfl, h3⟩
  have F2 := Hd.mk (F1.out.trans h3 (by simp))
  have K2 := Hd.mk (h3.blk K1.out (by simp))
  have P2 := Hd.mk (h3.blk P1.out (by simp))
  clear h3 b0 b1 b2 K1 P1
  rcases heo2 with rfl | rfl
  · obtain ⟨bad, hbad⟩ : ∃ bad, bad = prBad c := ⟨_, rfl⟩
    have HBD := Hd.mk hbad
    clear hbad
    have p0 := blk_cell P2.out 0
    have p1 := blk_cell P2.out 1
    have p2 := blk_cell P2.out 2
    simp only [List.getElem?_toArray, List.getElem?_cons_zero, List.getElem?_cons_succ] at p0 p1 p2
    go_upto_region 4 with (fail)
    go_cut [52] from 25 to 53 (fun s52 wd => s52 = .bool bad ∧ wd = w2)
    case first =>
      obtain ⟨x0, hx0⟩ : ∃ x0, x0 = c.lit := ⟨_, rfl⟩
      obtain ⟨x1, hx1⟩ : ∃ x1, x1 = c.mat := ⟨_, rfl⟩
      obtain ⟨x2, hx2⟩ : ∃ x2, x2 = c.far := ⟨_, rfl⟩
      have hbd : bad = decide (x0 < 0 ∨ 1048576 < x0 ∨ x1 < 0 ∨ 1048576 < x1 ∨ x2 < 0 ∨ 1048576 < x2) := by rw [hx0, hx1, hx2]; exact HBD.out
      rw [← hx0] at p0
      rw [← hx1] at p1
      rw [← hx2] at p2
      clear hx0 hx1 hx2
      by_cases h : x0 < 0
      · obtain rfl : bad = true := by rw [hbd]; exact decide_eq_true (.inl h)
        clear hbd
        go_wp2
        go_meet
        exact ⟨rfl, rfl⟩
      have g0 := h
      clear h
      by_cases h : 1048576 < x0
      · obtain rfl : bad = true := by rw [hbd]; exact decide_eq_true (.inr (.inl h))
        clear hbd
        go_wp2
        go_meet
        exact ⟨rfl, rfl⟩
      have g1 := h
      clear h
      by_cases h : x1 < 0
      · obtain rfl : bad = true := by rw [hbd]; exact decide_eq_true (.inr (.inr (.inl h)))
        clear hbd
        go_wp2
        go_meet
        exact ⟨rfl, rfl⟩
      have g2 := h
      clear h
      by_cases h : 1048576 < x1
      · obtain rfl : bad = true := by rw [hbd]; exact decide_eq_true (.inr (.inr (.inr (.inl h))))
        clear hbd
        go_wp2
        go_meet
        exact ⟨rfl, rfl⟩
      have g3 := h
      clear h
      by_cases h : x2 < 0
      · obtain rfl : bad = true := by rw [hbd]; exact decide_eq_true (.inr (.inr (.inr (.inr (.inl h)))))
        clear hbd
        go_wp2
        go_meet
        exact ⟨rfl, rfl⟩
      have g4 := h
      clear h
      by_cases h : 1048576 < x2
      · obtain rfl : bad = true := by rw [hbd]; exact decide_eq_true (.inr (.inr (.inr (.inr (.inr h)))))
        clear hbd
        go_wp2
        go_meet
        exact ⟨rfl, rfl⟩
      have g5 := h
      clear h
      obtain rfl : bad = false := by rw [hbd]; exact decide_eq_false (by omega)
      clear hbd
      go_wp2
      go_meet
      exact ⟨rfl, rfl⟩
    case rest =>
      obtain ⟨rfl, rfl⟩ := hcut
      obtain ⟨w2, rfl⟩ : ∃ w2 : World, w2 = wc := ⟨_, rfl⟩
      cases bad with
      | true =>
        obtain rfl : er = 72 := by rw [HE.out]; unfold cheapErr; rw [if_neg (by rw [← HEO.out]; simp), if_pos HBD.out.symm]
        obtain rfl : ts = [] := by rw [HT.out]; unfold cheapToks; rw [if_neg (by rw [← HE.out]; simp)]
        obtain rfl : cost = 0 := by rw [HC.out]; unfold cheapCost; rw [if_neg (by rw [← HE.out]; simp)]
        go_wp2
        go_ret3
        exact ⟨none, 0, 0, rfl, own_nil _ _ _ _, (by intro j hj; cases hj), F2.out⟩
      | false =>
        obtain rfl : er = 0 := by rw [HE.out]; unfold cheapErr; rw [if_neg (by rw [← HEO.out]; simp), if_neg (by rw [← HBD.out]; simp)]
        have HPK : Hd (PrOk c) := ⟨prOk_of HBD.out.symm⟩
        obtain ⟨hw1, hw2, _, _⟩ := optErr_ok HEO.out.symm
        obtain ⟨Wn, hW⟩ : ∃ Wn : Nat, k.window = (Wn : Nat) := ⟨k.window.toNat, by omega⟩
        have hWt : k.window.toNat = Wn := by omega
        have hWb : Wn ≤ 32768 := by omega
        have HX : Hd (ts = outF d Wn c n 0) := ⟨by rw [HT.out]; unfold cheapToks; rw [if_pos HE.out.symm, hWt, hl]⟩
        have HCC : Hd (cost = (tab d Wn c 0).1) := ⟨by rw [HC.out]; unfold cheapCost; rw [if_pos HE.out.symm, hWt]⟩
        have HW := Hd.mk hW
        clear hW hWt hw1 hw2 p0 p1 p2
        go_wp2_with (first | (refine wpList_make_full _ rfl _ _ 79 rfl 0 3 j0 (.int .i64 0) 1 Tryz.underlying79 hj0 hj1 hj2 .i64 .i64 _ _ (n + 1) rfl rfl rfl rfl (by rw [hj3]; omega) (by unfold maxLen; omega) (Nat.zero_le _) ?_; intro w3 hown1 hgrow1; have O3 := Hd.mk hown1; have F3 := Hd.mk (F2.out.grown hgrow1 (by simp)); have K3 := Hd.mk (blk_grown hgrow1 K2.out (by simp)); have P3 := Hd.mk (blk_grown hgrow1 P2.out (by simp)); clear hown1 hgrow1) | (refine wpList_make_full _ rfl _ _ 35 rfl 0 80 i0 (.agg #[.int .u8 0, .int .i64 0, .int .i64 0]) 3 Tryz.underlying35 hi0 hz0 hz1 .i64 .i64 _ _ (n + 1) rfl rfl rfl rfl (by rw [hz2]; omega) (by unfold maxLen; omega) (Nat.zero_le _) ?_; intro w4 hown1 hgrow1; have O4 := Hd.mk hown1; have F4 := Hd.mk (F3.out.grown hgrow1 (by simp)); have K4 := Hd.mk (blk_grown hgrow1 K3.out (by simp)); have P4 := Hd.mk (blk_grown hgrow1 P3.out (by simp)); have O34 := Hd.mk (own_frame O3.out ((Fr.refl w3 []).grown hgrow1 (by simp)) (by simp)); clear hown1 hgrow1))
        have hgl : w.heap.size ≤ w2.heap.size := F2.out.size
        have hgf : w.heap.size ≤ w3.heap.size := F3.out.size
        have hTb : Hd (Tb w w4 80 kb pb w2.heap.size w3.heap.size n (n + 1) 90 160 k c d Wn n (madeCells (Value.int .i64 0).cells ((n + 1) * 1)).toList (madeCells (Value.agg #[.int .u8 0, .int .i64 0, .int .i64 0]).cells ((n + 1) * 3)).toList) := ⟨⟨O34.out, O4.out, fun i h1 h2 => by
          obtain rfl : i = n := by omega
          rw [tab_end d Wn c (by omega)]
          have e := toList_madeCells_one (Value.int .i64 0) ((i + 1) * 1)
          have e2 : (Value.int .i64 0).cells = #[Value.int .i64 0] := rfl
          rw [e2, e]
          simp, fun i h1 h2 => by omega, K4.out, P4.out, hgl, hgf, F4.out, by decide⟩⟩
        obtain ⟨zs0, hzs0⟩ : ∃ zs, zs = (madeCells (Value.int .i64 0).cells ((n + 1) * 1)).toList := ⟨_, rfl⟩
        obtain ⟨ys0, hys0⟩ : ∃ ys, ys = (madeCells (Value.agg #[.int .u8 0, .int .i64 0, .int .i64 0]).cells ((n + 1) * 3)).toList := ⟨_, rfl⟩
        rw [← hzs0, ← hys0] at hTb
        obtain ⟨gl, hglq⟩ : ∃ gl, gl = w2.heap.size := ⟨_, rfl⟩
        obtain ⟨gf, hgfq⟩ : ∃ gf, gf = w3.heap.size := ⟨_, rfl⟩
        rw [← hglq, ← hgfq] at hTb
        rw [← hglq, ← hgfq]
        clear hzs0 hys0 hglq hgfq O3 O4 O34 K2 K3 K4 P2 P3 P4 F2 F3 F4 hgl hgf
        go_wp2
        go_loopg [13] n (fun kq qv wr => ∃ (zs ys : List Value), qv = .int .i64 ((kq : Int) - 1) ∧ kq ≤ n ∧ Hd (Tb w wr 80 kb pb gl gf n (n + 1) 90 160 k c d Wn kq zs ys))
        case atStart => exact ⟨zs0, ys0, by go_num, Nat.le_refl _, hTb⟩
        case round =>
          obtain ⟨gx, rfl⟩ : ∃ gx : Nat, gx = gk := ⟨_, rfl⟩
          obtain ⟨zs, ys, rfl, hkn, HTb⟩ := hrel
          cases gx with
          | zero =>
            have e0 : (((0 : Nat) : Int) - 1) = -1 := by omega
            rw [e0]
            clear e0
            go_wp2
            go_loopg [17, 18] n (fun kq ov pv wq => ∃ (p : Nat) (A1 : Option Addr) (m d1 : Nat) (P : List Tok), ov = .slice A1 m d1 ∧ pv = .int .i64 (p : Nat) ∧ p ≤ n ∧ m ≤ p ∧ p + kq = n ∧ Hd (ts = P ++ outF d Wn c n p) ∧ Hd (wq.ownsRow 0 80 3 (.slice A1 m d1) m (tcells P)) ∧ Hd (∀ y, (Value.slice A1 m d1).ownBlock = some y → wr.heap.size ≤ y) ∧ Hd (Fr wr wq []))
            case atStart => exact ⟨0, none, 0, 0, [], rfl, rfl, Nat.zero_le _, Nat.le_refl _, by omega, ⟨HX.out⟩, ⟨own_nil _ _ _ _⟩, ⟨by intro j hj; cases hj⟩, ⟨Fr.refl _ _⟩⟩
            case round =>
              obtain ⟨p, A1, m, d1, P, rfl, rfl, hpn, hmp, hpk, HP, HO, HB, HF⟩ := hrel
              obtain ⟨wx, rfl⟩ : ∃ wx : World, wx = wr := ⟨_, rfl⟩
              have HTq := Hd.mk (HTb.out.call HF.out)
              by_cases h1 : p < n
              · have q0 := (HTq.out.oy.cellAt (p * 3) (by omega)).trans (HTq.out.yget p (Nat.zero_le _) h1 0 (by omega))
                have q1 := (HTq.out.oy.cellAt (p * 3 + 1) (by omega)).trans (HTq.out.yget p (Nat.zero_le _) h1 1 (by omega))
                have q2 := (HTq.out.oy.cellAt (p * 3 + 2) (by omega)).trans (HTq.out.yget p (Nat.zero_le _) h1 2 (by omega))
                have HST := Hd.mk (outF_step (d := d) (W := Wn) (c := c) (f := n) (p := p) (by omega) (by omega))
                rcases tab_tok (d := d) (w := Wn) (c := c) (p := p) (by omega) with ht | ⟨l, hl3, hl258, hpl, hnr, ht⟩
                · rw [ht] at q0 q1 q2
                  obtain ⟨x, hx⟩ : ∃ x, x = at0 d p := ⟨_, rfl⟩
                  rw [← hx] at q0 q1 q2 ht
                  have HTT := Hd.mk ht
                  have z0 : wx.cell? ⟨gf, p * 3, none⟩ = some (.int .u8 x) := q0
                  have z1 : wx.cell? ⟨gf, p * 3 + 1, none⟩ = some (.int .i64 0) := q1
                  have z2 : wx.cell? ⟨gf, p * 3 + 2, none⟩ = some (.int .i64 0) := q2
                  clear ht hx q0 q1 q2
                  have hp1 : (p : Int) < (n : Int) + 1 := by omega
                  go_upto_region 27 with (fail)
                  have N1 := blk_new wx (.cells #[.int .u8 x, .int .i64 0, .int .i64 0] 80)
                  have F2 := Hd.mk (HF.out.alloc (.cells #[.int .u8 x, .int .i64 0, .int .i64 0] 80))
                  have O2 := Hd.mk (HO.out.alloc (.cells #[.int .u8 x, .int .i64 0, .int .i64 0] 80))
                  have hne : Hd (some wx.heap.size ≠ (Value.slice A1 m d1).ownBlock) := ⟨by
                    intro e
                    obtain ⟨cs, hcs⟩ := own_type HO.out e.symm
                    exact Nat.lt_irrefl _ (blk_lt hcs)⟩
                  generalize wx.alloc (.cells #[.int .u8 x, .int .i64 0, .int .i64 0] 80) = wy at *
                  generalize wx.heap.size = tb at *
                  have n0 := blk_cell N1 0
                  have n1 := blk_cell N1 1
                  have n2 := blk_cell N1 2
                  simp only [List.getElem?_toArray, List.getElem?_cons_zero, List.getElem?_cons_succ] at n0 n1 n2
                  have N2 := Hd.mk N1
                  clear N1 z0 z1 z2
                  go_wp2_with (at_builtin; refine wpList_append_sl rfl (.tmp 141) (.tmp 143) 35 rfl 80 i0 (.agg #[.int .u8 0, .int .i64 0, .int .i64 0]) 3 24 Tryz.underlying35 hi0 hz0 hz1 hz2 rfl (by decide) (.slice A1 m d1) m _ rfl (by exact O2.out.alloc _) (some ⟨wy.heap.size, 0, none⟩) 1 1 [.int .u8 x, .int .i64 0, .int .i64 0] (some wy.heap.size) rfl rfl (by exact sl_of_blk (blk_new _ _)) (by intro h; cases h) (by intro u hu; simp at hu; rcases hu with rfl | rfl | rfl <;> rfl) (by unfold maxLen; omega) (by omega) ?_; intro A3 d3 w6 hown' hgrow haft; have O3 := Hd.mk hown'; have G3 := Hd.mk hgrow; have F3 := Hd.mk haft; have m1 := blk_cell (blk_grown hgrow (blk_alloc N2.out _) hne.out) 1; simp only [List.getElem?_toArray, List.getElem?_cons_zero, List.getElem?_cons_succ] at m1; clear hown' hgrow haft n0 n1 n2)
                  go_roundg (gk - 1)
                  case measure => omega
                  case rel =>
                    refine ⟨p + 1, A3, m + 1, d3, P ++ [(tab d Wn c p).2], rfl, by go_num, by omega, by omega, by omega, ⟨by rw [HP.out, HST.out, List.append_assoc, HTT.out]; rfl⟩, ⟨?_⟩, ⟨tokOwn_new HB.out F2.out.size F3.out⟩, ⟨(F2.out.alloc _).grown G3.out (fun y hy => .inr (HB.out y hy))⟩⟩
                    rw [tcells_app, HTT.out]
                    exact O3.out
                · rw [ht] at q0 q1 q2
                  obtain ⟨k2, hk2⟩ : ∃ k2, k2 = near d p l Wn := ⟨_, rfl⟩
                  rw [← hk2] at q0 q1 q2 ht hnr
                  have hl0 : (((l : Nat) : Int) == 0) = false := by simp; omega
                  have HTT := Hd.mk ht
                  have z0 : wx.cell? ⟨gf, p * 3, none⟩ = some (.int .u8 0) := q0
                  have z1 : wx.cell? ⟨gf, p * 3 + 1, none⟩ = some (.int .i64 (l : Nat)) := q1
                  have z2 : wx.cell? ⟨gf, p * 3 + 2, none⟩ = some (.int .i64 (k2 : Nat)) := q2
                  clear ht hk2 q0 q1 q2
                  have hp1 : (p : Int) < (n : Int) + 1 := by omega
                  go_upto_region 27 with (fail)
                  have N1 := blk_new wx (.cells #[.int .u8 0, .int .i64 (l : Nat), .int .i64 (k2 : Nat)] 80)
                  have F2 := Hd.mk (HF.out.alloc (.cells #[.int .u8 0, .int .i64 (l : Nat), .int .i64 (k2 : Nat)] 80))
                  have O2 := Hd.mk (HO.out.alloc (.cells #[.int .u8 0, .int .i64 (l : Nat), .int .i64 (k2 : Nat)] 80))
                  have hne : Hd (some wx.heap.size ≠ (Value.slice A1 m d1).ownBlock) := ⟨by
                    intro e
                    obtain ⟨cs, hcs⟩ := own_type HO.out e.symm
                    exact Nat.lt_irrefl _ (blk_lt hcs)⟩
                  generalize wx.alloc (.cells #[.int .u8 0, .int .i64 (l : Nat), .int .i64 (k2 : Nat)] 80) = wy at *
                  generalize wx.heap.size = tb at *
                  have n0 := blk_cell N1 0
                  have n1 := blk_cell N1 1
                  have n2 := blk_cell N1 2
                  simp only [List.getElem?_toArray, List.getElem?_cons_zero, List.getElem?_cons_succ] at n0 n1 n2
                  have N2 := Hd.mk N1
                  clear N1 z0 z1 z2
                  go_wp2_with (at_builtin; refine wpList_append_sl rfl (.tmp 141) (.tmp 143) 35 rfl 80 i0 (.agg #[.int .u8 0, .int .i64 0, .int .i64 0]) 3 24 Tryz.underlying35 hi0 hz0 hz1 hz2 rfl (by decide) (.slice A1 m d1) m _ rfl (by exact O2.out.alloc _) (some ⟨wy.heap.size, 0, none⟩) 1 1 [.int .u8 0, .int .i64 (l : Nat), .int .i64 (k2 : Nat)] (some wy.heap.size) rfl rfl (by exact sl_of_blk (blk_new _ _)) (by intro h; cases h) (by intro u hu; simp at hu; rcases hu with rfl | rfl | rfl <;> rfl) (by unfold maxLen; omega) (by omega) ?_; intro A3 d3 w6 hown' hgrow haft; have O3 := Hd.mk hown'; have G3 := Hd.mk hgrow; have F3 := Hd.mk haft; have m1 := blk_cell (blk_grown hgrow (blk_alloc N2.out _) hne.out) 1; simp only [List.getElem?_toArray, List.getElem?_cons_zero, List.getElem?_cons_succ] at m1; clear hown' hgrow haft n0 n1 n2)
                  go_roundg (gk - l)
                  case measure => omega
                  case rel =>
                    refine ⟨p + l, A3, m + 1, d3, P ++ [(tab d Wn c p).2], rfl, by go_num, by omega, by omega, by omega, ⟨by rw [HP.out, HST.out, List.append_assoc, HTT.out, show max ((⟨0, (l : Nat), (k2 : Nat)⟩ : Tok).len.toNat) 1 = l from by simp; omega]; rfl⟩, ⟨?_⟩, ⟨tokOwn_new HB.out F2.out.size F3.out⟩, ⟨(F2.out.alloc _).grown G3.out (fun y hy => .inr (HB.out y hy))⟩⟩
                    rw [tcells_app, HTT.out]
                    exact O3.out
              · obtain rfl : p = n := by omega
                have hpp : Hd (ts = P) := ⟨by rw [HP.out, outF_end (by omega), List.append_nil]⟩
                have z1 := (HTq.out.oz.cellAt 0 (by omega)).trans (HTq.out.zget 0 (by omega) (by omega))
                rw [← HCC.out] at z1
                go_wp2_with (fail)
                go_region
                go_wp2
                go_ret3
                exact ⟨A1, m, d1, rfl, by rw [hpp.out]; exact own_frame HO.out ((Fr.refl _ []).drew) (by simp), fun y hy => Nat.le_trans HTb.out.fr.size (HB.out y hy), (HTb.out.fr.trans HF.out (by simp)).drew⟩
          | succ t =>
            have e0 : (((t + 1 : Nat) : Int) - 1) = (t : Int) := by omega
            rw [e0]
            clear e0
            obtain ⟨r, hr⟩ : ∃ r, r = (tab d Wn c (t + 1)).1 := ⟨_, rfl⟩
            have HR := Hd.mk hr
            have hrb : 0 ≤ r ∧ r ≤ 1099511627776 := by
              have := tab_bound (d := d) (w := Wn) HPK.out (n - (t + 1)) (t + 1) (by omega)
              have h3 : ((n - (t + 1) : Nat) : Int) * 1048576 ≤ 1048576 * 1048576 := Int.mul_le_mul (by omega) (by omega) (by omega) (by omega)
              rw [hr]
              omega
            have z1 := (HTb.out.oz.cellAt (t + 1) (by omega)).trans (HTb.out.zget (t + 1) (by omega) (by omega))
            rw [← hr] at z1
            obtain ⟨v0, z0, f0⟩ := own_any HTb.out.oz (j := t) (by omega)
            have p0 := blk_cell HTb.out.pblk 0
            simp only [List.getElem?_toArray, List.getElem?_cons_zero, List.getElem?_cons_succ] at p0
            obtain ⟨x0, hx0⟩ : ∃ x0, x0 = c.lit := ⟨_, rfl⟩
            rw [← hx0] at p0
            have HX0 := Hd.mk hx0
            have hx0b : 0 ≤ x0 ∧ x0 ≤ 1048576 := by rw [hx0]; exact ⟨HPK.out.1, HPK.out.2.1⟩
            have ht1 : (t : Int) < (n : Int) + 1 := by omega
            have ht2 : (t : Int) + 1 < (n : Int) + 1 := by omega
            clear hr hx0
            go_wp2_with (fail)
            go_region
            have HT1 := Hd.mk ((HTb.out.setL (Nat.lt_succ_self t) (.int .i64 (x0 + r))).call ((Fr.refl _ []).drew))
            generalize ((wr.setCell ⟨gl, t, none⟩ (.int .i64 (x0 + r))).drew) = w5 at *
            generalize hzs1 : zs.set t (.int .i64 (x0 + r)) = zs1 at HT1
            have hzt : zs1[t]? = some (.int .i64 (x0 + r)) := by rw [← hzs1]; exact List.getElem?_set_self (by have := HTb.out.oz.1; omega)
            have HZT := Hd.mk hzt
            clear hzs1 hzt HTb z0 z1 f0 p0
            obtain ⟨bd, off, ed, _, hcc⟩ := (HS.out.sl.frame HT1.out.fr (by simp)) (by rw [u8s_length]; omega)
            subst ed
            have kd := (hcc t (by rw [u8s_length]; omega)).trans (u8s_at (by omega))
            obtain ⟨x, hx⟩ : ∃ x, x = at0 d t := ⟨_, rfl⟩
            rw [← hx] at kd
            have HXX := Hd.mk hx
            clear hcc hx
            obtain ⟨u0, y0, f0⟩ := own_any HT1.out.oy (j := t * 3) (by omega)
            obtain ⟨u1, y1, f1⟩ := own_any HT1.out.oy (j := t * 3 + 1) (by omega)
            obtain ⟨u2, y2, f2⟩ := own_any HT1.out.oy (j := t * 3 + 2) (by omega)
            go_wp2_with (fail)
            have HT2 := Hd.mk (HT1.out.setF (Nat.lt_succ_self t) (.int .u8 x) (.int .i64 0) (.int .i64 0))
            generalize (((w5.setCell ⟨gf, t * 3, none⟩ (.int .u8 x)).setCell ⟨gf, t * 3 + 1, none⟩ (.int .i64 0)).setCell ⟨gf, t * 3 + 2, none⟩ (.int .i64 0)) = w6 at *
            have hys : ∀ j, j < 3 → (((ys.set (t * 3) (.int .u8 x)).set (t * 3 + 1) (.int .i64 0)).set (t * 3 + 2) (.int .i64 0))[j + t * 3]? = (tcell ⟨x, 0, 0⟩)[j]? := by
              have hlen2 := HT1.out.oy.1
              exact set3_get (by omega)
            generalize ((ys.set (t * 3) (.int .u8 x)).set (t * 3 + 1) (.int .i64 0)).set (t * 3 + 2) (.int .i64 0) = ys2 at HT2 hys
            have HYS := Hd.mk hys
            clear hys y0 y1 y2 f0 f1 f2 u0 u1 u2 kd HT1
            go_wp2_with (fail)
            go_loopg [14] 256 (fun kq qv wr => ∃ (zs ys : List Value) (cur : Int × Tok), qv = .int .i64 ((kq + 2 : Nat) : Int) ∧ kq ≤ 256 ∧ Hd (Tb w wr 80 kb pb gl gf n (n + 1) 90 160 k c d Wn (t + 1) zs ys) ∧ Hd (zs[t]? = some (.int .i64 cur.1)) ∧ Hd (∀ j, j < 3 → ys[j + t * 3]? = (tcell cur.2)[j]?) ∧ 0 ≤ cur.1 ∧ cur.1 ≤ 1099512676352 ∧ Hd (tab d Wn c t = descF d t Wn c (fun i => (tab d Wn c i).1) kq cur))
            case atStart => exact ⟨zs1, ys2, (x0 + r, ⟨x, 0, 0⟩), by go_num, Nat.le_refl _, HT2, HZT, HYS, by simp only; omega, by simp only; omega, ⟨by rw [tab_step (by omega)]; unfold entry; rw [HX0.out, HR.out, HXX.out]⟩⟩
            case round =>
              clear HT2 HZT HYS
              obtain ⟨gm, rfl⟩ : ∃ gm : Nat, gm = gk := ⟨_, rfl⟩
              obtain ⟨zs, ys, ⟨cv, ct⟩, rfl, hm, HT2, HZT, HYS, hc0, hc1, HTA⟩ := hrel
              cases gm with
              | zero =>
                have e0 : (((0 + 2 : Nat) : Int)) = 2 := by omega
                rw [e0]
                clear e0
                have HTD := Hd.mk (HT2.out.done (by rw [HTA.out]; exact HZT.out) (fun j hj => by rw [HTA.out, Nat.add_comm]; exact HYS.out j hj))
                go_wp2
                go_roundg t
                case measure => omega
                case rel => exact ⟨zs, ys, by go_num, by omega, HTD⟩
              | succ m =>
                obtain ⟨l, hlq⟩ : ∃ l : Nat, l = m + 3 := ⟨_, rfl⟩
                have e0 : (((m + 1 + 2 : Nat) : Int)) = (l : Int) := by omega
                rw [e0]
                clear e0
                have hl3 : (3 : Int) ≤ (l : Int) := by omega
                have hl5 : (l : Int) ≤ 258 := by omega
                have HLQ := Hd.mk hlq
                clear hlq
                by_cases hgo : t + l ≤ n
                · have b0 := blk_cell HT2.out.kblk 0
                  simp only [List.getElem?_toArray, List.getElem?_cons_zero, List.getElem?_cons_succ] at b0
                  rw [HW.out] at b0
                  obtain ⟨dd, hdd⟩ : ∃ dd, dd = near d t l Wn := ⟨_, rfl⟩
                  have HDD := Hd.mk hdd
                  have hddb : dd ≤ 32768 := by
                    have := (nearF_le (d := d) (p := t) (n := l) (w := Wn) (t + 1) 1).1
                    rw [hdd]
                    unfold near
                    omega
                  clear hdd
                  go_wp2_with (fail)
                  refine (rnear_any wr (some ⟨bd, off, none⟩) n cc d q t l Wn (by omega) (by omega) hl hWb (by omega) (HS.out.sl.frame HT2.out.fr (by simp))).mono ?_
                  rintro e w7 ⟨rfl, h7⟩
                  rw [← HDD.out]
                  have HT3 := Hd.mk (HT2.out.call h7)
                  clear h7 b0 HT2
                  by_cases hd0 : dd = 0
                  · subst hd0
                    have HTA2 : Hd (tab d Wn c t = descF d t Wn c (fun i => (tab d Wn c i).1) m (cv, ct)) := ⟨by rw [HTA.out]; simp only [descF]; rw [if_neg (fun e => e.2.1 (by rw [← HLQ.out]; exact HDD.out.symm))]⟩
                    clear HTA
                    go_wp2
                    go_roundg m
                    case measure => omega
                    case rel => exact ⟨zs, ys, (cv, ct), (by have hlq := HLQ.out; go_num), by omega, HT3, HZT, HYS, hc0, hc1, HTA2⟩
                  · have hde : ((dd : Int) == 0) = false := by simp; omega
                    obtain ⟨bl, hbl⟩ : ∃ bl, bl = bitLen dd := ⟨_, rfl⟩
                    obtain ⟨x1, hx1⟩ : ∃ x1, x1 = c.mat := ⟨_, rfl⟩
                    obtain ⟨x2, hx2⟩ : ∃ x2, x2 = c.far := ⟨_, rfl⟩
                    obtain ⟨z, hz⟩ : ∃ z, x2 * (bl : Int) = z := ⟨_, rfl⟩
                    obtain ⟨rl, hrl⟩ : ∃ rl, rl = (tab d Wn c (t + l)).1 := ⟨_, rfl⟩
                    have hrlb : 0 ≤ rl ∧ rl ≤ 1099511627776 := by
                      have := tab_bound (d := d) (w := Wn) HPK.out (n - (t + l)) (t + l) (by omega)
                      have h3 : ((n - (t + l) : Nat) : Int) * 1048576 ≤ 1048576 * 1048576 := Int.mul_le_mul (by omega) (by omega) (by omega) (by omega)
                      rw [hrl]
                      omega
                    have hzb : 0 ≤ z ∧ z ≤ 67108864 := by
                      have := mcost_bound HPK.out dd hrlb.1
                      rw [← hbl, ← hx2, hz] at this
                      omega
                    have hx1b : 0 ≤ x1 ∧ x1 ≤ 1048576 := by rw [hx1]; exact ⟨HPK.out.2.2.1, HPK.out.2.2.2.1⟩
                    have z1 := (HT3.out.oz.cellAt (t + l) (by omega)).trans (HT3.out.zget (t + l) (by omega) (by omega))
                    rw [← hrl] at z1
                    have p1 := blk_cell HT3.out.pblk 1
                    have p2 := blk_cell HT3.out.pblk 2
                    simp only [List.getElem?_toArray, List.getElem?_cons_zero, List.getElem?_cons_succ] at p1 p2
                    rw [← hx1] at p1
                    rw [← hx2] at p2
                    have HV : Hd (mcost c dd rl = x1 + z + rl) := ⟨by unfold mcost; rw [← hbl, ← hx1, ← hx2, hz]⟩
                    have HBL := Hd.mk hbl
                    have HRL := Hd.mk hrl
                    clear hbl hx1 hx2 hrl
                    have ht3 : (t : Int) + (l : Int) < (n : Int) + 1 := by omega
                    have i1 : IntKind.i64.wrap (x2 * (bl : Int)) = z := by rw [hz]; exact IntWalk.i64_in _ ⟨by omega, by omega⟩
                    have i2 : IntKind.i64.wrap (x1 + z) = x1 + z := IntWalk.i64_in _ ⟨by omega, by omega⟩
                    have i3 : IntKind.i64.wrap ((t : Int) + (l : Int)) = (t : Int) + (l : Int) := IntWalk.i64_in _ ⟨by omega, by omega⟩
                    have i4 : IntKind.i64.wrap (x1 + z + rl) = x1 + z + rl := IntWalk.i64_in _ ⟨by omega, by omega⟩
                    have j1 : (decide ((t : Int) + (l : Int) < (n : Int) + 1)) = true := decide_eq_true ht3
                    clear hz
                    go_wp2_with (fail)
                    go_quiet ((first | (go_at_call 114; exact quiet_left (bits_at _ dd bl HBL.out hddb))))
                    have HT4 := Hd.mk (HT3.out.call ((Fr.refl w7 []).drewN nq))
                    clear z1 p1 p2 i1 i2 i3 i4 j1 HT3
                    generalize w7.drewN nq = w8 at *
                    have hzt := HZT.out
                    have z1 := (HT4.out.oz.cellAt t (by omega)).trans hzt
                    have f1 := HT4.out.oz.frozenAt t
                    clear hzt
                    obtain ⟨v, hv⟩ : ∃ v, v = x1 + z + rl := ⟨_, rfl⟩
                    have hvb : 0 ≤ v := by omega
                    rw [← hv] at HV ⊢
                    clear hv
                    have HST : Hd (descF d t Wn c (fun i => (tab d Wn c i).1) (m + 1) (cv, ct) = descF d t Wn c (fun i => (tab d Wn c i).1) m (if v < cv then (v, ⟨0, (l : Int), (dd : Nat)⟩) else (cv, ct))) := ⟨by
                      have e1 := HLQ.out
                      have e2 := HDD.out
                      have e3 := HV.out
                      rw [HRL.out] at e3
                      simp only [descF]
                      rw [← e1, ← e2, e3]
                      by_cases h : v < cv
                      · rw [if_pos ⟨by omega, hd0, h⟩, if_pos h]
                      · rw [if_neg (fun e => h e.2.2), if_neg h]⟩
                    by_cases hlt : v < cv
                    · have HTA2 : Hd (tab d Wn c t = descF d t Wn c (fun i => (tab d Wn c i).1) m (v, ⟨0, (l : Int), (dd : Nat)⟩)) := ⟨by rw [HTA.out, HST.out, if_pos hlt]⟩
                      clear HTA HST HYS HZT
                      have HT5 := Hd.mk (HT4.out.setL (Nat.lt_succ_self t) (.int .i64 v))
                      obtain ⟨u0, y0, f2⟩ := own_any HT5.out.oy (j := t * 3) (by omega)
                      obtain ⟨u1, y1, f3⟩ := own_any HT5.out.oy (j := t * 3 + 1) (by omega)
                      obtain ⟨u2, y2, f4⟩ := own_any HT5.out.oy (j := t * 3 + 2) (by omega)
                      go_wp2
                      have HT6 := Hd.mk (HT5.out.setF (Nat.lt_succ_self t) (.int .u8 0) (.int .i64 (l : Int)) (.int .i64 (dd : Nat)))
                      go_roundg m
                      case measure => omega
                      case rel =>
                        have hlen1 := HT4.out.oz.1
                        have hlen2 := HT4.out.oy.1
                        exact ⟨_, _, (v, ⟨0, (l : Int), (dd : Nat)⟩), (by have hlq := HLQ.out; go_num), by omega, HT6, ⟨List.getElem?_set_self (by omega)⟩, ⟨set3_get (by omega)⟩, hvb, by simp only; omega, HTA2⟩
                    · have HTA2 : Hd (tab d Wn c t = descF d t Wn c (fun i => (tab d Wn c i).1) m (cv, ct)) := ⟨by rw [HTA.out, HST.out, if_neg hlt]⟩
                      clear HTA HST
                      go_wp2
                      go_roundg m
                      case measure => omega
                      case rel => exact ⟨zs, ys, (cv, ct), (by have hlq := HLQ.out; go_num), by omega, HT4, HZT, HYS, hc0, hc1, HTA2⟩
                · have HTA2 : Hd (tab d Wn c t = descF d t Wn c (fun i => (tab d Wn c i).1) m (cv, ct)) := ⟨by rw [HTA.out]; simp only [descF]; rw [if_neg (fun e => hgo (by have := e.1; have := HLQ.out; omega))]⟩
                  clear HTA
                  go_wp2
                  go_roundg m
                  case measure => omega
                  case rel => exact ⟨zs, ys, (cv, ct), (by have hlq := HLQ.out; go_num), by omega, HT2, HZT, HYS, hc0, hc1, HTA2⟩
  · obtain rfl : er = 72 := by rw [HE.out]; unfold cheapErr; rw [if_pos (by rw [← HEO.out]; simp)]
    obtain rfl : ts = [] := by rw [HT.out]; unfold cheapToks; rw [if_neg (by rw [← HE.out]; simp)]
    obtain rfl : cost = 0 := by rw [HC.out]; unfold cheapCost; rw [if_neg (by rw [← HE.out]; simp)]
    go_wp2
    go_ret3
    exact ⟨none, 0, 0, rfl, own_nil _ _ _ _, (by intro j hj; cases hj), F2.out⟩
end Go.Proofs.YtkdgfioigkijgaaGreat.Lz
set_option linter.unusedVariables false
set_option linter.unusedSimpArgs false
set_option maxRecDepth 100000
namespace Go.Proofs.YtkdgfioigkijgaaGreat.Prs
open Go.Proofs.YtkdgfioigkijgaaGreat.Lib Go.Proofs.YtkdgfioigkijgaaGreat.Ints Go.Proofs.YtkdgfioigkijgaaGreat.Lz Go.Proofs.YtkdgfioigkijgaaGreat.Num Go.Proofs.YtkdgfioigkijgaaGreat.Bits Go.Proofs.YtkdgfioigkijgaaGreat.Blk
theorem tab_right {d : List Int} {w : Nat} {c : Pr} {p : Nat} (hw : w ≤ 32768) (hp : p < d.length) (hb : Bytes d) : right (tab d w c p).2 = true ∧ (0 ≤ (tab d w c p).2.lit ∧ (tab d w c p).2.lit ≤ 255) ∧ Lz.width (tab d w c p).2 = max (tab d w c p).2.len.toNat 1 ∧ p + max (tab d w c p).2.len.toNat 1 ≤ d.length := by
  rcases tab_tok (w := w) (c := c) hp with e | ⟨l, h1, h2, h3, h4, e⟩
  · rw [e]
    exact ⟨rfl, at0_byte hb hp, rfl, by simp; omega⟩
  · have hn := near_le d p l w
    have hr : right (tab d w c p).2 = true := by
      rw [e]
      unfold right
      rw [if_neg (by simp only; omega), decide_eq_true_iff]
      exact ⟨by simp only; omega, by simp only; omega, by simp only; omega, by simp only; omega, rfl⟩
    refine ⟨hr, by rw [e]; simp, ?_, by rw [e]; simp only [Int.toNat_natCast]; omega⟩
    unfold Lz.width
    rw [if_pos hr, e, if_neg (by simp only; omega)]
    simp only [Int.toNat_natCast]
    omega
theorem out_all {d : List Int} {w : Nat} {c : Pr} (hw : w ≤ 32768) (hb : Bytes d) : ∀ n p, d.length - p ≤ n → p ≤ d.length → ∀ f, d.length ≤ f + p → (∀ t ∈ outF d w c f p, right t = true ∧ 0 ≤ t.lit ∧ t.lit ≤ 255) ∧ Lz.sizeOf (outF d w c f p) = d.length - p ∧ (outF d w c f p).length ≤ d.length - p
  | n, p, hn, hp, f, hf => by
    by_cases h : p < d.length
    · cases n with
      | zero => omega
      | succ n =>
        obtain ⟨r1, r2, r3, r4⟩ := tab_right (w := w) (c := c) hw h hb
        rw [outF_step h hf]
        have ih := out_all hw hb n (p + max (tab d w c p).2.len.toNat 1) (by omega) r4 f (by omega) (c := c)
        refine ⟨fun t ht => ?_, ?_, ?_⟩
        · rcases List.mem_cons.1 ht with rfl | ht
          · exact ⟨r1, r2⟩
          · exact ih.1 t ht
        · have e : ∀ (t : Tok) l, Lz.sizeOf (t :: l) = Lz.width t + Lz.sizeOf l := fun t l => by unfold Lz.sizeOf; rw [List.map_cons, List.sum_cons]
          rw [e, ih.2.1, r3]
          omega
        · rw [List.length_cons]
          have := ih.2.2
          omega
    · rw [outF_end (by omega)]
      refine ⟨fun t ht => absurd ht List.not_mem_nil, ?_, by simp⟩
      show 0 = _
      omega
theorem price_ok {T : List Tok} (hr : ∀ t ∈ T, right t = true) (hl : LitB T) : 0 ≤ priceL T ∧ priceL T ≤ 15 ∧ 0 ≤ priceM T ∧ priceM T ≤ 36 := by
  have L1 := check15 (ownLit_check T)
  have L2 := check15 (ownDist_check T)
  have hs : ∀ (f g : Tok → Int) (K : Int) (l : List Tok), 0 ≤ K → (∀ t ∈ l, 0 ≤ f t ∧ f t ≤ K * g t) → (∀ t ∈ l, 0 ≤ g t) → 0 ≤ sumF f l ∧ sumF f l ≤ K * sumF g l ∧ 0 ≤ sumF g l := by
    intro f g K l hK
    induction l with
    | nil => intro _ _; simp [sumF]
    | cons t l ih =>
      intro h1 h2
      obtain ⟨i1, i2, i3⟩ := ih (fun x hx => h1 x (List.mem_cons_of_mem _ hx)) (fun x hx => h2 x (List.mem_cons_of_mem _ hx))
      have a1 := h1 t List.mem_cons_self
      have a2 := h2 t List.mem_cons_self
      have e : K * sumF g (t :: l) = K * g t + K * sumF g l := by rw [sumF, Int.mul_add]
      refine ⟨by rw [sumF]; omega, by rw [e, sumF]; omega, by rw [sumF]; omega⟩
  have hm : ∀ s c d K : Int, 0 ≤ s → s ≤ K * c → 0 ≤ c → 0 ≤ d → d ≤ K → 0 ≤ meanN s c d ∧ meanN s c d ≤ K := by
    intro s c d K h1 h2 h3 h4 h5
    unfold meanN
    split
    · exact ⟨h4, h5⟩
    · rename_i hc
      rw [Int.tdiv_eq_ediv_of_nonneg (by omega)]
      refine ⟨Int.ediv_nonneg (by omega) (by omega), ?_⟩
      have : s + c - 1 < (K + 1) * c := by rw [Int.add_mul, Int.one_mul]; omega
      have := Int.ediv_lt_of_lt_mul (show 0 < c by omega) this
      omega
  have a := hs (fA (ownLit T)) fN 15 T (by decide) (fun t ht => by
    have := fA_le L1 t
    unfold fA fN at *
    split <;> simp_all) (fun t ht => (fN_le t).1)
  have b := hs (fB (ownLit T) (ownDist T)) fM 36 T (by decide) (fun t ht => by
    have h3 := fB_le L1 L2 (hr t ht) (hl t ht)
    refine ⟨h3.1, ?_⟩
    by_cases h : t.len = 0
    · have : fB (ownLit T) (ownDist T) t = 0 := by unfold fB; rw [if_pos h]
      have e : fM t = 0 := by unfold fM; rw [if_pos h]
      rw [this, e]
      decide
    · have e : fM t = 1 := by unfold fM; rw [if_neg h]
      rw [e]
      omega) (fun t ht => (fM_le t).1)
  have c1 := hm _ _ 8 15 a.1 a.2.1 a.2.2 (by decide) (by decide)
  have c2 := hm _ _ 20 36 b.1 b.2.1 b.2.2 (by decide) (by decide)
  exact ⟨c1.1, c1.2, c2.1, c2.2⟩
structure Good (d : List Int) (l : List Tok) : Prop where
  r : ∀ t ∈ l, right t = true
  b : LitB l
  s : Lz.sizeOf l = d.length
  n : l.length ≤ d.length
theorem Good.take {d : List Int} {l : List Tok} (h : Good d l) : mayB (l.take 65536) = 0 ∧ pricesN l = ((priceL (l.take 65536), priceM (l.take 65536), 1), 0) := by
  have e : mayB (l.take 65536) = 0 := by
    unfold mayB
    rw [if_neg (by rw [List.length_take]; omega), if_pos]
    rw [List.all_eq_true]
    exact fun t ht => h.r t (List.mem_of_mem_take ht)
  exact ⟨e, by unfold pricesN; rw [if_pos e]⟩
def prOf (l : List Tok) : Pr := ⟨priceL (l.take 65536), priceM (l.take 65536), 1⟩
def nextT (d : List Int) (k : Opt) (l : List Tok) : List Tok := cheapToks d k (prOf l)
theorem Good.next {d : List Int} {k : Opt} {l : List Tok} (h : Good d l) (hk : optErr k = 0) (hb : Bytes d) : cheapErr k (prOf l) = 0 ∧ Good d (nextT d k l) := by
  have hp := price_ok (T := l.take 65536) (fun t ht => h.r t (List.mem_of_mem_take ht)) (fun t ht => h.b t (List.mem_of_mem_take ht))
  have e : cheapErr k (prOf l) = 0 := by
    unfold cheapErr
    rw [if_neg (by simp [hk]), if_neg]
    unfold prBad prOf
    simp
    omega
  refine ⟨e, ?_⟩
  have hw : 1 ≤ k.window ∧ k.window ≤ 32768 := by
    unfold optErr at hk
    split at hk
    · cases hk
    · omega
  obtain ⟨o1, o2, o3⟩ := out_all (d := d) (w := k.window.toNat) (c := prOf l) (by omega) hb d.length 0 (by omega) (by omega) d.length (by omega)
  have e2 : nextT d k l = outF d k.window.toNat (prOf l) d.length 0 := by unfold nextT cheapToks; rw [if_pos e]
  rw [e2]
  exact ⟨fun t ht => (o1 t ht).1, fun t ht => (o1 t ht).2, by omega, by omega⟩
def toksR (d : List Int) (k : Opt) : Nat → List Tok
  | 0 => parse d k
  | i + 1 => nextT d k (toksR d k i)
theorem toksR_good {d : List Int} {k : Opt} (hk : optErr k = 0) (hb : Bytes d) : ∀ i, Good d (toksR d k i)
  | 0 => by
    obtain ⟨p1, p2, p3, p4⟩ := parse_law (d := d) hk
    obtain ⟨g1, g2⟩ := parse_right hk hb
    exact ⟨g1, g2, p3, by show (parse d k).length ≤ d.length; omega⟩
  | i + 1 => ((toksR_good hk hb i).next hk hb).2
def jOf (T M : Nat) : Nat := if T = 0 then 1 else (T + M - 1) / M
theorem jOf_ok {T M : Nat} (hM : 1 ≤ M) : 1 ≤ jOf T M ∧ T ≤ jOf T M * M ∧ (jOf T M = 1 ∨ (jOf T M - 1) * M < T) := by
  unfold jOf
  by_cases h : T = 0
  · rw [if_pos h]
    exact ⟨Nat.le_refl _, by omega, .inl rfl⟩
  · rw [if_neg h]
    have h1 := Nat.div_add_mod (T + M - 1) M
    have h2 := Nat.mod_lt (T + M - 1) (show 0 < M by omega)
    obtain ⟨q, hq⟩ : ∃ q, q = (T + M - 1) / M := ⟨_, rfl⟩
    rw [← hq] at h1 ⊢
    have e : q * M = M * q := Nat.mul_comm _ _
    have hq1 : 1 ≤ q := by
      rw [hq]
      exact (Nat.le_div_iff_mul_le (by omega)).2 (by omega)
    refine ⟨hq1, by omega, .inr ?_⟩
    rw [Nat.sub_mul, Nat.one_mul]
    omega
def strm (d : List Int) (M : Nat) (l : List Tok) : List Int := bytesOf (numOf (PBx l d M (List.range (jOf l.length M)))) (btN l M (jOf l.length M))
theorem strm_len (d : List Int) (M : Nat) (l : List Tok) : (strm d M l).length = (btN l M (jOf l.length M) + 7) / 8 := bytesOf_length _ _
theorem strm_le {d : List Int} {M : Nat} {l : List Tok} (h : Good d l) (h1 : 1 ≤ M) (h2 : M ≤ 65536) (h3 : d.length ≤ 1048576) : (strm d M l).length ≤ 20000000 := by
  obtain ⟨j1, j2, j3⟩ := jOf_ok (T := l.length) h1
  have hbt := bt_le h.r h.b h2 (jOf l.length M)
  have hat := at_le l.length M (jOf l.length M)
  have hn := h.n
  rw [strm_len]
  have hJ : jOf l.length M ≤ 1048577 := by
    rcases j3 with e | e
    · omega
    · have : (jOf l.length M - 1) * 1 ≤ (jOf l.length M - 1) * M := Nat.mul_le_mul_left _ h1
      omega
  omega
def bestN (d : List Int) (k : Opt) (M : Nat) : Nat → List Int × Nat
  | 0 => (strm d M (toksR d k 0), 0)
  | i + 1 => if (strm d M (toksR d k (i + 1))).length < (bestN d k M i).1.length then (strm d M (toksR d k (i + 1)), i + 1) else bestN d k M i
theorem bestN_le {d : List Int} {k : Opt} {M : Nat} (hk : optErr k = 0) (hb : Bytes d) (h1 : 1 ≤ M) (h2 : M ≤ 65536) (h3 : d.length ≤ 1048576) : ∀ i, (bestN d k M i).1.length ≤ 20000000 ∧ (bestN d k M i).2 ≤ i ∧ ∀ x ∈ (bestN d k M i).1, 0 ≤ x ∧ x ≤ 255
  | 0 => ⟨strm_le (toksR_good hk hb 0) h1 h2 h3, Nat.le_refl _, bytesOf_range⟩
  | i + 1 => by
    have ih := bestN_le hk hb h1 h2 h3 i
    rw [bestN]
    split
    · exact ⟨strm_le (toksR_good hk hb (i + 1)) h1 h2 h3, Nat.le_refl _, bytesOf_range⟩
    · exact ⟨ih.1, by omega, ih.2.2⟩
def sqzErr (k : Opt) (most rounds : Int) : Int := if popErr k most ≠ 0 then popErr k most else if rounds < 0 ∨ 8 < rounds then 1 else 0
def sqzN (d : List Int) (k : Opt) (most rounds : Int) : List Int × Nat := if sqzErr k most rounds = 0 then bestN d k most.toNat rounds.toNat else ([], 0)
end Go.Proofs.YtkdgfioigkijgaaGreat.Prs
