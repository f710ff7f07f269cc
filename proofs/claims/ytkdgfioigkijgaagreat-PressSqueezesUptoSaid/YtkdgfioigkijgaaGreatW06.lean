import Derived.Test.YtkdgfioigkijgaaGreatW01
import Derived.Test.YtkdgfioigkijgaaGreatW04
import Derived.Test.YtkdgfioigkijgaaGreatW05
import Derived.Test.YtkdgfioigkijgaaGreatProg
import Derived.BigRegion
import Derived.BigQuiet
import Derived.Deep.QuietTactic
import Derived.Deep.LoopGhost
import Derived.Deep.DeepCutAuto
import Derived.KernelRfl
import Derived.WalkSpells
import Derived.Deep.RegionWith
import Derived.Laws.CopyOwn
import Derived.Deep.CutBlock
import Derived.Deep.RegionLaw
import Derived.Outline
set_option maxRecDepth 100000
set_option linter.unusedVariables false
set_option linter.unusedSimpArgs false
namespace Go.Proofs.YtkdgfioigkijgaaGreat.Bits
open Go.RowKit Go.Proofs.YtkdgfioigkijgaaGreat.Lib Go.Proofs.YtkdgfioigkijgaaGreat.Num
theorem infoU8 : (Tryz.prog.info? 5).map (fun i => (i.zero, i.size, i.bytes)) = some (some (.int .u8 0), 1, 1) := by kernel_rfl
def u8s (xs : List Int) : List Value := xs.map (Value.int .u8)
theorem u8s_length (xs : List Int) : (u8s xs).length = xs.length := by simp [u8s]
theorem u8s_get (xs : List Int) (j : Nat) : (u8s xs)[j]? = (xs[j]?).map (Value.int .u8) := by simp [u8s]
def Tl (w : World) (g : Nat) (T : TypeId) (N m : Nat) (q : Option Nat) : Prop :=
  ∃ sv, w.heap[g]? = some (.cells #[sv, .int .i64 m] T (0, 0)) ∧ w.ownsRow 0 5 1 sv ((m + 7) / 8) (u8s (bytesOf N m)) ∧ sv.ownBlock = q ∧ N < 2 ^ m ∧ T ≠ 5
def Tl1 (w : World) (g : Nat) (T : TypeId) (N m : Nat) (q : Nat) : Prop :=
  ∃ c, w.heap[g]? = some (.cells #[.slice (some ⟨q, 0, none⟩) (m / 8 + 1) c, .int .i64 m] T (0, 0)) ∧ w.ownsRow 0 5 1 (.slice (some ⟨q, 0, none⟩) (m / 8 + 1) c) (m / 8 + 1) (u8s (pre N m)) ∧ N < 2 ^ m ∧ T ≠ 5
theorem Tl.frame {w w' : World} {g : Nat} {T : TypeId} {N m : Nat} {q : Option Nat} (h : Tl w g T N m q) {F : List Nat} (hf : Fr w w' F) (hg : g ∉ F) (hq : ∀ k, q = some k → k ∉ F) : Tl w' g T N m q := by
  obtain ⟨sv, hb, hown, rfl, hN, hT⟩ := h
  exact ⟨sv, hf.blk hb hg, own_frame hown hf hq, rfl, hN, hT⟩
theorem Tl.ne {w : World} {g : Nat} {T : TypeId} {N m : Nat} {q : Option Nat} (h : Tl w g T N m q) : q ≠ some g := by
  obtain ⟨sv, hb, hown, rfl, hN, hT⟩ := h
  exact own_ne hown hb hT
theorem Tl.lt {w : World} {g : Nat} {T : TypeId} {N m : Nat} {q : Option Nat} (h : Tl w g T N m q) : g < w.heap.size ∧ ∀ k, q = some k → k < w.heap.size := by
  obtain ⟨sv, hb, hown, rfl, hN, hT⟩ := h
  exact ⟨blk_lt hb, fun k hk => own_lt hown hk⟩
theorem tl1_of {w : World} {g : Nat} {T : TypeId} {N m : Nat} {q : Option Nat} (h : Tl w g T N m q) (h8 : ¬ m % 8 = 0) : ∃ q1, q = some q1 ∧ Tl1 w g T N m q1 := by
  obtain ⟨sv, hb, hown, rfl, hN, hT⟩ := h
  obtain ⟨q1, c, rfl, hc⟩ := own_some hown (by omega)
  have e : (m + 7) / 8 = m / 8 + 1 := by omega
  rw [e] at hb hown
  exact ⟨q1, by simp [Value.ownBlock], c, hb, by unfold pre; rw [if_neg h8, List.append_nil]; exact hown, hN, hT⟩
theorem tl1_new {w w1 : World} {g q1 c : Nat} {T : TypeId} {N m : Nat} {sv : Value} (hb : w.heap[g]? = some (.cells #[sv, .int .i64 m] T (0, 0)))
    (hown : w.ownsRow 0 5 1 sv ((m + 7) / 8) (u8s (bytesOf N m))) (hN : N < 2 ^ m) (hT : T ≠ 5) (h8 : m % 8 = 0) (O : Obj)
    (hown' : w1.ownsRow 0 5 1 (.slice (some ⟨q1, 0, none⟩) ((m + 7) / 8 + 1) c) ((m + 7) / 8 + 1) (u8s (bytesOf N m) ++ [.int .u8 0])) (hg : (w.alloc O).grownBy w1 sv.ownBlock) (hv' : sv.ownBlock = some q1 ∨ q1 = w.heap.size + 1) :
    Tl1 (w1.setCell ⟨g, 0, none⟩ (.slice (some ⟨q1, 0, none⟩) ((m + 7) / 8 + 1) c)) g T N m q1 ∧ Aft w sv.ownBlock (some q1) ∧ Fr w (w1.setCell ⟨g, 0, none⟩ (.slice (some ⟨q1, 0, none⟩) ((m + 7) / 8 + 1) c)) (g :: sv.ownBlock.toList) := by
  have e : (m + 7) / 8 + 1 = m / 8 + 1 := by omega
  rw [e] at hown' ⊢
  have hb1 := blk_grown hg (blk_alloc hb O) (own_ne hown hb hT).symm
  have hne := own_ne hown' hb1 hT
  refine ⟨⟨c, by simpa using blk_set hb1 0 _, own_setFar (by unfold pre; rw [if_pos h8]; simpa [u8s] using hown') _ hne, hN, hT⟩, ?_, ?_⟩
  · rcases hv' with h | h
    · exact .inl h.symm
    · exact .inr ⟨q1, rfl, by omega⟩
  · refine Fr.setCell ?_ _ (.inl (by simp))
    exact ((Fr.refl w _).alloc O).grown hg (fun k hk => .inl (by simp [hk]))
theorem tl_stored {w : World} {g : Nat} {T : TypeId} {N m q x k : Nat} (h : Tl1 w g T N m q) (h1 : 1 ≤ k) (hk : m % 8 + k ≤ 8) (hx : x < 2 ^ k) :
    Tl ((w.setCell ⟨q, m / 8, none⟩ (.int .u8 ((N / 2 ^ (8 * (m / 8)) + x * 2 ^ (m % 8) : Nat) : Int))).setCell ⟨g, 1, none⟩ (.int .i64 ((m + k : Nat) : Int))) g T (N + x * 2 ^ m) (m + k) (some q) ∧
    Fr w ((w.setCell ⟨q, m / 8, none⟩ (.int .u8 ((N / 2 ^ (8 * (m / 8)) + x * 2 ^ (m % 8) : Nat) : Int))).setCell ⟨g, 1, none⟩ (.int .i64 ((m + k : Nat) : Int))) [g, q] := by
  obtain ⟨c, hb, hown, hN, hT⟩ := h
  have hne := own_ne hown hb hT
  have hne' : g ≠ q := fun e => hne (by subst e; rfl)
  have h2 := (hown.stored (m / 8) (.int .u8 ((N / 2 ^ (8 * (m / 8)) + x * 2 ^ (m % 8) : Nat) : Int))).1
  have e : (u8s (pre N m)).set (m / 8) (.int .u8 ((N / 2 ^ (8 * (m / 8)) + x * 2 ^ (m % 8) : Nat) : Int)) = u8s (bytesOf (N + x * 2 ^ m) (m + k)) := by
    unfold u8s; rw [← List.map_set, pre_set hN h1 hk hx]
  rw [e] at h2
  have e2 : m / 8 + 1 = (m + k + 7) / 8 := by omega
  refine ⟨⟨_, by simpa using blk_set (blk_far hb hne' _) 1 _, ?_, rfl, grow_lt hN hx, hT⟩, ?_⟩
  · rw [← e2]
    exact own_setFar h2 _ hne
  · exact ((Fr.refl w _).setCell _ (.inl (by simp))).setCell _ (.inl (by simp))
set_option maxHeartbeats 1000000 in
theorem lay_any (g : Nat) (T : TypeId) (N m : Nat) (q : Option Nat) (v n : Nat) (w : World) (hv : v < 2 ^ n) (hn : n ≤ 64) (hm : m + n ≤ 1125899906842624)
   (hT : Tl w g T N m q) :
    Calls Tryz.prog 48 #[.pointer (some ⟨g, 0, none⟩), .int .u64 v, .int .i64 n] w fun e w' => e = .returned (.tuple #[]) ∧
      ∃ q', Tl w' g T (N + v * 2 ^ m) (m + n) q' ∧ Aft w q q' ∧ Fr w w' (g :: q.toList) := by
  obtain ⟨i0, hi0, hz0, hz1, hz2⟩ := info_parts infoU8
  have hlt0 := hT.lt
  go_enter Tryz.func48, Tryz.ntmps48
  go_wp2
  go_loopg [1, 2] n (fun kq av an wr => ∃ y M N1 : Nat, av = .int .u64 (y : Nat) ∧ an = .int .i64 (kq : Nat) ∧ kq ≤ n ∧ M ≤ 1125899906842624 ∧ M + kq ≤ 1125899906842624 ∧
      Hd (∃ i, i + kq = n ∧ y = v / 2 ^ i ∧ M = m + i ∧ N1 = N + v % 2 ^ i * 2 ^ m) ∧
      ∃ q', Tl wr g T N1 M q' ∧ Aft w q q' ∧ Fr w wr (g :: q.toList))
  case atStart => exact ⟨v, m, N, rfl, rfl, Nat.le_refl _, by omega, by omega, ⟨0, by omega, by simp, rfl, by simp [Nat.mod_one]⟩, q, hT, Aft.refl _ _, Fr.refl _ _⟩
  case round =>
    obtain ⟨y, M, N1, rfl, rfl, hkn, hMb, hMk, HI, q', hTl, hA, hF⟩ := hrel
    have HT := Hd.mk hT
    have HTl := Hd.mk hTl
    have HA := Hd.mk hA
    have HF := Hd.mk hF
    clear hT hA
    by_cases hlt : 0 < gk
    · obtain ⟨sv, hb, hown, hq, hN, hTu⟩ := hTl
      have h0 := blk_cell hb 0
      have h1 := blk_cell hb 1
      have f0 := blk_frozen hb 0
      have f1 := blk_frozen hb 1
      simp only [List.getElem?_toArray, List.getElem?_cons_zero, List.getElem?_cons_succ] at h0 h1
      have Hown := Hd.mk hown
      have Hb := Hd.mk hb
      have Hq := Hd.mk hq
      clear hown hb hq
      go_upto_if 15 with (fail)
      go_cut [] (fun wc => ∃ q1, Tl1 wc g T N1 M q1 ∧ Aft w q (some q1) ∧ Fr w wc (g :: q.toList))
      case first =>
        by_cases h8 : M % 8 = 0
        · go_wp2_with (at_builtin; refine wpList_append_lies _ rfl _ _ 23 rfl 0 5 i0 (.int .u8 0) 1 1 Tryz.underlying23 hi0 hz0 hz1 hz2 rfl (by decide) _ _ _ rfl (Hown.out.alloc _) ⟨wr.heap.size, 0, none⟩ 1 1 [.int .u8 0] rfl rfl ?c1 ?c2 ?c0 ?c3 ?c4 ?c5 (wr.heap.size + 1) ?c6 ?_)
          case c1 => intro j u hj; match j, hj with | 0, hj => simp at hj; subst hj; simp [Addr.add]
          case c2 => intro u hu; simp at hu; subst hu; rfl
          case c0 => omega
          case c3 => unfold maxLen; omega
          case c4 => omega
          case c5 => omega
          case c6 => simp
          intro q1 c w1 hown' hgrow hq1 hlt1
          have hb1 := blk_grown hgrow (blk_alloc Hb.out _) (own_ne Hown.out Hb.out hTu).symm
          have k0 := blk_cell hb1 0
          have k1 := blk_cell hb1 1
          have g0 := blk_frozen hb1 0
          simp only [List.getElem?_toArray, List.getElem?_cons_zero, List.getElem?_cons_succ] at k0 k1
          have R := tl1_new Hb.out Hown.out hN hTu h8 _ hown' hgrow hq1
          rw [Hq.out] at R
          have HR := Hd.mk R
          clear R hown' hgrow hq1 hb1
          go_wp2
          go_meet
          case rel => exact ⟨q1, HR.out.1, HA.out.trans HR.out.2.1 HF.out.size, HF.out.trans HR.out.2.2 (fun x hx hxG => by
            rcases List.mem_cons.1 hxG with rfl | hxG
            · simp
            · rcases HA.out.mem hxG with h | h
              · exact List.mem_cons_of_mem _ h
              · omega)⟩
        · have h8' : ((M : Int) % 8 == 0) = false := by simp; omega
          go_wp2
          go_meet
          case rel =>
            obtain ⟨q1, e, h1⟩ := tl1_of HTl.out h8
            exact ⟨q1, h1, by rw [← e]; exact HA.out, HF.out⟩
      case rest =>
        obtain ⟨q1, hT1, hA1, hF1⟩ := hcut
        have HT1 := Hd.mk hT1
        have HA1 := Hd.mk hA1
        have HF1 := Hd.mk hF1
        obtain ⟨c, hb, hown, hN1, hTu1⟩ := hT1
        have hne := own_ne hown hb hTu1
        have hne' : g ≠ q1 := fun e => hne (by subst e; rfl)
        obtain ⟨old, hol⟩ : ∃ old : Nat, old = N1 / 2 ^ (8 * (M / 8)) := ⟨_, rfl⟩
        have hold : wc.cell? ⟨q1, M / 8, none⟩ = some (.int .u8 (old : Nat)) := (hown.cellAt (M / 8) (by omega)).trans (by rw [u8s_get, pre_get hN1, hol]; rfl)
        have hfro := hown.frozenAt (M / 8)
        have Hol := Hd.mk hol
        clear h0 h1 f0 f1 hol
        have h0 := blk_cell hb 0
        have h1 := blk_cell hb 1
        have f0 := blk_frozen hb 0
        have f1 := blk_frozen hb 1
        simp only [List.getElem?_toArray, List.getElem?_cons_zero, List.getElem?_cons_succ] at h0 h1
        obtain ⟨free, hfree⟩ : ∃ k : Nat, k = min (8 - M % 8) gk := ⟨_, rfl⟩
        have hk1 : M % 8 + free ≤ 8 := by omega
        have hk2 : free ≤ gk := by omega
        have hk3 : 1 ≤ free := by omega
        have hmin : (if (gk : Int) < 8 - (M : Int) % 8 then (gk : Int) else 8 - (M : Int) % 8) = (free : Int) := by split <;> omega
        clear hfree hA1 hF1 hb hown hne hlt0 hF
        go_upto_region 5 with (fail)
        go_region
        go_wp2
        go_roundg (gk - free)
        case measure => omega
        case rel =>
          obtain ⟨i, hi, hy, hM, hNN⟩ := HI.out
          have hv64 : v < 2 ^ 64 := Nat.lt_of_lt_of_le hv (Nat.pow_le_pow_right (by decide) hn)
          have hy64 : y < 2 ^ 64 := by rw [hy]; exact Nat.lt_of_le_of_lt (Nat.div_le_self _ _) hv64
          have hby := byte_or (N := N1) (m := M) (y := y) (k := free) hN1 rfl hy64 hk1
          rw [← Hol.out] at hby
          rw [hby]
          have R := tl_stored HT1.out hk3 hk1 (x := y % 2 ^ free) (Nat.mod_lt _ (Nat.two_pow_pos _))
          rw [← Hol.out, Int.natCast_add M free] at R
          refine ⟨y / 2 ^ free, M + free, _, by simp, by go_num, by omega, by omega, by omega, ⟨i + free, by omega, ?_, by omega, ?_⟩, some q1, R.1, HA1.out, ?_⟩
          · rw [hy, Nat.div_div_eq_div_mul, ← Nat.pow_add]
          · rw [hNN, mod_more, hM, ← hy, Nat.add_mul, Nat.mul_assoc, ← Nat.pow_add, Nat.add_comm i m]; omega
          · refine Fr.drew (HF1.out.trans R.2 (fun x hx hxG => ?_))
            simp only [List.mem_cons, List.not_mem_nil, or_false] at hxG
            rcases hxG with rfl | rfl
            · simp
            · rcases HA1.out.mem (k := x) (by simp) with h | h
              · exact List.mem_cons_of_mem _ h
              · omega
    · go_wp2
      go_end0
      obtain ⟨i, hi, hy, hM, hNN⟩ := HI.out
      obtain rfl : i = n := by omega
      rw [Nat.mod_eq_of_lt hv] at hNN
      rw [← hM, ← hNN]
      exact ⟨rfl, q', HTl.out, HA.out, HF.out⟩
end Go.Proofs.YtkdgfioigkijgaaGreat.Bits
set_option maxRecDepth 100000
set_option linter.unusedVariables false
set_option linter.unusedSimpArgs false
namespace Go.Proofs.YtkdgfioigkijgaaGreat.Bits
open Go.RowKit Go.Proofs.YtkdgfioigkijgaaGreat.Lib Go.Proofs.YtkdgfioigkijgaaGreat.Num
theorem flip_step {x j : Nat} (hx : x < 2 ^ 64) (hj : j < 64) :
    ((x / 2 ^ j : Nat) : Int) / 2 = ((x / 2 ^ (j + 1) : Nat) : Int) ∧ Go.bits .or .u64 (IntKind.u64.wrap ((rv x j : Nat) * 2 : Int)) (Go.bits .and .u64 ((x / 2 ^ j : Nat) : Int) 1) = ((rv x (j + 1) : Nat) : Int) := by
  have hr := rv_lt x j
  have hp := pow_lt_64 (n := j) hj
  have hq : x / 2 ^ j < 2 ^ 64 := Nat.lt_of_le_of_lt (Nat.div_le_self _ _) hx
  have e4 : rv x j * 2 < 2 ^ 64 := by
    have h := Nat.pow_le_pow_right (n := 2) (by decide) (show j + 1 ≤ 64 by omega)
    rw [Nat.pow_succ] at h; omega
  have e2 : IntKind.u64.wrap ((rv x j : Nat) * 2 : Int) = ((rv x j * 2 : Nat) : Int) := by
    rw [n64id (by omega) (by omega)]; omega
  refine ⟨by rw [Nat.pow_succ, ← Nat.div_div_eq_div_mul]; omega, ?_⟩
  rw [e2, n64and1 hq, n64or e4 (by omega)]
  rw [Nat.or_comm, show rv x j * 2 = rv x j * 2 ^ 1 from by simp, or_add (show x / 2 ^ j % 2 < 2 ^ 1 by simp; omega), rv]
  simp; omega
theorem flip_any (x : Nat) (a n : Int) (hn0 : 0 ≤ n) (hn : n ≤ 64) (w : World) (hx : x < 2 ^ 64) (ha : a = (x : Nat)) :
    Calls Tryz.prog 201 #[.int .u64 a, .int .i64 n] w fun e w' => e = .returned (.int .u64 (rv x n.toNat : Nat)) ∧ w = w' := by
  subst ha
  obtain ⟨n, rfl⟩ := Int.eq_ofNat_of_zero_le hn0
  have h1 : (if (n : Int) < 0 then (0 : Int) else n) = n := by omega
  have h2 : (if (64 : Int) < (n : Int) then (64 : Int) else n) = n := by split <;> omega
  have Hx := Hd.mk hx
  clear hx
  go_enter Tryz.func201, Tryz.ntmps201
  go_wp2
  go_loopg [0, 5, 9] n (fun kq av ov jv wr => ∃ y r j : Nat, av = .int .u64 (y : Nat) ∧ ov = .int .u64 (r : Nat) ∧ jv = .int .i64 (j : Nat) ∧ j + kq = n ∧ Hd (y = x / 2 ^ j ∧ r = rv x j) ∧ w = wr)
  case atStart => exact ⟨x, 0, 0, rfl, rfl, rfl, by omega, ⟨by simp, rfl⟩, rfl⟩
  case round =>
    obtain ⟨y, r, j, rfl, rfl, rfl, hj, HE, rfl⟩ := hrel
    by_cases hlt : j < n
    · go_wp2
      go_roundg (gk - 1)
      case measure => omega
      case rel =>
        have h := flip_step (x := x) (j := j) Hx.out (by omega)
        obtain ⟨hy, hr⟩ := HE.out
        rw [← hy, ← hr] at h
        refine ⟨x / 2 ^ (j + 1), rv x (j + 1), j + 1, ?_, ?_, by go_num, by omega, ⟨rfl, rfl⟩, rfl⟩
        · rw [h.1]
        · rw [h.2]
    · go_wp2
      go_ret
      obtain ⟨hy, hr⟩ := HE.out
      obtain rfl : j = n := by omega
      exact ⟨by rw [hr]; rfl, rfl⟩
def mayN (v : Nat) (n : Int) : Int := if n < 0 ∨ 56 < n then 30 else if v / 2 ^ n.toNat = 0 then 0 else 31
theorem mayN_ok {v : Nat} {n : Int} (h0 : 0 ≤ n) (h1 : n ≤ 56) (h : v < 2 ^ n.toNat) : mayN v n = 0 := by
  unfold mayN; rw [if_neg (by omega), if_pos (Nat.div_eq_of_lt h)]
theorem mayN_zero {v : Nat} {n : Int} (h : mayN v n = 0) : 0 ≤ n ∧ n ≤ 56 ∧ v < 2 ^ n.toNat := by
  unfold mayN at h
  split at h
  · cases h
  · split at h
    · rename_i h1 h2
      rw [Nat.div_eq_zero_iff] at h2
      have := Nat.two_pow_pos n.toNat
      exact ⟨by omega, by omega, by omega⟩
    · cases h
theorem may_any (a n : Int) (v : Nat) (w : World) (ha : a = (v : Nat)) :
    Calls Tryz.prog 47 #[.int .u64 a, .int .i64 n] w fun e w' => e = .returned (.int .i64 (mayN v n)) ∧ w = w' := by
  subst ha
  by_cases h1 : n < 0
  · have hm : mayN v n = 30 := by unfold mayN; rw [if_pos (by omega)]
    have Hm := Hd.mk hm
    clear hm
    go_enter Tryz.func47, Tryz.ntmps47
    go_wp2
    go_ret
    exact ⟨by rw [Hm.out]; rfl, rfl⟩
  · by_cases h2 : 56 < n
    · have hm : mayN v n = 30 := by unfold mayN; rw [if_pos (by omega)]
      have Hm := Hd.mk hm
      clear hm
      go_enter Tryz.func47, Tryz.ntmps47
      go_wp2
      go_ret
      exact ⟨by rw [Hm.out]; rfl, rfl⟩
    · obtain ⟨n, rfl⟩ := Int.eq_ofNat_of_zero_le (show 0 ≤ n by omega)
      have hm : mayN v n = if v / 2 ^ n = 0 then 0 else 31 := by unfold mayN; rw [if_neg (by omega)]; rfl
      have Hm := Hd.mk hm
      clear hm
      by_cases h3 : v / 2 ^ n = 0
      · have h3' : ((v : Int) / 2 ^ n != 0) = false := by rw [div_cast, h3]; rfl
        go_enter Tryz.func47, Tryz.ntmps47
        go_wp2
        go_ret
        exact ⟨by rw [Hm.out, if_pos h3]; rfl, rfl⟩
      · have h3' : ((v : Int) / 2 ^ n != 0) = true := by rw [div_cast, bne_iff_ne]; omega
        go_enter Tryz.func47, Tryz.ntmps47
        go_wp2
        go_ret
        exact ⟨by rw [Hm.out, if_neg h3]; rfl, rfl⟩
section
variable {g : Nat} {T : TypeId} {N m : Nat} {q : Option Nat}
theorem put_ok (a n : Int) (v : Nat) (w : World) (ha : a = (v : Nat)) (hm0 : mayN v n = 0) (hm : m + n.toNat ≤ 1125899906842624) (hT : Tl w g T N m q) :
    Calls Tryz.prog 11 #[.pointer (some ⟨g, 0, none⟩), .int .u64 a, .int .i64 n] w fun e w' => e = .returned (.int .i64 0) ∧
      ∃ q', Tl w' g T (N + v * 2 ^ m) (m + n.toNat) q' ∧ Aft w q q' ∧ Fr w w' (g :: q.toList) := by
  subst ha
  obtain ⟨h0, h1, h2⟩ := mayN_zero hm0
  obtain ⟨n, rfl⟩ := Int.eq_ofNat_of_zero_le h0
  simp only [Int.toNat_natCast] at h2 hm ⊢
  have Hm0 := Hd.mk hm0
  have HT := Hd.mk hT
  have H2 := Hd.mk h2
  clear hm0 hT h2
  go_enter Tryz.func11, Tryz.ntmps11
  go_wp2_with (first | (go_at_call 47; refine (may_any _ _ v _ rfl).mono ?_; rintro e w' ⟨rfl, rfl⟩; rw [Hm0.out]) | (go_at_call 48; refine (lay_any g T N m q v n _ H2.out (by omega) hm HT.out).mono ?_; rintro e w1 ⟨rfl, h⟩; have H := Hd.mk h; clear h))
  go_ret
  exact ⟨rfl, H.out⟩
theorem turned_ok (a n : Int) (v : Nat) (w : World) (ha : a = (v : Nat)) (hm0 : mayN v n = 0) (hm : m + n.toNat ≤ 1125899906842624) (hT : Tl w g T N m q) :
    Calls Tryz.prog 191 #[.pointer (some ⟨g, 0, none⟩), .int .u64 a, .int .i64 n] w fun e w' => e = .returned (.int .i64 0) ∧
      ∃ q', Tl w' g T (N + rv v n.toNat * 2 ^ m) (m + n.toNat) q' ∧ Aft w q q' ∧ Fr w w' (g :: q.toList) := by
  subst ha
  obtain ⟨h0, h1, h2⟩ := mayN_zero hm0
  obtain ⟨n, rfl⟩ := Int.eq_ofNat_of_zero_le h0
  simp only [Int.toNat_natCast] at h2 hm ⊢
  have Hm0 := Hd.mk hm0
  have HT := Hd.mk hT
  have H2 := Hd.mk h2
  have H64 : Hd (v < 2 ^ 64) := ⟨Nat.lt_of_lt_of_le h2 (Nat.pow_le_pow_right (by decide) (by omega))⟩
  clear hm0 hT h2
  go_enter Tryz.func191, Tryz.ntmps191
  go_wp2_with (first | (go_at_call 47; refine (may_any _ _ v _ rfl).mono ?_; rintro e w' ⟨rfl, rfl⟩; rw [Hm0.out]))
  go_region_with (first | (go_at_call 201; refine (flip_any v _ _ (by omega) (by omega) _ H64.out rfl).mono ?_; rintro e w' ⟨rfl, rfl⟩; rw [Int.toNat_natCast]) | (go_at_call 48; refine (lay_any g T N m q (rv v n) n _ (rv_lt v n) (by omega) hm (by exact HT.out)).mono ?_; rintro e w1 ⟨rfl, h⟩; have H := Hd.mk h; clear h))
  all_goals
    go_wp2
    go_ret
    obtain ⟨q', h1, h2, h3⟩ := H.out
    exact ⟨rfl, q', h1, h2, h3.ofDrew⟩
theorem align_any (w : World) (hm : m ≤ 1125899906842000) (hT : Tl w g T N m q) :
    Calls Tryz.prog 135 #[.pointer (some ⟨g, 0, none⟩)] w fun e w' => e = .returned (.int .i64 (((8 - m % 8) % 8 : Nat) : Int)) ∧
      ∃ q', Tl w' g T N (m + (8 - m % 8) % 8) q' ∧ Aft w q q' ∧ Fr w w' (g :: q.toList) := by
  have HT := Hd.mk hT
  obtain ⟨sv, hb, _⟩ := hT
  have h1 := blk_cell hb 1
  simp only [List.getElem?_toArray, List.getElem?_cons_zero, List.getElem?_cons_succ] at h1
  clear hb
  obtain ⟨k, hk⟩ : ∃ k, k = (8 - m % 8) % 8 := ⟨_, rfl⟩
  have hk' : (8 - (m : Int) % 8) % 8 = (k : Int) := by omega
  have hk8 : k < 8 := by omega
  rw [← hk]
  clear hk
  go_enter Tryz.func135, Tryz.ntmps135
  go_wp2_with (first | (go_at_call 48; refine (lay_any g T N m q 0 k _ (Nat.two_pow_pos _) (by omega) (by omega) HT.out).mono ?_; rintro e w1 ⟨rfl, h⟩; have H := Hd.mk h; clear h))
  go_ret
  obtain ⟨q', h1, h2, h3⟩ := H.out
  exact ⟨rfl, q', by simpa using h1, h2, h3⟩
theorem len_any (w : World) (hT : Tl w g T N m q) :
    Calls Tryz.prog 19 #[.pointer (some ⟨g, 0, none⟩)] w fun e w' => e = .returned (.int .i64 m) ∧ w = w' := by
  obtain ⟨sv, hb, _⟩ := hT
  have h1 := blk_cell hb 1
  simp only [List.getElem?_toArray, List.getElem?_cons_zero, List.getElem?_cons_succ] at h1
  clear hb
  go_enter Tryz.func19, Tryz.ntmps19
  go_wp2
  go_ret
  exact ⟨rfl, rfl⟩
theorem bytes_any (w : World) (hm : m ≤ 1125899906842624) (hT : Tl w g T N m q) :
    Calls Tryz.prog 23 #[.pointer (some ⟨g, 0, none⟩)] w fun e w' => ∃ v, e = .returned v ∧
      w'.ownsRow 0 5 1 v ((m + 7) / 8) (u8s (bytesOf N m)) ∧ Aft w none v.ownBlock ∧ Fr w w' [] := by
  obtain ⟨i0, hi0, hz0, hz1, hz2⟩ := info_parts infoU8
  obtain ⟨sv, hb, hown, _⟩ := hT
  have h0 := blk_cell hb 0
  simp only [List.getElem?_toArray, List.getElem?_cons_zero, List.getElem?_cons_succ] at h0
  obtain ⟨A, c, rfl, hc, _, hA⟩ := own_slice hown
  have Hs := Hd.mk (sl_of_own hown)
  have hA' : A = none → (m + 7) / 8 = 0 ∧ c = 0 := by
    rintro rfl
    rcases hown.2 with ⟨h, hn⟩ | ⟨g, cap, cur, h, _⟩
    · injection h with _ _ h; exact ⟨hn, h⟩
    · cases h
  have HA := Hd.mk hA'
  have hl := hown.1
  clear hb hown hA hA'
  go_enter Tryz.func23, Tryz.ntmps23
  go_wp2_with (at_builtin; refine wpList_append_sl rfl _ _ 23 rfl 5 i0 (.int .u8 0) 1 1 Tryz.underlying23 hi0 hz0 hz1 hz2 rfl (by decide) (.slice none 0 0) 0 [] rfl (own_nil _ _ _ _) A ((m + 7) / 8) c _ _ rfl hl Hs.out HA.out ?c1 ?c2 ?c3 ?_)
  case c1 => intro u hu; simp only [u8s, List.mem_map] at hu; obtain ⟨_, _, rfl⟩ := hu; rfl
  case c2 => unfold maxLen; omega
  case c3 => omega
  intro A' c' w1 hown' hgrow haft
  have H1 := Hd.mk hown'
  have H2 := Hd.mk hgrow
  have H3 := Hd.mk haft
  clear hown' hgrow haft
  go_wp2
  go_ret
  exact ⟨_, rfl, by simpa using H1.out, H3.out, (Fr.refl w []).grown H2.out (fun k hk => by simp [Value.ownBlock] at hk)⟩
theorem whole_stored {w w1 : World} {sv v' : Value} {xs : List Int} (hb : w.heap[g]? = some (.cells #[sv, .int .i64 m] T (0, 0)))
    (hown : w.ownsRow 0 5 1 sv ((m + 7) / 8) (u8s (bytesOf N m))) (hN : N < 2 ^ m) (hT : T ≠ 5) (h8 : m % 8 = 0) (hx : ∀ x ∈ xs, 0 ≤ x ∧ x ≤ 255)
    (hown' : w1.ownsRow 0 5 1 v' ((m + 7) / 8 + xs.length) (u8s (bytesOf N m) ++ u8s xs)) (hg : w.grownBy w1 sv.ownBlock) (haft : Aft w sv.ownBlock v'.ownBlock) :
    Tl ((w1.setCell ⟨g, 0, none⟩ v').setCell ⟨g, 1, none⟩ (.int .i64 ((m + 8 * xs.length : Nat) : Int))) g T (N + valB xs * 2 ^ m) (m + 8 * xs.length) v'.ownBlock ∧
      Fr w ((w1.setCell ⟨g, 0, none⟩ v').setCell ⟨g, 1, none⟩ (.int .i64 ((m + 8 * xs.length : Nat) : Int))) (g :: sv.ownBlock.toList) := by
  have hb1 := blk_grown hg hb (own_ne hown hb hT).symm
  have hne := own_ne hown' hb1 hT
  have e : u8s (bytesOf N m) ++ u8s xs = u8s (bytesOf (N + valB xs * 2 ^ m) (m + 8 * xs.length)) := by
    rw [← bytes_app hN h8 hx]; simp [u8s]
  rw [e, show (m + 7) / 8 + xs.length = (m + 8 * xs.length + 7) / 8 from by omega] at hown'
  refine ⟨⟨v', by simpa using blk_set (blk_set hb1 0 v') 1 _, own_setFar (own_setFar hown' _ hne) _ hne, rfl, grow_lt hN (valB_lt hx), hT⟩, ?_⟩
  exact (((Fr.refl w _).grown hg (fun k hk => .inl (by simp [hk]))).setCell _ (.inl (by simp))).setCell _ (.inl (by simp))
theorem whole_any (w : World) (A : Option Addr) (c : Nat) (xs : List Int) (qx : Option Nat) (hx : ∀ x ∈ xs, 0 ≤ x ∧ x ≤ 255) (hS : Sl w A (u8s xs) qx) (hA : A = none → xs.length = 0 ∧ c = 0)
    (hq : ∀ k, qx = some k → k ∉ g :: q.toList) (hm : m + 8 * xs.length ≤ 1125899906842000) (hT : Tl w g T N m q) :
    Calls Tryz.prog 136 #[.pointer (some ⟨g, 0, none⟩), .slice A xs.length c] w fun e w' => e = .returned (.tuple #[]) ∧
      ∃ q', Tl w' g T (N + valB xs * 2 ^ (m + (8 - m % 8) % 8)) (m + (8 - m % 8) % 8 + 8 * xs.length) q' ∧ Aft w q q' ∧ Fr w w' (g :: q.toList) := by
  obtain ⟨i0, hi0, hz0, hz1, hz2⟩ := info_parts infoU8
  have HT := Hd.mk hT
  have HS := Hd.mk hS
  have HA := Hd.mk hA
  have HX := Hd.mk hx
  have HQ := Hd.mk hq
  clear hT hS hA hx hq
  go_enter Tryz.func136, Tryz.ntmps136
  go_wp2_with (fail)
  refine (align_any _ (by omega) HT.out).mono ?_
  rintro e w1 ⟨rfl, q1, h1, h2, h3⟩
  obtain ⟨M, hM⟩ : ∃ M, M = m + (8 - m % 8) % 8 := ⟨_, rfl⟩
  rw [← hM] at h1
  have hMb : M ≤ m + 7 := by omega
  have HM8 : Hd (M % 8 = 0) := ⟨by omega⟩
  have HM := Hd.mk hM
  have H2 := Hd.mk h2
  have H3 := Hd.mk h3
  obtain ⟨sv, hb, hown, hqq, hN, hTu⟩ := h1
  have k0 := blk_cell hb 0
  have k1 := blk_cell hb 1
  have f0 := blk_frozen hb 0
  have f1 := blk_frozen hb 1
  simp only [List.getElem?_toArray, List.getElem?_cons_zero, List.getElem?_cons_succ] at k0 k1
  have HB := Hd.mk hb
  have HO := Hd.mk hown
  have HQQ := Hd.mk hqq
  have HS1 := Hd.mk (HS.out.frame H3.out HQ.out)
  clear h2 h3 hb hown hqq hM
  go_wp2_with (at_builtin; refine wpList_append_sl rfl _ _ 23 rfl 5 i0 (.int .u8 0) 1 1 Tryz.underlying23 hi0 hz0 hz1 hz2 rfl (by decide) sv ((M + 7) / 8) _ rfl HO.out A xs.length c _ _ rfl (by simp [u8s]) HS1.out HA.out ?c1 ?c2 ?c3 ?_)
  case c1 => intro u hu; simp only [u8s, List.mem_map] at hu; obtain ⟨_, _, rfl⟩ := hu; rfl
  case c2 => unfold maxLen; omega
  case c3 => omega
  intro A' c' w2 hown' hgrow haft
  have hb1 := blk_grown hgrow HB.out (own_ne HO.out HB.out hTu).symm
  have R := whole_stored HB.out HO.out hN hTu HM8.out HX.out hown' hgrow haft
  have HR := Hd.mk R
  have H4 := Hd.mk haft
  clear k0 k1 f0 f1
  have k0 := blk_cell hb1 0
  have k1 := blk_cell hb1 1
  have f0 := blk_frozen hb1 0
  have f1 := blk_frozen hb1 1
  simp only [List.getElem?_toArray, List.getElem?_cons_zero, List.getElem?_cons_succ] at k0 k1
  clear hown' hgrow haft hb1 R
  go_wp2
  go_end0
  have hR := HR.out
  have h3 := H3.out
  have h2 := H2.out
  have h4 := H4.out
  rw [HQQ.out] at hR h4
  rw [Int.natCast_add, Int.natCast_mul] at hR
  rw [← HM.out]
  refine ⟨rfl, _, hR.1, h2.trans h4 h3.size, h3.trans hR.2 (fun x hx hxG => ?_)⟩
  rcases List.mem_cons.1 hxG with rfl | hxG
  · simp
  · rcases h2.mem hxG with h | h
    · exact List.mem_cons_of_mem _ h
    · omega
end
end Go.Proofs.YtkdgfioigkijgaaGreat.Bits
set_option maxRecDepth 100000
set_option linter.unusedVariables false
set_option linter.unusedSimpArgs false
namespace Go.Proofs.YtkdgfioigkijgaaGreat.Bits
open Go.RowKit Go.Proofs.YtkdgfioigkijgaaGreat.Lib Go.Proofs.YtkdgfioigkijgaaGreat.Num
def Rd (w : World) (g : Nat) (V h t : Nat) : Prop :=
  w.heap[g]? = some (.cells #[.int .u64 V, .int .i64 h, .int .i64 t] 110 (0, 0)) ∧ V < 2 ^ h ∧ h ≤ 64
theorem Rd.frame {w w' : World} {g V h t : Nat} (hr : Rd w g V h t) {F : List Nat} (hf : Fr w w' F) (hg : g ∉ F) : Rd w' g V h t := ⟨hf.blk hr.1 hg, hr.2⟩
theorem Rd.lt {w : World} {g V h t : Nat} (hr : Rd w g V h t) : g < w.heap.size := blk_lt hr.1
section
variable {g V b t : Nat}
end
end Go.Proofs.YtkdgfioigkijgaaGreat.Bits
set_option linter.unusedVariables false
set_option linter.unusedSimpArgs false
set_option maxRecDepth 100000
namespace Go.Proofs.YtkdgfioigkijgaaGreat.Code
open Go.RowKit Go.IntWalk Go.Proofs.YtkdgfioigkijgaaGreat.Lib Go.Proofs.YtkdgfioigkijgaaGreat.Ints Go.Proofs.YtkdgfioigkijgaaGreat.Num Go.Proofs.YtkdgfioigkijgaaGreat.Bits
theorem wpl_copy_all {ops : Array Oper} {rest : List Oper} {o : Oper} {a : Act} {w : World} {Q : Exit → Act → World → Prop} (hgd : o.guard = none) (d s : Operand)
    (ho : o.op = .call { callee := .builtin .copy, args := #[d, s], argTypes := #[79, 79] })
    (g n cap : Nat) (A : Option Addr) (c : Nat) (xs ys : List Value) (q : Option Nat) (hd : a.eval d = .slice (some ⟨g, 0, none⟩) n cap) (hs : a.eval s = .slice A n c)
    (hO : w.ownsRow 0 3 1 (.slice (some ⟨g, 0, none⟩) n cap) n ys) (hn : xs.length = n) (hS : Sl w A xs q) (h1 : ∀ v ∈ xs, v.oneCell' = true)
    (h : ∀ w', w'.ownsRow 0 3 1 (.slice (some ⟨g, 0, none⟩) n cap) n xs → Fr w w' [g] → wpList Tryz.prog ops Q rest (a.put o.dst (goInt n)) w') :
    wpList Tryz.prog ops Q (o :: rest) a w := by
  subst hn
  have hsz : (Tryz.prog.info? 3).map (·.size) = some 1 := by kernel_rfl
  by_cases h0 : xs.length = 0
  · obtain rfl : xs = [] := List.eq_nil_of_length_eq_zero h0
    have hy : ys = [] := List.eq_nil_of_length_eq_zero (by have := hO.1; simpa using this)
    subst hy
    exact wpList_copy_nothing hgd d s _ _ ho 3 Tryz.underlying79 hsz _ A 0 cap 0 c hd hs rfl (h w hO (Fr.refl w _))
  · obtain ⟨bd, off, rfl, _, hcc⟩ := hS (by omega)
    obtain ⟨hl, hrow⟩ := hO
    rcases hrow with ⟨e, _⟩ | ⟨g', cap', cur, e, hb, hg, hnc, hcm, hcs, hcur⟩
    · cases e
    · injection e with e1 _ e2
      injection e1 with e1
      injection e1 with e1 _ _
      subst e1 e2
      refine wpList_copy_own hgd d s _ _ ho 3 Tryz.underlying79 hsz g 0 xs.length cap ⟨bd, off, none⟩ xs.length c hd hs cur _ hg xs (by simp) (fun j v hv => ?_) (by omega) h1 (h _ ⟨by omega, .inr ⟨g, cap, _, rfl, hb, setRow_heap _ _ _ _ _ _ hg, hnc, hcm, ?_, ?_⟩⟩ (Fr.setRow (Fr.refl w _) _ (.inl (by simp))))
      · have hj : j < xs.length := by
          rcases Nat.lt_or_ge j xs.length with h | h
          · exact h
          · rw [List.getElem?_eq_none h] at hv; cases hv
        have hadd : (⟨bd, off, none⟩ : Addr).add j = ⟨bd, off + j, none⟩ := by unfold Addr.add; split <;> simp_all
        rw [hadd, hcc j hj, hv]
      · simp; omega
      · simp
structure En (w : World) (g ga da : Nat) (B : Option Addr) (db : Nat) (lens : List Int) (L : List Nat) : Prop where
  blk : w.heap[g]? = some (.cells #[.slice (some ⟨ga, 0, none⟩) lens.length da, .slice B L.length db] 327 (0, 0))
  lens_ : w.ownsRow 0 3 1 (.slice (some ⟨ga, 0, none⟩) lens.length da) lens.length (i64s lens)
  codes_ : w.ownsRow 0 3 1 (.slice B L.length db) L.length (nv L)
  ok : check lens = 0
  L_ : L = codes lens
theorem En.frame {w w' : World} {g ga da db : Nat} {B : Option Addr} {lens : List Int} {L : List Nat} (h : En w g ga da B db lens L) {F : List Nat} (hf : Fr w w' F) (hF : g ∉ F ∧ ga ∉ F ∧ ∀ y, (Value.slice B L.length db).ownBlock = some y → y ∉ F) : En w' g ga da B db lens L :=
  ⟨hf.blk h.blk hF.1, own_frame h.lens_ hf (fun y hy => by cases hy; exact hF.2.1), own_frame h.codes_ hf hF.2.2, h.ok, h.L_⟩
set_option maxHeartbeats 8000000 in
theorem newenc_any (w : World) (A : Option Addr) (n c : Nat) (lens : List Int) (q : Option Nat) (hS : SlArg w A n c (i64s lens) q) (r : Int) (hr : r = check lens) :
    Calls Tryz.prog 175 #[.slice A n c] w fun e w' => ∃ p, e = .returned (.tuple #[.pointer p, .int .i64 r]) ∧ Fr w w' [] ∧ (r ≠ 0 → p = none) ∧ (r = 0 → ∃ g ga da B db L, p = some ⟨g, 0, none⟩ ∧ En w' g ga da B db lens L ∧ w.heap.size ≤ g ∧ w.heap.size ≤ ga ∧ (∀ y, (Value.slice B L.length db).ownBlock = some y → w.heap.size ≤ y)) := by
  obtain ⟨j0, hj0, hj1, hj2, hj3⟩ := info_parts infoI64
  have HS := Hd.mk hS
  have HR := Hd.mk hr
  have hl : lens.length = n := by have := hS.len; simpa [i64s] using this
  clear hS hr
  obtain ⟨L, hL⟩ : ∃ L, L = codes lens := ⟨_, rfl⟩
  have HL := Hd.mk hL
  clear hL
  go_enter Tryz.func175, Tryz.ntmps175
  go_wp2_with (fail)
  refine (codes_any w A n c lens q HS.out r L HR.out HL.out).mono ?_
  rintro e w1 ⟨A1, d1, rfl, h1, h2, h3⟩
  have O1 := Hd.mk h1
  have B1 := Hd.mk h2
  have F1 := Hd.mk h3
  clear h1 h2 h3
  by_cases hr0 : r = 0
  · subst hr0
    have hn288 : n ≤ 288 := by
      have hb : bad lens = false := by
        cases hb : bad lens with
        | false => rfl
        | true => have := HR.out; unfold check at this; rw [if_pos hb] at this; cases this
      have := (bad_false hb).1
      omega
    go_upto_region 5 with (refine wpList_make_full _ rfl _ _ 79 rfl 0 3 j0 (.int .i64 0) 1 Tryz.underlying79 hj0 hj1 hj2 .i64 .i64 _ _ n rfl rfl rfl rfl (by rw [hj3]; omega) (by unfold maxLen; omega) (Nat.zero_le _) ?_; intro w2 hown1 hgrow1; have O2 := Hd.mk hown1; have F2 := Hd.mk (F1.out.grown hgrow1 (by simp)); have O12 := Hd.mk (own_frame O1.out ((Fr.refl w1 []).grown hgrow1 (by simp)) (by simp)); clear hown1 hgrow1)
    have hg1 : w.heap.size ≤ w1.heap.size := F1.out.size
    have L1 : Hd (∀ y, (Value.slice A1 L.length d1).ownBlock = some y → y < w1.heap.size) := ⟨fun y hy => own_lt O1.out hy⟩
    generalize w1.heap.size = ga at *
    go_upto_region 6 with (refine wpl_copy_all rfl _ _ rfl ga n n A c (i64s lens) _ q rfl rfl O2.out (by rw [i64s_length]; omega) (HS.out.sl.frame F2.out (by simp)) (i64s_one lens) ?_; intro w3 hO3 hF3; have O3 := Hd.mk hO3; have F3 := Hd.mk (F2.out.trans hF3 (by intro x hx hm; simp at hm; omega)); have O13 := Hd.mk (own_frame O12.out hF3 (fun y hy hm => by have := L1.out y hy; simp at hm; omega)); clear hO3 hF3)
    have hbn : Hd (w.heap.size ≤ w3.heap.size) := ⟨F3.out.size⟩
    have hE : En (w3.alloc (.cells #[.slice (some ⟨ga, 0, none⟩) n n, .slice A1 L.length d1] 327)) w3.heap.size ga n A1 d1 lens L := by
      have o1 := O3.out.alloc (.cells #[.slice (some ⟨ga, 0, none⟩) n n, .slice A1 L.length d1] 327)
      have o2 := O13.out.alloc (.cells #[.slice (some ⟨ga, 0, none⟩) n n, .slice A1 L.length d1] 327)
      subst hl
      exact ⟨blk_new w3 _, o1, o2, HR.out.symm, HL.out⟩
    have HE := Hd.mk hE
    clear hE
    simp only [Act.put]
    go_wp2
    go_ret2
    exact ⟨_, rfl, F3.out.alloc _, _, rfl, ga, n, A1, d1, L, HE.out, hbn.out, hg1, B1.out⟩
  · have hne : (r != 0) = true := by simpa using hr0
    go_wp2
    go_ret2
    exact ⟨none, rfl, F1.out, fun _ => rfl, fun h => absurd h hr0⟩
section
variable {w : World} {g ga da db : Nat} {B : Option Addr} {lens : List Int} {L : List Nat}
set_option maxHeartbeats 8000000 in
theorem cost_any (s : Int) (n : Nat) (hn : n = bitsOf lens s) (hE : En w g ga da B db lens L) :
    Calls Tryz.prog 190 #[.pointer (some ⟨g, 0, none⟩), .int .i64 s] w fun e w' => e = .returned (.int .i64 (n : Nat)) ∧ w = w' := by
  have c0 := blk_cell hE.blk 0
  simp only [List.getElem?_toArray, List.getElem?_cons_zero, List.getElem?_cons_succ] at c0
  have HE := Hd.mk hE
  have HN := Hd.mk hn
  clear hE hn
  obtain ⟨ll, hll⟩ : ∃ ll, ll = lens.length := ⟨_, rfl⟩
  rw [← hll] at c0
  have HLL := Hd.mk hll
  clear hll
  go_enter Tryz.func190, Tryz.ntmps190
  by_cases h0 : s < 0
  · obtain rfl : n = 0 := by rw [HN.out]; unfold bitsOf; rw [if_neg (by omega)]
    go_wp2
    go_ret
    exact ⟨rfl, rfl⟩
  · by_cases h1 : s ≥ (ll : Nat)
    · obtain rfl : n = 0 := by rw [HN.out]; unfold bitsOf; rw [if_neg (by have := HLL.out; omega)]
      go_wp2
      go_ret
      exact ⟨rfl, rfl⟩
    · obtain ⟨i, rfl⟩ := Int.eq_ofNat_of_zero_le (show 0 ≤ s by omega)
      have hi : i < lens.length := by have := HLL.out; omega
      have hall := (bad_false (check_zero HE.out.ok).1).2 lens[i] (List.getElem_mem hi)
      have hn2 : lens[i] = (n : Int) := by
        rw [HN.out]
        unfold bitsOf
        rw [if_pos (by omega), List.getD_eq_getElem?_getD, Int.toNat_natCast, List.getElem?_eq_getElem hi]
        simp only [Option.getD_some]
        omega
      have kc := (HE.out.lens_.cellAt i (by omega)).trans (i64s_get lens i)
      rw [List.getElem?_eq_getElem hi, hn2] at kc
      simp only [Option.map_some] at kc
      clear hall hn2
      go_wp2
      go_ret
      exact ⟨rfl, rfl⟩
theorem put_none (s : Int) (h : bitsOf lens s = 0) (gw : Nat) (hE : En w g ga da B db lens L) :
    Calls Tryz.prog 176 #[.pointer (some ⟨g, 0, none⟩), .pointer (some ⟨gw, 0, none⟩), .int .i64 s] w fun e w' => e = .returned (.int .i64 53) ∧ w = w' := by
  have c0 := blk_cell hE.blk 0
  simp only [List.getElem?_toArray, List.getElem?_cons_zero, List.getElem?_cons_succ] at c0
  have HE := Hd.mk hE
  have HN := Hd.mk h
  clear hE h
  have n0 := fun w ca => Lib.run_eql_slice_nil (P := Tryz.prog) w 79 3 (some ⟨ga, 0, none⟩) lens.length ca 0 0 Tryz.underlying79
  go_enter Tryz.func176, Tryz.ntmps176
  go_wp2_with (fail)
  refine (cost_any s 0 HN.out.symm HE.out).mono ?_
  rintro e w1 ⟨rfl, rfl⟩
  go_wp2
  go_ret
  exact ⟨rfl, rfl⟩
theorem put_some {T : TypeId} {N m : Nat} {q : Option Nat} (s : Int) (n cd : Nat) (hn : n = bitsOf lens s) (hcd : cd = codeOf lens s) (h : n ≠ 0) (gw : Nat) (hE : En w g ga da B db lens L) (hm : m + 15 ≤ 1125899906842624) (hT : Tl w gw T N m q) :
    Calls Tryz.prog 176 #[.pointer (some ⟨g, 0, none⟩), .pointer (some ⟨gw, 0, none⟩), .int .i64 s] w fun e w' => e = .returned (.int .i64 0) ∧ ∃ q', Tl w' gw T (N + rv cd n * 2 ^ m) (m + n) q' ∧ Aft w q q' ∧ Fr w w' (gw :: q.toList) := by
  have c0 := blk_cell hE.blk 0
  have c1 := blk_cell hE.blk 1
  simp only [List.getElem?_toArray, List.getElem?_cons_zero, List.getElem?_cons_succ] at c0 c1
  obtain ⟨k1, k2, k3, k4, k5, k6⟩ := bitsOf_fits hE.ok (s := s) (by rw [← hn]; exact h)
  rw [← hn] at k3 k4
  rw [← hcd] at k3 k6
  obtain ⟨i, rfl⟩ := Int.eq_ofNat_of_zero_le k1
  rw [Int.toNat_natCast] at k6
  have hL := hE.L_
  have hLl : L.length = lens.length := by rw [hL, codes_len hE.ok]
  have hi : i < L.length := by omega
  have hlen0 : 0 < L.length := by omega
  obtain ⟨gb, db', eb, hdb⟩ := own_some hE.codes_ hlen0
  injection eb with eb1 _ eb2
  subst eb1 eb2
  have kc := (hE.codes_.cellAt i (by omega)).trans (show (nv L)[i]? = some (.int .i64 (cd : Nat)) from by
    unfold nv
    rw [i64s_get, List.getElem?_map, hL, k6]
    rfl)
  have hcd2 : cd < 2 ^ 15 := Nat.lt_of_lt_of_le k3 (Nat.pow_le_pow_right (by omega) k4)
  have hm0 : mayN cd (n : Int) = 0 := mayN_ok (by omega) (by omega) (by simpa using k3)
  have HE := Hd.mk hE
  have HN := Hd.mk hn
  have HM := Hd.mk hm0
  have HT := Hd.mk hT
  have hiL : (i : Int) < (L.length : Nat) := by omega
  clear hE hn hm0 hT hcd k1 k2 k3 k5 k6 hL hLl
  generalize L.length = ln at *
  have n0 := fun w ca => Lib.run_eql_slice_nil (P := Tryz.prog) w 79 3 (some ⟨ga, 0, none⟩) lens.length ca 0 0 Tryz.underlying79
  go_enter Tryz.func176, Tryz.ntmps176
  go_wp2_with (fail)
  refine (cost_any (i : Int) n HN.out HE.out).mono ?_
  rintro e w1 ⟨rfl, rfl⟩
  have hnz : ((n : Int) == 0) = false := by simp; omega
  go_wp2_with (fail)
  refine (turned_ok (cd : Int) (n : Int) cd w rfl HM.out (by rw [Int.toNat_natCast]; omega) HT.out).mono ?_
  rintro e w2 ⟨rfl, q', h1, h2, h3⟩
  rw [Int.toNat_natCast] at h1
  have H1 := Hd.mk (And.intro h1 (And.intro h2 h3))
  clear h1 h2 h3
  go_wp2
  go_ret
  exact ⟨rfl, q', H1.out⟩
end
end Go.Proofs.YtkdgfioigkijgaaGreat.Code
set_option linter.unusedVariables false
set_option linter.unusedSimpArgs false
set_option maxRecDepth 100000
namespace Go.Proofs.YtkdgfioigkijgaaGreat.Blk
open Go.RowKit Go.Proofs.YtkdgfioigkijgaaGreat.Lib Go.Proofs.YtkdgfioigkijgaaGreat.Ints
def fill (f : Nat → Int) (n j : Nat) : List Int := (List.range n).map fun i => if i < j then f i else 0
theorem fill_len (f : Nat → Int) (n j : Nat) : (fill f n j).length = n := by simp [fill]
theorem fill_zero (f : Nat → Int) (n : Nat) : (madeCells (Value.int .i64 0).cells (n * 1)).toList = i64s (fill f n 0) := by
  rw [show (Value.int .i64 0).cells = #[Value.int .i64 0] from rfl, toList_madeCells_one (Value.int .i64 0) (n * 1), Nat.mul_one]
  apply List.ext_getElem?
  intro k
  by_cases h : k < n <;> simp [i64s, fill, h]
theorem fill_set (f : Nat → Int) (n j : Nat) : (i64s (fill f n j)).set j (.int .i64 (f j)) = i64s (fill f n (j + 1)) := by
  apply List.ext_getElem?
  intro k
  by_cases h : k < n
  · by_cases e : j = k
    · subst e
      simp [i64s, fill, h]
    · rw [List.getElem?_set_ne e]
      simp only [i64s, fill, List.getElem?_map, List.getElem?_range h, Option.map_some]
      by_cases h2 : k < j
      · rw [if_pos h2, if_pos (by omega)]
      · rw [if_neg h2, if_neg (by omega)]
  · rw [List.getElem?_eq_none (by simp [i64s, fill]; omega), List.getElem?_eq_none (by simp [i64s, fill]; omega)]
def litF (i : Nat) : Int := if i < 144 then 8 else if i < 256 then 9 else if i < 280 then 7 else 8
def plainLit : List Int := fill litF 288 288
def plainDist : List Int := fill (fun _ => 5) 32 32
def PlPost (w w' : World) (e : Ending) : Prop := ∃ g h, e = .returned (.tuple #[.slice (some ⟨g, 0, none⟩) 288 288, .slice (some ⟨h, 0, none⟩) 32 32]) ∧ w'.ownsRow 0 3 1 (.slice (some ⟨g, 0, none⟩) 288 288) 288 (i64s plainLit) ∧ w'.ownsRow 0 3 1 (.slice (some ⟨h, 0, none⟩) 32 32) 32 (i64s plainDist) ∧ w.heap.size ≤ g ∧ w.heap.size ≤ h ∧ g ≠ h ∧ Fr w w' []
set_option maxHeartbeats 8000000 in
theorem plainLens_any (w : World) : Calls Tryz.prog 76 #[] w fun e w' => PlPost w w' e := by
  obtain ⟨j0, hj0, hj1, hj2, hj3⟩ := info_parts infoI64
  go_enter Tryz.func76, Tryz.ntmps76
  go_upto_region 2 with (refine wpList_make_full _ rfl _ _ 79 rfl 0 3 j0 (.int .i64 0) 1 Tryz.underlying79 hj0 hj1 hj2 .i64 .i64 _ _ 288 rfl rfl rfl rfl (by rw [hj3]; omega) (by unfold maxLen; omega) (Nat.zero_le _) ?_; intro w1 hown1 hgrow1; rw [fill_zero litF 288] at hown1; have O1 := Hd.mk hown1; have F1 : Hd (Fr w w1 []) := ⟨(Fr.refl w []).grown hgrow1 (by simp)⟩; clear hown1 hgrow1)
  have hg1 : w.heap.size ≤ w.heap.size := Nat.le_refl _
  obtain ⟨g, hg⟩ : ∃ g, g = w.heap.size := ⟨_, rfl⟩
  rw [← hg] at O1 ⊢
  have hgb : w.heap.size ≤ g := by omega
  clear hg hg1
  go_wp2
  go_loopg [9] 288 (fun kq jv wr => ∃ j : Nat, jv = .int .i64 (j : Nat) ∧ j + kq = 288 ∧ Hd (wr.ownsRow 0 3 1 (.slice (some ⟨g, 0, none⟩) 288 288) 288 (i64s (fill litF 288 j))) ∧ Hd (Fr w wr []))
  case atStart => exact ⟨0, rfl, by omega, O1, F1⟩
  case round =>
    obtain ⟨j, rfl, hj, HO, HF⟩ := hrel
    by_cases h1 : j < 288
    · have HO2 := Hd.mk ((HO.out.stored j (.int .i64 (litF j))).1)
      rw [fill_set] at HO2
      obtain ⟨u0, y0, f0⟩ := Code.own_any HO.out (j := j) (by omega)
      have HL : Hd (litF j = if j < 144 then 8 else if j < 256 then 9 else if j < 280 then 7 else 8) := ⟨rfl⟩
      by_cases h2 : j < 144
      · rw [HL.out, if_pos h2] at HO2
        go_wp2
        go_roundg (gk - 1)
        case measure => omega
        case rel => exact ⟨j + 1, by go_num, by omega, HO2, ⟨HF.out.setCell _ (.inr hgb)⟩⟩
      by_cases h3 : j < 256
      · rw [HL.out, if_neg h2, if_pos h3] at HO2
        go_wp2
        go_roundg (gk - 1)
        case measure => omega
        case rel => exact ⟨j + 1, by go_num, by omega, HO2, ⟨HF.out.setCell _ (.inr hgb)⟩⟩
      by_cases h4 : j < 280
      · rw [HL.out, if_neg h2, if_neg h3, if_pos h4] at HO2
        go_wp2
        go_roundg (gk - 1)
        case measure => omega
        case rel => exact ⟨j + 1, by go_num, by omega, HO2, ⟨HF.out.setCell _ (.inr hgb)⟩⟩
      · rw [HL.out, if_neg h2, if_neg h3, if_neg h4] at HO2
        go_wp2
        go_roundg (gk - 1)
        case measure => omega
        case rel => exact ⟨j + 1, by go_num, by omega, HO2, ⟨HF.out.setCell _ (.inr hgb)⟩⟩
    · obtain rfl : j = 288 := by omega
      go_upto_region 14 with (refine wpList_make_full _ rfl _ _ 79 rfl 0 3 j0 (.int .i64 0) 1 Tryz.underlying79 hj0 hj1 hj2 .i64 .i64 _ _ 32 rfl rfl rfl rfl (by rw [hj3]; omega) (by unfold maxLen; omega) (Nat.zero_le _) ?_; intro w2 hown1 hgrow1; rw [fill_zero (fun _ => 5) 32] at hown1; have O2 := Hd.mk hown1; have F2 : Hd (Fr w w2 []) := ⟨HF.out.grown hgrow1 (by simp)⟩; have G2 := Hd.mk (own_frame HO.out ((Fr.refl _ []).grown hgrow1 (by simp)) (by simp)); clear hown1 hgrow1)
      obtain ⟨h, hh⟩ : ∃ h, h = wr.heap.size := ⟨_, rfl⟩
      have hne : g ≠ h := by have := own_lt HO.out (k := g) rfl; omega
      have hhb : w.heap.size ≤ h := by have := HF.out.size; omega
      rw [← hh] at O2 ⊢
      clear hh HO HF
      go_wp2
      go_loopg [37] 32 (fun kq jv wr => ∃ j : Nat, jv = .int .i64 (j : Nat) ∧ j + kq = 32 ∧ Hd (wr.ownsRow 0 3 1 (.slice (some ⟨g, 0, none⟩) 288 288) 288 (i64s plainLit)) ∧ Hd (wr.ownsRow 0 3 1 (.slice (some ⟨h, 0, none⟩) 32 32) 32 (i64s (fill (fun _ => 5) 32 j))) ∧ Hd (Fr w wr []))
      case atStart => exact ⟨0, rfl, by omega, G2, O2, F2⟩
      case round =>
        obtain ⟨j, rfl, hj, HG, HO, HF⟩ := hrel
        by_cases h1 : j < 32
        · have HO2 := Hd.mk ((HO.out.stored j (.int .i64 5)).1)
          rw [fill_set (fun _ => 5)] at HO2
          obtain ⟨u0, y0, f0⟩ := Code.own_any HO.out (j := j) (by omega)
          have HG2 := Hd.mk (own_setFar HG.out (a := ⟨h, j, none⟩) (.int .i64 5) (by simp [Value.ownBlock]; exact hne))
          go_wp2
          go_roundg (gk - 1)
          case measure => omega
          case rel => exact ⟨j + 1, by go_num, by omega, HG2, HO2, ⟨HF.out.setCell _ (.inr hhb)⟩⟩
        · obtain rfl : j = 32 := by omega
          go_wp2
          go_ret2
          exact ⟨g, h, rfl, HG.out, HO.out, hgb, hhb, hne, HF.out⟩
end Go.Proofs.YtkdgfioigkijgaaGreat.Blk
set_option linter.unusedVariables false
set_option linter.unusedSimpArgs false
set_option maxRecDepth 100000
namespace Go.Proofs.YtkdgfioigkijgaaGreat.Lz
open Go.RowKit Go.Proofs.YtkdgfioigkijgaaGreat.Lib Go.Proofs.YtkdgfioigkijgaaGreat.Num Go.Proofs.YtkdgfioigkijgaaGreat.Bits
def tcell (t : Tok) : List Value := [.int .u8 t.lit, .int .i64 t.len, .int .i64 t.dist]
def tcells (l : List Tok) : List Value := l.flatMap tcell
theorem tcells_app (a b : List Tok) : tcells (a ++ b) = tcells a ++ tcells b := by simp [tcells]
theorem tcells_len (a : List Tok) : (tcells a).length = 3 * a.length := by
  induction a with
  | nil => rfl
  | cons x t ih => simp only [tcells, List.flatMap_cons, List.length_append] at ih ⊢; rw [ih]; simp [tcell]; omega
theorem sizeOf_take {l : List Tok} {j : Nat} (h : j < l.length) : sizeOf (l.take (j + 1)) = sizeOf (l.take j) + width l[j] := by
  rw [List.take_succ_eq_append_getElem h]; unfold sizeOf; rw [List.map_append, List.sum_append]; simp
theorem sizeOf_part (l : List Tok) (j : Nat) : sizeOf (l.take j) ≤ 258 * l.length := by
  have := sizeOf_le (l.take j)
  have : (l.take j).length ≤ l.length := by rw [List.length_take]; omega
  omega
theorem right_any (w : World) (t : Tok) (r : Bool) (hr : r = right t) : Calls Tryz.prog 134 #[.agg #[.int .u8 t.lit, .int .i64 t.len, .int .i64 t.dist]] w fun e w' => e = .returned (.bool r) ∧ Fr w w' [] := by
  obtain ⟨a, b, c⟩ := t
  simp only
  by_cases h0 : b = 0
  · subst h0
    by_cases h1 : c = 0
    · subst h1
      obtain rfl : r = true := hr
      go_enter Tryz.func134, Tryz.ntmps134
      go_wp2
      go_ret
      exact ⟨rfl, (Fr.refl _ _).alloc _⟩
    · have e1 : (c == 0) = false := by simpa using h1
      obtain rfl : r = false := by rw [hr]; exact decide_eq_false h1
      clear hr
      go_enter Tryz.func134, Tryz.ntmps134
      go_wp2
      go_ret
      exact ⟨rfl, (Fr.refl _ _).alloc _⟩
  · have e0 : (b == 0) = false := by simpa using h0
    have hr' : r = decide (3 ≤ b ∧ b ≤ 258 ∧ 1 ≤ c ∧ c ≤ 32768 ∧ a = 0) := by rw [hr]; unfold right; rw [if_neg h0]
    clear hr
    by_cases h1 : b < 3
    · obtain rfl : r = false := by rw [hr']; exact decide_eq_false (fun h => by have := h.1; omega)
      try clear hr'
      go_enter Tryz.func134, Tryz.ntmps134
      go_wp2
      go_ret
      exact ⟨rfl, (Fr.refl _ _).alloc _⟩
    by_cases h2 : 258 < b
    · obtain rfl : r = false := by rw [hr']; exact decide_eq_false (fun h => by have := h.2.1; omega)
      try clear hr'
      go_enter Tryz.func134, Tryz.ntmps134
      go_wp2
      go_ret
      exact ⟨rfl, (Fr.refl _ _).alloc _⟩
    by_cases h3 : c < 1
    · obtain rfl : r = false := by rw [hr']; exact decide_eq_false (fun h => by have := h.2.2.1; omega)
      try clear hr'
      go_enter Tryz.func134, Tryz.ntmps134
      go_wp2
      go_ret
      exact ⟨rfl, (Fr.refl _ _).alloc _⟩
    by_cases h4 : 32768 < c
    · obtain rfl : r = false := by rw [hr']; exact decide_eq_false (fun h => by have := h.2.2.2.1; omega)
      try clear hr'
      go_enter Tryz.func134, Tryz.ntmps134
      go_wp2
      go_ret
      exact ⟨rfl, (Fr.refl _ _).alloc _⟩
    by_cases h5 : a = 0
    · subst h5
      obtain rfl : r = true := by rw [hr']; exact decide_eq_true ⟨by omega, by omega, by omega, by omega, rfl⟩
      try clear hr'
      go_enter Tryz.func134, Tryz.ntmps134
      go_wp2
      go_ret
      exact ⟨rfl, (Fr.refl _ _).alloc _⟩
    · have e5 : (a == 0) = false := by simpa using h5
      obtain rfl : r = false := by rw [hr']; exact decide_eq_false (fun h => h5 h.2.2.2.2)
      try clear hr'
      go_enter Tryz.func134, Tryz.ntmps134
      go_wp2
      go_ret
      exact ⟨rfl, (Fr.refl _ _).alloc _⟩
theorem may_any (w : World) (t : Tok) (r : Bool) (hr : r = right t) : Calls Tryz.prog 62 #[.agg #[.int .u8 t.lit, .int .i64 t.len, .int .i64 t.dist]] w fun e w' => e = .returned (.bool r) ∧ Fr w w' [] := by
  obtain ⟨a, b, c⟩ := t
  simp only
  by_cases h0 : b = 0
  · subst h0
    by_cases h1 : c = 0
    · subst h1
      obtain rfl : r = true := hr
      go_enter Tryz.func62, Tryz.ntmps62
      go_wp2
      go_ret
      exact ⟨rfl, (Fr.refl _ _).alloc _⟩
    · have e1 : (c == 0) = false := by simpa using h1
      obtain rfl : r = false := by rw [hr]; exact decide_eq_false h1
      clear hr
      go_enter Tryz.func62, Tryz.ntmps62
      go_wp2
      go_ret
      exact ⟨rfl, (Fr.refl _ _).alloc _⟩
  · have e0 : (b == 0) = false := by simpa using h0
    have hr' : r = decide (3 ≤ b ∧ b ≤ 258 ∧ 1 ≤ c ∧ c ≤ 32768 ∧ a = 0) := by rw [hr]; unfold right; rw [if_neg h0]
    clear hr
    by_cases h1 : b < 3
    · obtain rfl : r = false := by rw [hr']; exact decide_eq_false (fun h => by have := h.1; omega)
      try clear hr'
      go_enter Tryz.func62, Tryz.ntmps62
      go_wp2
      go_ret
      exact ⟨rfl, (Fr.refl _ _).alloc _⟩
    by_cases h2 : 258 < b
    · obtain rfl : r = false := by rw [hr']; exact decide_eq_false (fun h => by have := h.2.1; omega)
      try clear hr'
      go_enter Tryz.func62, Tryz.ntmps62
      go_wp2
      go_ret
      exact ⟨rfl, (Fr.refl _ _).alloc _⟩
    by_cases h3 : c < 1
    · obtain rfl : r = false := by rw [hr']; exact decide_eq_false (fun h => by have := h.2.2.1; omega)
      try clear hr'
      go_enter Tryz.func62, Tryz.ntmps62
      go_wp2
      go_ret
      exact ⟨rfl, (Fr.refl _ _).alloc _⟩
    by_cases h4 : 32768 < c
    · obtain rfl : r = false := by rw [hr']; exact decide_eq_false (fun h => by have := h.2.2.2.1; omega)
      try clear hr'
      go_enter Tryz.func62, Tryz.ntmps62
      go_wp2
      go_ret
      exact ⟨rfl, (Fr.refl _ _).alloc _⟩
    by_cases h5 : a = 0
    · subst h5
      obtain rfl : r = true := by rw [hr']; exact decide_eq_true ⟨by omega, by omega, by omega, by omega, rfl⟩
      try clear hr'
      go_enter Tryz.func62, Tryz.ntmps62
      go_wp2
      go_ret
      exact ⟨rfl, (Fr.refl _ _).alloc _⟩
    · have e5 : (a == 0) = false := by simpa using h5
      obtain rfl : r = false := by rw [hr']; exact decide_eq_false (fun h => h5 h.2.2.2.2)
      try clear hr'
      go_enter Tryz.func62, Tryz.ntmps62
      go_wp2
      go_ret
      exact ⟨rfl, (Fr.refl _ _).alloc _⟩
theorem bytes_any (w : World) (t : Tok) : Calls Tryz.prog 80 #[.agg #[.int .u8 t.lit, .int .i64 t.len, .int .i64 t.dist]] w fun e w' => e = .returned (.int .i64 (width t : Nat)) ∧ Fr w w' [] := by
  obtain ⟨a, b, c⟩ := t
  simp only
  obtain ⟨r, hr⟩ : ∃ r, r = right ⟨a, b, c⟩ := ⟨_, rfl⟩
  have HR := Hd.mk hr
  obtain ⟨m, hm⟩ : ∃ m, m = width ⟨a, b, c⟩ := ⟨_, rfl⟩
  have hm' : m = if r then (if b = 0 then 1 else b.toNat) else 0 := by rw [hm, hr]; rfl
  rw [← hm]
  clear hr hm
  go_enter Tryz.func80, Tryz.ntmps80
  go_wp2_with (fail)
  refine (right_any _ ⟨a, b, c⟩ r HR.out).mono ?_
  rintro e w1 ⟨rfl, h1⟩
  have hb := h1.blk (blk_new w (.cells #[.int .u8 a, .int .i64 b, .int .i64 c] 77)) (by simp)
  have F1 := Hd.mk (((Fr.refl w []).alloc (.cells #[.int .u8 a, .int .i64 b, .int .i64 c] 77)).trans h1 (by simp))
  have c1 := blk_cell hb 1
  simp only [List.getElem?_toArray, List.getElem?_cons_zero, List.getElem?_cons_succ] at c1
  clear h1 hb
  cases r with
  | false =>
    obtain rfl : m = 0 := hm'
    go_wp2
    go_ret
    exact ⟨rfl, F1.out⟩
  | true =>
    by_cases h0 : b = 0
    · subst h0
      obtain rfl : m = 1 := hm'
      go_wp2
      go_ret
      exact ⟨rfl, F1.out⟩
    · have e0 : (b == 0) = false := by simpa using h0
      have hb3 : 0 ≤ b := by
        have := HR.out
        have := right_len this.symm
        simp only at this
        omega
      rw [if_pos rfl, if_neg h0] at hm'
      obtain rfl : b = (m : Int) := by omega
      clear hm' hb3
      go_wp2
      go_ret
      exact ⟨rfl, F1.out⟩
theorem width_any (w : World) (t : Tok) : Calls Tryz.prog 33 #[.agg #[.int .u8 t.lit, .int .i64 t.len, .int .i64 t.dist]] w fun e w' => e = .returned (.int .i64 (width t : Nat)) ∧ Fr w w' [] := by
  obtain ⟨a, b, c⟩ := t
  simp only
  obtain ⟨r, hr⟩ : ∃ r, r = right ⟨a, b, c⟩ := ⟨_, rfl⟩
  have HR := Hd.mk hr
  obtain ⟨m, hm⟩ : ∃ m, m = width ⟨a, b, c⟩ := ⟨_, rfl⟩
  have hm' : m = if r then (if b = 0 then 1 else b.toNat) else 0 := by rw [hm, hr]; rfl
  rw [← hm]
  clear hr hm
  go_enter Tryz.func33, Tryz.ntmps33
  go_wp2_with (fail)
  refine (may_any _ ⟨a, b, c⟩ r HR.out).mono ?_
  rintro e w1 ⟨rfl, h1⟩
  have hb := h1.blk (blk_new w (.cells #[.int .u8 a, .int .i64 b, .int .i64 c] 80)) (by simp)
  have F1 := Hd.mk (((Fr.refl w []).alloc (.cells #[.int .u8 a, .int .i64 b, .int .i64 c] 80)).trans h1 (by simp))
  have c1 := blk_cell hb 1
  simp only [List.getElem?_toArray, List.getElem?_cons_zero, List.getElem?_cons_succ] at c1
  clear h1 hb
  cases r with
  | false =>
    obtain rfl : m = 0 := hm'
    go_wp2
    go_ret
    exact ⟨rfl, F1.out⟩
  | true =>
    by_cases h0 : b = 0
    · subst h0
      obtain rfl : m = 1 := hm'
      go_wp2
      go_ret
      exact ⟨rfl, F1.out⟩
    · have e0 : (b == 0) = false := by simpa using h0
      have hb3 : 0 ≤ b := by
        have := HR.out
        have := right_len this.symm
        simp only at this
        omega
      rw [if_pos rfl, if_neg h0] at hm'
      obtain rfl : b = (m : Int) := by omega
      clear hm' hb3
      go_wp2
      go_ret
      exact ⟨rfl, F1.out⟩
theorem size_any (w : World) (A : Option Addr) (n c : Nat) (l : List Tok) (p : Option Nat) (hn : l.length = n) (hS : Sl w A (tcells l) p) (hb : n ≤ 1099511627776) :
    Calls Tryz.prog 50 #[.slice A n c] w fun e w' => e = .returned (.int .i64 (sizeOf l : Nat)) ∧ Fr w w' [] := by
  subst hn
  have HS := Hd.mk hS
  clear hS
  go_enter Tryz.func50, Tryz.ntmps50
  go_wp2
  go_loopg [3, 8] l.length (fun kq sv jv wr => ∃ (j m : Nat), sv = .int .i64 (m : Nat) ∧ jv = .int .i64 (j : Nat) ∧ j + kq = l.length ∧ Hd (m = sizeOf (l.take j)) ∧ Hd (Fr w wr []))
  case atStart => exact ⟨0, 0, rfl, rfl, by omega, ⟨by simp [sizeOf]⟩, ⟨Fr.refl _ _⟩⟩
  case round =>
    obtain ⟨j, m, rfl, rfl, hj, HM, HF⟩ := hrel
    by_cases h1 : j < l.length
    · obtain ⟨a, o1, rfl, _, ha⟩ := Sl.row (enc := tcell) (sz := 3) (fun _ => rfl) (HS.out.frame HF.out (by simp)) h1 (by decide)
      obtain ⟨t, ht⟩ : ∃ t, t = l[j] := ⟨_, rfl⟩
      rw [← ht] at ha
      have c0 := ha 0 (by decide)
      have c1 := ha 1 (by decide)
      have c2 := ha 2 (by decide)
      simp only [tcell, List.getElem?_cons_zero, List.getElem?_cons_succ, Nat.add_zero] at c0 c1 c2
      have HT := Hd.mk ht
      have hmb : m ≤ 283673999966208 := by rw [HM.out]; have := sizeOf_part l j; omega
      have hwt := width_le t
      clear ha ht
      go_wp2_with (fail)
      refine (bytes_any _ t).mono ?_
      rintro e w2 ⟨rfl, h2⟩
      have F2 := Hd.mk ((HF.out.alloc (.cells #[.int .u8 t.lit, .int .i64 t.len, .int .i64 t.dist] 77)).trans h2 (by simp))
      clear h2
      obtain ⟨wt, hwt'⟩ : ∃ wt, wt = width t := ⟨_, rfl⟩
      rw [← hwt'] at hwt ⊢
      have HW := Hd.mk hwt'
      clear hwt'
      go_wp2
      go_roundg (gk - 1)
      case measure => omega
      case rel => exact ⟨j + 1, m + wt, by go_num, by go_num, by omega, ⟨by rw [sizeOf_take h1, HM.out, HW.out, HT.out]⟩, F2⟩
    · obtain rfl : j = l.length := by omega
      have hm : Hd (m = sizeOf l) := ⟨by rw [HM.out, List.take_length]⟩
      go_wp2
      go_ret
      rw [← hm.out]
      exact ⟨rfl, HF.out⟩
theorem rsize_any (w : World) (A : Option Addr) (n c : Nat) (l : List Tok) (p : Option Nat) (hn : l.length = n) (hS : Sl w A (tcells l) p) (hb : n ≤ 1099511627776) :
    Calls Tryz.prog 14 #[.slice A n c] w fun e w' => e = .returned (.int .i64 (sizeOf l : Nat)) ∧ Fr w w' [] := by
  subst hn
  have HS := Hd.mk hS
  clear hS
  go_enter Tryz.func14, Tryz.ntmps14
  go_wp2
  go_loopg [3, 8] l.length (fun kq sv jv wr => ∃ (j m : Nat), sv = .int .i64 (m : Nat) ∧ jv = .int .i64 (j : Nat) ∧ j + kq = l.length ∧ Hd (m = sizeOf (l.take j)) ∧ Hd (Fr w wr []))
  case atStart => exact ⟨0, 0, rfl, rfl, by omega, ⟨by simp [sizeOf]⟩, ⟨Fr.refl _ _⟩⟩
  case round =>
    obtain ⟨j, m, rfl, rfl, hj, HM, HF⟩ := hrel
    by_cases h1 : j < l.length
    · obtain ⟨a, o1, rfl, _, ha⟩ := Sl.row (enc := tcell) (sz := 3) (fun _ => rfl) (HS.out.frame HF.out (by simp)) h1 (by decide)
      obtain ⟨t, ht⟩ : ∃ t, t = l[j] := ⟨_, rfl⟩
      rw [← ht] at ha
      have c0 := ha 0 (by decide)
      have c1 := ha 1 (by decide)
      have c2 := ha 2 (by decide)
      simp only [tcell, List.getElem?_cons_zero, List.getElem?_cons_succ, Nat.add_zero] at c0 c1 c2
      have HT := Hd.mk ht
      have hmb : m ≤ 283673999966208 := by rw [HM.out]; have := sizeOf_part l j; omega
      have hwt := width_le t
      clear ha ht
      go_wp2_with (fail)
      refine (width_any _ t).mono ?_
      rintro e w2 ⟨rfl, h2⟩
      have F2 := Hd.mk ((HF.out.alloc (.cells #[.int .u8 t.lit, .int .i64 t.len, .int .i64 t.dist] 80)).trans h2 (by simp))
      clear h2
      obtain ⟨wt, hwt'⟩ : ∃ wt, wt = width t := ⟨_, rfl⟩
      rw [← hwt'] at hwt ⊢
      have HW := Hd.mk hwt'
      clear hwt'
      go_wp2
      go_roundg (gk - 1)
      case measure => omega
      case rel => exact ⟨j + 1, m + wt, by go_num, by go_num, by omega, ⟨by rw [sizeOf_take h1, HM.out, HW.out, HT.out]⟩, F2⟩
    · obtain rfl : j = l.length := by omega
      have hm : Hd (m = sizeOf l) := ⟨by rw [HM.out, List.take_length]⟩
      go_wp2
      go_ret
      rw [← hm.out]
      exact ⟨rfl, HF.out⟩
end Go.Proofs.YtkdgfioigkijgaaGreat.Lz
