/- (*bits.tail).lay: the low bits of a number are laid behind those that are there. Conditions: at most 64 bits, the number fits, fewer than 2^50 bits in all. -/
import Derived.Test.YtofajcifjmhomaaProg
import Derived.Test.YtofajcifjmhomaaLib
import Derived.Test.YtofajcifjmhomaaBytes
import Derived.BigRegion
import Derived.BigQuiet
import Derived.Deep.QuietTactic
import Derived.Deep.LoopGhost
import Derived.Deep.DeepCutAuto
import Derived.KernelRfl
set_option maxRecDepth 100000
set_option linter.unusedVariables false
set_option linter.unusedSimpArgs false
namespace Go.Proofs.Ytofajcifjmhomaa.Bits
open Go.RowKit Go.Proofs.Ytofajcifjmhomaa.Lib Go.Proofs.Ytofajcifjmhomaa.Num

theorem infoU8 : (Try.prog.info? 5).map (fun i => (i.zero, i.size, i.bytes)) = some (some (.int .u8 0), 1, 1) := by kernel_rfl

def u8s (xs : List Int) : List Value := xs.map (Value.int .u8)
theorem u8s_length (xs : List Int) : (u8s xs).length = xs.length := by simp [u8s]
theorem u8s_get (xs : List Int) (j : Nat) : (u8s xs)[j]? = (xs[j]?).map (Value.int .u8) := by simp [u8s]

/-- A tail (a writer) in block g holds the m bits of N; q: the block of its bytes. -/
def Tl (w : World) (g : Nat) (T : TypeId) (N m : Nat) (q : Option Nat) : Prop :=
  ∃ sv, w.heap[g]? = some (.cells #[sv, .int .i64 m] T (0, 0)) ∧ w.ownsRow 0 5 1 sv ((m + 7) / 8) (u8s (bytesOf N m)) ∧ sv.ownBlock = q ∧ N < 2 ^ m ∧ T ≠ 5
/-- The same, with a byte ready for more. -/
def Tl1 (w : World) (g : Nat) (T : TypeId) (N m : Nat) (q : Nat) : Prop :=
  ∃ c, w.heap[g]? = some (.cells #[.slice (some ⟨q, 0, none⟩) (m / 8 + 1) c, .int .i64 m] T (0, 0)) ∧ w.ownsRow 0 5 1 (.slice (some ⟨q, 0, none⟩) (m / 8 + 1) c) (m / 8 + 1) (u8s (pre N m)) ∧ N < 2 ^ m ∧ T ≠ 5

theorem Tl.frame {w w' : World} {g : Nat} {T : TypeId} {N m : Nat} {q : Option Nat} (h : Tl w g T N m q) {F : List Nat} (hf : Fr w w' F) (hg : g ∉ F) (hq : ∀ k, q = some k → k ∉ F) : Tl w' g T N m q := by
  obtain ⟨sv, hb, hown, rfl, hN, hT⟩ := h
  exact ⟨sv, hf.blk hb hg, own_frame hown hf hq, rfl, hN, hT⟩
theorem Tl.ne {w : World} {g : Nat} {T : TypeId} {N m : Nat} {q : Option Nat} (h : Tl w g T N m q) : q ≠ some g := by
  obtain ⟨sv, hb, hown, rfl, hN, hT⟩ := h
  exact own_ne hown hb hT
theorem Tl.lt {w : World} {g : Nat} {T : TypeId} {N m : Nat} {q : Option Nat} (h : Tl w g T N m q) : g < w.heap.size ∧ ∀ k, q = some k → k < w.heap.size := by
  obtain ⟨sv, hb, hown, rfl, hN, hT⟩ := h
  exact ⟨blk_lt hb, fun k hk => own_lt hown hk⟩

/-- where a byte is ready already -/
theorem tl1_of {w : World} {g : Nat} {T : TypeId} {N m : Nat} {q : Option Nat} (h : Tl w g T N m q) (h8 : ¬ m % 8 = 0) : ∃ q1, q = some q1 ∧ Tl1 w g T N m q1 := by
  obtain ⟨sv, hb, hown, rfl, hN, hT⟩ := h
  obtain ⟨q1, c, rfl, hc⟩ := own_some hown (by omega)
  have e : (m + 7) / 8 = m / 8 + 1 := by omega
  rw [e] at hb hown
  exact ⟨q1, by simp [Value.ownBlock], c, hb, by unfold pre; rw [if_neg h8, List.append_nil]; exact hown, hN, hT⟩

/-- behind the append of a byte -/
theorem tl1_new {w w1 : World} {g q1 c : Nat} {T : TypeId} {N m : Nat} {sv : Value} (hb : w.heap[g]? = some (.cells #[sv, .int .i64 m] T (0, 0)))
    (hown : w.ownsRow 0 5 1 sv ((m + 7) / 8) (u8s (bytesOf N m))) (hN : N < 2 ^ m) (hT : T ≠ 5) (h8 : m % 8 = 0) (O : Obj)
    (hown' : w1.ownsRow 0 5 1 (.slice (some ⟨q1, 0, none⟩) ((m + 7) / 8 + 1) c) ((m + 7) / 8 + 1) (u8s (bytesOf N m) ++ [.int .u8 0])) (hg : (w.alloc O).grownBy w1 sv.ownBlock) (hv' : sv.ownBlock = some q1 ∨ q1 = w.heap.size + 1) :
    Tl1 (w1.setCell ⟨g, 0, none⟩ (.slice (some ⟨q1, 0, none⟩) ((m + 7) / 8 + 1) c)) g T N m q1 ∧ Aft w sv.ownBlock (some q1) ∧ Fr w (w1.setCell ⟨g, 0, none⟩ (.slice (some ⟨q1, 0, none⟩) ((m + 7) / 8 + 1) c)) (g :: sv.ownBlock.toList) := by
  have e : (m + 7) / 8 + 1 = m / 8 + 1 := by omega
  rw [e] at hown' ⊢
  have hb1 := blk_grown hg (blk_alloc hb O) (own_ne hown hb hT).symm
  have hne := own_ne hown' hb1 hT
  refine ⟨⟨c, by simpa using blk_set hb1 0 _, own_setFar (by unfold pre; rw [if_pos h8]; simpa [u8s] using hown') _ hne, hN, hT⟩, ?_, ?_⟩
  · rcases hv' with h | h
    · exact .inl h.symm
    · exact .inr ⟨q1, rfl, by omega⟩
  · refine Fr.setCell ?_ _ (.inl (by simp))
    exact ((Fr.refl w _).alloc O).grown hg (fun k hk => .inl (by simp [hk]))

/-- behind the byte's store and the count's -/
theorem tl_stored {w : World} {g : Nat} {T : TypeId} {N m q x k : Nat} (h : Tl1 w g T N m q) (h1 : 1 ≤ k) (hk : m % 8 + k ≤ 8) (hx : x < 2 ^ k) :
    Tl ((w.setCell ⟨q, m / 8, none⟩ (.int .u8 ((N / 2 ^ (8 * (m / 8)) + x * 2 ^ (m % 8) : Nat) : Int))).setCell ⟨g, 1, none⟩ (.int .i64 ((m + k : Nat) : Int))) g T (N + x * 2 ^ m) (m + k) (some q) ∧
    Fr w ((w.setCell ⟨q, m / 8, none⟩ (.int .u8 ((N / 2 ^ (8 * (m / 8)) + x * 2 ^ (m % 8) : Nat) : Int))).setCell ⟨g, 1, none⟩ (.int .i64 ((m + k : Nat) : Int))) [g, q] := by
  obtain ⟨c, hb, hown, hN, hT⟩ := h
  have hne := own_ne hown hb hT
  have hne' : g ≠ q := fun e => hne (by subst e; rfl)
  have h2 := (hown.stored (m / 8) (.int .u8 ((N / 2 ^ (8 * (m / 8)) + x * 2 ^ (m % 8) : Nat) : Int))).1
  have e : (u8s (pre N m)).set (m / 8) (.int .u8 ((N / 2 ^ (8 * (m / 8)) + x * 2 ^ (m % 8) : Nat) : Int)) = u8s (bytesOf (N + x * 2 ^ m) (m + k)) := by
    unfold u8s; rw [← List.map_set, pre_set hN h1 hk hx]
  rw [e] at h2
  have e2 : m / 8 + 1 = (m + k + 7) / 8 := by omega
  refine ⟨⟨_, by simpa using blk_set (blk_far hb hne' _) 1 _, ?_, rfl, grow_lt hN hx, hT⟩, ?_⟩
  · rw [← e2]
    exact own_setFar h2 _ hne
  · exact ((Fr.refl w _).setCell _ (.inl (by simp))).setCell _ (.inl (by simp))

set_option maxHeartbeats 1000000 in
theorem lay_any (g : Nat) (T : TypeId) (N m : Nat) (q : Option Nat) (v n : Nat) (w : World) (hv : v < 2 ^ n) (hn : n ≤ 64) (hm : m + n ≤ 1125899906842624)
   (hT : Tl w g T N m q) :
    Calls Try.prog 55 #[.pointer (some ⟨g, 0, none⟩), .int .u64 v, .int .i64 n] w fun e w' => e = .returned (.tuple #[]) ∧
      ∃ q', Tl w' g T (N + v * 2 ^ m) (m + n) q' ∧ Aft w q q' ∧ Fr w w' (g :: q.toList) := by
  obtain ⟨i0, hi0, hz0, hz1, hz2⟩ := info_parts infoU8
  have hlt0 := hT.lt
  go_enter Try.func55, Try.ntmps55
  go_wp2
  go_loopg [1, 2] n (fun kq av an wr => ∃ y M N1 : Nat, av = .int .u64 (y : Nat) ∧ an = .int .i64 (kq : Nat) ∧ kq ≤ n ∧ M ≤ 1125899906842624 ∧ M + kq ≤ 1125899906842624 ∧
      Hd (∃ i, i + kq = n ∧ y = v / 2 ^ i ∧ M = m + i ∧ N1 = N + v % 2 ^ i * 2 ^ m) ∧
      ∃ q', Tl wr g T N1 M q' ∧ Aft w q q' ∧ Fr w wr (g :: q.toList))
  case atStart => exact ⟨v, m, N, rfl, rfl, Nat.le_refl _, by omega, by omega, ⟨0, by omega, by simp, rfl, by simp [Nat.mod_one]⟩, q, hT, Aft.refl _ _, Fr.refl _ _⟩
  case round =>
    obtain ⟨y, M, N1, rfl, rfl, hkn, hMb, hMk, HI, q', hTl, hA, hF⟩ := hrel
    have HT := Hd.mk hT
    have HTl := Hd.mk hTl
    have HA := Hd.mk hA
    have HF := Hd.mk hF
    clear hT hA
    by_cases hlt : 0 < gk
    · obtain ⟨sv, hb, hown, hq, hN, hTu⟩ := hTl
      have h0 := blk_cell hb 0
      have h1 := blk_cell hb 1
      have f0 := blk_frozen hb 0
      have f1 := blk_frozen hb 1
      simp only [List.getElem?_toArray, List.getElem?_cons_zero, List.getElem?_cons_succ] at h0 h1
      have Hown := Hd.mk hown
      have Hb := Hd.mk hb
      have Hq := Hd.mk hq
      clear hown hb hq
      go_upto_if 15 with (fail)
      go_cut [] (fun wc => ∃ q1, Tl1 wc g T N1 M q1 ∧ Aft w q (some q1) ∧ Fr w wc (g :: q.toList))
      case first =>
        by_cases h8 : M % 8 = 0
        · go_wp2_with (at_builtin; refine wpList_append_lies _ rfl _ _ 57 rfl 0 5 i0 (.int .u8 0) 1 1 Try.underlying57 hi0 hz0 hz1 hz2 rfl (by decide) _ _ _ rfl (Hown.out.alloc _) ⟨wr.heap.size, 0, none⟩ 1 1 [.int .u8 0] rfl rfl ?c1 ?c2 ?c0 ?c3 ?c4 ?c5 (wr.heap.size + 1) ?c6 ?_)
          case c1 => intro j u hj; match j, hj with | 0, hj => simp at hj; subst hj; simp [Addr.add]
          case c2 => intro u hu; simp at hu; subst hu; rfl
          case c0 => omega
          case c3 => unfold maxLen; omega
          case c4 => omega
          case c5 => omega
          case c6 => simp
          intro q1 c w1 hown' hgrow hq1 hlt1
          have hb1 := blk_grown hgrow (blk_alloc Hb.out _) (own_ne Hown.out Hb.out hTu).symm
          have k0 := blk_cell hb1 0
          have k1 := blk_cell hb1 1
          have g0 := blk_frozen hb1 0
          simp only [List.getElem?_toArray, List.getElem?_cons_zero, List.getElem?_cons_succ] at k0 k1
          have R := tl1_new Hb.out Hown.out hN hTu h8 _ hown' hgrow hq1
          rw [Hq.out] at R
          have HR := Hd.mk R
          clear R hown' hgrow hq1 hb1
          go_wp2
          go_meet
          case rel => exact ⟨q1, HR.out.1, HA.out.trans HR.out.2.1 HF.out.size, HF.out.trans HR.out.2.2 (fun x hx hxG => by
            rcases List.mem_cons.1 hxG with rfl | hxG
            · simp
            · rcases HA.out.mem hxG with h | h
              · exact List.mem_cons_of_mem _ h
              · omega)⟩
        · have h8' : ((M : Int) % 8 == 0) = false := by simp; omega
          go_wp2
          go_meet
          case rel =>
            obtain ⟨q1, e, h1⟩ := tl1_of HTl.out h8
            exact ⟨q1, h1, by rw [← e]; exact HA.out, HF.out⟩
      case rest =>
        obtain ⟨q1, hT1, hA1, hF1⟩ := hcut
        have HT1 := Hd.mk hT1
        have HA1 := Hd.mk hA1
        have HF1 := Hd.mk hF1
        obtain ⟨c, hb, hown, hN1, hTu1⟩ := hT1
        have hne := own_ne hown hb hTu1
        have hne' : g ≠ q1 := fun e => hne (by subst e; rfl)
        obtain ⟨old, hol⟩ : ∃ old : Nat, old = N1 / 2 ^ (8 * (M / 8)) := ⟨_, rfl⟩
        have hold : wc.cell? ⟨q1, M / 8, none⟩ = some (.int .u8 (old : Nat)) := (hown.cellAt (M / 8) (by omega)).trans (by rw [u8s_get, pre_get hN1, hol]; rfl)
        have hfro := hown.frozenAt (M / 8)
        have Hol := Hd.mk hol
        clear h0 h1 f0 f1 hol
        have h0 := blk_cell hb 0
        have h1 := blk_cell hb 1
        have f0 := blk_frozen hb 0
        have f1 := blk_frozen hb 1
        simp only [List.getElem?_toArray, List.getElem?_cons_zero, List.getElem?_cons_succ] at h0 h1
        obtain ⟨free, hfree⟩ : ∃ k : Nat, k = min (8 - M % 8) gk := ⟨_, rfl⟩
        have hk1 : M % 8 + free ≤ 8 := by omega
        have hk2 : free ≤ gk := by omega
        have hk3 : 1 ≤ free := by omega
        have hmin : (if (gk : Int) < 8 - (M : Int) % 8 then (gk : Int) else 8 - (M : Int) % 8) = (free : Int) := by split <;> omega
        clear hfree hA1 hF1 hb hown hne hlt0 hF
        go_upto_region 5 with (fail)
        go_region
        go_wp2
        go_roundg (gk - free)
        case measure => omega
        case rel =>
          obtain ⟨i, hi, hy, hM, hNN⟩ := HI.out
          have hv64 : v < 2 ^ 64 := Nat.lt_of_lt_of_le hv (Nat.pow_le_pow_right (by decide) hn)
          have hy64 : y < 2 ^ 64 := by rw [hy]; exact Nat.lt_of_le_of_lt (Nat.div_le_self _ _) hv64
          have hby := byte_or (N := N1) (m := M) (y := y) (k := free) hN1 rfl hy64 hk1
          rw [← Hol.out] at hby
          rw [hby]
          have R := tl_stored HT1.out hk3 hk1 (x := y % 2 ^ free) (Nat.mod_lt _ (Nat.two_pow_pos _))
          rw [← Hol.out, Int.natCast_add M free] at R
          refine ⟨y / 2 ^ free, M + free, _, by simp, by go_num, by omega, by omega, by omega, ⟨i + free, by omega, ?_, by omega, ?_⟩, some q1, R.1, HA1.out, ?_⟩
          · rw [hy, Nat.div_div_eq_div_mul, ← Nat.pow_add]
          · rw [hNN, mod_more, hM, ← hy, Nat.add_mul, Nat.mul_assoc, ← Nat.pow_add, Nat.add_comm i m]; omega
          · refine Fr.drew (HF1.out.trans R.2 (fun x hx hxG => ?_))
            simp only [List.mem_cons, List.not_mem_nil, or_false] at hxG
            rcases hxG with rfl | rfl
            · simp
            · rcases HA1.out.mem (k := x) (by simp) with h | h
              · exact List.mem_cons_of_mem _ h
              · omega
    · go_wp2
      go_end0
      obtain ⟨i, hi, hy, hM, hNN⟩ := HI.out
      obtain rfl : i = n := by omega
      rw [Nat.mod_eq_of_lt hv] at hNN
      rw [← hM, ← hNN]
      exact ⟨rfl, q', HTl.out, HA.out, HF.out⟩
end Go.Proofs.Ytofajcifjmhomaa.Bits
