import Derived.Test.YtkdgfioigkijgaaGreatW01
import Derived.Test.YtkdgfioigkijgaaGreatW02
import Derived.Test.YtkdgfioigkijgaaGreatW03
import Derived.Test.YtkdgfioigkijgaaGreatW04
import Derived.Test.YtkdgfioigkijgaaGreatW05
import Derived.Test.YtkdgfioigkijgaaGreatW06
import Derived.Test.YtkdgfioigkijgaaGreatW07
import Derived.Test.YtkdgfioigkijgaaGreatW08
import Derived.Test.YtkdgfioigkijgaaGreatW09
import Derived.Test.YtkdgfioigkijgaaGreatW10
import Derived.Test.YtkdgfioigkijgaaGreatW11
import Derived.Test.YtkdgfioigkijgaaGreatW12
import Derived.Test.YtkdgfioigkijgaaGreatW13
import Derived.Test.YtkdgfioigkijgaaGreatW18
import Derived.Deep.CutBlock
import Derived.Deep.CutRange
import Derived.Laws.CopyOwn
set_option linter.unusedVariables false
set_option linter.unusedSimpArgs false
set_option maxRecDepth 100000
namespace Go.Proofs.YtkdgfioigkijgaaGreat.Head
open Go.RowKit Go.Proofs.YtkdgfioigkijgaaGreat.Lib Go.Proofs.YtkdgfioigkijgaaGreat.Ints Go.Proofs.YtkdgfioigkijgaaGreat.Runs
set_option maxHeartbeats 4000000 in
theorem short_any (w : World) (A : Option Addr) (n c : Nat) (l : List Int) (p : Option Nat) (hX : SlArg w A n c (i64s l) p) (k : Nat) (hk : k ≤ 1048576) (hn1 : n ≤ 1048576) (m : Nat) (hm : m = (shortL l k).length) :
    Calls Tryz.prog 92 #[.slice A n c, .int .i64 (k : Nat)] w fun e w' => ∃ A' d, e = .returned (.slice A' m d) ∧ w'.ownsRow 0 3 1 (.slice A' m d) m (i64s (shortL l k)) ∧ (∀ j, (Value.slice A' m d).ownBlock = some j → w.heap.size ≤ j) ∧ Fr w w' [] := by
  obtain ⟨i0, hi0, hz0, hz1, hz2⟩ := info_parts infoI64
  have HX := Hd.mk hX
  have hn2 := hX.le
  have hn3 := hX.max
  have HA := Hd.mk hX.nil
  unfold maxLen at hn3
  have HM := Hd.mk hm
  have hl : l.length = n := by have := hX.len; simpa [i64s] using this
  subst hl
  obtain ⟨s, hs⟩ : ∃ s, s = stripN l l.length := ⟨_, rfl⟩
  have HS := Hd.mk hs
  have hsl : s ≤ l.length := by rw [hs]; exact stripN_le _ _
  clear hX hs hm
  go_enter Tryz.func92, Tryz.ntmps92
  go_upto_block 0 with (fail)
  go_cut [5] from 9 to 20 (fun s5 wd => s5 = .int .i64 (s : Nat) ∧ w = wd)
  case first =>
    go_wp2_with (fail)
    go_loopg [5] l.length (fun kq jv wr => ∃ j : Nat, jv = .int .i64 (j : Nat) ∧ j = kq ∧ j ≤ l.length ∧ Hd (stripN l j = s) ∧ wr = w)
    case atStart => exact ⟨l.length, rfl, rfl, Nat.le_refl _, ⟨HS.out.symm⟩, rfl⟩
    case round =>
      obtain ⟨j, rfl, rfl, hj, HE, rfl⟩ := hrel
      match j, hj, HE with
      | 0, hj, HE =>
        obtain rfl : s = 0 := HE.out.symm
        go_wp2
        go_meet
        case rel => exact ⟨rfl, rfl⟩
      | j + 1, hj, HE =>
        obtain ⟨x, hx⟩ : ∃ x, x = l[j] := ⟨_, rfl⟩
        have HXV : Hd (l.getD j 0 = x) := ⟨by rw [List.getD_eq_getElem?_getD, List.getElem?_eq_getElem (by omega), hx]; rfl⟩
        obtain ⟨a, o1, rfl, _, ha⟩ := HX.out.sl (by simp [i64s]; omega)
        have ca := (ha j (by simp [i64s]; omega)).trans (by rw [i64s_get, List.getElem?_eq_getElem (by omega), ← hx])
        clear ha hx
        have hp : (0 : Int) < ((j + 1 : Nat) : Int) := by omega
        have hi : (j : Int) < (l.length : Int) := by omega
        by_cases h0 : x = 0
        · subst h0
          have HN : Hd (stripN l j = s) := ⟨by rw [← HE.out, stripN, if_pos HXV.out]⟩
          clear HE
          go_wp2
          go_roundg j
          case measure => omega
          case rel => exact ⟨j, by go_num, by omega, by omega, HN, rfl⟩
        · have hN : s = j + 1 := by rw [← HE.out, stripN, if_neg (by rw [HXV.out]; exact h0)]
          subst hN
          have h0' : (x == 0) = false := by simpa using h0
          clear HE
          go_wp2
          go_meet
          case rel => exact ⟨rfl, rfl⟩
  case rest =>
    obtain ⟨rfl, rfl⟩ := hcut
    have hs1 := Lens.run_cut_to (P := Tryz.prog) 79 3 .i64 Tryz.underlying79 hi0 1 hz1 A l.length c s (fun h => (HA.out h).2) (by omega)
    have XS : Hd (Sl (w.alloc (.cells #[] 3)) A (i64s (l.take s)) p) := ⟨by have := (HX.out.sl.take s).alloc (.cells #[] 3); simpa [i64s, List.map_take] using this⟩
    have hlt : (l.take s).length = s := by rw [List.length_take]; omega
    have HLT := Hd.mk hlt
    have NS : Hd (A = none → s = 0 ∧ c = 0) := ⟨fun h => by have := HA.out h; omega⟩
    have F1 : Hd (Fr w (w.alloc (.cells #[] 3)) []) := ⟨(Fr.refl w []).alloc _⟩
    have OZ : Hd ((w.alloc (.cells #[] 3)).ownsRow 0 3 1 (.slice (some ⟨w.heap.size, 0, none⟩) 0 0) 0 []) := ⟨World.ownsRow_lit w #[] 0 (Nat.zero_le _) (Nat.zero_le _) rfl⟩
    clear hlt
    go_wp2_with (at_builtin; refine wpList_append_sl rfl (.tmp 21) (.tmp 24) 79 rfl 3 i0 (.int .i64 0) 1 8 Tryz.underlying79 hi0 hz0 hz1 hz2 rfl (by decide) (.slice (some ⟨w.heap.size, 0, none⟩) 0 0) 0 [] rfl (by exact OZ.out) A s c (i64s (l.take s)) p rfl (by rw [i64s_length, HLT.out, Nat.mul_one]) (by exact XS.out) NS.out (i64s_one _) (by unfold maxLen; omega) (by omega) ?_; intro A3 c3 w3 hown3 hgrow3 haft3; rw [Nat.zero_add, List.nil_append] at hown3; rw [Nat.zero_add] at haft3; have O3 := Hd.mk hown3; have G3 := Hd.mk hgrow3; have AF3 := Hd.mk haft3; clear hown3 hgrow3 haft3; rw [Nat.zero_add])
    have F3 : Hd (Fr w w3 []) := ⟨F1.out.grown G3.out (fun k hk => .inr (by simp [Value.ownBlock] at hk; omega))⟩
    have N3 : Hd (∀ y, (Value.slice A3 s c3).ownBlock = some y → w.heap.size ≤ y) := ⟨fun y hy => by
      rcases AF3.out with e | ⟨z, e, hz⟩
      · rw [e] at hy; simp [Value.ownBlock] at hy; omega
      · rw [e] at hy; cases hy; rw [World.size_alloc] at hz; omega⟩
    clear G3 AF3 F1 OZ XS NS hs1
    go_loopg [6] (k - s) (fun kq ov wr => ∃ (i : Nat) (A' : Option Addr) (d : Nat), ov = .slice A' (s + i) d ∧ i + kq = k - s ∧ Hd (wr.ownsRow 0 3 1 (.slice A' (s + i) d) (s + i) (i64s (l.take s ++ List.replicate i 0))) ∧ Hd (∀ y, (Value.slice A' (s + i) d).ownBlock = some y → w.heap.size ≤ y) ∧ Hd (Fr w wr []))
    case atStart => exact ⟨0, A3, c3, rfl, by omega, ⟨by simpa using O3.out⟩, N3, F3⟩
    case round =>
      obtain ⟨i, A4, d, rfl, hi, HO, HN, HF⟩ := hrel
      by_cases hlt : i < k - s
      · have ht : ((s + i : Nat) : Int) < (k : Int) := by omega
        go_wp2_with (at_builtin; refine wpList_append_sl rfl (.tmp 30) (.tmp 31) 79 rfl 3 i0 (.int .i64 0) 1 8 Tryz.underlying79 hi0 hz0 hz1 hz2 rfl (by decide) (.slice A4 (s + i) d) (s + i) _ rfl (by exact HO.out.alloc _) (some ⟨wr.heap.size, 0, none⟩) 1 1 [.int .i64 0] (some wr.heap.size) rfl rfl (by exact sl_of_blk (blk_new _ _)) (by intro h; cases h) (by intro u hu; simp at hu; subst hu; rfl) (by unfold maxLen; omega) (by omega) ?_; intro A5 c5 w5 hown5 hgrow5 haft5; have O5 := Hd.mk hown5; have G5 := Hd.mk hgrow5; have AF5 := Hd.mk haft5; clear hown5 hgrow5 haft5)
        go_roundg (gk - 1)
        case measure => omega
        case rel =>
          refine ⟨i + 1, A5, c5, rfl, by omega, ⟨?_⟩, ⟨fun y hy => ?_⟩, ⟨(HF.out.alloc _).grown G5.out (fun y hy => .inr (HN.out y hy))⟩⟩
          · have h := O5.out
            rw [List.replicate_succ', ← List.append_assoc, i64s_app _ [0]]
            exact h
          · rw [← Nat.add_assoc] at hy
            rcases AF5.out with e | ⟨z, e, hz⟩
            · rw [e] at hy; exact HN.out y hy
            · rw [e] at hy; cases hy; rw [World.size_alloc] at hz; have := HF.out.size; omega
      · obtain rfl : i = k - s := by omega
        have hmm : m = s + (k - s) := by rw [HM.out, shortL, ← HS.out, List.length_append, HLT.out, List.length_replicate]
        subst hmm
        have ht : ¬ ((s + (k - s) : Nat) : Int) < (k : Int) := by omega
        go_wp2
        go_ret
        exact ⟨A4, d, rfl, by rw [shortL, ← HS.out]; exact HO.out, HN.out, HF.out⟩
theorem rorder_any (w : World) : Calls Tryz.prog 94 #[] w fun e w' => ∃ g, e = .returned (.slice (some ⟨g, 0, none⟩) 19 19) ∧ w'.heap[g]? = some (.cells ordC 3 (0, 0)) ∧ w.heap.size ≤ g ∧ Fr w w' [] := by
  go_enter Tryz.func94, Tryz.ntmps94
  go_wp2
  go_ret
  exact ⟨w.heap.size, rfl, blk_new w (.cells ordC 3), Nat.le_refl _, (Fr.refl w []).alloc _⟩
theorem rleast_any (w : World) (s L : Int) (h1 : s ≤ 18) (hL : L = leastN s) : Calls Tryz.prog 95 #[.int .i64 s] w fun e w' => e = .returned (.int .i64 L) ∧ w = w' := by
  rw [hL]; exact least_any w s h1
theorem rmore_any (w : World) (s : Int) (h0 : 0 ≤ s) (h1 : s ≤ 18) (L : Int) (hL : L = kbits s) : Calls Tryz.prog 96 #[.int .i64 s] w fun e w' => e = .returned (.int .i64 L) ∧ w = w' := by
  have hc : s < 16 ∨ s = 16 ∨ s = 17 ∨ s = 18 := by omega
  rcases hc with h | rfl | rfl | rfl
  · have e1 : (s == 16) = false := by simp; omega
    have e2 : (s == 17) = false := by simp; omega
    have e3 : (s == 18) = false := by simp; omega
    have : L = 0 := by rw [hL]; unfold kbits; rw [if_pos h]
    subst this
    clear hL
    go_enter Tryz.func96, Tryz.ntmps96
    go_wp2
    go_ret
    exact ⟨rfl, rfl⟩
  · obtain rfl : L = 2 := hL.trans (by decide)
    clear hL
    go_enter Tryz.func96, Tryz.ntmps96
    go_wp2
    go_ret
    exact ⟨rfl, rfl⟩
  · obtain rfl : L = 3 := hL.trans (by decide)
    clear hL
    go_enter Tryz.func96, Tryz.ntmps96
    go_wp2
    go_ret
    exact ⟨rfl, rfl⟩
  · obtain rfl : L = 7 := hL.trans (by decide)
    clear hL
    go_enter Tryz.func96, Tryz.ntmps96
    go_wp2
    go_ret
    exact ⟨rfl, rfl⟩
end Go.Proofs.YtkdgfioigkijgaaGreat.Head
set_option linter.unusedVariables false
set_option linter.unusedSimpArgs false
set_option maxRecDepth 100000
namespace Go.Proofs.YtkdgfioigkijgaaGreat.Blk
open Go.RowKit Go.Proofs.YtkdgfioigkijgaaGreat.Lib Go.Proofs.YtkdgfioigkijgaaGreat.Ints Go.Proofs.YtkdgfioigkijgaaGreat.Num Go.Proofs.YtkdgfioigkijgaaGreat.Bits Go.Proofs.YtkdgfioigkijgaaGreat.Code
def PutR (w w' : World) (gw N m : Nat) (q : Option Nat) (p : Nat × Nat) : Prop := ∃ q', RW w' gw (N + p.1 * 2 ^ m) (m + p.2) q' ∧ Aft w q q' ∧ Fr w w' (gw :: q.toList)
structure Rw (w0 w : World) (gw : Nat) (q0 q : Option Nat) (N m : Nat) (P : List (Nat × Nat)) : Prop where
  rw_ : RW w gw (N + numOf P * 2 ^ m) (m + totOf P) q
  aft : Aft w0 q0 q
  fr : Fr w0 w (gw :: q0.toList)
section
variable {w0 w w' : World} {gw N m : Nat} {q0 q : Option Nat} {P Q : List (Nat × Nat)}
theorem Rw.start (h : RW w gw N m q) : Rw w w gw q q N m [] := ⟨by simpa [numOf, totOf] using h, Aft.refl _ _, Fr.refl _ _⟩
theorem Rw.call (h : Rw w0 w gw q0 q N m P) (hf : Fr w w' []) : Rw w0 w' gw q0 q N m P := ⟨h.rw_.frame hf (by simp) (by simp), h.aft, h.fr.trans hf (by simp)⟩
theorem Rw.mem (h : Rw w0 w gw q0 q N m P) {x : Nat} (hx : x < w0.heap.size) (hm : x ∈ gw :: q.toList) : x ∈ gw :: q0.toList := by
  rcases List.mem_cons.1 hm with e | hm
  · subst e; simp
  · rcases h.aft.mem hm with h1 | h1
    · exact List.mem_cons_of_mem _ h1
    · omega
theorem Rw.put (h : Rw w0 w gw q0 q N m P) {p : Nat × Nat} (hp : PutR w w' gw (N + numOf P * 2 ^ m) (m + totOf P) q p) : ∃ q', Rw w0 w' gw q0 q' N m (P ++ [p]) := by
  obtain ⟨v, n⟩ := p
  obtain ⟨q', h1, h2, h3⟩ := hp
  refine ⟨q', ?_, h.aft.trans h2 h.fr.size, h.fr.trans h3 (fun x hx hm => h.mem hx hm)⟩
  rw [numOf_snoc, totOf_snoc]
  have e : N + (numOf P + v * 2 ^ totOf P) * 2 ^ m = N + numOf P * 2 ^ m + v * 2 ^ (m + totOf P) := by
    rw [Nat.add_mul, Nat.mul_assoc, ← Nat.pow_add, Nat.add_comm (totOf P) m, Nat.add_assoc]
  rw [e, ← Nat.add_assoc m]
  exact h1
theorem Rw.more (h : Rw w0 w gw q0 q N m P) {q' : Option Nat} (hp : Rw w w' gw q q' (N + numOf P * 2 ^ m) (m + totOf P) Q) : Rw w0 w' gw q0 q' N m (P ++ Q) := by
  refine ⟨?_, h.aft.trans hp.aft h.fr.size, h.fr.trans hp.fr (fun x hx hm => h.mem hx hm)⟩
  have := hp.rw_
  rw [Nat.add_assoc m, ← totOf_app] at this
  have e : N + numOf (P ++ Q) * 2 ^ m = N + numOf P * 2 ^ m + numOf Q * 2 ^ (m + totOf P) := by
    rw [numOf_app, Nat.add_mul, Nat.mul_assoc, ← Nat.pow_add, Nat.add_comm (totOf P) m, Nat.add_assoc]
  rw [e]
  exact this
theorem rwput (a n : Int) (v : Nat) (ha : a = (v : Nat)) (hv : v < 2 ^ n.toNat) (h0 : 0 ≤ n) (h1 : n ≤ 56) (hT : RW w gw N m q) (hm : m + n.toNat ≤ 70368744177664) :
    Calls Tryz.prog 12 #[.pointer (some ⟨gw, 0, none⟩), .int .u64 a, .int .i64 n] w fun e w' => e = .returned (.int .i64 0) ∧ PutR w w' gw N m q (v, n.toNat) := by
  refine (wput_ok a n v w ha (mayN_ok h0 h1 hv) hm hT).mono ?_
  rintro e w2 ⟨rfl, q', h1, h2, h3⟩
  exact ⟨rfl, q', h1, h2, h3⟩
end
theorem Rw.after {w0 w1 w2 : World} {gw N m : Nat} {q q' : Option Nat} {P : List (Nat × Nat)} (hf : Fr w0 w1 []) (h : Rw w1 w2 gw q q' N m P) : Rw w0 w2 gw q q' N m P :=
  ⟨h.rw_, (Aft.refl w0 q).trans h.aft hf.size, (hf.mono (G := gw :: q.toList) (fun k _ hm => by cases hm)).trans h.fr (fun x _ hm => hm)⟩
theorem PutR.after {w w2 w' : World} {gw N m : Nat} {q : Option Nat} {p : Nat × Nat} (hf : Fr w w2 []) (h : PutR w2 w' gw N m q p) : PutR w w' gw N m q p := by
  obtain ⟨q', h1, h2, h3⟩ := h
  exact ⟨q', h1, (Aft.refl w q).trans h2 hf.size, (hf.mono (G := gw :: q.toList) (fun k _ hm => by cases hm)).trans h3 (fun x _ hm => hm)⟩
theorem PutR.ofDrew {w w' : World} {gw N m : Nat} {q : Option Nat} {p : Nat × Nat} (h : PutR w.drew w' gw N m q p) : PutR w w' gw N m q p := by
  obtain ⟨q', a, b, c⟩ := h
  exact ⟨q', a, b, c.ofDrew⟩
theorem bools_app {N m : Nat} (hN : N < 2 ^ m) (V n : Nat) : Bits.bools N m ++ Bits.bools (V % 2 ^ n) n = Bits.bools (N + V % 2 ^ n * 2 ^ m) (m + n) := by
  induction n with
  | zero => simp [Bits.bools, Nat.mod_one]
  | succ n ih =>
    have e : Bits.bools (V % 2 ^ (n + 1)) (n + 1) = Bits.bools (V % 2 ^ n) n ++ [.bool (V.testBit n)] := by
      rw [Bits.bools_snoc (Nat.mod_lt _ (Nat.pow_pos (by omega))), ← Bits.low_bit]
    have hlt : N + V % 2 ^ n * 2 ^ m < 2 ^ (m + n) := by
      have h1 : V % 2 ^ n < 2 ^ n := Nat.mod_lt _ (Nat.pow_pos (by omega))
      have h2 : (V % 2 ^ n + 1) * 2 ^ m ≤ 2 ^ n * 2 ^ m := Nat.mul_le_mul_right _ h1
      rw [Nat.add_mul, Nat.one_mul, ← Nat.pow_add, Nat.add_comm n m] at h2
      omega
    rw [e, ← List.append_assoc, ih, Bits.bools_snoc hlt, Bits.low_bit, Nat.add_mul, Nat.mul_assoc, ← Nat.pow_add, Nat.add_comm m n, Nat.add_assoc, Nat.add_assoc, show n + (m + 1) = m + (n + 1) from by omega]
theorem rw_app {w w9 : World} {gw N m V k c d : Nat} {Ax A3 : Option Addr} (hb : w.heap[gw]? = some (.cells #[.slice Ax m c] 30 (0, 0))) (ho : w.ownsRow 0 4 1 (.slice Ax m c) m (bools N m)) (hN : N < 2 ^ m) (hV : V < 2 ^ k) (h9 : w9.ownsRow 0 4 1 (.slice A3 (m + k) d) (m + k) (bools N m ++ bools V k)) (hg : w.grownBy w9 (Value.slice Ax m c).ownBlock) (ha : Aft w (Value.slice Ax m c).ownBlock (Value.slice A3 (m + k) d).ownBlock) : PutR w (w9.setCell ⟨gw, 0, none⟩ (.slice A3 (m + k) d)) gw N m (Value.slice Ax m c).ownBlock (V, k) := by
  have hb9 := blk_grown hg hb (own_ne ho hb (by decide)).symm
  have hne : (Value.slice A3 (m + k) d).ownBlock ≠ some gw := own_ne h9 hb9 (by decide)
  have hlt : N + V * 2 ^ m < 2 ^ (m + k) := by
    have h2 : (V + 1) * 2 ^ m ≤ 2 ^ k * 2 ^ m := Nat.mul_le_mul_right _ hV
    rw [Nat.add_mul, Nat.one_mul, ← Nat.pow_add, Nat.add_comm k m] at h2
    omega
  have hrow : bools N m ++ bools V k = bools (N + V * 2 ^ m) (m + k) := by
    have h1 := bools_app hN V k
    rw [Nat.mod_eq_of_lt hV] at h1
    exact h1
  rw [hrow] at h9
  refine ⟨_, ⟨A3, d, by simpa using blk_set hb9 0 (.slice A3 (m + k) d), own_setFar h9 _ hne, rfl, hlt⟩, ha, ?_⟩
  exact ((Fr.refl w _).grown hg (fun y hy => .inl (by simp [hy]))).setCell _ (.inl (by simp))
theorem rw_not {w : World} {gw N m : Nat} {q : Option Nat} (h : RW w gw N m q) {g : Nat} {cs : Array Value} {t : TypeId} {fr : Nat × Nat} (hb : w.heap[g]? = some (.cells cs t fr)) (h1 : t ≠ 30) (h2 : t ≠ 4) : g ∉ gw :: q.toList := by
  obtain ⟨A, c, hd, ho, rfl, _⟩ := h
  intro hm
  rcases List.mem_cons.1 hm with e | hm
  · exact blk_ne hb hd h1 e
  · obtain ⟨es, he⟩ := own_type ho (k := g) (by simpa using hm)
    exact blk_ne hb he h2 rfl
theorem rw_keep {w w' : World} {gw N m : Nat} {q : Option Nat} (h : RW w gw N m q) {g : Nat} {cs : Array Value} {t : TypeId} {fr : Nat × Nat} (hb : w.heap[g]? = some (.cells cs t fr)) (h1 : t ≠ 30) (h2 : t ≠ 4) (hf : Fr w w' (gw :: q.toList)) : w'.heap[g]? = some (.cells cs t fr) := hf.blk hb (rw_not h hb h1 h2)
theorem rown_keep {w w' : World} {gw N m : Nat} {q : Option Nat} {base : Nat} {e : TypeId} {size n : Nat} {v : Value} {xs : List Value} (hT : RW w gw N m q) (hf : Fr w w' (gw :: q.toList)) (h : w.ownsRow base e size v n xs) (h1 : e ≠ 30) (h2 : e ≠ 4) : w'.ownsRow base e size v n xs :=
  own_frame h hf (fun k hk => by
    obtain ⟨cs, hcs⟩ := own_type h hk
    exact rw_not hT hcs h1 h2)
end Go.Proofs.YtkdgfioigkijgaaGreat.Blk
set_option linter.unusedVariables false
set_option linter.unusedSimpArgs false
set_option maxRecDepth 100000
namespace Go.Proofs.YtkdgfioigkijgaaGreat.Code
open Go.RowKit Go.IntWalk Go.Proofs.YtkdgfioigkijgaaGreat.Lib Go.Proofs.YtkdgfioigkijgaaGreat.Ints Go.Proofs.YtkdgfioigkijgaaGreat.Num
theorem and_one {a : Nat} (ha : a < 2 ^ 62) : Go.bits .and .i64 (a : Int) 1 = ((a % 2 : Nat) : Int) := by
  have h := (bits_nat .i64 62 (by decide) (fun n h0 h1 => IntWalk.i64_in n ⟨by omega, by omega⟩) a 1 ha (by decide)).1
  rw [show ((1 : Nat) : Int) = 1 from rfl] at h
  rw [h, Nat.and_one_is_mod]
theorem hand_biti {v i : Nat} (hv : v < 2 ^ 62) : (Go.bits .and .i64 ((v : Int) / 2 ^ i) 1 == 1) = v.testBit i := by
  have hle : v / 2 ^ i ≤ v := Nat.div_le_self _ _
  rw [div_cast, and_one (by omega), Nat.testBit_eq_decide_div_mod_eq, Bool.eq_iff_iff]
  simp only [beq_iff_eq, decide_eq_true_eq]
  omega
set_option maxHeartbeats 8000000 in
theorem row_any (w : World) (c n : Nat) (hc : c < 32768) (hn : n ≤ 15) :
    Calls Tryz.prog 142 #[.int .i64 (c : Nat), .int .i64 (n : Nat)] w fun e w' => ∃ A d, e = .returned (.slice A n d) ∧ w'.ownsRow 0 4 1 (.slice A n d) n (Bits.bools (rv c n) n) ∧ (∀ y, (Value.slice A n d).ownBlock = some y → w.heap.size ≤ y) ∧ Fr w w' [] := by
  obtain ⟨i0, hi0, hz0, hz1, hz2⟩ := info_parts Bits.infoBool
  go_enter Tryz.func142, Tryz.ntmps142
  go_wp2
  go_loopg [5, 6] n (fun kq lv iv wr => ∃ (j : Nat) (A : Option Addr) (d : Nat), lv = .slice A j d ∧ iv = .int .i64 ((kq : Int) - 1) ∧ j + kq = n ∧ Hd (wr.ownsRow 0 4 1 (.slice A j d) j (Bits.bools (rv c n % 2 ^ j) j)) ∧ Hd (∀ y, (Value.slice A j d).ownBlock = some y → w.heap.size ≤ y) ∧ Hd (Fr w wr []))
  case atStart => exact ⟨0, none, 0, rfl, by go_num, by omega, ⟨by simpa [Bits.bools] using own_nil w 0 4 1⟩, ⟨by intro y hy; cases hy⟩, ⟨Fr.refl _ _⟩⟩
  case round =>
    obtain ⟨j, A, d, rfl, rfl, hj, HO, HB, HF⟩ := hrel
    by_cases hlt : j < n
    · obtain ⟨f, rfl⟩ : ∃ f, gk = f + 1 := ⟨gk - 1, by omega⟩
      have hf : ((f + 1 : Nat) : Int) - 1 = (f : Int) := by omega
      rw [hf]
      clear hf
      obtain ⟨bt, hbt⟩ : ∃ bt, bt = c.testBit f := ⟨_, rfl⟩
      have hand : (Go.bits .and .i64 ((c : Int) / 2 ^ f) 1 == 1) = bt := by rw [hbt]; exact hand_biti (by omega)
      have Hbt : Hd (bt = (rv c n).testBit j) := ⟨by rw [hbt, rv_bit, decide_eq_true hlt, Bool.true_and, show n - 1 - j = f from by omega]⟩
      clear hbt
      go_wp2_with (at_builtin; refine wpList_append_sl rfl (.tmp 13) (.tmp 19) 28 rfl 4 i0 (.bool false) 1 1 Tryz.underlying28 hi0 hz0 hz1 hz2 rfl (by decide) (.slice A j d) j _ rfl (by exact HO.out.alloc _) (some ⟨wr.heap.size, 0, none⟩) 1 1 [.bool bt] (some wr.heap.size) rfl rfl (by exact sl_of_blk (blk_new _ _)) (by intro h; cases h) (by intro u hu; simp at hu; subst hu; rfl) (by unfold maxLen; omega) (by omega) ?_; intro A3 d3 w6 hown' hgrow haft; have O3 := Hd.mk hown'; have G3 := Hd.mk hgrow; have F3 := Hd.mk haft; clear hown' hgrow haft)
      go_roundg f
      case measure => omega
      case rel =>
        refine ⟨j + 1, A3, d3, rfl, by go_num, by omega, ⟨?_⟩, ⟨fun y hy => ?_⟩, ⟨(HF.out.alloc _).grown G3.out (fun y hy => .inr (HB.out y hy))⟩⟩
        · have h := O3.out
          rw [Bits.bools_snoc (Nat.mod_lt _ (Nat.pow_pos (by omega))), Hbt.out, ← Bits.low_bit] at h
          exact h
        · rcases F3.out with e | ⟨z, e, hz⟩
          · rw [e] at hy; exact HB.out y hy
          · rw [e] at hy; cases hy
            have := HF.out.size
            rw [World.size_alloc] at hz
            omega
    · obtain rfl : j = n := by omega
      obtain rfl : gk = 0 := by omega
      have e0 : (((0 : Nat) : Int) - 1) = -1 := by omega
      rw [e0]
      clear e0
      go_wp2
      go_ret
      have h := HO.out
      rw [Nat.mod_eq_of_lt (rv_lt c j)] at h
      exact ⟨A, d, rfl, h, HB.out, HF.out⟩
set_option maxHeartbeats 8000000 in
theorem bits_ref (w : World) (A : Option Addr) (n c : Nat) (lens : List Int) (q : Option Nat) (hS : SlArg w A n c (i64s lens) q) (hc : check lens = 0) (s : Int) (m cd : Nat) (hm : m = bitsOf lens s) (hcd : cd = codeOf lens s) :
    Calls Tryz.prog 87 #[.slice A n c, .int .i64 s] w fun e w' => ∃ A' d, e = .returned (.slice A' m d) ∧ w'.ownsRow 0 4 1 (.slice A' m d) m (Bits.bools (rv cd m) m) ∧ (∀ y, (Value.slice A' m d).ownBlock = some y → w.heap.size ≤ y) ∧ Fr w w' [] := by
  have HS := Hd.mk hS
  have HC := Hd.mk hc
  have HM := Hd.mk hm
  have HCD := Hd.mk hcd
  have hl : lens.length = n := by have := hS.len; simpa [i64s] using this
  have hln : (codes lens).length = n := by rw [codes_len hc, hl]
  clear hS hc hm hcd
  go_enter Tryz.func87, Tryz.ntmps87
  go_wp2_with (fail)
  refine (rcodes_any w A n c lens q HS.out 0 (codes lens) HC.out.symm rfl).mono ?_
  rintro e w1 ⟨A1, d1, rfl, h1, h2, h3⟩
  rw [hln] at h1 ⊢
  have O1 := Hd.mk h1
  have F1 := Hd.mk h3
  clear h1 h2 h3
  by_cases h0 : s < 0
  · obtain rfl : m = 0 := by rw [HM.out]; unfold bitsOf; rw [if_neg (by omega)]
    go_wp2
    go_ret
    exact ⟨none, 0, rfl, by simpa [Bits.bools] using own_nil w1 0 4 1, (by intro y hy; cases hy), F1.out⟩
  · by_cases h1 : s ≥ (n : Nat)
    · obtain rfl : m = 0 := by rw [HM.out]; unfold bitsOf; rw [if_neg (by omega)]
      go_wp2
      go_ret
      exact ⟨none, 0, rfl, by simpa [Bits.bools] using own_nil w1 0 4 1, (by intro y hy; cases hy), F1.out⟩
    · obtain ⟨i, rfl⟩ := Int.eq_ofNat_of_zero_le (show 0 ≤ s by omega)
      have hi : i < lens.length := by omega
      have hall := (bad_false (check_zero HC.out).1).2 lens[i] (List.getElem_mem hi)
      have hm2 : lens[i] = (m : Int) := by
        rw [HM.out]
        unfold bitsOf
        rw [if_pos (by omega), List.getD_eq_getElem?_getD, Int.toNat_natCast, List.getElem?_eq_getElem hi]
        simp only [Option.getD_some]
        omega
      have hcd2 : (codes lens)[i]? = some cd := by
        rw [HCD.out]
        unfold codeOf
        rw [Int.toNat_natCast, List.getD_eq_getElem?_getD, List.getElem?_eq_getElem (by omega)]
        rfl
      have hm15 : m ≤ 15 := by omega
      have hcdb : cd < 32768 := by
        by_cases hm0 : 0 < m
        · obtain ⟨c2, a1, a2, a3, a4⟩ := code_fits HC.out hi hm2 hm0
          rw [hcd2] at a1
          cases a1
          exact Nat.lt_of_lt_of_le a3 (Nat.pow_le_pow_right (by omega) hm15)
        · have h2 := codesF_zero lens (firstF (cz lens)) i hi (by rw [hm2]; omega)
          unfold codes at hcd2
          rw [if_pos HC.out, h2] at hcd2
          cases hcd2
          omega
      obtain ⟨bd, off, rfl, hq, hcc⟩ := (HS.out.sl.frame F1.out (by simp)) (by rw [i64s_length]; omega)
      have kd := (hcc i (by rw [i64s_length]; omega)).trans (i64s_get lens i)
      rw [List.getElem?_eq_getElem hi, hm2] at kd
      simp only [Option.map_some] at kd
      obtain ⟨gl, dl, e1, hdl⟩ := own_some O1.out (by omega)
      injection e1 with e1 _ e2
      subst e1 e2
      have kc := (O1.out.cellAt i (by omega)).trans (show (nv (codes lens))[i]? = some (.int .i64 (cd : Nat)) from by
        unfold nv
        rw [i64s_get, List.getElem?_map, hcd2]
        rfl)
      have hiI : (i : Int) < (n : Nat) := by omega
      clear hall hm2 hcd2 hcc hi hq
      go_upto_region 4 with (fail)
      go_region_with (first
        | (go_at_call 142; refine (row_any _ cd m hcdb hm15).mono ?_; rintro e w2 ⟨A2, d2, rfl, h1, h2, h3⟩; have O2 := Hd.mk h1; have B2 := Hd.mk h2; have F2 := Hd.mk h3; clear h1 h2 h3))
      all_goals
        go_wp2
        go_ret
        exact ⟨A2, d2, rfl, O2.out, fun y hy => Nat.le_trans F1.out.size (B2.out y hy), F1.out.trans F2.out.ofDrew (by simp)⟩
end Go.Proofs.YtkdgfioigkijgaaGreat.Code
set_option maxRecDepth 100000
set_option linter.unusedVariables false
set_option linter.unusedSimpArgs false
namespace Go.Proofs.YtkdgfioigkijgaaGreat.Lib
open Go.RowKit
section
variable {P : Program}
theorem run_copy_row_n (size : Nat) (w : World) (dT sT ty elem : TypeId) (g o dLen dCap : Nat) (a : Addr) (sLen sCap : Nat) (cur : Array Value) (t : TypeId) (cs : List Value)
    (hu : P.underlying dT = some (.slice elem)) (hs : (P.info? elem).map (·.size) = some size)
    (hg : w.heap[g]? = some (.cells cur t (0, 0))) (hn : cs.length = Nat.min sLen dLen * size)
    (hsrc : ∀ j v, cs[j]? = some v → w.cell? (a.add j) = some v) (hfit : o + cs.length ≤ cur.size) (h1 : ∀ v ∈ cs, v.oneCell' = true) :
    (Builtin.copy_ #[dT, sT] ty #[.slice (some ⟨g, o, none⟩) dLen dCap, .slice (some a) sLen sCap]).run P w =
      .ok (goInt (Nat.min sLen dLen)) (w.setRow g (cur.toList.take o ++ cs ++ cur.toList.drop (o + cs.length)).toArray) := by
  have hl := run_loadCells_list (P := P) w a cs hsrc
  have hst := run_storeCells_at P g o t cs 0 cur w hg (by simpa using hfit) h1
  cases hq : P.info? elem with
  | none => simp [hq] at hs
  | some i =>
    have hi : i.size = size := by simpa [hq] using hs
    simp [Builtin.copy_, run_underlying hu, Builtin.lenOf, Builtin.firstCells, sizeOf, typeInfo, hq, hi, ← hn, hl, hst]
theorem run_copy_none_n (size : Nat) (w : World) (dT sT ty elem : TypeId) (d a : Option Addr) (dLen dCap sLen sCap : Nat) (hu : P.underlying dT = some (.slice elem)) (hs : (P.info? elem).map (·.size) = some size) (hn : Nat.min sLen dLen = 0) :
    (Builtin.copy_ #[dT, sT] ty #[.slice d dLen dCap, .slice a sLen sCap]).run P w = .ok (goInt 0) w := by
  cases hq : P.info? elem with
  | none => simp [hq] at hs
  | some i =>
    have hl : ∀ (x : Addr), (loadCells x 0).run P w = .ok #[] w := fun x => by simpa using run_loadCells_list (P := P) w x [] (by simp)
    cases d <;> cases a <;> simp [Builtin.copy_, run_underlying hu, Builtin.lenOf, Builtin.firstCells, sizeOf, typeInfo, hq, hn, storeCells, hl]
theorem setRow_fr {w w' : World} {F : List Nat} (h : Fr w w' F) {g : Nat} (cs : Array Value) (hg : g ∈ F ∨ w.heap.size ≤ g) : Fr w (w'.setRow g cs) F :=
  ⟨h.os, h.tape, h.output, by have := h.size; simp [World.setRow]; omega, fun k hk hF => (setRow_other w' g k cs (by rintro rfl; rcases hg with hg | hg; exact hF hg; omega)).trans (h.block k hk hF)⟩
theorem step_copy_n {ops : Array Oper} {o : Oper} {a : Act} {w : World} {K : Act → World → Prop} {Q : Exit → Act → World → Prop} {E : Prop} (hgd : o.guard = none) (d s : Operand) (dT sT : TypeId)
    (ho : o.op = .call { callee := .builtin .copy, args := #[d, s], argTypes := #[dT, sT] }) (elem : TypeId) (hu : P.underlying dT = some (.slice elem)) (size : Nat) (hsz : (P.info? elem).map (·.size) = some size)
    (dp sp : Option Addr) (dLen dCap sLen sCap : Nat) (hd : a.eval d = .slice dp dLen dCap) (hs : a.eval s = .slice sp sLen sCap)
    (g off : Nat) (cur : Array Value) (t : TypeId) (hg : w.heap[g]? = some (.cells cur t (0, 0))) (cs : List Value) (hn : cs.length = Nat.min sLen dLen * size) (hsize : 0 < size)
    (hpos : 0 < cs.length → dp = some ⟨g, off, none⟩ ∧ ∃ ad, sp = some ad ∧ ∀ j v, cs[j]? = some v → w.cell? (ad.add j) = some v)
    (hfit : off + cs.length ≤ cur.size) (h1 : ∀ v ∈ cs, v.oneCell' = true)
    (h : ∀ w', Hd (w'.heap[g]? = some (.cells (cur.toList.take off ++ cs ++ cur.toList.drop (off + cs.length)).toArray t (0, 0))) → Fr w w' [g] → K (a.put o.dst (goInt (Nat.min sLen dLen))) w') :
    if Region.wanted o (yielded ops a.tmps) = true then Oper.wp P o a w K Q else E := by
  have hw : Region.wanted o (yielded ops a.tmps) = true := by simp [Region.wanted, hgd]
  rw [if_pos hw]
  by_cases h0 : cs.length = 0
  · obtain rfl : cs = [] := List.eq_nil_of_length_eq_zero h0
    have hm : Nat.min sLen dLen = 0 := by
      rcases Nat.eq_zero_or_pos (Nat.min sLen dLen) with h | h
      · exact h
      · have := Nat.mul_pos h hsize; omega
    have hrun := run_copy_none_n (P := P) size w dT sT o.type elem dp sp dLen dCap sLen sCap hu hsz hm
    unfold Oper.wp
    rw [hm] at h
    simp [execOp, ho, resolve, invoke, builtin, hd, hs, hrun, Result.andThen]
    exact h w ⟨by simpa using hg⟩ (Fr.refl _ _)
  · obtain ⟨rfl, ad, rfl, hsrc⟩ := hpos (by omega)
    have hrun := run_copy_row_n (P := P) size w dT sT o.type elem g off dLen dCap ad sLen sCap cur t cs hu hsz hg hn hsrc hfit h1
    unfold Oper.wp
    simp only [execOp, ho, resolve, invoke, builtin, hd, hs, hrun, Result.andThen, Sem.run_bind, Sem.run_pure, Result.andThen_ok, List.map_toArray, List.map_cons, List.map_nil]
    exact h _ ⟨setRow_heap w g _ _ t _ hg⟩ (setRow_fr (Fr.refl _ _) _ (.inl (by simp)))
end
end Go.Proofs.YtkdgfioigkijgaaGreat.Lib
