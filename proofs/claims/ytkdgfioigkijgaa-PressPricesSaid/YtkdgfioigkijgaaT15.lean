/- Texts of this claim, one behind the other: LzFind, LzLearn, LzBest, LzBest2, LzParse, LzParse2. -/
import Derived.Test.YtkdgfioigkijgaaT01
import Derived.Test.YtkdgfioigkijgaaT02
import Derived.Test.YtkdgfioigkijgaaT03
import Derived.Test.YtkdgfioigkijgaaT04
import Derived.Test.YtkdgfioigkijgaaT05
import Derived.Maps.Own
import Derived.Maps.OwnOps
import Derived.Maps.OwnSet
import Derived.Maps.Views
import Derived.DeepKeys4
import Derived.Laws.Cover3
import Derived.BigRegion
import Derived.BigQuiet
import Derived.Deep.QuietTactic
import Derived.Deep.LoopGhost
import Derived.Deep.DeepCutAuto
import Derived.KernelRfl
import Derived.Deep.RegionLaw
import Derived.Outline
/- The finder (chapter 07): what it holds; key, common. Conditions: at most 2^40 bytes. -/
set_option linter.unusedVariables false
set_option linter.unusedSimpArgs false
set_option maxRecDepth 100000
namespace Go.Proofs.Ytkdgfioigkijgaa.Lz
open Go.RowKit Go.Maps Go.Proofs.Ytkdgfioigkijgaa.Lib Go.Proofs.Ytkdgfioigkijgaa.Num Go.Proofs.Ytkdgfioigkijgaa.Bits

theorem laidOutP : laidOutB Try.prog = true := by kernel_rfl
theorem row3 : 161 < Try.prog.types.size := of_decide_eq_true (by kernel_rfl)
theorem wide3 : (match Try.prog.underlying 161 with | some (.array _ _) | some (.struct _) => true | _ => false) = true := by kernel_rfl
theorem law3 : Keyed Try.prog 161 := Keyed.of_law (deep_law_laid laidOutP (m := 2) (by omega) row3 (by kernel_rfl) wide3)
theorem infoI : (Try.prog.info? 3).map (fun i => (i.zero, i.size, i.bytes)) = some (some (.int .i64 0), 1, 8) := by kernel_rfl
def key3 (a b c : Int) : Value := .agg #[.int .u8 a, .int .u8 b, .int .u8 c]
theorem key3_lit (a b c : Int) (ha : 0 ≤ a ∧ a ≤ 255) (hb : 0 ≤ b ∧ b ≤ 255) (hc : 0 ≤ c ∧ c ≤ 255) : keyOf Try.prog 161 (key3 a b c) = some (.string (keyBytes [.int .u8 a, .int .u8 b, .int .u8 c])) := by
  obtain ⟨m, hm⟩ : ∃ m, Try.prog.types.size = m + 1 := ⟨Try.prog.types.size - 1, by have := row3; omega⟩
  have hc3 : Try.prog.cellsOf 161 = 3 := by kernel_rfl
  have hc1 : Try.prog.cellsOf 5 = 1 := by kernel_rfl
  have hk : Try.prog.keyType 161 = true := by kernel_rfl
  have w1 : (Lit.int .u8 a).wf = true := WalkArith.wf_u8 ha
  have w2 : (Lit.int .u8 b).wf = true := WalkArith.wf_u8 hb
  have w3 : (Lit.int .u8 c).wf = true := WalkArith.wf_u8 hc
  have hf : (key3 a b c).formed Try.prog 161 = true := by
    unfold key3 Value.formed
    rw [Try.underlying161]
    simp [hc3]
  have one : ∀ x : Int, (Lit.int .u8 x).wf = true → Try.prog.keyLits (m + 1) 5 [.int .u8 x] = some [.int .u8 x] := by
    intro x hx
    unfold Program.keyLits
    rw [Try.underlying5]
    simp [hx]
  have all : Try.prog.keyLits (m + 1 + 1) 161 [.int .u8 a, .int .u8 b, .int .u8 c] = some [.int .u8 a, .int .u8 b, .int .u8 c] := by
    unfold Program.keyLits
    rw [Try.underlying161]
    simp [hc3, hc1, List.range, List.range.loop, one a w1, one b w2, one c w3]
  unfold keyOf
  rw [Try.underlying161]
  simp only [hk, hf, Bool.and_self, if_true, hm]
  have e : (key3 a b c).cells.toList = [.int .u8 a, .int .u8 b, .int .u8 c] := rfl
  rw [e, all]
  rfl
abbrev U := Unit
def kl (d : List Int) (p : Nat) : Lit := .string (keyBytes [.int .u8 (at0 d p), .int .u8 (at0 d (p + 1)), .int .u8 (at0 d (p + 2))])
def kv (d : List Int) (p : Nat) : Value := key3 (at0 d p) (at0 d (p + 1)) (at0 d (p + 2))
def Bytes (d : List Int) : Prop := ∀ x ∈ d, 0 ≤ x ∧ x ≤ 255
theorem at0_byte {d : List Int} (h : Bytes d) {i : Nat} (hi : i < d.length) : 0 ≤ at0 d i ∧ at0 d i ≤ 255 := by
  unfold at0
  rw [List.getD_eq_getElem?_getD, List.getElem?_eq_getElem hi]
  exact h _ (List.getElem_mem hi)
theorem kv_lit {d : List Int} (h : Bytes d) {p : Nat} (hp : p + 3 ≤ d.length) : keyOf Try.prog 161 (kv d p) = some (kl d p) :=
  key3_lit _ _ _ (at0_byte h (by omega)) (at0_byte h (by omega)) (at0_byte h (by omega))
theorem kl_same {d : List Int} {p q : Nat} (h : same3 d p q) : kl d p = kl d q := by unfold kl; rw [h.1, h.2.1, h.2.2]
theorem kl_ne {d : List Int} (hb : Bytes d) {p q : Nat} (hp : p + 3 ≤ d.length) (hq : q + 3 ≤ d.length) (h : ¬ same3 d p q) : kl d p ≠ kl d q := by
  intro e
  have h1 := kv_lit hb hp
  have h2 := kv_lit hb hq
  rw [← e] at h2
  have := law3.inj h1 h2
  unfold kv key3 at this
  simp only [Value.agg.injEq, Array.mk.injEq, List.cons.injEq, Value.int.injEq, true_and, and_true] at this
  exact h ⟨this.1, this.2.1, this.2.2⟩
/-- what the map says of the places up to kn -/
def MapOk (d : List Int) (kn : Nat) (D : DataW U) : Prop := ∀ p, p + 3 ≤ d.length →
  (0 ≤ prevF d p kn → D.atKey (kl d p) (.lit (.int .i64 0)) = .lit (.int .i64 (prevF d p kn)) ∧ Maps.has D (kl d p) = true) ∧ (prevF d p kn < 0 → Maps.has D (kl d p) = false)
theorem MapOk.zero (d : List Int) : MapOk d 0 (.map []) := fun p _ => ⟨fun h => by simp [prevF] at h, fun _ => rfl⟩
theorem MapOk.put {d : List Int} {kn : Nat} {D : DataW U} (h : MapOk d kn D) (hb : Bytes d) (hk : kn + 3 ≤ d.length) (hD : Maps.IsMap D) : MapOk d (kn + 1) (D.put (kl d kn) (.lit (.int .i64 (kn : Nat)))) := by
  intro p hp
  have hkey : WideAt.IsKeyLit (kl d kn) := law3.key (kv_lit hb hk)
  simp only [prevF]
  by_cases hs : same3 d kn p
  · rw [if_pos hs, ← kl_same hs]
    exact ⟨fun _ => ⟨Maps.atKey_put_same hD hkey _ _, Maps.has_put_same hD hkey _⟩, fun h => by omega⟩
  · rw [if_neg hs]
    have hne : kl d p ≠ kl d kn := (kl_ne hb hk hp hs).symm
    rw [Maps.atKey_put_other hne, Maps.has_put_other hne]
    exact h p hp
def links (d : List Int) (kn : Nat) : List Value := (List.range kn).map fun i => .int .i64 (prev d i)
theorem links_succ (d : List Int) (kn : Nat) : links d (kn + 1) = links d kn ++ [.int .i64 (prev d kn)] := by simp [links, List.range_succ]
theorem links_get {d : List Int} {kn i : Nat} (h : i < kn) : (links d kn)[i]? = some (.int .i64 (prev d i)) := by simp [links, h]
structure Fd (w : World) (g : Nat) (A : Option Addr) (n c : Nat) (d : List Int) (q : Option Nat) (k : Opt) (B : Nat) (E : Option Addr) (ec kn : Nat) : Prop where
  blk : w.heap[g]? = some (.cells #[.slice A n c, .int .i64 k.window, .int .i64 k.chain, .bool k.isLazy, .map (some B), .slice E kn ec, .int .i64 (kn : Nat)] 130 (0, 0))
  data : Sl w A (u8s d) q
  len : d.length = n
  nc : n ≤ c
  byte : Bytes d
  kle : kn ≤ n
  map : ∃ D : DataW U, w.ownsMap Try.prog 161 (plainElem Try.prog 3) B kn D ∧ MapOk d kn D
  own : w.ownsRow 0 3 1 (.slice E kn ec) kn (links d kn)
  qlt : ∀ y, q = some y → y < w.heap.size
  qne : q ≠ some g ∧ q ≠ some B ∧ (∀ y, q = some y → (Value.slice E kn ec).ownBlock ≠ some y)
section
variable {w w' : World} {g : Nat} {A : Option Addr} {n c : Nat} {d : List Int} {q : Option Nat} {k : Opt} {B : Nat} {E : Option Addr} {ec kn : Nat}
theorem Fd.lt (h : Fd w g A n c d q k B E ec kn) : g < w.heap.size ∧ B < w.heap.size := ⟨blk_lt h.blk, by obtain ⟨D, hD, _⟩ := h.map; exact hD.lt⟩
theorem Fd.map_blk (h : Fd w g A n c d q k B E ec kn) : ∃ es clock, w.heap[B]? = some (.map es clock) := by
  obtain ⟨D, hD, _⟩ := h.map
  obtain ⟨es, clock, hb, _⟩ := hD
  exact ⟨es, clock, hb⟩
theorem Fd.ne (h : Fd w g A n c d q k B E ec kn) : B ≠ g ∧ (Value.slice E kn ec).ownBlock ≠ some g ∧ (Value.slice E kn ec).ownBlock ≠ some B := by
  obtain ⟨es, clock, hb⟩ := h.map_blk
  refine ⟨?_, own_ne h.own h.blk (by decide), ?_⟩
  · rintro rfl
    have := h.blk
    rw [hb] at this
    cases this
  · intro e
    obtain ⟨cs, hcs⟩ := own_type h.own e
    rw [hb] at hcs
    cases hcs
theorem Fd.frame (h : Fd w g A n c d q k B E ec kn) (hf : Fr w w' []) : Fd w' g A n c d q k B E ec kn where
  blk := hf.blk h.blk (by simp)
  data := h.data.frame hf (by simp)
  len := h.len
  nc := h.nc
  byte := h.byte
  kle := h.kle
  map := by obtain ⟨D, hD, hM⟩ := h.map; exact ⟨D, hD.kept (hf.to_grown none (by simp)) (by simp), hM⟩
  own := own_frame h.own hf (by simp)
  qlt := fun y hy => Nat.lt_of_lt_of_le (h.qlt y hy) hf.size
  qne := h.qne
theorem Fd.cell (h : Fd w g A n c d q k B E ec kn) : w.cell? ⟨g, 0, none⟩ = some (.slice A n c) ∧ w.cell? ⟨g, 1, none⟩ = some (.int .i64 k.window) ∧ w.cell? ⟨g, 2, none⟩ = some (.int .i64 k.chain) ∧ w.cell? ⟨g, 3, none⟩ = some (.bool k.isLazy) ∧
    w.cell? ⟨g, 4, none⟩ = some (.map (some B)) ∧ w.cell? ⟨g, 5, none⟩ = some (.slice E kn ec) ∧ w.cell? ⟨g, 6, none⟩ = some (.int .i64 (kn : Nat)) :=
  ⟨blk_cell h.blk 0, blk_cell h.blk 1, blk_cell h.blk 2, blk_cell h.blk 3, blk_cell h.blk 4, blk_cell h.blk 5, blk_cell h.blk 6⟩
end
theorem u8s_at {d : List Int} {i : Nat} (h : i < d.length) : (u8s d)[i]? = some (.int .u8 (at0 d i)) := by
  rw [u8s_get]
  unfold at0
  rw [List.getElem?_eq_getElem h, List.getD_eq_getElem?_getD, List.getElem?_eq_getElem h]
  rfl
section
variable {w : World} {g : Nat} {A : Option Addr} {n c : Nat} {d : List Int} {q : Option Nat} {k : Opt} {B : Nat} {E : Option Addr} {ec kn : Nat}
theorem key_any (w : World) (g : Nat) (A : Option Addr) (n c : Nat) (d : List Int) (q : Option Nat) (i : Nat) (hi : i + 3 ≤ n) (hn : n ≤ 1099511627776) (c0 : w.cell? ⟨g, 0, none⟩ = some (.slice A n c)) (hD : Sl w A (u8s d) q) (hl : d.length = n) (hnc : n ≤ c) :
    Calls Try.prog 70 #[.pointer (some ⟨g, 0, none⟩), .int .i64 (i : Nat)] w fun e w' => e = .returned (kv d i) ∧ Fr w w' [] := by
  have hgl := World.block_lt_of_cell? w _ c0
  obtain ⟨b, off, rfl, rfl, hc⟩ := hD (by rw [u8s_length]; omega)
  have k0 := (hc i (by rw [u8s_length]; omega)).trans (u8s_at (by omega))
  have k1 := (hc (i + 1) (by rw [u8s_length]; omega)).trans (u8s_at (by omega))
  have k2 := (hc (i + 2) (by rw [u8s_length]; omega)).trans (u8s_at (by omega))
  obtain ⟨x0, h0⟩ : ∃ x, x = at0 d i := ⟨_, rfl⟩
  obtain ⟨x1, h1⟩ : ∃ x, x = at0 d (i + 1) := ⟨_, rfl⟩
  obtain ⟨x2, h2⟩ : ∃ x, x = at0 d (i + 2) := ⟨_, rfl⟩
  have HV : Hd (kv d i = .agg #[.int .u8 x0, .int .u8 x1, .int .u8 x2]) := ⟨by rw [h0, h1, h2]; rfl⟩
  rw [← h0] at k0
  rw [← h1] at k1
  rw [← h2] at k2
  have k1' : w.cell? ⟨b, off + i + 1, none⟩ = some (.int .u8 x1) := k1
  have k2' : w.cell? ⟨b, off + i + 2, none⟩ = some (.int .u8 x2) := k2
  have f := (Fr.refl w []).alloc (.cells #[.int .u8 0, .int .u8 0, .int .u8 0] 161)
  have hbl := World.block_lt_of_cell? w _ k0
  have hb := blk_new w (.cells #[.int .u8 0, .int .u8 0, .int .u8 0] 161)
  rw [HV.out]
  clear h0 h1 h2 hc hD k1 k2
  go_enter Try.func70, Try.ntmps70
  go_upto_region 1 with (fail)
  generalize hw2 : w.alloc (.cells #[.int .u8 0, .int .u8 0, .int .u8 0] 161) = w2
  rw [hw2] at hb f
  have e0 := (World.cell?_of_block (w := w) (f.block b hbl (by simp)) : w2.cell? ⟨b, off + i, none⟩ = _).trans k0
  have e1 := (World.cell?_of_block (w := w) (f.block b hbl (by simp)) : w2.cell? ⟨b, off + i + 1, none⟩ = _).trans k1'
  have e2 := (World.cell?_of_block (w := w) (f.block b hbl (by simp)) : w2.cell? ⟨b, off + i + 2, none⟩ = _).trans k2'
  have eg := (World.cell?_of_block (w := w) (f.block g hgl (by simp)) : w2.cell? ⟨g, 0, none⟩ = _).trans c0
  have n0 := blk_cell hb 0
  have n1 := blk_cell hb 1
  have n2 := blk_cell hb 2
  have z0 := blk_frozen hb 0
  have z1 := blk_frozen hb 1
  have z2 := blk_frozen hb 2
  simp only [List.getElem?_toArray, List.getElem?_cons_zero, List.getElem?_cons_succ] at n0 n1 n2
  have HF2 := Hd.mk f
  have HBK := Hd.mk hb
  clear hb f k0 k1' k2' c0 hw2
  have harr : ∀ W : World, (Instr.arrayAt 161 (.slice (some ⟨b, off + i, none⟩) 3 (c - i))).run Try.prog W = .ok (.pointer (some ⟨b, off + i, none⟩)) W := fun W => run_arrayAt W _ _ 3 _ _ _ Try.underlying161 (Nat.le_refl _)
  go_wp2
  have hb4 := blk_set (blk_set (blk_set HBK.out 0 (.int .u8 x0)) 1 (.int .u8 x1)) 2 (.int .u8 x2)
  have hf4 := ((HF2.out.setCell (a := ⟨w.heap.size, 0, none⟩) (.int .u8 x0) (.inr (Nat.le_refl _))).setCell (a := ⟨w.heap.size, 1, none⟩) (.int .u8 x1) (.inr (Nat.le_refl _))).setCell (a := ⟨w.heap.size, 2, none⟩) (.int .u8 x2) (.inr (Nat.le_refl _))
  generalize ((w2.setCell ⟨w.heap.size, 0, none⟩ (.int .u8 x0)).setCell ⟨w.heap.size, 1, none⟩ (.int .u8 x1)).setCell ⟨w.heap.size, 2, none⟩ (.int .u8 x2) = w4 at hb4 hf4 ⊢
  have m0 := blk_cell hb4 0
  have m1 := blk_cell hb4 1
  have m2 := blk_cell hb4 2
  simp only [List.setIfInBounds_toArray, List.getElem?_toArray, List.set_cons_zero, List.set_cons_succ, List.getElem?_cons_zero, List.getElem?_cons_succ] at m0 m1 m2
  exact bodyPost_ret (v := .agg #[.int .u8 x0, .int .u8 x1, .int .u8 x2]) (by simp [results, Try.results70, go_sem, m0, m1, m2]) rfl ⟨rfl, hf4⟩
theorem common_any (w : World) (ci at' : Nat) (hc : ci < at') (ha : at' ≤ n) (hn : n ≤ 1099511627776) (hF : Fd w g A n c d q k B E ec kn) :
    Calls Try.prog 55 #[.pointer (some ⟨g, 0, none⟩), .int .i64 (ci : Nat), .int .i64 (at' : Nat)] w fun e w' => e = .returned (.int .i64 (alike d ci at' : Nat)) ∧ Fr w w' [] := by
  have HF := Hd.mk hF
  have c0 := hF.cell.1
  have hl := hF.len
  have HD := Hd.mk hF.data
  clear hF
  go_enter Try.func55, Try.ntmps55
  go_wp2
  go_loopg [7] 258 (fun kq jv wr => ∃ (j nq : Nat), jv = .int .i64 (j : Nat) ∧ j + kq = 258 ∧ wr = w.drewN nq ∧ Hd (alike d ci at' = alikeF d ci at' (258 - j) j))
  case atStart => exact ⟨0, 0, rfl, rfl, rfl, ⟨rfl⟩⟩
  case round =>
    obtain ⟨j, nq0, rfl, hj, rfl, HA⟩ := hrel
    by_cases h1 : j < 258
    · have HA2 : Hd (alike d ci at' = if at' + j < d.length ∧ at0 d (ci + j) = at0 d (at' + j) then alikeF d ci at' (258 - (j + 1)) (j + 1) else j) := ⟨by
        rw [HA.out, show 258 - j = (258 - (j + 1)) + 1 from by omega]; rfl⟩
      clear HA
      have hd1i : decide ((j : Int) < 258) = true := decide_eq_true (by omega)
      by_cases h2 : at' + j < n
      · have hd2 : decide ((at' : Int) + (j : Int) < (n : Int)) = true := decide_eq_true (by omega)
        obtain ⟨b, off, e, _, hcc⟩ := HD.out (by rw [u8s_length]; omega)
        subst e
        have k0 := (hcc (ci + j) (by rw [u8s_length]; omega)).trans (u8s_at (by omega))
        have k1 := (hcc (at' + j) (by rw [u8s_length]; omega)).trans (u8s_at (by omega))
        obtain ⟨x0, h0⟩ : ∃ x, x = at0 d (ci + j) := ⟨_, rfl⟩
        obtain ⟨x1, h1'⟩ : ∃ x, x = at0 d (at' + j) := ⟨_, rfl⟩
        rw [← h0] at k0
        rw [← h1'] at k1
        have H0 := Hd.mk h0
        have H1 := Hd.mk h1'
        clear hcc h0 h1'
        by_cases h3 : x0 = x1
        · subst h3
          go_wp2
          go_quiet (fail)
          go_wp2
          go_roundg (gk - 1)
          case measure => omega
          case rel => exact ⟨j + 1, nq0 + nq, by go_num, by omega, by first | rfl | exact World.drewN_drewN _ _ _, ⟨by rw [HA2.out, if_pos ⟨by omega, by rw [← H0.out, ← H1.out]⟩]⟩⟩
        · have hbq : (x0 == x1) = false := by simpa using h3
          go_wp2
          go_quiet (fail)
          go_wp2
          go_ret
          refine ⟨?_, ((Fr.refl w []).drewN _).drewN _⟩
          rw [HA2.out, if_neg (fun h => h3 (by rw [H0.out, H1.out]; exact h.2))]
          rfl
      · have hd2 : decide ((at' : Int) + (j : Int) < (n : Int)) = false := decide_eq_false (by omega)
        go_wp2
        go_quiet (fail)
        go_wp2
        go_ret
        refine ⟨?_, ((Fr.refl w []).drewN _).drewN _⟩
        rw [HA2.out, if_neg (fun h => by omega)]
        rfl
    · obtain rfl : j = 258 := by omega
      go_wp2
      go_quiet (fail)
      go_wp2
      go_ret
      refine ⟨?_, ((Fr.refl w []).drewN _).drewN _⟩
      rw [HA.out]
      rfl
end
end Go.Proofs.Ytkdgfioigkijgaa.Lz
/- The finder's learn and best. Conditions: at most 2^40 bytes. -/
set_option linter.unusedVariables false
set_option linter.unusedSimpArgs false
set_option maxRecDepth 100000
namespace Go.Proofs.Ytkdgfioigkijgaa.Lz
open Go.RowKit Go.Maps Go.Proofs.Ytkdgfioigkijgaa.Lib Go.Proofs.Ytkdgfioigkijgaa.Num Go.Proofs.Ytkdgfioigkijgaa.Bits

theorem zeroI (w : World) : (zeroValue 3).run Try.prog w = .ok (.int .i64 0) w := by kernel_rfl
theorem wfI {a : Int} (h0 : -9223372036854775808 ≤ a) (h1 : a ≤ 9223372036854775807) : (Lit.int .i64 a).wf = true := WalkArith.wf_i64 ⟨h0, h1⟩
section
variable {w w' : World} {g : Nat} {A : Option Addr} {n c : Nat} {d : List Int} {q : Option Nat} {k : Opt} {B : Nat} {E : Option Addr} {ec kn : Nat}
/-- the map alone: its entries up to kn -/
def Mp (w : World) (B : Nat) (d : List Int) (kn : Nat) : Prop := ∃ D : DataW U, w.ownsMap Try.prog 161 (plainElem Try.prog 3) B kn D ∧ MapOk d kn D
theorem Mp.frame {w w' : World} {B : Nat} {d : List Int} {kn : Nat} (h : Mp w B d kn) {F : List Nat} (hf : Fr w w' F) (hB : B ∉ F) : Mp w' B d kn := by
  obtain ⟨D, hD, hM⟩ := h
  obtain ⟨es, clock, hb, r⟩ := hD
  exact ⟨D, ⟨es, clock, hf.blk hb hB, r⟩, hM⟩
/-- what 'm[key]' gives -/
theorem Mp.look {w : World} {B : Nat} {d : List Int} {kn : Nat} (h : Mp w B d kn) (hb : Bytes d) (hk : kn + 3 ≤ d.length) : ∃ x : Int, (Instr.lookup 128 (.map (some B)) (kv d kn) true).run Try.prog w = .ok (.tuple #[.int .i64 x, .bool (decide (0 ≤ prev d kn))]) w ∧ (0 ≤ prev d kn → x = prev d kn) := by
  obtain ⟨D, hD, hM⟩ := h
  have hkey := kv_lit hb (p := kn) (by omega)
  obtain ⟨v, ps, hrun, hv⟩ := hD.look_ok law3 Try.underlying128 (zeroI w) (plainElem_int Try.underlying3 (by decide)) hkey
  obtain ⟨x, rfl, hx, _⟩ := plainElem_int_inv Try.underlying3 hv
  simp only [Prod.mk.injEq] at hx
  obtain ⟨h1, h2⟩ := hM kn hk
  refine ⟨x, ?_, fun h0 => ?_⟩
  · rw [hrun]
    rw [show Maps.has D (kl d kn) = decide (0 ≤ prev d kn) from ?_]
    by_cases h0 : 0 ≤ prevF d kn kn
    · rw [(h1 h0).2]; exact (decide_eq_true h0).symm
    · rw [h2 (by omega)]; exact (decide_eq_false h0).symm
  · have := (h1 h0).1
    rw [hx.1] at this
    injection this with this
    injection this
/-- 'm[key] = place' -/
theorem Mp.upd {w : World} {B : Nat} {d : List Int} {kn : Nat} (h : Mp w B d kn) (hb : Bytes d) (hk : kn + 3 ≤ d.length) (hn : d.length ≤ 1099511627776) : ∃ w', (Instr.mapUpdate 128 (.map (some B)) (kv d kn) (.int .i64 (kn : Nat))).run Try.prog w = .ok () w' ∧ Mp w' B d (kn + 1) ∧ Fr w w' [B] := by
  obtain ⟨D, hD, hM⟩ := h
  obtain ⟨w', hrun, h1, h2⟩ := hD.update law3 Try.underlying128 (by unfold maxLen; omega) (kv_lit hb hk) (plainElem_int Try.underlying3 (wfI (a := (kn : Nat)) (by omega) (by omega)))
  exact ⟨w', hrun, ⟨_, h1, hM.put hb hk hD.isMap⟩, (Fr.refl w [B]).grown h2 (fun y hy => .inl (by cases hy; simp))⟩
set_option maxHeartbeats 8000000 in
theorem learn_any (w : World) (a : Int) (ha : a < n) (hn : n ≤ 1099511627776) (hF : Fd w g A n c d q k B E ec kn) :
    Calls Try.prog 54 #[.pointer (some ⟨g, 0, none⟩), .int .i64 a] w fun e w' => e = .returned (.tuple #[]) ∧ ∃ E' ec' kn', kn ≤ kn' ∧ (∀ i : Nat, (i : Int) ≤ a → i + 3 ≤ n → i < kn') ∧ Fd w' g A n c d q k B E' ec' kn' ∧ Aft w (Value.slice E kn ec).ownBlock (Value.slice E' kn' ec').ownBlock ∧ Fr w w' (g :: B :: (Value.slice E kn ec).ownBlock.toList) := by
  obtain ⟨j0, hj0, hj1, hj2, hj3⟩ := info_parts infoI
  have HF := Hd.mk hF
  have hl := hF.len
  have hnc := hF.nc
  have hkl := hF.kle
  have hby := Hd.mk hF.byte
  clear hF
  go_enter Try.func54, Try.ntmps54
  go_wp2
  go_loopg [4, 5] (n - kn) (fun kq u4 u5 wr => ∃ (E1 : Option Addr) (ec1 k1 : Nat), k1 + kq = n ∧ kn ≤ k1 ∧ Hd (Fd wr g A n c d q k B E1 ec1 k1) ∧ Hd (Aft w (Value.slice E kn ec).ownBlock (Value.slice E1 k1 ec1).ownBlock) ∧ Hd (Fr w wr (g :: B :: (Value.slice E kn ec).ownBlock.toList)))
  case atStart => exact ⟨E, ec, kn, by omega, Nat.le_refl _, HF, ⟨Aft.refl _ _⟩, ⟨Fr.refl _ _⟩⟩
  case round =>
    obtain ⟨E1, ec1, k1, hk1, hkk, HF1, HA1, HW1⟩ := hrel
    obtain ⟨c0, c1, c2, c3, c4, c5, c6⟩ := HF1.out.cell
    by_cases h1 : (k1 : Int) ≤ a
    · have hd1 : decide ((k1 : Int) ≤ a) = true := decide_eq_true h1
      by_cases h2 : k1 + 3 ≤ n
      · have hd2 : decide ((k1 : Int) + 3 ≤ (n : Int)) = true := decide_eq_true (by omega)
        go_wp2
        go_quiet (fail)
        have HF2 := Hd.mk (HF1.out.frame ((Fr.refl wr []).drewN nq))
        have HW2 := Hd.mk (HW1.out.drewN nq)
        have HA2 := HA1
        clear HF1 HW1 HA1 c0 c1 c2 c3 c4 c5 c6
        generalize wr.drewN nq = w1 at *
        obtain ⟨c0, c1, c2, c3, c4, c5, c6⟩ := HF2.out.cell
        obtain ⟨b, hb⟩ : ∃ b, b = decide (0 ≤ prev d k1) := ⟨_, rfl⟩
        have HBB := Hd.mk hb
        clear hb
        go_upto_region 2 with (fail)
        go_cut [4, 5] from 32 to 46 (fun s4 s5 wd => ∃ x : Int, s4 = .int .i64 x ∧ s5 = .bool b ∧ Hd (Fr w1 wd []) ∧ Hd (0 ≤ prev d k1 → x = prev d k1))
        case first =>
          have K1 := Hd.mk (key_any w1.drew g A n c d q k1 h2 hn c0 (by exact HF2.out.data) hl hnc)
          go_region_with (go_loud (go_at_call 70; (with_reducible refine (K1.out).mono ?_); rintro e w2 ⟨rfl, f1⟩; have F2 := Hd.mk (((Fr.refl w1 []).drew).trans f1 (by simp)); have HF3 := Hd.mk (HF2.out.frame F2.out); obtain ⟨e0, e1, e2, e3, e4, e5, e6⟩ := HF3.out.cell; obtain ⟨x, hlook, hx⟩ := Mp.look (show Mp w2 B d k1 from HF3.out.map) hby.out (by omega); rw [← HBB.out] at hlook; have HXX := Hd.mk hx; clear f1 hx))
          all_goals
            go_wp2
            go_meet
            exact ⟨x, rfl, rfl, F2, HXX⟩
        case rest =>
          obtain ⟨x, rfl, rfl, F2, HXX⟩ := hcut
          obtain ⟨pv, hpv⟩ : ∃ pv, pv = prev d k1 := ⟨_, rfl⟩
          have HPV := Hd.mk hpv
          have HFc := Hd.mk (HF2.out.frame F2.out)
          have HWc := Hd.mk (HW2.out.trans F2.out (by simp))
          clear hpv c0 c1 c2 c3 c4 c5 c6 HF2 HW2 F2
          go_upto_if 47 with (fail)
          go_cut [4] from 48 to 48 (fun s4 wd => s4 = .int .i64 pv ∧ wd = wc)
          case first =>
            cases b with
            | true =>
              have h0 : 0 ≤ prev d k1 := of_decide_eq_true HBB.out.symm
              obtain rfl : x = pv := by rw [HPV.out]; exact HXX.out h0
              go_wp2
              go_meet
              exact ⟨rfl, rfl⟩
            | false =>
              have h0 : ¬ 0 ≤ prev d k1 := of_decide_eq_false HBB.out.symm
              obtain rfl : pv = -1 := by rw [HPV.out]; have := prevF_lt d k1 k1; unfold prev at h0 ⊢; omega
              go_wp2
              go_meet
              exact ⟨rfl, rfl⟩
          case rest =>
            obtain ⟨rfl, rfl⟩ := hcut
            obtain ⟨wa, rfl⟩ : ∃ wa : World, wa = wc := ⟨_, rfl⟩
            obtain ⟨c0, c1, c2, c3, c4, c5, c6⟩ := HFc.out.cell
            have hgl := HFc.out.lt.1
            have hne := HFc.out.ne
            have hbw : Hd (wa.heap[g]? = some (.cells #[.slice A n c, .int .i64 k.window, .int .i64 k.chain, .bool k.isLazy, .map (some B), .slice E1 k1 ec1, .int .i64 (k1 : Nat)] 130 (0, 0))) := ⟨HFc.out.blk⟩
            go_upto_region 5 with (fail)
            go_cut [] from 48 to 58 (fun wd => ∃ E3 ec3, Hd (wd.heap[g]? = some (.cells #[.slice A n c, .int .i64 k.window, .int .i64 k.chain, .bool k.isLazy, .map (some B), .slice E3 (k1 + 1) ec3, .int .i64 (k1 : Nat)] 130 (0, 0))) ∧
              Hd (wd.ownsRow 0 3 1 (.slice E3 (k1 + 1) ec3) (k1 + 1) (links d (k1 + 1))) ∧ Hd (Aft wa (Value.slice E1 k1 ec1).ownBlock (Value.slice E3 (k1 + 1) ec3).ownBlock) ∧ Hd (Fr wa wd (g :: (Value.slice E1 k1 ec1).ownBlock.toList)))
            case first =>
              go_wp2_with (at_builtin; refine wpList_append_sl rfl (.tmp 52) (.tmp 54) 70 rfl 3 j0 (.int .i64 0) 1 8 Try.underlying70 hj0 hj1 hj2 hj3 rfl (by decide) (.slice E1 k1 ec1) k1 _ rfl (by exact HFc.out.own.alloc _) (some ⟨wa.heap.size, 0, none⟩) 1 1 [.int .i64 pv] (some wa.heap.size) rfl rfl (by exact sl_of_blk (blk_new _ _)) (by intro h; cases h) (by intro u hu; simp at hu; rcases hu with rfl; rfl) (by unfold maxLen; omega) (by omega) ?_; intro E3 ec3 w4 hown' hgrow haft; have O3 := Hd.mk hown'; have G3 := Hd.mk hgrow; have F3 := Hd.mk haft; have hb4 := blk_grown hgrow (blk_alloc hbw.out _) (fun e => hne.2.1 e.symm); have f0 := blk_frozen hb4 5; have e0 := blk_cell hb4 5; simp only [List.getElem?_toArray, List.getElem?_cons_zero, List.getElem?_cons_succ] at e0; have HB4 := Hd.mk hb4; clear hown' hgrow haft hb4)
              go_meet
              exact ⟨E3, ec3, ⟨by simpa using blk_set HB4.out 5 (.slice E3 (k1 + 1) ec3)⟩, ⟨own_setFar (by rw [links_succ, ← HPV.out]; exact O3.out) _ (own_ne O3.out HB4.out (by decide))⟩, ⟨by
                rcases F3.out with h | ⟨z, h, hz⟩
                · exact .inl h
                · exact .inr ⟨z, h, by simp at hz; omega⟩⟩, ⟨(((Fr.refl wa _).alloc _).grown G3.out (fun y hy => .inl (by simp [hy]))).setCell _ (.inl (by simp))⟩⟩
            case rest =>
              obtain ⟨E3, ec3, HB5, HO5, HA5, HF5⟩ := hcut
              obtain ⟨wb, rfl⟩ : ∃ wb : World, wb = wc := ⟨_, rfl⟩
              have hqn := HFc.out.qne
              have HD5 : Hd (Sl wb A (u8s d) q) := ⟨HFc.out.data.frame HF5.out (fun y hy hm => by
                rcases List.mem_cons.1 hm with e | e
                · exact hqn.1 (by rw [hy, e])
                · exact hqn.2.2 y hy (by simpa using e))⟩
              have HM5 : Hd (Mp wb B d k1) := ⟨Mp.frame (show Mp wa B d k1 from HFc.out.map) HF5.out (fun hm => by
                rcases List.mem_cons.1 hm with e | e
                · exact hne.1 e
                · exact hne.2.2 (by simpa using e))⟩
              have b0 := blk_cell HB5.out 0
              have b4 := blk_cell HB5.out 4
              have b6 := blk_cell HB5.out 6
              simp only [List.getElem?_toArray, List.getElem?_cons_zero, List.getElem?_cons_succ] at b0 b4 b6
              clear c0 c1 c2 c3 c4 c5 c6 hbw
              have K2 := Hd.mk (key_any wb.drew g A n c d q k1 h2 hn b0 (by exact HD5.out) hl hnc)
              go_wp2
              go_region_with (first | (go_at_call 70; (with_reducible refine (K2.out).mono ?_); rintro e w2 ⟨rfl, f1⟩; have F2 := Hd.mk (((Fr.refl wb []).drew).trans f1 (by simp)); have hb2 := F2.out.blk HB5.out (by simp); have e4 := blk_cell hb2 4; have e6 := blk_cell hb2 6; simp only [List.getElem?_toArray, List.getElem?_cons_zero, List.getElem?_cons_succ] at e4 e6; obtain ⟨w7, hupd, hm7, hf7⟩ := Mp.upd (HM5.out.frame F2.out (by simp)) hby.out (by omega) (by omega); have M7 := Hd.mk hm7; have F7 := Hd.mk ((F2.out.mono (G := [B]) (by simp)).trans hf7 (fun y hy hm => hm)); have hb7 := F7.out.blk HB5.out (by simp; exact fun e => hne.1 e.symm); have b6p := blk_cell hb7 6; have z6p := blk_frozen hb7 6; simp only [List.getElem?_toArray, List.getElem?_cons_zero, List.getElem?_cons_succ] at b6p; have HB7 := Hd.mk hb7; clear f1 hm7 hf7 hb2 hb7))
              all_goals
                go_wp2
                go_roundg (gk - 1)
                case measure => omega
                case rel =>
                  have hfr : Fr w (w7.setCell ⟨g, 6, none⟩ (.int .i64 ((k1 + 1 : Nat) : Int))) (g :: B :: (Value.slice E kn ec).ownBlock.toList) := by
                    refine (((HWc.out.trans HF5.out (fun y hy hm => ?_)).trans F7.out (fun y hy hm => ?_)).setCell _ (.inl (by simp)))
                    · rcases List.mem_cons.1 hm with e | e
                      · simp [e]
                      · rcases HA2.out.mem e with h | h
                        · simp [h]
                        · omega
                    · simp at hm; simp [hm]
                  have hqn := HFc.out.qne
                  have hat : Aft w (Value.slice E kn ec).ownBlock (Value.slice E3 (k1 + 1) ec3).ownBlock := HA2.out.trans HA5.out HWc.out.size
                  have hO7 := own_frame HO5.out F7.out (fun y hy hm => by
                    simp at hm
                    subst hm
                    rcases HA5.out with h | ⟨z, h, hz⟩
                    · rw [h] at hy; exact hne.2.2 hy
                    · rw [h] at hy; cases hy; have := HFc.out.lt.2; omega)
                  have hD7 := HD5.out.frame F7.out (fun y hy hm => by simp at hm; subst hm; exact hqn.2.1 hy)
                  refine ⟨E3, ec3, k1 + 1, by omega, by omega, ⟨⟨by simpa using blk_set HB7.out 6 (.int .i64 ((k1 + 1 : Nat) : Int)), hD7.frame ((Fr.refl _ [g]).setCell _ (.inl (by simp))) (fun y hy hm => by simp at hm; subst hm; exact hqn.1 hy), hl, hnc, hby.out, by omega, Mp.frame M7.out ((Fr.refl _ [g]).setCell _ (.inl (by simp))) (by simp; exact hne.1), own_setFar hO7 _ (own_ne hO7 HB7.out (by decide)), fun y hy => ?_, hqn.1, hqn.2.1, fun y hy hz => ?_⟩⟩, ⟨hat⟩, ⟨hfr⟩⟩
                  · have h1 := HFc.out.qlt y hy
                    have h2 := HF5.out.size
                    have h3 := F7.out.size
                    rw [World.size_setCell]
                    omega
                  · rcases HA5.out with h | ⟨z, h, hz'⟩
                    · rw [h] at hz; exact hqn.2.2 y hy hz
                    · rw [h] at hz; cases hz; have := HFc.out.qlt _ hy; omega
      · have hd2 : decide ((k1 : Int) + 3 ≤ (n : Int)) = false := decide_eq_false (by omega)
        go_wp2
        go_quiet (fail)
        go_wp2
        go_end0
        exact ⟨rfl, E1, ec1, k1, hkk, fun i h3 h4 => by omega, HF1.out.frame ((Fr.refl wr []).drewN nq), HA1.out, HW1.out.drewN nq⟩
    · have hd1 : decide ((k1 : Int) ≤ a) = false := decide_eq_false h1
      go_wp2
      go_quiet (fail)
      go_wp2
      go_end0
      exact ⟨rfl, E1, ec1, k1, hkk, fun i h3 h4 => by omega, HF1.out.frame ((Fr.refl wr []).drewN nq), HA1.out, HW1.out.drewN nq⟩
end
end Go.Proofs.Ytkdgfioigkijgaa.Lz
/- The finder's best, Best, Options, newFinder; the document's alike, Best, Options. Conditions: at most 2^40 bytes. -/
set_option linter.unusedVariables false
set_option linter.unusedSimpArgs false
set_option maxRecDepth 100000
namespace Go.Proofs.Ytkdgfioigkijgaa.Lz
open Go.RowKit Go.Maps Go.Proofs.Ytkdgfioigkijgaa.Lib Go.Proofs.Ytkdgfioigkijgaa.Num Go.Proofs.Ytkdgfioigkijgaa.Bits

section
variable {w w' : World} {g : Nat} {A : Option Addr} {n c : Nat} {d : List Int} {q : Option Nat} {k : Opt} {B : Nat} {E : Option Addr} {ec kn : Nat}
theorem optErr_ok {k : Opt} (h : optErr k = 0) : 1 ≤ k.window ∧ k.window ≤ 32768 ∧ 0 ≤ k.chain ∧ k.chain ≤ 4096 := by
  unfold optErr at h
  split at h
  · cases h
  · omega
set_option maxHeartbeats 4000000 in
theorem best_any (w : World) (p : Nat) (hp : p < n) (hn : n ≤ 1099511627776) (hk : optErr k = 0) (r : Nat × Nat) (hr : r = best d p k.window.toNat k.chain.toNat) (hF : Fd w g A n c d q k B E ec kn) :
    Calls Try.prog 36 #[.pointer (some ⟨g, 0, none⟩), .int .i64 (p : Nat)] w fun e w' => e = .returned (.tuple #[.int .i64 (r.1 : Nat), .int .i64 (r.2 : Nat)]) ∧ ∃ E' ec' kn', Fd w' g A n c d q k B E' ec' kn' ∧ Aft w (Value.slice E kn ec).ownBlock (Value.slice E' kn' ec').ownBlock ∧ Fr w w' (g :: B :: (Value.slice E kn ec).ownBlock.toList) := by
  obtain ⟨r1, r2⟩ := r
  simp only
  have HF := Hd.mk hF
  have HR := Hd.mk hr
  have hl := hF.len
  obtain ⟨c0, c1, c2, c3, c4, c5, c6⟩ := hF.cell
  clear hF hr
  by_cases h3 : n < p + 3
  · have hz := HR.out
    rw [best_short (by omega) (by omega)] at hz
    obtain ⟨rfl, rfl⟩ : r1 = 0 ∧ r2 = 0 := by simpa using hz
    clear hz
    go_enter Try.func36, Try.ntmps36
    go_wp2
    go_ret2
    exact ⟨rfl, E, ec, kn, HF.out, Aft.refl _ _, Fr.refl _ _⟩
  · have HR2 : Hd ((r1, r2) = chainF d p k.window.toNat k.chain.toNat (prev d p) 0 0) := ⟨by rw [HR.out, best_chain (by omega)]⟩
    obtain ⟨hw1, hw2, hc1, hc2⟩ := optErr_ok hk
    obtain ⟨W, hW⟩ : ∃ W : Nat, k.window = (W : Nat) := ⟨k.window.toNat, by omega⟩
    obtain ⟨C, hC⟩ : ∃ C : Nat, k.chain = (C : Nat) := ⟨k.chain.toNat, by omega⟩
    have HR3 : Hd ((r1, r2) = chainF d p W C (prev d p) 0 0) := ⟨by rw [HR2.out, hW, hC]; rfl⟩
    clear HR HR2
    have HW := Hd.mk hW
    have HC := Hd.mk hC
    have hWb : W ≤ 32768 := by omega
    have hCb : C ≤ 4096 := by omega
    clear hW hC
    go_enter Try.func36, Try.ntmps36
    go_wp2_with (fail)
    refine (learn_any w (p : Nat) (by omega) hn HF.out).mono ?_
    rintro e w1 ⟨rfl, E1, ec1, k1, _, hk1, hF1, hA1, hW1⟩
    have hpk := hk1 p (by omega) (by omega)
    have HF1 := Hd.mk hF1
    have HA1 := Hd.mk hA1
    have HW1 := Hd.mk hW1
    obtain ⟨c0, c1, c2, c3, c4, c5, c6⟩ := hF1.cell
    have hkl := hF1.kle
    obtain ⟨ga, d1, e1, hd1⟩ := own_some hF1.own (by omega)
    injection e1 with e1 _ e2
    subst e1 e2
    have hcp := (hF1.own.cellAt p (by omega)).trans (links_get hpk)
    rw [HW.out] at c1
    rw [HC.out] at c2
    obtain ⟨pv, hpv⟩ : ∃ pv, pv = prev d p := ⟨_, rfl⟩
    rw [← hpv] at hcp HR3
    have hpv1 := prevF_lt d p p
    have HPV := Hd.mk hpv
    have hpb : -1 ≤ pv ∧ pv < p ∧ (0 ≤ pv → same3 d pv.toNat p) := ⟨by rw [hpv]; exact hpv1.2, by rw [hpv]; exact hpv1.1, by rw [hpv]; exact prevF_hit⟩
    have HPB := Hd.mk hpb
    clear hk1 hF1 hA1 hW1 hpv hpv1 hpb
    go_wp2
    go_loopg [6, 7, 8, 33] C (fun kq nv sv cv iv wr => ∃ (i b s : Nat) (x : Int), nv = .int .i64 (b : Nat) ∧ sv = .int .i64 (s : Nat) ∧ cv = .int .i64 x ∧ iv = .int .i64 (i : Nat) ∧ i + kq = C ∧ -1 ≤ x ∧ x < p ∧ Hd ((r1, r2) = chainF d p W (C - i) x b s) ∧ Hd (Fr w1 wr []))
    case atStart => exact ⟨0, 0, 0, pv, rfl, rfl, rfl, rfl, by omega, HPB.out.1, HPB.out.2.1, HR3, ⟨Fr.refl _ _⟩⟩
    case round =>
      obtain ⟨i, b, s, x, rfl, rfl, rfl, rfl, hi, hx0, hx1, HR4, HG⟩ := hrel
      by_cases h4 : i < C
      · have HR5 : Hd ((r1, r2) = if x < 0 ∨ (W : Int) < p - x then (b, s) else if b < alike d x.toNat p then chainF d p W (C - (i + 1)) (prev d x.toNat) (alike d x.toNat p) ((p : Int) - x).toNat else chainF d p W (C - (i + 1)) (prev d x.toNat) b s) := ⟨by
          rw [HR4.out, show C - i = (C - (i + 1)) + 1 from by omega]; rfl⟩
        clear HR4
        by_cases h5 : x < 0
        · have hz := HR5.out
          rw [if_pos (.inl h5)] at hz
          obtain ⟨rfl, rfl⟩ : r1 = b ∧ r2 = s := by simpa using hz
          clear hz
          go_wp2
          go_ret2
          exact ⟨rfl, some ⟨ga, 0, none⟩, ec1, k1, HF1.out.frame HG.out, HA1.out, HW1.out.trans HG.out (by simp)⟩
        · obtain ⟨x, rfl⟩ := Int.eq_ofNat_of_zero_le (show 0 ≤ x by omega)
          have e1 := (World.cell?_of_block (w := w1) (HG.out.block g (World.block_lt_of_cell? w1 _ c1) (by simp)) : wr.cell? ⟨g, 1, none⟩ = _).trans c1
          by_cases h6 : (W : Int) < (p : Int) - (x : Int)
          · have hz := HR5.out
            rw [if_pos (.inr h6)] at hz
            obtain ⟨rfl, rfl⟩ : r1 = b ∧ r2 = s := by simpa using hz
            clear hz
            go_wp2
            go_ret2
            exact ⟨rfl, some ⟨ga, 0, none⟩, ec1, k1, HF1.out.frame HG.out, HA1.out, HW1.out.trans HG.out (by simp)⟩
          · obtain ⟨m, hm⟩ : ∃ m, m = alike d x p := ⟨_, rfl⟩
            have hmb : m ≤ 258 := by rw [hm]; exact alike_le d x p
            have HR6 : Hd ((r1, r2) = if b < m then chainF d p W (C - (i + 1)) (prev d x) m (p - x) else chainF d p W (C - (i + 1)) (prev d x) b s) := ⟨by
              have := HR5.out
              rw [if_neg (by omega), Int.toNat_natCast, ← hm, show ((p : Int) - (x : Int)).toNat = p - x from by omega] at this
              exact this⟩
            have HMM := Hd.mk hm
            clear hm HR5
            obtain ⟨pv2, hpv2⟩ : ∃ pv2, pv2 = prev d x := ⟨_, rfl⟩
            rw [← hpv2] at HR6
            have hpv3 := prevF_lt d x x
            have hpb2 : -1 ≤ pv2 ∧ pv2 < p := by rw [hpv2]; unfold prev; omega
            have hcx := (HF1.out.own.cellAt x (by omega)).trans (links_get (show x < k1 by omega))
            rw [← hpv2] at hcx
            clear hpv2 hpv3
            go_wp2_with (fail)
            refine (common_any wr x p (by omega) (by omega) hn (HF1.out.frame HG.out)).mono ?_
            rintro e w3 ⟨rfl, h3g⟩
            rw [← HMM.out]
            have HG3 := Hd.mk (HG.out.trans h3g (by simp))
            clear h3g e1
            have e5 := (World.cell?_of_block (w := w1) (HG3.out.block g (World.block_lt_of_cell? w1 _ c5) (by simp)) : w3.cell? ⟨g, 5, none⟩ = _).trans c5
            have ex := (World.cell?_of_block (w := w1) (HG3.out.block ga (World.block_lt_of_cell? w1 _ hcx) (by simp)) : w3.cell? ⟨ga, x, none⟩ = _).trans hcx
            have hxk : x < k1 := by omega
            have hsub : (p : Int) - (x : Int) = ((p - x : Nat) : Int) := by omega
            by_cases h7 : b < m
            · go_wp2
              go_roundg (gk - 1)
              case measure => omega
              case rel => exact ⟨i + 1, m, p - x, pv2, rfl, by go_num, rfl, by go_num, by omega, hpb2.1, hpb2.2, ⟨by have := HR6.out; rwa [if_pos h7] at this⟩, HG3⟩
            · go_wp2
              go_roundg (gk - 1)
              case measure => omega
              case rel => exact ⟨i + 1, b, s, pv2, rfl, rfl, rfl, by go_num, by omega, hpb2.1, hpb2.2, ⟨by have := HR6.out; rwa [if_neg h7] at this⟩, HG3⟩
      · obtain rfl : i = C := by omega
        have hz := HR4.out
        rw [Nat.sub_self] at hz
        obtain ⟨rfl, rfl⟩ : r1 = b ∧ r2 = s := by simpa [chainF] using hz
        clear hz
        go_wp2
        go_ret2
        exact ⟨rfl, some ⟨ga, 0, none⟩, ec1, k1, HF1.out.frame HG.out, HA1.out, HW1.out.trans HG.out (by simp)⟩
end
end Go.Proofs.Ytkdgfioigkijgaa.Lz
/- newFinder, Best, Options; the document's alike, Best, Options. Conditions: at most 2^40 bytes. -/
set_option linter.unusedVariables false
set_option linter.unusedSimpArgs false
set_option maxRecDepth 100000
namespace Go.Proofs.Ytkdgfioigkijgaa.Lz
open Go.RowKit Go.Maps Go.Proofs.Ytkdgfioigkijgaa.Lib Go.Proofs.Ytkdgfioigkijgaa.Num Go.Proofs.Ytkdgfioigkijgaa.Bits

theorem opt_any (w : World) (k : Opt) (er : Int) (he : er = optErr k) : Calls Try.prog 21 #[.agg #[.int .i64 k.window, .int .i64 k.chain, .bool k.isLazy]] w fun e w' => e = .returned (.int .i64 er) ∧ Fr w w' [] := by
  obtain ⟨a, b, z⟩ := k
  simp only
  by_cases h : a < 1
  · obtain rfl : er = 72 := by rw [he]; unfold optErr; exact if_pos (.inl h)
    go_enter Try.func21, Try.ntmps21
    go_wp2
    go_ret
    exact ⟨rfl, (Fr.refl _ _).alloc _⟩
  have g0 := h
  clear h
  by_cases h : 32768 < a
  · obtain rfl : er = 72 := by rw [he]; unfold optErr; exact if_pos (.inr (.inl h))
    go_enter Try.func21, Try.ntmps21
    go_wp2
    go_ret
    exact ⟨rfl, (Fr.refl _ _).alloc _⟩
  have g1 := h
  clear h
  by_cases h : b < 0
  · obtain rfl : er = 72 := by rw [he]; unfold optErr; exact if_pos (.inr (.inr (.inl h)))
    go_enter Try.func21, Try.ntmps21
    go_wp2
    go_ret
    exact ⟨rfl, (Fr.refl _ _).alloc _⟩
  have g2 := h
  clear h
  by_cases h : 4096 < b
  · obtain rfl : er = 72 := by rw [he]; unfold optErr; exact if_pos (.inr (.inr (.inr h)))
    go_enter Try.func21, Try.ntmps21
    go_wp2
    go_ret
    exact ⟨rfl, (Fr.refl _ _).alloc _⟩
  have g3 := h
  clear h
  obtain rfl : er = 0 := by rw [he]; unfold optErr; exact if_neg (by simp only; omega)
  go_enter Try.func21, Try.ntmps21
  go_wp2
  go_ret
  exact ⟨rfl, (Fr.refl _ _).alloc _⟩

theorem new_any (w : World) (A : Option Addr) (n c : Nat) (d : List Int) (q : Option Nat) (k : Opt) (hS : SlArg w A n c (u8s d) q) (hb : Bytes d) :
    Calls Try.prog 35 #[.slice A n c, .agg #[.int .i64 k.window, .int .i64 k.chain, .bool k.isLazy]] w fun e w' => ∃ g B, e = .returned (.pointer (some ⟨g, 0, none⟩)) ∧ Fd w' g A n c d q k B none 0 0 ∧ w.heap.size ≤ g ∧ w.heap.size ≤ B ∧ Fr w w' [] := by
  have hmm := @run_makeMap Try.prog
  have HS := Hd.mk hS
  have hl : d.length = n := by have := hS.len; simpa [u8s] using this
  have HBy := Hd.mk hb
  clear hS hb
  go_enter Try.func35, Try.ntmps35
  go_wp2
  go_ret
  obtain ⟨w1, hw1⟩ : ∃ w1, w1 = w.alloc (.cells #[.int .i64 k.window, .int .i64 k.chain, .bool k.isLazy] 26) := ⟨_, rfl⟩
  rw [← hw1]
  have s1 : w1.heap.size = w.heap.size + 1 := by rw [hw1]; simp
  have f1 : Fr w w1 [] := hw1 ▸ (Fr.refl w []).alloc _
  obtain ⟨w2, hw2⟩ : ∃ w2, w2 = w1.alloc (.map #[] 0) := ⟨_, rfl⟩
  rw [← hw2]
  have s2 : w2.heap.size = w.heap.size + 1 + 1 := by rw [hw2]; simp [s1]
  have f2 : Fr w w2 [] := hw2 ▸ f1.alloc _
  have hm : w2.ownsMap (H := U) Try.prog 161 (plainElem Try.prog 3) (w.heap.size + 1) 0 (.map []) := by rw [← s1, hw2]; exact World.ownsMap_made _ _ _ _
  have hb := blk_new w2 (.cells #[.slice A n c, .int .i64 k.window, .int .i64 k.chain, .bool k.isLazy, .map (some (w.heap.size + 1)), .slice none 0 0, .int .i64 0] 130)
  have f3 := f2.alloc (.cells #[.slice A n c, .int .i64 k.window, .int .i64 k.chain, .bool k.isLazy, .map (some (w.heap.size + 1)), .slice none 0 0, .int .i64 0] 130)
  rw [s2] at hb
  refine ⟨w.heap.size + 1 + 1, w.heap.size + 1, rfl, ⟨hb, HS.out.sl.frame f3 (by simp), hl, HS.out.le, HBy.out, Nat.zero_le _, ⟨.map [], hm.alloc _, MapOk.zero d⟩, own_nil _ _ _ _, fun y hy => Nat.lt_of_lt_of_le (HS.out.lt y hy) f3.size, fun e => ?_, fun e => ?_, fun y hy h => by cases h⟩, by omega, by omega, f3⟩
  · have := HS.out.lt _ e; omega
  · have := HS.out.lt _ e; omega
theorem optErr_two (k : Opt) : optErr k = 0 ∨ optErr k = 72 := by unfold optErr; split; exact .inr rfl; exact .inl rfl
end Go.Proofs.Ytkdgfioigkijgaa.Lz
/- The document's Parse. Conditions: at most 2^20 bytes. -/
set_option linter.unusedVariables false
set_option linter.unusedSimpArgs false
set_option maxRecDepth 100000
namespace Go.Proofs.Ytkdgfioigkijgaa.Lz
open Go.RowKit Go.Maps Go.Proofs.Ytkdgfioigkijgaa.Lib Go.Proofs.Ytkdgfioigkijgaa.Num Go.Proofs.Ytkdgfioigkijgaa.Bits

theorem infoTok : (Try.prog.info? 48).map (fun i => (i.zero, i.size, i.bytes)) = some (some (.agg #[.int .u8 0, .int .i64 0, .int .i64 0]), 3, 24) := by kernel_rfl
theorem tokOwn_new {wo w : World} {q q' : Option Nat} (hB : ∀ x, q = some x → wo.heap.size ≤ x) (hs : wo.heap.size ≤ w.heap.size) {o : Obj} (h : Aft (w.alloc o) q q') : ∀ y, q' = some y → wo.heap.size ≤ y := by
  intro y hy
  rcases h with e | ⟨z, e, hz⟩
  · rw [e] at hy; exact hB y hy
  · rw [e] at hy; cases hy; simp at hz; omega
end Go.Proofs.Ytkdgfioigkijgaa.Lz
/- The program's Parse. Conditions: at most 2^20 bytes. -/
set_option linter.unusedVariables false
set_option linter.unusedSimpArgs false
set_option maxRecDepth 100000
namespace Go.Proofs.Ytkdgfioigkijgaa.Lz
open Go.RowKit Go.Maps Go.Proofs.Ytkdgfioigkijgaa.Lib Go.Proofs.Ytkdgfioigkijgaa.Num Go.Proofs.Ytkdgfioigkijgaa.Bits

section
variable {w w' : World} {g : Nat} {A : Option Addr} {n c : Nat} {d : List Int} {q : Option Nat} {k : Opt} {B : Nat} {E : Option Addr} {ec kn : Nat}
theorem Fd.frame2 (h : Fd w g A n c d q k B E ec kn) {F : List Nat} (hf : Fr w w' F) (hF : ∀ y ∈ F, y ≠ g ∧ y ≠ B ∧ (Value.slice E kn ec).ownBlock ≠ some y ∧ q ≠ some y) : Fd w' g A n c d q k B E ec kn where
  blk := hf.blk h.blk (fun hm => (hF _ hm).1 rfl)
  data := h.data.frame hf (fun y hy hm => (hF _ hm).2.2.2 hy)
  len := h.len
  nc := h.nc
  byte := h.byte
  kle := h.kle
  map := Mp.frame (show Mp w B d kn from h.map) hf (fun hm => (hF _ hm).2.1 rfl)
  own := own_frame h.own hf (fun y hy hm => (hF _ hm).2.2.1 hy)
  qlt := fun y hy => Nat.lt_of_lt_of_le (h.qlt y hy) hf.size
  qne := h.qne
/-- a list of tokens lies apart from the finder -/
theorem Fd.apart (h : Fd w g A n c d q k B E ec kn) {v : Value} {m : Nat} {xs : List Value} (ho : w.ownsRow 0 48 3 v m xs) {y : Nat} (hy : v.ownBlock = some y) : y ≠ g ∧ y ≠ B ∧ (Value.slice E kn ec).ownBlock ≠ some y := by
  obtain ⟨cs, hcs⟩ := own_type ho hy
  refine ⟨?_, ?_, ?_⟩
  · exact blk_ne hcs h.blk (by decide)
  · rintro rfl
    obtain ⟨es, clock, hb⟩ := h.map_blk
    rw [hb] at hcs
    cases hcs
  · intro e
    obtain ⟨ds, hds⟩ := own_type h.own e
    exact blk_ne hcs hds (by decide) rfl
/-- where Parse stands -/
structure St (w wr : World) (kb g : Nat) (A : Option Addr) (n c : Nat) (d : List Int) (q : Option Nat) (k : Opt) (B : Nat) (E : Option Addr) (ec kn : Nat) (A1 : Option Addr) (m d1 : Nat) (P : List Tok) : Prop where
  own : wr.ownsRow 0 48 3 (.slice A1 m d1) m (tcells P)
  new : ∀ y, (Value.slice A1 m d1).ownBlock = some y → w.heap.size ≤ y
  fr : Fr w wr []
  opt : wr.heap[kb]? = some (.cells #[.int .i64 k.window, .int .i64 k.chain, .bool k.isLazy] 26 (0, 0))
  fd : Fd wr g A n c d q k B E ec kn
  rnew : ∀ y, (Value.slice E kn ec).ownBlock = some y → w.heap.size ≤ y
theorem St.best {wr w3 : World} {kb : Nat} {A1 : Option Addr} {m d1 : Nat} {P : List Tok} {E' : Option Addr} {ec' kn' : Nat} (h : St w wr kb g A n c d q k B E ec kn A1 m d1 P) (hg : w.heap.size ≤ g) (hB : w.heap.size ≤ B) (hgk : kb ≠ g ∧ kb ≠ B)
    (h1 : Fd w3 g A n c d q k B E' ec' kn') (h2 : Aft wr (Value.slice E kn ec).ownBlock (Value.slice E' kn' ec').ownBlock) (h3 : Fr wr w3 (g :: B :: (Value.slice E kn ec).ownBlock.toList)) : St w w3 kb g A n c d q k B E' ec' kn' A1 m d1 P where
  own := own_frame h.own h3 (fun y hy hm => by
    obtain ⟨n1, n2, n3⟩ := h.fd.apart h.own hy
    simp only [List.mem_cons, Option.mem_toList, Option.mem_def] at hm
    rcases hm with e | e | e
    · exact n1 e
    · exact n2 e
    · exact n3 e)
  new := h.new
  fr := h.fr.trans h3 (fun y hy hm => by
    simp only [List.mem_cons, Option.mem_toList, Option.mem_def] at hm
    rcases hm with e | e | e
    · omega
    · omega
    · have := h.rnew y e; omega)
  opt := h3.blk h.opt (fun hm => by
    simp only [List.mem_cons, Option.mem_toList, Option.mem_def] at hm
    rcases hm with e | e | e
    · exact hgk.1 e
    · exact hgk.2 e
    · obtain ⟨cs, hcs⟩ := own_type h.fd.own e
      exact blk_ne hcs h.opt (by decide) rfl)
  fd := h1
  rnew := fun y hy => by
    rcases h2 with e | ⟨z, e, hz⟩
    · rw [e] at hy; exact h.rnew y hy
    · rw [e] at hy; cases hy; exact Nat.le_trans h.fr.size hz
theorem St.push {wr w6 : World} {kb : Nat} {A1 A3 : Option Addr} {m d1 d3 : Nat} {P : List Tok} {t : Tok} {cs : Array Value} {ty : TypeId} (h : St w wr kb g A n c d q k B E ec kn A1 m d1 P) (hq : ∀ y, q = some y → y < w.heap.size) (hkb : kb < w.heap.size + 1)
    (h1 : w6.ownsRow 0 48 3 (.slice A3 (m + 1) d3) (m + 1) (tcells P ++ tcell t)) (h2 : (wr.alloc (.cells cs ty)).grownBy w6 (Value.slice A1 m d1).ownBlock) (h3 : Aft (wr.alloc (.cells cs ty)) (Value.slice A1 m d1).ownBlock (Value.slice A3 (m + 1) d3).ownBlock) : St w w6 kb g A n c d q k B E ec kn A3 (m + 1) d3 (P ++ [t]) := by
  have hfr : Fr wr w6 (Value.slice A1 m d1).ownBlock.toList := ((Fr.refl wr _).alloc _).grown h2 (fun y hy => .inl (by simp [hy]))
  refine ⟨by rw [tcells_app]; simpa [tcells] using h1, tokOwn_new h.new h.fr.size h3, ?_, hfr.blk h.opt (fun hm => ?_), h.fd.frame2 hfr (fun y hy => ?_), h.rnew⟩
  · exact h.fr.trans hfr (fun y hy hm => by have := h.new y (by simpa using hm); omega)
  · have hm' : (Value.slice A1 m d1).ownBlock = some kb := by simpa using hm
    obtain ⟨ds, hds⟩ := own_type h.own hm'
    exact blk_ne hds h.opt (by decide) rfl
  · have hy' : (Value.slice A1 m d1).ownBlock = some y := by simpa using hy
    obtain ⟨n1, n2, n3⟩ := h.fd.apart h.own hy'
    exact ⟨n1, n2, n3, fun e => by have := hq y e; have := h.new y hy'; omega⟩
end
set_option maxHeartbeats 8000000 in
theorem parse_any (w : World) (A : Option Addr) (n c : Nat) (d : List Int) (q : Option Nat) (k : Opt) (hS : SlArg w A n c (u8s d) q) (hby : Bytes d) (hn : n ≤ 1048576) (er : Int) (ts : List Tok) (her : er = optErr k) (hts : ts = parse d k) :
    Calls Try.prog 24 #[.slice A n c, .agg #[.int .i64 k.window, .int .i64 k.chain, .bool k.isLazy]] w fun e w' => ∃ A' m dd, e = .returned (.tuple #[.slice A' m dd, .int .i64 er]) ∧
      w'.ownsRow 0 48 3 (.slice A' m dd) m (tcells ts) ∧ (∀ y, (Value.slice A' m dd).ownBlock = some y → w.heap.size ≤ y) ∧ Fr w w' [] := by
  obtain ⟨i0, hi0, hz0, hz1, hz2⟩ := info_parts infoTok
  have HS := Hd.mk hS
  have hl : d.length = n := by have := hS.len; simpa [u8s] using this
  have HE := Hd.mk her
  have HT := Hd.mk hts
  have HBy := Hd.mk hby
  have her2 : er = 0 ∨ er = 72 := her ▸ optErr_two k
  clear hS her hts hby
  go_enter Try.func24, Try.ntmps24
  go_wp2_with (fail)
  refine (opt_any _ k er HE.out).mono ?_
  rintro e w1 ⟨rfl, h1⟩
  have hbk := h1.blk (blk_new w (.cells #[.int .i64 k.window, .int .i64 k.chain, .bool k.isLazy] 26)) (by simp)
  have F1 := Hd.mk (((Fr.refl w []).alloc (.cells #[.int .i64 k.window, .int .i64 k.chain, .bool k.isLazy] 26)).trans h1 (by simp))
  obtain ⟨kb, hkb⟩ : ∃ kb, kb = w.heap.size := ⟨_, rfl⟩
  have hkbw : kb = w.heap.size := hkb
  rw [← hkb] at hbk ⊢
  have b0 := blk_cell hbk 0
  have b1 := blk_cell hbk 1
  have b2 := blk_cell hbk 2
  simp only [List.getElem?_toArray, List.getElem?_cons_zero, List.getElem?_cons_succ] at b0 b1 b2
  have HKB := Hd.mk hbk
  have HKW := Hd.mk hkbw
  clear h1 hbk hkb hkbw
  rcases her2 with rfl | rfl
  · have HX : Hd (ts = parseF d k n 0) := ⟨by rw [HT.out]; unfold parse; rw [if_pos HE.out.symm, hl]⟩
    have hzb : kb < w1.heap.size := blk_lt HKB.out
    go_wp2_with (fail)
    refine (new_any w1 A n c d q k (HS.out.frame F1.out (by simp)) HBy.out).mono ?_
    rintro e w2 ⟨g, B, rfl, hf, hg, hB, h2⟩
    have HF2 := Hd.mk hf
    have F2 := Hd.mk (F1.out.trans h2 (by simp))
    have HKB2 := Hd.mk (h2.blk HKB.out (by simp))
    have hg1 : w.heap.size ≤ g := Nat.le_trans F1.out.size hg
    have hB1 : w.heap.size ≤ B := Nat.le_trans F1.out.size hB
    have hgk : kb ≠ g ∧ kb ≠ B := by omega
    have hkb1 : kb < w.heap.size + 1 := by have := HKW.out; omega
    clear hf h2 b0 b1 b2
    go_wp2
    have HQ : Hd (∀ y, q = some y → y < w.heap.size) := ⟨HS.out.lt⟩
    have HST0 : Hd (St w w2 kb g A n c d q k B none 0 0 none 0 0 []) := ⟨⟨own_nil _ _ _ _, (by intro y hy; cases hy), F2.out, HKB2.out, HF2.out, (by intro y hy; cases hy)⟩⟩
    go_loopg [7, 9] n (fun kq sv pv wr => ∃ (p : Nat) (A1 : Option Addr) (m d1 : Nat) (P : List Tok) (E : Option Addr) (ec kn : Nat), sv = .slice A1 m d1 ∧ pv = .int .i64 (p : Nat) ∧ p + kq = n ∧ m ≤ p ∧ Hd (ts = P ++ parseF d k n p) ∧ Hd (St w wr kb g A n c d q k B E ec kn A1 m d1 P))
    case atStart => exact ⟨0, none, 0, 0, [], none, 0, 0, rfl, rfl, by omega, by omega, HX, HST0⟩
    case round =>
      obtain ⟨p, A1, m, d1, P, E, ec, kn, rfl, rfl, hp, hmp, HP, HSt⟩ := hrel
      by_cases h1 : p < n
      · obtain ⟨r1, hr1⟩ : ∃ r1, r1 = (best d p k.window.toNat k.chain.toNat).1 := ⟨_, rfl⟩
        obtain ⟨r2, hr2⟩ : ∃ r2, r2 = (best d p k.window.toNat k.chain.toNat).2 := ⟨_, rfl⟩
        have hgood := best_good (d := d) (p := p) (w := k.window.toNat) (ch := k.chain.toNat) (by omega)
        have hrb : r1 ≤ 258 ∧ (r1 ≠ 0 → p + r1 ≤ n) := by
          rw [hr1]
          rcases hgood with h | h
          · omega
          · omega
        have HR1 := Hd.mk hr1
        have HR2 := Hd.mk hr2
        obtain ⟨tk, htk⟩ : ∃ tk, tk = taken d k p := ⟨_, rfl⟩
        have HTK := Hd.mk htk
        have htk0 : tk = 0 ∨ tk = r1 := by rw [htk, hr1]; exact taken_good (by omega)
        have HSTP : Hd (parseF d k n p = tokAt d k p :: parseF d k n (p + stepAt d k p)) := ⟨parseF_step (by omega) (by omega)⟩
        clear hr1 hr2 hgood htk
        go_wp2_with (fail)
        refine (best_any wr p h1 (by omega) HE.out.symm (r1, r2) (by rw [HR1.out, HR2.out]) HSt.out.fd).mono ?_
        rintro e w3 ⟨rfl, E3, ec3, kn3, q1, q2, q3⟩
        have HSt3 := Hd.mk (HSt.out.best hg1 hB1 hgk q1 q2 q3)
        clear q1 q2 q3
        have hkb := HSt3.out.opt
        have b2 := blk_cell hkb 2
        simp only [List.getElem?_toArray, List.getElem?_cons_zero, List.getElem?_cons_succ] at b2
        clear hkb
        obtain ⟨lz, hlz⟩ : ∃ lz, lz = k.isLazy := ⟨_, rfl⟩
        rw [← hlz] at b2
        have HLZ := Hd.mk hlz
        clear hlz
        obtain ⟨bt, hbt⟩ : ∃ bt, bt = (decide (0 < r1) && (lz && decide (p + 1 < n))) := ⟨_, rfl⟩
        have HBT := Hd.mk hbt
        clear hbt
        go_upto_region 9 with (fail)
        go_cut [45] from 33 to 46 (fun s44 wd => s44 = .bool bt ∧ wd = w3)
        case first =>
          by_cases h2 : 0 < r1
          · cases lz with
            | true =>
              by_cases h3 : p + 1 < n
              · obtain rfl : bt = true := by rw [HBT.out, decide_eq_true h2, decide_eq_true h3]; rfl
                go_wp2
                go_meet
                exact ⟨by rw [show decide ((p : Int) + 1 < (n : Int)) = true from decide_eq_true (by omega)], rfl⟩
              · obtain rfl : bt = false := by rw [HBT.out, decide_eq_false h3]; simp
                go_wp2
                go_meet
                exact ⟨by rw [show decide ((p : Int) + 1 < (n : Int)) = false from decide_eq_false (by omega)], rfl⟩
            | false =>
              obtain rfl : bt = false := by rw [HBT.out]; simp
              go_wp2
              go_meet
              exact ⟨rfl, rfl⟩
          · obtain rfl : bt = false := by rw [HBT.out, decide_eq_false h2]; rfl
            obtain rfl : r1 = 0 := by omega
            go_wp2
            go_meet
            exact ⟨rfl, rfl⟩
        case rest =>
          obtain ⟨rfl, rfl⟩ := hcut
          obtain ⟨wa, rfl⟩ : ∃ wa : World, wa = wc := ⟨_, rfl⟩
          clear b2
          go_upto_if 45 with (fail)
          go_cut [10] from 46 to 56 (fun s9 wd => ∃ E5 ec5 kn5, s9 = .int .i64 (tk : Nat) ∧ Hd (St w wd kb g A n c d q k B E5 ec5 kn5 A1 m d1 P))
          case first =>
            cases bt with
            | false =>
              obtain rfl : tk = r1 := by
                rw [HTK.out]
                unfold taken
                rw [if_neg]
                · exact HR1.out.symm
                · intro h
                  have := HBT.out
                  rw [← HR1.out, ← HLZ.out, hl] at h
                  rw [decide_eq_true h.1, h.2.1, decide_eq_true h.2.2.1] at this
                  cases this
              go_wp2
              go_meet
              exact ⟨E3, ec3, kn3, rfl, HSt3⟩
            | true =>
              have hbt := HBT.out
              simp only [Bool.true_eq, Bool.and_eq_true, decide_eq_true_eq] at hbt
              obtain ⟨hb1, hb2, hb3⟩ := hbt
              obtain ⟨s1, hs1⟩ : ∃ s1, s1 = (best d (p + 1) k.window.toNat k.chain.toNat).1 := ⟨_, rfl⟩
              obtain ⟨s2, hs2⟩ : ∃ s2, s2 = (best d (p + 1) k.window.toNat k.chain.toNat).2 := ⟨_, rfl⟩
              have hsg : s1 ≤ 258 := by
                have hgood := best_good (d := d) (p := p + 1) (w := k.window.toNat) (ch := k.chain.toNat) (by omega)
                rw [hs1]
                rcases hgood with h | h
                · omega
                · omega
              have HTK2 : Hd (tk = if r1 < s1 then 0 else r1) := ⟨by
                rw [HTK.out]
                unfold taken
                rw [← HR1.out, ← HLZ.out, hl, ← hs1]
                by_cases e : r1 < s1
                · rw [if_pos e, if_pos ⟨hb1, hb2, hb3, e⟩]
                · rw [if_neg e, if_neg (fun h => e h.2.2.2)]⟩
              have HS1 := Hd.mk hs1
              have HS2 := Hd.mk hs2
              clear hs1 hs2
              go_wp2_with (fail)
              refine (best_any wa (p + 1) hb3 (by omega) HE.out.symm (s1, s2) (by rw [HS1.out, HS2.out]) HSt3.out.fd).mono ?_
              rintro e w4 ⟨rfl, E4, ec4, kn4, q1, q2, q3⟩
              have HSt4 := Hd.mk (HSt3.out.best hg1 hB1 hgk q1 q2 q3)
              clear q1 q2 q3
              by_cases h5 : r1 < s1
              · obtain rfl : tk = 0 := by rw [HTK2.out, if_pos h5]
                go_wp2
                go_meet
                exact ⟨E4, ec4, kn4, rfl, HSt4⟩
              · obtain rfl : tk = r1 := by rw [HTK2.out, if_neg h5]
                go_wp2
                go_meet
                exact ⟨E4, ec4, kn4, rfl, HSt4⟩
          case rest =>
            obtain ⟨E5, ec5, kn5, rfl, HSt5⟩ := hcut
            by_cases h6 : tk = 0
            · subst h6
              have HTA : Hd (tokAt d k p = ⟨at0 d p, 0, 0⟩ ∧ stepAt d k p = 1) := ⟨by unfold tokAt stepAt; rw [← HTK.out]; exact ⟨rfl, rfl⟩⟩
              obtain ⟨b, off, e1, _, hcc⟩ := HSt5.out.fd.data (by rw [u8s_length]; omega)
              subst e1
              have kc := (hcc p (by rw [u8s_length]; omega)).trans (u8s_at (by omega))
              obtain ⟨x, hx⟩ : ∃ x, x = at0 d p := ⟨_, rfl⟩
              rw [← hx] at kc
              have HXX := Hd.mk hx
              clear hcc hx
              go_wp2_with (at_builtin; refine wpList_append_sl rfl (.tmp 58) (.tmp 64) 45 rfl 48 i0 (.agg #[.int .u8 0, .int .i64 0, .int .i64 0]) 3 24 Try.underlying45 hi0 hz0 hz1 hz2 rfl (by decide) (.slice A1 m d1) m _ rfl (by exact HSt5.out.own.alloc _) (some ⟨wc.heap.size, 0, none⟩) 1 1 [.int .u8 x, .int .i64 0, .int .i64 0] (some wc.heap.size) rfl rfl (by exact sl_of_blk (blk_new _ _)) (by intro h; cases h) (by intro u hu; simp at hu; rcases hu with rfl | rfl | rfl <;> rfl) (by unfold maxLen; omega) (by omega) ?_; intro A3 d3 w6 hown' hgrow haft; have O3 := Hd.mk hown'; have G3 := Hd.mk hgrow; have F3 := Hd.mk haft; clear hown' hgrow haft)
              go_roundg (gk - 1)
              case measure => omega
              case rel =>
                exact ⟨p + 1, A3, m + 1, d3, P ++ [⟨x, 0, 0⟩], E5, ec5, kn5, rfl, by go_num, by omega, by omega, ⟨by rw [HP.out, HSTP.out, HTA.out.1, HTA.out.2, HXX.out, List.append_assoc]; rfl⟩, ⟨HSt5.out.push (t := ⟨x, 0, 0⟩) HQ.out hkb1 O3.out G3.out F3.out⟩⟩
            · obtain rfl : tk = r1 := by omega
              have e6 : ((tk : Int) == 0) = false := by simp; omega
              have HTA : Hd (tokAt d k p = ⟨0, tk, r2⟩ ∧ stepAt d k p = tk) := ⟨by unfold tokAt stepAt; rw [← HTK.out, if_neg h6, if_neg h6, ← HR2.out]; exact ⟨rfl, rfl⟩⟩
              go_wp2_with (at_builtin; refine wpList_append_sl rfl (.tmp 68) (.tmp 72) 45 rfl 48 i0 (.agg #[.int .u8 0, .int .i64 0, .int .i64 0]) 3 24 Try.underlying45 hi0 hz0 hz1 hz2 rfl (by decide) (.slice A1 m d1) m _ rfl (by exact HSt5.out.own.alloc _) (some ⟨wc.heap.size, 0, none⟩) 1 1 [.int .u8 0, .int .i64 (tk : Nat), .int .i64 (r2 : Nat)] (some wc.heap.size) rfl rfl (by exact sl_of_blk (blk_new _ _)) (by intro h; cases h) (by intro u hu; simp at hu; rcases hu with rfl | rfl | rfl <;> rfl) (by unfold maxLen; omega) (by omega) ?_; intro A3 d3 w6 hown' hgrow haft; have O3 := Hd.mk hown'; have G3 := Hd.mk hgrow; have F3 := Hd.mk haft; clear hown' hgrow haft)
              go_roundg (gk - tk)
              case measure => omega
              case rel =>
                exact ⟨p + tk, A3, m + 1, d3, P ++ [⟨0, tk, r2⟩], E5, ec5, kn5, rfl, by go_num, by omega, by omega, ⟨by rw [HP.out, HSTP.out, HTA.out.1, HTA.out.2, List.append_assoc]; rfl⟩, ⟨HSt5.out.push (t := ⟨0, tk, r2⟩) HQ.out hkb1 O3.out G3.out F3.out⟩⟩
      · obtain rfl : p = n := by omega
        have hpp : Hd (ts = P) := ⟨by rw [HP.out, parseF_end (by omega), List.append_nil]⟩
        go_wp2
        go_ret2
        exact ⟨A1, m, d1, rfl, by rw [hpp.out]; exact HSt.out.own, HSt.out.new, HSt.out.fr⟩
  · obtain rfl : ts = [] := by rw [HT.out]; unfold parse; rw [if_neg (by rw [← HE.out]; simp)]
    go_wp2
    go_ret2
    exact ⟨none, 0, 0, rfl, own_nil _ _ _ _, (by intro j hj; cases hj), F1.out⟩
end Go.Proofs.Ytkdgfioigkijgaa.Lz
