/- The finder (chapter 07): what it holds; key, common. Conditions: at most 2^40 bytes. -/
import Derived.Test.YtbfdokklhdmmoaaLzTok
import Derived.Maps.Own
import Derived.Maps.OwnOps
import Derived.Maps.OwnSet
import Derived.Maps.Views
import Derived.DeepKeys4
import Derived.Laws.Cover3
set_option linter.unusedVariables false
set_option linter.unusedSimpArgs false
set_option maxRecDepth 100000
namespace Go.Proofs.Ytbfdokklhdmmoaa.Lz
open Go.RowKit Go.Maps Go.Proofs.Ytbfdokklhdmmoaa.Lib Go.Proofs.Ytbfdokklhdmmoaa.Num Go.Proofs.Ytbfdokklhdmmoaa.Bits

theorem laidOutP : laidOutB Try.prog = true := by kernel_rfl
theorem row3 : 96 < Try.prog.types.size := of_decide_eq_true (by kernel_rfl)
theorem wide3 : (match Try.prog.underlying 96 with | some (.array _ _) | some (.struct _) => true | _ => false) = true := by kernel_rfl
theorem law3 : Keyed Try.prog 96 := Keyed.of_law (deep_law_laid laidOutP (m := 2) (by omega) row3 (by kernel_rfl) wide3)
theorem infoI : (Try.prog.info? 3).map (fun i => (i.zero, i.size, i.bytes)) = some (some (.int .i64 0), 1, 8) := by kernel_rfl
def key3 (a b c : Int) : Value := .agg #[.int .u8 a, .int .u8 b, .int .u8 c]
theorem key3_lit (a b c : Int) (ha : 0 ≤ a ∧ a ≤ 255) (hb : 0 ≤ b ∧ b ≤ 255) (hc : 0 ≤ c ∧ c ≤ 255) : keyOf Try.prog 96 (key3 a b c) = some (.string (keyBytes [.int .u8 a, .int .u8 b, .int .u8 c])) := by
  obtain ⟨m, hm⟩ : ∃ m, Try.prog.types.size = m + 1 := ⟨Try.prog.types.size - 1, by have := row3; omega⟩
  have hc3 : Try.prog.cellsOf 96 = 3 := by kernel_rfl
  have hc1 : Try.prog.cellsOf 5 = 1 := by kernel_rfl
  have hk : Try.prog.keyType 96 = true := by kernel_rfl
  have w1 : (Lit.int .u8 a).wf = true := WalkArith.wf_u8 ha
  have w2 : (Lit.int .u8 b).wf = true := WalkArith.wf_u8 hb
  have w3 : (Lit.int .u8 c).wf = true := WalkArith.wf_u8 hc
  have hf : (key3 a b c).formed Try.prog 96 = true := by
    unfold key3 Value.formed
    rw [Try.underlying96]
    simp [hc3]
  have one : ∀ x : Int, (Lit.int .u8 x).wf = true → Try.prog.keyLits (m + 1) 5 [.int .u8 x] = some [.int .u8 x] := by
    intro x hx
    unfold Program.keyLits
    rw [Try.underlying5]
    simp [hx]
  have all : Try.prog.keyLits (m + 1 + 1) 96 [.int .u8 a, .int .u8 b, .int .u8 c] = some [.int .u8 a, .int .u8 b, .int .u8 c] := by
    unfold Program.keyLits
    rw [Try.underlying96]
    simp [hc3, hc1, List.range, List.range.loop, one a w1, one b w2, one c w3]
  unfold keyOf
  rw [Try.underlying96]
  simp only [hk, hf, Bool.and_self, if_true, hm]
  have e : (key3 a b c).cells.toList = [.int .u8 a, .int .u8 b, .int .u8 c] := rfl
  rw [e, all]
  rfl
abbrev U := Unit
def kl (d : List Int) (p : Nat) : Lit := .string (keyBytes [.int .u8 (at0 d p), .int .u8 (at0 d (p + 1)), .int .u8 (at0 d (p + 2))])
def kv (d : List Int) (p : Nat) : Value := key3 (at0 d p) (at0 d (p + 1)) (at0 d (p + 2))
def Bytes (d : List Int) : Prop := ∀ x ∈ d, 0 ≤ x ∧ x ≤ 255
theorem at0_byte {d : List Int} (h : Bytes d) {i : Nat} (hi : i < d.length) : 0 ≤ at0 d i ∧ at0 d i ≤ 255 := by
  unfold at0
  rw [List.getD_eq_getElem?_getD, List.getElem?_eq_getElem hi]
  exact h _ (List.getElem_mem hi)
theorem kv_lit {d : List Int} (h : Bytes d) {p : Nat} (hp : p + 3 ≤ d.length) : keyOf Try.prog 96 (kv d p) = some (kl d p) :=
  key3_lit _ _ _ (at0_byte h (by omega)) (at0_byte h (by omega)) (at0_byte h (by omega))
theorem kl_same {d : List Int} {p q : Nat} (h : same3 d p q) : kl d p = kl d q := by unfold kl; rw [h.1, h.2.1, h.2.2]
theorem kl_ne {d : List Int} (hb : Bytes d) {p q : Nat} (hp : p + 3 ≤ d.length) (hq : q + 3 ≤ d.length) (h : ¬ same3 d p q) : kl d p ≠ kl d q := by
  intro e
  have h1 := kv_lit hb hp
  have h2 := kv_lit hb hq
  rw [← e] at h2
  have := law3.inj h1 h2
  unfold kv key3 at this
  simp only [Value.agg.injEq, Array.mk.injEq, List.cons.injEq, Value.int.injEq, true_and, and_true] at this
  exact h ⟨this.1, this.2.1, this.2.2⟩
/-- what the map says of the places up to kn -/
def MapOk (d : List Int) (kn : Nat) (D : DataW U) : Prop := ∀ p, p + 3 ≤ d.length →
  (0 ≤ prevF d p kn → D.atKey (kl d p) (.lit (.int .i64 0)) = .lit (.int .i64 (prevF d p kn)) ∧ Maps.has D (kl d p) = true) ∧ (prevF d p kn < 0 → Maps.has D (kl d p) = false)
theorem MapOk.zero (d : List Int) : MapOk d 0 (.map []) := fun p _ => ⟨fun h => by simp [prevF] at h, fun _ => rfl⟩
theorem MapOk.put {d : List Int} {kn : Nat} {D : DataW U} (h : MapOk d kn D) (hb : Bytes d) (hk : kn + 3 ≤ d.length) (hD : Maps.IsMap D) : MapOk d (kn + 1) (D.put (kl d kn) (.lit (.int .i64 (kn : Nat)))) := by
  intro p hp
  have hkey : WideAt.IsKeyLit (kl d kn) := law3.key (kv_lit hb hk)
  simp only [prevF]
  by_cases hs : same3 d kn p
  · rw [if_pos hs, ← kl_same hs]
    exact ⟨fun _ => ⟨Maps.atKey_put_same hD hkey _ _, Maps.has_put_same hD hkey _⟩, fun h => by omega⟩
  · rw [if_neg hs]
    have hne : kl d p ≠ kl d kn := (kl_ne hb hk hp hs).symm
    rw [Maps.atKey_put_other hne, Maps.has_put_other hne]
    exact h p hp
def links (d : List Int) (kn : Nat) : List Value := (List.range kn).map fun i => .int .i64 (prev d i)
theorem links_succ (d : List Int) (kn : Nat) : links d (kn + 1) = links d kn ++ [.int .i64 (prev d kn)] := by simp [links, List.range_succ]
theorem links_get {d : List Int} {kn i : Nat} (h : i < kn) : (links d kn)[i]? = some (.int .i64 (prev d i)) := by simp [links, h]
theorem links_one (d : List Int) (kn : Nat) : ∀ u ∈ links d kn, u.oneCell' = true := by intro u hu; simp only [links, List.mem_map] at hu; obtain ⟨_, _, rfl⟩ := hu; rfl
structure Fd (w : World) (g : Nat) (A : Option Addr) (n c : Nat) (d : List Int) (q : Option Nat) (k : Opt) (B : Nat) (E : Option Addr) (ec kn : Nat) : Prop where
  blk : w.heap[g]? = some (.cells #[.slice A n c, .int .i64 k.window, .int .i64 k.chain, .bool k.isLazy, .map (some B), .slice E kn ec, .int .i64 (kn : Nat)] 92 (0, 0))
  data : Sl w A (u8s d) q
  len : d.length = n
  nc : n ≤ c
  byte : Bytes d
  kle : kn ≤ n
  map : ∃ D : DataW U, w.ownsMap Try.prog 96 (plainElem Try.prog 3) B kn D ∧ MapOk d kn D
  own : w.ownsRow 0 3 1 (.slice E kn ec) kn (links d kn)
  qlt : ∀ y, q = some y → y < w.heap.size
  qne : q ≠ some g ∧ q ≠ some B ∧ (∀ y, q = some y → (Value.slice E kn ec).ownBlock ≠ some y)
section
variable {w w' : World} {g : Nat} {A : Option Addr} {n c : Nat} {d : List Int} {q : Option Nat} {k : Opt} {B : Nat} {E : Option Addr} {ec kn : Nat}
theorem Fd.lt (h : Fd w g A n c d q k B E ec kn) : g < w.heap.size ∧ B < w.heap.size := ⟨blk_lt h.blk, by obtain ⟨D, hD, _⟩ := h.map; exact hD.lt⟩
theorem Fd.map_blk (h : Fd w g A n c d q k B E ec kn) : ∃ es clock, w.heap[B]? = some (.map es clock) := by
  obtain ⟨D, hD, _⟩ := h.map
  obtain ⟨es, clock, hb, _⟩ := hD
  exact ⟨es, clock, hb⟩
theorem Fd.ne (h : Fd w g A n c d q k B E ec kn) : B ≠ g ∧ (Value.slice E kn ec).ownBlock ≠ some g ∧ (Value.slice E kn ec).ownBlock ≠ some B := by
  obtain ⟨es, clock, hb⟩ := h.map_blk
  refine ⟨?_, own_ne h.own h.blk (by decide), ?_⟩
  · rintro rfl
    have := h.blk
    rw [hb] at this
    cases this
  · intro e
    obtain ⟨cs, hcs⟩ := own_type h.own e
    rw [hb] at hcs
    cases hcs
theorem Fd.frame (h : Fd w g A n c d q k B E ec kn) (hf : Fr w w' []) : Fd w' g A n c d q k B E ec kn where
  blk := hf.blk h.blk (by simp)
  data := h.data.frame hf (by simp)
  len := h.len
  nc := h.nc
  byte := h.byte
  kle := h.kle
  map := by obtain ⟨D, hD, hM⟩ := h.map; exact ⟨D, hD.kept (hf.to_grown none (by simp)) (by simp), hM⟩
  own := own_frame h.own hf (by simp)
  qlt := fun y hy => Nat.lt_of_lt_of_le (h.qlt y hy) hf.size
  qne := h.qne
theorem Fd.cell (h : Fd w g A n c d q k B E ec kn) : w.cell? ⟨g, 0, none⟩ = some (.slice A n c) ∧ w.cell? ⟨g, 1, none⟩ = some (.int .i64 k.window) ∧ w.cell? ⟨g, 2, none⟩ = some (.int .i64 k.chain) ∧ w.cell? ⟨g, 3, none⟩ = some (.bool k.isLazy) ∧
    w.cell? ⟨g, 4, none⟩ = some (.map (some B)) ∧ w.cell? ⟨g, 5, none⟩ = some (.slice E kn ec) ∧ w.cell? ⟨g, 6, none⟩ = some (.int .i64 (kn : Nat)) :=
  ⟨blk_cell h.blk 0, blk_cell h.blk 1, blk_cell h.blk 2, blk_cell h.blk 3, blk_cell h.blk 4, blk_cell h.blk 5, blk_cell h.blk 6⟩
end
theorem u8s_at {d : List Int} {i : Nat} (h : i < d.length) : (u8s d)[i]? = some (.int .u8 (at0 d i)) := by
  rw [u8s_get]
  unfold at0
  rw [List.getElem?_eq_getElem h, List.getD_eq_getElem?_getD, List.getElem?_eq_getElem h]
  rfl
section
variable {w : World} {g : Nat} {A : Option Addr} {n c : Nat} {d : List Int} {q : Option Nat} {k : Opt} {B : Nat} {E : Option Addr} {ec kn : Nat}
theorem key_any (w : World) (g : Nat) (A : Option Addr) (n c : Nat) (d : List Int) (q : Option Nat) (i : Nat) (hi : i + 3 ≤ n) (hn : n ≤ 1099511627776) (c0 : w.cell? ⟨g, 0, none⟩ = some (.slice A n c)) (hD : Sl w A (u8s d) q) (hl : d.length = n) (hnc : n ≤ c) :
    Calls Try.prog 49 #[.pointer (some ⟨g, 0, none⟩), .int .i64 (i : Nat)] w fun e w' => e = .returned (kv d i) ∧ Fr w w' [] := by
  have hgl := World.block_lt_of_cell? w _ c0
  obtain ⟨b, off, rfl, rfl, hc⟩ := hD (by rw [u8s_length]; omega)
  have k0 := (hc i (by rw [u8s_length]; omega)).trans (u8s_at (by omega))
  have k1 := (hc (i + 1) (by rw [u8s_length]; omega)).trans (u8s_at (by omega))
  have k2 := (hc (i + 2) (by rw [u8s_length]; omega)).trans (u8s_at (by omega))
  obtain ⟨x0, h0⟩ : ∃ x, x = at0 d i := ⟨_, rfl⟩
  obtain ⟨x1, h1⟩ : ∃ x, x = at0 d (i + 1) := ⟨_, rfl⟩
  obtain ⟨x2, h2⟩ : ∃ x, x = at0 d (i + 2) := ⟨_, rfl⟩
  have HV : Hd (kv d i = .agg #[.int .u8 x0, .int .u8 x1, .int .u8 x2]) := ⟨by rw [h0, h1, h2]; rfl⟩
  rw [← h0] at k0
  rw [← h1] at k1
  rw [← h2] at k2
  have k1' : w.cell? ⟨b, off + i + 1, none⟩ = some (.int .u8 x1) := k1
  have k2' : w.cell? ⟨b, off + i + 2, none⟩ = some (.int .u8 x2) := k2
  have f := (Fr.refl w []).alloc (.cells #[.int .u8 0, .int .u8 0, .int .u8 0] 96)
  have hbl := World.block_lt_of_cell? w _ k0
  have hb := blk_new w (.cells #[.int .u8 0, .int .u8 0, .int .u8 0] 96)
  rw [HV.out]
  clear h0 h1 h2 hc hD k1 k2
  go_enter Try.func49, Try.ntmps49
  go_upto_region 1 with (fail)
  generalize hw2 : w.alloc (.cells #[.int .u8 0, .int .u8 0, .int .u8 0] 96) = w2
  rw [hw2] at hb f
  have e0 := (World.cell?_of_block (w := w) (f.block b hbl (by simp)) : w2.cell? ⟨b, off + i, none⟩ = _).trans k0
  have e1 := (World.cell?_of_block (w := w) (f.block b hbl (by simp)) : w2.cell? ⟨b, off + i + 1, none⟩ = _).trans k1'
  have e2 := (World.cell?_of_block (w := w) (f.block b hbl (by simp)) : w2.cell? ⟨b, off + i + 2, none⟩ = _).trans k2'
  have eg := (World.cell?_of_block (w := w) (f.block g hgl (by simp)) : w2.cell? ⟨g, 0, none⟩ = _).trans c0
  have n0 := blk_cell hb 0
  have n1 := blk_cell hb 1
  have n2 := blk_cell hb 2
  have z0 := blk_frozen hb 0
  have z1 := blk_frozen hb 1
  have z2 := blk_frozen hb 2
  simp only [List.getElem?_toArray, List.getElem?_cons_zero, List.getElem?_cons_succ] at n0 n1 n2
  have HF2 := Hd.mk f
  have HBK := Hd.mk hb
  clear hb f k0 k1' k2' c0 hw2
  have harr : ∀ W : World, (Instr.arrayAt 96 (.slice (some ⟨b, off + i, none⟩) 3 (c - i))).run Try.prog W = .ok (.pointer (some ⟨b, off + i, none⟩)) W := fun W => run_arrayAt W _ _ 3 _ _ _ Try.underlying96 (Nat.le_refl _)
  go_wp2
  have hb4 := blk_set (blk_set (blk_set HBK.out 0 (.int .u8 x0)) 1 (.int .u8 x1)) 2 (.int .u8 x2)
  have hf4 := ((HF2.out.setCell (a := ⟨w.heap.size, 0, none⟩) (.int .u8 x0) (.inr (Nat.le_refl _))).setCell (a := ⟨w.heap.size, 1, none⟩) (.int .u8 x1) (.inr (Nat.le_refl _))).setCell (a := ⟨w.heap.size, 2, none⟩) (.int .u8 x2) (.inr (Nat.le_refl _))
  generalize ((w2.setCell ⟨w.heap.size, 0, none⟩ (.int .u8 x0)).setCell ⟨w.heap.size, 1, none⟩ (.int .u8 x1)).setCell ⟨w.heap.size, 2, none⟩ (.int .u8 x2) = w4 at hb4 hf4 ⊢
  have m0 := blk_cell hb4 0
  have m1 := blk_cell hb4 1
  have m2 := blk_cell hb4 2
  simp only [List.setIfInBounds_toArray, List.getElem?_toArray, List.set_cons_zero, List.set_cons_succ, List.getElem?_cons_zero, List.getElem?_cons_succ] at m0 m1 m2
  exact bodyPost_ret (v := .agg #[.int .u8 x0, .int .u8 x1, .int .u8 x2]) (by simp [results, Try.results49, go_sem, m0, m1, m2]) rfl ⟨rfl, hf4⟩
theorem common_any (w : World) (ci at' : Nat) (hc : ci < at') (ha : at' ≤ n) (hn : n ≤ 1099511627776) (hF : Fd w g A n c d q k B E ec kn) :
    Calls Try.prog 48 #[.pointer (some ⟨g, 0, none⟩), .int .i64 (ci : Nat), .int .i64 (at' : Nat)] w fun e w' => e = .returned (.int .i64 (alike d ci at' : Nat)) ∧ Fr w w' [] := by
  have HF := Hd.mk hF
  have c0 := hF.cell.1
  have hl := hF.len
  have HD := Hd.mk hF.data
  clear hF
  go_enter Try.func48, Try.ntmps48
  go_wp2
  go_loopg [7] 258 (fun kq jv wr => ∃ (j nq : Nat), jv = .int .i64 (j : Nat) ∧ j + kq = 258 ∧ wr = w.drewN nq ∧ Hd (alike d ci at' = alikeF d ci at' (258 - j) j))
  case atStart => exact ⟨0, 0, rfl, rfl, rfl, ⟨rfl⟩⟩
  case round =>
    obtain ⟨j, nq0, rfl, hj, rfl, HA⟩ := hrel
    by_cases h1 : j < 258
    · have HA2 : Hd (alike d ci at' = if at' + j < d.length ∧ at0 d (ci + j) = at0 d (at' + j) then alikeF d ci at' (258 - (j + 1)) (j + 1) else j) := ⟨by
        rw [HA.out, show 258 - j = (258 - (j + 1)) + 1 from by omega]; rfl⟩
      clear HA
      have hd1i : decide ((j : Int) < 258) = true := decide_eq_true (by omega)
      by_cases h2 : at' + j < n
      · have hd2 : decide ((at' : Int) + (j : Int) < (n : Int)) = true := decide_eq_true (by omega)
        obtain ⟨b, off, e, _, hcc⟩ := HD.out (by rw [u8s_length]; omega)
        subst e
        have k0 := (hcc (ci + j) (by rw [u8s_length]; omega)).trans (u8s_at (by omega))
        have k1 := (hcc (at' + j) (by rw [u8s_length]; omega)).trans (u8s_at (by omega))
        obtain ⟨x0, h0⟩ : ∃ x, x = at0 d (ci + j) := ⟨_, rfl⟩
        obtain ⟨x1, h1'⟩ : ∃ x, x = at0 d (at' + j) := ⟨_, rfl⟩
        rw [← h0] at k0
        rw [← h1'] at k1
        have H0 := Hd.mk h0
        have H1 := Hd.mk h1'
        clear hcc h0 h1'
        by_cases h3 : x0 = x1
        · subst h3
          go_wp2
          go_quiet (fail)
          go_wp2
          go_roundg (gk - 1)
          case measure => omega
          case rel => exact ⟨j + 1, nq0 + nq, by go_num, by omega, by first | rfl | exact World.drewN_drewN _ _ _, ⟨by rw [HA2.out, if_pos ⟨by omega, by rw [← H0.out, ← H1.out]⟩]⟩⟩
        · have hbq : (x0 == x1) = false := by simpa using h3
          go_wp2
          go_quiet (fail)
          go_wp2
          go_ret
          refine ⟨?_, ((Fr.refl w []).drewN _).drewN _⟩
          rw [HA2.out, if_neg (fun h => h3 (by rw [H0.out, H1.out]; exact h.2))]
          rfl
      · have hd2 : decide ((at' : Int) + (j : Int) < (n : Int)) = false := decide_eq_false (by omega)
        go_wp2
        go_quiet (fail)
        go_wp2
        go_ret
        refine ⟨?_, ((Fr.refl w []).drewN _).drewN _⟩
        rw [HA2.out, if_neg (fun h => by omega)]
        rfl
    · obtain rfl : j = 258 := by omega
      go_wp2
      go_quiet (fail)
      go_wp2
      go_ret
      refine ⟨?_, ((Fr.refl w []).drewN _).drewN _⟩
      rw [HA.out]
      rfl
end
end Go.Proofs.Ytbfdokklhdmmoaa.Lz
