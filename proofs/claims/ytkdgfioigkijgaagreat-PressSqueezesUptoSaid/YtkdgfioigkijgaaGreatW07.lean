import Derived.Test.YtkdgfioigkijgaaGreatW01
import Derived.Test.YtkdgfioigkijgaaGreatW04
import Derived.Test.YtkdgfioigkijgaaGreatW05
import Derived.Test.YtkdgfioigkijgaaGreatW06
import Derived.BigRegion
import Derived.BigQuiet
import Derived.Deep.QuietTactic
import Derived.Deep.LoopGhost
import Derived.Deep.DeepCutAuto
import Derived.KernelRfl
import Derived.Deep.RegionLaw
import Derived.Outline
import Derived.Laws.BytesArg
import Derived.Laws.BytesString
import Derived.Laws.Strings
import Derived.Lib.SlBytesConst
set_option linter.unusedVariables false
set_option linter.unusedSimpArgs false
set_option maxRecDepth 100000
namespace Go.Proofs.YtkdgfioigkijgaaGreat.Blk
open Go.RowKit Go.Proofs.YtkdgfioigkijgaaGreat.Lib Go.Proofs.YtkdgfioigkijgaaGreat.Ints Go.Proofs.YtkdgfioigkijgaaGreat.Lz
def sgA (t : Tok) : Int × Int × Int := if t.len = 0 then (t.lit, 0, 0) else ((symN lenT 257 3 258 t.len).1, (symN lenT 257 3 258 t.len).2.2.1, (symN lenT 257 3 258 t.len).2.1)
def sgB (t : Tok) : Int × Int × Int := if t.len = 0 then (0, 0, 0) else ((symN distT 0 1 32768 t.dist).1, (symN distT 0 1 32768 t.dist).2.2.1, (symN distT 0 1 32768 t.dist).2.1)
def sgV (x : Int × Int × Int) : Value := .agg #[.int .i64 x.1, .int .i64 x.2.1, .int .i64 x.2.2]
theorem signInfo : (Tryz.prog.info? 269).map (·.size) = some 3 := by kernel_rfl
theorem results_cct {fn : Func} {p q r : Tmp} (h : fn.results = #[.cell p 269, .cell q 269, .tmp r]) (tmps : Array Value) (w : World) (g k : Nat) (cs ds : Array Value)
    (hp : tmps.getD p undef = .pointer (some ⟨g, 0, none⟩)) (hg : w.heap[g]? = some (.cells cs 269 (0, 0))) (hq : tmps.getD q undef = .pointer (some ⟨k, 0, none⟩)) (hk : w.heap[k]? = some (.cells ds 269 (0, 0)))
    (hc : cs.size = 3) (hd : ds.size = 3) :
    (results fn tmps).run Tryz.prog w = .ok (.tuple #[.agg cs, .agg ds, tmps.getD r undef]) w := by
  have hp' : tmps[p]?.getD undef = .pointer (some ⟨g, 0, none⟩) := by simpa using hp
  have hq' : tmps[q]?.getD undef = .pointer (some ⟨k, 0, none⟩) := by simpa using hq
  simp [results, h, hp', hq', asAddr, run_loadVar_row w g 269 269 cs _ _ hg Tryz.underlying269 rfl (by rw [hc]; exact signInfo), run_loadVar_row w k 269 269 ds _ _ hk Tryz.underlying269 rfl (by rw [hd]; exact signInfo)]
set_option maxHeartbeats 2000000 in
theorem signs_any (w : World) (t : Tok) (hl : 0 ≤ t.lit ∧ t.lit ≤ 255) : Calls Tryz.prog 161 #[.agg #[.int .u8 t.lit, .int .i64 t.len, .int .i64 t.dist]] w fun e w' => e = .returned (.tuple #[sgV (sgA t), sgV (sgB t), .bool (decide (t.len ≠ 0))]) ∧ Fr w w' [] := by
  obtain ⟨a, b, c⟩ := t
  simp only at hl ⊢
  obtain ⟨hl0, hl1⟩ := hl
  by_cases h0 : b = 0
  · subst h0
    have e1 : Hd (sgA ⟨a, 0, c⟩ = (a, 0, 0) ∧ sgB ⟨a, 0, c⟩ = (0, 0, 0)) := ⟨rfl, rfl⟩
    go_enter Tryz.func161, Tryz.ntmps161
    go_wp2
    refine bodyPost_ret (results_cct rfl _ _ (w.heap.size + 1) (w.heap.size + 1 + 1) #[.int .i64 a, .int .i64 0, .int .i64 0] #[.int .i64 0, .int .i64 0, .int .i64 0] rfl (by first | exact blk_alloc (by simpa using blk_new (w.alloc _) _) _) rfl (by simpa using blk_new ((w.alloc _).alloc _) _) rfl rfl) rfl ?_
    rw [e1.out.1, e1.out.2]
    exact ⟨rfl, (((Fr.refl _ _).alloc _).alloc _).alloc _⟩
  · have e0 : (b == 0) = false := by simpa using h0
    obtain ⟨s, hs⟩ : ∃ s, s = symN lenT 257 3 258 b := ⟨_, rfl⟩
    obtain ⟨u, hu⟩ : ∃ u, u = symN distT 0 1 32768 c := ⟨_, rfl⟩
    have e1 : Hd (sgA ⟨a, b, c⟩ = (s.1, s.2.2.1, s.2.1) ∧ sgB ⟨a, b, c⟩ = (u.1, u.2.2.1, u.2.1)) := ⟨by unfold sgA; rw [if_neg h0, hs], by unfold sgB; rw [if_neg h0, hu]⟩
    have HS := Hd.mk hs
    have HU := Hd.mk hu
    clear hs hu
    go_enter Tryz.func161, Tryz.ntmps161
    go_wp2_with (fail)
    refine (lenSymbol_any _ b).mono ?_
    rintro e w1 ⟨rfl, h1⟩
    rw [← HS.out]
    have k0 := h1.blk (blk_alloc (blk_alloc (blk_new w _) _) _) (by simp)
    have k1 := h1.blk (g := w.heap.size + 1) (blk_alloc (by simpa using blk_new (w.alloc _) _) _) (by simp)
    have k2 := h1.blk (g := w.heap.size + 1 + 1) (by simpa using blk_new ((w.alloc _).alloc _) _) (by simp)
    have F1 := Hd.mk (((((Fr.refl w []).alloc _).alloc _).alloc _).trans h1 (by simp))
    clear h1
    generalize hg0 : w.heap.size = g at *
    have hgb : w.heap.size ≤ g := by omega
    clear hg0
    have K1 := Hd.mk k1
    have K2 := Hd.mk k2
    have c2 := blk_cell k0 2
    simp only [List.getElem?_toArray, List.getElem?_cons_zero, List.getElem?_cons_succ] at c2
    clear k0 k1 k2
    go_wp2_with (fail)
    refine (distSymbol_any _ c).mono ?_
    rintro e w2 ⟨rfl, h2⟩
    rw [← HU.out]
    have L1 := Hd.mk (h2.blk K1.out (by simp))
    have L2 := Hd.mk (h2.blk K2.out (by simp))
    have F2 := Hd.mk (F1.out.trans h2 (by simp))
    clear h2 K1 K2 F1 c2
    go_wp2_with (first
      | (refine wpList_store_row rfl 269 _ _ rfl (g + 1) #[.int .i64 s.1, .int .i64 s.2.2.1, .int .i64 s.2.1] rfl rfl 269 _ (by exact L1.out) (by kernel_rfl) (by kernel_rfl) (by kernel_rfl) ?_)
      | (refine wpList_store_row rfl 269 _ _ rfl (g + 1 + 1) #[.int .i64 u.1, .int .i64 u.2.2.1, .int .i64 u.2.1] rfl rfl 269 #[.int .i64 0, .int .i64 0, .int .i64 0] (by exact (setRow_other w2 (g + 1) (g + 1 + 1) _ (by omega)).trans L2.out) (by kernel_rfl) (by kernel_rfl) (by kernel_rfl) ?_))
    have B1 := (setRow_other (w2.setRow (g + 1) #[.int .i64 s.1, .int .i64 s.2.2.1, .int .i64 s.2.1]) (g + 1 + 1) (g + 1) #[.int .i64 u.1, .int .i64 u.2.2.1, .int .i64 u.2.1] (by omega)).trans (setRow_heap _ _ _ _ _ _ L1.out)
    have B2 : ((w2.setRow (g + 1) #[.int .i64 s.1, .int .i64 s.2.2.1, .int .i64 s.2.1]).setRow (g + 1 + 1) #[.int .i64 u.1, .int .i64 u.2.2.1, .int .i64 u.2.1]).heap[g + 1 + 1]? = some (.cells #[.int .i64 u.1, .int .i64 u.2.2.1, .int .i64 u.2.1] 269 (0, 0)) := setRow_heap _ _ _ _ _ _ ((setRow_other w2 (g + 1) (g + 1 + 1) _ (by omega)).trans L2.out)
    refine bodyPost_ret (results_cct rfl _ _ (g + 1) (g + 1 + 1) _ _ rfl B1 rfl B2 rfl rfl) rfl ?_
    rw [e1.out.1, e1.out.2]
    exact ⟨by simp [sgV, h0], (Code.Fr.setRow (Code.Fr.setRow F2.out _ (.inr (by omega))) _ (.inr (by omega)))⟩
end Go.Proofs.YtkdgfioigkijgaaGreat.Blk
set_option linter.unusedVariables false
set_option linter.unusedSimpArgs false
set_option maxRecDepth 100000
namespace Go.Proofs.YtkdgfioigkijgaaGreat.Blk
open Go.RowKit Go.Proofs.YtkdgfioigkijgaaGreat.Lib Go.Proofs.YtkdgfioigkijgaaGreat.Ints Go.Proofs.YtkdgfioigkijgaaGreat.Lz
def LitB (l : List Tok) : Prop := ∀ t ∈ l, 0 ≤ t.lit ∧ t.lit ≤ 255
theorem plc_fit (l : List (Int × Int)) (v : Int) (h0 : (l.getD 0 (0, 0)).1 ≤ v) : ∀ n, 0 < n → (∀ i, i + 1 < n → (l.getD (i + 1) (0, 0)).1 ≤ (l.getD i (0, 0)).1 + 2 ^ (l.getD i (0, 0)).2.toNat) → v < (l.getD (n - 1) (0, 0)).1 + 2 ^ (l.getD (n - 1) (0, 0)).2.toNat →
    (l.getD (plc l v n) (0, 0)).1 ≤ v ∧ v < (l.getD (plc l v n) (0, 0)).1 + 2 ^ (l.getD (plc l v n) (0, 0)).2.toNat
  | 0, h, _, _ => absurd h (Nat.lt_irrefl 0)
  | n + 1, _, hs, hv => by
    rw [plc]
    by_cases h : (l.getD n (0, 0)).1 ≤ v
    · rw [if_pos h]; exact ⟨h, hv⟩
    · rw [if_neg h]
      cases n with
      | zero => exact absurd h0 h
      | succ n =>
        refine plc_fit l v h0 (n + 1) (by omega) (fun i hi => hs i (by omega)) ?_
        have := hs n (by omega)
        simp only [Nat.add_sub_cancel]
        omega
theorem lenT_steps : ∀ i, i + 1 < 29 → (lenT.getD (i + 1) (0, 0)).1 ≤ (lenT.getD i (0, 0)).1 + 2 ^ (lenT.getD i (0, 0)).2.toNat := by
  intro i hi
  have : ∀ i, i < 28 → (lenT.getD (i + 1) (0, 0)).1 ≤ (lenT.getD i (0, 0)).1 + 2 ^ (lenT.getD i (0, 0)).2.toNat := by decide
  exact this i (by omega)
theorem distT_steps : ∀ i, i + 1 < 30 → (distT.getD (i + 1) (0, 0)).1 ≤ (distT.getD i (0, 0)).1 + 2 ^ (distT.getD i (0, 0)).2.toNat := by
  intro i hi
  have : ∀ i, i < 29 → (distT.getD (i + 1) (0, 0)).1 ≤ (distT.getD i (0, 0)).1 + 2 ^ (distT.getD i (0, 0)).2.toNat := by decide
  exact this i (by omega)
theorem lenT_fit {v : Int} (h0 : 3 ≤ v) (h1 : v ≤ 258) : (lenT.getD (plc lenT v 29) (0, 0)).1 ≤ v ∧ v < (lenT.getD (plc lenT v 29) (0, 0)).1 + 2 ^ (lenT.getD (plc lenT v 29) (0, 0)).2.toNat :=
  plc_fit lenT v (by show (3 : Int) ≤ v; exact h0) 29 (by omega) lenT_steps (by show v < (258 : Int) + 2 ^ 0; omega)
theorem distT_fit {v : Int} (h0 : 1 ≤ v) (h1 : v ≤ 32768) : (distT.getD (plc distT v 30) (0, 0)).1 ≤ v ∧ v < (distT.getD (plc distT v 30) (0, 0)).1 + 2 ^ (distT.getD (plc distT v 30) (0, 0)).2.toNat :=
  plc_fit distT v (by show (1 : Int) ≤ v; exact h0) 30 (by omega) distT_steps (by show v < (24577 : Int) + 2 ^ 13; omega)
structure Sg (x : Int × Int × Int) (lo hi mb : Int) : Prop where
  sym : lo ≤ x.1 ∧ x.1 < hi
  bits : 0 ≤ x.2.2 ∧ x.2.2 ≤ mb
  val : 0 ≤ x.2.1 ∧ x.2.1 < 2 ^ x.2.2.toNat
theorem symN_len {v : Int} (h0 : 3 ≤ v) (h1 : v ≤ 258) : Sg ((symN lenT 257 3 258 v).1, (symN lenT 257 3 258 v).2.2.1, (symN lenT 257 3 258 v).2.1) 257 286 5 := by
  unfold symN
  rw [if_neg (by omega)]
  have hp := plc_lt lenT v 29 (by decide)
  have hf := lenT_fit h0 h1
  have hb := lenT_le _ hp
  refine ⟨⟨?_, ?_⟩, ⟨?_, ?_⟩, ?_, ?_⟩ <;> simp only [show lenT.length = 29 from rfl] <;> omega
theorem symN_dist {v : Int} (h0 : 1 ≤ v) (h1 : v ≤ 32768) : Sg ((symN distT 0 1 32768 v).1, (symN distT 0 1 32768 v).2.2.1, (symN distT 0 1 32768 v).2.1) 0 30 13 := by
  unfold symN
  rw [if_neg (by omega)]
  have hp := plc_lt distT v 30 (by decide)
  have hf := distT_fit h0 h1
  have hb := distT_le _ hp
  refine ⟨⟨?_, ?_⟩, ⟨?_, ?_⟩, ?_, ?_⟩ <;> simp only [show distT.length = 30 from rfl] <;> omega
theorem sgA_fit {t : Tok} (hr : right t = true) (hl : 0 ≤ t.lit ∧ t.lit ≤ 255) : Sg (sgA t) 0 286 5 ∧ (sgA t).1 ≠ 256 := by
  unfold sgA
  rcases right_len hr with ⟨h, _⟩ | ⟨h1, h2, _⟩
  · rw [if_pos h]
    refine ⟨⟨⟨hl.1, ?_⟩, ⟨Int.le_refl _, ?_⟩, Int.le_refl _, ?_⟩, ?_⟩
    all_goals (simp only; first | omega | decide)
  · rw [if_neg (by omega)]
    have h := symN_len h1 h2
    exact ⟨⟨⟨by have := h.sym; omega, h.sym.2⟩, h.bits, h.val⟩, by have := h.sym; simp only at this ⊢; omega⟩
theorem sgB_fit {t : Tok} (hr : right t = true) : Sg (sgB t) 0 30 13 := by
  unfold sgB
  rcases right_len hr with ⟨h, _⟩ | ⟨h1, h2, h3, h4, _⟩
  · rw [if_pos h]
    refine ⟨⟨Int.le_refl _, ?_⟩, ⟨Int.le_refl _, ?_⟩, Int.le_refl _, ?_⟩
    all_goals (simp only; first | omega | decide)
  · rw [if_neg (by omega)]
    exact symN_dist h3 h4
def tkBits (lit dist : List Int) (t : Tok) : Int :=
  lit.getD (sgA t).1.toNat 0 + (sgA t).2.2 + if t.len = 0 then 0 else dist.getD (sgB t).1.toNat 0 + (sgB t).2.2
def codedF (lit dist : List Int) : List Tok → Int
  | [] => 0
  | t :: l => tkBits lit dist t + codedF lit dist l
def codedN (lit dist : List Int) (l : List Tok) : Int := lit.getD 256 0 + codedF lit dist l
def Lens15 (l : List Int) : Prop := ∀ x ∈ l, 0 ≤ x ∧ x ≤ 15
theorem lens15_get {l : List Int} (h : Lens15 l) (i : Nat) : 0 ≤ l.getD i 0 ∧ l.getD i 0 ≤ 15 := by
  rw [List.getD_eq_getElem?_getD]
  cases hx : l[i]? with
  | none => simp
  | some x => exact h x (List.mem_of_getElem? hx)
theorem tkBits_le {lit dist : List Int} (ha : Lens15 lit) (hb : Lens15 dist) {t : Tok} (hr : right t = true) (hl : 0 ≤ t.lit ∧ t.lit ≤ 255) : 0 ≤ tkBits lit dist t ∧ tkBits lit dist t ≤ 48 := by
  have h1 := lens15_get ha (sgA t).1.toNat
  have h2 := lens15_get hb (sgB t).1.toNat
  have h3 := (sgA_fit hr hl).1.bits
  have h4 := (sgB_fit hr).bits
  unfold tkBits
  split <;> omega
theorem codedF_app (lit dist : List Int) : ∀ a b, codedF lit dist (a ++ b) = codedF lit dist a + codedF lit dist b
  | [], b => by simp [codedF]
  | t :: a, b => by simp only [List.cons_append, codedF, codedF_app lit dist a b]; omega
theorem codedF_take {lit dist : List Int} {l : List Tok} {j : Nat} (h : j < l.length) : codedF lit dist (l.take (j + 1)) = codedF lit dist (l.take j) + tkBits lit dist l[j] := by
  rw [List.take_succ_eq_append_getElem h, codedF_app]
  simp [codedF]
theorem codedF_le {lit dist : List Int} (ha : Lens15 lit) (hb : Lens15 dist) : ∀ (l : List Tok), (∀ t ∈ l, right t = true) → LitB l → 0 ≤ codedF lit dist l ∧ codedF lit dist l ≤ 48 * (l.length : Nat)
  | [], _, _ => by simp [codedF]
  | t :: l, hr, hl => by
    have h1 := tkBits_le ha hb (hr t (by simp)) (hl t (by simp))
    have h2 := codedF_le ha hb l (fun u hu => hr u (by simp [hu])) (fun u hu => hl u (by simp [hu]))
    simp only [codedF, List.length_cons]
    omega
def mayB (l : List Tok) : Int := if 65536 < l.length then 90 else if l.all right then 0 else 91
theorem mayB_zero {l : List Tok} (h : mayB l = 0) : l.length ≤ 65536 ∧ ∀ t ∈ l, right t = true := by
  unfold mayB at h
  split at h
  · cases h
  · split at h
    · rename_i h1 h2
      exact ⟨by omega, by simpa using h2⟩
    · cases h
theorem width_zero {t : Tok} : width t = 0 ↔ right t = false := by
  unfold width
  cases h : right t
  · simp
  · simp only [if_true]
    have := right_len h
    split <;> simp <;> omega
theorem sizeOf_one (t : Tok) : Lz.sizeOf [t] = width t := by simp [Lz.sizeOf]
theorem plainLit15 : Lens15 plainLit := by
  intro x hx
  simp only [plainLit, fill, List.mem_map, List.mem_range] at hx
  obtain ⟨i, hi, rfl⟩ := hx
  rw [if_pos hi]
  unfold litF
  split
  · omega
  · split
    · omega
    · split <;> omega
theorem plainDist15 : Lens15 plainDist := by
  intro x hx
  simp only [plainDist, fill, List.mem_map, List.mem_range] at hx
  obtain ⟨i, hi, rfl⟩ := hx
  rw [if_pos hi]
  omega
end Go.Proofs.YtkdgfioigkijgaaGreat.Blk
set_option linter.unusedVariables false
set_option linter.unusedSimpArgs false
set_option maxRecDepth 100000
namespace Go.Proofs.YtkdgfioigkijgaaGreat.Blk
open Go.RowKit Go.Proofs.YtkdgfioigkijgaaGreat.Lib Go.Proofs.YtkdgfioigkijgaaGreat.Ints Go.Proofs.YtkdgfioigkijgaaGreat.Lz
theorem all_take {l : List Tok} {j : Nat} (h : j < l.length) : (l.take (j + 1)).all right = ((l.take j).all right && right l[j]) := by
  rw [List.take_succ_eq_append_getElem h, List.all_append]; simp
theorem all_not {l : List Tok} {j : Nat} (h : j < l.length) (hr : right l[j] = false) : l.all right = false := by
  rw [Bool.eq_false_iff]
  intro ha
  have := List.all_eq_true.1 ha l[j] (List.getElem_mem h)
  rw [hr] at this
  cases this
theorem sl_new2 (w : World) (o : Obj) (cs : Array Value) (t : TypeId) : Sl ((w.alloc o).alloc (.cells cs t)) (some ⟨w.heap.size + 1, 0, none⟩) cs.toList (some (w.heap.size + 1)) := sl_of_blk (t := t) (fr := (0, 0)) (by simpa using blk_new (w.alloc o) (.cells cs t))
set_option maxHeartbeats 2000000 in
theorem may_any (w : World) (A : Option Addr) (n c : Nat) (l : List Tok) (p : Option Nat) (hn : l.length = n) (hS : Sl w A (tcells l) p) (hb : n ≤ 6000000000000) (r : Int) (hr : r = mayB l) :
    Calls Tryz.prog 59 #[.slice A n c] w fun e w' => e = .returned (.int .i64 r) ∧ Fr w w' [] := by
  subst hn
  have HS := Hd.mk hS
  have HR := Hd.mk hr
  clear hS hr
  go_enter Tryz.func59, Tryz.ntmps59
  by_cases hlong : 65536 < l.length
  · obtain rfl : r = 90 := by rw [HR.out]; unfold mayB; rw [if_pos hlong]
    go_wp2
    go_ret
    exact ⟨rfl, Fr.refl _ _⟩
  · have hmr : Hd (r = if l.all right then 0 else 91) := ⟨by rw [HR.out]; unfold mayB; rw [if_neg hlong]⟩
    have hl2 : l.length ≤ 65536 := by omega
    go_wp2
    go_loopg [10] l.length (fun kq jv wr => ∃ j : Nat, jv = .int .i64 (j : Nat) ∧ j + kq = l.length ∧ Hd ((l.take j).all right = true) ∧ Hd (Fr w wr []))
    case atStart => exact ⟨0, rfl, by omega, ⟨rfl⟩, ⟨Fr.refl _ _⟩⟩
    case round =>
      obtain ⟨j, rfl, hj, HA, HF⟩ := hrel
      by_cases h1 : j < l.length
      · obtain ⟨a, o1, rfl, _, ha⟩ := Sl.row (enc := tcell) (sz := 3) (fun _ => rfl) (HS.out.frame HF.out (by simp)) h1 (by decide)
        obtain ⟨t, ht⟩ : ∃ t, t = l[j] := ⟨_, rfl⟩
        rw [← ht] at ha
        have c0 := ha 0 (by decide)
        have c1 := ha 1 (by decide)
        have c2 := ha 2 (by decide)
        simp only [tcell, List.getElem?_cons_zero, List.getElem?_cons_succ, Nat.add_zero] at c0 c1 c2
        have HT := Hd.mk ht
        clear ha ht
        obtain ⟨x, hx⟩ : ∃ x, x = width t := ⟨_, rfl⟩
        have HX := Hd.mk hx
        clear hx
        go_wp2_with (fail)
        refine (size_any _ _ 1 1 [t] _ rfl (by exact sl_new2 wr _ _ _) (by omega)).mono ?_
        rintro e w2 ⟨rfl, h2⟩
        rw [sizeOf_one, ← HX.out]
        have F2 := Hd.mk (((HF.out.alloc _).alloc _).trans h2 (by simp))
        clear h2
        by_cases hx0 : x = 0
        · subst hx0
          have : Hd (r = 91) := ⟨by rw [hmr.out, all_not h1 (by rw [← HT.out]; exact width_zero.1 HX.out.symm)]; rfl⟩
          obtain rfl := this.out
          go_wp2
          go_ret
          exact ⟨rfl, F2.out⟩
        · have hx1 : ((x : Int) == 0) = false := by simp; omega
          have hrt : right t = true := by
            cases h : right t with
            | true => rfl
            | false => exact absurd (HX.out.trans (width_zero.2 h)) hx0
          go_wp2
          go_roundg (gk - 1)
          case measure => omega
          case rel => exact ⟨j + 1, by go_num, by omega, ⟨by rw [all_take h1, HA.out, ← HT.out, hrt]; rfl⟩, F2⟩
      · obtain rfl : j = l.length := by omega
        have : Hd (r = 0) := ⟨by rw [hmr.out]; rw [List.take_length] at HA; rw [HA.out]; rfl⟩
        obtain rfl := this.out
        go_wp2
        go_ret
        exact ⟨rfl, HF.out⟩
end Go.Proofs.YtkdgfioigkijgaaGreat.Blk
set_option linter.unusedVariables false
set_option linter.unusedSimpArgs false
set_option maxRecDepth 100000
namespace Go.Proofs.YtkdgfioigkijgaaGreat.Blk
open Go.RowKit Go.Proofs.YtkdgfioigkijgaaGreat.Lib Go.Proofs.YtkdgfioigkijgaaGreat.Ints Go.Proofs.YtkdgfioigkijgaaGreat.Lz
theorem i64_getD {w : World} {A : Option Addr} {l : List Int} {q : Option Nat} (h : Sl w A (i64s l) q) {i : Nat} (hi : i < l.length) {b off : Nat} (hA : A = some ⟨b, off, none⟩) : w.cell? ⟨b, off + i, none⟩ = some (.int .i64 (l.getD i 0)) := by
  obtain ⟨b', off', h1, _, hc⟩ := h (by rw [i64s_length]; omega)
  rw [hA] at h1
  cases h1
  rw [hc i (by rw [i64s_length]; omega), i64s_get, List.getD_eq_getElem?_getD, List.getElem?_eq_getElem hi]
  rfl
set_option maxHeartbeats 4000000 in
theorem coded_any (w : World) (X Y : Option Addr) (nx cx ny cy : Nat) (lit dist : List Int) (px py : Option Nat) (hX : Sl w X (i64s lit) px) (hY : Sl w Y (i64s dist) py) (hx : lit.length = nx) (hy : dist.length = ny) (hx2 : 286 ≤ nx) (hy2 : 30 ≤ ny)
    (A : Option Addr) (n c : Nat) (l : List Tok) (p : Option Nat) (hn : l.length = n) (hS : Sl w A (tcells l) p) (hb : n ≤ 65536) (hr : ∀ t ∈ l, right t = true) (hl : LitB l) (ha : Lens15 lit) (hd : Lens15 dist) (m : Int) (hm : m = codedN lit dist l) :
    Calls Tryz.prog 137 #[.slice X nx cx, .slice Y ny cy, .slice A n c] w fun e w' => e = .returned (.int .i64 m) ∧ Fr w w' [] := by
  subst hn
  have HS := Hd.mk hS
  have HX := Hd.mk hX
  have HY := Hd.mk hY
  have HM := Hd.mk hm
  have HA := Hd.mk (And.intro ha hd)
  have HR := Hd.mk (And.intro hr hl)
  clear hS hX hY hm ha hd hr hl
  obtain ⟨bx, ox, rfl, _, _⟩ := HX.out (by rw [i64s_length]; omega)
  obtain ⟨by_, oy, rfl, _, _⟩ := HY.out (by rw [i64s_length]; omega)
  have k0 := i64_getD HX.out (i := 256) (by omega) rfl
  obtain ⟨z, hz⟩ : ∃ z, z = lit.getD 256 0 := ⟨_, rfl⟩
  rw [← hz] at k0
  have hzb : 0 ≤ z ∧ z ≤ 15 := by rw [hz]; exact lens15_get HA.out.1 256
  have HZ := Hd.mk hz
  clear hz
  go_enter Tryz.func137, Tryz.ntmps137
  go_wp2
  go_loopg [7, 18] l.length (fun kq sv jv wr => ∃ (j : Nat) (m : Int), sv = .int .i64 m ∧ jv = .int .i64 (j : Nat) ∧ j + kq = l.length ∧ Hd (m = z + codedF lit dist (l.take j)) ∧ Hd (Fr w wr []))
  case atStart => exact ⟨0, z, rfl, rfl, by omega, ⟨by simp [codedF]⟩, ⟨Fr.refl _ _⟩⟩
  case round =>
    obtain ⟨j, s, rfl, rfl, hj, HM2, HF⟩ := hrel
    by_cases h1 : j < l.length
    · obtain ⟨a, o1, rfl, _, hcc⟩ := Sl.row (enc := tcell) (sz := 3) (fun _ => rfl) (HS.out.frame HF.out (by simp)) h1 (by decide)
      obtain ⟨t, ht⟩ : ∃ t, t = l[j] := ⟨_, rfl⟩
      rw [← ht] at hcc
      have c0 := hcc 0 (by decide)
      have c1 := hcc 1 (by decide)
      have c2 := hcc 2 (by decide)
      simp only [tcell, List.getElem?_cons_zero, List.getElem?_cons_succ, Nat.add_zero] at c0 c1 c2
      have htm : t ∈ l := by rw [ht]; exact List.getElem_mem h1
      have hrt := HR.out.1 t htm
      have hlt := HR.out.2 t htm
      have HT : Hd (codedF lit dist (l.take (j + 1)) = codedF lit dist (l.take j) + tkBits lit dist t) := ⟨by rw [codedF_take h1, ht]⟩
      have hsb : 0 ≤ s ∧ s ≤ 15 + 48 * 65536 := by
        have := codedF_le HA.out.1 HA.out.2 (l.take j) (fun u hu => HR.out.1 u (List.mem_of_mem_take hu)) (fun u hu => HR.out.2 u (List.mem_of_mem_take hu))
        rw [List.length_take] at this
        have := HM2.out
        omega
      have sa := (sgA_fit hrt hlt).1
      have sb := sgB_fit hrt
      have hlen : Hd (tkBits lit dist t = lit.getD (sgA t).1.toNat 0 + (sgA t).2.2 + if t.len = 0 then 0 else dist.getD (sgB t).1.toNat 0 + (sgB t).2.2) := ⟨rfl⟩
      clear hcc ht htm
      go_wp2_with (fail)
      refine (signs_any _ t hlt).mono ?_
      rintro e w2 ⟨rfl, h2⟩
      have F2 := Hd.mk ((HF.out.alloc _).trans h2 (by simp))
      clear h2
      obtain ⟨⟨sx, vx, bxx⟩, hsa⟩ : ∃ x, x = sgA t := ⟨_, rfl⟩
      obtain ⟨⟨sy, vy, byy⟩, hsb2⟩ : ∃ x, x = sgB t := ⟨_, rfl⟩
      rw [← hsa] at sa hlen ⊢
      rw [← hsb2] at sb hlen ⊢
      obtain ⟨⟨a1, a2⟩, ⟨a3, a4⟩, a5, a6⟩ := sa
      obtain ⟨⟨b1, b2⟩, ⟨b3, b4⟩, b5, b6⟩ := sb
      clear hsa hsb2
      simp only at a1 a2 a3 a4 b1 b2 b3 b4 hlen
      obtain ⟨sx, rfl⟩ := Int.eq_ofNat_of_zero_le a1
      obtain ⟨sy, rfl⟩ := Int.eq_ofNat_of_zero_le b1
      have hkx := lens15_get HA.out.1 sx
      have hky := lens15_get HA.out.2 sy
      have kx := fun (w' : World) (hf : Fr w w' []) => i64_getD (HX.out.frame hf (by simp)) (i := sx) (by omega) rfl
      have ky := fun (w' : World) (hf : Fr w w' []) => i64_getD (HY.out.frame hf (by simp)) (i := sy) (by omega) rfl
      rw [Int.toNat_natCast, Int.toNat_natCast] at hlen
      generalize lit.getD sx 0 = x at *
      generalize dist.getD sy 0 = y at *
      clear a5 a6 b5 b6
      simp only [sgV]
      obtain ⟨mt, hmt⟩ : ∃ m, m = decide (t.len ≠ 0) := ⟨_, rfl⟩
      rw [← hmt]
      have HMT := Hd.mk hmt
      clear hmt
      go_upto_region 6 with (fail)
      have B1 : Hd (((w2.alloc (.cells #[.int .i64 (sx : Nat), .int .i64 vx, .int .i64 bxx] 269)).alloc (.cells #[.int .i64 (sy : Nat), .int .i64 vy, .int .i64 byy] 269)).heap[w2.heap.size]? = some (.cells #[.int .i64 (sx : Nat), .int .i64 vx, .int .i64 bxx] 269 (0, 0))) := ⟨blk_alloc (blk_new w2 _) _⟩
      have B2 : Hd (((w2.alloc (.cells #[.int .i64 (sx : Nat), .int .i64 vx, .int .i64 bxx] 269)).alloc (.cells #[.int .i64 (sy : Nat), .int .i64 vy, .int .i64 byy] 269)).heap[w2.heap.size + 1]? = some (.cells #[.int .i64 (sy : Nat), .int .i64 vy, .int .i64 byy] 269 (0, 0))) := ⟨by simpa using blk_new (w2.alloc _) _⟩
      have F3 := Hd.mk ((F2.out.alloc (.cells #[.int .i64 (sx : Nat), .int .i64 vx, .int .i64 bxx] 269)).alloc (.cells #[.int .i64 (sy : Nat), .int .i64 vy, .int .i64 byy] 269))
      generalize (w2.alloc (.cells #[.int .i64 (sx : Nat), .int .i64 vx, .int .i64 bxx] 269)).alloc (.cells #[.int .i64 (sy : Nat), .int .i64 vy, .int .i64 byy] 269) = w3 at *
      generalize w2.heap.size = g at *
      have d0 := blk_cell B1.out 0
      have d2 := blk_cell B1.out 2
      have e0 := blk_cell B2.out 0
      have e2 := blk_cell B2.out 2
      simp only [List.getElem?_toArray, List.getElem?_cons_zero, List.getElem?_cons_succ] at d0 d2 e0 e2
      have kx1 := kx w3 F3.out
      have ky1 := ky w3 F3.out
      clear F2 B1 B2 kx ky k0
      go_region
      cases mt with
      | false =>
        have hlen0 : t.len = 0 := by have := HMT.out; simpa using this
        rw [if_pos hlen0, Int.add_zero] at hlen
        go_wp2
        go_roundg (gk - 1)
        case measure => omega
        case rel => exact ⟨j + 1, _, rfl, by go_num, by omega, ⟨by rw [HT.out, HM2.out, hlen.out]; omega⟩, ⟨F3.out.drew⟩⟩
      | true =>
        have hlen0 : ¬ t.len = 0 := by have := HMT.out; simpa using this
        rw [if_neg hlen0] at hlen
        go_wp2
        go_region
        go_wp2
        go_roundg (gk - 1)
        case measure => omega
        case rel => exact ⟨j + 1, _, rfl, by go_num, by omega, ⟨by rw [HT.out, HM2.out, hlen.out]; omega⟩, ⟨F3.out.drew.drew⟩⟩
    · obtain rfl : j = l.length := by omega
      have hm2 : Hd (m = s) := ⟨by rw [HM.out, HM2.out, List.take_length, HZ.out]; rfl⟩
      obtain rfl := hm2.out
      go_wp2
      go_ret
      exact ⟨rfl, HF.out⟩
end Go.Proofs.YtkdgfioigkijgaaGreat.Blk
set_option maxRecDepth 100000
set_option linter.unusedVariables false
set_option linter.unusedSimpArgs false
namespace Go.Proofs.YtkdgfioigkijgaaGreat.Num
open Go.RowKit
def numOf : List (Nat × Nat) → Nat
  | [] => 0
  | (x, n) :: r => x + numOf r * 2 ^ n
def totOf : List (Nat × Nat) → Nat
  | [] => 0
  | (_, n) :: r => n + totOf r
theorem totOf_app (l r : List (Nat × Nat)) : totOf (l ++ r) = totOf l + totOf r := by
  induction l with
  | nil => simp [totOf]
  | cons p l ih => obtain ⟨x, n⟩ := p; simp [totOf, ih, Nat.add_assoc]
theorem numOf_app (l r : List (Nat × Nat)) : numOf (l ++ r) = numOf l + numOf r * 2 ^ totOf l := by
  induction l with
  | nil => simp [numOf, totOf]
  | cons p l ih =>
    obtain ⟨x, n⟩ := p
    simp only [List.cons_append, numOf, totOf, ih, Nat.add_mul, Nat.pow_add, Nat.mul_assoc, Nat.add_assoc]
    rw [Nat.mul_comm (2 ^ totOf l)]
def fitN (n : Int) : Nat := (n.tmod 57).natAbs
structure Fld where
  V : Nat
  N : Int
  H : Bool
def Fld.cells (f : Fld) : List Value := [.int .u64 f.V, .int .i64 f.N, .bool f.H]
def Fld.low (f : Fld) : Nat := f.V % 2 ^ fitN f.N
def Fld.part (f : Fld) : Nat × Nat := (if f.H then rv f.low (fitN f.N) else f.low, fitN f.N)
end Go.Proofs.YtkdgfioigkijgaaGreat.Num
set_option maxRecDepth 100000
set_option linter.unusedVariables false
set_option linter.unusedSimpArgs false
namespace Go.Proofs.YtkdgfioigkijgaaGreat.Code
open Go.Proofs.YtkdgfioigkijgaaGreat.Num
def part (lens : List Int) (s : Int) : Nat × Nat := (rv (codeOf lens s) (bitsOf lens s), bitsOf lens s)
end Go.Proofs.YtkdgfioigkijgaaGreat.Code
set_option linter.unusedVariables false
set_option linter.unusedSimpArgs false
set_option maxRecDepth 100000
namespace Go.Proofs.YtkdgfioigkijgaaGreat.Blk
open Go.RowKit Go.Proofs.YtkdgfioigkijgaaGreat.Lib Go.Proofs.YtkdgfioigkijgaaGreat.Ints Go.Proofs.YtkdgfioigkijgaaGreat.Num Go.Proofs.YtkdgfioigkijgaaGreat.Bits Go.Proofs.YtkdgfioigkijgaaGreat.Code
theorem numOf_snoc (P : List (Nat × Nat)) (v n : Nat) : numOf (P ++ [(v, n)]) = numOf P + v * 2 ^ totOf P := by
  rw [numOf_app]; simp [numOf]
theorem totOf_snoc (P : List (Nat × Nat)) (v n : Nat) : totOf (P ++ [(v, n)]) = totOf P + n := by
  rw [totOf_app]; simp [totOf]
theorem totOf_snoc2 (P : List (Nat × Nat)) (p : Nat × Nat) : totOf (P ++ [p]) = totOf P + p.2 := totOf_snoc P p.1 p.2
def PutL (w w' : World) (gw N m : Nat) (q : Option Nat) (p : Nat × Nat) : Prop := ∃ q', Tl w' gw 27 (N + p.1 * 2 ^ m) (m + p.2) q' ∧ Aft w q q' ∧ Fr w w' (gw :: q.toList)
structure Pw (w0 w : World) (gw : Nat) (q0 q : Option Nat) (N m : Nat) (P : List (Nat × Nat)) : Prop where
  tl : Tl w gw 27 (N + numOf P * 2 ^ m) (m + totOf P) q
  aft : Aft w0 q0 q
  fr : Fr w0 w (gw :: q0.toList)
section
variable {w0 w w' : World} {gw N m : Nat} {q0 q : Option Nat} {P Q : List (Nat × Nat)}
theorem Pw.start (h : Tl w gw 27 N m q) : Pw w w gw q q N m [] := ⟨by simpa [numOf, totOf] using h, Aft.refl _ _, Fr.refl _ _⟩
theorem Pw.call (h : Pw w0 w gw q0 q N m P) (hf : Fr w w' []) : Pw w0 w' gw q0 q N m P := ⟨h.tl.frame hf (by simp) (by simp), h.aft, h.fr.trans hf (by simp)⟩
theorem Pw.mem (h : Pw w0 w gw q0 q N m P) {x : Nat} (hx : x < w0.heap.size) (hm : x ∈ gw :: q.toList) : x ∈ gw :: q0.toList := by
  rcases List.mem_cons.1 hm with e | hm
  · subst e; simp
  · rcases h.aft.mem hm with h1 | h1
    · exact List.mem_cons_of_mem _ h1
    · omega
theorem Pw.put (h : Pw w0 w gw q0 q N m P) {p : Nat × Nat} (hp : PutL w w' gw (N + numOf P * 2 ^ m) (m + totOf P) q p) : ∃ q', Pw w0 w' gw q0 q' N m (P ++ [p]) := by
  obtain ⟨v, n⟩ := p
  obtain ⟨q', h1, h2, h3⟩ := hp
  refine ⟨q', ?_, h.aft.trans h2 h.fr.size, h.fr.trans h3 (fun x hx hm => h.mem hx hm)⟩
  rw [numOf_snoc, totOf_snoc]
  have e : N + (numOf P + v * 2 ^ totOf P) * 2 ^ m = N + numOf P * 2 ^ m + v * 2 ^ (m + totOf P) := by
    rw [Nat.add_mul, Nat.mul_assoc, ← Nat.pow_add, Nat.add_comm (totOf P) m, Nat.add_assoc]
  rw [e, ← Nat.add_assoc m]
  exact h1
theorem Pw.more (h : Pw w0 w gw q0 q N m P) {q' : Option Nat} (hp : Pw w w' gw q q' (N + numOf P * 2 ^ m) (m + totOf P) Q) : Pw w0 w' gw q0 q' N m (P ++ Q) := by
  refine ⟨?_, h.aft.trans hp.aft h.fr.size, h.fr.trans hp.fr (fun x hx hm => h.mem hx hm)⟩
  have := hp.tl
  rw [Nat.add_assoc m, ← totOf_app] at this
  have e : N + numOf (P ++ Q) * 2 ^ m = N + numOf P * 2 ^ m + numOf Q * 2 ^ (m + totOf P) := by
    rw [numOf_app, Nat.add_mul, Nat.mul_assoc, ← Nat.pow_add, Nat.add_comm (totOf P) m, Nat.add_assoc]
  rw [e]
  exact this
theorem tl_blk (h : Tl w gw 27 N m q) : (∃ cs, w.heap[gw]? = some (.cells cs 27 (0, 0))) ∧ ∀ y, q = some y → ∃ cs, w.heap[y]? = some (.cells cs 5 (0, 0)) := by
  obtain ⟨sv, hb, ho, rfl, _⟩ := h
  exact ⟨⟨_, hb⟩, fun y hy => own_type ho hy⟩
theorem tl_not (h : Tl w gw 27 N m q) {g : Nat} {cs : Array Value} {t : TypeId} {fr : Nat × Nat} (hb : w.heap[g]? = some (.cells cs t fr)) (h1 : t ≠ 27) (h2 : t ≠ 5) : g ∉ gw :: q.toList := by
  obtain ⟨⟨ds, hd⟩, hq⟩ := tl_blk h
  intro hm
  rcases List.mem_cons.1 hm with e | hm
  · exact blk_ne hb hd h1 e
  · obtain ⟨es, he⟩ := hq g (by simpa using hm)
    exact blk_ne hb he h2 rfl
theorem tl_keep (h : Tl w gw 27 N m q) {g : Nat} {cs : Array Value} {t : TypeId} {fr : Nat × Nat} (hb : w.heap[g]? = some (.cells cs t fr)) (h1 : t ≠ 27) (h2 : t ≠ 5) (hf : Fr w w' (gw :: q.toList)) : w'.heap[g]? = some (.cells cs t fr) := hf.blk hb (tl_not h hb h1 h2)
def EnP (w : World) (g : Nat) (lens : List Int) : Prop := ∃ ga da B db L, En w g ga da B db lens L
theorem EnP.call {g : Nat} {lens : List Int} (h : EnP w g lens) (hf : Fr w w' []) : EnP w' g lens := by
  obtain ⟨ga, da, B, db, L, h⟩ := h
  exact ⟨ga, da, B, db, L, h.frame hf (by simp)⟩
theorem EnP.keep {g : Nat} {lens : List Int} (h : EnP w g lens) (hT : Tl w gw 27 N m q) (hf : Fr w w' (gw :: q.toList)) : EnP w' g lens := by
  obtain ⟨ga, da, B, db, L, h⟩ := h
  obtain ⟨ds, hds⟩ := own_type h.lens_ (k := ga) rfl
  refine ⟨ga, da, B, db, L, h.frame hf ⟨tl_not hT h.blk (by decide) (by decide), tl_not hT hds (by decide) (by decide), fun y hy => ?_⟩⟩
  obtain ⟨es, hes⟩ := own_type h.codes_ hy
  exact tl_not hT hes (by decide) (by decide)
theorem eput {g : Nat} {lens : List Int} (s : Int) (hE : EnP w g lens) (hT : Tl w gw 27 N m q) (hm : m + 15 ≤ 1125899906842624) (er : Int) (her : er = if bitsOf lens s = 0 then 53 else 0) :
    Calls Tryz.prog 176 #[.pointer (some ⟨g, 0, none⟩), .pointer (some ⟨gw, 0, none⟩), .int .i64 s] w fun e w' => e = .returned (.int .i64 er) ∧ PutL w w' gw N m q (Code.part lens s) := by
  obtain ⟨ga, da, B, db, L, hE⟩ := hE
  by_cases h0 : bitsOf lens s = 0
  · rw [her, if_pos h0]
    refine (put_none s h0 gw hE).mono ?_
    rintro e w2 ⟨rfl, rfl⟩
    exact ⟨rfl, q, by simpa [Code.part, h0, rv] using hT, Aft.refl _ _, Fr.refl _ _⟩
  · rw [her, if_neg h0]
    refine (put_some s _ _ rfl rfl h0 gw hE hm hT).mono ?_
    rintro e w2 ⟨rfl, q', h1, h2, h3⟩
    exact ⟨rfl, q', h1, h2, h3⟩
theorem wput (a n : Int) (v : Nat) (ha : a = (v : Nat)) (hv : v < 2 ^ n.toNat) (h0 : 0 ≤ n) (h1 : n ≤ 56) (hT : Tl w gw 27 N m q) (hm : m + n.toNat ≤ 1125899906842624) :
    Calls Tryz.prog 11 #[.pointer (some ⟨gw, 0, none⟩), .int .u64 a, .int .i64 n] w fun e w' => e = .returned (.int .i64 0) ∧ PutL w w' gw N m q (v, n.toNat) := by
  refine (put_ok a n v w ha (mayN_ok h0 h1 hv) hm hT).mono ?_
  rintro e w2 ⟨rfl, q', h1, h2, h3⟩
  exact ⟨rfl, q', h1, h2, h3⟩
end
theorem part_le {lens : List Int} (hc : check lens = 0) (s : Int) : (Code.part lens s).2 ≤ 15 := by
  unfold Code.part
  by_cases h : bitsOf lens s = 0
  · simp only [h]; omega
  · exact (bitsOf_fits hc h).2.2.2.1
theorem Pw.after {w0 w1 w2 : World} {gw N m : Nat} {q q' : Option Nat} {P : List (Nat × Nat)} (hf : Fr w0 w1 []) (h : Pw w1 w2 gw q q' N m P) : Pw w0 w2 gw q q' N m P :=
  ⟨h.tl, (Aft.refl w0 q).trans h.aft hf.size, (hf.mono (G := gw :: q.toList) (fun k _ hm => by cases hm)).trans h.fr (fun x _ hm => hm)⟩
theorem own_keep {w w' : World} {gw N m : Nat} {q : Option Nat} {base : Nat} {e : TypeId} {size n : Nat} {v : Value} {xs : List Value} (hT : Tl w gw 27 N m q) (hf : Fr w w' (gw :: q.toList)) (h : w.ownsRow base e size v n xs) (h1 : e ≠ 27) (h2 : e ≠ 5) : w'.ownsRow base e size v n xs :=
  own_frame h hf (fun k hk => by
    obtain ⟨cs, hcs⟩ := own_type h hk
    exact tl_not hT hcs h1 h2)
end Go.Proofs.YtkdgfioigkijgaaGreat.Blk
set_option linter.unusedVariables false
set_option linter.unusedSimpArgs false
set_option maxRecDepth 100000
namespace Go.Proofs.YtkdgfioigkijgaaGreat.Blk
open Go.RowKit Go.Proofs.YtkdgfioigkijgaaGreat.Lib Go.Proofs.YtkdgfioigkijgaaGreat.Ints Go.Proofs.YtkdgfioigkijgaaGreat.Lz Go.Proofs.YtkdgfioigkijgaaGreat.Num Go.Proofs.YtkdgfioigkijgaaGreat.Bits Go.Proofs.YtkdgfioigkijgaaGreat.Code
def tokP (lit dist : List Int) (t : Tok) : List (Nat × Nat) :=
  [Code.part lit (sgA t).1, ((sgA t).2.1.toNat, (sgA t).2.2.toNat)] ++ if t.len = 0 then [] else [Code.part dist (sgB t).1, ((sgB t).2.1.toNat, (sgB t).2.2.toNat)]
def toksP (lit dist : List Int) (l : List Tok) : List (Nat × Nat) := l.flatMap (tokP lit dist)
theorem toksP_take {lit dist : List Int} {l : List Tok} {j : Nat} (h : j < l.length) : toksP lit dist (l.take (j + 1)) = toksP lit dist (l.take j) ++ tokP lit dist l[j] := by
  unfold toksP
  rw [List.take_succ_eq_append_getElem h, List.flatMap_append]; simp
theorem tokP_le {lit dist : List Int} (ha : check lit = 0) (hb : check dist = 0) {t : Tok} (hr : right t = true) (hl : 0 ≤ t.lit ∧ t.lit ≤ 255) : totOf (tokP lit dist t) ≤ 48 := by
  have h1 := part_le ha (sgA t).1
  have h2 := part_le hb (sgB t).1
  have h3 := (sgA_fit hr hl).1.bits
  have h4 := (sgB_fit hr).bits
  unfold tokP
  split <;> simp only [List.append_nil, List.cons_append, List.nil_append, totOf] <;> omega
theorem toksP_le {lit dist : List Int} (ha : check lit = 0) (hb : check dist = 0) : ∀ (l : List Tok), (∀ t ∈ l, right t = true) → LitB l → totOf (toksP lit dist l) ≤ 48 * l.length
  | [], _, _ => by simp [toksP, totOf]
  | t :: l, hr, hl => by
    have h1 := tokP_le ha hb (hr t (by simp)) (hl t (by simp))
    have h2 := toksP_le ha hb l (fun u hu => hr u (by simp [hu])) (fun u hu => hl u (by simp [hu]))
    have e : toksP lit dist (t :: l) = tokP lit dist t ++ toksP lit dist l := by simp [toksP]
    rw [e, totOf_app, List.length_cons]
    omega
def bodyP (lit dist : List Int) (l : List Tok) : List (Nat × Nat) := toksP lit dist l ++ [Code.part lit 256]
end Go.Proofs.YtkdgfioigkijgaaGreat.Blk
set_option linter.unusedVariables false
set_option linter.unusedSimpArgs false
set_option maxRecDepth 100000
namespace Go.Proofs.YtkdgfioigkijgaaGreat.Blk
open Go.RowKit Go.Proofs.YtkdgfioigkijgaaGreat.Lib Go.Proofs.YtkdgfioigkijgaaGreat.Ints Go.Proofs.YtkdgfioigkijgaaGreat.Lz Go.Proofs.YtkdgfioigkijgaaGreat.Num Go.Proofs.YtkdgfioigkijgaaGreat.Bits Go.Proofs.YtkdgfioigkijgaaGreat.Code
set_option maxHeartbeats 8000000 in
theorem lay_any (w : World) (X Y : Option Addr) (nx cx ny cy : Nat) (lit dist : List Int) (px py : Option Nat) (hX : SlArg w X nx cx (i64s lit) px) (hY : SlArg w Y ny cy (i64s dist) py) (hcx : check lit = 0) (hcy : check dist = 0)
    (A : Option Addr) (n c : Nat) (l : List Tok) (p : Option Nat) (hn : l.length = n) (hS : Sl w A (tcells l) p) (hb : n ≤ 65536) (hr : ∀ t ∈ l, right t = true) (hl : LitB l)
    (gw N m : Nat) (q : Option Nat) (hT : Tl w gw 27 N m q) (hp : ∀ k, p = some k → k ∉ gw :: q.toList) (hm : m ≤ 562949953421312) (er : Int) (her : er = if bitsOf lit 256 = 0 then 53 else 0) :
    Calls Tryz.prog 138 #[.pointer (some ⟨gw, 0, none⟩), .slice X nx cx, .slice Y ny cy, .slice A n c] w fun e w' => e = .returned (.int .i64 er) ∧ ∃ q', Pw w w' gw q q' N m (bodyP lit dist l) := by
  subst hn
  have HS := Hd.mk hS
  have HX := Hd.mk hX
  have HY := Hd.mk hY
  have HC := Hd.mk (And.intro hcx hcy)
  have HR := Hd.mk (And.intro hr hl)
  have HP := Hd.mk hp
  have T0 := Hd.mk hT
  have HER := Hd.mk her
  clear hS hX hY hcx hcy hr hl hp hT her
  go_enter Tryz.func138, Tryz.ntmps138
  go_wp2_with (fail)
  refine (newenc_any w X nx cx lit px HX.out 0 HC.out.1.symm).mono ?_
  rintro e w1 ⟨p1, rfl, hf1, _, h3⟩
  obtain ⟨gx, ga, da, B, db, L, rfl, hE, _⟩ := h3 rfl
  have EX1 : Hd (EnP w1 gx lit) := ⟨⟨ga, da, B, db, L, hE⟩⟩
  have F1 := Hd.mk hf1
  clear hf1 h3 hE HX
  go_wp2_with (fail)
  refine (newenc_any w1 Y ny cy dist py (HY.out.frame F1.out (by simp)) 0 HC.out.2.symm).mono ?_
  rintro e w2 ⟨p2, rfl, hf2, _, h3⟩
  obtain ⟨gy, ga', da', B', db', L', rfl, hE, _⟩ := h3 rfl
  have EY2 : Hd (EnP w2 gy dist) := ⟨⟨ga', da', B', db', L', hE⟩⟩
  have EX2 := Hd.mk (EX1.out.call hf2)
  have F2 := Hd.mk (F1.out.trans hf2 (by simp))
  have W2 : Hd (∃ qj, Pw w w2 gw q qj N m (toksP lit dist (l.take 0))) := ⟨⟨q, (Pw.start T0.out).call F2.out⟩⟩
  clear hf2 h3 hE HY F1 EX1 F2
  go_wp2
  go_loopg [35] l.length (fun kq jv wr => ∃ j : Nat, jv = .int .i64 (j : Nat) ∧ j + kq = l.length ∧ Hd (EnP wr gx lit) ∧ Hd (EnP wr gy dist) ∧ Hd (∃ qj, Pw w wr gw q qj N m (toksP lit dist (l.take j))))
  case atStart => exact ⟨0, rfl, by omega, EX2, EY2, W2⟩
  case round =>
    obtain ⟨j, rfl, hj, EX, EY, HW⟩ := hrel
    obtain ⟨⟨qj, hPj⟩⟩ := HW
    have PJ := Hd.mk hPj
    clear hPj
    have hmj : Hd (totOf (toksP lit dist (l.take j)) ≤ 48 * 65536) := ⟨by
      have := toksP_le HC.out.1 HC.out.2 (l.take j) (fun u hu => HR.out.1 u (List.mem_of_mem_take hu)) (fun u hu => HR.out.2 u (List.mem_of_mem_take hu))
      rw [List.length_take] at this
      omega⟩
    by_cases h1 : j < l.length
    · obtain ⟨a, o1, rfl, _, hcc⟩ := Sl.row (enc := tcell) (sz := 3) (fun _ => rfl) (HS.out.frame PJ.out.fr HP.out) h1 (by decide)
      obtain ⟨t, ht⟩ : ∃ t, t = l[j] := ⟨_, rfl⟩
      rw [← ht] at hcc
      have c0 := hcc 0 (by decide)
      have c1 := hcc 1 (by decide)
      have c2 := hcc 2 (by decide)
      simp only [tcell, List.getElem?_cons_zero, List.getElem?_cons_succ, Nat.add_zero] at c0 c1 c2
      have htm : t ∈ l := by rw [ht]; exact List.getElem_mem h1
      have hrt := HR.out.1 t htm
      have hlt := HR.out.2 t htm
      have HTK : Hd (toksP lit dist (l.take (j + 1)) = toksP lit dist (l.take j) ++ tokP lit dist t) := ⟨by rw [toksP_take h1, ht]⟩
      have HTD : Hd (tokP lit dist t = [Code.part lit (sgA t).1, ((sgA t).2.1.toNat, (sgA t).2.2.toNat)] ++ if t.len = 0 then [] else [Code.part dist (sgB t).1, ((sgB t).2.1.toNat, (sgB t).2.2.toNat)]) := ⟨rfl⟩
      have sa := (sgA_fit hrt hlt).1
      have sb := sgB_fit hrt
      clear hcc ht htm
      generalize toksP lit dist (l.take j) = PR at *
      go_wp2_with (fail)
      refine (signs_any _ t hlt).mono ?_
      rintro e w3 ⟨rfl, h2⟩
      have f3 := ((Fr.refl wr []).alloc (.cells #[.int .u8 t.lit, .int .i64 t.len, .int .i64 t.dist] 77)).trans h2 (by simp)
      have PJ3 := Hd.mk (PJ.out.call f3)
      have EX3 := Hd.mk (EX.out.call f3)
      have EY3 := Hd.mk (EY.out.call f3)
      clear h2 f3 EX EY PJ
      obtain ⟨⟨sx, vx, bxx⟩, hsa⟩ : ∃ x, x = sgA t := ⟨_, rfl⟩
      obtain ⟨⟨sy, vy, byy⟩, hsb2⟩ : ∃ x, x = sgB t := ⟨_, rfl⟩
      rw [← hsa] at sa HTD ⊢
      rw [← hsb2] at sb HTD ⊢
      obtain ⟨_, ⟨a3, a4⟩, a5, a6⟩ := sa
      obtain ⟨_, ⟨b3, b4⟩, b5, b6⟩ := sb
      clear hsa hsb2
      simp only at a3 a4 a5 a6 b3 b4 b5 b6 HTD
      obtain ⟨vx, rfl⟩ := Int.eq_ofNat_of_zero_le a5
      obtain ⟨vy, rfl⟩ := Int.eq_ofNat_of_zero_le b5
      obtain ⟨bxx, rfl⟩ := Int.eq_ofNat_of_zero_le a3
      obtain ⟨byy, rfl⟩ := Int.eq_ofNat_of_zero_le b3
      simp only [Int.toNat_natCast] at a6 b6 HTD
      have a7 : vx < 2 ^ bxx := by exact_mod_cast a6
      have b7 : vy < 2 ^ byy := by exact_mod_cast b6
      have hvx : vx < 8192 := Nat.lt_of_lt_of_le a7 (Nat.pow_le_pow_right (by omega) (show bxx ≤ 13 by omega))
      have hvy : vy < 8192 := Nat.lt_of_lt_of_le b7 (Nat.pow_le_pow_right (by omega) (show byy ≤ 13 by omega))
      have A7 := Hd.mk a7
      have B7 := Hd.mk b7
      clear a6 b6 a7 b7
      simp only [sgV]
      obtain ⟨mt, hmt⟩ : ∃ m, m = decide (t.len ≠ 0) := ⟨_, rfl⟩
      rw [← hmt]
      have HMT := Hd.mk hmt
      clear hmt
      go_upto_region 11 with (fail)
      have B1 : Hd (((w3.alloc (.cells #[.int .i64 sx, .int .i64 (vx : Nat), .int .i64 (bxx : Nat)] 269)).alloc (.cells #[.int .i64 sy, .int .i64 (vy : Nat), .int .i64 (byy : Nat)] 269)).heap[w3.heap.size]? = some (.cells #[.int .i64 sx, .int .i64 (vx : Nat), .int .i64 (bxx : Nat)] 269 (0, 0))) := ⟨blk_alloc (blk_new w3 _) _⟩
      have B2 : Hd (((w3.alloc (.cells #[.int .i64 sx, .int .i64 (vx : Nat), .int .i64 (bxx : Nat)] 269)).alloc (.cells #[.int .i64 sy, .int .i64 (vy : Nat), .int .i64 (byy : Nat)] 269)).heap[w3.heap.size + 1]? = some (.cells #[.int .i64 sy, .int .i64 (vy : Nat), .int .i64 (byy : Nat)] 269 (0, 0))) := ⟨by simpa using blk_new (w3.alloc _) _⟩
      have f4 := ((Fr.refl w3 []).alloc (.cells #[.int .i64 sx, .int .i64 (vx : Nat), .int .i64 (bxx : Nat)] 269)).alloc (.cells #[.int .i64 sy, .int .i64 (vy : Nat), .int .i64 (byy : Nat)] 269)
      have PJ4 := Hd.mk (PJ3.out.call f4)
      have EX4 := Hd.mk (EX3.out.call f4)
      have EY4 := Hd.mk (EY3.out.call f4)
      clear f4 EX3 EY3 PJ3
      generalize (w3.alloc (.cells #[.int .i64 sx, .int .i64 (vx : Nat), .int .i64 (bxx : Nat)] 269)).alloc (.cells #[.int .i64 sy, .int .i64 (vy : Nat), .int .i64 (byy : Nat)] 269) = w4 at *
      generalize w3.heap.size = g at *
      have d0 := blk_cell B1.out 0
      simp only [List.getElem?_toArray, List.getElem?_cons_zero, List.getElem?_cons_succ] at d0
      go_wp2_with (fail)
      obtain ⟨er1, he1⟩ : ∃ e1 : Int, e1 = if bitsOf lit sx = 0 then 53 else 0 := ⟨_, rfl⟩
      refine (eput sx EX4.out PJ4.out.tl (by have := hmj.out; omega) er1 he1).mono ?_
      clear he1
      rintro e w5 ⟨rfl, hpl⟩
      have hpl' := hpl
      obtain ⟨q5, _, _, f5⟩ := hpl'
      have EX5 := Hd.mk (EX4.out.keep PJ4.out.tl f5)
      have EY5 := Hd.mk (EY4.out.keep PJ4.out.tl f5)
      have B15 := Hd.mk (tl_keep PJ4.out.tl B1.out (by decide) (by decide) f5)
      have B25 := Hd.mk (tl_keep PJ4.out.tl B2.out (by decide) (by decide) f5)
      obtain ⟨q5', h5⟩ := PJ4.out.put hpl
      have PJ5 := Hd.mk h5
      clear h5 hpl f5 d0 B1 B2 EX4 EY4 PJ4
      have d1 := blk_cell B15.out 1
      have d2 := blk_cell B15.out 2
      simp only [List.getElem?_toArray, List.getElem?_cons_zero, List.getElem?_cons_succ] at d1 d2
      have ht5 : Hd (totOf (PR ++ [Code.part lit sx]) ≤ 48 * 65536 + 15) := ⟨by have := hmj.out; have := part_le HC.out.1 sx; rw [totOf_snoc2]; omega⟩
      go_wp2_with (fail)
      refine (wput (vx : Int) (bxx : Int) vx rfl (by simpa using A7.out) (by omega) (by omega) PJ5.out.tl (by rw [Int.toNat_natCast]; have := ht5.out; omega)).mono ?_
      rintro e w6 ⟨rfl, hpl⟩
      rw [Int.toNat_natCast] at hpl
      have hpl' := hpl
      obtain ⟨q6, _, _, f6⟩ := hpl'
      have EX6 := Hd.mk (EX5.out.keep PJ5.out.tl f6)
      have EY6 := Hd.mk (EY5.out.keep PJ5.out.tl f6)
      have B26 := Hd.mk (tl_keep PJ5.out.tl B25.out (by decide) (by decide) f6)
      obtain ⟨q6', h6⟩ := PJ5.out.put hpl
      have PJ6 := Hd.mk h6
      clear h6 hpl f6 d1 d2 B15 B25 EX5 EY5 PJ5
      cases mt with
      | false =>
        have hlen0 : t.len = 0 := by have := HMT.out; simpa using this
        rw [if_pos hlen0, List.append_nil] at HTD
        go_wp2
        go_roundg (gk - 1)
        case measure => omega
        case rel => exact ⟨j + 1, by go_num, by omega, EX6, EY6, ⟨q6', by rw [HTK.out, HTD.out]; have := PJ6.out; rwa [List.append_assoc] at this⟩⟩
      | true =>
        have hlen0 : ¬ t.len = 0 := by have := HMT.out; simpa using this
        rw [if_neg hlen0] at HTD
        have d0 := blk_cell B26.out 0
        simp only [List.getElem?_toArray, List.getElem?_cons_zero, List.getElem?_cons_succ] at d0
        have ht6 : Hd (totOf (PR ++ [Code.part lit sx] ++ [(vx, bxx)]) ≤ 48 * 65536 + 15 + 5) := ⟨by have := ht5.out; rw [totOf_snoc]; omega⟩
        go_wp2_with (fail)
        obtain ⟨er2, he2⟩ : ∃ e1 : Int, e1 = if bitsOf dist sy = 0 then 53 else 0 := ⟨_, rfl⟩
        refine (eput sy EY6.out PJ6.out.tl (by have := ht6.out; omega) er2 he2).mono ?_
        clear he2
        rintro e w7 ⟨rfl, hpl⟩
        have hpl' := hpl
        obtain ⟨q7, _, _, f7⟩ := hpl'
        have EX7 := Hd.mk (EX6.out.keep PJ6.out.tl f7)
        have EY7 := Hd.mk (EY6.out.keep PJ6.out.tl f7)
        have B27 := Hd.mk (tl_keep PJ6.out.tl B26.out (by decide) (by decide) f7)
        obtain ⟨q7', h7⟩ := PJ6.out.put hpl
        have PJ7 := Hd.mk h7
        clear h7 hpl f7 d0 B26 EX6 EY6 PJ6
        have d1 := blk_cell B27.out 1
        have d2 := blk_cell B27.out 2
        simp only [List.getElem?_toArray, List.getElem?_cons_zero, List.getElem?_cons_succ] at d1 d2
        have ht7 : Hd (totOf (PR ++ [Code.part lit sx] ++ [(vx, bxx)] ++ [Code.part dist sy]) ≤ 48 * 65536 + 15 + 5 + 15) := ⟨by have := ht6.out; have := part_le HC.out.2 sy; rw [totOf_snoc2]; omega⟩
        go_wp2_with (fail)
        refine (wput (vy : Int) (byy : Int) vy rfl (by simpa using B7.out) (by omega) (by omega) PJ7.out.tl (by rw [Int.toNat_natCast]; have := ht7.out; omega)).mono ?_
        rintro e w8 ⟨rfl, hpl⟩
        rw [Int.toNat_natCast] at hpl
        have hpl' := hpl
        obtain ⟨q8, _, _, f8⟩ := hpl'
        have EX8 := Hd.mk (EX7.out.keep PJ7.out.tl f8)
        have EY8 := Hd.mk (EY7.out.keep PJ7.out.tl f8)
        obtain ⟨q8', h8⟩ := PJ7.out.put hpl
        have PJ8 := Hd.mk h8
        clear h8 hpl f8 d1 d2 B27 EX7 EY7 PJ7
        go_wp2
        go_roundg (gk - 1)
        case measure => omega
        case rel => exact ⟨j + 1, by go_num, by omega, EX8, EY8, ⟨q8', by rw [HTK.out, HTD.out]; have := PJ8.out; simpa [List.append_assoc] using this⟩⟩
    · obtain rfl : j = l.length := by omega
      rw [List.take_length] at PJ hmj
      go_wp2_with (fail)
      refine (eput 256 EX.out PJ.out.tl (by have := hmj.out; omega) er HER.out).mono ?_
      rintro e w5 ⟨rfl, hpl⟩
      obtain ⟨q5', h5⟩ := PJ.out.put hpl
      have PJ5 := Hd.mk h5
      clear h5 hpl
      go_wp2
      go_ret
      exact ⟨rfl, q5', PJ5.out⟩
end Go.Proofs.YtkdgfioigkijgaaGreat.Blk
set_option linter.unusedVariables false
set_option linter.unusedSimpArgs false
set_option maxRecDepth 100000
namespace Go.Proofs.YtkdgfioigkijgaaGreat.Blk
open Go.RowKit Go.Proofs.YtkdgfioigkijgaaGreat.Lib Go.Proofs.YtkdgfioigkijgaaGreat.Ints Go.Proofs.YtkdgfioigkijgaaGreat.Lz Go.Proofs.YtkdgfioigkijgaaGreat.Num Go.Proofs.YtkdgfioigkijgaaGreat.Bits Go.Proofs.YtkdgfioigkijgaaGreat.Code
theorem plainLit_check : check plainLit = 0 := by decide +kernel
theorem plainDist_check : check plainDist = 0 := by decide +kernel
theorem plainLit_end : bitsOf plainLit 256 = 7 := by decide +kernel
theorem slArg_own {w : World} {base : Nat} {e : TypeId} {A : Option Addr} {n c : Nat} {xs : List Value} (h : w.ownsRow base e 1 (.slice A n c) n xs) : SlArg w A n c xs (Value.slice A n c).ownBlock := by
  obtain ⟨A', c', h1, h2, h3, _⟩ := own_slice h
  injection h1 with e1 _ e3
  subst e1 e3
  exact ⟨by have := h.1; omega, h2, h3, fun hA => own_none h hA, sl_of_own h, fun b hb => own_lt h hb⟩
set_option maxHeartbeats 4000000 in
theorem plainCost_any (w : World) (bh : Int) (A : Option Addr) (n c : Nat) (l : List Tok) (p : Option Nat) (hn : l.length = n) (hS : Sl w A (tcells l) p) (hb : n ≤ 65536) (hr : ∀ t ∈ l, right t = true) (hl : LitB l) (m : Int) (hm : m = codedN plainLit plainDist l) :
    Calls Tryz.prog 83 #[.int .i64 bh, .slice A n c] w fun e w' => e = .returned (.tuple #[.int .i64 (3 + m), .int .i64 0]) ∧ Fr w w' [] := by
  have HS := Hd.mk hS
  have HR := Hd.mk (And.intro hr hl)
  have HM := Hd.mk hm
  clear hS hr hl
  have hmb : 0 ≤ m ∧ m ≤ 15 + 48 * 65536 := by
    rw [hm]
    have h1 := codedF_le plainLit15 plainDist15 l HR.out.1 HR.out.2
    have h2 := lens15_get plainLit15 256
    unfold codedN
    omega
  clear hm
  go_enter Tryz.func83, Tryz.ntmps83
  go_wp2_with (fail)
  refine (plainLens_any w).mono ?_
  rintro e w1 hp
  unfold PlPost at hp
  obtain ⟨g, h, rfl, h1, h2, _, _, _, h3⟩ := hp
  have X1 := Hd.mk (sl_of_own h1)
  have Y1 := Hd.mk (sl_of_own h2)
  have F1 := Hd.mk h3
  clear h1 h2 h3
  go_wp2_with (fail)
  refine (coded_any w1 _ _ 288 288 32 32 plainLit plainDist _ _ X1.out Y1.out (fill_len _ _ _) (fill_len _ _ _) (by omega) (by omega) A n c l p hn (HS.out.frame F1.out (by simp)) hb HR.out.1 HR.out.2 plainLit15 plainDist15 m HM.out).mono ?_
  rintro e w2 ⟨rfl, h1⟩
  have F2 := Hd.mk (F1.out.trans h1 (by simp))
  clear h1
  go_wp2
  go_ret2
  exact ⟨rfl, F2.out⟩
def waysC : Array Value := #[.func (.func 81) #[] #[], .func (.func 82) #[] #[], .func (.func 83) #[] #[], .func (.func 84) #[] #[], .func (.func 85) #[] #[], .func (.func 86) #[] #[]]
theorem waysInfo : (Tryz.prog.info? 121).map (·.size) = some waysC.size := by kernel_rfl
set_option maxHeartbeats 4000000 in
theorem ways_any (w : World) : Calls Tryz.prog 51 #[] w fun e w' => e = .returned (.agg waysC) ∧ Fr w w' [] := by
  go_enter Tryz.func51, Tryz.ntmps51
  go_upto_region 1 with (fail)
  go_wp2_with (refine wpList_store_row rfl 121 _ _ rfl w.heap.size waysC rfl rfl 121 _ (by exact blk_new w _) (by kernel_rfl) (by kernel_rfl) (by kernel_rfl) ?_)
  refine bodyPost_ret (results_cell_row rfl _ _ w.heap.size 121 _ _ _ rfl (setRow_heap _ _ _ _ _ _ (blk_new w _)) Tryz.underlying121 rfl waysInfo) rfl ?_
  exact ⟨rfl, Code.Fr.setRow ((Fr.refl w []).alloc _) _ (.inr (Nat.le_refl _))⟩
theorem ways0 : ∀ W : World, (Instr.index 121 (.agg waysC) (.int .i64 0)).run Tryz.prog W = .ok (.agg #[.func (.func 81) #[] #[], .func (.func 82) #[] #[]]) W := fun W => by kernel_rfl
theorem ways1 : ∀ W : World, (Instr.index 121 (.agg waysC) (.int .i64 1)).run Tryz.prog W = .ok (.agg #[.func (.func 83) #[] #[], .func (.func 84) #[] #[]]) W := fun W => by kernel_rfl
theorem ways2 : ∀ W : World, (Instr.index 121 (.agg waysC) (.int .i64 2)).run Tryz.prog W = .ok (.agg #[.func (.func 85) #[] #[], .func (.func 86) #[] #[]]) W := fun W => by kernel_rfl
theorem way0c : ∀ W : World, (Instr.field 120 (.agg #[.func (.func 81) #[] #[], .func (.func 82) #[] #[]]) 0).run Tryz.prog W = .ok (.func (.func 81) #[] #[]) W := fun W => by kernel_rfl
theorem way0w : ∀ W : World, (Instr.field 120 (.agg #[.func (.func 81) #[] #[], .func (.func 82) #[] #[]]) 1).run Tryz.prog W = .ok (.func (.func 82) #[] #[]) W := fun W => by kernel_rfl
theorem way1c : ∀ W : World, (Instr.field 120 (.agg #[.func (.func 83) #[] #[], .func (.func 84) #[] #[]]) 0).run Tryz.prog W = .ok (.func (.func 83) #[] #[]) W := fun W => by kernel_rfl
theorem way1w : ∀ W : World, (Instr.field 120 (.agg #[.func (.func 83) #[] #[], .func (.func 84) #[] #[]]) 1).run Tryz.prog W = .ok (.func (.func 84) #[] #[]) W := fun W => by kernel_rfl
theorem way2c : ∀ W : World, (Instr.field 120 (.agg #[.func (.func 85) #[] #[], .func (.func 86) #[] #[]]) 0).run Tryz.prog W = .ok (.func (.func 85) #[] #[]) W := fun W => by kernel_rfl
theorem way2w : ∀ W : World, (Instr.field 120 (.agg #[.func (.func 85) #[] #[], .func (.func 86) #[] #[]]) 1).run Tryz.prog W = .ok (.func (.func 86) #[] #[]) W := fun W => by kernel_rfl
end Go.Proofs.YtkdgfioigkijgaaGreat.Blk
set_option linter.unusedVariables false
set_option linter.unusedSimpArgs false
set_option maxRecDepth 100000
namespace Go.Proofs.YtkdgfioigkijgaaGreat.Blk
open Go.RowKit Go.Proofs.YtkdgfioigkijgaaGreat.Lib Go.Proofs.YtkdgfioigkijgaaGreat.Ints Go.Proofs.YtkdgfioigkijgaaGreat.Lz Go.Proofs.YtkdgfioigkijgaaGreat.Num Go.Proofs.YtkdgfioigkijgaaGreat.Bits Go.Proofs.YtkdgfioigkijgaaGreat.Code
set_option maxHeartbeats 4000000 in
theorem plainWrite_any (w : World) (D : Option Addr) (nd cd : Nat) (A : Option Addr) (n c : Nat) (l : List Tok) (p : Option Nat) (hn : l.length = n) (hS : Sl w A (tcells l) p) (hb : n ≤ 65536) (hr : ∀ t ∈ l, right t = true) (hl : LitB l)
    (gw N m : Nat) (q : Option Nat) (hT : Tl w gw 27 N m q) (hp : ∀ k, p = some k → k ∉ gw :: q.toList) (hm : m ≤ 562949953421312) :
    Calls Tryz.prog 84 #[.pointer (some ⟨gw, 0, none⟩), .slice D nd cd, .slice A n c] w fun e w' => e = .returned (.int .i64 0) ∧ ∃ q', Pw w w' gw q q' N m (bodyP plainLit plainDist l) := by
  have HS := Hd.mk hS
  have HR := Hd.mk (And.intro hr hl)
  have HP := Hd.mk hp
  have T0 := Hd.mk hT
  clear hS hr hl hp hT
  go_enter Tryz.func84, Tryz.ntmps84
  go_wp2_with (fail)
  refine (plainLens_any w).mono ?_
  rintro e w1 hpp
  unfold PlPost at hpp
  obtain ⟨g, h, rfl, h1, h2, _, _, _, h3⟩ := hpp
  have X1 := Hd.mk (slArg_own h1)
  have Y1 := Hd.mk (slArg_own h2)
  have F1 := Hd.mk h3
  have T1 := Hd.mk (T0.out.frame h3 (by simp) (by simp))
  clear h1 h2 h3
  go_wp2_with (fail)
  refine (lay_any w1 _ _ 288 288 32 32 plainLit plainDist _ _ X1.out Y1.out plainLit_check plainDist_check A n c l p hn (HS.out.frame F1.out (by simp)) hb HR.out.1 HR.out.2 gw N m q T1.out HP.out hm 0 (by rw [plainLit_end]; rfl)).mono ?_
  rintro e w2 ⟨rfl, q', h1⟩
  have W2 : Hd (Pw w w2 gw q q' N m (bodyP plainLit plainDist l)) := ⟨Pw.after F1.out h1⟩
  clear h1
  go_wp2
  go_ret
  exact ⟨rfl, q', W2.out⟩
def lastN (b : Bool) : Nat := if b then 1 else 0
def WrPost (w w' : World) (gw N m : Nat) (q : Option Nat) (er : Int) (P : List (Nat × Nat)) : Prop := (er = 0 → ∃ q', Pw w w' gw q q' N m P) ∧ (er ≠ 0 → Fr w w' [])
end Go.Proofs.YtkdgfioigkijgaaGreat.Blk
set_option maxRecDepth 100000
set_option linter.unusedVariables false
set_option linter.unusedSimpArgs false
namespace Go.Proofs.YtkdgfioigkijgaaGreat.Bits
open Go.RowKit Go.Proofs.YtkdgfioigkijgaaGreat.Lib Go.Proofs.YtkdgfioigkijgaaGreat.Num
theorem conv_string {P : Program} {w : World} {src dst e : TypeId} {A : Option Addr} {c : Nat} {xs : List Int} {q : Option Nat} (hs : P.underlying src = some (.slice e)) (he : P.underlying e = some (.int .u8)) (hd : P.underlying dst = some .string)
    (h : Sl w A (u8s xs) q) (hA : A = none → xs.length = 0 ∧ c = 0) : (convert src dst (.slice A xs.length c)).run P w = .ok (.string (strOfNums xs)) w := by
  rcases A with _ | ad
  · obtain ⟨h0, rfl⟩ := hA rfl
    obtain rfl : xs = [] := List.eq_nil_of_length_eq_zero h0
    exact run_convert_bytes_nil w src e hs he 0 0 dst hd
  · have hl : (loadCells ad xs.length).run P w = .ok (xs.map (Value.int .u8)).toArray w := by
      have := run_loadCells_list (P := P) w ad (xs.map (Value.int .u8)) (h.news rfl)
      simpa using this
    rw [run_convert_bytes_string w src dst e _ xs.length c hs he hd, run_bytesToString w ad xs.length c xs hl, foldl_push_bytes]
    simp [strOfNums, ByteArray.empty, ByteArray.emptyWithCapacity]
    rfl
theorem str_eq {xs ys : List Int} (hx : ∀ x ∈ xs, 0 ≤ x ∧ x ≤ 255) (hy : ∀ x ∈ ys, 0 ≤ x ∧ x ≤ 255) : ((strOfNums xs).toList == (strOfNums ys).toList) = decide (xs = ys) := by
  have e : ∀ zs : List Int, (strOfNums zs).toList = zs.map fun n => UInt8.ofNat n.toNat := by
    intro zs
    rw [ByteArray.toList_eq]; simp [strOfNums]
  rw [e, e, Bool.eq_iff_iff]
  simp only [beq_iff_eq, decide_eq_true_eq]
  constructor
  · intro h
    induction xs generalizing ys with
    | nil => cases ys <;> simp_all
    | cons x xs ih =>
      cases ys with
      | nil => simp at h
      | cons y ys =>
        simp only [List.map_cons, List.cons.injEq] at h
        have h1 := hx x (by simp)
        have h2 := hy y (by simp)
        have e1 := congrArg UInt8.toNat h.1
        simp at e1
        rw [ih (fun z hz => hx z (by simp [hz])) (fun z hz => hy z (by simp [hz])) h.2]
        congr 1
        omega
  · rintro rfl; rfl
end Go.Proofs.YtkdgfioigkijgaaGreat.Bits
set_option linter.unusedVariables false
set_option linter.unusedSimpArgs false
set_option maxRecDepth 100000
namespace Go.Proofs.YtkdgfioigkijgaaGreat.Blk
open Go.RowKit Go.Proofs.YtkdgfioigkijgaaGreat.Lib Go.Proofs.YtkdgfioigkijgaaGreat.Ints Go.Proofs.YtkdgfioigkijgaaGreat.Lz Go.Proofs.YtkdgfioigkijgaaGreat.Num Go.Proofs.YtkdgfioigkijgaaGreat.Bits Go.Proofs.YtkdgfioigkijgaaGreat.Code
def ex5 : List Tok := [⟨97, 0, 0⟩]
theorem ex5_bits : totOf ([(lastN true, 1), (1, 2)] ++ bodyP plainLit plainDist ex5) = 18 ∧ numOf ([(lastN true, 1), (1, 2)] ++ bodyP plainLit plainDist ex5) = 0x044b := by decide +kernel
end Go.Proofs.YtkdgfioigkijgaaGreat.Blk
