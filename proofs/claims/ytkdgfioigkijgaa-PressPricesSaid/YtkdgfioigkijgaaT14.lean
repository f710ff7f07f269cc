/- Texts of this claim, one behind the other: PrsP, PrsA, PrsB. -/
import Derived.Test.YtkdgfioigkijgaaT01
import Derived.Test.YtkdgfioigkijgaaT02
import Derived.Test.YtkdgfioigkijgaaT03
import Derived.Test.YtkdgfioigkijgaaT04
import Derived.Test.YtkdgfioigkijgaaT05
import Derived.Test.YtkdgfioigkijgaaT06
import Derived.Test.YtkdgfioigkijgaaT07
import Derived.Test.YtkdgfioigkijgaaT08
import Derived.Test.YtkdgfioigkijgaaT09
import Derived.Test.YtkdgfioigkijgaaT10
import Derived.Test.YtkdgfioigkijgaaT11
import Derived.Test.YtkdgfioigkijgaaT12
import Derived.Test.YtkdgfioigkijgaaT13
import Derived.BigRegion
import Derived.BigQuiet
import Derived.Deep.QuietTactic
import Derived.Deep.LoopGhost
import Derived.Deep.DeepCutAuto
import Derived.KernelRfl
import Derived.Deep.RegionLaw
import Derived.Outline
import Derived.Deep.RegionHeld3
import Derived.RangeFuncNested
import Derived.RangeFuncBound
import Derived.RangeFuncCalls
import Derived.RangeFuncLeaves
import Derived.Shelf.Abstract
import Derived.Shelf.RegionOpen
import Derived.OwnWalkIn
import Derived.TacticsInMore
import Derived.LoopNIn
import Derived.LoopIn
/- Chapter 10, plain: the pieces of some tokens. No condition. -/
set_option linter.unusedVariables false
set_option linter.unusedSimpArgs false
set_option maxRecDepth 100000
namespace Go.Proofs.Ytkdgfioigkijgaa.Prs
open Go.RowKit Go.Proofs.Ytkdgfioigkijgaa.Lib Go.Proofs.Ytkdgfioigkijgaa.Ints Go.Proofs.Ytkdgfioigkijgaa.Lz Go.Proofs.Ytkdgfioigkijgaa.Num Go.Proofs.Ytkdgfioigkijgaa.Bits Go.Proofs.Ytkdgfioigkijgaa.Blk
/-- where piece j begins -/
def atN (T most j : Nat) : Nat := min (j * most) T
def lenN (T most j : Nat) : Nat := min (T - atN T most j) most
theorem at_zero (T most : Nat) : atN T most 0 = 0 := by simp [atN]
theorem at_le (T most j : Nat) : atN T most j ≤ T := Nat.min_le_right _ _
theorem at_succ (T most j : Nat) : atN T most (j + 1) = atN T most j + lenN T most j := by
  unfold lenN atN
  rw [Nat.add_mul, Nat.one_mul]
  obtain ⟨x, hx⟩ : ∃ x, x = j * most := ⟨_, rfl⟩
  rw [← hx]
  omega
def tks (l : List Tok) (most j : Nat) : List Tok := (l.drop (atN l.length most j)).take most
theorem tks_len (l : List Tok) (most j : Nat) : (tks l most j).length = lenN l.length most j := by
  unfold tks lenN
  rw [List.length_take, List.length_drop, Nat.min_comm]
theorem tks_mem {l : List Tok} {most j : Nat} {t : Tok} (h : t ∈ tks l most j) : t ∈ l := List.mem_of_mem_drop (List.mem_of_mem_take h)
theorem tks_take (l : List Tok) (most j : Nat) : l.take (atN l.length most (j + 1)) = l.take (atN l.length most j) ++ tks l most j := by
  rw [at_succ, List.take_add]
  congr 1
  unfold tks lenN
  rw [Nat.min_comm, ← List.take_take]
  congr 1
  rw [List.take_of_length_le (by rw [List.length_drop]; omega)]
theorem sizeOf_app (a b : List Tok) : Lz.sizeOf (a ++ b) = Lz.sizeOf a + Lz.sizeOf b := by unfold Lz.sizeOf; rw [List.map_append, List.sum_append]
def posN (l : List Tok) (most j : Nat) : Nat := Lz.sizeOf (l.take (atN l.length most j))
def szN (l : List Tok) (most j : Nat) : Nat := Lz.sizeOf (tks l most j)
theorem pos_zero (l : List Tok) (most : Nat) : posN l most 0 = 0 := by unfold posN; rw [at_zero]; rfl
theorem pos_succ (l : List Tok) (most j : Nat) : posN l most (j + 1) = posN l most j + szN l most j := by
  unfold posN szN
  rw [tks_take, sizeOf_app]
theorem pos_le (l : List Tok) (most j : Nat) : posN l most j ≤ Lz.sizeOf l := by
  unfold posN
  have h := sizeOf_app (l.take (atN l.length most j)) (l.drop (atN l.length most j))
  rw [List.take_append_drop] at h
  omega
/-- kind and bits of some tokens behind so many bits -/
def kdN (m : Nat) (s : List Tok) : Nat := (pickF ((m % 8 : Nat) : Int) s 3).1.toNat
def csN (m : Nat) (s : List Tok) : Nat := (costK (kdN m s) ((m % 8 : Nat) : Int) s).1.toNat
theorem plain_le {s : List Tok} (hr : ∀ t ∈ s, right t = true) (hl : LitB s) : codedN plainLit plainDist s ≤ 48 * (s.length : Nat) + 15 := by
  have h := bodyP_bits (lit := plainLit) (dist := plainDist) (check15 plainLit_check) (check15 plainDist_check) (by decide +kernel) (by decide +kernel) hr hl
  have h1 := toksP_le plainLit_check plainDist_check s hr hl
  have h2 := part_le plainLit_check 256
  have h3 : totOf (bodyP plainLit plainDist s) ≤ 48 * s.length + 15 := by
    unfold bodyP
    rw [totOf_snoc2]
    omega
  omega
theorem pick_some {m : Nat} {s : List Tok} (h : mayB s = 0) (hl : LitB s) : kdN m s < 3 ∧ (costK (kdN m s) ((m % 8 : Nat) : Int) s).2 = 0 ∧ (pickF ((m % 8 : Nat) : Int) s 3).1 = (kdN m s : Nat) ∧ (costK (kdN m s) ((m % 8 : Nat) : Int) s).1 = (csN m s : Nat) ∧ csN m s ≤ 48 * s.length + 18 := by
  have hb := pickF_best (bh := ((m % 8 : Nat) : Int)) (by omega) (by omega) h hl 3 (Nat.le_refl _)
  obtain ⟨h1, h2⟩ := hb.1 1 (by decide) rfl
  obtain ⟨j, hj, e1, e2, e3⟩ := hb.2 h1
  have hk : kdN m s = j := by unfold kdN; rw [e1]; rfl
  have hc := costK_le (bh := ((m % 8 : Nat) : Int)) (by omega) (by omega) h hl j
  have e4 : csN m s = (costK j ((m % 8 : Nat) : Int) s).1.toNat := by unfold csN; rw [hk]
  rw [hk]
  have hp := plain_le (mayB_zero h).2 hl
  have h5 : (costK 1 ((m % 8 : Nat) : Int) s).1 = 3 + codedN plainLit plainDist s := rfl
  exact ⟨hj, e2, e1, by rw [e4]; omega, by rw [e4]; omega⟩
/-- the bits ahead of piece j -/
def btN (l : List Tok) (most : Nat) : Nat → Nat
  | 0 => 0
  | j + 1 => btN l most j + csN (btN l most j) (tks l most j)
theorem tks_may {l : List Tok} (hr : ∀ t ∈ l, right t = true) {most : Nat} (hm : most ≤ 65536) (j : Nat) : mayB (tks l most j) = 0 := by
  have h1 : (tks l most j).length ≤ most := by rw [tks_len]; exact Nat.min_le_right _ _
  unfold mayB
  rw [if_neg (by omega), if_pos]
  rw [List.all_eq_true]
  exact fun t ht => hr t (tks_mem ht)
theorem tks_lit {l : List Tok} (hl : LitB l) (most j : Nat) : LitB (tks l most j) := fun t ht => hl t (tks_mem ht)
theorem bt_le {l : List Tok} (hr : ∀ t ∈ l, right t = true) (hl : LitB l) {most : Nat} (hm : most ≤ 65536) : ∀ j, btN l most j ≤ 48 * atN l.length most j + 18 * j
  | 0 => by simp [btN]
  | j + 1 => by
    have h1 := bt_le hr hl hm j
    have h2 := (pick_some (m := btN l most j) (tks_may hr hm j) (tks_lit hl most j)).2.2.2.2
    rw [tks_len] at h2
    rw [btN, at_succ]
    omega
/-- where a slice begins behind j pieces: tokens, and bytes -/
def tA (A : Option Addr) (c : Nat) (l : List Tok) (most : Nat) : Nat → Option Addr
  | 0 => A
  | j + 1 => cutA (tA A c l most j) (c - atN l.length most j) (lenN l.length most j) 3
def dA (D : Option Addr) (cd : Nat) (l : List Tok) (most : Nat) : Nat → Option Addr
  | 0 => D
  | j + 1 => cutA (dA D cd l most j) (cd - posN l most j) (szN l most j) 1
/-- the rest of a row, elements of any size -/
theorem _root_.Go.Proofs.Ytkdgfioigkijgaa.Lib.Sl.cutn {α : Type} {enc : α → List Value} {sz : Nat} (he : ∀ x, (enc x).length = sz) {w : World} {A : Option Addr} {xs : List α} {q : Option Nat} {n c k : Nat} (h : Sl w A (xs.flatMap enc) q) (hl : xs.length = n) (hnc : n ≤ c) (hk : k ≤ n) (hz : 0 < sz) : Sl w (cutA A c k sz) ((xs.drop k).flatMap enc) q := by
  intro hx
  rw [flat_len enc sz he, List.length_drop] at hx
  have hkn : k < n := by
    rcases Nat.lt_or_ge k n with h1 | h1
    · exact h1
    · rw [show xs.length - k = 0 from by omega] at hx; omega
  have hfl := flat_len enc sz he xs
  obtain ⟨b, off, rfl, hq, hc⟩ := h (by rw [hfl]; exact Nat.mul_pos (by omega) hz)
  have e : (xs.drop k).flatMap enc = (xs.flatMap enc).drop (k * sz) := by
    have hlt : ((xs.take k).flatMap enc).length = k * sz := by rw [flat_len enc sz he, List.length_take, Nat.min_eq_left (by omega)]
    have h2 : xs.flatMap enc = (xs.take k).flatMap enc ++ (xs.drop k).flatMap enc := by rw [← List.flatMap_append, List.take_append_drop]
    rw [h2, ← hlt, List.drop_left]
  refine ⟨b, off + k * sz, ?_, hq, fun j hj => ?_⟩
  · unfold cutA
    rw [if_neg (by omega)]
    simp [Addr.add_lit]
  · rw [e] at hj ⊢
    rw [List.length_drop] at hj
    rw [Nat.add_assoc, hc (k * sz + j) (by omega), List.getElem?_drop]
theorem cutA_some {A : Option Addr} {c k size : Nat} (h : cutA A c k size = none) : A = none := by
  unfold cutA at h
  split at h
  · exact h
  · simpa using h
theorem run_cut_both {P : Program} (t e : TypeId) {i : TypeInfo} (ht : P.underlying t = some (.slice e)) (hi : P.info? e = some i) (size : Nat) (hsz : i.size = size) (A : Option Addr) (n c m : Nat) (h2 : m ≤ c) :
    ∀ W : World, (Instr.slice t (.slice A n c) none (some (.int .i64 (m : Nat))) (some (.int .i64 (m : Nat)))).run P W = .ok (.slice A m m) W := by
  intro W
  have hel : P.elem t = e := by simp [Program.elem, ht]
  have hu : P.underlying t = some (.slice (P.elem t)) := by rw [hel]; exact ht
  rw [run_slice_hm W t A n c hu .i64 .i64 m m (by omega) (by omega) (by omega), hel]
  simp [_root_.Go.sizeOf, typeInfo, hi, hsz, sliced, Result.andThen]
  cases A with
  | none => intro _; rfl
  | some a => intro _; simp [Addr.add]
section
variable {w : World} {A D : Option Addr} {c cd : Nat} {l : List Tok} {d : List Int} {p pd : Option Nat} {most : Nat}
theorem tA_none (hA : A = none → l.length = 0 ∧ c = 0) : ∀ j, tA A c l most j = none → c = 0
  | 0, h => (hA h).2
  | j + 1, h => tA_none hA j (cutA_some h)
theorem dA_none (hD : D = none → d.length = 0 ∧ cd = 0) : ∀ j, dA D cd l most j = none → cd = 0
  | 0, h => (hD h).2
  | j + 1, h => dA_none hD j (cutA_some h)
theorem tA_sl (h : Sl w A (tcells l) p) (hc : l.length ≤ c) : ∀ j, Sl w (tA A c l most j) (tcells (l.drop (atN l.length most j))) p
  | 0 => by rw [at_zero]; exact h
  | j + 1 => by
    have h1 := tA_sl h hc j
    have h2 := at_le l.length most j
    have h3 := Sl.cutn (enc := tcell) (sz := 3) (fun _ => rfl) (n := l.length - atN l.length most j) (c := c - atN l.length most j) (k := lenN l.length most j) h1 (by rw [List.length_drop]) (by omega) (Nat.min_le_left _ _) (by decide)
    rw [List.drop_drop, ← at_succ] at h3
    exact h3
theorem dA_sl (h : Sl w D (u8s d) pd) (hc : d.length ≤ cd) (hs : Lz.sizeOf l = d.length) : ∀ j, Sl w (dA D cd l most j) (u8s (d.drop (posN l most j))) pd
  | 0 => by rw [pos_zero]; exact h
  | j + 1 => by
    have h1 := dA_sl h hc hs j
    have h2 := pos_le l most j
    have h4 := pos_le l most (j + 1)
    rw [pos_succ] at h4
    have h3 := h1.cut (n := d.length - posN l most j) (c := cd - posN l most j) (k := szN l most j) (by simp [u8s]) (by omega) (by omega)
    rw [pos_succ, dA]
    simpa [u8s, List.drop_drop] using h3
end
end Go.Proofs.Ytkdgfioigkijgaa.Prs
/- Chapter 10: the pieces of some bytes, one by one, handed to a loop's body. Conditions: at most 2^28 bytes. -/
set_option linter.unusedVariables false
set_option linter.unusedSimpArgs false
set_option maxRecDepth 100000
namespace Go.Proofs.Ytkdgfioigkijgaa.Prs
open Go.RowKit Go.Shelf Go.Proofs.Ytkdgfioigkijgaa.Lib Go.Proofs.Ytkdgfioigkijgaa.Ints Go.Proofs.Ytkdgfioigkijgaa.Lz Go.Proofs.Ytkdgfioigkijgaa.Num Go.Proofs.Ytkdgfioigkijgaa.Bits Go.Proofs.Ytkdgfioigkijgaa.Blk
/-- what the pieces are made of -/
structure Src (W : World) (gt gd gm : Nat) (A : Option Addr) (c : Nat) (l : List Tok) (p : Option Nat) (D : Option Addr) (cd : Nat) (d : List Int) (pd : Option Nat) (most : Nat) : Prop where
  bt : W.heap[gt]? = some (.cells #[.slice A l.length c] 45 (0, 0))
  bd : W.heap[gd]? = some (.cells #[.slice D d.length cd] 35 (0, 0))
  bm : W.heap[gm]? = some (.cells #[.int .i64 (most : Nat)] 3 (0, 0))
  tok : Sl W A (tcells l) p
  tle : l.length ≤ c
  tmax : c ≤ maxLen
  tnil : A = none → l.length = 0 ∧ c = 0
  dat : Sl W D (u8s d) pd
  dle : d.length ≤ cd
  dmax : cd ≤ maxLen
  dnil : D = none → d.length = 0 ∧ cd = 0
/-- what a round keeps -/
def Kp (gt gd gm : Nat) (p pd : Option Nat) (W W' : World) : Prop := W.heap.size ≤ W'.heap.size ∧ ∀ b, b ∈ gt :: gd :: gm :: (p.toList ++ pd.toList) → b < W.heap.size → W'.heap[b]? = W.heap[b]?
theorem Kp.trans {gt gd gm : Nat} {p pd : Option Nat} {A B C : World} (h : Kp gt gd gm p pd A B) (k : Kp gt gd gm p pd B C) : Kp gt gd gm p pd A C :=
  ⟨Nat.le_trans h.1 k.1, fun b hb hl => (k.2 b hb (Nat.lt_of_lt_of_le hl h.1)).trans (h.2 b hb hl)⟩
theorem Kp.fr {gt gd gm : Nat} {p pd : Option Nat} {A B : World} {F : List Nat} (h : Fr A B F) (hF : ∀ b, b ∈ gt :: gd :: gm :: (p.toList ++ pd.toList) → b ∉ F) : Kp gt gd gm p pd A B := ⟨h.size, fun b hb hl => h.block b hl (hF b hb)⟩
theorem sl_kp {W W' : World} {A : Option Addr} {xs : List Value} {q : Option Nat} (h : Sl W A xs q) (hk : ∀ b, q = some b → b < W.heap.size → W'.heap[b]? = W.heap[b]?) : Sl W' A xs q := by
  intro hx
  obtain ⟨b, hb, hlt⟩ := h.lt hx
  obtain ⟨b', off, rfl, rfl, hc⟩ := h hx
  cases hb
  refine ⟨b, off, rfl, rfl, fun j hj => ?_⟩
  rw [World.cell?_of_block (w := W) (hk b rfl hlt)]
  exact hc j hj
section
variable {W W' : World} {gt gd gm c cd most : Nat} {A D : Option Addr} {l : List Tok} {d : List Int} {p pd : Option Nat}
theorem Src.keep (h : Src W gt gd gm A c l p D cd d pd most) (hk : Kp gt gd gm p pd W W') : Src W' gt gd gm A c l p D cd d pd most :=
  ⟨(hk.2 gt (by simp) (blk_lt h.bt)).trans h.bt, (hk.2 gd (by simp) (blk_lt h.bd)).trans h.bd, (hk.2 gm (by simp) (blk_lt h.bm)).trans h.bm,
    sl_kp h.tok (fun b hb hl => hk.2 b (by simp [hb]) hl), h.tle, h.tmax, h.tnil, sl_kp h.dat (fun b hb hl => hk.2 b (by simp [hb]) hl), h.dle, h.dmax, h.dnil⟩
theorem Src.fr (h : Src W gt gd gm A c l p D cd d pd most) (hf : Fr W W' []) : Src W' gt gd gm A c l p D cd d pd most := h.keep (Kp.fr hf (fun _ _ => by simp))
end
theorem infoTokA : (Try.prog.info? 48).map (fun i => (i.zero, i.size, i.bytes)) = some (some (.agg #[.int .u8 0, .int .i64 0, .int .i64 0]), 3, 24) := by kernel_rfl
theorem sl_take3 {w : World} {A : Option Addr} {l : List Tok} {q : Option Nat} {n : Nat} (h : Sl w A (tcells l) q) : Sl w A (tcells (l.take n)) q := by
  have h1 := h.take (tcells (l.take n)).length
  have e : (tcells l).take (tcells (l.take n)).length = tcells (l.take n) := by
    have h2 : tcells l = tcells (l.take n) ++ tcells (l.drop n) := by rw [← tcells_app, List.take_append_drop]
    rw [h2, List.take_left]
  rw [e] at h1
  exact h1
/-- a piece that is one -/
abbrev Ix (T most : Nat) : Type := { j : Nat // j = 0 ∨ atN T most j < T }
/-- a piece as the loop's body gets it -/
def pcV (A : Option Addr) (c : Nat) (l : List Tok) (D : Option Addr) (cd most j : Nat) : Array Value :=
  #[.int .i64 (kdN (btN l most j) (tks l most j) : Nat), .int .i64 (lenN l.length most j : Nat), .int .i64 (szN l most j : Nat), .int .i64 (csN (btN l most j) (tks l most j) : Nat),
    .slice (tA A c l most j) (lenN l.length most j) (lenN l.length most j), .slice (dA D cd l most j) (szN l most j) (szN l most j), .bool (decide (atN l.length most j + lenN l.length most j = l.length))]
theorem pre_len {T most j : Nat} {pre : List (Ix T most)} (h : pre.map (·.1) = List.range j) : pre.length = j := by
  have := congrArg List.length h
  rw [List.length_map, List.length_range] at this
  exact this
theorem map_len {T most j : Nat} {pre : List (Ix T most)} (h : pre.map (·.1) = List.range j) (x : Ix T most) : (pre ++ [x]).length = j + 1 := by
  rw [List.length_append, pre_len h]; rfl
theorem pre_next {T most j : Nat} {pre : List (Ix T most)} (h : pre.map (·.1) = List.range j) (x : Ix T most) (hx : x.1 = j) : (pre ++ [x]).map (·.1) = List.range (pre ++ [x]).length := by
  rw [map_len h, List.map_append, h, List.range_succ]
  simp [hx]
set_option maxHeartbeats 16000000 in
theorem pieces1_any (l0 gt gd gm c cd most : Nat) (A D : Option Addr) (l : List Tok) (d : List Int) (p pd : Option Nat) (J Jx : List (Ix l.length most) → World → Prop) (W : World) (hJ : AbidesFrom W.heap.size J)
    (hY : ∀ pre x W1, J pre W1 → pre.length < l.length + 1 → YieldAt Fence.wide 4 Try.prog l0 #[.agg (pcV A c l D cd most x.1)] W1 fun e W' =>
      (e = .returned (.bool true) ∧ J (pre ++ [x]) W' ∧ Kp gt gd gm p pd W1 W') ∨ (e = .returned (.bool false) ∧ Jx (pre ++ [x]) W'))
    (hsrc : Src W gt gd gm A c l p D cd d pd most) (h0 : J [] W) (hr : ∀ t ∈ l, right t = true) (hl : LitB l) (hs : Lz.sizeOf l = d.length) (hm1 : 1 ≤ most) (hm2 : most ≤ 65536) (hT : l.length ≤ 268435456) (hd : d.length ≤ 268435456) :
    CallsIn Fence.wide 5 Try.prog 39 #[.func (.yield l0) #[] #[], .pointer (some ⟨gt, 0, none⟩), .pointer (some ⟨gd, 0, none⟩), .pointer (some ⟨gm, 0, none⟩)] W fun e W' => (∃ v, e = .returned v) ∧
      ((∃ xs, (xs.map (·.1) = List.range xs.length ∧ 1 ≤ xs.length ∧ l.length ≤ xs.length * most) ∧ J xs W') ∨ (∃ pre, (pre.map (·.1) = List.range pre.length) ∧ Jx pre W')) := by
  obtain ⟨i0, hi0, iz0, iz1, iz2⟩ := info_parts infoU8
  have JF : Hd (∀ pre (a b : World), J pre a → Fr a b [] → J pre b) := ⟨fun pre a b h hf => hJ pre a b none h (hf.to_grown none (fun k hk => by cases hk)) (fun r e => by cases e)⟩
  have HSR := Hd.mk hsrc
  have HJ0 := Hd.mk h0
  have HJA := Hd.mk hJ
  have HYA := Hd.mk hY
  have HR := Hd.mk (And.intro hr hl)
  have HSZ := Hd.mk hs
  clear hsrc h0 hJ hY hr hl hs
  refine callsIn_of_wp Try.func39 rfl trivial ?_ rfl
  simp only [Try.ntmps39, List.size_toArray, List.length_cons, List.length_nil, Nat.reduceAdd, Nat.reduceSub, Array.replicate_succ, Array.replicate_zero, List.push_toArray, List.append_toArray, List.nil_append, List.cons_append]
  refine wpIn_wide.2 ?_
  have k1 := blk_cell HSR.out.bt 0
  have k2 := blk_cell HSR.out.bd 0
  simp only [List.getElem?_toArray, List.getElem?_cons_zero] at k1 k2
  go_wp2
  go_region_held3 (fun w' => w'.cell? ⟨gt, 0, none⟩ = some (.slice A l.length c) ∧ w'.cell? ⟨gd, 0, none⟩ = some (.slice D d.length cd)) (go_keep) (fail)
  have z0 : (0 : Int) = ((btN l most 0 : Nat) : Int) := rfl
  go_wp2
  go_loopg [5, 6, 7, 8] (l.length + 1) (fun kq s5 s6 s7 s8 wr => ∃ (j : Nat) (pre : List (Ix l.length most)), s5 = .slice (tA A c l most j) (l.length - atN l.length most j) (c - atN l.length most j) ∧ s6 = .slice (dA D cd l most j) (d.length - posN l most j) (cd - posN l most j) ∧ s7 = .int .i64 (btN l most j : Nat) ∧ s8 = .bool (decide (j = 0)) ∧ j + kq = l.length + 1 ∧ Hd (pre.map (·.1) = List.range j) ∧ Hd (J pre wr) ∧ Hd (Src wr gt gd gm A c l p D cd d pd most) ∧ Hd (W.heap.size ≤ wr.heap.size))
  case atStart => exact ⟨0, [], by rw [at_zero]; rfl, by rw [pos_zero]; rfl, rfl, rfl, by omega, ⟨rfl⟩, ⟨JF.out _ _ _ HJ0.out (Fr.refl W []).drew⟩, ⟨HSR.out.fr (Fr.refl W []).drew⟩, ⟨Nat.le_refl _⟩⟩
  case round =>
    clear HJ0 HSR k1 k2 z0
    obtain ⟨j, pre, rfl, rfl, rfl, rfl, hj, HPR, HJJ, HS, HW⟩ := hrel
    have hat := at_le l.length most j
    have hpo := pos_le l most j
    rw [HSZ.out] at hpo
    have htle := HS.out.tle
    have hdle := HS.out.dle
    by_cases hv : j = 0 ∨ atN l.length most j < l.length
    · have ATS := Hd.mk (at_succ l.length most j)
      have POS := Hd.mk (pos_succ l most j)
      have BTS : Hd (btN l most (j + 1) = btN l most j + csN (btN l most j) (tks l most j)) := ⟨rfl⟩
      have TAS : Hd (tA A c l most (j + 1) = cutA (tA A c l most j) (c - atN l.length most j) (lenN l.length most j) 3) := ⟨rfl⟩
      have DAS : Hd (dA D cd l most (j + 1) = cutA (dA D cd l most j) (cd - posN l most j) (szN l most j) 1) := ⟨rfl⟩
      have hpo2 := pos_le l most (j + 1)
      rw [HSZ.out, POS.out] at hpo2
      have hln : lenN l.length most j = min (l.length - atN l.length most j) most := rfl
      have hlt := tks_len l most j
      have hmay := tks_may HR.out.1 hm2 j
      have hlit := tks_lit HR.out.2 most j
      have hps := pick_some (m := btN l most j) hmay hlit
      have hbt := bt_le HR.out.1 HR.out.2 hm2 j
      have SLT := Hd.mk (tA_sl (most := most) HS.out.tok HS.out.tle j)
      have TKS : Hd (tks l most j = (l.drop (atN l.length most j)).take most) := ⟨rfl⟩
      have TN := Hd.mk (tA_none (most := most) HS.out.tnil j)
      have DN := Hd.mk (dA_none (l := l) (most := most) HS.out.dnil j)
      have PCV : Hd (pcV A c l D cd most j = #[.int .i64 (kdN (btN l most j) (tks l most j) : Nat), .int .i64 (lenN l.length most j : Nat), .int .i64 (szN l most j : Nat), .int .i64 (csN (btN l most j) (tks l most j) : Nat),
    .slice (tA A c l most j) (lenN l.length most j) (lenN l.length most j), .slice (dA D cd l most j) (szN l most j) (szN l most j), .bool (decide (atN l.length most j + lenN l.length most j = l.length))]) := ⟨rfl⟩
      have SZD : Hd (szN l most j = Lz.sizeOf (tks l most j)) := ⟨rfl⟩
      have hsl : (tks l most j).length ≤ most := by rw [hlt, hln]; exact Nat.min_le_right _ _
      obtain ⟨at0, hat0⟩ : ∃ x, x = atN l.length most j := ⟨_, rfl⟩
      obtain ⟨ln, hln0⟩ : ∃ x, x = lenN l.length most j := ⟨_, rfl⟩
      obtain ⟨ps, hps0⟩ : ∃ x, x = posN l most j := ⟨_, rfl⟩
      obtain ⟨sz, hsz0⟩ : ∃ x, x = szN l most j := ⟨_, rfl⟩
      obtain ⟨bt, hbt0⟩ : ∃ x, x = btN l most j := ⟨_, rfl⟩
      obtain ⟨ta, hta⟩ : ∃ x, x = tA A c l most j := ⟨_, rfl⟩
      obtain ⟨da, hda⟩ : ∃ x, x = dA D cd l most j := ⟨_, rfl⟩
      obtain ⟨s, hs⟩ : ∃ x, x = tks l most j := ⟨_, rfl⟩
      rw [← hat0, ← hln0] at ATS TAS PCV hln
      rw [← hat0] at hat hv hbt SLT TKS ⊢
      rw [← hps0] at POS DAS hpo hpo2 ⊢
      rw [← hsz0] at POS DAS PCV SZD hpo2
      rw [← hbt0] at BTS PCV hps hbt ⊢
      rw [← hta] at TAS PCV SLT TN ⊢
      rw [← hda] at DAS PCV DN ⊢
      rw [← hs] at BTS PCV hlt hmay hlit hps SZD hsl TKS
      rw [← hln0] at hlt
      have AT0 := Hd.mk hat0
      clear hat0 hln0 hps0 hsz0 hbt0 hta hda hs
      have km := blk_cell HS.out.bm 0
      simp only [List.getElem?_toArray, List.getElem?_cons_zero] at km
      obtain ⟨fs, hfs⟩ : ∃ x, x = decide (j = 0) := ⟨_, rfl⟩
      rw [← hfs]
      have JLT : Hd (j < l.length + 1) := ⟨by
        rcases hv with h | h
        · omega
        · rw [AT0.out] at h
          unfold atN at h
          have h2 : j * most < l.length := by omega
          have h3 : j * 1 ≤ j * most := Nat.mul_le_mul_left _ hm1
          omega⟩
      have HV : Hd (j = 0 ∨ atN l.length most j < l.length) := ⟨by rw [← AT0.out]; exact hv⟩
      have HFS : Hd (fs = true ∨ at0 < l.length) := ⟨by rw [hfs]; rcases hv with h | h <;> simp [h]⟩
      clear hfs hv
      go_upto_region 2 with (fail)
      go_cut [23] from 18 to 23 (fun s23 wd => s23 = .bool true ∧ wr = wd)
      case first =>
        cases fs with
        | true =>
          go_wp2
          go_meet
          case rel => exact ⟨rfl, rfl⟩
        | false =>
          have hlI : decide (0 < l.length - at0) = true := by have := HFS.out; simp at this ⊢; omega
          go_wp2
          go_meet
          case rel => exact ⟨rfl, rfl⟩
      case rest =>
        obtain ⟨rfl, rfl⟩ := hcut
        have hmin : (if most < l.length - at0 then (most : Int) else ((l.length - at0 : Nat) : Int)) = (ln : Int) := by
          rw [hln]
          split <;> omega
        have hln1 : ln ≤ l.length - at0 := by rw [hln]; exact Nat.min_le_left _ _
        have hln2 : ln ≤ most := by rw [hln]; exact Nat.min_le_right _ _
        clear hln
        go_upto_region 5 with (fail)
        try rw [hmin]
        clear hmin
        obtain ⟨i1, hi1, jz0, jz1, jz2⟩ := info_parts infoTokA
        have hq1 := Lens.run_cut_to (P := Try.prog) 45 48 .i64 Try.underlying45 hi1 3 jz1 ta (l.length - at0) (c - at0) ln (fun h => by have := TN.out h; omega) (by omega)
        have SLP : Hd (Sl wr ta (tcells s) p) := ⟨by
          rw [TKS.out]
          exact sl_take3 SLT.out⟩
        go_wp2_with (fail)
        refine (size_any wr ta ln (c - at0) s p hlt SLP.out (by omega)).mono ?_
        rintro e w2 ⟨rfl, h2⟩
        rw [← SZD.out]
        have HS2 := Hd.mk (HS.out.fr h2)
        have HJ2 := Hd.mk (JF.out _ _ _ HJJ.out h2)
        have SLP2 := Hd.mk (SLP.out.frame h2 (by simp))
        have HW2 := Hd.mk (Nat.le_trans HW.out h2.size)
        clear h2 HS HJJ SLT SLP HW hq1 km
        go_upto_region 6 with (fail)
        have hq2 := run_cut_both (P := Try.prog) 45 48 Try.underlying45 hi1 3 jz1 ta (l.length - at0) (c - at0) ln (by omega)
        have hq3 := run_cut_both (P := Try.prog) 35 5 Try.underlying35 hi0 1 iz1 da (d.length - ps) (cd - ps) sz (by omega)
        obtain ⟨lb, hlb⟩ : ∃ x, x = decide (at0 + ln = l.length) := ⟨_, rfl⟩
        have hlbe : ((ln : Int) == ((l.length - at0 : Nat) : Int)) = lb := by rw [hlb, Bool.eq_iff_iff]; simp; omega
        rw [← hlb] at PCV
        clear hlb
        go_region_held3 (fun w' => True) (exact trivial) (fail)
        go_upto_region 7 with (fail)
        go_outline
        have hq4 := run_cut_from (P := Try.prog) 45 48 .i64 Try.underlying45 hi1 3 jz1 ta (l.length - at0) (c - at0) ln hln1
        have hq5 := run_cut_from (P := Try.prog) 35 5 .i64 Try.underlying35 hi0 1 iz1 da (d.length - ps) (cd - ps) sz (by omega)
        go_region_held3 (fun w' => True) (exact trivial) (fail)
        clear hq2 hq3 hq4 hq5
        go_upto_region 8 with (fail)
        generalize hw3 : World.drew (World.drew _) = w3
        have BZ : Hd (w3.heap[w2.heap.size]? = some (.cells #[.int .i64 0, .int .i64 0, .int .i64 0, .int .i64 0, .slice ta ln ln, .slice da sz sz, .bool lb] 69)) := ⟨by rw [← hw3]; exact blk_new _ _⟩
        have FZ : Hd (Fr w2 w3 []) := ⟨by rw [← hw3]; exact ((Fr.refl w2 []).alloc _).drew.drew⟩
        clear hw3
        obtain ⟨pz, hpz⟩ : ∃ x, x = w2.heap.size := ⟨_, rfl⟩
        rw [← hpz] at BZ ⊢
        have HPZ := Hd.mk hpz
        clear hpz
        have kz1 := blk_cell BZ.out 4
        simp only [List.getElem?_toArray, List.getElem?_cons_zero, List.getElem?_cons_succ] at kz1
        obtain ⟨bm, hbm⟩ : ∃ x, x = ((bt % 8 : Nat) : Int) := ⟨_, rfl⟩
        have hbe : (bt : Int) % 8 = bm := by rw [hbm]; omega
        have hb0 : 0 ≤ bm := by omega
        have hb7 : bm ≤ 7 := by omega
        rw [← hbm] at hps
        clear hbm
        obtain ⟨hk3, hce, hpe, hcc, hcb⟩ := hps
        obtain ⟨kd, hkd⟩ : ∃ x, x = kdN bt s := ⟨_, rfl⟩
        obtain ⟨cs, hcs⟩ : ∃ x, x = csN bt s := ⟨_, rfl⟩
        rw [← hkd] at hk3 hce hpe hcc PCV
        rw [← hcs] at hcc hcb PCV BTS
        clear hkd hcs
        have HCE := Hd.mk hce
        have HPE := Hd.mk hpe
        have HCC := Hd.mk hcc
        have HMAY := Hd.mk hmay
        have HLIT := Hd.mk hlit
        clear hce hpe hcc hmay hlit
        have SL3 : Hd (Sl w3 ta (tcells s) p) := ⟨SLP2.out.frame FZ.out (by simp)⟩
        have hlnb : ln ≤ 6000000000000 := by omega
        go_wp2_with (fail)
        try rw [hbe]
        refine (pick_any w3 bm hb0 hb7 ta ln ln s p hlt SL3.out hlnb HLIT.out (kd : Nat) 0 (by rw [if_pos HMAY.out]; exact ⟨HPE.out.symm, rfl⟩)).mono ?_
        rintro e w4 ⟨rfl, h4⟩
        have BZ4 := Hd.mk (h4.blk BZ.out (by simp))
        have FZ4 : Hd (Fr w2 w4 []) := ⟨FZ.out.trans h4 (by simp)⟩
        have SL4 : Hd (Sl w4 ta (tcells s) p) := ⟨SL3.out.frame h4 (by simp)⟩
        clear h4 BZ FZ SL3 kz1
        have kz1 := blk_cell BZ4.out 4
        simp only [List.getElem?_toArray, List.getElem?_cons_zero, List.getElem?_cons_succ] at kz1
        go_wp2_with (fail)
        try rw [hbe]
        refine (cost3_any w4 kd hk3 bm hb0 hb7 ta ln ln s p hlt SL4.out hlnb HLIT.out (cs : Nat) 0 (by rw [if_pos HMAY.out]; exact ⟨HCC.out.symm, HCE.out.symm⟩)).mono ?_
        rintro e w5 ⟨rfl, h5⟩
        have BZ5 := Hd.mk (h5.blk BZ4.out (by simp))
        have FZ5 : Hd (Fr w2 w5 []) := ⟨FZ4.out.trans h5 (by simp)⟩
        clear h5 BZ4 FZ4 SL4 kz1
        have kz0 := blk_cell BZ5.out 0
        have kz1 := blk_cell BZ5.out 1
        have kz2 := blk_cell BZ5.out 2
        have kz3 := blk_cell BZ5.out 3
        have kz4 := blk_frozen BZ5.out 0
        have kz5 := blk_frozen BZ5.out 1
        have kz6 := blk_frozen BZ5.out 2
        have kz7 := blk_frozen BZ5.out 3
        simp only [List.getElem?_toArray, List.getElem?_cons_zero, List.getElem?_cons_succ] at kz0 kz1 kz2 kz3
        go_upto_region 12 with (fail)
        generalize hw6 : World.setCell _ _ _ = w6
        have BZ6 : Hd (w6.heap[pz]? = some (.cells #[.int .i64 (kd : Nat), .int .i64 (ln : Nat), .int .i64 (sz : Nat), .int .i64 (cs : Nat), .slice ta ln ln, .slice da sz sz, .bool lb] 69)) := ⟨by rw [← hw6]; exact blk_set (blk_set (blk_set (blk_set BZ5.out 0 _) 1 _) 2 _) 3 _⟩
        have FZ6 : Hd (Fr w2 w6 []) := ⟨by
          have hp : w2.heap.size ≤ pz := by rw [HPZ.out]; exact Nat.le_refl _
          rw [← hw6]
          exact (((FZ5.out.setCell _ (.inr hp)).setCell _ (.inr hp)).setCell _ (.inr hp)).setCell _ (.inr hp)⟩
        clear hw6 kz0 kz1 kz2 kz3 kz4 kz5 kz6 kz7 BZ5 FZ5
        have HS6 := Hd.mk (HS2.out.fr FZ6.out)
        have HJ6 := Hd.mk (JF.out _ _ _ HJ2.out FZ6.out)
        have HW6 := Hd.mk (Nat.le_trans HW2.out FZ6.out.size)
        obtain ⟨fn, tmps, assign, body, hy, hR⟩ := HYA.out pre ⟨j, HV.out⟩ w6 HJ6.out (by have := congrArg List.length HPR.out; rw [List.length_map, List.length_range] at this; rw [this]; exact JLT.out)
        dsimp only at hy hR
        rw [PCV.out] at hy
        have HRR := Hd.mk hR
        clear hR
        have kz0 := blk_cell BZ6.out 0
        have kz1 := blk_cell BZ6.out 1
        have kz2 := blk_cell BZ6.out 2
        have kz3 := blk_cell BZ6.out 3
        have kz4 := blk_cell BZ6.out 4
        have kz5 := blk_cell BZ6.out 5
        have kz6 := blk_cell BZ6.out 6
        simp only [List.getElem?_toArray, List.getElem?_cons_zero, List.getElem?_cons_succ] at kz0 kz1 kz2 kz3 kz4 kz5 kz6
        refine (wpIn_wide (n := 5)).1 ?_
        gi_wp2
        clear kz0 kz1 kz2 kz3 kz4 kz5 kz6 hy
        refine HRR.out.mono ?_
        rintro e W' (⟨rfl, hJ', hk⟩ | ⟨rfl, hJx⟩)
        · have HJ7 := Hd.mk hJ'
          have HS7 := Hd.mk (HS6.out.keep hk)
          have HW7 := Hd.mk (Nat.le_trans HW6.out hk.1)
          clear hJ' hk HRR HJ6 HS6 HW6 BZ6 FZ6 HS2 HJ2 HW2
          gi_wp2
          go_wp2
          have hjl := JLT.out
          go_roundg (gk - 1)
          case measure => omega
          case rel =>
            exact ⟨j + 1, pre ++ [⟨j, HV.out⟩], by rw [TAS.out, ATS.out, Nat.sub_sub, Nat.sub_sub], by rw [DAS.out, POS.out, Nat.sub_sub, Nat.sub_sub], by rw [BTS.out]; go_num, by rw [decide_eq_false (by omega)], by omega, ⟨by rw [List.map_append, HPR.out, List.range_succ]; rfl⟩, HJ7, HS7, HW7⟩
        · have HJX := Hd.mk hJx
          clear hJx HRR HJ6 HS6 HW6 BZ6 FZ6 HS2 HJ2 HW2
          gi_wp2
          go_wp2
          (try simp only [Exit.inBlock, Exit.then])
          refine bodyPost_ret (results_none rfl _ _ _) rfl ?_
          exact ⟨⟨_, rfl⟩, .inr ⟨pre ++ [⟨j, HV.out⟩], pre_next HPR.out _ rfl, HJX.out⟩⟩
    · have hj0 : decide (j = 0) = false := by simp; omega
      have hz : l.length - atN l.length most j = 0 := by omega
      have HVV := Hd.mk hv
      rw [hj0, hz]
      clear hv hj0 hz
      go_wp2
      go_end0
      refine ⟨⟨_, rfl⟩, .inl ⟨pre, ⟨?_, ?_, ?_⟩, HJJ.out⟩⟩
      · rw [HPR.out, pre_len HPR.out]
      · rw [pre_len HPR.out]; have := HVV.out; omega
      · rw [pre_len HPR.out]
        have h := HVV.out
        unfold atN at h
        omega
end Go.Proofs.Ytkdgfioigkijgaa.Prs
/- Chapter 10: what is written of some bytes' pieces. Conditions: at most 2^27 tokens, 2^28 bytes. -/
set_option linter.unusedVariables false
set_option linter.unusedSimpArgs false
set_option maxRecDepth 100000
namespace Go.Proofs.Ytkdgfioigkijgaa.Prs
open Go.RowKit Go.Shelf Go.Proofs.Ytkdgfioigkijgaa.Lib Go.Proofs.Ytkdgfioigkijgaa.Ints Go.Proofs.Ytkdgfioigkijgaa.Lz Go.Proofs.Ytkdgfioigkijgaa.Num Go.Proofs.Ytkdgfioigkijgaa.Bits Go.Proofs.Ytkdgfioigkijgaa.Blk
/-- the bits of piece j, behind m bits -/
def blkJ (l : List Tok) (d : List Int) (most j m : Nat) : List (Nat × Nat) :=
  blockP (kdN (btN l most j) (tks l most j)) m (decide (atN l.length most j + lenN l.length most j = l.length)) ((d.drop (posN l most j)).take (szN l most j)) (tks l most j)
def PBx (l : List Tok) (d : List Int) (most : Nat) (js : List Nat) : List (Nat × Nat) := js.foldl (fun P j => P ++ blkJ l d most j (totOf P)) []
theorem PBx_snoc (l : List Tok) (d : List Int) (most : Nat) (js : List Nat) (j : Nat) : PBx l d most (js ++ [j]) = PBx l d most js ++ blkJ l d most j (totOf (PBx l d most js)) := by
  unfold PBx
  rw [List.foldl_append]
  rfl
/-- how many bits a block has at most -/
theorem blk_le {k : Int} {m : Nat} {b : Bool} {data : List Int} {l : List Tok} (hl : LitB l) (h : wrErr k data.length l = 0) : totOf (blockP k.toNat m b data l) ≤ 4000000 := by
  unfold wrErr at h
  split at h
  · cases h
  split at h
  · rename_i h1 h2; exact absurd h h2
  rename_i h1 h2
  have hz := mayB_zero (Decidable.not_not.1 h2)
  split at h
  · cases h
  split at h
  · cases h
  rename_i h3 h4
  have hds : data.length = Lz.sizeOf l := Decidable.not_not.1 h4
  obtain ⟨j, rfl⟩ := Int.eq_ofNat_of_zero_le (show 0 ≤ k by omega)
  have hc : j = 0 ∨ j = 1 ∨ j = 2 := by omega
  have hb : ∀ lit dist, Code.check lit = 0 → Code.check dist = 0 → totOf (bodyP lit dist l) ≤ 48 * 65536 + 15 := by
    intro lit dist h5 h6
    have := toksP_le h5 h6 l hz.2 hl
    have h7 := part_le h5 256
    unfold bodyP
    rw [totOf_snoc2]
    have := hz.1
    omega
  rw [Int.toNat_natCast]
  unfold blockP
  rw [totOf_app]
  have h8 : totOf [(lastN b, 1), (j, 2)] = 3 := rfl
  rcases hc with rfl | rfl | rfl
  · have h9 : ¬ 65535 < Lz.sizeOf l := fun h => h3 ⟨rfl, h⟩
    have : totOf (kindP 0 (m + 3) data l) = (8 - (m + 3) % 8) % 8 + (16 + 16) + 8 * data.length := by
      unfold kindP
      rw [if_pos rfl]
      unfold storedP
      rw [totOf_app, bytesP_tot]
      simp only [totOf]
    omega
  · have : kindP 1 (m + 3) data l = bodyP plainLit plainDist l := rfl
    rw [this]
    have := hb _ _ plainLit_check plainDist_check
    omega
  · have : kindP 2 (m + 3) data l = Head.headP (ownLit l) (ownDist l) ++ bodyP (ownLit l) (ownDist l) l := rfl
    rw [this, totOf_app]
    have := hb _ _ (ownLit_check l) (ownDist_check l)
    have := headP_tot l
    omega
theorem piece_ok {l : List Tok} {d : List Int} {most : Nat} (hr : ∀ t ∈ l, right t = true) (hl : LitB l) (hs : Lz.sizeOf l = d.length) (hm2 : most ≤ 65536) (j : Nat) :
    kdN (btN l most j) (tks l most j) < 3 ∧ ((d.drop (posN l most j)).take (szN l most j)).length = szN l most j ∧ wrErr ((kdN (btN l most j) (tks l most j) : Nat) : Int) (szN l most j) (tks l most j) = 0 ∧ mayB (tks l most j) = 0 ∧ LitB (tks l most j) := by
  have h1 := tks_may hr hm2 j
  have h2 := tks_lit hl most j
  obtain ⟨h3, h4, _⟩ := pick_some (m := btN l most j) h1 h2
  have h5 := pos_le l most (j + 1)
  rw [pos_succ, hs] at h5
  refine ⟨h3, by rw [List.length_take, List.length_drop]; omega, ?_, h1, h2⟩
  unfold wrErr
  rw [if_neg (by omega), if_neg (by rw [h1]; simp), if_neg, if_neg (by unfold szN; simp)]
  rintro ⟨h6, h7⟩
  have h8 : kdN (btN l most j) (tks l most j) = 0 := by omega
  rw [h8] at h4
  unfold costK at h4
  rw [if_pos rfl, if_pos h7] at h4
  cases h4
theorem blkJ_le {l : List Tok} {d : List Int} {most : Nat} (hr : ∀ t ∈ l, right t = true) (hl : LitB l) (hs : Lz.sizeOf l = d.length) (hm2 : most ≤ 65536) (j m : Nat) : totOf (blkJ l d most j m) ≤ 4000000 := by
  obtain ⟨h1, h2, h3, h4, h5⟩ := piece_ok hr hl hs hm2 j
  have h := blk_le (k := ((kdN (btN l most j) (tks l most j) : Nat) : Int)) (m := m) (b := decide (atN l.length most j + lenN l.length most j = l.length)) (data := (d.drop (posN l most j)).take (szN l most j)) h5 (by rw [h2]; exact h3)
  rw [Int.toNat_natCast] at h
  exact h
theorem blkJ_tot {l : List Tok} {d : List Int} {most : Nat} (hr : ∀ t ∈ l, right t = true) (hl : LitB l) (hs : Lz.sizeOf l = d.length) (hm2 : most ≤ 65536) (j : Nat) : totOf (blkJ l d most j (btN l most j)) = csN (btN l most j) (tks l most j) := by
  obtain ⟨h1, h2, h3, h4, h5⟩ := piece_ok hr hl hs hm2 j
  obtain ⟨g3, g4, g5, g6, g7⟩ := pick_some (m := btN l most j) h4 h5
  have h := blockP_bits (m := btN l most j) (b := decide (atN l.length most j + lenN l.length most j = l.length)) (data := (d.drop (posN l most j)).take (szN l most j)) h1 h4 h5 (by rw [h2]; rfl) g4
  rw [g6] at h
  unfold blkJ
  omega
theorem PBx_tot {l : List Tok} {d : List Int} {most : Nat} (hr : ∀ t ∈ l, right t = true) (hl : LitB l) (hs : Lz.sizeOf l = d.length) (hm2 : most ≤ 65536) : ∀ J, totOf (PBx l d most (List.range J)) = btN l most J
  | 0 => rfl
  | J + 1 => by
    rw [List.range_succ, PBx_snoc, totOf_app, PBx_tot hr hl hs hm2 J, blkJ_tot hr hl hs hm2 J]
    rfl
/-- what stands between two rounds -/
structure WS (w : World) (gw gb gt gd gm : Nat) (A : Option Addr) (c : Nat) (l : List Tok) (p : Option Nat) (D : Option Addr) (cd : Nat) (d : List Int) (pd : Option Nat) (most : Nat) (js : List Nat) (W : World) : Prop where
  tot : totOf (PBx l d most js) ≤ js.length * 4000000
  tl : ∃ q, Tl W gw 91 (numOf (PBx l d most js)) (totOf (PBx l d most js)) q ∧ ∀ y, q = some y → w.heap.size ≤ y
  box : W.heap[gb]? = some (.cells #[.pointer (some ⟨gw, 0, none⟩)] 87 (0, 0))
  fr : Fr w W []
  src : Src W gt gd gm A c l p D cd d pd most
  new : w.heap.size ≤ gw
  pw : ∀ b, b ∈ p.toList ++ pd.toList → b < w.heap.size
section
variable {w W W' : World} {gw gb gt gd gm c cd most : Nat} {A D : Option Addr} {l : List Tok} {d : List Int} {p pd : Option Nat} {js : List Nat}
theorem WS.keep (h : WS w gw gb gt gd gm A c l p D cd d pd most js W) {F : List Nat} (hf : Fr W W' F) (hF : ∀ k ∈ F, w.heap.size ≤ k ∧ ∃ o : Obj, W.heap[k]? = some o ∧ o.isCells = false) : WS w gw gb gt gd gm A c l p D cd d pd most js W' := by
  have hn : ∀ {k : Nat} {cs : Array Value} {t : TypeId} {fr : Nat × Nat}, W.heap[k]? = some (.cells cs t fr) → k ∉ F := fun hk hm => by
    obtain ⟨_, o, ho, hc⟩ := hF _ hm
    rw [hk] at ho
    cases ho
    cases hc
  obtain ⟨q, ht, hq⟩ := h.tl
  obtain ⟨⟨ds, hd⟩, hqq⟩ := tl_blk ht
  refine ⟨h.tot, ⟨q, ht.frame hf (hn hd) (fun y hy => by obtain ⟨es, he⟩ := hqq y hy; exact hn he), hq⟩, hf.blk h.box (hn h.box), h.fr.trans hf (fun x hx hm => absurd (hF x hm).1 (by omega)), h.src.keep (Kp.fr hf (fun b hb hm => ?_)), h.new, h.pw⟩
  simp only [List.mem_cons] at hb
  rcases hb with rfl | rfl | rfl | hb
  · exact hn h.src.bt hm
  · exact hn h.src.bd hm
  · exact hn h.src.bm hm
  · exact absurd (hF b hm).1 (by have := h.pw b hb; omega)
theorem WS.step (h : WS w gw gb gt gd gm A c l p D cd d pd most js W) {j : Nat} {q q' : Option Nat} (hq : ∀ y, q = some y → w.heap.size ≤ y)
    (hT : Tl W gw 91 (numOf (PBx l d most js)) (totOf (PBx l d most js)) q) (hP : Pw W W' gw q q' (numOf (PBx l d most js)) (totOf (PBx l d most js)) (blkJ l d most j (totOf (PBx l d most js)))) (hle : totOf (blkJ l d most j (totOf (PBx l d most js))) ≤ 4000000) (B : Nat) :
    KeepsFrom B W W' ∧ Kp gt gd gm p pd W W' ∧ WS w gw gb gt gd gm A c l p D cd d pd most (js ++ [j]) W' := by
  obtain ⟨⟨ds, hd⟩, hqq⟩ := tl_blk hT
  have hq2 : ∀ x, x ∈ gw :: q.toList → w.heap.size ≤ x := fun x hx => by
    rcases List.mem_cons.1 hx with rfl | hx
    · exact h.new
    · exact hq x (by simpa using hx)
  have hk : Kp gt gd gm p pd W W' := Kp.fr hP.fr (fun b hb => by
    simp only [List.mem_cons] at hb
    rcases hb with rfl | rfl | rfl | hb
    · exact tl_not hT h.src.bt (by decide) (by decide)
    · exact tl_not hT h.src.bd (by decide) (by decide)
    · exact tl_not hT h.src.bm (by decide) (by decide)
    · intro hm
      have := hq2 b hm
      have := h.pw b hb
      omega)
  refine ⟨⟨hP.fr.size, fun k o hB hk ho => ?_⟩, hk, ⟨?_, ⟨q', ?_, ?_⟩, tl_keep hT h.box (by decide) (by decide) hP.fr, h.fr.trans hP.fr (fun x hx hm => absurd (hq2 x hm) (by omega)), h.src.keep hk, h.new, h.pw⟩⟩
  · refine (hP.fr.block k (blk_lt hk) (fun hm => ?_)).trans hk
    rcases List.mem_cons.1 hm with rfl | hm
    · rw [hd] at hk; cases hk; cases ho
    · obtain ⟨es, he⟩ := hqq k (by simpa using hm)
      rw [he] at hk; cases hk; cases ho
  · rw [PBx_snoc, totOf_app, List.length_append, List.length_singleton, Nat.add_mul]
    have := h.tot
    omega
  · rw [PBx_snoc, totOf_app, numOf_app]
    exact hP.tl
  · intro y hy
    rcases hP.aft with e | ⟨k, e, hk⟩
    · exact hq y (by rw [← e]; exact hy)
    · rw [e] at hy; cases hy
      have := h.fr.size
      omega
end
theorem pieces_any (w : World) (D : Option Addr) (nd cd : Nat) (A : Option Addr) (n c most : Nat) :
    Calls Try.prog 26 #[.slice D nd cd, .slice A n c, .int .i64 (most : Nat)] w fun e w' => e = .returned (.func (.func 39) #[] #[.pointer (some ⟨w.heap.size + 1, 0, none⟩), .pointer (some ⟨w.heap.size, 0, none⟩), .pointer (some ⟨w.heap.size + 1 + 1, 0, none⟩)]) ∧
      w' = ((w.alloc (.cells #[.slice D nd cd] 35)).alloc (.cells #[.slice A n c] 45)).alloc (.cells #[.int .i64 (most : Nat)] 3) := by
  go_enter Try.func26, Try.ntmps26
  go_wp2
  go_ret
  exact ⟨rfl, rfl⟩
theorem u8s_take (d : List Int) (n : Nat) : u8s (d.take n) = (u8s d).take n := by unfold u8s; rw [List.map_take]
theorem Kp.put {gt gd gm : Nat} {p pd : Option Nat} {B : Nat} (hall : ∀ b, b ∈ gt :: gd :: gm :: (p.toList ++ pd.toList) → b < B) (W : World) (l : Nat) (o o' : Obj) (hl : B ≤ l) (h : W.heap[l]? = some o) (_ : o.isCells = false) (_ : o.isWalk = false) : Kp gt gd gm p pd W (W.putObj l o') :=
  ⟨by simp [World.putObj], fun b hb hlt => World.putObj_heap_other (by have := hall b hb; omega)⟩
theorem ptl_new (w : World) (T : TypeId) (hT : T ≠ 5) : Tl (w.alloc (.cells #[.slice none 0 0, .int .i64 0] T)) w.heap.size T 0 0 none :=
  ⟨_, blk_new _ _, own_nil _ _ _ _, rfl, by simp, hT⟩
theorem ws_start (w : World) (c cd most : Nat) (A D : Option Addr) (l : List Tok) (d : List Int) (p pd : Option Nat) (hA : Sl w A (tcells l) p) (hc : l.length ≤ c) (hcm : c ≤ maxLen) (hAn : A = none → l.length = 0 ∧ c = 0) (hD : Sl w D (u8s d) pd) (hdc : d.length ≤ cd) (hcd : cd ≤ maxLen) (hDn : D = none → d.length = 0 ∧ cd = 0)
    (hpw : ∀ b, b ∈ p.toList ++ pd.toList → b < w.heap.size) : WS w w.heap.size (w.heap.size + 1) (w.heap.size + 1 + 1 + 1) (w.heap.size + 1 + 1) (w.heap.size + 1 + 1 + 1 + 1) A c l p D cd d pd most []
      (((((w.alloc (.cells #[.slice none 0 0, .int .i64 0] 91)).alloc (.cells #[.pointer (some ⟨w.heap.size, 0, none⟩)] 87)).alloc (.cells #[.slice D d.length cd] 35)).alloc (.cells #[.slice A l.length c] 45)).alloc (.cells #[.int .i64 (most : Nat)] 3)) := by
  have hf : Fr w (((((w.alloc (.cells #[.slice none 0 0, .int .i64 0] 91)).alloc (.cells #[.pointer (some ⟨w.heap.size, 0, none⟩)] 87)).alloc (.cells #[.slice D d.length cd] 35)).alloc (.cells #[.slice A l.length c] 45)).alloc (.cells #[.int .i64 (most : Nat)] 3)) [] := (((((Fr.refl w []).alloc _).alloc _).alloc _).alloc _).alloc _
  have b1 := blk_new (w.alloc (.cells #[.slice none 0 0, .int .i64 0] 91)) (.cells #[.pointer (some ⟨w.heap.size, 0, none⟩)] 87)
  have b2 := blk_new ((w.alloc (.cells #[.slice none 0 0, .int .i64 0] 91)).alloc (.cells #[.pointer (some ⟨w.heap.size, 0, none⟩)] 87)) (.cells #[.slice D d.length cd] 35)
  have b3 := blk_new (((w.alloc (.cells #[.slice none 0 0, .int .i64 0] 91)).alloc (.cells #[.pointer (some ⟨w.heap.size, 0, none⟩)] 87)).alloc (.cells #[.slice D d.length cd] 35)) (.cells #[.slice A l.length c] 45)
  have b4 := blk_new ((((w.alloc (.cells #[.slice none 0 0, .int .i64 0] 91)).alloc (.cells #[.pointer (some ⟨w.heap.size, 0, none⟩)] 87)).alloc (.cells #[.slice D d.length cd] 35)).alloc (.cells #[.slice A l.length c] 45)) (.cells #[.int .i64 (most : Nat)] 3)
  have t0 : Tl (((((w.alloc (.cells #[.slice none 0 0, .int .i64 0] 91)).alloc (.cells #[.pointer (some ⟨w.heap.size, 0, none⟩)] 87)).alloc (.cells #[.slice D d.length cd] 35)).alloc (.cells #[.slice A l.length c] 45)).alloc (.cells #[.int .i64 (most : Nat)] 3)) w.heap.size 91 0 0 none :=
    (ptl_new w _ (by decide)).frame (F := []) (((((Fr.refl _ []).alloc _).alloc _).alloc _).alloc _) (by simp) (by simp)
  simp only [World.size_alloc] at b1 b2 b3 b4
  exact ⟨Nat.zero_le _, ⟨none, t0, by simp⟩, blk_alloc (blk_alloc (blk_alloc b1 _) _) _, hf,
    ⟨blk_alloc b3 _, blk_alloc (blk_alloc b2 _) _, b4, hA.frame hf (by simp), hc, hcm, hAn, hD.frame hf (by simp), hdc, hcd, hDn⟩, Nat.le_refl _, hpw⟩
theorem last_ok {T most : Nat} {xs : List (Ix T most)} (h : xs.map (fun x : Ix T most => x.1) = List.range xs.length) : xs.length = 1 ∨ (xs.length - 1) * most < T ∨ xs.length = 0 := by
  rcases Nat.eq_zero_or_pos xs.length with h0 | h0
  · exact .inr (.inr h0)
  · have hlt : xs.length - 1 < xs.length := by omega
    have h1 : (xs.map (fun x : Ix T most => x.1))[xs.length - 1]? = some (xs.length - 1) := by rw [h, List.getElem?_range hlt]
    rw [List.getElem?_map, List.getElem?_eq_getElem hlt] at h1
    have h2 : (xs[xs.length - 1]).1 = xs.length - 1 := by simpa using h1
    rcases (xs[xs.length - 1]).2 with h3 | h3
    · left; omega
    · rw [h2] at h3
      unfold atN at h3
      right; left; omega
set_option maxHeartbeats 16000000 in
theorem written_any (w : World) (c cd most : Nat) (A D : Option Addr) (l : List Tok) (d : List Int) (p pd : Option Nat) (hA : Sl w A (tcells l) p) (hc : l.length ≤ c) (hcm : c ≤ maxLen) (hAn : A = none → l.length = 0 ∧ c = 0) (hD : Sl w D (u8s d) pd) (hdc : d.length ≤ cd) (hcd : cd ≤ maxLen) (hDn : D = none → d.length = 0 ∧ cd = 0)
    (hpw : ∀ b, b ∈ p.toList ++ pd.toList → b < w.heap.size) (hby : ∀ x ∈ d, 0 ≤ x ∧ x ≤ 255) (hr : ∀ t ∈ l, right t = true) (hl : LitB l) (hs : Lz.sizeOf l = d.length) (hm1 : 1 ≤ most) (hm2 : most ≤ 65536) (hT : l.length ≤ 134217728) (hd : d.length ≤ 268435456) :
    CallsIn Fence.wide 6 Try.prog 25 #[.slice D d.length cd, .slice A l.length c, .int .i64 (most : Nat)] w fun e w' => ∃ (J : Nat) (v : Value), 1 ≤ J ∧ l.length ≤ J * most ∧ (J = 1 ∨ (J - 1) * most < l.length) ∧ e = .returned v ∧ w'.ownsRow 0 5 1 v ((btN l most J + 7) / 8) (u8s (bytesOf (numOf (PBx l d most (List.range J))) (btN l most J))) ∧ Aft w none v.ownBlock ∧ Fr w w' [] := by
  refine callsIn_of_wp_marks Try.func25 rfl trivial ?_ rfl
  simp only [Try.ntmps25, List.size_toArray, List.length_cons, List.length_nil, Nat.reduceAdd, Nat.reduceSub, Array.replicate_succ, Array.replicate_zero, List.push_toArray, List.append_toArray, List.nil_append, List.cons_append]
  gi_wp2_with (refine ⟨trivial, ?_⟩; gi_at_call 26; refine (callsIn_wide.2 (pieces_any _ D d.length cd A l.length c most)).mono ?_; rintro e w' ⟨rfl, rfl⟩)
  have HWS := ws_start w c cd most A D l d p pd hA hc hcm hAn hD hdc hcd hDn hpw
  generalize hW0 : World.alloc _ _ = W0
  rw [hW0] at HWS
  clear hW0
  have hp0 : ∀ b, b ∈ (w.heap.size + 1 + 1 + 1) :: (w.heap.size + 1 + 1) :: (w.heap.size + 1 + 1 + 1 + 1) :: (p.toList ++ pd.toList) → b < W0.heap.size := fun b hb => by
    simp only [List.mem_cons] at hb
    rcases hb with rfl | rfl | rfl | hb
    · exact blk_lt HWS.src.bt
    · exact blk_lt HWS.src.bd
    · exact blk_lt HWS.src.bm
    · exact Nat.lt_of_lt_of_le (hpw b hb) HWS.fr.size
  refine wpIn_rangeFunc_ownH rfl (by decide) (gf := 39) (lb := #[.pointer (some ⟨w.heap.size + 1 + 1 + 1, 0, none⟩), .pointer (some ⟨w.heap.size + 1 + 1, 0, none⟩), .pointer (some ⟨w.heap.size + 1 + 1 + 1 + 1, 0, none⟩)]) rfl trivial (enters_of Try.func39 (by kernel_rfl) rfl)
    (α := Ix l.length most) (encs := fun x => #[.agg (pcV A c l D cd most x.1)]) (Kp := Kp (w.heap.size + 1 + 1 + 1) (w.heap.size + 1 + 1) (w.heap.size + 1 + 1 + 1 + 1) p pd)
    (S := fun xs => xs.map (·.1) = List.range xs.length ∧ 1 ≤ xs.length ∧ l.length ≤ xs.length * most) (Sp := fun pre => pre.map (·.1) = List.range pre.length) (N := l.length + 1) (w0 := W0)
    (fun l0 J Jx W hW hJ _ hY h0 => pieces1_any l0 _ _ _ c cd most A D l d p pd J Jx W hJ hY (HWS.src.fr (Fr.ofBelow hW [])) h0 hr hl hs hm1 hm2 (by omega) hd)
    (fun h k => h.trans k) (Kp.put hp0) (Below.refl _ _) (fun _ => rfl)
    (fun (pre : List (Ix l.length most)) W => WS w w.heap.size (w.heap.size + 1) (w.heap.size + 1 + 1 + 1) (w.heap.size + 1 + 1) (w.heap.size + 1 + 1 + 1 + 1) A c l p D cd d pd most (List.map (fun x : Ix l.length most => x.1) pre) W)
    (fun _ _ _ => False)
    (fun s W W' row hs hg hr => hs.keep ((Fr.refl W row.toList).grown hg (fun k hk => .inl (by simp [hk]))) (fun k hk => by obtain ⟨h1, h2⟩ := hr k (by simpa using hk); exact ⟨Nat.le_trans HWS.fr.size h1, h2⟩))
    (fun _ _ _ _ _ hs _ _ => hs)
    HWS
    (fun x a' W => ∃ Bx, W.heap[Bx]? = some (.cells (pcV A c l D cd most x.1) 69 (0, 0)) ∧ a' = { tmps := #[.slice D d.length cd, .slice A l.length c, .int .i64 (most : Nat), undef, undef, undef, .slice none 0 0, .pointer (some ⟨w.heap.size + 1, 0, none⟩), .pointer (some ⟨Bx, 0, none⟩), .agg #[.slice none 0 0, .int .i64 0], .pointer (some ⟨w.heap.size, 0, none⟩), .slice D d.length cd, .slice A l.length c, .int .i64 (most : Nat), .func (.func 39) #[] #[.pointer (some ⟨w.heap.size + 1 + 1 + 1, 0, none⟩), .pointer (some ⟨w.heap.size + 1 + 1, 0, none⟩), .pointer (some ⟨w.heap.size + 1 + 1 + 1 + 1, 0, none⟩)], .agg (pcV A c l D cd most x.1), undef, undef, undef, undef, undef, undef, undef, undef, undef, undef, undef, undef, undef], defers := [] })
    (fun x a' _ X Y row hs hg hr => by
      obtain ⟨Bx, h1, h2⟩ := hs
      exact ⟨Bx, blk_grown hg h1 (fun e => by obtain ⟨_, o, ho, hc⟩ := hr Bx e.symm; rw [h1] at ho; cases ho; cases hc), h2⟩)
    ?assign ?body ?done ?stop
  case assign =>
    rintro l0 pre x W K hI hK
    simp only [pcV] at hK ⊢
    have SA := @Oper.semAt_some
    gi_wp2
    refine hK _ _ ((KeepsOthers.alloc _ _).from _) (Kp.fr ((Fr.refl W []).alloc _) (fun _ _ => by simp)) (hI.keep ((Fr.refl W []).alloc _) (fun _ h => by cases h)) ⟨W.heap.size, blk_new _ _, rfl⟩
  case body =>
    rintro l0 pre x a' W hl0 ⟨r, hr0⟩ hI ⟨Bx, hB, rfl⟩ hlt
    obtain ⟨j, hj⟩ := x
    simp only [pcV] at hB ⊢
    obtain ⟨q, hTl, hq⟩ := hI.tl
    obtain ⟨hk3, hdl, hwe, hmy, hlt2⟩ := piece_ok hr hl hs hm2 j
    have hpn := hI.tot
    rw [List.length_map] at hpn
    have hnw := hI.new
    have hpq : ∀ k, k ∈ p.toList ++ pd.toList → k ∉ w.heap.size :: q.toList ∧ k < W.heap.size := fun k hk => by
      have h1 := hpw k hk
      refine ⟨fun hm => ?_, Nat.lt_of_lt_of_le h1 hI.fr.size⟩
      rcases List.mem_cons.1 hm with h2 | h2
      · omega
      · have := hq k (by simpa using h2)
        omega
    have hsd := (dA_sl (most := most) hI.src.dat hdc hs j).take (szN l most j)
    rw [← u8s_take] at hsd
    have hst : Sl W (tA A c l most j) (tcells (tks l most j)) p := sl_take3 (tA_sl (most := most) hI.src.tok hc j)
    have CW := write3_any W _ hk3 (decide (atN l.length most j + lenN l.length most j = l.length)) (dA D cd l most j) (szN l most j) ((d.drop (posN l most j)).take (szN l most j)) pd hsd
      (fun hn => by rw [hdl]; have := dA_none (l := l) (most := most) hDn j hn; have h1 := pos_le l most (j + 1); rw [pos_succ, hs] at h1; omega)
      (fun y hy => hby y (List.mem_of_mem_drop (List.mem_of_mem_take hy))) (by rw [hdl]; have h1 := pos_le l most (j + 1); rw [pos_succ, hs] at h1; omega)
      (tA A c l most j) (lenN l.length most j) (lenN l.length most j) (tks l most j) p (tks_len l most j) hst (by have := tks_len l most j; have := at_le l.length most j; unfold lenN; omega) hlt2
      w.heap.size _ _ q hTl (fun k hk => hpq k (by simp [hk])) (fun k hk => hpq k (by simp [hk])) (by omega) 0 (by rw [hdl]; exact hwe.symm)
    rw [hdl] at CW
    have c0 := blk_cell hI.box 0
    have c1 := blk_cell hB 0
    have c2 := blk_cell hB 4
    have c3 := blk_cell hB 5
    have c4 := blk_cell hB 6
    simp only [List.getElem?_toArray, List.getElem?_cons_zero, List.getElem?_cons_succ] at c0 c1 c2 c3 c4
    have HI := Hd.mk hI
    have HTL := Hd.mk hTl
    have HCW := Hd.mk CW
    have HQ := Hd.mk hq
    clear hI hTl CW hq hsd hst hpq hwe hmy hlt2 hdl hB
    have SA := @Oper.semAt_some
    gi_wp2_with (refine ⟨trivial, ?_⟩; gi_at_call 37; refine (CallsIn.inRound l0 (callsIn_wide.2 HCW.out)).mono ?_; rintro e w2 ⟨rfl, hW2⟩)
    obtain ⟨q', hP⟩ := hW2.1 rfl
    obtain ⟨k1, k2, k3⟩ := HI.out.step (j := j) HQ.out HTL.out hP (blkJ_le hr hl hs hm2 j _) W0.heap.size
    refine ⟨k1, k2, ?_⟩
    dsimp only
    rw [List.map_append]
    exact k3
  case done =>
    rintro D0 xs W hD0 ⟨hS1, hS2, hS3⟩ hI hK
    have c0 := blk_cell hI.box 0
    simp only [List.getElem?_toArray, List.getElem?_cons_zero] at c0
    obtain ⟨q, hTl, hq⟩ := hI.tl
    have htt := PBx_tot hr hl hs hm2 xs.length
    have hbt := bt_le hr hl hm2 xs.length
    rw [hS1] at hTl
    rw [htt] at hTl
    have hJ : xs.length = 1 ∨ (xs.length - 1) * most < l.length := by rcases last_ok hS1 with h | h | h <;> omega
    have hJ2 : xs.length ≤ l.length + 1 := by
      rcases hJ with h | h
      · omega
      · have : (xs.length - 1) * 1 ≤ (xs.length - 1) * most := Nat.mul_le_mul_left _ hm1
        omega
    have hat := at_le l.length most xs.length
    have CB := Hd.mk (bytes_any W (by omega) hTl)
    have HI := Hd.mk hI
    have HSS := Hd.mk (And.intro hS1 (And.intro hS2 hS3))
    have HJJ := Hd.mk hJ
    clear hI hTl htt hbt hJ hS1 hS2 hS3 hq
    gi_wp2_with (refine ⟨trivial, ?_⟩; gi_at_call 38; refine (callsIn_wide.2 CB.out).mono ?_; rintro e w2 ⟨v, rfl, h1, h2, h3⟩)
    have hK2 := h3.blk hK (by simp)
    refine ⟨by simp, .inl ⟨_, _, rfl, run_takeDeferred hK2, ?_⟩⟩
    refine ⟨_, results_tmp rfl _ _ _, xs.length, v, HSS.out.2.1, HSS.out.2.2, HJJ.out, rfl, ownsRow_putObj h1 _ hK2 rfl, (Aft.refl w none).trans h2 HI.out.fr.size, ?_⟩
    exact (HI.out.fr.trans h3 (by simp)).grown (grownBy_putObj' w2 D0 _) (fun k e => by cases e; exact .inr (by have := HWS.fr.size; omega))
  case stop =>
    rintro D c pre W _ _ h _
    exact h.elim
end Go.Proofs.Ytkdgfioigkijgaa.Prs
