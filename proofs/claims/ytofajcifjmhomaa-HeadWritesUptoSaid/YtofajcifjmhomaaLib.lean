/- Plain facts on memory: what stays as it was where only some blocks have turned; slices that are read; rows of the call's own. No condition. -/
import Derived.WalkKit
import Derived.Deep.Draws
import Derived.Laws.OwnMore
import Derived.Deep.AppendLies
import Derived.OwnWalk
import Derived.Carry
import Derived.Maps.AppendAt
import Derived.Laws.AppendOwnNone
set_option maxRecDepth 100000
set_option linter.unusedVariables false
set_option linter.unusedSimpArgs false
namespace Go.Proofs.Ytofajcifjmhomaa.Lib
open Go.RowKit

/-- A fact that the walk does not look into. -/
structure Hd (p : Prop) : Prop where mk :: (out : p)

/-- Of what was there only the blocks in F may have turned. -/
structure Fr (w w' : World) (F : List Nat) : Prop where
  os : w'.os = w.os
  tape : w'.tape = w.tape
  output : w'.output = w.output
  size : w.heap.size ≤ w'.heap.size
  block : ∀ k, k < w.heap.size → k ∉ F → w'.heap[k]? = w.heap[k]?

theorem Fr.refl (w : World) (F : List Nat) : Fr w w F := ⟨rfl, rfl, rfl, Nat.le_refl _, fun _ _ _ => rfl⟩
theorem Fr.drew {w w' : World} {F : List Nat} (h : Fr w w' F) : Fr w w'.drew F := ⟨h.os, h.tape, h.output, h.size, h.block⟩
theorem Fr.drewN {w w' : World} {F : List Nat} (h : Fr w w' F) (n : Nat) : Fr w (w'.drewN n) F := ⟨h.os, h.tape, h.output, h.size, h.block⟩
theorem Fr.mono {w w' : World} {F G : List Nat} (h : Fr w w' F) (hs : ∀ k, k < w.heap.size → k ∈ F → k ∈ G) : Fr w w' G :=
  ⟨h.os, h.tape, h.output, h.size, fun k hk hG => h.block k hk fun hF => hG (hs k hk hF)⟩
theorem Fr.trans {a b c : World} {F G : List Nat} (h : Fr a b F) (k : Fr b c G) (hs : ∀ x, x < a.heap.size → x ∈ G → x ∈ F) : Fr a c F :=
  ⟨k.os.trans h.os, k.tape.trans h.tape, k.output.trans h.output, Nat.le_trans h.size k.size,
    fun x hx hF => (k.block x (Nat.lt_of_lt_of_le hx h.size) fun hG => hF (hs x hx hG)).trans (h.block x hx hF)⟩
theorem Fr.alloc {w w' : World} {F : List Nat} (h : Fr w w' F) (o : Obj) : Fr w (w'.alloc o) F :=
  ⟨h.os, h.tape, h.output, by have := h.size; simp; omega, fun k hk hF => (Below.heap_alloc w' o k (Nat.lt_of_lt_of_le hk h.size)).trans (h.block k hk hF)⟩
theorem Fr.setCell {w w' : World} {F : List Nat} (h : Fr w w' F) {a : Addr} (u : Value) (ha : a.block ∈ F ∨ w.heap.size ≤ a.block) : Fr w (w'.setCell a u) F :=
  ⟨h.os, h.tape, h.output, by have := h.size; simp; omega, fun k hk hF => (Below.heap_setCell w' a u k (by rintro rfl; rcases ha with ha | ha; exact hF ha; omega)).trans (h.block k hk hF)⟩
theorem Fr.grown {w w1 w2 : World} {F : List Nat} (h : Fr w w1 F) {row : Option Nat} (hg : w1.grownBy w2 row) (hr : ∀ k, row = some k → k ∈ F ∨ w.heap.size ≤ k) : Fr w w2 F :=
  ⟨hg.os.trans h.os, hg.tape.trans h.tape, hg.output.trans h.output, Nat.le_trans h.size hg.size, fun k hk hF => (hg.block k (Nat.lt_of_lt_of_le hk h.size) (fun e => by rcases hr k e.symm with h1 | h1; exact hF h1; omega)).trans (h.block k hk hF)⟩
theorem Fr.below {w w' : World} (h : Fr w w' []) : Below w.heap.size w w' := ⟨h.os, h.tape, h.output, h.size, fun k hk => h.block k hk (by simp)⟩
theorem Fr.ofBelow {w w' : World} (h : Below w.heap.size w w') (F : List Nat) : Fr w w' F := ⟨h.os, h.tape, h.output, h.size, fun k hk _ => h.block k hk⟩
theorem Fr.to_grown {w w' : World} {F : List Nat} (h : Fr w w' F) (row : Option Nat) (hF : ∀ k ∈ F, k < w.heap.size → some k = row) : w.grownBy w' row :=
  ⟨h.os, h.tape, h.output, h.size, fun k hk hne => h.block k hk fun hk' => hne (hF k hk' hk)⟩

theorem Fr.ofDrew {w w' : World} {F : List Nat} (h : Fr w.drew w' F) : Fr w w' F := ⟨h.os, h.tape, h.output, h.size, h.block⟩
theorem Fr.ofDrewN {w w' : World} {F : List Nat} {n : Nat} (h : Fr (w.drewN n) w' F) : Fr w w' F := ⟨h.os, h.tape, h.output, h.size, h.block⟩
theorem drew_heap (w : World) : w.drew.heap = w.heap := rfl
theorem drewN_heap (w : World) (n : Nat) : (w.drewN n).heap = w.heap := rfl
/-! ### blocks -/
theorem blk_lt {w : World} {g : Nat} {o : Obj} (h : w.heap[g]? = some o) : g < w.heap.size := (Array.getElem?_eq_some_iff.1 h).1
theorem Fr.blk {w w' : World} {F : List Nat} (h : Fr w w' F) {g : Nat} {o : Obj} (hg : w.heap[g]? = some o) (hF : g ∉ F) : w'.heap[g]? = some o := (h.block g (blk_lt hg) hF).trans hg
theorem blk_cell {w : World} {g : Nat} {cs : Array Value} {t : TypeId} {fr : Nat × Nat} (h : w.heap[g]? = some (.cells cs t fr)) (j : Nat) : w.cell? ⟨g, j, none⟩ = cs[j]? := by
  simp [World.cell?, h]
theorem blk_frozen {w : World} {g : Nat} {cs : Array Value} {t : TypeId} (h : w.heap[g]? = some (.cells cs t (0, 0))) (j : Nat) : w.frozen? ⟨g, j, none⟩ = false := by
  simp [World.frozen?, h]
theorem blk_set {w : World} {g : Nat} {cs : Array Value} {t : TypeId} {fr : Nat × Nat} (h : w.heap[g]? = some (.cells cs t fr)) (j : Nat) (u : Value) : (w.setCell ⟨g, j, none⟩ u).heap[g]? = some (.cells (cs.setIfInBounds j u) t fr) := by
  simp [World.setCell, Array.getElem?_modify, h]
theorem blk_far {w : World} {g : Nat} {o : Obj} (h : w.heap[g]? = some o) {p : Addr} (hne : g ≠ p.block) (u : Value) : (w.setCell p u).heap[g]? = some o := (Below.heap_setCell w p u g hne).trans h
theorem blk_alloc {w : World} {g : Nat} {o : Obj} (h : w.heap[g]? = some o) (o' : Obj) : (w.alloc o').heap[g]? = some o := (Below.heap_alloc w o' g (blk_lt h)).trans h
theorem blk_new (w : World) (o : Obj) : (w.alloc o).heap[w.heap.size]? = some o := heap_alloc_new w o
theorem blk_grown {w w' : World} {row : Option Nat} (hg : w.grownBy w' row) {g : Nat} {o : Obj} (h : w.heap[g]? = some o) (hne : some g ≠ row) : w'.heap[g]? = some o := (hg.block g (blk_lt h) hne).trans h
theorem blk_ne {w : World} {a b : Nat} {cs ds : Array Value} {s t : TypeId} {f e : Nat × Nat} (h : w.heap[a]? = some (.cells cs s f)) (k : w.heap[b]? = some (.cells ds t e)) (hne : s ≠ t) : a ≠ b := by
  rintro rfl
  rw [h] at k
  simp only [Option.some.injEq, Obj.cells.injEq] at k
  exact hne k.2.1

/-! ### what may have turned: an own block, or new ones -/
/-- q' is q, or lies behind what there was. -/
def Aft (w : World) (q q' : Option Nat) : Prop := q' = q ∨ ∃ k, q' = some k ∧ w.heap.size ≤ k
theorem Aft.refl (w : World) (q : Option Nat) : Aft w q q := .inl rfl
theorem Aft.trans {w w1 : World} {q q1 q2 : Option Nat} (h : Aft w q q1) (k : Aft w1 q1 q2) (hs : w.heap.size ≤ w1.heap.size) : Aft w q q2 := by
  rcases k with rfl | ⟨k, rfl, hk⟩
  · exact h
  · exact .inr ⟨k, rfl, by omega⟩
theorem Aft.mem {w : World} {q q' : Option Nat} (h : Aft w q q') {k : Nat} (hk : k ∈ q'.toList) : k ∈ q.toList ∨ w.heap.size ≤ k := by
  rcases h with rfl | ⟨j, rfl, hj⟩
  · exact .inl hk
  · simp at hk; subst hk; exact .inr hj
theorem Aft.none {w : World} {q' : Option Nat} (h : Aft w none q') {k : Nat} (hk : q' = some k) : w.heap.size ≤ k := by
  rcases h with rfl | ⟨j, rfl, hj⟩
  · cases hk
  · cases hk; exact hj

/-! ### rows of the call's own -/
section
variable {w w' : World} {base : Nat} {e : TypeId} {size n : Nat} {v : Value} {xs : List Value}
theorem own_frame (h : w.ownsRow base e size v n xs) {F : List Nat} (hf : Fr w w' F) (hF : ∀ k, v.ownBlock = some k → k ∉ F) : w'.ownsRow base e size v n xs := by
  refine ⟨h.1, ?_⟩
  rcases h.2 with h2 | ⟨g, cap, cur, rfl, hb, hh, r⟩
  · exact .inl h2
  · exact .inr ⟨g, cap, cur, rfl, hb, hf.blk hh (hF g (by simp [Value.ownBlock])), r⟩
theorem own_lt (h : w.ownsRow base e size v n xs) {k : Nat} (hk : v.ownBlock = some k) : k < w.heap.size := (h.lt k hk).2
theorem own_type (h : w.ownsRow base e size v n xs) {k : Nat} (hk : v.ownBlock = some k) : ∃ cs, w.heap[k]? = some (.cells cs e (0, 0)) := by
  rcases h.2 with ⟨rfl, _⟩ | ⟨g, cap, cur, rfl, hb, hh, r⟩
  · simp [Value.ownBlock] at hk
  · simp [Value.ownBlock] at hk; subst hk; exact ⟨cur, hh⟩
theorem own_ne (h : w.ownsRow base e size v n xs) {g : Nat} {cs : Array Value} {t : TypeId} {f : Nat × Nat} (hg : w.heap[g]? = some (.cells cs t f)) (hne : t ≠ e) : v.ownBlock ≠ some g := by
  intro hk
  obtain ⟨ds, hd⟩ := own_type h hk
  exact blk_ne hg hd hne rfl
theorem own_base (h : w.ownsRow base e size v n xs) {b : Nat} (hb : b ≤ base) : w.ownsRow b e size v n xs := by
  refine ⟨h.1, ?_⟩
  rcases h.2 with h2 | ⟨g, cap, cur, rfl, hb', r⟩
  · exact .inl h2
  · exact .inr ⟨g, cap, cur, rfl, Nat.le_trans hb hb', r⟩
/-- it is a slice, written out. -/
theorem own_slice (h : w.ownsRow base e size v n xs) : ∃ A c, v = .slice A n c ∧ n ≤ c ∧ c ≤ maxLen ∧ (0 < n → ∃ g, A = some ⟨g, 0, none⟩) := by
  rcases h.2 with ⟨rfl, rfl⟩ | ⟨g, cap, cur, rfl, hb, hh, hnc, hcm, r⟩
  · exact ⟨none, 0, rfl, Nat.le_refl _, Nat.zero_le _, fun h => absurd h (Nat.lt_irrefl 0)⟩
  · exact ⟨some ⟨g, 0, none⟩, cap, rfl, hnc, hcm, fun _ => ⟨g, rfl⟩⟩
theorem own_some (h : w.ownsRow base e size v n xs) (hn : 0 < n) : ∃ g c, v = .slice (some ⟨g, 0, none⟩) n c ∧ n ≤ c := by
  obtain ⟨A, c, rfl, hnc, _, hg⟩ := own_slice h
  obtain ⟨g, rfl⟩ := hg hn
  exact ⟨g, c, rfl, hnc⟩
theorem own_none {A : Option Addr} {c : Nat} (h : w.ownsRow base e size (.slice A n c) n xs) (hA : A = none) : n = 0 ∧ c = 0 := by
  subst hA
  rcases h.2 with ⟨h, hn⟩ | ⟨g, cap, cur, h, _⟩
  · injection h with _ _ h; exact ⟨hn, h⟩
  · cases h
theorem own_nil (w : World) (base : Nat) (e : TypeId) (size : Nat) : w.ownsRow base e size (.slice none 0 0) 0 [] := World.ownsRow_nil w base e size
theorem own_drew (h : w.ownsRow base e size v n xs) : w.drew.ownsRow base e size v n xs := h
theorem own_drewN (h : w.ownsRow base e size v n xs) (m : Nat) : (w.drewN m).ownsRow base e size v n xs := h
theorem own_setFar (h : w.ownsRow base e size v n xs) {a : Addr} (u : Value) (hne : v.ownBlock ≠ some a.block) : (w.setCell a u).ownsRow base e size v n xs :=
  own_frame h ((Fr.refl w [a.block]).setCell u (.inl (by simp))) (fun k hk => by simp; rintro rfl; exact hne hk)
end

/-! ### slices that are read: one cell an element -/
/-- A holds the cells xs; q: the block that it lies in (asked only where there is an element). -/
def Sl (w : World) (A : Option Addr) (xs : List Value) (q : Option Nat) : Prop :=
  0 < xs.length → ∃ b off, A = some ⟨b, off, none⟩ ∧ q = some b ∧ ∀ j, j < xs.length → w.cell? ⟨b, off + j, none⟩ = xs[j]?
theorem Sl.nil (w : World) (A : Option Addr) (q : Option Nat) : Sl w A [] q := fun h => absurd h (Nat.lt_irrefl 0)
theorem Sl.lt {w : World} {A : Option Addr} {xs : List Value} {q : Option Nat} (h : Sl w A xs q) (hx : 0 < xs.length) : ∃ b, q = some b ∧ b < w.heap.size := by
  obtain ⟨b, off, _, rfl, hc⟩ := h hx
  have h0 := hc 0 hx
  rw [List.getElem?_eq_getElem hx] at h0
  exact ⟨b, rfl, World.block_lt_of_cell? w _ h0⟩
theorem Sl.frame {w w' : World} {A : Option Addr} {xs : List Value} {q : Option Nat} (h : Sl w A xs q) {F : List Nat} (hf : Fr w w' F) (hF : ∀ k, q = some k → k ∉ F) : Sl w' A xs q := by
  intro hx
  obtain ⟨b, hb, hlt⟩ := h.lt hx
  obtain ⟨b', off, rfl, rfl, hc⟩ := h hx
  cases hb
  refine ⟨b, off, rfl, rfl, fun j hj => ?_⟩
  rw [World.cell?_of_block (w := w) (hf.block b hlt (hF b rfl))]
  exact hc j hj
theorem Sl.drew {w : World} {A : Option Addr} {xs : List Value} {q : Option Nat} (h : Sl w A xs q) : Sl w.drew A xs q := h
theorem Sl.drewN {w : World} {A : Option Addr} {xs : List Value} {q : Option Nat} (h : Sl w A xs q) (n : Nat) : Sl (w.drewN n) A xs q := h
theorem Sl.alloc {w : World} {A : Option Addr} {xs : List Value} {q : Option Nat} (h : Sl w A xs q) (o : Obj) : Sl (w.alloc o) A xs q := h.frame (F := []) ((Fr.refl w []).alloc o) (by simp)
theorem Sl.take {w : World} {A : Option Addr} {xs : List Value} {q : Option Nat} (h : Sl w A xs q) (n : Nat) : Sl w A (xs.take n) q := by
  intro hx
  obtain ⟨b, off, rfl, rfl, hc⟩ := h (by simp at hx; omega)
  refine ⟨b, off, rfl, rfl, fun j hj => ?_⟩
  simp at hj
  rw [hc j (by omega), List.getElem?_take, if_pos (by omega)]
theorem Sl.drop {w : World} {b off : Nat} {xs : List Value} {q : Option Nat} (h : Sl w (some ⟨b, off, none⟩) xs q) (k : Nat) : Sl w (some ⟨b, off + k, none⟩) (xs.drop k) q := by
  intro hx
  simp only [List.length_drop] at hx
  obtain ⟨b', off', e, hq, hc⟩ := h (by omega)
  cases e
  refine ⟨b, off + k, rfl, hq, fun j hj => ?_⟩
  simp only [List.length_drop] at hj
  rw [Nat.add_assoc, hc (k + j) (by omega), List.getElem?_drop]
theorem sl_of_own {w : World} {base : Nat} {e : TypeId} {A : Option Addr} {n c : Nat} {xs : List Value} (h : w.ownsRow base e 1 (.slice A n c) n xs) : Sl w A xs (Value.slice A n c).ownBlock := by
  intro hx
  rcases h.2 with ⟨h', rfl⟩ | ⟨g, cap, cur, h', hb, hh, hnc, hcm, hcs, ht⟩
  · have := h.1; simp only [Nat.zero_mul] at this; omega
  · injection h' with h1 h2 h3
    subst h1
    refine ⟨g, 0, rfl, rfl, fun j hj => ?_⟩
    rw [Nat.zero_add, blk_cell hh, ← ht, List.getElem?_take]
    have hl := h.1
    rw [if_pos (by omega)]
    simp

/-- A slice that came in: its cells, and where they lie. -/
structure SlArg (W : World) (A : Option Addr) (n c : Nat) (xs : List Value) (q : Option Nat) : Prop where
  len : xs.length = n
  le : n ≤ c
  max : c ≤ maxLen
  nil : A = none → n = 0 ∧ c = 0
  sl : Sl W A xs q
  lt : ∀ b, q = some b → b < W.heap.size
theorem SlArg.frame {w w' : World} {A : Option Addr} {n c : Nat} {xs : List Value} {q : Option Nat} (h : SlArg w A n c xs q) {F : List Nat} (hf : Fr w w' F) (hF : ∀ k, q = some k → k ∉ F) : SlArg w' A n c xs q :=
  ⟨h.len, h.le, h.max, h.nil, h.sl.frame hf hF, fun b hb => Nat.lt_of_lt_of_le (h.lt b hb) hf.size⟩
theorem spot_none {W : World} {a : Addr} {v : Value} (h : W.cell? a = some v) : a.spot = none := by
  unfold World.cell? at h
  split at h
  · split at h
    · cases h
    · rename_i hs; simpa using hs
  · cases h

/-! ### append of a slice that is read, nil and empty ones too -/
theorem Sl.news {w : World} {A : Option Addr} {xs : List Value} {q : Option Nat} (h : Sl w A xs q) {ad : Addr} (hA : A = some ad) : ∀ j u, xs[j]? = some u → w.cell? (ad.add j) = some u := by
  intro j u hu
  have hj : j < xs.length := (List.getElem?_eq_some_iff.1 hu).1
  obtain ⟨b, off, h1, _, hc⟩ := h (by omega)
  rw [hA] at h1
  cases h1
  rw [Addr.add_lit, hc j hj, hu]
theorem run_append_sl {P : Program} (w : World) (t ty e : TypeId) (base : Nat) (i : TypeInfo) (z : Value) (size bytes : Nat) (ht : P.underlying t = some (.slice e)) (hi : P.info? e = some i) (hz : i.zero = some z)
    (hsize : i.size = size) (hby : i.bytes = bytes) (hzs : z.cells.size = size) (hsz : 0 < size)
    (v : Value) (n : Nat) (xs : List Value) (hown : w.ownsRow base e size v n xs)
    (A : Option Addr) (m c : Nat) (news : List Value) (q : Option Nat) (hl : news.length = m * size) (hnews : Sl w A news q) (hA : A = none → m = 0 ∧ c = 0) (h1 : ∀ u ∈ news, u.oneCell' = true)
    (h63 : n + m ≤ maxLen) (hbytes : (n + m) * bytes ≤ 140737488355328) (hbase : base ≤ w.heap.size) :
    ∃ v' w', (Builtin.append_ #[t, t] ty #[v, .slice A m c]).run P w = .ok v' w' ∧ w'.ownsRow base e size v' (n + m) (xs ++ news) ∧ w.grownBy w' v.ownBlock ∧ Aft w v.ownBlock v'.ownBlock := by
  cases A with
  | none =>
    obtain ⟨rfl, rfl⟩ := hA rfl
    have hn0 : news = [] := List.eq_nil_of_length_eq_zero (by omega)
    subst hn0
    subst hsize
    have hrun := run_append_owned_none (P := P) (w := w) base t ty e i i.size ht hi v n xs hown
    exact ⟨v, w, hrun, by simpa using hown, World.grownBy.refl _ _, Aft.refl _ _⟩
  | some ad =>
    obtain ⟨v', w', hr, h2, h3, _, h5⟩ := run_append_own_at (P := P) w base t ty e i z size bytes ht hi hz hsize hby hzs hsz v n xs hown ad m c news hl (hnews.news rfl) h1 h63 hbytes hbase
    refine ⟨v', w', hr, h2, h3, ?_⟩
    rcases h5 with h5 | h5
    · exact .inl h5
    · exact .inr ⟨_, h5, Nat.le_refl _⟩
section
variable {P : Program} {w : World} {ops : Array Oper} {rest : List Oper} {o : Oper} {a : Act} {Q : Exit → Act → World → Prop}
theorem wpList_append_sl (hgd : o.guard = none) (s x : Operand) (t : TypeId) (ho : o.op = .call { callee := .builtin .append, args := #[s, x], argTypes := #[t, t] })
    (e : TypeId) (i : TypeInfo) (z : Value) (size bytes : Nat) (ht : P.underlying t = some (.slice e)) (hi : P.info? e = some i) (hz : i.zero = some z)
    (hsize : i.size = size) (hby : i.bytes = bytes) (hzs : z.cells.size = size) (hsz : 0 < size)
    (v : Value) (n : Nat) (xs : List Value) (hs : a.eval s = v) (hown : w.ownsRow 0 e size v n xs)
    (A : Option Addr) (m c : Nat) (news : List Value) (q : Option Nat) (hx : a.eval x = .slice A m c) (hl : news.length = m * size) (hnews : Sl w A news q) (hA : A = none → m = 0 ∧ c = 0) (h1 : ∀ u ∈ news, u.oneCell' = true)
    (h63 : n + m ≤ maxLen) (hbytes : (n + m) * bytes ≤ 140737488355328)
    (h : ∀ A' c' w', w'.ownsRow 0 e size (.slice A' (n + m) c') (n + m) (xs ++ news) → w.grownBy w' v.ownBlock → Aft w v.ownBlock (Value.slice A' (n + m) c').ownBlock → wpList P ops Q rest (a.put o.dst (.slice A' (n + m) c')) w') : wpList P ops Q (o :: rest) a w := by
  refine wpList_plain hgd fun K hK => ?_
  obtain ⟨v', w', hr, h2, h3, h4⟩ := run_append_sl (P := P) w t o.type e 0 i z size bytes ht hi hz hsize hby hzs hsz v n xs hown A m c news q hl hnews hA h1 h63 hbytes (Nat.zero_le _)
  obtain ⟨A', c', rfl, _⟩ := own_slice h2
  unfold Oper.wp execOp
  simp only [ho, resolve, invoke, builtin, Sem.run_bind, Sem.run_pure, Result.andThen_ok, List.map_toArray, List.map_cons, List.map_nil, hs, hx, hr]
  exact hK _ _ (h A' c' w' h2 h3 h4)
theorem step_append_sl {K : Act → World → Prop} {E : Prop} (hgd : o.guard = none) (s x : Operand) (t : TypeId) (ho : o.op = .call { callee := .builtin .append, args := #[s, x], argTypes := #[t, t] })
    (e : TypeId) (i : TypeInfo) (z : Value) (size bytes : Nat) (ht : P.underlying t = some (.slice e)) (hi : P.info? e = some i) (hz : i.zero = some z)
    (hsize : i.size = size) (hby : i.bytes = bytes) (hzs : z.cells.size = size) (hsz : 0 < size)
    (v : Value) (n : Nat) (xs : List Value) (hs : a.eval s = v) (hown : w.ownsRow 0 e size v n xs)
    (A : Option Addr) (m c : Nat) (news : List Value) (q : Option Nat) (hx : a.eval x = .slice A m c) (hl : news.length = m * size) (hnews : Sl w A news q) (hA : A = none → m = 0 ∧ c = 0) (h1 : ∀ u ∈ news, u.oneCell' = true)
    (h63 : n + m ≤ maxLen) (hbytes : (n + m) * bytes ≤ 140737488355328)
    (h : ∀ A' c' w', w'.ownsRow 0 e size (.slice A' (n + m) c') (n + m) (xs ++ news) → w.grownBy w' v.ownBlock → Aft w v.ownBlock (Value.slice A' (n + m) c').ownBlock → K (a.put o.dst (.slice A' (n + m) c')) w') :
    if Region.wanted o (yielded ops a.tmps) = true then Oper.wp P o a w K Q else E := by
  have hw : Region.wanted o (yielded ops a.tmps) = true := by simp [Region.wanted, hgd]
  rw [if_pos hw]
  obtain ⟨v', w', hr, h2, h3, h4⟩ := run_append_sl (P := P) w t o.type e 0 i z size bytes ht hi hz hsize hby hzs hsz v n xs hown A m c news q hl hnews hA h1 h63 hbytes (Nat.zero_le _)
  obtain ⟨A', c', rfl, _⟩ := own_slice h2
  unfold Oper.wp execOp
  simp only [ho, resolve, invoke, builtin, Sem.run_bind, Sem.run_pure, Result.andThen_ok, List.map_toArray, List.map_cons, List.map_nil, hs, hx, hr]
  exact h A' c' w' h2 h3 h4
end
/-- the cells of a block that is known whole, as a slice -/
theorem sl_of_blk {w : World} {g : Nat} {cs : Array Value} {t : TypeId} {fr : Nat × Nat} (h : w.heap[g]? = some (.cells cs t fr)) : Sl w (some ⟨g, 0, none⟩) cs.toList (some g) := by
  intro hx
  exact ⟨g, 0, rfl, rfl, fun j hj => by rw [Nat.zero_add, blk_cell h]; simp⟩

/-! ### cuts -/
/-- where 'x[k:]' begins -/
def cutA (A : Option Addr) (c k size : Nat) : Option Addr := if c = k then A else A.map (·.add (k * size))
theorem run_cut_from {P : Program} (t e : TypeId) (kl : IntKind) {i : TypeInfo} (ht : P.underlying t = some (.slice e)) (hi : P.info? e = some i) (size : Nat) (hsz : i.size = size) (A : Option Addr) (n c k : Nat) (h1 : k ≤ n) :
    ∀ W : World, (Instr.slice t (.slice A n c) (some (.int kl (k : Nat))) none none).run P W = .ok (.slice (cutA A c k size) (n - k) (c - k)) W := by
  intro W
  have hel : P.elem t = e := by simp [Program.elem, ht]
  have hu : P.underlying t = some (.slice (P.elem t)) := by rw [hel]; exact ht
  rw [run_slice_l W t A n c hu kl k (by omega) (by omega), hel]
  simp [sizeOf, typeInfo, hi, hsz, sliced, Result.andThen, cutA]
theorem run_cut_mid {P : Program} (t e : TypeId) (kl kh : IntKind) {i : TypeInfo} (ht : P.underlying t = some (.slice e)) (hi : P.info? e = some i) (size : Nat) (hsz : i.size = size) (A : Option Addr) (n c k m : Nat) (h1 : k ≤ m) (h2 : m ≤ c) :
    ∀ W : World, (Instr.slice t (.slice A n c) (some (.int kl (k : Nat))) (some (.int kh (m : Nat))) none).run P W = .ok (.slice (cutA A c k size) (m - k) (c - k)) W := by
  intro W
  have hel : P.elem t = e := by simp [Program.elem, ht]
  have hu : P.underlying t = some (.slice (P.elem t)) := by rw [hel]; exact ht
  rw [run_slice_lh W t A n c hu kl kh k m (by omega) (by omega) (by omega), hel]
  simp [sizeOf, typeInfo, hi, hsz, sliced, Result.andThen, cutA]
/-- elements of one cell -/
theorem Sl.cut {w : World} {A : Option Addr} {xs : List Value} {q : Option Nat} {n c k : Nat} (h : Sl w A xs q) (hl : xs.length = n) (hnc : n ≤ c) (hk : k ≤ n) : Sl w (cutA A c k 1) (xs.drop k) q := by
  intro hx
  simp only [List.length_drop] at hx
  obtain ⟨b, off, rfl, hq, hc⟩ := h (by omega)
  refine ⟨b, off + k, ?_, hq, fun j hj => ?_⟩
  · unfold cutA
    rw [if_neg (by omega)]
    simp [Addr.add_lit]
  · simp only [List.length_drop] at hj
    rw [Nat.add_assoc, hc (k + j) (by omega), List.getElem?_drop]
theorem cutA_none {A : Option Addr} {n c k size : Nat} (hA : A = none → n = 0 ∧ c = 0) (h : cutA A c k size = none) : n - k = 0 ∧ c - k = 0 := by
  unfold cutA at h
  split at h
  · have := hA h; omega
  · simp at h; have := hA h; omega

/-! ### rows of elements of several cells -/
theorem flat_len {α : Type} (enc : α → List Value) (sz : Nat) (h : ∀ x, (enc x).length = sz) (xs : List α) : (xs.flatMap enc).length = xs.length * sz := by
  induction xs with
  | nil => simp
  | cons x xs ih => simp [ih, h, Nat.add_mul, Nat.add_comm]
theorem flat_get {α : Type} (enc : α → List Value) (sz : Nat) (h : ∀ x, (enc x).length = sz) : ∀ (xs : List α) (i j : Nat) (hi : i < xs.length), j < sz → (xs.flatMap enc)[i * sz + j]? = (enc xs[i])[j]?
  | x :: xs, 0, j, _, hj => by simp [List.getElem?_append_left (show j < (enc x).length by rw [h]; exact hj)]
  | x :: xs, i + 1, j, hi, hj => by
    rw [List.flatMap_cons, List.getElem?_append_right (by rw [h, Nat.add_mul]; omega), h, show (i + 1) * sz + j - sz = i * sz + j from by rw [Nat.add_mul]; omega]
    simpa using flat_get enc sz h xs i j (by simpa using hi) hj
theorem Sl.row {α : Type} {enc : α → List Value} {sz : Nat} (h : ∀ x, (enc x).length = sz) {w : World} {A : Option Addr} {xs : List α} {q : Option Nat} (hs : Sl w A (xs.flatMap enc) q) {i : Nat} (hi : i < xs.length) (hz : 0 < sz) :
    ∃ b off, A = some ⟨b, off, none⟩ ∧ q = some b ∧ ∀ j, j < sz → w.cell? ⟨b, off + i * sz + j, none⟩ = (enc xs[i])[j]? := by
  have hl := flat_len enc sz h xs
  have hp : 0 < xs.length * sz := Nat.mul_pos (by omega) hz
  obtain ⟨b, off, hA, hq, hc⟩ := hs (by omega)
  refine ⟨b, off, hA, hq, fun j hj => ?_⟩
  have h1 : (i + 1) * sz ≤ xs.length * sz := Nat.mul_le_mul_right _ hi
  rw [Nat.add_mul] at h1
  rw [Nat.add_assoc, hc _ (by omega), flat_get enc sz h xs i j hi hj]
end Go.Proofs.Ytofajcifjmhomaa.Lib
