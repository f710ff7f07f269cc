import Derived.Test.YtkdgfioigkijgaaGreatW01
import Derived.WalkKit
import Derived.Deep.Draws
import Derived.Laws.OwnMore
import Derived.Deep.AppendLies
import Derived.OwnWalk
import Derived.Carry
import Derived.Maps.AppendAt
import Derived.Laws.AppendOwnNone
import Derived.Test.YtkdgfioigkijgaaGreatRows
import Derived.ProofKit
import Derived.OpenShut
import Derived.Deep.Slices
import Derived.SizedLaws
import Derived.Test.YtkdgfioigkijgaaGreatProg
import Derived.BigRegion
import Derived.BigQuiet
import Derived.Deep.QuietTactic
import Derived.Deep.LoopGhost
import Derived.Deep.DeepCutAuto
import Derived.KernelRfl
import Derived.Deep.RegionLaw
import Derived.Outline
import Derived.IntWalk
import Derived.Laws.Tables
set_option maxRecDepth 100000
set_option linter.unusedVariables false
set_option linter.unusedSimpArgs false
namespace Go.Proofs.YtkdgfioigkijgaaGreat.Lib
open Go.RowKit
structure Hd (p : Prop) : Prop where mk :: (out : p)
structure Fr (w w' : World) (F : List Nat) : Prop where
  os : w'.os = w.os
  tape : w'.tape = w.tape
  output : w'.output = w.output
  size : w.heap.size ≤ w'.heap.size
  block : ∀ k, k < w.heap.size → k ∉ F → w'.heap[k]? = w.heap[k]?
theorem Fr.refl (w : World) (F : List Nat) : Fr w w F := ⟨rfl, rfl, rfl, Nat.le_refl _, fun _ _ _ => rfl⟩
theorem Fr.drew {w w' : World} {F : List Nat} (h : Fr w w' F) : Fr w w'.drew F := ⟨h.os, h.tape, h.output, h.size, h.block⟩
theorem Fr.drewN {w w' : World} {F : List Nat} (h : Fr w w' F) (n : Nat) : Fr w (w'.drewN n) F := ⟨h.os, h.tape, h.output, h.size, h.block⟩
theorem Fr.mono {w w' : World} {F G : List Nat} (h : Fr w w' F) (hs : ∀ k, k < w.heap.size → k ∈ F → k ∈ G) : Fr w w' G :=
  ⟨h.os, h.tape, h.output, h.size, fun k hk hG => h.block k hk fun hF => hG (hs k hk hF)⟩
theorem Fr.trans {a b c : World} {F G : List Nat} (h : Fr a b F) (k : Fr b c G) (hs : ∀ x, x < a.heap.size → x ∈ G → x ∈ F) : Fr a c F :=
  ⟨k.os.trans h.os, k.tape.trans h.tape, k.output.trans h.output, Nat.le_trans h.size k.size,
    fun x hx hF => (k.block x (Nat.lt_of_lt_of_le hx h.size) fun hG => hF (hs x hx hG)).trans (h.block x hx hF)⟩
theorem Fr.alloc {w w' : World} {F : List Nat} (h : Fr w w' F) (o : Obj) : Fr w (w'.alloc o) F :=
  ⟨h.os, h.tape, h.output, by have := h.size; simp; omega, fun k hk hF => (Below.heap_alloc w' o k (Nat.lt_of_lt_of_le hk h.size)).trans (h.block k hk hF)⟩
theorem Fr.setCell {w w' : World} {F : List Nat} (h : Fr w w' F) {a : Addr} (u : Value) (ha : a.block ∈ F ∨ w.heap.size ≤ a.block) : Fr w (w'.setCell a u) F :=
  ⟨h.os, h.tape, h.output, by have := h.size; simp; omega, fun k hk hF => (Below.heap_setCell w' a u k (by rintro rfl; rcases ha with ha | ha; exact hF ha; omega)).trans (h.block k hk hF)⟩
theorem Fr.grown {w w1 w2 : World} {F : List Nat} (h : Fr w w1 F) {row : Option Nat} (hg : w1.grownBy w2 row) (hr : ∀ k, row = some k → k ∈ F ∨ w.heap.size ≤ k) : Fr w w2 F :=
  ⟨hg.os.trans h.os, hg.tape.trans h.tape, hg.output.trans h.output, Nat.le_trans h.size hg.size, fun k hk hF => (hg.block k (Nat.lt_of_lt_of_le hk h.size) (fun e => by rcases hr k e.symm with h1 | h1; exact hF h1; omega)).trans (h.block k hk hF)⟩
theorem Fr.below {w w' : World} (h : Fr w w' []) : Below w.heap.size w w' := ⟨h.os, h.tape, h.output, h.size, fun k hk => h.block k hk (by simp)⟩
theorem Fr.ofBelow {w w' : World} (h : Below w.heap.size w w') (F : List Nat) : Fr w w' F := ⟨h.os, h.tape, h.output, h.size, fun k hk _ => h.block k hk⟩
theorem Fr.to_grown {w w' : World} {F : List Nat} (h : Fr w w' F) (row : Option Nat) (hF : ∀ k ∈ F, k < w.heap.size → some k = row) : w.grownBy w' row :=
  ⟨h.os, h.tape, h.output, h.size, fun k hk hne => h.block k hk fun hk' => hne (hF k hk' hk)⟩
theorem Fr.ofDrew {w w' : World} {F : List Nat} (h : Fr w.drew w' F) : Fr w w' F := ⟨h.os, h.tape, h.output, h.size, h.block⟩
theorem drew_heap (w : World) : w.drew.heap = w.heap := rfl
theorem blk_lt {w : World} {g : Nat} {o : Obj} (h : w.heap[g]? = some o) : g < w.heap.size := (Array.getElem?_eq_some_iff.1 h).1
theorem Fr.blk {w w' : World} {F : List Nat} (h : Fr w w' F) {g : Nat} {o : Obj} (hg : w.heap[g]? = some o) (hF : g ∉ F) : w'.heap[g]? = some o := (h.block g (blk_lt hg) hF).trans hg
theorem blk_cell {w : World} {g : Nat} {cs : Array Value} {t : TypeId} {fr : Nat × Nat} (h : w.heap[g]? = some (.cells cs t fr)) (j : Nat) : w.cell? ⟨g, j, none⟩ = cs[j]? := by
  simp [World.cell?, h]
theorem blk_frozen {w : World} {g : Nat} {cs : Array Value} {t : TypeId} (h : w.heap[g]? = some (.cells cs t (0, 0))) (j : Nat) : w.frozen? ⟨g, j, none⟩ = false := by
  simp [World.frozen?, h]
theorem blk_set {w : World} {g : Nat} {cs : Array Value} {t : TypeId} {fr : Nat × Nat} (h : w.heap[g]? = some (.cells cs t fr)) (j : Nat) (u : Value) : (w.setCell ⟨g, j, none⟩ u).heap[g]? = some (.cells (cs.setIfInBounds j u) t fr) := by
  simp [World.setCell, Array.getElem?_modify, h]
theorem blk_far {w : World} {g : Nat} {o : Obj} (h : w.heap[g]? = some o) {p : Addr} (hne : g ≠ p.block) (u : Value) : (w.setCell p u).heap[g]? = some o := (Below.heap_setCell w p u g hne).trans h
theorem blk_alloc {w : World} {g : Nat} {o : Obj} (h : w.heap[g]? = some o) (o' : Obj) : (w.alloc o').heap[g]? = some o := (Below.heap_alloc w o' g (blk_lt h)).trans h
theorem blk_new (w : World) (o : Obj) : (w.alloc o).heap[w.heap.size]? = some o := heap_alloc_new w o
theorem blk_grown {w w' : World} {row : Option Nat} (hg : w.grownBy w' row) {g : Nat} {o : Obj} (h : w.heap[g]? = some o) (hne : some g ≠ row) : w'.heap[g]? = some o := (hg.block g (blk_lt h) hne).trans h
theorem blk_ne {w : World} {a b : Nat} {cs ds : Array Value} {s t : TypeId} {f e : Nat × Nat} (h : w.heap[a]? = some (.cells cs s f)) (k : w.heap[b]? = some (.cells ds t e)) (hne : s ≠ t) : a ≠ b := by
  rintro rfl
  rw [h] at k
  simp only [Option.some.injEq, Obj.cells.injEq] at k
  exact hne k.2.1
def Aft (w : World) (q q' : Option Nat) : Prop := q' = q ∨ ∃ k, q' = some k ∧ w.heap.size ≤ k
theorem Aft.refl (w : World) (q : Option Nat) : Aft w q q := .inl rfl
theorem Aft.trans {w w1 : World} {q q1 q2 : Option Nat} (h : Aft w q q1) (k : Aft w1 q1 q2) (hs : w.heap.size ≤ w1.heap.size) : Aft w q q2 := by
  rcases k with rfl | ⟨k, rfl, hk⟩
  · exact h
  · exact .inr ⟨k, rfl, by omega⟩
theorem Aft.mem {w : World} {q q' : Option Nat} (h : Aft w q q') {k : Nat} (hk : k ∈ q'.toList) : k ∈ q.toList ∨ w.heap.size ≤ k := by
  rcases h with rfl | ⟨j, rfl, hj⟩
  · exact .inl hk
  · simp at hk; subst hk; exact .inr hj
theorem Aft.none {w : World} {q' : Option Nat} (h : Aft w none q') {k : Nat} (hk : q' = some k) : w.heap.size ≤ k := by
  rcases h with rfl | ⟨j, rfl, hj⟩
  · cases hk
  · cases hk; exact hj
section
variable {w w' : World} {base : Nat} {e : TypeId} {size n : Nat} {v : Value} {xs : List Value}
theorem own_frame (h : w.ownsRow base e size v n xs) {F : List Nat} (hf : Fr w w' F) (hF : ∀ k, v.ownBlock = some k → k ∉ F) : w'.ownsRow base e size v n xs := by
  refine ⟨h.1, ?_⟩
  rcases h.2 with h2 | ⟨g, cap, cur, rfl, hb, hh, r⟩
  · exact .inl h2
  · exact .inr ⟨g, cap, cur, rfl, hb, hf.blk hh (hF g (by simp [Value.ownBlock])), r⟩
theorem own_lt (h : w.ownsRow base e size v n xs) {k : Nat} (hk : v.ownBlock = some k) : k < w.heap.size := (h.lt k hk).2
theorem own_type (h : w.ownsRow base e size v n xs) {k : Nat} (hk : v.ownBlock = some k) : ∃ cs, w.heap[k]? = some (.cells cs e (0, 0)) := by
  rcases h.2 with ⟨rfl, _⟩ | ⟨g, cap, cur, rfl, hb, hh, r⟩
  · simp [Value.ownBlock] at hk
  · simp [Value.ownBlock] at hk; subst hk; exact ⟨cur, hh⟩
theorem own_ne (h : w.ownsRow base e size v n xs) {g : Nat} {cs : Array Value} {t : TypeId} {f : Nat × Nat} (hg : w.heap[g]? = some (.cells cs t f)) (hne : t ≠ e) : v.ownBlock ≠ some g := by
  intro hk
  obtain ⟨ds, hd⟩ := own_type h hk
  exact blk_ne hg hd hne rfl
theorem own_slice (h : w.ownsRow base e size v n xs) : ∃ A c, v = .slice A n c ∧ n ≤ c ∧ c ≤ maxLen ∧ (0 < n → ∃ g, A = some ⟨g, 0, none⟩) := by
  rcases h.2 with ⟨rfl, rfl⟩ | ⟨g, cap, cur, rfl, hb, hh, hnc, hcm, r⟩
  · exact ⟨none, 0, rfl, Nat.le_refl _, Nat.zero_le _, fun h => absurd h (Nat.lt_irrefl 0)⟩
  · exact ⟨some ⟨g, 0, none⟩, cap, rfl, hnc, hcm, fun _ => ⟨g, rfl⟩⟩
theorem own_some (h : w.ownsRow base e size v n xs) (hn : 0 < n) : ∃ g c, v = .slice (some ⟨g, 0, none⟩) n c ∧ n ≤ c := by
  obtain ⟨A, c, rfl, hnc, _, hg⟩ := own_slice h
  obtain ⟨g, rfl⟩ := hg hn
  exact ⟨g, c, rfl, hnc⟩
theorem own_none {A : Option Addr} {c : Nat} (h : w.ownsRow base e size (.slice A n c) n xs) (hA : A = none) : n = 0 ∧ c = 0 := by
  subst hA
  rcases h.2 with ⟨h, hn⟩ | ⟨g, cap, cur, h, _⟩
  · injection h with _ _ h; exact ⟨hn, h⟩
  · cases h
theorem own_nil (w : World) (base : Nat) (e : TypeId) (size : Nat) : w.ownsRow base e size (.slice none 0 0) 0 [] := World.ownsRow_nil w base e size
theorem own_setFar (h : w.ownsRow base e size v n xs) {a : Addr} (u : Value) (hne : v.ownBlock ≠ some a.block) : (w.setCell a u).ownsRow base e size v n xs :=
  own_frame h ((Fr.refl w [a.block]).setCell u (.inl (by simp))) (fun k hk => by simp; rintro rfl; exact hne hk)
end
def Sl (w : World) (A : Option Addr) (xs : List Value) (q : Option Nat) : Prop :=
  0 < xs.length → ∃ b off, A = some ⟨b, off, none⟩ ∧ q = some b ∧ ∀ j, j < xs.length → w.cell? ⟨b, off + j, none⟩ = xs[j]?
theorem Sl.nil (w : World) (A : Option Addr) (q : Option Nat) : Sl w A [] q := fun h => absurd h (Nat.lt_irrefl 0)
theorem Sl.lt {w : World} {A : Option Addr} {xs : List Value} {q : Option Nat} (h : Sl w A xs q) (hx : 0 < xs.length) : ∃ b, q = some b ∧ b < w.heap.size := by
  obtain ⟨b, off, _, rfl, hc⟩ := h hx
  have h0 := hc 0 hx
  rw [List.getElem?_eq_getElem hx] at h0
  exact ⟨b, rfl, World.block_lt_of_cell? w _ h0⟩
theorem Sl.frame {w w' : World} {A : Option Addr} {xs : List Value} {q : Option Nat} (h : Sl w A xs q) {F : List Nat} (hf : Fr w w' F) (hF : ∀ k, q = some k → k ∉ F) : Sl w' A xs q := by
  intro hx
  obtain ⟨b, hb, hlt⟩ := h.lt hx
  obtain ⟨b', off, rfl, rfl, hc⟩ := h hx
  cases hb
  refine ⟨b, off, rfl, rfl, fun j hj => ?_⟩
  rw [World.cell?_of_block (w := w) (hf.block b hlt (hF b rfl))]
  exact hc j hj
theorem Sl.drew {w : World} {A : Option Addr} {xs : List Value} {q : Option Nat} (h : Sl w A xs q) : Sl w.drew A xs q := h
theorem Sl.drewN {w : World} {A : Option Addr} {xs : List Value} {q : Option Nat} (h : Sl w A xs q) (n : Nat) : Sl (w.drewN n) A xs q := h
theorem Sl.alloc {w : World} {A : Option Addr} {xs : List Value} {q : Option Nat} (h : Sl w A xs q) (o : Obj) : Sl (w.alloc o) A xs q := h.frame (F := []) ((Fr.refl w []).alloc o) (by simp)
theorem Sl.take {w : World} {A : Option Addr} {xs : List Value} {q : Option Nat} (h : Sl w A xs q) (n : Nat) : Sl w A (xs.take n) q := by
  intro hx
  obtain ⟨b, off, rfl, rfl, hc⟩ := h (by simp at hx; omega)
  refine ⟨b, off, rfl, rfl, fun j hj => ?_⟩
  simp at hj
  rw [hc j (by omega), List.getElem?_take, if_pos (by omega)]
theorem Sl.drop {w : World} {b off : Nat} {xs : List Value} {q : Option Nat} (h : Sl w (some ⟨b, off, none⟩) xs q) (k : Nat) : Sl w (some ⟨b, off + k, none⟩) (xs.drop k) q := by
  intro hx
  simp only [List.length_drop] at hx
  obtain ⟨b', off', e, hq, hc⟩ := h (by omega)
  cases e
  refine ⟨b, off + k, rfl, hq, fun j hj => ?_⟩
  simp only [List.length_drop] at hj
  rw [Nat.add_assoc, hc (k + j) (by omega), List.getElem?_drop]
theorem sl_of_own {w : World} {base : Nat} {e : TypeId} {A : Option Addr} {n c : Nat} {xs : List Value} (h : w.ownsRow base e 1 (.slice A n c) n xs) : Sl w A xs (Value.slice A n c).ownBlock := by
  intro hx
  rcases h.2 with ⟨h', rfl⟩ | ⟨g, cap, cur, h', hb, hh, hnc, hcm, hcs, ht⟩
  · have := h.1; simp only [Nat.zero_mul] at this; omega
  · injection h' with h1 h2 h3
    subst h1
    refine ⟨g, 0, rfl, rfl, fun j hj => ?_⟩
    rw [Nat.zero_add, blk_cell hh, ← ht, List.getElem?_take]
    have hl := h.1
    rw [if_pos (by omega)]
    simp
structure SlArg (W : World) (A : Option Addr) (n c : Nat) (xs : List Value) (q : Option Nat) : Prop where
  len : xs.length = n
  le : n ≤ c
  max : c ≤ maxLen
  nil : A = none → n = 0 ∧ c = 0
  sl : Sl W A xs q
  lt : ∀ b, q = some b → b < W.heap.size
theorem SlArg.frame {w w' : World} {A : Option Addr} {n c : Nat} {xs : List Value} {q : Option Nat} (h : SlArg w A n c xs q) {F : List Nat} (hf : Fr w w' F) (hF : ∀ k, q = some k → k ∉ F) : SlArg w' A n c xs q :=
  ⟨h.len, h.le, h.max, h.nil, h.sl.frame hf hF, fun b hb => Nat.lt_of_lt_of_le (h.lt b hb) hf.size⟩
theorem spot_none {W : World} {a : Addr} {v : Value} (h : W.cell? a = some v) : a.spot = none := by
  unfold World.cell? at h
  split at h
  · split at h
    · cases h
    · rename_i hs; simpa using hs
  · cases h
theorem Sl.news {w : World} {A : Option Addr} {xs : List Value} {q : Option Nat} (h : Sl w A xs q) {ad : Addr} (hA : A = some ad) : ∀ j u, xs[j]? = some u → w.cell? (ad.add j) = some u := by
  intro j u hu
  have hj : j < xs.length := (List.getElem?_eq_some_iff.1 hu).1
  obtain ⟨b, off, h1, _, hc⟩ := h (by omega)
  rw [hA] at h1
  cases h1
  rw [Addr.add_lit, hc j hj, hu]
theorem run_append_sl {P : Program} (w : World) (t ty e : TypeId) (base : Nat) (i : TypeInfo) (z : Value) (size bytes : Nat) (ht : P.underlying t = some (.slice e)) (hi : P.info? e = some i) (hz : i.zero = some z)
    (hsize : i.size = size) (hby : i.bytes = bytes) (hzs : z.cells.size = size) (hsz : 0 < size)
    (v : Value) (n : Nat) (xs : List Value) (hown : w.ownsRow base e size v n xs)
    (A : Option Addr) (m c : Nat) (news : List Value) (q : Option Nat) (hl : news.length = m * size) (hnews : Sl w A news q) (hA : A = none → m = 0 ∧ c = 0) (h1 : ∀ u ∈ news, u.oneCell' = true)
    (h63 : n + m ≤ maxLen) (hbytes : (n + m) * bytes ≤ 140737488355328) (hbase : base ≤ w.heap.size) :
    ∃ v' w', (Builtin.append_ #[t, t] ty #[v, .slice A m c]).run P w = .ok v' w' ∧ w'.ownsRow base e size v' (n + m) (xs ++ news) ∧ w.grownBy w' v.ownBlock ∧ Aft w v.ownBlock v'.ownBlock := by
  cases A with
  | none =>
    obtain ⟨rfl, rfl⟩ := hA rfl
    have hn0 : news = [] := List.eq_nil_of_length_eq_zero (by omega)
    subst hn0
    subst hsize
    have hrun := run_append_owned_none (P := P) (w := w) base t ty e i i.size ht hi v n xs hown
    exact ⟨v, w, hrun, by simpa using hown, World.grownBy.refl _ _, Aft.refl _ _⟩
  | some ad =>
    obtain ⟨v', w', hr, h2, h3, _, h5⟩ := run_append_own_at (P := P) w base t ty e i z size bytes ht hi hz hsize hby hzs hsz v n xs hown ad m c news hl (hnews.news rfl) h1 h63 hbytes hbase
    refine ⟨v', w', hr, h2, h3, ?_⟩
    rcases h5 with h5 | h5
    · exact .inl h5
    · exact .inr ⟨_, h5, Nat.le_refl _⟩
section
variable {P : Program} {w : World} {ops : Array Oper} {rest : List Oper} {o : Oper} {a : Act} {Q : Exit → Act → World → Prop}
theorem wpList_append_sl (hgd : o.guard = none) (s x : Operand) (t : TypeId) (ho : o.op = .call { callee := .builtin .append, args := #[s, x], argTypes := #[t, t] })
    (e : TypeId) (i : TypeInfo) (z : Value) (size bytes : Nat) (ht : P.underlying t = some (.slice e)) (hi : P.info? e = some i) (hz : i.zero = some z)
    (hsize : i.size = size) (hby : i.bytes = bytes) (hzs : z.cells.size = size) (hsz : 0 < size)
    (v : Value) (n : Nat) (xs : List Value) (hs : a.eval s = v) (hown : w.ownsRow 0 e size v n xs)
    (A : Option Addr) (m c : Nat) (news : List Value) (q : Option Nat) (hx : a.eval x = .slice A m c) (hl : news.length = m * size) (hnews : Sl w A news q) (hA : A = none → m = 0 ∧ c = 0) (h1 : ∀ u ∈ news, u.oneCell' = true)
    (h63 : n + m ≤ maxLen) (hbytes : (n + m) * bytes ≤ 140737488355328)
    (h : ∀ A' c' w', w'.ownsRow 0 e size (.slice A' (n + m) c') (n + m) (xs ++ news) → w.grownBy w' v.ownBlock → Aft w v.ownBlock (Value.slice A' (n + m) c').ownBlock → wpList P ops Q rest (a.put o.dst (.slice A' (n + m) c')) w') : wpList P ops Q (o :: rest) a w := by
  refine wpList_plain hgd fun K hK => ?_
  obtain ⟨v', w', hr, h2, h3, h4⟩ := run_append_sl (P := P) w t o.type e 0 i z size bytes ht hi hz hsize hby hzs hsz v n xs hown A m c news q hl hnews hA h1 h63 hbytes (Nat.zero_le _)
  obtain ⟨A', c', rfl, _⟩ := own_slice h2
  unfold Oper.wp execOp
  simp only [ho, resolve, invoke, builtin, Sem.run_bind, Sem.run_pure, Result.andThen_ok, List.map_toArray, List.map_cons, List.map_nil, hs, hx, hr]
  exact hK _ _ (h A' c' w' h2 h3 h4)
theorem step_append_sl {K : Act → World → Prop} {E : Prop} (hgd : o.guard = none) (s x : Operand) (t : TypeId) (ho : o.op = .call { callee := .builtin .append, args := #[s, x], argTypes := #[t, t] })
    (e : TypeId) (i : TypeInfo) (z : Value) (size bytes : Nat) (ht : P.underlying t = some (.slice e)) (hi : P.info? e = some i) (hz : i.zero = some z)
    (hsize : i.size = size) (hby : i.bytes = bytes) (hzs : z.cells.size = size) (hsz : 0 < size)
    (v : Value) (n : Nat) (xs : List Value) (hs : a.eval s = v) (hown : w.ownsRow 0 e size v n xs)
    (A : Option Addr) (m c : Nat) (news : List Value) (q : Option Nat) (hx : a.eval x = .slice A m c) (hl : news.length = m * size) (hnews : Sl w A news q) (hA : A = none → m = 0 ∧ c = 0) (h1 : ∀ u ∈ news, u.oneCell' = true)
    (h63 : n + m ≤ maxLen) (hbytes : (n + m) * bytes ≤ 140737488355328)
    (h : ∀ A' c' w', w'.ownsRow 0 e size (.slice A' (n + m) c') (n + m) (xs ++ news) → w.grownBy w' v.ownBlock → Aft w v.ownBlock (Value.slice A' (n + m) c').ownBlock → K (a.put o.dst (.slice A' (n + m) c')) w') :
    if Region.wanted o (yielded ops a.tmps) = true then Oper.wp P o a w K Q else E := by
  have hw : Region.wanted o (yielded ops a.tmps) = true := by simp [Region.wanted, hgd]
  rw [if_pos hw]
  obtain ⟨v', w', hr, h2, h3, h4⟩ := run_append_sl (P := P) w t o.type e 0 i z size bytes ht hi hz hsize hby hzs hsz v n xs hown A m c news q hl hnews hA h1 h63 hbytes (Nat.zero_le _)
  obtain ⟨A', c', rfl, _⟩ := own_slice h2
  unfold Oper.wp execOp
  simp only [ho, resolve, invoke, builtin, Sem.run_bind, Sem.run_pure, Result.andThen_ok, List.map_toArray, List.map_cons, List.map_nil, hs, hx, hr]
  exact h A' c' w' h2 h3 h4
end
theorem sl_of_blk {w : World} {g : Nat} {cs : Array Value} {t : TypeId} {fr : Nat × Nat} (h : w.heap[g]? = some (.cells cs t fr)) : Sl w (some ⟨g, 0, none⟩) cs.toList (some g) := by
  intro hx
  exact ⟨g, 0, rfl, rfl, fun j hj => by rw [Nat.zero_add, blk_cell h]; simp⟩
def cutA (A : Option Addr) (c k size : Nat) : Option Addr := if c = k then A else A.map (·.add (k * size))
theorem run_cut_from {P : Program} (t e : TypeId) (kl : IntKind) {i : TypeInfo} (ht : P.underlying t = some (.slice e)) (hi : P.info? e = some i) (size : Nat) (hsz : i.size = size) (A : Option Addr) (n c k : Nat) (h1 : k ≤ n) :
    ∀ W : World, (Instr.slice t (.slice A n c) (some (.int kl (k : Nat))) none none).run P W = .ok (.slice (cutA A c k size) (n - k) (c - k)) W := by
  intro W
  have hel : P.elem t = e := by simp [Program.elem, ht]
  have hu : P.underlying t = some (.slice (P.elem t)) := by rw [hel]; exact ht
  rw [run_slice_l W t A n c hu kl k (by omega) (by omega), hel]
  simp [sizeOf, typeInfo, hi, hsz, sliced, Result.andThen, cutA]
theorem run_cut_mid {P : Program} (t e : TypeId) (kl kh : IntKind) {i : TypeInfo} (ht : P.underlying t = some (.slice e)) (hi : P.info? e = some i) (size : Nat) (hsz : i.size = size) (A : Option Addr) (n c k m : Nat) (h1 : k ≤ m) (h2 : m ≤ c) :
    ∀ W : World, (Instr.slice t (.slice A n c) (some (.int kl (k : Nat))) (some (.int kh (m : Nat))) none).run P W = .ok (.slice (cutA A c k size) (m - k) (c - k)) W := by
  intro W
  have hel : P.elem t = e := by simp [Program.elem, ht]
  have hu : P.underlying t = some (.slice (P.elem t)) := by rw [hel]; exact ht
  rw [run_slice_lh W t A n c hu kl kh k m (by omega) (by omega) (by omega), hel]
  simp [sizeOf, typeInfo, hi, hsz, sliced, Result.andThen, cutA]
theorem Sl.cut {w : World} {A : Option Addr} {xs : List Value} {q : Option Nat} {n c k : Nat} (h : Sl w A xs q) (hl : xs.length = n) (hnc : n ≤ c) (hk : k ≤ n) : Sl w (cutA A c k 1) (xs.drop k) q := by
  intro hx
  simp only [List.length_drop] at hx
  obtain ⟨b, off, rfl, hq, hc⟩ := h (by omega)
  refine ⟨b, off + k, ?_, hq, fun j hj => ?_⟩
  · unfold cutA
    rw [if_neg (by omega)]
    simp [Addr.add_lit]
  · simp only [List.length_drop] at hj
    rw [Nat.add_assoc, hc (k + j) (by omega), List.getElem?_drop]
theorem cutA_none {A : Option Addr} {n c k size : Nat} (hA : A = none → n = 0 ∧ c = 0) (h : cutA A c k size = none) : n - k = 0 ∧ c - k = 0 := by
  unfold cutA at h
  split at h
  · have := hA h; omega
  · simp at h; have := hA h; omega
theorem flat_len {α : Type} (enc : α → List Value) (sz : Nat) (h : ∀ x, (enc x).length = sz) (xs : List α) : (xs.flatMap enc).length = xs.length * sz := by
  induction xs with
  | nil => simp
  | cons x xs ih => simp [ih, h, Nat.add_mul, Nat.add_comm]
theorem flat_get {α : Type} (enc : α → List Value) (sz : Nat) (h : ∀ x, (enc x).length = sz) : ∀ (xs : List α) (i j : Nat) (hi : i < xs.length), j < sz → (xs.flatMap enc)[i * sz + j]? = (enc xs[i])[j]?
  | x :: xs, 0, j, _, hj => by simp [List.getElem?_append_left (show j < (enc x).length by rw [h]; exact hj)]
  | x :: xs, i + 1, j, hi, hj => by
    rw [List.flatMap_cons, List.getElem?_append_right (by rw [h, Nat.add_mul]; omega), h, show (i + 1) * sz + j - sz = i * sz + j from by rw [Nat.add_mul]; omega]
    simpa using flat_get enc sz h xs i j (by simpa using hi) hj
theorem Sl.row {α : Type} {enc : α → List Value} {sz : Nat} (h : ∀ x, (enc x).length = sz) {w : World} {A : Option Addr} {xs : List α} {q : Option Nat} (hs : Sl w A (xs.flatMap enc) q) {i : Nat} (hi : i < xs.length) (hz : 0 < sz) :
    ∃ b off, A = some ⟨b, off, none⟩ ∧ q = some b ∧ ∀ j, j < sz → w.cell? ⟨b, off + i * sz + j, none⟩ = (enc xs[i])[j]? := by
  have hl := flat_len enc sz h xs
  have hp : 0 < xs.length * sz := Nat.mul_pos (by omega) hz
  obtain ⟨b, off, hA, hq, hc⟩ := hs (by omega)
  refine ⟨b, off, hA, hq, fun j hj => ?_⟩
  have h1 : (i + 1) * sz ≤ xs.length * sz := Nat.mul_le_mul_right _ hi
  rw [Nat.add_mul] at h1
  rw [Nat.add_assoc, hc _ (by omega), flat_get enc sz h xs i j hi hj]
end Go.Proofs.YtkdgfioigkijgaaGreat.Lib
set_option maxRecDepth 100000
set_option linter.unusedVariables false
set_option linter.unusedSimpArgs false
namespace Go.Proofs.YtkdgfioigkijgaaGreat.bulks
theorem one_le {H : Type} (d : DataW H) : 1 ≤ Rows.uptoBulk d := by
  cases d with
  | lit l => cases l <;> simp [Rows.uptoBulk]
  | nil => simp [Rows.uptoBulk]
  | ptr d => simp [Rows.uptoBulk]
  | slice elems spare => simp [Rows.uptoBulk]
  | agg parts => simp [Rows.uptoBulk]
  | iface t d => simp [Rows.uptoBulk]
  | map entries => simp [Rows.uptoBulk]
  | held h => simp [Rows.uptoBulk]
theorem part_le {H : Type} {d : DataW H} {l : List (DataW H)} (h : d ∈ l) : Rows.uptoBulk d ≤ Rows.uptoBulkAll l := by
  induction l with
  | nil => cases h
  | cons x r ih =>
    simp only [Rows.uptoBulkAll]
    cases List.mem_cons.1 h with
    | inl e => subst e; omega
    | inr e => have := ih e; omega
theorem length_le {H : Type} (l : List (DataW H)) : l.length ≤ Rows.uptoBulkAll l := by
  induction l with
  | nil => simp [Rows.uptoBulkAll]
  | cons x r ih => have := one_le x; simp only [Rows.uptoBulkAll, List.length_cons]; omega
end Go.Proofs.YtkdgfioigkijgaaGreat.bulks
namespace Go.Proofs.YtkdgfioigkijgaaGreat.Open
open Go.RowKit Go.ChangeShapes Go.WideShapes Go.Proofs.YtkdgfioigkijgaaGreat.Lib
section
variable {H : Type} {enc : TypeId × Value → H} {P : Program} {W : World} {t e : TypeId} {fuel : Nat}
theorem sl_cells {a : Addr} {vs : List Value} (hc : ∀ i, i < vs.length → W.cell? (a.add i) = vs[i]?) :
    ∃ q, Sl W (some a) vs q ∧ ∀ b, q = some b → b < W.heap.size := by
  by_cases h0 : 0 < vs.length
  · have h1 := hc 0 h0
    rw [List.getElem?_eq_getElem h0] at h1
    have hsp : a.spot = none := by
      have := spot_none h1
      rwa [show a.add 0 = a from by simp [Addr.add]] at this
    refine ⟨some a.block, fun _ => ⟨a.block, a.off, by cases a; simp at hsp; subst hsp; rfl, rfl, fun j hj => ?_⟩, fun b hb => ?_⟩
    · rw [show (⟨a.block, a.off + j, none⟩ : Addr) = a.add j from by cases a; simp at hsp; subst hsp; rw [Addr.add_lit], hc j hj]
    · cases hb
      have h2 := World.block_lt_of_cell? W _ h1
      rwa [show (a.add 0).block = a.block from by unfold Addr.add; split <;> rfl] at h2
  · have : vs = [] := List.eq_nil_of_length_eq_zero (by omega)
    subst this
    exact ⟨none, Sl.nil _ _ _, fun b hb => by cases hb⟩
theorem open_nums {k : IntKind} {a : Option Addr} {len cap : Nat} {d : DataW H} {p : List MemPlace} (ht : P.underlying t = some (.slice e)) (he : P.underlying e = some (.int k)) (hc : P.cellsOf e = 1)
    (h : DataW.Trod enc P W 0 (fun _ => true) true t (.slice a len cap) d p) :
    ∃ (xs : List Int) (q : Option Nat), SlArg W a len cap (xs.map (Value.int k)) q ∧ (∀ x ∈ xs, (Lit.int k x).wf = true) ∧ len + 1 ≤ Rows.uptoBulk d := by
  obtain ⟨fuel, hf⟩ := h
  rcases open_ints ht he hc hf with ⟨hcs, hx⟩ | ⟨x, l, c, zs, hcs, _, hl, hm, hz, hx, hcell, hwz⟩
  · simp [Value.cells] at hcs
    obtain ⟨rfl, rfl, rfl⟩ := hcs
    exact ⟨[], none, ⟨rfl, Nat.le_refl _, Nat.zero_le _, fun _ => ⟨rfl, rfl⟩, Sl.nil _ _ _, fun b hb => by cases hb⟩, fun x hx => by simp at hx, bulks.one_le d⟩
  · simp [Value.cells] at hcs
    obtain ⟨rfl, rfl, rfl⟩ := hcs
    obtain ⟨rfl, _⟩ := Prod.mk.inj hx
    have hlz : len ≤ zs.length := by rw [hz]; simp; exact hl
    obtain ⟨q, hq, hlt⟩ := sl_cells (W := W) (a := x) (vs := (zs.take len).map (Value.int k)) (fun i hi => by
      simp only [List.length_map, List.length_take] at hi
      have h1 : i < zs.length := by omega
      have h2 : i < len := by omega
      rw [hcell i h1, List.getElem?_map, List.getElem?_take, if_pos h2, List.getElem?_eq_getElem h1]
      simp [List.getD, h1])
    refine ⟨zs.take len, q, ⟨by simp; omega, hl, hm, (fun h => by cases h), hq, hlt⟩, fun y hy => hwz y (List.mem_of_mem_take hy), ?_⟩
    have := bulks.length_le (lits (H := H) k (zs.take len))
    simp only [Rows.uptoBulk]
    have e : (lits (H := H) k (zs.take len)).length = len := by simp [lits]; omega
    omega
end
end Go.Proofs.YtkdgfioigkijgaaGreat.Open
set_option maxRecDepth 100000
set_option linter.unusedVariables false
set_option linter.unusedSimpArgs false
namespace Go.Proofs.YtkdgfioigkijgaaGreat.Ints
open Go.RowKit Go.Proofs.YtkdgfioigkijgaaGreat.Lib
theorem infoI64 : (Tryz.prog.info? 3).map (fun i => (i.zero, i.size, i.bytes)) = some (some (.int .i64 0), 1, 8) := by kernel_rfl
def i64s (xs : List Int) : List Value := xs.map (Value.int .i64)
theorem i64s_length (xs : List Int) : (i64s xs).length = xs.length := by simp [i64s]
theorem i64s_get (xs : List Int) (j : Nat) : (i64s xs)[j]? = (xs[j]?).map (Value.int .i64) := by simp [i64s]
theorem i64s_app (xs ys : List Int) : i64s (xs ++ ys) = i64s xs ++ i64s ys := by simp [i64s]
theorem i64s_one (xs : List Int) : ∀ u ∈ i64s xs, u.oneCell' = true := by intro u hu; simp only [i64s, List.mem_map] at hu; obtain ⟨_, _, rfl⟩ := hu; rfl
end Go.Proofs.YtkdgfioigkijgaaGreat.Ints
set_option linter.unusedVariables false
set_option linter.unusedSimpArgs false
set_option maxRecDepth 100000
namespace Go.Proofs.YtkdgfioigkijgaaGreat.Code
open Go.RowKit Go.IntWalk Go.Proofs.YtkdgfioigkijgaaGreat.Lib Go.Proofs.YtkdgfioigkijgaaGreat.Ints
def vec (f : Nat → Nat) : Array Value := ((List.range 16).map fun i => Value.int .i64 (f i : Nat)).toArray
theorem vec_size (f : Nat → Nat) : (vec f).size = 16 := by simp [vec]
theorem vec_get (f : Nat → Nat) {i : Nat} (h : i < 16) : (vec f)[i]? = some (.int .i64 (f i : Nat)) := by
  simp [vec, h]
theorem vec_set (f : Nat → Nat) (i v : Nat) : (vec f).setIfInBounds i (.int .i64 (v : Nat)) = vec (upd f i v) := by
  apply Array.ext_getElem?
  intro k
  rw [Array.getElem?_setIfInBounds]
  by_cases h : k < 16
  · by_cases e : i = k
    · subst e
      rw [if_pos rfl, if_pos (by rw [vec_size]; exact h), vec_get _ h]
      simp [upd]
    · rw [if_neg e, vec_get _ h, vec_get _ h]
      simp only [upd]
      rw [if_neg (fun e2 => e e2.symm)]
  · have h1 : (vec f)[k]? = none := Array.getElem?_eq_none (by rw [vec_size]; omega)
    have h2 : (vec (upd f i v))[k]? = none := Array.getElem?_eq_none (by rw [vec_size]; omega)
    rw [h1, h2]
    split
    · rename_i e
      subst e
      rw [if_neg (by rw [vec_size]; exact h)]
    · rfl
theorem vec_congr {f g : Nat → Nat} (h : ∀ i, i < 16 → f i = g i) : vec f = vec g := by
  apply Array.ext_getElem?
  intro k
  by_cases hk : k < 16
  · rw [vec_get _ hk, vec_get _ hk, h k hk]
  · rw [Array.getElem?_eq_none (by rw [vec_size]; omega), Array.getElem?_eq_none (by rw [vec_size]; omega)]
theorem vec_one (f : Nat → Nat) : (vec f).all (·.oneCell') = true := by
  rw [Array.all_eq_true_iff_forall_mem]
  intro v hv
  have : v ∈ (vec f).toList := by simpa using hv
  simp only [vec, List.mem_map] at this
  obtain ⟨_, _, rfl⟩ := this
  rfl
theorem vec_zero : (#[Value.int .i64 0, Value.int .i64 0, Value.int .i64 0, Value.int .i64 0, Value.int .i64 0, Value.int .i64 0, Value.int .i64 0, Value.int .i64 0, Value.int .i64 0, Value.int .i64 0, Value.int .i64 0, Value.int .i64 0, Value.int .i64 0, Value.int .i64 0, Value.int .i64 0, Value.int .i64 0] : Array Value) = vec (fun _ => 0) := by kernel_rfl
theorem infoArr : (Tryz.prog.info? 286).map (·.size) = some 16 := by kernel_rfl
theorem results_cell2 {fn : Func} {p q : Tmp} {ty : TypeId} (h : fn.results = #[.cell p ty, .tmp q]) (tmps : Array Value) (w : World) (g : Nat) (t : TypeId) (cs : Array Value) (fr : Nat × Nat) {k : Nat} {e : TypeId}
    (hp : tmps.getD p undef = .pointer (some ⟨g, 0, none⟩)) (hg : w.heap[g]? = some (.cells cs t fr)) (v : Value) (hv : tmps.getD q undef = v)
    (hu : Tryz.prog.underlying ty = some (.array k e)) (hi : (Tryz.prog.info? ty).map (·.size) = some cs.size) :
    (results fn tmps).run Tryz.prog w = .ok (.tuple #[.agg cs, v]) w := by
  have hp' : tmps[p]?.getD undef = .pointer (some ⟨g, 0, none⟩) := by simpa using hp
  have hv' : tmps[q]?.getD undef = v := by simpa using hv
  simp [results, h, hp', hv', asAddr, run_loadVar_row w g t ty cs fr _ hg hu rfl hi]
theorem wpl_load_vec {ops : Array Oper} {rest : List Oper} {o : Oper} {a : Act} {w : World} {Q : Exit → Act → World → Prop} (hgd : o.guard = none) (x : Operand) (ho : o.op = .load 286 x)
    (g : Nat) (hx : a.eval x = .pointer (some ⟨g, 0, none⟩)) (f : Nat → Nat) (hg : w.heap[g]? = some (.cells (vec f) 286 (0, 0)))
    (h : wpList Tryz.prog ops Q rest (a.put o.dst (.agg (vec f))) w) : wpList Tryz.prog ops Q (o :: rest) a w :=
  wpList_load_row hgd 286 x ho g hx 286 (vec f) (0, 0) _ hg Tryz.underlying286 rfl (infoArr.trans (by rw [vec_size])) h
theorem wpl_store_vec {ops : Array Oper} {rest : List Oper} {o : Oper} {a : Act} {w : World} {Q : Exit → Act → World → Prop} (hgd : o.guard = none) (x y : Operand) (ho : o.op = .store 286 x y)
    (g : Nat) (f e : Nat → Nat) (hx : a.eval x = .pointer (some ⟨g, 0, none⟩)) (hy : a.eval y = .agg (vec f)) (hg : w.heap[g]? = some (.cells (vec e) 286 (0, 0)))
    (h : wpList Tryz.prog ops Q rest (a.put o.dst undef) (w.setRow g (vec f))) : wpList Tryz.prog ops Q (o :: rest) a w :=
  wpList_store_row hgd 286 x y ho g (vec f) hx hy 286 (vec e) hg (infoArr.trans (by rw [vec_size])) ((vec_size _).trans (vec_size _).symm) (vec_one f) h
theorem Fr.setRow {w w' : World} {F : List Nat} (h : Fr w w' F) {g : Nat} (cs : Array Value) (hg : g ∈ F ∨ w.heap.size ≤ g) : Fr w (w'.setRow g cs) F :=
  ⟨h.os, h.tape, h.output, by rw [size_setRow]; exact h.size, fun k hk hF => (setRow_other w' g k cs (by rintro rfl; rcases hg with hg | hg; exact hF hg; omega)).trans (h.block k hk hF)⟩
set_option maxHeartbeats 8000000 in
theorem counts_any (w : World) (A : Option Addr) (n c : Nat) (lens : List Int) (q : Option Nat) (hS : SlArg w A n c (i64s lens) q) (b : Bool) (hb : b = bad lens) :
    Calls Tryz.prog 170 #[.slice A n c] w fun e w' => ∃ F, e = .returned (.tuple #[.agg (vec F), .bool (!b)]) ∧ (b = false → vec F = vec (cz lens)) ∧ Fr w w' [] := by
  have HS := Hd.mk hS
  have hl : lens.length = n := by have := hS.len; simpa [i64s] using this
  have HB := Hd.mk hb
  clear hS hb
  go_enter Tryz.func170, Tryz.ntmps170
  go_upto_region 2 with (fail)
  rw [vec_zero]
  have Z0 := blk_alloc (blk_new w (.cells (vec fun _ => 0) 286)) (.cells (vec fun _ => 0) 286)
  have N0 := blk_new (w.alloc (.cells (vec fun _ => 0) 286)) (.cells (vec fun _ => 0) 286)
  have F0 := ((Fr.refl w []).alloc (.cells (vec fun _ => 0) 286)).alloc (.cells (vec fun _ => 0) 286)
  rw [World.size_alloc] at N0
  obtain ⟨gz, hgz⟩ : ∃ gz, gz = w.heap.size := ⟨_, rfl⟩
  obtain ⟨gn, hgn⟩ : ∃ gn, gn = w.heap.size + 1 := ⟨_, rfl⟩
  rw [← hgn] at N0 ⊢
  rw [← hgz] at Z0 ⊢
  have hgb : w.heap.size ≤ gz ∧ w.heap.size ≤ gn ∧ gz ≠ gn := by omega
  generalize ((w.alloc (.cells (vec fun _ => 0) 286)).alloc (.cells (vec fun _ => 0) 286)) = w1 at *
  have HZ := Hd.mk Z0
  have HN := Hd.mk N0
  have F1 := Hd.mk F0
  clear Z0 N0 F0 hgz hgn
  by_cases h288 : (n : Int) > 288
  · obtain rfl : b = true := by rw [HB.out]; exact bad_long (by omega)
    go_wp2_with (first | (refine wpl_load_vec rfl _ rfl gn rfl _ HN.out ?_) | (refine wpl_store_vec rfl _ _ rfl gz (fun _ => 0) _ rfl rfl HZ.out ?_))
    refine bodyPost_ret (results_cell2 rfl _ _ gz 286 _ _ rfl (setRow_heap _ _ _ _ _ _ HZ.out) (.bool false) rfl Tryz.underlying286 (infoArr.trans (by rw [vec_size]))) rfl ?_
    exact ⟨_, rfl, (by intro h; cases h), Fr.setRow F1.out _ (.inr hgb.1)⟩
  · have HBL : Hd (b = false ∨ b = true) := ⟨by cases b <;> simp⟩
    go_wp2
    go_loopg [13] n (fun kq jv wr => ∃ (j : Nat) (f : Nat → Nat), jv = .int .i64 (j : Nat) ∧ j + kq = n ∧ Hd (wr.heap[gz]? = some (.cells (vec fun _ => 0) 286 (0, 0))) ∧ Hd (wr.heap[gn]? = some (.cells (vec f) 286 (0, 0))) ∧ Hd (f = cnt (lens.take j)) ∧ Hd (∀ (i : Nat) (hi : i < lens.length), i < j → 0 ≤ lens[i] ∧ lens[i] ≤ 15) ∧ Hd (Fr w wr []))
    case atStart => exact ⟨0, fun _ => 0, rfl, by omega, HZ, HN, ⟨by funext l; simp [cnt]⟩, ⟨by intro i hi h; omega⟩, F1⟩
    case round =>
      obtain ⟨j, f, rfl, hj, HZ, HN, HF, HP, HFr⟩ := hrel
      by_cases hjn : j < n
      · obtain ⟨bd, off, rfl, _, hcc⟩ := (HS.out.sl.frame HFr.out (by simp)) (by rw [i64s_length]; omega)
        have kd := (hcc j (by rw [i64s_length]; omega)).trans (i64s_get lens j)
        obtain ⟨x, hx⟩ : ∃ x, lens[j]? = some x := ⟨_, List.getElem?_eq_getElem (by omega)⟩
        rw [hx] at kd
        simp only [Option.map_some] at kd
        have HX : Hd (∃ h : j < lens.length, lens[j] = x) := ⟨List.getElem?_eq_some_iff.mp hx⟩
        clear hcc hx
        by_cases hx0 : x < 0
        · obtain rfl : b = true := by
            obtain ⟨e, he⟩ := HX.out
            rw [HB.out]; exact bad_at e (by omega)
          go_wp2_with (first | (refine wpl_load_vec rfl _ rfl gn rfl _ HN.out ?_) | (refine wpl_store_vec rfl _ _ rfl gz f _ rfl rfl HZ.out ?_))
          refine bodyPost_ret (results_cell2 rfl _ _ gz 286 _ _ rfl (setRow_heap _ _ _ _ _ _ HZ.out) (.bool false) rfl Tryz.underlying286 (infoArr.trans (by rw [vec_size]))) rfl ?_
          exact ⟨⟨_, rfl⟩, Fr.setRow HFr.out _ (.inr hgb.1)⟩
        · by_cases hx1 : x > 15
          · obtain rfl : b = true := by
              obtain ⟨e, he⟩ := HX.out
              rw [HB.out]; exact bad_at e (by omega)
            go_wp2_with (first | (refine wpl_load_vec rfl _ rfl gn rfl _ HN.out ?_) | (refine wpl_store_vec rfl _ _ rfl gz f _ rfl rfl HZ.out ?_))
            refine bodyPost_ret (results_cell2 rfl _ _ gz 286 _ _ rfl (setRow_heap _ _ _ _ _ _ HZ.out) (.bool false) rfl Tryz.underlying286 (infoArr.trans (by rw [vec_size]))) rfl ?_
            exact ⟨⟨_, rfl⟩, Fr.setRow HFr.out _ (.inr hgb.1)⟩
          · obtain ⟨v, rfl⟩ := Int.eq_ofNat_of_zero_le (show 0 ≤ x by omega)
            have hv16 : (v : Int) < 16 := by omega
            have kn := (blk_cell HN.out v).trans (vec_get f (by omega))
            have fn := blk_frozen HN.out v
            obtain ⟨fv, hfv⟩ : ∃ fv, fv = f v := ⟨_, rfl⟩
            have hfb : fv ≤ n := by
              rw [hfv, HF.out]
              have := cnt_le (lens.take j) v
              rw [List.length_take] at this
              omega
            rw [← hfv] at kn
            have HFV := Hd.mk hfv
            clear hfv
            go_wp2
            go_roundg (gk - 1)
            case measure => omega
            case rel =>
              refine ⟨j + 1, upd f v (fv + 1), by go_num, by omega, ⟨blk_far HZ.out hgb.2.2 _⟩, ⟨?_⟩, ⟨?_⟩, ⟨?_⟩, ⟨HFr.out.setCell _ (.inr hgb.2.1)⟩⟩
              · have := blk_set HN.out v (.int .i64 ((fv + 1 : Nat) : Int))
                rw [vec_set] at this
                exact this
              · obtain ⟨e, he⟩ := HX.out
                rw [cnt_take e he, ← HF.out, HFV.out]
              · intro i hi hij
                by_cases e : i = j
                · subst e
                  obtain ⟨e, he⟩ := HX.out
                  rw [he]; omega
                · exact HP.out i hi (by omega)
      · obtain rfl : j = n := by omega
        obtain rfl : b = false := by rw [HB.out]; exact bad_not (by omega) (fun i hi => HP.out i hi (by omega))
        have HF2 : Hd (f = cnt lens) := ⟨by rw [HF.out, ← hl, List.take_length]⟩
        have kn := (blk_cell HN.out 0).trans (vec_get f (by omega))
        have fn := blk_frozen HN.out 0
        go_upto_region 12 with (fail)
        have HN2 := Hd.mk (blk_set HN.out 0 (.int .i64 0))
        have HZ2 := Hd.mk (blk_far HZ.out (p := ⟨gn, 0, none⟩) hgb.2.2 (.int .i64 0))
        have HFr2 := Hd.mk (HFr.out.setCell (a := ⟨gn, 0, none⟩) (.int .i64 0) (.inr hgb.2.1))
        have e0 : (vec f).setIfInBounds 0 (.int .i64 0) = vec (cz lens) := by
          have := vec_set f 0 0
          rw [show (Value.int .i64 0) = .int .i64 ((0 : Nat) : Int) from rfl, this, HF2.out]
          exact congrArg vec (by funext l; simp only [upd, cz])
        rw [e0] at HN2
        generalize wr.setCell ⟨gn, 0, none⟩ (.int .i64 0) = w5 at *
        clear kn fn e0
        go_wp2_with (first | (refine wpl_load_vec rfl _ rfl gn rfl _ HN2.out ?_) | (refine wpl_store_vec rfl _ _ rfl gz (cz lens) _ rfl rfl HZ2.out ?_))
        refine bodyPost_ret (results_cell2 rfl _ _ gz 286 _ _ rfl (setRow_heap _ _ _ _ _ _ HZ2.out) (.bool true) rfl Tryz.underlying286 (infoArr.trans (by rw [vec_size]))) rfl ?_
        exact ⟨_, rfl, rfl, Fr.setRow HFr2.out _ (.inr hgb.1)⟩
set_option maxHeartbeats 8000000 in
theorem sp_any (w : World) (f : Nat → Nat) (hf : ∀ l, f l ≤ 288) :
    Calls Tryz.prog 187 #[.agg (vec f)] w fun e w' => e = .returned (.int .i64 (spaceF f 15 : Nat)) ∧ Fr w w' [] := by
  have HF := Hd.mk hf
  clear hf
  go_enter Tryz.func187, Tryz.ntmps187
  go_upto_region 1 with (fail)
  have N0 := blk_new w (.cells (vec f) 286)
  have F0 := (Fr.refl w []).alloc (.cells (vec f) 286)
  generalize w.alloc (.cells (vec f) 286) = w1 at *
  generalize w.heap.size = gn at *
  have HN := Hd.mk N0
  have F1 := Hd.mk F0
  clear N0 F0
  go_wp2
  go_loopg [3, 4] 15 (fun kq sv lv wr => ∃ (m s : Nat), sv = .int .i64 (s : Nat) ∧ lv = .int .i64 ((m + 1 : Nat) : Int) ∧ m + kq = 15 ∧ s ≤ m * 4718592 ∧ Hd (s = spaceF f m) ∧ wr = w1)
  case atStart => exact ⟨0, 0, rfl, rfl, rfl, by omega, ⟨rfl⟩, rfl⟩
  case round =>
    obtain ⟨m, s, rfl, rfl, hm, hs, HS, rfl⟩ := hrel
    by_cases h : m < 15
    · obtain ⟨l, hl⟩ : ∃ l, l = m + 1 := ⟨_, rfl⟩
      rw [← hl]
      have hl1 : 1 ≤ (l : Int) := by omega
      have hl2 : (l : Int) ≤ 15 := by omega
      have hl3 : (l : Int) < 16 := by omega
      have kn := (blk_cell HN.out l).trans (vec_get f (by omega))
      obtain ⟨fl, hfl⟩ : ∃ fl, fl = f l := ⟨_, rfl⟩
      have hfb : fl ≤ 288 := by rw [hfl]; exact HF.out l
      rw [← hfl] at kn
      have HL := Hd.mk hl
      have HFL := Hd.mk hfl
      clear hl hfl
      obtain ⟨z, hz⟩ : ∃ z, z = fl * 2 ^ (15 - l) := ⟨_, rfl⟩
      have hzb : z ≤ 4718592 := by
        rw [hz]
        have h2 : 2 ^ (15 - l) ≤ 2 ^ 14 := Nat.pow_le_pow_right (by omega) (by omega)
        have : fl * 2 ^ (15 - l) ≤ 288 * 2 ^ 14 := Nat.mul_le_mul hfb h2
        omega
      have HZ := Hd.mk hz
      clear hz
      go_wp2
      have e1 : wrap64 ((fl : Int) * 2 ^ (15 - l)) = (z : Nat) := by
        rw [show (fl : Int) * 2 ^ (15 - l) = (z : Nat) from by rw [HZ.out]; push_cast; rfl]
        exact wrap64_in _ (by omega)
      rw [e1]
      have e2 : wrap64 ((s : Int) + (z : Nat)) = ((s + z : Nat) : Int) := by
        rw [show (s : Int) + (z : Nat) = ((s + z : Nat) : Int) from by push_cast; rfl]
        exact wrap64_in _ (by omega)
      rw [e2]
      go_roundg (gk - 1)
      case measure => omega
      case rel => exact ⟨m + 1, s + z, rfl, (by rw [HL.out]; rfl), by omega, by omega, ⟨by rw [HS.out, HZ.out, HFL.out, HL.out]; rfl⟩, rfl⟩
    · obtain rfl : m = 15 := by omega
      go_wp2
      go_ret
      exact ⟨by rw [HS.out]; rfl, F1.out⟩
theorem at_vec (f : Nat → Nat) {i : Nat} (h : i < 16) (w : World) : (Instr.index 286 (.agg (vec f)) (.int .i64 (i : Nat))).run Tryz.prog w = .ok (.int .i64 (f i : Nat)) w := by
  have hi : (0 : Int) ≤ (i : Int) ∧ (i : Int) < 16 := by omega
  simp [Instr.index, run_underlying Tryz.underlying286, asIntOf, go_sem, vec_get f h]
  intro hh
  omega
theorem laid_vec (w : World) (f : Nat → Nat) : ((w.alloc (.cells (vec fun _ => 0) 286)).setRow w.heap.size (vec f)).heap[w.heap.size]? = some (.cells (vec f) 286 (0, 0)) :=
  setRow_heap _ _ _ _ _ _ (blk_new w _)
theorem laid_fr (w : World) (f : Nat → Nat) : Fr w ((w.alloc (.cells (vec fun _ => 0) 286)).setRow w.heap.size (vec f)) [] :=
  Fr.setRow ((Fr.refl w []).alloc _) _ (.inr (Nat.le_refl _))
set_option maxHeartbeats 8000000 in
theorem check_any (w : World) (A : Option Addr) (n c : Nat) (lens : List Int) (q : Option Nat) (hS : SlArg w A n c (i64s lens) q) (r : Int) (hr : r = check lens) :
    Calls Tryz.prog 169 #[.slice A n c] w fun e w' => e = .returned (.int .i64 r) ∧ Fr w w' [] := by
  have HR := Hd.mk hr
  have hl : lens.length = n := by have := hS.len; simpa [i64s] using this
  clear hr
  go_enter Tryz.func169, Tryz.ntmps169
  go_wp2_with (fail)
  obtain ⟨b, hb⟩ : ∃ b, b = bad lens := ⟨_, rfl⟩
  refine (counts_any w A n c lens q hS b hb).mono ?_
  rintro e w1 ⟨F, rfl, hF, h1⟩
  have HB := Hd.mk hb
  have F1 := Hd.mk h1
  clear hS hb h1
  cases b with
  | true =>
    obtain rfl : r = 50 := by rw [HR.out]; unfold check; rw [if_pos HB.out.symm]
    go_wp2_with (rw [vec_zero]; refine wpl_store_vec rfl _ _ rfl w1.heap.size _ (fun _ => 0) rfl rfl (by exact blk_new w1 _) ?_)
    go_ret
    exact ⟨rfl, F1.out.trans (laid_fr w1 F) (by simp)⟩
  | false =>
    obtain ⟨hl288, hall⟩ := bad_false HB.out.symm
    rw [hF rfl]
    clear hF
    have HCZ : Hd (∀ l, cz lens l ≤ 288) := ⟨fun l => Nat.le_trans (cz_le lens l) hl288⟩
    have hsb : space lens ≤ 70778880 := by
      have := spaceF_le HCZ.out 15 (Nat.le_refl _)
      unfold space
      omega
    go_upto_region 2 with (rw [vec_zero]; refine wpl_store_vec rfl _ _ rfl w1.heap.size _ (fun _ => 0) rfl rfl (by exact blk_new w1 _) ?_)
    have N0 := laid_vec w1 (cz lens)
    have G0 := laid_fr w1 (cz lens)
    generalize ((w1.alloc (.cells (vec fun _ => 0) 286)).setRow w1.heap.size (vec (cz lens))) = w2 at *
    generalize w1.heap.size = gn at *
    have HN := Hd.mk N0
    have F2 := Hd.mk (F1.out.trans G0 (by simp))
    clear N0 G0 F1
    go_wp2_with (refine wpl_load_vec rfl _ rfl gn rfl _ HN.out ?_)
    go_loopg [5, 17] 16 (fun kq sv iv wr => ∃ (i s : Nat), sv = .int .i64 (s : Nat) ∧ iv = .int .i64 (i : Nat) ∧ i + kq = 16 ∧ s ≤ i * 288 ∧ Hd (s = usedF (cz lens) i) ∧ wr = w2)
    case atStart => exact ⟨0, 0, rfl, rfl, rfl, by omega, ⟨rfl⟩, rfl⟩
    case round =>
      obtain ⟨i, s, rfl, rfl, hi, hs, HS, rfl⟩ := hrel
      by_cases h : i < 16
      · have a0 := at_vec (cz lens) h
        obtain ⟨ci, hci⟩ : ∃ ci, ci = cz lens i := ⟨_, rfl⟩
        rw [← hci] at a0
        have hcb : ci ≤ 288 := by rw [hci]; exact HCZ.out i
        have HCI := Hd.mk hci
        clear hci
        go_wp2
        go_roundg (gk - 1)
        case measure => omega
        case rel => exact ⟨i + 1, s + ci, by go_num, by go_num, by omega, by omega, ⟨by rw [HS.out, HCI.out]; rfl⟩, rfl⟩
      · obtain rfl : i = 16 := by omega
        have HU : Hd (s = used lens) := ⟨HS.out⟩
        clear HS
        go_wp2_with (first | (refine wpl_load_vec rfl _ rfl gn rfl _ HN.out ?_))
        refine (sp_any wr (cz lens) HCZ.out).mono ?_
        rintro e w3 ⟨rfl, h3⟩
        have HN3 := Hd.mk (h3.blk HN.out (by simp))
        have F3 := Hd.mk (F2.out.trans h3 (by simp))
        clear h3
        obtain ⟨sp, hsp⟩ : ∃ sp, sp = space lens := ⟨_, rfl⟩
        rw [← hsp] at hsb
        rw [show spaceF (cz lens) 15 = sp from hsp.symm]
        have HSP := Hd.mk hsp
        obtain ⟨c1, hc1⟩ : ∃ c1, c1 = cz lens 1 := ⟨_, rfl⟩
        have k1 := (blk_cell HN3.out 1).trans (vec_get (cz lens) (by omega))
        rw [← hc1] at k1
        have HR2 : Hd (r = if 32768 < sp then 51 else if sp = 32768 ∨ s = 0 ∨ (s = 1 ∧ c1 = 1) then 0 else 52) := ⟨by
          rw [HR.out, hsp, hc1, HU.out]
          unfold check
          rw [if_neg (by rw [← HB.out]; simp)]⟩
        clear hsp hc1 HR HU HB
        by_cases h51 : 32768 < sp
        · obtain rfl : r = 51 := by rw [HR2.out, if_pos h51]
          go_wp2
          go_ret
          exact ⟨rfl, F3.out⟩
        · by_cases hw : sp = 32768
          · obtain rfl : r = 0 := by rw [HR2.out, if_neg h51, if_pos (.inl hw)]
            have g1 : ((sp : Int) == 32768) = true := by simp; omega
            clear hw
            go_wp2
            go_ret
            exact ⟨rfl, F3.out⟩
          · have g1 : ((sp : Int) == 32768) = false := by simp; omega
            by_cases hs0 : s = 0
            · obtain rfl : r = 0 := by rw [HR2.out, if_neg h51, if_pos (.inr (.inl hs0))]
              have g2 : ((s : Int) == 0) = true := by simp; omega
              clear hs0 hw
              go_wp2
              go_ret
              exact ⟨rfl, F3.out⟩
            · have g2 : ((s : Int) == 0) = false := by simp; omega
              by_cases hs1 : s = 1
              · have g3 : ((s : Int) == 1) = true := by simp; omega
                by_cases hc : c1 = 1
                · obtain rfl : r = 0 := by rw [HR2.out, if_neg h51, if_pos (.inr (.inr ⟨hs1, hc⟩))]
                  have g4 : ((c1 : Int) == 1) = true := by simp; omega
                  clear hs0 hw hs1 hc
                  go_wp2
                  go_ret
                  exact ⟨rfl, F3.out⟩
                · obtain rfl : r = 52 := by rw [HR2.out, if_neg h51, if_neg (by omega)]
                  have g4 : ((c1 : Int) == 1) = false := by simp; omega
                  clear hs0 hw hs1 hc
                  go_wp2
                  go_ret
                  exact ⟨rfl, F3.out⟩
              · obtain rfl : r = 52 := by rw [HR2.out, if_neg h51, if_neg (by omega)]
                have g3 : ((s : Int) == 1) = false := by simp; omega
                clear hs0 hw hs1
                go_wp2
                go_ret
                exact ⟨rfl, F3.out⟩
end Go.Proofs.YtkdgfioigkijgaaGreat.Code
set_option linter.unusedVariables false
set_option linter.unusedSimpArgs false
set_option maxRecDepth 100000
namespace Go.Proofs.YtkdgfioigkijgaaGreat.Blk
open Go.RowKit Go.Proofs.YtkdgfioigkijgaaGreat.Lib Go.Proofs.YtkdgfioigkijgaaGreat.Ints
def lenT : List (Int × Int) := [(3, 0), (4, 0), (5, 0), (6, 0), (7, 0), (8, 0), (9, 0), (10, 0), (11, 1), (13, 1), (15, 1), (17, 1), (19, 2), (23, 2), (27, 2), (31, 2), (35, 3), (43, 3), (51, 3), (59, 3), (67, 4), (83, 4), (99, 4), (115, 4), (131, 5), (163, 5), (195, 5), (227, 5), (258, 0)]
def distT : List (Int × Int) := [(1, 0), (2, 0), (3, 0), (4, 0), (5, 1), (7, 1), (9, 2), (13, 2), (17, 3), (25, 3), (33, 4), (49, 4), (65, 5), (97, 5), (129, 6), (193, 6), (257, 7), (385, 7), (513, 8), (769, 8), (1025, 9), (1537, 9), (2049, 10), (3073, 10), (4097, 11), (6145, 11), (8193, 12), (12289, 12), (16385, 13), (24577, 13)]
def rc (x : Int × Int) : List Value := [.int .i64 x.1, .int .i64 x.2]
def rcs (l : List (Int × Int)) : List Value := l.flatMap rc
theorem lenRows_info : (Tryz.prog.info? 277).map (·.size) = some (rcs lenT).toArray.size := by kernel_rfl
set_option maxHeartbeats 2000000 in
theorem lenRows_any (w : World) : Calls Tryz.prog 163 #[] w fun e w' => e = .returned (.agg (rcs lenT).toArray) ∧ Fr w w' [] := by
  go_enter Tryz.func163, Tryz.ntmps163
  go_upto_region 1 with (fail)
  go_wp2_with (first
    | (refine wpList_build rfl 277 #[(0, .tmp 1), (1, .tmp 2), (2, .tmp 3), (3, .tmp 4), (4, .tmp 5), (5, .tmp 6), (6, .tmp 7), (7, .tmp 8), (8, .tmp 9), (9, .tmp 10), (10, .tmp 11), (11, .tmp 12), (12, .tmp 13), (13, .tmp 14), (14, .tmp 15), (15, .tmp 16), (16, .tmp 17), (17, .tmp 18), (18, .tmp 19), (19, .tmp 20), (20, .tmp 21), (21, .tmp 22), (22, .tmp 23), (23, .tmp 24), (24, .tmp 25), (25, .tmp 26), (26, .tmp 27), (27, .tmp 28), (28, .tmp 29)] rfl (by kernel_rfl) ?_; rw [show (Tryz.prog.built 277 _).getD #[] = (rcs lenT).toArray from by kernel_rfl])
    | (refine wpList_store_row rfl 277 _ _ rfl w.heap.size (rcs lenT).toArray rfl rfl 277 _ (by exact blk_new w _) (by kernel_rfl) (by kernel_rfl) (by kernel_rfl) ?_))
  refine bodyPost_ret (results_cell_row rfl _ _ w.heap.size 277 _ _ _ rfl (setRow_heap _ _ _ _ _ _ (blk_new w _)) Tryz.underlying277 rfl lenRows_info) rfl ?_
  exact ⟨rfl, Code.Fr.setRow ((Fr.refl w []).alloc _) _ (.inr (Nat.le_refl _))⟩
theorem distRows_info : (Tryz.prog.info? 281).map (·.size) = some (rcs distT).toArray.size := by kernel_rfl
set_option maxHeartbeats 2000000 in
theorem distRows_any (w : World) : Calls Tryz.prog 165 #[] w fun e w' => e = .returned (.agg (rcs distT).toArray) ∧ Fr w w' [] := by
  go_enter Tryz.func165, Tryz.ntmps165
  go_upto_region 1 with (fail)
  go_wp2_with (first
    | (refine wpList_build rfl 281 #[(0, .tmp 1), (1, .tmp 2), (2, .tmp 3), (3, .tmp 4), (4, .tmp 5), (5, .tmp 6), (6, .tmp 7), (7, .tmp 8), (8, .tmp 9), (9, .tmp 10), (10, .tmp 11), (11, .tmp 12), (12, .tmp 13), (13, .tmp 14), (14, .tmp 15), (15, .tmp 16), (16, .tmp 17), (17, .tmp 18), (18, .tmp 19), (19, .tmp 20), (20, .tmp 21), (21, .tmp 22), (22, .tmp 23), (23, .tmp 24), (24, .tmp 25), (25, .tmp 26), (26, .tmp 27), (27, .tmp 28), (28, .tmp 29), (29, .tmp 30)] rfl (by kernel_rfl) ?_; rw [show (Tryz.prog.built 281 _).getD #[] = (rcs distT).toArray from by kernel_rfl])
    | (refine wpList_store_row rfl 281 _ _ rfl w.heap.size (rcs distT).toArray rfl rfl 281 _ (by exact blk_new w _) (by kernel_rfl) (by kernel_rfl) (by kernel_rfl) ?_))
  refine bodyPost_ret (results_cell_row rfl _ _ w.heap.size 281 _ _ _ rfl (setRow_heap _ _ _ _ _ _ (blk_new w _)) Tryz.underlying281 rfl distRows_info) rfl ?_
  exact ⟨rfl, Code.Fr.setRow ((Fr.refl w []).alloc _) _ (.inr (Nat.le_refl _))⟩
end Go.Proofs.YtkdgfioigkijgaaGreat.Blk
set_option linter.unusedVariables false
set_option linter.unusedSimpArgs false
set_option maxRecDepth 100000
namespace Go.Proofs.YtkdgfioigkijgaaGreat.Blk
open Go.RowKit Go.Proofs.YtkdgfioigkijgaaGreat.Lib Go.Proofs.YtkdgfioigkijgaaGreat.Ints
def plc (l : List (Int × Int)) (v : Int) : Nat → Nat
  | 0 => 0
  | j + 1 => if (l.getD j (0, 0)).1 ≤ v then j else plc l v j
theorem plc_step {l : List (Int × Int)} {j : Nat} (h : j < l.length) (v : Int) : plc l v (j + 1) = if l[j].1 ≤ v then j else plc l v j := by
  rw [plc, List.getD_eq_getElem?_getD, List.getElem?_eq_getElem h, Option.getD_some]
theorem plc_lt (l : List (Int × Int)) (v : Int) : ∀ j, 0 < j → plc l v j < j
  | 0, h => absurd h (Nat.lt_irrefl 0)
  | j + 1, _ => by
    rw [plc]
    split
    · omega
    · by_cases h : 0 < j
      · have := plc_lt l v j h; omega
      · have : j = 0 := by omega
        subst this
        simp [plc]
theorem place_any (w : World) (A : Option Addr) (n c : Nat) (l : List (Int × Int)) (q : Option Nat) (v : Int) (hn : l.length = n) (hS : Sl w A (rcs l) q) (hb : n ≤ 1000) :
    Calls Tryz.prog 164 #[.slice A n c, .int .i64 v] w fun e w' => e = .returned (.int .i64 (plc l v n : Nat)) ∧ Fr w w' [] := by
  subst hn
  have HS := Hd.mk hS
  clear hS
  go_enter Tryz.func164, Tryz.ntmps164
  go_wp2
  go_loopg [5, 10] l.length (fun kq av jv wr => ∃ j : Nat, jv = .int .i64 (j : Nat) ∧ av = .int .i64 (plc l v j : Nat) ∧ j + kq = l.length ∧ Hd (Fr w wr []))
  case atStart => exact ⟨0, rfl, rfl, by omega, ⟨Fr.refl _ _⟩⟩
  case round =>
    obtain ⟨j, rfl, rfl, hj, HF⟩ := hrel
    by_cases h1 : j < l.length
    · obtain ⟨a, o1, rfl, _, ha⟩ := Sl.row (enc := rc) (sz := 2) (fun _ => rfl) (HS.out.frame HF.out (by simp)) h1 (by decide)
      have c0 := ha 0 (by decide)
      have c1 := ha 1 (by decide)
      obtain ⟨x, hx⟩ : ∃ x, x = l[j] := ⟨_, rfl⟩
      rw [← hx] at c0 c1
      have hp := plc_step h1 v
      rw [← hx] at hp
      simp only [rc, List.getElem?_cons_zero, List.getElem?_cons_succ, Nat.add_zero] at c0 c1
      have HP := Hd.mk hp
      clear ha hx hp
      by_cases h2 : x.1 ≤ v
      · have HP2 : Hd (plc l v (j + 1) = j) := ⟨by rw [HP.out, if_pos h2]⟩
        clear HP
        go_wp2
        go_roundg (gk - 1)
        case measure => omega
        case rel => exact ⟨j + 1, by go_num, by rw [HP2.out], by omega, ⟨HF.out.alloc _⟩⟩
      · have HP2 : Hd (plc l v (j + 1) = plc l v j) := ⟨by rw [HP.out, if_neg h2]⟩
        clear HP
        generalize plc l v j = z at *
        go_wp2
        go_roundg (gk - 1)
        case measure => omega
        case rel => exact ⟨j + 1, by go_num, by rw [HP2.out], by omega, ⟨HF.out.alloc _⟩⟩
    · obtain rfl : j = l.length := by omega
      go_wp2
      go_ret
      exact ⟨rfl, HF.out⟩
theorem find_any (w : World) (A : Option Addr) (n c : Nat) (l : List (Int × Int)) (q : Option Nat) (v : Int) (hn : l.length = n) (hS : Sl w A (rcs l) q) (hb : n ≤ 1000) :
    Calls Tryz.prog 144 #[.slice A n c, .int .i64 v] w fun e w' => e = .returned (.int .i64 (plc l v n : Nat)) ∧ Fr w w' [] := by
  subst hn
  have HS := Hd.mk hS
  clear hS
  go_enter Tryz.func144, Tryz.ntmps144
  go_wp2
  go_loopg [5, 10] l.length (fun kq av jv wr => ∃ j : Nat, jv = .int .i64 (j : Nat) ∧ av = .int .i64 (plc l v j : Nat) ∧ j + kq = l.length ∧ Hd (Fr w wr []))
  case atStart => exact ⟨0, rfl, rfl, by omega, ⟨Fr.refl _ _⟩⟩
  case round =>
    obtain ⟨j, rfl, rfl, hj, HF⟩ := hrel
    by_cases h1 : j < l.length
    · obtain ⟨a, o1, rfl, _, ha⟩ := Sl.row (enc := rc) (sz := 2) (fun _ => rfl) (HS.out.frame HF.out (by simp)) h1 (by decide)
      have c0 := ha 0 (by decide)
      have c1 := ha 1 (by decide)
      obtain ⟨x, hx⟩ : ∃ x, x = l[j] := ⟨_, rfl⟩
      rw [← hx] at c0 c1
      have hp := plc_step h1 v
      rw [← hx] at hp
      simp only [rc, List.getElem?_cons_zero, List.getElem?_cons_succ, Nat.add_zero] at c0 c1
      have HP := Hd.mk hp
      clear ha hx hp
      by_cases h2 : x.1 ≤ v
      · have HP2 : Hd (plc l v (j + 1) = j) := ⟨by rw [HP.out, if_pos h2]⟩
        clear HP
        go_wp2
        go_roundg (gk - 1)
        case measure => omega
        case rel => exact ⟨j + 1, by go_num, by rw [HP2.out], by omega, ⟨HF.out.alloc _⟩⟩
      · have HP2 : Hd (plc l v (j + 1) = plc l v j) := ⟨by rw [HP.out, if_neg h2]⟩
        clear HP
        generalize plc l v j = z at *
        go_wp2
        go_roundg (gk - 1)
        case measure => omega
        case rel => exact ⟨j + 1, by go_num, by rw [HP2.out], by omega, ⟨HF.out.alloc _⟩⟩
    · obtain rfl : j = l.length := by omega
      go_wp2
      go_ret
      exact ⟨rfl, HF.out⟩
end Go.Proofs.YtkdgfioigkijgaaGreat.Blk
