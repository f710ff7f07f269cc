/- Chapter 09: a writer that lays down parts, and an encoder beside it. Conditions: none but the writer's. -/
import Derived.Test.YtlfckpmdmkccjaaBlkJ
import Derived.Test.YtlfckpmdmkccjaaCodeC
import Derived.Test.YtlfckpmdmkccjaaCodePlain7
set_option linter.unusedVariables false
set_option linter.unusedSimpArgs false
set_option maxRecDepth 100000
namespace Go.Proofs.Ytlfckpmdmkccjaa.Blk
open Go.RowKit Go.Proofs.Ytlfckpmdmkccjaa.Lib Go.Proofs.Ytlfckpmdmkccjaa.Ints Go.Proofs.Ytlfckpmdmkccjaa.Lz Go.Proofs.Ytlfckpmdmkccjaa.Num Go.Proofs.Ytlfckpmdmkccjaa.Bits Go.Proofs.Ytlfckpmdmkccjaa.Code
theorem numOf_snoc (P : List (Nat × Nat)) (v n : Nat) : numOf (P ++ [(v, n)]) = numOf P + v * 2 ^ totOf P := by
  rw [numOf_app]; simp [numOf]
theorem totOf_snoc (P : List (Nat × Nat)) (v n : Nat) : totOf (P ++ [(v, n)]) = totOf P + n := by
  rw [totOf_app]; simp [totOf]
theorem totOf_snoc2 (P : List (Nat × Nat)) (p : Nat × Nat) : totOf (P ++ [p]) = totOf P + p.2 := totOf_snoc P p.1 p.2
/-- what a Put leaves: v of n bits behind -/
def PutL (w w' : World) (gw N m : Nat) (q : Option Nat) (p : Nat × Nat) : Prop := ∃ q', Tl w' gw 53 (N + p.1 * 2 ^ m) (m + p.2) q' ∧ Aft w q q' ∧ Fr w w' (gw :: q.toList)
/-- a writer that has laid down P behind N, m -/
structure Pw (w0 w : World) (gw : Nat) (q0 q : Option Nat) (N m : Nat) (P : List (Nat × Nat)) : Prop where
  tl : Tl w gw 53 (N + numOf P * 2 ^ m) (m + totOf P) q
  aft : Aft w0 q0 q
  fr : Fr w0 w (gw :: q0.toList)
section
variable {w0 w w' : World} {gw N m : Nat} {q0 q : Option Nat} {P Q : List (Nat × Nat)}
theorem Pw.start (h : Tl w gw 53 N m q) : Pw w w gw q q N m [] := ⟨by simpa [numOf, totOf] using h, Aft.refl _ _, Fr.refl _ _⟩
theorem Pw.call (h : Pw w0 w gw q0 q N m P) (hf : Fr w w' []) : Pw w0 w' gw q0 q N m P := ⟨h.tl.frame hf (by simp) (by simp), h.aft, h.fr.trans hf (by simp)⟩
theorem Pw.mem (h : Pw w0 w gw q0 q N m P) {x : Nat} (hx : x < w0.heap.size) (hm : x ∈ gw :: q.toList) : x ∈ gw :: q0.toList := by
  rcases List.mem_cons.1 hm with e | hm
  · subst e; simp
  · rcases h.aft.mem hm with h1 | h1
    · exact List.mem_cons_of_mem _ h1
    · omega
theorem Pw.put (h : Pw w0 w gw q0 q N m P) {p : Nat × Nat} (hp : PutL w w' gw (N + numOf P * 2 ^ m) (m + totOf P) q p) : ∃ q', Pw w0 w' gw q0 q' N m (P ++ [p]) := by
  obtain ⟨v, n⟩ := p
  obtain ⟨q', h1, h2, h3⟩ := hp
  refine ⟨q', ?_, h.aft.trans h2 h.fr.size, h.fr.trans h3 (fun x hx hm => h.mem hx hm)⟩
  rw [numOf_snoc, totOf_snoc]
  have e : N + (numOf P + v * 2 ^ totOf P) * 2 ^ m = N + numOf P * 2 ^ m + v * 2 ^ (m + totOf P) := by
    rw [Nat.add_mul, Nat.mul_assoc, ← Nat.pow_add, Nat.add_comm (totOf P) m, Nat.add_assoc]
  rw [e, ← Nat.add_assoc m]
  exact h1
/-- many parts -/
theorem Pw.more (h : Pw w0 w gw q0 q N m P) {q' : Option Nat} (hp : Pw w w' gw q q' (N + numOf P * 2 ^ m) (m + totOf P) Q) : Pw w0 w' gw q0 q' N m (P ++ Q) := by
  refine ⟨?_, h.aft.trans hp.aft h.fr.size, h.fr.trans hp.fr (fun x hx hm => h.mem hx hm)⟩
  have := hp.tl
  rw [Nat.add_assoc m, ← totOf_app] at this
  have e : N + numOf (P ++ Q) * 2 ^ m = N + numOf P * 2 ^ m + numOf Q * 2 ^ (m + totOf P) := by
    rw [numOf_app, Nat.add_mul, Nat.mul_assoc, ← Nat.pow_add, Nat.add_comm (totOf P) m, Nat.add_assoc]
  rw [e]
  exact this
theorem tl_blk (h : Tl w gw 53 N m q) : (∃ cs, w.heap[gw]? = some (.cells cs 53 (0, 0))) ∧ ∀ y, q = some y → ∃ cs, w.heap[y]? = some (.cells cs 5 (0, 0)) := by
  obtain ⟨sv, hb, ho, rfl, _⟩ := h
  exact ⟨⟨_, hb⟩, fun y hy => own_type ho hy⟩
/-- what is neither a writer nor bytes is none of the writer's -/
theorem tl_not (h : Tl w gw 53 N m q) {g : Nat} {cs : Array Value} {t : TypeId} {fr : Nat × Nat} (hb : w.heap[g]? = some (.cells cs t fr)) (h1 : t ≠ 53) (h2 : t ≠ 5) : g ∉ gw :: q.toList := by
  obtain ⟨⟨ds, hd⟩, hq⟩ := tl_blk h
  intro hm
  rcases List.mem_cons.1 hm with e | hm
  · exact blk_ne hb hd h1 e
  · obtain ⟨es, he⟩ := hq g (by simpa using hm)
    exact blk_ne hb he h2 rfl
theorem tl_keep (h : Tl w gw 53 N m q) {g : Nat} {cs : Array Value} {t : TypeId} {fr : Nat × Nat} (hb : w.heap[g]? = some (.cells cs t fr)) (h1 : t ≠ 53) (h2 : t ≠ 5) (hf : Fr w w' (gw :: q.toList)) : w'.heap[g]? = some (.cells cs t fr) := hf.blk hb (tl_not h hb h1 h2)
/-- an encoder of these lengths -/
def EnP (w : World) (g : Nat) (lens : List Int) : Prop := ∃ ga da B db L, En w g ga da B db lens L
theorem EnP.call {g : Nat} {lens : List Int} (h : EnP w g lens) (hf : Fr w w' []) : EnP w' g lens := by
  obtain ⟨ga, da, B, db, L, h⟩ := h
  exact ⟨ga, da, B, db, L, h.frame hf (by simp)⟩
theorem EnP.keep {g : Nat} {lens : List Int} (h : EnP w g lens) (hT : Tl w gw 53 N m q) (hf : Fr w w' (gw :: q.toList)) : EnP w' g lens := by
  obtain ⟨ga, da, B, db, L, h⟩ := h
  obtain ⟨ds, hds⟩ := own_type h.lens_ (k := ga) rfl
  refine ⟨ga, da, B, db, L, h.frame hf ⟨tl_not hT h.blk (by decide) (by decide), tl_not hT hds (by decide) (by decide), fun y hy => ?_⟩⟩
  obtain ⟨es, hes⟩ := own_type h.codes_ hy
  exact tl_not hT hes (by decide) (by decide)
theorem eput {g : Nat} {lens : List Int} (s : Int) (hE : EnP w g lens) (hT : Tl w gw 53 N m q) (hm : m + 15 ≤ 1125899906842624) (er : Int) (her : er = if bitsOf lens s = 0 then 53 else 0) :
    Calls Try.prog 72 #[.pointer (some ⟨g, 0, none⟩), .pointer (some ⟨gw, 0, none⟩), .int .i64 s] w fun e w' => e = .returned (.int .i64 er) ∧ PutL w w' gw N m q (Code.part lens s) := by
  obtain ⟨ga, da, B, db, L, hE⟩ := hE
  by_cases h0 : bitsOf lens s = 0
  · rw [her, if_pos h0]
    refine (put_none s h0 gw hE).mono ?_
    rintro e w2 ⟨rfl, rfl⟩
    exact ⟨rfl, q, by simpa [Code.part, h0, rv] using hT, Aft.refl _ _, Fr.refl _ _⟩
  · rw [her, if_neg h0]
    refine (put_some s _ _ rfl rfl h0 gw hE hm hT).mono ?_
    rintro e w2 ⟨rfl, q', h1, h2, h3⟩
    exact ⟨rfl, q', h1, h2, h3⟩
theorem wput (a n : Int) (v : Nat) (ha : a = (v : Nat)) (hv : v < 2 ^ n.toNat) (h0 : 0 ≤ n) (h1 : n ≤ 56) (hT : Tl w gw 53 N m q) (hm : m + n.toNat ≤ 1125899906842624) :
    Calls Try.prog 38 #[.pointer (some ⟨gw, 0, none⟩), .int .u64 a, .int .i64 n] w fun e w' => e = .returned (.int .i64 0) ∧ PutL w w' gw N m q (v, n.toNat) := by
  refine (put_ok a n v w ha (mayN_ok h0 h1 hv) hm hT).mono ?_
  rintro e w2 ⟨rfl, q', h1, h2, h3⟩
  exact ⟨rfl, q', h1, h2, h3⟩
end
/-! ### a block's parts -/
def tokP (lit dist : List Int) (t : Tok) : List (Nat × Nat) :=
  [Code.part lit (sgA t).1, ((sgA t).2.1.toNat, (sgA t).2.2.toNat)] ++ if t.len = 0 then [] else [Code.part dist (sgB t).1, ((sgB t).2.1.toNat, (sgB t).2.2.toNat)]
def toksP (lit dist : List Int) (l : List Tok) : List (Nat × Nat) := l.flatMap (tokP lit dist)
theorem toksP_take {lit dist : List Int} {l : List Tok} {j : Nat} (h : j < l.length) : toksP lit dist (l.take (j + 1)) = toksP lit dist (l.take j) ++ tokP lit dist l[j] := by
  unfold toksP
  rw [List.take_succ_eq_append_getElem h, List.flatMap_append]; simp
theorem part_le {lens : List Int} (hc : check lens = 0) (s : Int) : (Code.part lens s).2 ≤ 15 := by
  unfold Code.part
  by_cases h : bitsOf lens s = 0
  · simp only [h]; omega
  · exact (bitsOf_fits hc h).2.2.2.1
theorem tokP_le {lit dist : List Int} (ha : check lit = 0) (hb : check dist = 0) {t : Tok} (hr : right t = true) (hl : 0 ≤ t.lit ∧ t.lit ≤ 255) : totOf (tokP lit dist t) ≤ 48 := by
  have h1 := part_le ha (sgA t).1
  have h2 := part_le hb (sgB t).1
  have h3 := (sgA_fit hr hl).1.bits
  have h4 := (sgB_fit hr).bits
  unfold tokP
  split <;> simp only [List.append_nil, List.cons_append, List.nil_append, totOf] <;> omega
theorem toksP_le {lit dist : List Int} (ha : check lit = 0) (hb : check dist = 0) : ∀ (l : List Tok), (∀ t ∈ l, right t = true) → LitB l → totOf (toksP lit dist l) ≤ 48 * l.length
  | [], _, _ => by simp [toksP, totOf]
  | t :: l, hr, hl => by
    have h1 := tokP_le ha hb (hr t (by simp)) (hl t (by simp))
    have h2 := toksP_le ha hb l (fun u hu => hr u (by simp [hu])) (fun u hu => hl u (by simp [hu]))
    have e : toksP lit dist (t :: l) = tokP lit dist t ++ toksP lit dist l := by simp [toksP]
    rw [e, totOf_app, List.length_cons]
    omega
def bodyP (lit dist : List Int) (l : List Tok) : List (Nat × Nat) := toksP lit dist l ++ [Code.part lit 256]
end Go.Proofs.Ytlfckpmdmkccjaa.Blk
