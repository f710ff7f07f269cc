/- A decoder and two readers through calls: what stays. Conditions: none. -/
import Derived.Test.YtncjckhcellehaaCodeI
import Derived.Test.YtncjckhcellehaaCodeF
import Derived.Test.YtncjckhcellehaaBitsReads
import Derived.Test.YtncjckhcellehaaCodeHelp
set_option linter.unusedVariables false
set_option linter.unusedSimpArgs false
set_option maxRecDepth 100000
namespace Go.Proofs.Ytncjckhcellehaa.Code
open Go.RowKit Go.IntWalk Go.Proofs.Ytncjckhcellehaa.Lib Go.Proofs.Ytncjckhcellehaa.Ints Go.Proofs.Ytncjckhcellehaa.Num Go.Proofs.Ytncjckhcellehaa.Bits

theorem arg_of_own {w : World} {A : Option Addr} {n c : Nat} {xs : List Value} (h : w.ownsRow 0 3 1 (.slice A n c) n xs) : SlArg w A n c xs (Value.slice A n c).ownBlock := by
  obtain ⟨A', c', e, hc, hmx, _⟩ := own_slice h
  injection e with e1 _ e2
  subst e1 e2
  exact ⟨by have := h.1; omega, hc, hmx, fun h0 => own_none h h0, sl_of_own h, fun b hb => own_lt h hb⟩
theorem rr_fresh (w : World) : RR (w.alloc (.cells #[.slice none 0 0, .int .i64 0] 55)) w.heap.size 0 0 0 none :=
  ⟨none, 0, blk_new w _, own_nil _ _ _ _, rfl, by simp⟩
/-- a call, as it lies in the script -/
structure Opd where
  C : Int
  A : Option Addr
  l : Nat
  c : Nat
  N : Int
  A2 : Option Addr
  l2 : Nat
  c2 : Nat
  O : Bool
def Opd.cells (o : Opd) : List Value := [.int .i64 o.C, .slice o.A o.l o.c, .int .i64 o.N, .slice o.A2 o.l2 o.c2, .bool o.O]
theorem opd_len (o : Opd) : o.cells.length = 5 := rfl
def Opd.ok (W : World) (o : Opd) : Prop := (∃ bs qb, SlArg W o.A o.l o.c (u8s bs) qb ∧ (∀ x ∈ bs, 0 ≤ x ∧ x ≤ 255) ∧ o.l ≤ 140737488355000) ∧ ∃ ls ql, SlArg W o.A2 o.l2 o.c2 (i64s ls) ql ∧ o.l2 * 8 ≤ 140737488355000
/-- the decoder, both readers, and the lengths that are loaded -/
structure Dz (W w : World) (gd gr gx most : Nat) (lens : List Int) (A : Option Addr) (n c V h t : Nat) (q : Option Nat) : Prop where
  de : ∃ S, De w gd most (cz lens) S (used lens) ∧ SymOk lens S
  ck : check lens = 0
  own : w.ownsRow 0 3 1 (.slice A n c) n (i64s lens)
  len : lens.length = n
  pr : Pr w gr gx V h t q
  fr : Fr W w []
  bd : W.heap.size ≤ gd ∧ W.heap.size ≤ gr ∧ W.heap.size ≤ gx
  bq : ∀ y, q = some y → W.heap.size ≤ y
  ba : ∀ y, (Value.slice A n c).ownBlock = some y → W.heap.size ≤ y
section
variable {W w w' : World} {gd gr gx most : Nat} {lens : List Int} {A : Option Addr} {n c V h t : Nat} {q : Option Nat}
theorem Dz.keep (d : Dz W w gd gr gx most lens A n c V h t q) (hf : Fr w w' []) : Dz W w' gd gr gx most lens A n c V h t q :=
  ⟨by obtain ⟨S, h1, h2⟩ := d.de; exact ⟨S, h1.frame hf (by simp), h2⟩, d.ck, own_frame d.own hf (by simp), d.len, d.pr.keep hf, d.fr.trans hf (by simp), d.bd, d.bq, d.ba⟩
theorem Dz.dblk (d : Dz W w gd gr gx most lens A n c V h t q) : ∃ cs, w.heap[gd]? = some (.cells cs 74 (0, 0)) := by
  obtain ⟨S, h1, _⟩ := d.de
  obtain ⟨cs, hb, _⟩ := h1.ex
  exact ⟨cs, hb⟩
theorem Dz.xblk (d : Dz W w gd gr gx most lens A n c V h t q) : ∃ cs, w.heap[gx]? = some (.cells cs 55 (0, 0)) := by
  obtain ⟨B, cc, hb, _⟩ := d.pr.rr
  exact ⟨_, hb⟩
theorem Dz.qblk (d : Dz W w gd gr gx most lens A n c V h t q) {y : Nat} (hy : q = some y) : ∃ cs, w.heap[y]? = some (.cells cs 4 (0, 0)) := by
  obtain ⟨B, cc, hb, ho, hq, _⟩ := d.pr.rr
  exact own_type ho (hq.trans hy)
theorem Dz.bits (d : Dz W w gd gr gx most lens A n c V h t q) : h ≤ 64 := d.pr.rd.2.2
theorem Dz.xs (d : Dz W w gd gr gx most lens A n c V h t q) : ∃ B cc qb, w.cell? ⟨gx, 0, none⟩ = some (.slice B h cc) ∧ Sl w B (bools V h) qb := by
  obtain ⟨B, cc, hb, ho, hq, _⟩ := d.pr.rr
  exact ⟨B, cc, _, blk_cell hb 0, sl_of_own ho⟩
/-- both readers have gone on alike -/
theorem Dz.read {w1 : World} {V' h' t' : Nat} {q' : Option Nat} (d : Dz W w gd gr gx most lens A n c V h t q) (r1 : Rd w1 gr V' h' t') (f1 : Fr w w1 [gr]) (r2 : RR w' gx V' h' t' q') (f2 : Fr w1 w' (gx :: q.toList)) (ha : Af w1 q q') :
    Dz W w' gd gr gx most lens A n c V' h' t' q' := by
  obtain ⟨n1, n2, n3⟩ := d.pr.ne
  obtain ⟨l1, l2, l3⟩ := d.pr.lt
  obtain ⟨cx, hx⟩ := d.xblk
  have e : Fr w w' (gr :: gx :: q.toList) := f1.both f2 (fun x _ hx => by rw [List.mem_singleton.1 hx]; exact List.mem_cons_self) (fun _ _ h => List.mem_cons_of_mem _ h)
  have hty : ∀ {y : Nat} {cs : Array Value} {ty : TypeId}, w.heap[y]? = some (.cells cs ty (0, 0)) → ty ≠ 53 → ty ≠ 55 → ty ≠ 4 → y ∉ gr :: gx :: q.toList := by
    intro y cs ty hy h1 h2 h3 hm
    rcases List.mem_cons.1 hm with e | hm
    · exact blk_ne hy d.pr.rd.1 h1 e
    · rcases List.mem_cons.1 hm with e | hm
      · exact blk_ne hy hx h2 e
      · obtain ⟨ds, hd⟩ := d.qblk (y := y) (by simpa using hm)
        exact blk_ne hy hd h3 rfl
  refine ⟨?_, d.ck, own_frame d.own e ?_, d.len, ⟨r1.frame f2 ?_, r2⟩, d.fr.trans e ?_, d.bd, ?_, d.ba⟩
  · obtain ⟨S, h1, h2⟩ := d.de
    obtain ⟨cs, hb, _⟩ := h1.ex
    exact ⟨S, h1.frame e (hty hb (by decide) (by decide) (by decide)), h2⟩
  · intro y hy
    obtain ⟨cs, hcs⟩ := own_type d.own hy
    exact hty hcs (by decide) (by decide) (by decide)
  · simp only [List.mem_cons, Option.mem_toList, not_or]
    exact ⟨n1, n2⟩
  · intro x hx hm
    have := d.bd
    rcases List.mem_cons.1 hm with e | hm
    · omega
    · rcases List.mem_cons.1 hm with e | hm
      · omega
      · have := d.bq x (by simpa using hm); omega
  · intro y hy
    rcases ha y hy with e | e
    · exact d.bq y e
    · have := d.fr.size; have := f1.size; omega
/-- other lengths are loaded -/
theorem Dz.load {ls : List Int} {A' : Option Addr} {n' c' : Nat} {S : Nat → Nat} (d : Dz W w gd gr gx most lens A n c V h t q) (hf : Fr w w' [gd]) (hD : De w' gd most (cz ls) S (used ls)) (hS : SymOk ls S) (hc : check ls = 0)
    (ho : w'.ownsRow 0 3 1 (.slice A' n' c') n' (i64s ls)) (hl : ls.length = n') (ha : ∀ y, (Value.slice A' n' c').ownBlock = some y → W.heap.size ≤ y) : Dz W w' gd gr gx most ls A' n' c' V h t q := by
  obtain ⟨cd, hd⟩ := d.dblk
  obtain ⟨cx, hx⟩ := d.xblk
  refine ⟨⟨S, hD, hS⟩, hc, ho, hl, ⟨d.pr.rd.frame hf ?_, d.pr.rr.frame hf ?_ ?_⟩, d.fr.trans hf ?_, d.bd, d.bq, ha⟩
  · simp; exact fun e => blk_ne hd d.pr.rd.1 (by decide) e.symm
  · simp; exact fun e => blk_ne hd hx (by decide) e.symm
  · intro y hy
    obtain ⟨cs, hcs⟩ := d.qblk hy
    simp; exact fun e => blk_ne hd hcs (by decide) e.symm
  · intro x hx hm
    have := d.bd
    simp at hm
    omega
/-- the same where a block behind all was written too -/
theorem Dz.load2 {ls : List Int} {A' : Option Addr} {n' c' g gb : Nat} {S : Nat → Nat} (d : Dz W w gd gr gx most lens A n c V h t q) (hf : Fr w w' [gd, g]) (hg : gd < g ∧ gr < g ∧ gx < g ∧ (∀ y, q = some y → y < g) ∧ (∀ y, (Value.slice A n c).ownBlock = some y → y < g) ∧ gb < g ∧ W.heap.size ≤ g)
    (hD : De w' gd most (cz ls) S (used ls)) (hS : SymOk ls S) (hc : check ls = 0)
    (ho : w'.ownsRow 0 3 1 (.slice A' n' c') n' (i64s ls)) (hl : ls.length = n') (ha : ∀ y, (Value.slice A' n' c').ownBlock = some y → W.heap.size ≤ y) : Dz W w' gd gr gx most ls A' n' c' V h t q := by
  obtain ⟨cd, hd⟩ := d.dblk
  obtain ⟨cx, hx⟩ := d.xblk
  obtain ⟨g1, g2, g3, g4, g5, g6, g7⟩ := hg
  refine ⟨⟨S, hD, hS⟩, hc, ho, hl, ⟨d.pr.rd.frame hf ?_, d.pr.rr.frame hf ?_ ?_⟩, d.fr.trans hf ?_, d.bd, d.bq, ha⟩
  · simp; exact ⟨fun e => blk_ne hd d.pr.rd.1 (by decide) e.symm, by omega⟩
  · simp; exact ⟨fun e => blk_ne hd hx (by decide) e.symm, by omega⟩
  · intro y hy
    obtain ⟨cs, hcs⟩ := d.qblk hy
    have := g4 y hy
    simp; exact ⟨fun e => blk_ne hd hcs (by decide) e.symm, by omega⟩
  · intro x hx hm
    have := d.bd
    simp at hm
    omega
theorem Dz.keep2 {g gb : Nat} (d : Dz W w gd gr gx most lens A n c V h t q) (hf : Fr w w' [g]) (hg : gd < g ∧ gr < g ∧ gx < g ∧ (∀ y, q = some y → y < g) ∧ (∀ y, (Value.slice A n c).ownBlock = some y → y < g) ∧ gb < g ∧ W.heap.size ≤ g) : Dz W w' gd gr gx most lens A n c V h t q := by
  obtain ⟨g1, g2, g3, g4, g5, g6, g7⟩ := hg
  refine ⟨?_, d.ck, own_frame d.own hf ?_, d.len, ⟨d.pr.rd.frame hf ?_, d.pr.rr.frame hf ?_ ?_⟩, d.fr.trans hf ?_, d.bd, d.bq, d.ba⟩
  · obtain ⟨S, h1, h2⟩ := d.de
    exact ⟨S, h1.frame hf (by simp; omega), h2⟩
  · intro y hy; have := g5 y hy; simp; omega
  · simp; omega
  · simp; omega
  · intro y hy; have := g4 y hy; simp; omega
  · intro x hx hm
    simp at hm
    omega
theorem next_one {S : Nat → Nat} (hc : check lens = 0) (hS : SymOk lens S) {r : Nat × Nat × Nat} (hr : r = next (cz lens) (used lens) V h) (h1 : r.1 = 1) : r.2.2 ≤ h ∧ r.2.2 ≤ 15 := by
  obtain ⟨a, j, m⟩ := r
  simp only at h1
  subst h1
  obtain ⟨s, hB⟩ := next_found hc hr.symm
  obtain ⟨k, e, _⟩ := bg_next hc hS hB
  rw [← hr] at e
  cases e
  exact ⟨hB.2.2.1, (bitsOf_fits hc hB.2.1).2.2.2.1⟩
theorem next_none {r : Nat × Nat × Nat} (hr : r = next (cz lens) (used lens) V h) (h1 : r.1 ≠ 1) : r.2.2 = 0 := by
  rw [hr] at h1 ⊢
  unfold next at h1 ⊢
  split
  · rfl
  · rw [if_neg (by assumption)] at h1
    exact nextF_len _ _ _ _ _ _ _ h1
end
theorem cz_nil : cz [] = fun _ => 0 := by
  funext l
  simp [cz, cnt]
theorem used_nil : used [] = 0 := by simp [used, cz_nil, usedF]
theorem check_nil : check [] = 0 := by decide
theorem sym_nil : SymOk [] (fun _ => 0) := by
  intro s hs
  simp at hs
theorem room2 (m : Nat) : ((8 * m + 256 : Nat) : Int) = 8 * (m : Int) + 256 := by omega
theorem room3 (w : World) (g most k : Nat) (F S : Nat → Nat) (hD : De w g most F S k) (h1 : 1 ≤ most) (h2 : most ≤ 288) :
    Calls Try.prog 23 #[.pointer (some ⟨g, 0, none⟩)] w fun e w' => e = .returned (.int .i64 (8 * (most : Int) + 256)) ∧ w = w' := by
  rw [← room2]
  exact room_any w g most k F S hD h1 h2
theorem next_nilr (w : World) {g most k : Nat} {F S : Nat → Nat} (hD : De w g most F S k) (h1 : 1 ≤ most) :
    Calls Try.prog 29 #[.pointer (some ⟨g, 0, none⟩), .pointer none] w fun e w' => e = .returned (.tuple #[.int .i64 0, .bool false, .int .i64 2]) ∧ w = w' := by
  have c0 := hD.c0
  have hz : ((most : Int) == 0) = false := by simp; omega
  clear hD
  go_enter Try.func29, Try.ntmps29
  go_wp2
  go_ret3
  exact ⟨rfl, rfl⟩
end Go.Proofs.Ytncjckhcellehaa.Code
