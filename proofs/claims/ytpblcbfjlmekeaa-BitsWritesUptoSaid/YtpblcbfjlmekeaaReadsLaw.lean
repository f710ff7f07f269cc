/- BitsReads' walk: two pairs of readers through any calls. Conditions: none but what memory bounds. -/
import Derived.Test.YtpblcbfjlmekeaaBitsReads
set_option linter.unusedVariables false
set_option linter.unusedSimpArgs false
set_option maxRecDepth 100000
namespace Go.Proofs.Ytpblcbfjlmekeaa.Bits
open Go.RowKit Go.Proofs.Ytpblcbfjlmekeaa.Lib Go.Proofs.Ytpblcbfjlmekeaa.Num

/-- a call, as it lies in the script -/
structure Opn where
  C : Int
  V : Int
  N : Int
  A : Option Addr
  l : Nat
  c : Nat
def Opn.cells (o : Opn) : List Value := [.int .i64 o.C, .int .u64 o.V, .int .i64 o.N, .slice o.A o.l o.c]
theorem opn_len (o : Opn) : o.cells.length = 4 := rfl
def Opn.ok (W : World) (o : Opn) : Prop := ∃ bs qb, SlArg W o.A o.l o.c (u8s bs) qb ∧ (∀ x ∈ bs, 0 ≤ x ∧ x ≤ 255) ∧ o.l ≤ 140737488355000
theorem rr_new (w : World) : RR (w.alloc (.cells #[.slice none 0 0, .int .i64 0] 31)) w.heap.size 0 0 0 none :=
  ⟨none, 0, blk_new w _, own_nil _ _ _ _, rfl, by simp⟩
theorem reads_any (W w : World) (g1 g2 V h t : Nat) (q : Option Nat) (o : Opn) (ho : o.ok W) (hf : Fr W w []) (l1 : W.heap.size ≤ g1) (l2 : W.heap.size ≤ g2) (l3 : ∀ k, q = some k → W.heap.size ≤ k) (ht : t ≤ 1152921504606846976) (hp : Pr w g1 g2 V h t q) :
    Calls Try.prog 13 #[.pointer (some ⟨g1, 0, none⟩), .pointer (some ⟨g2, 0, none⟩), .agg #[.int .i64 o.C, .int .u64 o.V, .int .i64 o.N, .slice o.A o.l o.c]] w fun e w' => e = .returned (.bool true) ∧ Left w w' g1 g2 t q := by
  obtain ⟨C, v, n, A, l, c⟩ := o
  obtain ⟨bs, qb, hs, hx, hl⟩ := ho
  simp only at hs hl ⊢
  by_cases h0 : C = 0
  · subst h0
    refine reads_feed w g1 g2 V h t q v n A l c bs qb (hs.frame hf (by simp)) hl hx (fun e => ?_) (fun k hk e => ?_) hp
    · have := hs.lt _ e; omega
    · have h1 := hs.lt _ hk
      rcases List.mem_cons.1 e with rfl | e
      · omega
      · have := l3 k (by simpa using e); omega
  by_cases h1 : C = 1
  · subst h1; exact reads_take w g1 g2 V h t q v n _ ht hp
  by_cases h2 : C = 2
  · subst h2; exact reads_peek w g1 g2 V h t q v n _ ht hp
  by_cases h3 : C = 3
  · subst h3; exact reads_align w g1 g2 V h t q v n _ ht hp
  exact reads_ask w g1 g2 V h t q C v n (by omega) _ ht hp

/-- two pairs, apart from one another and from what there was -/
def Duo (W w : World) (r o x y T : Nat) : Prop := ∃ V h t q V2 h2 t2 q2, Pr w r x V h t q ∧ Pr w o y V2 h2 t2 q2 ∧ (∀ k, q = some k → W.heap.size ≤ k ∧ q2 ≠ some k) ∧ (∀ k, q2 = some k → W.heap.size ≤ k) ∧ Fr W w [] ∧ t ≤ T ∧ t2 ≤ T
theorem Duo.swap {W w : World} {r o x y T : Nat} (d : Duo W w r o x y T) : Duo W w o r y x T := by
  obtain ⟨V, h, t, q, V2, h2, t2, q2, a, b, c, d, e, f, g⟩ := d
  exact ⟨V2, h2, t2, q2, V, h, t, q, b, a, fun k hk => ⟨d k hk, fun e => (c k e).2 hk⟩, fun k hk => (c k hk).1, e, g, f⟩
theorem Duo.keep {W w w' : World} {r o x y T : Nat} (d : Duo W w r o x y T) (hf : Fr w w' []) : Duo W w' r o x y T := by
  obtain ⟨V, h, t, q, V2, h2, t2, q2, a, b, c, d, e, f, g⟩ := d
  exact ⟨V, h, t, q, V2, h2, t2, q2, a.keep hf, b.keep hf, c, d, e.trans hf (by simp), f, g⟩
theorem Duo.more {W w : World} {r o x y T T' : Nat} (d : Duo W w r o x y T) (h : T ≤ T') : Duo W w r o x y T' := by
  obtain ⟨V, h, t, q, V2, h2, t2, q2, a, b, c, d, e, f, g⟩ := d
  exact ⟨V, h, t, q, V2, h2, t2, q2, a, b, c, d, e, by omega, by omega⟩
/-- boxes stay -/
def Box (w w' : World) : Prop := ∀ (z : Nat) (cs : Array Value), w.heap[z]? = some (Obj.cells cs 34 (0, 0)) → w'.heap[z]? = some (Obj.cells cs 34 (0, 0))
theorem Duo.step {W w : World} {r o x y T : Nat} (p : Opn) (hp : p.ok W) (d : Duo W w r o x y T) (h1 : W.heap.size ≤ r) (h2 : W.heap.size ≤ x) (h3 : r ≠ o) (h4 : x ≠ y) (hT : T ≤ 1152921504606846976) :
    Calls Try.prog 13 #[.pointer (some ⟨r, 0, none⟩), .pointer (some ⟨x, 0, none⟩), .agg #[.int .i64 p.C, .int .u64 p.V, .int .i64 p.N, .slice p.A p.l p.c]] w fun e w' => e = .returned (.bool true) ∧ Duo W w' r o x y (T + 56) ∧ Box w w' := by
  obtain ⟨V, h, t, q, V2, h2', t2, q2, a, b, c, d, e, f, g⟩ := d
  refine (reads_any W w r x V h t q p hp e h1 h2 (fun k hk => (c k hk).1) (by omega) a).mono ?_
  rintro e' w' ⟨rfl, V', h', t', q', hp', haf, hfr, ht'⟩
  have n1 := rr_ne b.rd a.rr
  have n2 := rr_ne a.rd b.rr
  have n3 : ∀ k, q2 = some k → k ∉ r :: x :: q.toList := by
    intro k hk e'
    simp only [List.mem_cons, Option.mem_toList] at e'
    obtain ⟨A, cc, hb, hown, hq, hV⟩ := b.rr
    rcases e' with rfl | rfl | e'
    · exact n2.2 hk
    · obtain ⟨A1, c1, hb1, _⟩ := a.rr
      exact own_ne hown hb1 (by decide) (hq.trans hk)
    · exact (c k e').2 hk
  have n4 : o ∉ r :: x :: q.toList := by
    simp only [List.mem_cons, Option.mem_toList, not_or]
    exact ⟨fun e => h3 e.symm, n1.1, n1.2⟩
  have n5 : y ∉ r :: x :: q.toList := by
    simp only [List.mem_cons, Option.mem_toList, not_or]
    obtain ⟨A, cc, hb, hown, hq, hV⟩ := a.rr
    obtain ⟨A1, c1, hb1, _⟩ := b.rr
    exact ⟨fun e => n2.1 e.symm, fun e => h4 e.symm, fun e => own_ne hown hb1 (by decide) (hq.trans e)⟩
  have n6 : Box w w' := by
    intro z cs hz
    refine hfr.blk hz ?_
    simp only [List.mem_cons, Option.mem_toList, not_or]
    obtain ⟨A, cc, hb, hown, hq, hV⟩ := a.rr
    exact ⟨fun e => blk_ne hz a.rd.1 (by decide) e, fun e => blk_ne hz hb (by decide) e, fun e => own_ne hown hz (by decide) (hq.trans e)⟩
  refine ⟨rfl, ⟨V', h', t', q', V2, h2', t2, q2, hp', ⟨b.rd.frame hfr n4, b.rr.frame hfr n5 n3⟩, fun k hk => ?_, d, e.trans hfr ?_, by omega, by omega⟩, n6⟩
  · rcases haf k hk with e1 | e1
    · exact c k e1
    · have := e.size
      exact ⟨by omega, fun e2 => by have := b.lt.2.2 k e2; omega⟩
  · intro k hk e1
    simp only [List.mem_cons, Option.mem_toList] at e1
    rcases e1 with rfl | rfl | e1
    · omega
    · omega
    · have := (c k e1).1; omega
theorem ask_ok {W : World} : Opn.ok W ⟨4, 0, 0, none, 0, 0⟩ := ⟨[], none, ⟨rfl, Nat.le_refl _, Nat.zero_le _, fun _ => ⟨rfl, rfl⟩, Sl.nil _ _ _, fun b hb => by cases hb⟩, fun x hx => by simp at hx, Nat.zero_le _⟩
theorem reads_law (A : Option Addr) (l c : Nat) (os : List Opn) (q : Option Nat) (W : World) (hl : os.length = l) (hS : Sl W A (os.flatMap Opn.cells) q) (hO : ∀ o ∈ os, o.ok W) (hy : l * 48 ≤ 140737488351232) :
    Calls Try.prog 5 #[.slice A l c] W fun e w' => e = .returned (.bool true) ∧ Below W.heap.size W w' := by
  subst hl
  have HS := Hd.mk hS
  have HO := Hd.mk hO
  have hl1 : os.length ≤ 2932031007403 := by omega
  have HD0 : Hd (Duo W ((((W.alloc (.cells #[.int .u64 0, .int .i64 0, .int .i64 0] 28)).alloc (.cells #[.int .u64 0, .int .i64 0, .int .i64 0] 28)).alloc (.cells #[.slice none 0 0, .int .i64 0] 31)).alloc (.cells #[.slice none 0 0, .int .i64 0] 31)) W.heap.size (W.heap.size + 1) (W.heap.size + 1 + 1) (W.heap.size + 1 + 1 + 1) 0) := by
    have e1 : ((W.alloc (.cells #[.int .u64 0, .int .i64 0, .int .i64 0] 28)).heap.size) = W.heap.size + 1 := by simp
    refine ⟨⟨0, 0, 0, none, 0, 0, 0, none, ⟨?_, ?_⟩, ⟨?_, ?_⟩, by simp, by simp, ((((Fr.refl W []).alloc _).alloc _).alloc _).alloc _, Nat.le_refl _, Nat.le_refl _⟩⟩
    · exact (rd_new W).frame ((((Fr.refl _ []).alloc _).alloc _).alloc _) (by simp)
    · have := rr_new ((W.alloc (.cells #[.int .u64 0, .int .i64 0, .int .i64 0] 28)).alloc (.cells #[.int .u64 0, .int .i64 0, .int .i64 0] 28))
      simp only [show ∀ (w : World) (o : Obj), (w.alloc o).heap.size = w.heap.size + 1 from fun w o => by simp] at this
      exact this.frame ((Fr.refl _ []).alloc _) (by simp) (by simp)
    · have := rd_new (W.alloc (.cells #[.int .u64 0, .int .i64 0, .int .i64 0] 28))
      rw [e1] at this
      exact this.frame (((Fr.refl _ []).alloc _).alloc _) (by simp)
    · have := rr_new (((W.alloc (.cells #[.int .u64 0, .int .i64 0, .int .i64 0] 28)).alloc (.cells #[.int .u64 0, .int .i64 0, .int .i64 0] 28)).alloc (.cells #[.slice none 0 0, .int .i64 0] 31))
      simp only [show ∀ (w : World) (o : Obj), (w.alloc o).heap.size = w.heap.size + 1 from fun w o => by simp] at this
      exact this
  clear hS hO hy
  go_enter Try.func5, Try.ntmps5
  go_wp2_with (fail)
  go_loopg [11] os.length (fun kq jv wr => ∃ j : Nat, jv = .int .i64 (j : Nat) ∧ j + kq = os.length ∧ Hd (Duo W wr W.heap.size (W.heap.size + 1) (W.heap.size + 1 + 1) (W.heap.size + 1 + 1 + 1) (168 * j)))
  case atStart => exact ⟨0, rfl, by omega, by simpa using HD0⟩
  case round =>
    obtain ⟨j, rfl, hj, HDr⟩ := hrel
    by_cases hlt : j < os.length
    · obtain ⟨o, ho⟩ : ∃ o, o = os[j]'hlt := ⟨_, rfl⟩
      have hom : o.ok W := HO.out o (by rw [ho]; exact List.getElem_mem _)
      have hfr : Fr W wr [] := by obtain ⟨_, _, _, _, _, _, _, _, _, _, _, _, h, _⟩ := HDr.out; exact h
      obtain ⟨b, off, rfl, hqb, hcell⟩ := (HS.out.frame hfr (by simp)).row opn_len hlt (by decide)
      rw [← ho] at hcell
      have c0 := hcell 0 (by decide)
      have c1 := hcell 1 (by decide)
      have c2 := hcell 2 (by decide)
      have c3 := hcell 3 (by decide)
      simp only [Opn.cells, List.getElem?_cons_zero, List.getElem?_cons_succ, Nat.add_zero] at c0 c1 c2 c3
      have HOM := Hd.mk hom
      clear hfr hcell hom ho hqb
      have HD1 := Hd.mk (HDr.out.keep ((Fr.refl wr []).alloc (.cells #[.int .i64 o.C, .int .u64 o.V, .int .i64 o.N, .slice o.A o.l o.c] 34)))
      go_wp2_with (fail)
      refine (Duo.step o HOM.out HD1.out (by omega) (by omega) (by omega) (by omega) (by omega)).mono ?_
      rintro e w1 ⟨rfl, hd1, hx1⟩
      have HD2 := Hd.mk hd1
      have HB1 := Hd.mk (hx1 _ _ (blk_new _ _))
      clear hd1 hx1 c0 c1 c2 c3
      go_wp2_with (fail)
      refine (Duo.step ⟨4, 0, 0, none, 0, 0⟩ ask_ok HD2.out (by omega) (by omega) (by omega) (by omega) (by omega)).mono ?_
      rintro e w2 ⟨rfl, hd2, hx2⟩
      have HD3 := Hd.mk hd2
      have hb2 := hx2 _ _ HB1.out
      have c0 := blk_cell hb2 0
      have c1 := blk_cell hb2 1
      have c2 := blk_cell hb2 2
      have c3 := blk_cell hb2 3
      simp only [List.getElem?_toArray, List.getElem?_cons_zero, List.getElem?_cons_succ] at c0 c1 c2 c3
      clear hd2 hx2 hb2
      by_cases h3 : j % 3 = 0
      · go_wp2_with (fail)
        refine (Duo.step o HOM.out HD3.out.swap (by omega) (by omega) (by omega) (by omega) (by omega)).mono ?_
        rintro e w3 ⟨rfl, hd3, hx3⟩
        have HD4 := Hd.mk hd3.swap
        clear hd3 hx3 c0 c1 c2 c3
        go_wp2
        go_roundg (gk - 1)
        case measure => omega
        case rel => exact ⟨j + 1, by go_num, by omega, ⟨HD4.out.more (by omega)⟩⟩
      · go_wp2
        go_roundg (gk - 1)
        case measure => omega
        case rel => exact ⟨j + 1, by go_num, by omega, ⟨HD3.out.more (by omega)⟩⟩
    · go_wp2_with (fail)
      refine (Duo.step ⟨4, 0, 0, none, 0, 0⟩ ask_ok HDr.out.swap (by omega) (by omega) (by omega) (by omega) (by omega)).mono ?_
      rintro e w1 ⟨rfl, hd1, hx1⟩
      have HD2 := Hd.mk hd1
      clear hd1 hx1
      go_wp2_with (fail)
      refine (lives_any w1).mono ?_
      rintro e w2 ⟨rfl, g3⟩
      have HD3 := Hd.mk (HD2.out.keep g3)
      clear g3
      go_wp2
      go_ret
      obtain ⟨_, _, _, _, _, _, _, _, _, _, _, _, hf, _⟩ := HD3.out
      exact ⟨rfl, hf.below⟩
end Go.Proofs.Ytpblcbfjlmekeaa.Bits
