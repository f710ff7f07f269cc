/- BitsWrites' walk: two pairs of writers through any calls. Conditions: fewer than 2^20 pieces in all. -/
import Derived.Test.YtpblcbfjlmekeaaWritesPut
import Derived.Test.YtpblcbfjlmekeaaWritesTurned
import Derived.Test.YtpblcbfjlmekeaaWritesRest
import Derived.Test.YtpblcbfjlmekeaaWritesLook
import Derived.Test.YtpblcbfjlmekeaaReadsLaw
set_option linter.unusedVariables false
set_option linter.unusedSimpArgs false
set_option maxRecDepth 100000
namespace Go.Proofs.Ytpblcbfjlmekeaa.Bits
open Go.RowKit Go.Proofs.Ytpblcbfjlmekeaa.Lib Go.Proofs.Ytpblcbfjlmekeaa.Num

def Opn.wok (W : World) (o : Opn) : Prop := o.ok W ∧ 0 ≤ o.V
theorem writes_any (W w : World) (g1 g2 N m : Nat) (q1 q2 : Option Nat) (o : Opn) (ho : o.wok W) (hf : Fr W w []) (hb : ∀ x ∈ blks g1 g2 q1 q2, W.heap.size ≤ x) (hm : m + 56 + 8 * o.l ≤ 70368744177664) (hp : Pw w g1 g2 N m q1 q2) :
    Calls Try.prog 23 #[.pointer (some ⟨g1, 0, none⟩), .pointer (some ⟨g2, 0, none⟩), .agg #[.int .i64 o.C, .int .u64 o.V, .int .i64 o.N, .slice o.A o.l o.c]] w fun e w' => e = .returned (.bool true) ∧ WLeft w w' g1 g2 m q1 q2 o.l := by
  obtain ⟨C, v, n, A, l, c⟩ := o
  obtain ⟨⟨bs, qb, hs, hx, hl⟩, hv⟩ := ho
  simp only at hs hl hv hm ⊢
  obtain ⟨v, rfl⟩ := Int.eq_ofNat_of_zero_le hv
  have more : ∀ {e : Ending} {w' : World}, (e = .returned (.bool true) ∧ WLeft w w' g1 g2 m q1 q2 0) → (e = .returned (.bool true) ∧ WLeft w w' g1 g2 m q1 q2 l) := by
    rintro e w' ⟨h, N', m', q1', q2', a, b, c, d, k⟩
    exact ⟨h, N', m', q1', q2', a, b, c, d, by omega⟩
  by_cases h0 : C = 0
  · subst h0; exact (writes_put w g1 g2 N m q1 q2 v n _ (by omega) hp).mono fun _ _ => more
  by_cases h1 : C = 1
  · subst h1; exact (writes_turned w g1 g2 N m q1 q2 v n _ (by omega) hp).mono fun _ _ => more
  by_cases h2 : C = 2
  · subst h2; exact (writes_align w g1 g2 N m q1 q2 (v : Int) n _ (by omega) hp).mono fun _ _ => more
  by_cases h3 : C = 3
  · subst h3
    refine writes_whole w g1 g2 N m q1 q2 (v : Int) n A l c bs qb (hs.frame hf (by simp)) hx hm (fun k hk e => ?_) hp
    have h1 := hs.lt _ hk
    have := hb k e
    omega
  exact (writes_look w g1 g2 N m q1 q2 C (v : Int) n (by omega) _ (by omega) hp).mono fun _ _ => more

/-- two pairs, apart from one another and from what there was -/
def WDuo (W w : World) (r o x y T : Nat) : Prop := ∃ N m q1 q2 N2 m2 p1 p2, Pw w r x N m q1 q2 ∧ Pw w o y N2 m2 p1 p2 ∧ (∀ k, k ∈ blks r x q1 q2 → W.heap.size ≤ k ∧ k ∉ blks o y p1 p2) ∧ (∀ k, k ∈ blks o y p1 p2 → W.heap.size ≤ k) ∧ Fr W w [] ∧ m ≤ T ∧ m2 ≤ T
theorem WDuo.swap {W w : World} {r o x y T : Nat} (d : WDuo W w r o x y T) : WDuo W w o r y x T := by
  obtain ⟨N, m, q1, q2, N2, m2, p1, p2, a, b, c, d, e, f, g⟩ := d
  exact ⟨N2, m2, p1, p2, N, m, q1, q2, b, a, fun k hk => ⟨d k hk, fun e => (c k e).2 hk⟩, fun k hk => (c k hk).1, e, g, f⟩
theorem WDuo.keep {W w w' : World} {r o x y T : Nat} (d : WDuo W w r o x y T) (hf : Fr w w' []) : WDuo W w' r o x y T := by
  obtain ⟨N, m, q1, q2, N2, m2, p1, p2, a, b, c, d, e, f, g⟩ := d
  exact ⟨N, m, q1, q2, N2, m2, p1, p2, a.keep hf, b.keep hf, c, d, e.trans hf (by simp), f, g⟩
theorem WDuo.more {W w : World} {r o x y T T' : Nat} (d : WDuo W w r o x y T) (h : T ≤ T') : WDuo W w r o x y T' := by
  obtain ⟨N, m, q1, q2, N2, m2, p1, p2, a, b, c, d, e, f, g⟩ := d
  exact ⟨N, m, q1, q2, N2, m2, p1, p2, a, b, c, d, e, by omega, by omega⟩
theorem WDuo.step {W w : World} {r o x y T : Nat} (p : Opn) (hp : p.wok W) (d : WDuo W w r o x y T) (hT : T + 56 + 8 * p.l ≤ 70368744177664) :
    Calls Try.prog 23 #[.pointer (some ⟨r, 0, none⟩), .pointer (some ⟨x, 0, none⟩), .agg #[.int .i64 p.C, .int .u64 p.V, .int .i64 p.N, .slice p.A p.l p.c]] w fun e w' => e = .returned (.bool true) ∧ WDuo W w' r o x y (T + 56 + 8 * p.l) ∧ Box w w' := by
  obtain ⟨N, m, q1, q2, N2, m2, p1, p2, a, b, c, d, e, f, g⟩ := d
  refine (writes_any W w r x N m q1 q2 p hp e (fun k hk => (c k hk).1) (by omega) a).mono ?_
  rintro e' w' ⟨rfl, N', m', q1', q2', hp', ha1, ha2, hfr, hm'⟩
  have hnot : ∀ k, k ∈ blks o y p1 p2 → k ∉ blks r x q1 q2 := fun k hk e => (c k e).2 hk
  have n6 : Box w w' := by
    intro z cs hz
    refine hfr.blk hz (fun hm => ?_)
    obtain ⟨sv, hb, hown, hq, _⟩ := a.tl
    obtain ⟨A2, c2, hb2, hown2, hq2, _⟩ := a.rw
    rcases mem_blks.1 hm with e | e | e | e
    · exact blk_ne hz hb (by decide) e
    · exact own_ne hown hz (by decide) (hq.trans e)
    · exact blk_ne hz hb2 (by decide) e
    · exact own_ne hown2 hz (by decide) (hq2.trans e)
  have hin : ∀ k, k ∈ blks r x q1' q2' → k ∈ blks r x q1 q2 ∨ w.heap.size ≤ k := by
    intro k hk
    rcases mem_blks.1 hk with e | e | e | e
    · exact .inl (mem_blks.2 (.inl e))
    · rcases ha1 k e with h | h
      · exact .inl (mem_blks.2 (.inr (.inl h)))
      · exact .inr h
    · exact .inl (mem_blks.2 (.inr (.inr (.inl e))))
    · rcases ha2 k e with h | h
      · exact .inl (mem_blks.2 (.inr (.inr (.inr h))))
      · exact .inr h
  refine ⟨rfl, ⟨N', m', q1', q2', N2, m2, p1, p2, hp', ⟨b.tl.frame hfr (hnot _ (mem_blks.2 (.inl rfl))) (fun k hk => hnot k (mem_blks.2 (.inr (.inl hk)))), b.rw.frame hfr (hnot _ (mem_blks.2 (.inr (.inr (.inl rfl))))) (fun k hk => hnot k (mem_blks.2 (.inr (.inr (.inr hk)))))⟩, fun k hk => ?_, d, e.trans hfr ?_, by omega, by omega⟩, n6⟩
  · rcases hin k hk with e1 | e1
    · exact c k e1
    · have := e.size
      exact ⟨by omega, fun e2 => by have := b.lt k e2; omega⟩
  · intro k hk e1
    have := (c k e1).1
    omega
def part (os : List Opn) (j : Nat) : Nat := ((os.take j).map fun o => o.l + 1).sum
theorem part_succ {os : List Opn} {j : Nat} (h : j < os.length) : part os (j + 1) = part os j + (os[j].l + 1) := by
  unfold part
  rw [List.take_succ_eq_append_getElem h, List.map_append, List.sum_append]
  simp only [List.map_cons, List.map_nil, List.sum_cons, List.sum_nil, Nat.add_zero]
theorem part_le (os : List Opn) (j : Nat) : part os j ≤ (os.map fun o => o.l + 1).sum := by
  have : os.map (fun o => o.l + 1) = (os.take j).map (fun o => o.l + 1) ++ (os.drop j).map (fun o => o.l + 1) := by rw [← List.map_append, List.take_append_drop]
  unfold part
  rw [this, List.sum_append]
  exact Nat.le_add_right _ _
theorem writes_law (A : Option Addr) (l c : Nat) (os : List Opn) (q : Option Nat) (W : World) (hl : os.length = l) (hS : Sl W A (os.flatMap Opn.cells) q) (hO : ∀ o ∈ os, o.wok W) (hy : (os.map fun o => o.l + 1).sum ≤ 1048576) :
    Calls Try.prog 7 #[.slice A l c] W fun e w' => e = .returned (.bool true) ∧ Below W.heap.size W w' := by
  subst hl
  have HS := Hd.mk hS
  have HO := Hd.mk hO
  have HY := Hd.mk hy
  have hl1 : os.length ≤ 1048576 := by
    have : os.length ≤ (os.map fun o => o.l + 1).sum := by
      clear hy hS hO HS HO HY
      induction os with
      | nil => simp
      | cons a t ih => simp only [List.length_cons, List.map_cons, List.sum_cons]; omega
    omega
  have HD0 : Hd (WDuo W ((((W.alloc (.cells #[.slice none 0 0, .int .i64 0] 44)).alloc (.cells #[.slice none 0 0, .int .i64 0] 44)).alloc (.cells #[.slice none 0 0] 57)).alloc (.cells #[.slice none 0 0] 57)) W.heap.size (W.heap.size + 1) (W.heap.size + 1 + 1) (W.heap.size + 1 + 1 + 1) 0) := by
    have e0 : ∀ (w : World) (o : Obj), (w.alloc o).heap.size = w.heap.size + 1 := fun w o => by simp
    refine ⟨⟨0, 0, none, none, 0, 0, none, none, ⟨?_, ?_⟩, ⟨?_, ?_⟩, ?_, ?_, ((((Fr.refl W []).alloc _).alloc _).alloc _).alloc _, Nat.le_refl _, Nat.le_refl _⟩⟩
    · exact (tl_new W 44 (by decide)).frame ((((Fr.refl _ []).alloc _).alloc _).alloc _) (by simp) (by simp)
    · have := rw_new ((W.alloc (.cells #[.slice none 0 0, .int .i64 0] 44)).alloc (.cells #[.slice none 0 0, .int .i64 0] 44))
      simp only [e0] at this
      exact this.frame ((Fr.refl _ []).alloc _) (by simp) (by simp)
    · have := tl_new (W.alloc (.cells #[.slice none 0 0, .int .i64 0] 44)) 44 (by decide)
      simp only [e0] at this
      exact this.frame (((Fr.refl _ []).alloc _).alloc _) (by simp) (by simp)
    · have := rw_new (((W.alloc (.cells #[.slice none 0 0, .int .i64 0] 44)).alloc (.cells #[.slice none 0 0, .int .i64 0] 44)).alloc (.cells #[.slice none 0 0] 57))
      simp only [e0] at this
      exact this
    · intro k hk
      simp [mem_blks] at hk ⊢
      omega
    · intro k hk
      simp [mem_blks] at hk
      omega
  clear hS hO hy
  go_enter Try.func7, Try.ntmps7
  go_wp2_with (fail)
  go_loopg [11] os.length (fun kq jv wr => ∃ j : Nat, jv = .int .i64 (j : Nat) ∧ j + kq = os.length ∧ Hd (WDuo W wr W.heap.size (W.heap.size + 1) (W.heap.size + 1 + 1) (W.heap.size + 1 + 1 + 1) (112 * part os j)))
  case atStart => exact ⟨0, rfl, by omega, by simpa [part] using HD0⟩
  case round =>
    obtain ⟨j, rfl, hj, HDr⟩ := hrel
    by_cases hlt : j < os.length
    · obtain ⟨o, ho⟩ : ∃ o, o = os[j]'hlt := ⟨_, rfl⟩
      have hom : o.wok W := HO.out o (by rw [ho]; exact List.getElem_mem _)
      have hfr : Fr W wr [] := by obtain ⟨_, _, _, _, _, _, _, _, _, _, _, _, h, _⟩ := HDr.out; exact h
      obtain ⟨b, off, rfl, hqb, hcell⟩ := (HS.out.frame hfr (by simp)).row opn_len hlt (by decide)
      have hp1 := part_succ hlt
      have hp2 := part_le os (j + 1)
      have hp3 := HY.out
      rw [← ho] at hcell hp1
      have c0 := hcell 0 (by decide)
      have c1 := hcell 1 (by decide)
      have c2 := hcell 2 (by decide)
      have c3 := hcell 3 (by decide)
      simp only [Opn.cells, List.getElem?_cons_zero, List.getElem?_cons_succ, Nat.add_zero] at c0 c1 c2 c3
      have HOM := Hd.mk hom
      have hb1 : 112 * part os j + 112 * (o.l + 1) ≤ 117440512 := by omega
      have HE : Hd (112 * part os (j + 1) = 112 * part os j + 112 * (o.l + 1)) := ⟨by omega⟩
      clear hfr hcell hom ho hqb hp1 hp2 hp3
      have HD1 := Hd.mk (HDr.out.keep ((Fr.refl wr []).alloc (.cells #[.int .i64 o.C, .int .u64 o.V, .int .i64 o.N, .slice o.A o.l o.c] 34)))
      go_wp2_with (fail)
      refine (WDuo.step o HOM.out HD1.out (by omega)).mono ?_
      rintro e w1 ⟨rfl, hd1, hx1⟩
      have HD3 := Hd.mk hd1
      have hb2 := hx1 _ _ (blk_new _ _)
      clear c0 c1 c2 c3
      have c0 := blk_cell hb2 0
      have c1 := blk_cell hb2 1
      have c2 := blk_cell hb2 2
      have c3 := blk_cell hb2 3
      simp only [List.getElem?_toArray, List.getElem?_cons_zero, List.getElem?_cons_succ] at c0 c1 c2 c3
      clear hd1 hx1 hb2
      by_cases h3 : j % 3 = 0
      · go_wp2_with (fail)
        refine (WDuo.step o HOM.out HD3.out.swap (by omega)).mono ?_
        rintro e w3 ⟨rfl, hd3, hx3⟩
        have HD4 := Hd.mk hd3.swap
        clear hd3 hx3 c0 c1 c2 c3
        go_wp2
        go_roundg (gk - 1)
        case measure => omega
        case rel => exact ⟨j + 1, by go_num, by omega, ⟨HD4.out.more (by have := HE.out; omega)⟩⟩
      · go_wp2
        go_roundg (gk - 1)
        case measure => omega
        case rel => exact ⟨j + 1, by go_num, by omega, ⟨HD3.out.more (by have := HE.out; omega)⟩⟩
    · have hp2 : 112 * part os j ≤ 117440512 := by have := part_le os j; have := HY.out; omega
      go_wp2_with (fail)
      refine (WDuo.step ⟨4, 0, 0, none, 0, 0⟩ ⟨ask_ok, Int.le_refl _⟩ HDr.out (by simp only; omega)).mono ?_
      rintro e w1 ⟨rfl, hd1, hx1⟩
      have HD2 := Hd.mk hd1
      clear hd1 hx1
      go_wp2_with (fail)
      refine (WDuo.step ⟨4, 0, 0, none, 0, 0⟩ ⟨ask_ok, Int.le_refl _⟩ HD2.out.swap (by simp only; omega)).mono ?_
      rintro e w1' ⟨rfl, hd1, hx1⟩
      have HD2' := Hd.mk hd1
      clear hd1 hx1
      go_wp2_with (fail)
      refine (lives_any w1').mono ?_
      rintro e w2 ⟨rfl, g3⟩
      have HD3 := Hd.mk (HD2'.out.keep g3)
      clear g3
      go_wp2
      go_ret
      obtain ⟨_, _, _, _, _, _, _, _, _, _, _, _, hf, _⟩ := HD3.out
      exact ⟨rfl, hf.below⟩
end Go.Proofs.Ytpblcbfjlmekeaa.Bits
