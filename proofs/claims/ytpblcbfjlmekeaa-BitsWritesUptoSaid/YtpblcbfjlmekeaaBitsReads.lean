/- One call of both readers (reads): they answer alike and stay alike. Conditions: fewer than 2^59 bits are taken. -/
import Derived.Test.YtpblcbfjlmekeaaRefR
import Derived.Test.YtpblcbfjlmekeaaLend
import Derived.Deep.QuietTactic
import Derived.BigQuiet
set_option linter.unusedVariables false
set_option linter.unusedSimpArgs false
set_option maxRecDepth 100000
namespace Go.Proofs.Ytpblcbfjlmekeaa.Bits
open Go.RowKit Go.Proofs.Ytpblcbfjlmekeaa.Lib Go.Proofs.Ytpblcbfjlmekeaa.Num

def okn (n : Int) (h : Nat) : Bool := decide (0 ≤ n ∧ n ≤ 56 ∧ n ≤ h)
def tk (n : Int) (h : Nat) : Nat := if okn n h then n.toNat else 0
/-- q' is q, or new, or none -/
def Af (w : World) (q q' : Option Nat) : Prop := ∀ k, q' = some k → q = some k ∨ w.heap.size ≤ k
theorem aft_af {w : World} {q q' : Option Nat} (h : Aft w q q') : Af w q q' := by
  intro k hk
  rcases h with rfl | ⟨j, rfl, hj⟩
  · exact .inl hk
  · cases hk; exact .inr hj
theorem tk_le (n : Int) (h : Nat) : tk n h ≤ 56 := by unfold tk okn; split <;> simp_all <;> omega
section
variable {g V b t : Nat} {q : Option Nat}
theorem take_all (w : World) (n : Int) (k : Nat) (hk : k = tk n b) (ht : t ≤ 1152921504606846976) (hr : Rd w g V b t) :
    Calls Try.prog 21 #[.pointer (some ⟨g, 0, none⟩), .int .i64 n] w fun e w' => e = .returned (.tuple #[.int .u64 ((V % 2 ^ k : Nat) : Int), .bool (okn n b)]) ∧
      Rd w' g (V / 2 ^ k) (b - k) (t + k) ∧ Fr w w' [g] := by
  by_cases h : 0 ≤ n ∧ n ≤ 56 ∧ n ≤ b
  · have ho : okn n b = true := by simp [okn]; exact h
    have hk' : k = n.toNat := by rw [hk, tk, ho]; rfl
    subst hk'
    rw [ho]
    exact take_ok w n h.1 h.2.1 h.2.2 ht hr
  · have ho : okn n b = false := by simp [okn]; omega
    have hk' : k = 0 := by rw [hk, tk, ho]; rfl
    subst hk'
    rw [ho]
    refine (take_no w n (by omega) hr).mono ?_
    rintro e w' ⟨rfl, rfl⟩
    simp only [Nat.pow_zero, Nat.mod_one, Nat.div_one, Nat.sub_zero, Nat.add_zero]
    exact ⟨rfl, hr, Fr.refl _ _⟩
theorem peek_all (w : World) (n : Int) (k : Nat) (hk : k = tk n b) (hr : Rd w g V b t) :
    Calls Try.prog 27 #[.pointer (some ⟨g, 0, none⟩), .int .i64 n] w fun e w' => e = .returned (.tuple #[.int .u64 ((V % 2 ^ k : Nat) : Int), .bool (okn n b)]) ∧ Fr w w' [] := by
  by_cases h : 0 ≤ n ∧ n ≤ 56 ∧ n ≤ b
  · have ho : okn n b = true := by simp [okn]; exact h
    have hk' : k = n.toNat := by rw [hk, tk, ho]; rfl
    subst hk'
    rw [ho]
    refine (peek_ok w n h.1 h.2.1 h.2.2 hr).mono ?_
    rintro e w' ⟨rfl, rfl⟩
    exact ⟨rfl, (Fr.refl _ _).drew⟩
  · have ho : okn n b = false := by simp [okn]; omega
    have hk' : k = 0 := by rw [hk, tk, ho]; rfl
    subst hk'
    rw [ho]
    refine (peek_no w n (by omega) hr).mono ?_
    rintro e w' ⟨rfl, rfl⟩
    simp only [Nat.pow_zero, Nat.mod_one]
    exact ⟨rfl, Fr.refl _ _⟩
theorem rtake_all (w : World) (n : Int) (k : Nat) (hk : k = tk n b) (hb : b ≤ 64) (ht : t ≤ 1152921504606846976) (hr : RR w g V b t q) :
    Calls Try.prog 33 #[.pointer (some ⟨g, 0, none⟩), .int .i64 n] w fun e w' => e = .returned (.tuple #[.int .u64 ((V % 2 ^ k : Nat) : Int), .bool (okn n b)]) ∧
      ∃ q', RR w' g (V / 2 ^ k) (b - k) (t + k) q' ∧ Af w q q' ∧ Fr w w' (g :: q.toList) := by
  by_cases h : 0 ≤ n ∧ n ≤ 56 ∧ n ≤ b
  · have ho : okn n b = true := by simp [okn]; exact h
    have hk' : k = n.toNat := by rw [hk, tk, ho]; rfl
    subst hk'
    rw [ho]
    refine (rtake_ok w n h.1 h.2.1 h.2.2 hb ht hr).mono ?_
    rintro e w' ⟨rfl, q', h1, h2, h3⟩
    exact ⟨rfl, q', h1, fun j hj => .inr (h2 j hj), h3.mono (by intro k _ hk; simp at hk; simp [hk])⟩
  · have ho : okn n b = false := by simp [okn]; omega
    have hk' : k = 0 := by rw [hk, tk, ho]; rfl
    subst hk'
    rw [ho]
    refine (rtake_no w n (by omega) hr).mono ?_
    rintro e w' ⟨rfl, rfl⟩
    simp only [Nat.pow_zero, Nat.mod_one, Nat.div_one, Nat.sub_zero, Nat.add_zero]
    exact ⟨rfl, q, hr, fun _ h => .inl h, Fr.refl _ _⟩
theorem rpeek_all (w : World) (n : Int) (k : Nat) (hk : k = tk n b) (hb : b ≤ 64) (hr : RR w g V b t q) :
    Calls Try.prog 34 #[.pointer (some ⟨g, 0, none⟩), .int .i64 n] w fun e w' => e = .returned (.tuple #[.int .u64 ((V % 2 ^ k : Nat) : Int), .bool (okn n b)]) ∧ w = w' := by
  by_cases h : 0 ≤ n ∧ n ≤ 56 ∧ n ≤ b
  · have ho : okn n b = true := by simp [okn]; exact h
    have hk' : k = n.toNat := by rw [hk, tk, ho]; rfl
    subst hk'
    rw [ho]
    exact rpeek_ok w n h.1 h.2.1 h.2.2 hb hr
  · have ho : okn n b = false := by simp [okn]; omega
    have hk' : k = 0 := by rw [hk, tk, ho]; rfl
    subst hk'
    rw [ho]
    refine (rpeek_no w n (by omega) hr).mono ?_
    rintro e w' ⟨rfl, rfl⟩
    rw [Nat.pow_zero, Nat.mod_one]
    exact ⟨rfl, rfl⟩
end

theorem quiet_left {P : Program} {f : FuncId} {args : Array Value} {w : World} {n : Nat} {v : Value}
    (h : Calls P f args (w.drewN n) fun e w' => e = .returned v ∧ w.drewN n = w') : Calls P f args (w.drewN n) fun e w'' => e = .returned v ∧ ∃ m, w'' = w.drewN m :=
  h.mono fun _ _ ⟨he, hm⟩ => ⟨he, n, hm.symm⟩
theorem rr_ne {w : World} {g1 g2 V h t V' h' t' : Nat} {q : Option Nat} (h1 : Rd w g1 V h t) (h2 : RR w g2 V' h' t' q) : g1 ≠ g2 ∧ q ≠ some g1 := by
  obtain ⟨A, c, hb, hown, rfl, hV⟩ := h2
  exact ⟨blk_ne h1.1 hb (by decide), own_ne hown h1.1 (by decide)⟩
/-- Both readers hold the same. -/
structure Pr (w : World) (g1 g2 V h t : Nat) (q : Option Nat) : Prop where
  rd : Rd w g1 V h t
  rr : RR w g2 V h t q
theorem Pr.ne {w : World} {g1 g2 V h t : Nat} {q : Option Nat} (p : Pr w g1 g2 V h t q) : g1 ≠ g2 ∧ q ≠ some g1 ∧ q ≠ some g2 := ⟨(rr_ne p.rd p.rr).1, (rr_ne p.rd p.rr).2, p.rr.ne⟩
theorem Pr.keep {w w' : World} {g1 g2 V h t : Nat} {q : Option Nat} (p : Pr w g1 g2 V h t q) (hf : Fr w w' []) : Pr w' g1 g2 V h t q := ⟨p.rd.frame hf (by simp), p.rr.frame hf (by simp) (by simp)⟩
theorem Pr.lt {w : World} {g1 g2 V h t : Nat} {q : Option Nat} (p : Pr w g1 g2 V h t q) : g1 < w.heap.size ∧ g2 < w.heap.size ∧ ∀ k, q = some k → k < w.heap.size := ⟨p.rd.lt, p.rr.lt.1, p.rr.lt.2⟩
/-- what a call leaves -/
def Left (w w' : World) (g1 g2 t : Nat) (q : Option Nat) : Prop := ∃ V' h' t' q', Pr w' g1 g2 V' h' t' q' ∧ Af w q q' ∧ Fr w w' (g1 :: g2 :: q.toList) ∧ t' ≤ t + 56
theorem _root_.Go.Proofs.Ytpblcbfjlmekeaa.Lib.Fr.both {a b c : World} {F G H : List Nat} (h : Fr a b F) (k : Fr b c G) (h1 : ∀ x, x < a.heap.size → x ∈ F → x ∈ H) (h2 : ∀ x, x < a.heap.size → x ∈ G → x ∈ H) : Fr a c H := (h.mono h1).trans k h2
/-- the call's box holds its fields -/
theorem box_at {w w' : World} {c v n : Int} {B : Value} {F : List Nat} (hf : Fr (w.alloc (.cells #[.int .i64 c, .int .u64 v, .int .i64 n, B] 34)) w' F) (hF : w.heap.size ∉ F) (j : Nat) :
    w'.cell? ⟨w.heap.size, j, none⟩ = #[.int .i64 c, .int .u64 v, .int .i64 n, B][j]? := blk_cell (hf.blk (blk_new _ _) hF) j
theorem reads_take (w : World) (g1 g2 V h t : Nat) (q : Option Nat) (v n : Int) (B : Value) (ht : t ≤ 1152921504606846976) (hp : Pr w g1 g2 V h t q) :
    Calls Try.prog 13 #[.pointer (some ⟨g1, 0, none⟩), .pointer (some ⟨g2, 0, none⟩), .agg #[.int .i64 1, .int .u64 v, .int .i64 n, B]] w fun e w' => e = .returned (.bool true) ∧ Left w w' g1 g2 t q := by
  obtain ⟨n1, n2, n3⟩ := hp.ne
  obtain ⟨l1, l2, l3⟩ := hp.lt
  have h64 := hp.rd.2.2
  have HP1 := Hd.mk (hp.keep ((Fr.refl w []).alloc (.cells #[.int .i64 1, .int .u64 v, .int .i64 n, B] 34)))
  have L3 := Hd.mk l3
  obtain ⟨k, hk⟩ : ∃ k, k = tk n h := ⟨_, rfl⟩
  have hk2 := tk_le n h
  rw [← hk] at hk2
  have HK := Hd.mk hk
  clear hp l3 hk
  go_enter Try.func13, Try.ntmps13
  go_wp2_with (fail)
  refine (take_all (V := V) (b := h) (t := t) _ n k HK.out ht HP1.out.rd).mono ?_
  rintro e w1 ⟨rfl, h1, h2⟩
  have c2 := box_at h2 (by simp; omega) 2
  simp only [List.getElem?_toArray, List.getElem?_cons_zero, List.getElem?_cons_succ] at c2
  have HR1 := Hd.mk (HP1.out.rr.frame h2 (by simp; omega) (by intro j hj; simp; rintro rfl; exact n2 hj))
  have H1 := Hd.mk h1
  have H2 := Hd.mk h2
  clear h1 h2
  go_wp2_with (fail)
  refine (rtake_all (V := V) (b := h) (t := t) (q := q) _ n k HK.out h64 ht HR1.out).mono ?_
  rintro e w2 ⟨rfl, q2, h3, h4, h5⟩
  have HL : Hd (Left w w2 g1 g2 t q) := ⟨_, _, _, q2, ⟨H1.out.frame h5 (by simp only [List.mem_cons, Option.mem_toList, not_or]; exact ⟨n1, n2⟩), h3⟩, by
      intro j hj
      rcases h4 j hj with e | e
      · exact .inl e
      · refine .inr (by have := H2.out.size; simp at this; omega), by
      exact (((Fr.refl w []).alloc _).both H2.out (H := g1 :: g2 :: q.toList) (by simp) (fun x _ hx => by rw [List.mem_singleton.1 hx]; exact List.mem_cons_self)).both h5 (fun _ _ h => h) (fun _ _ h => List.mem_cons_of_mem _ h), by omega⟩
  clear h3 h4 h5 c2
  go_wp2
  go_ret
  exact ⟨rfl, HL.out⟩
theorem reads_peek (w : World) (g1 g2 V h t : Nat) (q : Option Nat) (v n : Int) (B : Value) (ht : t ≤ 1152921504606846976) (hp : Pr w g1 g2 V h t q) :
    Calls Try.prog 13 #[.pointer (some ⟨g1, 0, none⟩), .pointer (some ⟨g2, 0, none⟩), .agg #[.int .i64 2, .int .u64 v, .int .i64 n, B]] w fun e w' => e = .returned (.bool true) ∧ Left w w' g1 g2 t q := by
  obtain ⟨n1, n2, n3⟩ := hp.ne
  obtain ⟨l1, l2, l3⟩ := hp.lt
  have h64 := hp.rd.2.2
  have HP1 := Hd.mk (hp.keep ((Fr.refl w []).alloc (.cells #[.int .i64 2, .int .u64 v, .int .i64 n, B] 34)))
  have L3 := Hd.mk l3
  obtain ⟨k, hk⟩ : ∃ k, k = tk n h := ⟨_, rfl⟩
  have hk2 := tk_le n h
  rw [← hk] at hk2
  have HK := Hd.mk hk
  clear hp l3 hk
  go_enter Try.func13, Try.ntmps13
  go_wp2_with (fail)
  refine (peek_all (V := V) (b := h) (t := t) _ n k HK.out HP1.out.rd).mono ?_
  rintro e w1 ⟨rfl, h2⟩
  have c2 := box_at h2 (by simp) 2
  simp only [List.getElem?_toArray, List.getElem?_cons_zero, List.getElem?_cons_succ] at c2
  have HR1 := Hd.mk (HP1.out.keep h2)
  have H2 := Hd.mk h2
  clear h2
  go_wp2_with (fail)
  refine (rpeek_all (V := V) (b := h) (t := t) (q := q) _ n k HK.out h64 HR1.out.rr).mono ?_
  rintro e w2 ⟨rfl, rfl⟩
  have HL : Hd (Left w w1 g1 g2 t q) := ⟨_, _, _, q, HR1.out, fun _ h => .inl h, (((Fr.refl w []).alloc _).trans H2.out (by simp)).mono (by simp), by omega⟩
  clear c2
  go_wp2
  go_ret
  exact ⟨rfl, HL.out⟩
theorem reads_align (w : World) (g1 g2 V h t : Nat) (q : Option Nat) (v n : Int) (B : Value) (ht : t ≤ 1152921504606846976) (hp : Pr w g1 g2 V h t q) :
    Calls Try.prog 13 #[.pointer (some ⟨g1, 0, none⟩), .pointer (some ⟨g2, 0, none⟩), .agg #[.int .i64 3, .int .u64 v, .int .i64 n, B]] w fun e w' => e = .returned (.bool true) ∧ Left w w' g1 g2 t q := by
  obtain ⟨n1, n2, n3⟩ := hp.ne
  obtain ⟨l1, l2, l3⟩ := hp.lt
  have h64 := hp.rd.2.2
  have HP1 := Hd.mk (hp.keep ((Fr.refl w []).alloc (.cells #[.int .i64 3, .int .u64 v, .int .i64 n, B] 34)))
  have L3 := Hd.mk l3
  obtain ⟨k, hk⟩ : ∃ k, k = min ((8 - t % 8) % 8) h := ⟨_, rfl⟩
  have hk2 : k ≤ 56 := by omega
  have HK := Hd.mk hk
  clear hp l3 hk
  go_enter Try.func13, Try.ntmps13
  go_wp2_with (fail)
  refine (ralign_any (V := V) (b := h) (t := t) _ k HK.out ht HP1.out.rd).mono ?_
  rintro e w1 ⟨rfl, h1, h2⟩
  have HR1 := Hd.mk (HP1.out.rr.frame h2 (by simp; omega) (by intro j hj; simp; rintro rfl; exact n2 hj))
  have H1 := Hd.mk h1
  have H2 := Hd.mk h2
  clear h1 h2
  go_wp2_with (fail)
  refine (ralign_ref (V := V) (b := h) (t := t) (q := q) _ k HK.out h64 ht HR1.out).mono ?_
  rintro e w2 ⟨rfl, q2, h3, h4, h5⟩
  have HL : Hd (Left w w2 g1 g2 t q) := ⟨_, _, _, q2, ⟨H1.out.frame h5 (by simpa using n1), h3⟩, by
      intro j hj
      have e := h4 j hj
      exact .inr (by have := H2.out.size; simp at this; omega), by
      exact (((Fr.refl w []).alloc _).both H2.out (H := g1 :: g2 :: q.toList) (by simp) (fun x _ hx => by rw [List.mem_singleton.1 hx]; exact List.mem_cons_self)).both h5 (fun _ _ h => h) (fun x _ hx => by rw [List.mem_singleton.1 hx]; simp), by omega⟩
  clear h3 h4 h5
  go_wp2
  go_ret
  exact ⟨rfl, HL.out⟩
theorem reads_ask (w : World) (g1 g2 V h t : Nat) (q : Option Nat) (c v n : Int) (hc : ¬ (0 ≤ c ∧ c ≤ 3)) (B : Value) (ht : t ≤ 1152921504606846976) (hp : Pr w g1 g2 V h t q) :
    Calls Try.prog 13 #[.pointer (some ⟨g1, 0, none⟩), .pointer (some ⟨g2, 0, none⟩), .agg #[.int .i64 c, .int .u64 v, .int .i64 n, B]] w fun e w' => e = .returned (.bool true) ∧ Left w w' g1 g2 t q := by
  obtain ⟨n1, n2, n3⟩ := hp.ne
  obtain ⟨l1, l2, l3⟩ := hp.lt
  have h64 := hp.rd.2.2
  have HP1 := Hd.mk (hp.keep ((Fr.refl w []).alloc (.cells #[.int .i64 c, .int .u64 v, .int .i64 n, B] 34)))
  have L3 := Hd.mk l3
  clear hp l3
  have hc0 : (c == 0) = false := by simp; omega
  have hc1 : (c == 1) = false := by simp; omega
  have hc2 : (c == 2) = false := by simp; omega
  have hc3 : (c == 3) = false := by simp; omega
  go_enter Try.func13, Try.ntmps13
  go_wp2_with (fail)
  have hq := HP1.out.rr
  obtain ⟨A, cc, hb, _⟩ := hq
  have d0 := blk_cell hb 0
  have d1 := blk_cell hb 1
  simp only [List.getElem?_toArray, List.getElem?_cons_zero, List.getElem?_cons_succ] at d0 d1
  clear hb
  go_quiet ((first | (go_at_call 19; exact quiet_left (has_any (V := V) (b := h) (t := t) _ (by exact HP1.out.rd))) | (go_at_call 29; exact quiet_left (space_any (V := V) (b := h) (t := t) _ (by exact HP1.out.rd))) | (go_at_call 22; exact quiet_left (taken_any (V := V) (b := h) (t := t) _ (by exact HP1.out.rd))) | (go_at_call 36; exact quiet_left (rspace_any (V := V) (b := h) (t := t) (q := q) _ h64 (by exact HP1.out.rr)))))
  go_wp2
  go_ret
  exact ⟨rfl, V, h, t, q, HP1.out.keep ((Fr.refl _ _).drewN _), fun _ h => .inl h, (((Fr.refl w []).alloc _).drewN _).mono (by simp), by omega⟩
theorem reads_feed (w : World) (g1 g2 V h t : Nat) (q : Option Nat) (v n : Int) (A : Option Addr) (l c : Nat) (xs : List Int) (qb : Option Nat) (hS : SlArg w A l c (u8s xs) qb) (hl : l ≤ 140737488355000) (hx : ∀ x ∈ xs, 0 ≤ x ∧ x ≤ 255)
    (hs1 : qb ≠ some g1) (hs2 : ∀ k, qb = some k → k ∉ g2 :: q.toList) (hp : Pr w g1 g2 V h t q) :
    Calls Try.prog 13 #[.pointer (some ⟨g1, 0, none⟩), .pointer (some ⟨g2, 0, none⟩), .agg #[.int .i64 0, .int .u64 v, .int .i64 n, .slice A l c]] w fun e w' => e = .returned (.bool true) ∧ Left w w' g1 g2 t q := by
  obtain ⟨n1, n2, n3⟩ := hp.ne
  obtain ⟨l1, l2, l3⟩ := hp.lt
  have h64 := hp.rd.2.2
  have hlen : xs.length = l := by have := hS.len; simpa [u8s] using this
  have hb0 := hS.lt
  have HF0 := Hd.mk ((Fr.refl w []).alloc (.cells #[.int .i64 0, .int .u64 v, .int .i64 n, .slice A l c] 34))
  have hbx : Hd ((w.alloc (.cells #[.int .i64 0, .int .u64 v, .int .i64 n, .slice A l c] 34)).heap[w.heap.size]? = some (.cells #[.int .i64 0, .int .u64 v, .int .i64 n, .slice A l c] 34 (0, 0))) := ⟨blk_new _ _⟩
  have HP0 := Hd.mk (hp.keep HF0.out)
  have HS0 := Hd.mk (hS.frame HF0.out (by simp))
  have L3 := Hd.mk l3
  have HX := Hd.mk hx
  have HN := Hd.mk hlen
  have HS2 := Hd.mk hs2
  have HB0 := Hd.mk hb0
  obtain ⟨k, hk⟩ : ∃ k, k = min ((64 - h) / 8) xs.length := ⟨_, rfl⟩
  have HK := Hd.mk hk
  have hlc : Hd (xs.length ≤ c) := ⟨by have := hS.le; omega⟩
  clear hp l3 hk hS hx hlen hs2 hb0
  go_enter Try.func13, Try.ntmps13
  go_wp2_with (fail)
  refine (lend_any _ A l c xs qb HS0.out hl).mono ?_
  rintro e w1 ⟨g, d, rfl, h1, h2, h3⟩
  have hg : w.heap.size < g := by simp at h2; omega
  have hk1 := blk_cell (h3.blk hbx.out (by simp)) 3
  simp only [List.getElem?_toArray, List.getElem?_cons_zero, List.getElem?_cons_succ] at hk1
  have HP1 := Hd.mk (HP0.out.keep h3)
  have HS1 := Hd.mk (HS0.out.frame h3 (by simp))
  have HBX1 := Hd.mk (h3.blk hbx.out (by simp))
  have HW1 := Hd.mk h1
  have HF1 := Hd.mk ((HF0.out).trans h3 (by simp))
  have HT1 : Hd (Sl w1 (some ⟨g, 0, none⟩) (u8s xs) (some g)) := ⟨by
    have := (sl_of_own h1).take xs.length
    rw [u8s_app, List.take_left' (by simp [u8s])] at this
    exact this⟩
  clear h1 h2 h3
  go_upto_region 4 with (fail)
  have hgs : Hd (∀ j, q = some j → j < g) := ⟨fun j hj => by have := L3.out j hj; omega⟩
  go_cut [9, 10] (fun s9 s10 wc => s9 = .int .i64 (k : Nat) ∧ s10 = .int .i64 (k : Nat) ∧ Hd (∃ q', Pr wc g1 g2 (V + valB (xs.take k) * 2 ^ h) (h + 8 * k) t q' ∧ Af w1 q q' ∧ Fr w1 wc (g1 :: g2 :: q.toList)))
  case first =>
    have hlm : Hd (xs.length ≤ d) := ⟨by have := HW1.out; have := own_slice this; obtain ⟨_, _, e, h1, _⟩ := this; cases e; have := HN.out; omega⟩
    have hcx : Hd (xs.length ≤ 4611686018427387904) := ⟨by have := HN.out; omega⟩
    have hgg : Hd (some g ≠ some g1) := ⟨by simp; omega⟩
    have hb1 : Hd (∀ j, qb = some j → j ∉ [g1]) := ⟨by intro j hj; simp; rintro rfl; exact hs1 hj⟩
    have hb2 : Hd (g2 ∉ [g1]) := ⟨by simp; omega⟩
    have hb3 : Hd (∀ j, q = some j → j ∉ [g1]) := ⟨by intro j hj; simp; rintro rfl; exact n2 hj⟩
    have hb4 : Hd (∀ j, some g = some j → j ∉ g2 :: q.toList) := ⟨by intro j hj; cases hj; simp only [List.mem_cons, Option.mem_toList, not_or]; exact ⟨by omega, fun e => by have := hgs.out g e; omega⟩⟩
    have hb5 : Hd (g1 ∉ g2 :: q.toList) := ⟨by simp only [List.mem_cons, Option.mem_toList, not_or]; exact ⟨n1, n2⟩⟩
    have HRA := Hd.mk (feed_any (V := V) (b := h) (t := t) (g := g1) w1.drew (some ⟨g, 0, none⟩) l d xs (some g) HN.out HX.out (by exact HT1.out) hlm.out hcx.out hgg.out k HK.out (by exact HP1.out.rd))
    have HXA := Hd.mk (rfeed_any (V := V) (b := h) (t := t) (g := g2) (q := q) w1.drew A l c xs qb HN.out HX.out (by exact HS1.out.sl) hlc.out hcx.out HS2.out k HK.out h64 (by exact HP1.out.rr))
    go_region_with (first
      | (go_at_call 20; with_reducible refine (HRA.out).mono ?_; rintro e w2 ⟨rfl, ra, rb⟩; have hk2 := blk_cell (rb.blk HBX1.out (by simp; omega)) 3; simp only [List.getElem?_toArray, List.getElem?_cons_zero, List.getElem?_cons_succ] at hk2; have RA := Hd.mk ra; have RB := Hd.mk rb; clear ra rb)
      | (go_at_call 31; with_reducible refine (HXA.out).mono ?_; rintro e w2 ⟨rfl, q2, xa, xb, xc⟩; have XA := Hd.mk xa; have XB := Hd.mk xb; have XC := Hd.mk xc; clear xa xb xc)
      | (go_at_call 31; refine (rfeed_any (V := V) (b := h) (t := t) (g := g2) (q := q) w2 A l c xs qb HN.out HX.out (Sl.frame (w := w1.drew) (by exact HS1.out.sl) RB.out hb1.out) hlc.out hcx.out HS2.out k HK.out h64 (RR.frame (w := w1.drew) (by exact HP1.out.rr) RB.out hb2.out hb3.out)).mono ?_; rintro e w3 ⟨rfl, q2, xa, xb, xc⟩; have XA := Hd.mk xa; have XB := Hd.mk xb; have XC := Hd.mk xc; clear xa xb xc)
      | (go_at_call 20; refine (feed_any (V := V) (b := h) (t := t) (g := g1) w2 (some ⟨g, 0, none⟩) l d xs (some g) HN.out HX.out (Sl.frame (w := w1.drew) (by exact HT1.out) XC.out hb4.out) hlm.out hcx.out hgg.out k HK.out (Rd.frame (w := w1.drew) (by exact HP1.out.rd) XC.out hb5.out)).mono ?_; rintro e w3 ⟨rfl, ra, rb⟩; have RA := Hd.mk ra; have RB := Hd.mk rb; clear ra rb))
    all_goals (go_wp2; go_meet)
    all_goals (first
      | exact ⟨rfl, rfl, ⟨q2, ⟨RA.out.frame XC.out hb5.out, XA.out⟩, fun j hj => (aft_af XB.out j hj).imp id (fun e => by have := RB.out.size; simp at this; omega), RB.out.ofDrew.both XC.out (fun x _ hx => by rw [List.mem_singleton.1 hx]; simp) (fun _ _ h => List.mem_cons_of_mem _ h)⟩⟩
      | exact ⟨rfl, rfl, ⟨q2, ⟨RA.out, XA.out.frame RB.out hb2.out (fun j hj => by
          rcases aft_af XB.out j hj with e | e
          · exact hb3.out j e
          · have := HF1.out.size; simp at e ⊢; omega)⟩, aft_af XB.out, XC.out.ofDrew.both RB.out (fun _ _ h => List.mem_cons_of_mem _ h) (fun x _ hx => by rw [List.mem_singleton.1 hx]; simp)⟩⟩)
  case rest =>
    obtain ⟨rfl, rfl, HC⟩ := hcut
    obtain ⟨q2, hp2, ha2, hf2⟩ := HC.out
    have hne : w.heap.size ∉ g1 :: g2 :: q.toList := by
      simp only [List.mem_cons, Option.mem_toList, not_or]
      exact ⟨by omega, by omega, fun e => by have := L3.out _ e; omega⟩
    have hng : g ∉ g1 :: g2 :: q.toList := by
      simp only [List.mem_cons, Option.mem_toList, not_or]
      exact ⟨by omega, by omega, fun e => by have := hgs.out _ e; omega⟩
    have hk3 := blk_cell (hf2.blk HBX1.out hne) 3
    simp only [List.getElem?_toArray, List.getElem?_cons_zero, List.getElem?_cons_succ] at hk3
    have HP2 := Hd.mk hp2
    have HA2 := Hd.mk ha2
    have HF2 := Hd.mk hf2
    have HW2 := Hd.mk (own_frame HW1.out hf2 (by intro j hj; cases hj; exact hng))
    have HS3 := Hd.mk (HS1.out.frame hf2 (by
      intro j hj e
      rcases List.mem_cons.1 e with rfl | e
      · exact hs1 hj
      · exact HS2.out j hj e))
    clear hp2 ha2 hf2 HC hk1
    go_wp2_with (fail)
    refine (kept_any wc A l c xs qb HS3.out hl HX.out (some ⟨g, 0, none⟩) (l + 5) d (xs ++ lendTail) (some g) (by rw [List.length_append, HN.out]; rfl) (sl_of_own HW2.out) (by intro h; cases h) (lend_range HX.out) (by intro j hj; exact own_lt HW2.out hj)).mono ?_
    rintro e w3 ⟨rfl, h1⟩
    rw [decide_eq_true rfl]
    obtain ⟨cs, hcs⟩ := own_type (own_frame HW2.out h1 (by simp)) (k := g) rfl
    have hsz : l + 5 ≤ cs.size := by
      have hh := sl_of_own (own_frame HW2.out h1 (by simp))
      obtain ⟨b, off, e1, e2, hc⟩ := hh (by simp [u8s, lendTail])
      cases e1
      have h0 := hc (l + 4) (by have := HN.out; simp [u8s, lendTail]; omega)
      rw [blk_cell hcs, List.getElem?_eq_getElem (by have := HN.out; simp [u8s, lendTail]; omega)] at h0
      have := (Array.getElem?_eq_some_iff.1 h0).1
      omega
    have HP3 := Hd.mk (HP2.out.keep h1)
    have HF3 := Hd.mk (HF2.out.trans h1 (by simp))
    have HC3 := Hd.mk hcs
    have hsz3 := HF3.out.size
    clear h1 hcs hk3 hsz3
    go_wp2_with (fail)
    go_loopg [53] (l + 5) (fun kq jv wr => ∃ j : Nat, jv = .int .i64 (j : Nat) ∧ j + kq = l + 5 ∧ Hd (∃ ds : Array Value, ds.size = cs.size ∧ wr.heap[g]? = some (.cells ds 5 (0, 0))) ∧ Hd (Fr w3 wr [g]))
    case atStart => exact ⟨0, rfl, by omega, ⟨cs, rfl, HC3.out⟩, ⟨Fr.refl _ _⟩⟩
    case round =>
      obtain ⟨wo, rfl⟩ : ∃ wo : World, wo = wr := ⟨_, rfl⟩
      obtain ⟨j, rfl, hj, HD, HE⟩ := hrel
      by_cases hlt : j < l + 5
      · obtain ⟨ds, hds, hdb⟩ := HD.out
        have hcell := blk_cell hdb j
        have hfz := blk_frozen hdb j
        rw [Array.getElem?_eq_getElem (by omega)] at hcell
        have HDB := Hd.mk hdb
        clear hdb
        go_wp2
        go_roundg (gk - 1)
        case measure => omega
        case rel =>
          exact ⟨j + 1, by go_num, by omega, ⟨ds.setIfInBounds j (.int .u8 9), by simp [hds], by simpa using blk_set HDB.out j (.int .u8 9)⟩, ⟨HE.out.setCell _ (.inl (by simp))⟩⟩
      · go_wp2
        go_ret
        have hgw : w.heap.size ≤ g := by omega
        have hf : Fr w wo (g1 :: g2 :: q.toList) := ((HF1.out.mono (by simp)).trans HF3.out (fun _ _ h => h)).trans HE.out (by intro x hx h; simp at h; omega)
        exact ⟨rfl, _, _, _, q2, ⟨HP3.out.rd.frame HE.out (by simp; omega), HP3.out.rr.frame HE.out (by simp; omega) (by
          intro i hi
          have := own_lt HW1.out (k := g) rfl
          rcases HA2.out i hi with e | e
          · have := hgs.out i e; simp; omega
          · simp; omega)⟩, fun i hi => (HA2.out i hi).imp (fun e => e) (fun e => by have := HF1.out.size; omega), hf, by omega⟩
end Go.Proofs.Ytpblcbfjlmekeaa.Bits
