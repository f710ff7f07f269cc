/- BitsSame's walk: the highest first is the lowest first of the number turned about; Whole is Align and bytes. Conditions: the bytes take fewer than 2^47. -/
import Derived.Test.YtpblcbfjlmekeaaBitsLives
import Derived.Test.YtpblcbfjlmekeaaMem
set_option linter.unusedVariables false
set_option linter.unusedSimpArgs false
namespace Go.Proofs.Ytpblcbfjlmekeaa.Bits
open Go.RowKit Go.Proofs.Ytpblcbfjlmekeaa.Lib Go.Proofs.Ytpblcbfjlmekeaa.Num

/-- Two own things do not meet. -/
def Sep (g : Nat) (q : Option Nat) (g2 : Nat) (q2 : Option Nat) : Prop := g ≠ g2 ∧ q ≠ some g2 ∧ q2 ≠ some g ∧ ∀ k, q = some k → q2 ≠ some k
theorem Sep.symm {g g2 : Nat} {q q2 : Option Nat} (h : Sep g q g2 q2) : Sep g2 q2 g q := ⟨h.1.symm, h.2.2.1, h.2.1, fun k hk hq => h.2.2.2 k hq hk⟩
theorem Sep.step {w : World} {g g2 : Nat} {q q' q2 : Option Nat} (h : Sep g q g2 q2) (ha : Aft w q q') (h1 : g2 < w.heap.size) (h2 : ∀ k, q2 = some k → k < w.heap.size) : Sep g q' g2 q2 := by
  rcases ha with rfl | ⟨k, rfl, hk⟩
  · exact h
  · refine ⟨h.1, fun e => by cases e; omega, h.2.2.1, fun j hj e => ?_⟩
    cases hj
    have := h2 _ e
    omega
theorem Tl.other {w w' : World} {g g2 : Nat} {T : TypeId} {N m : Nat} {q q2 : Option Nat} (h : Tl w g2 T N m q2) (hs : Sep g q g2 q2) (hf : Fr w w' (g :: q.toList)) : Tl w' g2 T N m q2 := by
  refine h.frame hf (fun hk => ?_) (fun k hk hm => ?_)
  · rcases List.mem_cons.1 hk with e | e
    · exact hs.1 e.symm
    · simp at e; exact hs.2.1 e
  · rcases List.mem_cons.1 hm with e | e
    · exact hs.2.2.1 (by rw [hk, e])
    · simp at e; exact hs.2.2.2 k e hk

/-- Two writers of the call's own; what there was is as it was. -/
structure Two (w0 w : World) (a : Nat) (Na ma : Nat) (qa : Option Nat) (b : Nat) (Nb mb : Nat) (qb : Option Nat) : Prop where
  ta : Tl w a 44 Na ma qa
  tb : Tl w b 44 Nb mb qb
  sep : Sep a qa b qb
  fr : Fr w0 w []
  ga : w0.heap.size ≤ a
  gb : w0.heap.size ≤ b
  ha : ∀ k, qa = some k → w0.heap.size ≤ k
  hb : ∀ k, qb = some k → w0.heap.size ≤ k
theorem Two.swap {w0 w : World} {a Na ma b Nb mb : Nat} {qa qb : Option Nat} (h : Two w0 w a Na ma qa b Nb mb qb) : Two w0 w b Nb mb qb a Na ma qa := ⟨h.tb, h.ta, h.sep.symm, h.fr, h.gb, h.ga, h.hb, h.ha⟩
theorem Two.step {w0 w w' : World} {a Na ma b Nb mb Na' ma' : Nat} {qa qb qa' : Option Nat} (h : Two w0 w a Na ma qa b Nb mb qb) (h1 : Tl w' a 44 Na' ma' qa') (h2 : Aft w qa qa') (h3 : Fr w w' (a :: qa.toList)) : Two w0 w' a Na' ma' qa' b Nb mb qb := by
  refine ⟨h1, h.tb.other h.sep h3, h.sep.step h2 h.tb.lt.1 h.tb.lt.2, h.fr.trans h3 (fun x hx hxG => ?_), h.ga, h.gb, fun k hk => ?_, h.hb⟩
  · rcases List.mem_cons.1 hxG with rfl | e
    · have := h.ga; omega
    · simp at e; have := h.ha _ e; omega
  · rcases h2 with e | ⟨j, e, hj⟩
    · exact h.ha k (by rw [← e, hk])
    · rw [e] at hk; cases hk; exact Nat.le_trans h.fr.size hj
theorem Two.new {w : World} (w0 : World) (hf : Fr w0 w []) : Two w0 ((w.alloc (.cells #[.slice none 0 0, .int .i64 0] 44)).alloc (.cells #[.slice none 0 0, .int .i64 0] 44)) w.heap.size 0 0 none (w.heap.size + 1) 0 0 none := by
  have h1 := tl_new w 44 (by decide)
  have h2 := tl_new (w.alloc (.cells #[.slice none 0 0, .int .i64 0] 44)) 44 (by decide)
  rw [World.size_alloc] at h2
  exact ⟨h1.frame (F := []) ((Fr.refl _ _).alloc _) (by simp) (by simp), h2, ⟨by omega, by simp, by simp, by simp⟩, (hf.alloc _).alloc _, hf.size, by have := hf.size; omega, by simp, by simp⟩
theorem Two.keep {w0 w w' : World} {a Na ma b Nb mb : Nat} {qa qb : Option Nat} (h : Two w0 w a Na ma qa b Nb mb qb) (h3 : Fr w w' []) : Two w0 w' a Na ma qa b Nb mb qb :=
  ⟨h.ta.frame h3 (by simp) (by simp), h.tb.frame h3 (by simp) (by simp), h.sep, h.fr.trans h3 (by simp), h.ga, h.gb, h.ha, h.hb⟩

def alignUp (m : Nat) : Nat := m + (8 - m % 8) % 8
theorem alignUp_le (m : Nat) : alignUp m ≤ m + 7 := by unfold alignUp; omega

/-- what both have come to, behind the first test -/
def Same0 (w0 w : World) (a b : Nat) (N m : Nat) : Prop := ∃ qa qb, Two w0 w a N m qa b N m qb

set_option maxHeartbeats 1000000 in
theorem same_law (a0 : Int) (n : Int) (A : Option Addr) (l c : Nat) (xs : List Int) (q : Option Nat) (W : World) (w0' : (Lit.int .u64 a0).wf = true) (w1' : (Lit.int .i64 n).wf = true)
    (hS : SlArg W A l c (xs.map (Value.int .u8)) q) (hw : ∀ x ∈ xs, (Lit.int .u8 x).wf = true) (hy : l * 1 ≤ 140737488351232) :
    Calls Try.prog 8 #[.int .u64 a0, .int .i64 n, .slice A l c] W fun e w' => e = .returned (.bool true) ∧ Below W.heap.size W w' := by
  obtain ⟨hv0, hv1⟩ := bounds_u64 w0'
  obtain ⟨v, rfl⟩ := Int.eq_ofNat_of_zero_le hv0
  have hv : v < 2 ^ 64 := by simp only [show (2 : Nat) ^ 64 = 18446744073709551616 from by decide]; omega
  have hx : ∀ x ∈ xs, 0 ≤ x ∧ x ≤ 255 := fun x hx => by have := bounds_u8 (hw x hx); omega
  have hl : xs.length = l := by have := hS.len; simpa using this
  subst hl
  have HS := Hd.mk hS
  have HX := Hd.mk hx
  have HV := Hd.mk hv
  have hT0 := Hd.mk (Two.new W (Fr.refl W []))
  clear hS hw hx hv w0' w1' hv0
  go_enter Try.func8, Try.ntmps8
  obtain ⟨bb, hbb⟩ : ∃ bb : Bool, bb = decide (mayN v n = 0) := ⟨_, rfl⟩
  have HB := Hd.mk hbb
  clear hbb
  go_upto_region 2 with (fail)
  go_cut [22] (fun s22 wc => s22 = .bool bb ∧ Hd (Two W wc W.heap.size 0 0 none (W.heap.size + 1) 0 0 none))
  case first =>
    have HT0 := Hd.mk hT0.out
    by_cases h0 : n < 0
    · have hb : bb = false := by rw [HB.out]; simp [mayN, h0]
      subst hb
      go_wp2
      go_meet
      case rel => exact ⟨rfl, hT0⟩
    · by_cases h1 : 56 < n
      · have hb : bb = false := by rw [HB.out]; simp [mayN, h1]
        subst hb
        go_wp2
        go_meet
        case rel => exact ⟨rfl, hT0⟩
      · obtain ⟨n, rfl⟩ := Int.eq_ofNat_of_zero_le (show 0 ≤ n by omega)
        have hb : ((v : Int) / 2 ^ n == 0) = bb := by
          rw [HB.out, div_cast]
          unfold mayN
          rw [if_neg (by omega), Int.toNat_natCast]
          by_cases h : v / 2 ^ n = 0
          · rw [if_pos h, h]; rfl
          · rw [if_neg h, beq_eq_false_iff_ne.2 (by omega)]; rfl
        go_wp2
        go_meet
        case rel => exact ⟨rfl, hT0⟩
  case rest =>
    obtain ⟨rfl, HT⟩ := hcut
    clear hT0
    go_upto_if 22 with (fail)
    go_cut [] (fun wc => ∃ N m, m ≤ 56 ∧ Hd (Same0 W wc W.heap.size (W.heap.size + 1) N m))
    case first =>
      cases hbb : bb with
      | true =>
        subst hbb
        have hm : mayN v n = 0 := by simpa using HB.out.symm
        obtain ⟨h0, h1, h2⟩ := mayN_zero hm
        have Hm := Hd.mk hm
        obtain ⟨n, rfl⟩ := Int.eq_ofNat_of_zero_le h0
        have H2 := Hd.mk h2
        clear hm h2
        go_wp2_with (fail)
        refine (turned_ok (v : Int) (n : Int) v wc rfl Hm.out (by omega) HT.out.ta).mono ?_
        rintro e w1 ⟨rfl, q1, h1, h2, h3⟩
        simp only [Nat.zero_add, Int.toNat_natCast, Nat.pow_zero, Nat.mul_one] at h1
        have HT1 := Hd.mk (HT.out.step h1 h2 h3)
        clear h1 h2 h3
        go_wp2_with (fail)
        refine (flip_any v _ (n : Int) (by omega) (by omega) w1 HV.out rfl).mono ?_
        rintro e w' ⟨rfl, rfl⟩
        simp only [Int.toNat_natCast]
        go_wp2_with (fail)
        refine (put_ok (rv v n : Nat) (n : Int) (rv v n) w1 rfl (mayN_ok (by omega) (by omega) (rv_lt v n)) (by rw [Int.toNat_natCast]; omega) HT1.out.tb).mono ?_
        rintro e w2 ⟨rfl, q2, h1, h2, h3⟩
        simp only [Nat.zero_add, Int.toNat_natCast, Nat.pow_zero, Nat.mul_one] at h1
        have HT2 := Hd.mk ((HT1.out.swap.step h1 h2 h3).swap)
        clear h1 h2 h3
        go_wp2
        go_meet
        case rel => exact ⟨rv v n, n, by omega, ⟨_, _, HT2.out⟩⟩
      | false =>
        subst hbb
        have hm : mayN v n ≠ 0 := by simpa using HB.out.symm
        obtain ⟨cc, hcc⟩ : ∃ cc, cc = mayN v n := ⟨_, rfl⟩
        have hc0 : (cc == 0) = false := by rw [hcc]; simpa using hm
        have Hm := Hd.mk hm
        have Hcc := Hd.mk hcc
        clear hm hcc
        go_wp2_with (fail)
        refine (turned_no (v : Int) n v wc rfl Hm.out).mono ?_
        rintro e w' ⟨rfl, rfl⟩
        rw [← Hcc.out]
        go_wp2_with (fail)
        refine (len_any wc HT.out.ta).mono ?_
        rintro e w' ⟨rfl, rfl⟩
        go_wp2
        go_meet
        case rel => exact ⟨0, 0, by omega, ⟨_, _, HT.out⟩⟩
    case rest =>
      obtain ⟨N, m, hm, HS0⟩ := hcut
      obtain ⟨qa, qb, h2⟩ := HS0.out
      have H2 := Hd.mk h2
      have HA1 := Hd.mk (HS.out.frame h2.fr (by simp))
      have HQ : Hd (∀ k, q = some k → k ∉ W.heap.size :: qa.toList) := ⟨fun k hk hm => by
        have := HS.out.lt k hk
        rcases List.mem_cons.1 hm with e | e
        · omega
        · simp at e; have := H2.out.ha k e; omega⟩
      clear h2 HT
      go_wp2_with (fail)
      refine (whole_any wc A c xs q HX.out HA1.out.sl HA1.out.nil HQ.out (by omega) H2.out.ta).mono ?_
      rintro e w1 ⟨rfl, q1, h1, h2, h3⟩
      have HT1 := Hd.mk (H2.out.step h1 h2 h3)
      clear h1 h2 h3
      go_wp2_with (fail)
      refine (align_any w1 (by omega) HT1.out.tb).mono ?_
      rintro e w2 ⟨rfl, q2, h1, h2, h3⟩
      have h4 := HT1.out.swap.step h1 h2 h3
      obtain ⟨M, hM⟩ : ∃ M, M = m + (8 - m % 8) % 8 := ⟨_, rfl⟩
      rw [← hM] at h4
      have hM7 : M ≤ 63 := by omega
      have HM8 : Hd (M % 8 = 0) := ⟨by omega⟩
      have HT2 := Hd.mk h4.swap
      clear h1 h2 h3 h4 hM HT1 H2 HQ
      go_wp2
      go_loopg [48] xs.length (fun kq jv wr => ∃ j : Nat, jv = .int .i64 (j : Nat) ∧ j + kq = xs.length ∧ Hd (∃ qa qb, Two W wr W.heap.size (N + valB xs * 2 ^ M) (M + 8 * xs.length) qa (W.heap.size + 1) (N + valB (xs.take j) * 2 ^ M) (M + 8 * j) qb))
      case atStart => exact ⟨0, rfl, by omega, ⟨_, _, by simpa [valB] using HT2.out⟩⟩
      case round =>
        obtain ⟨j, rfl, hj, HTr⟩ := hrel
        obtain ⟨ra, rb, h2⟩ := HTr.out
        have H2 := Hd.mk h2
        by_cases hlt : j < xs.length
        · obtain ⟨p, off, rfl, hp, hcell⟩ := (HS.out.frame h2.fr (by simp)).sl (by simp; omega)
          have hxj := HX.out (xs[j]'hlt) (List.getElem_mem _)
          obtain ⟨x, hx⟩ : ∃ x : Nat, xs[j]'hlt = (x : Int) := Int.eq_ofNat_of_zero_le hxj.1
          have hcj := (hcell j (by simpa using hlt)).trans (by rw [List.getElem?_map, List.getElem?_eq_getElem hlt, hx])
          have hx255 : (x : Int) ≤ 255 := by omega
          have Hx := Hd.mk hx
          clear h2 hcell hx hxj
          go_wp2_with (fail)
          refine (put_ok (x : Int) 8 x wr rfl (mayN_ok (by decide) (by decide) (by show x < 2 ^ 8; omega)) (by show M + 8 * j + 8 ≤ _; omega) H2.out.tb).mono ?_
          rintro e w3 ⟨rfl, q3, h1, h2, h3⟩
          have HT3 := Hd.mk ((H2.out.swap.step h1 h2 h3).swap)
          clear h1 h2 h3
          go_wp2
          go_roundg (gk - 1)
          case measure => omega
          case rel =>
            refine ⟨j + 1, by go_num, by omega, ⟨ra, q3, ?_⟩⟩
            have h := HT3.out
            have e1 : N + valB (xs.take (j + 1)) * 2 ^ M = N + valB (xs.take j) * 2 ^ M + x * 2 ^ (M + 8 * j) := by
              rw [valB_take xs j hlt, Hx.out, Int.toNat_natCast, Nat.add_mul, Nat.add_assoc, Nat.pow_add, Nat.mul_assoc, Nat.mul_comm (2 ^ M)]
            rw [e1, show M + 8 * (j + 1) = M + 8 * j + (8 : Int).toNat from rfl]
            exact h
        · obtain rfl : j = xs.length := by omega
          rw [List.take_length] at h2 H2
          clear h2
          go_wp2_with (fail)
          refine (len_any wr H2.out.ta).mono ?_
          rintro e w' ⟨rfl, rfl⟩
          go_wp2_with (fail)
          refine (len_any wr H2.out.tb).mono ?_
          rintro e w' ⟨rfl, rfl⟩
          go_wp2_with (fail)
          refine (bytes_any wr (by omega) H2.out.ta).mono ?_
          rintro e w3 ⟨va, rfl, g1, g2, g3⟩
          have HT3 := Hd.mk (H2.out.keep g3)
          have G1 := Hd.mk g1
          clear g1 g2 g3
          go_wp2_with (fail)
          refine (bytes_any w3 (by omega) HT3.out.tb).mono ?_
          rintro e w4 ⟨vb, rfl, g1, g2, g3⟩
          have HT4 := Hd.mk (HT3.out.keep g3)
          have G2 := Hd.mk g1
          have G3 := Hd.mk (own_frame G1.out g3 (by simp))
          obtain ⟨Xa, ca, rfl, ha1, ha2, ha3⟩ := own_slice G3.out
          obtain ⟨Xb, cb, rfl, hb1, hb2, hb3⟩ := own_slice G2.out
          clear g1 g2 g3
          go_wp2_with (fail)
          refine (same_any w4 Xa Xb _ _ ca cb _ _ _ _ (bytesOf_length _ _) (bytesOf_length _ _) bytesOf_range bytesOf_range (sl_of_own G3.out) (sl_of_own G2.out) (own_none G3.out) (own_none G2.out)).mono ?_
          rintro e w' ⟨rfl, rfl⟩
          rw [decide_eq_true rfl]
          go_wp2_with (fail)
          refine (lives_any w4).mono ?_
          rintro e w5 ⟨rfl, g3⟩
          have G5 := Hd.mk (HT4.out.fr.trans g3 (by simp))
          clear g3
          go_wp2
          go_ret
          exact ⟨rfl, G5.out.below⟩
end Go.Proofs.Ytpblcbfjlmekeaa.Bits
