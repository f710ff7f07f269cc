import Derived.Test.YtkdgfioigkijgaaQ01
import Derived.Test.YtkdgfioigkijgaaQ02
import Derived.Test.YtkdgfioigkijgaaQ03
import Derived.Test.YtkdgfioigkijgaaQ04
import Derived.Test.YtkdgfioigkijgaaQ05
import Derived.Test.YtkdgfioigkijgaaQ06
import Derived.Test.YtkdgfioigkijgaaQ07
import Derived.Test.YtkdgfioigkijgaaQ08
import Derived.Test.YtkdgfioigkijgaaQ09
import Derived.Test.YtkdgfioigkijgaaQ10
import Derived.Test.YtkdgfioigkijgaaQ11
import Derived.Test.YtkdgfioigkijgaaQ12
import Derived.Test.YtkdgfioigkijgaaQ13
import Derived.Test.YtkdgfioigkijgaaQ14
import Derived.Test.YtkdgfioigkijgaaQ15
import Derived.Test.YtkdgfioigkijgaaQ16
import Derived.WalkKit
import Derived.ProofKit
import Derived.OpenShut
import Derived.ShutString
import Derived.ChangeOld
import Derived.Below
import Derived.SizedLaws
import Derived.JoinedCond
import Derived.Lib.SmallJoins
import Derived.Deep.Strs
import Derived.Deep.RegionHeld3
import Derived.Deep.CutRange
namespace Go.Proofs.Ytkdgfioigkijgaa.Lz

theorem best_none {d : List Int} {p w : Nat} : best d p w 0 = (0, 0) := by
  have : ∀ q b s, bestF d p w q 0 b s = (b, s) := by
    intro q b s
    cases q with
    | zero => rfl
    | succ q => simp only [bestF]; rw [if_neg (by omega)]
  exact this p 0 0
end Go.Proofs.Ytkdgfioigkijgaa.Lz
namespace Go.Proofs.Ytkdgfioigkijgaa.Lz

theorem parse_plain {d : List Int} {k : Opt} (hk : optErr k = 0) (h0 : k.chain = 0) : (parse d k).length = d.length := by
  have e : parse d k = parseF d k d.length 0 := by unfold parse; rw [if_pos hk]
  have : ∀ f p, p ≤ d.length → d.length ≤ f + p → p + (parseF d k f p).length = d.length := by
    intro f
    induction f with
    | zero => intro p h hf; simp only [parseF, List.length_nil]; omega
    | succ f ih =>
      intro p h hf
      simp only [parseF]
      by_cases hp : p < d.length
      · have ht : stepAt d k p = 1 := by
          have : taken d k p = 0 := by
            have := taken_good (d := d) (k := k) (p := p) (by omega)
            rw [h0] at this
            simp only [Int.toNat_zero, best_none] at this
            omega
          unfold stepAt; rw [if_pos this]
        rw [if_pos hp, List.length_cons, ht]
        have := ih (p + 1) (by omega) (by omega)
        omega
      · rw [if_neg hp, List.length_nil]; omega
  rw [e]
  have := this d.length 0 (Nat.zero_le _) (by omega)
  omega

/-! ### the first tokens are the first bytes -/
end Go.Proofs.Ytkdgfioigkijgaa.Lz
/- Chapter 10: PressBytes. Condition: at most 2^20 bytes. -/
set_option linter.unusedVariables false
set_option linter.unusedSimpArgs false
set_option maxRecDepth 100000
namespace Go.Proofs.Ytkdgfioigkijgaa.Prs
open Go.RowKit Go.Proofs.Ytkdgfioigkijgaa.Lib Go.Proofs.Ytkdgfioigkijgaa.Ints Go.Proofs.Ytkdgfioigkijgaa.Lz Go.Proofs.Ytkdgfioigkijgaa.Num Go.Proofs.Ytkdgfioigkijgaa.Bits Go.Proofs.Ytkdgfioigkijgaa.Blk
theorem own_sln {w : World} {base : Nat} {e : TypeId} {sz : Nat} {A : Option Addr} {n c : Nat} {xs : List Value} (h : w.ownsRow base e sz (.slice A n c) n xs) : Sl w A xs (Value.slice A n c).ownBlock := by
  intro hx
  rcases h.2 with ⟨h', h''⟩ | ⟨g, cap, cur, h', hb, hh, hnc, hcm, hcs, ht⟩
  · have := h.1
    rw [h'', Nat.zero_mul] at this
    omega
  · injection h' with h1 _ _
    subst h1
    refine ⟨g, 0, rfl, rfl, fun j hj => ?_⟩
    rw [Nat.zero_add, blk_cell hh, ← ht, List.getElem?_take, if_pos (by have := h.1; omega)]
    simp
theorem width_pos {t : Tok} (h : right t = true) : 1 ≤ Lz.width t := by
  unfold Lz.width
  rw [if_pos h]
  split
  · exact Nat.le_refl _
  · rename_i hh
    rcases right_len h with ⟨h0, _⟩ | ⟨h1, _⟩
    · exact absurd h0 hh
    · omega
theorem size_ge : ∀ {s : List Tok}, (∀ t ∈ s, right t = true) → s.length ≤ Lz.sizeOf s
  | [], _ => Nat.zero_le _
  | t :: s, h => by
    have h1 := size_ge (s := s) (fun x hx => h x (List.mem_cons_of_mem _ hx))
    have h2 := width_pos (h t List.mem_cons_self)
    have h3 : Lz.sizeOf (t :: s) = Lz.width t + Lz.sizeOf s := by unfold Lz.sizeOf; rw [List.map_cons, List.sum_cons]
    rw [h3, List.length_cons]
    omega
/-- tokens of one byte each: so are those of a piece -/
theorem ones {l : List Tok} (hr : ∀ t ∈ l, right t = true) (h : Lz.sizeOf l = l.length) (most j : Nat) : szN l most j = lenN l.length most j := by
  have e : l = l.take (atN l.length most j) ++ (tks l most j ++ (l.drop (atN l.length most j)).drop most) := by
    unfold tks
    rw [List.take_append_drop, List.take_append_drop]
  have h1 : Lz.sizeOf l = Lz.sizeOf (l.take (atN l.length most j)) + (Lz.sizeOf (tks l most j) + Lz.sizeOf ((l.drop (atN l.length most j)).drop most)) := by
    rw [← sizeOf_app, ← sizeOf_app, ← e]
  have h2 : l.length = (l.take (atN l.length most j)).length + ((tks l most j).length + ((l.drop (atN l.length most j)).drop most).length) := by
    rw [← List.length_append, ← List.length_append, ← e]
  have g1 := size_ge (s := l.take (atN l.length most j)) (fun x hx => hr x (List.mem_of_mem_take hx))
  have g2 := size_ge (s := tks l most j) (fun x hx => hr x (tks_mem hx))
  have g3 := size_ge (s := (l.drop (atN l.length most j)).drop most) (fun x hx => hr x (List.mem_of_mem_drop (List.mem_of_mem_drop hx)))
  rw [← tks_len]
  unfold szN
  omega
set_option maxHeartbeats 16000000 in
theorem bytes_walk (A : Option Addr) (n c : Nat) (d : List Int) (q : Option Nat) (k : Opt) (most : Int) (w : World) (hS : SlArg w A n c (u8s d) q) (hw : ∀ x ∈ d, (Lit.int .u8 x).wf = true) (hn : n ≤ 1048576) :
    Calls Try.prog 7 #[.slice A n c, .agg #[.int .i64 k.window, .int .i64 k.chain, .bool k.isLazy, .int .i64 most]] w fun e w' => e = .returned (.bool true) ∧ Below w.heap.size w w' := by
  have HS := Hd.mk hS
  have hl : d.length = n := by have := hS.len; simpa [u8s] using this
  have HBY : Hd (Bytes d) := ⟨fun x hx => bounds_u8 (hw x hx)⟩
  obtain ⟨er, her⟩ : ∃ er, er = popErr ⟨k.window, 0, k.isLazy⟩ most := ⟨_, rfl⟩
  have h2 : er = 0 ∨ er = 100 := her ▸ popErr_two _ most
  have HE := Hd.mk her
  clear hS hw her
  go_enter Try.func7, Try.ntmps7
  go_upto_region 2 with (fail)
  generalize hw1 : World.alloc _ _ = w1
  have BX : Hd (w1.heap[w.heap.size]? = some (.cells #[.int .i64 k.window, .int .i64 0, .bool k.isLazy, .int .i64 most] 28)) := ⟨by rw [← hw1]; exact blk_new w _⟩
  have F1 : Hd (Fr w w1 []) := ⟨by rw [← hw1]; exact (Fr.refl w []).alloc _⟩
  obtain ⟨g, hg⟩ : ∃ g, g = w.heap.size := ⟨_, rfl⟩
  rw [← hg] at BX ⊢
  have HGG := Hd.mk hg
  clear hw1 hg
  go_wp2_with (fail)
  refine (awake_any w1).mono ?_
  rintro e w2 ⟨rfl, h3⟩
  have BX2 := Hd.mk (h3.blk BX.out (by simp))
  have F2 := Hd.mk (F1.out.trans h3 (by simp))
  have b0 := blk_cell BX2.out 0
  have b1 := blk_cell BX2.out 1
  have b2 := blk_cell BX2.out 2
  have b3 := blk_cell BX2.out 3
  simp only [List.getElem?_toArray, List.getElem?_cons_zero, List.getElem?_cons_succ] at b0 b1 b2 b3
  clear h3 BX F1
  rcases h2 with rfl | rfl
  · obtain ⟨hk0, hm1, hm2⟩ := popErr_zero HE.out.symm
    have HK0 := Hd.mk hk0
    clear hk0
    go_wp2_with (fail)
    refine (may10_any w2 ⟨k.window, 0, k.isLazy⟩ most true (by rw [← HE.out]; rfl)).mono ?_
    rintro e w3 ⟨rfl, h3⟩
    have BX3 := Hd.mk (h3.blk BX2.out (by simp))
    have F3 := Hd.mk (F2.out.trans h3 (by simp))
    clear h3 BX2 F2 b0 b1 b2 b3
    have b0 := blk_cell BX3.out 0
    have b1 := blk_cell BX3.out 1
    have b2 := blk_cell BX3.out 2
    have b3 := blk_cell BX3.out 3
    simp only [List.getElem?_toArray, List.getElem?_cons_zero, List.getElem?_cons_succ] at b0 b1 b2 b3
    go_wp2_with (fail)
    refine (callsIn_wide.1 (parts_any w3 A n c d q ⟨k.window, 0, k.isLazy⟩ most 0 HE.out (HS.out.frame F3.out (by simp)) HBY.out hn)).mono ?_
    rintro e w4 ⟨u, rfl, -, hP, h4⟩
    obtain ⟨J, j1, j2, j3, o2⟩ := hP rfl
    obtain ⟨p1, p2, p3, p4⟩ := parse_law (d := d) HK0.out
    obtain ⟨g1, g2⟩ := parse_right HK0.out HBY.out
    have p5 := parse_plain (d := d) HK0.out rfl
    obtain ⟨l, hll⟩ : ∃ l, l = parse d ⟨k.window, 0, k.isLazy⟩ := ⟨_, rfl⟩
    rw [← hll] at j2 j3 o2 p3 p5 g1
    have HLL := Hd.mk hll
    have ON := Hd.mk (ones g1 (by rw [p3, p5]))
    obtain ⟨M, rfl⟩ := Int.eq_ofNat_of_zero_le (show 0 ≤ most by omega)
    rw [Int.toNat_natCast] at j2 j3 o2
    obtain ⟨A2, d2, rfl, hJd, hdm, -⟩ := own_slice o2
    have hJb : J ≤ 1048577 := by
      rcases j3 with h | h
      · omega
      · have : (J - 1) * 1 ≤ (J - 1) * M := Nat.mul_le_mul_left _ (by omega)
        omega
    have SP := Hd.mk (own_sln o2)
    have BX4 := Hd.mk (h4.blk BX3.out (by simp))
    have F4 := Hd.mk (F3.out.trans h4 (by simp))
    have HLN : Hd (l.length = n) := ⟨by rw [p5, hl]⟩
    clear h4 BX3 F3 b0 b1 b2 b3 hP o2 p1 p2 p3 p4 p5 g1 g2 hll j2 j3
    go_wp2
    go_loopg [7] J (fun kq jv wr => ∃ j : Nat, jv = .int .i64 (j : Nat) ∧ j + kq = J ∧ Hd (Fr w4 wr []))
    case atStart => exact ⟨0, rfl, by omega, ⟨Fr.refl _ _⟩⟩
    case round =>
      obtain ⟨j, rfl, hj, HF⟩ := hrel
      by_cases h1 : j < J
      · obtain ⟨a, o1, rfl, _, ha⟩ := Sl.row (enc := partC l M) (sz := 4) (fun _ => rfl) (SP.out.frame HF.out (by simp)) (i := j) (by rw [List.length_range]; exact h1) (by decide)
        rw [List.getElem_range] at ha
        have c1 := ha 1 (by decide)
        have c2 := ha 2 (by decide)
        simp only [partC, List.getElem?_cons_zero, List.getElem?_cons_succ] at c1 c2
        rw [ON.out] at c2
        obtain ⟨z, hz⟩ : ∃ z, z = lenN l.length M j := ⟨_, rfl⟩
        have hzm : z ≤ M := by rw [hz]; exact Nat.min_le_right _ _
        rw [← hz] at c1 c2
        have b3 := blk_cell (HF.out.blk BX4.out (by simp)) 3
        simp only [List.getElem?_toArray, List.getElem?_cons_zero, List.getElem?_cons_succ] at b3
        have hne : ((z : Int) != (z : Int)) = false := by simp
        have hgt : decide ((M : Int) < (z : Int)) = false := decide_eq_false (by omega)
        clear ha hz
        go_upto_region 12 with (fail)
        go_region_held3 (fun w' => w'.cell? ⟨a, o1 + j * 4 + 1, none⟩ = some (.int .i64 (z : Nat)) ∧ w'.cell? ⟨a, o1 + j * 4 + 2, none⟩ = some (.int .i64 (z : Nat)) ∧ w'.cell? ⟨g, 3, none⟩ = some (.int .i64 (M : Nat))) (go_keep) (fail)
        go_wp2
        go_roundg (gk - 1)
        case measure => omega
        case rel => exact ⟨j + 1, by go_num, by omega, ⟨HF.out.drew⟩⟩
      · obtain rfl : j = J := by omega
        have F5 := Hd.mk (F4.out.trans HF.out (by simp))
        by_cases h6 : 65536 < n
        · go_wp2
          go_ret
          exact ⟨rfl, F5.out.below⟩
        · have BX5 := Hd.mk (HF.out.blk BX4.out (by simp))
          have b3 := blk_cell BX5.out 3
          have f3 := blk_frozen BX5.out 3
          simp only [List.getElem?_toArray, List.getElem?_cons_zero, List.getElem?_cons_succ] at b3
          go_upto_region 17 with (fail)
          generalize hw9 : World.setCell _ _ _ = w9
          have BX9 : Hd (w9.heap[g]? = some (.cells #[.int .i64 k.window, .int .i64 0, .bool k.isLazy, .int .i64 65536] 28)) := ⟨by rw [← hw9]; exact blk_set BX5.out 3 _⟩
          have F9 : Hd (Fr w w9 []) := ⟨by rw [← hw9]; exact F5.out.setCell _ (.inr (by have := HGG.out; simp only; omega))⟩
          have HE9 : Hd ((0 : Int) = popErr ⟨k.window, 0, k.isLazy⟩ 65536) := ⟨by unfold popErr; rw [HK0.out]; rfl⟩
          clear hw9 b3 f3 BX5 F5 SP
          have b0 := blk_cell BX9.out 0
          have b1 := blk_cell BX9.out 1
          have b2 := blk_cell BX9.out 2
          have b3 := blk_cell BX9.out 3
          simp only [List.getElem?_toArray, List.getElem?_cons_zero, List.getElem?_cons_succ] at b0 b1 b2 b3
          go_wp2_with (fail)
          refine (callsIn_wide.1 (parts_any w9 A n c d q ⟨k.window, 0, k.isLazy⟩ 65536 0 HE9.out (HS.out.frame F9.out (by simp)) HBY.out hn)).mono ?_
          rintro e w10 ⟨u, rfl, -, hP, h10⟩
          obtain ⟨K, k1, k2, k3, o3⟩ := hP rfl
          have e65 : (65536 : Int).toNat = 65536 := rfl
          rw [e65] at k2 k3 o3
          rw [← HLL.out] at k2 k3 o3
          rw [HLN.out] at k2 k3
          obtain rfl : K = 1 := by omega
          obtain ⟨g2, d3, rfl, _⟩ := own_some o3 (by decide)
          have c1 := o3.cellAt 1 (by decide)
          have e1 : lenN l.length 65536 0 = n := by rw [HLN.out]; unfold lenN; rw [at_zero]; omega
          rw [show ((List.range 1).flatMap (partC l 65536)) = partC l 65536 0 from rfl] at c1
          simp only [partC, List.getElem?_cons_zero, List.getElem?_cons_succ] at c1
          rw [e1] at c1
          have F10 := Hd.mk (F9.out.trans h10 (by simp))
          clear b0 b1 b2 b3 h10 o3 k1 k2 k3 e65 e1 hP
          go_wp2
          go_ret
          exact ⟨rfl, F10.out.below⟩
  · go_wp2_with (fail)
    refine (may10_any w2 ⟨k.window, 0, k.isLazy⟩ most false (by rw [← HE.out]; rfl)).mono ?_
    rintro e w3 ⟨rfl, h3⟩
    have F3 := Hd.mk (F2.out.trans h3 (by simp))
    clear h3 b0 b1 b2 b3 BX2
    go_wp2
    go_ret
    exact ⟨rfl, F3.out.below⟩
end Go.Proofs.Ytkdgfioigkijgaa.Prs

/- Chapter 10: PressParts. Condition: at most 2^20 bytes. -/
set_option linter.unusedVariables false
set_option linter.unusedSimpArgs false
set_option maxRecDepth 100000
namespace Go.Proofs.Ytkdgfioigkijgaa.Prs
open Go.RowKit Go.Proofs.Ytkdgfioigkijgaa.Lib Go.Proofs.Ytkdgfioigkijgaa.Ints Go.Proofs.Ytkdgfioigkijgaa.Lz Go.Proofs.Ytkdgfioigkijgaa.Num Go.Proofs.Ytkdgfioigkijgaa.Bits Go.Proofs.Ytkdgfioigkijgaa.Blk
/-- the pieces but the last are full; one that is empty stands alone -/
theorem len_full {T M J j : Nat} (h2 : J = 1 ∨ (J - 1) * M < T) (hj : j < J) (hM : 1 ≤ M) : (j < J - 1 → lenN T M j = M) ∧ (lenN T M j = 0 → J = 1) := by
  refine ⟨fun h => ?_, fun h => ?_⟩
  · have h3 : (J - 1) * M < T := by omega
    have h4 : (j + 1) * M ≤ (J - 1) * M := Nat.mul_le_mul_right _ (by omega)
    rw [Nat.add_mul, Nat.one_mul] at h4
    unfold lenN atN
    omega
  · rcases h2 with h2 | h2
    · exact h2
    · exfalso
      have h4 : j * M ≤ (J - 1) * M := Nat.mul_le_mul_right _ (by omega)
      unfold lenN atN at h
      omega
theorem pos_all {l : List Tok} {M J : Nat} (h : l.length ≤ J * M) : posN l M J = Lz.sizeOf l := by
  unfold posN atN
  rw [Nat.min_eq_right h, List.take_length]
set_option maxHeartbeats 16000000 in
theorem parts_walk (A : Option Addr) (n c : Nat) (d : List Int) (q : Option Nat) (k : Opt) (most : Int) (w : World) (hS : SlArg w A n c (u8s d) q) (hw : ∀ x ∈ d, (Lit.int .u8 x).wf = true) (hn : n ≤ 1048576) :
    Calls Try.prog 5 #[.slice A n c, .agg #[.int .i64 k.window, .int .i64 k.chain, .bool k.isLazy, .int .i64 most]] w fun e w' => e = .returned (.bool true) ∧ Below w.heap.size w w' := by
  have HS := Hd.mk hS
  have hl : d.length = n := by have := hS.len; simpa [u8s] using this
  have HBY : Hd (Bytes d) := ⟨fun x hx => bounds_u8 (hw x hx)⟩
  obtain ⟨er, her⟩ : ∃ er, er = popErr k most := ⟨_, rfl⟩
  have h2 : er = 0 ∨ er = 100 := her ▸ popErr_two k most
  have HE := Hd.mk her
  clear hS hw her
  go_enter Try.func5, Try.ntmps5
  have BX := Hd.mk (blk_new w (.cells #[.int .i64 k.window, .int .i64 k.chain, .bool k.isLazy, .int .i64 most] 28))
  have F0 := Hd.mk ((Fr.refl w []).alloc (.cells #[.int .i64 k.window, .int .i64 k.chain, .bool k.isLazy, .int .i64 most] 28))
  go_wp2_with (fail)
  refine (awake_any _).mono ?_
  rintro e w1 ⟨rfl, h3⟩
  have BX1 := Hd.mk (h3.blk BX.out (by simp))
  have F1 := Hd.mk (F0.out.trans h3 (by simp))
  have b0 := blk_cell BX1.out 0
  have b1 := blk_cell BX1.out 1
  have b2 := blk_cell BX1.out 2
  have b3 := blk_cell BX1.out 3
  simp only [List.getElem?_toArray, List.getElem?_cons_zero, List.getElem?_cons_succ] at b0 b1 b2 b3
  clear h3 BX F0
  go_wp2_with (fail)
  refine (press_any w1 A n c d q k most er HE.out (HS.out.frame F1.out (by simp)) HBY.out hn).mono ?_
  rintro e w2 ⟨v, rfl, hP⟩
  have HP := Hd.mk hP
  have BX2 := Hd.mk (hP.2.2.blk BX1.out (by simp))
  have F2 := Hd.mk (F1.out.trans hP.2.2 (by simp))
  clear b0 b1 b2 b3 hP BX1
  have b0 := blk_cell BX2.out 0
  have b1 := blk_cell BX2.out 1
  have b2 := blk_cell BX2.out 2
  have b3 := blk_cell BX2.out 3
  simp only [List.getElem?_toArray, List.getElem?_cons_zero, List.getElem?_cons_succ] at b0 b1 b2 b3
  go_wp2_with (fail)
  refine (callsIn_wide.1 (parts_any w2 A n c d q k most er HE.out (HS.out.frame F2.out (by simp)) HBY.out hn)).mono ?_
  rintro e w3 ⟨u, rfl, hQ⟩
  have HQ := Hd.mk hQ
  have BX3 := Hd.mk (hQ.2.2.blk BX2.out (by simp))
  have F3 := Hd.mk (F2.out.trans hQ.2.2 (by simp))
  clear b0 b1 b2 b3 hQ BX2
  have b0 := blk_cell BX3.out 0
  have b1 := blk_cell BX3.out 1
  have b2 := blk_cell BX3.out 2
  have b3 := blk_cell BX3.out 3
  simp only [List.getElem?_toArray, List.getElem?_cons_zero, List.getElem?_cons_succ] at b0 b1 b2 b3
  rcases h2 with rfl | rfl
  · obtain ⟨J, j1, j2, j3, o1, a1⟩ := HP.out.2.1 rfl
    obtain ⟨K, k1, k2, k3, o2⟩ := HQ.out.2.1 rfl
    obtain rfl := one_J j1 j2 j3 k1 k2 k3
    obtain ⟨hk0, hm1, hm2⟩ := popErr_zero HE.out.symm
    obtain ⟨p1, p2, p3, p4⟩ := parse_law (d := d) hk0
    obtain ⟨g1, g2⟩ := parse_right hk0 HBY.out
    obtain ⟨l, hll⟩ : ∃ l, l = parse d k := ⟨_, rfl⟩
    rw [← hll] at j2 j3 o1 o2 p3 p4 g1 g2
    obtain ⟨M, rfl⟩ := Int.eq_ofNat_of_zero_le (show 0 ≤ most by omega)
    rw [Int.toNat_natCast] at j2 j3 o1 o2
    have hJb : J ≤ 1048577 := by
      rcases j3 with h | h
      · omega
      · have : (J - 1) * 1 ≤ (J - 1) * M := Nat.mul_le_mul_left _ (by omega)
        omega
    obtain ⟨A2, d2, rfl, hJd, hdm, -⟩ := own_slice o2
    have SP := Hd.mk (own_sln o2)
    have HJ3 := Hd.mk j3
    have HPA := Hd.mk (pos_all j2)
    have hP3 := Hd.mk p3
    have HG := Hd.mk (And.intro g1 g2)
    have hm2' : M ≤ 65536 := by omega
    have hln : l.length ≤ n := by rw [← hl]; exact p4
    have hb0 := bt_le g1 g2 hm2' J
    have hat0 := at_le l.length M J
    obtain ⟨L, hL⟩ : ∃ L, L = (btN l M J + 7) / 8 := ⟨_, rfl⟩
    rw [← hL] at o1
    have HLL := Hd.mk hL
    obtain ⟨A1, d1, rfl, -⟩ := own_slice o1
    clear hL hk0 p1 p2 p3 p4 g1 g2 hll j2 j3 k1 k2 k3 o1 o2 a1 HP HQ
    go_wp2_with (fail)
    refine (may10_any w3 k (M : Nat) true (by rw [← HE.out]; rfl)).mono ?_
    rintro e w4 ⟨rfl, h4⟩
    have BX4 := Hd.mk (h4.blk BX3.out (by simp))
    have F4 := Hd.mk (F3.out.trans h4 (by simp))
    have SP4 := Hd.mk (SP.out.frame h4 (by simp))
    clear h4 b0 b1 b2 b3 BX3 F3 SP
    have hJ0 : ((J : Int) == 0) = false := by simp; omega
    have hLb : L ≤ 9000000 := by have := HLL.out; omega
    clear hb0 hat0
    go_wp2
    go_loopg [9, 10, 11] J (fun kq s9 s10 jv wr => ∃ (j ps bt : Nat), s9 = .int .i64 (ps : Nat) ∧ s10 = .int .i64 (bt : Nat) ∧ jv = .int .i64 (j : Nat) ∧ j + kq = J ∧ Hd (ps = posN l M j) ∧ Hd (bt = btN l M j) ∧ Hd (Fr w4 wr []))
    case atStart => exact ⟨0, 0, 0, rfl, rfl, rfl, by omega, ⟨(pos_zero l M).symm⟩, ⟨rfl⟩, ⟨Fr.refl _ _⟩⟩
    case round =>
      obtain ⟨j, ps, bt, rfl, rfl, rfl, hj, HPS, HBT, HF⟩ := hrel
      by_cases h1 : j < J
      · obtain ⟨a, o1, rfl, _, ha⟩ := Sl.row (enc := partC l M) (sz := 4) (fun _ => rfl) (SP4.out.frame HF.out (by simp)) (i := j) (by rw [List.length_range]; exact h1) (by decide)
        rw [List.getElem_range] at ha
        have c1 := ha 1 (by decide)
        have c2 := ha 2 (by decide)
        have c3 := ha 3 (by decide)
        simp only [partC, List.getElem?_cons_zero, List.getElem?_cons_succ] at c1 c2 c3
        have PS1 := Hd.mk (pos_succ l M j)
        have BT1 : Hd (btN l M (j + 1) = btN l M j + csN (btN l M j) (tks l M j)) := ⟨rfl⟩
        obtain ⟨lf1, lf2⟩ := len_full HJ3.out h1 (by omega : 1 ≤ M)
        have hsz := size_ge (s := tks l M j) (fun x hx => HG.out.1 x (tks_mem hx))
        rw [tks_len] at hsz
        have hpb := pos_le l M (j + 1)
        have hbb := bt_le HG.out.1 HG.out.2 hm2' (j + 1)
        have hab := at_le l.length M (j + 1)
        rw [hP3.out, hl] at hpb
        have hlm : lenN l.length M j ≤ M := Nat.min_le_right _ _
        rw [PS1.out] at hpb
        rw [BT1.out] at hbb
        obtain ⟨sz, hsz0⟩ : ∃ x, x = szN l M j := ⟨_, rfl⟩
        obtain ⟨cs, hcs0⟩ : ∃ x, x = csN (btN l M j) (tks l M j) := ⟨_, rfl⟩
        obtain ⟨ln, hln0⟩ : ∃ x, x = lenN l.length M j := ⟨_, rfl⟩
        have hsz' : ln ≤ sz := by rw [hsz0, hln0]; exact hsz
        rw [← hsz0, ← HPS.out] at PS1 hpb
        rw [← hcs0, ← HBT.out] at BT1 hbb
        rw [← hln0] at lf1 lf2 hlm c1
        rw [← hsz0] at c2
        rw [← hcs0] at c3
        clear hsz hsz0 hcs0 hln0 ha
        have b3 := blk_cell (HF.out.blk BX4.out (by simp)) 3
        simp only [List.getElem?_toArray, List.getElem?_cons_zero, List.getElem?_cons_succ] at b3
        have hgt : decide ((M : Int) < (ln : Int)) = false := decide_eq_false (by omega)
        have hlt : decide ((sz : Int) < (ln : Int)) = false := decide_eq_false (by omega)
        have hgt2 : decide (M < ln) = false := decide_eq_false (by omega)
        have hlt2 : decide (sz < ln) = false := decide_eq_false (by omega)
        have hbt1 : bt + cs ≤ 100000000 := by omega
        have hps1 : ps + sz ≤ 1048576 := by omega
        clear hbb hab hpb
        have hwj : IntKind.i64.wrap ((J : Int) - 1) = (J : Int) - 1 := IntWalk.i64_in _ (by omega)
        go_upto_region 15 with (fail)
        go_cut [132] from 82 to 132 (fun s132 wd => s132 = .bool false ∧ Hd (Fr w4 wd []))
        case first =>
          by_cases h5 : j < J - 1
          · obtain rfl : ln = M := lf1 h5
            have hlj : decide ((j : Int) < (J : Int) - 1) = true := decide_eq_true (by omega)
            have hne : ((ln : Int) != (ln : Int)) = false := by simp
            have hz : ((ln : Int) == 0) = false := by simp; omega
            have hz2 : decide ((ln : Int) = 0) = false := decide_eq_false (by omega)
            have hz3 : decide (ln = 0) = false := decide_eq_false (by omega)
            have hz4 : ¬ ln = 0 := by omega
            go_quiet (fail)
            go_wp2_with (fail)
            go_meet
            case rel => exact ⟨by first | rfl | exact congrArg Value.bool (decide_eq_false (by omega)), ⟨HF.out.drewN _⟩⟩
          · have hlj : decide ((j : Int) < (J : Int) - 1) = false := decide_eq_false (by omega)
            by_cases h6 : ln = 0
            · have hJ1 : J = 1 := lf2 h6
              have hz : ((ln : Int) == 0) = true := by simp; omega
              have hz2 : decide ((ln : Int) = 0) = true := decide_eq_true (by omega)
              have hz3 : decide (ln = 0) = true := decide_eq_true (by omega)
              have hJd2 : decide ((1 : Int) < (J : Int)) = false := decide_eq_false (by omega)
              have hJd3 : decide (1 < J) = false := decide_eq_false (by omega)
              clear hJ1 h6 lf1 lf2
              go_quiet (fail)
              go_wp2_with (fail)
              go_meet
              case rel => exact ⟨by first | rfl | exact congrArg Value.bool (decide_eq_false (by omega)), ⟨HF.out.drewN _⟩⟩
            · have hz : ((ln : Int) == 0) = false := by simp; omega
              have hz2 : decide ((ln : Int) = 0) = false := decide_eq_false (by omega)
              have hz3 : decide (ln = 0) = false := decide_eq_false (by omega)
              go_quiet (fail)
              go_wp2_with (fail)
              go_meet
              case rel => exact ⟨by first | rfl | exact congrArg Value.bool (decide_eq_false (by omega)), ⟨HF.out.drewN _⟩⟩
        case rest =>
          obtain ⟨rfl, HF9⟩ := hcut
          go_wp2
          go_roundg (gk - 1)
          case measure => omega
          case rel => exact ⟨j + 1, ps + sz, bt + cs, by go_num, by go_num, by go_num, by omega, ⟨PS1.out.symm⟩, ⟨BT1.out.symm⟩, HF9⟩
      · obtain rfl : j = J := by omega
        have e1 : ps = n := by rw [HPS.out, HPA.out, hP3.out, hl]
        subst e1
        have e2 : (((bt : Int) + 7).tdiv 8) = ((L : Nat) : Int) := by rw [Int.tdiv_eq_ediv_of_nonneg (by omega), HLL.out, HBT.out]; omega
        have F9 := Hd.mk (F4.out.trans HF.out (by simp))
        have hbt2 : bt ≤ 100000000 := by have := HLL.out; rw [← HBT.out] at this; omega
        go_wp2
        go_ret
        exact ⟨rfl, F9.out.below⟩
  · have hv := HP.out.1 (by decide)
    have hu := HQ.out.1 (by decide)
    subst hv hu
    go_wp2_with (fail)
    refine (may10_any w3 k most false (by rw [← HE.out]; rfl)).mono ?_
    rintro e w4 ⟨rfl, h4⟩
    have F4 := Hd.mk (F3.out.trans h4 (by simp))
    clear h4 b0 b1 b2 b3 BX3
    go_wp2
    go_ret
    exact ⟨rfl, F4.out.below⟩
end Go.Proofs.Ytkdgfioigkijgaa.Prs

