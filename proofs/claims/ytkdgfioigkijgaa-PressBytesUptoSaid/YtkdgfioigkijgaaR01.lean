import Derived.Test.YtkdgfioigkijgaaQ01
import Derived.Test.YtkdgfioigkijgaaQ02
import Derived.Test.YtkdgfioigkijgaaQ03
import Derived.Test.YtkdgfioigkijgaaQ04
import Derived.Test.YtkdgfioigkijgaaQ05
import Derived.Test.YtkdgfioigkijgaaQ06
import Derived.Test.YtkdgfioigkijgaaQ07
import Derived.Test.YtkdgfioigkijgaaQ08
import Derived.Test.YtkdgfioigkijgaaQ09
import Derived.Test.YtkdgfioigkijgaaQ10
import Derived.Test.YtkdgfioigkijgaaQ11
import Derived.Test.YtkdgfioigkijgaaQ12
import Derived.Test.YtkdgfioigkijgaaQ13
import Derived.Test.YtkdgfioigkijgaaQ14
import Derived.Test.YtkdgfioigkijgaaQ15
import Derived.Test.YtkdgfioigkijgaaQ16
import Derived.WalkKit
import Derived.ProofKit
import Derived.OpenShut
import Derived.ShutString
import Derived.ChangeOld
import Derived.Below
import Derived.SizedLaws
import Derived.JoinedCond
import Derived.Lib.SmallJoins
import Derived.Deep.Strs
import Derived.Deep.RegionHeld3
/- Chapter 10: PressBytes. Condition: at most 2^20 bytes. -/
set_option linter.unusedVariables false
set_option linter.unusedSimpArgs false
set_option maxRecDepth 100000
namespace Go.Proofs.Ytkdgfioigkijgaa.Lz

theorem best_none {d : List Int} {p w : Nat} : best d p w 0 = (0, 0) := by
  have : ∀ q b s, bestF d p w q 0 b s = (b, s) := by
    intro q b s
    cases q with
    | zero => rfl
    | succ q => simp only [bestF]; rw [if_neg (by omega)]
  exact this p 0 0
theorem parse_plain {d : List Int} {k : Opt} (hk : optErr k = 0) (h0 : k.chain = 0) : (parse d k).length = d.length := by
  have e : parse d k = parseF d k d.length 0 := by unfold parse; rw [if_pos hk]
  have : ∀ f p, p ≤ d.length → d.length ≤ f + p → p + (parseF d k f p).length = d.length := by
    intro f
    induction f with
    | zero => intro p h hf; simp only [parseF, List.length_nil]; omega
    | succ f ih =>
      intro p h hf
      simp only [parseF]
      by_cases hp : p < d.length
      · have ht : stepAt d k p = 1 := by
          have : taken d k p = 0 := by
            have := taken_good (d := d) (k := k) (p := p) (by omega)
            rw [h0] at this
            simp only [Int.toNat_zero, best_none] at this
            omega
          unfold stepAt; rw [if_pos this]
        rw [if_pos hp, List.length_cons, ht]
        have := ih (p + 1) (by omega) (by omega)
        omega
      · rw [if_neg hp, List.length_nil]; omega
  rw [e]
  have := this d.length 0 (Nat.zero_le _) (by omega)
  omega

/-! ### the first tokens are the first bytes -/
end Go.Proofs.Ytkdgfioigkijgaa.Lz
namespace Go.Proofs.Ytkdgfioigkijgaa.Prs
open Go.RowKit Go.Proofs.Ytkdgfioigkijgaa.Lib Go.Proofs.Ytkdgfioigkijgaa.Ints Go.Proofs.Ytkdgfioigkijgaa.Lz Go.Proofs.Ytkdgfioigkijgaa.Num Go.Proofs.Ytkdgfioigkijgaa.Bits Go.Proofs.Ytkdgfioigkijgaa.Blk
theorem own_sln {w : World} {base : Nat} {e : TypeId} {sz : Nat} {A : Option Addr} {n c : Nat} {xs : List Value} (h : w.ownsRow base e sz (.slice A n c) n xs) : Sl w A xs (Value.slice A n c).ownBlock := by
  intro hx
  rcases h.2 with ⟨h', h''⟩ | ⟨g, cap, cur, h', hb, hh, hnc, hcm, hcs, ht⟩
  · have := h.1
    rw [h'', Nat.zero_mul] at this
    omega
  · injection h' with h1 _ _
    subst h1
    refine ⟨g, 0, rfl, rfl, fun j hj => ?_⟩
    rw [Nat.zero_add, blk_cell hh, ← ht, List.getElem?_take, if_pos (by have := h.1; omega)]
    simp
theorem width_pos {t : Tok} (h : right t = true) : 1 ≤ Lz.width t := by
  unfold Lz.width
  rw [if_pos h]
  split
  · exact Nat.le_refl _
  · rename_i hh
    rcases right_len h with ⟨h0, _⟩ | ⟨h1, _⟩
    · exact absurd h0 hh
    · omega
theorem size_ge : ∀ {s : List Tok}, (∀ t ∈ s, right t = true) → s.length ≤ Lz.sizeOf s
  | [], _ => Nat.zero_le _
  | t :: s, h => by
    have h1 := size_ge (s := s) (fun x hx => h x (List.mem_cons_of_mem _ hx))
    have h2 := width_pos (h t List.mem_cons_self)
    have h3 : Lz.sizeOf (t :: s) = Lz.width t + Lz.sizeOf s := by unfold Lz.sizeOf; rw [List.map_cons, List.sum_cons]
    rw [h3, List.length_cons]
    omega
/-- tokens of one byte each: so are those of a piece -/
theorem ones {l : List Tok} (hr : ∀ t ∈ l, right t = true) (h : Lz.sizeOf l = l.length) (most j : Nat) : szN l most j = lenN l.length most j := by
  have e : l = l.take (atN l.length most j) ++ (tks l most j ++ (l.drop (atN l.length most j)).drop most) := by
    unfold tks
    rw [List.take_append_drop, List.take_append_drop]
  have h1 : Lz.sizeOf l = Lz.sizeOf (l.take (atN l.length most j)) + (Lz.sizeOf (tks l most j) + Lz.sizeOf ((l.drop (atN l.length most j)).drop most)) := by
    rw [← sizeOf_app, ← sizeOf_app, ← e]
  have h2 : l.length = (l.take (atN l.length most j)).length + ((tks l most j).length + ((l.drop (atN l.length most j)).drop most).length) := by
    rw [← List.length_append, ← List.length_append, ← e]
  have g1 := size_ge (s := l.take (atN l.length most j)) (fun x hx => hr x (List.mem_of_mem_take hx))
  have g2 := size_ge (s := tks l most j) (fun x hx => hr x (tks_mem hx))
  have g3 := size_ge (s := (l.drop (atN l.length most j)).drop most) (fun x hx => hr x (List.mem_of_mem_drop (List.mem_of_mem_drop hx)))
  rw [← tks_len]
  unfold szN
  omega
set_option maxHeartbeats 16000000 in
theorem bytes_walk (A : Option Addr) (n c : Nat) (d : List Int) (q : Option Nat) (k : Opt) (most : Int) (w : World) (hS : SlArg w A n c (u8s d) q) (hw : ∀ x ∈ d, (Lit.int .u8 x).wf = true) (hn : n ≤ 1048576) :
    Calls Try.prog 7 #[.slice A n c, .agg #[.int .i64 k.window, .int .i64 k.chain, .bool k.isLazy, .int .i64 most]] w fun e w' => e = .returned (.bool true) ∧ Below w.heap.size w w' := by
  have HS := Hd.mk hS
  have hl : d.length = n := by have := hS.len; simpa [u8s] using this
  have HBY : Hd (Bytes d) := ⟨fun x hx => bounds_u8 (hw x hx)⟩
  obtain ⟨er, her⟩ : ∃ er, er = popErr ⟨k.window, 0, k.isLazy⟩ most := ⟨_, rfl⟩
  have h2 : er = 0 ∨ er = 100 := her ▸ popErr_two _ most
  have HE := Hd.mk her
  clear hS hw her
  go_enter Try.func7, Try.ntmps7
  go_upto_region 2 with (fail)
  generalize hw1 : World.alloc _ _ = w1
  have BX : Hd (w1.heap[w.heap.size]? = some (.cells #[.int .i64 k.window, .int .i64 0, .bool k.isLazy, .int .i64 most] 28)) := ⟨by rw [← hw1]; exact blk_new w _⟩
  have F1 : Hd (Fr w w1 []) := ⟨by rw [← hw1]; exact (Fr.refl w []).alloc _⟩
  obtain ⟨g, hg⟩ : ∃ g, g = w.heap.size := ⟨_, rfl⟩
  rw [← hg] at BX ⊢
  have HGG := Hd.mk hg
  clear hw1 hg
  go_wp2_with (fail)
  refine (awake_any w1).mono ?_
  rintro e w2 ⟨rfl, h3⟩
  have BX2 := Hd.mk (h3.blk BX.out (by simp))
  have F2 := Hd.mk (F1.out.trans h3 (by simp))
  have b0 := blk_cell BX2.out 0
  have b1 := blk_cell BX2.out 1
  have b2 := blk_cell BX2.out 2
  have b3 := blk_cell BX2.out 3
  simp only [List.getElem?_toArray, List.getElem?_cons_zero, List.getElem?_cons_succ] at b0 b1 b2 b3
  clear h3 BX F1
  rcases h2 with rfl | rfl
  · obtain ⟨hk0, hm1, hm2⟩ := popErr_zero HE.out.symm
    have HK0 := Hd.mk hk0
    clear hk0
    go_wp2_with (fail)
    refine (may10_any w2 ⟨k.window, 0, k.isLazy⟩ most true (by rw [← HE.out]; rfl)).mono ?_
    rintro e w3 ⟨rfl, h3⟩
    have BX3 := Hd.mk (h3.blk BX2.out (by simp))
    have F3 := Hd.mk (F2.out.trans h3 (by simp))
    clear h3 BX2 F2 b0 b1 b2 b3
    have b0 := blk_cell BX3.out 0
    have b1 := blk_cell BX3.out 1
    have b2 := blk_cell BX3.out 2
    have b3 := blk_cell BX3.out 3
    simp only [List.getElem?_toArray, List.getElem?_cons_zero, List.getElem?_cons_succ] at b0 b1 b2 b3
    go_wp2_with (fail)
    refine (callsIn_wide.1 (parts_any w3 A n c d q ⟨k.window, 0, k.isLazy⟩ most 0 HE.out (HS.out.frame F3.out (by simp)) HBY.out hn)).mono ?_
    rintro e w4 ⟨u, rfl, -, hP, h4⟩
    obtain ⟨J, j1, j2, j3, o2⟩ := hP rfl
    obtain ⟨p1, p2, p3, p4⟩ := parse_law (d := d) HK0.out
    obtain ⟨g1, g2⟩ := parse_right HK0.out HBY.out
    have p5 := parse_plain (d := d) HK0.out rfl
    obtain ⟨l, hll⟩ : ∃ l, l = parse d ⟨k.window, 0, k.isLazy⟩ := ⟨_, rfl⟩
    rw [← hll] at j2 j3 o2 p3 p5 g1
    have HLL := Hd.mk hll
    have ON := Hd.mk (ones g1 (by rw [p3, p5]))
    obtain ⟨M, rfl⟩ := Int.eq_ofNat_of_zero_le (show 0 ≤ most by omega)
    rw [Int.toNat_natCast] at j2 j3 o2
    obtain ⟨A2, d2, rfl, hJd, hdm, -⟩ := own_slice o2
    have hJb : J ≤ 1048577 := by
      rcases j3 with h | h
      · omega
      · have : (J - 1) * 1 ≤ (J - 1) * M := Nat.mul_le_mul_left _ (by omega)
        omega
    have SP := Hd.mk (own_sln o2)
    have BX4 := Hd.mk (h4.blk BX3.out (by simp))
    have F4 := Hd.mk (F3.out.trans h4 (by simp))
    have HLN : Hd (l.length = n) := ⟨by rw [p5, hl]⟩
    clear h4 BX3 F3 b0 b1 b2 b3 hP o2 p1 p2 p3 p4 p5 g1 g2 hll j2 j3
    go_wp2
    go_loopg [7] J (fun kq jv wr => ∃ j : Nat, jv = .int .i64 (j : Nat) ∧ j + kq = J ∧ Hd (Fr w4 wr []))
    case atStart => exact ⟨0, rfl, by omega, ⟨Fr.refl _ _⟩⟩
    case round =>
      obtain ⟨j, rfl, hj, HF⟩ := hrel
      by_cases h1 : j < J
      · obtain ⟨a, o1, rfl, _, ha⟩ := Sl.row (enc := partC l M) (sz := 4) (fun _ => rfl) (SP.out.frame HF.out (by simp)) (i := j) (by rw [List.length_range]; exact h1) (by decide)
        rw [List.getElem_range] at ha
        have c1 := ha 1 (by decide)
        have c2 := ha 2 (by decide)
        simp only [partC, List.getElem?_cons_zero, List.getElem?_cons_succ] at c1 c2
        rw [ON.out] at c2
        obtain ⟨z, hz⟩ : ∃ z, z = lenN l.length M j := ⟨_, rfl⟩
        have hzm : z ≤ M := by rw [hz]; exact Nat.min_le_right _ _
        rw [← hz] at c1 c2
        have b3 := blk_cell (HF.out.blk BX4.out (by simp)) 3
        simp only [List.getElem?_toArray, List.getElem?_cons_zero, List.getElem?_cons_succ] at b3
        have hne : ((z : Int) != (z : Int)) = false := by simp
        have hgt : decide ((M : Int) < (z : Int)) = false := decide_eq_false (by omega)
        clear ha hz
        go_upto_region 12 with (fail)
        go_region_held3 (fun w' => w'.cell? ⟨a, o1 + j * 4 + 1, none⟩ = some (.int .i64 (z : Nat)) ∧ w'.cell? ⟨a, o1 + j * 4 + 2, none⟩ = some (.int .i64 (z : Nat)) ∧ w'.cell? ⟨g, 3, none⟩ = some (.int .i64 (M : Nat))) (go_keep) (fail)
        go_wp2
        go_roundg (gk - 1)
        case measure => omega
        case rel => exact ⟨j + 1, by go_num, by omega, ⟨HF.out.drew⟩⟩
      · obtain rfl : j = J := by omega
        have F5 := Hd.mk (F4.out.trans HF.out (by simp))
        by_cases h6 : 65536 < n
        · go_wp2
          go_ret
          exact ⟨rfl, F5.out.below⟩
        · have BX5 := Hd.mk (HF.out.blk BX4.out (by simp))
          have b3 := blk_cell BX5.out 3
          have f3 := blk_frozen BX5.out 3
          simp only [List.getElem?_toArray, List.getElem?_cons_zero, List.getElem?_cons_succ] at b3
          go_upto_region 17 with (fail)
          generalize hw9 : World.setCell _ _ _ = w9
          have BX9 : Hd (w9.heap[g]? = some (.cells #[.int .i64 k.window, .int .i64 0, .bool k.isLazy, .int .i64 65536] 28)) := ⟨by rw [← hw9]; exact blk_set BX5.out 3 _⟩
          have F9 : Hd (Fr w w9 []) := ⟨by rw [← hw9]; exact F5.out.setCell _ (.inr (by have := HGG.out; simp only; omega))⟩
          have HE9 : Hd ((0 : Int) = popErr ⟨k.window, 0, k.isLazy⟩ 65536) := ⟨by unfold popErr; rw [HK0.out]; rfl⟩
          clear hw9 b3 f3 BX5 F5 SP
          have b0 := blk_cell BX9.out 0
          have b1 := blk_cell BX9.out 1
          have b2 := blk_cell BX9.out 2
          have b3 := blk_cell BX9.out 3
          simp only [List.getElem?_toArray, List.getElem?_cons_zero, List.getElem?_cons_succ] at b0 b1 b2 b3
          go_wp2_with (fail)
          refine (callsIn_wide.1 (parts_any w9 A n c d q ⟨k.window, 0, k.isLazy⟩ 65536 0 HE9.out (HS.out.frame F9.out (by simp)) HBY.out hn)).mono ?_
          rintro e w10 ⟨u, rfl, -, hP, h10⟩
          obtain ⟨K, k1, k2, k3, o3⟩ := hP rfl
          have e65 : (65536 : Int).toNat = 65536 := rfl
          rw [e65] at k2 k3 o3
          rw [← HLL.out] at k2 k3 o3
          rw [HLN.out] at k2 k3
          obtain rfl : K = 1 := by omega
          obtain ⟨g2, d3, rfl, _⟩ := own_some o3 (by decide)
          have c1 := o3.cellAt 1 (by decide)
          have e1 : lenN l.length 65536 0 = n := by rw [HLN.out]; unfold lenN; rw [at_zero]; omega
          rw [show ((List.range 1).flatMap (partC l 65536)) = partC l 65536 0 from rfl] at c1
          simp only [partC, List.getElem?_cons_zero, List.getElem?_cons_succ] at c1
          rw [e1] at c1
          have F10 := Hd.mk (F9.out.trans h10 (by simp))
          clear b0 b1 b2 b3 h10 o3 k1 k2 k3 e65 e1 hP
          go_wp2
          go_ret
          exact ⟨rfl, F10.out.below⟩
  · go_wp2_with (fail)
    refine (may10_any w2 ⟨k.window, 0, k.isLazy⟩ most false (by rw [← HE.out]; rfl)).mono ?_
    rintro e w3 ⟨rfl, h3⟩
    have F3 := Hd.mk (F2.out.trans h3 (by simp))
    clear h3 b0 b1 b2 b3 BX2
    go_wp2
    go_ret
    exact ⟨rfl, F3.out.below⟩
end Go.Proofs.Ytkdgfioigkijgaa.Prs
