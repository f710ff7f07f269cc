/- face, same, kept, look (chapter 07's laws). Conditions: at most 2^20 tokens. -/
import Derived.Test.YtbfdokklhdmmoaaLzLaw
set_option linter.unusedVariables false
set_option linter.unusedSimpArgs false
set_option maxRecDepth 100000
namespace Go.Proofs.Ytbfdokklhdmmoaa.Lz
open Go.RowKit Go.Maps Go.Proofs.Ytbfdokklhdmmoaa.Lib Go.Proofs.Ytbfdokklhdmmoaa.Num Go.Proofs.Ytbfdokklhdmmoaa.Bits

instance : DecidableEq Tok := fun a b =>
  if h : a.lit = b.lit ∧ a.len = b.len ∧ a.dist = b.dist then isTrue (by cases a; cases b; simp only at h; obtain ⟨rfl, rfl, rfl⟩ := h; rfl) else isFalse (by rintro rfl; exact h ⟨rfl, rfl, rfl⟩)
def tail2 : List Tok := [⟨0, 77, 0⟩, ⟨0, 78, 0⟩]
set_option maxHeartbeats 4000000 in
theorem face_any (w : World) (A : Option Addr) (n c : Nat) (l : List Tok) (p : Option Nat) (hn : l.length = n) (hS : Sl w A (tcells l) p) (hb : n ≤ 1048576) :
    Calls Try.prog 12 #[.slice A n c] w fun e w' => ∃ g d, e = .returned (.tuple #[.slice (some ⟨g, 0, none⟩) (n + 2) d, .slice (some ⟨g, 0, none⟩) n d]) ∧
      w'.ownsRow 0 56 3 (.slice (some ⟨g, 0, none⟩) (n + 2) d) (n + 2) (tcells (l ++ tail2)) ∧ w.heap.size ≤ g ∧ Fr w w' [] := by
  obtain ⟨i0, hi0, hz0, hz1, hz2⟩ := info_parts infoTok
  subst hn
  have HS := Hd.mk hS
  clear hS
  go_enter Try.func12, Try.ntmps12
  go_wp2
  go_loopg [4, 9] l.length (fun kq sv jv wr => ∃ (j : Nat) (A1 : Option Addr) (m d1 : Nat), sv = .slice A1 m d1 ∧ jv = .int .i64 (j : Nat) ∧ j + kq = l.length ∧ m ≤ l.length ∧ Hd (m = j) ∧ Hd (wr.ownsRow 0 56 3 (.slice A1 m d1) m (tcells (l.take j))) ∧ Hd (∀ y, (Value.slice A1 m d1).ownBlock = some y → w.heap.size ≤ y) ∧ Hd (Fr w wr []))
  case atStart => exact ⟨0, none, 0, 0, rfl, rfl, by omega, by omega, ⟨rfl⟩, ⟨own_nil _ _ _ _⟩, ⟨by intro y hy; cases hy⟩, ⟨Fr.refl _ _⟩⟩
  case round =>
    obtain ⟨j, A1, m, d1, rfl, rfl, hj, hmj, HM, HO, HB, HF⟩ := hrel
    by_cases h1 : j < l.length
    · obtain ⟨a, o1, rfl, _, ha⟩ := Sl.row (enc := tcell) (sz := 3) (fun _ => rfl) (HS.out.frame HF.out (by simp)) h1 (by decide)
      obtain ⟨t, ht⟩ : ∃ t, t = l[j] := ⟨_, rfl⟩
      rw [← ht] at ha
      obtain ⟨lt, ln, ds⟩ := t
      have c0 := ha 0 (by decide)
      have c1 := ha 1 (by decide)
      have c2 := ha 2 (by decide)
      simp only [tcell, List.getElem?_cons_zero, List.getElem?_cons_succ, Nat.add_zero] at c0 c1 c2
      have HT := Hd.mk ht
      have hm2 : m + 1 ≤ l.length := by have := HM.out; omega
      have hks := blk_new wr (.cells #[.int .u8 lt, .int .i64 ln, .int .i64 ds] 74)
      have hfs := HF.out.alloc (.cells #[.int .u8 lt, .int .i64 ln, .int .i64 ds] 74)
      have hos := HO.out.alloc (.cells #[.int .u8 lt, .int .i64 ln, .int .i64 ds] 74)
      clear ha ht HO
      go_upto_region 5 with (fail)
      generalize hwt : wr.alloc (.cells #[.int .u8 lt, .int .i64 ln, .int .i64 ds] 74) = wt
      rw [hwt] at hks hfs hos
      have HFs := Hd.mk hfs
      have HOs := Hd.mk hos
      have g0 := blk_cell hks 0
      have g1 := blk_cell hks 1
      have g2 := blk_cell hks 2
      simp only [List.getElem?_toArray, List.getElem?_cons_zero, List.getElem?_cons_succ] at g0 g1 g2
      clear hfs hos hks c0 c1 c2 hwt
      go_wp2_with (at_builtin; refine wpList_append_sl rfl (.tmp 13) (.tmp 21) 24 rfl 56 i0 (.agg #[.int .u8 0, .int .i64 0, .int .i64 0]) 3 24 Try.underlying24 hi0 hz0 hz1 hz2 rfl (by decide) (.slice A1 m d1) m _ rfl (by exact HOs.out.alloc _) (some ⟨wt.heap.size, 0, none⟩) 1 1 [.int .u8 lt, .int .i64 ln, .int .i64 ds] (some wt.heap.size) rfl rfl (by exact sl_of_blk (blk_new _ _)) (by intro h; cases h) (by intro u hu; simp at hu; rcases hu with rfl | rfl | rfl <;> rfl) (by unfold maxLen; omega) (by omega) ?_; intro A3 d3 w6 hown' hgrow haft; have O3 := Hd.mk hown'; have G3 := Hd.mk hgrow; have F3 := Hd.mk haft; clear hown' hgrow haft)
      go_roundg (gk - 1)
      case measure => omega
      case rel =>
        refine ⟨j + 1, A3, m + 1, d3, rfl, by go_num, by omega, hm2, ⟨by rw [HM.out]⟩, ⟨?_⟩, ⟨tokOwn_new HB.out HFs.out.size F3.out⟩, ⟨(HFs.out.alloc _).grown G3.out (fun y hy => .inr (HB.out y hy))⟩⟩
        rw [List.take_succ_eq_append_getElem h1, ← HT.out, tcells_app]
        exact O3.out
    · obtain rfl : j = l.length := by omega
      obtain rfl : m = l.length := HM.out
      have HO2 : Hd (wr.ownsRow 0 56 3 (.slice A1 l.length d1) l.length (tcells l)) := ⟨by have := HO.out; rwa [List.take_length] at this⟩
      clear HO
      go_wp2_with (at_builtin; refine wpList_append_sl rfl (.tmp 24) (.tmp 27) 24 rfl 56 i0 (.agg #[.int .u8 0, .int .i64 0, .int .i64 0]) 3 24 Try.underlying24 hi0 hz0 hz1 hz2 rfl (by decide) (.slice A1 l.length d1) l.length _ rfl (by exact HO2.out.alloc _) (some ⟨wr.heap.size, 0, none⟩) 2 2 [.int .u8 0, .int .i64 77, .int .i64 0, .int .u8 0, .int .i64 78, .int .i64 0] (some wr.heap.size) rfl rfl (by exact sl_of_blk (blk_new _ _)) (by intro h; cases h) (by intro u hu; simp at hu; rcases hu with rfl | rfl | rfl | rfl | rfl | rfl <;> rfl) (by unfold maxLen; omega) (by omega) ?_; intro A3 d3 w6 hown' hgrow haft; have O3 := Hd.mk hown'; have G3 := Hd.mk hgrow; have F3 := Hd.mk haft; have hd3 : l.length + 2 ≤ d3 := (by obtain ⟨_, _, e, hh, _⟩ := own_slice hown'; cases e; exact hh); obtain ⟨g3, d3', e3, _⟩ := own_some hown' (by omega); injection e3 with e3 _ e4; subst e3 e4; clear hown' hgrow haft)
      go_region
      go_wp2
      go_ret2
      have hB3 := tokOwn_new HB.out HF.out.size F3.out
      exact ⟨g3, d3, rfl, by rw [tcells_app]; exact O3.out, hB3 g3 rfl, ((HF.out.alloc _).grown G3.out (fun y hy => .inr (HB.out y hy))).drew⟩
theorem look_any (w : World) (k : Opt) : Calls Try.prog 24 #[.agg #[.int .i64 k.window, .int .i64 k.chain, .bool k.isLazy]] w fun e w' => e = .returned (.agg #[.int .i64 k.window, .int .i64 k.chain, .bool k.isLazy]) ∧ Fr w w' [] := by
  go_enter Try.func24, Try.ntmps24
  go_wp2
  exact bodyPost_ret (v := .agg #[.int .i64 k.window, .int .i64 k.chain, .bool k.isLazy]) (by simp [results, Try.results24, go_sem]) rfl ⟨rfl, ((Fr.refl _ _).alloc _).alloc _⟩
set_option maxHeartbeats 4000000 in
theorem tsame_any (w : World) (A B : Option Addr) (n m c d : Nat) (ts us : List Tok) (p q : Option Nat) (hn : ts.length = n) (hm : us.length = m) (hS : Sl w A (tcells ts) p) (hT : Sl w B (tcells us) q) (hn1 : n ≤ 4611686018427387904) (hm1 : m ≤ 4611686018427387904) (b : Bool) (hb : b = decide (ts = us)) :
    Calls Try.prog 28 #[.slice A n c, .slice B m d] w fun e w' => e = .returned (.bool b) ∧ Fr w w' [] := by
  subst hn hm
  have HS := Hd.mk hS
  have HT := Hd.mk hT
  have HB := Hd.mk hb
  clear hS hT hb
  go_enter Try.func28, Try.ntmps28
  by_cases h0 : ts.length = us.length
  · have hne : ((ts.length : Int) == (us.length : Int)) = true := by simp; omega
    go_wp2
    go_loopg [14] ts.length (fun kq jv wr => ∃ j : Nat, jv = .int .i64 (j : Nat) ∧ j + kq = ts.length ∧ Hd (ts.take j = us.take j) ∧ Hd (Fr w wr []))
    case atStart => exact ⟨0, rfl, by omega, ⟨rfl⟩, ⟨Fr.refl _ _⟩⟩
    case round =>
      obtain ⟨j, rfl, hj, HE, HF⟩ := hrel
      by_cases h1 : j < ts.length
      · have h2 : j < us.length := by omega
        obtain ⟨a, o1, rfl, _, ha⟩ := Sl.row (enc := tcell) (sz := 3) (fun _ => rfl) (HS.out.frame HF.out (by simp)) h1 (by decide)
        obtain ⟨t, ht⟩ : ∃ t, t = ts[j] := ⟨_, rfl⟩
        obtain ⟨u, hu⟩ : ∃ u, u = us[j] := ⟨_, rfl⟩
        rw [← ht] at ha
        have HTj := Hd.mk ht
        have HUj := Hd.mk hu
        obtain ⟨la, na, da⟩ := t
        obtain ⟨lb, nb, db⟩ := u
        have c0 := ha 0 (by decide)
        have c1 := ha 1 (by decide)
        have c2 := ha 2 (by decide)
        simp only [tcell, List.getElem?_cons_zero, List.getElem?_cons_succ, Nat.add_zero] at c0 c1 c2
        have hks := blk_new wr (.cells #[.int .u8 la, .int .i64 na, .int .i64 da] 56)
        have hfs := HF.out.alloc (.cells #[.int .u8 la, .int .i64 na, .int .i64 da] 56)
        clear ha ht
        go_upto_region 6 with (fail)
        generalize hwt : wr.alloc (.cells #[.int .u8 la, .int .i64 na, .int .i64 da] 56) = wt
        rw [hwt] at hks hfs
        have HFs := Hd.mk hfs
        obtain ⟨b2, o2, rfl, _, hbb⟩ := Sl.row (enc := tcell) (sz := 3) (fun _ => rfl) (HT.out.frame HFs.out (by simp)) h2 (by decide)
        rw [← hu] at hbb
        have e0 := hbb 0 (by decide)
        have e1 := hbb 1 (by decide)
        have e2 := hbb 2 (by decide)
        simp only [tcell, List.getElem?_cons_zero, List.getElem?_cons_succ, Nat.add_zero] at e0 e1 e2
        have g0 := blk_cell hks 0
        have g1 := blk_cell hks 1
        have g2 := blk_cell hks 2
        simp only [List.getElem?_toArray, List.getElem?_cons_zero, List.getElem?_cons_succ] at g0 g1 g2
        clear hfs hks c0 c1 c2 hwt hbb hu
        by_cases q0 : la = lb
        · subst q0
          by_cases q1 : na = nb
          · subst q1
            by_cases q2 : da = db
            · subst q2
              have f0 : (la == la) = true := by simp
              have f1 : (na == na) = true := by simp
              have f2 : (da == da) = true := by simp
              go_quiet (fail)
              go_wp2
              go_roundg (gk - 1)
              case measure => omega
              case rel => exact ⟨j + 1, by go_num, by omega, ⟨by rw [List.take_succ_eq_append_getElem h1, List.take_succ_eq_append_getElem h2, HE.out, ← HTj.out, ← HUj.out]⟩, ⟨HFs.out.drewN _⟩⟩
            · have f0 : (la == la) = true := by simp
              have f1 : (na == na) = true := by simp
              have f2 : (da == db) = false := by simpa using q2
              have : ¬ ts = us := by rintro rfl; exact q2 (congrArg Tok.dist (HTj.out.trans HUj.out.symm))
              obtain rfl : b = false := by rw [HB.out]; exact decide_eq_false this
              go_quiet (fail)
              go_wp2
              go_ret
              exact ⟨rfl, HFs.out.drewN _⟩
          · have f0 : (la == la) = true := by simp
            have f1 : (na == nb) = false := by simpa using q1
            have : ¬ ts = us := by rintro rfl; exact q1 (congrArg Tok.len (HTj.out.trans HUj.out.symm))
            obtain rfl : b = false := by rw [HB.out]; exact decide_eq_false this
            go_quiet (fail)
            go_wp2
            go_ret
            exact ⟨rfl, HFs.out.drewN _⟩
        · have f0 : (la != lb) = true := by simpa using q0
          have : ¬ ts = us := by rintro rfl; exact q0 (congrArg Tok.lit (HTj.out.trans HUj.out.symm))
          obtain rfl : b = false := by rw [HB.out]; exact decide_eq_false this
          clear this q0
          go_quiet (fail)
          go_wp2
          go_ret
          exact ⟨rfl, HFs.out.drewN _⟩
      · obtain rfl : j = ts.length := by omega
        have : ts = us := by
          have := HE.out
          rwa [List.take_of_length_le (by omega), List.take_of_length_le (by omega)] at this
        obtain rfl : b = true := by rw [HB.out]; exact decide_eq_true this
        go_wp2
        go_ret
        exact ⟨rfl, HF.out⟩
  · have hne : ((ts.length : Int) == (us.length : Int)) = false := by simp; omega
    have : ¬ ts = us := by rintro rfl; exact h0 rfl
    obtain rfl : b = false := by rw [HB.out]; exact decide_eq_false this
    go_wp2
    go_ret
    exact ⟨rfl, Fr.refl _ _⟩
theorem face_part {w : World} {g d : Nat} {l : List Tok} (h : w.ownsRow 0 56 3 (.slice (some ⟨g, 0, none⟩) (l.length + 2) d) (l.length + 2) (tcells (l ++ tail2))) : Sl w (some ⟨g, 0, none⟩) (tcells l) (some g) := by
  have := (sl_of_toks h).take (3 * l.length)
  rw [tcells_app, List.take_left' (tcells_len _)] at this
  exact this
set_option maxHeartbeats 4000000 in
theorem tkept_any (w : World) (g d : Nat) (l : List Tok) (B : Option Addr) (c : Nat) (q : Option Nat) (h : w.ownsRow 0 56 3 (.slice (some ⟨g, 0, none⟩) (l.length + 2) d) (l.length + 2) (tcells (l ++ tail2))) (hT : Sl w B (tcells l) q) (hn1 : l.length ≤ 1048576) :
    Calls Try.prog 20 #[.slice (some ⟨g, 0, none⟩) (l.length + 2) d, .slice B l.length c] w fun e w' => e = .returned (.bool true) ∧ Fr w w' [] := by
  have HO := Hd.mk h
  have HT := Hd.mk hT
  have hd : l.length + 2 ≤ d := by obtain ⟨_, _, e, hh, _⟩ := own_slice h; cases e; exact hh
  clear h hT
  go_enter Try.func20, Try.ntmps20
  go_wp2_with (fail)
  refine (tsame_any w _ B l.length l.length d c l l _ q rfl rfl (face_part HO.out) HT.out (by omega) (by omega) true (decide_eq_true rfl).symm).mono ?_
  rintro e w1 ⟨rfl, h1⟩
  have P := own_frame HO.out h1 (by simp)
  have q0 := P.cellAt (l.length * 3 + 1) (by omega)
  have q1 := P.cellAt ((l.length + 1) * 3 + 1) (by omega)
  rw [tcells_app, List.getElem?_append_right (by rw [tcells_len]; omega), tcells_len] at q0 q1
  rw [show l.length * 3 + 1 - 3 * l.length = 1 from by omega] at q0
  rw [show (l.length + 1) * 3 + 1 - 3 * l.length = 4 from by omega] at q1
  have ht : tcells tail2 = [.int .u8 0, .int .i64 77, .int .i64 0, .int .u8 0, .int .i64 78, .int .i64 0] := rfl
  rw [ht] at q0 q1
  simp only [List.getElem?_cons_zero, List.getElem?_cons_succ] at q0 q1
  have F1 := Hd.mk h1
  clear h1 P ht
  go_wp2
  go_ret
  exact ⟨rfl, F1.out⟩
end Go.Proofs.Ytbfdokklhdmmoaa.Lz
