/- Texts of this claim, one behind the other: BlkRa, Face, BlkTrue. -/
import Derived.Test.YtlfckpmdmkccjaaGreatG24
import Derived.Test.YtlfckpmdmkccjaaGreatG10
import Derived.Deep.CutRange
import Derived.Deep.Light
/- Chapter 09: the document's may, its Pick where it answers an error, tokens of the law. Conditions: at most 2^40 tokens. -/
set_option linter.unusedVariables false
set_option linter.unusedSimpArgs false
set_option maxRecDepth 100000
namespace Go.Proofs.YtlfckpmdmkccjaaGreat.Blk
open Go.RowKit Go.Proofs.YtlfckpmdmkccjaaGreat.Lib Go.Proofs.YtlfckpmdmkccjaaGreat.Ints Go.Proofs.YtlfckpmdmkccjaaGreat.Lz
set_option maxHeartbeats 2000000 in
theorem rmay_any (w : World) (A : Option Addr) (n c : Nat) (l : List Tok) (p : Option Nat) (hn : l.length = n) (hS : Sl w A (tcells l) p) (hb : n ≤ 1099511627776) (r : Int) (hr : r = mayB l) :
    Calls Tryz.prog 39 #[.slice A n c] w fun e w' => e = .returned (.int .i64 r) ∧ Fr w w' [] := by
  subst hn
  have HS := Hd.mk hS
  have HR := Hd.mk hr
  clear hS hr
  go_enter Tryz.func39, Tryz.ntmps39
  by_cases hlong : 65536 < l.length
  · obtain rfl : r = 90 := by rw [HR.out]; unfold mayB; rw [if_pos hlong]
    go_wp2
    go_ret
    exact ⟨rfl, Fr.refl _ _⟩
  · have hmr : Hd (r = if l.all right then 0 else 91) := ⟨by rw [HR.out]; unfold mayB; rw [if_neg hlong]⟩
    have hl2 : l.length ≤ 65536 := by omega
    go_wp2
    go_loopg [10] l.length (fun kq jv wr => ∃ j : Nat, jv = .int .i64 (j : Nat) ∧ j + kq = l.length ∧ Hd ((l.take j).all right = true) ∧ Hd (Fr w wr []))
    case atStart => exact ⟨0, rfl, by omega, ⟨rfl⟩, ⟨Fr.refl _ _⟩⟩
    case round =>
      obtain ⟨j, rfl, hj, HA, HF⟩ := hrel
      by_cases h1 : j < l.length
      · obtain ⟨a, o1, rfl, _, ha⟩ := Sl.row (enc := tcell) (sz := 3) (fun _ => rfl) (HS.out.frame HF.out (by simp)) h1 (by decide)
        obtain ⟨t, ht⟩ : ∃ t, t = l[j] := ⟨_, rfl⟩
        rw [← ht] at ha
        have c0 := ha 0 (by decide)
        have c1 := ha 1 (by decide)
        have c2 := ha 2 (by decide)
        simp only [tcell, List.getElem?_cons_zero, List.getElem?_cons_succ, Nat.add_zero] at c0 c1 c2
        have HT := Hd.mk ht
        clear ha ht
        obtain ⟨x, hx⟩ : ∃ x, x = right t := ⟨_, rfl⟩
        have HX := Hd.mk hx
        clear hx
        go_wp2_with (fail)
        refine (Lz.may_any _ t x HX.out).mono ?_
        rintro e w2 ⟨rfl, h2⟩
        have F2 := Hd.mk ((HF.out.alloc _).trans h2 (by simp))
        clear h2
        cases x with
        | false =>
          have : Hd (r = 91) := ⟨by rw [hmr.out, all_not h1 (by rw [← HT.out]; exact HX.out.symm)]; rfl⟩
          obtain rfl := this.out
          go_wp2
          go_ret
          exact ⟨rfl, F2.out⟩
        | true =>
          go_wp2
          go_roundg (gk - 1)
          case measure => omega
          case rel => exact ⟨j + 1, by go_num, by omega, ⟨by rw [all_take h1, HA.out, ← HT.out, ← HX.out]; rfl⟩, F2⟩
      · obtain rfl : j = l.length := by omega
        have : Hd (r = 0) := ⟨by rw [hmr.out]; rw [List.take_length] at HA; rw [HA.out]; rfl⟩
        obtain rfl := this.out
        go_wp2
        go_ret
        exact ⟨rfl, HF.out⟩
theorem rpick_err (w : World) (bh : Int) (h0 : 0 ≤ bh) (h7 : bh ≤ 7) (A : Option Addr) (n c : Nat) (l : List Tok) (p : Option Nat) (hn : l.length = n) (hS : Sl w A (tcells l) p) (hb : n ≤ 1099511627776) (e : Int) (he : e = mayB l) (hne : e ≠ 0) :
    Calls Tryz.prog 26 #[.int .i64 bh, .slice A n c] w fun r w' => r = .returned (.tuple #[.int .i64 0, .int .i64 e]) ∧ Fr w w' [] := by
  have HS := Hd.mk hS
  have HE := Hd.mk he
  have hne' : (e != 0) = true := by simpa using hne
  clear hS he hne
  go_enter Tryz.func26, Tryz.ntmps26
  go_wp2_with (fail)
  refine (rmay_any w A n c l p hn HS.out hb e HE.out).mono ?_
  rintro r w1 ⟨rfl, h1⟩
  have F1 := Hd.mk h1
  clear h1
  go_wp2
  go_ret2
  exact ⟨rfl, F1.out⟩
set_option maxHeartbeats 4000000 in
theorem tokens_any (w : World) (X Y : Option Addr) (nx cx ny cy : Nat) (lit dist : List Int) (px py : Option Nat) (hX : SlArg w X nx cx (i64s lit) px) (hY : SlArg w Y ny cy (i64s dist) py) (hx2 : 286 ≤ nx) (hy2 : 30 ≤ ny) (hcx : Code.check lit = 0)
    (A : Option Addr) (n c : Nat) (l : List Tok) (p : Option Nat) (hn : l.length = n) (hS : Sl w A (tcells l) p) (hb : n ≤ 65536) (hr : ∀ t ∈ l, right t = true) (hl : LitB l) (ha : Lens15 lit) (hd : Lens15 dist) (m : Int) (hm : m = tokN lit dist l) :
    Calls Tryz.prog 29 #[.slice X nx cx, .slice Y ny cy, .slice A n c] w fun e w' => e = .returned (.int .i64 m) ∧ Fr w w' [] := by
  subst hn
  have hxn : lit.length = nx := by have := hX.len; simpa [i64s] using this
  have hyn : dist.length = ny := by have := hY.len; simpa [i64s] using this
  have HS := Hd.mk hS
  have HX := Hd.mk hX
  have HY := Hd.mk hY
  have HM := Hd.mk hm
  have HC := Hd.mk hcx
  have HA := Hd.mk (And.intro ha hd)
  have HR := Hd.mk (And.intro hr hl)
  clear hS hX hY hm ha hd hr hl hcx
  obtain ⟨bx, ox, rfl, _, _⟩ := HX.out.sl (by rw [i64s_length]; omega)
  obtain ⟨by_, oy, rfl, _, _⟩ := HY.out.sl (by rw [i64s_length]; omega)
  obtain ⟨z, hz⟩ : ∃ z, z = lit.getD 256 0 := ⟨_, rfl⟩
  have hzb : 0 ≤ z ∧ z ≤ 15 := by rw [hz]; exact lens15_get HA.out.1 256
  have HZ := Hd.mk hz
  clear hz
  go_enter Tryz.func29, Tryz.ntmps29
  go_wp2_with (fail)
  refine (Code.rchk_any w _ nx cx lit px HX.out 0 HC.out.symm).mono ?_
  rintro r w1 ⟨rfl, rfl⟩
  have F1 : Hd (Fr w w []) := ⟨Fr.refl _ _⟩
  have k0 := i64_getD HX.out.sl (i := 256) (by omega) rfl
  rw [← HZ.out] at k0
  go_wp2
  go_loopg [7, 36] l.length (fun kq sv jv wr => ∃ (j : Nat) (m : Int), sv = .int .i64 m ∧ jv = .int .i64 (j : Nat) ∧ j + kq = l.length ∧ Hd (m = z + tksF lit dist (l.take j)) ∧ Hd (Fr w wr []))
  case atStart => exact ⟨0, z, rfl, rfl, by omega, ⟨by simp [tksF]⟩, F1⟩
  case round =>
    obtain ⟨j, s, rfl, rfl, hj, HM2, HF⟩ := hrel
    by_cases h1 : j < l.length
    · obtain ⟨a, o1, rfl, _, hcc⟩ := Sl.row (enc := tcell) (sz := 3) (fun _ => rfl) (HS.out.frame HF.out (by simp)) h1 (by decide)
      obtain ⟨t, ht⟩ : ∃ t, t = l[j] := ⟨_, rfl⟩
      rw [← ht] at hcc
      have c0 := hcc 0 (by decide)
      have c1 := hcc 1 (by decide)
      have c2 := hcc 2 (by decide)
      simp only [tcell, List.getElem?_cons_zero, List.getElem?_cons_succ, Nat.add_zero] at c0 c1 c2
      have htm : t ∈ l := by rw [ht]; exact List.getElem_mem h1
      have hrt := HR.out.1 t htm
      have hlt := HR.out.2 t htm
      have HT : Hd (tksF lit dist (l.take (j + 1)) = tksF lit dist (l.take j) + tkN lit dist t) := ⟨by rw [tksF_take h1, ht]⟩
      have hsb : 0 ≤ s ∧ s ≤ 15 + 30 * 65536 := by
        have := tksF_le HA.out.1 HA.out.2 (l.take j)
        rw [List.length_take] at this
        have := HM2.out
        omega
      have sa := (sgA_fit hrt hlt).1.sym
      have sb := (sgB_fit hrt).sym
      have HTN : Hd (tkN lit dist t = lit.getD (sgA t).1.toNat 0 + if t.len = 0 then 0 else dist.getD (sgB t).1.toNat 0) := ⟨rfl⟩
      have hkx := lens15_get HA.out.1 (sgA t).1.toNat
      have hky := lens15_get HA.out.2 (sgB t).1.toNat
      by_cases hlen : t.len = 0
      · have hsa : (sgA t).1 = t.lit := by unfold sgA; rw [if_pos hlen]
        rw [hsa] at sa hkx HTN
        rw [if_pos hlen, Int.add_zero] at HTN
        obtain ⟨lt, ln, ld⟩ := t
        simp only at hlen hlt sa hkx HTN
        subst hlen
        obtain ⟨lt, rfl⟩ := Int.eq_ofNat_of_zero_le hlt.1
        rw [Int.toNat_natCast] at hkx HTN
        have kx := fun (w' : World) (hf : Fr w w' []) => i64_getD (HX.out.sl.frame hf (by simp)) (i := lt) (by omega) rfl
        have kx1 := kx _ (HF.out.alloc (.cells #[.int .u8 ((lt : Nat) : Int), .int .i64 0, .int .i64 ld] 86))
        generalize lit.getD lt 0 = x at *
        have hlt2 : (lt : Int) ≤ 255 := hlt.2
        clear hcc ht sa sb kx
        go_wp2
        go_roundg (gk - 1)
        case measure => omega
        case rel => exact ⟨j + 1, _, rfl, by go_num, by omega, ⟨by rw [HT.out, HM2.out, HTN.out]; omega⟩, ⟨HF.out.alloc _⟩⟩
      · have hla : (sgA t).1 = (symN lenT 257 3 258 t.len).1 := by unfold sgA; rw [if_neg hlen]
        have hlb : (sgB t).1 = (symN distT 0 1 32768 t.dist).1 := by unfold sgB; rw [if_neg hlen]
        rw [if_neg hlen] at HTN
        have hle : (t.len == 0) = false := by simpa using hlen
        obtain ⟨⟨s1, s2, s3, s4⟩, hs⟩ : ∃ x, x = symN lenT 257 3 258 t.len := ⟨_, rfl⟩
        obtain ⟨⟨u1, u2, u3, u4⟩, hu⟩ : ∃ x, x = symN distT 0 1 32768 t.dist := ⟨_, rfl⟩
        rw [hla, ← hs] at sa hkx HTN
        rw [hlb, ← hu] at sb hky HTN
        have sa1 := sa
        have sb1 := sb
        simp only at sa1 sb1 hkx hky HTN
        have HS1 := Hd.mk hs
        have HU1 := Hd.mk hu
        obtain ⟨s1, rfl⟩ := Int.eq_ofNat_of_zero_le sa1.1
        obtain ⟨u1, rfl⟩ := Int.eq_ofNat_of_zero_le sb1.1
        rw [Int.toNat_natCast] at hkx hky
        rw [Int.toNat_natCast, Int.toNat_natCast] at HTN
        have kx := fun (w' : World) (hf : Fr w w' []) => i64_getD (HX.out.sl.frame hf (by simp)) (i := s1) (by omega) rfl
        have ky := fun (w' : World) (hf : Fr w w' []) => i64_getD (HY.out.sl.frame hf (by simp)) (i := u1) (by omega) rfl
        generalize lit.getD s1 0 = x at *
        generalize dist.getD u1 0 = y at *
        clear hcc ht sa sb hla hlb hs hu
        go_wp2_with (fail)
        have bz := blk_new wr (.cells #[.int .u8 t.lit, .int .i64 t.len, .int .i64 t.dist] 86)
        refine (rlenSymbol_any _ t.len).mono ?_
        rintro r w3 ⟨rfl, h3⟩
        rw [← HS1.out]
        have F3 := Hd.mk ((HF.out.alloc _).trans h3 (by simp))
        have BZ := Hd.mk (h3.blk bz (by simp))
        clear h3 bz
        have d2 := blk_cell BZ.out 2
        simp only [List.getElem?_toArray, List.getElem?_cons_zero, List.getElem?_cons_succ] at d2
        go_wp2_with (fail)
        refine (rdistSymbol_any w3 t.dist).mono ?_
        rintro r w4 ⟨rfl, h3⟩
        rw [← HU1.out]
        have F4 := Hd.mk (F3.out.trans h3 (by simp))
        have kx1 := kx w4 F4.out
        have ky1 := ky w4 F4.out
        have hs1 : (s1 : Int) < (nx : Nat) := by omega
        have hu1 : (u1 : Int) < (ny : Nat) := by omega
        clear h3 kx ky F3 BZ d2
        simp only
        go_upto_region 11 with (fail)
        go_region
        go_wp2
        go_roundg (gk - 1)
        case measure => omega
        case rel => exact ⟨j + 1, _, rfl, by go_num, by omega, ⟨by rw [HT.out, HM2.out, HTN.out]; omega⟩, ⟨F4.out.drew⟩⟩
    · obtain rfl : j = l.length := by omega
      have hm2 : Hd (m = s) := ⟨by rw [HM.out, HM2.out, List.take_length, HZ.out]; rfl⟩
      obtain rfl := hm2.out
      go_wp2
      go_ret
      exact ⟨rfl, HF.out⟩
end Go.Proofs.YtlfckpmdmkccjaaGreat.Blk
/- Tokens in the program's type, in a longer list (the laws' face). Conditions: at most 2^20 tokens. -/
set_option linter.unusedVariables false
set_option linter.unusedSimpArgs false
set_option maxRecDepth 100000
namespace Go.Proofs.YtlfckpmdmkccjaaGreat.Lz
open Go.RowKit Go.Proofs.YtlfckpmdmkccjaaGreat.Lib Go.Proofs.YtlfckpmdmkccjaaGreat.Num Go.Proofs.YtlfckpmdmkccjaaGreat.Bits

theorem infoTok : (Tryz.prog.info? 84).map (fun i => (i.zero, i.size, i.bytes)) = some (some (.agg #[.int .u8 0, .int .i64 0, .int .i64 0]), 3, 24) := by kernel_rfl
theorem tokOwn_new {wo w : World} {q q' : Option Nat} (hB : ∀ x, q = some x → wo.heap.size ≤ x) (hs : wo.heap.size ≤ w.heap.size) {o : Obj} (h : Aft (w.alloc o) q q') : ∀ y, q' = some y → wo.heap.size ≤ y := by
  intro y hy
  rcases h with e | ⟨z, e, hz⟩
  · rw [e] at hy; exact hB y hy
  · rw [e] at hy; cases hy; simp at hz; omega
instance : DecidableEq Tok := fun a b =>
  if h : a.lit = b.lit ∧ a.len = b.len ∧ a.dist = b.dist then isTrue (by cases a; cases b; simp only at h; obtain ⟨rfl, rfl, rfl⟩ := h; rfl) else isFalse (by rintro rfl; exact h ⟨rfl, rfl, rfl⟩)
def tail2 : List Tok := [⟨0, 77, 0⟩, ⟨0, 78, 0⟩]
set_option maxHeartbeats 4000000 in
theorem face_any (w : World) (A : Option Addr) (n c : Nat) (l : List Tok) (p : Option Nat) (hn : l.length = n) (hS : Sl w A (tcells l) p) (hb : n ≤ 1048576) :
    Calls Tryz.prog 12 #[.slice A n c] w fun e w' => ∃ g d, e = .returned (.tuple #[.slice (some ⟨g, 0, none⟩) (n + 2) d, .slice (some ⟨g, 0, none⟩) n d]) ∧
      w'.ownsRow 0 84 3 (.slice (some ⟨g, 0, none⟩) (n + 2) d) (n + 2) (tcells (l ++ tail2)) ∧ w.heap.size ≤ g ∧ Fr w w' [] := by
  obtain ⟨i0, hi0, hz0, hz1, hz2⟩ := info_parts infoTok
  subst hn
  have HS := Hd.mk hS
  clear hS
  go_enter Tryz.func12, Tryz.ntmps12
  go_wp2
  go_loopg [4, 9] l.length (fun kq sv jv wr => ∃ (j : Nat) (A1 : Option Addr) (m d1 : Nat), sv = .slice A1 m d1 ∧ jv = .int .i64 (j : Nat) ∧ j + kq = l.length ∧ m ≤ l.length ∧ Hd (m = j) ∧ Hd (wr.ownsRow 0 84 3 (.slice A1 m d1) m (tcells (l.take j))) ∧ Hd (∀ y, (Value.slice A1 m d1).ownBlock = some y → w.heap.size ≤ y) ∧ Hd (Fr w wr []))
  case atStart => exact ⟨0, none, 0, 0, rfl, rfl, by omega, by omega, ⟨rfl⟩, ⟨own_nil _ _ _ _⟩, ⟨by intro y hy; cases hy⟩, ⟨Fr.refl _ _⟩⟩
  case round =>
    obtain ⟨j, A1, m, d1, rfl, rfl, hj, hmj, HM, HO, HB, HF⟩ := hrel
    by_cases h1 : j < l.length
    · obtain ⟨a, o1, rfl, _, ha⟩ := Sl.row (enc := tcell) (sz := 3) (fun _ => rfl) (HS.out.frame HF.out (by simp)) h1 (by decide)
      obtain ⟨t, ht⟩ : ∃ t, t = l[j] := ⟨_, rfl⟩
      rw [← ht] at ha
      obtain ⟨lt, ln, ds⟩ := t
      have c0 := ha 0 (by decide)
      have c1 := ha 1 (by decide)
      have c2 := ha 2 (by decide)
      simp only [tcell, List.getElem?_cons_zero, List.getElem?_cons_succ, Nat.add_zero] at c0 c1 c2
      have HT := Hd.mk ht
      have hm2 : m + 1 ≤ l.length := by have := HM.out; omega
      have hks := blk_new wr (.cells #[.int .u8 lt, .int .i64 ln, .int .i64 ds] 86)
      have hfs := HF.out.alloc (.cells #[.int .u8 lt, .int .i64 ln, .int .i64 ds] 86)
      have hos := HO.out.alloc (.cells #[.int .u8 lt, .int .i64 ln, .int .i64 ds] 86)
      clear ha ht HO
      go_upto_region 5 with (fail)
      generalize hwt : wr.alloc (.cells #[.int .u8 lt, .int .i64 ln, .int .i64 ds] 86) = wt
      rw [hwt] at hks hfs hos
      have HFs := Hd.mk hfs
      have HOs := Hd.mk hos
      have g0 := blk_cell hks 0
      have g1 := blk_cell hks 1
      have g2 := blk_cell hks 2
      simp only [List.getElem?_toArray, List.getElem?_cons_zero, List.getElem?_cons_succ] at g0 g1 g2
      clear hfs hos hks c0 c1 c2 hwt
      go_wp2_with (at_builtin; refine wpList_append_sl rfl (.tmp 13) (.tmp 21) 41 rfl 84 i0 (.agg #[.int .u8 0, .int .i64 0, .int .i64 0]) 3 24 Tryz.underlying41 hi0 hz0 hz1 hz2 rfl (by decide) (.slice A1 m d1) m _ rfl (by exact HOs.out.alloc _) (some ⟨wt.heap.size, 0, none⟩) 1 1 [.int .u8 lt, .int .i64 ln, .int .i64 ds] (some wt.heap.size) rfl rfl (by exact sl_of_blk (blk_new _ _)) (by intro h; cases h) (by intro u hu; simp at hu; rcases hu with rfl | rfl | rfl <;> rfl) (by unfold maxLen; omega) (by omega) ?_; intro A3 d3 w6 hown' hgrow haft; have O3 := Hd.mk hown'; have G3 := Hd.mk hgrow; have F3 := Hd.mk haft; clear hown' hgrow haft)
      go_roundg (gk - 1)
      case measure => omega
      case rel =>
        refine ⟨j + 1, A3, m + 1, d3, rfl, by go_num, by omega, hm2, ⟨by rw [HM.out]⟩, ⟨?_⟩, ⟨tokOwn_new HB.out HFs.out.size F3.out⟩, ⟨(HFs.out.alloc _).grown G3.out (fun y hy => .inr (HB.out y hy))⟩⟩
        rw [List.take_succ_eq_append_getElem h1, ← HT.out, tcells_app]
        exact O3.out
    · obtain rfl : j = l.length := by omega
      obtain rfl : m = l.length := HM.out
      have HO2 : Hd (wr.ownsRow 0 84 3 (.slice A1 l.length d1) l.length (tcells l)) := ⟨by have := HO.out; rwa [List.take_length] at this⟩
      clear HO
      go_wp2_with (at_builtin; refine wpList_append_sl rfl (.tmp 24) (.tmp 27) 41 rfl 84 i0 (.agg #[.int .u8 0, .int .i64 0, .int .i64 0]) 3 24 Tryz.underlying41 hi0 hz0 hz1 hz2 rfl (by decide) (.slice A1 l.length d1) l.length _ rfl (by exact HO2.out.alloc _) (some ⟨wr.heap.size, 0, none⟩) 2 2 [.int .u8 0, .int .i64 77, .int .i64 0, .int .u8 0, .int .i64 78, .int .i64 0] (some wr.heap.size) rfl rfl (by exact sl_of_blk (blk_new _ _)) (by intro h; cases h) (by intro u hu; simp at hu; rcases hu with rfl | rfl | rfl | rfl | rfl | rfl <;> rfl) (by unfold maxLen; omega) (by omega) ?_; intro A3 d3 w6 hown' hgrow haft; have O3 := Hd.mk hown'; have G3 := Hd.mk hgrow; have F3 := Hd.mk haft; have hd3 : l.length + 2 ≤ d3 := (by obtain ⟨_, _, e, hh, _⟩ := own_slice hown'; cases e; exact hh); obtain ⟨g3, d3', e3, _⟩ := own_some hown' (by omega); injection e3 with e3 _ e4; subst e3 e4; clear hown' hgrow haft)
      go_region
      go_wp2
      go_ret2
      have hB3 := tokOwn_new HB.out HF.out.size F3.out
      exact ⟨g3, d3, rfl, by rw [tcells_app]; exact O3.out, hB3 g3 rfl, ((HF.out.alloc _).grown G3.out (fun y hy => .inr (HB.out y hy))).drew⟩
end Go.Proofs.YtlfckpmdmkccjaaGreat.Lz
/- BlockTrue's walk. Conditions: at most 2^20 tokens. -/
set_option linter.unusedVariables false
set_option linter.unusedSimpArgs false
set_option maxRecDepth 100000
namespace Go.Proofs.YtlfckpmdmkccjaaGreat.Blk
open Go.RowKit Go.Proofs.YtlfckpmdmkccjaaGreat.Lib Go.Proofs.YtlfckpmdmkccjaaGreat.Ints Go.Proofs.YtlfckpmdmkccjaaGreat.Lz Go.Proofs.YtlfckpmdmkccjaaGreat.Num Go.Proofs.YtlfckpmdmkccjaaGreat.Bits
theorem face_part {w : World} {g n d : Nat} {l : List Tok} (hn : l.length = n) (h : w.ownsRow 0 84 3 (.slice (some ⟨g, 0, none⟩) (n + 2) d) (n + 2) (tcells (l ++ tail2))) : Sl w (some ⟨g, 0, none⟩) (tcells l) (some g) := by
  intro hx
  rcases h.2 with ⟨h', _⟩ | ⟨g', cap, cur, h', hb, hh, hnc, hcm, hcs, ht⟩
  · cases h'
  · injection h' with h1 _ _
    injection h1 with h1
    injection h1 with h1
    subst h1
    refine ⟨g, 0, rfl, rfl, fun j hj => ?_⟩
    rw [tcells_len] at hj
    have h2 : (tcells (l ++ tail2))[j]? = (tcells l)[j]? := by rw [tcells_app, List.getElem?_append_left (by rw [tcells_len]; exact hj)]
    rw [Nat.zero_add, blk_cell hh, ← h2, ← ht, List.getElem?_take, if_pos (by omega)]
    simp
theorem zeros_u8 (s : Nat) : (madeCells (Value.int .u8 0).cells (s * 1)).toList = u8s (List.replicate s 0) := by
  rw [show (Value.int .u8 0).cells = #[Value.int .u8 0] from rfl, toList_madeCells_one (Value.int .u8 0) (s * 1), Nat.mul_one]
  simp [u8s]
theorem tmod8 (x : Int) : ∃ y : Int, Int.tmod x 8 = y ∧ -7 ≤ y ∧ y ≤ 7 := ⟨_, rfl, by have := Int.tmod_lt_of_pos x (show (0 : Int) < 8 by decide); have := Int.lt_tmod_of_pos x (show (0 : Int) < 8 by decide); omega, by have := Int.tmod_lt_of_pos x (show (0 : Int) < 8 by decide); omega⟩
theorem costK_err (k : Nat) (bh : Int) (l : List Tok) : (costK k bh l).2 = if k = 0 ∧ 65535 < Lz.sizeOf l then 90 else 0 := by
  unfold costK
  by_cases h0 : k = 0
  · rw [if_pos h0]
    by_cases hb : 65535 < Lz.sizeOf l
    · rw [if_pos hb, if_pos ⟨h0, hb⟩]
    · rw [if_neg hb, if_neg (fun h => hb h.2)]
  · rw [if_neg h0]
    have e : ¬ (k = 0 ∧ 65535 < Lz.sizeOf l) := fun h => h0 h.1
    rw [if_neg e]
    by_cases h1 : k = 1
    · rw [if_pos h1]
    · rw [if_neg h1]
set_option maxHeartbeats 16000000 in
theorem true_walk (behind : Int) (A : Option Addr) (n c : Nat) (l : List Tok) (p : Option Nat) (W : World) (hn : l.length = n) (hS : Sl W A (tcells l) p) (hb : n ≤ 1048576) (hl : LitB l) :
    Calls Tryz.prog 5 #[.int .i64 behind, .slice A n c] W fun e w' => e = .returned (.bool true) ∧ Below W.heap.size W w' := by
  obtain ⟨i0, hi0, hz0, hz1, hz2⟩ := info_parts infoU8
  have HS := Hd.mk hS
  have HL := Hd.mk hl
  clear hS hl
  obtain ⟨x, hx, hx0, hx7⟩ := tmod8 behind
  go_enter Tryz.func5, Tryz.ntmps5
  go_upto_if 26 with (fail)
  clear hx
  go_cut [0] from 27 to 28 (fun s wc => ∃ b : Nat, s = .int .i64 (b : Nat) ∧ b ≤ 7 ∧ W = wc)
  case first =>
    by_cases h : x < 0
    · go_wp2
      go_meet
      case rel => exact ⟨(-x).toNat, by congr 1; omega, by omega, rfl⟩
    · go_wp2
      go_meet
      case rel => exact ⟨x.toNat, by congr 1; omega, by omega, rfl⟩
  case rest =>
    obtain ⟨b, rfl, hb7, rfl⟩ := hcut
    clear hx0 hx7
    go_wp2_with (fail)
    refine (face_any _ A n c l p hn HS.out hb).mono ?_
    rintro e w1 ⟨g, d, rfl, h1, h2, h3⟩
    have P1 := Hd.mk (face_part hn h1)
    have F1 := Hd.mk h3
    have G1 := Hd.mk h2
    have P1lt := Hd.mk (own_lt h1 (k := g) rfl)
    clear h1 h2 h3
    go_wp2_with (fail)
    refine (rsize_any w1 A n c l p hn (HS.out.frame F1.out (by simp)) (by omega)).mono ?_
    rintro e w2 ⟨rfl, h2⟩
    have F2 := Hd.mk (F1.out.trans h2 (by simp))
    have P2 := Hd.mk (P1.out.frame h2 (by simp))
    have P3lt : Hd (g < w2.heap.size) := ⟨Nat.lt_of_lt_of_le P1lt.out h2.size⟩
    clear h2 F1 P1 P1lt
    have hsz := Lz.sizeOf_le l
    obtain ⟨s, hs⟩ : ∃ s, s = Lz.sizeOf l := ⟨_, rfl⟩
    have hsb : s ≤ 270532608 := by omega
    have HSZ := Hd.mk hs
    rw [← hs]
    clear hs hsz
    go_upto_region 6 with (refine wpList_make_full _ rfl _ _ 23 rfl 0 5 i0 (.int .u8 0) 1 Tryz.underlying23 hi0 hz0 hz1 .i64 .i64 _ _ s rfl rfl rfl rfl (by rw [hz2]; omega) (by unfold maxLen; omega) (Nat.zero_le _) ?_; intro w3 hown1 hgrow1; rw [zeros_u8] at hown1; have O3 := Hd.mk hown1; have F3 : Hd (Fr W w3 []) := ⟨F2.out.grown hgrow1 (fun k hk => by simp at hk)⟩; have P3 := Hd.mk (P2.out.frame ((Fr.refl w2 []).grown hgrow1 (fun k hk => by simp at hk)) (by simp)); clear hown1 hgrow1)
    obtain ⟨gd, hgd⟩ : ∃ gd, gd = w2.heap.size := ⟨_, rfl⟩
    rw [← hgd] at O3 P3lt ⊢
    clear hgd F2 P2
    have D3 := Hd.mk (sl_of_own O3.out)
    have hpg : Hd (∀ k, p = some k → True) := ⟨fun _ _ => trivial⟩
    have LT3 : Hd (g < w3.heap.size ∧ gd < w3.heap.size) := ⟨by
      constructor
      · have := own_lt O3.out (k := gd) rfl
        have := P3lt.out
        omega
      · exact own_lt O3.out rfl⟩
    clear hpg
    obtain ⟨e, he⟩ : ∃ e, e = mayB l := ⟨_, rfl⟩
    have HE := Hd.mk he
    clear he
    go_wp2_with (fail)
    obtain ⟨k0, hk0⟩ : ∃ k0, k0 = (pickF (b : Int) l 3).1 := ⟨_, rfl⟩
    refine (pick_any w3 (b : Int) (by omega) (by omega) (some ⟨g, 0, none⟩) n d l (some g) hn P3.out (by omega) HL.out (if e = 0 then k0 else 0) e (by
      rw [← HE.out]
      split
      · rename_i h; exact ⟨hk0, h⟩
      · rename_i h; exact ⟨rfl, rfl⟩)).mono ?_
    rintro r w4 ⟨rfl, h4⟩
    have f4 := Hd.mk h4
    have F4 := Hd.mk (F3.out.trans h4 (by simp))
    clear h4
    by_cases h0 : e = 0
    · subst h0
      have hz := mayB_zero HE.out.symm
      have HZ := Hd.mk hz.2
      have hz1' := hz.1
      rw [if_pos rfl]
      have hbest := pickF_best (bh := (b : Int)) (by omega) (by omega) HE.out.symm HL.out 3 (by omega)
      have hp1 := hbest.1 1 (by omega) rfl
      obtain ⟨j0, hj0, hj1, hj2, hj3⟩ := hbest.2 hp1.1
      have HBT := Hd.mk hbest.1
      obtain ⟨ls, hls⟩ : ∃ ls, ls = (pickF (b : Int) l 3).2 := ⟨_, rfl⟩
      have HLS : Hd (ls = (costK j0 (b : Int) l).1 ∧ 0 = (costK j0 (b : Int) l).2) := ⟨by rw [hls, hj3], hj2.symm⟩
      have HBT2 : Hd (∀ j, j < 3 → (costK j (b : Int) l).2 = 0 → ls ≤ (costK j (b : Int) l).1) := ⟨fun j hj he => by rw [hls]; exact (hbest.1 j hj he).2⟩
      have hlsb := costK_le (bh := (b : Int)) (by omega) (by omega) HE.out.symm HL.out j0
      rw [← HLS.out.1] at hlsb
      obtain rfl : k0 = (j0 : Int) := hk0.trans hj1
      clear hbest hp1 hj1 hj2 hj3 hk0 hls hz
      go_wp2_with (fail)
      refine (cost3_any w4 j0 hj0 (b : Int) (by omega) (by omega) (some ⟨g, 0, none⟩) n d l (some g) hn (P3.out.frame f4.out (by simp)) (by omega) HL.out ls 0 (by rw [← HE.out, if_pos rfl]; exact HLS.out)).mono ?_
      rintro r w5 ⟨rfl, h5⟩
      have f5 : Hd (Fr w3 w5 []) := ⟨f4.out.trans h5 (by simp)⟩
      clear h5 f4
      go_wp2
      go_loopg [14] 3 (fun kq jv wr => ∃ j : Nat, jv = .int .i64 (j : Nat) ∧ j + kq = 3 ∧ Hd (Fr w3 wr []))
      case atStart => exact ⟨0, rfl, by omega, f5⟩
      case round =>
        obtain ⟨j, rfl, hj, HF⟩ := hrel
        by_cases hj3 : j < 3
        · obtain ⟨cm, hcm⟩ : ∃ cm, cm = (costK j (b : Int) l).1 := ⟨_, rfl⟩
          obtain ⟨ce, hce⟩ : ∃ ce, ce = (costK j (b : Int) l).2 := ⟨_, rfl⟩
          have HCM := Hd.mk (And.intro hcm hce)
          have hcl := costK_le (bh := (b : Int)) (by omega) (by omega) HE.out.symm HL.out j
          rw [← hcm, ← hce] at hcl
          have hle := HBT2.out j hj3
          rw [← hcm, ← hce] at hle
          have HST : Hd (ce = if j = 0 ∧ 65535 < s then 90 else 0) := ⟨by rw [hce, HSZ.out]; exact costK_err _ _ _⟩
          clear hcm hce
          go_wp2_with (fail)
          refine (cost3_any wr j hj3 (b : Int) (by omega) (by omega) (some ⟨g, 0, none⟩) n d l (some g) hn (P3.out.frame HF.out (by simp)) (by omega) HL.out cm ce (by rw [← HE.out, if_pos rfl]; exact HCM.out)).mono ?_
          rintro r w6 ⟨rfl, h6⟩
          have F6 := Hd.mk (HF.out.trans h6 (by simp))
          clear h6
          by_cases hbig : j = 0 ∧ 65535 < s
          · obtain ⟨rfl, hs2⟩ := hbig
            obtain rfl : ce = 90 := by rw [HST.out, if_pos ⟨rfl, hs2⟩]
            go_wp2
            go_roundg (gk - 1)
            case measure => omega
            case rel => exact ⟨0 + 1, by go_num, by omega, F6⟩
          · obtain rfl : ce = 0 := by rw [HST.out, if_neg hbig]
            have hle2 := hle rfl
            have HBIG := Hd.mk hbig
            clear hle hbig
            go_upto_region 21 with (fail)
            have T7 := Hd.mk (tl_new w6 27 (by decide))
            have F7 := Hd.mk (F6.out.alloc (.cells #[.slice none 0 0, .int .i64 0] 27))
            have hgw : w3.heap.size ≤ w6.heap.size := F6.out.size
            clear F6
            generalize w6.alloc (.cells #[.slice none 0 0, .int .i64 0] 27) = w7 at *
            generalize w6.heap.size = gw at *
            go_wp2_with (fail)
            refine (wput (gw := gw) 0 (b : Int) 0 rfl (Nat.two_pow_pos _) (by omega) (by omega) T7.out (by rw [Int.toNat_natCast]; omega)).mono ?_
            rintro r w8 ⟨rfl, q8, h8a, h8b, h8c⟩
            have T8 : Hd (Tl w8 gw 27 0 b q8) := ⟨by simpa using h8a⟩
            have F8 : Hd (Fr w3 w8 []) := ⟨F7.out.trans h8c (fun x hx hm => by simp at hm; omega)⟩
            have A8 : Hd (∀ k, q8 = some k → w3.heap.size ≤ k) := ⟨fun k hk => by have := h8b.none hk; have := F7.out.size; omega⟩
            clear h8a h8b h8c T7 F7
            have hcst := blockP_bits (k := j) (m := b) (b := false) (data := List.replicate s 0) hj3 HE.out.symm HL.out (by rw [List.length_replicate]; exact HSZ.out) (by rw [Nat.mod_eq_of_lt (by omega)]; exact HCM.out.2.symm)
            rw [Nat.mod_eq_of_lt (by omega), ← HCM.out.1] at hcst
            have hlt : ¬ cm < ls := by omega
            have hnm : ∀ k, k < w3.heap.size → k ∉ gw :: q8.toList := fun k hk hm => by
              rcases List.mem_cons.1 hm with e | hm
              · omega
              · have := A8.out k (by simpa using hm)
                omega
            go_wp2_with (fail)
            have hw := write3_any w8 j hj3 false (some ⟨gd, 0, none⟩) s (List.replicate s 0) (some gd) (D3.out.frame F8.out (by simp)) (by intro h; cases h) (by intro x hx; rw [List.eq_of_mem_replicate hx]; exact ⟨by decide, by decide⟩) (by rw [List.length_replicate]; omega)
              (some ⟨g, 0, none⟩) n d l (some g) hn (P3.out.frame F8.out (by simp)) (by omega) HL.out gw 0 b q8 T8.out
              (fun k hk => by cases hk; exact ⟨hnm _ LT3.out.1, Nat.lt_of_lt_of_le LT3.out.1 F8.out.size⟩)
              (fun k hk => by cases hk; exact ⟨hnm _ LT3.out.2, Nat.lt_of_lt_of_le LT3.out.2 F8.out.size⟩)
              (by omega) 0 (by unfold wrErr; rw [if_neg (by omega), ← HE.out, if_neg (by simp), if_neg (by have := HBIG.out; have := HSZ.out; omega), if_neg (by rw [List.length_replicate, ← HSZ.out]; simp)])
            rw [List.length_replicate] at hw
            refine hw.mono ?_
            rintro r w9 ⟨rfl, hwp⟩
            unfold WrPost at hwp
            obtain ⟨q9, h9⟩ := hwp.1 rfl
            have T9 := Hd.mk h9.tl
            have F9 : Hd (Fr w3 w9 []) := ⟨F8.out.trans h9.fr (fun x hx hm => by
              rcases List.mem_cons.1 hm with e | hm
              · omega
              · have := A8.out x (by simpa using hm); omega)⟩
            clear hw hwp h9 F8 T8
            generalize totOf (blockP j b false (List.replicate s 0) l) = tp at *
            generalize 0 + numOf (blockP j b false (List.replicate s 0) l) * 2 ^ b = nn at *
            obtain rfl : cm = (tp : Int) := hcst.symm
            clear hcst
            have hne1 : ((b : Int) + (tp : Int) != (b : Int) + (tp : Int)) = false := by simp
            go_wp2_with (fail)
            refine (len_any _ T9.out).mono ?_
            rintro r w' ⟨rfl, rfl⟩
            go_wp2
            go_roundg (gk - 1)
            case measure => omega
            case rel => exact ⟨j + 1, by go_num, by omega, F9⟩
        · obtain rfl : j = 3 := by omega
          clear f5
          go_wp2_with (fail)
          refine (ownLens_any wr (some ⟨g, 0, none⟩) n d l (some g) hn (P3.out.frame HF.out (by simp)) (by omega) HL.out).mono ?_
          rintro r w6 hpo
          unfold OwnPost at hpo
          obtain ⟨A1, c1, B1, d1, rfl, h1, h2, _, _, h3⟩ := hpo.1 HE.out.symm
          have O6 := Hd.mk h1
          have O7 := Hd.mk h2
          have F6 := Hd.mk (HF.out.trans h3 (by simp))
          clear h1 h2 h3 hpo
          go_wp2_with (fail)
          refine (plainLens_any w6).mono ?_
          rintro r w7 hpp
          unfold PlPost at hpp
          obtain ⟨ga, gb, rfl, h1, h2, _, _, _, h3⟩ := hpp
          have X7 := Hd.mk (slArg_own h1)
          have Y7 := Hd.mk (slArg_own h2)
          have A7 := Hd.mk (slArg_own (own_frame O6.out h3 (by simp)))
          have B7 := Hd.mk (slArg_own (own_frame O7.out h3 (by simp)))
          have F7 := Hd.mk (F3.out.trans (F6.out.trans h3 (by simp)) (by simp))
          clear h1 h2 h3 O6 O7
          obtain ⟨t1, ht1⟩ : ∃ t1, t1 = tokN (ownLit l) (ownDist l) l := ⟨_, rfl⟩
          obtain ⟨t2, ht2⟩ : ∃ t2, t2 = tokN plainLit plainDist l := ⟨_, rfl⟩
          have htt : t1 ≤ t2 := by rw [ht1, ht2]; exact own_le_plain HZ.out HL.out
          have H1 := Hd.mk ht1
          have H2 := Hd.mk ht2
          clear ht1 ht2
          go_wp2_with (fail)
          refine (tokens_any w7 A1 B1 286 c1 30 d1 (ownLit l) (ownDist l) _ _ A7.out B7.out (by omega) (by omega) (ownLit_check l) A n c l p hn (HS.out.frame F7.out (by simp)) (by omega) HZ.out HL.out (check15 (ownLit_check l)) (check15 (ownDist_check l)) t1 H1.out).mono ?_
          rintro r w8 ⟨rfl, h8⟩
          have X8 := Hd.mk (X7.out.frame h8 (by simp))
          have Y8 := Hd.mk (Y7.out.frame h8 (by simp))
          have F8 := Hd.mk (F7.out.trans h8 (by simp))
          clear h8 X7 Y7 A7 B7 F7
          go_wp2_with (fail)
          refine (tokens_any w8 _ _ 288 288 32 32 plainLit plainDist _ _ X8.out Y8.out (by omega) (by omega) plainLit_check A n c l p hn (HS.out.frame F8.out (by simp)) (by omega) HZ.out HL.out plainLit15 plainDist15 t2 H2.out).mono ?_
          rintro r w9 ⟨rfl, h9⟩
          have F9 := Hd.mk (F8.out.trans h9 (by simp))
          clear h9
          go_wp2_with (fail)
          refine (blives_any w9).mono ?_
          rintro r w10 ⟨rfl, h10⟩
          have F10 := Hd.mk (F9.out.trans h10 (by simp))
          clear h10
          go_wp2
          go_ret
          exact ⟨rfl, F10.out.below⟩
    · have hne : (e != 0) = true := by simpa using h0
      rw [if_neg h0]
      go_wp2_with (fail)
      refine (rpick_err w4 (b : Int) (by omega) (by omega) A n c l p hn (HS.out.frame F4.out (by simp)) (by omega) e HE.out h0).mono ?_
      rintro r w5 ⟨rfl, h5⟩
      have F5 := Hd.mk (F4.out.trans h5 (by simp))
      clear h5
      go_wp2
      go_ret
      exact ⟨rfl, F5.out.below⟩
theorem true_law (behind : Int) (A : Option Addr) (n c : Nat) (l : List Tok) (p : Option Nat) (W : World) (hv : (Lit.int .i64 behind).wf = true) (hn : l.length = n) (hnc : n ≤ c) (hA : A = none → n = 0 ∧ c = 0) (hS : Sl W A (tcells l) p) (hl : ∀ t ∈ l, 0 ≤ t.lit ∧ t.lit ≤ 255) (hb : n ≤ 1048576) :
    Calls Tryz.prog 5 #[.int .i64 behind, .slice A n c] W fun e w' => e = .returned (.bool true) ∧ Below W.heap.size W w' := true_walk behind A n c l p W hn hS hb hl
end Go.Proofs.YtlfckpmdmkccjaaGreat.Blk
