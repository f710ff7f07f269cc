/- Chapter 09: what tokens cost by codes. Conditions: the tokens are right, at most 65536, the lengths 0 .. 15. -/
import Derived.Test.YtlfckpmdmkccjaaBlkI
set_option linter.unusedVariables false
set_option linter.unusedSimpArgs false
set_option maxRecDepth 100000
namespace Go.Proofs.Ytlfckpmdmkccjaa.Blk
open Go.RowKit Go.Proofs.Ytlfckpmdmkccjaa.Lib Go.Proofs.Ytlfckpmdmkccjaa.Ints Go.Proofs.Ytlfckpmdmkccjaa.Lz
theorem i64_getD {w : World} {A : Option Addr} {l : List Int} {q : Option Nat} (h : Sl w A (i64s l) q) {i : Nat} (hi : i < l.length) {b off : Nat} (hA : A = some ⟨b, off, none⟩) : w.cell? ⟨b, off + i, none⟩ = some (.int .i64 (l.getD i 0)) := by
  obtain ⟨b', off', h1, _, hc⟩ := h (by rw [i64s_length]; omega)
  rw [hA] at h1
  cases h1
  rw [hc i (by rw [i64s_length]; omega), i64s_get, List.getD_eq_getElem?_getD, List.getElem?_eq_getElem hi]
  rfl
set_option maxHeartbeats 4000000 in
theorem coded_any (w : World) (X Y : Option Addr) (nx cx ny cy : Nat) (lit dist : List Int) (px py : Option Nat) (hX : Sl w X (i64s lit) px) (hY : Sl w Y (i64s dist) py) (hx : lit.length = nx) (hy : dist.length = ny) (hx2 : 286 ≤ nx) (hy2 : 30 ≤ ny)
    (A : Option Addr) (n c : Nat) (l : List Tok) (p : Option Nat) (hn : l.length = n) (hS : Sl w A (tcells l) p) (hb : n ≤ 65536) (hr : ∀ t ∈ l, right t = true) (hl : LitB l) (ha : Lens15 lit) (hd : Lens15 dist) (m : Int) (hm : m = codedN lit dist l) :
    Calls Try.prog 65 #[.slice X nx cx, .slice Y ny cy, .slice A n c] w fun e w' => e = .returned (.int .i64 m) ∧ Fr w w' [] := by
  subst hn
  have HS := Hd.mk hS
  have HX := Hd.mk hX
  have HY := Hd.mk hY
  have HM := Hd.mk hm
  have HA := Hd.mk (And.intro ha hd)
  have HR := Hd.mk (And.intro hr hl)
  clear hS hX hY hm ha hd hr hl
  obtain ⟨bx, ox, rfl, _, _⟩ := HX.out (by rw [i64s_length]; omega)
  obtain ⟨by_, oy, rfl, _, _⟩ := HY.out (by rw [i64s_length]; omega)
  have k0 := i64_getD HX.out (i := 256) (by omega) rfl
  obtain ⟨z, hz⟩ : ∃ z, z = lit.getD 256 0 := ⟨_, rfl⟩
  rw [← hz] at k0
  have hzb : 0 ≤ z ∧ z ≤ 15 := by rw [hz]; exact lens15_get HA.out.1 256
  have HZ := Hd.mk hz
  clear hz
  go_enter Try.func65, Try.ntmps65
  go_wp2
  go_loopg [7, 18] l.length (fun kq sv jv wr => ∃ (j : Nat) (m : Int), sv = .int .i64 m ∧ jv = .int .i64 (j : Nat) ∧ j + kq = l.length ∧ Hd (m = z + codedF lit dist (l.take j)) ∧ Hd (Fr w wr []))
  case atStart => exact ⟨0, z, rfl, rfl, by omega, ⟨by simp [codedF]⟩, ⟨Fr.refl _ _⟩⟩
  case round =>
    obtain ⟨j, s, rfl, rfl, hj, HM2, HF⟩ := hrel
    by_cases h1 : j < l.length
    · obtain ⟨a, o1, rfl, _, hcc⟩ := Sl.row (enc := tcell) (sz := 3) (fun _ => rfl) (HS.out.frame HF.out (by simp)) h1 (by decide)
      obtain ⟨t, ht⟩ : ∃ t, t = l[j] := ⟨_, rfl⟩
      rw [← ht] at hcc
      have c0 := hcc 0 (by decide)
      have c1 := hcc 1 (by decide)
      have c2 := hcc 2 (by decide)
      simp only [tcell, List.getElem?_cons_zero, List.getElem?_cons_succ, Nat.add_zero] at c0 c1 c2
      have htm : t ∈ l := by rw [ht]; exact List.getElem_mem h1
      have hrt := HR.out.1 t htm
      have hlt := HR.out.2 t htm
      have HT : Hd (codedF lit dist (l.take (j + 1)) = codedF lit dist (l.take j) + tkBits lit dist t) := ⟨by rw [codedF_take h1, ht]⟩
      have hsb : 0 ≤ s ∧ s ≤ 15 + 48 * 65536 := by
        have := codedF_le HA.out.1 HA.out.2 (l.take j) (fun u hu => HR.out.1 u (List.mem_of_mem_take hu)) (fun u hu => HR.out.2 u (List.mem_of_mem_take hu))
        rw [List.length_take] at this
        have := HM2.out
        omega
      have sa := (sgA_fit hrt hlt).1
      have sb := sgB_fit hrt
      have hlen : Hd (tkBits lit dist t = lit.getD (sgA t).1.toNat 0 + (sgA t).2.2 + if t.len = 0 then 0 else dist.getD (sgB t).1.toNat 0 + (sgB t).2.2) := ⟨rfl⟩
      clear hcc ht htm
      go_wp2_with (fail)
      refine (signs_any _ t hlt).mono ?_
      rintro e w2 ⟨rfl, h2⟩
      have F2 := Hd.mk ((HF.out.alloc _).trans h2 (by simp))
      clear h2
      obtain ⟨⟨sx, vx, bxx⟩, hsa⟩ : ∃ x, x = sgA t := ⟨_, rfl⟩
      obtain ⟨⟨sy, vy, byy⟩, hsb2⟩ : ∃ x, x = sgB t := ⟨_, rfl⟩
      rw [← hsa] at sa hlen ⊢
      rw [← hsb2] at sb hlen ⊢
      obtain ⟨⟨a1, a2⟩, ⟨a3, a4⟩, a5, a6⟩ := sa
      obtain ⟨⟨b1, b2⟩, ⟨b3, b4⟩, b5, b6⟩ := sb
      clear hsa hsb2
      simp only at a1 a2 a3 a4 b1 b2 b3 b4 hlen
      obtain ⟨sx, rfl⟩ := Int.eq_ofNat_of_zero_le a1
      obtain ⟨sy, rfl⟩ := Int.eq_ofNat_of_zero_le b1
      have hkx := lens15_get HA.out.1 sx
      have hky := lens15_get HA.out.2 sy
      have kx := fun (w' : World) (hf : Fr w w' []) => i64_getD (HX.out.frame hf (by simp)) (i := sx) (by omega) rfl
      have ky := fun (w' : World) (hf : Fr w w' []) => i64_getD (HY.out.frame hf (by simp)) (i := sy) (by omega) rfl
      rw [Int.toNat_natCast, Int.toNat_natCast] at hlen
      generalize lit.getD sx 0 = x at *
      generalize dist.getD sy 0 = y at *
      clear a5 a6 b5 b6
      simp only [sgV]
      obtain ⟨mt, hmt⟩ : ∃ m, m = decide (t.len ≠ 0) := ⟨_, rfl⟩
      rw [← hmt]
      have HMT := Hd.mk hmt
      clear hmt
      go_upto_region 6 with (fail)
      have B1 : Hd (((w2.alloc (.cells #[.int .i64 (sx : Nat), .int .i64 vx, .int .i64 bxx] 69)).alloc (.cells #[.int .i64 (sy : Nat), .int .i64 vy, .int .i64 byy] 69)).heap[w2.heap.size]? = some (.cells #[.int .i64 (sx : Nat), .int .i64 vx, .int .i64 bxx] 69 (0, 0))) := ⟨blk_alloc (blk_new w2 _) _⟩
      have B2 : Hd (((w2.alloc (.cells #[.int .i64 (sx : Nat), .int .i64 vx, .int .i64 bxx] 69)).alloc (.cells #[.int .i64 (sy : Nat), .int .i64 vy, .int .i64 byy] 69)).heap[w2.heap.size + 1]? = some (.cells #[.int .i64 (sy : Nat), .int .i64 vy, .int .i64 byy] 69 (0, 0))) := ⟨by simpa using blk_new (w2.alloc _) _⟩
      have F3 := Hd.mk ((F2.out.alloc (.cells #[.int .i64 (sx : Nat), .int .i64 vx, .int .i64 bxx] 69)).alloc (.cells #[.int .i64 (sy : Nat), .int .i64 vy, .int .i64 byy] 69))
      generalize (w2.alloc (.cells #[.int .i64 (sx : Nat), .int .i64 vx, .int .i64 bxx] 69)).alloc (.cells #[.int .i64 (sy : Nat), .int .i64 vy, .int .i64 byy] 69) = w3 at *
      generalize w2.heap.size = g at *
      have d0 := blk_cell B1.out 0
      have d2 := blk_cell B1.out 2
      have e0 := blk_cell B2.out 0
      have e2 := blk_cell B2.out 2
      simp only [List.getElem?_toArray, List.getElem?_cons_zero, List.getElem?_cons_succ] at d0 d2 e0 e2
      have kx1 := kx w3 F3.out
      have ky1 := ky w3 F3.out
      clear F2 B1 B2 kx ky k0
      go_region
      cases mt with
      | false =>
        have hlen0 : t.len = 0 := by have := HMT.out; simpa using this
        rw [if_pos hlen0, Int.add_zero] at hlen
        go_wp2
        go_roundg (gk - 1)
        case measure => omega
        case rel => exact ⟨j + 1, _, rfl, by go_num, by omega, ⟨by rw [HT.out, HM2.out, hlen.out]; omega⟩, ⟨F3.out.drew⟩⟩
      | true =>
        have hlen0 : ¬ t.len = 0 := by have := HMT.out; simpa using this
        rw [if_neg hlen0] at hlen
        go_wp2
        go_region
        go_wp2
        go_roundg (gk - 1)
        case measure => omega
        case rel => exact ⟨j + 1, _, rfl, by go_num, by omega, ⟨by rw [HT.out, HM2.out, hlen.out]; omega⟩, ⟨F3.out.drew.drew⟩⟩
    · obtain rfl : j = l.length := by omega
      have hm2 : Hd (m = s) := ⟨by rw [HM.out, HM2.out, List.take_length, HZ.out]; rfl⟩
      obtain rfl := hm2.out
      go_wp2
      go_ret
      exact ⟨rfl, HF.out⟩
end Go.Proofs.Ytlfckpmdmkccjaa.Blk
