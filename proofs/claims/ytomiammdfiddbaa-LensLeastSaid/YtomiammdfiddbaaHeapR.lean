/- The document's Least: the two least, again and again. Conditions: none but what memory bounds. -/
import Derived.Test.YtomiammdfiddbaaHeapD
import Derived.Deep.CutRange
import Derived.Deep.Light
set_option linter.unusedVariables false
set_option linter.unusedSimpArgs false
set_option maxRecDepth 100000
namespace Go.Proofs.Ytomiammdfiddbaa.Heap
open Go.RowKit Go.Proofs.Ytomiammdfiddbaa.Lib Go.Proofs.Ytomiammdfiddbaa.Ints Go.Proofs.Ytomiammdfiddbaa.Heaps
open Go.Proofs.Ytomiammdfiddbaa.Sorts (lst lst_len lst_get sw sw_perm)
open Go.Proofs.Ytomiammdfiddbaa.Lens (out out_false of_out cn cn_zero counts_any wrong_any)
/-- all but two -/
def rst (d : Nat → Int) (a b n : Nat) : List Int := (((List.range n).filter (fun i => i != a)).filter (fun i => i != b)).map d
theorem rst_zero (d : Nat → Int) (a b : Nat) : rst d a b 0 = [] := rfl
theorem rst_step (d : Nat → Int) (a b n : Nat) : rst d a b (n + 1) = rst d a b n ++ (if n ≠ a ∧ n ≠ b then [d n] else []) := by
  unfold rst
  rw [List.range_succ, List.filter_append, List.filter_append, List.map_append]
  congr 1
  by_cases h1 : n = a
  · rw [if_neg (by omega)]; simp [h1]
  · by_cases h2 : n = b
    · rw [if_neg (by omega)]; simp [h2]
    · rw [if_pos ⟨h1, h2⟩]; simp [h1, h2]
theorem rst_perm (d : Nat → Int) {a b n : Nat} (ha : a < n) (hb : b < n) (hab : a ≠ b) : (lst n d).Perm (d a :: d b :: rst d a b n) := by
  have n0 : (List.range n).Nodup := List.nodup_range
  have p1 := List.perm_cons_erase (l := List.range n) (a := a) (List.mem_range.2 ha)
  rw [n0.erase_eq_filter] at p1
  have n1 : ((List.range n).filter (fun i => i != a)).Nodup := n0.filter _
  have p2 := List.perm_cons_erase (l := (List.range n).filter (fun i => i != a)) (a := b) (by simp; omega)
  rw [n1.erase_eq_filter] at p2
  exact (p1.trans (List.Perm.cons a p2)).map d
theorem rst_mem {d : Nat → Int} {a b n : Nat} {x : Int} (h : x ∈ rst d a b n) : ∃ i, i < n ∧ i ≠ a ∧ i ≠ b ∧ x = d i := by
  simp only [rst, List.mem_map, List.mem_filter, List.mem_range, bne_iff_ne] at h
  obtain ⟨i, ⟨⟨h1, h2⟩, h3⟩, h4⟩ := h
  exact ⟨i, h1, h2, h3, h4.symm⟩
theorem rst_len (d : Nat → Int) {a b n : Nat} (ha : a < n) (hb : b < n) (hab : a ≠ b) : (rst d a b n).length + 2 = n := by
  have := (rst_perm d ha hb hab).length_eq
  simp [lst_len] at this
  omega
theorem rst_le (d : Nat → Int) (a b n : Nat) : (rst d a b n).length ≤ n := by
  unfold rst
  rw [List.length_map]
  refine Nat.le_trans (List.length_filter_le _ _) (Nat.le_trans (List.length_filter_le _ _) ?_)
  simp
/-- the two least of the first j -/
def Two (d : Nat → Int) (j : Nat) (a b : Int) : Prop :=
  (j = 0 ∧ a = -1 ∧ b = -1) ∨ (j = 1 ∧ a = 0 ∧ b = -1) ∨ (2 ≤ j ∧ 0 ≤ a ∧ 0 ≤ b ∧ a < j ∧ b < j ∧ a ≠ b ∧ d a.toNat ≤ d b.toNat ∧ ∀ x, x < j → (x : Int) ≠ a → (x : Int) ≠ b → d b.toNat ≤ d x)
theorem Two.lt {d : Nat → Int} {j : Nat} {a b : Int} (h : Two d j a b) (h2 : 2 ≤ j) (hlt : d j < d a.toNat) : Two d (j + 1) j a := by
  rcases h with h | h | ⟨h1, h3, h4, h5, h6, h7, h8, h9⟩
  · omega
  · omega
  · refine .inr (.inr ⟨by omega, by omega, h3, by omega, by omega, by omega, by simpa using Int.le_of_lt hlt, fun x hx n1 n2 => ?_⟩)
    by_cases e : (x : Int) = b
    · have : x = b.toNat := by omega
      rw [this]; exact h8
    · exact Int.le_trans h8 (h9 x (by omega) n2 e)
theorem Two.mid {d : Nat → Int} {j : Nat} {a b : Int} (h : Two d j a b) (h2 : 2 ≤ j) (hge : d a.toNat ≤ d j) (hlt : d j < d b.toNat) : Two d (j + 1) a j := by
  rcases h with h | h | ⟨h1, h3, h4, h5, h6, h7, h8, h9⟩
  · omega
  · omega
  · refine .inr (.inr ⟨by omega, h3, by omega, by omega, by omega, by omega, by simpa using hge, fun x hx n1 n2 => ?_⟩)
    simp only [Int.toNat_natCast]
    by_cases e : (x : Int) = b
    · have : x = b.toNat := by omega
      rw [this]; omega
    · have := h9 x (by omega) n1 e; omega
theorem Two.ge {d : Nat → Int} {j : Nat} {a b : Int} (h : Two d j a b) (h2 : 2 ≤ j) (hge : d b.toNat ≤ d j) : Two d (j + 1) a b := by
  rcases h with h | h | ⟨h1, h3, h4, h5, h6, h7, h8, h9⟩
  · omega
  · omega
  · refine .inr (.inr ⟨by omega, h3, h4, by omega, by omega, h7, h8, fun x hx n1 n2 => ?_⟩)
    by_cases e : x = j
    · rw [e]; exact hge
    · exact h9 x (by omega) n1 n2
set_option maxHeartbeats 8000000 in
theorem rleast_any (w : World) (A : Option Addr) (n c : Nat) (fs : List Int) (q : Option Nat) (hn : fs.length = n) (hS : Sl w A (i64s fs) q) (hn1 : n ≤ 4611686018427387904) :
    Calls Try.prog 17 #[.slice A n c] w (LeastPost w (leastN fs (cn fs))) := by
  subst hn
  obtain ⟨i0, hi0, hz0, hz1, hz2⟩ := info_parts infoI64
  have HS := Hd.mk hS
  clear hS
  go_enter Try.func17, Try.ntmps17
  go_wp2_with (fail)
  refine (wrong_any w A fs.length c fs q rfl HS.out hn1).mono ?_
  rintro e w1 ⟨rfl, rfl⟩
  by_cases hc : cn fs = 0
  · have hb := cn_zero hc
    have HN := Hd.mk hb.2
    have HN2 := Hd.mk hb.2
    have hl : fs.length ≤ 288 := hb.1
    have HC := Hd.mk hc
    rw [hc]
    clear hb hc
    go_wp2
    go_loopg [5, 6] fs.length (fun kq sv jv wr => ∃ (j : Nat) (B : Option Addr) (m d : Nat), jv = .int .i64 (j : Nat) ∧ sv = .slice B m d ∧ j + kq = fs.length ∧ m ≤ j ∧ Hd (wr.ownsRow 0 3 1 (.slice B m d) m (i64s (pos (fs.take j)))) ∧ Hd ((pos (fs.take j)).length = m) ∧ Hd (∀ k, (Value.slice B m d).ownBlock = some k → w.heap.size ≤ k) ∧ Hd (Fr w wr []))
    case atStart => exact ⟨0, none, 0, 0, rfl, rfl, by omega, by omega, ⟨by simpa [pos, i64s] using own_nil _ _ _ _⟩, ⟨by simp [pos]⟩, ⟨fun k hk => by simp [Value.ownBlock] at hk⟩, ⟨Fr.refl _ _⟩⟩
    case round =>
      obtain ⟨j, B, m, d, rfl, rfl, hj, hmj, HO, HM, HG, HF⟩ := hrel
      by_cases h1 : j < fs.length
      · obtain ⟨a, o1, rfl, _, ha⟩ := (HS.out.frame HF.out (by simp)) (by simp [i64s]; omega)
        obtain ⟨x, hx⟩ : ∃ x, x = fs[j] := ⟨_, rfl⟩
        have ca := (ha j (by simp [i64s]; omega)).trans (by rw [i64s_get, List.getElem?_eq_getElem (by omega), ← hx])
        have hsn := pos_snoc h1
        rw [← hx] at hsn
        have HSN := Hd.mk hsn
        have hbd := of_out HN.out h1
        rw [← hx] at hbd
        clear ha hx hsn
        by_cases h2 : 0 < x
        · have h3 : Hd (pos (fs.take (j + 1)) = pos (fs.take j) ++ [x]) := ⟨by rw [HSN.out, if_pos h2]⟩
          clear HSN
          go_wp2_with (at_builtin; refine wpList_append_sl rfl (.tmp 30) (.tmp 35) 22 rfl 3 i0 (.int .i64 0) 1 8 Try.underlying22 hi0 hz0 hz1 hz2 rfl (by decide) (.slice B m d) m _ rfl (by exact HO.out.alloc _) (some ⟨wr.heap.size, 0, none⟩) 1 1 [.int .i64 x] (some wr.heap.size) rfl rfl (by exact sl_of_blk (blk_new _ _)) (by intro h; cases h) (by intro u hu; simp at hu; subst hu; rfl) (by unfold maxLen; omega) (by omega) ?_; intro A' c' w1 hown' hgrow haft; have O1 := Hd.mk hown'; have G1 := Hd.mk hgrow; have F1 := Hd.mk haft; clear hown' hgrow haft)
          go_roundg (gk - 1)
          case measure => go_light; omega
          case rel =>
            go_light
            refine ⟨j + 1, A', m + 1, c', by go_num, rfl, by omega, by omega, ⟨by rw [h3.out, i64s_app]; exact O1.out⟩, ⟨by rw [h3.out, List.length_append, HM.out]; rfl⟩, ⟨fun k hk => ?_⟩, ⟨(HF.out.alloc _).grown G1.out (fun k hk => .inr (HG.out k hk))⟩⟩
            rcases F1.out with h | ⟨z, h, hz⟩
            · rw [h] at hk; exact HG.out k hk
            · rw [h] at hk; cases hk
              have := HF.out.size
              simp at hz
              omega
        · have h3 : Hd (pos (fs.take (j + 1)) = pos (fs.take j)) := ⟨by rw [HSN.out, if_neg h2, List.append_nil]⟩
          clear HSN
          go_wp2
          go_roundg (gk - 1)
          case measure => go_light; omega
          case rel => go_light; exact ⟨j + 1, B, m, d, by go_num, rfl, by omega, by omega, by rw [h3.out]; exact HO, by rw [h3.out]; exact HM, HG, HF⟩
      · have hfl : fs.take j = fs := List.take_of_length_le (by omega)
        rw [hfl] at HO HM
        clear hfl HN
        obtain ⟨L, hL⟩ : ∃ L, L = pos fs := ⟨_, rfl⟩
        rw [← hL] at HO HM
        have HLL := Hd.mk hL
        have hlm := HM.out
        clear hL HM
        subst hlm
        by_cases h2 : L.length = 1
        · obtain ⟨x, rfl⟩ := List.length_eq_one_iff.1 h2
          obtain ⟨g, c1, e1, _⟩ := own_some HO.out (by simp)
          injection e1 with e1 _ e2
          subst e1 e2
          obtain ⟨b0, o0, e1, _, hb⟩ := (sl_of_own HO.out) (by simp [i64s])
          injection e1 with e1
          injection e1 with e1 e2
          subst e1 e2
          have c0 := (hb 0 (by simp [i64s])).trans (by rw [i64s_get])
          clear hb
          simp only [List.length_cons, List.length_nil, Nat.zero_add] at *
          have HR1 : Hd (leastN fs 0 = (x, 0)) := ⟨by unfold leastN; rw [if_neg (by decide), ← HLL.out]; simp⟩
          go_wp2
          go_ret2
          unfold LeastPost
          rw [HC.out, HR1.out]
          exact ⟨rfl, HF.out⟩
        · have hne : ((L.length : Int) == 1) = false := by simp; omega
          have HR1 : Hd (leastN fs 0 = (hf (L.length - 1) L, 0)) := ⟨by unfold leastN; rw [if_neg (by decide), ← HLL.out, if_neg h2]⟩
          have hpos : ∀ x ∈ L, 0 ≤ x := fun x hx => by rw [HLL.out] at hx; have := (pos_mem hx).1; omega
          have HPO := Hd.mk hpos
          have hll : L.length ≤ 288 := by omega
          have hsum : L.sum ≤ 316659348799488 := by
            rw [HLL.out]
            exact (pos_sum hl fun x hx => by
              obtain ⟨i, hi, rfl⟩ := List.getElem_of_mem hx
              exact (of_out HN2.out hi).2).2
          have HSU := Hd.mk hsum
          have D2 : Hd (Rd L 0 L.length (fun i => L.getD i 0)) := ⟨Rd.start (by rw [lst_list]) HPO.out⟩
          have HO2 : Hd (wr.ownsRow 0 3 1 (.slice B L.length d) L.length (i64s (lst L.length (fun i => L.getD i 0)))) := ⟨by rw [lst_list]; exact HO.out⟩
          clear HLL hpos hsum h2 HO
          go_wp2
          go_loopg [5, 7] L.length (fun kq lv sv wr => ∃ (sum : Int) (k c1 : Nat) (B : Option Addr) (d1 : Nat → Int), lv = .slice B k c1 ∧ sv = .int .i64 sum ∧ k ≤ kq ∧ k ≤ L.length ∧ 0 ≤ sum ∧ Hd (wr.ownsRow 0 3 1 (.slice B k c1) k (i64s (lst k d1))) ∧ Hd (Rd L sum k d1) ∧ Hd (∀ k', (Value.slice B k c1).ownBlock = some k' → w.heap.size ≤ k') ∧ Hd (Fr w wr []))
          case atStart => exact ⟨0, _, d, B, _, rfl, rfl, by omega, Nat.le_refl _, Int.le_refl _, HO2, D2, HG, HF⟩
          case round =>
            obtain ⟨sum, k, c1, B, d1, rfl, rfl, hk, hkl, hs0, HO, HD, HG, HF⟩ := hrel
            obtain ⟨gko, rfl⟩ : ∃ gko, gko = gk := ⟨_, rfl⟩
            clear HO2 D2
            have hsb := HD.out.bound HPO.out hll HSU.out
            by_cases h3 : 1 < k
            · obtain ⟨g, c2, e1, _⟩ := own_some HO.out (by omega)
              injection e1 with e1 _ e2
              subst e1 e2
              have HRn : Hd (Rn wr g k c1 d1) := HO
              have hgg := HG.out g rfl
              have HBD : Hd (∀ i, i < k → 0 ≤ d1 i ∧ d1 i ≤ 316659348799488) := ⟨fun i hi => by
                have := HD.out.le i hi
                have := HSU.out
                omega⟩
              clear HO
              go_wp2
              go_loopg [8, 9, 10] k (fun kq av bv jv wq => ∃ (j : Nat) (a b : Int), jv = .int .i64 (j : Nat) ∧ av = .int .i64 a ∧ bv = .int .i64 b ∧ j + kq = k ∧ Hd (Two d1 j a b) ∧ Hd (Fr wr wq []))
              case atStart => exact ⟨0, -1, -1, rfl, rfl, rfl, by omega, ⟨.inl ⟨rfl, rfl, rfl⟩⟩, ⟨Fr.refl _ _⟩⟩
              case round =>
                obtain ⟨j, a, b, rfl, rfl, rfl, hj, HT, HQ⟩ := hrel
                by_cases hjk : j < k
                · have HRq := Hd.mk (HRn.out.frame HQ.out (by simp))
                  have cj := HRq.out.cell hjk
                  obtain ⟨x, hx⟩ : ∃ x, x = d1 j := ⟨_, rfl⟩
                  rw [← hx] at cj
                  have HX := Hd.mk hx
                  clear hx
                  by_cases hj0 : j = 0
                  · subst hj0
                    have hab : a = -1 ∧ b = -1 := by have := HT.out; unfold Two at this; omega
                    obtain ⟨rfl, rfl⟩ := hab
                    go_wp2
                    go_region
                    go_wp2
                    go_roundg (gk - 1)
                    case measure => omega
                    case rel => exact ⟨1, 0, -1, by go_num, by go_num, by go_num, by omega, ⟨.inr (.inl ⟨rfl, rfl, rfl⟩)⟩, ⟨HQ.out.drew⟩⟩
                  · by_cases hj1 : j = 1
                    · subst hj1
                      have hab : a = 0 ∧ b = -1 := by have := HT.out; unfold Two at this; omega
                      obtain ⟨rfl, rfl⟩ := hab
                      have c0 := HRq.out.cell (i := 0) (by omega)
                      obtain ⟨y, hy⟩ : ∃ y, y = d1 0 := ⟨_, rfl⟩
                      rw [← hy] at c0
                      have HY := Hd.mk hy
                      clear hy
                      by_cases hlt : x < y
                      · go_wp2
                        go_region
                        go_wp2
                        go_roundg (gk - 1)
                        case measure => omega
                        case rel => exact ⟨2, 1, 0, by go_num, by go_num, by go_num, by omega, ⟨.inr (.inr ⟨by omega, by omega, by omega, by omega, by omega, by omega, (by show d1 1 ≤ d1 0; rw [← HX.out, ← HY.out]; omega), fun x hx n1 n2 => by omega⟩)⟩, ⟨HQ.out.drew⟩⟩
                      · go_wp2
                        go_region
                        go_wp2
                        go_region
                        go_wp2
                        go_roundg (gk - 1)
                        case measure => omega
                        case rel => exact ⟨2, 0, 1, by go_num, by go_num, by go_num, by omega, ⟨.inr (.inr ⟨by omega, by omega, by omega, by omega, by omega, by omega, (by show d1 0 ≤ d1 1; rw [← HX.out, ← HY.out]; omega), fun x hx n1 n2 => by omega⟩)⟩, ⟨HQ.out.drew.drew⟩⟩
                    · have hab : 0 ≤ a ∧ 0 ≤ b ∧ a < j ∧ b < j := by have := HT.out; unfold Two at this; omega
                      obtain ⟨na, rfl⟩ : ∃ na : Nat, a = na := ⟨a.toNat, by omega⟩
                      obtain ⟨nb, rfl⟩ : ∃ nb : Nat, b = nb := ⟨b.toNat, by omega⟩
                      have hna : na < j := by omega
                      have hnb : nb < j := by omega
                      have c0 := HRq.out.cell (i := na) (by omega)
                      obtain ⟨y, hy⟩ : ∃ y, y = d1 na := ⟨_, rfl⟩
                      rw [← hy] at c0
                      have HY := Hd.mk hy
                      have c2 := HRq.out.cell (i := nb) (by omega)
                      obtain ⟨z, hz⟩ : ∃ z, z = d1 nb := ⟨_, rfl⟩
                      rw [← hz] at c2
                      have HZ := Hd.mk hz
                      clear hy hz hab
                      have tza : decide ((na : Int) < 0) = false := decide_eq_false (by omega)
                      have tzb : decide ((nb : Int) < 0) = false := decide_eq_false (by omega)
                      by_cases hlt : x < y
                      · have HT2 : Hd (Two d1 (j + 1) j na) := ⟨HT.out.lt (by omega) (by rw [Int.toNat_natCast, ← HX.out, ← HY.out]; exact hlt)⟩
                        go_wp2
                        go_region
                        go_wp2
                        go_roundg (gk - 1)
                        case measure => omega
                        case rel => exact ⟨j + 1, j, na, by go_num, by go_num, by go_num, by omega, HT2, ⟨HQ.out.drew⟩⟩
                      · by_cases hlz : x < z
                        · have HT2 : Hd (Two d1 (j + 1) na j) := ⟨HT.out.mid (by omega) (by rw [Int.toNat_natCast, ← HX.out, ← HY.out]; omega) (by rw [Int.toNat_natCast, ← HX.out, ← HZ.out]; omega)⟩
                          go_wp2
                          go_region
                          go_wp2
                          go_region
                          go_wp2
                          go_roundg (gk - 1)
                          case measure => omega
                          case rel => exact ⟨j + 1, na, j, by go_num, by go_num, by go_num, by omega, HT2, ⟨HQ.out.drew.drew⟩⟩
                        · have HT2 : Hd (Two d1 (j + 1) na nb) := ⟨HT.out.ge (by omega) (by rw [Int.toNat_natCast, ← HX.out, ← HZ.out]; omega)⟩
                          go_wp2
                          go_region
                          go_wp2
                          go_region
                          go_wp2
                          go_roundg (gk - 1)
                          case measure => omega
                          case rel => exact ⟨j + 1, na, nb, by go_num, by go_num, by go_num, by omega, HT2, ⟨HQ.out.drew.drew⟩⟩
                · obtain rfl : j = k := by omega
                  have hab : 0 ≤ a ∧ 0 ≤ b ∧ a < j ∧ b < j ∧ a ≠ b := by have := HT.out; unfold Two at this; omega
                  obtain ⟨na, rfl⟩ : ∃ na : Nat, a = na := ⟨a.toNat, by omega⟩
                  obtain ⟨nb, rfl⟩ : ∃ nb : Nat, b = nb := ⟨b.toNat, by omega⟩
                  have hna : na < j := by omega
                  have hnb : nb < j := by omega
                  have hnn : na ≠ nb := by omega
                  have HRq := Hd.mk (HRn.out.frame HQ.out (by simp))
                  have HFq := Hd.mk (HF.out.trans HQ.out (by simp))
                  clear hab HRn HF HQ
                  have c0 := HRq.out.cell (i := na) (by omega)
                  obtain ⟨y, hy⟩ : ∃ y, y = d1 na := ⟨_, rfl⟩
                  rw [← hy] at c0
                  have HY := Hd.mk hy
                  have c2 := HRq.out.cell (i := nb) (by omega)
                  obtain ⟨z, hz⟩ : ∃ z, z = d1 nb := ⟨_, rfl⟩
                  rw [← hz] at c2
                  have HZ := Hd.mk hz
                  have by0 : 0 ≤ y ∧ y ≤ 316659348799488 := by rw [hy]; exact HBD.out na hna
                  have bz0 : 0 ≤ z ∧ z ≤ 316659348799488 := by rw [hz]; exact HBD.out nb hnb
                  clear hy hz
                  have HP : Hd ((lst j d1).Perm (y :: z :: rst d1 na nb j)) := ⟨by rw [HY.out, HZ.out]; exact rst_perm d1 hna hnb hnn⟩
                  have HLE : Hd (y ≤ z ∧ ∀ x ∈ rst d1 na nb j, z ≤ x) := ⟨by
                    have h := HT.out
                    unfold Two at h
                    rcases h with h | h | ⟨g1, g2, g3, g4, g5, g6, g7, g8⟩
                    · omega
                    · omega
                    · rw [Int.toNat_natCast, Int.toNat_natCast] at g7
                      rw [HY.out, HZ.out]
                      refine ⟨g7, fun x hx => ?_⟩
                      obtain ⟨i, q1, q2, q3, rfl⟩ := rst_mem hx
                      have := g8 i q1 (by omega) (by omega)
                      rwa [Int.toNat_natCast] at this⟩
                  clear HT
                  go_wp2
                  go_region
                  go_wp2
                  go_loopg [12, 13] j (fun kq rv iv wp => ∃ (i m c3 : Nat) (R : Option Addr), rv = .slice R m c3 ∧ iv = .int .i64 (i : Nat) ∧ i + kq = j ∧ Hd ((rst d1 na nb i).length = m) ∧ m ≤ i ∧ Hd (wp.ownsRow 0 3 1 (.slice R m c3) m (i64s (rst d1 na nb i))) ∧ Hd (∀ k', (Value.slice R m c3).ownBlock = some k' → wr.heap.size ≤ k') ∧ Hd (Fr wr wp []))
                  case atStart => exact ⟨0, 0, 0, none, rfl, rfl, by omega, ⟨rfl⟩, Nat.le_refl _, ⟨by rw [rst_zero]; exact own_nil _ _ _ _⟩, ⟨fun k hk => by simp [Value.ownBlock] at hk⟩, ⟨(Fr.refl _ _).drew⟩⟩
                  case round =>
                    obtain ⟨i, m, c3, R, rfl, rfl, hi, HM, hmi, HO, HG3, HF3⟩ := hrel
                    clear c0 c2
                    by_cases hij : i < j
                    · have ci := (HRq.out.frame HF3.out (by simp)).cell hij
                      have hst := rst_step d1 na nb i
                      have HST := Hd.mk hst
                      clear hst
                      by_cases e1 : i = na
                      · have t1 : ((i : Int) != (na : Int)) = false := by simp; omega
                        have HST2 : Hd (rst d1 na nb (i + 1) = rst d1 na nb i) := ⟨by rw [HST.out, if_neg (by omega), List.append_nil]⟩
                        clear e1
                        go_wp2
                        go_roundg (gk - 1)
                        case measure => go_light; omega
                        case rel => go_light; exact ⟨i + 1, m, c3, R, rfl, by go_num, by omega, by rw [HST2.out]; exact HM, by omega, by rw [HST2.out]; exact HO, HG3, HF3⟩
                      · have t1 : ((i : Int) != (na : Int)) = true := by simp; omega
                        by_cases e2 : i = nb
                        · have t2 : ((i : Int) != (nb : Int)) = false := by simp; omega
                          have HST2 : Hd (rst d1 na nb (i + 1) = rst d1 na nb i) := ⟨by rw [HST.out, if_neg (by omega), List.append_nil]⟩
                          clear e1 e2
                          go_wp2
                          go_roundg (gk - 1)
                          case measure => go_light; omega
                          case rel => go_light; exact ⟨i + 1, m, c3, R, rfl, by go_num, by omega, by rw [HST2.out]; exact HM, by omega, by rw [HST2.out]; exact HO, HG3, HF3⟩
                        · have t2 : ((i : Int) != (nb : Int)) = true := by simp; omega
                          obtain ⟨x, hx⟩ : ∃ x, x = d1 i := ⟨_, rfl⟩
                          rw [← hx] at ci
                          have HST2 : Hd (rst d1 na nb (i + 1) = rst d1 na nb i ++ [x]) := ⟨by rw [HST.out, if_pos ⟨e1, e2⟩, hx]⟩
                          clear e1 e2 hx
                          go_wp2_with (at_builtin; refine wpList_append_sl rfl (.tmp 107) (.tmp 112) 22 rfl 3 i0 (.int .i64 0) 1 8 Try.underlying22 hi0 hz0 hz1 hz2 rfl (by decide) (.slice R m c3) m _ rfl (by exact HO.out.alloc _) (some ⟨_, 0, none⟩) 1 1 [.int .i64 x] (some _) rfl rfl (by exact sl_of_blk (blk_new _ _)) (by intro h; cases h) (by intro u hu; simp at hu; subst hu; rfl) (by unfold maxLen; omega) (by omega) ?_; intro A' c' w1 hown' hgrow haft; have O1 := Hd.mk hown'; have G1 := Hd.mk hgrow; have F1 := Hd.mk haft; clear hown' hgrow haft)
                          go_roundg (gk - 1)
                          case measure => go_light; omega
                          case rel =>
                            go_light
                            refine ⟨i + 1, m + 1, c', A', rfl, by go_num, by omega, ⟨by rw [HST2.out, List.length_append, HM.out]; rfl⟩, by omega, ⟨by rw [HST2.out, i64s_app]; exact O1.out⟩, ⟨fun k hk => ?_⟩, ⟨(HF3.out.alloc _).grown G1.out (fun k hk => .inr (HG3.out k hk))⟩⟩
                            rcases F1.out with h | ⟨zz, h, hz⟩
                            · rw [h] at hk; exact HG3.out k hk
                            · rw [h] at hk; cases hk
                              have := HF3.out.size
                              simp at hz
                              omega
                    · obtain rfl : i = j := by omega
                      have hml : m + 2 = i := by rw [← HM.out]; exact rst_len d1 hna hnb hnn
                      obtain ⟨n2, rfl⟩ : ∃ n2, i = n2 + 2 := ⟨i - 2, by omega⟩
                      obtain rfl : m = n2 := by omega
                      have HD2 := HD.out.step (d' := fun k => (rst d1 na nb (m + 2) ++ [y + z]).getD k 0) HP.out HLE.out.1 HLE.out.2 (by
                        have e := lst_list (L := rst d1 na nb (m + 2) ++ [y + z])
                        rw [List.length_append, HM.out, List.length_singleton] at e
                        rw [e]
                        exact List.perm_append_comm)
                      have hsb2 := HD2.bound HPO.out hll HSU.out
                      have DD2 := Hd.mk HD2
                      clear HD2 hml
                      go_wp2_with (at_builtin; refine wpList_append_sl rfl (.tmp 114) (.tmp 116) 22 rfl 3 i0 (.int .i64 0) 1 8 Try.underlying22 hi0 hz0 hz1 hz2 rfl (by decide) (.slice R m c3) m _ rfl (by exact HO.out.alloc _) (some ⟨_, 0, none⟩) 1 1 [.int .i64 (y + z)] (some _) rfl rfl (by exact sl_of_blk (blk_new _ _)) (by intro h; cases h) (by intro u hu; simp at hu; subst hu; rfl) (by unfold maxLen; omega) (by omega) ?_; intro A' c' w1 hown' hgrow haft; have O1 := Hd.mk hown'; have G1 := Hd.mk hgrow; have F1 := Hd.mk haft; clear hown' hgrow haft)
                      go_roundg (gko - 1)
                      case measure => go_light; omega
                      case rel =>
                        go_light
                        refine ⟨sum + (y + z), m + 1, c', A', _, rfl, by go_num, by omega, by omega, by omega, ⟨?_⟩, DD2, ⟨fun k hk => ?_⟩, ⟨(HFq.out.trans ((HF3.out.alloc _).grown G1.out (fun k hk => .inr (HG3.out k hk))) (by simp))⟩⟩
                        · have e := lst_list (L := rst d1 na nb (m + 2) ++ [y + z])
                          rw [List.length_append, HM.out, List.length_singleton] at e
                          rw [e, i64s_app]
                          exact O1.out
                        · have s1 := HFq.out.size
                          have s2 := HF3.out.size
                          rcases F1.out with h | ⟨zz, h, hz⟩
                          · rw [h] at hk; have := HG3.out k hk; omega
                          · rw [h] at hk; cases hk
                            simp at hz
                            omega
            · go_wp2
              go_ret2
              unfold LeastPost
              rw [HC.out, HR1.out, ← HD.out.end (by omega)]
              exact ⟨rfl, HF.out⟩
  · have hne : (cn fs != 0) = true := by simpa using hc
    have HL : Hd (leastN fs (cn fs) = (0, cn fs)) := ⟨by unfold leastN; rw [if_pos hc]⟩
    have hr : 0 ≤ cn fs ∧ cn fs ≤ 100 := by unfold cn; split <;> (try split) <;> omega
    generalize cn fs = k at *
    go_wp2
    go_ret2
    unfold LeastPost
    rw [HL.out]
    exact ⟨rfl, Fr.refl _ _⟩
end Go.Proofs.Ytomiammdfiddbaa.Heap
