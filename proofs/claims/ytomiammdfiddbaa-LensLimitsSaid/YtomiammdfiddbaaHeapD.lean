/- lens.Least: Huffman's sum by a heap. Conditions: none but what memory bounds. -/
import Derived.Test.YtomiammdfiddbaaHeapC
import Derived.Test.YtomiammdfiddbaaHeapP2
set_option linter.unusedVariables false
set_option linter.unusedSimpArgs false
set_option maxRecDepth 100000
namespace Go.Proofs.Ytomiammdfiddbaa.Heap
open Go.RowKit Go.Proofs.Ytomiammdfiddbaa.Lib Go.Proofs.Ytomiammdfiddbaa.Ints Go.Proofs.Ytomiammdfiddbaa.Heaps
open Go.Proofs.Ytomiammdfiddbaa.Sorts (lst lst_len lst_get sw sw_perm)
open Go.Proofs.Ytomiammdfiddbaa.Lens (out out_false of_out cn cn_zero counts_any wrong_any)
def LeastPost (w : World) (r : Int × Int) (e : Ending) (w' : World) : Prop := e = .returned (.tuple #[.int .i64 r.1, .int .i64 r.2]) ∧ Fr w w' []
theorem lst_list {L : List Int} : lst L.length (fun i => L.getD i 0) = L := by
  apply List.ext_getElem?
  intro k
  by_cases hk : k < L.length
  · rw [lst_get hk, List.getElem?_eq_getElem hk]; simp [List.getD_eq_getElem?_getD, List.getElem?_eq_getElem hk]
  · rw [List.getElem?_eq_none (by rw [lst_len]; omega), List.getElem?_eq_none (by omega)]
set_option maxHeartbeats 4000000 in
theorem least_any (w : World) (A : Option Addr) (n c : Nat) (fs : List Int) (q : Option Nat) (hn : fs.length = n) (hS : Sl w A (i64s fs) q) (hn1 : n ≤ 4611686018427387904) :
    Calls Try.prog 16 #[.slice A n c] w (LeastPost w (leastN fs (cn fs))) := by
  subst hn
  obtain ⟨i0, hi0, hz0, hz1, hz2⟩ := info_parts infoI64
  have HS := Hd.mk hS
  clear hS
  go_enter Try.func16, Try.ntmps16
  go_wp2_with (fail)
  refine (counts_any w A fs.length c fs q rfl HS.out hn1).mono ?_
  rintro e w1 ⟨rfl, rfl⟩
  by_cases hc : cn fs = 0
  · have hb := cn_zero hc
    have HN := Hd.mk hb.2
    have HN2 := Hd.mk hb.2
    have hl : fs.length ≤ 288 := hb.1
    have HC := Hd.mk hc
    rw [hc]
    clear hb hc
    go_wp2
    go_loopg [19] fs.length (fun kq jv wr => ∃ (j B m d : Nat), jv = .int .i64 (j : Nat) ∧ j + kq = fs.length ∧ m ≤ j ∧ Hd (wr.heap[w.heap.size + 1]? = some (.cells #[.slice (some ⟨B, 0, none⟩) m d] 47 (0, 0))) ∧ Hd (wr.ownsRow 0 3 1 (.slice (some ⟨B, 0, none⟩) m d) m (i64s (pos (fs.take j)))) ∧ Hd ((pos (fs.take j)).length = m) ∧ Hd (w.heap.size ≤ B) ∧ Hd (Fr w wr []))
    case atStart => exact ⟨0, w.heap.size, 0, 0, rfl, by omega, by omega, ⟨by have := blk_new (w.alloc (.cells #[] 3)) (.cells #[.slice (some ⟨w.heap.size, 0, none⟩) 0 0] 47 ); simpa using this⟩,
      ⟨Rn.mk (d := fun _ => 0) (blk_alloc (blk_new w (.cells #[] 3)) _) (Nat.le_refl _) (Nat.zero_le _) rfl (fun i hi => by omega)⟩, ⟨by simp [pos]⟩, ⟨Nat.le_refl _⟩, ⟨((Fr.refl w []).alloc _).alloc _⟩⟩
    case round =>
      obtain ⟨j, B, m, d, rfl, hj, hmj, HB, HO, HM, HG, HF⟩ := hrel
      by_cases h1 : j < fs.length
      · obtain ⟨a, o1, rfl, _, ha⟩ := (HS.out.frame HF.out (by simp)) (by simp [i64s]; omega)
        obtain ⟨x, hx⟩ : ∃ x, x = fs[j] := ⟨_, rfl⟩
        have ca := (ha j (by simp [i64s]; omega)).trans (by rw [i64s_get, List.getElem?_eq_getElem (by omega), ← hx])
        have hsn := pos_snoc h1
        rw [← hx] at hsn
        have HSN := Hd.mk hsn
        have hbd := of_out HN.out h1
        rw [← hx] at hbd
        clear ha hx hsn
        by_cases h2 : 0 < x
        · have h3 : Hd (pos (fs.take (j + 1)) = pos (fs.take j) ++ [x]) := ⟨by rw [HSN.out, if_pos h2]⟩
          clear HSN
          have cp : wr.cell? ⟨w.heap.size + 1, 0, none⟩ = some (.slice (some ⟨B, 0, none⟩) m d) := by rw [blk_cell HB.out]; rfl
          go_wp2_with (at_builtin; refine wpList_append_sl rfl (.tmp 28) (.tmp 30) 47 rfl 3 i0 (.int .i64 0) 1 8 Try.underlying47 hi0 hz0 hz1 hz2 rfl (by decide) (.slice (some ⟨B, 0, none⟩) m d) m _ rfl (by exact HO.out.alloc _) (some ⟨wr.heap.size, 0, none⟩) 1 1 [.int .i64 x] (some wr.heap.size) rfl rfl (by exact sl_of_blk (blk_new _ _)) (by intro h; cases h) (by intro u hu; simp at hu; subst hu; rfl) (by unfold maxLen; omega) (by omega) ?_; intro A' c' w1 hown' hgrow haft; have O1 := Hd.mk hown'; have G1 := Hd.mk hgrow; have F1 := Hd.mk haft; have hb1 := blk_grown hgrow (by exact blk_alloc HB.out _) (by simp [Value.ownBlock]; rintro rfl; exact own_ne HO.out HB.out (by decide) rfl); have k1 := blk_cell hb1 0; have f1 := blk_frozen hb1 0; simp only [List.getElem?_toArray, List.getElem?_cons_zero] at k1; have HB1 := Hd.mk hb1; clear hown' hgrow haft hb1)
          go_roundg (gk - 1)
          case measure => omega
          case rel =>
            obtain ⟨g', c2, e, _⟩ := own_some O1.out (by omega)
            injection e with e1 _ e2
            subst e1 e2
            refine ⟨j + 1, g', m + 1, c', by go_num, by omega, by omega, ⟨blk_set HB1.out 0 _⟩, ⟨?_⟩, ⟨by rw [h3.out, List.length_append, HM.out]; rfl⟩, ⟨?_⟩, ⟨((HF.out.alloc _).grown G1.out (fun k hk => .inr (by simp [Value.ownBlock] at hk; subst hk; exact HG.out))).setCell _ (.inr (Nat.le_succ _))⟩⟩
            · rw [h3.out, i64s_app]
              exact own_setFar O1.out _ (own_ne O1.out HB1.out (by decide))
            · rcases F1.out with e | ⟨k, e, hk⟩
              · simp [Value.ownBlock] at e; rw [e]; exact HG.out
              · simp [Value.ownBlock] at e
                have := HF.out.size
                simp at hk
                omega
        · have h3 : Hd (pos (fs.take (j + 1)) = pos (fs.take j)) := ⟨by rw [HSN.out, if_neg h2, List.append_nil]⟩
          clear HSN
          go_wp2
          go_roundg (gk - 1)
          case measure => omega
          case rel => exact ⟨j + 1, B, m, d, by go_num, by omega, by omega, HB, by rw [h3.out]; exact HO, by rw [h3.out]; exact HM, HG, HF⟩
      · have hfl : fs.take j = fs := List.take_of_length_le (by omega)
        rw [hfl] at HO HM
        clear hfl HN
        obtain ⟨L, hL⟩ : ∃ L, L = pos fs := ⟨_, rfl⟩
        rw [← hL] at HO HM
        have HLL := Hd.mk hL
        have hR0 : Rn wr B L.length d (fun i => L.getD i 0) := by
          unfold Rn
          rw [lst_list, HM.out]; exact HO.out
        have hlm := HM.out
        clear hL HO HM
        subst hlm
        have HRR := Hd.mk hR0
        clear hR0
        have hH : Hd (HR wr (w.heap.size + 1) B L.length d (fun i => L.getD i 0)) := ⟨⟨HB.out, HRR.out⟩⟩
        have cp : wr.cell? ⟨w.heap.size + 1, 0, none⟩ = some (.slice (some ⟨B, 0, none⟩) L.length d) := hH.out.cell
        by_cases h2 : L.length = 1
        · have c0 := HRR.out.cell (i := 0) (by omega)
          obtain ⟨x, rfl⟩ := List.length_eq_one_iff.1 h2
          simp only [List.getD_eq_getElem?_getD, List.getElem?_cons_zero, Option.getD_some] at c0
          simp only [List.length_cons, List.length_nil, Nat.zero_add] at *
          have HR1 : Hd (leastN fs 0 = (x, 0)) := ⟨by unfold leastN; rw [if_neg (by decide), ← HLL.out]; simp⟩
          go_wp2
          go_ret2
          unfold LeastPost
          rw [HC.out, HR1.out]
          exact ⟨rfl, HF.out⟩
        · have hne : ((L.length : Int) == 1) = false := by simp; omega
          have HR1 : Hd (leastN fs 0 = (hf (L.length - 1) L, 0)) := ⟨by unfold leastN; rw [if_neg (by decide), ← HLL.out, if_neg h2]⟩
          have hpos : ∀ x ∈ L, 0 ≤ x := fun x hx => by rw [HLL.out] at hx; have := (pos_mem hx).1; omega
          have HPO := Hd.mk hpos
          have hll : L.length ≤ 288 := by omega
          have hsum : L.sum ≤ 316659348799488 := by
            rw [HLL.out]
            exact (pos_sum hl fun x hx => by
              obtain ⟨i, hi, rfl⟩ := List.getElem_of_mem hx
              exact (of_out HN2.out hi).2).2
          have HSU := Hd.mk hsum
          clear HLL hpos hsum h2
          go_wp2_with (fail)
          refine (init_any wr (w.heap.size + 1) B L.length d _ hH.out (by omega)).mono ?_
          rintro e w2 ⟨d2, rfl, r1, r2, r3, r4⟩
          have H2 := Hd.mk r1
          have Q2 := Hd.mk r2
          have D2 : Hd (Rd L 0 L.length d2) := ⟨Rd.start (r3.trans (by rw [lst_list])) HPO.out⟩
          have F2 : Hd (Fr w w2 []) := ⟨HF.out.trans r4 (fun y hy h => by simp at h; have := HG.out; omega)⟩
          clear r1 r2 r3 r4 hH HRR HB HF cp
          go_wp2
          go_loopg [9] L.length (fun kq sv wr => ∃ (sum : Int) (k g c1 : Nat) (d1 : Nat → Int), sv = .int .i64 sum ∧ k ≤ kq ∧ k ≤ L.length ∧ 0 ≤ sum ∧ Hd (HR wr (w.heap.size + 1) g k c1 d1) ∧ Hd (Hq d1 k 0) ∧ Hd (Rd L sum k d1) ∧ Hd (w.heap.size ≤ g) ∧ Hd (Fr w wr []))
          case atStart => exact ⟨0, _, B, d, d2, rfl, by omega, Nat.le_refl _, Int.le_refl _, H2, Q2, D2, HG, F2⟩
          case round =>
            obtain ⟨sum, k, g, c1, d1, rfl, hk, hkl, hs0, H3, Q3, D3, G3, F3⟩ := hrel
            clear H2 Q2 D2 HG F2
            have hsb := D3.out.bound HPO.out hll HSU.out
            have ml := mLen wr _ _ H3.out.cell
            by_cases h3 : 1 < k
            · obtain ⟨n, rfl⟩ : ∃ n, k = n + 2 := ⟨k - 2, by omega⟩
              have hbd : Hd (∀ i, i < n + 2 → 0 ≤ d1 i ∧ d1 i ≤ 2305843009213693952) := ⟨fun i hi => by
                have := D3.out.le i hi
                have := HSU.out
                omega⟩
              go_wp2_with (fail)
              refine (len_any wr _ (n + 2) c1).mono ?_
              rintro e w3 ⟨rfl, rfl⟩
              clear ml
              go_wp2_with (fail)
              refine (merge_any wr (w.heap.size + 1) g n c1 d1 H3.out Q3.out (by omega) hbd.out).mono ?_
              intro e w4 hm
              unfold MergePost at hm
              obtain ⟨a, b, r, g4, c4, d4, rfl, m1, m2, m3, m4, m5, m6, m7, m8⟩ := hm
              have D4 := D3.out.step m1 m2 m3 m6
              have hsb4 := D4.bound HPO.out hll HSU.out
              have hab : 0 ≤ a ∧ 0 ≤ b := by
                have x1 := m1.mem_iff.2 (show a ∈ a :: b :: r by simp)
                have x2 := m1.mem_iff.2 (show b ∈ a :: b :: r by simp)
                obtain ⟨i1, q1, e1⟩ := lst_mem x1
                obtain ⟨i2, q2, e2⟩ := lst_mem x2
                rw [e1, e2]
                exact ⟨(hbd.out i1 q1).1, (hbd.out i2 q2).1⟩
              have H4 := Hd.mk m4
              have Q4 := Hd.mk m5
              have DD4 := Hd.mk D4
              have F4 : Hd (Fr w w4 []) := ⟨F3.out.trans m8 (fun y hy h => by simp at h; have := G3.out; omega)⟩
              have G4 : Hd (w.heap.size ≤ g4) := ⟨by have := G3.out; have := F3.out.size; omega⟩
              clear m1 m2 m3 m4 m5 m6 m7 m8 D4 hbd
              go_wp2
              go_roundg (gk - 1)
              case measure => omega
              case rel => exact ⟨sum + (a + b), n + 1, g4, c4, d4, by go_num, by omega, by omega, by omega, H4, Q4, DD4, G4, F4⟩
            · go_wp2_with (fail)
              refine (len_any wr _ k c1).mono ?_
              rintro e w3 ⟨rfl, rfl⟩
              clear ml
              go_wp2
              go_ret2
              unfold LeastPost
              rw [HC.out, HR1.out, ← D3.out.end (by omega)]
              exact ⟨rfl, F3.out⟩
  · have hne : (cn fs != 0) = true := by simpa using hc
    have HL : Hd (leastN fs (cn fs) = (0, cn fs)) := ⟨by unfold leastN; rw [if_pos hc]⟩
    have hr : 0 ≤ cn fs ∧ cn fs ≤ 100 := by unfold cn; split <;> (try split) <;> omega
    generalize cn fs = k at *
    go_wp2
    go_ret2
    unfold LeastPost
    rw [HL.out]
    exact ⟨rfl, Fr.refl _ _⟩
end Go.Proofs.Ytomiammdfiddbaa.Heap
