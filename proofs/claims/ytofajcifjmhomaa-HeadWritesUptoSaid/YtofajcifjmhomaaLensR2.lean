/- The document's packages (chapter 04). Conditions: at most 1000 items, weights at most 2^60, counts at most 2^40. -/
import Derived.Test.YtofajcifjmhomaaLensR1
set_option linter.unusedVariables false
set_option linter.unusedSimpArgs false
set_option maxRecDepth 100000
namespace Go.Proofs.Ytofajcifjmhomaa.Lens
open Go.RowKit Go.Proofs.Ytofajcifjmhomaa.Lib Go.Proofs.Ytofajcifjmhomaa.Ints Go.Proofs.Ytofajcifjmhomaa.Sorts Go.Proofs.Ytofajcifjmhomaa.Sort Go.Proofs.Ytofajcifjmhomaa.Pm Go.Proofs.Ytofajcifjmhomaa.Num

def upto (k : Nat) (f : Nat → Nat) : Nat → Nat := fun s => if s < k then f s else 0
set_option maxHeartbeats 4000000 in
theorem rpacked_any (w : World) (N : Nat) (A : Option Addr) (n c : Nat) (ps : List RI) (q : Option Nat) (M C : Nat) (hN : N ≤ 1000) (hn : ps.length = n) (hS : Sl w A (rencs N ps) q) (hok : ∀ p ∈ ps, ROk w N p) (hM : ∀ p ∈ ps, p.t.wt ≤ M) (hM2 : M ≤ 1152921504606846976) (hC : ∀ p ∈ ps, ∀ s, p.t.cnt s ≤ C) (hC2 : C ≤ 1152921504606846976) (hn1 : n ≤ 1000) :
    Calls Try.prog 79 #[.slice A n c] w (RPost w N (pk (ps.map (·.t)))) := by
  subst hn
  have HS := Hd.mk hS
  have HOK := Hd.mk hok
  have HMM := Hd.mk hM
  have HCC := Hd.mk hC
  clear hS hok hM hC
  obtain ⟨i0, hi0, hz0, hz1, hz2⟩ := info_parts infoRItem
  go_enter Try.func79, Try.ntmps79
  go_wp2
  go_loopg [3, 4] ps.length (fun kq sv iv wr => ∃ (i j : Nat) (B : Option Addr) (m d : Nat) (P : List RI), iv = .int .i64 (i : Nat) ∧ sv = .slice B m d ∧ Hd (i = 2 * j) ∧ i ≤ ps.length ∧ ps.length - i ≤ kq ∧ m ≤ 1000 ∧ Hd (P.length = m) ∧ Hd (m = j) ∧ Hd (P.map (·.t) = pk ((ps.map (·.t)).take i)) ∧ Hd (wr.ownsRow 0 141 3 (.slice B m d) m (rencs N P)) ∧ Hd (∀ k, (Value.slice B m d).ownBlock = some k → w.heap.size ≤ k) ∧ Hd (∀ p ∈ P, ROk wr N p ∧ w.heap.size ≤ p.g) ∧ Hd (Fr w wr []))
  case atStart => exact ⟨0, 0, none, 0, 0, [], rfl, rfl, ⟨rfl⟩, by omega, by omega, by omega, ⟨rfl⟩, ⟨rfl⟩, ⟨rfl⟩, ⟨own_nil _ _ _ _⟩, ⟨fun k hk => by simp [Value.ownBlock] at hk⟩, ⟨fun p hp => by simp at hp⟩, ⟨Fr.refl _ _⟩⟩
  case round =>
    obtain ⟨i, j, B, m, d, P, rfl, rfl, HI, hin, hk, hm, HL, HMJ, HP, HW, HB, HK, HF⟩ := hrel
    obtain ⟨gko, rfl⟩ : ∃ gko, gko = gk := ⟨_, rfl⟩
    obtain ⟨wo, rfl⟩ : ∃ wo : World, wo = wr := ⟨_, rfl⟩
    by_cases h1 : i + 1 < ps.length
    · obtain ⟨b0, o1, rfl, hqb, ha⟩ := Sl.row (enc := renc N) (sz := 3) (fun _ => rfl) HS.out (i := i) (by omega) (by decide)
      obtain ⟨b0', o1', e', _, hb⟩ := Sl.row (enc := renc N) (sz := 3) (fun _ => rfl) HS.out (i := i + 1) (by omega) (by decide)
      injection e' with e'
      injection e' with e1 e2
      subst e1 e2
      obtain ⟨x, hx⟩ : ∃ x, x = ps[i] := ⟨_, rfl⟩
      obtain ⟨y, hy⟩ : ∃ y, y = ps[i + 1] := ⟨_, rfl⟩
      rw [← hx] at ha
      rw [← hy] at hb
      have hxm : x ∈ ps := by rw [hx]; exact List.getElem_mem _
      have hym : y ∈ ps := by rw [hy]; exact List.getElem_mem _
      have hxM := HMM.out x hxm
      have hyM := HMM.out y hym
      have HX := Hd.mk hx
      have HY := Hd.mk hy
      have HXM := Hd.mk hxm
      have HYM := Hd.mk hym
      have HA := Hd.mk ha
      have HBB := Hd.mk hb
      clear ha hb hx hy hqb hxm hym
      have cell : ∀ {W : World}, Fr w W [] → W.cell? ⟨b0, o1 + i * 3, none⟩ = some (.int .i64 x.t.wt) ∧ W.cell? ⟨b0, o1 + i * 3 + 2, none⟩ = some (.slice (some ⟨x.g, 0, none⟩) N N) ∧ W.cell? ⟨b0, o1 + (i + 1) * 3, none⟩ = some (.int .i64 y.t.wt) ∧ W.cell? ⟨b0, o1 + (i + 1) * 3 + 2, none⟩ = some (.slice (some ⟨y.g, 0, none⟩) N N) := fun hf =>
        ⟨Fr.cellAt hf (by simp) (by simpa [renc] using HA.out 0 (by decide)), Fr.cellAt hf (by simp) (by simpa [renc] using HA.out 2 (by decide)), Fr.cellAt hf (by simp) (by simpa [renc] using HBB.out 0 (by decide)), Fr.cellAt hf (by simp) (by simpa [renc] using HBB.out 2 (by decide))⟩
      have CELL := Hd.mk @cell
      clear cell
      obtain ⟨ca, ca2, cb, cb2⟩ := CELL.out HF.out
      have n1 : ((i : Int) + 1).toNat = i + 1 := by omega
      have n2 : IntKind.i64.wrap ((i : Int) + 1) = (i : Int) + 1 := IntWalk.i64_in _ (by omega)
      have n4 : IntKind.i64.wrap ((x.t.wt : Int) + (y.t.wt : Int)) = (x.t.wt : Int) + (y.t.wt : Int) := IntWalk.i64_in _ (by omega)
      have n5 : (0 : Int) ≤ (i : Int) + 1 := by omega
      have n6 : (i : Int) < ps.length := by omega
      have n7 : (i : Int) + 1 < ps.length := by omega
      have hmk := run_made N hN
      go_upto_region 5 with (fail)
      go_cut [5] from 14 to 33 (fun s5 wc => ∃ gx gc, s5 = .pointer (some ⟨gx, 0, none⟩) ∧ Hd (wc.heap[gx]? = some (.cells #[.int .i64 ((x.t.wt : Int) + (y.t.wt : Int)), .bool false, .slice (some ⟨gc, 0, none⟩) N N] 141 (0, 0))) ∧ Hd (Cnt wc gc N fun _ => 0) ∧ Hd (wo.heap.size ≤ gx ∧ wo.heap.size ≤ gc) ∧ Hd (Fr wo wc []))
      case first =>
        have hne1 := World.new_ne wo _ ca
        have hne2 := World.new_ne wo _ ca2
        have hne3 := World.new_ne wo _ cb
        go_region_held3 (fun w' => w'.cell? ⟨b0, o1 + i * 3, none⟩ = some (.int .i64 x.t.wt) ∧ w'.cell? ⟨b0, o1 + i * 3 + 2, none⟩ = some (.slice (some ⟨x.g, 0, none⟩) N N) ∧ w'.cell? ⟨b0, o1 + (i + 1) * 3, none⟩ = some (.int .i64 y.t.wt)) (go_keep) (fail)
        · go_wp2
          go_meet
          case rel =>
            go_light
            have h5 := two_new wo (.cells (cv N fun _ => 0) 3) (.cells #[.int .i64 ((x.t.wt : Int) + (y.t.wt : Int)), .bool false, .slice (some ⟨wo.heap.size, 0, none⟩) N N] 141)
            exact ⟨wo.heap.size + 1, wo.heap.size, rfl, ⟨h5.2⟩, ⟨h5.1⟩, ⟨by omega⟩, ⟨(((Fr.refl wo []).alloc _).alloc _).drew⟩⟩
        · go_wp2
          go_meet
          case rel =>
            go_light
            have h5 := two_new wo (.cells #[.int .i64 ((x.t.wt : Int) + (y.t.wt : Int)), .bool false, .slice (some ⟨wo.heap.size + 1, 0, none⟩) N N] 141) (.cells (cv N fun _ => 0) 3)
            exact ⟨wo.heap.size, wo.heap.size + 1, rfl, ⟨h5.1⟩, ⟨h5.2⟩, ⟨by omega⟩, ⟨(((Fr.refl wo []).alloc _).alloc _).drew⟩⟩
      case rest =>
      obtain ⟨gx, gc, rfl, HX5, HC5, HG, HFc⟩ := hcut
      clear hmk n2 n4 ca ca2 cb cb2
      have hwr : Hd (w.heap.size ≤ wo.heap.size) := ⟨HF.out.size⟩
      have hcx : Hd (gx ≠ gc) := ⟨blk_ne HX5.out HC5.out (by decide)⟩
      have FC := Hd.mk (HF.out.trans HFc.out (by simp))
      go_wp2
      go_loopg [6] N (fun kq av wv => ∃ k : Nat, av = .int .i64 (k : Nat) ∧ k + kq = N ∧ Hd (Cnt wv gc N (upto k (T.pack x.t y.t).cnt)) ∧ Hd (Fr wc wv [gc]))
      case atStart => exact ⟨0, rfl, by omega, ⟨Cnt.congr HC5.out (fun s => by unfold upto; rw [if_neg (by omega)])⟩, ⟨Fr.refl _ _⟩⟩
      case round =>
        obtain ⟨k, rfl, hk2, HCN, HFv⟩ := hrel
        have FCv : Hd (Fr w wr []) := ⟨FC.out.trans HFv.out (fun z hz hm => by simp at hm; have := HG.out; have := hwr.out; omega)⟩
        have X6 := Hd.mk (HFv.out.blk HX5.out (by simpa using hcx.out))
        by_cases hkN : k < N
        · obtain ⟨ca, ca2, cb, cb2⟩ := CELL.out FCv.out
          have k2 := blk_cell X6.out 2
          simp only [List.getElem?_toArray, List.getElem?_cons_zero, List.getElem?_cons_succ] at k2
          have cx := Cnt.cell (ROk.frame (HOK.out x HXM.out) FCv.out (by simp)) hkN
          have cy := Cnt.cell (ROk.frame (HOK.out y HYM.out) FCv.out (by simp)) hkN
          have cc := HCN.out.cell hkN
          have cf := HCN.out.free k
          obtain ⟨u, hu⟩ : ∃ u, u = x.t.cnt k := ⟨_, rfl⟩
          obtain ⟨v, hv⟩ : ∃ v, v = y.t.cnt k := ⟨_, rfl⟩
          rw [← hu] at cx
          rw [← hv] at cy
          have hub : u ≤ C := by rw [hu]; exact HCC.out x HXM.out k
          have hvb : v ≤ C := by rw [hv]; exact HCC.out y HYM.out k
          obtain ⟨z, hz⟩ : ∃ z, z = upto k (T.pack x.t y.t).cnt k := ⟨_, rfl⟩
          rw [← hz] at cc
          have hput := HCN.out.put hkN (u + v)
          have hput2 : Cnt (wr.setCell ⟨gc, k, none⟩ (.int .i64 ((u : Int) + (v : Int)))) gc N (upto (k + 1) (T.pack x.t y.t).cnt) := Cnt.congr (by rw [show ((u : Int) + (v : Int)) = ((u + v : Nat) : Int) from by omega]; exact hput) (fun s => by
            unfold upto
            by_cases e : s = k
            · subst e
              rw [if_pos rfl, if_pos (by omega), T.cnt, hu, hv]
            · rw [if_neg e]
              by_cases e2 : s < k
              · rw [if_pos e2, if_pos (by omega)]
              · rw [if_neg e2, if_neg (by omega)])
          have HP2 := Hd.mk (hput2.frame (Fr.refl _ []).drew (by simp))
          have HF2 := Hd.mk (((HFv.out.setCell (a := ⟨gc, k, none⟩) (.int .i64 ((u : Int) + (v : Int))) (.inl (by simp)))).drew)
          have m1 : IntKind.i64.wrap ((u : Int) + (v : Int)) = (u : Int) + (v : Int) := IntWalk.i64_in _ (by omega)
          have m2 : IntKind.i64.wrap ((i : Int) + 1) = (i : Int) + 1 := IntWalk.i64_in _ (by omega)
          have m3 : (k : Int) < N := by omega
          clear hu hv hz hput hput2
          go_upto_region 9 with (fail)
          go_region
          clear ca ca2 cb cb2 k2 cx cy cc cf m1 m2
          go_wp2
          go_roundg (gk - 1)
          case measure => go_light; omega
          case rel => go_light; exact ⟨k + 1, by go_num, by omega, HP2, HF2⟩
        · obtain rfl : k = N := by omega
          have HCF : Hd (Cnt wr gc k (T.pack x.t y.t).cnt) := ⟨by
            have e : ∀ s, s < k → upto k (T.pack x.t y.t).cnt s = (T.pack x.t y.t).cnt s := fun s hs => by unfold upto; rw [if_pos hs]
            have h0 := HCN.out
            unfold Cnt at h0 ⊢
            rw [h0]
            congr 2
            unfold cv
            congr 1
            exact List.map_congr_left fun s hs => by rw [e s (by simpa using hs)]⟩
          have hsz : Hd (wo.heap.size ≤ wc.heap.size) := ⟨HFc.out.size⟩
          have W6 : Hd (wr.ownsRow 0 141 3 (.slice B m d) m (rencs k P)) := ⟨own_frame (own_frame HW.out HFc.out (by simp)) HFv.out (fun z hz hm => by simp at hm; have := own_lt HW.out hz; have := HG.out; omega)⟩
          have K6 : Hd (∀ p ∈ P, ROk wr k p ∧ w.heap.size ≤ p.g) := ⟨fun p hp => ⟨((HK.out p hp).1.frame HFc.out (by simp)).frame HFv.out (fun hm => by simp at hm; have := blk_lt (HK.out p hp).1; have := HG.out; omega), (HK.out p hp).2⟩⟩
          have k0 := blk_cell X6.out 0
          have k1 := blk_cell X6.out 1
          have k2 := blk_cell X6.out 2
          simp only [List.getElem?_toArray, List.getElem?_cons_zero, List.getElem?_cons_succ] at k0 k1 k2
          clear HX5 HC5 HCN HFv FC HW HK HF
          go_wp2_with (at_builtin; refine wpList_append_sl rfl (.tmp 63) (.tmp 65) 138 rfl 141 i0 (.agg #[.int .i64 0, .bool false, .slice none 0 0]) 3 40 Try.underlying138 hi0 hz0 hz1 hz2 rfl (by decide) (.slice B m d) m _ rfl (by exact W6.out.alloc _) (some ⟨wr.heap.size, 0, none⟩) 1 1 [.int .i64 ((x.t.wt : Int) + (y.t.wt : Int)), .bool false, .slice (some ⟨gc, 0, none⟩) k k] (some wr.heap.size) rfl rfl (by exact sl_of_blk (blk_new _ _)) (by intro h; cases h) (by intro u hu; simp at hu; rcases hu with rfl | rfl | rfl <;> rfl) (by unfold maxLen; omega) (by omega) ?_; intro A' c' w7 hown' hgrow haft; have O7 := Hd.mk hown'; have G7 := Hd.mk hgrow; have F7 := Hd.mk haft; clear hown' hgrow haft)
          clear k0 k1 k2
          go_roundg (gko - 1)
          case measure => go_light; omega
          case rel =>
            go_light
            refine ⟨i + 2, j + 1, A', m + 1, c', P ++ [⟨.pack x.t y.t, false, gc⟩], by go_num, rfl, ⟨by have := HI.out; omega⟩, by omega, by omega, by have := HI.out; have := HMJ.out; omega, ⟨by rw [List.length_append, HL.out]; rfl⟩, ⟨by rw [HMJ.out]⟩, ⟨?_⟩, ⟨?_⟩, ⟨fun z hz => ?_⟩, ⟨fun p hp => ?_⟩, ⟨(FCv.out.alloc _).grown G7.out (fun z hz => .inr (HB.out z hz))⟩⟩
            · have h6 := pk_get (ps.map (·.t)) j (by rw [List.length_map]; have := HI.out; omega)
              have hi2 : i + 2 = 2 * (j + 1) := by have := HI.out; omega
              rw [List.map_append, HP.out, hi2, ← pk_take, HI.out, ← pk_take, List.take_add_one, h6]
              simp only [List.getElem_map, List.map_cons, List.map_nil, Option.toList]
              have hI := HI.out
              subst hI
              rw [HX.out, HY.out]
            · rw [rencs_app]
              have h7 := O7.out
              have e7 : rencs k [⟨.pack x.t y.t, false, gc⟩] = [.int .i64 ((x.t.wt : Int) + (y.t.wt : Int)), .bool false, .slice (some ⟨gc, 0, none⟩) k k] := by simp [rencs, renc, T.wt]
              rw [e7]
              exact h7
            · rcases F7.out with h | ⟨u, h, hu⟩
              · rw [h] at hz; exact HB.out z hz
              · rw [h] at hz; cases hz
                have := FCv.out.size
                simp at hu
                omega
            · rcases List.mem_append.1 hp with hp | hp
              · exact ⟨blk_grown G7.out (blk_alloc (K6.out p hp).1 _) (fun e => own_ne W6.out (K6.out p hp).1 (by decide) e.symm), (K6.out p hp).2⟩
              · simp only [List.mem_cons, List.not_mem_nil, or_false] at hp
                subst hp
                exact ⟨blk_grown G7.out (blk_alloc HCF.out _) (fun e => own_ne W6.out HCF.out (by decide) e.symm), by have := HG.out; have := hwr.out; simp only; omega⟩
    · go_wp2
      go_ret
      unfold RPost
      have hpk : pk ((ps.map (·.t)).take i) = pk (ps.map (·.t)) := by
        have hI := HI.out
        rw [hI, ← pk_take, List.take_of_length_le (by rw [pk_len, List.length_map]; omega)]
      exact ⟨B, m, d, P, rfl, by rw [HP.out, hpk], HL.out, HW.out, HB.out, HK.out, HF.out⟩
end Go.Proofs.Ytofajcifjmhomaa.Lens
