/- The document's Parse. Conditions: at most 2^20 bytes. -/
import Derived.Test.YtbfdokklhdmmoaaLzBest2
import Derived.Test.YtbfdokklhdmmoaaLzPlain2
set_option linter.unusedVariables false
set_option linter.unusedSimpArgs false
set_option maxRecDepth 100000
namespace Go.Proofs.Ytbfdokklhdmmoaa.Lz
open Go.RowKit Go.Maps Go.Proofs.Ytbfdokklhdmmoaa.Lib Go.Proofs.Ytbfdokklhdmmoaa.Num Go.Proofs.Ytbfdokklhdmmoaa.Bits

theorem infoTok : (Try.prog.info? 56).map (fun i => (i.zero, i.size, i.bytes)) = some (some (.agg #[.int .u8 0, .int .i64 0, .int .i64 0]), 3, 24) := by kernel_rfl
theorem infoTokR : (Try.prog.info? 74).map (fun i => (i.zero, i.size, i.bytes)) = some (some (.agg #[.int .u8 0, .int .i64 0, .int .i64 0]), 3, 24) := by kernel_rfl
theorem bestAll_ok {d : List Int} {p : Nat} {k : Opt} (hk : optErr k = 0) (hp : p < d.length) : bestAll d (p : Nat) k = (best d p k.window.toNat k.chain.toNat, 0) := by
  unfold bestAll
  rw [if_neg (by rw [hk]; simp), if_neg (by omega)]
  rfl
theorem tokOwn_new {wo w : World} {q q' : Option Nat} (hB : ∀ x, q = some x → wo.heap.size ≤ x) (hs : wo.heap.size ≤ w.heap.size) {o : Obj} (h : Aft (w.alloc o) q q') : ∀ y, q' = some y → wo.heap.size ≤ y := by
  intro y hy
  rcases h with e | ⟨z, e, hz⟩
  · rw [e] at hy; exact hB y hy
  · rw [e] at hy; cases hy; simp at hz; omega
set_option maxHeartbeats 8000000 in
theorem rparse_any (w : World) (A : Option Addr) (n c : Nat) (d : List Int) (q : Option Nat) (k : Opt) (hS : SlArg w A n c (u8s d) q) (hn : n ≤ 1048576) (er : Int) (ts : List Tok) (her : er = optErr k) (hts : ts = parse d k) :
    Calls Try.prog 25 #[.slice A n c, .agg #[.int .i64 k.window, .int .i64 k.chain, .bool k.isLazy]] w fun e w' => ∃ A' m dd, e = .returned (.tuple #[.slice A' m dd, .int .i64 er]) ∧
      w'.ownsRow 0 74 3 (.slice A' m dd) m (tcells ts) ∧ (∀ y, (Value.slice A' m dd).ownBlock = some y → w.heap.size ≤ y) ∧ Fr w w' [] := by
  obtain ⟨i0, hi0, hz0, hz1, hz2⟩ := info_parts infoTokR
  have HS := Hd.mk hS
  have hl : d.length = n := by have := hS.len; simpa [u8s] using this
  have HE := Hd.mk her
  have HT := Hd.mk hts
  have her2 : er = 0 ∨ er = 72 := her ▸ optErr_two k
  clear hS her hts
  go_enter Try.func25, Try.ntmps25
  go_wp2_with (fail)
  refine (ropt_any _ k er HE.out).mono ?_
  rintro e w1 ⟨rfl, h1⟩
  have hbk := h1.blk (blk_new w (.cells #[.int .i64 k.window, .int .i64 k.chain, .bool k.isLazy] 44)) (by simp)
  have F1 := Hd.mk (((Fr.refl w []).alloc (.cells #[.int .i64 k.window, .int .i64 k.chain, .bool k.isLazy] 44)).trans h1 (by simp))
  obtain ⟨kb, hkb⟩ : ∃ kb, kb = w.heap.size := ⟨_, rfl⟩
  rw [← hkb] at hbk ⊢
  have HKB := Hd.mk hbk
  clear h1 hbk hkb
  rcases her2 with rfl | rfl
  · have HX : Hd (ts = parseF d k n 0) := ⟨by rw [HT.out]; unfold parse; rw [if_pos HE.out.symm, hl]⟩
    have hzb : kb < w1.heap.size := blk_lt HKB.out
    go_wp2
    go_loopg [7, 8] n (fun kq sv pv wr => ∃ (p : Nat) (A1 : Option Addr) (m d1 : Nat) (P : List Tok), sv = .slice A1 m d1 ∧ pv = .int .i64 (p : Nat) ∧ p + kq = n ∧ m ≤ p ∧ Hd (ts = P ++ parseF d k n p) ∧ Hd (wr.ownsRow 0 74 3 (.slice A1 m d1) m (tcells P)) ∧ Hd (∀ y, (Value.slice A1 m d1).ownBlock = some y → w1.heap.size ≤ y) ∧ Hd (Fr w1 wr []))
    case atStart => exact ⟨0, none, 0, 0, [], rfl, rfl, by omega, by omega, HX, ⟨own_nil _ _ _ _⟩, ⟨by intro y hy; cases hy⟩, ⟨Fr.refl _ _⟩⟩
    case round =>
      obtain ⟨p, A1, m, d1, P, rfl, rfl, hp, hmp, HP, HO, HB, HF⟩ := hrel
      by_cases h1 : p < n
      · have hkb := HF.out.blk HKB.out (by simp)
        have b0 := blk_cell hkb 0
        have b1 := blk_cell hkb 1
        have b2 := blk_cell hkb 2
        simp only [List.getElem?_toArray, List.getElem?_cons_zero, List.getElem?_cons_succ] at b0 b1 b2
        clear hkb
        obtain ⟨r1, hr1⟩ : ∃ r1, r1 = (best d p k.window.toNat k.chain.toNat).1 := ⟨_, rfl⟩
        obtain ⟨r2, hr2⟩ : ∃ r2, r2 = (best d p k.window.toNat k.chain.toNat).2 := ⟨_, rfl⟩
        have hgood := best_good (d := d) (p := p) (w := k.window.toNat) (ch := k.chain.toNat) (by omega)
        have hrb : r1 ≤ 258 ∧ (r1 ≠ 0 → p + r1 ≤ n) := by
          rw [hr1]
          rcases hgood with h | h
          · omega
          · omega
        have HR1 := Hd.mk hr1
        have HR2 := Hd.mk hr2
        obtain ⟨tk, htk⟩ : ∃ tk, tk = taken d k p := ⟨_, rfl⟩
        have HTK := Hd.mk htk
        have htk0 : tk = 0 ∨ tk = r1 := by rw [htk, hr1]; exact taken_good (by omega)
        have HST : Hd (parseF d k n p = tokAt d k p :: parseF d k n (p + stepAt d k p)) := ⟨parseF_step (by omega) (by omega)⟩
        clear hr1 hr2 hgood htk
        go_wp2_with (fail)
        refine (rbest_any wr A n c d q (p : Nat) k (HS.out.frame (F1.out.trans HF.out (by simp)) (by simp)) (by omega) ((r1, r2), 0) (by rw [bestAll_ok HE.out.symm (by omega), HR1.out, HR2.out])).mono ?_
        rintro e w3 ⟨rfl, h3g⟩
        have HF3 := Hd.mk (HF.out.trans h3g (by simp))
        have HO3 := Hd.mk (own_frame HO.out h3g (by simp))
        clear h3g b0 b1 b2
        have hkb := HF3.out.blk HKB.out (by simp)
        have b0 := blk_cell hkb 0
        have b1 := blk_cell hkb 1
        have b2 := blk_cell hkb 2
        simp only [List.getElem?_toArray, List.getElem?_cons_zero, List.getElem?_cons_succ] at b0 b1 b2
        clear hkb
        obtain ⟨lz, hlz⟩ : ∃ lz, lz = k.isLazy := ⟨_, rfl⟩
        rw [← hlz] at b2
        have HLZ := Hd.mk hlz
        clear hlz
        obtain ⟨bt, hbt⟩ : ∃ bt, bt = (decide (0 < r1) && (lz && decide (p + 1 < n))) := ⟨_, rfl⟩
        have HBT := Hd.mk hbt
        clear hbt
        go_upto_region 8 with (fail)
        go_cut [44] from 32 to 45 (fun s44 wd => s44 = .bool bt ∧ wd = w3)
        case first =>
          by_cases h2 : 0 < r1
          · cases lz with
            | true =>
              by_cases h3 : p + 1 < n
              · obtain rfl : bt = true := by rw [HBT.out, decide_eq_true h2, decide_eq_true h3]; rfl
                go_wp2
                go_meet
                exact ⟨by rw [show decide ((p : Int) + 1 < (n : Int)) = true from decide_eq_true (by omega)], rfl⟩
              · obtain rfl : bt = false := by rw [HBT.out, decide_eq_false h3]; simp
                go_wp2
                go_meet
                exact ⟨by rw [show decide ((p : Int) + 1 < (n : Int)) = false from decide_eq_false (by omega)], rfl⟩
            | false =>
              obtain rfl : bt = false := by rw [HBT.out]; simp
              go_wp2
              go_meet
              exact ⟨rfl, rfl⟩
          · obtain rfl : bt = false := by rw [HBT.out, decide_eq_false h2]; rfl
            obtain rfl : r1 = 0 := by omega
            go_wp2
            go_meet
            exact ⟨rfl, rfl⟩
        case rest =>
          obtain ⟨rfl, rfl⟩ := hcut
          obtain ⟨wa, rfl⟩ : ∃ wa : World, wa = wc := ⟨_, rfl⟩
          go_upto_if 44 with (fail)
          go_cut [9] from 45 to 57 (fun s9 wd => s9 = .int .i64 (tk : Nat) ∧ Hd (Fr wa wd []))
          case first =>
            cases bt with
            | false =>
              obtain rfl : tk = r1 := by
                rw [HTK.out]
                unfold taken
                rw [if_neg]
                · exact HR1.out.symm
                · intro h
                  have := HBT.out
                  rw [← HR1.out, ← HLZ.out, hl] at h
                  rw [decide_eq_true h.1, h.2.1, decide_eq_true h.2.2.1] at this
                  cases this
              go_wp2
              go_meet
              exact ⟨rfl, ⟨Fr.refl _ _⟩⟩
            | true =>
              have hbt := HBT.out
              simp only [Bool.true_eq, Bool.and_eq_true, decide_eq_true_eq] at hbt
              obtain ⟨hb1, hb2, hb3⟩ := hbt
              obtain ⟨s1, hs1⟩ : ∃ s1, s1 = (best d (p + 1) k.window.toNat k.chain.toNat).1 := ⟨_, rfl⟩
              obtain ⟨s2, hs2⟩ : ∃ s2, s2 = (best d (p + 1) k.window.toNat k.chain.toNat).2 := ⟨_, rfl⟩
              have hsg : s1 ≤ 258 := by
                have hgood := best_good (d := d) (p := p + 1) (w := k.window.toNat) (ch := k.chain.toNat) (by omega)
                rw [hs1]
                rcases hgood with h | h
                · omega
                · omega
              have HTK2 : Hd (tk = if r1 < s1 then 0 else r1) := ⟨by
                rw [HTK.out]
                unfold taken
                rw [← HR1.out, ← HLZ.out, hl, ← hs1]
                by_cases e : r1 < s1
                · rw [if_pos e, if_pos ⟨hb1, hb2, hb3, e⟩]
                · rw [if_neg e, if_neg (fun h => e h.2.2.2)]⟩
              have HS1 := Hd.mk hs1
              have HS2 := Hd.mk hs2
              clear hs1 hs2
              go_wp2_with (fail)
              refine (rbest_any wa A n c d q ((p : Int) + 1) ⟨k.window, k.chain, true⟩ (HS.out.frame (F1.out.trans HF3.out (by simp)) (by simp)) (by omega) ((s1, s2), 0) (by rw [show (p : Int) + 1 = ((p + 1 : Nat) : Int) from rfl, bestAll_ok (k := ⟨k.window, k.chain, true⟩) HE.out.symm (by omega), HS1.out, HS2.out])).mono ?_
              rintro e w4 ⟨rfl, h4g⟩
              have HF4 := Hd.mk h4g
              clear h4g
              by_cases h5 : r1 < s1
              · obtain rfl : tk = 0 := by rw [HTK2.out, if_pos h5]
                go_wp2
                go_meet
                exact ⟨rfl, HF4⟩
              · obtain rfl : tk = r1 := by rw [HTK2.out, if_neg h5]
                go_wp2
                go_meet
                exact ⟨rfl, HF4⟩
          case rest =>
            obtain ⟨rfl, HF5⟩ := hcut
            have HO5 := Hd.mk (own_frame HO3.out HF5.out (by simp))
            have HG5 := Hd.mk (HF3.out.trans HF5.out (by simp))
            by_cases h6 : tk = 0
            · subst h6
              have HTA : Hd (tokAt d k p = ⟨at0 d p, 0, 0⟩ ∧ stepAt d k p = 1) := ⟨by unfold tokAt stepAt; rw [← HTK.out]; exact ⟨rfl, rfl⟩⟩
              obtain ⟨b, off, e1, _, hcc⟩ := (HS.out.sl.frame (F1.out.trans HG5.out (by simp)) (by simp)) (by rw [u8s_length]; omega)
              subst e1
              have kc := (hcc p (by rw [u8s_length]; omega)).trans (u8s_at (by omega))
              obtain ⟨x, hx⟩ : ∃ x, x = at0 d p := ⟨_, rfl⟩
              rw [← hx] at kc
              have HXX := Hd.mk hx
              clear hcc hx b0 b1 b2
              go_wp2_with (at_builtin; refine wpList_append_sl rfl (.tmp 59) (.tmp 65) 23 rfl 74 i0 (.agg #[.int .u8 0, .int .i64 0, .int .i64 0]) 3 24 Try.underlying23 hi0 hz0 hz1 hz2 rfl (by decide) (.slice A1 m d1) m _ rfl (by exact HO5.out.alloc _) (some ⟨wc.heap.size, 0, none⟩) 1 1 [.int .u8 x, .int .i64 0, .int .i64 0] (some wc.heap.size) rfl rfl (by exact sl_of_blk (blk_new _ _)) (by intro h; cases h) (by intro u hu; simp at hu; rcases hu with rfl | rfl | rfl <;> rfl) (by unfold maxLen; omega) (by omega) ?_; intro A3 d3 w6 hown' hgrow haft; have O3 := Hd.mk hown'; have G3 := Hd.mk hgrow; have F3 := Hd.mk haft; clear hown' hgrow haft)
              go_roundg (gk - 1)
              case measure => omega
              case rel =>
                refine ⟨p + 1, A3, m + 1, d3, P ++ [tokAt d k p], rfl, by go_num, by omega, by omega, ⟨by rw [HP.out, HST.out, HTA.out.2, List.append_assoc]; rfl⟩, ⟨?_⟩, ⟨tokOwn_new HB.out HG5.out.size F3.out⟩, ⟨(HG5.out.alloc _).grown G3.out (fun y hy => .inr (HB.out y hy))⟩⟩
                rw [tcells_app, HTA.out.1, ← HXX.out]
                exact O3.out
            · obtain rfl : tk = r1 := by omega
              have e6 : ((tk : Int) == 0) = false := by simp; omega
              have HTA : Hd (tokAt d k p = ⟨0, tk, r2⟩ ∧ stepAt d k p = tk) := ⟨by unfold tokAt stepAt; rw [← HTK.out, if_neg h6, if_neg h6, ← HR2.out]; exact ⟨rfl, rfl⟩⟩
              clear b0 b1 b2
              go_wp2_with (at_builtin; refine wpList_append_sl rfl (.tmp 69) (.tmp 73) 23 rfl 74 i0 (.agg #[.int .u8 0, .int .i64 0, .int .i64 0]) 3 24 Try.underlying23 hi0 hz0 hz1 hz2 rfl (by decide) (.slice A1 m d1) m _ rfl (by exact HO5.out.alloc _) (some ⟨wc.heap.size, 0, none⟩) 1 1 [.int .u8 0, .int .i64 (tk : Nat), .int .i64 (r2 : Nat)] (some wc.heap.size) rfl rfl (by exact sl_of_blk (blk_new _ _)) (by intro h; cases h) (by intro u hu; simp at hu; rcases hu with rfl | rfl | rfl <;> rfl) (by unfold maxLen; omega) (by omega) ?_; intro A3 d3 w6 hown' hgrow haft; have O3 := Hd.mk hown'; have G3 := Hd.mk hgrow; have F3 := Hd.mk haft; clear hown' hgrow haft)
              go_roundg (gk - tk)
              case measure => omega
              case rel =>
                refine ⟨p + tk, A3, m + 1, d3, P ++ [tokAt d k p], rfl, by go_num, by omega, by omega, ⟨by rw [HP.out, HST.out, HTA.out.2, List.append_assoc]; rfl⟩, ⟨?_⟩, ⟨tokOwn_new HB.out HG5.out.size F3.out⟩, ⟨(HG5.out.alloc _).grown G3.out (fun y hy => .inr (HB.out y hy))⟩⟩
                rw [tcells_app, HTA.out.1]
                exact O3.out
      · obtain rfl : p = n := by omega
        have hpp : Hd (ts = P) := ⟨by rw [HP.out, parseF_end (by omega), List.append_nil]⟩
        go_wp2
        go_ret2
        exact ⟨A1, m, d1, rfl, by rw [hpp.out]; exact HO.out, fun y hy => Nat.le_trans F1.out.size (HB.out y hy), F1.out.trans HF.out (by simp)⟩
  · obtain rfl : ts = [] := by rw [HT.out]; unfold parse; rw [if_neg (by rw [← HE.out]; simp)]
    go_wp2
    go_ret2
    exact ⟨none, 0, 0, rfl, own_nil _ _ _ _, (by intro j hj; cases hj), F1.out⟩
end Go.Proofs.Ytbfdokklhdmmoaa.Lz
