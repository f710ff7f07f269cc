/- The finder's learn and best. Conditions: at most 2^40 bytes. -/
import Derived.Test.YtbfdokklhdmmoaaLzFind
set_option linter.unusedVariables false
set_option linter.unusedSimpArgs false
set_option maxRecDepth 100000
namespace Go.Proofs.Ytbfdokklhdmmoaa.Lz
open Go.RowKit Go.Maps Go.Proofs.Ytbfdokklhdmmoaa.Lib Go.Proofs.Ytbfdokklhdmmoaa.Num Go.Proofs.Ytbfdokklhdmmoaa.Bits

theorem zeroI (w : World) : (zeroValue 3).run Try.prog w = .ok (.int .i64 0) w := by kernel_rfl
theorem wfI {a : Int} (h0 : -9223372036854775808 ≤ a) (h1 : a ≤ 9223372036854775807) : (Lit.int .i64 a).wf = true := WalkArith.wf_i64 ⟨h0, h1⟩
section
variable {w w' : World} {g : Nat} {A : Option Addr} {n c : Nat} {d : List Int} {q : Option Nat} {k : Opt} {B : Nat} {E : Option Addr} {ec kn : Nat}
/-- the map alone: its entries up to kn -/
def Mp (w : World) (B : Nat) (d : List Int) (kn : Nat) : Prop := ∃ D : DataW U, w.ownsMap Try.prog 96 (plainElem Try.prog 3) B kn D ∧ MapOk d kn D
theorem Mp.frame {w w' : World} {B : Nat} {d : List Int} {kn : Nat} (h : Mp w B d kn) {F : List Nat} (hf : Fr w w' F) (hB : B ∉ F) : Mp w' B d kn := by
  obtain ⟨D, hD, hM⟩ := h
  obtain ⟨es, clock, hb, r⟩ := hD
  exact ⟨D, ⟨es, clock, hf.blk hb hB, r⟩, hM⟩
/-- what 'm[key]' gives -/
theorem Mp.look {w : World} {B : Nat} {d : List Int} {kn : Nat} (h : Mp w B d kn) (hb : Bytes d) (hk : kn + 3 ≤ d.length) : ∃ x : Int, (Instr.lookup 90 (.map (some B)) (kv d kn) true).run Try.prog w = .ok (.tuple #[.int .i64 x, .bool (decide (0 ≤ prev d kn))]) w ∧ (0 ≤ prev d kn → x = prev d kn) := by
  obtain ⟨D, hD, hM⟩ := h
  have hkey := kv_lit hb (p := kn) (by omega)
  obtain ⟨v, ps, hrun, hv⟩ := hD.look_ok law3 Try.underlying90 (zeroI w) (plainElem_int Try.underlying3 (by decide)) hkey
  obtain ⟨x, rfl, hx, _⟩ := plainElem_int_inv Try.underlying3 hv
  simp only [Prod.mk.injEq] at hx
  obtain ⟨h1, h2⟩ := hM kn hk
  refine ⟨x, ?_, fun h0 => ?_⟩
  · rw [hrun]
    rw [show Maps.has D (kl d kn) = decide (0 ≤ prev d kn) from ?_]
    by_cases h0 : 0 ≤ prevF d kn kn
    · rw [(h1 h0).2]; exact (decide_eq_true h0).symm
    · rw [h2 (by omega)]; exact (decide_eq_false h0).symm
  · have := (h1 h0).1
    rw [hx.1] at this
    injection this with this
    injection this
/-- 'm[key] = place' -/
theorem Mp.upd {w : World} {B : Nat} {d : List Int} {kn : Nat} (h : Mp w B d kn) (hb : Bytes d) (hk : kn + 3 ≤ d.length) (hn : d.length ≤ 1099511627776) : ∃ w', (Instr.mapUpdate 90 (.map (some B)) (kv d kn) (.int .i64 (kn : Nat))).run Try.prog w = .ok () w' ∧ Mp w' B d (kn + 1) ∧ Fr w w' [B] := by
  obtain ⟨D, hD, hM⟩ := h
  obtain ⟨w', hrun, h1, h2⟩ := hD.update law3 Try.underlying90 (by unfold maxLen; omega) (kv_lit hb hk) (plainElem_int Try.underlying3 (wfI (a := (kn : Nat)) (by omega) (by omega)))
  exact ⟨w', hrun, ⟨_, h1, hM.put hb hk hD.isMap⟩, (Fr.refl w [B]).grown h2 (fun y hy => .inl (by cases hy; simp))⟩
set_option maxHeartbeats 8000000 in
theorem learn_any (w : World) (a : Int) (ha : a < n) (hn : n ≤ 1099511627776) (hF : Fd w g A n c d q k B E ec kn) :
    Calls Try.prog 43 #[.pointer (some ⟨g, 0, none⟩), .int .i64 a] w fun e w' => e = .returned (.tuple #[]) ∧ ∃ E' ec' kn', kn ≤ kn' ∧ (∀ i : Nat, (i : Int) ≤ a → i + 3 ≤ n → i < kn') ∧ Fd w' g A n c d q k B E' ec' kn' ∧ Aft w (Value.slice E kn ec).ownBlock (Value.slice E' kn' ec').ownBlock ∧ Fr w w' (g :: B :: (Value.slice E kn ec).ownBlock.toList) := by
  obtain ⟨j0, hj0, hj1, hj2, hj3⟩ := info_parts infoI
  have HF := Hd.mk hF
  have hl := hF.len
  have hnc := hF.nc
  have hkl := hF.kle
  have hby := Hd.mk hF.byte
  clear hF
  go_enter Try.func43, Try.ntmps43
  go_wp2
  go_loopg [4, 5] (n - kn) (fun kq u4 u5 wr => ∃ (E1 : Option Addr) (ec1 k1 : Nat), k1 + kq = n ∧ kn ≤ k1 ∧ Hd (Fd wr g A n c d q k B E1 ec1 k1) ∧ Hd (Aft w (Value.slice E kn ec).ownBlock (Value.slice E1 k1 ec1).ownBlock) ∧ Hd (Fr w wr (g :: B :: (Value.slice E kn ec).ownBlock.toList)))
  case atStart => exact ⟨E, ec, kn, by omega, Nat.le_refl _, HF, ⟨Aft.refl _ _⟩, ⟨Fr.refl _ _⟩⟩
  case round =>
    obtain ⟨E1, ec1, k1, hk1, hkk, HF1, HA1, HW1⟩ := hrel
    obtain ⟨c0, c1, c2, c3, c4, c5, c6⟩ := HF1.out.cell
    by_cases h1 : (k1 : Int) ≤ a
    · have hd1 : decide ((k1 : Int) ≤ a) = true := decide_eq_true h1
      by_cases h2 : k1 + 3 ≤ n
      · have hd2 : decide ((k1 : Int) + 3 ≤ (n : Int)) = true := decide_eq_true (by omega)
        go_wp2
        go_quiet (fail)
        have HF2 := Hd.mk (HF1.out.frame ((Fr.refl wr []).drewN nq))
        have HW2 := Hd.mk (HW1.out.drewN nq)
        have HA2 := HA1
        clear HF1 HW1 HA1 c0 c1 c2 c3 c4 c5 c6
        generalize wr.drewN nq = w1 at *
        obtain ⟨c0, c1, c2, c3, c4, c5, c6⟩ := HF2.out.cell
        obtain ⟨b, hb⟩ : ∃ b, b = decide (0 ≤ prev d k1) := ⟨_, rfl⟩
        have HBB := Hd.mk hb
        clear hb
        go_upto_region 2 with (fail)
        go_cut [4, 5] from 32 to 46 (fun s4 s5 wd => ∃ x : Int, s4 = .int .i64 x ∧ s5 = .bool b ∧ Hd (Fr w1 wd []) ∧ Hd (0 ≤ prev d k1 → x = prev d k1))
        case first =>
          have K1 := Hd.mk (key_any w1.drew g A n c d q k1 h2 hn c0 (by exact HF2.out.data) hl hnc)
          go_region_with (go_loud (go_at_call 49; (with_reducible refine (K1.out).mono ?_); rintro e w2 ⟨rfl, f1⟩; have F2 := Hd.mk (((Fr.refl w1 []).drew).trans f1 (by simp)); have HF3 := Hd.mk (HF2.out.frame F2.out); obtain ⟨e0, e1, e2, e3, e4, e5, e6⟩ := HF3.out.cell; obtain ⟨x, hlook, hx⟩ := Mp.look (show Mp w2 B d k1 from HF3.out.map) hby.out (by omega); rw [← HBB.out] at hlook; have HXX := Hd.mk hx; clear f1 hx))
          all_goals
            go_wp2
            go_meet
            exact ⟨x, rfl, rfl, F2, HXX⟩
        case rest =>
          obtain ⟨x, rfl, rfl, F2, HXX⟩ := hcut
          obtain ⟨pv, hpv⟩ : ∃ pv, pv = prev d k1 := ⟨_, rfl⟩
          have HPV := Hd.mk hpv
          have HFc := Hd.mk (HF2.out.frame F2.out)
          have HWc := Hd.mk (HW2.out.trans F2.out (by simp))
          clear hpv c0 c1 c2 c3 c4 c5 c6 HF2 HW2 F2
          go_upto_if 47 with (fail)
          go_cut [4] from 48 to 48 (fun s4 wd => s4 = .int .i64 pv ∧ wd = wc)
          case first =>
            cases b with
            | true =>
              have h0 : 0 ≤ prev d k1 := of_decide_eq_true HBB.out.symm
              obtain rfl : x = pv := by rw [HPV.out]; exact HXX.out h0
              go_wp2
              go_meet
              exact ⟨rfl, rfl⟩
            | false =>
              have h0 : ¬ 0 ≤ prev d k1 := of_decide_eq_false HBB.out.symm
              obtain rfl : pv = -1 := by rw [HPV.out]; have := prevF_lt d k1 k1; unfold prev at h0 ⊢; omega
              go_wp2
              go_meet
              exact ⟨rfl, rfl⟩
          case rest =>
            obtain ⟨rfl, rfl⟩ := hcut
            obtain ⟨wa, rfl⟩ : ∃ wa : World, wa = wc := ⟨_, rfl⟩
            obtain ⟨c0, c1, c2, c3, c4, c5, c6⟩ := HFc.out.cell
            have hgl := HFc.out.lt.1
            have hne := HFc.out.ne
            have hbw : Hd (wa.heap[g]? = some (.cells #[.slice A n c, .int .i64 k.window, .int .i64 k.chain, .bool k.isLazy, .map (some B), .slice E1 k1 ec1, .int .i64 (k1 : Nat)] 92 (0, 0))) := ⟨HFc.out.blk⟩
            go_upto_region 5 with (fail)
            go_cut [] from 48 to 58 (fun wd => ∃ E3 ec3, Hd (wd.heap[g]? = some (.cells #[.slice A n c, .int .i64 k.window, .int .i64 k.chain, .bool k.isLazy, .map (some B), .slice E3 (k1 + 1) ec3, .int .i64 (k1 : Nat)] 92 (0, 0))) ∧
              Hd (wd.ownsRow 0 3 1 (.slice E3 (k1 + 1) ec3) (k1 + 1) (links d (k1 + 1))) ∧ Hd (Aft wa (Value.slice E1 k1 ec1).ownBlock (Value.slice E3 (k1 + 1) ec3).ownBlock) ∧ Hd (Fr wa wd (g :: (Value.slice E1 k1 ec1).ownBlock.toList)))
            case first =>
              go_wp2_with (at_builtin; refine wpList_append_sl rfl (.tmp 52) (.tmp 54) 86 rfl 3 j0 (.int .i64 0) 1 8 Try.underlying86 hj0 hj1 hj2 hj3 rfl (by decide) (.slice E1 k1 ec1) k1 _ rfl (by exact HFc.out.own.alloc _) (some ⟨wa.heap.size, 0, none⟩) 1 1 [.int .i64 pv] (some wa.heap.size) rfl rfl (by exact sl_of_blk (blk_new _ _)) (by intro h; cases h) (by intro u hu; simp at hu; rcases hu with rfl; rfl) (by unfold maxLen; omega) (by omega) ?_; intro E3 ec3 w4 hown' hgrow haft; have O3 := Hd.mk hown'; have G3 := Hd.mk hgrow; have F3 := Hd.mk haft; have hb4 := blk_grown hgrow (blk_alloc hbw.out _) (fun e => hne.2.1 e.symm); have f0 := blk_frozen hb4 5; have e0 := blk_cell hb4 5; simp only [List.getElem?_toArray, List.getElem?_cons_zero, List.getElem?_cons_succ] at e0; have HB4 := Hd.mk hb4; clear hown' hgrow haft hb4)
              go_meet
              exact ⟨E3, ec3, ⟨by simpa using blk_set HB4.out 5 (.slice E3 (k1 + 1) ec3)⟩, ⟨own_setFar (by rw [links_succ, ← HPV.out]; exact O3.out) _ (own_ne O3.out HB4.out (by decide))⟩, ⟨by
                rcases F3.out with h | ⟨z, h, hz⟩
                · exact .inl h
                · exact .inr ⟨z, h, by simp at hz; omega⟩⟩, ⟨(((Fr.refl wa _).alloc _).grown G3.out (fun y hy => .inl (by simp [hy]))).setCell _ (.inl (by simp))⟩⟩
            case rest =>
              obtain ⟨E3, ec3, HB5, HO5, HA5, HF5⟩ := hcut
              obtain ⟨wb, rfl⟩ : ∃ wb : World, wb = wc := ⟨_, rfl⟩
              have hqn := HFc.out.qne
              have HD5 : Hd (Sl wb A (u8s d) q) := ⟨HFc.out.data.frame HF5.out (fun y hy hm => by
                rcases List.mem_cons.1 hm with e | e
                · exact hqn.1 (by rw [hy, e])
                · exact hqn.2.2 y hy (by simpa using e))⟩
              have HM5 : Hd (Mp wb B d k1) := ⟨Mp.frame (show Mp wa B d k1 from HFc.out.map) HF5.out (fun hm => by
                rcases List.mem_cons.1 hm with e | e
                · exact hne.1 e
                · exact hne.2.2 (by simpa using e))⟩
              have b0 := blk_cell HB5.out 0
              have b4 := blk_cell HB5.out 4
              have b6 := blk_cell HB5.out 6
              simp only [List.getElem?_toArray, List.getElem?_cons_zero, List.getElem?_cons_succ] at b0 b4 b6
              clear c0 c1 c2 c3 c4 c5 c6 hbw
              have K2 := Hd.mk (key_any wb.drew g A n c d q k1 h2 hn b0 (by exact HD5.out) hl hnc)
              go_wp2
              go_region_with (first | (go_at_call 49; (with_reducible refine (K2.out).mono ?_); rintro e w2 ⟨rfl, f1⟩; have F2 := Hd.mk (((Fr.refl wb []).drew).trans f1 (by simp)); have hb2 := F2.out.blk HB5.out (by simp); have e4 := blk_cell hb2 4; have e6 := blk_cell hb2 6; simp only [List.getElem?_toArray, List.getElem?_cons_zero, List.getElem?_cons_succ] at e4 e6; obtain ⟨w7, hupd, hm7, hf7⟩ := Mp.upd (HM5.out.frame F2.out (by simp)) hby.out (by omega) (by omega); have M7 := Hd.mk hm7; have F7 := Hd.mk ((F2.out.mono (G := [B]) (by simp)).trans hf7 (fun y hy hm => hm)); have hb7 := F7.out.blk HB5.out (by simp; exact fun e => hne.1 e.symm); have b6p := blk_cell hb7 6; have z6p := blk_frozen hb7 6; simp only [List.getElem?_toArray, List.getElem?_cons_zero, List.getElem?_cons_succ] at b6p; have HB7 := Hd.mk hb7; clear f1 hm7 hf7 hb2 hb7))
              all_goals
                go_wp2
                go_roundg (gk - 1)
                case measure => omega
                case rel =>
                  have hfr : Fr w (w7.setCell ⟨g, 6, none⟩ (.int .i64 ((k1 + 1 : Nat) : Int))) (g :: B :: (Value.slice E kn ec).ownBlock.toList) := by
                    refine (((HWc.out.trans HF5.out (fun y hy hm => ?_)).trans F7.out (fun y hy hm => ?_)).setCell _ (.inl (by simp)))
                    · rcases List.mem_cons.1 hm with e | e
                      · simp [e]
                      · rcases HA2.out.mem e with h | h
                        · simp [h]
                        · omega
                    · simp at hm; simp [hm]
                  have hqn := HFc.out.qne
                  have hat : Aft w (Value.slice E kn ec).ownBlock (Value.slice E3 (k1 + 1) ec3).ownBlock := HA2.out.trans HA5.out HWc.out.size
                  have hO7 := own_frame HO5.out F7.out (fun y hy hm => by
                    simp at hm
                    subst hm
                    rcases HA5.out with h | ⟨z, h, hz⟩
                    · rw [h] at hy; exact hne.2.2 hy
                    · rw [h] at hy; cases hy; have := HFc.out.lt.2; omega)
                  have hD7 := HD5.out.frame F7.out (fun y hy hm => by simp at hm; subst hm; exact hqn.2.1 hy)
                  refine ⟨E3, ec3, k1 + 1, by omega, by omega, ⟨⟨by simpa using blk_set HB7.out 6 (.int .i64 ((k1 + 1 : Nat) : Int)), hD7.frame ((Fr.refl _ [g]).setCell _ (.inl (by simp))) (fun y hy hm => by simp at hm; subst hm; exact hqn.1 hy), hl, hnc, hby.out, by omega, Mp.frame M7.out ((Fr.refl _ [g]).setCell _ (.inl (by simp))) (by simp; exact hne.1), own_setFar hO7 _ (own_ne hO7 HB7.out (by decide)), fun y hy => ?_, hqn.1, hqn.2.1, fun y hy hz => ?_⟩⟩, ⟨hat⟩, ⟨hfr⟩⟩
                  · have h1 := HFc.out.qlt y hy
                    have h2 := HF5.out.size
                    have h3 := F7.out.size
                    rw [World.size_setCell]
                    omega
                  · rcases HA5.out with h | ⟨z, h, hz'⟩
                    · rw [h] at hz; exact hqn.2.2 y hy hz
                    · rw [h] at hz; cases hz; have := HFc.out.qlt _ hy; omega
      · have hd2 : decide ((k1 : Int) + 3 ≤ (n : Int)) = false := decide_eq_false (by omega)
        go_wp2
        go_quiet (fail)
        go_wp2
        go_end0
        exact ⟨rfl, E1, ec1, k1, hkk, fun i h3 h4 => by omega, HF1.out.frame ((Fr.refl wr []).drewN nq), HA1.out, HW1.out.drewN nq⟩
    · have hd1 : decide ((k1 : Int) ≤ a) = false := decide_eq_false h1
      go_wp2
      go_quiet (fail)
      go_wp2
      go_end0
      exact ⟨rfl, E1, ec1, k1, hkk, fun i h3 h4 => by omega, HF1.out.frame ((Fr.refl wr []).drewN nq), HA1.out, HW1.out.drewN nq⟩
end
end Go.Proofs.Ytbfdokklhdmmoaa.Lz
