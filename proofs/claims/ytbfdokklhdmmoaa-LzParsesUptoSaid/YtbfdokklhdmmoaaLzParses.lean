/- LzParses' walk. Conditions: at most 2^20 bytes. -/
import Derived.Test.YtbfdokklhdmmoaaLzBests
set_option linter.unusedVariables false
set_option linter.unusedSimpArgs false
set_option maxRecDepth 100000
namespace Go.Proofs.Ytbfdokklhdmmoaa.Lz
open Go.RowKit Go.Maps Go.Proofs.Ytbfdokklhdmmoaa.Lib Go.Proofs.Ytbfdokklhdmmoaa.Num Go.Proofs.Ytbfdokklhdmmoaa.Bits

set_option maxHeartbeats 16000000 in
theorem parses_walk (A : Option Addr) (n c : Nat) (xs : List Int) (q : Option Nat) (k : Opt) (W : World) (hS : SlArg W A n c (u8s xs) q) (hw : ∀ x ∈ xs, (Lit.int .u8 x).wf = true) (hb : n ≤ 1048576) :
    Calls Try.prog 5 #[.slice A n c, .agg #[.int .i64 k.window, .int .i64 k.chain, .bool k.isLazy]] W fun e w' => e = .returned (.bool true) ∧ Below W.heap.size W w' := by
  obtain ⟨i0, hi0, hz0, hz1, hz2⟩ := info_parts infoTok
  have HS := Hd.mk hS
  have hl : xs.length = n := by have := hS.len; simpa [u8s] using this
  have HBy : Hd (Bytes xs) := ⟨fun x hx => bounds_u8 (hw x hx)⟩
  clear hS hw
  obtain ⟨er, her⟩ : ∃ er, er = optErr k := ⟨_, rfl⟩
  obtain ⟨ts, hts⟩ : ∃ ts, ts = parse xs k := ⟨_, rfl⟩
  have htl : ts.length ≤ n := by
    rw [hts, ← hl]
    by_cases h : optErr k = 0
    · exact (parse_law h).2.2.2
    · unfold parse; rw [if_neg h]; exact Nat.zero_le _
  have HE := Hd.mk her
  have HT := Hd.mk hts
  clear her hts
  have F0 := (Fr.refl W []).alloc (.cells #[.int .i64 k.window, .int .i64 k.chain, .bool k.isLazy] 44)
  have hk0 := blk_new W (.cells #[.int .i64 k.window, .int .i64 k.chain, .bool k.isLazy] 44)
  go_enter Try.func5, Try.ntmps5
  go_upto_region 1 with (fail)
  obtain ⟨kb, hkb⟩ : ∃ kb, kb = W.heap.size := ⟨_, rfl⟩
  rw [← hkb] at hk0 ⊢
  generalize hw0 : W.alloc (.cells #[.int .i64 k.window, .int .i64 k.chain, .bool k.isLazy] 44) = w0
  rw [hw0] at F0 hk0
  have HF0 := Hd.mk F0
  have HK0 := Hd.mk hk0
  clear F0 hk0 hw0 hkb
  go_wp2_with (fail)
  refine (lend_any w0 A n c xs q (HS.out.frame HF0.out (by simp)) (by omega)).mono ?_
  rintro e w1 ⟨g, d1, rfl, h1, h2, h3⟩
  have O1 := Hd.mk h1
  have F1 := Hd.mk (HF0.out.trans h3 (by simp))
  have K1 := Hd.mk (h3.blk HK0.out (by simp))
  have b0 := blk_cell K1.out 0
  have b1 := blk_cell K1.out 1
  have b2 := blk_cell K1.out 2
  simp only [List.getElem?_toArray, List.getElem?_cons_zero, List.getElem?_cons_succ] at b0 b1 b2
  clear h1 h2 h3
  go_wp2_with (fail)
  refine (look_any w1 k).mono ?_
  rintro e w2 ⟨rfl, h3⟩
  have O2 := Hd.mk (own_frame O1.out h3 (by simp))
  have F2 := Hd.mk (F1.out.trans h3 (by simp))
  have K2 := Hd.mk (h3.blk K1.out (by simp))
  clear h3 b0 b1 b2 O1
  go_wp2_with (fail)
  refine (parse_any w2 (some ⟨g, 0, none⟩) n d1 xs _ k (by exact lent_part O2.out hl) HBy.out hb er ts HE.out HT.out).mono ?_
  rintro e w3 ⟨Aa, ma, da, rfl, h1, h2, h3⟩
  obtain rfl : ma = ts.length := (toks_of_own h1).symm
  have OA3 := Hd.mk h1
  have BA := Hd.mk (fun y hy => Nat.le_trans F2.out.size (h2 y hy) : ∀ y, (Value.slice Aa ts.length da).ownBlock = some y → W.heap.size ≤ y)
  have LA := Hd.mk (fun y hy => own_lt h1 hy : ∀ y, (Value.slice Aa ts.length da).ownBlock = some y → y < w3.heap.size)
  have O3 := Hd.mk (own_frame O2.out h3 (by simp))
  have F3 := Hd.mk (F2.out.trans h3 (by simp))
  have K3 := Hd.mk (h3.blk K2.out (by simp))
  have b0 := blk_cell K3.out 0
  have b1 := blk_cell K3.out 1
  have b2 := blk_cell K3.out 2
  simp only [List.getElem?_toArray, List.getElem?_cons_zero, List.getElem?_cons_succ] at b0 b1 b2
  clear h1 h2 h3
  go_wp2_with (fail)
  refine (look_any w3 k).mono ?_
  rintro e w4 ⟨rfl, h3⟩
  have OA4 := Hd.mk (own_frame OA3.out h3 (by simp))
  have O4 := Hd.mk (own_frame O3.out h3 (by simp))
  have F4 := Hd.mk (F3.out.trans h3 (by simp))
  have K4 := Hd.mk (h3.blk K3.out (by simp))
  have L34 := h3.size
  clear h3 b0 b1 b2
  go_wp2_with (fail)
  refine (parse_any w4 (some ⟨g, 0, none⟩) n d1 xs _ k (by exact lent_part O4.out hl) HBy.out hb er ts HE.out HT.out).mono ?_
  rintro e w5 ⟨Ab, mb, db, rfl, h1, h2, h3⟩
  obtain rfl : mb = ts.length := (toks_of_own h1).symm
  have OB5 := Hd.mk h1
  have NAB : Hd (∀ y, (Value.slice Aa ts.length da).ownBlock = some y → (Value.slice Ab ts.length db).ownBlock ≠ some y) := ⟨fun y hy hz => by have := LA.out y hy; have := h2 y hz; omega⟩
  have OA5 := Hd.mk (own_frame OA4.out h3 (by simp))
  have O5 := Hd.mk (own_frame O4.out h3 (by simp))
  have F5 := Hd.mk (F4.out.trans h3 (by simp))
  have K5 := Hd.mk (h3.blk K4.out (by simp))
  have b0 := blk_cell K5.out 0
  have b1 := blk_cell K5.out 1
  have b2 := blk_cell K5.out 2
  simp only [List.getElem?_toArray, List.getElem?_cons_zero, List.getElem?_cons_succ] at b0 b1 b2
  clear h1 h2 h3
  go_wp2_with (fail)
  refine (rparse_any w5 A n c xs q k (HS.out.frame F5.out (by simp)) hb er ts HE.out HT.out).mono ?_
  rintro e w6 ⟨Aw, mw, dw, rfl, h1, h2, h3⟩
  obtain rfl : mw = ts.length := (toks_of_own h1).symm
  have OW := Hd.mk h1
  have NAW : Hd (∀ y, (Value.slice Aa ts.length da).ownBlock = some y → (Value.slice Aw ts.length dw).ownBlock ≠ some y) := ⟨fun y hy hz => by have := LA.out y hy; have := h2 y hz; have := F5.out.size; have := own_lt OA5.out hy; omega⟩
  have OA := Hd.mk (own_frame OA5.out h3 (by simp))
  have OB := Hd.mk (own_frame OB5.out h3 (by simp))
  have O6 := Hd.mk (own_frame O5.out h3 (by simp))
  have F6 := Hd.mk (F5.out.trans h3 (by simp))
  have K6 := Hd.mk (h3.blk K5.out (by simp))
  have b0' := blk_cell K6.out 0
  have b1' := blk_cell K6.out 1
  have b2' := blk_cell K6.out 2
  simp only [List.getElem?_toArray, List.getElem?_cons_zero, List.getElem?_cons_succ] at b0' b1' b2'
  clear h1 h2 h3 b0 b1 b2 OA3 OA4 OA5 O2 O3 O4 O5 OB5 HK0 K1 K2 K3 K4 K5
  have hee : (er == er) = true := by simp
  have hen : (er != er) = false := by simp
  go_upto_region 5 with (fail)
  go_cut [67] from 39 to 68 (fun s67 wd => s67 = .bool false ∧ Hd (Fr w6 wd []))
  case first =>
    have FZ : Hd (Fr w6 w6.drew []) := ⟨(Fr.refl w6 []).drew⟩
    go_region_with (first
      | (go_at_call 24; refine (look_any _ k).mono ?_; rintro e wn ⟨rfl, hh⟩; have FZ := Hd.mk (FZ.out.trans hh (by simp)); have hkk := FZ.out.blk K6.out (by simp); have b0' := blk_cell hkk 0; have b1' := blk_cell hkk 1; have b2' := blk_cell hkk 2; simp only [List.getElem?_toArray, List.getElem?_cons_zero, List.getElem?_cons_succ] at b0' b1' b2'; clear hh hkk)
      | (go_at_call 26; refine (opt_any _ k er HE.out).mono ?_; rintro e wn ⟨rfl, hh⟩; have FZ := Hd.mk (FZ.out.trans hh (by simp)); have hkk := FZ.out.blk K6.out (by simp); have b0' := blk_cell hkk 0; have b1' := blk_cell hkk 1; have b2' := blk_cell hkk 2; simp only [List.getElem?_toArray, List.getElem?_cons_zero, List.getElem?_cons_succ] at b0' b1' b2'; clear hh hkk)
      | (go_at_call 27; refine (ropt_any _ k er HE.out).mono ?_; rintro e wn ⟨rfl, hh⟩; have FZ := Hd.mk (FZ.out.trans hh (by simp)); have hkk := FZ.out.blk K6.out (by simp); have b0' := blk_cell hkk 0; have b1' := blk_cell hkk 1; have b2' := blk_cell hkk 2; simp only [List.getElem?_toArray, List.getElem?_cons_zero, List.getElem?_cons_succ] at b0' b1' b2'; clear hh hkk)
      | (go_at_call 28; refine (tsame_any _ _ Aw ts.length ts.length _ dw ts ts _ _ rfl rfl (by exact (sl_of_toks OA.out).frame FZ.out (by simp)) (by exact (sl_of_toks OW.out).frame FZ.out (by simp)) (by omega) (by omega) true (decide_eq_true rfl).symm).mono ?_; rintro e wn ⟨rfl, hh⟩; have FZ := Hd.mk (FZ.out.trans hh (by simp)); have hkk := FZ.out.blk K6.out (by simp); have b0' := blk_cell hkk 0; have b1' := blk_cell hkk 1; have b2' := blk_cell hkk 2; simp only [List.getElem?_toArray, List.getElem?_cons_zero, List.getElem?_cons_succ] at b0' b1' b2'; clear hh hkk)
      | (go_at_call 28; refine (tsame_any _ _ Aw ts.length ts.length _ dw ts ts _ _ rfl rfl (by exact (sl_of_toks OB.out).frame FZ.out (by simp)) (by exact (sl_of_toks OW.out).frame FZ.out (by simp)) (by omega) (by omega) true (decide_eq_true rfl).symm).mono ?_; rintro e wn ⟨rfl, hh⟩; have FZ := Hd.mk (FZ.out.trans hh (by simp)); have hkk := FZ.out.blk K6.out (by simp); have b0' := blk_cell hkk 0; have b1' := blk_cell hkk 1; have b2' := blk_cell hkk 2; simp only [List.getElem?_toArray, List.getElem?_cons_zero, List.getElem?_cons_succ] at b0' b1' b2'; clear hh hkk)
      | (go_at_call 29; refine (kept_any _ A n c xs q (HS.out.frame (F6.out.trans FZ.out (by simp)) (by simp)) (by omega) HBy.out (some ⟨g, 0, none⟩) (n + 5) d1 (xs ++ lendTail) _ (by rw [List.length_append, hl]; rfl) (by exact sl_of_own (own_frame O6.out FZ.out (by simp))) (by intro h; cases h) (lend_range HBy.out) (by intro y hy; cases hy; exact own_lt (own_frame O6.out FZ.out (by simp)) rfl)).mono ?_; rintro e wn ⟨rfl, hh⟩; rw [decide_eq_true rfl]; have FZ := Hd.mk (FZ.out.trans hh (by simp)); have hkk := FZ.out.blk K6.out (by simp); have b0' := blk_cell hkk 0; have b1' := blk_cell hkk 1; have b2' := blk_cell hkk 2; simp only [List.getElem?_toArray, List.getElem?_cons_zero, List.getElem?_cons_succ] at b0' b1' b2'; clear hh hkk))
    all_goals
      go_wp2
      go_meet
      exact ⟨rfl, FZ⟩
  case rest =>
    obtain ⟨rfl, FZ⟩ := hcut
    obtain ⟨w8, rfl⟩ : ∃ w8 : World, w8 = wc := ⟨_, rfl⟩
    have PA := Hd.mk (own_frame OA.out FZ.out (by simp))
    have PB := Hd.mk (own_frame OB.out FZ.out (by simp))
    have PW := Hd.mk (own_frame OW.out FZ.out (by simp))
    have F8 := Hd.mk ((F6.out.trans FZ.out (by simp)).mono (G := (Value.slice Aa ts.length da).ownBlock.toList) (by simp))
    clear OA OB OW O6 FZ b0' b1' b2'
    go_wp2
    go_loopg [70] ts.length (fun kq iv wr => ∃ (i : Nat) (zs : List Value), iv = .int .i64 (i : Nat) ∧ i + kq = ts.length ∧ Hd (wr.ownsRow 0 56 3 (.slice Aa ts.length da) ts.length zs) ∧ Hd (Fr w8 wr (Value.slice Aa ts.length da).ownBlock.toList))
    case atStart => exact ⟨0, _, rfl, by omega, PA, ⟨Fr.refl _ _⟩⟩
    case round =>
      obtain ⟨i, zs, rfl, hi, HO, HF⟩ := hrel
      by_cases h1 : i < ts.length
      · obtain ⟨g3, d3', e3, hd3⟩ := own_some HO.out (by omega)
        injection e3 with e3 _ e4
        subst e3 e4
        have hzl := HO.out.1
        have c0 := HO.out.cellAt (i * 3) (by omega)
        have c1 := HO.out.cellAt (i * 3 + 1) (by omega)
        have c2 := HO.out.cellAt (i * 3 + 2) (by omega)
        obtain ⟨v0, hv0⟩ : ∃ v, zs[i * 3]? = some v := ⟨_, List.getElem?_eq_getElem (by omega)⟩
        obtain ⟨v1, hv1⟩ : ∃ v, zs[i * 3 + 1]? = some v := ⟨_, List.getElem?_eq_getElem (by omega)⟩
        obtain ⟨v2, hv2⟩ : ∃ v, zs[i * 3 + 2]? = some v := ⟨_, List.getElem?_eq_getElem (by omega)⟩
        rw [hv0] at c0
        rw [hv1] at c1
        rw [hv2] at c2
        have z0 := HO.out.frozenAt (i * 3)
        have z1 := HO.out.frozenAt (i * 3 + 1)
        have z2 := HO.out.frozenAt (i * 3 + 2)
        clear hzl hv0 hv1 hv2
        go_wp2
        go_roundg (gk - 1)
        case measure => omega
        case rel => exact ⟨i + 1, _, by go_num, by omega, ⟨((((HO.out.stored _ _).1.stored _ _).1).stored _ _).1⟩, ⟨((HF.out.setCell _ (.inl (by simp [Value.ownBlock]))).setCell _ (.inl (by simp [Value.ownBlock]))).setCell _ (.inl (by simp [Value.ownBlock]))⟩⟩
      · clear PA
        go_wp2_with (at_builtin; refine wpList_append_sl rfl (.tmp 78) (.tmp 81) 24 rfl 56 i0 (.agg #[.int .u8 0, .int .i64 0, .int .i64 0]) 3 24 Try.underlying24 hi0 hz0 hz1 hz2 rfl (by decide) (.slice Aa ts.length da) ts.length _ rfl (by exact HO.out.alloc _) (some ⟨wr.heap.size, 0, none⟩) 2 2 [.int .u8 0, .int .i64 (-2), .int .i64 0, .int .u8 0, .int .i64 (-3), .int .i64 0] (some wr.heap.size) rfl rfl (by exact sl_of_blk (blk_new _ _)) (by intro h; cases h) ?d1 ?d2 ?d3 ?_)
        case d1 => intro u hu; simp at hu; rcases hu with rfl | rfl | rfl | rfl | rfl | rfl <;> rfl
        case d2 => unfold maxLen; omega
        case d3 => omega
        intro A9 d9 w9 hown' hgrow haft
        have hf9 : Fr w8 w9 (Value.slice Aa ts.length da).ownBlock.toList := (HF.out.alloc _).grown hgrow (fun y hy => .inl (by simp [hy]))
        have F9 := Hd.mk hf9
        clear hown' hgrow haft hf9
        go_wp2_with (fail)
        refine (tsame_any w9 Ab Aw ts.length ts.length db dw ts ts _ _ rfl rfl (by exact (sl_of_toks PB.out).frame F9.out (fun y hy hm => NAB.out y (by simpa using hm) hy)) (by exact (sl_of_toks PW.out).frame F9.out (fun y hy hm => NAW.out y (by simpa using hm) hy)) (by omega) (by omega) true (decide_eq_true rfl).symm).mono ?_
        rintro e w10 ⟨rfl, g10⟩
        have F10 := Hd.mk ((F8.out.trans F9.out (F := (Value.slice Aa ts.length da).ownBlock.toList) (fun y hy hz => hz)).trans g10 (by simp))
        clear g10
        have hnn : ((ts.length : Int) + 2 == (ts.length : Int) + 2) = true := by simp
        go_wp2_with (fail)
        refine (lives_any w10).mono ?_
        rintro e w11 ⟨rfl, g11⟩
        have F11 := Hd.mk (F10.out.trans g11 (by simp))
        clear g11
        go_wp2
        go_ret
        refine ⟨rfl, (F11.out.mono (G := []) (fun y hy hz => ?_)).below⟩
        have := BA.out y (by simpa using hz)
        omega
end Go.Proofs.Ytbfdokklhdmmoaa.Lz
