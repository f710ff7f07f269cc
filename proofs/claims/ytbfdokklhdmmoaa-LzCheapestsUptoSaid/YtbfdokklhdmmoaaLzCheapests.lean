/- LzCheapests' walk. Conditions: at most 2^20 bytes. -/
import Derived.Test.YtbfdokklhdmmoaaLzBests
import Derived.Test.YtbfdokklhdmmoaaLzCheapP
set_option linter.unusedVariables false
set_option linter.unusedSimpArgs false
set_option maxRecDepth 100000
namespace Go.Proofs.Ytbfdokklhdmmoaa.Lz
open Go.RowKit Go.Maps Go.Proofs.Ytbfdokklhdmmoaa.Lib Go.Proofs.Ytbfdokklhdmmoaa.Num Go.Proofs.Ytbfdokklhdmmoaa.Bits

theorem outF_len {d : List Int} {W : Nat} {c : Pr} : ∀ f p, (outF d W c f p).length ≤ f
  | 0, p => Nat.le_refl _
  | f + 1, p => by
    simp only [outF]
    split
    · have := outF_len (d := d) (W := W) (c := c) f (p + max (tab d W c p).2.len.toNat 1)
      simp only [List.length_cons]
      omega
    · exact Nat.zero_le _
theorem cheapToks_len (d : List Int) (k : Opt) (c : Pr) : (cheapToks d k c).length ≤ d.length := by
  unfold cheapToks
  split
  · exact outF_len _ _
  · exact Nat.zero_le _
theorem price_any (w : World) (c : Pr) : Calls Try.prog 33 #[.agg #[.int .i64 c.lit, .int .i64 c.mat, .int .i64 c.far]] w fun e w' => e = .returned (.agg #[.int .i64 c.lit, .int .i64 c.mat, .int .i64 c.far]) ∧ Fr w w' [] := by
  go_enter Try.func33, Try.ntmps33
  go_wp2
  exact bodyPost_ret (v := .agg #[.int .i64 c.lit, .int .i64 c.mat, .int .i64 c.far]) (by simp [results, Try.results33, go_sem]) rfl ⟨rfl, ((Fr.refl _ _).alloc _).alloc _⟩
set_option maxHeartbeats 16000000 in
theorem cheapests_walk (A : Option Addr) (n cc : Nat) (xs : List Int) (q : Option Nat) (k : Opt) (c : Pr) (W : World) (hS : SlArg W A n cc (u8s xs) q) (hw : ∀ x ∈ xs, (Lit.int .u8 x).wf = true) (hb : n ≤ 1048576) :
    Calls Try.prog 9 #[.slice A n cc, .agg #[.int .i64 k.window, .int .i64 k.chain, .bool k.isLazy], .agg #[.int .i64 c.lit, .int .i64 c.mat, .int .i64 c.far]] W fun e w' => e = .returned (.bool true) ∧ Below W.heap.size W w' := by
  obtain ⟨i0, hi0, hz0, hz1, hz2⟩ := info_parts infoTok
  have HS := Hd.mk hS
  have hl : xs.length = n := by have := hS.len; simpa [u8s] using this
  have HBy : Hd (Bytes xs) := ⟨fun x hx => bounds_u8 (hw x hx)⟩
  clear hS hw
  obtain ⟨er, her⟩ : ∃ er, er = cheapErr k c := ⟨_, rfl⟩
  obtain ⟨co, hco⟩ : ∃ co, co = cheapCost xs k c := ⟨_, rfl⟩
  obtain ⟨ts, hts⟩ : ∃ ts, ts = cheapToks xs k c := ⟨_, rfl⟩
  have htl : ts.length ≤ n := by
    rw [hts, ← hl]
    exact cheapToks_len _ _ _
  have HE := Hd.mk her
  have HC := Hd.mk hco
  have HT := Hd.mk hts
  clear her hco hts
  have F0 := ((Fr.refl W []).alloc (.cells #[.int .i64 k.window, .int .i64 k.chain, .bool k.isLazy] 44)).alloc (.cells #[.int .i64 c.lit, .int .i64 c.mat, .int .i64 c.far] 65)
  have hk0 := blk_alloc (blk_new W (.cells #[.int .i64 k.window, .int .i64 k.chain, .bool k.isLazy] 44)) (.cells #[.int .i64 c.lit, .int .i64 c.mat, .int .i64 c.far] 65)
  have hp0 := blk_new (W.alloc (.cells #[.int .i64 k.window, .int .i64 k.chain, .bool k.isLazy] 44)) (.cells #[.int .i64 c.lit, .int .i64 c.mat, .int .i64 c.far] 65)
  rw [World.size_alloc] at hp0
  go_enter Try.func9, Try.ntmps9
  go_upto_region 1 with (fail)
  obtain ⟨kb, hkb⟩ : ∃ kb, kb = W.heap.size := ⟨_, rfl⟩
  obtain ⟨pb, hpb⟩ : ∃ pb, pb = W.heap.size + 1 := ⟨_, rfl⟩
  rw [← hpb] at hp0 ⊢
  rw [← hkb] at hk0 ⊢
  generalize hw0 : (W.alloc (.cells #[.int .i64 k.window, .int .i64 k.chain, .bool k.isLazy] 44)).alloc (.cells #[.int .i64 c.lit, .int .i64 c.mat, .int .i64 c.far] 65) = w0
  rw [hw0] at F0 hk0 hp0
  have HF0 := Hd.mk F0
  have HK0 := Hd.mk hk0
  have HP0 := Hd.mk hp0
  clear F0 hk0 hp0 hw0 hkb hpb
  go_wp2_with (fail)
  refine (lend_any w0 A n cc xs q (HS.out.frame HF0.out (by simp)) (by omega)).mono ?_
  rintro e w1 ⟨g, d1, rfl, h1, h2, h3⟩
  have O1 := Hd.mk h1
  have F1 := Hd.mk (HF0.out.trans h3 (by simp))
  have K1 := Hd.mk (h3.blk HK0.out (by simp))
  have P1 := Hd.mk (h3.blk HP0.out (by simp))
  clear h1 h2 h3 HK0 HP0
  have b0 := blk_cell K1.out 0
  have b1 := blk_cell K1.out 1
  have b2 := blk_cell K1.out 2
  have c0 := blk_cell P1.out 0
  have c1 := blk_cell P1.out 1
  have c2 := blk_cell P1.out 2
  simp only [List.getElem?_toArray, List.getElem?_cons_zero, List.getElem?_cons_succ] at b0 b1 b2 c0 c1 c2
  go_upto_region 2 with (fail)
  go_cut [9, 10, 11] from 24 to 34 (fun s1 s2 s3 wd => ∃ (A' : Option Addr) (d' : Nat), s1 = .slice A' ts.length d' ∧ s2 = .int .i64 co ∧ s3 = .int .i64 er ∧ Hd (wd.ownsRow 0 56 3 (.slice A' ts.length d') ts.length (tcells ts)) ∧ Hd (∀ y, (Value.slice A' ts.length d').ownBlock = some y → w1.heap.size ≤ y) ∧ Hd (Fr w1 wd []))
  case first =>
    have FZ : Hd (Fr w1 w1.drew []) := ⟨(Fr.refl w1 []).drew⟩
    go_region_with (first
      | (go_at_call 24; refine (look_any _ k).mono ?_; rintro e wn ⟨rfl, hh⟩; have FZ := Hd.mk (FZ.out.trans hh (by simp)); have hkk := FZ.out.blk K1.out (by simp); have b0 := blk_cell hkk 0; have b1 := blk_cell hkk 1; have b2 := blk_cell hkk 2; have hpp := FZ.out.blk P1.out (by simp); have c0 := blk_cell hpp 0; have c1 := blk_cell hpp 1; have c2 := blk_cell hpp 2; simp only [List.getElem?_toArray, List.getElem?_cons_zero, List.getElem?_cons_succ] at b0 b1 b2 c0 c1 c2; clear hkk hpp; clear hh)
      | (go_at_call 33; refine (price_any _ c).mono ?_; rintro e wn ⟨rfl, hh⟩; have FZ := Hd.mk (FZ.out.trans hh (by simp)); have hkk := FZ.out.blk K1.out (by simp); have b0 := blk_cell hkk 0; have b1 := blk_cell hkk 1; have b2 := blk_cell hkk 2; have hpp := FZ.out.blk P1.out (by simp); have c0 := blk_cell hpp 0; have c1 := blk_cell hpp 1; have c2 := blk_cell hpp 2; simp only [List.getElem?_toArray, List.getElem?_cons_zero, List.getElem?_cons_succ] at b0 b1 b2 c0 c1 c2; clear hkk hpp; clear hh)
      | (go_at_call 32; refine (cheap_any _ (some ⟨g, 0, none⟩) n d1 xs _ k c (by exact lent_part (own_frame O1.out FZ.out (by simp)) hl) HBy.out hb er co ts HE.out HC.out HT.out).mono ?_; rintro e wn ⟨A', m', d', rfl, h1, h2, hh⟩; obtain rfl : m' = ts.length := (toks_of_own h1).symm; have OA := Hd.mk h1; have BA := Hd.mk (fun y hy => Nat.le_trans FZ.out.size (h2 y hy) : ∀ y, (Value.slice A' ts.length d').ownBlock = some y → w1.heap.size ≤ y); have FZ := Hd.mk (FZ.out.trans hh (by simp)); have hkk := FZ.out.blk K1.out (by simp); have b0 := blk_cell hkk 0; have b1 := blk_cell hkk 1; have b2 := blk_cell hkk 2; have hpp := FZ.out.blk P1.out (by simp); have c0 := blk_cell hpp 0; have c1 := blk_cell hpp 1; have c2 := blk_cell hpp 2; simp only [List.getElem?_toArray, List.getElem?_cons_zero, List.getElem?_cons_succ] at b0 b1 b2 c0 c1 c2; clear hkk hpp; clear h1 h2 hh))
    all_goals
      go_wp2
      go_meet
      exact ⟨_, _, rfl, rfl, rfl, OA, BA, FZ⟩
  case rest =>
  obtain ⟨Aa, da, rfl, rfl, rfl, Oa, Ba, FZ⟩ := hcut
  obtain ⟨w2, rfl⟩ : ∃ w2 : World, w2 = wc := ⟨_, rfl⟩
  have O2 := Hd.mk (own_frame O1.out FZ.out (by simp))
  have F2 := Hd.mk (F1.out.trans FZ.out (by simp))
  have K2 := Hd.mk (FZ.out.blk K1.out (by simp))
  have P2 := Hd.mk (FZ.out.blk P1.out (by simp))
  clear FZ O1 K1 P1 b0 b1 b2 c0 c1 c2
  have b0 := blk_cell K2.out 0
  have b1 := blk_cell K2.out 1
  have b2 := blk_cell K2.out 2
  have c0 := blk_cell P2.out 0
  have c1 := blk_cell P2.out 1
  have c2 := blk_cell P2.out 2
  simp only [List.getElem?_toArray, List.getElem?_cons_zero, List.getElem?_cons_succ] at b0 b1 b2 c0 c1 c2
  go_upto_region 3 with (fail)
  go_cut [12, 13, 14] from 34 to 44 (fun s1 s2 s3 wd => ∃ (A' : Option Addr) (d' : Nat), s1 = .slice A' ts.length d' ∧ s2 = .int .i64 co ∧ s3 = .int .i64 er ∧ Hd (wd.ownsRow 0 56 3 (.slice A' ts.length d') ts.length (tcells ts)) ∧ Hd (∀ y, (Value.slice A' ts.length d').ownBlock = some y → w2.heap.size ≤ y) ∧ Hd (Fr w2 wd []))
  case first =>
    have FZ : Hd (Fr w2 w2.drew []) := ⟨(Fr.refl w2 []).drew⟩
    go_region_with (first
      | (go_at_call 24; refine (look_any _ k).mono ?_; rintro e wn ⟨rfl, hh⟩; have FZ := Hd.mk (FZ.out.trans hh (by simp)); have hkk := FZ.out.blk K2.out (by simp); have b0 := blk_cell hkk 0; have b1 := blk_cell hkk 1; have b2 := blk_cell hkk 2; have hpp := FZ.out.blk P2.out (by simp); have c0 := blk_cell hpp 0; have c1 := blk_cell hpp 1; have c2 := blk_cell hpp 2; simp only [List.getElem?_toArray, List.getElem?_cons_zero, List.getElem?_cons_succ] at b0 b1 b2 c0 c1 c2; clear hkk hpp; clear hh)
      | (go_at_call 33; refine (price_any _ c).mono ?_; rintro e wn ⟨rfl, hh⟩; have FZ := Hd.mk (FZ.out.trans hh (by simp)); have hkk := FZ.out.blk K2.out (by simp); have b0 := blk_cell hkk 0; have b1 := blk_cell hkk 1; have b2 := blk_cell hkk 2; have hpp := FZ.out.blk P2.out (by simp); have c0 := blk_cell hpp 0; have c1 := blk_cell hpp 1; have c2 := blk_cell hpp 2; simp only [List.getElem?_toArray, List.getElem?_cons_zero, List.getElem?_cons_succ] at b0 b1 b2 c0 c1 c2; clear hkk hpp; clear hh)
      | (go_at_call 32; refine (cheap_any _ (some ⟨g, 0, none⟩) n d1 xs _ k c (by exact lent_part (own_frame O2.out FZ.out (by simp)) hl) HBy.out hb er co ts HE.out HC.out HT.out).mono ?_; rintro e wn ⟨A', m', d', rfl, h1, h2, hh⟩; obtain rfl : m' = ts.length := (toks_of_own h1).symm; have OA := Hd.mk h1; have BA := Hd.mk (fun y hy => Nat.le_trans FZ.out.size (h2 y hy) : ∀ y, (Value.slice A' ts.length d').ownBlock = some y → w2.heap.size ≤ y); have FZ := Hd.mk (FZ.out.trans hh (by simp)); have hkk := FZ.out.blk K2.out (by simp); have b0 := blk_cell hkk 0; have b1 := blk_cell hkk 1; have b2 := blk_cell hkk 2; have hpp := FZ.out.blk P2.out (by simp); have c0 := blk_cell hpp 0; have c1 := blk_cell hpp 1; have c2 := blk_cell hpp 2; simp only [List.getElem?_toArray, List.getElem?_cons_zero, List.getElem?_cons_succ] at b0 b1 b2 c0 c1 c2; clear hkk hpp; clear h1 h2 hh))
    all_goals
      go_wp2
      go_meet
      exact ⟨_, _, rfl, rfl, rfl, OA, BA, FZ⟩
  case rest =>
  obtain ⟨Ab, db, rfl, rfl, rfl, Ob, Bb, FZ⟩ := hcut
  obtain ⟨w3, rfl⟩ : ∃ w3 : World, w3 = wc := ⟨_, rfl⟩
  have Oa3 := Hd.mk (own_frame Oa.out FZ.out (by simp))
  have O3 := Hd.mk (own_frame O2.out FZ.out (by simp))
  have F3 := Hd.mk (F2.out.trans FZ.out (by simp))
  have K3 := Hd.mk (FZ.out.blk K2.out (by simp))
  have P3 := Hd.mk (FZ.out.blk P2.out (by simp))
  have NAB : Hd (∀ y, (Value.slice Aa ts.length da).ownBlock = some y → (Value.slice Ab ts.length db).ownBlock ≠ some y) := ⟨fun y hy hz => by have := own_lt Oa.out hy; have := Bb.out y hz; omega⟩
  clear FZ O2 K2 P2 Oa b0 b1 b2 c0 c1 c2
  have b0 := blk_cell K3.out 0
  have b1 := blk_cell K3.out 1
  have b2 := blk_cell K3.out 2
  have c0 := blk_cell P3.out 0
  have c1 := blk_cell P3.out 1
  have c2 := blk_cell P3.out 2
  simp only [List.getElem?_toArray, List.getElem?_cons_zero, List.getElem?_cons_succ] at b0 b1 b2 c0 c1 c2
  go_wp2_with (fail)
  refine (rcheap_any w3 A n cc xs q k c (HS.out.frame F3.out (by simp)) hb er co ts HE.out HC.out HT.out).mono ?_
  rintro e w6 ⟨Aw, mw, dw, rfl, h1, h2, h3⟩
  obtain rfl : mw = ts.length := (toks_of_own h1).symm
  have OW := Hd.mk h1
  have NAW : Hd (∀ y, (Value.slice Aa ts.length da).ownBlock = some y → (Value.slice Aw ts.length dw).ownBlock ≠ some y) := ⟨fun y hy hz => by have := own_lt Oa3.out hy; have := h2 y hz; omega⟩
  have OA := Hd.mk (own_frame Oa3.out h3 (by simp))
  have OB := Hd.mk (own_frame Ob.out h3 (by simp))
  have O6 := Hd.mk (own_frame O3.out h3 (by simp))
  have F6 := Hd.mk (F3.out.trans h3 (by simp))
  have BA : Hd (∀ y, (Value.slice Aa ts.length da).ownBlock = some y → W.heap.size ≤ y) := ⟨fun y hy => Nat.le_trans F1.out.size (Ba.out y hy)⟩
  clear h1 h2 h3 b0 b1 b2 c0 c1 c2 Oa3 Ob O3 K3 P3 Ba Bb F1 F2 F3
  have hen : (er != er) = false := by simp
  have hcn : (co != co) = false := by simp
  go_wp2_with (fail)
  refine (tsame_any w6 Aa Aw ts.length ts.length da dw ts ts _ _ rfl rfl (by exact sl_of_toks OA.out) (by exact sl_of_toks OW.out) (by omega) (by omega) true (decide_eq_true rfl).symm).mono ?_
  rintro e w7 ⟨rfl, hh⟩
  have OA7 := Hd.mk (own_frame OA.out hh (by simp))
  have OB7 := Hd.mk (own_frame OB.out hh (by simp))
  have OW7 := Hd.mk (own_frame OW.out hh (by simp))
  have O7 := Hd.mk (own_frame O6.out hh (by simp))
  have F7 := Hd.mk (F6.out.trans hh (by simp))
  clear hh OA OB OW O6 F6
  go_wp2_with (fail)
  refine (tsame_any w7 Ab Aw ts.length ts.length db dw ts ts _ _ rfl rfl (by exact sl_of_toks OB7.out) (by exact sl_of_toks OW7.out) (by omega) (by omega) true (decide_eq_true rfl).symm).mono ?_
  rintro e w8 ⟨rfl, hh⟩
  have OA8 := Hd.mk (own_frame OA7.out hh (by simp))
  have OB8 := Hd.mk (own_frame OB7.out hh (by simp))
  have OW8 := Hd.mk (own_frame OW7.out hh (by simp))
  have O8 := Hd.mk (own_frame O7.out hh (by simp))
  have F8 := Hd.mk (F7.out.trans hh (by simp))
  clear hh OA7 OB7 OW7 O7 F7
  go_wp2_with (fail)
  refine (kept_any w8 A n cc xs q (HS.out.frame F8.out (by simp)) (by omega) HBy.out (some ⟨g, 0, none⟩) (n + 5) d1 (xs ++ lendTail) _ (by rw [List.length_append, hl]; rfl) (by exact sl_of_own O8.out) (by intro h; cases h) (lend_range HBy.out) (by intro y hy; cases hy; exact own_lt O8.out rfl)).mono ?_
  rintro e w9 ⟨rfl, hh⟩
  rw [decide_eq_true rfl]
  have PA := Hd.mk (own_frame OA8.out hh (by simp))
  have PB := Hd.mk (own_frame OB8.out hh (by simp))
  have PW := Hd.mk (own_frame OW8.out hh (by simp))
  have F8' := Hd.mk ((F8.out.trans hh (by simp)).mono (G := (Value.slice Aa ts.length da).ownBlock.toList) (by simp))
  clear hh OA8 OB8 OW8 O8 F8
  have F8 := F8'
  clear F8'
  obtain ⟨w8, rfl⟩ : ∃ w8 : World, w8 = w9 := ⟨_, rfl⟩
  go_wp2
  go_loopg [80] ts.length (fun kq iv wr => ∃ (i : Nat) (zs : List Value), iv = .int .i64 (i : Nat) ∧ i + kq = ts.length ∧ Hd (wr.ownsRow 0 56 3 (.slice Aa ts.length da) ts.length zs) ∧ Hd (Fr w8 wr (Value.slice Aa ts.length da).ownBlock.toList))
  case atStart => exact ⟨0, _, rfl, by omega, PA, ⟨Fr.refl _ _⟩⟩
  case round =>
    obtain ⟨i, zs, rfl, hi, HO, HF⟩ := hrel
    by_cases h1 : i < ts.length
    · obtain ⟨g3, d3', e3, hd3⟩ := own_some HO.out (by omega)
      injection e3 with e3 _ e4
      subst e3 e4
      have hzl := HO.out.1
      have c0 := HO.out.cellAt (i * 3) (by omega)
      have c1 := HO.out.cellAt (i * 3 + 1) (by omega)
      have c2 := HO.out.cellAt (i * 3 + 2) (by omega)
      obtain ⟨v0, hv0⟩ : ∃ v, zs[i * 3]? = some v := ⟨_, List.getElem?_eq_getElem (by omega)⟩
      obtain ⟨v1, hv1⟩ : ∃ v, zs[i * 3 + 1]? = some v := ⟨_, List.getElem?_eq_getElem (by omega)⟩
      obtain ⟨v2, hv2⟩ : ∃ v, zs[i * 3 + 2]? = some v := ⟨_, List.getElem?_eq_getElem (by omega)⟩
      rw [hv0] at c0
      rw [hv1] at c1
      rw [hv2] at c2
      have z0 := HO.out.frozenAt (i * 3)
      have z1 := HO.out.frozenAt (i * 3 + 1)
      have z2 := HO.out.frozenAt (i * 3 + 2)
      clear hzl hv0 hv1 hv2
      go_wp2
      go_roundg (gk - 1)
      case measure => omega
      case rel => exact ⟨i + 1, _, by go_num, by omega, ⟨((((HO.out.stored _ _).1.stored _ _).1).stored _ _).1⟩, ⟨((HF.out.setCell _ (.inl (by simp [Value.ownBlock]))).setCell _ (.inl (by simp [Value.ownBlock]))).setCell _ (.inl (by simp [Value.ownBlock]))⟩⟩
    · clear PA
      go_wp2_with (at_builtin; refine wpList_append_sl rfl (.tmp 88) (.tmp 91) 24 rfl 56 i0 (.agg #[.int .u8 0, .int .i64 0, .int .i64 0]) 3 24 Try.underlying24 hi0 hz0 hz1 hz2 rfl (by decide) (.slice Aa ts.length da) ts.length _ rfl (by exact HO.out.alloc _) (some ⟨wr.heap.size, 0, none⟩) 2 2 [.int .u8 0, .int .i64 (-2), .int .i64 0, .int .u8 0, .int .i64 (-3), .int .i64 0] (some wr.heap.size) rfl rfl (by exact sl_of_blk (blk_new _ _)) (by intro h; cases h) ?d1 ?d2 ?d3 ?_)
      case d1 => intro u hu; simp at hu; rcases hu with rfl | rfl | rfl | rfl | rfl | rfl <;> rfl
      case d2 => unfold maxLen; omega
      case d3 => omega
      intro A9 d9 w9 hown' hgrow haft
      have hf9 : Fr w8 w9 (Value.slice Aa ts.length da).ownBlock.toList := (HF.out.alloc _).grown hgrow (fun y hy => .inl (by simp [hy]))
      have F9 := Hd.mk hf9
      clear hown' hgrow haft hf9
      go_wp2_with (fail)
      refine (tsame_any w9 Ab Aw ts.length ts.length db dw ts ts _ _ rfl rfl (by exact (sl_of_toks PB.out).frame F9.out (fun y hy hm => NAB.out y (by simpa using hm) hy)) (by exact (sl_of_toks PW.out).frame F9.out (fun y hy hm => NAW.out y (by simpa using hm) hy)) (by omega) (by omega) true (decide_eq_true rfl).symm).mono ?_
      rintro e w10 ⟨rfl, g10⟩
      have F10 := Hd.mk ((F8.out.trans F9.out (F := (Value.slice Aa ts.length da).ownBlock.toList) (fun y hy hz => hz)).trans g10 (by simp))
      clear g10
      have hnn : ((ts.length : Int) + 2 == (ts.length : Int) + 2) = true := by simp
      go_wp2_with (fail)
      refine (lives_any w10).mono ?_
      rintro e w11 ⟨rfl, g11⟩
      have F11 := Hd.mk (F10.out.trans g11 (by simp))
      clear g11
      go_wp2
      go_ret
      refine ⟨rfl, (F11.out.mono (G := []) (fun y hy hz => ?_)).below⟩
      have := BA.out y (by simpa using hz)
      omega
end Go.Proofs.Ytbfdokklhdmmoaa.Lz
