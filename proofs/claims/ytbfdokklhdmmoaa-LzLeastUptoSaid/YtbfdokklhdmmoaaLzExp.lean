/- Expand of the program and of the document. Conditions: at most 2^20 tokens. -/
import Derived.Test.YtbfdokklhdmmoaaLzTok
import Derived.Test.YtbfdokklhdmmoaaLend8
set_option linter.unusedVariables false
set_option linter.unusedSimpArgs false
set_option maxRecDepth 100000
namespace Go.Proofs.Ytbfdokklhdmmoaa.Lz
open Go.RowKit Go.Proofs.Ytbfdokklhdmmoaa.Lib Go.Proofs.Ytbfdokklhdmmoaa.Num Go.Proofs.Ytbfdokklhdmmoaa.Bits

theorem checkF_ok (v : Int) : ∀ (l : List Tok) (i n : Nat), (checkF v l i n).2 = 0 → ∀ j (h : j < l.length), right l[j] = true ∧ l[j].dist ≤ ((n + sizeOf (l.take j) : Nat) : Int)
  | [], i, n, _, j, h => absurd h (Nat.not_lt_zero _)
  | t :: l, i, n, hc, j, h => by
    simp only [checkF] at hc
    split at hc
    · simp at hc
    · rename_i hr
      split at hc
      · simp at hc
      · rename_i hd
        cases j with
        | zero => simp only [List.getElem_cons_zero, List.take_zero]; exact ⟨by simpa using hr, by simp [sizeOf]; omega⟩
        | succ j =>
          simp only [List.length_cons] at h
          have := checkF_ok v l (i + 1) (n + width t) hc j (by omega)
          simp only [List.getElem_cons_succ, List.take_succ_cons, sizeOf, List.map_cons, List.sum_cons] at this ⊢
          exact ⟨this.1, by omega⟩
theorem check_ok {v : Int} {l : List Tok} (h : (check v l).2 = 0) (j : Nat) (hj : j < l.length) : right l[j] = true ∧ l[j].dist ≤ ((sizeOf (l.take j) : Nat) : Int) := by
  unfold check at h
  split at h
  · simp at h
  · simpa using checkF_ok v l 0 0 h j hj
theorem sizeOf_takes (l : List Tok) (j : Nat) : sizeOf (l.take j) ≤ sizeOf l := by
  conv => rhs; rw [← List.take_append_drop j l]
  unfold sizeOf
  rw [List.map_append, List.sum_append]
  omega
theorem at0_get {b : List Int} {i : Nat} (h : i < b.length) : b[i]? = some (at0 b i) := by
  unfold at0; rw [List.getElem?_eq_getElem h, List.getD_eq_getElem?_getD, List.getElem?_eq_getElem h]; rfl
theorem own_bytes {w : World} {base : Nat} {e : TypeId} {v : Value} {n : Nat} {xs : List Int} (h : w.ownsRow base e 1 v n (u8s xs)) : xs.length = n := by
  have := h.1
  simpa [u8s] using this
theorem own_newb {wo w : World} {q q' : Option Nat} (hB : ∀ x, q = some x → wo.heap.size ≤ x) (hs : wo.heap.size ≤ w.heap.size) {o : Obj} (h : Aft (w.alloc o) q q') : ∀ y, q' = some y → wo.heap.size ≤ y := by
  intro y hy
  rcases h with e | ⟨z, e, hz⟩
  · rw [e] at hy; exact hB y hy
  · rw [e] at hy; cases hy; simp at hz; omega
theorem aft_of_alloc {w : World} {o : Obj} {q q' : Option Nat} (h : Aft (w.alloc o) q q') : Aft w q q' := by
  rcases h with h | ⟨z, h, hz⟩
  · exact .inl h
  · exact .inr ⟨z, h, by simp at hz; omega⟩
set_option maxHeartbeats 8000000 in
theorem expand_any (w : World) (v : Int) (A : Option Addr) (n c : Nat) (l : List Tok) (p : Option Nat) (hn : l.length = n) (hS : Sl w A (tcells l) p) (hb : n ≤ 1048576) (er : Int) (bs : List Int) (her : er = (check v l).2) (hbs : bs = expand v l) :
    Calls Try.prog 15 #[.int .i64 v, .slice A n c] w fun e w' => ∃ A' m d, e = .returned (.tuple #[.slice A' m d, .int .i64 er]) ∧ w'.ownsRow 0 5 1 (.slice A' m d) m (u8s bs) ∧ (∀ y, (Value.slice A' m d).ownBlock = some y → w.heap.size ≤ y) ∧ Fr w w' [] := by
  obtain ⟨i0, hi0, hz0, hz1, hz2⟩ := info_parts infoU8
  subst hn
  have HS := Hd.mk hS
  have HE := Hd.mk her
  have HBS := Hd.mk hbs
  obtain ⟨pl, hpl⟩ : ∃ pl, pl = (check v l).1 := ⟨_, rfl⟩
  have HCK : Hd ((pl, er) = check v l) := ⟨by rw [hpl, her]⟩
  clear hS her hbs hpl
  go_enter Try.func15, Try.ntmps15
  go_wp2_with (fail)
  refine (check_any w v A l.length c l p rfl HS.out (by omega) pl er HCK.out).mono ?_
  rintro e w1 ⟨rfl, h1⟩
  have F1 := Hd.mk h1
  clear h1
  by_cases he : er ≠ 0
  · have heb : (er == 0) = false := by simpa using he
    obtain rfl : bs = [] := by rw [HBS.out]; unfold expand; rw [if_neg (by rw [← HE.out]; exact he)]
    go_wp2
    go_ret2
    exact ⟨none, 0, 0, rfl, own_nil _ _ _ _, (by intro j hj; cases hj), F1.out⟩
  obtain rfl : er = 0 := by simpa using he
  have hok : Hd ((check v l).2 = 0) := ⟨HE.out.symm⟩
  have HX : Hd (bs = expF l []) := ⟨by rw [HBS.out]; unfold expand; rw [if_pos hok.out]⟩
  have hsz : sizeOf l ≤ 270532608 := by have := sizeOf_le l; omega
  clear he HE HBS HCK
  go_wp2_with (fail)
  refine (size_any w1 A l.length c l p rfl (by exact HS.out.frame F1.out (by simp)) (by omega)).mono ?_
  rintro e w2 ⟨rfl, h2⟩
  have F2 := Hd.mk (F1.out.trans h2 (by simp))
  clear h2
  obtain ⟨sz, hszd⟩ : ∃ sz, sz = sizeOf l := ⟨_, rfl⟩
  rw [← hszd] at hsz ⊢
  have HSZ := Hd.mk hszd
  have hszl : sizeOf l ≤ 270532608 := by have := HSZ.out; omega
  clear hszd F1
  go_wp2_with (refine wpList_make_own _ rfl _ _ 32 rfl 0 5 i0 (.int .u8 0) 1 Try.underlying32 hi0 hz0 hz1 .i64 .i64 _ sz rfl rfl rfl (by rw [hz2]; omega) (by unfold maxLen; omega) (Nat.zero_le _) ?_; intro w3 hown1 hgrow1; have O0 := Hd.mk hown1; have F3 := Hd.mk (F2.out.grown hgrow1 (by simp)); clear hown1 hgrow1)
  have B0 : Hd (∀ y, (Value.slice (some ⟨w2.heap.size, 0, none⟩) 0 sz).ownBlock = some y → w.heap.size ≤ y) := ⟨by intro y hy; cases hy; exact F2.out.size⟩
  go_loopg [8, 25] l.length (fun kq sv jv wr => ∃ (j : Nat) (A1 : Option Addr) (m d1 : Nat) (b : List Int), sv = .slice A1 m d1 ∧ jv = .int .i64 (j : Nat) ∧ j + kq = l.length ∧ b.length = m ∧ m ≤ 270532608 ∧ Hd (m = sizeOf (l.take j)) ∧ Hd (wr.ownsRow 0 5 1 (.slice A1 m d1) m (u8s b)) ∧ Hd (expF l [] = expF (l.drop j) b) ∧ Hd (∀ y, (Value.slice A1 m d1).ownBlock = some y → w.heap.size ≤ y) ∧ Hd (Fr w wr []))
  case atStart => exact ⟨0, some ⟨w2.heap.size, 0, none⟩, 0, sz, [], rfl, rfl, by omega, rfl, by omega, ⟨by simp [sizeOf]⟩, O0, ⟨by rw [List.drop_zero]⟩, B0, F3⟩
  case round =>
    obtain ⟨ws, rfl⟩ : ∃ ws : World, ws = wr := ⟨_, rfl⟩
    obtain ⟨gx, rfl⟩ : ∃ gx : Nat, gx = gk := ⟨_, rfl⟩
    obtain ⟨j, A1, m, d1, b, rfl, rfl, hj, hbm, hmb, HM, HO, HL, HB, HF⟩ := hrel
    by_cases h1 : j < l.length
    · obtain ⟨a, o1, rfl, _, ha⟩ := Sl.row (enc := tcell) (sz := 3) (fun _ => rfl) (HS.out.frame HF.out (by simp)) h1 (by decide)
      obtain ⟨hr, hd⟩ := check_ok hok.out j h1
      rw [← HM.out] at hd
      have hsz1 := sizeOf_take h1
      have hsz2 : sizeOf (l.take (j + 1)) ≤ sizeOf l := sizeOf_takes l (j + 1)
      obtain ⟨t, ht⟩ : ∃ t, t = l[j] := ⟨_, rfl⟩
      have HL2 : Hd (expF l [] = expF (l.drop (j + 1)) (tokF t b)) := ⟨by rw [HL.out, List.drop_eq_getElem_cons h1, ← ht]; rfl⟩
      rw [← ht] at ha hr hd hsz1
      have hlen := right_len hr
      have hwd : width t = if t.len = 0 then 1 else t.len.toNat := by unfold width; rw [if_pos hr]
      have c0 := ha 0 (by decide)
      have c1 := ha 1 (by decide)
      have c2 := ha 2 (by decide)
      simp only [tcell, List.getElem?_cons_zero, List.getElem?_cons_succ, Nat.add_zero] at c0 c1 c2
      have hMs := HM.out
      obtain ⟨lt, ln, ds⟩ := t
      simp only at hd hlen hwd c0 c1 c2
      have hfs := HF.out.alloc (.cells #[.int .u8 lt, .int .i64 ln, .int .i64 ds] 56)
      have hos := HO.out.alloc (.cells #[.int .u8 lt, .int .i64 ln, .int .i64 ds] 56)
      have hks := blk_new ws (.cells #[.int .u8 lt, .int .i64 ln, .int .i64 ds] 56)
      have hns : Hd (∀ y, (Value.slice A1 m d1).ownBlock = some y → y ≠ ws.heap.size) := ⟨fun y hy => by have := own_lt HO.out hy; omega⟩
      obtain ⟨kb, hkb⟩ : ∃ kb, kb = ws.heap.size := ⟨_, rfl⟩
      clear ha ht hr HL HO
      go_upto_region 8 with (fail)
      rw [← hkb] at hns hks ⊢
      generalize hwt : ws.alloc (.cells #[.int .u8 lt, .int .i64 ln, .int .i64 ds] 56) = wt
      rw [hwt] at hfs hos hks
      have HFs := Hd.mk hfs
      have HOs := Hd.mk hos
      have HKs := Hd.mk hks
      have g0 := blk_cell hks 0
      have g1 := blk_cell hks 1
      simp only [List.getElem?_toArray, List.getElem?_cons_zero, List.getElem?_cons_succ] at g0 g1
      clear hfs hos hks c0 c1 c2 hwt hkb
      rcases hlen with ⟨rfl, rfl⟩ | hlen
      · -- one byte
        have hw1 : sizeOf (l.take (j + 1)) = m + 1 := by rw [hsz1, hwd, hMs]; rfl
        have hm1 : m + 1 ≤ 270532608 := by omega
        have HM2 : Hd (m + 1 = sizeOf (l.take (j + 1))) := ⟨hw1.symm⟩
        clear hw1 hsz1 hsz2 hwd hMs
        go_wp2_with (at_builtin; refine wpList_append_sl rfl (.tmp 32) (.tmp 35) 32 rfl 5 i0 (.int .u8 0) 1 1 Try.underlying32 hi0 hz0 hz1 hz2 rfl (by decide) (.slice A1 m d1) m _ rfl (by exact HOs.out.alloc _) (some ⟨wt.heap.size, 0, none⟩) 1 1 [.int .u8 lt] (some wt.heap.size) rfl rfl (by exact sl_of_blk (blk_new _ _)) (by intro h; cases h) (by intro u hu; simp at hu; rcases hu with rfl; rfl) (by unfold maxLen; omega) (by omega) ?_; intro A3 d3 w3 hown' hgrow haft; have O3 := Hd.mk hown'; have G3 := Hd.mk hgrow; have F3 := Hd.mk haft; clear hown' hgrow haft; have hb4 := G3.out.block kb (by have := blk_lt HKs.out; simp; omega) (fun e => hns.out _ e.symm rfl); have hb5 := hb4.trans (blk_alloc HKs.out _); have g1p := blk_cell hb5 1; have g2p := blk_cell hb5 2; simp only [List.getElem?_toArray, List.getElem?_cons_zero, List.getElem?_cons_succ] at g1p g2p; clear hb4 hb5)
        clear g0 g1
        go_wp2
        go_loopg [8, 39] 0 (fun kq sv iv wr => sv = .slice A3 (m + 1) d3 ∧ iv = .int .i64 0 ∧ kq = 0 ∧ wr = w3)
        case atStart => exact ⟨rfl, rfl, rfl, rfl⟩
        case round =>
          obtain ⟨rfl, rfl, rfl, rfl⟩ := hrel
          go_wp2
          go_roundg (gx - 1)
          case measure => omega
          case rel => exact ⟨j + 1, A3, m + 1, d3, b ++ [lt], rfl, by go_num, by omega, by simp [hbm], hm1, HM2, ⟨by have := O3.out; rwa [show u8s b ++ [Value.int .u8 lt] = u8s (b ++ [lt]) from by simp [u8s]] at this⟩, HL2, ⟨own_newb HB.out HFs.out.size F3.out⟩, ⟨(HFs.out.alloc _).grown G3.out (fun y hy => .inr (HB.out y hy))⟩⟩
      · obtain ⟨h3, h4, h5, h6, rfl⟩ := hlen
        obtain ⟨ln, rfl⟩ := Int.eq_ofNat_of_zero_le (show 0 ≤ ln by omega)
        obtain ⟨ds, rfl⟩ := Int.eq_ofNat_of_zero_le (show 0 ≤ ds by omega)
        have e0 : ((ln : Int) == 0) = false := by simp; omega
        have hw1 : sizeOf (l.take (j + 1)) = m + ln := by rw [hsz1, hwd, hMs, if_neg (by omega)]; rfl
        have hm1 : m + ln ≤ 270532608 := by omega
        have HM2 : Hd (m + ln = sizeOf (l.take (j + 1))) := ⟨hw1.symm⟩
        have HT : Hd (tokF ⟨0, (ln : Int), (ds : Int)⟩ b = copyF ds ln b) := ⟨by unfold tokF; rw [if_neg (by simp only; omega)]; rfl⟩
        clear hw1 hsz1 hsz2 hwd hMs
        go_wp2
        go_loopg [8, 39] ln (fun kq sv iv wr => ∃ (i : Nat) (A2 : Option Addr) (m2 d2 : Nat) (b2 : List Int), sv = .slice A2 m2 d2 ∧ iv = .int .i64 (i : Nat) ∧ i + kq = ln ∧ b2.length = m2 ∧ Hd (m2 = m + i) ∧ Hd (wr.ownsRow 0 5 1 (.slice A2 m2 d2) m2 (u8s b2)) ∧ Hd (copyF ds ln b = copyF ds (ln - i) b2) ∧ Hd (Aft wt (Value.slice A1 m d1).ownBlock (Value.slice A2 m2 d2).ownBlock) ∧ Hd (Fr wt wr (Value.slice A1 m d1).ownBlock.toList))
        case atStart => exact ⟨0, A1, m, d1, b, rfl, rfl, by omega, hbm, ⟨rfl⟩, HOs, ⟨rfl⟩, ⟨Aft.refl _ _⟩, ⟨Fr.refl _ _⟩⟩
        case round =>
          obtain ⟨i, A2, m2, d2, b2, rfl, rfl, hi, hb2, HM3, HO2, HC2, HA2, HF2⟩ := hrel
          have hb5 := HF2.out.blk HKs.out (fun hm => hns.out _ (by simpa using hm) rfl)
          have g1' := blk_cell hb5 1
          have g2' := blk_cell hb5 2
          simp only [List.getElem?_toArray, List.getElem?_cons_zero, List.getElem?_cons_succ] at g1' g2'
          clear hb5
          by_cases h7 : i < ln
          · have hm3 : m2 + 1 ≤ 270532608 := by have := HM3.out; omega
            obtain ⟨z, hz⟩ : ∃ z : Nat, m2 = z + ds := ⟨m2 - ds, by have := HM3.out; omega⟩
            obtain ⟨a2, c2', e2, _⟩ := own_some HO2.out (by omega)
            injection e2 with e2 _ e2'
            subst e2 e2'
            have hzc := HO2.out.cellAt z (by omega)
            have hzv : b2[z]? = some (at0 b2 z) := at0_get (by omega)
            rw [u8s_get, hzv] at hzc
            simp only [Option.map_some] at hzc
            obtain ⟨zv, hzv2⟩ : ∃ zv, zv = at0 b2 z := ⟨_, rfl⟩
            rw [← hzv2] at hzc
            have HZV := Hd.mk hzv2
            have hidx : (m2 : Int) - (ds : Int) = ((z : Nat) : Int) := by omega
            have hzlt : z < m2 := by omega
            have HZ := Hd.mk hz
            clear hzv hzv2 hz
            go_wp2_with (at_builtin; refine wpList_append_sl rfl (.tmp 41) (.tmp 50) 32 rfl 5 i0 (.int .u8 0) 1 1 Try.underlying32 hi0 hz0 hz1 hz2 rfl (by decide) (.slice (some ⟨a2, 0, none⟩) m2 d2) m2 _ rfl (by exact HO2.out.alloc _) (some ⟨wr.heap.size, 0, none⟩) 1 1 [.int .u8 zv] (some wr.heap.size) rfl rfl (by exact sl_of_blk (blk_new _ _)) (by intro h; cases h) (by intro u hu; simp at hu; rcases hu with rfl; rfl) (by unfold maxLen; omega) (by omega) ?_; intro A3 d3 w3 hown' hgrow haft; have O3 := Hd.mk hown'; have G3 := Hd.mk hgrow; have F3 := Hd.mk haft; clear hown' hgrow haft)
            go_roundg (gk - 1)
            case measure => omega
            case rel =>
              refine ⟨i + 1, A3, m2 + 1, d3, b2 ++ [zv], rfl, by go_num, by omega, by simp [hb2], ⟨by have := HM3.out; omega⟩, ⟨by have := O3.out; rwa [show u8s b2 ++ [Value.int .u8 zv] = u8s (b2 ++ [zv]) from by simp [u8s]] at this⟩, ⟨?_⟩, ⟨HA2.out.trans (aft_of_alloc F3.out) HF2.out.size⟩, ⟨(HF2.out.alloc _).grown G3.out (fun y hy => HA2.out.mem (k := y) (by simp [hy]))⟩⟩
              rw [HC2.out, show ln - i = (ln - (i + 1)) + 1 from by omega]
              simp only [copyF]
              rw [HZV.out, hb2, HZ.out, Nat.add_sub_cancel]
          · obtain rfl : i = ln := by omega
            have F5 : Hd (Fr w wr []) := ⟨HFs.out.trans HF2.out (fun y hy hm => by have := HB.out y (by simpa using hm); omega)⟩
            have B5 : Hd (∀ y, (Value.slice A2 m2 d2).ownBlock = some y → w.heap.size ≤ y) := ⟨fun y hy => by
              rcases HA2.out with h | ⟨z, h, hz⟩
              · rw [h] at hy; exact HB.out y hy
              · rw [h] at hy; cases hy; exact Nat.le_trans HFs.out.size hz⟩
            go_wp2
            go_roundg (gx - 1)
            case measure => omega
            case rel => exact ⟨j + 1, A2, m2, d2, b2, rfl, by go_num, by omega, hb2, by have := HM3.out; omega, ⟨by rw [HM3.out]; exact HM2.out⟩, HO2, ⟨by rw [HL2.out, HT.out, HC2.out, Nat.sub_self]; rfl⟩, B5, F5⟩
    · obtain rfl : j = l.length := by omega
      have hbb : Hd (bs = b) := ⟨by rw [HX.out, HL.out, List.drop_length]; rfl⟩
      go_wp2
      go_ret2
      exact ⟨A1, m, d1, rfl, by rw [hbb.out]; exact HO.out, HB.out, HF.out⟩
set_option maxHeartbeats 8000000 in
theorem rexpand_any (w : World) (v : Int) (A : Option Addr) (n c : Nat) (l : List Tok) (p : Option Nat) (hn : l.length = n) (hS : Sl w A (tcells l) p) (hb : n ≤ 1048576) (er : Int) (bs : List Int) (her : er = (check v l).2) (hbs : bs = expand v l) :
    Calls Try.prog 16 #[.int .i64 v, .slice A n c] w fun e w' => ∃ A' m d, e = .returned (.tuple #[.slice A' m d, .int .i64 er]) ∧ w'.ownsRow 0 5 1 (.slice A' m d) m (u8s bs) ∧ (∀ y, (Value.slice A' m d).ownBlock = some y → w.heap.size ≤ y) ∧ Fr w w' [] := by
  obtain ⟨i0, hi0, hz0, hz1, hz2⟩ := info_parts infoU8
  subst hn
  have HS := Hd.mk hS
  have HE := Hd.mk her
  have HBS := Hd.mk hbs
  obtain ⟨pl, hpl⟩ : ∃ pl, pl = (check v l).1 := ⟨_, rfl⟩
  have HCK : Hd ((pl, er) = check v l) := ⟨by rw [hpl, her]⟩
  clear hS her hbs hpl
  go_enter Try.func16, Try.ntmps16
  go_wp2_with (fail)
  refine (rcheck_any w v A l.length c l p rfl HS.out (by omega) pl er HCK.out).mono ?_
  rintro e w1 ⟨rfl, h1⟩
  have F1 := Hd.mk h1
  clear h1
  by_cases he : er ≠ 0
  · have heb : (er == 0) = false := by simpa using he
    obtain rfl : bs = [] := by rw [HBS.out]; unfold expand; rw [if_neg (by rw [← HE.out]; exact he)]
    go_wp2
    go_ret2
    exact ⟨none, 0, 0, rfl, own_nil _ _ _ _, (by intro j hj; cases hj), F1.out⟩
  obtain rfl : er = 0 := by simpa using he
  have hok : Hd ((check v l).2 = 0) := ⟨HE.out.symm⟩
  have HX : Hd (bs = expF l []) := ⟨by rw [HBS.out]; unfold expand; rw [if_pos hok.out]⟩
  have hsz : sizeOf l ≤ 270532608 := by have := sizeOf_le l; omega
  clear he HE HBS HCK
  go_wp2
  go_loopg [8, 23] l.length (fun kq sv jv wr => ∃ (j : Nat) (A1 : Option Addr) (m d1 : Nat) (b : List Int), sv = .slice A1 m d1 ∧ jv = .int .i64 (j : Nat) ∧ j + kq = l.length ∧ b.length = m ∧ m ≤ 270532608 ∧ Hd (m = sizeOf (l.take j)) ∧ Hd (wr.ownsRow 0 5 1 (.slice A1 m d1) m (u8s b)) ∧ Hd (expF l [] = expF (l.drop j) b) ∧ Hd (∀ y, (Value.slice A1 m d1).ownBlock = some y → w.heap.size ≤ y) ∧ Hd (Fr w wr []))
  case atStart => exact ⟨0, none, 0, 0, [], rfl, rfl, by omega, rfl, by omega, ⟨by simp [sizeOf]⟩, ⟨own_nil _ _ _ _⟩, ⟨by rw [List.drop_zero]⟩, ⟨by intro y hy; cases hy⟩, F1⟩
  case round =>
    obtain ⟨ws, rfl⟩ : ∃ ws : World, ws = wr := ⟨_, rfl⟩
    obtain ⟨gx, rfl⟩ : ∃ gx : Nat, gx = gk := ⟨_, rfl⟩
    obtain ⟨j, A1, m, d1, b, rfl, rfl, hj, hbm, hmb, HM, HO, HL, HB, HF⟩ := hrel
    by_cases h1 : j < l.length
    · obtain ⟨a, o1, rfl, _, ha⟩ := Sl.row (enc := tcell) (sz := 3) (fun _ => rfl) (HS.out.frame HF.out (by simp)) h1 (by decide)
      obtain ⟨hr, hd⟩ := check_ok hok.out j h1
      rw [← HM.out] at hd
      have hsz1 := sizeOf_take h1
      have hsz2 : sizeOf (l.take (j + 1)) ≤ sizeOf l := sizeOf_takes l (j + 1)
      obtain ⟨t, ht⟩ : ∃ t, t = l[j] := ⟨_, rfl⟩
      have HL2 : Hd (expF l [] = expF (l.drop (j + 1)) (tokF t b)) := ⟨by rw [HL.out, List.drop_eq_getElem_cons h1, ← ht]; rfl⟩
      rw [← ht] at ha hr hd hsz1
      have hlen := right_len hr
      have hwd : width t = if t.len = 0 then 1 else t.len.toNat := by unfold width; rw [if_pos hr]
      have c0 := ha 0 (by decide)
      have c1 := ha 1 (by decide)
      have c2 := ha 2 (by decide)
      simp only [tcell, List.getElem?_cons_zero, List.getElem?_cons_succ, Nat.add_zero] at c0 c1 c2
      have hMs := HM.out
      obtain ⟨lt, ln, ds⟩ := t
      simp only at hd hlen hwd c0 c1 c2
      have hfs := HF.out.alloc (.cells #[.int .u8 lt, .int .i64 ln, .int .i64 ds] 74)
      have hos := HO.out.alloc (.cells #[.int .u8 lt, .int .i64 ln, .int .i64 ds] 74)
      have hks := blk_new ws (.cells #[.int .u8 lt, .int .i64 ln, .int .i64 ds] 74)
      have hns : Hd (∀ y, (Value.slice A1 m d1).ownBlock = some y → y ≠ ws.heap.size) := ⟨fun y hy => by have := own_lt HO.out hy; omega⟩
      obtain ⟨kb, hkb⟩ : ∃ kb, kb = ws.heap.size := ⟨_, rfl⟩
      clear ha ht hr HL HO
      go_upto_region 8 with (fail)
      rw [← hkb] at hns hks ⊢
      generalize hwt : ws.alloc (.cells #[.int .u8 lt, .int .i64 ln, .int .i64 ds] 74) = wt
      rw [hwt] at hfs hos hks
      have HFs := Hd.mk hfs
      have HOs := Hd.mk hos
      have HKs := Hd.mk hks
      have g0 := blk_cell hks 0
      have g1 := blk_cell hks 1
      simp only [List.getElem?_toArray, List.getElem?_cons_zero, List.getElem?_cons_succ] at g0 g1
      clear hfs hos hks c0 c1 c2 hwt hkb
      rcases hlen with ⟨rfl, rfl⟩ | hlen
      · -- one byte
        have hw1 : sizeOf (l.take (j + 1)) = m + 1 := by rw [hsz1, hwd, hMs]; rfl
        have hm1 : m + 1 ≤ 270532608 := by omega
        have HM2 : Hd (m + 1 = sizeOf (l.take (j + 1))) := ⟨hw1.symm⟩
        clear hw1 hsz1 hsz2 hwd hMs
        go_wp2_with (at_builtin; refine wpList_append_sl rfl (.tmp 30) (.tmp 33) 32 rfl 5 i0 (.int .u8 0) 1 1 Try.underlying32 hi0 hz0 hz1 hz2 rfl (by decide) (.slice A1 m d1) m _ rfl (by exact HOs.out.alloc _) (some ⟨wt.heap.size, 0, none⟩) 1 1 [.int .u8 lt] (some wt.heap.size) rfl rfl (by exact sl_of_blk (blk_new _ _)) (by intro h; cases h) (by intro u hu; simp at hu; rcases hu with rfl; rfl) (by unfold maxLen; omega) (by omega) ?_; intro A3 d3 w3 hown' hgrow haft; have O3 := Hd.mk hown'; have G3 := Hd.mk hgrow; have F3 := Hd.mk haft; clear hown' hgrow haft; have hb4 := G3.out.block kb (by have := blk_lt HKs.out; simp; omega) (fun e => hns.out _ e.symm rfl); have hb5 := hb4.trans (blk_alloc HKs.out _); have g1p := blk_cell hb5 1; have g2p := blk_cell hb5 2; simp only [List.getElem?_toArray, List.getElem?_cons_zero, List.getElem?_cons_succ] at g1p g2p; clear hb4 hb5)
        clear g0 g1
        go_wp2
        go_loopg [8, 11] 0 (fun kq sv iv wr => sv = .slice A3 (m + 1) d3 ∧ iv = .int .i64 0 ∧ kq = 0 ∧ wr = w3)
        case atStart => exact ⟨rfl, rfl, rfl, rfl⟩
        case round =>
          obtain ⟨rfl, rfl, rfl, rfl⟩ := hrel
          go_wp2
          go_roundg (gx - 1)
          case measure => omega
          case rel => exact ⟨j + 1, A3, m + 1, d3, b ++ [lt], rfl, by go_num, by omega, by simp [hbm], hm1, HM2, ⟨by have := O3.out; rwa [show u8s b ++ [Value.int .u8 lt] = u8s (b ++ [lt]) from by simp [u8s]] at this⟩, HL2, ⟨own_newb HB.out HFs.out.size F3.out⟩, ⟨(HFs.out.alloc _).grown G3.out (fun y hy => .inr (HB.out y hy))⟩⟩
      · obtain ⟨h3, h4, h5, h6, rfl⟩ := hlen
        obtain ⟨ln, rfl⟩ := Int.eq_ofNat_of_zero_le (show 0 ≤ ln by omega)
        obtain ⟨ds, rfl⟩ := Int.eq_ofNat_of_zero_le (show 0 ≤ ds by omega)
        have e0 : ((ln : Int) == 0) = false := by simp; omega
        have hw1 : sizeOf (l.take (j + 1)) = m + ln := by rw [hsz1, hwd, hMs, if_neg (by omega)]; rfl
        have hm1 : m + ln ≤ 270532608 := by omega
        have HM2 : Hd (m + ln = sizeOf (l.take (j + 1))) := ⟨hw1.symm⟩
        have HT : Hd (tokF ⟨0, (ln : Int), (ds : Int)⟩ b = copyF ds ln b) := ⟨by unfold tokF; rw [if_neg (by simp only; omega)]; rfl⟩
        clear hw1 hsz1 hsz2 hwd hMs
        go_wp2
        go_loopg [8, 11] ln (fun kq sv iv wr => ∃ (i : Nat) (A2 : Option Addr) (m2 d2 : Nat) (b2 : List Int), sv = .slice A2 m2 d2 ∧ iv = .int .i64 (i : Nat) ∧ i + kq = ln ∧ b2.length = m2 ∧ Hd (m2 = m + i) ∧ Hd (wr.ownsRow 0 5 1 (.slice A2 m2 d2) m2 (u8s b2)) ∧ Hd (copyF ds ln b = copyF ds (ln - i) b2) ∧ Hd (Aft wt (Value.slice A1 m d1).ownBlock (Value.slice A2 m2 d2).ownBlock) ∧ Hd (Fr wt wr (Value.slice A1 m d1).ownBlock.toList))
        case atStart => exact ⟨0, A1, m, d1, b, rfl, rfl, by omega, hbm, ⟨rfl⟩, HOs, ⟨rfl⟩, ⟨Aft.refl _ _⟩, ⟨Fr.refl _ _⟩⟩
        case round =>
          obtain ⟨i, A2, m2, d2, b2, rfl, rfl, hi, hb2, HM3, HO2, HC2, HA2, HF2⟩ := hrel
          have hb5 := HF2.out.blk HKs.out (fun hm => hns.out _ (by simpa using hm) rfl)
          have g1' := blk_cell hb5 1
          have g2' := blk_cell hb5 2
          simp only [List.getElem?_toArray, List.getElem?_cons_zero, List.getElem?_cons_succ] at g1' g2'
          clear hb5
          by_cases h7 : i < ln
          · have hm3 : m2 + 1 ≤ 270532608 := by have := HM3.out; omega
            obtain ⟨z, hz⟩ : ∃ z : Nat, m2 = z + ds := ⟨m2 - ds, by have := HM3.out; omega⟩
            obtain ⟨a2, c2', e2, _⟩ := own_some HO2.out (by omega)
            injection e2 with e2 _ e2'
            subst e2 e2'
            have hzc := HO2.out.cellAt z (by omega)
            have hzv : b2[z]? = some (at0 b2 z) := at0_get (by omega)
            rw [u8s_get, hzv] at hzc
            simp only [Option.map_some] at hzc
            obtain ⟨zv, hzv2⟩ : ∃ zv, zv = at0 b2 z := ⟨_, rfl⟩
            rw [← hzv2] at hzc
            have HZV := Hd.mk hzv2
            have hidx : (m2 : Int) - (ds : Int) = ((z : Nat) : Int) := by omega
            have hzlt : z < m2 := by omega
            have HZ := Hd.mk hz
            clear hzv hzv2 hz
            go_wp2_with (at_builtin; refine wpList_append_sl rfl (.tmp 41) (.tmp 50) 32 rfl 5 i0 (.int .u8 0) 1 1 Try.underlying32 hi0 hz0 hz1 hz2 rfl (by decide) (.slice (some ⟨a2, 0, none⟩) m2 d2) m2 _ rfl (by exact HO2.out.alloc _) (some ⟨wr.heap.size, 0, none⟩) 1 1 [.int .u8 zv] (some wr.heap.size) rfl rfl (by exact sl_of_blk (blk_new _ _)) (by intro h; cases h) (by intro u hu; simp at hu; rcases hu with rfl; rfl) (by unfold maxLen; omega) (by omega) ?_; intro A3 d3 w3 hown' hgrow haft; have O3 := Hd.mk hown'; have G3 := Hd.mk hgrow; have F3 := Hd.mk haft; clear hown' hgrow haft)
            go_roundg (gk - 1)
            case measure => omega
            case rel =>
              refine ⟨i + 1, A3, m2 + 1, d3, b2 ++ [zv], rfl, by go_num, by omega, by simp [hb2], ⟨by have := HM3.out; omega⟩, ⟨by have := O3.out; rwa [show u8s b2 ++ [Value.int .u8 zv] = u8s (b2 ++ [zv]) from by simp [u8s]] at this⟩, ⟨?_⟩, ⟨HA2.out.trans (aft_of_alloc F3.out) HF2.out.size⟩, ⟨(HF2.out.alloc _).grown G3.out (fun y hy => HA2.out.mem (k := y) (by simp [hy]))⟩⟩
              rw [HC2.out, show ln - i = (ln - (i + 1)) + 1 from by omega]
              simp only [copyF]
              rw [HZV.out, hb2, HZ.out, Nat.add_sub_cancel]
          · obtain rfl : i = ln := by omega
            have F5 : Hd (Fr w wr []) := ⟨HFs.out.trans HF2.out (fun y hy hm => by have := HB.out y (by simpa using hm); omega)⟩
            have B5 : Hd (∀ y, (Value.slice A2 m2 d2).ownBlock = some y → w.heap.size ≤ y) := ⟨fun y hy => by
              rcases HA2.out with h | ⟨z, h, hz⟩
              · rw [h] at hy; exact HB.out y hy
              · rw [h] at hy; cases hy; exact Nat.le_trans HFs.out.size hz⟩
            go_wp2
            go_roundg (gx - 1)
            case measure => omega
            case rel => exact ⟨j + 1, A2, m2, d2, b2, rfl, by go_num, by omega, hb2, by have := HM3.out; omega, ⟨by rw [HM3.out]; exact HM2.out⟩, HO2, ⟨by rw [HL2.out, HT.out, HC2.out, Nat.sub_self]; rfl⟩, B5, F5⟩
    · obtain rfl : j = l.length := by omega
      have hbb : Hd (bs = b) := ⟨by rw [HX.out, HL.out, List.drop_length]; rfl⟩
      go_wp2
      go_ret2
      exact ⟨A1, m, d1, rfl, by rw [hbb.out]; exact HO.out, HB.out, HF.out⟩
end Go.Proofs.Ytbfdokklhdmmoaa.Lz
