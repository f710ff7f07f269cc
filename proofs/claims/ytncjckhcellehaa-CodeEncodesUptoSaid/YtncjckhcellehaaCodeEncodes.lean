/- CodeEncodes' walk. Conditions: at most 2^20 lengths, at most 2^20 symbols. -/
import Derived.Test.YtncjckhcellehaaCodeH
import Derived.Test.YtncjckhcellehaaCodeChecks
set_option linter.unusedVariables false
set_option linter.unusedSimpArgs false
set_option maxRecDepth 100000
namespace Go.Proofs.Ytncjckhcellehaa.Code
open Go.RowKit Go.IntWalk Go.Proofs.Ytncjckhcellehaa.Lib Go.Proofs.Ytncjckhcellehaa.Ints Go.Proofs.Ytncjckhcellehaa.Num

set_option maxHeartbeats 16000000 in
theorem encodes_walk (A : Option Addr) (n c : Nat) (lens : List Int) (q0 : Option Nat) (A2 : Option Addr) (n2 c2 : Nat) (syms : List Int) (q1 : Option Nat) (W : World) (hS : SlArg W A n c (i64s lens) q0) (hw : ∀ x ∈ lens, (Lit.int .i64 x).wf = true) (hb : n ≤ 1048576) (hS2 : SlArg W A2 n2 c2 (i64s syms) q1) (hw2 : ∀ x ∈ syms, (Lit.int .i64 x).wf = true) (hb2 : n2 ≤ 1048576) :
    Calls Try.prog 4 #[.slice A n c, .slice A2 n2 c2] W fun e w' => e = .returned (.bool true) ∧ Below W.heap.size W w' := by
  obtain ⟨i0, hi0, hz0, hz1, hz2⟩ := info_parts Bits.infoBool
  have HS := Hd.mk hS
  have HS2 := Hd.mk hS2
  have hl : lens.length = n := by have := hS.len; simpa [i64s] using this
  have hl2 : syms.length = n2 := by have := hS2.len; simpa [i64s] using this
  clear hS hw hS2 hw2
  obtain ⟨r, hr⟩ : ∃ r, r = check lens := ⟨_, rfl⟩
  have HR := Hd.mk hr
  clear hr
  go_enter Try.func4, Try.ntmps4
  go_wp2_with (fail)
  refine (llend_any W A n c lens q0 HS.out (by omega)).mono ?_
  rintro e w1 ⟨g0, d1, rfl, h1, h2, h3⟩
  have O1 := Hd.mk h1
  have F1 := Hd.mk h3
  have NG0 := Hd.mk h2
  clear h1 h2 h3
  go_wp2_with (fail)
  refine (newenc_any w1 (some ⟨g0, 0, none⟩) n d1 lens _ (lent O1.out hl) r HR.out).mono ?_
  rintro e w2 ⟨p, rfl, h1, h2, h3⟩
  have P2 := Hd.mk h2
  have P3 := Hd.mk h3
  have O2 := Hd.mk (own_frame O1.out h1 (by simp))
  have F2 := Hd.mk (F1.out.trans h1 (by simp))
  have LG0 : Hd (g0 < w1.heap.size) := ⟨own_lt O1.out rfl⟩
  clear h1 h2 h3 O1
  have hrr : (r != r) = false := by simp
  go_wp2_with (fail)
  refine (rchk_any w2 A n c lens q0 (HS.out.frame F2.out (by simp)) r HR.out).mono ?_
  rintro e w3 ⟨rfl, rfl⟩
  go_wp2_with (fail)
  refine (lkept_any w2 A n c lens q0 (HS.out.frame F2.out (by simp)) (by omega) (some ⟨g0, 0, none⟩) (n + 3) d1 (lens ++ tail3) _ (by rw [List.length_append, hl]; rfl) (by omega) (sl_of_own O2.out)).mono ?_
  rintro e w3 ⟨rfl, h3⟩
  rw [decide_eq_true rfl]
  have O3 := Hd.mk (own_frame O2.out h3 (by simp))
  have F3 := Hd.mk (F2.out.trans h3 (by simp))
  have G23 := Hd.mk h3
  clear h3 O2
  go_wp2
  go_loopg [38] (n + 3) (fun kq iv wr => ∃ (i : Nat) (zs : List Value), iv = .int .i64 (i : Nat) ∧ i + kq = n + 3 ∧ Hd (wr.ownsRow 0 3 1 (.slice (some ⟨g0, 0, none⟩) (n + 3) d1) (n + 3) zs) ∧ Hd (Fr w3 wr [g0]))
  case atStart => exact ⟨0, _, rfl, by omega, O3, ⟨Fr.refl _ _⟩⟩
  case round =>
    obtain ⟨i, zs, rfl, hi, HO, HF⟩ := hrel
    by_cases h1 : i < n + 3
    · obtain ⟨u0, y0, f0⟩ := own_any HO.out (j := i) (by omega)
      have hiI : (i : Int) < (n : Nat) + 3 := by omega
      go_wp2
      go_roundg (gk - 1)
      case measure => omega
      case rel => exact ⟨i + 1, _, by go_num, by omega, ⟨(HO.out.stored _ _).1⟩, ⟨HF.out.setCell _ (.inl (by simp))⟩⟩
    · have F4 : Hd (Fr W wr []) := ⟨F3.out.trans HF.out (fun x hx hm => by simp at hm; have := NG0.out; omega)⟩
      by_cases hr0 : r = 0
      · subst hr0
        obtain ⟨g, ga, da, B, db, L, rfl, hE, hg1, hg2, hg3⟩ := P3.out rfl
        have E4 : Hd (En wr g ga da B db lens L) := ⟨(hE.frame G23.out (by simp)).frame HF.out ⟨by simp; have := LG0.out; omega, by simp; have := LG0.out; omega, fun y hy => by have := hg3 y hy; have := LG0.out; simp; omega⟩⟩
        clear hE hg1 hg2 hg3 P2 P3 O3 HO HF G23 F3 F2 F1
        go_upto_region 15 with (fail)
        have T5 := Hd.mk (Bits.tl_new wr 36 (by decide))
        have A5 := (Fr.refl wr []).alloc (.cells #[.slice none 0 0, .int .i64 0] 36)
        have E5 := Hd.mk (E4.out.frame A5 (by simp))
        have F5 := Hd.mk (F4.out.trans A5 (by simp))
        have NW := Hd.mk F4.out.size
        clear A5 E4 F4
        generalize wr.alloc (.cells #[.slice none 0 0, .int .i64 0] 36) = w5 at *
        generalize wr.heap.size = gw at *
        go_upto_region 16 with (fail)
        have X6 := Hd.mk (Bits.rw_new w5)
        have A6 := (Fr.refl w5 []).alloc (.cells #[.slice none 0 0] 39)
        have E6 := Hd.mk (E5.out.frame A6 (by simp))
        have T6 := Hd.mk (T5.out.frame A6 (by simp) (by simp))
        have F6 := Hd.mk (F5.out.trans A6 (by simp))
        have NX := Hd.mk F5.out.size
        clear A6 E5 T5 F5
        generalize w5.alloc (.cells #[.slice none 0 0] 39) = w6 at *
        generalize w5.heap.size = gx at *
        have HES : Hd (Es W w6 g ga da B db lens L gw none gx none 0 0) := ⟨⟨E6.out, T6.out, X6.out, F6.out, NW.out, NX.out, (by intro y hy; cases hy), (by intro y hy; cases hy)⟩⟩
        clear E6 T6 X6 F6
        go_wp2_with (fail)
        go_loopg [56] n2 (fun kq iv wr => ∃ (i N m : Nat) (q p : Option Nat), iv = .int .i64 (i : Nat) ∧ i + kq = n2 ∧ m ≤ 15 * i ∧ Hd (Es W wr g ga da B db lens L gw q gx p N m))
        case atStart => exact ⟨0, 0, 0, none, none, rfl, by omega, by omega, HES⟩
        case round =>
          clear HES
          obtain ⟨i, N, m, q, p, rfl, hi, hm, HES⟩ := hrel
          by_cases hin : i < n2
          · obtain ⟨bd, off, rfl, hq, hcc⟩ := (HS2.out.sl.frame HES.out.fr (by simp)) (by rw [i64s_length]; omega)
            have kd := (hcc i (by rw [i64s_length]; omega)).trans (i64s_get syms i)
            obtain ⟨s, hs⟩ : ∃ s, syms[i]? = some s := ⟨_, List.getElem?_eq_getElem (by omega)⟩
            rw [hs] at kd
            simp only [Option.map_some] at kd
            clear hcc hs hq
            obtain ⟨k, hk⟩ : ∃ k, k = bitsOf lens s := ⟨_, rfl⟩
            obtain ⟨cd, hcd⟩ : ∃ cd, cd = codeOf lens s := ⟨_, rfl⟩
            have HK := Hd.mk hk
            have HCD := Hd.mk hcd
            have hk15 : k ≤ 15 := by
              by_cases h0 : bitsOf lens s = 0
              · omega
              · have := (bitsOf_fits HR.out.symm h0).2.2.2.1; omega
            clear hk hcd
            go_wp2_with (fail)
            refine (bits_ref wr A n c lens q0 (HS.out.frame HES.out.fr (by simp)) HR.out.symm s k cd HK.out HCD.out).mono ?_
            rintro e w7 ⟨Al, dl, rfl, h1, h2, h3⟩
            have HES7 := Hd.mk (HES.out.call h3)
            have OL := Hd.mk h1
            have BL := Hd.mk (fun y hy => Nat.le_trans HES.out.fr.size (h2 y hy) : ∀ y, (Value.slice Al k dl).ownBlock = some y → W.heap.size ≤ y)
            clear h1 h2 h3 HES kd
            obtain ⟨er, her⟩ : ∃ er : Int, er = if k = 0 then 53 else 0 := ⟨_, rfl⟩
            have HER := Hd.mk her
            clear her
            go_upto_if 65 with (fail)
            go_cut [15] (fun s15 wd => s15 = .int .i64 er ∧ wd = w7)
            case first =>
              by_cases hk0 : k = 0
              · obtain rfl : er = 53 := by rw [HER.out, if_pos hk0]
                have gk0 : ((k : Int) == 0) = true := by simp; omega
                clear hk0
                go_wp2
                go_meet
                exact ⟨rfl, rfl⟩
              · obtain rfl : er = 0 := by rw [HER.out, if_neg hk0]
                have gk0 : ((k : Int) == 0) = false := by simp; omega
                clear hk0
                go_wp2
                go_meet
                exact ⟨rfl, rfl⟩
            case rest =>
            obtain ⟨rfl, rfl⟩ := hcut
            obtain ⟨w7, rfl⟩ : ∃ w7 : World, w7 = wc := ⟨_, rfl⟩
            have gkk : ((k : Int) != (k : Int)) = false := by simp
            have gee : (er != er) = false := by simp
            go_wp2_with (fail)
            refine (cost_any s k HK.out HES7.out.en).mono ?_
            rintro e w8 ⟨rfl, rfl⟩
            go_wp2_with (fail)
            refine (put_any s k cd er HK.out HCD.out HER.out HES7.out (by omega)).mono ?_
            rintro e w8 ⟨rfl, q', t8, n8, e8, x8, f8, f78⟩
            have OL8 : Hd (w8.ownsRow 0 4 1 (.slice Al k dl) k (Bits.bools (rv cd k) k)) := ⟨own_frame OL.out f78 (fun y hy hm => by
              obtain ⟨cs, hcs⟩ := own_type OL.out hy
              rcases List.mem_cons.1 hm with e | hm
              · obtain ⟨sv, hb, _⟩ := HES7.out.tl
                exact blk_ne hcs hb (by decide) e
              · obtain ⟨ds, hds⟩ := HES7.out.qtype (by simpa using hm)
                exact blk_ne hcs hds (by decide) rfl)⟩
            have T8 := Hd.mk t8
            have N8 := Hd.mk n8
            have E8 := Hd.mk e8
            have F8 := Hd.mk f8
            obtain ⟨Ax, cx, hxb, hxo, hxp, hxN⟩ := x8
            have XB := Hd.mk hxb
            have XO := Hd.mk hxo
            have XP := Hd.mk hxp
            have XN := Hd.mk hxN
            have NEWP := Hd.mk HES7.out.new
            have PT : Hd (∀ y, p = some y → ∃ cs, w8.heap[y]? = some (.cells cs 4 (0, 0))) := ⟨fun y hy => by rw [← hxp] at hy; exact own_type hxo hy⟩
            have NE8 : Hd ((Value.slice Ax m cx).ownBlock ≠ some gx) := ⟨own_ne hxo hxb (by decide)⟩
            have x0 := blk_cell hxb 0
            have xf := blk_frozen hxb 0
            simp only [List.getElem?_toArray, List.getElem?_cons_zero] at x0
            have NLX : Hd (∀ y, (Value.slice Al k dl).ownBlock = some y → True) := ⟨fun _ _ => trivial⟩
            clear t8 n8 e8 f8 f78 hxb hxo hxp hxN OL HES7 gkk gee
            go_upto_region 25 with (fail)
            go_wp2_with (at_builtin; refine wpList_append_sl rfl (.tmp 80) (.tmp 81) 37 rfl 4 i0 (.bool false) 1 1 Try.underlying37 hi0 hz0 hz1 hz2 rfl (by decide) (.slice Ax m cx) m _ rfl (by exact XO.out) Al k dl (Bits.bools (rv cd k) k) (Value.slice Al k dl).ownBlock rfl (by rw [Bits.bools_length, Nat.mul_one]) (by exact sl_of_own OL8.out) (by exact fun h => own_none OL8.out h) (by intro u hu; simp only [Bits.bools, List.mem_map] at hu; obtain ⟨_, _, rfl⟩ := hu; rfl) (by unfold maxLen; omega) (by omega) ?_; intro A3 d3 w9 hown' hgrow haft; have O9 := Hd.mk hown'; have G9 := Hd.mk hgrow; have A9 := Hd.mk haft; have B9 := Hd.mk (blk_grown hgrow XB.out NE8.out.symm); have y0 := blk_cell B9.out 0; have yf := blk_frozen B9.out 0; simp only [List.getElem?_toArray, List.getElem?_cons_zero] at y0; clear hown' hgrow haft)
            have hf : Fr w8 (w9.setCell ⟨gx, 0, none⟩ (.slice A3 (m + k) d3)) (gx :: p.toList) := ((Fr.refl w8 _).grown G9.out (fun y hy => .inl (by rw [XP.out] at hy; simp [hy]))).setCell _ (.inl (by simp))
            obtain ⟨en2, tl2⟩ := es_put2 E8.out T8.out PT.out ⟨_, XB.out⟩ hf
            have hne9 : (Value.slice A3 (m + k) d3).ownBlock ≠ some gx := own_ne O9.out B9.out (by decide)
            have hlt9 : N + rv cd k * 2 ^ m < 2 ^ (m + k) := by
              have h1 := rv_lt cd k
              have h2 : (rv cd k + 1) * 2 ^ m ≤ 2 ^ k * 2 ^ m := Nat.mul_le_mul_right _ h1
              rw [Nat.add_mul, Nat.one_mul, ← Nat.pow_add, Nat.add_comm k m] at h2
              have := XN.out
              omega
            have hrow : Bits.bools N m ++ Bits.bools (rv cd k) k = Bits.bools (N + rv cd k * 2 ^ m) (m + k) := by
              have h1 := bools_app XN.out (rv cd k) k
              rw [Nat.mod_eq_of_lt (rv_lt cd k)] at h1
              exact h1
            have HES10 : Hd (Es W (w9.setCell ⟨gx, 0, none⟩ (.slice A3 (m + k) d3)) g ga da B db lens L gw q' gx (Value.slice A3 (m + k) d3).ownBlock (N + rv cd k * 2 ^ m) (m + k)) := ⟨by
              refine ⟨en2, tl2, ⟨A3, d3, by simpa using blk_set B9.out 0 (.slice A3 (m + k) d3), own_setFar (by rw [← hrow]; exact O9.out) _ hne9, rfl, hlt9⟩, F8.out.trans hf (fun x hx hm => ?_), NEWP.out.1, NEWP.out.2.1, N8.out, fun y hy => ?_⟩
              · rcases List.mem_cons.1 hm with e | hm
                · have := NEWP.out.2.1; omega
                · have := NEWP.out.2.2.2 x (by simpa using hm); omega
              · rcases A9.out with e | ⟨z, e, hz⟩
                · rw [e, XP.out] at hy; exact NEWP.out.2.2.2 y hy
                · rw [e] at hy; cases hy
                  have := F8.out.size
                  omega⟩
            clear hf en2 tl2 hne9 hlt9 hrow
            go_wp2
            go_roundg (gk - 1)
            case measure => omega
            case rel => exact ⟨i + 1, _, m + k, _, _, by go_num, by omega, by omega, HES10⟩
          · obtain rfl : i = n2 := by omega
            obtain ⟨bs, hbs⟩ : ∃ bs, bs = bytesOf N m := ⟨_, rfl⟩
            have hbl : bs.length = (m + 7) / 8 := by rw [hbs]; exact bytesOf_length _ _
            have hbr : Hd (∀ x ∈ bs, 0 ≤ x ∧ x ≤ 255) := ⟨by rw [hbs]; exact bytesOf_range⟩
            have HBS := Hd.mk hbs
            clear hbs
            obtain ⟨Ax, cx, hxb, hxo, hxp, hxN⟩ := HES.out.rw_
            have x0 := blk_cell hxb 0
            simp only [List.getElem?_toArray, List.getElem?_cons_zero] at x0
            clear hxb hxo hxp hxN
            obtain ⟨wz, rfl⟩ : ∃ wz : World, wz = wr := ⟨_, rfl⟩
            have gmm : ((m : Int) == (m : Int)) = true := by simp
            go_upto_region 27 with (fail)
            have HZ := Hd.mk (HES.out.call ((Fr.refl wz []).drew))
            go_region_with (first
              | (go_at_call 18; refine (Bits.len_any _ (by exact HZ.out.tl)).mono ?_; rintro e wn ⟨rfl, rfl⟩)
              | (go_at_call 20; refine (Bits.bytes_any (N := N) (m := m) _ (by omega) (by exact HZ.out.tl)).mono ?_; rintro e wn ⟨v, rfl, h1, h2, h3⟩; have HZ := Hd.mk (HZ.out.call h3); obtain ⟨A5, c5, rfl, hc5, _⟩ := own_slice h1; have OB := Hd.mk h1; clear h1 h2 h3)
              | (go_at_call 21; refine (Bits.wbytes_any (N := N) (m := m) _ (by omega) (by exact HZ.out.rw_)).mono ?_; rintro e wn ⟨v2, rfl, h1, h2, h3⟩; have HZ := Hd.mk (HZ.out.call h3); have OB := Hd.mk (own_frame OB.out h3 (by simp)); obtain ⟨A6, c6, rfl, hc6, _⟩ := own_slice h1; have OX := Hd.mk h1; clear h1 h2 h3)
              | (go_at_call 19; refine (Bits.same_any _ A5 A6 _ _ c5 c6 (bytesOf N m) (bytesOf N m) _ _ (bytesOf_length _ _) (bytesOf_length _ _) bytesOf_range bytesOf_range (by exact sl_of_own OB.out) (by exact sl_of_own OX.out) (by exact own_none OB.out) (by exact own_none OX.out)).mono ?_; rintro e wn ⟨rfl, rfl⟩; rw [decide_eq_true rfl])
              | (go_at_call 17; refine (put_nilw 0 (by exact HZ.out.en)).mono ?_; rintro e wn ⟨rfl, rfl⟩)
              | (go_at_call 10; refine (clives_any _).mono ?_; rintro e wn ⟨rfl, h3⟩; have HZ := Hd.mk (HZ.out.call h3); clear h3))
            all_goals
              go_wp2
              go_ret
              exact ⟨rfl, HZ.out.fr.below⟩
      · have hne : (r != 0) = true := by simpa using hr0
        obtain rfl : p = none := P2.out hr0
        go_wp2_with (fail)
        refine (clives_any wr).mono ?_
        rintro e w5 ⟨rfl, h5⟩
        have F5 := Hd.mk (F4.out.trans h5 (by simp))
        clear h5
        go_wp2
        go_ret
        exact ⟨rfl, F5.out.below⟩
end Go.Proofs.Ytncjckhcellehaa.Code
