/- CodeChecks' walk. Conditions: fewer than 2^44 numbers. -/
import Derived.Test.YtncjckhcellehaaCodeLives
import Derived.Test.YtncjckhcellehaaCodeHelp
import Derived.Test.YtncjckhcellehaaCodeR
set_option linter.unusedVariables false
set_option linter.unusedSimpArgs false
set_option maxRecDepth 100000
namespace Go.Proofs.Ytncjckhcellehaa.Code
open Go.RowKit Go.IntWalk Go.Proofs.Ytncjckhcellehaa.Lib Go.Proofs.Ytncjckhcellehaa.Ints Go.Proofs.Ytncjckhcellehaa.Num Go.Proofs.Ytncjckhcellehaa.Bits

theorem lent {w : World} {g d n : Nat} {xs : List Int} (h : w.ownsRow 0 3 1 (.slice (some ⟨g, 0, none⟩) (n + 3) d) (n + 3) (i64s (xs ++ tail3))) (hn : xs.length = n) : SlArg w (some ⟨g, 0, none⟩) n d (i64s xs) (some g) := by
  obtain ⟨A', c', e, hc, hmx, _⟩ := own_slice h
  injection e with _ _ e2
  subst e2
  refine ⟨by rw [i64s_length, hn], by omega, hmx, fun h => by (cases h), ?_, fun b hb => by (cases hb; exact own_lt h rfl)⟩
  intro hp
  have hs := sl_of_own h
  obtain ⟨b, off, e1, e2, hcc⟩ := hs (by simp [i64s, tail3])
  refine ⟨b, off, e1, e2, fun j hj => ?_⟩
  rw [hcc j (by rw [i64s_length] at hj ⊢; rw [List.length_append]; omega), i64s_app, List.getElem?_append_left hj]
theorem codes_short (lens : List Int) : (codes lens).length ≤ 288 := by
  by_cases h : check lens = 0
  · rw [codes_len h]; exact (bad_false (check_zero h).1).1
  · unfold codes; rw [if_neg h]; exact Nat.zero_le _
def nl (L : List Nat) : List Int := L.map fun (c : Nat) => (c : Int)
theorem nl_len (L : List Nat) : (nl L).length = L.length := by simp [nl]
set_option maxHeartbeats 16000000 in
theorem checks_walk (A : Option Addr) (n c : Nat) (lens : List Int) (q : Option Nat) (W : World) (hS : SlArg W A n c (i64s lens) q) (hw : ∀ x ∈ lens, (Lit.int .i64 x).wf = true) (hb : n * 8 ≤ 140737488351232) :
    Calls Try.prog 8 #[.slice A n c] W fun e w' => e = .returned (.bool true) ∧ Below W.heap.size W w' := by
  obtain ⟨j0, hj0, hj1, hj2, hj3⟩ := info_parts infoI64
  have HS := Hd.mk hS
  have hl : lens.length = n := by have := hS.len; simpa [i64s] using this
  clear hS hw
  obtain ⟨v, hv⟩ : ∃ v, v = spVal lens := ⟨_, rfl⟩
  obtain ⟨er, her⟩ : ∃ er, er = spErr lens := ⟨_, rfl⟩
  obtain ⟨r, hr⟩ : ∃ r, r = check lens := ⟨_, rfl⟩
  obtain ⟨L, hL⟩ : ∃ L, L = codes lens := ⟨_, rfl⟩
  have hLs : L.length ≤ 288 := by rw [hL]; exact codes_short lens
  have HV := Hd.mk hv
  have HER := Hd.mk her
  have HR := Hd.mk hr
  have HL := Hd.mk hL
  clear hv her hr hL
  go_enter Try.func8, Try.ntmps8
  go_wp2_with (fail)
  refine (llend_any W A n c lens q HS.out (by omega)).mono ?_
  rintro e w1 ⟨g, d1, rfl, h1, h2, h3⟩
  have O1 := Hd.mk h1
  have F1 := Hd.mk h3
  clear h1 h2 h3
  go_wp2_with (fail)
  refine (space_any w1 (some ⟨g, 0, none⟩) n d1 lens _ (lent O1.out hl) v er HV.out HER.out).mono ?_
  rintro e w2 ⟨rfl, h3⟩
  have O2 := Hd.mk (own_frame O1.out h3 (by simp))
  have F2 := Hd.mk (F1.out.trans h3 (by simp))
  clear h3 O1 F1
  go_wp2_with (fail)
  refine (rspc_any w2 A n c lens q (HS.out.frame F2.out (by simp)) v er HV.out HER.out).mono ?_
  rintro e w3 ⟨rfl, rfl⟩
  go_wp2_with (fail)
  refine (codes_any w2 (some ⟨g, 0, none⟩) n d1 lens _ (lent O2.out hl) r L HR.out HL.out).mono ?_
  rintro e w4 ⟨Aa, da, rfl, h1, h2, h3⟩
  have OA4 := Hd.mk h1
  have BA := Hd.mk (fun y hy => Nat.le_trans F2.out.size (h2 y hy) : ∀ y, (Value.slice Aa L.length da).ownBlock = some y → W.heap.size ≤ y)
  have LA := Hd.mk (fun y hy => own_lt h1 hy : ∀ y, (Value.slice Aa L.length da).ownBlock = some y → y < w4.heap.size)
  have O4 := Hd.mk (own_frame O2.out h3 (by simp))
  have F4 := Hd.mk (F2.out.trans h3 (by simp))
  clear h1 h2 h3 O2 F2
  go_wp2_with (fail)
  refine (codes_any w4 (some ⟨g, 0, none⟩) n d1 lens _ (lent O4.out hl) r L HR.out HL.out).mono ?_
  rintro e w5 ⟨Ab, db, rfl, h1, h2, h3⟩
  have OB5 := Hd.mk h1
  have NAB : Hd (∀ y, (Value.slice Aa L.length da).ownBlock = some y → (Value.slice Ab L.length db).ownBlock ≠ some y) := ⟨fun y hy hz => by have := LA.out y hy; have := h2 y hz; omega⟩
  have OA5 := Hd.mk (own_frame OA4.out h3 (by simp))
  have O5 := Hd.mk (own_frame O4.out h3 (by simp))
  have F5 := Hd.mk (F4.out.trans h3 (by simp))
  have S45 := h3.size
  clear h1 h2 h3 OA4 O4 F4
  go_wp2_with (fail)
  refine (rcodes_any w5 A n c lens q (HS.out.frame F5.out (by simp)) r L HR.out HL.out).mono ?_
  rintro e w6 ⟨Aw, dw, rfl, h1, h2, h3⟩
  have OW6 := Hd.mk h1
  have NAW : Hd (∀ y, (Value.slice Aa L.length da).ownBlock = some y → (Value.slice Aw L.length dw).ownBlock ≠ some y) := ⟨fun y hy hz => by have := LA.out y hy; have := h2 y hz; omega⟩
  have OA6 := Hd.mk (own_frame OA5.out h3 (by simp))
  have OB6 := Hd.mk (own_frame OB5.out h3 (by simp))
  have O6 := Hd.mk (own_frame O5.out h3 (by simp))
  have F6 := Hd.mk (F5.out.trans h3 (by simp))
  clear h1 h2 h3 OA5 OB5 O5 F5
  have hvv : ((v : Int) != (v : Int)) = false := by simp
  have hee : (er != er) = false := by simp
  have hrr : (r != r) = false := by simp
  go_wp2_with (fail)
  refine (check_any w6 (some ⟨g, 0, none⟩) n d1 lens _ (lent O6.out hl) r HR.out).mono ?_
  rintro e w7 ⟨rfl, h3⟩
  have OA7 := Hd.mk (own_frame OA6.out h3 (by simp))
  have OB7 := Hd.mk (own_frame OB6.out h3 (by simp))
  have OW7 := Hd.mk (own_frame OW6.out h3 (by simp))
  have O7 := Hd.mk (own_frame O6.out h3 (by simp))
  have F7 := Hd.mk (F6.out.trans h3 (by simp))
  clear h3 OA6 OB6 OW6 O6 F6
  go_wp2_with (fail)
  refine (rchk_any w7 A n c lens q (HS.out.frame F7.out (by simp)) r HR.out).mono ?_
  rintro e w8 ⟨rfl, rfl⟩
  go_wp2_with (fail)
  refine (lsame_any w7 Aa Aw L.length L.length da dw (nl L) (nl L) _ _ (nl_len L) (nl_len L) (sl_of_own OA7.out) (sl_of_own OW7.out) (by omega) (by omega)).mono ?_
  rintro e w8 ⟨rfl, h3⟩
  rw [decide_eq_true rfl]
  have OA8 := Hd.mk (own_frame OA7.out h3 (by simp))
  have OB8 := Hd.mk (own_frame OB7.out h3 (by simp))
  have OW8 := Hd.mk (own_frame OW7.out h3 (by simp))
  have O8 := Hd.mk (own_frame O7.out h3 (by simp))
  have F8 := Hd.mk (F7.out.trans h3 (by simp))
  clear h3 OA7 OB7 OW7 O7 F7
  go_wp2_with (fail)
  refine (lkept_any w8 A n c lens q (HS.out.frame F8.out (by simp)) (by omega) (some ⟨g, 0, none⟩) (n + 3) d1 (lens ++ tail3) _ (by rw [List.length_append, hl]; rfl) (by omega) (sl_of_own O8.out)).mono ?_
  rintro e w9 ⟨rfl, h3⟩
  rw [decide_eq_true rfl]
  have PA := Hd.mk (own_frame OA8.out h3 (by simp))
  have PB := Hd.mk (own_frame OB8.out h3 (by simp))
  have PW := Hd.mk (own_frame OW8.out h3 (by simp))
  have F9 := Hd.mk ((F8.out.trans h3 (by simp)).mono (G := (Value.slice Aa L.length da).ownBlock.toList) (by simp))
  clear h3 OA8 OB8 OW8 O8 F8 LA S45
  go_wp2
  go_loopg [80] L.length (fun kq iv wr => ∃ (i : Nat) (zs : List Value), iv = .int .i64 (i : Nat) ∧ i + kq = L.length ∧ Hd (wr.ownsRow 0 3 1 (.slice Aa L.length da) L.length zs) ∧ Hd (Fr w9 wr (Value.slice Aa L.length da).ownBlock.toList))
  case atStart => exact ⟨0, _, rfl, by omega, PA, ⟨Fr.refl _ _⟩⟩
  case round =>
    obtain ⟨i, zs, rfl, hi, HO, HF⟩ := hrel
    by_cases h1 : i < L.length
    · obtain ⟨g3, d3', e3, hd3⟩ := own_some HO.out (by omega)
      injection e3 with e3 _ e4
      subst e3 e4
      obtain ⟨u0, y0, f0⟩ := own_any HO.out (j := i) (by omega)
      go_wp2
      go_roundg (gk - 1)
      case measure => omega
      case rel => exact ⟨i + 1, _, by go_num, by omega, ⟨(HO.out.stored _ _).1⟩, ⟨HF.out.setCell _ (.inl (by simp [Value.ownBlock]))⟩⟩
    · clear PA
      go_wp2_with (at_builtin; refine wpList_append_sl rfl (.tmp 87) (.tmp 88) 23 rfl 3 j0 (.int .i64 0) 1 8 Try.underlying23 hj0 hj1 hj2 hj3 rfl (by decide) (.slice Aa L.length da) L.length _ rfl (by exact HO.out.alloc _) (some ⟨wr.heap.size, 0, none⟩) 3 3 [.int .i64 5, .int .i64 5, .int .i64 5] (some wr.heap.size) rfl rfl (by exact sl_of_blk (blk_new _ _)) (by intro h; cases h) ?d1 ?d2 ?d3 ?_)
      case d1 => intro u hu; simp at hu; subst hu; rfl
      case d2 => unfold maxLen; omega
      case d3 => omega
      intro A9 d9 w10 hown' hgrow haft
      have hf9 : Fr w9 w10 (Value.slice Aa L.length da).ownBlock.toList := (HF.out.alloc _).grown hgrow (fun y hy => .inl (by simp [hy]))
      have G9 := Hd.mk hf9
      clear hown' hgrow haft hf9
      go_wp2_with (fail)
      refine (lsame_any w10 Ab Aw L.length L.length db dw (nl L) (nl L) _ _ (nl_len L) (nl_len L) ((sl_of_own PB.out).frame G9.out (fun y hy hm => NAB.out y (by simpa using hm) hy)) ((sl_of_own PW.out).frame G9.out (fun y hy hm => NAW.out y (by simpa using hm) hy)) (by omega) (by omega)).mono ?_
      rintro e w11 ⟨rfl, g10⟩
      rw [decide_eq_true rfl]
      have F10 := Hd.mk ((F9.out.trans G9.out (F := (Value.slice Aa L.length da).ownBlock.toList) (fun y hy hz => hz)).trans g10 (by simp))
      clear g10
      have hnn : ((L.length : Int) + 3 == (L.length : Int) + 3) = true := by simp
      go_wp2_with (fail)
      refine (clives_any w11).mono ?_
      rintro e w12 ⟨rfl, g11⟩
      have F11 := Hd.mk (F10.out.trans g11 (by simp))
      clear g11
      go_wp2
      go_ret
      refine ⟨rfl, (F11.out.mono (G := []) (fun y hy hz => ?_)).below⟩
      have := BA.out y (by simpa using hz)
      omega
end Go.Proofs.Ytncjckhcellehaa.Code
