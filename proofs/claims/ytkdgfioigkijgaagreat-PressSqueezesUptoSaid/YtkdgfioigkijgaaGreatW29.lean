import Derived.Test.YtkdgfioigkijgaaGreatW01
import Derived.Test.YtkdgfioigkijgaaGreatW02
import Derived.Test.YtkdgfioigkijgaaGreatW03
import Derived.Test.YtkdgfioigkijgaaGreatW04
import Derived.Test.YtkdgfioigkijgaaGreatW05
import Derived.Test.YtkdgfioigkijgaaGreatW06
import Derived.Test.YtkdgfioigkijgaaGreatW07
import Derived.Test.YtkdgfioigkijgaaGreatW08
import Derived.Test.YtkdgfioigkijgaaGreatW09
import Derived.Test.YtkdgfioigkijgaaGreatW10
import Derived.Test.YtkdgfioigkijgaaGreatW11
import Derived.Test.YtkdgfioigkijgaaGreatW12
import Derived.Test.YtkdgfioigkijgaaGreatW13
import Derived.Test.YtkdgfioigkijgaaGreatW14
import Derived.Test.YtkdgfioigkijgaaGreatW15
import Derived.Test.YtkdgfioigkijgaaGreatW16
import Derived.Test.YtkdgfioigkijgaaGreatW17
import Derived.Test.YtkdgfioigkijgaaGreatW18
import Derived.Test.YtkdgfioigkijgaaGreatW19
import Derived.Test.YtkdgfioigkijgaaGreatW20
import Derived.Test.YtkdgfioigkijgaaGreatW21
import Derived.Test.YtkdgfioigkijgaaGreatW22
import Derived.Test.YtkdgfioigkijgaaGreatW23
import Derived.Test.YtkdgfioigkijgaaGreatW24
import Derived.Test.YtkdgfioigkijgaaGreatW25
import Derived.Test.YtkdgfioigkijgaaGreatW26
import Derived.Test.YtkdgfioigkijgaaGreatW27
import Derived.Test.YtkdgfioigkijgaaGreatW28
import Derived.BigRegion
import Derived.BigQuiet
import Derived.Deep.QuietTactic
import Derived.Deep.LoopGhost
import Derived.Deep.DeepCutAuto
import Derived.KernelRfl
import Derived.Deep.RegionLaw
import Derived.Outline
set_option linter.unusedVariables false
set_option linter.unusedSimpArgs false
set_option maxRecDepth 100000
namespace Go.Proofs.YtkdgfioigkijgaaGreat.Prs
open Go.RowKit Go.Proofs.YtkdgfioigkijgaaGreat.Lib Go.Proofs.YtkdgfioigkijgaaGreat.Ints Go.Proofs.YtkdgfioigkijgaaGreat.Lz Go.Proofs.YtkdgfioigkijgaaGreat.Num Go.Proofs.YtkdgfioigkijgaaGreat.Bits Go.Proofs.YtkdgfioigkijgaaGreat.Blk
theorem sqz_le {d : List Int} {k : Opt} {most rounds : Int} (hb : Bytes d) (h3 : d.length ≤ 1048576) : (sqzN d k most rounds).1.length ≤ 20000000 ∧ (sqzN d k most rounds).2 ≤ 8 ∧ ∀ x ∈ (sqzN d k most rounds).1, 0 ≤ x ∧ x ≤ 255 := by
  unfold sqzN
  by_cases h : sqzErr k most rounds = 0
  · rw [if_pos h]
    unfold sqzErr at h
    split at h
    · rename_i h1; exact absurd h h1
    · rename_i h1
      split at h
      · cases h
      · rename_i h2
        obtain ⟨p1, p2, p3⟩ := popErr_zero (Decidable.not_not.1 h1)
        have := bestN_le (M := most.toNat) p1 hb (by omega) (by omega) h3 rounds.toNat
        exact ⟨this.1, by omega, this.2.2⟩
  · rw [if_neg h]
    exact ⟨by simp, by simp, by simp⟩
set_option maxHeartbeats 16000000 in
theorem psqueezes_walk (A : Option Addr) (n c : Nat) (d : List Int) (q : Option Nat) (k : Opt) (most rounds : Int) (w : World) (hS : SlArg w A n c (u8s d) q) (hw : ∀ x ∈ d, (Lit.int .u8 x).wf = true) (hn : n ≤ 1048576) (hwr : (Lit.int .i64 rounds).wf = true) :
    Calls Tryz.prog 8 #[.slice A n c, .agg #[.int .i64 k.window, .int .i64 k.chain, .bool k.isLazy, .int .i64 most], .int .i64 rounds] w fun e w' => e = .returned (.bool true) ∧ Below w.heap.size w w' := by
  obtain ⟨i0, hi0, hz0, hz1, hz2⟩ := info_parts infoU8
  have HS := Hd.mk hS
  have hl : d.length = n := by have := hS.len; simpa [u8s] using this
  have hAc := hS.le
  have HBY : Hd (Bytes d) := ⟨fun x hx => bounds_u8 (hw x hx)⟩
  obtain ⟨er, her⟩ : ∃ er, er = sqzErr k most rounds := ⟨_, rfl⟩
  have HE := Hd.mk her
  obtain ⟨bs, at_, hU⟩ : ∃ bs at_, sqzN d k most rounds = (bs, at_) := ⟨_, _, rfl⟩
  have hle := sqz_le (d := d) (k := k) (most := most) (rounds := rounds) HBY.out (by omega)
  rw [hU] at hle
  have hbl := hle.1
  have hal := hle.2.1
  have HBB := Hd.mk hle.2.2
  have HU := Hd.mk hU
  clear hS hw her hU hle hwr
  go_enter Tryz.func8, Tryz.ntmps8
  go_upto_region 1 with (fail)
  have F0 := Hd.mk ((Fr.refl w []).alloc (.cells #[.int .i64 k.window, .int .i64 k.chain, .bool k.isLazy, .int .i64 most] 86))
  have BX := Hd.mk (blk_new w (.cells #[.int .i64 k.window, .int .i64 k.chain, .bool k.isLazy, .int .i64 most] 86))
  generalize w.alloc (.cells #[.int .i64 k.window, .int .i64 k.chain, .bool k.isLazy, .int .i64 most] 86) = w0 at *
  generalize w.heap.size = gb at *
  have b0 := blk_cell BX.out 0
  have b1 := blk_cell BX.out 1
  have b2 := blk_cell BX.out 2
  have b3 := blk_cell BX.out 3
  simp only [List.getElem?_toArray, List.getElem?_cons_zero, List.getElem?_cons_succ] at b0 b1 b2 b3
  go_region_held3 (fun w' => w'.cell? ⟨gb, 0, none⟩ = some (.int .i64 k.window) ∧ w'.cell? ⟨gb, 1, none⟩ = some (.int .i64 k.chain) ∧ w'.cell? ⟨gb, 2, none⟩ = some (.bool k.isLazy) ∧ w'.cell? ⟨gb, 3, none⟩ = some (.int .i64 most)) (go_keep)
    (first
    | (go_at_call 35; refine (plain_any _ k).mono ?_; rintro e w1 ⟨rfl, hh⟩; have hh := hh.ofDrew; have BX := Hd.mk (hh.blk BX.out (by simp)); have b0 := blk_cell BX.out 0; have b1 := blk_cell BX.out 1; have b2 := blk_cell BX.out 2; have b3 := blk_cell BX.out 3; simp only [List.getElem?_toArray, List.getElem?_cons_zero, List.getElem?_cons_succ] at b0 b1 b2 b3; have F0 := Hd.mk (F0.out.trans hh (by simp)); clear hh)
    | (go_at_call 42; refine (rsqueeze_any _ A n c d q k most rounds er HE.out (HS.out.frame F0.out (by simp)) HBY.out hn bs at_ HU.out).mono ?_; rintro e w2 ⟨A1, c1, rfl, o1, n1, hh⟩; have BX := Hd.mk (hh.blk BX.out (by simp)); have b0 := blk_cell BX.out 0; have b1 := blk_cell BX.out 1; have b2 := blk_cell BX.out 2; have b3 := blk_cell BX.out 3; simp only [List.getElem?_toArray, List.getElem?_cons_zero, List.getElem?_cons_succ] at b0 b1 b2 b3; have F0 := Hd.mk (F0.out.trans hh (by simp)); have OV := Hd.mk o1; clear hh o1 n1))
  rename_i hHeld1
  clear hHeld1
  have NV : Hd (∀ y, (Value.slice A1 bs.length c1).ownBlock = some y → y < w2.heap.size) := ⟨fun y hy => own_lt OV.out hy⟩
  go_upto_region 2 with (fail)
  go_wp2_with (at_builtin; refine wpList_append_sl rfl (.const (.slice none 0 0)) (.tmp 31) 23 rfl 5 i0 (.int .u8 0) 1 1 Tryz.underlying23 hi0 hz0 hz1 hz2 rfl (by decide) (.slice none 0 0) 0 [] rfl ?c0 A n c (u8s d) q rfl ?c4 ?c5 ?c6 ?c1 ?c2 ?c3 ?_)
  case c0 => exact own_nil _ _ _ _
  case c4 => simp [u8s, hl]
  case c5 => exact HS.out.sl.frame F0.out (by simp)
  case c6 => exact HS.out.nil
  case c1 => intro u hu; simp [u8s] at hu; obtain ⟨x, _, rfl⟩ := hu; rfl
  case c2 => unfold maxLen; omega
  case c3 => omega
  intro A3 d3 w3 hown' hgrow haft
  have O3 := Hd.mk hown'
  have A3f := Hd.mk (fun y (hy : (Value.slice A3 n d3).ownBlock = some y) => haft.none hy)
  have G3 : Hd (Fr w2 w3 []) := ⟨(Fr.refl w2 []).grown hgrow (fun y hy => by cases hy)⟩
  clear hown' hgrow haft
  try rw [Nat.zero_add]
  go_wp2_with (at_builtin; refine wpList_append_sl rfl (.tmp 32) (.tmp 33) 23 rfl 5 i0 (.int .u8 0) 1 1 Tryz.underlying23 hi0 hz0 hz1 hz2 rfl (by decide) (.slice A3 n d3) n _ rfl (by exact O3.out.alloc _) (some ⟨w3.heap.size, 0, none⟩) 3 3 [.int .u8 71, .int .u8 72, .int .u8 73] (some w3.heap.size) rfl rfl (by exact sl_of_blk (blk_new _ _)) (by intro h; cases h) ?d1 ?d2 ?d3 ?_)
  case d1 => intro u hu; simp at hu; rcases hu with rfl | rfl | rfl <;> rfl
  case d2 => unfold maxLen; omega
  case d3 => omega
  intro A4 dr w4 hown' hgrow haft
  have hh : Fr w2 w4 [] := (G3.out.alloc _).grown hgrow (fun y hy => .inr (A3f.out y hy))
  have OR : Hd (w4.ownsRow 0 5 1 (.slice A4 (n + 3) dr) (n + 3) (u8s (d ++ [71, 72, 73]))) := ⟨by rw [u8s_app]; exact hown'⟩
  obtain ⟨gr, dr', e4, _⟩ := own_some hown' (by omega)
  injection e4 with e4 _ e4'
  subst e4 e4'
  have hdr : n + 3 ≤ dr := by obtain ⟨_, _, e, hh, _⟩ := own_slice hown'; cases e; exact hh
  have hdrI : (n : Int) ≤ (dr : Int) := by omega
  have hn0 : (0 : Int) ≤ (n : Int) := by omega
  have NR : Hd (gr < w4.heap.size) := ⟨own_lt OR.out rfl⟩
  clear hown' hgrow haft O3 A3f G3
  have BX := Hd.mk (hh.blk BX.out (by simp))
  have b0 := blk_cell BX.out 0
  have b1 := blk_cell BX.out 1
  have b2 := blk_cell BX.out 2
  have b3 := blk_cell BX.out 3
  simp only [List.getElem?_toArray, List.getElem?_cons_zero, List.getElem?_cons_succ] at b0 b1 b2 b3
  have F0 := Hd.mk (F0.out.trans hh (by simp))
  have OV := Hd.mk (own_frame OV.out hh (by simp))
  have Z4 : w2.heap.size ≤ w4.heap.size := hh.size
  have ZW4 : w.heap.size ≤ w4.heap.size := F0.out.size
  clear hh
  go_upto_region 3 with (fail)
  go_region_held3 (fun w' => w'.cell? ⟨gb, 0, none⟩ = some (.int .i64 k.window) ∧ w'.cell? ⟨gb, 1, none⟩ = some (.int .i64 k.chain) ∧ w'.cell? ⟨gb, 2, none⟩ = some (.bool k.isLazy) ∧ w'.cell? ⟨gb, 3, none⟩ = some (.int .i64 most)) (go_keep)
    (first
    | (go_at_call 43; refine (squeeze_any _ (some ⟨gr, 0, none⟩) n dr d (some gr) k most rounds er HE.out (room_arg (own_frame OR.out (Fr.refl w4 []).drew (by simp)) hl) HBY.out hn bs at_ HU.out).mono ?_; rintro e w5 ⟨A5, c5, rfl, o1, n1, hh⟩; have hh := hh.ofDrew; have BX := Hd.mk (hh.blk BX.out (by simp)); have b0 := blk_cell BX.out 0; have b1 := blk_cell BX.out 1; have b2 := blk_cell BX.out 2; have b3 := blk_cell BX.out 3; simp only [List.getElem?_toArray, List.getElem?_cons_zero, List.getElem?_cons_succ] at b0 b1 b2 b3; have F0 := Hd.mk (F0.out.trans hh (by simp)); have OA := Hd.mk o1; have OV := Hd.mk (own_frame OV.out hh (by simp)); have OR := Hd.mk (own_frame OR.out hh (by simp)); have NA : Hd (∀ y, (Value.slice A5 bs.length c5).ownBlock = some y → w4.heap.size ≤ y ∧ y < w5.heap.size) := ⟨fun y hy => ⟨n1 y hy, own_lt o1 hy⟩⟩; have Z5 : w4.heap.size ≤ w5.heap.size := hh.size; clear hh o1 n1))
  rename_i hHeld1
  clear hHeld1
  go_upto_region 4 with (fail)
  go_region_held3 (fun w' => w'.cell? ⟨gb, 0, none⟩ = some (.int .i64 k.window) ∧ w'.cell? ⟨gb, 1, none⟩ = some (.int .i64 k.chain) ∧ w'.cell? ⟨gb, 2, none⟩ = some (.bool k.isLazy) ∧ w'.cell? ⟨gb, 3, none⟩ = some (.int .i64 most)) (go_keep)
    (first
    | (go_at_call 43; refine (squeeze_any _ (some ⟨gr, 0, none⟩) n dr d (some gr) k most rounds er HE.out (room_arg (own_frame OR.out (Fr.refl w5 []).drew (by simp)) hl) HBY.out hn bs at_ HU.out).mono ?_; rintro e w6 ⟨A6, c6, rfl, o1, n1, hh⟩; have hh := hh.ofDrew; have BX := Hd.mk (hh.blk BX.out (by simp)); have b0 := blk_cell BX.out 0; have b1 := blk_cell BX.out 1; have b2 := blk_cell BX.out 2; have b3 := blk_cell BX.out 3; simp only [List.getElem?_toArray, List.getElem?_cons_zero, List.getElem?_cons_succ] at b0 b1 b2 b3; have F0 := Hd.mk (F0.out.trans hh (by simp)); have OB := Hd.mk o1; have OV := Hd.mk (own_frame OV.out hh (by simp)); have OR := Hd.mk (own_frame OR.out hh (by simp)); have OA := Hd.mk (own_frame OA.out hh (by simp)); have NB : Hd (∀ y, (Value.slice A6 bs.length c6).ownBlock = some y → w5.heap.size ≤ y ∧ y < w6.heap.size) := ⟨fun y hy => ⟨n1 y hy, own_lt o1 hy⟩⟩; have Z6 : w5.heap.size ≤ w6.heap.size := hh.size; clear hh o1 n1))
  rename_i hHeld1
  clear hHeld1
  clear b0 b1 b2 b3 BX
  have hee : (er == er) = true := by simp
  have hea : ((at_ : Int) == (at_ : Int)) = true := by simp
  go_wp2_with (fail)
  refine (num10_any w6 er).mono ?_
  rintro e w9 ⟨rfl, rfl⟩
  go_wp2_with (fail)
  refine (num10_any w6 er).mono ?_
  rintro e w9 ⟨rfl, rfl⟩
  go_wp2_with (fail)
  refine (same10_any w6 A5 A1 bs.length bs.length c5 c1 bs bs _ _ rfl rfl HBB.out HBB.out (sl_of_own OA.out) (sl_of_own OV.out) (own_none OA.out) (own_none OV.out)).mono ?_
  rintro e w9 ⟨rfl, rfl⟩
  rw [decide_eq_true rfl]
  go_wp2_with (fail)
  refine (same10_any w6 A6 A1 bs.length bs.length c6 c1 bs bs _ _ rfl rfl HBB.out HBB.out (sl_of_own OB.out) (sl_of_own OV.out) (own_none OB.out) (own_none OV.out)).mono ?_
  rintro e w9 ⟨rfl, rfl⟩
  rw [decide_eq_true rfl]
  have hby8 : ∀ x ∈ d, 0 ≤ x ∧ x ≤ 255 := HBY.out
  have HB8 := Hd.mk hby8
  clear hby8
  go_wp2_with (fail)
  refine (same10_any w6 (some ⟨gr, 0, none⟩) A n n dr c d d _ _ hl hl HB8.out HB8.out (own_pre OR.out) (HS.out.sl.frame F0.out (by simp)) (by intro h; cases h) HS.out.nil).mono ?_
  rintro e w9 ⟨rfl, rfl⟩
  rw [decide_eq_true rfl]
  have q1 := OR.out.cellAt n (by omega)
  rw [u8s_app, List.getElem?_append_right (by simp [u8s, hl]), show n - (u8s d).length = 0 from by simp [u8s, hl]] at q1
  simp only [Nat.mul_one, u8s, List.map_cons, List.getElem?_cons_zero] at q1
  have hnI : (n : Int) < ((n : Int) + 3) := by omega
  go_wp2
  clear q1 hnI
  go_loopg [17] bs.length (fun kq iv wr => ∃ (i : Nat) (zs : List Value), iv = .int .i64 (i : Nat) ∧ i + kq = bs.length ∧ Hd (wr.ownsRow 0 5 1 (.slice A5 bs.length c5) bs.length zs) ∧ Hd (Fr w6 wr (Value.slice A5 bs.length c5).ownBlock.toList))
  case atStart => exact ⟨0, _, rfl, by omega, OA, ⟨Fr.refl _ _⟩⟩
  case round =>
    obtain ⟨i, zs, rfl, hi, HO, HF⟩ := hrel
    by_cases h1 : i < bs.length
    · obtain ⟨g3, d3', e3, hd3⟩ := own_some HO.out (by omega)
      injection e3 with e3 _ e4
      subst e3 e4
      have hl := HO.out.1
      have c0 := HO.out.cellAt i (by omega)
      obtain ⟨v0, hv0⟩ : ∃ v, zs[i]? = some v := ⟨_, List.getElem?_eq_getElem (by omega)⟩
      rw [hv0] at c0
      have z0 := HO.out.frozenAt i
      clear hl hv0
      go_wp2
      go_roundg (gk - 1)
      case measure => omega
      case rel => exact ⟨i + 1, _, by go_num, by omega, ⟨(HO.out.stored _ _).1⟩, ⟨HF.out.setCell _ (.inl (by simp [Value.ownBlock]))⟩⟩
    · obtain ⟨w11, rfl⟩ : ∃ w11 : World, w11 = wr := ⟨_, rfl⟩
      clear OA
      go_wp2
      clear hi h1
      go_loopg [11, 18] 40 (fun kq av iv wr => ∃ (i : Nat) (Aa : Option Addr) (ma ca : Nat) (zs : List Value), av = .slice Aa ma ca ∧ iv = .int .i64 (i : Nat) ∧ i + kq = 40 ∧ ma ≤ 20000000 + i ∧ Hd (wr.ownsRow 0 5 1 (.slice Aa ma ca) ma zs) ∧ Hd (Aft w6 (Value.slice A5 bs.length c5).ownBlock (Value.slice Aa ma ca).ownBlock) ∧ Hd (Fr w6 wr (Value.slice A5 bs.length c5).ownBlock.toList))
      case atStart => exact ⟨0, A5, bs.length, c5, zs, rfl, rfl, by omega, by omega, HO, ⟨Aft.refl _ _⟩, HF⟩
      case round =>
        clear HO HF
        obtain ⟨i, Aa, ma, ca, zs, rfl, rfl, hi, hma, HO, HA5, HF⟩ := hrel
        by_cases h2 : i < 40
        · go_wp2_with (at_builtin; refine wpList_append_sl rfl (.tmp 119) (.tmp 120) 23 rfl 5 i0 (.int .u8 0) 1 1 Tryz.underlying23 hi0 hz0 hz1 hz2 rfl (by decide) (.slice Aa ma ca) ma _ rfl (by exact HO.out.alloc _) (some ⟨wr.heap.size, 0, none⟩) 1 1 [.int .u8 82] (some wr.heap.size) rfl rfl (by exact sl_of_blk (blk_new _ _)) (by intro h; cases h) (by intro u hu; simp at hu; subst hu; rfl) (by unfold maxLen; omega) (by omega) ?_; intro A9 c9 w13 hown' hgrow haft; have O9 := Hd.mk hown'; have G9 := Hd.mk hgrow; have AF9 := Hd.mk haft; clear hown' hgrow haft)
          go_roundg (gk - 1)
          case measure => omega
          case rel =>
            exact ⟨i + 1, A9, ma + 1, c9, _, rfl, by go_num, by omega, by omega, O9, ⟨HA5.out.trans (Head.aft_alloc AF9.out) HF.out.size⟩, ⟨(HF.out.alloc _).grown G9.out (fun y hy => HA5.out.mem (k := y) (by simp [hy]))⟩⟩
        · have NF : ∀ y, (y < w4.heap.size ∨ w5.heap.size ≤ y) → y ∉ (Value.slice A5 bs.length c5).ownBlock.toList := fun y hy hz => by
            have := NA.out y (by simpa using hz); omega
          have OB2 := Hd.mk (own_frame OB.out HF.out (fun y hy => NF y (.inr (NB.out y hy).1)))
          have OV2 := Hd.mk (own_frame OV.out HF.out (fun y hy => NF y (.inl (by have := NV.out y hy; omega))))
          have FW : Hd (Fr w wr (Value.slice A5 bs.length c5).ownBlock.toList) := ⟨(F0.out.mono (by simp)).trans HF.out (F := (Value.slice A5 bs.length c5).ownBlock.toList) (fun y hy hz => hz)⟩
          have NF2 : Hd (∀ y, y ∈ (Value.slice A5 bs.length c5).ownBlock.toList → w.heap.size ≤ y) := ⟨fun y hz => by
            have := NA.out y (by simpa using hz); omega⟩
          clear NF HO HA5 HF F0 OB OV OR
          obtain ⟨w15, rfl⟩ : ∃ w15 : World, w15 = wr := ⟨_, rfl⟩
          go_wp2_with (fail)
          refine (same10_any w15 A6 A1 bs.length bs.length c6 c1 bs bs _ _ rfl rfl HBB.out HBB.out (sl_of_own OB2.out) (sl_of_own OV2.out) (own_none OB2.out) (own_none OV2.out)).mono ?_
          rintro e w16 ⟨rfl, rfl⟩
          rw [decide_eq_true rfl]
          go_wp2_with (fail)
          refine (awake_any _).mono ?_
          rintro e w17 ⟨rfl, hh⟩
          have F18 := Hd.mk (FW.out.trans hh (by simp))
          clear hh
          go_wp2
          go_ret
          refine ⟨rfl, (F18.out.mono (G := []) (fun y hy hz => ?_)).below⟩
          have := NF2.out y hz
          omega
end Go.Proofs.YtkdgfioigkijgaaGreat.Prs
