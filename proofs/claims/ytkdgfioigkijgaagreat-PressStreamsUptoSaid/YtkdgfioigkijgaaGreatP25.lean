/- Texts of this claim, one behind the other: PrsE, PrsR, PrsG, PrsS, PrsT. -/
import Derived.Test.YtkdgfioigkijgaaGreatP01
import Derived.Test.YtkdgfioigkijgaaGreatP02
import Derived.Test.YtkdgfioigkijgaaGreatP03
import Derived.Test.YtkdgfioigkijgaaGreatP04
import Derived.Test.YtkdgfioigkijgaaGreatP05
import Derived.Test.YtkdgfioigkijgaaGreatP06
import Derived.Test.YtkdgfioigkijgaaGreatP07
import Derived.Test.YtkdgfioigkijgaaGreatP08
import Derived.Test.YtkdgfioigkijgaaGreatP09
import Derived.Test.YtkdgfioigkijgaaGreatP10
import Derived.Test.YtkdgfioigkijgaaGreatP11
import Derived.Test.YtkdgfioigkijgaaGreatP12
import Derived.Test.YtkdgfioigkijgaaGreatP13
import Derived.Test.YtkdgfioigkijgaaGreatP14
import Derived.Test.YtkdgfioigkijgaaGreatP15
import Derived.Test.YtkdgfioigkijgaaGreatP16
import Derived.Test.YtkdgfioigkijgaaGreatP17
import Derived.Test.YtkdgfioigkijgaaGreatP18
import Derived.Test.YtkdgfioigkijgaaGreatP19
import Derived.Test.YtkdgfioigkijgaaGreatP20
import Derived.Test.YtkdgfioigkijgaaGreatP21
import Derived.Test.YtkdgfioigkijgaaGreatP22
import Derived.Test.YtkdgfioigkijgaaGreatP23
import Derived.Test.YtkdgfioigkijgaaGreatP24
import Derived.Deep.RegionHeld3
import Derived.BigRegion
import Derived.BigQuiet
import Derived.Deep.QuietTactic
import Derived.Deep.LoopGhost
import Derived.Deep.DeepCutAuto
import Derived.KernelRfl
import Derived.Deep.RegionLaw
import Derived.Outline
/- Chapter 10: PressOptions. No condition. -/
set_option linter.unusedVariables false
set_option linter.unusedSimpArgs false
set_option maxRecDepth 100000
namespace Go.Proofs.YtkdgfioigkijgaaGreat.Prs
open Go.RowKit Go.Proofs.YtkdgfioigkijgaaGreat.Lib Go.Proofs.YtkdgfioigkijgaaGreat.Ints Go.Proofs.YtkdgfioigkijgaaGreat.Lz Go.Proofs.YtkdgfioigkijgaaGreat.Num Go.Proofs.YtkdgfioigkijgaaGreat.Bits Go.Proofs.YtkdgfioigkijgaaGreat.Blk
theorem lookInfo (a b : Int) (z : Bool) : (Tryz.prog.info? 90).map (·.size) = some (#[Value.int .i64 a, .int .i64 b, .bool z] : Array Value).size := by
  have h : (Tryz.prog.info? 90).map (·.size) = some 3 := by kernel_rfl
  exact h
theorem plain_any (w : World) (k : Opt) : Calls Tryz.prog 35 #[.agg #[.int .i64 k.window, .int .i64 k.chain, .bool k.isLazy]] w fun e w' => e = .returned (.agg #[.int .i64 k.window, .int .i64 k.chain, .bool k.isLazy]) ∧ Fr w w' [] := by
  obtain ⟨a, b, z⟩ := k
  simp only
  go_enter Tryz.func35, Tryz.ntmps35
  go_wp2
  (try simp only [Exit.inBlock, Exit.then])
  have hb := blk_new (w.alloc (.cells #[.int .i64 a, .int .i64 b, .bool z] 84)) (.cells #[.int .i64 a, .int .i64 b, .bool z] 90)
  simp only [World.size_alloc] at hb
  refine bodyPost_ret (results_cell_row rfl _ _ (w.heap.size + 1) 90 _ _ _ rfl hb Tryz.underlying90 rfl (lookInfo a b z)) rfl ?_
  exact ⟨rfl, ((Fr.refl w []).alloc _).alloc _⟩
set_option maxHeartbeats 4000000 in
theorem ropt10_any (w : World) (k : Opt) (most er : Int) (he : er = popErr k most) : Calls Tryz.prog 63 #[.agg #[.int .i64 k.window, .int .i64 k.chain, .bool k.isLazy], .int .i64 most] w fun e w' => e = .returned (.int .i64 er) ∧ Fr w w' [] := by
  obtain ⟨e1, he1⟩ : ∃ e, e = optErr k := ⟨_, rfl⟩
  have HE := Hd.mk he1
  have h2 : e1 = 0 ∨ e1 = 72 := he1 ▸ optErr_two k
  have HR : Hd (er = if e1 ≠ 0 ∨ most < 1 ∨ 65536 < most then 100 else 0) := ⟨by rw [he, he1]; rfl⟩
  clear he he1
  go_enter Tryz.func63, Tryz.ntmps63
  go_wp2_with (fail)
  refine (ropt_any _ k e1 HE.out).mono ?_
  rintro e w1 ⟨rfl, h1⟩
  have F1 := Hd.mk (((Fr.refl w []).alloc (.cells #[.int .i64 k.window, .int .i64 k.chain, .bool k.isLazy] 90)).trans h1 (by simp))
  clear h1
  rcases h2 with rfl | rfl
  · by_cases h3 : most < 1
    · obtain rfl : er = 100 := by rw [HR.out, if_pos (.inr (.inl h3))]
      go_wp2
      go_ret
      exact ⟨rfl, F1.out⟩
    · by_cases h4 : 65536 < most
      · obtain rfl : er = 100 := by rw [HR.out, if_pos (.inr (.inr h4))]
        go_wp2
        go_ret
        exact ⟨rfl, F1.out⟩
      · obtain rfl : er = 0 := by rw [HR.out, if_neg (by omega)]
        go_wp2
        go_ret
        exact ⟨rfl, F1.out⟩
  · obtain rfl : er = 100 := by rw [HR.out, if_pos (.inl (by decide))]
    go_wp2
    go_ret
    exact ⟨rfl, F1.out⟩
end Go.Proofs.YtkdgfioigkijgaaGreat.Prs
/- Chapter 10: the document's Press walked. Condition: at most 2^20 bytes. -/
set_option linter.unusedVariables false
set_option linter.unusedSimpArgs false
set_option maxRecDepth 100000
namespace Go.Proofs.YtkdgfioigkijgaaGreat.Prs
open Go.RowKit Go.Proofs.YtkdgfioigkijgaaGreat.Lib Go.Proofs.YtkdgfioigkijgaaGreat.Ints Go.Proofs.YtkdgfioigkijgaaGreat.Lz Go.Proofs.YtkdgfioigkijgaaGreat.Num Go.Proofs.YtkdgfioigkijgaaGreat.Bits Go.Proofs.YtkdgfioigkijgaaGreat.Blk
theorem own_rtok {w : World} {A : Option Addr} {n c : Nat} {l : List Tok} (h : w.ownsRow 0 80 3 (.slice A n c) n (tcells l)) : n = l.length ∧ Sl w A (tcells l) (Value.slice A n c).ownBlock ∧ l.length ≤ c ∧ c ≤ maxLen ∧ (A = none → l.length = 0 ∧ c = 0) ∧ ∀ y, (Value.slice A n c).ownBlock = some y → y < w.heap.size := by
  have h0 : n = l.length := by
    have h1 := h.1
    have h2 := flat_len tcell 3 (fun _ => rfl) l
    unfold tcells at h1
    omega
  subst h0
  refine ⟨rfl, ?_, ?_, ?_, fun hA => own_none h hA, fun y hy => by obtain ⟨cs, hc⟩ := own_type h hy; exact blk_lt hc⟩
  · intro hx
    rcases h.2 with ⟨h', h''⟩ | ⟨g, cap, cur, h', hb, hh, hnc, hcm, hcs, ht⟩
    · have := h.1
      omega
    · injection h' with h1 _ _
      subst h1
      refine ⟨g, 0, rfl, rfl, fun j hj => ?_⟩
      rw [Nat.zero_add, blk_cell hh, ← ht, List.getElem?_take, if_pos (by have := h.1; omega)]
      simp
  · obtain ⟨A2, c2, e, h1, h2, _⟩ := own_slice h
    injection e with _ _ e
    omega
  · obtain ⟨A2, c2, e, h1, h2, _⟩ := own_slice h
    injection e with _ _ e
    omega
/-- what the document's Press answers -/
def RprPost (w w' : World) (d : List Int) (l : List Tok) (most : Nat) (er : Int) (v u : Value) : Prop :=
  (er ≠ 0 → v = .slice none 0 0 ∧ u = .slice none 0 0) ∧ (er = 0 → ∃ J, 1 ≤ J ∧ l.length ≤ J * most ∧ (J = 1 ∨ (J - 1) * most < l.length) ∧ RwnPost w w' l d most J v u) ∧ Fr w w' []
set_option maxHeartbeats 8000000 in
theorem rpress_any (w : World) (A : Option Addr) (n c : Nat) (d : List Int) (q : Option Nat) (k : Opt) (most er : Int) (he : er = popErr k most) (hS : SlArg w A n c (u8s d) q) (hby : Bytes d) (hn : n ≤ 1048576) :
    Calls Tryz.prog 34 #[.slice A n c, .agg #[.int .i64 k.window, .int .i64 k.chain, .bool k.isLazy], .int .i64 most] w fun e w' => ∃ v u, e = .returned (.tuple #[v, u, .int .i64 er]) ∧ RprPost w w' d (parse d k) most.toNat er v u := by
  have HS := Hd.mk hS
  have hl : d.length = n := by have := hS.len; simpa [u8s] using this
  have HBY := Hd.mk hby
  have h2 : er = 0 ∨ er = 100 := he ▸ popErr_two k most
  have HE := Hd.mk he
  clear he hS hby
  go_enter Tryz.func34, Tryz.ntmps34
  have F0 := Hd.mk ((Fr.refl w []).alloc (.cells #[.int .i64 k.window, .int .i64 k.chain, .bool k.isLazy] 90))
  go_wp2_with (fail)
  refine (ropt10_any _ k most er HE.out).mono ?_
  rintro e w1 ⟨rfl, h1⟩
  have F1 := Hd.mk (F0.out.trans h1 (by simp))
  have hbk := Hd.mk (h1.blk (blk_new w (.cells #[.int .i64 k.window, .int .i64 k.chain, .bool k.isLazy] 90)) (by simp))
  clear h1 F0
  rcases h2 with rfl | rfl
  · obtain ⟨hk0, hm1, hm2⟩ := popErr_zero HE.out.symm
    have HK0 := Hd.mk hk0
    have b0 := blk_cell hbk.out 0
    have b1 := blk_cell hbk.out 1
    have b2 := blk_cell hbk.out 2
    simp only [List.getElem?_toArray, List.getElem?_cons_zero, List.getElem?_cons_succ] at b0 b1 b2
    clear hk0
    go_wp2_with (fail)
    have hS1 := HS.out.frame F1.out (by simp)
    refine (rparse_any w1 A n c d q k hS1 hn (optErr k) (parse d k) rfl rfl).mono ?_
    rintro e w2 ⟨A', m, dd, rfl, o2, n2, h2⟩
    have F2 := Hd.mk (F1.out.trans h2 (by simp))
    have O2 := Hd.mk o2
    clear o2 n2 h2 b0 b1 b2 hS1
    obtain ⟨M, rfl⟩ := Int.eq_ofNat_of_zero_le (show 0 ≤ most by omega)
    obtain ⟨p1, p2, p3, p4⟩ := parse_law (d := d) HK0.out
    obtain ⟨g1, g2⟩ := parse_right HK0.out HBY.out
    have hS2 := HS.out.frame F2.out (by simp)
    subst hl
    go_wp2_with (fail)
    obtain ⟨t1, t2, t3, t4, t5, t6⟩ := own_rtok O2.out
    subst t1
    have hd2 := hS2.le
    have hA2 : A = none → d.length = 0 ∧ c = 0 := fun h => hS2.nil h
    have hp2 : ∀ b, b ∈ (Value.slice A' (parse d k).length dd).ownBlock.toList ++ q.toList → b < w2.heap.size := fun b hb => by
      rcases List.mem_append.1 hb with h | h
      · exact t6 b (by simpa using h)
      · exact hS2.lt b (by simpa using h)
    have hsl2 := hS2.sl
    have hmx2 := hS2.max
    have b1 : 1 ≤ M := by omega
    have b2 : M ≤ 65536 := by omega
    have b3 : (parse d k).length ≤ 1048576 := by omega
    have b4 : d.length ≤ 1048576 := by omega
    have CW := rwritten_any w2 dd c M A' A (parse d k) d (Value.slice A' (parse d k).length dd).ownBlock q t2 t3 t4 t5 hsl2 hd2 hmx2 hA2 hp2 HBY.out g1 g2 p3 b1 b2 b3 b4
    refine CW.mono ?_
    rintro e w3 ⟨J, v, u, j1, j2, j3, rfl, hR⟩
    have HP3 : Hd (RprPost w w3 d (parse d k) ((M : Int).toNat) 0 v u) := ⟨⟨fun h => absurd rfl h, fun _ => ⟨J, j1, by rw [Int.toNat_natCast]; exact j2, by rw [Int.toNat_natCast]; exact j3, hR.1, fun y hy => Nat.le_trans F2.out.size (hR.2.1 y hy), hR.2.2.1, fun y hy => Nat.le_trans F2.out.size (hR.2.2.2.1 y hy), F2.out.trans hR.2.2.2.2 (by simp)⟩, F2.out.trans hR.2.2.2.2 (by simp)⟩⟩
    clear hR t2 t3 t4 t5 t6 g1 g2 p1 p2 p3 p4 j2 j3
    go_wp2
    go_ret3
    exact ⟨v, u, rfl, HP3.out⟩
  · go_wp2
    go_ret3
    exact ⟨_, _, rfl, fun _ => ⟨rfl, rfl⟩, fun h => absurd h (by decide), F1.out⟩
end Go.Proofs.YtkdgfioigkijgaaGreat.Prs
/- Chapter 10: PressMost. Condition: at most 2^20 bytes. -/
set_option linter.unusedVariables false
set_option linter.unusedSimpArgs false
set_option maxRecDepth 100000
namespace Go.Proofs.YtkdgfioigkijgaaGreat.Prs
open Go.RowKit Go.Proofs.YtkdgfioigkijgaaGreat.Lib Go.Proofs.YtkdgfioigkijgaaGreat.Ints Go.Proofs.YtkdgfioigkijgaaGreat.Lz Go.Proofs.YtkdgfioigkijgaaGreat.Num Go.Proofs.YtkdgfioigkijgaaGreat.Bits Go.Proofs.YtkdgfioigkijgaaGreat.Blk
/-- there is one number of pieces -/
theorem one_J {T most J K : Nat} (j1 : 1 ≤ J) (j2 : T ≤ J * most) (j3 : J = 1 ∨ (J - 1) * most < T) (k1 : 1 ≤ K) (k2 : T ≤ K * most) (k3 : K = 1 ∨ (K - 1) * most < T) : J = K := by
  rcases Nat.lt_trichotomy J K with h | h | h
  · have h1 : J * most ≤ (K - 1) * most := Nat.mul_le_mul_right _ (by omega)
    omega
  · exact h
  · have h1 : K * most ≤ (J - 1) * most := Nat.mul_le_mul_right _ (by omega)
    omega
end Go.Proofs.YtkdgfioigkijgaaGreat.Prs
/- Chapter 10: alike; what the three answers hold. Conditions: at most 2^20 bytes. -/
set_option linter.unusedVariables false
set_option linter.unusedSimpArgs false
set_option maxRecDepth 100000
namespace Go.Proofs.YtkdgfioigkijgaaGreat.Prs
open Go.RowKit Go.Proofs.YtkdgfioigkijgaaGreat.Lib Go.Proofs.YtkdgfioigkijgaaGreat.Ints Go.Proofs.YtkdgfioigkijgaaGreat.Lz Go.Proofs.YtkdgfioigkijgaaGreat.Num Go.Proofs.YtkdgfioigkijgaaGreat.Bits Go.Proofs.YtkdgfioigkijgaaGreat.Blk
def qcell (x : Int × Int × Int × Int) : List Value := [.int .i64 x.1, .int .i64 x.2.1, .int .i64 x.2.2.1, .int .i64 x.2.2.2]
def partN (l : List Tok) (most j : Nat) : Int × Int × Int × Int := ((kdN (btN l most j) (tks l most j) : Nat), (lenN l.length most j : Nat), (szN l most j : Nat), (csN (btN l most j) (tks l most j) : Nat))
theorem parts_eq (l : List Tok) (most J : Nat) : (List.range J).flatMap (partC l most) = ((List.range J).map (partN l most)).flatMap qcell := by
  rw [List.flatMap_map]
  rfl
theorem psl_own4 {w : World} {A : Option Addr} {n d : Nat} {xs : List Value} {e : TypeId} (h : w.ownsRow 0 e 4 (.slice A n d) n xs) : Sl w A xs (Value.slice A n d).ownBlock := by
  intro hx
  rcases h.2 with ⟨h', h''⟩ | ⟨g, cap, cur, h', hb, hh, hnc, hcm, hcs, ht⟩
  · have := h.1
    omega
  · injection h' with h1 _ _
    subst h1
    refine ⟨g, 0, rfl, rfl, fun j hj => ?_⟩
    rw [Nat.zero_add, blk_cell hh, ← ht, List.getElem?_take, if_pos (by have := h.1; omega)]
    simp
set_option maxHeartbeats 8000000 in
theorem alike10_any (w : World) (A B : Option Addr) (n c d : Nat) (ps : List (Int × Int × Int × Int)) (p q : Option Nat) (hn : ps.length = n) (hS : Sl w A (ps.flatMap qcell) p) (hT : Sl w B (ps.flatMap qcell) q) (hb : n ≤ 4611686018427387904) :
    Calls Tryz.prog 40 #[.slice A n c, .slice B n d] w fun e w' => e = .returned (.bool true) ∧ Fr w w' [] := by
  subst hn
  have HS := Hd.mk hS
  have HT := Hd.mk hT
  clear hS hT
  go_enter Tryz.func40, Tryz.ntmps40
  go_wp2
  go_loopg [5] ps.length (fun kq jv wr => ∃ j : Nat, jv = .int .i64 (j : Nat) ∧ j + kq = ps.length ∧ Hd (Fr w wr []))
  case atStart => exact ⟨0, rfl, by omega, ⟨Fr.refl _ _⟩⟩
  case round =>
    obtain ⟨j, rfl, hj, HF⟩ := hrel
    by_cases h1 : j < ps.length
    · obtain ⟨a, o1, rfl, _, ha⟩ := Sl.row (enc := qcell) (sz := 4) (fun _ => rfl) (HS.out.frame HF.out (by simp)) h1 (by decide)
      obtain ⟨b, o2, rfl, _, hb⟩ := Sl.row (enc := qcell) (sz := 4) (fun _ => rfl) (HT.out.frame HF.out (by simp)) h1 (by decide)
      obtain ⟨x, hx⟩ : ∃ x, x = ps[j] := ⟨_, rfl⟩
      rw [← hx] at ha hb
      have ca := ha 0 (by decide)
      have ca1 := ha 1 (by decide)
      have ca2 := ha 2 (by decide)
      have ca3 := ha 3 (by decide)
      have cb := hb 0 (by decide)
      have cb1 := hb 1 (by decide)
      have cb2 := hb 2 (by decide)
      have cb3 := hb 3 (by decide)
      obtain ⟨x0, x1, x2, x3⟩ := x
      simp only [qcell, List.getElem?_cons_zero, List.getElem?_cons_succ, Nat.add_zero] at ca ca1 ca2 ca3 cb cb1 cb2 cb3
      clear ha hb hx
      have e0 : (x0 == x0) = true := by simp
      have e1 : (x1 == x1) = true := by simp
      have e2 : (x2 == x2) = true := by simp
      have e3 : (x3 == x3) = true := by simp
      go_upto_region 4 with (fail)
      go_quiet (fail)
      go_wp2
      go_roundg (gk - 1)
      case measure => omega
      case rel => exact ⟨j + 1, by go_num, by omega, ⟨HF.out.drewN _⟩⟩
    · obtain rfl : j = ps.length := by omega
      go_wp2
      go_ret
      exact ⟨rfl, HF.out⟩
theorem ex_J (M : Nat) (hM : 1 ≤ M) : ∀ T, ∃ J, 1 ≤ J ∧ T ≤ J * M ∧ (J = 1 ∨ (J - 1) * M < T)
  | 0 => ⟨1, Nat.le_refl _, Nat.zero_le _, .inl rfl⟩
  | T + 1 => by
    obtain ⟨J, h1, h2, h3⟩ := ex_J M hM T
    by_cases h : T + 1 ≤ J * M
    · exact ⟨J, h1, h, by omega⟩
    · refine ⟨J + 1, by omega, ?_, .inr ?_⟩
      · rw [Nat.add_mul]; omega
      · rw [Nat.add_sub_cancel]; omega
/-- what the three answers hold -/
structure Uni (d : List Int) (l : List Tok) (M : Nat) (er : Int) (bs : List Int) (ps : List (Int × Int × Int × Int)) : Prop where
  by_ : ∀ x ∈ bs, 0 ≤ x ∧ x ≤ 255
  bl : bs.length ≤ 20000000
  pl : ps.length ≤ 1048577
  pr : ∀ {w w' : World} {v : Value}, PrPost w w' d l M er v → ∃ A c, v = .slice A bs.length c ∧ w'.ownsRow 0 5 1 (.slice A bs.length c) bs.length (u8s bs) ∧ ∀ y, (Value.slice A bs.length c).ownBlock = some y → w.heap.size ≤ y
  pa : ∀ {w w' : World} {v : Value}, PaPost w w' l M er v → ∃ A c, v = .slice A ps.length c ∧ w'.ownsRow 0 100 4 (.slice A ps.length c) ps.length (ps.flatMap qcell) ∧ ∀ y, (Value.slice A ps.length c).ownBlock = some y → w.heap.size ≤ y
  rp : ∀ {w w' : World} {v u : Value}, RprPost w w' d l M er v u → (∃ A c, v = .slice A bs.length c ∧ w'.ownsRow 0 5 1 (.slice A bs.length c) bs.length (u8s bs) ∧ ∀ y, (Value.slice A bs.length c).ownBlock = some y → w.heap.size ≤ y) ∧ ∃ B e, u = .slice B ps.length e ∧ w'.ownsRow 0 157 4 (.slice B ps.length e) ps.length (ps.flatMap qcell) ∧ ∀ y, (Value.slice B ps.length e).ownBlock = some y → w.heap.size ≤ y
theorem slice_own {w : World} {b : Nat} {e : TypeId} {sz n : Nat} {v : Value} {xs : List Value} (h : w.ownsRow b e sz v n xs) : ∃ A c, v = .slice A n c := by
  rcases h.2 with ⟨rfl, h2⟩ | ⟨g, cap, cur, rfl, _⟩
  · obtain rfl : n = 0 := by first | exact h2 | omega | exact h2.symm
    exact ⟨none, 0, rfl⟩
  · exact ⟨_, _, rfl⟩
theorem own_newer {w w' : World} {e : TypeId} {sz n : Nat} {v : Value} {xs : List Value} (h : w'.ownsRow w.heap.size e sz v n xs) : ∀ y, v.ownBlock = some y → w.heap.size ≤ y := by
  intro y hy
  rcases h.2 with ⟨rfl, _⟩ | ⟨g, cap, cur, rfl, hg, _⟩
  · simp [Value.ownBlock] at hy
  · simp [Value.ownBlock] at hy
    omega
theorem uni_ex {d : List Int} {l : List Tok} {M : Nat} {er : Int} (h : er = 0 → 1 ≤ M ∧ M ≤ 65536 ∧ (∀ t ∈ l, right t = true) ∧ LitB l ∧ l.length ≤ 1048576) : ∃ bs ps, Uni d l M er bs ps := by
  by_cases h0 : er = 0
  · obtain ⟨h1, h2, h3, h4, h5⟩ := h h0
    obtain ⟨J, j1, j2, j3⟩ := ex_J M h1 l.length
    have hbt := bt_le h3 h4 h2 J
    have hat := at_le l.length M J
    have hJ : J ≤ 1048577 := by
      rcases j3 with e | e
      · omega
      · have : (J - 1) * 1 ≤ (J - 1) * M := Nat.mul_le_mul_left _ h1
        omega
    have hlb : (bytesOf (numOf (PBx l d M (List.range J))) (btN l M J)).length = (btN l M J + 7) / 8 := bytesOf_length _ _
    have hlp : ((List.range J).map (partN l M)).length = J := by simp
    refine ⟨bytesOf (numOf (PBx l d M (List.range J))) (btN l M J), (List.range J).map (partN l M), ⟨bytesOf_range, by omega, by omega, ?_, ?_, ?_⟩⟩
    · intro w w' v hP
      obtain ⟨K, k1, k2, k3, o, a⟩ := hP.2.1 h0
      obtain rfl := one_J j1 j2 j3 k1 k2 k3
      rw [hlb]
      obtain ⟨A, c, rfl⟩ := slice_own o
      refine ⟨A, c, rfl, o, fun y hy => ?_⟩
      rcases a with e | ⟨z, e, hz⟩
      · rw [e] at hy; cases hy
      · rw [e] at hy; cases hy; exact hz
    · intro w w' v hP
      obtain ⟨K, k1, k2, k3, o⟩ := hP.2.1 h0
      obtain rfl := one_J j1 j2 j3 k1 k2 k3
      rw [hlp, ← parts_eq]
      obtain ⟨A, c, rfl⟩ := slice_own o
      exact ⟨A, c, rfl, own_base o (Nat.zero_le _), own_newer o⟩
    · intro w w' v u hP
      obtain ⟨K, k1, k2, k3, o, a, o2, a2, _⟩ := hP.2.1 h0
      obtain rfl := one_J j1 j2 j3 k1 k2 k3
      rw [hlp, hlb, ← parts_eq]
      obtain ⟨A, c, rfl⟩ := slice_own o
      obtain ⟨B, e, rfl⟩ := slice_own o2
      exact ⟨⟨A, c, rfl, o, a⟩, B, e, rfl, o2, a2⟩
  · refine ⟨[], [], ⟨by simp, by simp, by simp, ?_, ?_, ?_⟩⟩
    · intro w w' v hP
      exact ⟨none, 0, hP.1 h0, own_nil _ _ _ _, by simp [Value.ownBlock]⟩
    · intro w w' v hP
      exact ⟨none, 0, hP.1 h0, own_nil _ _ _ _, by simp [Value.ownBlock]⟩
    · intro w w' v u hP
      obtain ⟨e1, e2⟩ := hP.1 h0
      exact ⟨⟨none, 0, e1, own_nil _ _ _ _, by simp [Value.ownBlock]⟩, none, 0, e2, own_nil _ _ _ _, by simp [Value.ownBlock]⟩
end Go.Proofs.YtkdgfioigkijgaaGreat.Prs
/- Chapter 10: PressStreams. Condition: at most 2^20 bytes. -/
set_option linter.unusedVariables false
set_option linter.unusedSimpArgs false
set_option maxRecDepth 100000
namespace Go.Proofs.YtkdgfioigkijgaaGreat.Prs
open Go.RowKit Go.Proofs.YtkdgfioigkijgaaGreat.Lib Go.Proofs.YtkdgfioigkijgaaGreat.Ints Go.Proofs.YtkdgfioigkijgaaGreat.Lz Go.Proofs.YtkdgfioigkijgaaGreat.Num Go.Proofs.YtkdgfioigkijgaaGreat.Bits Go.Proofs.YtkdgfioigkijgaaGreat.Blk
theorem u8s_app (a b : List Int) : u8s (a ++ b) = u8s a ++ u8s b := by unfold u8s; rw [List.map_append]
theorem own_pre {w : World} {A : Option Addr} {n c : Nat} {xs ys : List Int} (h : w.ownsRow 0 5 1 (.slice A n c) n (u8s (xs ++ ys))) : Sl w A (u8s xs) (Value.slice A n c).ownBlock := by
  have := (sl_of_own h).take xs.length
  rw [u8s_app, List.take_left' (by simp [u8s])] at this
  exact this
theorem room_arg {w : World} {g dr n : Nat} {d : List Int} (h : w.ownsRow 0 5 1 (.slice (some ⟨g, 0, none⟩) (n + 3) dr) (n + 3) (u8s (d ++ [71, 72, 73]))) (hl : d.length = n) : SlArg w (some ⟨g, 0, none⟩) n dr (u8s d) (some g) := by
  have s := slArg_own h
  exact ⟨by simp [u8s, hl], by have := s.le; omega, s.max, (by intro e; cases e), own_pre h, s.lt⟩
set_option maxHeartbeats 16000000 in
theorem pstreams_walk (A : Option Addr) (n c : Nat) (d : List Int) (q : Option Nat) (k : Opt) (most : Int) (w : World) (hS : SlArg w A n c (u8s d) q) (hw : ∀ x ∈ d, (Lit.int .u8 x).wf = true) (hn : n ≤ 1048576) :
    Calls Tryz.prog 7 #[.slice A n c, .agg #[.int .i64 k.window, .int .i64 k.chain, .bool k.isLazy, .int .i64 most]] w fun e w' => e = .returned (.bool true) ∧ Below w.heap.size w w' := by
  obtain ⟨i0, hi0, hz0, hz1, hz2⟩ := info_parts infoU8
  obtain ⟨k0, hk0, hy0, hy1, hy2⟩ := info_parts infoPart
  have HS := Hd.mk hS
  have hl : d.length = n := by have := hS.len; simpa [u8s] using this
  have hAc := hS.le
  have HBY : Hd (Bytes d) := ⟨fun x hx => bounds_u8 (hw x hx)⟩
  obtain ⟨er, her⟩ : ∃ er, er = popErr k most := ⟨_, rfl⟩
  have HE := Hd.mk her
  obtain ⟨bs, ps, hU⟩ : ∃ bs ps, Uni d (parse d k) most.toNat er bs ps := uni_ex (fun h0 => by
    rw [her] at h0
    obtain ⟨h1, h2, h3⟩ := popErr_zero h0
    obtain ⟨p1, p2, p3, p4⟩ := parse_law (d := d) h1
    obtain ⟨g1, g2⟩ := parse_right h1 HBY.out
    exact ⟨by omega, by omega, g1, g2, by omega⟩)
  have hbl := hU.bl
  have hpl := hU.pl
  have HU := Hd.mk hU
  clear hS hw her hU
  go_enter Tryz.func7, Tryz.ntmps7
  go_upto_region 1 with (fail)
  have F0 := Hd.mk ((Fr.refl w []).alloc (.cells #[.int .i64 k.window, .int .i64 k.chain, .bool k.isLazy, .int .i64 most] 86))
  have BX := Hd.mk (blk_new w (.cells #[.int .i64 k.window, .int .i64 k.chain, .bool k.isLazy, .int .i64 most] 86))
  generalize w.alloc (.cells #[.int .i64 k.window, .int .i64 k.chain, .bool k.isLazy, .int .i64 most] 86) = w0 at *
  generalize w.heap.size = gb at *
  have b0 := blk_cell BX.out 0
  have b1 := blk_cell BX.out 1
  have b2 := blk_cell BX.out 2
  have b3 := blk_cell BX.out 3
  simp only [List.getElem?_toArray, List.getElem?_cons_zero, List.getElem?_cons_succ] at b0 b1 b2 b3
  go_region_held3 (fun w' => w'.cell? ⟨gb, 0, none⟩ = some (.int .i64 k.window) ∧ w'.cell? ⟨gb, 1, none⟩ = some (.int .i64 k.chain) ∧ w'.cell? ⟨gb, 2, none⟩ = some (.bool k.isLazy) ∧ w'.cell? ⟨gb, 3, none⟩ = some (.int .i64 most)) (go_keep)
    (first
    | (go_at_call 35; refine (plain_any _ k).mono ?_; rintro e w1 ⟨rfl, hh⟩; have hh := hh.ofDrew; have BX := Hd.mk (hh.blk BX.out (by simp)); have b0 := blk_cell BX.out 0; have b1 := blk_cell BX.out 1; have b2 := blk_cell BX.out 2; have b3 := blk_cell BX.out 3; simp only [List.getElem?_toArray, List.getElem?_cons_zero, List.getElem?_cons_succ] at b0 b1 b2 b3; have F0 := Hd.mk (F0.out.trans hh (by simp)); clear hh)
    | (go_at_call 34; refine (rpress_any _ A n c d q k most er HE.out (HS.out.frame F0.out (by simp)) HBY.out hn).mono ?_; rintro e w2 ⟨v, u, rfl, hP⟩; obtain ⟨⟨A1, c1, rfl, o1, n1⟩, B1, e1, rfl, o2, n2⟩ := HU.out.rp hP; have hh := hP.2.2; have BX := Hd.mk (hh.blk BX.out (by simp)); have b0 := blk_cell BX.out 0; have b1 := blk_cell BX.out 1; have b2 := blk_cell BX.out 2; have b3 := blk_cell BX.out 3; simp only [List.getElem?_toArray, List.getElem?_cons_zero, List.getElem?_cons_succ] at b0 b1 b2 b3; have F0 := Hd.mk (F0.out.trans hh (by simp)); have OV := Hd.mk o1; have OU := Hd.mk o2; clear hh hP o1 o2 n1 n2))
  rename_i hHeld1
  clear hHeld1
  have NV : Hd (∀ y, (Value.slice A1 bs.length c1).ownBlock = some y → y < w2.heap.size) := ⟨fun y hy => own_lt OV.out hy⟩
  have NU : Hd (∀ y, (Value.slice B1 ps.length e1).ownBlock = some y → y < w2.heap.size) := ⟨fun y hy => own_lt OU.out hy⟩
  go_upto_region 2 with (fail)
  go_wp2_with (at_builtin; refine wpList_append_sl rfl (.const (.slice none 0 0)) (.tmp 31) 23 rfl 5 i0 (.int .u8 0) 1 1 Tryz.underlying23 hi0 hz0 hz1 hz2 rfl (by decide) (.slice none 0 0) 0 [] rfl ?c0 A n c (u8s d) q rfl ?c4 ?c5 ?c6 ?c1 ?c2 ?c3 ?_)
  case c0 => exact own_nil _ _ _ _
  case c4 => simp [u8s, hl]
  case c5 => exact HS.out.sl.frame F0.out (by simp)
  case c6 => exact HS.out.nil
  case c1 => intro u hu; simp [u8s] at hu; obtain ⟨x, _, rfl⟩ := hu; rfl
  case c2 => unfold maxLen; omega
  case c3 => omega
  intro A3 d3 w3 hown' hgrow haft
  have O3 := Hd.mk hown'
  have A3f := Hd.mk (fun y (hy : (Value.slice A3 n d3).ownBlock = some y) => haft.none hy)
  have G3 : Hd (Fr w2 w3 []) := ⟨(Fr.refl w2 []).grown hgrow (fun y hy => by cases hy)⟩
  clear hown' hgrow haft
  try rw [Nat.zero_add]
  go_wp2_with (at_builtin; refine wpList_append_sl rfl (.tmp 32) (.tmp 33) 23 rfl 5 i0 (.int .u8 0) 1 1 Tryz.underlying23 hi0 hz0 hz1 hz2 rfl (by decide) (.slice A3 n d3) n _ rfl (by exact O3.out.alloc _) (some ⟨w3.heap.size, 0, none⟩) 3 3 [.int .u8 71, .int .u8 72, .int .u8 73] (some w3.heap.size) rfl rfl (by exact sl_of_blk (blk_new _ _)) (by intro h; cases h) ?d1 ?d2 ?d3 ?_)
  case d1 => intro u hu; simp at hu; rcases hu with rfl | rfl | rfl <;> rfl
  case d2 => unfold maxLen; omega
  case d3 => omega
  intro A4 dr w4 hown' hgrow haft
  have hh : Fr w2 w4 [] := (G3.out.alloc _).grown hgrow (fun y hy => .inr (A3f.out y hy))
  have OR : Hd (w4.ownsRow 0 5 1 (.slice A4 (n + 3) dr) (n + 3) (u8s (d ++ [71, 72, 73]))) := ⟨by rw [u8s_app]; exact hown'⟩
  obtain ⟨gr, dr', e4, _⟩ := own_some hown' (by omega)
  injection e4 with e4 _ e4'
  subst e4 e4'
  have hdr : n + 3 ≤ dr := by obtain ⟨_, _, e, hh, _⟩ := own_slice hown'; cases e; exact hh
  have hdrI : (n : Int) ≤ (dr : Int) := by omega
  have hn0 : (0 : Int) ≤ (n : Int) := by omega
  have NR : Hd (gr < w4.heap.size) := ⟨own_lt OR.out rfl⟩
  clear hown' hgrow haft O3 A3f G3
  have BX := Hd.mk (hh.blk BX.out (by simp))
  have b0 := blk_cell BX.out 0
  have b1 := blk_cell BX.out 1
  have b2 := blk_cell BX.out 2
  have b3 := blk_cell BX.out 3
  simp only [List.getElem?_toArray, List.getElem?_cons_zero, List.getElem?_cons_succ] at b0 b1 b2 b3
  have F0 := Hd.mk (F0.out.trans hh (by simp))
  have OV := Hd.mk (own_frame OV.out hh (by simp))
  have OU := Hd.mk (own_frame OU.out hh (by simp))
  have Z4 : w2.heap.size ≤ w4.heap.size := hh.size
  have ZW4 : w.heap.size ≤ w4.heap.size := F0.out.size
  clear hh
  go_upto_region 3 with (fail)
  go_region_held3 (fun w' => w'.cell? ⟨gb, 0, none⟩ = some (.int .i64 k.window) ∧ w'.cell? ⟨gb, 1, none⟩ = some (.int .i64 k.chain) ∧ w'.cell? ⟨gb, 2, none⟩ = some (.bool k.isLazy) ∧ w'.cell? ⟨gb, 3, none⟩ = some (.int .i64 most)) (go_keep)
    (first
    | (go_at_call 36; refine (press_any _ (some ⟨gr, 0, none⟩) n dr d (some gr) k most er HE.out (room_arg (own_frame OR.out (Fr.refl w4 []).drew (by simp)) hl) HBY.out hn).mono ?_; rintro e w5 ⟨v, rfl, hP⟩; obtain ⟨A5, c5, rfl, o1, n1⟩ := HU.out.pr hP; have hh := hP.2.2.ofDrew; have BX := Hd.mk (hh.blk BX.out (by simp)); have b0 := blk_cell BX.out 0; have b1 := blk_cell BX.out 1; have b2 := blk_cell BX.out 2; have b3 := blk_cell BX.out 3; simp only [List.getElem?_toArray, List.getElem?_cons_zero, List.getElem?_cons_succ] at b0 b1 b2 b3; have F0 := Hd.mk (F0.out.trans hh (by simp)); have OA := Hd.mk o1; have OV := Hd.mk (own_frame OV.out hh (by simp)); have OU := Hd.mk (own_frame OU.out hh (by simp)); have OR := Hd.mk (own_frame OR.out hh (by simp)); have NA : Hd (∀ y, (Value.slice A5 bs.length c5).ownBlock = some y → w4.heap.size ≤ y ∧ y < w5.heap.size) := ⟨fun y hy => ⟨n1 y hy, own_lt o1 hy⟩⟩; have Z5 : w4.heap.size ≤ w5.heap.size := hh.size; clear hh hP o1 n1))
  rename_i hHeld1
  clear hHeld1
  go_upto_region 4 with (fail)
  go_region_held3 (fun w' => w'.cell? ⟨gb, 0, none⟩ = some (.int .i64 k.window) ∧ w'.cell? ⟨gb, 1, none⟩ = some (.int .i64 k.chain) ∧ w'.cell? ⟨gb, 2, none⟩ = some (.bool k.isLazy) ∧ w'.cell? ⟨gb, 3, none⟩ = some (.int .i64 most)) (go_keep)
    (first
    | (go_at_call 36; refine (press_any _ (some ⟨gr, 0, none⟩) n dr d (some gr) k most er HE.out (room_arg (own_frame OR.out (Fr.refl w5 []).drew (by simp)) hl) HBY.out hn).mono ?_; rintro e w6 ⟨v, rfl, hP⟩; obtain ⟨A6, c6, rfl, o1, n1⟩ := HU.out.pr hP; have hh := hP.2.2.ofDrew; have BX := Hd.mk (hh.blk BX.out (by simp)); have b0 := blk_cell BX.out 0; have b1 := blk_cell BX.out 1; have b2 := blk_cell BX.out 2; have b3 := blk_cell BX.out 3; simp only [List.getElem?_toArray, List.getElem?_cons_zero, List.getElem?_cons_succ] at b0 b1 b2 b3; have F0 := Hd.mk (F0.out.trans hh (by simp)); have OB := Hd.mk o1; have OV := Hd.mk (own_frame OV.out hh (by simp)); have OU := Hd.mk (own_frame OU.out hh (by simp)); have OR := Hd.mk (own_frame OR.out hh (by simp)); have OA := Hd.mk (own_frame OA.out hh (by simp)); have NB : Hd (∀ y, (Value.slice A6 bs.length c6).ownBlock = some y → w5.heap.size ≤ y ∧ y < w6.heap.size) := ⟨fun y hy => ⟨n1 y hy, own_lt o1 hy⟩⟩; have Z6 : w5.heap.size ≤ w6.heap.size := hh.size; clear hh hP o1 n1))
  rename_i hHeld1
  clear hHeld1
  go_upto_region 5 with (fail)
  go_region_held3 (fun w' => w'.cell? ⟨gb, 0, none⟩ = some (.int .i64 k.window) ∧ w'.cell? ⟨gb, 1, none⟩ = some (.int .i64 k.chain) ∧ w'.cell? ⟨gb, 2, none⟩ = some (.bool k.isLazy) ∧ w'.cell? ⟨gb, 3, none⟩ = some (.int .i64 most)) (go_keep)
    (first
    | (go_at_call 37; refine (callsIn_wide.1 (parts_any _ (some ⟨gr, 0, none⟩) n dr d (some gr) k most er HE.out (room_arg (own_frame OR.out (Fr.refl w6 []).drew (by simp)) hl) HBY.out hn)).mono ?_; rintro e w7 ⟨v, rfl, hP⟩; obtain ⟨A7, c7, rfl, o1, n1⟩ := HU.out.pa hP; have hh := hP.2.2.ofDrew; have BX := Hd.mk (hh.blk BX.out (by simp)); have b0 := blk_cell BX.out 0; have b1 := blk_cell BX.out 1; have b2 := blk_cell BX.out 2; have b3 := blk_cell BX.out 3; simp only [List.getElem?_toArray, List.getElem?_cons_zero, List.getElem?_cons_succ] at b0 b1 b2 b3; have F0 := Hd.mk (F0.out.trans hh (by simp)); have OL := Hd.mk o1; have OV := Hd.mk (own_frame OV.out hh (by simp)); have OU := Hd.mk (own_frame OU.out hh (by simp)); have OR := Hd.mk (own_frame OR.out hh (by simp)); have OA := Hd.mk (own_frame OA.out hh (by simp)); have OB := Hd.mk (own_frame OB.out hh (by simp)); have NL : Hd (∀ y, (Value.slice A7 ps.length c7).ownBlock = some y → w6.heap.size ≤ y ∧ y < w7.heap.size) := ⟨fun y hy => ⟨n1 y hy, own_lt o1 hy⟩⟩; have Z7 : w6.heap.size ≤ w7.heap.size := hh.size; clear hh hP o1 n1))
  rename_i hHeld1
  clear hHeld1
  go_upto_region 6 with (fail)
  go_region_held3 (fun w' => w'.cell? ⟨gb, 0, none⟩ = some (.int .i64 k.window) ∧ w'.cell? ⟨gb, 1, none⟩ = some (.int .i64 k.chain) ∧ w'.cell? ⟨gb, 2, none⟩ = some (.bool k.isLazy) ∧ w'.cell? ⟨gb, 3, none⟩ = some (.int .i64 most)) (go_keep)
    (first
    | (go_at_call 37; refine (callsIn_wide.1 (parts_any _ (some ⟨gr, 0, none⟩) n dr d (some gr) k most er HE.out (room_arg (own_frame OR.out (Fr.refl w7 []).drew (by simp)) hl) HBY.out hn)).mono ?_; rintro e w8 ⟨v, rfl, hP⟩; obtain ⟨A8, c8, rfl, o1, n1⟩ := HU.out.pa hP; have hh := hP.2.2.ofDrew; have BX := Hd.mk (hh.blk BX.out (by simp)); have b0 := blk_cell BX.out 0; have b1 := blk_cell BX.out 1; have b2 := blk_cell BX.out 2; have b3 := blk_cell BX.out 3; simp only [List.getElem?_toArray, List.getElem?_cons_zero, List.getElem?_cons_succ] at b0 b1 b2 b3; have F0 := Hd.mk (F0.out.trans hh (by simp)); have OM := Hd.mk o1; have OV := Hd.mk (own_frame OV.out hh (by simp)); have OU := Hd.mk (own_frame OU.out hh (by simp)); have OR := Hd.mk (own_frame OR.out hh (by simp)); have OA := Hd.mk (own_frame OA.out hh (by simp)); have OB := Hd.mk (own_frame OB.out hh (by simp)); have OL := Hd.mk (own_frame OL.out hh (by simp)); have NM : Hd (∀ y, (Value.slice A8 ps.length c8).ownBlock = some y → w7.heap.size ≤ y ∧ y < w8.heap.size) := ⟨fun y hy => ⟨n1 y hy, own_lt o1 hy⟩⟩; have Z8 : w7.heap.size ≤ w8.heap.size := hh.size; clear hh hP o1 n1))
  rename_i hHeld1
  clear hHeld1
  clear b0 b1 b2 b3 BX
  have hee : (er == er) = true := by simp
  go_wp2_with (fail)
  refine (num10_any w8 er).mono ?_
  rintro e w9 ⟨rfl, rfl⟩
  go_wp2_with (fail)
  refine (num10_any w8 er).mono ?_
  rintro e w9 ⟨rfl, rfl⟩
  go_wp2_with (fail)
  refine (num10_any w8 er).mono ?_
  rintro e w9 ⟨rfl, rfl⟩
  go_wp2_with (fail)
  refine (num10_any w8 er).mono ?_
  rintro e w9 ⟨rfl, rfl⟩
  go_wp2_with (fail)
  refine (same10_any w8 A5 A1 bs.length bs.length c5 c1 bs bs _ _ rfl rfl HU.out.by_ HU.out.by_ (sl_of_own OA.out) (sl_of_own OV.out) (own_none OA.out) (own_none OV.out)).mono ?_
  rintro e w9 ⟨rfl, rfl⟩
  rw [decide_eq_true rfl]
  go_wp2_with (fail)
  refine (same10_any w8 A6 A1 bs.length bs.length c6 c1 bs bs _ _ rfl rfl HU.out.by_ HU.out.by_ (sl_of_own OB.out) (sl_of_own OV.out) (own_none OB.out) (own_none OV.out)).mono ?_
  rintro e w9 ⟨rfl, rfl⟩
  rw [decide_eq_true rfl]
  go_wp2_with (fail)
  refine (alike10_any w8 A7 B1 ps.length c7 e1 ps _ _ rfl (psl_own4 OL.out) (psl_own4 OU.out) (by omega)).mono ?_
  rintro e w9 ⟨rfl, hh⟩
  have OV := Hd.mk (own_frame OV.out hh (by simp))
  have OU := Hd.mk (own_frame OU.out hh (by simp))
  have OR := Hd.mk (own_frame OR.out hh (by simp))
  have OA := Hd.mk (own_frame OA.out hh (by simp))
  have OB := Hd.mk (own_frame OB.out hh (by simp))
  have OL := Hd.mk (own_frame OL.out hh (by simp))
  have OM := Hd.mk (own_frame OM.out hh (by simp))
  have F0 := Hd.mk (F0.out.trans hh (by simp))
  have Z9 : w8.heap.size ≤ w9.heap.size := hh.size
  clear hh
  go_wp2_with (fail)
  refine (alike10_any w9 A8 B1 ps.length c8 e1 ps _ _ rfl (psl_own4 OM.out) (psl_own4 OU.out) (by omega)).mono ?_
  rintro e w10 ⟨rfl, hh⟩
  have OV := Hd.mk (own_frame OV.out hh (by simp))
  have OU := Hd.mk (own_frame OU.out hh (by simp))
  have OR := Hd.mk (own_frame OR.out hh (by simp))
  have OA := Hd.mk (own_frame OA.out hh (by simp))
  have OB := Hd.mk (own_frame OB.out hh (by simp))
  have OL := Hd.mk (own_frame OL.out hh (by simp))
  have OM := Hd.mk (own_frame OM.out hh (by simp))
  have F0 := Hd.mk (F0.out.trans hh (by simp))
  have Z10 : w9.heap.size ≤ w10.heap.size := hh.size
  clear hh
  go_wp2
  go_loopg [17] bs.length (fun kq iv wr => ∃ (i : Nat) (zs : List Value), iv = .int .i64 (i : Nat) ∧ i + kq = bs.length ∧ Hd (wr.ownsRow 0 5 1 (.slice A5 bs.length c5) bs.length zs) ∧ Hd (Fr w10 wr (Value.slice A5 bs.length c5).ownBlock.toList))
  case atStart => exact ⟨0, _, rfl, by omega, OA, ⟨Fr.refl _ _⟩⟩
  case round =>
    obtain ⟨i, zs, rfl, hi, HO, HF⟩ := hrel
    by_cases h1 : i < bs.length
    · obtain ⟨g3, d3', e3, hd3⟩ := own_some HO.out (by omega)
      injection e3 with e3 _ e4
      subst e3 e4
      have hl := HO.out.1
      have c0 := HO.out.cellAt i (by omega)
      obtain ⟨v0, hv0⟩ : ∃ v, zs[i]? = some v := ⟨_, List.getElem?_eq_getElem (by omega)⟩
      rw [hv0] at c0
      have z0 := HO.out.frozenAt i
      clear hl hv0
      go_wp2
      go_roundg (gk - 1)
      case measure => omega
      case rel => exact ⟨i + 1, _, by go_num, by omega, ⟨(HO.out.stored _ _).1⟩, ⟨HF.out.setCell _ (.inl (by simp [Value.ownBlock]))⟩⟩
    · have NA1 : Hd (∀ y, (Value.slice A5 bs.length c5).ownBlock = some y → w4.heap.size ≤ y ∧ y < w5.heap.size) := NA
      have OL1 := Hd.mk (own_frame OL.out HF.out (fun y hy hz => by have := NL.out y hy; have := NA.out y (by simpa using hz); omega))
      have HF1 : Hd (Fr w10 wr ((Value.slice A5 bs.length c5).ownBlock.toList ++ (Value.slice A7 ps.length c7).ownBlock.toList)) := ⟨HF.out.mono (fun y _ hy => List.mem_append_left _ hy)⟩
      obtain ⟨w11, rfl⟩ : ∃ w11 : World, w11 = wr := ⟨_, rfl⟩
      clear HF OA
      go_wp2
      clear hi h1
      go_loopg [18] ps.length (fun kq iv wr => ∃ (i : Nat) (ys : List Value), iv = .int .i64 (i : Nat) ∧ i + kq = ps.length ∧ Hd (wr.ownsRow 0 100 4 (.slice A7 ps.length c7) ps.length ys) ∧ Hd (wr.ownsRow 0 5 1 (.slice A5 bs.length c5) bs.length zs) ∧ Hd (Fr w10 wr ((Value.slice A5 bs.length c5).ownBlock.toList ++ (Value.slice A7 ps.length c7).ownBlock.toList)))
      case atStart => exact ⟨0, _, rfl, by omega, OL1, HO, HF1⟩
      case round =>
        clear OL1 HO HF1
        obtain ⟨i, ys, rfl, hi, HL, HO, HF⟩ := hrel
        by_cases h1 : i < ps.length
        · obtain ⟨g3, d3', e3, hd3⟩ := own_some HL.out (by omega)
          injection e3 with e3 _ e4
          subst e3 e4
          have hl := HL.out.1
          have c0 := HL.out.cellAt (i * 4 + 3) (by omega)
          obtain ⟨v0, hv0⟩ : ∃ v, ys[i * 4 + 3]? = some v := ⟨_, List.getElem?_eq_getElem (by omega)⟩
          rw [hv0] at c0
          have z0 := HL.out.frozenAt (i * 4 + 3)
          clear hl hv0
          have HO2 : Hd ((wr.setCell ⟨g3, i * 4 + 3, none⟩ (.int .i64 81)).ownsRow 0 5 1 (.slice A5 bs.length c5) bs.length zs) := ⟨own_frame HO.out ((Fr.refl wr [g3]).setCell _ (.inl (by simp))) (fun y hy hz => by
            obtain rfl : y = g3 := by simpa using hz
            obtain ⟨cs2, hc2⟩ := own_type HO.out hy
            exact own_ne HL.out hc2 (by decide) rfl)⟩
          go_wp2
          go_roundg (gk - 1)
          case measure => omega
          case rel => exact ⟨i + 1, _, by go_num, by omega, ⟨(HL.out.stored _ _).1⟩, HO2, ⟨HF.out.setCell _ (.inl (by simp [Value.ownBlock]))⟩⟩
        · obtain ⟨w12, rfl⟩ : ∃ w12 : World, w12 = wr := ⟨_, rfl⟩
          go_wp2
          clear hi h1
          go_loopg [9, 13, 19] 40 (fun kq av lv iv wr => ∃ (i : Nat) (Aa : Option Addr) (ma ca : Nat) (Al : Option Addr) (ml cl : Nat) (zs ys : List Value), av = .slice Aa ma ca ∧ lv = .slice Al ml cl ∧ iv = .int .i64 (i : Nat) ∧ i + kq = 40 ∧ ma ≤ 20000000 + i ∧ ml ≤ 1048577 + i ∧ Hd (wr.ownsRow 0 5 1 (.slice Aa ma ca) ma zs) ∧ Hd (wr.ownsRow 0 100 4 (.slice Al ml cl) ml ys) ∧ Hd (Aft w10 (Value.slice A5 bs.length c5).ownBlock (Value.slice Aa ma ca).ownBlock) ∧ Hd (Aft w10 (Value.slice A7 ps.length c7).ownBlock (Value.slice Al ml cl).ownBlock) ∧ Hd (Fr w10 wr ((Value.slice A5 bs.length c5).ownBlock.toList ++ (Value.slice A7 ps.length c7).ownBlock.toList)))
          case atStart => exact ⟨0, A5, bs.length, c5, A7, ps.length, c7, zs, ys, rfl, rfl, rfl, by omega, by omega, by omega, HO, HL, ⟨Aft.refl _ _⟩, ⟨Aft.refl _ _⟩, HF⟩
          case round =>
            clear HO HL HF
            obtain ⟨i, Aa, ma, ca, Al, ml, cl, zs, ys, rfl, rfl, rfl, hi, hma, hml, HO, HL, HA5, HA7, HF⟩ := hrel
            by_cases h2 : i < 40
            · go_upto_region 21 with (at_builtin; refine wpList_append_sl rfl (.tmp 140) (.tmp 141) 23 rfl 5 i0 (.int .u8 0) 1 1 Tryz.underlying23 hi0 hz0 hz1 hz2 rfl (by decide) (.slice Aa ma ca) ma _ rfl (by exact HO.out.alloc _) (some ⟨wr.heap.size, 0, none⟩) 1 1 [.int .u8 82] (some wr.heap.size) rfl rfl (by exact sl_of_blk (blk_new _ _)) (by intro h; cases h) (by intro u hu; simp at hu; subst hu; rfl) (by unfold maxLen; omega) (by omega) ?_; intro A9 c9 w13 hown' hgrow haft; have O9 := Hd.mk hown'; have G9 := Hd.mk hgrow; have AF9 := Hd.mk haft; clear hown' hgrow haft)
              have f9 : Fr wr w13 (Value.slice Aa ma ca).ownBlock.toList := ((Fr.refl wr _).alloc _).grown G9.out (fun y hy => .inl (by simp [hy]))
              have L9 := Hd.mk (own_frame HL.out f9 (fun y hy hz => by
                obtain ⟨cs2, hc2⟩ := own_type HL.out hy
                exact own_ne HO.out hc2 (by decide) (by simpa using hz)))
              have F9 : Hd (Fr w10 w13 ((Value.slice A5 bs.length c5).ownBlock.toList ++ (Value.slice A7 ps.length c7).ownBlock.toList)) := ⟨HF.out.trans f9 (fun y hy hz => by
                rcases HA5.out with e | ⟨z, e, hz2⟩
                · rw [e] at hz; exact List.mem_append_left _ hz
                · rw [e] at hz; simp at hz; omega)⟩
              have A59 : Hd (Aft w10 (Value.slice A5 bs.length c5).ownBlock (Value.slice A9 (ma + 1) c9).ownBlock) := ⟨HA5.out.trans (Head.aft_alloc AF9.out) HF.out.size⟩
              clear f9 HO HL HA5 HF AF9 G9
              go_wp2_with (at_builtin; refine wpList_append_sl rfl (.tmp 143) (.tmp 145) 94 rfl 100 k0 (.agg #[.int .i64 0, .int .i64 0, .int .i64 0, .int .i64 0]) 4 32 Tryz.underlying94 hk0 hy0 hy1 hy2 rfl (by decide) (.slice Al ml cl) ml _ rfl (by exact L9.out.alloc _) (some ⟨w13.heap.size, 0, none⟩) 1 1 [.int .i64 0, .int .i64 0, .int .i64 0, .int .i64 83] (some w13.heap.size) rfl rfl (by exact sl_of_blk (blk_new _ _)) (by intro h; cases h) (by intro u hu; simp at hu; rcases hu with rfl | rfl <;> rfl) (by unfold maxLen; omega) (by omega) ?_; intro A11 c11 w14 hown' hgrow haft; have O11 := Hd.mk hown'; have G11 := Hd.mk hgrow; have AF11 := Hd.mk haft; clear hown' hgrow haft)
              have f9 : Fr w13 w14 (Value.slice Al ml cl).ownBlock.toList := ((Fr.refl w13 _).alloc _).grown G11.out (fun y hy => .inl (by simp [hy]))
              go_roundg (gk - 1)
              case measure => omega
              case rel =>
                refine ⟨i + 1, A9, ma + 1, c9, A11, ml + 1, c11, _, _, rfl, rfl, by go_num, by omega, by omega, by omega, ⟨own_frame O9.out f9 (fun y hy hz => ?_)⟩, O11, A59, ⟨HA7.out.trans (Head.aft_alloc AF11.out) F9.out.size⟩, ⟨F9.out.trans f9 (fun y hy hz => ?_)⟩⟩
                · obtain ⟨cs2, hc2⟩ := own_type O9.out hy
                  exact own_ne L9.out hc2 (by decide) (by simpa using hz)
                · rcases HA7.out with e | ⟨z, e, hz2⟩
                  · rw [e] at hz; exact List.mem_append_right _ hz
                  · rw [e] at hz; simp at hz; omega
            · have NF : ∀ y, (y < w4.heap.size ∨ (w5.heap.size ≤ y ∧ y < w6.heap.size) ∨ w7.heap.size ≤ y) → y ∉ (Value.slice A5 bs.length c5).ownBlock.toList ++ (Value.slice A7 ps.length c7).ownBlock.toList := fun y hy hz => by
                rcases List.mem_append.1 hz with h | h
                · have := NA.out y (by simpa using h); omega
                · have := NL.out y (by simpa using h); omega
              have OB2 := Hd.mk (own_frame OB.out HF.out (fun y hy => NF y (.inr (.inl (NB.out y hy)))))
              have OM2 := Hd.mk (own_frame OM.out HF.out (fun y hy => NF y (.inr (.inr (NM.out y hy).1))))
              have OV2 := Hd.mk (own_frame OV.out HF.out (fun y hy => NF y (.inl (by have := NV.out y hy; omega))))
              have OU2 := Hd.mk (own_frame OU.out HF.out (fun y hy => NF y (.inl (by have := NU.out y hy; omega))))
              have OR2 := Hd.mk (own_frame OR.out HF.out (fun y hy => NF y (.inl (by cases hy; exact NR.out))))
              have ZW := F0.out.size
              have FW : Hd (Fr w wr ((Value.slice A5 bs.length c5).ownBlock.toList ++ (Value.slice A7 ps.length c7).ownBlock.toList)) := ⟨(F0.out.mono (by simp)).trans HF.out (F := (Value.slice A5 bs.length c5).ownBlock.toList ++ (Value.slice A7 ps.length c7).ownBlock.toList) (fun y hy hz => hz)⟩
              have NF2 : Hd (∀ y, y ∈ (Value.slice A5 bs.length c5).ownBlock.toList ++ (Value.slice A7 ps.length c7).ownBlock.toList → w.heap.size ≤ y) := ⟨fun y hz => by
                have := F0.out.size
                rcases List.mem_append.1 hz with h | h
                · have := NA.out y (by simpa using h); omega
                · have := NL.out y (by simpa using h); omega⟩
              clear NF ZW HO HL HA5 HA7 HF F0 OB OM OV OU OR
              obtain ⟨w15, rfl⟩ : ∃ w15 : World, w15 = wr := ⟨_, rfl⟩
              go_wp2_with (fail)
              refine (same10_any w15 A6 A1 bs.length bs.length c6 c1 bs bs _ _ rfl rfl HU.out.by_ HU.out.by_ (sl_of_own OB2.out) (sl_of_own OV2.out) (own_none OB2.out) (own_none OV2.out)).mono ?_
              rintro e w16 ⟨rfl, rfl⟩
              rw [decide_eq_true rfl]
              go_wp2_with (fail)
              refine (alike10_any w15 A8 B1 ps.length c8 e1 ps _ _ rfl (psl_own4 OM2.out) (psl_own4 OU2.out) (by omega)).mono ?_
              rintro e w16 ⟨rfl, hh⟩
              have OR3 := Hd.mk (own_frame OR2.out hh (by simp))
              have F16 := Hd.mk (FW.out.trans hh (by simp))
              clear hh OB2 OM2 OV2 OU2 OR2 FW
              have hby8 : ∀ x ∈ d, 0 ≤ x ∧ x ≤ 255 := HBY.out
              have HB8 := Hd.mk hby8
              clear hby8
              go_wp2_with (fail)
              refine (same10_any w16 (some ⟨gr, 0, none⟩) A n n dr c d d _ _ hl hl HB8.out HB8.out (own_pre OR3.out) (HS.out.sl.frame F16.out (fun y hy hz => by have := HS.out.lt y hy; have := NF2.out y hz; omega)) (by intro h; cases h) HS.out.nil).mono ?_
              rintro e w17 ⟨rfl, rfl⟩
              rw [decide_eq_true rfl]
              have hq1 := run_cut_from (P := Tryz.prog) 23 5 .i64 Tryz.underlying23 hi0 1 hz1 (some ⟨gr, 0, none⟩) (n + 3) dr n (by omega)
              rw [show n + 3 - n = 3 from by omega] at hq1
              have S17 : Hd (Sl w16 (cutA (some ⟨gr, 0, none⟩) dr n 1) (u8s [71, 72, 73]) (some gr)) := ⟨by
                have h := (sl_of_own OR3.out).cut (n := n + 3) (c := dr) (k := n) (by simp [u8s, hl]) (by omega) (by omega)
                have e : (u8s (d ++ [71, 72, 73])).drop n = u8s [71, 72, 73] := by
                  rw [u8s_app, List.drop_left' (by simp [u8s, hl])]
                rw [e] at h
                exact h⟩
              have hcn : cutA (some ⟨gr, 0, none⟩) dr n 1 ≠ none := fun h => by have := cutA_some h; cases this
              obtain ⟨ac, hac⟩ : ∃ x, x = cutA (some ⟨gr, 0, none⟩) dr n 1 := ⟨_, rfl⟩
              rw [← hac] at hq1 S17 hcn
              clear hac
              have F17 := Hd.mk (F16.out.alloc (.cells #[.int .u8 71, .int .u8 72, .int .u8 73] 5))
              go_wp2_with (fail)
              refine (same10_any _ ac (some ⟨w16.heap.size, 0, none⟩) 3 3 (dr - n) 3 [71, 72, 73] [71, 72, 73] _ _ rfl rfl (by decide) (by decide) (S17.out.alloc _) (by exact sl_of_blk (blk_new w16 _)) (fun h => absurd h hcn) (by intro h; cases h)).mono ?_
              rintro e w17 ⟨rfl, rfl⟩
              rw [show decide ([(71 : Int), 72, 73] = [71, 72, 73]) = true from rfl]
              go_wp2_with (fail)
              refine (awake_any _).mono ?_
              rintro e w17 ⟨rfl, hh⟩
              have F18 := Hd.mk (F17.out.trans hh (by simp))
              clear hh
              go_wp2
              go_ret
              refine ⟨rfl, (F18.out.mono (G := []) (fun y hy hz => ?_)).below⟩
              have := NF2.out y hz
              omega
end Go.Proofs.YtkdgfioigkijgaaGreat.Prs
