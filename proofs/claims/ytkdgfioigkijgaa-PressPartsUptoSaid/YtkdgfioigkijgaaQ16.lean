/- Texts of this claim, one behind the other: PrsF, PrsG. -/
import Derived.Test.YtkdgfioigkijgaaQ01
import Derived.Test.YtkdgfioigkijgaaQ02
import Derived.Test.YtkdgfioigkijgaaQ03
import Derived.Test.YtkdgfioigkijgaaQ04
import Derived.Test.YtkdgfioigkijgaaQ05
import Derived.Test.YtkdgfioigkijgaaQ06
import Derived.Test.YtkdgfioigkijgaaQ07
import Derived.Test.YtkdgfioigkijgaaQ08
import Derived.Test.YtkdgfioigkijgaaQ09
import Derived.Test.YtkdgfioigkijgaaQ10
import Derived.Test.YtkdgfioigkijgaaQ11
import Derived.Test.YtkdgfioigkijgaaQ12
import Derived.Test.YtkdgfioigkijgaaQ13
import Derived.Test.YtkdgfioigkijgaaQ14
import Derived.Test.YtkdgfioigkijgaaQ15
import Derived.Maps.AppendAt
import Derived.RangeFuncBox
import Derived.BigRegion
import Derived.BigQuiet
import Derived.Deep.QuietTactic
import Derived.Deep.LoopGhost
import Derived.Deep.DeepCutAuto
import Derived.KernelRfl
import Derived.Deep.RegionLaw
import Derived.Outline
/- Chapter 10: press.Parts. Condition: at most 2^20 bytes. -/
set_option linter.unusedVariables false
set_option linter.unusedSimpArgs false
set_option maxRecDepth 100000
namespace Go.Proofs.Ytkdgfioigkijgaa.Prs
open Go.RowKit Go.Shelf Go.Proofs.Ytkdgfioigkijgaa.Lib Go.Proofs.Ytkdgfioigkijgaa.Ints Go.Proofs.Ytkdgfioigkijgaa.Lz Go.Proofs.Ytkdgfioigkijgaa.Num Go.Proofs.Ytkdgfioigkijgaa.Bits Go.Proofs.Ytkdgfioigkijgaa.Blk
/-- a part as it is told -/
def partC (l : List Tok) (most j : Nat) : List Value := [.int .i64 (kdN (btN l most j) (tks l most j) : Nat), .int .i64 (lenN l.length most j : Nat), .int .i64 (szN l most j : Nat), .int .i64 (csN (btN l most j) (tks l most j) : Nat)]
theorem infoPart : (Try.prog.info? 43).map (fun i => (i.zero, i.size, i.bytes)) = some (some (.agg #[.int .i64 0, .int .i64 0, .int .i64 0, .int .i64 0]), 4, 32) := by kernel_rfl
theorem part_cell (W : World) (l : List Tok) (M j : Nat) : ∀ i u, (partC l M j)[i]? = some u → (W.alloc (.cells #[.int .i64 (kdN (btN l M j) (tks l M j) : Nat), .int .i64 (lenN l.length M j : Nat), .int .i64 (szN l M j : Nat), .int .i64 (csN (btN l M j) (tks l M j) : Nat)] 43)).cell? ((⟨W.heap.size, 0, none⟩ : Addr).add i) = some u := fun i u h => by
  have e : ((⟨W.heap.size, 0, none⟩ : Addr).add i) = ⟨W.heap.size, i, none⟩ := by simp [Addr.add]; omega
  rw [e, blk_cell (blk_new W _), List.getElem?_toArray]
  exact h
theorem part_one (l : List Tok) (M j : Nat) : ∀ u ∈ partC l M j, u.oneCell' = true := fun u h => by
  simp only [partC, List.mem_cons, List.not_mem_nil, or_false] at h
  rcases h with rfl | rfl | rfl | rfl <;> rfl
/-- what stands between two rounds -/
structure WP (w : World) (gp gt gd gm : Nat) (A : Option Addr) (c : Nat) (l : List Tok) (p : Option Nat) (D : Option Addr) (cd : Nat) (d : List Int) (pd : Option Nat) (most : Nat) (js : List Nat) (W : World) : Prop where
  box : ∃ v, Boxed W gp 38 v ∧ W.ownsRow w.heap.size 43 4 v js.length (js.flatMap (partC l most))
  fr : Fr w W []
  src : Src W gt gd gm A c l p D cd d pd most
  new : w.heap.size ≤ gp
  pw : ∀ b, b ∈ p.toList ++ pd.toList → b < w.heap.size
section
variable {w W W' : World} {gp gt gd gm c cd most : Nat} {A D : Option Addr} {l : List Tok} {d : List Int} {p pd : Option Nat} {js : List Nat}
theorem WP.keep (h : WP w gp gt gd gm A c l p D cd d pd most js W) {F : List Nat} (hf : Fr W W' F) (hF : ∀ k ∈ F, w.heap.size ≤ k ∧ ∃ o : Obj, W.heap[k]? = some o ∧ o.isCells = false) : WP w gp gt gd gm A c l p D cd d pd most js W' := by
  have hn : ∀ {k : Nat} {cs : Array Value} {t : TypeId} {fr : Nat × Nat}, W.heap[k]? = some (.cells cs t fr) → k ∉ F := fun hk hm => by
    obtain ⟨_, o, ho, hc⟩ := hF _ hm
    rw [hk] at ho
    cases ho
    cases hc
  obtain ⟨v, hb, ho⟩ := h.box
  refine ⟨⟨v, hf.blk hb (hn hb), own_frame ho hf (fun y hy => by obtain ⟨es, he⟩ := own_type ho hy; exact hn he)⟩, h.fr.trans hf (fun x hx hm => absurd (hF x hm).1 (by omega)), h.src.keep (Kp.fr hf (fun b hb hm => ?_)), h.new, h.pw⟩
  simp only [List.mem_cons] at hb
  rcases hb with rfl | rfl | rfl | hb
  · exact hn h.src.bt hm
  · exact hn h.src.bd hm
  · exact hn h.src.bm hm
  · exact absurd (hF b hm).1 (by have := h.pw b hb; omega)
theorem WP.step (h : WP w gp gt gd gm A c l p D cd d pd most js W) {v v' : Value} {j : Nat} (hv : Boxed W gp 38 v) (ho : W.ownsRow w.heap.size 43 4 v js.length (js.flatMap (partC l most)))
    (hf : Fr W W' (gp :: v.ownBlock.toList)) (hv' : Boxed W' gp 38 v') (ho' : W'.ownsRow w.heap.size 43 4 v' (js.length + 1) (js.flatMap (partC l most) ++ partC l most j)) :
    Kp gt gd gm p pd W W' ∧ WP w gp gt gd gm A c l p D cd d pd most (js ++ [j]) W' := by
  have hq : ∀ x, x ∈ gp :: v.ownBlock.toList → w.heap.size ≤ x := fun x hx => by
    rcases List.mem_cons.1 hx with rfl | hx
    · exact h.new
    · rcases ho.2 with ⟨rfl, _⟩ | ⟨g, cap, cur, rfl, hg, _⟩
      · simp [Value.ownBlock] at hx
      · simp [Value.ownBlock] at hx
        omega
  have hn : ∀ {b : Nat} {cs : Array Value} {t : TypeId} {fr : Nat × Nat}, W.heap[b]? = some (.cells cs t fr) → t ≠ 38 → t ≠ 43 → b ∉ gp :: v.ownBlock.toList := fun hb h1 h2 hm => by
    rcases List.mem_cons.1 hm with e | hm
    · subst e
      exact blk_ne hb hv h1 rfl
    · exact own_ne ho hb h2 (by simpa using hm)
  have hk : Kp gt gd gm p pd W W' := Kp.fr hf (fun b hb => by
    simp only [List.mem_cons] at hb
    rcases hb with rfl | rfl | rfl | hb
    · exact hn h.src.bt (by decide) (by decide)
    · exact hn h.src.bd (by decide) (by decide)
    · exact hn h.src.bm (by decide) (by decide)
    · intro hm
      have := hq b hm
      have := h.pw b hb
      omega)
  refine ⟨hk, ⟨⟨v', hv', ?_⟩, h.fr.trans hf (fun x hx hm => absurd (hq x hm) (by omega)), h.src.keep hk, h.new, h.pw⟩⟩
  rw [List.length_append, List.length_singleton, List.flatMap_append, List.flatMap_singleton]
  exact ho'
theorem wp_start (w : World) (c cd most : Nat) (A D : Option Addr) (l : List Tok) (d : List Int) (p pd : Option Nat) (hA : Sl w A (tcells l) p) (hc : l.length ≤ c) (hcm : c ≤ maxLen) (hAn : A = none → l.length = 0 ∧ c = 0) (hD : Sl w D (u8s d) pd) (hdc : d.length ≤ cd) (hcd : cd ≤ maxLen) (hDn : D = none → d.length = 0 ∧ cd = 0)
    (hpw : ∀ b, b ∈ p.toList ++ pd.toList → b < w.heap.size) : WP w w.heap.size (w.heap.size + 1 + 1) (w.heap.size + 1) (w.heap.size + 1 + 1 + 1) A c l p D cd d pd most []
      ((((w.alloc (.cells #[.slice none 0 0] 38)).alloc (.cells #[.slice D d.length cd] 35)).alloc (.cells #[.slice A l.length c] 45)).alloc (.cells #[.int .i64 (most : Nat)] 3)) := by
  have hf : Fr w ((((w.alloc (.cells #[.slice none 0 0] 38)).alloc (.cells #[.slice D d.length cd] 35)).alloc (.cells #[.slice A l.length c] 45)).alloc (.cells #[.int .i64 (most : Nat)] 3)) [] := ((((Fr.refl w []).alloc _).alloc _).alloc _).alloc _
  have b1 := blk_new w (.cells #[.slice none 0 0] 38)
  have b2 := blk_new (w.alloc (.cells #[.slice none 0 0] 38)) (.cells #[.slice D d.length cd] 35)
  have b3 := blk_new ((w.alloc (.cells #[.slice none 0 0] 38)).alloc (.cells #[.slice D d.length cd] 35)) (.cells #[.slice A l.length c] 45)
  have b4 := blk_new (((w.alloc (.cells #[.slice none 0 0] 38)).alloc (.cells #[.slice D d.length cd] 35)).alloc (.cells #[.slice A l.length c] 45)) (.cells #[.int .i64 (most : Nat)] 3)
  simp only [World.size_alloc] at b2 b3 b4
  exact ⟨⟨_, blk_alloc (blk_alloc (blk_alloc b1 _) _) _, own_nil _ _ _ _⟩, hf,
    ⟨blk_alloc b3 _, blk_alloc (blk_alloc b2 _) _, b4, hA.frame hf (by simp), hc, hcm, hAn, hD.frame hf (by simp), hdc, hcd, hDn⟩, Nat.le_refl _, hpw⟩
end
/-- what Parts answers -/
def PaPost (w w' : World) (l : List Tok) (most : Nat) (er : Int) (v : Value) : Prop :=
  (er ≠ 0 → v = .slice none 0 0) ∧ (er = 0 → ∃ J, 1 ≤ J ∧ l.length ≤ J * most ∧ (J = 1 ∨ (J - 1) * most < l.length) ∧ w'.ownsRow w.heap.size 43 4 v J ((List.range J).flatMap (partC l most))) ∧ Fr w w' []
set_option maxHeartbeats 16000000 in
theorem parts_any (w : World) (A : Option Addr) (n c : Nat) (d : List Int) (q : Option Nat) (k : Opt) (most er : Int) (he : er = popErr k most) (hS : SlArg w A n c (u8s d) q) (hby : Bytes d) (hn : n ≤ 1048576) :
    CallsIn Fence.wide 6 Try.prog 16 #[.slice A n c, .agg #[.int .i64 k.window, .int .i64 k.chain, .bool k.isLazy, .int .i64 most]] w fun e w' => ∃ v, e = .returned (.tuple #[v, .int .i64 er]) ∧ PaPost w w' (parse d k) most.toNat er v := by
  have HS := Hd.mk hS
  have hl : d.length = n := by have := hS.len; simpa [u8s] using this
  have HBY := Hd.mk hby
  have h2 : er = 0 ∨ er = 100 := he ▸ popErr_two k most
  have HE := Hd.mk he
  clear he hS hby
  refine callsIn_of_wp_marks Try.func16 rfl trivial ?_ rfl
  simp only [Try.ntmps16, List.size_toArray, List.length_cons, List.length_nil, Nat.reduceAdd, Nat.reduceSub, Array.replicate_succ, Array.replicate_zero, List.push_toArray, List.append_toArray, List.nil_append, List.cons_append]
  have F0 := Hd.mk ((Fr.refl w []).alloc (.cells #[.int .i64 k.window, .int .i64 k.chain, .bool k.isLazy, .int .i64 most] 28))
  gi_wp2_with (fail)
  refine ⟨trivial, ?_⟩
  refine (callsIn_wide.2 (check_any _ A n c (by omega) k most er HE.out)).mono ?_
  rintro e w1 ⟨rfl, h1⟩
  have F1 := Hd.mk (F0.out.trans h1 (by simp))
  have hbk := Hd.mk (h1.blk (blk_new w (.cells #[.int .i64 k.window, .int .i64 k.chain, .bool k.isLazy, .int .i64 most] 28)) (by simp))
  clear h1 F0
  rcases h2 with rfl | rfl
  · obtain ⟨hk0, hm1, hm2⟩ := popErr_zero HE.out.symm
    have HK0 := Hd.mk hk0
    have b0 := blk_cell hbk.out 0
    have b1 := blk_cell hbk.out 1
    have b2 := blk_cell hbk.out 2
    have b3 := blk_cell hbk.out 3
    simp only [List.getElem?_toArray, List.getElem?_cons_zero, List.getElem?_cons_succ] at b0 b1 b2 b3
    clear hk0
    gi_wp2_with (fail)
    have hS1 := HS.out.frame F1.out (by simp)
    refine ⟨trivial, ?_⟩
    refine (callsIn_wide.2 (parse_any w1 A n c d q k hS1 HBY.out hn (optErr k) (parse d k) rfl rfl)).mono ?_
    rintro e w2 ⟨A', m, dd, rfl, o2, n2, h2⟩
    have F2 := Hd.mk (F1.out.trans h2 (by simp))
    have hbk2 := Hd.mk (h2.blk hbk.out (by simp))
    have O2 := Hd.mk o2
    have N2 := Hd.mk n2
    clear o2 n2 h2 b0 b1 b2 b3 hS1 hbk
    obtain ⟨M, rfl⟩ := Int.eq_ofNat_of_zero_le (show 0 ≤ most by omega)
    obtain ⟨p1, p2, p3, p4⟩ := parse_law (d := d) HK0.out
    obtain ⟨g1, g2⟩ := parse_right HK0.out HBY.out
    have hS2 := HS.out.frame F2.out (by simp)
    subst hl
    obtain ⟨t1, t2, t3, t4, t5, t6⟩ := own_tok O2.out
    subst t1
    have hd2 := hS2.le
    have hA2 : A = none → d.length = 0 ∧ c = 0 := fun h => hS2.nil h
    have hp2 : ∀ b, b ∈ (Value.slice A' (parse d k).length dd).ownBlock.toList ++ q.toList → b < w2.heap.size := fun b hb => by
      rcases List.mem_append.1 hb with h | h
      · exact t6 b (by simpa using h)
      · exact hS2.lt b (by simpa using h)
    have hsl2 := hS2.sl
    have hmx2 := hS2.max
    have c1 : 1 ≤ M := by omega
    have c2 : M ≤ 65536 := by omega
    have c3 : (parse d k).length ≤ 134217728 := by omega
    have c4 : d.length ≤ 268435456 := by omega
    have HSS := Hd.mk hS2
    have b3' := blk_cell (blk_alloc hbk2.out (.cells #[.slice none 0 0] 38)) 3
    simp only [List.getElem?_toArray, List.getElem?_cons_zero, List.getElem?_cons_succ] at b3'
    clear hS2 p1 p2 p4 HE hm1 hm2 HS
    gi_wp2_with (refine ⟨trivial, ?_⟩; gi_at_call 26; refine (callsIn_wide.2 (pieces_any _ A d.length c A' (parse d k).length dd M)).mono ?_; rintro e w' ⟨rfl, rfl⟩)
    obtain ⟨pb, hpb⟩ : ∃ pb, pb = (Value.slice A' (parse d k).length dd).ownBlock := ⟨_, rfl⟩
    rw [← hpb] at t2 t6 hp2
    have HWS := wp_start w2 dd c M A' A (parse d k) d pb q t2 t3 t4 t5 hsl2 hd2 hmx2 hA2 hp2
    generalize hW0 : World.alloc _ _ = W0
    rw [hW0] at HWS
    clear hW0
    have hp0 : ∀ b, b ∈ (w2.heap.size + 1 + 1) :: (w2.heap.size + 1) :: (w2.heap.size + 1 + 1 + 1) :: (pb.toList ++ q.toList) → b < W0.heap.size := fun b hb => by
      simp only [List.mem_cons] at hb
      rcases hb with rfl | rfl | rfl | hb
      · exact blk_lt HWS.src.bt
      · exact blk_lt HWS.src.bd
      · exact blk_lt HWS.src.bm
      · exact Nat.lt_of_lt_of_le (hp2 b hb) HWS.fr.size
    refine wpIn_rangeFunc_ownH rfl (by decide) (gf := 39) (lb := #[.pointer (some ⟨w2.heap.size + 1 + 1, 0, none⟩), .pointer (some ⟨w2.heap.size + 1, 0, none⟩), .pointer (some ⟨w2.heap.size + 1 + 1 + 1, 0, none⟩)]) rfl trivial (enters_of Try.func39 (by kernel_rfl) rfl)
      (α := Ix (parse d k).length M) (encs := fun x => #[.agg (pcV A' dd (parse d k) A c M x.1)]) (Kp := Kp (w2.heap.size + 1 + 1) (w2.heap.size + 1) (w2.heap.size + 1 + 1 + 1) pb q)
      (S := fun xs => xs.map (·.1) = List.range xs.length ∧ 1 ≤ xs.length ∧ (parse d k).length ≤ xs.length * M) (Sp := fun pre => pre.map (·.1) = List.range pre.length) (N := (parse d k).length + 1) (w0 := W0)
      (fun l0 J Jx W hW hJ _ hY h0 => pieces1_any l0 _ _ _ dd c M A' A (parse d k) d pb q J Jx W hJ hY (HWS.src.fr (Fr.ofBelow hW [])) h0 g1 g2 p3 c1 c2 (by omega) c4)
      (fun h k => h.trans k) (Kp.put hp0) (Below.refl _ _) (fun _ => rfl)
      (fun (pre : List (Ix (parse d k).length M)) W => WP w2 w2.heap.size (w2.heap.size + 1 + 1) (w2.heap.size + 1) (w2.heap.size + 1 + 1 + 1) A' dd (parse d k) pb A c d q M (List.map (fun x : Ix (parse d k).length M => x.1) pre) W)
      (fun _ _ _ => False)
      (fun s W W' row hs hg hr => hs.keep ((Fr.refl W row.toList).grown hg (fun k hk => .inl (by simp [hk]))) (fun k hk => by obtain ⟨h1, h2⟩ := hr k (by simpa using hk); exact ⟨Nat.le_trans HWS.fr.size h1, h2⟩))
      (fun _ _ _ _ _ hs _ _ => hs)
      HWS
      (fun x a' W => ∃ Bx, W.heap[Bx]? = some (.cells (pcV A' dd (parse d k) A c M x.1) 69 (0, 0)) ∧ a' = { tmps := #[.slice A d.length c, .agg #[.int .i64 k.window, .int .i64 k.chain, .bool k.isLazy, .int .i64 (M : Nat)], undef, .pointer (some ⟨w.heap.size, 0, none⟩), .slice none 0 0, .int .i64 0, .int .i64 0, .slice A' (parse d k).length dd, .int .i64 (optErr k), .pointer (some ⟨w2.heap.size, 0, none⟩), .pointer (some ⟨Bx, 0, none⟩), .slice A d.length c, .agg #[.int .i64 k.window, .int .i64 k.chain, .bool k.isLazy, .int .i64 (M : Nat)], .int .i64 0, .int .i64 0, .bool false, undef, .tuple #[.slice A' (parse d k).length dd, .int .i64 (optErr k)], .slice A d.length c, .pointer (some ⟨w.heap.size, 0, none⟩), .agg #[.int .i64 k.window, .int .i64 k.chain, .bool k.isLazy], .tuple #[.slice A' (parse d k).length dd, .int .i64 (optErr k)], .slice A' (parse d k).length dd, .int .i64 (optErr k), .slice A d.length c, .slice A' (parse d k).length dd, .pointer (some ⟨w.heap.size, 3, none⟩), .int .i64 (M : Nat), .func (.func 39) #[] #[.pointer (some ⟨w2.heap.size + 1 + 1, 0, none⟩), .pointer (some ⟨w2.heap.size + 1, 0, none⟩), .pointer (some ⟨w2.heap.size + 1 + 1 + 1, 0, none⟩)], .agg (pcV A' dd (parse d k) A c M x.1), undef, undef, undef, undef, undef, undef], defers := [] })
      (fun x a' _ X Y row hs hg hr => by
        obtain ⟨Bx, h1, h2⟩ := hs
        exact ⟨Bx, blk_grown hg h1 (fun e => by obtain ⟨_, o, ho, hc⟩ := hr Bx e.symm; rw [h1] at ho; cases ho; cases hc), h2⟩)
      ?assign ?body ?done ?stop
    case assign =>
      rintro l0 pre x W K hI hK
      simp only [pcV] at hK ⊢
      have SA := @Oper.semAt_some
      gi_wp2
      refine hK _ _ ((KeepsOthers.alloc _ _).from _) (Kp.fr ((Fr.refl W []).alloc _) (fun _ _ => by simp)) (hI.keep ((Fr.refl W []).alloc _) (fun _ h => by cases h)) ⟨W.heap.size, blk_new _ _, rfl⟩
    case body =>
      rintro l0 pre x a' W hl0 ⟨r, hr0⟩ hI ⟨Bx, hB, rfl⟩ hlt
      obtain ⟨j, hj⟩ := x
      simp only [pcV] at hB ⊢
      obtain ⟨v, hv, hrow⟩ := hI.box
      obtain ⟨i0, hi, hz0, hz1, hz2⟩ := info_parts infoPart
      have k0 := blk_cell hB 0
      have k1 := blk_cell hB 1
      have k2 := blk_cell hB 2
      have k3 := blk_cell hB 3
      have k5 := hv.cell
      simp only [List.getElem?_toArray, List.getElem?_cons_zero, List.getElem?_cons_succ] at k0 k1 k2 k3
      have SA := @Oper.semAt_some
      have hlj : (List.map (fun x : Ix (parse d k).length M => x.1) pre).length = pre.length := List.length_map ..
      have hpl : pre.length ≤ 134217728 := by omega
      have HI := Hd.mk hI
      have hszw : w2.heap.size ≤ W.heap.size := HI.out.fr.size
      have hrow' : W.ownsRow w2.heap.size 43 4 v pre.length ((List.map (fun x : Ix (parse d k).length M => x.1) pre).flatMap (partC (parse d k) M)) := by rw [← hlj]; exact hrow
      clear hI hrow
      gi_wp2_with (gi_at_builtin; refine wpListIn_append_own _ rfl _ _ 38 rfl w2.heap.size 43 i0 (.agg #[.int .i64 0, .int .i64 0, .int .i64 0, .int .i64 0]) 4 32 Try.underlying38 hi hz0 hz1 hz2 rfl (by decide) _ _ _ rfl (hrow'.alloc _) ⟨W.heap.size, 0, none⟩ 1 1 (partC (parse d k) M j) rfl rfl (part_cell W (parse d k) M j) (part_one (parse d k) M j) (by simp [maxLen]; omega) (by omega) (by simp; omega) ?_; intro v' w3 hown' hgrow _; obtain ⟨g', cap', rfl⟩ := ownsRow_succ hown'; obtain ⟨hv1, hv2, hr2, hk2, hb2⟩ := hv.appended (by decide) hrow' hszw (Nat.le_refl _) hown' hgrow; have hc1 := hv1.cell; have hf1 := hv1.frozen)
      have hgr : Fr W w3 v.ownBlock.toList := by
        refine ((Fr.refl W _).alloc _).grown hgrow (fun k hk => .inl ?_)
        have hk' : v.ownBlock = some k := hk
        simpa using hk'
      have hf := (hgr.mono (G := w2.heap.size :: v.ownBlock.toList) (fun k _ h => List.mem_cons_of_mem _ h)).setCell (a := ⟨w2.heap.size, 0, none⟩) (.slice (some ⟨g', 0, none⟩) (pre.length + 1) cap') (.inl (by simp))
      obtain ⟨m1, m2⟩ := HI.out.step (j := j) hv (by rw [hlj]; exact hrow') hf hv2 (by rw [hlj]; exact hr2)
      refine ⟨hk2.from _, m1, ?_⟩
      dsimp only
      rw [List.map_append]
      exact m2
    case done =>
      rintro D0 xs W hD0 ⟨hS1, hS2, hS3⟩ hI hK
      obtain ⟨v, hv, hrow⟩ := hI.box
      have k5 := hv.cell
      have hJ : xs.length = 1 ∨ (xs.length - 1) * M < (parse d k).length := by rcases last_ok hS1 with h | h | h <;> omega
      rw [List.length_map, hS1] at hrow
      have HJ := Hd.mk hJ
      have HI := Hd.mk hI
      have HRO := Hd.mk hrow
      have HST := Hd.mk (And.intro hS2 hS3)
      clear hS1 hS2 hS3 hJ hI hrow hv
      gi_wp2
      refine ⟨by simp, .inl ⟨_, _, rfl, run_takeDeferred hK, ?_⟩⟩
      have hle : w.heap.size ≤ w2.heap.size := F2.out.size
      refine ⟨_, results_tmp2 rfl _ _ _, v, rfl, fun h => absurd rfl h, fun _ => ⟨xs.length, HST.out.1, by rw [Int.toNat_natCast]; exact HST.out.2, by rw [Int.toNat_natCast]; exact HJ.out, own_base (ownsRow_putObj HRO.out _ hK rfl) hle⟩, ?_⟩
      exact (F2.out.trans HI.out.fr (by simp)).grown (grownBy_putObj' W D0 _) (fun k e => by cases e; exact .inr (by have := HWS.fr.size; omega))
    case stop =>
      rintro D c pre W _ _ h _
      exact h.elim
  · gi_wp2
    exact ⟨_, results_tmp2 rfl _ _ _, _, rfl, fun _ => rfl, fun h => absurd h (by decide), F1.out⟩
end Go.Proofs.Ytkdgfioigkijgaa.Prs
/- Chapter 10: PressMost. Condition: at most 2^20 bytes. -/
set_option linter.unusedVariables false
set_option linter.unusedSimpArgs false
set_option maxRecDepth 100000
namespace Go.Proofs.Ytkdgfioigkijgaa.Prs
open Go.RowKit Go.Proofs.Ytkdgfioigkijgaa.Lib Go.Proofs.Ytkdgfioigkijgaa.Ints Go.Proofs.Ytkdgfioigkijgaa.Lz Go.Proofs.Ytkdgfioigkijgaa.Num Go.Proofs.Ytkdgfioigkijgaa.Bits Go.Proofs.Ytkdgfioigkijgaa.Blk
theorem litP_le : ∀ i, i < 256 → plainLit.getD i 0 ≤ 9 := by decide +kernel
theorem distP_le : ∀ i, i < 32 → plainDist.getD i 0 ≤ 5 := by decide +kernel
theorem lenP_le : ∀ i : Nat, i < 256 → 3 * (plainLit.getD (symN lenT 257 3 258 ((i : Int) + 3)).1.toNat 0 + (symN lenT 257 3 258 ((i : Int) + 3)).2.1 + 18) ≤ 32 * ((i : Int) + 3) := by decide +kernel
theorem tkP_le {t : Tok} (hr : right t = true) (hl : 0 ≤ t.lit ∧ t.lit ≤ 255) : 3 * tkBits plainLit plainDist t ≤ 32 * (Lz.width t : Nat) := by
  unfold tkBits
  by_cases h0 : t.len = 0
  · rw [if_pos h0]
    have hw : Lz.width t = 1 := by unfold Lz.width; rw [if_pos hr, if_pos h0]
    rw [hw]
    unfold sgA
    rw [if_pos h0]
    have := litP_le t.lit.toNat (by omega)
    simp only
    omega
  · rw [if_neg h0]
    have hw : Lz.width t = t.len.toNat := by unfold Lz.width; rw [if_pos hr, if_neg h0]
    rw [hw]
    rcases right_len hr with ⟨h, _⟩ | ⟨h1, h2, _⟩
    · exact absurd h h0
    have hB := sgB_fit hr
    have h3 := distP_le (sgB t).1.toNat (by have := hB.sym; omega)
    have h4 := hB.bits
    have h5 := lenP_le (t.len - 3).toNat (by omega)
    have e : (((t.len - 3).toNat : Int) + 3) = t.len := by omega
    rw [e] at h5
    unfold sgA
    rw [if_neg h0]
    have e2 : ((t.len.toNat : Nat) : Int) = t.len := by omega
    rw [e2]
    dsimp only
    omega
theorem codedP_le : ∀ (s : List Tok), (∀ t ∈ s, right t = true) → LitB s → 3 * codedF plainLit plainDist s ≤ 32 * (Lz.sizeOf s : Nat)
  | [], _, _ => by simp [codedF, Lz.sizeOf]
  | t :: s, hr, hl => by
    have h1 := codedP_le s (fun x hx => hr x (List.mem_cons_of_mem _ hx)) (fun x hx => hl x (List.mem_cons_of_mem _ hx))
    have h2 := tkP_le (hr t List.mem_cons_self) (hl t List.mem_cons_self)
    have h3 : Lz.sizeOf (t :: s) = Lz.width t + Lz.sizeOf s := by unfold Lz.sizeOf; rw [List.map_cons, List.sum_cons]
    rw [h3, codedF]
    omega
/-- what a piece costs: no less than ten bits; no more than plainly -/
theorem cs_le {m : Nat} {s : List Tok} (h : mayB s = 0) (hl : LitB s) : 3 * csN m s ≤ 30 + 32 * Lz.sizeOf s ∧ 10 ≤ csN m s := by
  have hr := (mayB_zero h).2
  obtain ⟨g1, g2, g3, g4, g5⟩ := pick_some (m := m) h hl
  have hb := pickF_best (bh := ((m % 8 : Nat) : Int)) (by omega) (by omega) h hl 3 (Nat.le_refl _)
  obtain ⟨h1, h2⟩ := hb.1 1 (by decide) rfl
  obtain ⟨j, hj, e1, e2, e3⟩ := hb.2 h1
  have hk : kdN m s = j := by unfold kdN; rw [e1]; rfl
  have h5 : (costK 1 ((m % 8 : Nat) : Int) s).1 = 3 + codedN plainLit plainDist s := rfl
  have h6 := codedP_le s hr hl
  have h7 : plainLit.getD 256 0 = 7 := by decide +kernel
  have h8 : codedN plainLit plainDist s = 7 + codedF plainLit plainDist s := by unfold codedN; rw [h7]
  rw [hk] at g4
  refine ⟨by omega, ?_⟩
  have h9 := codedF_le (check15 plainLit_check) (check15 plainDist_check) s hr hl
  have hc : j = 0 ∨ j = 1 ∨ j = 2 := by omega
  rcases hc with rfl | rfl | rfl
  · unfold costK at g4 e2
    rw [if_pos rfl] at g4 e2
    split at g4
    · rename_i hh
      rw [if_pos hh] at e2
      cases e2
    · simp only at g4
      omega
  · omega
  · have e : (costK 2 ((m % 8 : Nat) : Int) s).1 = 3 + Head.hcost (ownLit s) (ownDist s) + codedN (ownLit s) (ownDist s) s := rfl
    rw [e] at g4
    have k1 := codedF_le (check15 (ownLit_check s)) (check15 (ownDist_check s)) s hr hl
    have k2 := lens15_get (check15 (ownLit_check s)) 256
    obtain ⟨_, r2, _⟩ := Head.hruns_ok (own_okH s)
    have k3 := Head.costF_le (Head.hlens_le (rs := Head.hruns (ownLit s) (ownDist s)) (by omega)) (Head.hruns (ownLit s) (ownDist s))
    have k4 := Head.toldN_ge (Head.hlens (Head.hruns (ownLit s) (ownDist s))) 19
    unfold Head.hcost codedN at g4
    omega
theorem btP_le {l : List Tok} (hr : ∀ t ∈ l, right t = true) (hl : LitB l) {most : Nat} (hm : most ≤ 65536) : ∀ j, 3 * btN l most j ≤ 30 * j + 32 * posN l most j ∧ (1 ≤ j → 10 ≤ btN l most j)
  | 0 => by simp [btN]
  | j + 1 => by
    obtain ⟨i1, i2⟩ := btP_le hr hl hm j
    obtain ⟨h1, h2⟩ := cs_le (m := btN l most j) (tks_may hr hm j) (tks_lit hl most j)
    rw [btN, pos_succ]
    unfold szN
    omega
/-- how long what is pressed is -/
theorem most_le {l : List Tok} {d : List Int} (hr : ∀ t ∈ l, right t = true) (hl : LitB l) (hs : Lz.sizeOf l = d.length) {most : Nat} (hm : most ≤ 65536) {J : Nat} (hJ : 1 ≤ J) :
    (btN l most J + 7) / 8 ≤ d.length + d.length / 3 + 2 * J + 1 ∧ 2 ≤ (btN l most J + 7) / 8 := by
  obtain ⟨h1, h2⟩ := btP_le hr hl hm J
  have h3 := pos_le l most J
  have h4 := h2 hJ
  omega
/-- there is one number of pieces -/
theorem one_J {T most J K : Nat} (j1 : 1 ≤ J) (j2 : T ≤ J * most) (j3 : J = 1 ∨ (J - 1) * most < T) (k1 : 1 ≤ K) (k2 : T ≤ K * most) (k3 : K = 1 ∨ (K - 1) * most < T) : J = K := by
  rcases Nat.lt_trichotomy J K with h | h | h
  · have h1 : J * most ≤ (K - 1) * most := Nat.mul_le_mul_right _ (by omega)
    omega
  · exact h
  · have h1 : K * most ≤ (J - 1) * most := Nat.mul_le_mul_right _ (by omega)
    omega
set_option maxHeartbeats 8000000 in
theorem may10_any (w : World) (k : Opt) (most : Int) (b : Bool) (hb : b = decide (popErr k most = 0)) : Calls Try.prog 17 #[.agg #[.int .i64 k.window, .int .i64 k.chain, .bool k.isLazy, .int .i64 most]] w fun e w' => e = .returned (.bool b) ∧ Fr w w' [] := by
  obtain ⟨x, y, z⟩ := k
  simp only
  have hb2 : b = decide (1 ≤ x ∧ x ≤ 32768 ∧ 0 ≤ y ∧ y ≤ 4096 ∧ 1 ≤ most ∧ most ≤ 65536) := by
    rw [hb]
    simp only [decide_eq_decide]
    constructor
    · intro h
      obtain ⟨a, b, c⟩ := popErr_zero h
      obtain ⟨a1, a2, a3, a4⟩ := optErr_ok a
      exact ⟨a1, a2, a3, a4, b, c⟩
    · intro h
      unfold popErr optErr
      have e : ¬(x < 1 ∨ 32768 < x ∨ y < 0 ∨ 4096 < y) := by omega
      have e2 : ¬((0 : Int) ≠ 0 ∨ most < 1 ∨ 65536 < most) := by omega
      simp only [e, if_false, e2]
  clear hb
  by_cases h1 : 1 ≤ x
  · by_cases h2 : x ≤ 32768
    · by_cases h3 : 0 ≤ y
      · by_cases h4 : y ≤ 4096
        · by_cases h5 : 1 ≤ most
          · by_cases h6 : most ≤ 65536
            · obtain rfl : b = true := by rw [hb2]; simp; omega
              clear hb2
              go_enter Try.func17, Try.ntmps17
              go_wp2
              go_ret
              exact ⟨rfl, ((Fr.refl w []).alloc _).alloc _⟩
            · obtain rfl : b = false := by rw [hb2]; simp; omega
              clear hb2
              go_enter Try.func17, Try.ntmps17
              go_wp2
              go_ret
              exact ⟨rfl, ((Fr.refl w []).alloc _).alloc _⟩
          · obtain rfl : b = false := by rw [hb2]; simp; omega
            clear hb2
            go_enter Try.func17, Try.ntmps17
            go_wp2
            go_ret
            exact ⟨rfl, ((Fr.refl w []).alloc _).alloc _⟩
        · obtain rfl : b = false := by rw [hb2]; simp; omega
          clear hb2
          go_enter Try.func17, Try.ntmps17
          go_wp2
          go_ret
          exact ⟨rfl, ((Fr.refl w []).alloc _).alloc _⟩
      · obtain rfl : b = false := by rw [hb2]; simp; omega
        clear hb2
        go_enter Try.func17, Try.ntmps17
        go_wp2
        go_ret
        exact ⟨rfl, ((Fr.refl w []).alloc _).alloc _⟩
    · obtain rfl : b = false := by rw [hb2]; simp; omega
      clear hb2
      go_enter Try.func17, Try.ntmps17
      go_wp2
      go_ret
      exact ⟨rfl, ((Fr.refl w []).alloc _).alloc _⟩
  · obtain rfl : b = false := by rw [hb2]; simp; omega
    clear hb2
    go_enter Try.func17, Try.ntmps17
    go_wp2
    go_ret
    exact ⟨rfl, ((Fr.refl w []).alloc _).alloc _⟩
set_option maxHeartbeats 16000000 in
theorem most_walk (A : Option Addr) (n c : Nat) (d : List Int) (q : Option Nat) (k : Opt) (most : Int) (w : World) (hS : SlArg w A n c (u8s d) q) (hw : ∀ x ∈ d, (Lit.int .u8 x).wf = true) (hn : n ≤ 1048576) :
    Calls Try.prog 6 #[.slice A n c, .agg #[.int .i64 k.window, .int .i64 k.chain, .bool k.isLazy, .int .i64 most]] w fun e w' => e = .returned (.bool true) ∧ Below w.heap.size w w' := by
  have HS := Hd.mk hS
  have hl : d.length = n := by have := hS.len; simpa [u8s] using this
  have HBY : Hd (Bytes d) := ⟨fun x hx => bounds_u8 (hw x hx)⟩
  obtain ⟨er, her⟩ : ∃ er, er = popErr k most := ⟨_, rfl⟩
  have h2 : er = 0 ∨ er = 100 := her ▸ popErr_two k most
  have HE := Hd.mk her
  clear hS hw her
  go_enter Try.func6, Try.ntmps6
  have F0 := Hd.mk ((Fr.refl w []).alloc (.cells #[.int .i64 k.window, .int .i64 k.chain, .bool k.isLazy, .int .i64 most] 28))
  go_wp2_with (fail)
  refine (press_any _ A n c d q k most er HE.out (HS.out.frame F0.out (by simp)) HBY.out hn).mono ?_
  rintro e w1 ⟨v, rfl, hP⟩
  have BX := Hd.mk (hP.2.2.blk (blk_new w (.cells #[.int .i64 k.window, .int .i64 k.chain, .bool k.isLazy, .int .i64 most] 28)) (by simp))
  have F1 := Hd.mk (F0.out.trans hP.2.2 (by simp))
  have HP := Hd.mk hP
  have b0 := blk_cell BX.out 0
  have b1 := blk_cell BX.out 1
  have b2 := blk_cell BX.out 2
  have b3 := blk_cell BX.out 3
  simp only [List.getElem?_toArray, List.getElem?_cons_zero, List.getElem?_cons_succ] at b0 b1 b2 b3
  clear hP
  go_wp2_with (fail)
  refine (callsIn_wide.1 (parts_any w1 A n c d q k most er HE.out (HS.out.frame F1.out (by simp)) HBY.out hn)).mono ?_
  rintro e w2 ⟨u, rfl, hP⟩
  have BX2 := Hd.mk (hP.2.2.blk BX.out (by simp))
  have F2 := Hd.mk (F1.out.trans hP.2.2 (by simp))
  have HQ := Hd.mk hP
  clear hP b0 b1 b2 b3 BX
  go_wp2_with (fail)
  refine (awake_any w2).mono ?_
  rintro e w3 ⟨rfl, h3⟩
  have BX3 := Hd.mk (h3.blk BX2.out (by simp))
  have F3 := Hd.mk (F2.out.trans h3 (by simp))
  have b0 := blk_cell BX3.out 0
  have b1 := blk_cell BX3.out 1
  have b2 := blk_cell BX3.out 2
  have b3 := blk_cell BX3.out 3
  simp only [List.getElem?_toArray, List.getElem?_cons_zero, List.getElem?_cons_succ] at b0 b1 b2 b3
  clear h3 BX2
  rcases h2 with rfl | rfl
  · obtain ⟨J, j1, j2, j3, o1, a1⟩ := HP.out.2.1 rfl
    obtain ⟨K, k1, k2, k3, o2⟩ := HQ.out.2.1 rfl
    obtain rfl := one_J j1 j2 j3 k1 k2 k3
    obtain ⟨hk0, hm1, hm2⟩ := popErr_zero HE.out.symm
    obtain ⟨p1, p2, p3, p4⟩ := parse_law (d := d) hk0
    obtain ⟨g1, g2⟩ := parse_right hk0 HBY.out
    obtain ⟨x1, x2⟩ := most_le g1 g2 p3 (most := most.toNat) (by omega) j1
    obtain ⟨L, hL⟩ : ∃ L, L = (btN (parse d k) most.toNat J + 7) / 8 := ⟨_, rfl⟩
    rw [← hL] at x1 x2 o1
    rw [hl] at x1
    obtain ⟨A1, d1, rfl, -⟩ := own_slice o1
    obtain ⟨A2, d2, rfl, -⟩ := own_slice o2
    have hJb : J ≤ 1048577 := by
      rcases j3 with h | h
      · omega
      · have : (J - 1) * 1 ≤ (J - 1) * most.toNat := Nat.mul_le_mul_left _ (by omega)
        omega
    clear j2 j3 k1 k2 k3 o1 o2 a1 p1 p2 p3 p4 g1 g2 hL HP HQ hk0
    go_wp2_with (fail)
    refine (may10_any w3 k most true (by rw [← HE.out]; rfl)).mono ?_
    rintro e w4 ⟨rfl, h4⟩
    have F4 := Hd.mk (F3.out.trans h4 (by simp))
    clear h4 b0 b1 b2 b3 BX3
    have q1 : ((n : Int)).tdiv 3 = ((n / 3 : Nat) : Int) := by rw [Int.tdiv_eq_ediv_of_nonneg (by omega)]; omega
    go_wp2
    go_ret
    refine ⟨?_, F4.out.below⟩
    show Ending.returned (.bool (decide ((2 : Int) ≤ (L : Nat)))) = _
    rw [decide_eq_true (by omega)]
  · go_wp2_with (fail)
    refine (may10_any w3 k most false (by rw [← HE.out]; rfl)).mono ?_
    rintro e w4 ⟨rfl, h4⟩
    have F4 := Hd.mk (F3.out.trans h4 (by simp))
    clear h4 b0 b1 b2 b3 BX3
    go_wp2_with (fail)
    refine (awake_any w4).mono ?_
    rintro e w5 ⟨rfl, h5⟩
    have F5 := Hd.mk (F4.out.trans h5 (by simp))
    clear h5
    go_wp2
    go_ret
    exact ⟨rfl, F5.out.below⟩
end Go.Proofs.Ytkdgfioigkijgaa.Prs
