/- Texts of this claim, one behind the other: PrsC, PrsK, CopyN. -/
import Derived.Test.YtkdgfioigkijgaaT01
import Derived.Test.YtkdgfioigkijgaaT02
import Derived.Test.YtkdgfioigkijgaaT03
import Derived.Test.YtkdgfioigkijgaaT04
import Derived.Test.YtkdgfioigkijgaaT05
import Derived.Test.YtkdgfioigkijgaaT06
import Derived.Test.YtkdgfioigkijgaaT07
import Derived.Test.YtkdgfioigkijgaaT08
import Derived.Test.YtkdgfioigkijgaaT09
import Derived.Test.YtkdgfioigkijgaaT10
import Derived.Test.YtkdgfioigkijgaaT11
import Derived.Test.YtkdgfioigkijgaaT12
import Derived.Test.YtkdgfioigkijgaaT13
import Derived.Test.YtkdgfioigkijgaaT14
import Derived.Test.YtkdgfioigkijgaaT15
import Derived.BigRegion
import Derived.BigQuiet
import Derived.Deep.QuietTactic
import Derived.Deep.LoopGhost
import Derived.Deep.DeepCutAuto
import Derived.KernelRfl
import Derived.Deep.RegionLaw
import Derived.Outline
import Derived.Laws.CopyOwn
/- Chapter 10: press.Options, press.check, press.Press. Condition: at most 2^20 bytes. -/
set_option linter.unusedVariables false
set_option linter.unusedSimpArgs false
set_option maxRecDepth 100000
namespace Go.Proofs.Ytkdgfioigkijgaa.Prs
open Go.RowKit Go.Proofs.Ytkdgfioigkijgaa.Lib Go.Proofs.Ytkdgfioigkijgaa.Ints Go.Proofs.Ytkdgfioigkijgaa.Lz Go.Proofs.Ytkdgfioigkijgaa.Num Go.Proofs.Ytkdgfioigkijgaa.Bits Go.Proofs.Ytkdgfioigkijgaa.Blk
theorem parseF_right {d : List Int} {k : Opt} (hk : optErr k = 0) (hb : Bytes d) : ∀ f p, (∀ t ∈ parseF d k f p, right t = true) ∧ LitB (parseF d k f p)
  | 0, _ => ⟨fun t h => by simp [parseF] at h, fun t h => by simp [parseF] at h⟩
  | f + 1, p => by
    unfold parseF
    by_cases hp : p < d.length
    · rw [if_pos hp]
      obtain ⟨i1, i2⟩ := parseF_right hk hb f (p + stepAt d k p)
      have h1 := (tok_right hk hp).1
      have h2 := at0_byte hb hp
      refine ⟨fun t ht => ?_, fun t ht => ?_⟩
      · rcases List.mem_cons.1 ht with rfl | ht
        · exact h1
        · exact i1 t ht
      · rcases List.mem_cons.1 ht with rfl | ht
        · unfold tokAt
          split
          · exact h2
          · exact ⟨Int.le_refl 0, (by decide : (0 : Int) ≤ 255)⟩
        · exact i2 t ht
    · rw [if_neg hp]
      exact ⟨fun t h => absurd h List.not_mem_nil, fun t h => absurd h List.not_mem_nil⟩
theorem parse_right {d : List Int} {k : Opt} (hk : optErr k = 0) (hb : Bytes d) : (∀ t ∈ parse d k, right t = true) ∧ LitB (parse d k) := by
  unfold parse
  rw [if_pos hk]
  exact parseF_right hk hb _ _
theorem own_tok {w : World} {A : Option Addr} {n c : Nat} {l : List Tok} (h : w.ownsRow 0 48 3 (.slice A n c) n (tcells l)) : n = l.length ∧ Sl w A (tcells l) (Value.slice A n c).ownBlock ∧ l.length ≤ c ∧ c ≤ maxLen ∧ (A = none → l.length = 0 ∧ c = 0) ∧ ∀ y, (Value.slice A n c).ownBlock = some y → y < w.heap.size := by
  have h0 : n = l.length := by
    have h1 := h.1
    have h2 := flat_len tcell 3 (fun _ => rfl) l
    unfold tcells at h1
    omega
  subst h0
  refine ⟨rfl, ?_, ?_, ?_, fun hA => own_none h hA, fun y hy => by obtain ⟨cs, hc⟩ := own_type h hy; exact blk_lt hc⟩
  · intro hx
    rcases h.2 with ⟨h', h''⟩ | ⟨g, cap, cur, h', hb, hh, hnc, hcm, hcs, ht⟩
    · have := h.1
      omega
    · injection h' with h1 _ _
      subst h1
      refine ⟨g, 0, rfl, rfl, fun j hj => ?_⟩
      rw [Nat.zero_add, blk_cell hh, ← ht, List.getElem?_take, if_pos (by have := h.1; omega)]
      simp
  · obtain ⟨A2, c2, e, h1, h2, _⟩ := own_slice h
    injection e with _ _ e
    omega
  · obtain ⟨A2, c2, e, h1, h2, _⟩ := own_slice h
    injection e with _ _ e
    omega
/-- what the options are -/
def popErr (k : Opt) (most : Int) : Int := if optErr k ≠ 0 ∨ most < 1 ∨ 65536 < most then 100 else 0
theorem popErr_zero {k : Opt} {most : Int} (h : popErr k most = 0) : optErr k = 0 ∧ 1 ≤ most ∧ most ≤ 65536 := by
  unfold popErr at h
  split at h
  · cases h
  · omega
set_option maxHeartbeats 4000000 in
theorem popt_any (w : World) (k : Opt) (most er : Int) (he : er = popErr k most) : Calls Try.prog 11 #[.agg #[.int .i64 k.window, .int .i64 k.chain, .bool k.isLazy, .int .i64 most]] w fun e w' => e = .returned (.int .i64 er) ∧ Fr w w' [] := by
  obtain ⟨e1, he1⟩ : ∃ e, e = optErr k := ⟨_, rfl⟩
  have HE := Hd.mk he1
  have h2 : e1 = 0 ∨ e1 = 72 := he1 ▸ optErr_two k
  have HR : Hd (er = if e1 ≠ 0 ∨ most < 1 ∨ 65536 < most then 100 else 0) := ⟨by rw [he, he1]; rfl⟩
  clear he he1
  go_enter Try.func11, Try.ntmps11
  go_wp2_with (fail)
  refine (opt_any _ k e1 HE.out).mono ?_
  rintro e w1 ⟨rfl, h1⟩
  have hbk := h1.blk (blk_new w (.cells #[.int .i64 k.window, .int .i64 k.chain, .bool k.isLazy, .int .i64 most] 28)) (by simp)
  have F1 := Hd.mk (((Fr.refl w []).alloc (.cells #[.int .i64 k.window, .int .i64 k.chain, .bool k.isLazy, .int .i64 most] 28)).trans h1 (by simp))
  have b3 := blk_cell hbk 3
  simp only [List.getElem?_toArray, List.getElem?_cons_zero, List.getElem?_cons_succ] at b3
  clear h1 hbk
  rcases h2 with rfl | rfl
  · by_cases h3 : most < 1
    · obtain rfl : er = 100 := by rw [HR.out, if_pos (.inr (.inl h3))]
      go_wp2
      go_ret
      exact ⟨rfl, F1.out⟩
    · by_cases h4 : 65536 < most
      · obtain rfl : er = 100 := by rw [HR.out, if_pos (.inr (.inr h4))]
        go_wp2
        go_ret
        exact ⟨rfl, F1.out⟩
      · obtain rfl : er = 0 := by rw [HR.out, if_neg (by omega)]
        go_wp2
        go_ret
        exact ⟨rfl, F1.out⟩
  · obtain rfl : er = 100 := by rw [HR.out, if_pos (.inl (by decide))]
    go_wp2
    go_ret
    exact ⟨rfl, F1.out⟩
theorem popErr_two (k : Opt) (most : Int) : popErr k most = 0 ∨ popErr k most = 100 := by unfold popErr; split; exact .inr rfl; exact .inl rfl
set_option maxHeartbeats 4000000 in
theorem check_any (w : World) (A : Option Addr) (n c : Nat) (hn : n ≤ 268435456) (k : Opt) (most er : Int) (he : er = popErr k most) : Calls Try.prog 23 #[.slice A n c, .agg #[.int .i64 k.window, .int .i64 k.chain, .bool k.isLazy, .int .i64 most]] w fun e w' => e = .returned (.int .i64 er) ∧ Fr w w' [] := by
  go_enter Try.func23, Try.ntmps23
  have F0 := Hd.mk ((Fr.refl w []).alloc (.cells #[.int .i64 k.window, .int .i64 k.chain, .bool k.isLazy, .int .i64 most] 28))
  go_wp2_with (fail)
  refine (popt_any _ k most er he).mono ?_
  rintro e w1 ⟨rfl, h1⟩
  have F1 := Hd.mk (F0.out.trans h1 (by simp))
  clear h1 F0 he
  go_wp2
  go_ret
  exact ⟨rfl, F1.out⟩
/-- what Press answers -/
def PrPost (w w' : World) (d : List Int) (l : List Tok) (most : Nat) (er : Int) (v : Value) : Prop :=
  (er ≠ 0 → v = .slice none 0 0) ∧ (er = 0 → ∃ J, 1 ≤ J ∧ l.length ≤ J * most ∧ (J = 1 ∨ (J - 1) * most < l.length) ∧ w'.ownsRow 0 5 1 v ((btN l most J + 7) / 8) (u8s (bytesOf (numOf (PBx l d most (List.range J))) (btN l most J))) ∧ Aft w none v.ownBlock) ∧ Fr w w' []
set_option maxHeartbeats 4000000 in
theorem press_any (w : World) (A : Option Addr) (n c : Nat) (d : List Int) (q : Option Nat) (k : Opt) (most er : Int) (he : er = popErr k most) (hS : SlArg w A n c (u8s d) q) (hby : Bytes d) (hn : n ≤ 1048576) :
    Calls Try.prog 15 #[.slice A n c, .agg #[.int .i64 k.window, .int .i64 k.chain, .bool k.isLazy, .int .i64 most]] w fun e w' => ∃ v, e = .returned (.tuple #[v, .int .i64 er]) ∧ PrPost w w' d (parse d k) most.toNat er v := by
  have HS := Hd.mk hS
  have hl : d.length = n := by have := hS.len; simpa [u8s] using this
  have HBY := Hd.mk hby
  have h2 : er = 0 ∨ er = 100 := he ▸ popErr_two k most
  have HE := Hd.mk he
  clear he hS hby
  go_enter Try.func15, Try.ntmps15
  have F0 := Hd.mk ((Fr.refl w []).alloc (.cells #[.int .i64 k.window, .int .i64 k.chain, .bool k.isLazy, .int .i64 most] 28))
  go_wp2_with (fail)
  refine (check_any _ A n c (by omega) k most er HE.out).mono ?_
  rintro e w1 ⟨rfl, h1⟩
  have F1 := Hd.mk (F0.out.trans h1 (by simp))
  have hbk := Hd.mk (h1.blk (blk_new w (.cells #[.int .i64 k.window, .int .i64 k.chain, .bool k.isLazy, .int .i64 most] 28)) (by simp))
  clear h1 F0
  rcases h2 with rfl | rfl
  · obtain ⟨hk0, hm1, hm2⟩ := popErr_zero HE.out.symm
    have HK0 := Hd.mk hk0
    have b0 := blk_cell hbk.out 0
    have b1 := blk_cell hbk.out 1
    have b2 := blk_cell hbk.out 2
    have b3 := blk_cell hbk.out 3
    simp only [List.getElem?_toArray, List.getElem?_cons_zero, List.getElem?_cons_succ] at b0 b1 b2 b3
    clear hk0
    go_wp2_with (fail)
    have hS1 := HS.out.frame F1.out (by simp)
    refine (parse_any w1 A n c d q k hS1 HBY.out hn (optErr k) (parse d k) rfl rfl).mono ?_
    rintro e w2 ⟨A', m, dd, rfl, o2, n2, h2⟩
    have F2 := Hd.mk (F1.out.trans h2 (by simp))
    have hbk2 := Hd.mk (h2.blk hbk.out (by simp))
    have b3' := blk_cell hbk2.out 3
    simp only [List.getElem?_toArray, List.getElem?_cons_zero, List.getElem?_cons_succ] at b3'
    have O2 := Hd.mk o2
    have N2 := Hd.mk n2
    clear o2 n2 h2 b0 b1 b2 b3 hS1
    obtain ⟨M, rfl⟩ := Int.eq_ofNat_of_zero_le (show 0 ≤ most by omega)
    obtain ⟨p1, p2, p3, p4⟩ := parse_law (d := d) HK0.out
    obtain ⟨g1, g2⟩ := parse_right HK0.out HBY.out
    have hS2 := HS.out.frame F2.out (by simp)
    subst hl
    go_wp2_with (fail)
    obtain ⟨t1, t2, t3, t4, t5, t6⟩ := own_tok O2.out
    subst t1
    have hd2 := hS2.le
    have hA2 : A = none → d.length = 0 ∧ c = 0 := fun h => hS2.nil h
    have hp2 : ∀ b, b ∈ (Value.slice A' (parse d k).length dd).ownBlock.toList ++ q.toList → b < w2.heap.size := fun b hb => by
      rcases List.mem_append.1 hb with h | h
      · exact t6 b (by simpa using h)
      · exact hS2.lt b (by simpa using h)
    have hsl2 := hS2.sl
    have hmx2 := hS2.max
    have b1 : 1 ≤ M := by omega
    have b2 : M ≤ 65536 := by omega
    have b3 : (parse d k).length ≤ 134217728 := by omega
    have b4 : d.length ≤ 268435456 := by omega
    have CW := written_any w2 dd c M A' A (parse d k) d (Value.slice A' (parse d k).length dd).ownBlock q t2 t3 t4 t5 hsl2 hd2 hmx2 hA2 hp2 HBY.out g1 g2 p3 b1 b2 b3 b4
    refine (callsIn_wide.1 CW).mono ?_
    rintro e w3 ⟨J, v, j1, j2, j3, rfl, o3, a3, h3⟩
    have HP3 : Hd (PrPost w w3 d (parse d k) ((M : Int).toNat) 0 v) := ⟨⟨fun h => absurd rfl h, fun _ => ⟨J, j1, by rw [Int.toNat_natCast]; exact j2, by rw [Int.toNat_natCast]; exact j3, o3, (Aft.refl w none).trans a3 F2.out.size⟩, F2.out.trans h3 (by simp)⟩⟩
    clear o3 a3 h3 t2 t3 t4 t5 t6 g1 g2 p1 p2 p3 p4 b3' j2 j3
    go_wp2
    (try simp only [Exit.inBlock, Exit.then])
    refine bodyPost_ret (results_tmp2 rfl _ _ _) rfl ?_
    exact ⟨v, rfl, HP3.out⟩
  · go_wp2
    (try simp only [Exit.inBlock, Exit.then])
    refine bodyPost_ret (results_tmp2 rfl _ _ _) rfl ?_
    exact ⟨_, rfl, fun _ => rfl, fun h => absurd h (by decide), F1.out⟩
end Go.Proofs.Ytkdgfioigkijgaa.Prs
/- Chapter 10: press.Prices walked. Condition: at most 6000000000000 tokens. -/
set_option linter.unusedVariables false
set_option linter.unusedSimpArgs false
set_option maxRecDepth 100000
namespace Go.Proofs.Ytkdgfioigkijgaa.Prs
open Go.RowKit Go.Proofs.Ytkdgfioigkijgaa.Lib Go.Proofs.Ytkdgfioigkijgaa.Ints Go.Proofs.Ytkdgfioigkijgaa.Lz Go.Proofs.Ytkdgfioigkijgaa.Num Go.Proofs.Ytkdgfioigkijgaa.Bits Go.Proofs.Ytkdgfioigkijgaa.Blk
def mcell (s c : Int) : Array Value := #[.int .i64 s, .int .i64 c]
set_option maxHeartbeats 4000000 in
theorem mean_add (w : World) (g : Nat) (s c n : Int) (hs : 0 ≤ s ∧ s ≤ 4503599627370496) (hc : 0 ≤ c ∧ c ≤ 4503599627370496) (hn : 0 ≤ n ∧ n ≤ 1000) (hb : w.heap[g]? = some (.cells (mcell s c) 78 (0, 0))) :
    Calls Try.prog 31 #[.pointer (some ⟨g, 0, none⟩), .int .i64 n] w fun e w' => e = .returned (.tuple #[]) ∧ w'.heap[g]? = some (.cells (mcell (s + n) (c + 1)) 78 (0, 0)) ∧ Fr w w' [g] := by
  have k0 := blk_cell hb 0
  have k1 := blk_cell hb 1
  simp only [mcell, List.getElem?_toArray, List.getElem?_cons_zero, List.getElem?_cons_succ] at k0 k1
  have f0 := blk_frozen hb 0
  have f1 := blk_frozen hb 1
  have b1 := blk_set hb 0 (.int .i64 (s + n))
  have b2 := blk_set b1 1 (.int .i64 (c + 1))
  have b3 := blk_set hb 1 (.int .i64 (c + 1))
  have b4 := blk_set b3 0 (.int .i64 (s + n))
  have g1 := blk_frozen b1 1
  have g3 := blk_frozen b3 0
  have c1 := blk_cell b1 1
  have c3 := blk_cell b3 0
  have HX : Hd (((w.setCell ⟨g, 0, none⟩ (.int .i64 (s + n))).setCell ⟨g, 1, none⟩ (.int .i64 (c + 1))).heap[g]? = some (.cells (mcell (s + n) (c + 1)) 78 (0, 0))) := ⟨b2⟩
  have HY : Hd (((w.setCell ⟨g, 1, none⟩ (.int .i64 (c + 1))).setCell ⟨g, 0, none⟩ (.int .i64 (s + n))).heap[g]? = some (.cells (mcell (s + n) (c + 1)) 78 (0, 0))) := ⟨b4⟩
  have FX : Hd (Fr w ((w.setCell ⟨g, 0, none⟩ (.int .i64 (s + n))).setCell ⟨g, 1, none⟩ (.int .i64 (c + 1))) [g]) := ⟨((Fr.refl w [g]).setCell _ (.inl (by simp))).setCell _ (.inl (by simp))⟩
  have FY : Hd (Fr w ((w.setCell ⟨g, 1, none⟩ (.int .i64 (c + 1))).setCell ⟨g, 0, none⟩ (.int .i64 (s + n))) [g]) := ⟨((Fr.refl w [g]).setCell _ (.inl (by simp))).setCell _ (.inl (by simp))⟩
  simp only [mcell, List.getElem?_toArray, List.getElem?_cons_zero, List.getElem?_cons_succ] at c1 c3
  clear hb b1 b2 b3 b4
  go_enter Try.func31, Try.ntmps31
  go_upto_region 0 with (fail)
  go_region
  all_goals
    go_wp2
    go_end0
    first
    | exact ⟨rfl, HX.out, FX.out.drew⟩
    | exact ⟨rfl, HY.out, FY.out.drew⟩
set_option maxHeartbeats 4000000 in
theorem mean_or (w : World) (g : Nat) (s c d r : Int) (hs : 0 ≤ s ∧ s ≤ 4503599627370496) (hc : 0 ≤ c ∧ c ≤ 4503599627370496) (hb : w.heap[g]? = some (.cells (mcell s c) 78 (0, 0))) (hr : r = meanN s c d) :
    Calls Try.prog 34 #[.pointer (some ⟨g, 0, none⟩), .int .i64 d] w fun e w' => e = .returned (.int .i64 r) ∧ Fr w w' [] := by
  have k0 := blk_cell hb 0
  have k1 := blk_cell hb 1
  simp only [mcell, List.getElem?_toArray, List.getElem?_cons_zero, List.getElem?_cons_succ] at k0 k1
  have HR := Hd.mk hr
  clear hb hr
  go_enter Try.func34, Try.ntmps34
  by_cases h : c = 0
  · subst h
    have hr : Hd (r = d) := ⟨by rw [HR.out]; rfl⟩
    obtain rfl := hr.out
    go_wp2
    go_ret
    exact ⟨rfl, Fr.refl _ _⟩
  · have hr : Hd (r = (s + c - 1).tdiv c) := ⟨by rw [HR.out]; unfold meanN; rw [if_neg h]⟩
    have hcb : (c == 0) = false := by simpa using h
    have hq : 0 ≤ (s + c - 1).tdiv c ∧ (s + c - 1).tdiv c ≤ s + c - 1 := by
      rw [Int.tdiv_eq_ediv_of_nonneg (by omega)]
      exact ⟨Int.ediv_nonneg (by omega) (by omega), Int.ediv_le_self _ (by omega)⟩
    obtain ⟨y, hy⟩ : ∃ y, y = (s + c - 1).tdiv c := ⟨_, rfl⟩
    rw [← hy] at hq hr
    have hyq : (s + c - 1).tdiv c = y := hy.symm
    clear hy
    go_upto_region 3 with (fail)
    go_region
    go_wp2
    go_ret
    rw [hr.out]
    exact ⟨rfl, (Fr.refl _ _).drew⟩
theorem results_pr {fn : Func} {p r : Tmp} {ty : TypeId} (h : fn.results = #[.cell p ty, .tmp r]) (tmps : Array Value) (w : World) (g : Nat) (v : Value)
    (hp : tmps.getD p undef = .pointer (some ⟨g, 0, none⟩)) (hl : (loadVar ty ⟨g, 0, none⟩).run Try.prog w = .ok v w) :
    (results fn tmps).run Try.prog w = .ok (.tuple #[v, tmps.getD r undef]) w := by
  have hp' : tmps[p]?.getD undef = .pointer (some ⟨g, 0, none⟩) := by simpa using hp
  simp [results, h, hp', asAddr, hl]
def pcell (a b c : Int) : Array Value := #[.int .i64 a, .int .i64 b, .int .i64 c]
theorem infoPrice (a b c : Int) : (Try.prog.info? 54).map (·.size) = some (pcell a b c).size := by kernel_rfl
theorem infoTokK : (Try.prog.info? 48).map (fun i => (i.zero, i.size, i.bytes)) = some (some (.agg #[.int .u8 0, .int .i64 0, .int .i64 0]), 3, 24) := by kernel_rfl
set_option maxHeartbeats 16000000 in
theorem prices_any (w : World) (A : Option Addr) (n c : Nat) (l : List Tok) (p : Option Nat) (hn : l.length = n) (hnc : n ≤ c) (hA : A = none → c = 0) (hS : Sl w A (tcells l) p) (hb : n ≤ 6000000000000) (hl : LitB l) (P : Int × Int × Int) (er : Int) (hP : pricesN l = (P, er)) :
    Calls Try.prog 19 #[.slice A n c] w fun e w' => e = .returned (.tuple #[.agg (pcell P.1 P.2.1 P.2.2), .int .i64 er]) ∧ Fr w w' [] := by
  obtain ⟨i1, hi1, jz0, jz1, jz2⟩ := info_parts infoTokK
  obtain ⟨m, hm⟩ : ∃ m, m = min n 65536 := ⟨_, rfl⟩
  obtain ⟨T, hT⟩ : ∃ T, T = l.take 65536 := ⟨_, rfl⟩
  have hTm : T = l.take m := by
    rw [hT, hm]
    rcases Nat.le_total n 65536 with h | h
    · rw [Nat.min_eq_left h, List.take_of_length_le (by omega), List.take_of_length_le (by omega)]
    · rw [Nat.min_eq_right h]
  have hTl : T.length = m := by rw [hTm, List.length_take]; omega
  have ST : Hd (Sl w A (tcells T) p) := ⟨by
    rw [hTm]
    have := hS.take (3 * m)
    have e : tcells (l.take m) = (tcells l).take (3 * m) := by
      have h2 : tcells l = tcells (l.take m) ++ tcells (l.drop m) := by rw [← tcells_app, List.take_append_drop]
      have h3 : (tcells (l.take m)).length = 3 * m := by rw [tcells_len, List.length_take]; omega
      rw [h2, ← h3, List.take_left]
    rwa [e]⟩
  have HL : Hd (LitB T) := ⟨fun t ht => hl t (by rw [hTm] at ht; exact List.mem_of_mem_take ht)⟩
  obtain ⟨ez, hez⟩ : ∃ e, e = mayB T := ⟨_, rfl⟩
  have HE := Hd.mk hez
  have HPP : Hd (if ez = 0 then P = (priceL T, priceM T, 1) ∧ er = 0 else P = (0, 0, 0) ∧ er = ez) := ⟨by
    unfold pricesN at hP
    rw [← hT, ← hez] at hP
    split at hP
    · rename_i h
      rw [if_pos h]
      injection hP with h1 h2
      exact ⟨h1.symm, h2.symm⟩
    · rename_i h
      rw [if_neg h]
      injection hP with h1 h2
      exact ⟨h1.symm, h2.symm⟩⟩
  have hmin : (if (65536 : Int) < (n : Int) then (65536 : Int) else (n : Int)) = (m : Int) := by
    rw [hm]
    split <;> omega
  have hq1 := Lens.run_cut_to (P := Try.prog) 45 48 .i64 Try.underlying45 hi1 3 jz1 A n c m hA (by omega)
  have hm2 : m ≤ 65536 := by omega
  clear hP hT hTm hS hl hez hA hm
  go_enter Try.func19, Try.ntmps19
  have F0 := Hd.mk ((Fr.refl w []).alloc (.cells (pcell 0 0 0) 54))
  have B0 := Hd.mk (blk_new w (.cells (pcell 0 0 0) 54))
  have NG : Hd (w.heap.size ≤ w.heap.size) := ⟨Nat.le_refl _⟩
  go_upto_region 1 with (fail)
  obtain ⟨w0, hw0⟩ : ∃ w0, w0 = w.alloc (.cells #[.int .i64 0, .int .i64 0, .int .i64 0] 54) := ⟨_, rfl⟩
  obtain ⟨gp, hgp⟩ : ∃ g, g = w.heap.size := ⟨_, rfl⟩
  have F0 : Hd (Fr w w0 []) := ⟨by rw [hw0]; exact F0.out⟩
  have B0 : Hd (w0.heap[gp]? = some (.cells (pcell 0 0 0) 54 (0, 0))) := ⟨by rw [hw0, hgp]; exact B0.out⟩
  have NG : Hd (w.heap.size ≤ gp) := ⟨by omega⟩
  rw [← hw0, ← hgp]
  clear hw0 hgp
  go_upto_region 2 with (fail)
  try rw [hmin]
  clear hmin
  go_wp2_with (fail)
  refine (ownLens_any w0 A m c T p hTl (ST.out.frame F0.out (by simp)) (by omega) HL.out).mono ?_
  rintro e w1 hO
  have HO := Hd.mk hO
  clear hO hq1
  by_cases h0 : ez = 0
  · subst h0
    obtain ⟨A1, c1, B1, d1, rfl, o1, o2, o3, o4, h1⟩ := HO.out.1 HE.out.symm
    have O1 := Hd.mk o1
    have O2 := Hd.mk o2
    have F1 := Hd.mk (F0.out.trans h1 (by simp))
    have P1 := Hd.mk (h1.blk B0.out (by simp))
    have hPP := HPP.out
    rw [if_pos rfl] at hPP
    obtain ⟨hP1, rfl⟩ := hPP
    have HP1 := Hd.mk hP1
    have HR := Hd.mk (mayB_zero HE.out.symm).2
    have L1 := Hd.mk (check15 (ownLit_check T))
    have L2 := Hd.mk (check15 (ownDist_check T))
    have SL1 := Hd.mk (sl_of_own o1)
    have SL2 := Hd.mk (sl_of_own o2)
    have N1 : Hd (w.heap.size ≤ w1.heap.size) := ⟨F1.out.size⟩
    have e1 := ownLit_len T
    have e2 := ownDist_len T
    obtain ⟨bx, ox, hx1, _, _⟩ := SL1.out (by rw [i64s_length]; omega)
    obtain ⟨by_, oy, hy1, _, _⟩ := SL2.out (by rw [i64s_length]; omega)
    subst hx1 hy1
    clear o1 o2 o3 o4 h1 hP1 HPP HO B0 F0
    obtain ⟨lt, hlt⟩ : ∃ x, x = ownLit T := ⟨_, rfl⟩
    obtain ⟨ds, hds⟩ : ∃ x, x = ownDist T := ⟨_, rfl⟩
    have HPR : Hd (P = (meanN (sumF (fA lt) T) (sumF fN T) 8, meanN (sumF (fB lt ds) T) (sumF fM T) 20, 1)) := ⟨by rw [HP1.out, hlt, hds]; rfl⟩
    rw [← hlt] at SL1 O1 L1 e1
    rw [← hds] at SL2 O2 L2 e2
    clear hlt hds HP1
    go_upto_region 6 with (fail)
    have XB : Hd (((w1.alloc (.cells #[.int .i64 0, .int .i64 0] 78)).alloc (.cells #[.int .i64 0, .int .i64 0] 78)).heap[w1.heap.size]? = some (.cells (mcell 0 0) 78 (0, 0))) := ⟨blk_alloc (blk_new w1 _) _⟩
    have XM : Hd (((w1.alloc (.cells #[.int .i64 0, .int .i64 0] 78)).alloc (.cells #[.int .i64 0, .int .i64 0] 78)).heap[w1.heap.size + 1]? = some (.cells (mcell 0 0) 78 (0, 0))) := ⟨by have := blk_new (w1.alloc (.cells #[.int .i64 0, .int .i64 0] 78)) (.cells #[.int .i64 0, .int .i64 0] 78); rw [World.size_alloc] at this; exact this⟩
    have F2 := Hd.mk (((Fr.refl w1 []).alloc (.cells #[.int .i64 0, .int .i64 0] 78)).alloc (.cells #[.int .i64 0, .int .i64 0] 78))
    obtain ⟨gb, hgb⟩ : ∃ g, g = w1.heap.size := ⟨_, rfl⟩
    rw [← hgb] at XB XM ⊢
    have hgw : w1.heap.size ≤ gb := by omega
    clear hgb
    generalize (w1.alloc (.cells #[.int .i64 0, .int .i64 0] 78)).alloc (.cells #[.int .i64 0, .int .i64 0] 78) = w2 at *
    have XB3 : Hd (w2.heap[gb]? = some (.cells (mcell (sumF (fA lt) (T.take 0)) (sumF fN (T.take 0))) 78 (0, 0))) := ⟨XB.out⟩
    have XM3 : Hd (w2.heap[gb + 1]? = some (.cells (mcell (sumF (fB lt ds) (T.take 0)) (sumF fM (T.take 0))) 78 (0, 0))) := ⟨XM.out⟩
    clear XB XM
    go_wp2
    go_loopg [36] m (fun kq jv wr => ∃ j : Nat, jv = .int .i64 (j : Nat) ∧ j + kq = m ∧ Hd (wr.heap[gb]? = some (.cells (mcell (sumF (fA lt) (T.take j)) (sumF fN (T.take j))) 78 (0, 0))) ∧ Hd (wr.heap[gb + 1]? = some (.cells (mcell (sumF (fB lt ds) (T.take j)) (sumF fM (T.take j))) 78 (0, 0))) ∧ Hd (Fr w1 wr []))
    case atStart => exact ⟨0, rfl, by omega, XB3, XM3, F2⟩
    case round =>
      clear XB3 XM3 F2
      obtain ⟨j, rfl, hj, HX, HY, HF⟩ := hrel
      have hmt : ∀ t ∈ T.take j, t ∈ T := fun t ht => List.mem_of_mem_take ht
      have hlen : ((T.take j).length : Int) ≤ 65536 := by rw [List.length_take]; omega
      have y1 := sumF_le (f := fA lt) (K := 15) (l := T.take j) (fun t ht => fA_le L1.out t)
      have y2 := sumF_le (f := fN) (K := 1) (l := T.take j) (fun t ht => fN_le t)
      have y3 := sumF_le (f := fB lt ds) (K := 35) (l := T.take j) (fun t ht => fB_le L1.out L2.out (HR.out t (hmt t ht)) (HL.out t (hmt t ht)))
      have y4 := sumF_le (f := fM) (K := 1) (l := T.take j) (fun t ht => fM_le t)
      have z1 : sumF (fA lt) (T.take j) ≤ 15 * 65536 := Int.le_trans y1.2 (by omega)
      have z2 : sumF fN (T.take j) ≤ 1 * 65536 := Int.le_trans y2.2 (by omega)
      have z3 : sumF (fB lt ds) (T.take j) ≤ 35 * 65536 := Int.le_trans y3.2 (by omega)
      have z4 : sumF fM (T.take j) ≤ 1 * 65536 := Int.le_trans y4.2 (by omega)
      replace y1 := y1.1
      replace y2 := y2.1
      replace y3 := y3.1
      replace y4 := y4.1
      clear hmt hlen
      by_cases h1 : j < m
      · have hjt : j < T.length := by omega
        have s1 : Hd (sumF (fA lt) (T.take (j + 1)) = sumF (fA lt) (T.take j) + fA lt T[j]) := ⟨sumF_take _ hjt⟩
        have s2 : Hd (sumF fN (T.take (j + 1)) = sumF fN (T.take j) + fN T[j]) := ⟨sumF_take _ hjt⟩
        have s3 : Hd (sumF (fB lt ds) (T.take (j + 1)) = sumF (fB lt ds) (T.take j) + fB lt ds T[j]) := ⟨sumF_take _ hjt⟩
        have s4 : Hd (sumF fM (T.take (j + 1)) = sumF fM (T.take j) + fM T[j]) := ⟨sumF_take _ hjt⟩
        obtain ⟨a, o1, rfl, _, hcc⟩ := Sl.row (enc := tcell) (sz := 3) (fun _ => rfl) (ST.out.frame (F1.out.trans HF.out (by simp)) (by simp)) hjt (by decide)
        obtain ⟨t, ht⟩ : ∃ t, t = T[j] := ⟨_, rfl⟩
        rw [← ht] at hcc s1 s2 s3 s4
        have c0 := hcc 0 (by decide)
        have c1 := hcc 1 (by decide)
        have c2 := hcc 2 (by decide)
        simp only [tcell, List.getElem?_cons_zero, List.getElem?_cons_succ, Nat.add_zero] at c0 c1 c2
        have htm : t ∈ T := by rw [ht]; exact List.getElem_mem hjt
        have hrt := HR.out t htm
        have hlt := HL.out t htm
        have A0 := (Fr.refl wr []).alloc (.cells #[.int .u8 t.lit, .int .i64 t.len, .int .i64 t.dist] 48)
        have X5 := Hd.mk (A0.blk HX.out (by simp))
        have Y5 := Hd.mk (A0.blk HY.out (by simp))
        have F5 := Hd.mk (HF.out.trans A0 (by simp))
        have hjI : (j : Int) < (m : Nat) := by omega
        generalize sumF (fA lt) (T.take j) = sA at *
        generalize sumF fN (T.take j) = sN at *
        generalize sumF (fB lt ds) (T.take j) = sB at *
        generalize sumF fM (T.take j) = sM at *
        clear hcc ht htm HX HY HF A0
        by_cases hlen : t.len = 0
        · have u1 : Hd (fA lt t = lt.getD t.lit.toNat 0) := ⟨by unfold fA; rw [if_pos hlen]⟩
          have u2 : Hd (fN t = 1) := ⟨by unfold fN; rw [if_pos hlen]⟩
          have u3 : Hd (fB lt ds t = 0) := ⟨by unfold fB; rw [if_pos hlen]⟩
          have u4 : Hd (fM t = 0) := ⟨by unfold fM; rw [if_pos hlen]⟩
          obtain ⟨tl, tn, td⟩ := t
          simp only at hlen hlt u1
          subst hlen
          obtain ⟨tl, rfl⟩ := Int.eq_ofNat_of_zero_le hlt.1
          rw [Int.toNat_natCast] at u1
          have hlt2 : (tl : Int) ≤ 255 := hlt.2
          have kx := i64_getD (SL1.out.frame F5.out (by simp)) (i := tl) (by omega) rfl
          have hx := lens15_get L1.out tl
          generalize lt.getD tl 0 = x at *
          go_wp2_with (fail)
          refine (mean_add _ gb sA sN x (by omega) (by omega) (by omega) X5.out).mono ?_
          rintro e w3 ⟨rfl, h3, h4⟩
          have X6 : Hd (w3.heap[gb]? = some (.cells (mcell (sumF (fA lt) (T.take (j + 1))) (sumF fN (T.take (j + 1)))) 78 (0, 0))) := ⟨by rw [s1.out, s2.out, u1.out, u2.out]; exact h3⟩
          have Y6 : Hd (w3.heap[gb + 1]? = some (.cells (mcell (sumF (fB lt ds) (T.take (j + 1))) (sumF fM (T.take (j + 1)))) 78 (0, 0))) := ⟨by rw [s3.out, s4.out, u3.out, u4.out, Int.add_zero, Int.add_zero]; exact h4.blk Y5.out (by simp)⟩
          have F6 := Hd.mk (F5.out.trans h4 (fun x hx hm => by simp at hm; omega))
          clear h3 h4 X5 Y5 F5 kx
          go_wp2
          go_roundg (gk - 1)
          case measure => omega
          case rel => exact ⟨j + 1, by go_num, by omega, X6, Y6, F6⟩
        · have sa := (sgA_fit hrt hlt).1
          have sb := sgB_fit hrt
          have u1 : Hd (fA lt t = 0) := ⟨by unfold fA; rw [if_neg hlen]⟩
          have u2 : Hd (fN t = 0) := ⟨by unfold fN; rw [if_neg hlen]⟩
          have u3 : Hd (fB lt ds t = lt.getD (sgA t).1.toNat 0 + (sgA t).2.2 + ds.getD (sgB t).1.toNat 0) := ⟨by unfold fB; rw [if_neg hlen]⟩
          have u4 : Hd (fM t = 1) := ⟨by unfold fM; rw [if_neg hlen]⟩
          have ea : sgA t = ((symN lenT 257 3 258 t.len).1, (symN lenT 257 3 258 t.len).2.2.1, (symN lenT 257 3 258 t.len).2.1) := by unfold sgA; rw [if_neg hlen]
          have eb : sgB t = ((symN distT 0 1 32768 t.dist).1, (symN distT 0 1 32768 t.dist).2.2.1, (symN distT 0 1 32768 t.dist).2.1) := by unfold sgB; rw [if_neg hlen]
          rw [ea] at sa u3
          rw [eb] at sb u3
          obtain ⟨⟨a1, a2⟩, ⟨a3, a4⟩, a5, a6⟩ := sa
          obtain ⟨⟨b1, b2⟩, ⟨b3, b4⟩, b5, b6⟩ := sb
          simp only at a1 a2 a3 a4 b1 b2 u3
          clear a5 a6 b5 b6 b3 b4 ea eb
          obtain ⟨⟨sx, mx, vx, ex⟩, hsx⟩ : ∃ x, x = symN lenT 257 3 258 t.len := ⟨_, rfl⟩
          obtain ⟨⟨sy, my, vy, ey⟩, hsy⟩ : ∃ x, x = symN distT 0 1 32768 t.dist := ⟨_, rfl⟩
          rw [← hsx] at a1 a2 a3 a4 u3
          rw [← hsy] at b1 b2 u3
          have HSX := Hd.mk hsx
          have HSY := Hd.mk hsy
          clear hsx hsy
          simp only at a1 a2 a3 a4 b1 b2 u3
          obtain ⟨sx, rfl⟩ := Int.eq_ofNat_of_zero_le a1
          obtain ⟨sy, rfl⟩ := Int.eq_ofNat_of_zero_le b1
          rw [Int.toNat_natCast, Int.toNat_natCast] at u3
          have hkx := lens15_get L1.out sx
          have hky := lens15_get L2.out sy
          have kx := fun (w' : World) (hf : Fr w1 w' []) => i64_getD (SL1.out.frame hf (by simp)) (i := sx) (by omega) rfl
          have ky := fun (w' : World) (hf : Fr w1 w' []) => i64_getD (SL2.out.frame hf (by simp)) (i := sy) (by omega) rfl
          generalize lt.getD sx 0 = x at *
          generalize ds.getD sy 0 = y at *
          have BT := Hd.mk (blk_new wr (.cells #[.int .u8 t.lit, .int .i64 t.len, .int .i64 t.dist] 48))
          go_wp2_with (fail)
          refine (lenSymbol_any _ t.len).mono ?_
          rintro e w3 ⟨rfl, h3⟩
          rw [← HSX.out]
          have X6 := Hd.mk (h3.blk X5.out (by simp))
          have Y6 := Hd.mk (h3.blk Y5.out (by simp))
          have BT6 := Hd.mk (h3.blk BT.out (by simp))
          have F6 := Hd.mk (F5.out.trans h3 (by simp))
          clear h3 X5 Y5 F5 BT c0 c1 c2
          have d2 := blk_cell BT6.out 2
          simp only [List.getElem?_toArray, List.getElem?_cons_zero, List.getElem?_cons_succ] at d2
          simp only
          go_wp2_with (fail)
          refine (distSymbol_any _ t.dist).mono ?_
          rintro e w4 ⟨rfl, h3⟩
          rw [← HSY.out]
          have X7 := Hd.mk (h3.blk X6.out (by simp))
          have Y7 := Hd.mk (h3.blk Y6.out (by simp))
          have F7 := Hd.mk (F6.out.trans h3 (by simp))
          clear h3 X6 Y6 F6 BT6 d2
          have kx1 := kx w4 F7.out
          have ky1 := ky w4 F7.out
          simp only
          go_upto_region 13 with (fail)
          have n1 : IntKind.i64.wrap (x + mx) = x + mx := IntWalk.i64_in _ (by omega)
          have n2 : IntKind.i64.wrap (x + mx + y) = x + mx + y := IntWalk.i64_in _ (by omega)
          go_region_held3 (fun w' => w'.cell? ⟨bx, ox + sx, none⟩ = some (.int .i64 x) ∧ w'.cell? ⟨by_, oy + sy, none⟩ = some (.int .i64 y)) (go_keep)
            (first | (go_at_call 31; refine (mean_add _ (gb + 1) sB sM (x + mx + y) (by omega) (by omega) (by omega) (by exact Y7.out)).mono ?_; rintro e w5 ⟨rfl, h3, h4⟩; have Y8 := Hd.mk h3; have F8 := Hd.mk (Fr.ofDrew h4); have F9 := Hd.mk (F7.out.trans (Fr.ofDrew h4) (fun x hx hm => by simp at hm; omega)); clear h3 h4; have kx2 := kx w5 F9.out; have ky2 := ky w5 F9.out))
          all_goals
            have X9 : Hd (w5.heap[gb]? = some (.cells (mcell (sumF (fA lt) (T.take (j + 1))) (sumF fN (T.take (j + 1)))) 78 (0, 0))) := ⟨by rw [s1.out, s2.out, u1.out, u2.out, Int.add_zero, Int.add_zero]; exact F8.out.blk X7.out (by simp)⟩
            have Y9 : Hd (w5.heap[gb + 1]? = some (.cells (mcell (sumF (fB lt ds) (T.take (j + 1))) (sumF fM (T.take (j + 1)))) 78 (0, 0))) := ⟨by rw [s3.out, s4.out, u3.out, u4.out]; exact Y8.out⟩
            go_wp2
            go_roundg (gk - 1)
            case measure => omega
            case rel => exact ⟨j + 1, by go_num, by omega, X9, Y9, F9⟩
      · obtain rfl : j = m := by omega
        have eT : T.take j = T := List.take_of_length_le (by omega)
        rw [eT] at HX HY y1 y2 y3 y4 z1 z2 z3 z4
        have P3 := Hd.mk (HF.out.blk P1.out (by simp))
        obtain ⟨pa, hpa⟩ : ∃ x, x = meanN (sumF (fA lt) T) (sumF fN T) 8 := ⟨_, rfl⟩
        obtain ⟨pm, hpm⟩ : ∃ x, x = meanN (sumF (fB lt ds) T) (sumF fM T) 20 := ⟨_, rfl⟩
        have HPR2 : Hd (P = (pa, pm, 1)) := ⟨by rw [HPR.out, hpa, hpm]⟩
        have HPA := Hd.mk hpa
        have HPM := Hd.mk hpm
        clear hpa hpm HPR eT
        generalize sumF (fA lt) T = sA at *
        generalize sumF fN T = sN at *
        generalize sumF (fB lt ds) T = sB at *
        generalize sumF fM T = sM at *
        go_wp2_with (fail)
        refine (mean_or _ gb sA sN 8 pa (by omega) (by omega) HX.out HPA.out).mono ?_
        rintro e w5 ⟨rfl, h3⟩
        have Y6 := Hd.mk (h3.blk HY.out (by simp))
        have P6 := Hd.mk (h3.blk P3.out (by simp))
        have F6 := Hd.mk (HF.out.trans h3 (by simp))
        clear h3 HX HY HF
        go_wp2_with (fail)
        refine (mean_or _ (gb + 1) sB sM 20 pm (by omega) (by omega) Y6.out HPM.out).mono ?_
        rintro e w6 ⟨rfl, h3⟩
        have P7 := Hd.mk (h3.blk P6.out (by simp))
        have F7 := Hd.mk (F1.out.trans (F6.out.trans h3 (by simp)) (by simp))
        clear h3 P6 F6 Y6
        have R8 := Hd.mk (setRow_heap w6 gp _ (pcell pa pm 1) _ _ P7.out)
        have F8 := Hd.mk (Code.Fr.setRow (F := []) F7.out (g := gp) (pcell pa pm 1) (.inr NG.out))
        go_wp2_with (refine wpList_store_row rfl 54 _ _ rfl gp (pcell pa pm 1) rfl rfl 54 _ (by exact P7.out) (by kernel_rfl) (by kernel_rfl) (by kernel_rfl) ?_)
        refine bodyPost_ret (results_pr rfl _ _ gp _ rfl (run_loadVar_row _ gp 54 54 (pcell pa pm 1) _ _ (by exact R8.out) Try.underlying54 rfl (infoPrice _ _ _))) rfl ?_
        rw [HPR2.out]
        exact ⟨rfl, F8.out⟩
  · have hne : (ez != 0) = true := by simpa using h0
    obtain ⟨rfl, h1⟩ := HO.out.2 (by rw [← HE.out]; exact h0)
    have hPP := HPP.out
    rw [if_neg h0] at hPP
    obtain ⟨rfl, rfl⟩ := hPP
    rw [← HE.out]
    have P1 := Hd.mk (h1.blk B0.out (by simp))
    have F1 := Hd.mk (F0.out.trans h1 (by simp))
    clear h1 HO HPP
    have R8 := Hd.mk (setRow_heap w1 gp _ (pcell 0 0 0) _ _ P1.out)
    have F8 := Hd.mk (Code.Fr.setRow (F := []) F1.out (g := gp) (pcell 0 0 0) (.inr NG.out))
    go_wp2_with (refine wpList_store_row rfl 54 _ _ rfl gp (pcell 0 0 0) rfl rfl 54 _ (by exact P1.out) (by kernel_rfl) (by kernel_rfl) (by kernel_rfl) ?_)
    refine bodyPost_ret (results_pr rfl _ _ gp _ rfl (run_loadVar_row _ gp 54 54 (pcell 0 0 0) _ _ (by exact R8.out) Try.underlying54 rfl (infoPrice _ _ _))) rfl ?_
    exact ⟨rfl, F8.out⟩
end Go.Proofs.Ytkdgfioigkijgaa.Prs
/- copy of elements of several cells, over a row that is known whole; source and target may overlap. Conditions: none of ours. -/
set_option maxRecDepth 100000
set_option linter.unusedVariables false
set_option linter.unusedSimpArgs false
namespace Go.Proofs.Ytkdgfioigkijgaa.Lib
open Go.RowKit
section
variable {P : Program}
theorem run_copy_row_n (size : Nat) (w : World) (dT sT ty elem : TypeId) (g o dLen dCap : Nat) (a : Addr) (sLen sCap : Nat) (cur : Array Value) (t : TypeId) (cs : List Value)
    (hu : P.underlying dT = some (.slice elem)) (hs : (P.info? elem).map (·.size) = some size)
    (hg : w.heap[g]? = some (.cells cur t (0, 0))) (hn : cs.length = Nat.min sLen dLen * size)
    (hsrc : ∀ j v, cs[j]? = some v → w.cell? (a.add j) = some v) (hfit : o + cs.length ≤ cur.size) (h1 : ∀ v ∈ cs, v.oneCell' = true) :
    (Builtin.copy_ #[dT, sT] ty #[.slice (some ⟨g, o, none⟩) dLen dCap, .slice (some a) sLen sCap]).run P w =
      .ok (goInt (Nat.min sLen dLen)) (w.setRow g (cur.toList.take o ++ cs ++ cur.toList.drop (o + cs.length)).toArray) := by
  have hl := run_loadCells_list (P := P) w a cs hsrc
  have hst := run_storeCells_at P g o t cs 0 cur w hg (by simpa using hfit) h1
  cases hq : P.info? elem with
  | none => simp [hq] at hs
  | some i =>
    have hi : i.size = size := by simpa [hq] using hs
    simp [Builtin.copy_, run_underlying hu, Builtin.lenOf, Builtin.firstCells, sizeOf, typeInfo, hq, hi, ← hn, hl, hst]
theorem run_copy_none_n (size : Nat) (w : World) (dT sT ty elem : TypeId) (d a : Option Addr) (dLen dCap sLen sCap : Nat) (hu : P.underlying dT = some (.slice elem)) (hs : (P.info? elem).map (·.size) = some size) (hn : Nat.min sLen dLen = 0) :
    (Builtin.copy_ #[dT, sT] ty #[.slice d dLen dCap, .slice a sLen sCap]).run P w = .ok (goInt 0) w := by
  cases hq : P.info? elem with
  | none => simp [hq] at hs
  | some i =>
    have hl : ∀ (x : Addr), (loadCells x 0).run P w = .ok #[] w := fun x => by simpa using run_loadCells_list (P := P) w x [] (by simp)
    cases d <;> cases a <;> simp [Builtin.copy_, run_underlying hu, Builtin.lenOf, Builtin.firstCells, sizeOf, typeInfo, hq, hn, storeCells, hl]
theorem setRow_fr {w w' : World} {F : List Nat} (h : Fr w w' F) {g : Nat} (cs : Array Value) (hg : g ∈ F ∨ w.heap.size ≤ g) : Fr w (w'.setRow g cs) F :=
  ⟨h.os, h.tape, h.output, by have := h.size; simp [World.setRow]; omega, fun k hk hF => (setRow_other w' g k cs (by rintro rfl; rcases hg with hg | hg; exact hF hg; omega)).trans (h.block k hk hF)⟩
/-- as one step of a region that draws -/
theorem step_copy_n {ops : Array Oper} {o : Oper} {a : Act} {w : World} {K : Act → World → Prop} {Q : Exit → Act → World → Prop} {E : Prop} (hgd : o.guard = none) (d s : Operand) (dT sT : TypeId)
    (ho : o.op = .call { callee := .builtin .copy, args := #[d, s], argTypes := #[dT, sT] }) (elem : TypeId) (hu : P.underlying dT = some (.slice elem)) (size : Nat) (hsz : (P.info? elem).map (·.size) = some size)
    (dp sp : Option Addr) (dLen dCap sLen sCap : Nat) (hd : a.eval d = .slice dp dLen dCap) (hs : a.eval s = .slice sp sLen sCap)
    (g off : Nat) (cur : Array Value) (t : TypeId) (hg : w.heap[g]? = some (.cells cur t (0, 0))) (cs : List Value) (hn : cs.length = Nat.min sLen dLen * size) (hsize : 0 < size)
    (hpos : 0 < cs.length → dp = some ⟨g, off, none⟩ ∧ ∃ ad, sp = some ad ∧ ∀ j v, cs[j]? = some v → w.cell? (ad.add j) = some v)
    (hfit : off + cs.length ≤ cur.size) (h1 : ∀ v ∈ cs, v.oneCell' = true)
    (h : ∀ w', Hd (w'.heap[g]? = some (.cells (cur.toList.take off ++ cs ++ cur.toList.drop (off + cs.length)).toArray t (0, 0))) → Fr w w' [g] → K (a.put o.dst (goInt (Nat.min sLen dLen))) w') :
    if Region.wanted o (yielded ops a.tmps) = true then Oper.wp P o a w K Q else E := by
  have hw : Region.wanted o (yielded ops a.tmps) = true := by simp [Region.wanted, hgd]
  rw [if_pos hw]
  by_cases h0 : cs.length = 0
  · obtain rfl : cs = [] := List.eq_nil_of_length_eq_zero h0
    have hm : Nat.min sLen dLen = 0 := by
      rcases Nat.eq_zero_or_pos (Nat.min sLen dLen) with h | h
      · exact h
      · have := Nat.mul_pos h hsize; omega
    have hrun := run_copy_none_n (P := P) size w dT sT o.type elem dp sp dLen dCap sLen sCap hu hsz hm
    unfold Oper.wp
    rw [hm] at h
    simp [execOp, ho, resolve, invoke, builtin, hd, hs, hrun, Result.andThen]
    exact h w ⟨by simpa using hg⟩ (Fr.refl _ _)
  · obtain ⟨rfl, ad, rfl, hsrc⟩ := hpos (by omega)
    have hrun := run_copy_row_n (P := P) size w dT sT o.type elem g off dLen dCap ad sLen sCap cur t cs hu hsz hg hn hsrc hfit h1
    unfold Oper.wp
    simp only [execOp, ho, resolve, invoke, builtin, hd, hs, hrun, Result.andThen, Sem.run_bind, Sem.run_pure, Result.andThen_ok, List.map_toArray, List.map_cons, List.map_nil]
    exact h _ ⟨setRow_heap w g _ _ t _ hg⟩ (setRow_fr (Fr.refl _ _) _ (.inl (by simp)))
end
end Go.Proofs.Ytkdgfioigkijgaa.Lib
