/- The encoder: made, asked, laid down. Conditions: none but the slice's. -/
import Derived.Test.YtofajcifjmhomaaCodeB
import Derived.Test.YtofajcifjmhomaaCodePlain2
import Derived.Test.YtofajcifjmhomaaBitsR
import Derived.Laws.CopyOwn
import Derived.WalkSpells
set_option linter.unusedVariables false
set_option linter.unusedSimpArgs false
set_option maxRecDepth 100000
namespace Go.Proofs.Ytofajcifjmhomaa.Code
open Go.RowKit Go.IntWalk Go.Proofs.Ytofajcifjmhomaa.Lib Go.Proofs.Ytofajcifjmhomaa.Ints Go.Proofs.Ytofajcifjmhomaa.Num Go.Proofs.Ytofajcifjmhomaa.Bits

/-- a whole row is laid over a row of the same length -/
theorem wpl_copy_all {ops : Array Oper} {rest : List Oper} {o : Oper} {a : Act} {w : World} {Q : Exit → Act → World → Prop} (hgd : o.guard = none) (d s : Operand)
    (ho : o.op = .call { callee := .builtin .copy, args := #[d, s], argTypes := #[22, 22] })
    (g n cap : Nat) (A : Option Addr) (c : Nat) (xs ys : List Value) (q : Option Nat) (hd : a.eval d = .slice (some ⟨g, 0, none⟩) n cap) (hs : a.eval s = .slice A n c)
    (hO : w.ownsRow 0 3 1 (.slice (some ⟨g, 0, none⟩) n cap) n ys) (hn : xs.length = n) (hS : Sl w A xs q) (h1 : ∀ v ∈ xs, v.oneCell' = true)
    (h : ∀ w', w'.ownsRow 0 3 1 (.slice (some ⟨g, 0, none⟩) n cap) n xs → Fr w w' [g] → wpList Try.prog ops Q rest (a.put o.dst (goInt n)) w') :
    wpList Try.prog ops Q (o :: rest) a w := by
  subst hn
  have hsz : (Try.prog.info? 3).map (·.size) = some 1 := by kernel_rfl
  by_cases h0 : xs.length = 0
  · obtain rfl : xs = [] := List.eq_nil_of_length_eq_zero h0
    have hy : ys = [] := List.eq_nil_of_length_eq_zero (by have := hO.1; simpa using this)
    subst hy
    exact wpList_copy_nothing hgd d s _ _ ho 3 Try.underlying22 hsz _ A 0 cap 0 c hd hs rfl (h w hO (Fr.refl w _))
  · obtain ⟨bd, off, rfl, _, hcc⟩ := hS (by omega)
    obtain ⟨hl, hrow⟩ := hO
    rcases hrow with ⟨e, _⟩ | ⟨g', cap', cur, e, hb, hg, hnc, hcm, hcs, hcur⟩
    · cases e
    · injection e with e1 _ e2
      injection e1 with e1
      injection e1 with e1 _ _
      subst e1 e2
      refine wpList_copy_own hgd d s _ _ ho 3 Try.underlying22 hsz g 0 xs.length cap ⟨bd, off, none⟩ xs.length c hd hs cur _ hg xs (by simp) (fun j v hv => ?_) (by omega) h1 (h _ ⟨by omega, .inr ⟨g, cap, _, rfl, hb, setRow_heap _ _ _ _ _ _ hg, hnc, hcm, ?_, ?_⟩⟩ (Fr.setRow (Fr.refl w _) _ (.inl (by simp))))
      · have hj : j < xs.length := by
          rcases Nat.lt_or_ge j xs.length with h | h
          · exact h
          · rw [List.getElem?_eq_none h] at hv; cases hv
        have hadd : (⟨bd, off, none⟩ : Addr).add j = ⟨bd, off + j, none⟩ := by unfold Addr.add; split <;> simp_all
        rw [hadd, hcc j hj, hv]
      · simp; omega
      · simp
/-- an encoder -/
structure En (w : World) (g ga da : Nat) (B : Option Addr) (db : Nat) (lens : List Int) (L : List Nat) : Prop where
  blk : w.heap[g]? = some (.cells #[.slice (some ⟨ga, 0, none⟩) lens.length da, .slice B L.length db] 136 (0, 0))
  lens_ : w.ownsRow 0 3 1 (.slice (some ⟨ga, 0, none⟩) lens.length da) lens.length (i64s lens)
  codes_ : w.ownsRow 0 3 1 (.slice B L.length db) L.length (nv L)
  ok : check lens = 0
  L_ : L = codes lens
theorem En.frame {w w' : World} {g ga da db : Nat} {B : Option Addr} {lens : List Int} {L : List Nat} (h : En w g ga da B db lens L) {F : List Nat} (hf : Fr w w' F) (hF : g ∉ F ∧ ga ∉ F ∧ ∀ y, (Value.slice B L.length db).ownBlock = some y → y ∉ F) : En w' g ga da B db lens L :=
  ⟨hf.blk h.blk hF.1, own_frame h.lens_ hf (fun y hy => by cases hy; exact hF.2.1), own_frame h.codes_ hf hF.2.2, h.ok, h.L_⟩
set_option maxHeartbeats 8000000 in
theorem newenc_any (w : World) (A : Option Addr) (n c : Nat) (lens : List Int) (q : Option Nat) (hS : SlArg w A n c (i64s lens) q) (r : Int) (hr : r = check lens) :
    Calls Try.prog 57 #[.slice A n c] w fun e w' => ∃ p, e = .returned (.tuple #[.pointer p, .int .i64 r]) ∧ Fr w w' [] ∧ (r ≠ 0 → p = none) ∧ (r = 0 → ∃ g ga da B db L, p = some ⟨g, 0, none⟩ ∧ En w' g ga da B db lens L ∧ w.heap.size ≤ g ∧ w.heap.size ≤ ga ∧ (∀ y, (Value.slice B L.length db).ownBlock = some y → w.heap.size ≤ y)) := by
  obtain ⟨j0, hj0, hj1, hj2, hj3⟩ := info_parts infoI64
  have HS := Hd.mk hS
  have HR := Hd.mk hr
  have hl : lens.length = n := by have := hS.len; simpa [i64s] using this
  clear hS hr
  obtain ⟨L, hL⟩ : ∃ L, L = codes lens := ⟨_, rfl⟩
  have HL := Hd.mk hL
  clear hL
  go_enter Try.func57, Try.ntmps57
  go_wp2_with (fail)
  refine (codes_any w A n c lens q HS.out r L HR.out HL.out).mono ?_
  rintro e w1 ⟨A1, d1, rfl, h1, h2, h3⟩
  have O1 := Hd.mk h1
  have B1 := Hd.mk h2
  have F1 := Hd.mk h3
  clear h1 h2 h3
  by_cases hr0 : r = 0
  · subst hr0
    have hn288 : n ≤ 288 := by
      have hb : bad lens = false := by
        cases hb : bad lens with
        | false => rfl
        | true => have := HR.out; unfold check at this; rw [if_pos hb] at this; cases this
      have := (bad_false hb).1
      omega
    go_upto_region 5 with (refine wpList_make_full _ rfl _ _ 22 rfl 0 3 j0 (.int .i64 0) 1 Try.underlying22 hj0 hj1 hj2 .i64 .i64 _ _ n rfl rfl rfl rfl (by rw [hj3]; omega) (by unfold maxLen; omega) (Nat.zero_le _) ?_; intro w2 hown1 hgrow1; have O2 := Hd.mk hown1; have F2 := Hd.mk (F1.out.grown hgrow1 (by simp)); have O12 := Hd.mk (own_frame O1.out ((Fr.refl w1 []).grown hgrow1 (by simp)) (by simp)); clear hown1 hgrow1)
    have hg1 : w.heap.size ≤ w1.heap.size := F1.out.size
    have L1 : Hd (∀ y, (Value.slice A1 L.length d1).ownBlock = some y → y < w1.heap.size) := ⟨fun y hy => own_lt O1.out hy⟩
    generalize w1.heap.size = ga at *
    go_upto_region 6 with (refine wpl_copy_all rfl _ _ rfl ga n n A c (i64s lens) _ q rfl rfl O2.out (by rw [i64s_length]; omega) (HS.out.sl.frame F2.out (by simp)) (i64s_one lens) ?_; intro w3 hO3 hF3; have O3 := Hd.mk hO3; have F3 := Hd.mk (F2.out.trans hF3 (by intro x hx hm; simp at hm; omega)); have O13 := Hd.mk (own_frame O12.out hF3 (fun y hy hm => by have := L1.out y hy; simp at hm; omega)); clear hO3 hF3)
    have hbn : Hd (w.heap.size ≤ w3.heap.size) := ⟨F3.out.size⟩
    have hE : En (w3.alloc (.cells #[.slice (some ⟨ga, 0, none⟩) n n, .slice A1 L.length d1] 136)) w3.heap.size ga n A1 d1 lens L := by
      have o1 := O3.out.alloc (.cells #[.slice (some ⟨ga, 0, none⟩) n n, .slice A1 L.length d1] 136)
      have o2 := O13.out.alloc (.cells #[.slice (some ⟨ga, 0, none⟩) n n, .slice A1 L.length d1] 136)
      subst hl
      exact ⟨blk_new w3 _, o1, o2, HR.out.symm, HL.out⟩
    have HE := Hd.mk hE
    clear hE
    simp only [Act.put]
    go_wp2
    go_ret2
    exact ⟨_, rfl, F3.out.alloc _, _, rfl, ga, n, A1, d1, L, HE.out, hbn.out, hg1, B1.out⟩
  · have hne : (r != 0) = true := by simpa using hr0
    go_wp2
    go_ret2
    exact ⟨none, rfl, F1.out, fun _ => rfl, fun h => absurd h hr0⟩
section
variable {w : World} {g ga da db : Nat} {B : Option Addr} {lens : List Int} {L : List Nat}
set_option maxHeartbeats 8000000 in
theorem cost_any (s : Int) (n : Nat) (hn : n = bitsOf lens s) (hE : En w g ga da B db lens L) :
    Calls Try.prog 73 #[.pointer (some ⟨g, 0, none⟩), .int .i64 s] w fun e w' => e = .returned (.int .i64 (n : Nat)) ∧ w = w' := by
  have c0 := blk_cell hE.blk 0
  simp only [List.getElem?_toArray, List.getElem?_cons_zero, List.getElem?_cons_succ] at c0
  have HE := Hd.mk hE
  have HN := Hd.mk hn
  clear hE hn
  obtain ⟨ll, hll⟩ : ∃ ll, ll = lens.length := ⟨_, rfl⟩
  rw [← hll] at c0
  have HLL := Hd.mk hll
  clear hll
  go_enter Try.func73, Try.ntmps73
  by_cases h0 : s < 0
  · obtain rfl : n = 0 := by rw [HN.out]; unfold bitsOf; rw [if_neg (by omega)]
    go_wp2
    go_ret
    exact ⟨rfl, rfl⟩
  · by_cases h1 : s ≥ (ll : Nat)
    · obtain rfl : n = 0 := by rw [HN.out]; unfold bitsOf; rw [if_neg (by have := HLL.out; omega)]
      go_wp2
      go_ret
      exact ⟨rfl, rfl⟩
    · obtain ⟨i, rfl⟩ := Int.eq_ofNat_of_zero_le (show 0 ≤ s by omega)
      have hi : i < lens.length := by have := HLL.out; omega
      have hall := (bad_false (check_zero HE.out.ok).1).2 lens[i] (List.getElem_mem hi)
      have hn2 : lens[i] = (n : Int) := by
        rw [HN.out]
        unfold bitsOf
        rw [if_pos (by omega), List.getD_eq_getElem?_getD, Int.toNat_natCast, List.getElem?_eq_getElem hi]
        simp only [Option.getD_some]
        omega
      have kc := (HE.out.lens_.cellAt i (by omega)).trans (i64s_get lens i)
      rw [List.getElem?_eq_getElem hi, hn2] at kc
      simp only [Option.map_some] at kc
      clear hall hn2
      go_wp2
      go_ret
      exact ⟨rfl, rfl⟩
theorem put_none (s : Int) (h : bitsOf lens s = 0) (gw : Nat) (hE : En w g ga da B db lens L) :
    Calls Try.prog 58 #[.pointer (some ⟨g, 0, none⟩), .pointer (some ⟨gw, 0, none⟩), .int .i64 s] w fun e w' => e = .returned (.int .i64 53) ∧ w = w' := by
  have c0 := blk_cell hE.blk 0
  simp only [List.getElem?_toArray, List.getElem?_cons_zero, List.getElem?_cons_succ] at c0
  have HE := Hd.mk hE
  have HN := Hd.mk h
  clear hE h
  have n0 := fun w ca => Lib.run_eql_slice_nil (P := Try.prog) w 22 3 (some ⟨ga, 0, none⟩) lens.length ca 0 0 Try.underlying22
  go_enter Try.func58, Try.ntmps58
  go_wp2_with (fail)
  refine (cost_any s 0 HN.out.symm HE.out).mono ?_
  rintro e w1 ⟨rfl, rfl⟩
  go_wp2
  go_ret
  exact ⟨rfl, rfl⟩
theorem put_some {T : TypeId} {N m : Nat} {q : Option Nat} (s : Int) (n cd : Nat) (hn : n = bitsOf lens s) (hcd : cd = codeOf lens s) (h : n ≠ 0) (gw : Nat) (hE : En w g ga da B db lens L) (hm : m + 15 ≤ 1125899906842624) (hT : Tl w gw T N m q) :
    Calls Try.prog 58 #[.pointer (some ⟨g, 0, none⟩), .pointer (some ⟨gw, 0, none⟩), .int .i64 s] w fun e w' => e = .returned (.int .i64 0) ∧ ∃ q', Tl w' gw T (N + rv cd n * 2 ^ m) (m + n) q' ∧ Aft w q q' ∧ Fr w w' (gw :: q.toList) := by
  have c0 := blk_cell hE.blk 0
  have c1 := blk_cell hE.blk 1
  simp only [List.getElem?_toArray, List.getElem?_cons_zero, List.getElem?_cons_succ] at c0 c1
  obtain ⟨k1, k2, k3, k4, k5, k6⟩ := bitsOf_fits hE.ok (s := s) (by rw [← hn]; exact h)
  rw [← hn] at k3 k4
  rw [← hcd] at k3 k6
  obtain ⟨i, rfl⟩ := Int.eq_ofNat_of_zero_le k1
  rw [Int.toNat_natCast] at k6
  have hL := hE.L_
  have hLl : L.length = lens.length := by rw [hL, codes_len hE.ok]
  have hi : i < L.length := by omega
  have hlen0 : 0 < L.length := by omega
  obtain ⟨gb, db', eb, hdb⟩ := own_some hE.codes_ hlen0
  injection eb with eb1 _ eb2
  subst eb1 eb2
  have kc := (hE.codes_.cellAt i (by omega)).trans (show (nv L)[i]? = some (.int .i64 (cd : Nat)) from by
    unfold nv
    rw [i64s_get, List.getElem?_map, hL, k6]
    rfl)
  have hcd2 : cd < 2 ^ 15 := Nat.lt_of_lt_of_le k3 (Nat.pow_le_pow_right (by omega) k4)
  have hm0 : mayN cd (n : Int) = 0 := mayN_ok (by omega) (by omega) (by simpa using k3)
  have HE := Hd.mk hE
  have HN := Hd.mk hn
  have HM := Hd.mk hm0
  have HT := Hd.mk hT
  have hiL : (i : Int) < (L.length : Nat) := by omega
  clear hE hn hm0 hT hcd k1 k2 k3 k5 k6 hL hLl
  generalize L.length = ln at *
  have n0 := fun w ca => Lib.run_eql_slice_nil (P := Try.prog) w 22 3 (some ⟨ga, 0, none⟩) lens.length ca 0 0 Try.underlying22
  go_enter Try.func58, Try.ntmps58
  go_wp2_with (fail)
  refine (cost_any (i : Int) n HN.out HE.out).mono ?_
  rintro e w1 ⟨rfl, rfl⟩
  have hnz : ((n : Int) == 0) = false := by simp; omega
  go_wp2_with (fail)
  refine (turned_ok (cd : Int) (n : Int) cd w rfl HM.out (by rw [Int.toNat_natCast]; omega) HT.out).mono ?_
  rintro e w2 ⟨rfl, q', h1, h2, h3⟩
  rw [Int.toNat_natCast] at h1
  have H1 := Hd.mk (And.intro h1 (And.intro h2 h3))
  clear h1 h2 h3
  go_wp2
  go_ret
  exact ⟨rfl, q', H1.out⟩
end
end Go.Proofs.Ytofajcifjmhomaa.Code
