/- The closure that counts leaves (chapter 04). Conditions: counts at most 10^6. -/
import Derived.Test.YtofajcifjmhomaaLensC
import Derived.WalkSpells
set_option linter.unusedVariables false
set_option linter.unusedSimpArgs false
set_option maxRecDepth 100000
namespace Go.Proofs.Ytofajcifjmhomaa.Lens
open Go.RowKit Go.Proofs.Ytofajcifjmhomaa.Lib Go.Proofs.Ytofajcifjmhomaa.Ints Go.Proofs.Ytofajcifjmhomaa.Sorts Go.Proofs.Ytofajcifjmhomaa.Sort Go.Proofs.Ytofajcifjmhomaa.Pm

def bel (N : Nat) : T → Prop
  | .leaf _ s => s < N
  | .pack a b => bel N a ∧ bel N b
def tsz : T → Nat
  | .leaf _ _ => 1
  | .pack a b => 1 + tsz a + tsz b
def lsz : List T → Nat
  | [] => 0
  | t :: l => tsz t + lsz l
theorem lsz_get : ∀ (l : List T) (j : Nat) (h : j < l.length), tsz l[j] ≤ lsz l
  | t :: l, 0, h => by simp [lsz]
  | t :: l, j + 1, h => by
    have := lsz_get l j (by simpa using h)
    simp only [List.getElem_cons_succ, lsz]; omega
/-- the numbers that are counted -/
def cv (N : Nat) (f : Nat → Nat) : Array Value := ((List.range N).map fun s => Value.int .i64 (f s)).toArray
def Cnt (w : World) (gl N : Nat) (f : Nat → Nat) : Prop := w.heap[gl]? = some (.cells (cv N f) 3 (0, 0))
theorem Cnt.cell {w : World} {gl N : Nat} {f : Nat → Nat} (h : Cnt w gl N f) {s : Nat} (hs : s < N) : w.cell? ⟨gl, s, none⟩ = some (.int .i64 (f s)) := by
  rw [blk_cell h]; simp [cv, hs]
theorem Cnt.put {w : World} {gl N : Nat} {f : Nat → Nat} (h : Cnt w gl N f) {s : Nat} (hs : s < N) (v : Nat) : Cnt (w.setCell ⟨gl, s, none⟩ (.int .i64 v)) gl N (fun k => if k = s then v else f k) := by
  unfold Cnt
  rw [blk_set h]
  congr 2
  apply Array.ext_getElem?
  intro k
  rw [Array.getElem?_setIfInBounds]
  by_cases e : s = k
  · subst e; simp [cv, hs]
  · rw [if_neg e]
    by_cases hk : k < N
    · simp [cv, hk, show ¬ k = s from fun e2 => e e2.symm]
    · simp [cv, hk]
theorem Cnt.frame {w w' : World} {gl N : Nat} {f : Nat → Nat} (h : Cnt w gl N f) {F : List Nat} (hf : Fr w w' F) (hg : gl ∉ F) : Cnt w' gl N f := hf.blk h hg
/-- the closure's two variables -/
structure Cl (w : World) (gv gc gl N : Nat) : Prop where
  v : w.heap[gv]? = some (.cells #[.slice (some ⟨gl, 0, none⟩) N N] 22 (0, 0))
  c : w.heap[gc]? = some (.cells #[.func (.func 93) #[] #[.pointer (some ⟨gv, 0, none⟩), .pointer (some ⟨gc, 0, none⟩)]] 157 (0, 0))
theorem Cl.frame {w w' : World} {gv gc gl N : Nat} (h : Cl w gv gc gl N) {F : List Nat} (hf : Fr w w' F) (h1 : gv ∉ F) (h2 : gc ∉ F) : Cl w' gv gc gl N := ⟨hf.blk h.v h1, hf.blk h.c h2⟩
def CountPost (w : World) (gl N : Nat) (f : Nat → Nat) (ts : List T) (e : Ending) (w' : World) : Prop :=
  e = .returned (.tuple #[]) ∧ Cnt w' gl N (fun s => f s + cl ts s) ∧ Fr w w' [gl]
theorem Cnt.congr {w : World} {gl N : Nat} {f g : Nat → Nat} (h : Cnt w gl N f) (e : ∀ s, f s = g s) : Cnt w gl N g := by rw [← show f = g from funext e]; exact h
theorem Cnt.free {w : World} {gl N : Nat} {f : Nat → Nat} (h : Cnt w gl N f) (s : Nat) : w.frozen? ⟨gl, s, none⟩ = false := blk_frozen h s
theorem cl_take_snoc (ts : List T) {j : Nat} (h : j < ts.length) (s : Nat) : cl (ts.take (j + 1)) s = cl (ts.take j) s + ts[j].cnt s := by
  rw [List.take_succ_eq_append_getElem h, cl_app]; simp [cl]
theorem cl_take_le (ts : List T) (j s : Nat) : cl (ts.take j) s ≤ cl ts s := by
  have := cl_app (ts.take j) (ts.drop j) s
  rw [List.take_append_drop] at this
  omega
theorem gv_ne {w : World} {gv gc gl N : Nat} {f : Nat → Nat} (h : Cl w gv gc gl N) (hc : Cnt w gl N f) : gv ≠ gl ∧ gc ≠ gl := ⟨blk_ne h.v hc (by decide), blk_ne h.c hc (by decide)⟩
set_option maxHeartbeats 2000000 in
theorem count_any (gv gc gl N : Nat) (hN : N ≤ 1000) : ∀ (K : Nat) (w : World) (A : Option Addr) (n c : Nat) (ps : List (T × Value)) (q : Option Nat) (f : Nat → Nat), lsz (ps.map (·.1)) < K → ps.length = n → n ≤ c → n ≤ 1000 → Sl w A (encs ps) q → q ≠ some gl → (∀ p ∈ ps, Ok w gl p.1 p.2) →
    (∀ p ∈ ps, bel N p.1) → Cl w gv gc gl N → Cnt w gl N f → (∀ s, f s + cl (ps.map (·.1)) s ≤ 1000000) →
    Calls Try.prog 93 #[.slice A n c, .pointer (some ⟨gv, 0, none⟩), .pointer (some ⟨gc, 0, none⟩)] w (CountPost w gl N f (ps.map (·.1))) := by
  intro K
  induction K with
  | zero => intro w A n c ps q f hsz; omega
  | succ K ih =>
    intro w A n c ps q f hsz hn hnc hn1 hS hq hok hbel hcl hcnt hbd
    have HIH := Hd.mk ih
    subst hn
    have HS := Hd.mk hS
    have HQ := Hd.mk hq
    have HOK := Hd.mk hok
    have HBEL := Hd.mk hbel
    have HCL := Hd.mk hcl
    have HC := Hd.mk hcnt
    have HBD := Hd.mk hbd
    have HSZ := Hd.mk hsz
    clear ih hS hq hok hbel hcl hcnt hbd hsz
    go_enter Try.func93, Try.ntmps93
    go_wp2
    go_loopg [8] ps.length (fun kq jv wr => ∃ j : Nat, jv = .int .i64 (j : Nat) ∧ j + kq = ps.length ∧ Hd (Cnt wr gl N (fun s => f s + cl ((ps.map (·.1)).take j) s)) ∧ Hd (Fr w wr [gl]))
    case atStart => exact ⟨0, rfl, by omega, ⟨by simpa [cl] using HC.out⟩, ⟨Fr.refl _ _⟩⟩
    case round =>
      obtain ⟨j, rfl, hj, HCN, HF⟩ := hrel
      by_cases h1 : j < ps.length
      · obtain ⟨b0, o1, rfl, hqb, ha⟩ := Sl.row (enc := enc) (sz := 3) (fun _ => rfl) (HS.out.frame HF.out (by intro k hk hm; simp at hm; subst hm; exact HQ.out hk)) h1 (by decide)
        obtain ⟨x, hx⟩ : ∃ x, x = ps[j] := ⟨_, rfl⟩
        rw [← hx] at ha
        have c0 := ha 0 (by decide)
        have c1 := ha 1 (by decide)
        have c2 := ha 2 (by decide)
        simp only [enc, List.getElem?_cons_zero, List.getElem?_cons_succ, Nat.add_zero] at c0 c1 c2
        have HX := Hd.mk hx
        clear hx ha
        have hmem : x ∈ ps := by rw [HX.out]; exact List.getElem_mem _
        have hokx := HOK.out x hmem
        have hbex := HBEL.out x hmem
        have HME := Hd.mk hmem
        obtain ⟨t, v⟩ := x
        cases t with
        | leaf wt s =>
          have hv : v = .slice none 0 0 := hokx
          subst hv
          have hsN : s < N := hbex
          simp only [T.wt, sym] at c0 c1 c2
          clear hokx hbex hmem
          have hK : 0 < K := by
            have e1 := lsz_get (ps.map (·.1)) j (by rw [List.length_map]; exact h1)
            have e2 : (ps.map (·.1))[j]'(by rw [List.length_map]; exact h1) = .leaf wt s := by rw [List.getElem_map, ← HX.out]
            rw [e2, tsz] at e1
            have := HSZ.out; omega
          have n0 := fun w => Lib.run_eql_slice_nil (P := Try.prog) w 151 154 none 0 0 0 0 Try.underlying151
          go_upto_region 3 with (fail)
          have B1 := blk_new wr (.cells #[.int .i64 wt, .int .i64 s, .slice none 0 0] 154)
          have A1 := (Fr.refl wr []).alloc (.cells #[.int .i64 wt, .int .i64 s, .slice none 0 0] 154)
          have HC1 := Hd.mk (HCN.out.frame A1 (by simp))
          have HF1 := Hd.mk (HF.out.trans A1 (by simp))
          clear A1 c0 c1 c2 HF HCN
          generalize wr.alloc (.cells #[.int .i64 wt, .int .i64 s, .slice none 0 0] 154) = w1 at *
          generalize wr.heap.size = g1 at *
          have d1 := blk_cell B1 1
          have d2 := blk_cell B1 2
          simp only [List.getElem?_toArray, List.getElem?_cons_zero, List.getElem?_cons_succ] at d1 d2
          have HCL1 := Hd.mk (HCL.out.frame HF1.out (by simpa using (gv_ne HCL.out HC.out).1) (by simpa using (gv_ne HCL.out HC.out).2))
          have vc := blk_cell HCL1.out.v 0
          have cc := blk_cell HCL1.out.c 0
          simp only [List.getElem?_toArray, List.getElem?_cons_zero] at vc cc
          have lc := HC1.out.cell hsN
          obtain ⟨x, hx⟩ : ∃ x, x = f s + cl ((ps.map (·.1)).take j) s := ⟨_, rfl⟩
          rw [← hx] at lc
          have hxb : x ≤ 1000000 := by
            have e1 := cl_take_le (ps.map (·.1)) j s
            have e2 := HBD.out s
            omega
          have HX2 := Hd.mk hx
          have lf := HC1.out.free s
          have HB1 := Hd.mk B1
          clear hx B1
          have HP := Hd.mk ((HC1.out.put hsN (x + 1)))
          have HG := Hd.mk ((Fr.setCell (a := ⟨gl, s, none⟩) HF1.out (.int .i64 ((x + 1 : Nat) : Int)) (.inl (by simp))))
          have hx1 : ((x + 1 : Nat) : Int) = (x : Int) + 1 := by omega
          rw [hx1] at HG
          unfold Cnt at HP
          rw [hx1] at HP
          clear hx1
          have hg1 : g1 ≠ gl := blk_ne HB1.out HC1.out (by decide)
          have HB2 := Hd.mk (blk_far (p := ⟨gl, s, none⟩) HB1.out hg1 (.int .i64 ((x : Int) + 1)))
          clear hg1
          go_upto_region 5 with (fail)
          clear d1 d2 vc cc lc lf HC1 HB1 HCL1 HF1 n0
          generalize w1.setCell ⟨gl, s, none⟩ (.int .i64 ((x : Int) + 1)) = w2 at *
          have HCL2 := Hd.mk (HCL.out.frame HG.out (by simpa using (gv_ne HCL.out HC.out).1) (by simpa using (gv_ne HCL.out HC.out).2))
          have cc := blk_cell HCL2.out.c 0
          have d2 := blk_cell HB2.out 2
          simp only [List.getElem?_toArray, List.getElem?_cons_zero, List.getElem?_cons_succ] at cc d2
          have HP2 : Hd (Cnt w2 gl N (fun k => f k + cl ((ps.map (·.1)).take (j + 1)) k)) := ⟨Cnt.congr (show Cnt w2 gl N _ from HP.out) (fun k => by
            have e1 := cl_take_snoc (ps.map (·.1)) (j := j) (by rw [List.length_map]; exact h1) k
            have e2 : (ps.map (·.1))[j]'(by rw [List.length_map]; exact h1) = .leaf wt s := by rw [List.getElem_map, ← HX.out]
            rw [e2] at e1
            rw [e1, T.cnt]
            by_cases e : k = s
            · rw [if_pos e, if_pos e.symm, e, HX2.out]; omega
            · rw [if_neg e, if_neg (fun h => e h.symm)]; omega)⟩
          go_wp2_with (fail)
          refine (HIH.out w2 none 0 0 [] none (fun k => f k + cl ((ps.map (·.1)).take (j + 1)) k) hK rfl (Nat.le_refl _) (Nat.zero_le _) (Sl.nil _ _ _) (by simp) (fun p hp => by simp at hp) (fun p hp => by simp at hp) HCL2.out HP2.out (fun k => by
            have e1 := cl_take_le (ps.map (·.1)) (j + 1) k
            have e2 := HBD.out k
            simp only [List.map_nil, cl]; omega)).mono ?_
          rintro e w3 ⟨rfl, r1, r2⟩
          have R1 : Hd (Cnt w3 gl N (fun k => f k + cl ((ps.map (·.1)).take (j + 1)) k)) := ⟨Cnt.congr r1 (fun k => by simp only [List.map_nil, cl]; omega)⟩
          have R2 := Hd.mk (HG.out.trans r2 (by simp))
          clear r1 r2 cc d2
          go_wp2
          go_roundg (gk - 1)
          case measure => go_light; omega
          case rel => go_light; exact ⟨j + 1, by go_num, by omega, R1, R2⟩
        | pack a b =>
          obtain ⟨g, off, cap, va, vb, hv, hgl, hcap, hsl, hoa, hob⟩ := hokx
          subst hv
          simp only [T.wt, sym] at c0 c1 c2
          obtain ⟨wv, hwv⟩ : ∃ wv : Int, wv = ((a.wt + b.wt : Nat) : Int) := ⟨_, rfl⟩
          rw [← hwv] at c0
          rw [show ((0 : Nat) : Int) = 0 from rfl] at c1
          clear hwv
          have HBX := Hd.mk hbex
          have HSL := Hd.mk hsl
          have HOA := Hd.mk hoa
          have HOB := Hd.mk hob
          have HGL := Hd.mk hgl
          have HCAP := Hd.mk hcap
          clear hbex hmem hsl hoa hob hgl hcap
          have hKs : Hd (lsz [a, b] < K) := ⟨by
            have e1 := lsz_get (ps.map (·.1)) j (by rw [List.length_map]; exact h1)
            have e2 : (ps.map (·.1))[j]'(by rw [List.length_map]; exact h1) = .pack a b := by rw [List.getElem_map, ← HX.out]
            rw [e2, tsz] at e1
            have := HSZ.out
            simp only [lsz]; omega⟩
          have n0 := fun w => Lib.run_eql_slice_nil (P := Try.prog) w 151 154 (some ⟨g, off, none⟩) 2 cap 0 0 Try.underlying151
          go_upto_region 3 with (fail)
          have B1 := blk_new wr (.cells #[.int .i64 wv, .int .i64 0, .slice (some ⟨g, off, none⟩) 2 cap] 154)
          have A1 := (Fr.refl wr []).alloc (.cells #[.int .i64 wv, .int .i64 0, .slice (some ⟨g, off, none⟩) 2 cap] 154)
          have HC1 := Hd.mk (HCN.out.frame A1 (by simp))
          have HF1 := Hd.mk (HF.out.trans A1 (by simp))
          clear A1 c0 c1 c2 HF HCN
          generalize wr.alloc (.cells #[.int .i64 wv, .int .i64 0, .slice (some ⟨g, off, none⟩) 2 cap] 154) = w1 at *
          generalize wr.heap.size = g1 at *
          have d2 := blk_cell B1 2
          simp only [List.getElem?_toArray, List.getElem?_cons_zero, List.getElem?_cons_succ] at d2
          have HCL1 := Hd.mk (HCL.out.frame HF1.out (by simpa using (gv_ne HCL.out HC.out).1) (by simpa using (gv_ne HCL.out HC.out).2))
          have cc := blk_cell HCL1.out.c 0
          simp only [List.getElem?_toArray, List.getElem?_cons_zero] at cc
          clear B1
          go_upto_region 5 with (fail)
          clear n0
          go_wp2_with (fail)
          refine (HIH.out w1 (some ⟨g, off, none⟩) 2 cap [(a, va), (b, vb)] (some g) (fun k => f k + cl ((ps.map (·.1)).take j) k) hKs.out rfl HCAP.out (by omega) (by
            have := HSL.out.frame HF1.out (by intro k hk hm; cases hk; simp at hm; exact HGL.out hm)
            simpa [encs] using this) (by intro h; cases h; exact HGL.out rfl) (fun p hp => by
              simp only [List.mem_cons, List.not_mem_nil, or_false] at hp
              rcases hp with rfl | rfl
              · exact Ok.frame HF1.out (by simp) _ _ HOA.out
              · exact Ok.frame HF1.out (by simp) _ _ HOB.out) (fun p hp => by
              simp only [List.mem_cons, List.not_mem_nil, or_false] at hp
              rcases hp with rfl | rfl
              · exact HBX.out.1
              · exact HBX.out.2) HCL1.out HC1.out (fun k => by
            have e1 := cl_take_le (ps.map (·.1)) (j + 1) k
            have e2 := HBD.out k
            have e3 := cl_take_snoc (ps.map (·.1)) (j := j) (by rw [List.length_map]; exact h1) k
            have e4 : (ps.map (·.1))[j]'(by rw [List.length_map]; exact h1) = .pack a b := by rw [List.getElem_map, ← HX.out]
            rw [e4, T.cnt] at e3
            simp only [List.map_cons, List.map_nil, cl]; omega)).mono ?_
          rintro e w3 ⟨rfl, r1, r2⟩
          have R1 : Hd (Cnt w3 gl N (fun k => f k + cl ((ps.map (·.1)).take (j + 1)) k)) := ⟨Cnt.congr r1 (fun k => by
            have e3 := cl_take_snoc (ps.map (·.1)) (j := j) (by rw [List.length_map]; exact h1) k
            have e4 : (ps.map (·.1))[j]'(by rw [List.length_map]; exact h1) = .pack a b := by rw [List.getElem_map, ← HX.out]
            rw [e4, T.cnt] at e3
            simp only [List.map_cons, List.map_nil, cl]; omega)⟩
          have R2 := Hd.mk (HF1.out.trans r2 (by simp))
          clear r1 r2 cc d2
          go_wp2
          go_roundg (gk - 1)
          case measure => go_light; omega
          case rel => go_light; exact ⟨j + 1, by go_num, by omega, R1, R2⟩
      · go_wp2
        go_end0
        have := HCN.out
        rw [List.take_of_length_le (by rw [List.length_map]; omega)] at this
        exact ⟨rfl, this, HF.out⟩
end Go.Proofs.Ytofajcifjmhomaa.Lens
