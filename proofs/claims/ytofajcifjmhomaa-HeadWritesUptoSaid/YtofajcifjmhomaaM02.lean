/- Texts of this claim, one behind the other: Parts, HeadWr, BitsLives, Mem, RefR, RefW, RParts. -/
import Derived.Test.YtofajcifjmhomaaCodeC
import Derived.Test.YtofajcifjmhomaaM01
import Derived.Test.YtofajcifjmhomaaHeadPlanD
import Derived.Test.YtofajcifjmhomaaBitsR
import Derived.Test.YtofajcifjmhomaaBitsW
import Derived.Laws.BytesArg
import Derived.Laws.BytesString
import Derived.Laws.Strings
import Derived.Deep.RegionLaw
import Derived.Outline
/- A writer that lays down parts, and an encoder beside it. Conditions: none but the writer's. -/
set_option linter.unusedVariables false
set_option linter.unusedSimpArgs false
set_option maxRecDepth 100000
namespace Go.Proofs.Ytofajcifjmhomaa.Blk
open Go.RowKit Go.Proofs.Ytofajcifjmhomaa.Lib Go.Proofs.Ytofajcifjmhomaa.Ints Go.Proofs.Ytofajcifjmhomaa.Num Go.Proofs.Ytofajcifjmhomaa.Bits Go.Proofs.Ytofajcifjmhomaa.Code
theorem numOf_snoc (P : List (Nat × Nat)) (v n : Nat) : numOf (P ++ [(v, n)]) = numOf P + v * 2 ^ totOf P := by
  rw [numOf_app]; simp [numOf]
theorem totOf_snoc (P : List (Nat × Nat)) (v n : Nat) : totOf (P ++ [(v, n)]) = totOf P + n := by
  rw [totOf_app]; simp [totOf]
theorem totOf_snoc2 (P : List (Nat × Nat)) (p : Nat × Nat) : totOf (P ++ [p]) = totOf P + p.2 := totOf_snoc P p.1 p.2
/-- what a Put leaves: v of n bits behind -/
def PutL (w w' : World) (gw N m : Nat) (q : Option Nat) (p : Nat × Nat) : Prop := ∃ q', Tl w' gw 78 (N + p.1 * 2 ^ m) (m + p.2) q' ∧ Aft w q q' ∧ Fr w w' (gw :: q.toList)
/-- a writer that has laid down P behind N, m -/
structure Pw (w0 w : World) (gw : Nat) (q0 q : Option Nat) (N m : Nat) (P : List (Nat × Nat)) : Prop where
  tl : Tl w gw 78 (N + numOf P * 2 ^ m) (m + totOf P) q
  aft : Aft w0 q0 q
  fr : Fr w0 w (gw :: q0.toList)
section
variable {w0 w w' : World} {gw N m : Nat} {q0 q : Option Nat} {P Q : List (Nat × Nat)}
theorem Pw.start (h : Tl w gw 78 N m q) : Pw w w gw q q N m [] := ⟨by simpa [numOf, totOf] using h, Aft.refl _ _, Fr.refl _ _⟩
theorem Pw.call (h : Pw w0 w gw q0 q N m P) (hf : Fr w w' []) : Pw w0 w' gw q0 q N m P := ⟨h.tl.frame hf (by simp) (by simp), h.aft, h.fr.trans hf (by simp)⟩
theorem Pw.mem (h : Pw w0 w gw q0 q N m P) {x : Nat} (hx : x < w0.heap.size) (hm : x ∈ gw :: q.toList) : x ∈ gw :: q0.toList := by
  rcases List.mem_cons.1 hm with e | hm
  · subst e; simp
  · rcases h.aft.mem hm with h1 | h1
    · exact List.mem_cons_of_mem _ h1
    · omega
theorem Pw.put (h : Pw w0 w gw q0 q N m P) {p : Nat × Nat} (hp : PutL w w' gw (N + numOf P * 2 ^ m) (m + totOf P) q p) : ∃ q', Pw w0 w' gw q0 q' N m (P ++ [p]) := by
  obtain ⟨v, n⟩ := p
  obtain ⟨q', h1, h2, h3⟩ := hp
  refine ⟨q', ?_, h.aft.trans h2 h.fr.size, h.fr.trans h3 (fun x hx hm => h.mem hx hm)⟩
  rw [numOf_snoc, totOf_snoc]
  have e : N + (numOf P + v * 2 ^ totOf P) * 2 ^ m = N + numOf P * 2 ^ m + v * 2 ^ (m + totOf P) := by
    rw [Nat.add_mul, Nat.mul_assoc, ← Nat.pow_add, Nat.add_comm (totOf P) m, Nat.add_assoc]
  rw [e, ← Nat.add_assoc m]
  exact h1
/-- many parts -/
theorem Pw.more (h : Pw w0 w gw q0 q N m P) {q' : Option Nat} (hp : Pw w w' gw q q' (N + numOf P * 2 ^ m) (m + totOf P) Q) : Pw w0 w' gw q0 q' N m (P ++ Q) := by
  refine ⟨?_, h.aft.trans hp.aft h.fr.size, h.fr.trans hp.fr (fun x hx hm => h.mem hx hm)⟩
  have := hp.tl
  rw [Nat.add_assoc m, ← totOf_app] at this
  have e : N + numOf (P ++ Q) * 2 ^ m = N + numOf P * 2 ^ m + numOf Q * 2 ^ (m + totOf P) := by
    rw [numOf_app, Nat.add_mul, Nat.mul_assoc, ← Nat.pow_add, Nat.add_comm (totOf P) m, Nat.add_assoc]
  rw [e]
  exact this
theorem tl_blk (h : Tl w gw 78 N m q) : (∃ cs, w.heap[gw]? = some (.cells cs 78 (0, 0))) ∧ ∀ y, q = some y → ∃ cs, w.heap[y]? = some (.cells cs 5 (0, 0)) := by
  obtain ⟨sv, hb, ho, rfl, _⟩ := h
  exact ⟨⟨_, hb⟩, fun y hy => own_type ho hy⟩
/-- what is neither a writer nor bytes is none of the writer's -/
theorem tl_not (h : Tl w gw 78 N m q) {g : Nat} {cs : Array Value} {t : TypeId} {fr : Nat × Nat} (hb : w.heap[g]? = some (.cells cs t fr)) (h1 : t ≠ 78) (h2 : t ≠ 5) : g ∉ gw :: q.toList := by
  obtain ⟨⟨ds, hd⟩, hq⟩ := tl_blk h
  intro hm
  rcases List.mem_cons.1 hm with e | hm
  · exact blk_ne hb hd h1 e
  · obtain ⟨es, he⟩ := hq g (by simpa using hm)
    exact blk_ne hb he h2 rfl
theorem tl_keep (h : Tl w gw 78 N m q) {g : Nat} {cs : Array Value} {t : TypeId} {fr : Nat × Nat} (hb : w.heap[g]? = some (.cells cs t fr)) (h1 : t ≠ 78) (h2 : t ≠ 5) (hf : Fr w w' (gw :: q.toList)) : w'.heap[g]? = some (.cells cs t fr) := hf.blk hb (tl_not h hb h1 h2)
/-- an encoder of these lengths -/
def EnP (w : World) (g : Nat) (lens : List Int) : Prop := ∃ ga da B db L, En w g ga da B db lens L
theorem EnP.call {g : Nat} {lens : List Int} (h : EnP w g lens) (hf : Fr w w' []) : EnP w' g lens := by
  obtain ⟨ga, da, B, db, L, h⟩ := h
  exact ⟨ga, da, B, db, L, h.frame hf (by simp)⟩
theorem EnP.keep {g : Nat} {lens : List Int} (h : EnP w g lens) (hT : Tl w gw 78 N m q) (hf : Fr w w' (gw :: q.toList)) : EnP w' g lens := by
  obtain ⟨ga, da, B, db, L, h⟩ := h
  obtain ⟨ds, hds⟩ := own_type h.lens_ (k := ga) rfl
  refine ⟨ga, da, B, db, L, h.frame hf ⟨tl_not hT h.blk (by decide) (by decide), tl_not hT hds (by decide) (by decide), fun y hy => ?_⟩⟩
  obtain ⟨es, hes⟩ := own_type h.codes_ hy
  exact tl_not hT hes (by decide) (by decide)
theorem eput {g : Nat} {lens : List Int} (s : Int) (hE : EnP w g lens) (hT : Tl w gw 78 N m q) (hm : m + 15 ≤ 1125899906842624) (er : Int) (her : er = if bitsOf lens s = 0 then 53 else 0) :
    Calls Try.prog 58 #[.pointer (some ⟨g, 0, none⟩), .pointer (some ⟨gw, 0, none⟩), .int .i64 s] w fun e w' => e = .returned (.int .i64 er) ∧ PutL w w' gw N m q (Code.part lens s) := by
  obtain ⟨ga, da, B, db, L, hE⟩ := hE
  by_cases h0 : bitsOf lens s = 0
  · rw [her, if_pos h0]
    refine (put_none s h0 gw hE).mono ?_
    rintro e w2 ⟨rfl, rfl⟩
    exact ⟨rfl, q, by simpa [Code.part, h0, rv] using hT, Aft.refl _ _, Fr.refl _ _⟩
  · rw [her, if_neg h0]
    refine (put_some s _ _ rfl rfl h0 gw hE hm hT).mono ?_
    rintro e w2 ⟨rfl, q', h1, h2, h3⟩
    exact ⟨rfl, q', h1, h2, h3⟩
theorem wput (a n : Int) (v : Nat) (ha : a = (v : Nat)) (hv : v < 2 ^ n.toNat) (h0 : 0 ≤ n) (h1 : n ≤ 56) (hT : Tl w gw 78 N m q) (hm : m + n.toNat ≤ 1125899906842624) :
    Calls Try.prog 30 #[.pointer (some ⟨gw, 0, none⟩), .int .u64 a, .int .i64 n] w fun e w' => e = .returned (.int .i64 0) ∧ PutL w w' gw N m q (v, n.toNat) := by
  refine (put_ok a n v w ha (mayN_ok h0 h1 hv) hm hT).mono ?_
  rintro e w2 ⟨rfl, q', h1, h2, h3⟩
  exact ⟨rfl, q', h1, h2, h3⟩
end
theorem part_le {lens : List Int} (hc : check lens = 0) (s : Int) : (Code.part lens s).2 ≤ 15 := by
  unfold Code.part
  by_cases h : bitsOf lens s = 0
  · simp only [h]; omega
  · exact (bitsOf_fits hc h).2.2.2.1
theorem Pw.after {w0 w1 w2 : World} {gw N m : Nat} {q q' : Option Nat} {P : List (Nat × Nat)} (hf : Fr w0 w1 []) (h : Pw w1 w2 gw q q' N m P) : Pw w0 w2 gw q q' N m P :=
  ⟨h.tl, (Aft.refl w0 q).trans h.aft hf.size, (hf.mono (G := gw :: q.toList) (fun k _ hm => by cases hm)).trans h.fr (fun x _ hm => hm)⟩
/-- a row that is none of the writer's stays -/
theorem own_keep {w w' : World} {gw N m : Nat} {q : Option Nat} {base : Nat} {e : TypeId} {size n : Nat} {v : Value} {xs : List Value} (hT : Tl w gw 78 N m q) (hf : Fr w w' (gw :: q.toList)) (h : w.ownsRow base e size v n xs) (h1 : e ≠ 78) (h2 : e ≠ 5) : w'.ownsRow base e size v n xs :=
  own_frame h hf (fun k hk => by
    obtain ⟨cs, hcs⟩ := own_type h hk
    exact tl_not hT hcs h1 h2)
end Go.Proofs.Ytofajcifjmhomaa.Blk
/- Chapter 08: Write walked. Conditions: the writer has fewer than 2^49 bits. -/
set_option linter.unusedVariables false
set_option linter.unusedSimpArgs false
set_option maxRecDepth 100000
namespace Go.Proofs.Ytofajcifjmhomaa.Head
open Go.RowKit Go.Proofs.Ytofajcifjmhomaa.Lib Go.Proofs.Ytofajcifjmhomaa.Ints Go.Proofs.Ytofajcifjmhomaa.Runs Go.Proofs.Ytofajcifjmhomaa.Num Go.Proofs.Ytofajcifjmhomaa.Blk
def runP (hl : List Int) (r : Int × Int) : List (Nat × Nat) := [Code.part hl r.1, ((r.2 - leastN r.1).toNat, (kbits r.1).toNat)]
def ordP (hl : List Int) (k : Nat) : List (Nat × Nat) := (ord.take k).map fun s => ((hl.getD s 0).toNat, 3)
def runsP (hl : List Int) (rs : List (Int × Int)) : List (Nat × Nat) := rs.flatMap (runP hl)
/-- a head's parts -/
def headP (lit dist : List Int) : List (Nat × Nat) :=
  [((cutL lit 257).length - 257, 5), ((distL dist).length - 1, 5), (toldN (hlens (hruns lit dist)) 19 - 4, 4)] ++ ordP (hlens (hruns lit dist)) (toldN (hlens (hruns lit dist)) 19) ++ runsP (hlens (hruns lit dist)) (hruns lit dist)
theorem runsP_take {hl : List Int} {rs : List (Int × Int)} {j : Nat} (h : j < rs.length) : runsP hl (rs.take (j + 1)) = runsP hl (rs.take j) ++ runP hl rs[j] := by
  unfold runsP
  rw [List.take_succ_eq_append_getElem h, List.flatMap_append]; simp
theorem ordP_take (hl : List Int) {j : Nat} (h : j < 19) : ordP hl (j + 1) = ordP hl j ++ [((hl.getD (ord.getD j 0) 0).toNat, 3)] := by
  unfold ordP
  have h' : j < ord.length := h
  have e : ord.getD j 0 = ord[j] := by rw [List.getD_eq_getElem?_getD, List.getElem?_eq_getElem h']; rfl
  rw [List.take_succ_eq_append_getElem h', List.map_append, e]
  rfl
theorem ordP_tot (hl : List Int) : ∀ k, k ≤ 19 → totOf (ordP hl k) = 3 * k
  | 0, _ => rfl
  | k + 1, h => by rw [ordP_take hl (by omega), totOf_snoc2, ordP_tot hl k (by omega)]; simp only; omega
theorem runP_tot {hl : List Int} (hc : Code.check hl = 0) (r : Int × Int) : totOf (runP hl r) ≤ 22 := by
  have h1 := part_le hc r.1
  have h2 := kbits_le r.1
  simp only [runP, totOf]
  omega
theorem runsP_tot {hl : List Int} (hc : Code.check hl = 0) : ∀ rs, totOf (runsP hl rs) ≤ 22 * rs.length
  | [] => by simp [runsP, totOf]
  | r :: rs => by
    have h1 := runP_tot hc r
    have h2 := runsP_tot hc rs
    have e : runsP hl (r :: rs) = runP hl r ++ runsP hl rs := by simp [runsP]
    rw [e, totOf_app, List.length_cons]
    omega
theorem ordC_get {j : Nat} (h : j < 19) : ordC[j]? = some (.int .i64 ((ord.getD j 0 : Nat) : Int)) := by
  have : ∀ j, j < 19 → ordC[j]? = some (.int .i64 ((ord.getD j 0 : Nat) : Int)) := by
    intro j hj
    unfold ordC
    rw [List.getElem?_toArray, i64s_get, List.getElem?_map, List.getD_eq_getElem?_getD, List.getElem?_eq_getElem (show j < ord.length from hj)]
    rfl
  exact this j h
/-- what a Write leaves: where it answers 0, the parts behind; else nothing -/
def WrP (w w' : World) (gw N m : Nat) (q : Option Nat) (ok : Bool) (P : List (Nat × Nat)) : Prop := (ok = true → ∃ q', Pw w w' gw q q' N m P) ∧ (ok = false → Fr w w' [])
set_option maxHeartbeats 8000000 in
theorem hwrite_any (w : World) (A B : Option Addr) (n c m' d : Nat) (lit dist : List Int) (p q' : Option Nat) (hX : SlArg w A n c (i64s lit) p) (hY : SlArg w B m' d (i64s dist) q') (er : Int) (her : er = if okH lit dist then 0 else 80)
    (gw N m : Nat) (q : Option Nat) (hT : Bits.Tl w gw 78 N m q) (hm : m ≤ 562949953421312) :
    Calls Try.prog 32 #[.pointer (some ⟨gw, 0, none⟩), .slice A n c, .slice B m' d] w fun e w' => e = .returned (.int .i64 er) ∧ WrP w w' gw N m q (okH lit dist) (headP lit dist) := by
  have HX := Hd.mk hX
  have HY := Hd.mk hY
  have HER := Hd.mk her
  have T0 := Hd.mk hT
  clear hX hY her hT
  go_enter Try.func32, Try.ntmps32
  go_wp2_with (fail)
  refine (newPlan_any w A B n c m' d lit dist p q' HX.out HY.out).mono ?_
  intro e w1 hp
  unfold PlanPost at hp
  obtain ⟨hp1, hp2⟩ := hp
  obtain ⟨b, hb⟩ : ∃ b, b = okH lit dist := ⟨_, rfl⟩
  rw [← hb] at hp1 hp2 HER
  have HB := Hd.mk hb
  clear hb
  cases b with
  | false =>
    obtain ⟨rfl, hf⟩ := hp2 rfl
    have F1 := Hd.mk hf
    obtain rfl : er = 80 := HER.out
    clear hp1 hp2 hf
    unfold noPlan
    go_wp2
    go_ret
    exact ⟨rfl, (fun h => by rw [← HB.out] at h; cases h), fun _ => F1.out.alloc _⟩
  | true =>
    obtain ⟨A1, n1, c1, B1, d1, rfl, hpl, hf⟩ := hp1 rfl
    obtain rfl : er = 0 := HER.out
    obtain ⟨r1, r2, r3⟩ := hruns_ok HB.out.symm
    obtain ⟨_, _, a3, a4⟩ := allL_ok HB.out.symm
    have hdl := distL_len dist (okH_parts HB.out.symm).2.2.1
    have HLE := hlens_le (rs := hruns lit dist) (by omega)
    have hl19 := hlens_len (rs := hruns lit dist) (by omega)
    have hck := hlens_check (rs := hruns lit dist) (by omega)
    have hnr : n1 = (hruns lit dist).length := by have := hpl.runs.1; rw [cells_len] at this; omega
    have F1 := Hd.mk hf
    have htl := toldN_le (hlens (hruns lit dist)) 19
    have htg := toldN_ge (hlens (hruns lit dist)) 19
    have HP : Hd (headP lit dist = [((cutL lit 257).length - 257, 5), ((distL dist).length - 1, 5), (toldN (hlens (hruns lit dist)) 19 - 4, 4)] ++ ordP (hlens (hruns lit dist)) (toldN (hlens (hruns lit dist)) 19) ++ runsP (hlens (hruns lit dist)) (hruns lit dist)) := ⟨rfl⟩
    have O1 := Hd.mk hpl.runs
    have O2 := Hd.mk hpl.lens
    unfold planC
    obtain ⟨td, htd⟩ : ∃ td, td = toldN (hlens (hruns lit dist)) 19 := ⟨_, rfl⟩
    rw [← htd] at htl htg HP ⊢
    obtain ⟨rs, hrs⟩ : ∃ rs, rs = hruns lit dist := ⟨_, rfl⟩
    obtain ⟨hl, hhl⟩ : ∃ hl, hl = hlens (hruns lit dist) := ⟨_, rfl⟩
    rw [← hhl] at O2 HLE hl19 HP hck
    rw [← hrs] at O1 r1 r2 hnr HP
    obtain ⟨xa, hxa⟩ : ∃ xa, xa = (cutL lit 257).length := ⟨_, rfl⟩
    obtain ⟨xb, hxb⟩ : ∃ xb, xb = (distL dist).length := ⟨_, rfl⟩
    rw [← hxa] at a3 a4 HP ⊢
    rw [← hxb] at hdl HP ⊢
    have HRB := Hd.mk r1
    have HLE2 := Hd.mk HLE
    have HCK := Hd.mk hck
    have T1 := Hd.mk (T0.out.frame hf (by simp) (by simp))
    clear hp1 hp2 hf hpl HLE hrs hhl htd r1 r3 HX HY HER hck hxa hxb
    subst hnr
    go_upto_region 4 with (fail)
    have B2 : Hd ((w1.alloc (.cells #[.int .i64 (xa : Nat), .int .i64 (xb : Nat), .slice A1 rs.length c1, .slice B1 19 d1, .int .i64 (td : Nat)] 109)).heap[w1.heap.size]? = some (.cells #[.int .i64 (xa : Nat), .int .i64 (xb : Nat), .slice A1 rs.length c1, .slice B1 19 d1, .int .i64 (td : Nat)] 109 (0, 0))) := ⟨blk_new w1 _⟩
    have A2 := (Fr.refl w1 []).alloc (.cells #[.int .i64 (xa : Nat), .int .i64 (xb : Nat), .slice A1 rs.length c1, .slice B1 19 d1, .int .i64 (td : Nat)] 109)
    have OA := Hd.mk (own_frame O1.out A2 (by simp))
    have OB := Hd.mk (own_frame O2.out A2 (by simp))
    have F2 := Hd.mk (F1.out.trans A2 (by simp))
    have T2 := Hd.mk (T1.out.frame A2 (by simp) (by simp))
    clear A2 O1 O2 F1 T1
    generalize w1.alloc (.cells #[.int .i64 (xa : Nat), .int .i64 (xb : Nat), .slice A1 rs.length c1, .slice B1 19 d1, .int .i64 (td : Nat)] 109) = w2 at *
    generalize w1.heap.size = g at *
    obtain ⟨bx, _, rfl⟩ : ∃ bx, True ∧ B1 = some ⟨bx, 0, none⟩ := by
      obtain ⟨g8, c8', e8, _⟩ := own_some OB.out (by decide)
      injection e8 with e8 _ _
      exact ⟨g8, trivial, e8⟩
    have k0 := blk_cell B2.out 0
    simp only [List.getElem?_toArray, List.getElem?_cons_zero, List.getElem?_cons_succ] at k0
    go_wp2_with (fail)
    refine (wput ((xa : Int) - 257) 5 (xa - 257) (by omega) (by have : (2 : Nat) ^ (5 : Int).toNat = 32 := rfl; omega) (by omega) (by omega) T2.out (by have : (5 : Int).toNat = 5 := rfl; omega)).mono ?_
    rintro e w3 ⟨rfl, hpl⟩
    have hpl' := hpl
    obtain ⟨_, _, _, f3⟩ := hpl'
    have B3 := Hd.mk (tl_keep T2.out B2.out (by decide) (by decide) f3)
    have OA3 := Hd.mk (own_keep T2.out f3 OA.out (by decide) (by decide))
    have OB3 := Hd.mk (own_keep T2.out f3 OB.out (by decide) (by decide))
    obtain ⟨q3, h3⟩ := (Pw.start T2.out).put (by simpa [numOf, totOf] using hpl)
    have W3 : Hd (Pw w2 w3 gw q q3 N m [(xa - 257, 5)]) := ⟨h3⟩
    clear hpl f3 h3 k0 B2 OA OB
    have k1 := blk_cell B3.out 1
    simp only [List.getElem?_toArray, List.getElem?_cons_zero, List.getElem?_cons_succ] at k1
    go_wp2_with (fail)
    refine (wput ((xb : Int) - 1) 5 (xb - 1) (by omega) (by have : (2 : Nat) ^ (5 : Int).toNat = 32 := rfl; omega) (by omega) (by omega) W3.out.tl (by have : (5 : Int).toNat = 5 := rfl; have : totOf [(xa - 257, 5)] = 5 := rfl; omega)).mono ?_
    rintro e w4 ⟨rfl, hpl⟩
    have hpl' := hpl
    obtain ⟨_, _, _, f3⟩ := hpl'
    have B4 := Hd.mk (tl_keep W3.out.tl B3.out (by decide) (by decide) f3)
    have OA4 := Hd.mk (own_keep W3.out.tl f3 OA3.out (by decide) (by decide))
    have OB4 := Hd.mk (own_keep W3.out.tl f3 OB3.out (by decide) (by decide))
    obtain ⟨q4, h3⟩ := W3.out.put hpl
    have W4 : Hd (Pw w2 w4 gw q q4 N m [(xa - 257, 5), (xb - 1, 5)]) := ⟨h3⟩
    clear hpl f3 h3 k1 B3 OA3 OB3 W3
    have k4 := blk_cell B4.out 4
    simp only [List.getElem?_toArray, List.getElem?_cons_zero, List.getElem?_cons_succ] at k4
    go_wp2_with (fail)
    refine (wput ((td : Int) - 4) 4 (td - 4) (by omega) (by have : (2 : Nat) ^ (4 : Int).toNat = 16 := rfl; omega) (by omega) (by omega) W4.out.tl (by have : (4 : Int).toNat = 4 := rfl; have : totOf [(xa - 257, 5), (xb - 1, 5)] = 10 := rfl; omega)).mono ?_
    rintro e w5 ⟨rfl, hpl⟩
    have hpl' := hpl
    obtain ⟨_, _, _, f3⟩ := hpl'
    have B5 := Hd.mk (tl_keep W4.out.tl B4.out (by decide) (by decide) f3)
    have OA5 := Hd.mk (own_keep W4.out.tl f3 OA4.out (by decide) (by decide))
    have OB5 := Hd.mk (own_keep W4.out.tl f3 OB4.out (by decide) (by decide))
    obtain ⟨q5, h3⟩ := W4.out.put hpl
    have W5 : Hd (Pw w2 w5 gw q q5 N m [(xa - 257, 5), (xb - 1, 5), (td - 4, 4)]) := ⟨h3⟩
    clear hpl f3 h3 k4 B4 OA4 OB4 W4
    go_upto_region 10 with (first
      | (go_at_call 56; refine (order_any w5).mono ?_; rintro e w6 ⟨rfl, hf⟩; have F6 := Hd.mk hf; clear hf)
      | (refine wpList_store_row rfl 47 _ _ rfl w6.heap.size ordC rfl rfl 47 _ (by exact blk_new w6 _) (by kernel_rfl) (by kernel_rfl) (by kernel_rfl) ?_))
    obtain ⟨w7, hw7⟩ : ∃ w7, w7 = (w6.alloc (.cells #[.int .i64 0, .int .i64 0, .int .i64 0, .int .i64 0, .int .i64 0, .int .i64 0, .int .i64 0, .int .i64 0, .int .i64 0, .int .i64 0, .int .i64 0, .int .i64 0, .int .i64 0, .int .i64 0, .int .i64 0, .int .i64 0, .int .i64 0, .int .i64 0, .int .i64 0] 47)).setRow w6.heap.size ordC := ⟨_, rfl⟩
    have HO7 : Hd (w7.heap[w6.heap.size]? = some (.cells ordC 47 (0, 0))) := ⟨by rw [hw7]; exact setRow_heap _ _ _ _ _ _ (blk_new w6 _)⟩
    have f7 : Fr w5 w7 [] := by rw [hw7]; exact Code.Fr.setRow (F6.out.alloc _) _ (.inr F6.out.size)
    rw [← hw7]
    have B7 := Hd.mk (f7.blk B5.out (by simp))
    have OA7 := Hd.mk (own_frame OA5.out f7 (by simp))
    have OB7 := Hd.mk (own_frame OB5.out f7 (by simp))
    have W7 := Hd.mk (W5.out.call f7)
    clear hw7 f7 B5 OA5 OB5 W5 F6
    generalize w6.heap.size = go at *
    have k4 := blk_cell B7.out 4
    simp only [List.getElem?_toArray, List.getElem?_cons_zero, List.getElem?_cons_succ] at k4
    have htd19 : (td : Int) ≤ 19 := by omega
    have htd0 : (0 : Int) ≤ td := by omega
    have W8 : Hd (∃ qj, Pw w2 w7 gw q qj N m ([(xa - 257, 5), (xb - 1, 5), (td - 4, 4)] ++ ordP hl 0)) := ⟨q5, by have := W7.out; simpa [ordP] using this⟩
    clear W7
    go_wp2
    go_loopg [51] td (fun kq jv wr => ∃ j : Nat, jv = .int .i64 (j : Nat) ∧ j + kq = td ∧ Hd (wr.heap[g]? = some (.cells #[.int .i64 (xa : Nat), .int .i64 (xb : Nat), .slice A1 rs.length c1, .slice (some ⟨bx, 0, none⟩) 19 d1, .int .i64 (td : Nat)] 109 (0, 0))) ∧ Hd (wr.heap[go]? = some (.cells ordC 47 (0, 0))) ∧ Hd (wr.ownsRow 0 35 2 (.slice A1 rs.length c1) rs.length (cells rs)) ∧ Hd (wr.ownsRow 0 3 1 (.slice (some ⟨bx, 0, none⟩) 19 d1) 19 (i64s hl)) ∧ Hd (∃ qj, Pw w2 wr gw q qj N m ([(xa - 257, 5), (xb - 1, 5), (td - 4, 4)] ++ ordP hl j)))
    case atStart => exact ⟨0, rfl, by omega, B7, HO7, OA7, OB7, W8⟩
    case round =>
      obtain ⟨j, rfl, hj, HB2, HO, HOA, HOB, HW⟩ := hrel
      obtain ⟨⟨qj, hPj⟩⟩ := HW
      have PJ := Hd.mk hPj
      clear hPj
      have hpt := ordP_tot hl j (by omega)
      have hmj : Hd (totOf ([(xa - 257, 5), (xb - 1, 5), (td - 4, 4)] ++ ordP hl j) ≤ 71) := ⟨by rw [totOf_app, hpt]; have : totOf [(xa - 257, 5), (xb - 1, 5), (td - 4, 4)] = 14 := rfl; omega⟩
      clear hpt
      by_cases h1 : j < td
      · have kO := (blk_cell HO.out j).trans (ordC_get (by omega))
        have hol := ord_lt j (by omega)
        have HT := Hd.mk (ordP_take hl (show j < 19 by omega))
        have HL := HLE2.out (ord.getD j 0)
        have kl := i64_at (sl_of_own HOB.out) (i := ord.getD j 0) (by omega) rfl
        rw [Nat.zero_add] at kl
        have k3 := blk_cell HB2.out 3
        simp only [List.getElem?_toArray, List.getElem?_cons_zero, List.getElem?_cons_succ] at k3
        generalize ord.getD j 0 = o at *
        generalize hl.getD o 0 = x at *
        obtain ⟨x, rfl⟩ := Int.eq_ofNat_of_zero_le HL.1
        rw [Int.toNat_natCast] at HT
        go_wp2_with (fail)
        refine (wput (x : Int) 3 x rfl (by have : (2 : Nat) ^ (3 : Int).toNat = 8 := rfl; omega) (by omega) (by omega) PJ.out.tl (by have : (3 : Int).toNat = 3 := rfl; have := hmj.out; omega)).mono ?_
        rintro e w8 ⟨rfl, hpl⟩
        have hpl' := hpl
        obtain ⟨_, _, _, f3⟩ := hpl'
        have HB3 := Hd.mk (tl_keep PJ.out.tl HB2.out (by decide) (by decide) f3)
        have HO3 := Hd.mk (tl_keep PJ.out.tl HO.out (by decide) (by decide) f3)
        have HOA3 := Hd.mk (own_keep PJ.out.tl f3 HOA.out (by decide) (by decide))
        have HOB3 := Hd.mk (own_keep PJ.out.tl f3 HOB.out (by decide) (by decide))
        obtain ⟨q8, h3⟩ := PJ.out.put hpl
        have W3 := Hd.mk h3
        clear hpl f3 h3
        go_wp2
        go_roundg (gk - 1)
        case measure => omega
        case rel => exact ⟨j + 1, by go_num, by omega, HB3, HO3, HOA3, HOB3, ⟨q8, by rw [HT.out, ← List.append_assoc]; exact W3.out⟩⟩
      · obtain rfl : j = td := by omega
        have k3 := blk_cell HB2.out 3
        simp only [List.getElem?_toArray, List.getElem?_cons_zero, List.getElem?_cons_succ] at k3
        clear HO k4 HO7 OA7 OB7 W8 B7
        go_wp2_with (fail)
        refine (Code.newenc_any wr (some ⟨bx, 0, none⟩) 19 d1 hl (some bx) ?_ 0 HCK.out.symm).mono ?_
        · obtain ⟨A', c', e1, h2, h3, _⟩ := own_slice HOB.out
          injection e1 with e1 _ e3
          subst e3
          exact ⟨by rw [i64s_length]; exact hl19, h2, h3, (fun h => by cases h), sl_of_own HOB.out, fun b hb => own_lt HOB.out hb⟩
        rintro e w8 ⟨p1, rfl, hf1, _, h3⟩
        obtain ⟨gx, ga, da, Bx, db, L, rfl, hE, _⟩ := h3 rfl
        have EX : Hd (EnP w8 gx hl) := ⟨⟨ga, da, Bx, db, L, hE⟩⟩
        have HB8 := Hd.mk (hf1.blk HB2.out (by simp))
        have HOA8 := Hd.mk (own_frame HOA.out hf1 (by simp))
        have PJ8 := Hd.mk (PJ.out.call hf1)
        have k2 := blk_cell HB8.out 2
        simp only [List.getElem?_toArray, List.getElem?_cons_zero, List.getElem?_cons_succ] at k2
        clear hf1 h3 hE HB2 HOA HOB PJ k3
        generalize [(xa - 257, 5), (xb - 1, 5), (j - 4, 4)] ++ ordP hl j = PR at *
        have W9 : Hd (∃ qj, Pw w2 w8 gw q qj N m (PR ++ runsP hl (rs.take 0))) := ⟨qj, by have := PJ8.out; simpa [runsP] using this⟩
        clear PJ8
        go_wp2
        go_loopg [73] rs.length (fun kq jv wr => ∃ j : Nat, jv = .int .i64 (j : Nat) ∧ j + kq = rs.length ∧ Hd (EnP wr gx hl) ∧ Hd (wr.ownsRow 0 35 2 (.slice A1 rs.length c1) rs.length (cells rs)) ∧ Hd (∃ qj, Pw w2 wr gw q qj N m (PR ++ runsP hl (rs.take j))))
        case atStart => exact ⟨0, rfl, by omega, EX, HOA8, W9⟩
        case round =>
          obtain ⟨i, rfl, hi, EXi, HOAi, HW⟩ := hrel
          obtain ⟨⟨qi, hPi⟩⟩ := HW
          have PI := Hd.mk hPi
          clear hPi
          have hmi : Hd (totOf (PR ++ runsP hl (rs.take i)) ≤ 71 + 22 * 316) := ⟨by
            rw [totOf_app]
            have h1 := runsP_tot HCK.out (rs.take i)
            rw [List.length_take] at h1
            have := hmj.out
            omega⟩
          by_cases h2 : i < rs.length
          · obtain ⟨a, o1, e1, _, hcc⟩ := Sl.row (enc := enc) (sz := 2) (fun _ => rfl) (sl_of_own2 HOAi.out (by omega)) h2 (by decide)
            subst e1
            obtain ⟨r, hr⟩ : ∃ r, r = rs[i] := ⟨_, rfl⟩
            rw [← hr] at hcc
            have hrb := HRB.out r (by rw [hr]; exact List.getElem_mem h2)
            have c0 := hcc 0 (by decide)
            have c1' := hcc 1 (by decide)
            have HTK : Hd (runsP hl (rs.take (i + 1)) = runsP hl (rs.take i) ++ runP hl r) := ⟨by rw [runsP_take h2, hr]⟩
            obtain ⟨rsym, rcnt⟩ := r
            obtain ⟨hb1, hb2, hb3, hb4, hb5⟩ := hrb
            simp only at hb1 hb2 hb3 hb4 hb5
            simp only [enc, List.getElem?_cons_zero, List.getElem?_cons_succ, Nat.add_zero] at c0 c1'
            have HRP : Hd (runP hl (rsym, rcnt) = [Code.part hl rsym, ((rcnt - leastN rsym).toNat, (kbits rsym).toNat)]) := ⟨rfl⟩
            have hkb := kbits_le rsym
            have hml := mostN_le rsym
            have hlp := leastN_pos rsym
            obtain ⟨kb, hkb'⟩ : ∃ kb, kb = kbits rsym := ⟨_, rfl⟩
            obtain ⟨lo, hlo'⟩ : ∃ lo, lo = leastN rsym := ⟨_, rfl⟩
            rw [← hkb'] at HRP hkb hb5
            rw [← hlo'] at HRP hlp hb3 hb5
            have HKB := Hd.mk hkb'
            have HLO := Hd.mk hlo'
            generalize runsP hl (rs.take i) = RP at *
            clear hcc hr hkb' hlo'
            go_upto_region 19 with (fail)
            have bz := blk_new wr (.cells #[.int .i64 rsym, .int .i64 rcnt] 35)
            have A3 := (Fr.refl wr []).alloc (.cells #[.int .i64 rsym, .int .i64 rcnt] 35)
            have BZ := Hd.mk bz
            have EX3 := Hd.mk (EXi.out.call A3)
            have HOA3 := Hd.mk (own_frame HOAi.out A3 (by simp))
            have P3 := Hd.mk (PI.out.call A3)
            clear bz A3 EXi HOAi PI c0 c1'
            generalize wr.alloc (.cells #[.int .i64 rsym, .int .i64 rcnt] 35) = w9 at *
            generalize wr.heap.size = gr at *
            have d0 := blk_cell BZ.out 0
            simp only [List.getElem?_toArray, List.getElem?_cons_zero] at d0
            go_wp2_with (fail)
            obtain ⟨er1, he1⟩ : ∃ e1 : Int, e1 = if Code.bitsOf hl rsym = 0 then 53 else 0 := ⟨_, rfl⟩
            refine (eput rsym EX3.out P3.out.tl (by have := hmi.out; omega) er1 he1).mono ?_
            clear he1
            rintro e w10 ⟨rfl, hpl⟩
            have hpl' := hpl
            obtain ⟨_, _, _, f4⟩ := hpl'
            have BZ4 := Hd.mk (tl_keep P3.out.tl BZ.out (by decide) (by decide) f4)
            have EX4 := Hd.mk (EX3.out.keep P3.out.tl f4)
            have HOA4 := Hd.mk (own_keep P3.out.tl f4 HOA3.out (by decide) (by decide))
            obtain ⟨q4', h4⟩ := P3.out.put hpl
            have P4 := Hd.mk h4
            clear hpl f4 h4 d0 BZ EX3 HOA3 P3
            have d0 := blk_cell BZ4.out 0
            simp only [List.getElem?_toArray, List.getElem?_cons_zero] at d0
            have hm4 : Hd (totOf (PR ++ RP ++ [Code.part hl rsym]) ≤ 71 + 22 * 316 + 15) := ⟨by have := hmi.out; have := part_le HCK.out rsym; rw [totOf_snoc2]; omega⟩
            go_wp2_with (fail)
            refine (kinds_full w10 rsym kb lo _ hb1 hb2 HKB.out HLO.out rfl).mono ?_
            rintro e w11 ⟨rfl, f5⟩
            have BZ5 := Hd.mk (f5.blk BZ4.out (by simp))
            have EX5 := Hd.mk (EX4.out.call f5)
            have HOA5 := Hd.mk (own_frame HOA4.out f5 (by simp))
            have P5 := Hd.mk (P4.out.call f5)
            clear f5 d0 BZ4 EX4 HOA4 P4
            obtain ⟨mo, hmo⟩ : ∃ mo, mo = mostN rsym := ⟨_, rfl⟩
            rw [← hmo]
            clear hmo
            go_upto_region 21 with (fail)
            have bz := blk_new w11 (.cells #[.int .i64 kb, .int .i64 lo, .int .i64 mo] 96)
            have A6 := (Fr.refl w11 []).alloc (.cells #[.int .i64 kb, .int .i64 lo, .int .i64 mo] 96)
            have BZ6 := Hd.mk (A6.blk BZ5.out (by simp))
            have KZ6 := Hd.mk bz
            have EX6 := Hd.mk (EX5.out.call A6)
            have HOA6 := Hd.mk (own_frame HOA5.out A6 (by simp))
            have P6 := Hd.mk (P5.out.call A6)
            clear bz A6 BZ5 EX5 HOA5 P5
            generalize w11.alloc (.cells #[.int .i64 kb, .int .i64 lo, .int .i64 mo] 96) = w12 at *
            generalize w11.heap.size = gz at *
            have d1 := blk_cell BZ6.out 1
            have z1 := blk_cell KZ6.out 1
            have z0 := blk_cell KZ6.out 0
            simp only [List.getElem?_toArray, List.getElem?_cons_zero, List.getElem?_cons_succ] at d1 z1 z0
            obtain ⟨ad, had⟩ := Int.eq_ofNat_of_zero_le (show 0 ≤ rcnt - lo by omega)
            obtain ⟨kbn, rfl⟩ := Int.eq_ofNat_of_zero_le hkb.1
            rw [had, Int.toNat_natCast, Int.toNat_natCast] at HRP
            rw [had, Int.toNat_natCast] at hb5
            have hadlt : ad < 2 ^ kbn := by exact_mod_cast hb5
            have had2 : ad ≤ 138 := by omega
            have HAL := Hd.mk hadlt
            have hrc : rcnt = lo + (ad : Int) := by omega
            subst hrc
            clear hb5 hadlt had
            go_wp2_with (fail)
            refine (wput (lo + (ad : Int) - lo) (kbn : Int) ad (by omega) (by simpa using HAL.out) (by omega) (by omega) P6.out.tl (by rw [Int.toNat_natCast]; have := hm4.out; omega)).mono ?_
            rintro e w13 ⟨rfl, hpl⟩
            rw [Int.toNat_natCast] at hpl
            have hpl' := hpl
            obtain ⟨_, _, _, f7⟩ := hpl'
            have EX7 := Hd.mk (EX6.out.keep P6.out.tl f7)
            have HOA7 := Hd.mk (own_keep P6.out.tl f7 HOA6.out (by decide) (by decide))
            obtain ⟨q7', h7⟩ := P6.out.put hpl
            have P7 := Hd.mk h7
            clear hpl f7 h7
            go_wp2
            go_roundg (gk - 1)
            case measure => omega
            case rel => exact ⟨i + 1, by go_num, by omega, EX7, HOA7, ⟨q7', by rw [HTK.out, HRP.out]; have := P7.out; simpa [List.append_assoc] using this⟩⟩
          · obtain rfl : i = rs.length := by omega
            have W10 : Hd (Pw w2 wr gw q qi N m (headP lit dist)) := ⟨by rw [HP.out]; have := PI.out; rwa [List.take_length] at this⟩
            go_wp2
            go_ret
            exact ⟨rfl, (fun _ => ⟨qi, Pw.after F2.out W10.out⟩), fun h => by rw [← HB.out] at h; cases h⟩
end Go.Proofs.Ytofajcifjmhomaa.Head
/- The document's first example goes so (lives), wherever it is asked. No condition. -/
set_option maxRecDepth 100000
set_option linter.unusedVariables false
set_option linter.unusedSimpArgs false
namespace Go.Proofs.Ytofajcifjmhomaa.Bits
open Go.RowKit Go.Proofs.Ytofajcifjmhomaa.Lib Go.Proofs.Ytofajcifjmhomaa.Num

theorem tl_new (w : World) (T : TypeId) (hT : T ≠ 5) : Tl (w.alloc (.cells #[.slice none 0 0, .int .i64 0] T)) w.heap.size T 0 0 none :=
  ⟨.slice none 0 0, blk_new w _, own_nil _ _ _ _, rfl, by simp, hT⟩
theorem rd_new (w : World) : Rd (w.alloc (.cells #[.int .u64 0, .int .i64 0, .int .i64 0] 55)) w.heap.size 0 0 0 :=
  ⟨blk_new w _, by simp, by omega⟩

end Go.Proofs.Ytofajcifjmhomaa.Bits
/- sapperref01's memory words: Same. No condition. -/
set_option maxRecDepth 100000
set_option linter.unusedVariables false
set_option linter.unusedSimpArgs false
namespace Go.Proofs.Ytofajcifjmhomaa.Bits
open Go.RowKit Go.Proofs.Ytofajcifjmhomaa.Lib Go.Proofs.Ytofajcifjmhomaa.Num

theorem conv_string {P : Program} {w : World} {src dst e : TypeId} {A : Option Addr} {c : Nat} {xs : List Int} {q : Option Nat} (hs : P.underlying src = some (.slice e)) (he : P.underlying e = some (.int .u8)) (hd : P.underlying dst = some .string)
    (h : Sl w A (u8s xs) q) (hA : A = none → xs.length = 0 ∧ c = 0) : (convert src dst (.slice A xs.length c)).run P w = .ok (.string (strOfNums xs)) w := by
  rcases A with _ | ad
  · obtain ⟨h0, rfl⟩ := hA rfl
    obtain rfl : xs = [] := List.eq_nil_of_length_eq_zero h0
    exact run_convert_bytes_nil w src e hs he 0 0 dst hd
  · have hl : (loadCells ad xs.length).run P w = .ok (xs.map (Value.int .u8)).toArray w := by
      have := run_loadCells_list (P := P) w ad (xs.map (Value.int .u8)) (h.news rfl)
      simpa using this
    rw [run_convert_bytes_string w src dst e _ xs.length c hs he hd, run_bytesToString w ad xs.length c xs hl, foldl_push_bytes]
    simp [strOfNums, ByteArray.empty, ByteArray.emptyWithCapacity]
    rfl
theorem str_eq {xs ys : List Int} (hx : ∀ x ∈ xs, 0 ≤ x ∧ x ≤ 255) (hy : ∀ x ∈ ys, 0 ≤ x ∧ x ≤ 255) : ((strOfNums xs).toList == (strOfNums ys).toList) = decide (xs = ys) := by
  have e : ∀ zs : List Int, (strOfNums zs).toList = zs.map fun n => UInt8.ofNat n.toNat := by
    intro zs
    rw [ByteArray.toList_eq]; simp [strOfNums]
  rw [e, e, Bool.eq_iff_iff]
  simp only [beq_iff_eq, decide_eq_true_eq]
  constructor
  · intro h
    induction xs generalizing ys with
    | nil => cases ys <;> simp_all
    | cons x xs ih =>
      cases ys with
      | nil => simp at h
      | cons y ys =>
        simp only [List.map_cons, List.cons.injEq] at h
        have h1 := hx x (by simp)
        have h2 := hy y (by simp)
        have e1 := congrArg UInt8.toNat h.1
        simp at e1
        rw [ih (fun z hz => hx z (by simp [hz])) (fun z hz => hy z (by simp [hz])) h.2]
        congr 1
        omega
  · rintro rfl; rfl
end Go.Proofs.Ytofajcifjmhomaa.Bits
/- The document's reader (sapperref03): what each method answers and leaves behind, in the same words as the program's. Conditions: at most 64 bits are held. -/
set_option maxRecDepth 100000
set_option linter.unusedVariables false
set_option linter.unusedSimpArgs false
namespace Go.Proofs.Ytofajcifjmhomaa.Bits
open Go.RowKit Go.Proofs.Ytofajcifjmhomaa.Lib Go.Proofs.Ytofajcifjmhomaa.Num

/-- the h bits of V, the lowest first -/
def bools (V h : Nat) : List Value := (List.range h).map fun i => .bool (V.testBit i)
theorem bools_length (V h : Nat) : (bools V h).length = h := by simp [bools]
theorem bools_get {V h i : Nat} (hi : i < h) : (bools V h)[i]? = some (.bool (V.testBit i)) := by simp [bools, hi]
theorem bools_snoc {V h : Nat} (hV : V < 2 ^ h) (b : Bool) : bools V h ++ [.bool b] = bools (V + b.toNat * 2 ^ h) (h + 1) := by
  apply List.ext_getElem?
  intro i
  by_cases h1 : i < h
  · rw [List.getElem?_append_left (by rw [bools_length]; exact h1), bools_get h1, bools_get (by omega)]
    congr 2
    rw [Nat.add_comm, Nat.mul_comm, Nat.testBit_two_pow_mul_add _ hV, if_pos h1]
  · by_cases h2 : i = h
    · subst h2
      rw [List.getElem?_append_right (by rw [bools_length]; omega), bools_length, bools_get (by omega), Nat.sub_self]
      simp only [List.getElem?_cons_zero]
      congr 2
      rw [Nat.add_comm, Nat.mul_comm, Nat.testBit_two_pow_mul_add _ hV, if_neg (by omega), Nat.sub_self]
      cases b <;> rfl
    · rw [List.getElem?_eq_none (by simp [bools_length]; omega), List.getElem?_eq_none (by rw [bools_length]; omega)]
theorem bools_drop (V h n : Nat) : (bools V h).drop n = bools (V / 2 ^ n) (h - n) := by
  apply List.ext_getElem?
  intro i
  rw [List.getElem?_drop]
  by_cases h1 : n + i < h
  · rw [bools_get h1, bools_get (by omega), ← Nat.shiftRight_eq_div_pow, Nat.testBit_shiftRight]
  · rw [List.getElem?_eq_none (by rw [bools_length]; omega), List.getElem?_eq_none (by rw [bools_length]; omega)]
theorem infoBool : (Try.prog.info? 4).map (fun i => (i.zero, i.size, i.bytes)) = some (some (.bool false), 1, 1) := by kernel_rfl

section
variable {g V b t : Nat} {q : Option Nat}
theorem low_bit (V i : Nat) : V % 2 ^ (i + 1) = V % 2 ^ i + (V.testBit i).toNat * 2 ^ i := by
  rw [mod_more V i 1, Nat.pow_one]
  congr 2
  rw [Nat.testBit_eq_decide_div_mod_eq]
  rcases Nat.mod_two_eq_zero_or_one (V / 2 ^ i) with h | h <;> simp [h]
end
end Go.Proofs.Ytofajcifjmhomaa.Bits
/- The document's writer (sapperref03): what each method answers and leaves behind. Conditions: fewer than 2^46 bits. -/
set_option maxRecDepth 100000
set_option linter.unusedVariables false
set_option linter.unusedSimpArgs false
namespace Go.Proofs.Ytofajcifjmhomaa.Bits
open Go.RowKit Go.Proofs.Ytofajcifjmhomaa.Lib Go.Proofs.Ytofajcifjmhomaa.Num

/-- The document's writer in block g holds the m bits of N; q: the block of its bits. -/
def RW (w : World) (g : Nat) (N m : Nat) (q : Option Nat) : Prop :=
  ∃ A c, w.heap[g]? = some (.cells #[.slice A m c] 80 (0, 0)) ∧ w.ownsRow 0 4 1 (.slice A m c) m (bools N m) ∧ (Value.slice A m c).ownBlock = q ∧ N < 2 ^ m
theorem RW.frame {w w' : World} {g N m : Nat} {q : Option Nat} (hr : RW w g N m q) {F : List Nat} (hf : Fr w w' F) (hg : g ∉ F) (hq : ∀ k, q = some k → k ∉ F) : RW w' g N m q := by
  obtain ⟨A, c, hb, hown, rfl, hV⟩ := hr
  exact ⟨A, c, hf.blk hb hg, own_frame hown hf hq, rfl, hV⟩
theorem RW.lt {w : World} {g N m : Nat} {q : Option Nat} (hr : RW w g N m q) : g < w.heap.size ∧ ∀ k, q = some k → k < w.heap.size := by
  obtain ⟨A, c, hb, hown, rfl, hV⟩ := hr
  exact ⟨blk_lt hb, fun k hk => own_lt hown hk⟩
theorem RW.ne {w : World} {g N m : Nat} {q : Option Nat} (hr : RW w g N m q) : q ≠ some g := by
  obtain ⟨A, c, hb, hown, rfl, hV⟩ := hr
  exact own_ne hown hb (by decide)
theorem rw_new (w : World) : RW (w.alloc (.cells #[.slice none 0 0] 80)) w.heap.size 0 0 none :=
  ⟨none, 0, blk_new w _, own_nil _ _ _ _, rfl, by simp⟩
section
variable {g N m : Nat} {q : Option Nat}
/-- behind an append of one bit -/
theorem wbit_stored {w w1 : World} {A : Option Addr} {c : Nat} {A' : Option Addr} {c' : Nat} {bt : Bool} (hb : w.heap[g]? = some (.cells #[.slice A m c] 80 (0, 0)))
    (hown : w.ownsRow 0 4 1 (.slice A m c) m (bools N m)) (hV : N < 2 ^ m) (O : Obj)
    (hown' : w1.ownsRow 0 4 1 (.slice A' (m + 1) c') (m + 1) (bools N m ++ [.bool bt])) (hg : (w.alloc O).grownBy w1 (Value.slice A m c).ownBlock) (haft : Aft (w.alloc O) (Value.slice A m c).ownBlock (Value.slice A' (m + 1) c').ownBlock) :
    RW (w1.setCell ⟨g, 0, none⟩ (.slice A' (m + 1) c')) g (N + bt.toNat * 2 ^ m) (m + 1) (Value.slice A' (m + 1) c').ownBlock ∧ Aft w (Value.slice A m c).ownBlock (Value.slice A' (m + 1) c').ownBlock ∧
      Fr w (w1.setCell ⟨g, 0, none⟩ (.slice A' (m + 1) c')) (g :: (Value.slice A m c).ownBlock.toList) := by
  have hb1 := blk_grown hg (blk_alloc hb O) (own_ne hown hb (by decide)).symm
  have hne := own_ne hown' hb1 (by decide)
  rw [bools_snoc hV] at hown'
  refine ⟨⟨A', c', by simpa using blk_set hb1 0 (.slice A' (m + 1) c'), own_setFar hown' _ hne, rfl, grow_lt hV (by cases bt <;> decide)⟩, ?_, ?_⟩
  · rcases haft with e | ⟨k, e, hk⟩
    · exact .inl e
    · exact .inr ⟨k, e, by simp at hk; omega⟩
  · exact (((Fr.refl w _).alloc O).grown hg (fun k hk => .inl (by simp [hk]))).setCell _ (.inl (by simp))
theorem wput_no (a n : Int) (v : Nat) (w : World) (ha : a = (v : Nat)) (hm0 : mayN v n ≠ 0) :
    Calls Try.prog 31 #[.pointer (some ⟨g, 0, none⟩), .int .u64 a, .int .i64 n] w fun e w' => e = .returned (.int .i64 (mayN v n)) ∧ w = w' := by
  subst ha
  by_cases h1 : n < 0
  · have Hm : Hd (mayN v n = 30) := ⟨by unfold mayN; rw [if_pos (by omega)]⟩
    clear hm0
    go_enter Try.func31, Try.ntmps31
    go_wp2
    go_ret
    exact ⟨by rw [Hm.out]; rfl, rfl⟩
  · by_cases h2 : 56 < n
    · have Hm : Hd (mayN v n = 30) := ⟨by unfold mayN; rw [if_pos (by omega)]⟩
      clear hm0
      go_enter Try.func31, Try.ntmps31
      go_wp2
      go_ret
      exact ⟨by rw [Hm.out]; rfl, rfl⟩
    · obtain ⟨n, rfl⟩ := Int.eq_ofNat_of_zero_le (show 0 ≤ n by omega)
      have hm : mayN v n = if v / 2 ^ n = 0 then 0 else 31 := by unfold mayN; rw [if_neg (by omega)]; rfl
      have h3 : ¬ v / 2 ^ n = 0 := by intro e; rw [hm, if_pos e] at hm0; exact hm0 rfl
      have Hm : Hd (mayN v n = 31) := ⟨by rw [hm, if_neg h3]⟩
      have hz0 : (0 : Int) < (v : Int) / 2 ^ n := by rw [div_cast]; exact Int.natCast_pos.2 (Nat.pos_of_ne_zero h3)
      clear hm0 hm
      go_enter Try.func31, Try.ntmps31
      go_wp2
      go_ret
      exact ⟨by rw [Hm.out]; rfl, rfl⟩
theorem hand_bit {v i : Nat} (hv : v < 2 ^ 64) : (Go.bits .and .u64 ((v : Int) / 2 ^ i) 1 == 1) = v.testBit i := by
  have hle : v / 2 ^ i ≤ v := Nat.div_le_self _ _
  rw [div_cast, n64and1 (by omega), Nat.testBit_eq_decide_div_mod_eq, Bool.eq_iff_iff]
  simp only [beq_iff_eq, decide_eq_true_eq]
  omega
theorem wput_ok (a n : Int) (v : Nat) (w : World) (ha : a = (v : Nat)) (hm0 : mayN v n = 0) (hm : m + n.toNat ≤ 70368744177664) (hT : RW w g N m q) :
    Calls Try.prog 31 #[.pointer (some ⟨g, 0, none⟩), .int .u64 a, .int .i64 n] w fun e w' => e = .returned (.int .i64 0) ∧
      ∃ q', RW w' g (N + v * 2 ^ m) (m + n.toNat) q' ∧ Aft w q q' ∧ Fr w w' (g :: q.toList) := by
  subst ha
  obtain ⟨i0, hi0, hz0, hz1, hz2⟩ := info_parts infoBool
  obtain ⟨h0, h1, h2⟩ := mayN_zero hm0
  obtain ⟨n, rfl⟩ := Int.eq_ofNat_of_zero_le h0
  rw [Int.toNat_natCast] at *
  have hv64 : Hd (v < 2 ^ 64) := ⟨Nat.lt_of_lt_of_le h2 (Nat.pow_le_pow_right (by decide) (by omega))⟩
  have hvn := Hd.mk h2
  have hz : (v : Int) / 2 ^ n = 0 := by rw [div_cast, Nat.div_eq_of_lt h2]; rfl
  have HT := Hd.mk hT
  clear hm0 hT h2
  go_enter Try.func31, Try.ntmps31
  go_wp2
  go_loopg [7] n (fun kq iv wr => ∃ i N2 m2 : Nat, iv = .int .i64 (i : Nat) ∧ i + kq = n ∧ m2 + kq ≤ 70368744177664 ∧ Hd (N2 = N + v % 2 ^ i * 2 ^ m ∧ m2 = m + i) ∧ ∃ q', RW wr g N2 m2 q' ∧ Aft w q q' ∧ Fr w wr (g :: q.toList))
  case atStart => exact ⟨0, N, m, rfl, by omega, by omega, ⟨by simp [Nat.mod_one], rfl⟩, q, HT.out, Aft.refl _ _, Fr.refl _ _⟩
  case round =>
    obtain ⟨i, N2, m2, rfl, hi, hb22, HE2, q2, hr2, ha2, hf2⟩ := hrel
    have HR2 := Hd.mk hr2
    have HA2 := Hd.mk ha2
    have HF2 := Hd.mk hf2
    clear hz
    by_cases hlt2 : i < n
    · obtain ⟨A2, c2, hblk, hown, hq2, hV2⟩ := hr2
      have k0 := blk_cell hblk 0
      have f0 := blk_frozen hblk 0
      simp only [List.getElem?_toArray, List.getElem?_cons_zero, List.getElem?_cons_succ] at k0
      have ka := blk_cell (blk_alloc hblk (.cells #[.bool (v.testBit i)] 4)) 0
      simp only [List.getElem?_toArray, List.getElem?_cons_zero] at ka
      have HB := Hd.mk hblk
      have HO := Hd.mk hown
      have HQ2 := Hd.mk hq2
      have HV2 := Hd.mk hV2
      have HNE := Hd.mk (own_ne hown hblk (by decide))
      obtain ⟨bt, hbt⟩ : ∃ bt, bt = v.testBit i := ⟨_, rfl⟩
      rw [← hbt] at ka
      have hand : (Go.bits .and .u64 ((v : Int) / 2 ^ i) 1 == 1) = bt := by rw [hbt]; exact hand_bit hv64.out
      have Hbt := Hd.mk hbt
      clear hblk hown hq2 hV2 hbt hf2 ha2
      go_wp2
      go_region_law (refine step_append_sl rfl (.tmp 27) (.tmp 33) 72 rfl 4 i0 (.bool false) 1 1 Try.underlying72 hi0 hz0 hz1 hz2 rfl (by decide) (.slice A2 m2 c2) m2 (bools N2 m2) (by simp [Act.eval, Act.put]) (by exact HO.out.alloc _) (some ⟨wr.heap.size, 0, none⟩) 1 1 [.bool bt] (some wr.heap.size) (by simp [Act.eval, Act.put]) rfl (by exact sl_of_blk (blk_new _ _)) (by intro h; cases h) (by intro u hu; simp at hu; subst hu; rfl) (by unfold maxLen; omega) (by omega) ?_; intro A' c' w1 hown' hgrow haft; have hb1 := blk_grown hgrow (by exact blk_alloc HB.out _) HNE.out.symm; have k1 := blk_cell hb1 0; have f1 := blk_frozen hb1 0; simp only [List.getElem?_toArray, List.getElem?_cons_zero] at k1; have R := wbit_stored (bt := bt) HB.out HO.out HV2.out (.cells #[.bool bt] 4) hown' ⟨hgrow.os, hgrow.tape, hgrow.output, hgrow.size, hgrow.block⟩ haft; have HRR := Hd.mk R; clear hown' hgrow haft hb1 R)
      all_goals
        go_wp2
        go_roundg (gk - 1)
        case measure => omega
        case rel =>
          have h := HRR.out
          rw [HQ2.out] at h
          obtain ⟨r1, r2, r3⟩ := h
          refine ⟨i + 1, N2 + bt.toNat * 2 ^ m2, m2 + 1, by go_num, by omega, by omega, ⟨?_, by have := HE2.out.2; omega⟩, _, r1, HA2.out.trans r2 HF2.out.size, HF2.out.trans r3 (fun y hy hyG => ?_)⟩
          · rw [HE2.out.1, HE2.out.2, Hbt.out, low_bit, Nat.add_mul, Nat.mul_assoc, ← Nat.pow_add, Nat.add_comm m i, Nat.add_assoc]
          · rcases List.mem_cons.1 hyG with rfl | e
            · simp
            · rcases HA2.out.mem e with h | h
              · exact List.mem_cons_of_mem _ h
              · omega
    · obtain rfl : i = n := by omega
      clear hr2 ha2 hf2
      go_wp2
      go_ret
      obtain ⟨e1, e2⟩ := HE2.out
      rw [Nat.mod_eq_of_lt hvn.out] at e1
      subst e1 e2
      exact ⟨rfl, q2, HR2.out, HA2.out, HF2.out⟩
end
end Go.Proofs.Ytofajcifjmhomaa.Bits
/- The document's writer that takes up parts (like XParts for the program's). Conditions: fewer than 2^46 bits. -/
set_option linter.unusedVariables false
set_option linter.unusedSimpArgs false
set_option maxRecDepth 100000
namespace Go.Proofs.Ytofajcifjmhomaa.Blk
open Go.RowKit Go.Proofs.Ytofajcifjmhomaa.Lib Go.Proofs.Ytofajcifjmhomaa.Ints Go.Proofs.Ytofajcifjmhomaa.Num Go.Proofs.Ytofajcifjmhomaa.Bits Go.Proofs.Ytofajcifjmhomaa.Code
/-- what a Put leaves: v of n bits behind -/
def PutR (w w' : World) (gw N m : Nat) (q : Option Nat) (p : Nat × Nat) : Prop := ∃ q', RW w' gw (N + p.1 * 2 ^ m) (m + p.2) q' ∧ Aft w q q' ∧ Fr w w' (gw :: q.toList)
/-- the document's writer that has taken P behind N, m -/
structure Rw (w0 w : World) (gw : Nat) (q0 q : Option Nat) (N m : Nat) (P : List (Nat × Nat)) : Prop where
  rw_ : RW w gw (N + numOf P * 2 ^ m) (m + totOf P) q
  aft : Aft w0 q0 q
  fr : Fr w0 w (gw :: q0.toList)
section
variable {w0 w w' : World} {gw N m : Nat} {q0 q : Option Nat} {P Q : List (Nat × Nat)}
theorem Rw.start (h : RW w gw N m q) : Rw w w gw q q N m [] := ⟨by simpa [numOf, totOf] using h, Aft.refl _ _, Fr.refl _ _⟩
theorem Rw.call (h : Rw w0 w gw q0 q N m P) (hf : Fr w w' []) : Rw w0 w' gw q0 q N m P := ⟨h.rw_.frame hf (by simp) (by simp), h.aft, h.fr.trans hf (by simp)⟩
theorem Rw.mem (h : Rw w0 w gw q0 q N m P) {x : Nat} (hx : x < w0.heap.size) (hm : x ∈ gw :: q.toList) : x ∈ gw :: q0.toList := by
  rcases List.mem_cons.1 hm with e | hm
  · subst e; simp
  · rcases h.aft.mem hm with h1 | h1
    · exact List.mem_cons_of_mem _ h1
    · omega
theorem Rw.put (h : Rw w0 w gw q0 q N m P) {p : Nat × Nat} (hp : PutR w w' gw (N + numOf P * 2 ^ m) (m + totOf P) q p) : ∃ q', Rw w0 w' gw q0 q' N m (P ++ [p]) := by
  obtain ⟨v, n⟩ := p
  obtain ⟨q', h1, h2, h3⟩ := hp
  refine ⟨q', ?_, h.aft.trans h2 h.fr.size, h.fr.trans h3 (fun x hx hm => h.mem hx hm)⟩
  rw [numOf_snoc, totOf_snoc]
  have e : N + (numOf P + v * 2 ^ totOf P) * 2 ^ m = N + numOf P * 2 ^ m + v * 2 ^ (m + totOf P) := by
    rw [Nat.add_mul, Nat.mul_assoc, ← Nat.pow_add, Nat.add_comm (totOf P) m, Nat.add_assoc]
  rw [e, ← Nat.add_assoc m]
  exact h1
theorem Rw.more (h : Rw w0 w gw q0 q N m P) {q' : Option Nat} (hp : Rw w w' gw q q' (N + numOf P * 2 ^ m) (m + totOf P) Q) : Rw w0 w' gw q0 q' N m (P ++ Q) := by
  refine ⟨?_, h.aft.trans hp.aft h.fr.size, h.fr.trans hp.fr (fun x hx hm => h.mem hx hm)⟩
  have := hp.rw_
  rw [Nat.add_assoc m, ← totOf_app] at this
  have e : N + numOf (P ++ Q) * 2 ^ m = N + numOf P * 2 ^ m + numOf Q * 2 ^ (m + totOf P) := by
    rw [numOf_app, Nat.add_mul, Nat.mul_assoc, ← Nat.pow_add, Nat.add_comm (totOf P) m, Nat.add_assoc]
  rw [e]
  exact this
theorem rwput (a n : Int) (v : Nat) (ha : a = (v : Nat)) (hv : v < 2 ^ n.toNat) (h0 : 0 ≤ n) (h1 : n ≤ 56) (hT : RW w gw N m q) (hm : m + n.toNat ≤ 70368744177664) :
    Calls Try.prog 31 #[.pointer (some ⟨gw, 0, none⟩), .int .u64 a, .int .i64 n] w fun e w' => e = .returned (.int .i64 0) ∧ PutR w w' gw N m q (v, n.toNat) := by
  refine (wput_ok a n v w ha (mayN_ok h0 h1 hv) hm hT).mono ?_
  rintro e w2 ⟨rfl, q', h1, h2, h3⟩
  exact ⟨rfl, q', h1, h2, h3⟩
end
theorem Rw.after {w0 w1 w2 : World} {gw N m : Nat} {q q' : Option Nat} {P : List (Nat × Nat)} (hf : Fr w0 w1 []) (h : Rw w1 w2 gw q q' N m P) : Rw w0 w2 gw q q' N m P :=
  ⟨h.rw_, (Aft.refl w0 q).trans h.aft hf.size, (hf.mono (G := gw :: q.toList) (fun k _ hm => by cases hm)).trans h.fr (fun x _ hm => hm)⟩
theorem PutR.after {w w2 w' : World} {gw N m : Nat} {q : Option Nat} {p : Nat × Nat} (hf : Fr w w2 []) (h : PutR w2 w' gw N m q p) : PutR w w' gw N m q p := by
  obtain ⟨q', h1, h2, h3⟩ := h
  exact ⟨q', h1, (Aft.refl w q).trans h2 hf.size, (hf.mono (G := gw :: q.toList) (fun k _ hm => by cases hm)).trans h3 (fun x _ hm => hm)⟩
theorem PutR.ofDrew {w w' : World} {gw N m : Nat} {q : Option Nat} {p : Nat × Nat} (h : PutR w.drew w' gw N m q p) : PutR w w' gw N m q p := by
  obtain ⟨q', a, b, c⟩ := h
  exact ⟨q', a, b, c.ofDrew⟩
theorem bools_app {N m : Nat} (hN : N < 2 ^ m) (V n : Nat) : Bits.bools N m ++ Bits.bools (V % 2 ^ n) n = Bits.bools (N + V % 2 ^ n * 2 ^ m) (m + n) := by
  induction n with
  | zero => simp [Bits.bools, Nat.mod_one]
  | succ n ih =>
    have e : Bits.bools (V % 2 ^ (n + 1)) (n + 1) = Bits.bools (V % 2 ^ n) n ++ [.bool (V.testBit n)] := by
      rw [Bits.bools_snoc (Nat.mod_lt _ (Nat.pow_pos (by omega))), ← Bits.low_bit]
    have hlt : N + V % 2 ^ n * 2 ^ m < 2 ^ (m + n) := by
      have h1 : V % 2 ^ n < 2 ^ n := Nat.mod_lt _ (Nat.pow_pos (by omega))
      have h2 : (V % 2 ^ n + 1) * 2 ^ m ≤ 2 ^ n * 2 ^ m := Nat.mul_le_mul_right _ h1
      rw [Nat.add_mul, Nat.one_mul, ← Nat.pow_add, Nat.add_comm n m] at h2
      omega
    rw [e, ← List.append_assoc, ih, Bits.bools_snoc hlt, Bits.low_bit, Nat.add_mul, Nat.mul_assoc, ← Nat.pow_add, Nat.add_comm m n, Nat.add_assoc, Nat.add_assoc, show n + (m + 1) = m + (n + 1) from by omega]
theorem rw_app {w w9 : World} {gw N m V k c d : Nat} {Ax A3 : Option Addr} (hb : w.heap[gw]? = some (.cells #[.slice Ax m c] 80 (0, 0))) (ho : w.ownsRow 0 4 1 (.slice Ax m c) m (bools N m)) (hN : N < 2 ^ m) (hV : V < 2 ^ k) (h9 : w9.ownsRow 0 4 1 (.slice A3 (m + k) d) (m + k) (bools N m ++ bools V k)) (hg : w.grownBy w9 (Value.slice Ax m c).ownBlock) (ha : Aft w (Value.slice Ax m c).ownBlock (Value.slice A3 (m + k) d).ownBlock) : PutR w (w9.setCell ⟨gw, 0, none⟩ (.slice A3 (m + k) d)) gw N m (Value.slice Ax m c).ownBlock (V, k) := by
  have hb9 := blk_grown hg hb (own_ne ho hb (by decide)).symm
  have hne : (Value.slice A3 (m + k) d).ownBlock ≠ some gw := own_ne h9 hb9 (by decide)
  have hlt : N + V * 2 ^ m < 2 ^ (m + k) := by
    have h2 : (V + 1) * 2 ^ m ≤ 2 ^ k * 2 ^ m := Nat.mul_le_mul_right _ hV
    rw [Nat.add_mul, Nat.one_mul, ← Nat.pow_add, Nat.add_comm k m] at h2
    omega
  have hrow : bools N m ++ bools V k = bools (N + V * 2 ^ m) (m + k) := by
    have h1 := bools_app hN V k
    rw [Nat.mod_eq_of_lt hV] at h1
    exact h1
  rw [hrow] at h9
  refine ⟨_, ⟨A3, d, by simpa using blk_set hb9 0 (.slice A3 (m + k) d), own_setFar h9 _ hne, rfl, hlt⟩, ha, ?_⟩
  exact ((Fr.refl w _).grown hg (fun y hy => .inl (by simp [hy]))).setCell _ (.inl (by simp))
theorem rw_not {w : World} {gw N m : Nat} {q : Option Nat} (h : RW w gw N m q) {g : Nat} {cs : Array Value} {t : TypeId} {fr : Nat × Nat} (hb : w.heap[g]? = some (.cells cs t fr)) (h1 : t ≠ 80) (h2 : t ≠ 4) : g ∉ gw :: q.toList := by
  obtain ⟨A, c, hd, ho, rfl, _⟩ := h
  intro hm
  rcases List.mem_cons.1 hm with e | hm
  · exact blk_ne hb hd h1 e
  · obtain ⟨es, he⟩ := own_type ho (k := g) (by simpa using hm)
    exact blk_ne hb he h2 rfl
theorem rw_keep {w w' : World} {gw N m : Nat} {q : Option Nat} (h : RW w gw N m q) {g : Nat} {cs : Array Value} {t : TypeId} {fr : Nat × Nat} (hb : w.heap[g]? = some (.cells cs t fr)) (h1 : t ≠ 80) (h2 : t ≠ 4) (hf : Fr w w' (gw :: q.toList)) : w'.heap[g]? = some (.cells cs t fr) := hf.blk hb (rw_not h hb h1 h2)
theorem rown_keep {w w' : World} {gw N m : Nat} {q : Option Nat} {base : Nat} {e : TypeId} {size n : Nat} {v : Value} {xs : List Value} (hT : RW w gw N m q) (hf : Fr w w' (gw :: q.toList)) (h : w.ownsRow base e size v n xs) (h1 : e ≠ 80) (h2 : e ≠ 4) : w'.ownsRow base e size v n xs :=
  own_frame h hf (fun k hk => by
    obtain ⟨cs, hcs⟩ := own_type h hk
    exact rw_not hT hcs h1 h2)
end Go.Proofs.Ytofajcifjmhomaa.Blk
