/- Texts of this claim, one behind the other: HeadPlanD, HeadWr, BitsLives, Mem, RefR, RefW, RParts, CodeG, CopyN. -/
import Derived.Test.YtkdgfioigkijgaaGreatG01
import Derived.Test.YtkdgfioigkijgaaGreatG02
import Derived.Test.YtkdgfioigkijgaaGreatG03
import Derived.Test.YtkdgfioigkijgaaGreatG04
import Derived.Test.YtkdgfioigkijgaaGreatG05
import Derived.Test.YtkdgfioigkijgaaGreatG06
import Derived.Test.YtkdgfioigkijgaaGreatG07
import Derived.Test.YtkdgfioigkijgaaGreatG08
import Derived.Test.YtkdgfioigkijgaaGreatG09
import Derived.Test.YtkdgfioigkijgaaGreatG10
import Derived.Test.YtkdgfioigkijgaaGreatG11
import Derived.Test.YtkdgfioigkijgaaGreatG12
import Derived.Deep.RegionHeld3
import Derived.Laws.BytesArg
import Derived.Laws.BytesString
import Derived.Laws.Strings
import Derived.Deep.RegionLaw
import Derived.Outline
import Derived.Laws.CopyOwn
/- Chapter 08: Cost walked. No condition. -/
set_option linter.unusedVariables false
set_option linter.unusedSimpArgs false
set_option maxRecDepth 100000
namespace Go.Proofs.YtkdgfioigkijgaaGreat.Head
open Go.RowKit Go.Proofs.YtkdgfioigkijgaaGreat.Lib Go.Proofs.YtkdgfioigkijgaaGreat.Ints Go.Proofs.YtkdgfioigkijgaaGreat.Runs
theorem kinds_full (w : World) (s b L M : Int) (h0 : 0 ≤ s) (h1 : s ≤ 18) (hb : b = kbits s) (hL : L = leastN s) (hM : M = mostN s) : Calls Tryz.prog 178 #[.int .i64 s] w fun e w' => e = .returned (.agg #[.int .i64 b, .int .i64 L, .int .i64 M]) ∧ Fr w w' [] := by
  subst hb hL hM
  by_cases h : s < 16
  · refine (kinds_low w s h).mono ?_
    rintro e w' ⟨rfl, hf⟩
    exact ⟨by unfold kbits leastN mostN; rw [if_pos h, if_pos h, if_pos h], hf⟩
  · have : s = 16 ∨ s = 17 ∨ s = 18 := by omega
    rcases this with rfl | rfl | rfl
    · exact kinds_16 w
    · exact kinds_17 w
    · exact kinds_18 w
theorem kf0 (a b c : Int) : ∀ w : World, (Instr.field 311 (.agg #[.int .i64 a, .int .i64 b, .int .i64 c]) 0).run Tryz.prog w = .ok (.int .i64 a) w := fun w => by kernel_rfl
def runCost (hl : List Int) (r : Int × Int) : Int := hl.getD r.1.toNat 0 + kbits r.1
def costF (hl : List Int) : List (Int × Int) → Int
  | [] => 0
  | r :: l => runCost hl r + costF hl l
theorem costF_app (hl : List Int) : ∀ a b, costF hl (a ++ b) = costF hl a + costF hl b
  | [], b => by simp [costF]
  | t :: a, b => by simp only [List.cons_append, costF, costF_app hl a b]; omega
theorem costF_take {hl : List Int} {l : List (Int × Int)} {j : Nat} (h : j < l.length) : costF hl (l.take (j + 1)) = costF hl (l.take j) + runCost hl l[j] := by
  rw [List.take_succ_eq_append_getElem h, costF_app]
  simp [costF]
theorem kbits_le (s : Int) : 0 ≤ kbits s ∧ kbits s ≤ 7 := by
  unfold kbits
  split
  · omega
  · split
    · omega
    · split <;> omega
theorem costF_le {hl : List Int} (h : ∀ s, 0 ≤ hl.getD s 0 ∧ hl.getD s 0 ≤ 7) : ∀ l, 0 ≤ costF hl l ∧ costF hl l ≤ 14 * (l.length : Nat)
  | [] => by simp [costF]
  | r :: l => by
    have h1 := h r.1.toNat
    have h2 := kbits_le r.1
    have h3 := costF_le h l
    simp only [costF, runCost, List.length_cons]
    omega
/-- how many bits a head has -/
def hcost (lit dist : List Int) : Int := 14 + 3 * (toldN (hlens (hruns lit dist)) 19 : Nat) + costF (hlens (hruns lit dist)) (hruns lit dist)
theorem fcell {w w' : World} {F : List Nat} (h : Fr w w' F) {a : Addr} {v : Value} (hc : w.cell? a = some v) (hF : a.block ∉ F) : w'.cell? a = some v := by
  rw [World.cell?_of_block (w := w) (h.block _ (World.block_lt_of_cell? w _ hc) hF)]; exact hc
set_option maxHeartbeats 8000000 in
theorem hcost_any (w : World) (A B : Option Addr) (n c m d : Nat) (lit dist : List Int) (p q : Option Nat) (hX : SlArg w A n c (i64s lit) p) (hY : SlArg w B m d (i64s dist) q) (er k : Int) (her : er = if okH lit dist then 0 else 80) (hk : k = if okH lit dist then hcost lit dist else 0) :
    Calls Tryz.prog 139 #[.slice A n c, .slice B m d] w fun e w' => e = .returned (.tuple #[.int .i64 k, .int .i64 er]) ∧ Fr w w' [] := by
  have HX := Hd.mk hX
  have HY := Hd.mk hY
  have HER := Hd.mk her
  have HK := Hd.mk hk
  clear hX hY her hk
  go_enter Tryz.func139, Tryz.ntmps139
  go_wp2_with (fail)
  refine (newPlan_any w A B n c m d lit dist p q HX.out HY.out).mono ?_
  intro e w1 hp
  unfold PlanPost at hp
  obtain ⟨hp1, hp2⟩ := hp
  obtain ⟨b, hb⟩ : ∃ b, b = okH lit dist := ⟨_, rfl⟩
  rw [← hb] at hp1 hp2 HER HK
  cases b with
  | false =>
    obtain ⟨rfl, hf⟩ := hp2 rfl
    have F1 := Hd.mk hf
    obtain rfl : er = 80 := HER.out
    obtain rfl : k = 0 := HK.out
    clear hp1 hp2 hf hb
    unfold noPlan
    go_wp2
    go_ret2
    exact ⟨rfl, F1.out.alloc _⟩
  | true =>
    obtain ⟨A1, n1, c1, B1, d1, rfl, hpl, hf⟩ := hp1 rfl
    obtain rfl : er = 0 := HER.out
    have hkk : k = hcost lit dist := HK.out
    obtain ⟨r1, r2, r3⟩ := hruns_ok hb.symm
    have HLE := hlens_le (rs := hruns lit dist) (by omega)
    have hl19 := hlens_len (rs := hruns lit dist) (by omega)
    have hnr : n1 = (hruns lit dist).length := by have := hpl.runs.1; rw [cells_len] at this; omega
    have P1 := Hd.mk hpl
    have F1 := Hd.mk hf
    have htl := toldN_le (hlens (hruns lit dist)) 19
    have hce := costF_le HLE (hruns lit dist)
    have hok := Hd.mk hb.symm
    have hcc : k = 14 + 3 * (toldN (hlens (hruns lit dist)) 19 : Nat) + costF (hlens (hruns lit dist)) (hruns lit dist) := hkk
    unfold planC
    obtain ⟨td, htd⟩ : ∃ td, td = toldN (hlens (hruns lit dist)) 19 := ⟨_, rfl⟩
    rw [← htd] at htl hcc ⊢
    have O1 := Hd.mk hpl.runs
    have O2 := Hd.mk hpl.lens
    obtain ⟨rs, hrs⟩ : ∃ rs, rs = hruns lit dist := ⟨_, rfl⟩
    obtain ⟨hl, hhl⟩ : ∃ hl, hl = hlens (hruns lit dist) := ⟨_, rfl⟩
    rw [← hhl] at O2 HLE hl19
    rw [← hhl, ← hrs] at hcc
    rw [← hrs] at O1 r1 r2 hnr
    have HCC := Hd.mk hcc
    have HRB := Hd.mk r1
    have HLE2 := Hd.mk HLE
    clear hp1 hp2 hf hpl hkk HLE hcc hrs hhl htd r1 r3 hce hb P1 HX HY HK HER
    generalize ((cutL lit 257).length : Int) = xa at *
    generalize ((distL dist).length : Int) = xb at *
    go_upto_region 4 with (fail)
    obtain ⟨pc, hpc⟩ : ∃ pc : Array Value, pc = #[.int .i64 xa, .int .i64 xb, .slice A1 n1 c1, .slice B1 19 d1, .int .i64 (td : Nat)] := ⟨_, rfl⟩
    have B2 : Hd ((w1.alloc (.cells #[.int .i64 xa, .int .i64 xb, .slice A1 n1 c1, .slice B1 19 d1, .int .i64 (td : Nat)] 307)).heap[w1.heap.size]? = some (.cells #[.int .i64 xa, .int .i64 xb, .slice A1 n1 c1, .slice B1 19 d1, .int .i64 (td : Nat)] 307 (0, 0))) := ⟨blk_new w1 _⟩
    subst hnr
    have A2 := (Fr.refl w1 []).alloc (.cells #[.int .i64 xa, .int .i64 xb, .slice A1 rs.length c1, .slice B1 19 d1, .int .i64 (td : Nat)] 307)
    have OA := Hd.mk (own_frame O1.out A2 (by simp))
    have OB := Hd.mk (own_frame O2.out A2 (by simp))
    have F2 := Hd.mk (F1.out.trans A2 (by simp))
    clear A2 O1 O2 F1 hpc
    generalize w1.alloc (.cells #[.int .i64 xa, .int .i64 xb, .slice A1 rs.length c1, .slice B1 19 d1, .int .i64 (td : Nat)] 307) = w2 at *
    generalize w1.heap.size = g at *
    have k4 := blk_cell B2.out 4
    have k2 := blk_cell B2.out 2
    simp only [List.getElem?_toArray, List.getElem?_cons_zero, List.getElem?_cons_succ] at k4 k2
    obtain ⟨bx, _, rfl⟩ : ∃ bx, True ∧ B1 = some ⟨bx, 0, none⟩ := by
      obtain ⟨g8, c8', e8, _⟩ := own_some OB.out (by decide)
      injection e8 with e8 _ _
      exact ⟨g8, trivial, e8⟩
    go_wp2
    go_loopg [8, 27] rs.length (fun kq sv jv wr => ∃ (j : Nat) (s : Int), sv = .int .i64 s ∧ jv = .int .i64 (j : Nat) ∧ j + kq = rs.length ∧ Hd (s = 14 + 3 * (td : Nat) + costF hl (rs.take j)) ∧ Hd (Fr w2 wr []))
    case atStart => exact ⟨0, 14 + 3 * (td : Nat), rfl, rfl, by omega, ⟨by simp [costF]⟩, ⟨Fr.refl _ _⟩⟩
    case round =>
      obtain ⟨j, s, rfl, rfl, hj, HM, HF⟩ := hrel
      by_cases hjn : j < rs.length
      · obtain ⟨a, o1, e1, _, hcc⟩ := Sl.row (enc := enc) (sz := 2) (fun _ => rfl) (sl_of_own2 (own_frame OA.out HF.out (by simp)) (by omega)) hjn (by decide)
        subst e1
        obtain ⟨r, hr⟩ : ∃ r, r = rs[j] := ⟨_, rfl⟩
        rw [← hr] at hcc
        have hrb := HRB.out r (by rw [hr]; exact List.getElem_mem hjn)
        have c0 := hcc 0 (by decide)
        have c1 := hcc 1 (by decide)
        have HTK : Hd (costF hl (rs.take (j + 1)) = costF hl (rs.take j) + runCost hl r) := ⟨by rw [costF_take hjn, hr]⟩
        have hce := costF_le HLE2.out (rs.take j)
        rw [List.length_take] at hce
        have hs0 : 0 ≤ s ∧ s ≤ 5000 := by rw [HM.out]; omega
        obtain ⟨rsym, rcnt⟩ := r
        obtain ⟨hb1, hb2, _⟩ := hrb
        simp only at hb1 hb2
        obtain ⟨y, rfl⟩ := Int.eq_ofNat_of_zero_le hb1
        simp only [enc, List.getElem?_cons_zero, List.getElem?_cons_succ, Nat.add_zero] at c0 c1
        have HRC : Hd (runCost hl ((y : Int), rcnt) = hl.getD y 0 + kbits (y : Int)) := ⟨rfl⟩
        have kl : wr.cell? ⟨bx, y, none⟩ = some (.int .i64 (hl.getD y 0)) := by
          have := i64_at (sl_of_own (own_frame OB.out HF.out (by simp))) (i := y) (by omega) rfl
          rwa [Nat.zero_add] at this
        have hlb := HLE2.out y
        have hkb := kbits_le (y : Int)
        obtain ⟨kb, hkb'⟩ : ∃ kb, kb = kbits (y : Int) := ⟨_, rfl⟩
        rw [← hkb'] at HRC hkb
        have HKB := Hd.mk hkb'
        have k3 : wr.cell? ⟨g, 3, none⟩ = some (.slice (some ⟨bx, 0, none⟩) 19 d1) := (blk_cell (HF.out.blk B2.out (by simp)) 3)
        generalize hl.getD y 0 = x at *
        clear hcc hr hkb' hce
        go_upto_region 8 with (fail)
        have bz := blk_new wr (.cells #[.int .i64 (y : Nat), .int .i64 rcnt] 297)
        have A3 := (Fr.refl wr []).alloc (.cells #[.int .i64 (y : Nat), .int .i64 rcnt] 297)
        have d0 := blk_cell bz 0
        simp only [List.getElem?_toArray, List.getElem?_cons_zero] at d0
        have d1' := fcell A3 kl (by simp)
        have d2 := fcell A3 k3 (by simp)
        have F3 := Hd.mk (HF.out.trans A3 (by simp))
        clear A3 bz kl k3 c0 c1
        generalize wr.alloc (.cells #[.int .i64 (y : Nat), .int .i64 rcnt] 297) = w3 at *
        generalize wr.heap.size = gr at *
        have hf0 := kf0
        have hb3 : (y : Int) < 19 := by omega
        have n1 : IntKind.i64.wrap (x + kb) = x + kb := IntWalk.i64_in _ (by omega)
        have n2 : IntKind.i64.wrap (s + (x + kb)) = s + (x + kb) := IntWalk.i64_in _ (by omega)
        go_region_held3 (fun w' => w'.cell? ⟨gr, 0, none⟩ = some (.int .i64 (y : Nat)) ∧ w'.cell? ⟨bx, y, none⟩ = some (.int .i64 x) ∧ w'.cell? ⟨g, 3, none⟩ = some (.slice (some ⟨bx, 0, none⟩) 19 d1)) (go_keep)
          (first | (go_at_call 178; refine (kinds_full _ (y : Int) kb _ _ hb1 hb2 HKB.out rfl rfl).mono ?_; rintro e w4 ⟨rfl, hf4⟩; have F4 := Hd.mk (F3.out.trans hf4.ofDrew (by simp)); have d0 := fcell hf4.ofDrew d0 (by simp); have d1' := fcell hf4.ofDrew d1' (by simp); have d2 := fcell hf4.ofDrew d2 (by simp); clear hf4))
        go_wp2
        go_roundg (gk - 1)
        case measure => omega
        case rel => exact ⟨j + 1, s + (x + kb), rfl, by go_num, by omega, ⟨by rw [HTK.out, HRC.out, HM.out]; omega⟩, F4⟩
      · obtain rfl : j = rs.length := by omega
        have hmm : Hd (k = s) := ⟨by rw [HCC.out, HM.out, List.take_length]⟩
        obtain rfl := hmm.out
        go_wp2
        go_ret2
        exact ⟨rfl, F2.out.trans HF.out (by simp)⟩
end Go.Proofs.YtkdgfioigkijgaaGreat.Head
/- Chapter 08: Write walked. Conditions: the writer has fewer than 2^49 bits. -/
set_option linter.unusedVariables false
set_option linter.unusedSimpArgs false
set_option maxRecDepth 100000
namespace Go.Proofs.YtkdgfioigkijgaaGreat.Head
open Go.RowKit Go.Proofs.YtkdgfioigkijgaaGreat.Lib Go.Proofs.YtkdgfioigkijgaaGreat.Ints Go.Proofs.YtkdgfioigkijgaaGreat.Runs Go.Proofs.YtkdgfioigkijgaaGreat.Num Go.Proofs.YtkdgfioigkijgaaGreat.Blk
def runP (hl : List Int) (r : Int × Int) : List (Nat × Nat) := [Code.part hl r.1, ((r.2 - leastN r.1).toNat, (kbits r.1).toNat)]
def ordP (hl : List Int) (k : Nat) : List (Nat × Nat) := (ord.take k).map fun s => ((hl.getD s 0).toNat, 3)
def runsP (hl : List Int) (rs : List (Int × Int)) : List (Nat × Nat) := rs.flatMap (runP hl)
/-- a head's parts -/
def headP (lit dist : List Int) : List (Nat × Nat) :=
  [((cutL lit 257).length - 257, 5), ((distL dist).length - 1, 5), (toldN (hlens (hruns lit dist)) 19 - 4, 4)] ++ ordP (hlens (hruns lit dist)) (toldN (hlens (hruns lit dist)) 19) ++ runsP (hlens (hruns lit dist)) (hruns lit dist)
theorem runsP_take {hl : List Int} {rs : List (Int × Int)} {j : Nat} (h : j < rs.length) : runsP hl (rs.take (j + 1)) = runsP hl (rs.take j) ++ runP hl rs[j] := by
  unfold runsP
  rw [List.take_succ_eq_append_getElem h, List.flatMap_append]; simp
theorem ordP_take (hl : List Int) {j : Nat} (h : j < 19) : ordP hl (j + 1) = ordP hl j ++ [((hl.getD (ord.getD j 0) 0).toNat, 3)] := by
  unfold ordP
  have h' : j < ord.length := h
  have e : ord.getD j 0 = ord[j] := by rw [List.getD_eq_getElem?_getD, List.getElem?_eq_getElem h']; rfl
  rw [List.take_succ_eq_append_getElem h', List.map_append, e]
  rfl
theorem ordP_tot (hl : List Int) : ∀ k, k ≤ 19 → totOf (ordP hl k) = 3 * k
  | 0, _ => rfl
  | k + 1, h => by rw [ordP_take hl (by omega), totOf_snoc2, ordP_tot hl k (by omega)]; simp only; omega
theorem runP_tot {hl : List Int} (hc : Code.check hl = 0) (r : Int × Int) : totOf (runP hl r) ≤ 22 := by
  have h1 := part_le hc r.1
  have h2 := kbits_le r.1
  simp only [runP, totOf]
  omega
theorem runsP_tot {hl : List Int} (hc : Code.check hl = 0) : ∀ rs, totOf (runsP hl rs) ≤ 22 * rs.length
  | [] => by simp [runsP, totOf]
  | r :: rs => by
    have h1 := runP_tot hc r
    have h2 := runsP_tot hc rs
    have e : runsP hl (r :: rs) = runP hl r ++ runsP hl rs := by simp [runsP]
    rw [e, totOf_app, List.length_cons]
    omega
theorem ordC_get {j : Nat} (h : j < 19) : ordC[j]? = some (.int .i64 ((ord.getD j 0 : Nat) : Int)) := by
  have : ∀ j, j < 19 → ordC[j]? = some (.int .i64 ((ord.getD j 0 : Nat) : Int)) := by
    intro j hj
    unfold ordC
    rw [List.getElem?_toArray, i64s_get, List.getElem?_map, List.getD_eq_getElem?_getD, List.getElem?_eq_getElem (show j < ord.length from hj)]
    rfl
  exact this j h
end Go.Proofs.YtkdgfioigkijgaaGreat.Head
/- The document's first example goes so (lives), wherever it is asked. No condition. -/
set_option maxRecDepth 100000
set_option linter.unusedVariables false
set_option linter.unusedSimpArgs false
namespace Go.Proofs.YtkdgfioigkijgaaGreat.Bits
open Go.RowKit Go.Proofs.YtkdgfioigkijgaaGreat.Lib Go.Proofs.YtkdgfioigkijgaaGreat.Num

theorem tl_new (w : World) (T : TypeId) (hT : T ≠ 5) : Tl (w.alloc (.cells #[.slice none 0 0, .int .i64 0] T)) w.heap.size T 0 0 none :=
  ⟨.slice none 0 0, blk_new w _, own_nil _ _ _ _, rfl, by simp, hT⟩
end Go.Proofs.YtkdgfioigkijgaaGreat.Bits
/- sapperref01's memory words: Same. No condition. -/
set_option maxRecDepth 100000
set_option linter.unusedVariables false
set_option linter.unusedSimpArgs false
namespace Go.Proofs.YtkdgfioigkijgaaGreat.Bits
open Go.RowKit Go.Proofs.YtkdgfioigkijgaaGreat.Lib Go.Proofs.YtkdgfioigkijgaaGreat.Num

theorem conv_string {P : Program} {w : World} {src dst e : TypeId} {A : Option Addr} {c : Nat} {xs : List Int} {q : Option Nat} (hs : P.underlying src = some (.slice e)) (he : P.underlying e = some (.int .u8)) (hd : P.underlying dst = some .string)
    (h : Sl w A (u8s xs) q) (hA : A = none → xs.length = 0 ∧ c = 0) : (convert src dst (.slice A xs.length c)).run P w = .ok (.string (strOfNums xs)) w := by
  rcases A with _ | ad
  · obtain ⟨h0, rfl⟩ := hA rfl
    obtain rfl : xs = [] := List.eq_nil_of_length_eq_zero h0
    exact run_convert_bytes_nil w src e hs he 0 0 dst hd
  · have hl : (loadCells ad xs.length).run P w = .ok (xs.map (Value.int .u8)).toArray w := by
      have := run_loadCells_list (P := P) w ad (xs.map (Value.int .u8)) (h.news rfl)
      simpa using this
    rw [run_convert_bytes_string w src dst e _ xs.length c hs he hd, run_bytesToString w ad xs.length c xs hl, foldl_push_bytes]
    simp [strOfNums, ByteArray.empty, ByteArray.emptyWithCapacity]
    rfl
theorem str_eq {xs ys : List Int} (hx : ∀ x ∈ xs, 0 ≤ x ∧ x ≤ 255) (hy : ∀ x ∈ ys, 0 ≤ x ∧ x ≤ 255) : ((strOfNums xs).toList == (strOfNums ys).toList) = decide (xs = ys) := by
  have e : ∀ zs : List Int, (strOfNums zs).toList = zs.map fun n => UInt8.ofNat n.toNat := by
    intro zs
    rw [ByteArray.toList_eq]; simp [strOfNums]
  rw [e, e, Bool.eq_iff_iff]
  simp only [beq_iff_eq, decide_eq_true_eq]
  constructor
  · intro h
    induction xs generalizing ys with
    | nil => cases ys <;> simp_all
    | cons x xs ih =>
      cases ys with
      | nil => simp at h
      | cons y ys =>
        simp only [List.map_cons, List.cons.injEq] at h
        have h1 := hx x (by simp)
        have h2 := hy y (by simp)
        have e1 := congrArg UInt8.toNat h.1
        simp at e1
        rw [ih (fun z hz => hx z (by simp [hz])) (fun z hz => hy z (by simp [hz])) h.2]
        congr 1
        omega
  · rintro rfl; rfl
theorem same_any (w : World) (A B : Option Addr) (n m c d : Nat) (xs ys : List Int) (p q : Option Nat) (hn : xs.length = n) (hm : ys.length = m) (hx : ∀ x ∈ xs, 0 ≤ x ∧ x ≤ 255) (hy : ∀ x ∈ ys, 0 ≤ x ∧ x ≤ 255)
    (hS : Sl w A (u8s xs) p) (hT : Sl w B (u8s ys) q) (hA : A = none → n = 0 ∧ c = 0) (hB : B = none → m = 0 ∧ d = 0) :
    Calls Tryz.prog 22 #[.slice A n c, .slice B m d] w fun e w' => e = .returned (.bool (decide (xs = ys))) ∧ w = w' := by
  subst hn hm
  have h1 := conv_string (P := Tryz.prog) (dst := 9) Tryz.underlying23 Tryz.underlying5 Tryz.underlying9 hS hA
  have h2 := conv_string (P := Tryz.prog) (dst := 9) Tryz.underlying23 Tryz.underlying5 Tryz.underlying9 hT hB
  have He := Hd.mk (str_eq hx hy)
  clear hS hT hA hB hx hy
  go_enter Tryz.func22, Tryz.ntmps22
  go_wp2
  go_ret
  exact ⟨by rw [← He.out]; rfl, rfl⟩
end Go.Proofs.YtkdgfioigkijgaaGreat.Bits
/- The document's reader (sapperref03): what each method answers and leaves behind, in the same words as the program's. Conditions: at most 64 bits are held. -/
set_option maxRecDepth 100000
set_option linter.unusedVariables false
set_option linter.unusedSimpArgs false
namespace Go.Proofs.YtkdgfioigkijgaaGreat.Bits
open Go.RowKit Go.Proofs.YtkdgfioigkijgaaGreat.Lib Go.Proofs.YtkdgfioigkijgaaGreat.Num

/-- the h bits of V, the lowest first -/
def bools (V h : Nat) : List Value := (List.range h).map fun i => .bool (V.testBit i)
theorem bools_length (V h : Nat) : (bools V h).length = h := by simp [bools]
theorem bools_get {V h i : Nat} (hi : i < h) : (bools V h)[i]? = some (.bool (V.testBit i)) := by simp [bools, hi]
theorem bools_snoc {V h : Nat} (hV : V < 2 ^ h) (b : Bool) : bools V h ++ [.bool b] = bools (V + b.toNat * 2 ^ h) (h + 1) := by
  apply List.ext_getElem?
  intro i
  by_cases h1 : i < h
  · rw [List.getElem?_append_left (by rw [bools_length]; exact h1), bools_get h1, bools_get (by omega)]
    congr 2
    rw [Nat.add_comm, Nat.mul_comm, Nat.testBit_two_pow_mul_add _ hV, if_pos h1]
  · by_cases h2 : i = h
    · subst h2
      rw [List.getElem?_append_right (by rw [bools_length]; omega), bools_length, bools_get (by omega), Nat.sub_self]
      simp only [List.getElem?_cons_zero]
      congr 2
      rw [Nat.add_comm, Nat.mul_comm, Nat.testBit_two_pow_mul_add _ hV, if_neg (by omega), Nat.sub_self]
      cases b <;> rfl
    · rw [List.getElem?_eq_none (by simp [bools_length]; omega), List.getElem?_eq_none (by rw [bools_length]; omega)]
theorem infoBool : (Tryz.prog.info? 4).map (fun i => (i.zero, i.size, i.bytes)) = some (some (.bool false), 1, 1) := by kernel_rfl

section
variable {g V b t : Nat} {q : Option Nat}
theorem low_bit (V i : Nat) : V % 2 ^ (i + 1) = V % 2 ^ i + (V.testBit i).toNat * 2 ^ i := by
  rw [mod_more V i 1, Nat.pow_one]
  congr 2
  rw [Nat.testBit_eq_decide_div_mod_eq]
  rcases Nat.mod_two_eq_zero_or_one (V / 2 ^ i) with h | h <;> simp [h]
end
end Go.Proofs.YtkdgfioigkijgaaGreat.Bits
/- The document's writer (sapperref03): what each method answers and leaves behind. Conditions: fewer than 2^46 bits. -/
set_option maxRecDepth 100000
set_option linter.unusedVariables false
set_option linter.unusedSimpArgs false
namespace Go.Proofs.YtkdgfioigkijgaaGreat.Bits
open Go.RowKit Go.Proofs.YtkdgfioigkijgaaGreat.Lib Go.Proofs.YtkdgfioigkijgaaGreat.Num

/-- The document's writer in block g holds the m bits of N; q: the block of its bits. -/
def RW (w : World) (g : Nat) (N m : Nat) (q : Option Nat) : Prop :=
  ∃ A c, w.heap[g]? = some (.cells #[.slice A m c] 30 (0, 0)) ∧ w.ownsRow 0 4 1 (.slice A m c) m (bools N m) ∧ (Value.slice A m c).ownBlock = q ∧ N < 2 ^ m
theorem RW.frame {w w' : World} {g N m : Nat} {q : Option Nat} (hr : RW w g N m q) {F : List Nat} (hf : Fr w w' F) (hg : g ∉ F) (hq : ∀ k, q = some k → k ∉ F) : RW w' g N m q := by
  obtain ⟨A, c, hb, hown, rfl, hV⟩ := hr
  exact ⟨A, c, hf.blk hb hg, own_frame hown hf hq, rfl, hV⟩
theorem RW.lt {w : World} {g N m : Nat} {q : Option Nat} (hr : RW w g N m q) : g < w.heap.size ∧ ∀ k, q = some k → k < w.heap.size := by
  obtain ⟨A, c, hb, hown, rfl, hV⟩ := hr
  exact ⟨blk_lt hb, fun k hk => own_lt hown hk⟩
section
variable {g N m : Nat} {q : Option Nat}
/-- behind an append of one bit -/
theorem wbit_stored {w w1 : World} {A : Option Addr} {c : Nat} {A' : Option Addr} {c' : Nat} {bt : Bool} (hb : w.heap[g]? = some (.cells #[.slice A m c] 30 (0, 0)))
    (hown : w.ownsRow 0 4 1 (.slice A m c) m (bools N m)) (hV : N < 2 ^ m) (O : Obj)
    (hown' : w1.ownsRow 0 4 1 (.slice A' (m + 1) c') (m + 1) (bools N m ++ [.bool bt])) (hg : (w.alloc O).grownBy w1 (Value.slice A m c).ownBlock) (haft : Aft (w.alloc O) (Value.slice A m c).ownBlock (Value.slice A' (m + 1) c').ownBlock) :
    RW (w1.setCell ⟨g, 0, none⟩ (.slice A' (m + 1) c')) g (N + bt.toNat * 2 ^ m) (m + 1) (Value.slice A' (m + 1) c').ownBlock ∧ Aft w (Value.slice A m c).ownBlock (Value.slice A' (m + 1) c').ownBlock ∧
      Fr w (w1.setCell ⟨g, 0, none⟩ (.slice A' (m + 1) c')) (g :: (Value.slice A m c).ownBlock.toList) := by
  have hb1 := blk_grown hg (blk_alloc hb O) (own_ne hown hb (by decide)).symm
  have hne := own_ne hown' hb1 (by decide)
  rw [bools_snoc hV] at hown'
  refine ⟨⟨A', c', by simpa using blk_set hb1 0 (.slice A' (m + 1) c'), own_setFar hown' _ hne, rfl, grow_lt hV (by cases bt <;> decide)⟩, ?_, ?_⟩
  · rcases haft with e | ⟨k, e, hk⟩
    · exact .inl e
    · exact .inr ⟨k, e, by simp at hk; omega⟩
  · exact (((Fr.refl w _).alloc O).grown hg (fun k hk => .inl (by simp [hk]))).setCell _ (.inl (by simp))
theorem hand_bit {v i : Nat} (hv : v < 2 ^ 64) : (Go.bits .and .u64 ((v : Int) / 2 ^ i) 1 == 1) = v.testBit i := by
  have hle : v / 2 ^ i ≤ v := Nat.div_le_self _ _
  rw [div_cast, n64and1 (by omega), Nat.testBit_eq_decide_div_mod_eq, Bool.eq_iff_iff]
  simp only [beq_iff_eq, decide_eq_true_eq]
  omega
theorem wput_ok (a n : Int) (v : Nat) (w : World) (ha : a = (v : Nat)) (hm0 : mayN v n = 0) (hm : m + n.toNat ≤ 70368744177664) (hT : RW w g N m q) :
    Calls Tryz.prog 12 #[.pointer (some ⟨g, 0, none⟩), .int .u64 a, .int .i64 n] w fun e w' => e = .returned (.int .i64 0) ∧
      ∃ q', RW w' g (N + v * 2 ^ m) (m + n.toNat) q' ∧ Aft w q q' ∧ Fr w w' (g :: q.toList) := by
  subst ha
  obtain ⟨i0, hi0, hz0, hz1, hz2⟩ := info_parts infoBool
  obtain ⟨h0, h1, h2⟩ := mayN_zero hm0
  obtain ⟨n, rfl⟩ := Int.eq_ofNat_of_zero_le h0
  rw [Int.toNat_natCast] at *
  have hv64 : Hd (v < 2 ^ 64) := ⟨Nat.lt_of_lt_of_le h2 (Nat.pow_le_pow_right (by decide) (by omega))⟩
  have hvn := Hd.mk h2
  have hz : (v : Int) / 2 ^ n = 0 := by rw [div_cast, Nat.div_eq_of_lt h2]; rfl
  have HT := Hd.mk hT
  clear hm0 hT h2
  go_enter Tryz.func12, Tryz.ntmps12
  go_wp2
  go_loopg [7] n (fun kq iv wr => ∃ i N2 m2 : Nat, iv = .int .i64 (i : Nat) ∧ i + kq = n ∧ m2 + kq ≤ 70368744177664 ∧ Hd (N2 = N + v % 2 ^ i * 2 ^ m ∧ m2 = m + i) ∧ ∃ q', RW wr g N2 m2 q' ∧ Aft w q q' ∧ Fr w wr (g :: q.toList))
  case atStart => exact ⟨0, N, m, rfl, by omega, by omega, ⟨by simp [Nat.mod_one], rfl⟩, q, HT.out, Aft.refl _ _, Fr.refl _ _⟩
  case round =>
    obtain ⟨i, N2, m2, rfl, hi, hb22, HE2, q2, hr2, ha2, hf2⟩ := hrel
    have HR2 := Hd.mk hr2
    have HA2 := Hd.mk ha2
    have HF2 := Hd.mk hf2
    clear hz
    by_cases hlt2 : i < n
    · obtain ⟨A2, c2, hblk, hown, hq2, hV2⟩ := hr2
      have k0 := blk_cell hblk 0
      have f0 := blk_frozen hblk 0
      simp only [List.getElem?_toArray, List.getElem?_cons_zero, List.getElem?_cons_succ] at k0
      have ka := blk_cell (blk_alloc hblk (.cells #[.bool (v.testBit i)] 4)) 0
      simp only [List.getElem?_toArray, List.getElem?_cons_zero] at ka
      have HB := Hd.mk hblk
      have HO := Hd.mk hown
      have HQ2 := Hd.mk hq2
      have HV2 := Hd.mk hV2
      have HNE := Hd.mk (own_ne hown hblk (by decide))
      obtain ⟨bt, hbt⟩ : ∃ bt, bt = v.testBit i := ⟨_, rfl⟩
      rw [← hbt] at ka
      have hand : (Go.bits .and .u64 ((v : Int) / 2 ^ i) 1 == 1) = bt := by rw [hbt]; exact hand_bit hv64.out
      have Hbt := Hd.mk hbt
      clear hblk hown hq2 hV2 hbt hf2 ha2
      go_wp2
      go_region_law (refine step_append_sl rfl (.tmp 27) (.tmp 33) 28 rfl 4 i0 (.bool false) 1 1 Tryz.underlying28 hi0 hz0 hz1 hz2 rfl (by decide) (.slice A2 m2 c2) m2 (bools N2 m2) (by simp [Act.eval, Act.put]) (by exact HO.out.alloc _) (some ⟨wr.heap.size, 0, none⟩) 1 1 [.bool bt] (some wr.heap.size) (by simp [Act.eval, Act.put]) rfl (by exact sl_of_blk (blk_new _ _)) (by intro h; cases h) (by intro u hu; simp at hu; subst hu; rfl) (by unfold maxLen; omega) (by omega) ?_; intro A' c' w1 hown' hgrow haft; have hb1 := blk_grown hgrow (by exact blk_alloc HB.out _) HNE.out.symm; have k1 := blk_cell hb1 0; have f1 := blk_frozen hb1 0; simp only [List.getElem?_toArray, List.getElem?_cons_zero] at k1; have R := wbit_stored (bt := bt) HB.out HO.out HV2.out (.cells #[.bool bt] 4) hown' ⟨hgrow.os, hgrow.tape, hgrow.output, hgrow.size, hgrow.block⟩ haft; have HRR := Hd.mk R; clear hown' hgrow haft hb1 R)
      all_goals
        go_wp2
        go_roundg (gk - 1)
        case measure => omega
        case rel =>
          have h := HRR.out
          rw [HQ2.out] at h
          obtain ⟨r1, r2, r3⟩ := h
          refine ⟨i + 1, N2 + bt.toNat * 2 ^ m2, m2 + 1, by go_num, by omega, by omega, ⟨?_, by have := HE2.out.2; omega⟩, _, r1, HA2.out.trans r2 HF2.out.size, HF2.out.trans r3 (fun y hy hyG => ?_)⟩
          · rw [HE2.out.1, HE2.out.2, Hbt.out, low_bit, Nat.add_mul, Nat.mul_assoc, ← Nat.pow_add, Nat.add_comm m i, Nat.add_assoc]
          · rcases List.mem_cons.1 hyG with rfl | e
            · simp
            · rcases HA2.out.mem e with h | h
              · exact List.mem_cons_of_mem _ h
              · omega
    · obtain rfl : i = n := by omega
      clear hr2 ha2 hf2
      go_wp2
      go_ret
      obtain ⟨e1, e2⟩ := HE2.out
      rw [Nat.mod_eq_of_lt hvn.out] at e1
      subst e1 e2
      exact ⟨rfl, q2, HR2.out, HA2.out, HF2.out⟩
theorem walign_any (w : World) (hm : m + 8 ≤ 70368744177664) (hT : RW w g N m q) :
    Calls Tryz.prog 53 #[.pointer (some ⟨g, 0, none⟩)] w fun e w' => e = .returned (.int .i64 (((8 - m % 8) % 8 : Nat) : Int)) ∧
      ∃ q', RW w' g N (m + (8 - m % 8) % 8) q' ∧ Aft w q q' ∧ Fr w w' (g :: q.toList) := by
  obtain ⟨i0, hi0, hz0, hz1, hz2⟩ := info_parts infoBool
  have HT := Hd.mk hT
  clear hT
  obtain ⟨n, hn⟩ : ∃ n, n = (8 - m % 8) % 8 := ⟨_, rfl⟩
  have Hn := Hd.mk hn
  have hn8 : n ≤ 7 := by omega
  rw [← hn]
  clear hn
  go_enter Tryz.func53, Tryz.ntmps53
  go_wp2
  go_loopg [3] n (fun kq iv wr => ∃ i : Nat, iv = .int .i64 (i : Nat) ∧ i + kq = n ∧ ∃ q', RW wr g N (m + i) q' ∧ Aft w q q' ∧ Fr w wr (g :: q.toList))
  case atStart => exact ⟨0, rfl, by omega, q, HT.out, Aft.refl _ _, Fr.refl _ _⟩
  case round =>
    obtain ⟨i, rfl, hi, q2, hr2, ha2, hf2⟩ := hrel
    have HR2 := Hd.mk hr2
    have HA2 := Hd.mk ha2
    have HF2 := Hd.mk hf2
    obtain ⟨A2, c2, hblk, hown, hq2, hV2⟩ := hr2
    have k0 := blk_cell hblk 0
    have f0 := blk_frozen hblk 0
    simp only [List.getElem?_toArray, List.getElem?_cons_zero, List.getElem?_cons_succ] at k0
    by_cases hlt2 : i < n
    · have HB := Hd.mk hblk
      have HO := Hd.mk hown
      have HQ2 := Hd.mk hq2
      have HV2 := Hd.mk hV2
      have HNE := Hd.mk (own_ne hown hblk (by decide))
      have h8 : (((m : Int) + i) % 8 == 0) = false := by have := Hn.out; simp; omega
      clear hblk hown hq2 hV2 hf2 ha2
      go_wp2_with (at_builtin; refine wpList_append_sl rfl (.tmp 15) (.tmp 16) 28 rfl 4 i0 (.bool false) 1 1 Tryz.underlying28 hi0 hz0 hz1 hz2 rfl (by decide) (.slice A2 (m + i) c2) (m + i) (bools N (m + i)) rfl (by exact HO.out.alloc _) (some ⟨wr.heap.size, 0, none⟩) 1 1 [.bool false] (some wr.heap.size) rfl rfl (by exact sl_of_blk (blk_new _ _)) (by intro h; cases h) (by intro u hu; simp at hu; subst hu; rfl) (by unfold maxLen; omega) (by omega) ?_; intro A' c' w1 hown' hgrow haft; have hb1 := blk_grown hgrow (by exact blk_alloc HB.out _) HNE.out.symm; have k1 := blk_cell hb1 0; have f1 := blk_frozen hb1 0; simp only [List.getElem?_toArray, List.getElem?_cons_zero] at k1; have R := wbit_stored (bt := false) HB.out HO.out HV2.out (.cells #[.bool false] 4) hown' hgrow haft; have HRR := Hd.mk R; clear hown' hgrow haft hb1 R)
      go_roundg (gk - 1)
      case measure => omega
      case rel =>
        have h := HRR.out
        rw [HQ2.out] at h
        obtain ⟨r1, r2, r3⟩ := h
        refine ⟨i + 1, by go_num, by omega, _, by simpa [Nat.add_assoc] using r1, HA2.out.trans r2 HF2.out.size, HF2.out.trans r3 (fun y hy hyG => ?_)⟩
        rcases List.mem_cons.1 hyG with rfl | e
        · simp
        · rcases HA2.out.mem e with h | h
          · exact List.mem_cons_of_mem _ h
          · omega
    · obtain rfl : i = n := by omega
      have h8 : (((m : Int) + i) % 8 == 0) = true := by have := Hn.out; simp; omega
      clear hblk hown hq2 hV2 hf2 ha2
      go_wp2
      go_ret
      exact ⟨rfl, q2, HR2.out, HA2.out, HF2.out⟩
theorem wwhole_any (w : World) (A : Option Addr) (l c : Nat) (xs : List Int) (qx : Option Nat) (hlen : xs.length = l) (hx : ∀ x ∈ xs, 0 ≤ x ∧ x ≤ 255) (hS : Sl w A (u8s xs) qx)
    (hq : ∀ k, qx = some k → k ∉ g :: q.toList) (hm : m + 8 + 8 * l ≤ 70368744177664) (hT : RW w g N m q) :
    Calls Tryz.prog 54 #[.pointer (some ⟨g, 0, none⟩), .slice A l c] w fun e w' => e = .returned (.tuple #[]) ∧
      ∃ q', RW w' g (N + valB xs * 2 ^ (m + (8 - m % 8) % 8)) (m + (8 - m % 8) % 8 + 8 * l) q' ∧ Aft w q q' ∧ Fr w w' (g :: q.toList) := by
  subst hlen
  have HT := Hd.mk hT
  have HS := Hd.mk hS
  have HX := Hd.mk hx
  have HQ := Hd.mk hq
  obtain ⟨M, hM⟩ : ∃ M, M = m + (8 - m % 8) % 8 := ⟨_, rfl⟩
  have hMm : M ≤ m + 7 := by omega
  have HM := Hd.mk hM
  rw [← hM]
  clear hT hS hx hq hM
  go_enter Tryz.func54, Tryz.ntmps54
  go_wp2_with (fail)
  refine (walign_any w (by omega) HT.out).mono ?_
  rintro e w1 ⟨rfl, q1, h1, h2, h3⟩
  rw [← HM.out] at h1
  have H1 := Hd.mk h1
  have H2 := Hd.mk h2
  have H3 := Hd.mk h3
  clear h1 h2 h3
  go_wp2
  go_loopg [10] xs.length (fun kq iv wr => ∃ i : Nat, iv = .int .i64 (i : Nat) ∧ i + kq = xs.length ∧ ∃ q', Hd (RW wr g (N + valB (xs.take i) * 2 ^ M) (M + 8 * i) q') ∧ Hd (Aft w q q') ∧ Hd (Fr w wr (g :: q.toList)))
  case atStart => exact ⟨0, rfl, by omega, q1, ⟨by simpa [valB] using H1.out⟩, H2, H3⟩
  case round =>
    obtain ⟨i, rfl, hi, q2, HR2, HA2, HF2⟩ := hrel
    by_cases hlt : i < xs.length
    · obtain ⟨p, off, rfl, hp, hcell⟩ := (HS.out.frame HF2.out HQ.out) (by simp [u8s]; omega)
      have hxj := HX.out (xs[i]'hlt) (List.getElem_mem _)
      obtain ⟨x, hx⟩ : ∃ x : Nat, xs[i]'hlt = (x : Int) := Int.eq_ofNat_of_zero_le hxj.1
      have hcj := (hcell i (by simp [u8s]; omega)).trans (by rw [u8s_get, List.getElem?_eq_getElem (by omega), hx])
      have hx255 : (x : Int) ≤ 255 := by omega
      have Hx := Hd.mk hx
      clear hcell hx hxj
      go_wp2_with (fail)
      refine (wput_ok (m := M + 8 * i) (x : Int) 8 x wr rfl (mayN_ok (by decide) (by decide) (by show x < 2 ^ 8; omega)) (by show M + 8 * i + 8 ≤ _; omega) HR2.out).mono ?_
      rintro e w2 ⟨rfl, q3, h1, h2, h3⟩
      have K1 := Hd.mk h1
      have K2 := Hd.mk h2
      have K3 := Hd.mk h3
      clear h1 h2 h3
      go_wp2
      go_roundg (gk - 1)
      case measure => omega
      case rel =>
        refine ⟨i + 1, by go_num, by omega, q3, ⟨?_⟩, ⟨HA2.out.trans K2.out HF2.out.size⟩, ⟨HF2.out.trans K3.out (fun y hy hyG => ?_)⟩⟩
        · have := K1.out
          rw [valB_take xs i hlt, Hx.out, Int.toNat_natCast, Nat.add_mul, Nat.mul_assoc x, ← Nat.pow_add, Nat.add_comm (8 * i) M, ← Nat.add_assoc]
          exact this
        · rcases List.mem_cons.1 hyG with rfl | e
          · simp
          · rcases HA2.out.mem e with h | h
            · exact List.mem_cons_of_mem _ h
            · omega
    · obtain rfl : i = xs.length := by omega
      go_wp2
      go_end0
      have := HR2.out
      rw [List.take_length] at this
      exact ⟨rfl, q2, this, HA2.out, HF2.out⟩
end
end Go.Proofs.YtkdgfioigkijgaaGreat.Bits
/- The document's writer that takes up parts (like XParts for the program's). Conditions: fewer than 2^46 bits. -/
set_option linter.unusedVariables false
set_option linter.unusedSimpArgs false
set_option maxRecDepth 100000
namespace Go.Proofs.YtkdgfioigkijgaaGreat.Blk
open Go.RowKit Go.Proofs.YtkdgfioigkijgaaGreat.Lib Go.Proofs.YtkdgfioigkijgaaGreat.Ints Go.Proofs.YtkdgfioigkijgaaGreat.Num Go.Proofs.YtkdgfioigkijgaaGreat.Bits Go.Proofs.YtkdgfioigkijgaaGreat.Code
/-- what a Put leaves: v of n bits behind -/
def PutR (w w' : World) (gw N m : Nat) (q : Option Nat) (p : Nat × Nat) : Prop := ∃ q', RW w' gw (N + p.1 * 2 ^ m) (m + p.2) q' ∧ Aft w q q' ∧ Fr w w' (gw :: q.toList)
/-- the document's writer that has taken P behind N, m -/
structure Rw (w0 w : World) (gw : Nat) (q0 q : Option Nat) (N m : Nat) (P : List (Nat × Nat)) : Prop where
  rw_ : RW w gw (N + numOf P * 2 ^ m) (m + totOf P) q
  aft : Aft w0 q0 q
  fr : Fr w0 w (gw :: q0.toList)
section
variable {w0 w w' : World} {gw N m : Nat} {q0 q : Option Nat} {P Q : List (Nat × Nat)}
theorem Rw.start (h : RW w gw N m q) : Rw w w gw q q N m [] := ⟨by simpa [numOf, totOf] using h, Aft.refl _ _, Fr.refl _ _⟩
theorem Rw.call (h : Rw w0 w gw q0 q N m P) (hf : Fr w w' []) : Rw w0 w' gw q0 q N m P := ⟨h.rw_.frame hf (by simp) (by simp), h.aft, h.fr.trans hf (by simp)⟩
theorem Rw.mem (h : Rw w0 w gw q0 q N m P) {x : Nat} (hx : x < w0.heap.size) (hm : x ∈ gw :: q.toList) : x ∈ gw :: q0.toList := by
  rcases List.mem_cons.1 hm with e | hm
  · subst e; simp
  · rcases h.aft.mem hm with h1 | h1
    · exact List.mem_cons_of_mem _ h1
    · omega
theorem Rw.put (h : Rw w0 w gw q0 q N m P) {p : Nat × Nat} (hp : PutR w w' gw (N + numOf P * 2 ^ m) (m + totOf P) q p) : ∃ q', Rw w0 w' gw q0 q' N m (P ++ [p]) := by
  obtain ⟨v, n⟩ := p
  obtain ⟨q', h1, h2, h3⟩ := hp
  refine ⟨q', ?_, h.aft.trans h2 h.fr.size, h.fr.trans h3 (fun x hx hm => h.mem hx hm)⟩
  rw [numOf_snoc, totOf_snoc]
  have e : N + (numOf P + v * 2 ^ totOf P) * 2 ^ m = N + numOf P * 2 ^ m + v * 2 ^ (m + totOf P) := by
    rw [Nat.add_mul, Nat.mul_assoc, ← Nat.pow_add, Nat.add_comm (totOf P) m, Nat.add_assoc]
  rw [e, ← Nat.add_assoc m]
  exact h1
theorem Rw.more (h : Rw w0 w gw q0 q N m P) {q' : Option Nat} (hp : Rw w w' gw q q' (N + numOf P * 2 ^ m) (m + totOf P) Q) : Rw w0 w' gw q0 q' N m (P ++ Q) := by
  refine ⟨?_, h.aft.trans hp.aft h.fr.size, h.fr.trans hp.fr (fun x hx hm => h.mem hx hm)⟩
  have := hp.rw_
  rw [Nat.add_assoc m, ← totOf_app] at this
  have e : N + numOf (P ++ Q) * 2 ^ m = N + numOf P * 2 ^ m + numOf Q * 2 ^ (m + totOf P) := by
    rw [numOf_app, Nat.add_mul, Nat.mul_assoc, ← Nat.pow_add, Nat.add_comm (totOf P) m, Nat.add_assoc]
  rw [e]
  exact this
theorem rwput (a n : Int) (v : Nat) (ha : a = (v : Nat)) (hv : v < 2 ^ n.toNat) (h0 : 0 ≤ n) (h1 : n ≤ 56) (hT : RW w gw N m q) (hm : m + n.toNat ≤ 70368744177664) :
    Calls Tryz.prog 12 #[.pointer (some ⟨gw, 0, none⟩), .int .u64 a, .int .i64 n] w fun e w' => e = .returned (.int .i64 0) ∧ PutR w w' gw N m q (v, n.toNat) := by
  refine (wput_ok a n v w ha (mayN_ok h0 h1 hv) hm hT).mono ?_
  rintro e w2 ⟨rfl, q', h1, h2, h3⟩
  exact ⟨rfl, q', h1, h2, h3⟩
end
theorem Rw.after {w0 w1 w2 : World} {gw N m : Nat} {q q' : Option Nat} {P : List (Nat × Nat)} (hf : Fr w0 w1 []) (h : Rw w1 w2 gw q q' N m P) : Rw w0 w2 gw q q' N m P :=
  ⟨h.rw_, (Aft.refl w0 q).trans h.aft hf.size, (hf.mono (G := gw :: q.toList) (fun k _ hm => by cases hm)).trans h.fr (fun x _ hm => hm)⟩
theorem PutR.after {w w2 w' : World} {gw N m : Nat} {q : Option Nat} {p : Nat × Nat} (hf : Fr w w2 []) (h : PutR w2 w' gw N m q p) : PutR w w' gw N m q p := by
  obtain ⟨q', h1, h2, h3⟩ := h
  exact ⟨q', h1, (Aft.refl w q).trans h2 hf.size, (hf.mono (G := gw :: q.toList) (fun k _ hm => by cases hm)).trans h3 (fun x _ hm => hm)⟩
theorem PutR.ofDrew {w w' : World} {gw N m : Nat} {q : Option Nat} {p : Nat × Nat} (h : PutR w.drew w' gw N m q p) : PutR w w' gw N m q p := by
  obtain ⟨q', a, b, c⟩ := h
  exact ⟨q', a, b, c.ofDrew⟩
theorem bools_app {N m : Nat} (hN : N < 2 ^ m) (V n : Nat) : Bits.bools N m ++ Bits.bools (V % 2 ^ n) n = Bits.bools (N + V % 2 ^ n * 2 ^ m) (m + n) := by
  induction n with
  | zero => simp [Bits.bools, Nat.mod_one]
  | succ n ih =>
    have e : Bits.bools (V % 2 ^ (n + 1)) (n + 1) = Bits.bools (V % 2 ^ n) n ++ [.bool (V.testBit n)] := by
      rw [Bits.bools_snoc (Nat.mod_lt _ (Nat.pow_pos (by omega))), ← Bits.low_bit]
    have hlt : N + V % 2 ^ n * 2 ^ m < 2 ^ (m + n) := by
      have h1 : V % 2 ^ n < 2 ^ n := Nat.mod_lt _ (Nat.pow_pos (by omega))
      have h2 : (V % 2 ^ n + 1) * 2 ^ m ≤ 2 ^ n * 2 ^ m := Nat.mul_le_mul_right _ h1
      rw [Nat.add_mul, Nat.one_mul, ← Nat.pow_add, Nat.add_comm n m] at h2
      omega
    rw [e, ← List.append_assoc, ih, Bits.bools_snoc hlt, Bits.low_bit, Nat.add_mul, Nat.mul_assoc, ← Nat.pow_add, Nat.add_comm m n, Nat.add_assoc, Nat.add_assoc, show n + (m + 1) = m + (n + 1) from by omega]
theorem rw_app {w w9 : World} {gw N m V k c d : Nat} {Ax A3 : Option Addr} (hb : w.heap[gw]? = some (.cells #[.slice Ax m c] 30 (0, 0))) (ho : w.ownsRow 0 4 1 (.slice Ax m c) m (bools N m)) (hN : N < 2 ^ m) (hV : V < 2 ^ k) (h9 : w9.ownsRow 0 4 1 (.slice A3 (m + k) d) (m + k) (bools N m ++ bools V k)) (hg : w.grownBy w9 (Value.slice Ax m c).ownBlock) (ha : Aft w (Value.slice Ax m c).ownBlock (Value.slice A3 (m + k) d).ownBlock) : PutR w (w9.setCell ⟨gw, 0, none⟩ (.slice A3 (m + k) d)) gw N m (Value.slice Ax m c).ownBlock (V, k) := by
  have hb9 := blk_grown hg hb (own_ne ho hb (by decide)).symm
  have hne : (Value.slice A3 (m + k) d).ownBlock ≠ some gw := own_ne h9 hb9 (by decide)
  have hlt : N + V * 2 ^ m < 2 ^ (m + k) := by
    have h2 : (V + 1) * 2 ^ m ≤ 2 ^ k * 2 ^ m := Nat.mul_le_mul_right _ hV
    rw [Nat.add_mul, Nat.one_mul, ← Nat.pow_add, Nat.add_comm k m] at h2
    omega
  have hrow : bools N m ++ bools V k = bools (N + V * 2 ^ m) (m + k) := by
    have h1 := bools_app hN V k
    rw [Nat.mod_eq_of_lt hV] at h1
    exact h1
  rw [hrow] at h9
  refine ⟨_, ⟨A3, d, by simpa using blk_set hb9 0 (.slice A3 (m + k) d), own_setFar h9 _ hne, rfl, hlt⟩, ha, ?_⟩
  exact ((Fr.refl w _).grown hg (fun y hy => .inl (by simp [hy]))).setCell _ (.inl (by simp))
theorem rw_not {w : World} {gw N m : Nat} {q : Option Nat} (h : RW w gw N m q) {g : Nat} {cs : Array Value} {t : TypeId} {fr : Nat × Nat} (hb : w.heap[g]? = some (.cells cs t fr)) (h1 : t ≠ 30) (h2 : t ≠ 4) : g ∉ gw :: q.toList := by
  obtain ⟨A, c, hd, ho, rfl, _⟩ := h
  intro hm
  rcases List.mem_cons.1 hm with e | hm
  · exact blk_ne hb hd h1 e
  · obtain ⟨es, he⟩ := own_type ho (k := g) (by simpa using hm)
    exact blk_ne hb he h2 rfl
theorem rw_keep {w w' : World} {gw N m : Nat} {q : Option Nat} (h : RW w gw N m q) {g : Nat} {cs : Array Value} {t : TypeId} {fr : Nat × Nat} (hb : w.heap[g]? = some (.cells cs t fr)) (h1 : t ≠ 30) (h2 : t ≠ 4) (hf : Fr w w' (gw :: q.toList)) : w'.heap[g]? = some (.cells cs t fr) := hf.blk hb (rw_not h hb h1 h2)
theorem rown_keep {w w' : World} {gw N m : Nat} {q : Option Nat} {base : Nat} {e : TypeId} {size n : Nat} {v : Value} {xs : List Value} (hT : RW w gw N m q) (hf : Fr w w' (gw :: q.toList)) (h : w.ownsRow base e size v n xs) (h1 : e ≠ 30) (h2 : e ≠ 4) : w'.ownsRow base e size v n xs :=
  own_frame h hf (fun k hk => by
    obtain ⟨cs, hcs⟩ := own_type h hk
    exact rw_not hT hcs h1 h2)
end Go.Proofs.YtkdgfioigkijgaaGreat.Blk
/- The document's row and Bits, walked. Conditions: none but the slice's. -/
set_option linter.unusedVariables false
set_option linter.unusedSimpArgs false
set_option maxRecDepth 100000
namespace Go.Proofs.YtkdgfioigkijgaaGreat.Code
open Go.RowKit Go.IntWalk Go.Proofs.YtkdgfioigkijgaaGreat.Lib Go.Proofs.YtkdgfioigkijgaaGreat.Ints Go.Proofs.YtkdgfioigkijgaaGreat.Num

theorem and_one {a : Nat} (ha : a < 2 ^ 62) : Go.bits .and .i64 (a : Int) 1 = ((a % 2 : Nat) : Int) := by
  have h := (bits_nat .i64 62 (by decide) (fun n h0 h1 => IntWalk.i64_in n ⟨by omega, by omega⟩) a 1 ha (by decide)).1
  rw [show ((1 : Nat) : Int) = 1 from rfl] at h
  rw [h, Nat.and_one_is_mod]
theorem hand_biti {v i : Nat} (hv : v < 2 ^ 62) : (Go.bits .and .i64 ((v : Int) / 2 ^ i) 1 == 1) = v.testBit i := by
  have hle : v / 2 ^ i ≤ v := Nat.div_le_self _ _
  rw [div_cast, and_one (by omega), Nat.testBit_eq_decide_div_mod_eq, Bool.eq_iff_iff]
  simp only [beq_iff_eq, decide_eq_true_eq]
  omega
set_option maxHeartbeats 8000000 in
theorem row_any (w : World) (c n : Nat) (hc : c < 32768) (hn : n ≤ 15) :
    Calls Tryz.prog 142 #[.int .i64 (c : Nat), .int .i64 (n : Nat)] w fun e w' => ∃ A d, e = .returned (.slice A n d) ∧ w'.ownsRow 0 4 1 (.slice A n d) n (Bits.bools (rv c n) n) ∧ (∀ y, (Value.slice A n d).ownBlock = some y → w.heap.size ≤ y) ∧ Fr w w' [] := by
  obtain ⟨i0, hi0, hz0, hz1, hz2⟩ := info_parts Bits.infoBool
  go_enter Tryz.func142, Tryz.ntmps142
  go_wp2
  go_loopg [5, 6] n (fun kq lv iv wr => ∃ (j : Nat) (A : Option Addr) (d : Nat), lv = .slice A j d ∧ iv = .int .i64 ((kq : Int) - 1) ∧ j + kq = n ∧ Hd (wr.ownsRow 0 4 1 (.slice A j d) j (Bits.bools (rv c n % 2 ^ j) j)) ∧ Hd (∀ y, (Value.slice A j d).ownBlock = some y → w.heap.size ≤ y) ∧ Hd (Fr w wr []))
  case atStart => exact ⟨0, none, 0, rfl, by go_num, by omega, ⟨by simpa [Bits.bools] using own_nil w 0 4 1⟩, ⟨by intro y hy; cases hy⟩, ⟨Fr.refl _ _⟩⟩
  case round =>
    obtain ⟨j, A, d, rfl, rfl, hj, HO, HB, HF⟩ := hrel
    by_cases hlt : j < n
    · obtain ⟨f, rfl⟩ : ∃ f, gk = f + 1 := ⟨gk - 1, by omega⟩
      have hf : ((f + 1 : Nat) : Int) - 1 = (f : Int) := by omega
      rw [hf]
      clear hf
      obtain ⟨bt, hbt⟩ : ∃ bt, bt = c.testBit f := ⟨_, rfl⟩
      have hand : (Go.bits .and .i64 ((c : Int) / 2 ^ f) 1 == 1) = bt := by rw [hbt]; exact hand_biti (by omega)
      have Hbt : Hd (bt = (rv c n).testBit j) := ⟨by rw [hbt, rv_bit, decide_eq_true hlt, Bool.true_and, show n - 1 - j = f from by omega]⟩
      clear hbt
      go_wp2_with (at_builtin; refine wpList_append_sl rfl (.tmp 13) (.tmp 19) 28 rfl 4 i0 (.bool false) 1 1 Tryz.underlying28 hi0 hz0 hz1 hz2 rfl (by decide) (.slice A j d) j _ rfl (by exact HO.out.alloc _) (some ⟨wr.heap.size, 0, none⟩) 1 1 [.bool bt] (some wr.heap.size) rfl rfl (by exact sl_of_blk (blk_new _ _)) (by intro h; cases h) (by intro u hu; simp at hu; subst hu; rfl) (by unfold maxLen; omega) (by omega) ?_; intro A3 d3 w6 hown' hgrow haft; have O3 := Hd.mk hown'; have G3 := Hd.mk hgrow; have F3 := Hd.mk haft; clear hown' hgrow haft)
      go_roundg f
      case measure => omega
      case rel =>
        refine ⟨j + 1, A3, d3, rfl, by go_num, by omega, ⟨?_⟩, ⟨fun y hy => ?_⟩, ⟨(HF.out.alloc _).grown G3.out (fun y hy => .inr (HB.out y hy))⟩⟩
        · have h := O3.out
          rw [Bits.bools_snoc (Nat.mod_lt _ (Nat.pow_pos (by omega))), Hbt.out, ← Bits.low_bit] at h
          exact h
        · rcases F3.out with e | ⟨z, e, hz⟩
          · rw [e] at hy; exact HB.out y hy
          · rw [e] at hy; cases hy
            have := HF.out.size
            rw [World.size_alloc] at hz
            omega
    · obtain rfl : j = n := by omega
      obtain rfl : gk = 0 := by omega
      have e0 : (((0 : Nat) : Int) - 1) = -1 := by omega
      rw [e0]
      clear e0
      go_wp2
      go_ret
      have h := HO.out
      rw [Nat.mod_eq_of_lt (rv_lt c j)] at h
      exact ⟨A, d, rfl, h, HB.out, HF.out⟩
set_option maxHeartbeats 8000000 in
theorem bits_ref (w : World) (A : Option Addr) (n c : Nat) (lens : List Int) (q : Option Nat) (hS : SlArg w A n c (i64s lens) q) (hc : check lens = 0) (s : Int) (m cd : Nat) (hm : m = bitsOf lens s) (hcd : cd = codeOf lens s) :
    Calls Tryz.prog 87 #[.slice A n c, .int .i64 s] w fun e w' => ∃ A' d, e = .returned (.slice A' m d) ∧ w'.ownsRow 0 4 1 (.slice A' m d) m (Bits.bools (rv cd m) m) ∧ (∀ y, (Value.slice A' m d).ownBlock = some y → w.heap.size ≤ y) ∧ Fr w w' [] := by
  have HS := Hd.mk hS
  have HC := Hd.mk hc
  have HM := Hd.mk hm
  have HCD := Hd.mk hcd
  have hl : lens.length = n := by have := hS.len; simpa [i64s] using this
  have hln : (codes lens).length = n := by rw [codes_len hc, hl]
  clear hS hc hm hcd
  go_enter Tryz.func87, Tryz.ntmps87
  go_wp2_with (fail)
  refine (rcodes_any w A n c lens q HS.out 0 (codes lens) HC.out.symm rfl).mono ?_
  rintro e w1 ⟨A1, d1, rfl, h1, h2, h3⟩
  rw [hln] at h1 ⊢
  have O1 := Hd.mk h1
  have F1 := Hd.mk h3
  clear h1 h2 h3
  by_cases h0 : s < 0
  · obtain rfl : m = 0 := by rw [HM.out]; unfold bitsOf; rw [if_neg (by omega)]
    go_wp2
    go_ret
    exact ⟨none, 0, rfl, by simpa [Bits.bools] using own_nil w1 0 4 1, (by intro y hy; cases hy), F1.out⟩
  · by_cases h1 : s ≥ (n : Nat)
    · obtain rfl : m = 0 := by rw [HM.out]; unfold bitsOf; rw [if_neg (by omega)]
      go_wp2
      go_ret
      exact ⟨none, 0, rfl, by simpa [Bits.bools] using own_nil w1 0 4 1, (by intro y hy; cases hy), F1.out⟩
    · obtain ⟨i, rfl⟩ := Int.eq_ofNat_of_zero_le (show 0 ≤ s by omega)
      have hi : i < lens.length := by omega
      have hall := (bad_false (check_zero HC.out).1).2 lens[i] (List.getElem_mem hi)
      have hm2 : lens[i] = (m : Int) := by
        rw [HM.out]
        unfold bitsOf
        rw [if_pos (by omega), List.getD_eq_getElem?_getD, Int.toNat_natCast, List.getElem?_eq_getElem hi]
        simp only [Option.getD_some]
        omega
      have hcd2 : (codes lens)[i]? = some cd := by
        rw [HCD.out]
        unfold codeOf
        rw [Int.toNat_natCast, List.getD_eq_getElem?_getD, List.getElem?_eq_getElem (by omega)]
        rfl
      have hm15 : m ≤ 15 := by omega
      have hcdb : cd < 32768 := by
        by_cases hm0 : 0 < m
        · obtain ⟨c2, a1, a2, a3, a4⟩ := code_fits HC.out hi hm2 hm0
          rw [hcd2] at a1
          cases a1
          exact Nat.lt_of_lt_of_le a3 (Nat.pow_le_pow_right (by omega) hm15)
        · have h2 := codesF_zero lens (firstF (cz lens)) i hi (by rw [hm2]; omega)
          unfold codes at hcd2
          rw [if_pos HC.out, h2] at hcd2
          cases hcd2
          omega
      obtain ⟨bd, off, rfl, hq, hcc⟩ := (HS.out.sl.frame F1.out (by simp)) (by rw [i64s_length]; omega)
      have kd := (hcc i (by rw [i64s_length]; omega)).trans (i64s_get lens i)
      rw [List.getElem?_eq_getElem hi, hm2] at kd
      simp only [Option.map_some] at kd
      obtain ⟨gl, dl, e1, hdl⟩ := own_some O1.out (by omega)
      injection e1 with e1 _ e2
      subst e1 e2
      have kc := (O1.out.cellAt i (by omega)).trans (show (nv (codes lens))[i]? = some (.int .i64 (cd : Nat)) from by
        unfold nv
        rw [i64s_get, List.getElem?_map, hcd2]
        rfl)
      have hiI : (i : Int) < (n : Nat) := by omega
      clear hall hm2 hcd2 hcc hi hq
      go_upto_region 4 with (fail)
      go_region_with (first
        | (go_at_call 142; refine (row_any _ cd m hcdb hm15).mono ?_; rintro e w2 ⟨A2, d2, rfl, h1, h2, h3⟩; have O2 := Hd.mk h1; have B2 := Hd.mk h2; have F2 := Hd.mk h3; clear h1 h2 h3))
      all_goals
        go_wp2
        go_ret
        exact ⟨A2, d2, rfl, O2.out, fun y hy => Nat.le_trans F1.out.size (B2.out y hy), F1.out.trans F2.out.ofDrew (by simp)⟩
end Go.Proofs.YtkdgfioigkijgaaGreat.Code
/- copy of elements of several cells, over a row that is known whole; source and target may overlap. Conditions: none of ours. -/
set_option maxRecDepth 100000
set_option linter.unusedVariables false
set_option linter.unusedSimpArgs false
namespace Go.Proofs.YtkdgfioigkijgaaGreat.Lib
open Go.RowKit
section
variable {P : Program}
theorem run_copy_row_n (size : Nat) (w : World) (dT sT ty elem : TypeId) (g o dLen dCap : Nat) (a : Addr) (sLen sCap : Nat) (cur : Array Value) (t : TypeId) (cs : List Value)
    (hu : P.underlying dT = some (.slice elem)) (hs : (P.info? elem).map (·.size) = some size)
    (hg : w.heap[g]? = some (.cells cur t (0, 0))) (hn : cs.length = Nat.min sLen dLen * size)
    (hsrc : ∀ j v, cs[j]? = some v → w.cell? (a.add j) = some v) (hfit : o + cs.length ≤ cur.size) (h1 : ∀ v ∈ cs, v.oneCell' = true) :
    (Builtin.copy_ #[dT, sT] ty #[.slice (some ⟨g, o, none⟩) dLen dCap, .slice (some a) sLen sCap]).run P w =
      .ok (goInt (Nat.min sLen dLen)) (w.setRow g (cur.toList.take o ++ cs ++ cur.toList.drop (o + cs.length)).toArray) := by
  have hl := run_loadCells_list (P := P) w a cs hsrc
  have hst := run_storeCells_at P g o t cs 0 cur w hg (by simpa using hfit) h1
  cases hq : P.info? elem with
  | none => simp [hq] at hs
  | some i =>
    have hi : i.size = size := by simpa [hq] using hs
    simp [Builtin.copy_, run_underlying hu, Builtin.lenOf, Builtin.firstCells, sizeOf, typeInfo, hq, hi, ← hn, hl, hst]
theorem run_copy_none_n (size : Nat) (w : World) (dT sT ty elem : TypeId) (d a : Option Addr) (dLen dCap sLen sCap : Nat) (hu : P.underlying dT = some (.slice elem)) (hs : (P.info? elem).map (·.size) = some size) (hn : Nat.min sLen dLen = 0) :
    (Builtin.copy_ #[dT, sT] ty #[.slice d dLen dCap, .slice a sLen sCap]).run P w = .ok (goInt 0) w := by
  cases hq : P.info? elem with
  | none => simp [hq] at hs
  | some i =>
    have hl : ∀ (x : Addr), (loadCells x 0).run P w = .ok #[] w := fun x => by simpa using run_loadCells_list (P := P) w x [] (by simp)
    cases d <;> cases a <;> simp [Builtin.copy_, run_underlying hu, Builtin.lenOf, Builtin.firstCells, sizeOf, typeInfo, hq, hn, storeCells, hl]
theorem setRow_fr {w w' : World} {F : List Nat} (h : Fr w w' F) {g : Nat} (cs : Array Value) (hg : g ∈ F ∨ w.heap.size ≤ g) : Fr w (w'.setRow g cs) F :=
  ⟨h.os, h.tape, h.output, by have := h.size; simp [World.setRow]; omega, fun k hk hF => (setRow_other w' g k cs (by rintro rfl; rcases hg with hg | hg; exact hF hg; omega)).trans (h.block k hk hF)⟩
/-- as one step of a region that draws -/
theorem step_copy_n {ops : Array Oper} {o : Oper} {a : Act} {w : World} {K : Act → World → Prop} {Q : Exit → Act → World → Prop} {E : Prop} (hgd : o.guard = none) (d s : Operand) (dT sT : TypeId)
    (ho : o.op = .call { callee := .builtin .copy, args := #[d, s], argTypes := #[dT, sT] }) (elem : TypeId) (hu : P.underlying dT = some (.slice elem)) (size : Nat) (hsz : (P.info? elem).map (·.size) = some size)
    (dp sp : Option Addr) (dLen dCap sLen sCap : Nat) (hd : a.eval d = .slice dp dLen dCap) (hs : a.eval s = .slice sp sLen sCap)
    (g off : Nat) (cur : Array Value) (t : TypeId) (hg : w.heap[g]? = some (.cells cur t (0, 0))) (cs : List Value) (hn : cs.length = Nat.min sLen dLen * size) (hsize : 0 < size)
    (hpos : 0 < cs.length → dp = some ⟨g, off, none⟩ ∧ ∃ ad, sp = some ad ∧ ∀ j v, cs[j]? = some v → w.cell? (ad.add j) = some v)
    (hfit : off + cs.length ≤ cur.size) (h1 : ∀ v ∈ cs, v.oneCell' = true)
    (h : ∀ w', Hd (w'.heap[g]? = some (.cells (cur.toList.take off ++ cs ++ cur.toList.drop (off + cs.length)).toArray t (0, 0))) → Fr w w' [g] → K (a.put o.dst (goInt (Nat.min sLen dLen))) w') :
    if Region.wanted o (yielded ops a.tmps) = true then Oper.wp P o a w K Q else E := by
  have hw : Region.wanted o (yielded ops a.tmps) = true := by simp [Region.wanted, hgd]
  rw [if_pos hw]
  by_cases h0 : cs.length = 0
  · obtain rfl : cs = [] := List.eq_nil_of_length_eq_zero h0
    have hm : Nat.min sLen dLen = 0 := by
      rcases Nat.eq_zero_or_pos (Nat.min sLen dLen) with h | h
      · exact h
      · have := Nat.mul_pos h hsize; omega
    have hrun := run_copy_none_n (P := P) size w dT sT o.type elem dp sp dLen dCap sLen sCap hu hsz hm
    unfold Oper.wp
    rw [hm] at h
    simp [execOp, ho, resolve, invoke, builtin, hd, hs, hrun, Result.andThen]
    exact h w ⟨by simpa using hg⟩ (Fr.refl _ _)
  · obtain ⟨rfl, ad, rfl, hsrc⟩ := hpos (by omega)
    have hrun := run_copy_row_n (P := P) size w dT sT o.type elem g off dLen dCap ad sLen sCap cur t cs hu hsz hg hn hsrc hfit h1
    unfold Oper.wp
    simp only [execOp, ho, resolve, invoke, builtin, hd, hs, hrun, Result.andThen, Sem.run_bind, Sem.run_pure, Result.andThen_ok, List.map_toArray, List.map_cons, List.map_nil]
    exact h _ ⟨setRow_heap w g _ _ t _ hg⟩ (setRow_fr (Fr.refl _ _) _ (.inl (by simp)))
end
end Go.Proofs.YtkdgfioigkijgaaGreat.Lib
