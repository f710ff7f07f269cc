/- Chapter 08: Cost walked. No condition. -/
import Derived.Test.YtofajcifjmhomaaHeadPlanC
import Derived.Deep.RegionHeld3
set_option linter.unusedVariables false
set_option linter.unusedSimpArgs false
set_option maxRecDepth 100000
namespace Go.Proofs.Ytofajcifjmhomaa.Head
open Go.RowKit Go.Proofs.Ytofajcifjmhomaa.Lib Go.Proofs.Ytofajcifjmhomaa.Ints Go.Proofs.Ytofajcifjmhomaa.Runs
theorem kinds_full (w : World) (s b L M : Int) (h0 : 0 ≤ s) (h1 : s ≤ 18) (hb : b = kbits s) (hL : L = leastN s) (hM : M = mostN s) : Calls Try.prog 42 #[.int .i64 s] w fun e w' => e = .returned (.agg #[.int .i64 b, .int .i64 L, .int .i64 M]) ∧ Fr w w' [] := by
  subst hb hL hM
  by_cases h : s < 16
  · refine (kinds_low w s h).mono ?_
    rintro e w' ⟨rfl, hf⟩
    exact ⟨by unfold kbits leastN mostN; rw [if_pos h, if_pos h, if_pos h], hf⟩
  · have : s = 16 ∨ s = 17 ∨ s = 18 := by omega
    rcases this with rfl | rfl | rfl
    · exact kinds_16 w
    · exact kinds_17 w
    · exact kinds_18 w
theorem kf0 (a b c : Int) : ∀ w : World, (Instr.field 96 (.agg #[.int .i64 a, .int .i64 b, .int .i64 c]) 0).run Try.prog w = .ok (.int .i64 a) w := fun w => by kernel_rfl
def runCost (hl : List Int) (r : Int × Int) : Int := hl.getD r.1.toNat 0 + kbits r.1
def costF (hl : List Int) : List (Int × Int) → Int
  | [] => 0
  | r :: l => runCost hl r + costF hl l
theorem costF_app (hl : List Int) : ∀ a b, costF hl (a ++ b) = costF hl a + costF hl b
  | [], b => by simp [costF]
  | t :: a, b => by simp only [List.cons_append, costF, costF_app hl a b]; omega
theorem costF_take {hl : List Int} {l : List (Int × Int)} {j : Nat} (h : j < l.length) : costF hl (l.take (j + 1)) = costF hl (l.take j) + runCost hl l[j] := by
  rw [List.take_succ_eq_append_getElem h, costF_app]
  simp [costF]
theorem kbits_le (s : Int) : 0 ≤ kbits s ∧ kbits s ≤ 7 := by
  unfold kbits
  split
  · omega
  · split
    · omega
    · split <;> omega
theorem costF_le {hl : List Int} (h : ∀ s, 0 ≤ hl.getD s 0 ∧ hl.getD s 0 ≤ 7) : ∀ l, 0 ≤ costF hl l ∧ costF hl l ≤ 14 * (l.length : Nat)
  | [] => by simp [costF]
  | r :: l => by
    have h1 := h r.1.toNat
    have h2 := kbits_le r.1
    have h3 := costF_le h l
    simp only [costF, runCost, List.length_cons]
    omega
/-- how many bits a head has -/
def hcost (lit dist : List Int) : Int := 14 + 3 * (toldN (hlens (hruns lit dist)) 19 : Nat) + costF (hlens (hruns lit dist)) (hruns lit dist)
theorem fcell {w w' : World} {F : List Nat} (h : Fr w w' F) {a : Addr} {v : Value} (hc : w.cell? a = some v) (hF : a.block ∉ F) : w'.cell? a = some v := by
  rw [World.cell?_of_block (w := w) (h.block _ (World.block_lt_of_cell? w _ hc) hF)]; exact hc
set_option maxHeartbeats 8000000 in
theorem hcost_any (w : World) (A B : Option Addr) (n c m d : Nat) (lit dist : List Int) (p q : Option Nat) (hX : SlArg w A n c (i64s lit) p) (hY : SlArg w B m d (i64s dist) q) (er k : Int) (her : er = if okH lit dist then 0 else 80) (hk : k = if okH lit dist then hcost lit dist else 0) :
    Calls Try.prog 29 #[.slice A n c, .slice B m d] w fun e w' => e = .returned (.tuple #[.int .i64 k, .int .i64 er]) ∧ Fr w w' [] := by
  have HX := Hd.mk hX
  have HY := Hd.mk hY
  have HER := Hd.mk her
  have HK := Hd.mk hk
  clear hX hY her hk
  go_enter Try.func29, Try.ntmps29
  go_wp2_with (fail)
  refine (newPlan_any w A B n c m d lit dist p q HX.out HY.out).mono ?_
  intro e w1 hp
  unfold PlanPost at hp
  obtain ⟨hp1, hp2⟩ := hp
  obtain ⟨b, hb⟩ : ∃ b, b = okH lit dist := ⟨_, rfl⟩
  rw [← hb] at hp1 hp2 HER HK
  cases b with
  | false =>
    obtain ⟨rfl, hf⟩ := hp2 rfl
    have F1 := Hd.mk hf
    obtain rfl : er = 80 := HER.out
    obtain rfl : k = 0 := HK.out
    clear hp1 hp2 hf hb
    unfold noPlan
    go_wp2
    go_ret2
    exact ⟨rfl, F1.out.alloc _⟩
  | true =>
    obtain ⟨A1, n1, c1, B1, d1, rfl, hpl, hf⟩ := hp1 rfl
    obtain rfl : er = 0 := HER.out
    have hkk : k = hcost lit dist := HK.out
    obtain ⟨r1, r2, r3⟩ := hruns_ok hb.symm
    have HLE := hlens_le (rs := hruns lit dist) (by omega)
    have hl19 := hlens_len (rs := hruns lit dist) (by omega)
    have hnr : n1 = (hruns lit dist).length := by have := hpl.runs.1; rw [cells_len] at this; omega
    have P1 := Hd.mk hpl
    have F1 := Hd.mk hf
    have htl := toldN_le (hlens (hruns lit dist)) 19
    have hce := costF_le HLE (hruns lit dist)
    have hok := Hd.mk hb.symm
    have hcc : k = 14 + 3 * (toldN (hlens (hruns lit dist)) 19 : Nat) + costF (hlens (hruns lit dist)) (hruns lit dist) := hkk
    unfold planC
    obtain ⟨td, htd⟩ : ∃ td, td = toldN (hlens (hruns lit dist)) 19 := ⟨_, rfl⟩
    rw [← htd] at htl hcc ⊢
    have O1 := Hd.mk hpl.runs
    have O2 := Hd.mk hpl.lens
    obtain ⟨rs, hrs⟩ : ∃ rs, rs = hruns lit dist := ⟨_, rfl⟩
    obtain ⟨hl, hhl⟩ : ∃ hl, hl = hlens (hruns lit dist) := ⟨_, rfl⟩
    rw [← hhl] at O2 HLE hl19
    rw [← hhl, ← hrs] at hcc
    rw [← hrs] at O1 r1 r2 hnr
    have HCC := Hd.mk hcc
    have HRB := Hd.mk r1
    have HLE2 := Hd.mk HLE
    clear hp1 hp2 hf hpl hkk HLE hcc hrs hhl htd r1 r3 hce hb P1 HX HY HK HER
    generalize ((cutL lit 257).length : Int) = xa at *
    generalize ((distL dist).length : Int) = xb at *
    go_upto_region 4 with (fail)
    obtain ⟨pc, hpc⟩ : ∃ pc : Array Value, pc = #[.int .i64 xa, .int .i64 xb, .slice A1 n1 c1, .slice B1 19 d1, .int .i64 (td : Nat)] := ⟨_, rfl⟩
    have B2 : Hd ((w1.alloc (.cells #[.int .i64 xa, .int .i64 xb, .slice A1 n1 c1, .slice B1 19 d1, .int .i64 (td : Nat)] 109)).heap[w1.heap.size]? = some (.cells #[.int .i64 xa, .int .i64 xb, .slice A1 n1 c1, .slice B1 19 d1, .int .i64 (td : Nat)] 109 (0, 0))) := ⟨blk_new w1 _⟩
    subst hnr
    have A2 := (Fr.refl w1 []).alloc (.cells #[.int .i64 xa, .int .i64 xb, .slice A1 rs.length c1, .slice B1 19 d1, .int .i64 (td : Nat)] 109)
    have OA := Hd.mk (own_frame O1.out A2 (by simp))
    have OB := Hd.mk (own_frame O2.out A2 (by simp))
    have F2 := Hd.mk (F1.out.trans A2 (by simp))
    clear A2 O1 O2 F1 hpc
    generalize w1.alloc (.cells #[.int .i64 xa, .int .i64 xb, .slice A1 rs.length c1, .slice B1 19 d1, .int .i64 (td : Nat)] 109) = w2 at *
    generalize w1.heap.size = g at *
    have k4 := blk_cell B2.out 4
    have k2 := blk_cell B2.out 2
    simp only [List.getElem?_toArray, List.getElem?_cons_zero, List.getElem?_cons_succ] at k4 k2
    obtain ⟨bx, _, rfl⟩ : ∃ bx, True ∧ B1 = some ⟨bx, 0, none⟩ := by
      obtain ⟨g8, c8', e8, _⟩ := own_some OB.out (by decide)
      injection e8 with e8 _ _
      exact ⟨g8, trivial, e8⟩
    go_wp2
    go_loopg [8, 27] rs.length (fun kq sv jv wr => ∃ (j : Nat) (s : Int), sv = .int .i64 s ∧ jv = .int .i64 (j : Nat) ∧ j + kq = rs.length ∧ Hd (s = 14 + 3 * (td : Nat) + costF hl (rs.take j)) ∧ Hd (Fr w2 wr []))
    case atStart => exact ⟨0, 14 + 3 * (td : Nat), rfl, rfl, by omega, ⟨by simp [costF]⟩, ⟨Fr.refl _ _⟩⟩
    case round =>
      obtain ⟨j, s, rfl, rfl, hj, HM, HF⟩ := hrel
      by_cases hjn : j < rs.length
      · obtain ⟨a, o1, e1, _, hcc⟩ := Sl.row (enc := enc) (sz := 2) (fun _ => rfl) (sl_of_own2 (own_frame OA.out HF.out (by simp)) (by omega)) hjn (by decide)
        subst e1
        obtain ⟨r, hr⟩ : ∃ r, r = rs[j] := ⟨_, rfl⟩
        rw [← hr] at hcc
        have hrb := HRB.out r (by rw [hr]; exact List.getElem_mem hjn)
        have c0 := hcc 0 (by decide)
        have c1 := hcc 1 (by decide)
        have HTK : Hd (costF hl (rs.take (j + 1)) = costF hl (rs.take j) + runCost hl r) := ⟨by rw [costF_take hjn, hr]⟩
        have hce := costF_le HLE2.out (rs.take j)
        rw [List.length_take] at hce
        have hs0 : 0 ≤ s ∧ s ≤ 5000 := by rw [HM.out]; omega
        obtain ⟨rsym, rcnt⟩ := r
        obtain ⟨hb1, hb2, _⟩ := hrb
        simp only at hb1 hb2
        obtain ⟨y, rfl⟩ := Int.eq_ofNat_of_zero_le hb1
        simp only [enc, List.getElem?_cons_zero, List.getElem?_cons_succ, Nat.add_zero] at c0 c1
        have HRC : Hd (runCost hl ((y : Int), rcnt) = hl.getD y 0 + kbits (y : Int)) := ⟨rfl⟩
        have kl : wr.cell? ⟨bx, y, none⟩ = some (.int .i64 (hl.getD y 0)) := by
          have := i64_at (sl_of_own (own_frame OB.out HF.out (by simp))) (i := y) (by omega) rfl
          rwa [Nat.zero_add] at this
        have hlb := HLE2.out y
        have hkb := kbits_le (y : Int)
        obtain ⟨kb, hkb'⟩ : ∃ kb, kb = kbits (y : Int) := ⟨_, rfl⟩
        rw [← hkb'] at HRC hkb
        have HKB := Hd.mk hkb'
        have k3 : wr.cell? ⟨g, 3, none⟩ = some (.slice (some ⟨bx, 0, none⟩) 19 d1) := (blk_cell (HF.out.blk B2.out (by simp)) 3)
        generalize hl.getD y 0 = x at *
        clear hcc hr hkb' hce
        go_upto_region 8 with (fail)
        have bz := blk_new wr (.cells #[.int .i64 (y : Nat), .int .i64 rcnt] 35)
        have A3 := (Fr.refl wr []).alloc (.cells #[.int .i64 (y : Nat), .int .i64 rcnt] 35)
        have d0 := blk_cell bz 0
        simp only [List.getElem?_toArray, List.getElem?_cons_zero] at d0
        have d1' := fcell A3 kl (by simp)
        have d2 := fcell A3 k3 (by simp)
        have F3 := Hd.mk (HF.out.trans A3 (by simp))
        clear A3 bz kl k3 c0 c1
        generalize wr.alloc (.cells #[.int .i64 (y : Nat), .int .i64 rcnt] 35) = w3 at *
        generalize wr.heap.size = gr at *
        have hf0 := kf0
        have hb3 : (y : Int) < 19 := by omega
        have n1 : IntKind.i64.wrap (x + kb) = x + kb := IntWalk.i64_in _ (by omega)
        have n2 : IntKind.i64.wrap (s + (x + kb)) = s + (x + kb) := IntWalk.i64_in _ (by omega)
        go_region_held3 (fun w' => w'.cell? ⟨gr, 0, none⟩ = some (.int .i64 (y : Nat)) ∧ w'.cell? ⟨bx, y, none⟩ = some (.int .i64 x) ∧ w'.cell? ⟨g, 3, none⟩ = some (.slice (some ⟨bx, 0, none⟩) 19 d1)) (go_keep)
          (first | (go_at_call 42; refine (kinds_full _ (y : Int) kb _ _ hb1 hb2 HKB.out rfl rfl).mono ?_; rintro e w4 ⟨rfl, hf4⟩; have F4 := Hd.mk (F3.out.trans hf4.ofDrew (by simp)); have d0 := fcell hf4.ofDrew d0 (by simp); have d1' := fcell hf4.ofDrew d1' (by simp); have d2 := fcell hf4.ofDrew d2 (by simp); clear hf4))
        go_wp2
        go_roundg (gk - 1)
        case measure => omega
        case rel => exact ⟨j + 1, s + (x + kb), rfl, by go_num, by omega, ⟨by rw [HTK.out, HRC.out, HM.out]; omega⟩, F4⟩
      · obtain rfl : j = rs.length := by omega
        have hmm : Hd (k = s) := ⟨by rw [HCC.out, HM.out, List.take_length]⟩
        obtain rfl := hmm.out
        go_wp2
        go_ret2
        exact ⟨rfl, F2.out.trans HF.out (by simp)⟩
end Go.Proofs.Ytofajcifjmhomaa.Head
