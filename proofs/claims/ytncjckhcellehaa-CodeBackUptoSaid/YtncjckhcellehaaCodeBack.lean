/- CodeBack's walk. Conditions: at most 2^20 lengths, symbols and pieces. -/
import Derived.Test.YtncjckhcellehaaCodeH
import Derived.Test.YtncjckhcellehaaCodeChecks
import Derived.Test.YtncjckhcellehaaCodePlain7
set_option linter.unusedVariables false
set_option linter.unusedSimpArgs false
set_option maxRecDepth 100000
namespace Go.Proofs.Ytncjckhcellehaa.Code
open Go.RowKit Go.IntWalk Go.Proofs.Ytncjckhcellehaa.Lib Go.Proofs.Ytncjckhcellehaa.Ints Go.Proofs.Ytncjckhcellehaa.Num

/-- the reader, while the bytes of NN are fed -/
def Bk (w1 w : World) (G NN fed h t : Nat) : Prop := ∃ V, Bits.Rd w G V h t ∧ Fr w1 w [G] ∧ V = NN / 2 ^ t % 2 ^ h ∧ 8 * fed = h + t
/-- symbols that have a code -/
def Has (lens : List Int) (l : List Int) : Prop := ∀ s ∈ l, bitsOf lens s ≠ 0
theorem part_le {lens : List Int} (hc : check lens = 0) (l : List Int) : totOf (l.map (part lens)) ≤ 15 * l.length := by
  induction l with
  | nil => simp [totOf]
  | cons s l ih =>
    have h : bitsOf lens s ≤ 15 := by
      by_cases h0 : bitsOf lens s = 0
      · omega
      · exact (bitsOf_fits hc h0).2.2.2.1
    simp only [List.map_cons, totOf, part, List.length_cons]
    omega
theorem tl_apart {w : World} {gw N m : Nat} {q : Option Nat} (h : Bits.Tl w gw 36 N m q) {y : Nat} {cs : Array Value} {t : TypeId} (hy : w.heap[y]? = some (.cells cs t (0, 0))) (h1 : t ≠ 36) (h2 : t ≠ 5) : y ∉ gw :: q.toList := by
  obtain ⟨sv, hb, ho, hq, _⟩ := h
  intro hm
  rcases List.mem_cons.1 hm with e | hm
  · exact blk_ne hy hb h1 e
  · rw [← hq] at hm
    obtain ⟨ds, hds⟩ := own_type ho (k := y) (by simpa using hm)
    exact blk_ne hy hds h2 rfl
theorem num_snoc (l : List (Nat × Nat)) (x n : Nat) : numOf (l ++ [(x, n)]) = numOf l + x * 2 ^ totOf l ∧ totOf (l ++ [(x, n)]) = totOf l + n := by
  rw [numOf_app, totOf_app]
  simp [numOf, totOf]
set_option maxHeartbeats 16000000 in
theorem back_walk (A : Option Addr) (n c : Nat) (lens : List Int) (q0 : Option Nat) (A2 : Option Addr) (n2 c2 : Nat) (syms : List Int) (q1 : Option Nat) (A3 : Option Addr) (n3 c3 : Nat) (ps : List Int) (q2 : Option Nat) (W : World)
    (hS : SlArg W A n c (i64s lens) q0) (hw : ∀ x ∈ lens, (Lit.int .i64 x).wf = true) (hb : n ≤ 1048576) (hS2 : SlArg W A2 n2 c2 (i64s syms) q1) (hw2 : ∀ x ∈ syms, (Lit.int .i64 x).wf = true) (hb2 : n2 ≤ 1048576) (hS3 : SlArg W A3 n3 c3 (i64s ps) q2) (hw3 : ∀ x ∈ ps, (Lit.int .i64 x).wf = true) (hb3 : n3 ≤ 1048576) :
    Calls Try.prog 6 #[.slice A n c, .slice A2 n2 c2, .slice A3 n3 c3] W fun e w' => e = .returned (.bool true) ∧ Below W.heap.size W w' := by
  obtain ⟨j0, hj0, hj1, hj2, hj3⟩ := info_parts infoI64
  have HS := Hd.mk hS
  have HS2 := Hd.mk hS2
  have HS3 := Hd.mk hS3
  have hl : lens.length = n := by have := hS.len; simpa [i64s] using this
  have hl2 : syms.length = n2 := by have := hS2.len; simpa [i64s] using this
  have hl3 : ps.length = n3 := by have := hS3.len; simpa [i64s] using this
  clear hS hw hS2 hw2 hS3 hw3
  obtain ⟨r, hr⟩ : ∃ r, r = check lens := ⟨_, rfl⟩
  have HR := Hd.mk hr
  clear hr
  go_enter Try.func6, Try.ntmps6
  go_wp2_with (fail)
  refine (check_any W A n c lens q0 HS.out r HR.out).mono ?_
  rintro e w1 ⟨rfl, h1⟩
  have F1 := Hd.mk h1
  clear h1
  by_cases hr0 : r = 0
  · subst hr0
    have hl288 : lens.length ≤ 288 := (bad_false (check_zero HR.out.symm).1).1
    go_wp2_with (fail)
    refine (newenc_any w1 A n c lens q0 (HS.out.frame F1.out (by simp)) 0 HR.out).mono ?_
    rintro e w2 ⟨p, rfl, h1, _, h3⟩
    obtain ⟨g, ga, da, B, db, L, rfl, hE, hg1, hg2, hg3⟩ := h3 rfl
    have E2 := Hd.mk hE
    have F2 := Hd.mk (F1.out.trans h1 (by simp))
    clear h1 h3 hE hg1 hg2 hg3
    go_wp2_with (fail)
    refine (newdec_ok w2 288 (by omega) (by omega)).mono ?_
    rintro e w3 ⟨gd, rfl, hD, hgd, h1⟩
    have D3 := Hd.mk hD
    have E3 := Hd.mk (E2.out.frame h1 (by simp))
    have F3 := Hd.mk (F2.out.trans h1 (by simp))
    have ND : Hd (W.heap.size ≤ gd) := ⟨by have := F2.out.size; omega⟩
    have hqd : Hd (q0 ≠ some gd) := ⟨by intro e; have := HS.out.lt gd e; have := ND.out; omega⟩
    clear hD hgd h1 E2
    go_wp2_with (fail)
    refine (load_ok A n c lens q0 (HS.out.frame F3.out (by simp)) hqd.out D3.out (by omega) (by omega) hl288 HR.out.symm).mono ?_
    rintro e w5 ⟨rfl, h1, S', hD, hSy⟩
    have D5 := Hd.mk hD
    have SY := Hd.mk hSy
    have E5 : Hd (En w5 g ga da B db lens L) := ⟨E3.out.frame h1 (by
      obtain ⟨cs, hb, _⟩ := D3.out.ex
      have hbe := E3.out.blk
      refine ⟨?_, ?_, ?_⟩
      · simp; exact blk_ne hbe hb (by decide)
      · obtain ⟨ds, hds⟩ := own_type E3.out.lens_ (k := ga) rfl
        simp; exact blk_ne hds hb (by decide)
      · intro y hy hm
        obtain ⟨ds, hds⟩ := own_type E3.out.codes_ hy
        simp at hm
        exact blk_ne hds hb (by decide) hm)⟩
    have F5 : Hd (Fr W w5 []) := ⟨F3.out.trans h1 (fun x hx hm => by simp at hm; have := ND.out; omega)⟩
    clear h1 hD hSy D3 E3 F1 F2 F3
    go_upto_region 8 with (fail)
    have T6 := Hd.mk (Bits.tl_new w5 36 (by decide))
    have A6 := (Fr.refl w5 []).alloc (.cells #[.slice none 0 0, .int .i64 0] 36)
    have D6 := Hd.mk (D5.out.frame A6 (by simp))
    have E6 := Hd.mk (E5.out.frame A6 (by simp))
    have F6 := Hd.mk (F5.out.trans A6 (by simp))
    have NW : Hd (W.heap.size ≤ w5.heap.size) := ⟨F5.out.size⟩
    clear A6 D5 E5 F5
    generalize w5.alloc (.cells #[.slice none 0 0, .int .i64 0] 36) = w6 at *
    generalize w5.heap.size = gw at *
    have F6S : Hd (W.heap.size ≤ w6.heap.size) := ⟨F6.out.size⟩
    have LE : Hd (ga < w6.heap.size ∧ ∀ y, (Value.slice B L.length db).ownBlock = some y → y < w6.heap.size) := ⟨own_lt E6.out.lens_ rfl, fun y hy => own_lt E6.out.codes_ hy⟩
    go_wp2
    go_loopg [12, 63] n2 (fun kq pv iv wr => ∃ (i m : Nat) (Ap : Option Addr) (dp : Nat) (pl : List Int) (q : Option Nat), pv = .slice Ap m dp ∧ iv = .int .i64 (i : Nat) ∧ i + kq = n2 ∧ pl.length = m ∧ m ≤ i ∧ Hd (Has lens pl) ∧ Hd (wr.ownsRow 0 3 1 (.slice Ap m dp) m (i64s pl)) ∧ Hd (∀ y, (Value.slice Ap m dp).ownBlock = some y → w6.heap.size ≤ y) ∧ Hd (Bits.Tl wr gw 36 (numOf (pl.map (part lens))) (totOf (pl.map (part lens))) q) ∧ Hd (∀ y, q = some y → W.heap.size ≤ y) ∧ Hd (En wr g ga da B db lens L) ∧ Hd (De wr gd 288 (cz lens) S' (used lens)) ∧ Hd (Fr W wr []) ∧ Hd (w6.heap.size ≤ wr.heap.size))
    case atStart => exact ⟨0, 0, none, 0, [], none, rfl, rfl, by omega, rfl, by omega, ⟨by intro s hs; cases hs⟩, ⟨own_nil _ _ _ _⟩, ⟨by intro y hy; cases hy⟩, T6, ⟨by intro y hy; cases hy⟩, E6, D6, F6, ⟨Nat.le_refl _⟩⟩
    case round =>
      clear T6 E6 D6 F6
      obtain ⟨i, m, Ap, dp, pl, q, rfl, rfl, hik, hplm, hmi, HHA, HO, HOB, HTl, HQ, HE, HD, HF, HSZ⟩ := hrel
      by_cases hin : i < n2
      · obtain ⟨bd, off, rfl, hq, hcc⟩ := (HS2.out.sl.frame HF.out (by simp)) (by rw [i64s_length]; omega)
        have kd := (hcc i (by rw [i64s_length]; omega)).trans (i64s_get syms i)
        obtain ⟨s, hs⟩ : ∃ s, syms[i]? = some s := ⟨_, List.getElem?_eq_getElem (by omega)⟩
        rw [hs] at kd
        simp only [Option.map_some] at kd
        clear hcc hs hq
        obtain ⟨k, hk⟩ : ∃ k, k = bitsOf lens s := ⟨_, rfl⟩
        obtain ⟨cd, hcd⟩ : ∃ cd, cd = codeOf lens s := ⟨_, rfl⟩
        have HK := Hd.mk hk
        have HCD := Hd.mk hcd
        clear hk hcd
        go_wp2_with (fail)
        refine (cost_any s k HK.out HE.out).mono ?_
        rintro e w8 ⟨rfl, rfl⟩
        by_cases hk0 : k = 0
        · have g0 : ((k : Int) == 0) = true := by simp; omega
          clear hk0
          go_wp2
          go_roundg (gk - 1)
          case measure => omega
          case rel => exact ⟨i + 1, m, Ap, dp, pl, q, rfl, by go_num, by omega, hplm, by omega, HHA, HO, HOB, HTl, HQ, HE, HD, HF, HSZ⟩
        · have g0 : ((k : Int) == 0) = false := by simp; omega
          have htb : totOf (pl.map (part lens)) + 15 ≤ 1125899906842624 := by
            have := part_le HR.out.symm pl
            omega
          go_wp2_with (fail)
          refine (put_some s k cd HK.out HCD.out hk0 gw HE.out htb HTl.out).mono ?_
          rintro e w9 ⟨rfl, q', t9, a9, f9⟩
          have E9 : Hd (En w9 g ga da B db lens L) := ⟨HE.out.frame f9 (by
            obtain ⟨ds, hds⟩ := own_type HE.out.lens_ (k := ga) rfl
            refine ⟨tl_apart HTl.out HE.out.blk (by decide) (by decide), tl_apart HTl.out hds (by decide) (by decide), fun y hy => ?_⟩
            obtain ⟨es, hes⟩ := own_type HE.out.codes_ hy
            exact tl_apart HTl.out hes (by decide) (by decide))⟩
          have D9 : Hd (De w9 gd 288 (cz lens) S' (used lens)) := ⟨HD.out.frame f9 (by
            obtain ⟨cs, hb, _⟩ := HD.out.ex
            exact tl_apart HTl.out hb (by decide) (by decide))⟩
          have O9 : Hd (w9.ownsRow 0 3 1 (.slice Ap m dp) m (i64s pl)) := ⟨own_frame HO.out f9 (fun y hy => by
            obtain ⟨ds, hds⟩ := own_type HO.out hy
            exact tl_apart HTl.out hds (by decide) (by decide))⟩
          have F9 : Hd (Fr W w9 []) := ⟨HF.out.trans f9 (fun x hx hm => by
            rcases List.mem_cons.1 hm with e | hm
            · have := NW.out; omega
            · have := HQ.out x (by simpa using hm); omega)⟩
          have Q9 : Hd (∀ y, q' = some y → W.heap.size ≤ y) := ⟨fun y hy => by
            rcases a9 with e | ⟨z, e, hz⟩
            · rw [e] at hy; exact HQ.out y hy
            · rw [e] at hy; cases hy
              have := HF.out.size
              omega⟩
          have T9 : Hd (Bits.Tl w9 gw 36 (numOf ((pl ++ [s]).map (part lens))) (totOf ((pl ++ [s]).map (part lens))) q') := ⟨by
            have h := num_snoc (pl.map (part lens)) (rv cd k) k
            have e : (pl ++ [s]).map (part lens) = pl.map (part lens) ++ [(rv cd k, k)] := by
              rw [List.map_append, HK.out, HCD.out]; rfl
            rw [e, h.1, h.2]
            exact t9⟩
          have S9 : Hd (w6.heap.size ≤ w9.heap.size) := ⟨by have := f9.size; have := HSZ.out; omega⟩
          have HA9 : Hd (Has lens (pl ++ [s])) := ⟨fun x hx => by
            rcases List.mem_append.1 hx with hx | hx
            · exact HHA.out x hx
            · obtain rfl : x = s := by simpa using hx
              rw [← HK.out]; exact hk0⟩
          clear t9 a9 f9 HE HD HO HTl HF HQ HSZ HHA hk0 htb g0
          go_wp2_with (at_builtin; refine wpList_append_sl rfl (.tmp 75) (.tmp 77) 23 rfl 3 j0 (.int .i64 0) 1 8 Try.underlying23 hj0 hj1 hj2 hj3 rfl (by decide) (.slice Ap m dp) m _ rfl (by exact O9.out.alloc _) (some ⟨w9.heap.size, 0, none⟩) 1 1 [.int .i64 s] (some w9.heap.size) rfl rfl (by exact sl_of_blk (blk_new _ _)) (by intro h; cases h) (by intro u hu; simp at hu; subst hu; rfl) (by unfold maxLen; omega) (by omega) ?_; intro A4 d4 w10 hown' hgrow haft; have O10 := Hd.mk hown'; have G10 := Hd.mk hgrow; have AF10 := Hd.mk haft; clear hown' hgrow haft)
          have hf : Fr w9 w10 (Value.slice Ap m dp).ownBlock.toList := ((Fr.refl w9 _).alloc _).grown G10.out (fun y hy => .inl (by simp [hy]))
          have key : ∀ (y : Nat) (cs : Array Value) (t : TypeId), w9.heap[y]? = some (.cells cs t (0, 0)) → t ≠ 3 → y ∉ (Value.slice Ap m dp).ownBlock.toList := by
            intro y cs t hy h1 hm
            obtain ⟨ds, hds⟩ := own_type O9.out (k := y) (by simpa using hm)
            exact blk_ne hy hds h1 rfl
          have E10 : Hd (En w10 g ga da B db lens L) := ⟨E9.out.frame hf ⟨key _ _ _ E9.out.blk (by decide), fun hm => by have := HOB.out ga (by simpa using hm); have := LE.out.1; omega, fun y hy hm => by have := HOB.out y (by simpa using hm); have := LE.out.2 y hy; omega⟩⟩
          have D10 : Hd (De w10 gd 288 (cz lens) S' (used lens)) := ⟨D9.out.frame hf (by
            obtain ⟨cs, hb, _⟩ := D9.out.ex
            exact key _ _ _ hb (by decide))⟩
          have T10 : Hd (Bits.Tl w10 gw 36 (numOf ((pl ++ [s]).map (part lens))) (totOf ((pl ++ [s]).map (part lens))) q') := ⟨T9.out.frame hf (by
            obtain ⟨sv, hb, _⟩ := T9.out
            exact key _ _ _ hb (by decide)) (fun y hy => by
            obtain ⟨sv, hb, ho, hq, _⟩ := T9.out
            rw [← hq] at hy
            obtain ⟨ds, hds⟩ := own_type ho hy
            exact key _ _ _ hds (by decide))⟩
          have F10 : Hd (Fr W w10 []) := ⟨F9.out.trans hf (fun x hx hm => by
            have h1 := HOB.out x (by simpa using hm)
            have h2 := NW.out
            have h3 := own_lt O9.out (k := x) (by simpa using hm)
            have h4 := LE.out.1
            have h5 := F6S.out
            omega)⟩
          have S10 : Hd (w6.heap.size ≤ w10.heap.size) := ⟨by have := hf.size; have := S9.out; omega⟩
          have OB10 : Hd (∀ y, (Value.slice A4 (m + 1) d4).ownBlock = some y → w6.heap.size ≤ y) := ⟨fun y hy => by
            rcases AF10.out with e | ⟨z, e, hz⟩
            · rw [e] at hy; exact HOB.out y hy
            · rw [e] at hy; cases hy
              rw [World.size_alloc] at hz
              have := S9.out
              omega⟩
          have O11 : Hd (w10.ownsRow 0 3 1 (.slice A4 (m + 1) d4) (m + 1) (i64s (pl ++ [s]))) := ⟨by rw [i64s_app]; exact O10.out⟩
          clear hf key E9 D9 O9 T9 F9 S9 O10 HOB
          go_roundg (gk - 1)
          case measure => omega
          case rel => exact ⟨i + 1, m + 1, A4, d4, pl ++ [s], q', rfl, by go_num, by omega, by simp [hplm], by omega, HA9, O11, OB10, T10, Q9, E10, D10, F10, S10⟩
      · obtain rfl : i = n2 := by omega
        obtain ⟨Ps, hPs⟩ : ∃ Ps, Ps = pl.map (part lens) := ⟨_, rfl⟩
        obtain ⟨NN, hNN⟩ : ∃ NN, NN = numOf Ps := ⟨_, rfl⟩
        obtain ⟨tot, htot⟩ : ∃ tot, tot = totOf Ps := ⟨_, rfl⟩
        rw [← hPs, ← hNN, ← htot] at HTl
        have htb : tot ≤ 15728640 := by
          have := part_le HR.out.symm pl
          rw [htot, hPs]
          omega
        have HPL : Hd (∀ p ∈ Ps, p.1 < 2 ^ p.2) := ⟨by rw [hPs]; exact part_lt lens pl⟩
        have HPs := Hd.mk hPs
        have HNN := Hd.mk hNN
        have HTOT := Hd.mk htot
        have hPsl : Ps.length = m := by rw [hPs, List.length_map, hplm]
        clear hPs hNN htot LE HOB HQ HE
        obtain ⟨wq, rfl⟩ : ∃ wq : World, wq = wr := ⟨_, rfl⟩
        go_wp2_with (fail)
        refine (Bits.bytes_any (N := NN) (m := tot) wq (by omega) HTl.out).mono ?_
        rintro e wb ⟨v, rfl, h1, h2, h3⟩
        obtain ⟨Ab, cb, rfl, hcb, hAb⟩ := own_slice h1
        have OB := Hd.mk h1
        have TlB := Hd.mk (HTl.out.frame h3 (by simp) (by simp))
        have OPB := Hd.mk (own_frame HO.out h3 (by simp))
        have DB := Hd.mk (HD.out.frame h3 (by simp))
        have FB := Hd.mk (HF.out.trans h3 (by simp))
        have HAb := Hd.mk hAb
        clear h1 h2 h3 HTl HO HD HF hAb HSZ F6S
        obtain ⟨LB, hLB⟩ : ∃ LB, LB = (tot + 7) / 8 := ⟨_, rfl⟩
        rw [← hLB] at OB HAb hcb ⊢
        have HLB := Hd.mk hLB
        have hLBb : LB ≤ 1966081 := by omega
        clear hLB
        go_upto_region 19 with (fail)
        have RC := Hd.mk (Bits.rd_new wb)
        have AC := (Fr.refl wb []).alloc (.cells #[.int .u64 0, .int .i64 0, .int .i64 0] 53)
        have OC := Hd.mk (own_frame OB.out AC (by simp))
        have TlC := Hd.mk (TlB.out.frame AC (by simp) (by simp))
        have OPC := Hd.mk (own_frame OPB.out AC (by simp))
        have DC := Hd.mk (DB.out.frame AC (by simp))
        have FC := Hd.mk (FB.out.trans AC (by simp))
        have LTs : Hd (W.heap.size ≤ wb.heap.size ∧ (∀ y, (Value.slice Ab LB cb).ownBlock = some y → y < wb.heap.size) ∧ (∀ y, (Value.slice Ap m dp).ownBlock = some y → y < wb.heap.size) ∧ gd < wb.heap.size ∧ gw < wb.heap.size ∧ (∀ y, q = some y → y < wb.heap.size)) := ⟨by
          obtain ⟨cs, hb, _⟩ := DB.out.ex
          obtain ⟨sv, hbw, ho, hq, _⟩ := TlB.out
          exact ⟨FB.out.size, fun y hy => own_lt OB.out hy, fun y hy => own_lt OPB.out hy, blk_lt hb, blk_lt hbw, fun y hy => own_lt ho (by rw [hq]; exact hy)⟩⟩
        clear AC OB TlB OPB DB FB
        generalize wb.alloc (.cells #[.int .u64 0, .int .i64 0, .int .i64 0] 53) = wB at *
        generalize wb.heap.size = gr at *
        have HB0 : Hd (Bk wB wB gr NN 0 0 0) := ⟨⟨0, RC.out, Fr.refl _ _, by simp [Nat.mod_one], rfl⟩⟩
        clear RC
        go_wp2
        go_loopg [17, 18, 83] m (fun kq fv kv jv wr => ∃ (fed k j h t : Nat), fv = .int .i64 (fed : Nat) ∧ kv = .int .i64 (k : Nat) ∧ jv = .int .i64 (j : Nat) ∧ j + kq = m ∧ fed ≤ LB ∧ k ≤ fed ∧ h ≤ 64 ∧ Hd (t = totOf (Ps.take j)) ∧ Hd (Bk wB wr gr NN fed h t))
        case atStart => exact ⟨0, 0, 0, 0, 0, rfl, rfl, rfl, by omega, by omega, by omega, by omega, ⟨by simp [totOf]⟩, HB0⟩
        case round =>
          clear HB0
          obtain ⟨fed, k, j, h, t, rfl, rfl, rfl, hj, hfed, hkf, hh, HT, HB⟩ := hrel
          obtain ⟨g0, rfl⟩ : ∃ g0 : Nat, g0 = gk := ⟨_, rfl⟩
          by_cases hjm : j < m
          · obtain ⟨s, hs⟩ : ∃ s, pl[j]? = some s := ⟨_, List.getElem?_eq_getElem (by omega)⟩
            obtain ⟨n5, hn5⟩ : ∃ n5, n5 = bitsOf lens s := ⟨_, rfl⟩
            obtain ⟨cd, hcd⟩ : ∃ cd, cd = codeOf lens s := ⟨_, rfl⟩
            obtain ⟨hjl, hje⟩ := List.getElem?_eq_some_iff.mp hs
            have hn0 : n5 ≠ 0 := by rw [hn5]; exact HHA.out s (by rw [← hje]; exact List.getElem_mem hjl)
            have hn15 : n5 ≤ 15 := by rw [hn5]; exact (bitsOf_fits HR.out.symm (by rw [← hn5]; exact hn0)).2.2.2.1
            have HN5 := Hd.mk hn5
            have HCD := Hd.mk hcd
            have HPJ : Hd (∃ h : j < Ps.length, Ps[j] = (rv cd n5, n5)) := ⟨⟨by omega, by
              have e : Ps[j]'(by omega) = part lens s := by
                simp only [HPs.out, List.getElem_map, hje]
              rw [e, hcd, hn5]; rfl⟩⟩
            obtain ⟨V0, hr0', hfr0, hV0, h80⟩ := HB.out
            obtain ⟨gp, dp', ep, hdp⟩ := own_some OPC.out (by omega)
            injection ep with ep1 _ ep2
            subst ep1 ep2
            have kp := ((own_frame OPC.out hfr0 (fun y hy => by have := LTs.out.2.2.1 y hy; simp; omega)).cellAt j (by omega)).trans ((i64s_get pl j).trans (by rw [hs]; rfl : _ = some (.int .i64 s)))
            have hjI : (j : Int) < (m : Nat) := by omega
            have HTN : Hd (t + n5 ≤ tot ∧ totOf (Ps.take (j + 1)) = t + n5) := ⟨by
              obtain ⟨h1, e1⟩ := HPJ.out
              have h2 := totOf_take h1
              rw [e1, ← HT.out] at h2
              have h3 := totOf_take_le Ps (j + 1)
              rw [← HTOT.out] at h3
              exact ⟨by omega, h2⟩⟩
            clear hs hn5 hcd hjl hje hr0' hfr0 hV0 h80
            go_wp2_with (fail)
            go_loopg [17, 18] (LB - fed) (fun kq fv kv wr => ∃ (fed k h : Nat), fv = .int .i64 (fed : Nat) ∧ kv = .int .i64 (k : Nat) ∧ kq = LB - fed ∧ fed ≤ LB ∧ k ≤ fed ∧ h ≤ 64 ∧ Hd (Bk wB wr gr NN fed h t))
            case atStart => exact ⟨fed, k, h, rfl, rfl, rfl, hfed, hkf, hh, HB⟩
            case round =>
              clear HB hfed hkf hh kp
              obtain ⟨fed, k, h, rfl, rfl, hkq, hfed, hkf, hh, HB⟩ := hrel
              obtain ⟨Vr, hr, hfr1, hVr, h8⟩ := HB.out
              have HRd := Hd.mk hr
              have HF1 := Hd.mk hfr1
              have HVr := Hd.mk hVr
              have H8 := Hd.mk h8
              have hVm : Hd (Vr % 2 ^ (min h n5) = rv cd n5 % 2 ^ (min h n5)) := ⟨by
                obtain ⟨h1, e1⟩ := HPJ.out
                have h2 := numOf_head h1 HPL.out
                rw [e1] at h2
                simp only at h2
                have h3 := numOf_drop HPL.out j
                rw [← h2, ← h3, ← HNN.out, ← HT.out, hVr, mod_mod _ _ _ (Nat.min_le_left _ _), mod_mod _ _ _ (Nat.min_le_right _ _)]⟩
              obtain ⟨jj, hnx, hSs⟩ := next_code (V := Vr) (h := h) HR.out.symm SY.out HN5.out hn0 HCD.out hVm.out
              have HNX := Hd.mk hnx
              have HSS := Hd.mk hSs
              have D1 : Hd (De wr gd 288 (cz lens) S' (used lens)) := ⟨DC.out.frame hfr1 (by have := LTs.out.2.2.2.1; simp; omega)⟩
              have hFB : Hd (∀ l, cz lens l ≤ 288) := ⟨fun l => Nat.le_trans (cz_le lens l) hl288⟩
              have hFU : Hd (usedF (cz lens) 16 ≤ 288) := ⟨Nat.le_trans (used_le (check_zero HR.out.symm).1) hl288⟩
              have hne : Hd (gd ≠ gr) := ⟨by have := LTs.out.2.2.2.1; omega⟩
              have ht60 : t ≤ 1152921504606846900 := by have := HTN.out.1; omega
              clear hr hfr1 hVr h8 hnx hSs
              by_cases hhn : h < n5
              · have hr0 : Hd (((0, 0, 0) : Nat × Nat × Nat) = next (cz lens) (used lens) Vr h) := ⟨by rw [HNX.out, if_pos hhn]⟩
                go_wp2_with (fail)
                refine (next_any gr Vr h t D1.out (by omega) (by simp [cz]) hFB.out hFU.out HRd.out ht60 hne.out (0, 0, 0) hr0.out 0 0 false rfl rfl rfl).mono ?_
                rintro e w2 ⟨rfl, h1, h2⟩
                have HB2 : Hd (Bk wB w2 gr NN fed h t) := ⟨⟨Vr, by simpa using h1, HF1.out.trans h2 (by simp), HVr.out, H8.out⟩⟩
                clear h1 h2
                have hfl : fed < LB := by have := HLB.out; have := H8.out; have := HTN.out.1; omega
                obtain ⟨Z, hZ⟩ : ∃ Z, Z = LB - fed := ⟨_, rfl⟩
                have hsz1 : (LB : Int) - fed = (Z : Nat) := by omega
                have hZ1 : fed + Z = LB := by omega
                have hZ3 : 1 ≤ Z := by omega
                have HZ := Hd.mk hZ1
                have hPk : Hd (∀ (hkp : k < ps.length), ∃ bp op, A3 = some ⟨bp, op, none⟩ ∧ w2.cell? ⟨bp, op + k, none⟩ = some (.int .i64 (ps[k]'hkp))) := ⟨fun hkp => by
                  have hfr2 : Fr W w2 [] := by
                    obtain ⟨_, _, hfr, _⟩ := HB2.out
                    exact FC.out.trans hfr (fun x hx hm => by simp at hm; have := LTs.out.1; omega)
                  obtain ⟨bp, op, e1, _, e3⟩ := (HS3.out.frame hfr2 (by simp)).sl (by rw [i64s_length]; omega)
                  exact ⟨bp, op, e1, by rw [e3 k (by rw [i64s_length]; exact hkp), i64s_get, List.getElem?_eq_getElem hkp]; rfl⟩⟩
                clear hZ hZ1
                go_upto_region 30 with (fail)
                clear hsz1
                go_cut [121] from 103 to 122 (fun s wc => ∃ bb : Bool, s = .bool bb ∧ w2 = wc ∧ Hd (bb = true → ∃ (hkp : k < ps.length) (z : Nat), ps[k]'hkp = (z : Int) ∧ z < Z ∧ 1 ≤ z))
                case first =>
                  by_cases hkp : k < ps.length
                  · obtain ⟨bp, op, rfl, hc⟩ := hPk.out hkp
                    obtain ⟨pk, hpk⟩ : ∃ pk, pk = ps[k]'hkp := ⟨_, rfl⟩
                    rw [← hpk] at hc
                    have Hpk := Hd.mk hpk
                    have hkn3 : (k : Int) < (n3 : Nat) := by omega
                    clear hpk
                    by_cases h1 : pk ≥ 1
                    · by_cases h2 : pk < Z
                      · go_wp2
                        go_meet
                        case rel => exact ⟨true, rfl, rfl, ⟨fun _ => ⟨hkp, pk.toNat, by rw [← Hpk.out]; omega, by omega, by omega⟩⟩⟩
                      · go_wp2
                        go_meet
                        case rel => exact ⟨false, rfl, rfl, ⟨fun h => by cases h⟩⟩
                    · go_wp2
                      go_meet
                      case rel => exact ⟨false, rfl, rfl, ⟨fun h => by cases h⟩⟩
                  · have hkn3 : ¬ (k : Int) < (n3 : Nat) := by omega
                    go_wp2
                    go_meet
                    case rel => exact ⟨false, rfl, rfl, ⟨fun h => by cases h⟩⟩
                case rest =>
                obtain ⟨bb, rfl, rfl, hbb⟩ := hcut
                go_upto_if 121 with (fail)
                go_cut [24] (fun s wc => ∃ z : Nat, s = .int .i64 (z : Nat) ∧ w2 = wc ∧ z ≤ Z ∧ 1 ≤ z)
                case first =>
                  cases bb with
                  | true =>
                    obtain ⟨hkp, z, hz, hzZ, hz1⟩ := hbb.out rfl
                    obtain ⟨bp, op, rfl, hc⟩ := hPk.out hkp
                    have hkn3 : (k : Int) < (n3 : Nat) := by omega
                    rw [hz] at hc
                    clear hz
                    go_wp2
                    go_meet
                    case rel => exact ⟨z, rfl, rfl, by omega, hz1⟩
                  | false =>
                    go_wp2
                    go_meet
                    case rel => exact ⟨Z, rfl, rfl, by omega, hZ3⟩
                case rest =>
                obtain ⟨z, rfl, rfl, hzZ, hz1⟩ := hcut
                clear hbb hPk
                obtain ⟨V2, hr2, hfr2, hV2, h82⟩ := HB2.out
                have HR2 := Hd.mk hr2
                have HF2 := Hd.mk hfr2
                have HV2 := Hd.mk hV2
                have hZLB : fed + z ≤ LB := by have := HZ.out; omega
                obtain ⟨gX, rfl⟩ := HAb.out.2 (by omega)
                have hSB : Sl w2 (some ⟨gX, 0, none⟩) (Bits.u8s (bytesOf NN tot)) (some gX) := (sl_of_own OC.out).frame hfr2 (by intro kk hkk hm; have := LTs.out.2.1 kk hkk; simp at hm; omega)
                have HSB := Hd.mk hSB
                have hgX : gX < gr := LTs.out.2.1 gX rfl
                clear hr2 hfr2 hV2 hSB
                go_wp2_with (fail)
                obtain ⟨xs, hxs⟩ : ∃ xs, xs = ((bytesOf NN tot).drop fed).take z := ⟨_, rfl⟩
                have hbl := bytesOf_length NN tot
                rw [← HLB.out] at hbl
                have hxl : xs.length = z := by rw [hxs]; simp only [List.length_take, List.length_drop, hbl]; omega
                have hSx : Sl w2 (some ⟨gX, 0 + fed, none⟩) (Bits.u8s xs) (some gX) := by
                  rw [hxs]
                  simp only [Bits.u8s, List.map_take, List.map_drop]
                  exact (HSB.out.drop fed).take z
                rw [Nat.zero_add] at hSx
                have hxr : ∀ y ∈ xs, 0 ≤ y ∧ y ≤ 255 := fun y hy => bytesOf_range y (by rw [hxs] at hy; exact List.mem_of_mem_drop (List.mem_of_mem_take hy))
                obtain ⟨mf, hm⟩ : ∃ mf, mf = min ((64 - h) / 8) z := ⟨_, rfl⟩
                have hm1 : mf ≤ z := by omega
                have hm2 : h + 8 * mf ≤ 64 := by omega
                have hm3 : 1 ≤ mf := by omega
                refine (Bits.feed_any (g := gr) (V := V2) (b := h) (t := t) w2 _ z (cb - fed) xs (some gX) hxl hxr hSx (by omega) (by omega) (by intro e; injection e with e; omega) mf (by rw [hxl]; exact hm) HR2.out).mono ?_
                rintro e w3 ⟨rfl, h1, h2⟩
                have HB3 : Hd (Bk wB w3 gr NN (fed + mf) (h + 8 * mf) t) := ⟨by
                  refine ⟨_, h1, HF2.out.trans h2 (fun x hx hm => by simpa using hm), ?_, by have := h82; omega⟩
                  have e1 : xs.take mf = ((bytesOf NN tot).drop fed).take mf := by rw [hxs, List.take_take, Nat.min_eq_left hm1]
                  rw [e1, valB_piece NN tot fed mf (by have := HLB.out; omega), h82, Nat.add_comm h t, HV2.out, more_bits]⟩
                clear h1 h2 hxr hSx hxs hxl hbl hm h82
                have d1 : decide ((mf : Int) ≤ 0) = false := decide_eq_false (by omega)
                have d2 : decide ((mf : Int) > (z : Nat)) = false := decide_eq_false (by omega)
                go_wp2
                go_roundg (LB - (fed + mf))
                case measure => omega
                case rel => exact ⟨fed + mf, k + 1, h + 8 * mf, by go_num, by go_num, rfl, by omega, by omega, hm2, HB3⟩
              · have hr0 : Hd (((1, jj, n5) : Nat × Nat × Nat) = next (cz lens) (used lens) Vr h) := ⟨by rw [HNX.out, if_neg hhn]⟩
                go_wp2_with (fail)
                refine (next_any gr Vr h t D1.out (by omega) (by simp [cz]) hFB.out hFU.out HRd.out ht60 hne.out (1, jj, n5) hr0.out s 0 true (by simp [HSS.out]) rfl rfl).mono ?_
                rintro e w2 ⟨rfl, h1, h2⟩
                have HB2 : Hd (Bk wB w2 gr NN fed (h - n5) (t + n5)) := ⟨⟨_, h1, HF1.out.trans h2 (fun x hx hm => by simpa using hm), by rw [HVr.out, mod_div _ _ _ (show n5 ≤ h from by omega), Nat.div_div_eq_div_mul, ← Nat.pow_add], by have h8 := H8.out; omega⟩⟩
                have gss : (s != s) = false := by simp
                clear h1 h2
                go_wp2
                go_roundg (g0 - 1)
                case measure => omega
                case rel => exact ⟨fed, k, j + 1, h - n5, t + n5, rfl, rfl, by go_num, by omega, hfed, hkf, by omega, ⟨by rw [HTN.out.2]⟩, HB2⟩
          · obtain rfl : j = m := by omega
            obtain ⟨V0, hr0', hfr0, hV0, h80⟩ := HB.out
            have HRd := Hd.mk hr0'
            have Tl2 : Hd (Bits.Tl wr gw 36 NN tot q) := ⟨TlC.out.frame hfr0 (by have := LTs.out.2.2.2.2.1; simp; omega) (fun y hy => by have := LTs.out.2.2.2.2.2 y hy; simp; omega)⟩
            have F2 : Hd (Fr W wr []) := ⟨FC.out.trans hfr0 (fun x hx hm => by simp at hm; have := LTs.out.1; omega)⟩
            have hteq : t = tot := by rw [HT.out, HTOT.out, ← hPsl, List.take_length]
            subst hteq
            have gtt : ((t : Int) == (t : Int)) = true := by simp
            clear hr0' hfr0 hV0 h80
            go_wp2_with (fail)
            refine (Bits.taken_any wr HRd.out).mono ?_
            rintro e w2 ⟨rfl, rfl⟩
            go_wp2_with (fail)
            refine (Bits.len_any wr Tl2.out).mono ?_
            rintro e w2 ⟨rfl, rfl⟩
            go_wp2_with (fail)
            refine (clives_any wr).mono ?_
            rintro e w2 ⟨rfl, h3⟩
            have F3 := Hd.mk (F2.out.trans h3 (by simp))
            clear h3
            go_wp2
            go_ret
            exact ⟨rfl, F3.out.below⟩
  · have hne : (r != 0) = true := by simpa using hr0
    go_wp2_with (fail)
    refine (rchk_any w1 A n c lens q0 (HS.out.frame F1.out (by simp)) r HR.out).mono ?_
    rintro e w2 ⟨rfl, rfl⟩
    go_wp2
    go_ret
    exact ⟨rfl, F1.out.below⟩
end Go.Proofs.Ytncjckhcellehaa.Code
