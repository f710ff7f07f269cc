/- BitsBack's walk: what is laid down is taken up, whatever pieces the bytes come in; no bit is lost. Conditions: fewer than 2^43 fields. -/
import Derived.Test.YtpblcbfjlmekeaaBitsSame
import Derived.Test.YtpblcbfjlmekeaaBackNum
set_option linter.unusedVariables false
set_option linter.unusedSimpArgs false
namespace Go.Proofs.Ytpblcbfjlmekeaa.Bits
open Go.RowKit Go.Proofs.Ytpblcbfjlmekeaa.Lib Go.Proofs.Ytpblcbfjlmekeaa.Num

theorem fit_any (n : Int) (h0 : -9223372036854775808 ≤ n) (h1 : n ≤ 9223372036854775807) (w : World) :
    Calls Try.prog 14 #[.int .i64 n] w fun e w' => e = .returned (.int .i64 (fitN n : Nat)) ∧ w = w' := by
  obtain ⟨m, hm⟩ : ∃ m, m = n.tmod 57 := ⟨_, rfl⟩
  have hf : fitN n = m.natAbs := by rw [hm]; rfl
  have hb := fitN_le n
  rw [hf] at hb ⊢
  have Hm := Hd.mk hm
  by_cases h : m < 0
  · have e : -m = (m.natAbs : Int) := by omega
    have hmm : n.tmod 57 = m := hm.symm
    clear hm hf
    go_enter Try.func14, Try.ntmps14
    go_wp2
    go_ret
    exact ⟨by rw [← e]; rfl, rfl⟩
  · have e : m = (m.natAbs : Int) := by omega
    have E := Hd.mk e
    have hmm : n.tmod 57 = m := hm.symm
    clear hm hf e
    go_enter Try.func14, Try.ntmps14
    go_wp2
    go_ret
    exact ⟨by rw [← E.out]; rfl, rfl⟩

/-- a writer of the call's own, beside what there was -/
def One (w0 w : World) (g N m : Nat) : Prop := ∃ q, Tl w g 44 N m q ∧ Fr w0 w [] ∧ w0.heap.size ≤ g ∧ ∀ k, q = some k → w0.heap.size ≤ k
theorem One.next {w0 w w' : World} {g N' m' : Nat} {q q' : Option Nat} (h2 : Fr w0 w []) (h3 : w0.heap.size ≤ g) (h4 : ∀ k, q = some k → w0.heap.size ≤ k)
    (k1 : Tl w' g 44 N' m' q') (k2 : Aft w q q') (k3 : Fr w w' (g :: q.toList)) : One w0 w' g N' m' := by
  refine ⟨q', k1, h2.trans k3 (fun x hx hxG => ?_), h3, fun j hj => ?_⟩
  · rcases List.mem_cons.1 hxG with rfl | e
    · omega
    · simp at e; have := h4 _ e; omega
  · rcases k2 with e | ⟨i, e, hi⟩
    · exact h4 j (by rw [← e, hj])
    · rw [e] at hj; cases hj; exact Nat.le_trans h2.size hi
theorem One.keep {w0 w w' : World} {g N m : Nat} (h : One w0 w g N m) (h3 : Fr w w' []) : One w0 w' g N m := by
  obtain ⟨q, h1, h2, h4, h5⟩ := h
  exact ⟨q, h1.frame h3 (by simp) (by simp), h2.trans h3 (by simp), h4, h5⟩

/-- the reader on its way: it holds the bits from t on. -/
def Back0 (w1 w : World) (G NN fed h t : Nat) : Prop := ∃ V, Rd w G V h t ∧ Fr w1 w [G] ∧ V = NN / 2 ^ t % 2 ^ h ∧ 8 * fed = h + t
theorem Back0.keep {w1 w w' : World} {G NN fed h t : Nat} (hb : Back0 w1 w G NN fed h t) (hf : Fr w w' []) : Back0 w1 w' G NN fed h t := by
  obtain ⟨V, h1, h2, h3⟩ := hb
  exact ⟨V, h1.frame hf (by simp), h2.trans hf (by simp), h3⟩
theorem fld_len (f : Fld) : f.cells.length = 3 := rfl
set_option maxHeartbeats 2000000 in
set_option maxRecDepth 100000 in
theorem back_law (A : Option Addr) (l c : Nat) (fs : List Fld) (q : Option Nat) (B : Option Addr) (lp cp : Nat) (ps : List Int) (qp : Option Nat) (W : World)
    (hl : fs.length = l) (hS : Sl W A (fs.flatMap Fld.cells) q) (hF : ∀ f ∈ fs, f.V < 2 ^ 64 ∧ -9223372036854775808 ≤ f.N ∧ f.N ≤ 9223372036854775807) (hy : l * 24 ≤ 140737488351232)
    (hP : SlArg W B lp cp (ps.map (Value.int .i64)) qp) (hwp : ∀ x ∈ ps, (Lit.int .i64 x).wf = true) (hyp : lp * 8 ≤ 140737488351232) :
    Calls Try.prog 6 #[.slice A l c, .slice B lp cp] W fun e w' => e = .returned (.bool true) ∧ Below W.heap.size W w' := by
  subst hl
  have hlp : ps.length = lp := by have := hP.len; simpa using this
  subst hlp
  have HS := Hd.mk hS
  have HF := Hd.mk hF
  have HP := Hd.mk hP
  have hl1 : fs.length ≤ 5864062014806 := by omega
  have hl2 : ps.length ≤ 17592186043904 := by omega
  obtain ⟨L, hL⟩ : ∃ L, L = fs.map Fld.part := ⟨_, rfl⟩
  have HLL := Hd.mk hL
  have hLl : L.length = fs.length := by rw [hL]; simp
  have htot : totOf L ≤ 56 * fs.length := by
    have := totOf_le (l := L) (by rw [hL]; exact parts_le fs)
    rwa [hLl] at this
  obtain ⟨tot, ht⟩ : ∃ t, t = totOf L := ⟨_, rfl⟩
  have HLt := Hd.mk (⟨by rw [hL]; exact parts_lt fs, ht⟩ : (∀ p ∈ L, p.1 < 2 ^ p.2) ∧ tot = totOf L)
  rw [← ht] at htot
  have hN0 : Hd (One W (W.alloc (.cells #[.slice none 0 0, .int .i64 0] 44)) W.heap.size 0 0) := ⟨⟨none, tl_new W _ (by decide), (Fr.refl W []).alloc _, Nat.le_refl _, by simp⟩⟩
  have HLn := Hd.mk hLl
  clear hS hF hP hy hyp hL hLl ht hwp
  go_enter Try.func6, Try.ntmps6
  go_wp2
  go_loopg [6, 27] fs.length (fun kq tv jv wr => ∃ j t : Nat, tv = .int .i64 (t : Nat) ∧ jv = .int .i64 (j : Nat) ∧ j + kq = fs.length ∧ t ≤ 56 * fs.length ∧ Hd (t = totOf (L.take j)) ∧ Hd (One W wr W.heap.size (numOf (L.take j)) t))
  case atStart => exact ⟨0, 0, rfl, rfl, by omega, by omega, ⟨rfl⟩, by simpa [numOf] using hN0⟩
  case round =>
    obtain ⟨j, t, rfl, rfl, hj, htb, Ht, HO⟩ := hrel
    clear hN0
    by_cases hlt : j < fs.length
    · obtain ⟨f, hf⟩ : ∃ f, f = fs[j]'hlt := ⟨_, rfl⟩
      have hfm : f ∈ fs := by rw [hf]; exact List.getElem_mem _
      obtain ⟨hV, hn0, hn1⟩ := HF.out f hfm
      have hfr : Fr W wr [] := by obtain ⟨_, _, h, _⟩ := HO.out; exact h
      obtain ⟨b, off, rfl, hqb, hcell⟩ := (HS.out.frame hfr (by simp)).row fld_len hlt (by decide)
      rw [← hf] at hcell
      have c0 := hcell 0 (by decide)
      have c1 := hcell 1 (by decide)
      have c2 := hcell 2 (by decide)
      obtain ⟨V, N, Hb⟩ := f
      simp only [Fld.cells, List.getElem?_cons_zero, List.getElem?_cons_succ, Nat.add_zero] at c0 c1 c2
      have Hf := Hd.mk hf
      have HV := Hd.mk hV
      clear hcell hfr hf hfm hV
      go_wp2_with (fail)
      refine (fit_any N hn0 hn1 _).mono ?_
      rintro e w' ⟨rfl, rfl⟩
      obtain ⟨n, hn⟩ : ∃ n, n = fitN N := ⟨_, rfl⟩
      have hn56 : n ≤ 56 := by rw [hn]; exact fitN_le N
      rw [← hn]
      obtain ⟨v, hv⟩ : ∃ v, v = V % 2 ^ n := ⟨_, rfl⟩
      have hand : Go.bits .and .u64 (V : Int) (IntKind.u64.wrap (IntKind.u64.wrap (2 ^ n) - 1)) = (v : Int) := by rw [hv]; exact low_bits HV.out hn56
      have hvn : Hd (v < 2 ^ n) := ⟨by rw [hv]; exact Nat.mod_lt _ (Nat.two_pow_pos _)⟩
      have HO1 := Hd.mk (HO.out.keep ((Fr.refl wr []).alloc (.cells #[.int .u64 V, .int .i64 N, .bool Hb] 46)))
      have Hv := Hd.mk hv
      have Hn := Hd.mk hn
      clear hv hn c0 c1 c2
      go_wp2
      go_region
      clear hand
      go_upto_if 41 with (fail)
      go_cut [11] (fun s11 wc => s11 = .int .i64 0 ∧ Hd (One W wc W.heap.size (numOf (L.take (j + 1))) (t + n)))
      case first =>
        have HLj : Hd (∃ h : j < L.length, L[j] = (if Hb then rv v n else v, n)) := ⟨by
          have h1 : j < L.length := by rw [HLn.out]; exact hlt
          refine ⟨h1, ?_⟩
          have h2 := HLL.out
          subst h2
          rw [List.getElem_map, ← Hf.out]
          simp only [Fld.part, Fld.low, ← Hn.out, ← Hv.out]⟩
        have hmay : mayN v n = 0 := mayN_ok (by omega) (by omega) hvn.out
        have Hmay := Hd.mk hmay
        obtain ⟨q1, t1, f1, g1, b1⟩ := HO1.out
        have T1 := Hd.mk t1
        have F1 := Hd.mk f1
        have B1 := Hd.mk b1
        clear hmay t1 f1 g1 b1
        cases Hb with
        | true =>
          go_wp2_with (fail)
          refine (turned_ok (m := t) (v : Int) (n : Int) v _ rfl Hmay.out (by rw [Int.toNat_natCast]; omega) (by exact T1.out)).mono ?_
          rintro e w1 ⟨rfl, q2, h1, h2, h3⟩
          have HN : Hd (One W w1 W.heap.size (numOf (L.take (j + 1))) (t + n)) := ⟨by
            obtain ⟨hj', hLj⟩ := HLj.out
            have := One.next F1.out.drew (Nat.le_refl _) B1.out h1 h2 h3
            rw [numOf_take hj', hLj, ← Ht.out]
            simpa using this⟩
          clear h1 h2 h3
          go_wp2
          go_meet
          case rel => exact ⟨rfl, HN⟩
        | false =>
          go_wp2_with (fail)
          refine (put_ok (m := t) (v : Int) (n : Int) v _ rfl Hmay.out (by rw [Int.toNat_natCast]; omega) (by exact T1.out)).mono ?_
          rintro e w1 ⟨rfl, q2, h1, h2, h3⟩
          have HN : Hd (One W w1 W.heap.size (numOf (L.take (j + 1))) (t + n)) := ⟨by
            obtain ⟨hj', hLj⟩ := HLj.out
            have := One.next F1.out.drew (Nat.le_refl _) B1.out h1 h2 h3
            rw [numOf_take hj', hLj, ← Ht.out]
            simpa using this⟩
          clear h1 h2 h3
          go_wp2
          go_meet
          case rel => exact ⟨rfl, HN⟩
      case rest =>
        obtain ⟨rfl, HN⟩ := hcut
        obtain ⟨q1, t1, f1, g1, b1⟩ := HN.out
        have T1 := Hd.mk t1
        clear t1 f1 g1 b1
        go_wp2_with (fail)
        refine (len_any wc T1.out).mono ?_
        rintro e w' ⟨rfl, rfl⟩
        have et : ((t + n : Nat) : Int) = (t : Int) + n := by omega
        rw [et]
        clear et
        go_wp2
        go_roundg (gk - 1)
        case measure => omega
        case rel =>
          have hj' : j < L.length := by rw [HLn.out]; exact hlt
          have hLj2 : (L[j]).2 = n := by
            have h2 := HLL.out
            subst h2
            rw [List.getElem_map, ← Hf.out]
            simp only [Fld.part, ← Hn.out]
          refine ⟨j + 1, t + n, by go_num, by go_num, by omega, ?_, ⟨?_⟩, HN⟩
          · have h1 := totOf_take_le L (j + 1)
            rw [totOf_take hj', hLj2, ← Ht.out, ← HLt.out.2] at h1
            omega
          · rw [totOf_take hj', hLj2, ← Ht.out]
    · obtain rfl : j = fs.length := by omega
      have e1 : L.take fs.length = L := List.take_of_length_le (by rw [HLn.out]; omega)
      rw [e1] at Ht HO
      obtain rfl : tot = t := by rw [Ht.out]; exact HLt.out.2
      obtain ⟨q1, t1, f1, g1, b1⟩ := HO.out
      have F1 := Hd.mk f1
      obtain ⟨NN, hNN⟩ : ∃ NN, NN = numOf L := ⟨_, rfl⟩
      rw [← hNN] at t1
      have HNN := Hd.mk hNN
      clear e1 hNN
      go_wp2_with (fail)
      refine (bytes_any wr (by omega) t1).mono ?_
      rintro e w1 ⟨vb, rfl, h1, h2, h3⟩
      have F2 := Hd.mk (F1.out.trans h3 (by simp))
      obtain ⟨X, cx, rfl, hx1, hx2, hx3⟩ := own_slice h1
      have SB := Hd.mk (sl_of_own h1)
      have XN := Hd.mk (own_none h1)
      have X0 := Hd.mk hx3
      have hsz : Hd (∀ k, (Value.slice X ((tot + 7) / 8) cx).ownBlock = some k → W.heap.size ≤ k ∧ k < w1.heap.size) := ⟨fun k hk => ⟨Nat.le_trans f1.size (h2.none hk), own_lt h1 hk⟩⟩
      obtain ⟨LB, hLB⟩ : ∃ LB, LB = (tot + 7) / 8 := ⟨_, rfl⟩
      rw [← hLB] at hx1 SB XN X0 hsz
      have eLB : ((tot : Int) + 7) / 8 = (LB : Int) := by omega
      have HLB := Hd.mk hLB
      rw [← hLB]
      have hLBb : LB ≤ 410484341037 * 100 := by omega
      have S1 : Hd (Back0 w1 (w1.alloc (.cells #[.int .u64 0, .int .i64 0, .int .i64 0] 28)) w1.heap.size NN 0 0 0) := ⟨⟨0, rd_new w1, (Fr.refl w1 _).alloc _, by simp [Nat.mod_one], rfl⟩⟩
      clear t1 f1 g1 b1 h1 h2 h3 hx3 hLB HO Ht
      go_wp2
      clear eLB
      go_loopg [14, 15, 68] fs.length (fun kq fv kv jv wr => ∃ j fed k t h : Nat, fv = .int .i64 (fed : Nat) ∧ kv = .int .i64 (k : Nat) ∧ jv = .int .i64 (j : Nat) ∧ j + kq = fs.length ∧ fed ≤ LB ∧ k ≤ ps.length + fed ∧ h ≤ 64 ∧ t ≤ tot ∧ Hd (t = totOf (L.take j)) ∧ Hd (Back0 w1 wr w1.heap.size NN fed h t))
      case atStart => exact ⟨0, 0, 0, 0, 0, rfl, rfl, rfl, by omega, by omega, by omega, by omega, by omega, ⟨rfl⟩, S1⟩
      case round =>
        obtain ⟨j, fed, k, t, h, rfl, rfl, rfl, hj2, hfed, hk, hh, htt, Ht, HB⟩ := hrel
        clear S1
        by_cases hlt : j < fs.length
        · obtain ⟨wo, rfl⟩ : ∃ wo : World, wo = wr := ⟨_, rfl⟩
          obtain ⟨gg, rfl⟩ : ∃ x : Nat, x = gk := ⟨_, rfl⟩
          obtain ⟨f, hf⟩ : ∃ f, f = fs[j]'hlt := ⟨_, rfl⟩
          have hfm : f ∈ fs := by rw [hf]; exact List.getElem_mem _
          obtain ⟨hV, hn0, hn1⟩ := HF.out f hfm
          have hfr : Hd (Fr W wo []) := ⟨by
            obtain ⟨_, _, h, _, _⟩ := HB.out
            exact F2.out.trans h (fun x hx hm => by have := F2.out.size; simp at hm; omega)⟩
          obtain ⟨b, off, rfl, hqb, hcell⟩ := (HS.out.frame hfr.out (by simp)).row fld_len hlt (by decide)
          rw [← hf] at hcell
          have c0 := hcell 0 (by decide)
          have c1 := hcell 1 (by decide)
          have c2 := hcell 2 (by decide)
          obtain ⟨V, N, Hb⟩ := f
          simp only [Fld.cells, List.getElem?_cons_zero, List.getElem?_cons_succ, Nat.add_zero] at c0 c1 c2
          have Hf := Hd.mk hf
          have HV := Hd.mk hV
          clear hcell hf hfm hV
          go_wp2_with (fail)
          refine (fit_any N hn0 hn1 _).mono ?_
          rintro e w' ⟨rfl, rfl⟩
          obtain ⟨n, hn⟩ : ∃ n, n = fitN N := ⟨_, rfl⟩
          have hn56 : n ≤ 56 := by rw [hn]; exact fitN_le N
          rw [← hn]
          obtain ⟨v, hv⟩ : ∃ v, v = V % 2 ^ n := ⟨_, rfl⟩
          have hand : Go.bits .and .u64 (V : Int) (IntKind.u64.wrap (IntKind.u64.wrap (2 ^ n) - 1)) = (v : Int) := by rw [hv]; exact low_bits HV.out hn56
          have hv64 : Hd (v < 2 ^ 64) := ⟨Nat.lt_of_le_of_lt (by rw [hv]; exact Nat.mod_le _ _) HV.out⟩
          have HB1 := Hd.mk (HB.out.keep ((Fr.refl wo []).alloc (.cells #[.int .u64 V, .int .i64 N, .bool Hb] 46)))
          have HLj : Hd (∃ h : j < L.length, L[j] = (if Hb then rv v n else v, n)) := ⟨by
            have h1 : j < L.length := by rw [HLn.out]; exact hlt
            refine ⟨h1, ?_⟩
            have h2 := HLL.out
            subst h2
            rw [List.getElem_map, ← Hf.out]
            simp only [Fld.part, Fld.low, ← hn, ← hv]⟩
          have htn : Hd (t + n ≤ tot ∧ t + n = totOf (L.take (j + 1))) := ⟨by
            obtain ⟨hj', hLj⟩ := HLj.out
            have h1 := totOf_take hj'
            have h2 := totOf_take_le L (j + 1)
            rw [h1, hLj, ← Ht.out] at h2
            rw [h1, hLj, ← Ht.out]
            rw [← HLt.out.2] at h2
            exact ⟨h2, rfl⟩⟩
          have htn1 := htn.out.1
          clear hv hn c0 c1 c2 HB
          go_wp2
          go_region
          clear hand
          go_upto_if 82 with (fail)
          go_cut [19] (fun s19 wc => ∃ x : Nat, s19 = .int .u64 (x : Nat) ∧ Hd (∃ h : j < L.length, L[j] = (x, n)) ∧ Hd (Back0 w1 wc w1.heap.size NN fed h t))
          case first =>
            cases Hb with
            | true =>
              go_wp2_with (fail)
              refine (flip_any v (v : Int) (n : Int) (by omega) (by omega) _ hv64.out rfl).mono ?_
              rintro e w' ⟨rfl, rfl⟩
              rw [Int.toNat_natCast]
              go_wp2
              go_meet
              case rel => exact ⟨rv v n, rfl, by simpa using HLj, ⟨HB1.out.keep (Fr.refl _ _).drew⟩⟩
            | false =>
              go_wp2
              go_meet
              case rel => exact ⟨v, rfl, by simpa using HLj, ⟨HB1.out.keep (Fr.refl _ _).drew⟩⟩
          case rest =>
            obtain ⟨x, rfl, HLx, HB⟩ := hcut
            clear hn0 hn1 HV Hf hv64 HB1 HLj
            go_wp2
            go_loopg [14, 15] ((ps.length - k) + (LB - fed)) (fun kq fv kv wr => ∃ fed k h : Nat, fv = .int .i64 (fed : Nat) ∧ kv = .int .i64 (k : Nat) ∧ kq = (ps.length - k) + (LB - fed) ∧ fed ≤ LB ∧ k ≤ ps.length + fed ∧ h ≤ 64 ∧ Hd (Back0 w1 wr w1.heap.size NN fed h t))
            case atStart => exact ⟨fed, k, h, rfl, rfl, rfl, hfed, hk, hh, HB⟩
            case round =>
              clear HB hfed hk hh
              obtain ⟨fed, k, h, rfl, rfl, hkq, hfed, hk, hh, HB⟩ := hrel
              obtain ⟨Vr, hr, hfr1, hVr, h8⟩ := HB.out
              have HR := Hd.mk hr
              have HF1 := Hd.mk hfr1
              have HVr := Hd.mk hVr
              have H8 := Hd.mk h8
              go_wp2_with (fail)
              refine (has_any _ hr).mono ?_
              rintro e w' ⟨rfl, rfl⟩
              by_cases hhn : h < n
              · have hfl : fed < LB := by have := HLB.out; omega
                have hfr2 : Fr W wr [] := F2.out.trans hfr1 (fun x hx hm => by have := F2.out.size; simp at hm; omega)
                have hPk : Hd (∀ (hkp : k < ps.length), ∃ bp op, B = some ⟨bp, op, none⟩ ∧ wr.cell? ⟨bp, op + k, none⟩ = some (.int .i64 (ps[k]'hkp))) := ⟨fun hkp => by
                  obtain ⟨bp, op, e1, _, e3⟩ := (HP.out.frame hfr2 (by simp)).sl (by simp; omega)
                  exact ⟨bp, op, e1, by rw [e3 k (by simpa using hkp), List.getElem?_map, List.getElem?_eq_getElem hkp]; rfl⟩⟩
                clear hr hfr1 hVr h8 hfr2
                have hsz1 : (LB : Int) - fed = ((LB - fed : Nat) : Int) := by omega
                obtain ⟨Z, hZ⟩ : ∃ Z, Z = LB - fed := ⟨_, rfl⟩
                rw [← hZ] at hsz1 hkq
                have hZ1 : fed + Z = LB := by omega
                have HZ := Hd.mk hZ1
                have hZ2 : fed + Z ≤ LB := by omega
                have hZ3 : 1 ≤ Z := by omega
                clear hZ hZ1
                go_upto_region 30 with (fail)
                go_cut [111] (fun s wc => ∃ bb : Bool, s = .bool bb ∧ wr = wc ∧ Hd (bb = true → ∃ (hkp : k < ps.length) (z : Nat), ps[k]'hkp = (z : Int) ∧ z < Z))
                case first =>
                  by_cases hkp : k < ps.length
                  · obtain ⟨bp, op, rfl, hc⟩ := hPk.out hkp
                    obtain ⟨pk, hpk⟩ : ∃ pk, pk = ps[k]'hkp := ⟨_, rfl⟩
                    rw [← hpk] at hc
                    have Hpk := Hd.mk hpk
                    clear hpk
                    by_cases h1 : 0 ≤ pk
                    · by_cases h2 : pk < Z
                      · go_wp2
                        go_meet
                        case rel => exact ⟨true, rfl, rfl, ⟨fun _ => ⟨hkp, pk.toNat, by rw [← Hpk.out]; omega, by omega⟩⟩⟩
                      · go_wp2
                        go_meet
                        case rel => exact ⟨false, rfl, rfl, ⟨fun h => by cases h⟩⟩
                    · go_wp2
                      go_meet
                      case rel => exact ⟨false, rfl, rfl, ⟨fun h => by cases h⟩⟩
                  · go_wp2
                    go_meet
                    case rel => exact ⟨false, rfl, rfl, ⟨fun h => by cases h⟩⟩
                case rest =>
                  obtain ⟨bb, rfl, rfl, hbb⟩ := hcut
                  go_upto_if 111 with (fail)
                  go_cut [20] (fun s wc => ∃ z : Nat, s = .int .i64 (z : Nat) ∧ wr = wc ∧ z ≤ Z ∧ Hd (ps.length ≤ k → z = Z))
                  case first =>
                    cases bb with
                    | true =>
                      obtain ⟨hkp, z, hz, hzZ⟩ := hbb.out rfl
                      obtain ⟨bp, op, rfl, hc⟩ := hPk.out hkp
                      rw [hz] at hc
                      clear hz
                      go_wp2
                      go_meet
                      case rel => exact ⟨z, rfl, rfl, by omega, ⟨fun h => by omega⟩⟩
                    | false =>
                      go_wp2
                      go_meet
                      case rel => exact ⟨Z, rfl, rfl, by omega, ⟨fun h => rfl⟩⟩
                  case rest =>
                    obtain ⟨z, rfl, rfl, hzZ, Hz⟩ := hcut
                    clear hbb hPk
                    obtain ⟨gX, rfl⟩ := X0.out (by omega)
                    have hSB : Sl wr (some ⟨gX, 0, none⟩) (u8s (bytesOf NN tot)) (some gX) := (SB.out.frame HF1.out (by intro kk hkk hm; have := (hsz.out kk hkk).2; simp at hm; omega))
                    go_wp2_with (fail)
                    refine (has_any _ HR.out).mono ?_
                    rintro e w' ⟨rfl, rfl⟩
                    go_wp2_with (fail)
                    obtain ⟨xs, hxs⟩ : ∃ xs, xs = ((bytesOf NN tot).drop fed).take z := ⟨_, rfl⟩
                    have hbl := bytesOf_length NN tot
                    rw [← HLB.out] at hbl
                    have hxl : xs.length = z := by rw [hxs]; simp only [List.length_take, List.length_drop, hbl]; omega
                    have hSx : Sl wr (some ⟨gX, 0 + fed, none⟩) (u8s xs) (some gX) := by
                      rw [hxs]
                      simp only [u8s, List.map_take, List.map_drop]
                      exact (hSB.drop fed).take z
                    rw [Nat.zero_add] at hSx
                    have hxr : ∀ y ∈ xs, 0 ≤ y ∧ y ≤ 255 := fun y hy => bytesOf_range y (by rw [hxs] at hy; exact List.mem_of_mem_drop (List.mem_of_mem_take hy))
                    obtain ⟨m, hm⟩ : ∃ m, m = min ((64 - h) / 8) z := ⟨_, rfl⟩
                    have hm1 : m ≤ z := by omega
                    have hm2 : h + 8 * m ≤ 64 := by omega
                    have hm3 : ps.length ≤ k → 1 ≤ m := fun hk => by have := Hz.out hk; omega
                    have hgX : gX < w1.heap.size := (hsz.out gX rfl).2
                    refine (feed_any (g := w1.heap.size) (V := Vr) (b := h) (t := t) wr _ z (cx - fed) xs (some gX) hxl hxr hSx (by omega) (by omega) (by intro e; injection e with e; omega) m (by rw [hxl]; exact hm) HR.out).mono ?_
                    rintro e w2 ⟨rfl, h1, h2⟩
                    have HB2 : Hd (Back0 w1 w2 w1.heap.size NN (fed + m) (h + 8 * m) t) := ⟨by
                      refine ⟨_, h1, HF1.out.trans h2 (fun x hx hm => by simpa using hm), ?_, by have := H8.out; omega⟩
                      have e1 : xs.take m = ((bytesOf NN tot).drop fed).take m := by rw [hxs, List.take_take, Nat.min_eq_left hm1]
                      rw [e1, valB_piece NN tot fed m (by have := HLB.out; omega), H8.out, Nat.add_comm h t, HVr.out, more_bits]⟩
                    have HR2 := Hd.mk h1
                    clear h1 h2 hxr hSx hSB hxs hxl hbl hm
                    go_wp2_with (fail)
                    refine (has_any _ HR2.out).mono ?_
                    rintro e w' ⟨rfl, rfl⟩
                    have d1 : decide (z < m) = false := decide_eq_false (by omega)
                    have d2 : decide ((m : Int) < 0) = false := decide_eq_false (by omega)
                    have e8 : ((h + 8 * m : Nat) : Int) = (h : Int) + 8 * m := by omega
                    rw [e8]
                    clear e8
                    by_cases hk1 : ps.length ≤ k
                    · have hm4 := hm3 hk1
                      have d3 : ((m : Int) == 0) = false := beq_eq_false_iff_ne.2 (by omega)
                      clear hm3
                      go_wp2
                      go_roundg ((ps.length - (k + 1)) + (LB - (fed + m)))
                      case measure => omega
                      case rel => exact ⟨fed + m, k + 1, h + 8 * m, by go_num, by go_num, rfl, by omega, by omega, hm2, HB2⟩
                    · clear hm3
                      go_wp2
                      go_roundg ((ps.length - (k + 1)) + (LB - (fed + m)))
                      case measure => omega
                      case rel => exact ⟨fed + m, k + 1, h + 8 * m, by go_num, by go_num, rfl, by omega, by omega, hm2, HB2⟩
              · clear hr hfr1 hVr h8
                have hnh : n ≤ h := by omega
                have hval : Hd (Vr % 2 ^ n = x) := ⟨by
                  obtain ⟨hj', hLj⟩ := HLx.out
                  have h1 := numOf_head hj' HLt.out.1
                  rw [hLj] at h1
                  have h2 := numOf_drop HLt.out.1 j
                  rw [HVr.out, mod_mod _ _ _ hnh, HNN.out, Ht.out, h2]
                  exact h1⟩
                go_wp2_with (fail)
                refine (take_ok (g := w1.heap.size) (V := Vr) (b := h) (t := t) wr (n : Int) (by omega) (by omega) (by omega) (by omega) HR.out).mono ?_
                rintro e w2 ⟨rfl, h1, h2⟩
                simp only [Int.toNat_natCast] at h1 ⊢
                rw [hval.out]
                have HB2 : Hd (Back0 w1 w2 w1.heap.size NN fed (h - n) (t + n)) := ⟨by
                  refine ⟨_, h1, HF1.out.trans h2 (fun x hx hm => by simpa using hm), ?_, by have := H8.out; omega⟩
                  rw [HVr.out, mod_div _ _ _ hnh, Nat.div_div_eq_div_mul, ← Nat.pow_add]⟩
                have HR2 := Hd.mk h1
                have h8 := H8.out
                have e8 : (8 * (fed : Int) != ((h - n : Nat) : Int) + ((t + n : Nat) : Int)) = false := by rw [bne_eq_false_iff_eq]; omega
                clear h1 h2 h8
                go_wp2_with (fail)
                refine (has_any _ HR2.out).mono ?_
                rintro e w' ⟨rfl, rfl⟩
                go_wp2_with (fail)
                refine (taken_any _ HR2.out).mono ?_
                rintro e w' ⟨rfl, rfl⟩
                have e9 : ((h - n : Nat) : Int) = (h : Int) - n := by omega
                have e10 : ((t + n : Nat) : Int) = (t : Int) + n := by omega
                rw [e9, e10] at e8 ⊢
                clear e9 e10
                go_wp2
                go_roundg (gg - 1)
                case measure => omega
                case rel => exact ⟨j + 1, fed, k, t + n, h - n, rfl, rfl, by go_num, by omega, by omega, by omega, by omega, htn1, ⟨htn.out.2⟩, HB2⟩
        · obtain rfl : j = fs.length := by omega
          have e1 : L.take fs.length = L := List.take_of_length_le (by rw [HLn.out]; omega)
          rw [e1] at Ht
          obtain rfl : tot = t := by rw [Ht.out]; exact HLt.out.2
          obtain ⟨Vr, hr, hfr1, hVr, h8⟩ := HB.out
          have HF1 := Hd.mk hfr1
          have HR := Hd.mk hr
          clear hr hfr1 hVr h8 e1
          go_wp2_with (fail)
          refine (taken_any _ HR.out).mono ?_
          rintro e w' ⟨rfl, rfl⟩
          go_wp2_with (fail)
          refine (lives_any wr).mono ?_
          rintro e w5 ⟨rfl, g3⟩
          have G5 : Hd (Fr W w5 []) := ⟨(F2.out.trans HF1.out (fun x hx hm => by have := F2.out.size; simp at hm; omega)).trans g3 (by simp)⟩
          clear g3
          go_wp2
          go_ret
          exact ⟨rfl, G5.out.below⟩
end Go.Proofs.Ytpblcbfjlmekeaa.Bits
