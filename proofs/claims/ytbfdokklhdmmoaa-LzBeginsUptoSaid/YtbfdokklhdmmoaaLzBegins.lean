/- LzBegins' walk. Conditions: at most 2^20 tokens. -/
import Derived.Test.YtbfdokklhdmmoaaLzChecks
set_option linter.unusedVariables false
set_option linter.unusedSimpArgs false
set_option maxRecDepth 100000
namespace Go.Proofs.Ytbfdokklhdmmoaa.Lz
open Go.RowKit Go.Maps Go.Proofs.Ytbfdokklhdmmoaa.Lib Go.Proofs.Ytbfdokklhdmmoaa.Num Go.Proofs.Ytbfdokklhdmmoaa.Bits

theorem rem_bound (a : Int) (n : Nat) : -(n : Int) ≤ Int.tmod a ((n : Int) + 1) ∧ Int.tmod a ((n : Int) + 1) ≤ (n : Int) := by
  have h1 := Int.tmod_lt_of_pos a (b := (n : Int) + 1) (by omega)
  have h2 := Int.tmod_lt_of_pos (-a) (b := (n : Int) + 1) (by omega)
  rw [Int.neg_tmod] at h2
  omega
set_option maxHeartbeats 8000000 in
theorem begins_walk (v : Int) (A : Option Addr) (n c : Nat) (l : List Tok) (p : Option Nat) (cut : Int) (W : World) (hv : (Lit.int .i64 v).wf = true) (hn : l.length = n) (hnc : n ≤ c) (hA : A = none → n = 0 ∧ c = 0) (hS : Sl W A (tcells l) p) (hl : Lits l) (hb : n ≤ 1048576) (hcw : (Lit.int .i64 cut).wf = true) :
    Calls Try.prog 7 #[.int .i64 v, .slice A n c, .int .i64 cut] W fun e w' => e = .returned (.bool true) ∧ Below W.heap.size W w' := by
  subst hn
  have HS := Hd.mk hS
  clear hS hA hv hcw
  obtain ⟨er, her⟩ : ∃ er, er = (check v l).2 := ⟨_, rfl⟩
  obtain ⟨pl, hpl⟩ : ∃ pl, pl = (check v l).1 := ⟨_, rfl⟩
  have HC : Hd ((pl, er) = check v l) := ⟨by rw [hpl, her]⟩
  obtain ⟨bs, hbs⟩ : ∃ bs, bs = expand v l := ⟨_, rfl⟩
  have hby : Bytes bs := by rw [hbs]; exact expand_bytes hl
  have hble : bs.length ≤ 270532608 := by rw [hbs]; have := expand_le (v := v) (l := l); omega
  have HER := Hd.mk her
  have HBS := Hd.mk hbs
  have HBY := Hd.mk hby
  have HLI := Hd.mk hl
  clear hpl her hbs hby hl
  obtain ⟨N, hN⟩ : ∃ N : Nat, N = if 0 < l.length then (Int.tmod cut ((l.length : Int) + 1)).natAbs else 0 := ⟨_, rfl⟩
  have hrb := rem_bound cut l.length
  have hNl : N ≤ l.length := by rw [hN]; split <;> omega
  have HN := Hd.mk hN
  clear hN
  go_enter Try.func7, Try.ntmps7
  go_wp2_with (fail)
  refine (face_any W A l.length c l p rfl HS.out hb).mono ?_
  rintro e w1 ⟨g, d1, rfl, h1, h2, h3⟩
  have O1 := Hd.mk h1
  have hd1 : l.length + 2 ≤ d1 := by obtain ⟨_, _, e, hh, _⟩ := own_slice h1; cases e; exact hh
  have F1 := Hd.mk h3
  clear h1 h2 h3
  go_wp2_with (fail)
  refine (expand_any w1 v (some ⟨g, 0, none⟩) l.length d1 l _ rfl (by exact face_part O1.out) hb er bs HER.out HBS.out).mono ?_
  rintro e w4 ⟨Aa, ma, da, rfl, h1, h2, h3⟩
  obtain rfl : ma = bs.length := (own_bytes h1).symm
  have OA := Hd.mk h1
  have hda : bs.length ≤ da := by obtain ⟨_, _, e, hh, _⟩ := own_slice h1; cases e; exact hh
  have O1 := Hd.mk (own_frame O1.out h3 (by simp))
  have F4 := Hd.mk (F1.out.trans h3 (by simp))
  clear h1 h2 h3
  go_upto_if 29 with (fail)
  go_cut [11] from 29 to 39 (fun s11 wd => s11 = .int .i64 (N : Nat) ∧ wd = w4)
  case first =>
    by_cases h0 : 0 < l.length
    · have hz : ((l.length : Int) + 1 == 0) = false := by simp; omega
      have hNN : N = (Int.tmod cut ((l.length : Int) + 1)).natAbs := by rw [HN.out, if_pos h0]
      obtain ⟨rm, hrm⟩ : ∃ rm, Int.tmod cut ((l.length : Int) + 1) = rm := ⟨_, rfl⟩
      rw [hrm] at hNN hrb
      by_cases h1 : rm < 0
      · have HNN := Hd.mk hNN
        clear hNN
        go_wp2
        go_meet
        exact ⟨by rw [show -rm = (N : Int) from by have := HNN.out; omega], rfl⟩
      · obtain rfl : rm = (N : Int) := by omega
        clear hNN
        go_wp2
        go_meet
        exact ⟨rfl, rfl⟩
    · have h0l : N = 0 := by rw [HN.out, if_neg h0]
      subst h0l
      go_wp2
      go_meet
      exact ⟨rfl, rfl⟩
  case rest =>
    obtain ⟨rfl, rfl⟩ := hcut
    obtain ⟨w4, rfl⟩ : ∃ w4 : World, w4 = wc := ⟨_, rfl⟩
    have hlt : (l.take N).length = N := by rw [List.length_take]; omega
    obtain ⟨er2, her2⟩ : ∃ er2, er2 = (check v (l.take N)).2 := ⟨_, rfl⟩
    obtain ⟨cs, hcs⟩ : ∃ cs, cs = expand v (l.take N) := ⟨_, rfl⟩
    have hcy : Bytes cs := by rw [hcs]; exact expand_bytes (fun t ht => HLI.out t (List.mem_of_mem_take ht))
    have HER2 := Hd.mk her2
    have HCS := Hd.mk hcs
    have HCY := Hd.mk hcy
    have HLT := Hd.mk hlt
    clear her2 hcs hcy hlt
    have hpt : Hd (Sl w4 (some ⟨g, 0, none⟩) (tcells (l.take N)) (some g)) := ⟨by
      have := (face_part O1.out).take (3 * (l.take N).length)
      have e2 : tcells l = tcells (l.take N) ++ tcells (l.drop N) := by rw [← tcells_app, List.take_append_drop]
      rwa [e2, List.take_left' (tcells_len _)] at this⟩
    go_wp2_with (fail)
    refine (expand_any w4 v (some ⟨g, 0, none⟩) N d1 (l.take N) (some g) HLT.out (by exact hpt.out) (by omega) er2 cs HER2.out HCS.out).mono ?_
    rintro e w5 ⟨Ab, mb, db, rfl, h1, h2, h3⟩
    obtain rfl : mb = cs.length := (own_bytes h1).symm
    have OB := Hd.mk h1
    have OA := Hd.mk (own_frame OA.out h3 (by simp))
    have F5 := Hd.mk (F4.out.trans h3 (by simp))
    have hpt := Hd.mk (hpt.out.frame h3 (by simp))
    clear h1 h2 h3
    by_cases he : er = 0
    · obtain rfl : er = 0 := he
      have hok : (check v l).2 = 0 := HER.out.symm
      obtain rfl : er2 = 0 := by rw [HER2.out]; exact check_take N hok
      have hlen : cs.length = sizeOf (l.take N) := by rw [HCS.out]; exact expand_len (check_take N hok)
      obtain ⟨hb1, hb2⟩ := begins_law (w := v) (l := l) N hok
      rw [← HCS.out, ← HBS.out] at hb1 hb2
      have HB2 := Hd.mk hb2
      have HLN := Hd.mk hlen
      clear hok hb2 hlen
      have hsl : Hd (Sl w5 Aa (u8s cs) (Value.slice Aa bs.length da).ownBlock) := ⟨by
        have := (sl_of_own OA.out).take cs.length
        have e : (u8s bs).take cs.length = u8s cs := by unfold u8s; rw [← List.map_take, ← HB2.out]
        rwa [e] at this⟩
      go_wp2_with (fail)
      refine (same_any w5 Ab Aa cs.length cs.length db da cs cs _ _ rfl rfl HCY.out HCY.out (sl_of_own OB.out) hsl.out (fun h => own_none OB.out h) (fun h => by have := own_none OA.out h; omega)).mono ?_
      rintro e w6 ⟨rfl, rfl⟩
      rw [decide_eq_true rfl]
      go_wp2_with (fail)
      refine (size_any w5 (some ⟨g, 0, none⟩) N d1 (l.take N) _ HLT.out (by exact hpt.out) (by omega)).mono ?_
      rintro e w6 ⟨rfl, h3⟩
      have F6 := Hd.mk (F5.out.trans h3 (by simp))
      clear h3
      rw [← HLN.out]
      have hcc : ((cs.length : Int) == (cs.length : Int)) = true := by simp
      go_wp2_with (fail)
      refine (lives_any w6).mono ?_
      rintro e w7 ⟨rfl, h1⟩
      have F7 := Hd.mk (F6.out.trans h1 (by simp))
      clear h1
      go_wp2
      go_ret
      exact ⟨rfl, F7.out.below⟩
    · have heb : (er == 0) = false := by simpa using he
      obtain rfl : bs = [] := by rw [HBS.out]; unfold expand; rw [if_neg (by rw [← HER.out]; exact he)]
      simp only [List.length_nil]
      go_wp2_with (fail)
      refine (rcheck_any w5 v A l.length c l p rfl (by exact HS.out.frame F5.out (by simp)) (by omega) pl er HC.out).mono ?_
      rintro e w6 ⟨rfl, h3⟩
      have F6 := Hd.mk (F5.out.trans h3 (by simp))
      clear h3
      go_wp2
      go_ret
      exact ⟨rfl, F6.out.below⟩
end Go.Proofs.Ytbfdokklhdmmoaa.Lz
