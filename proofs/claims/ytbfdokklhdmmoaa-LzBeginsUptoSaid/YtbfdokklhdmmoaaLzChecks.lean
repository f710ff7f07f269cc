/- LzChecks' walk. Conditions: at most 2^20 tokens. -/
import Derived.Test.YtbfdokklhdmmoaaLzHelp
import Derived.Test.YtbfdokklhdmmoaaOwn8
set_option linter.unusedVariables false
set_option linter.unusedSimpArgs false
set_option maxRecDepth 100000
namespace Go.Proofs.Ytbfdokklhdmmoaa.Lz
open Go.RowKit Go.Maps Go.Proofs.Ytbfdokklhdmmoaa.Lib Go.Proofs.Ytbfdokklhdmmoaa.Num Go.Proofs.Ytbfdokklhdmmoaa.Bits

def Lits (l : List Tok) : Prop := ∀ t ∈ l, 0 ≤ t.lit ∧ t.lit ≤ 255
theorem at0_any {b : List Int} (h : Bytes b) (i : Nat) : 0 ≤ at0 b i ∧ at0 b i ≤ 255 := by
  by_cases e : i < b.length
  · exact at0_byte h e
  · unfold at0
    rw [List.getD_eq_getElem?_getD, List.getElem?_eq_none (by omega)]
    simp
theorem copyF_bytes (dist : Nat) : ∀ k b, Bytes b → Bytes (copyF dist k b)
  | 0, b, h => h
  | k + 1, b, h => by
    refine copyF_bytes dist k _ ?_
    intro x hx
    rcases List.mem_append.1 hx with e | e
    · exact h x e
    · simp at e; rw [e]; exact at0_any h _
theorem expF_bytes : ∀ (l : List Tok) (b : List Int), Lits l → Bytes b → Bytes (expF l b)
  | [], b, _, h => h
  | t :: l, b, hl, h => by
    refine expF_bytes l _ (fun u hu => hl u (by simp [hu])) ?_
    unfold tokF
    refine copyF_bytes _ _ _ ?_
    split
    · intro x hx
      rcases List.mem_append.1 hx with e | e
      · exact h x e
      · simp at e; rw [e]; exact hl t (by simp)
    · exact h
theorem expand_bytes {v : Int} {l : List Tok} (h : Lits l) : Bytes (expand v l) := by
  unfold expand
  split
  · exact expF_bytes l [] h (by intro x hx; cases hx)
  · intro x hx; cases hx
theorem expand_le {v : Int} {l : List Tok} : (expand v l).length ≤ 258 * l.length := by
  by_cases h : (check v l).2 = 0
  · rw [expand_len h]; exact sizeOf_le l
  · unfold expand; rw [if_neg h]; simp
set_option maxHeartbeats 8000000 in
theorem checks_law (v : Int) (A : Option Addr) (n c : Nat) (l : List Tok) (p : Option Nat) (W : World) (hv : (Lit.int .i64 v).wf = true) (hn : l.length = n) (hnc : n ≤ c) (hA : A = none → n = 0 ∧ c = 0) (hS : Sl W A (tcells l) p) (hl : Lits l) (hb : n ≤ 1048576) :
    Calls Try.prog 4 #[.int .i64 v, .slice A n c] W fun e w' => e = .returned (.bool true) ∧ Below W.heap.size W w' := by
  subst hn
  have HS := Hd.mk hS
  clear hS hA hv
  obtain ⟨pl, hpl⟩ : ∃ pl, pl = (check v l).1 := ⟨_, rfl⟩
  obtain ⟨er, her⟩ : ∃ er, er = (check v l).2 := ⟨_, rfl⟩
  have HC : Hd ((pl, er) = check v l) := ⟨by rw [hpl, her]⟩
  obtain ⟨bs, hbs⟩ : ∃ bs, bs = expand v l := ⟨_, rfl⟩
  have hby : Bytes bs := by rw [hbs]; exact expand_bytes hl
  have hble : bs.length ≤ 270532608 := by rw [hbs]; have := expand_le (v := v) (l := l); omega
  have HER := Hd.mk her
  have HBS := Hd.mk hbs
  have HBY := Hd.mk hby
  clear hpl her hbs hby hl
  go_enter Try.func4, Try.ntmps4
  go_wp2_with (fail)
  refine (face_any W A l.length c l p rfl HS.out hb).mono ?_
  rintro e w1 ⟨g, d1, rfl, h1, h2, h3⟩
  have O1 := Hd.mk h1
  have hg := h2
  have F1 := Hd.mk h3
  clear h1 h2 h3
  go_wp2_with (fail)
  refine (check_any w1 v (some ⟨g, 0, none⟩) l.length d1 l _ rfl (by exact face_part O1.out) (by omega) pl er HC.out).mono ?_
  rintro e w2 ⟨rfl, h3⟩
  have O1 := Hd.mk (own_frame O1.out h3 (by simp))
  have F2 := Hd.mk (F1.out.trans h3 (by simp))
  clear h3
  go_wp2_with (fail)
  refine (rcheck_any w2 v A l.length c l p rfl (by exact HS.out.frame F2.out (by simp)) (by omega) pl er HC.out).mono ?_
  rintro e w3 ⟨rfl, h3⟩
  have O1 := Hd.mk (own_frame O1.out h3 (by simp))
  have F3 := Hd.mk (F2.out.trans h3 (by simp))
  clear h3
  go_wp2_with (fail)
  refine (expand_any w3 v (some ⟨g, 0, none⟩) l.length d1 l _ rfl (by exact face_part O1.out) hb er bs HER.out HBS.out).mono ?_
  rintro e w4 ⟨Aa, ma, da, rfl, h1, h2, h3⟩
  obtain rfl : ma = bs.length := (own_bytes h1).symm
  have OA := Hd.mk h1
  have BA := Hd.mk h2
  have L3 := F3.out.size
  have hwa : Hd (∀ y, (Value.slice Aa bs.length da).ownBlock = some y → y < w4.heap.size) := ⟨fun y hy => own_lt h1 hy⟩
  have O1 := Hd.mk (own_frame O1.out h3 (by simp))
  have F4 := Hd.mk (F3.out.trans h3 (by simp))
  clear h1 h2 h3
  go_wp2_with (fail)
  refine (expand_any w4 v (some ⟨g, 0, none⟩) l.length d1 l _ rfl (by exact face_part O1.out) hb er bs HER.out HBS.out).mono ?_
  rintro e w5 ⟨Ab, mb, db, rfl, h1, h2, h3⟩
  obtain rfl : mb = bs.length := (own_bytes h1).symm
  have OB := Hd.mk h1
  have BB := Hd.mk h2
  have L4 := F4.out.size
  have OA := Hd.mk (own_frame OA.out h3 (by simp))
  have O1 := Hd.mk (own_frame O1.out h3 (by simp))
  have F5 := Hd.mk (F4.out.trans h3 (by simp))
  clear h1 h2 h3
  go_wp2_with (fail)
  refine (rexpand_any w5 v A l.length c l p rfl (by exact HS.out.frame F5.out (by simp)) hb er bs HER.out HBS.out).mono ?_
  rintro e w6 ⟨Aw, mw, dw, rfl, h1, h2, h3⟩
  obtain rfl : mw = bs.length := (own_bytes h1).symm
  have OW := Hd.mk h1
  have OA := Hd.mk (own_frame OA.out h3 (by simp))
  have OB := Hd.mk (own_frame OB.out h3 (by simp))
  have O1 := Hd.mk (own_frame O1.out h3 (by simp))
  have F6 := Hd.mk (F5.out.trans h3 (by simp))
  clear h1 h2 h3
  have hee : (er == er) = true := by simp
  have hpp : ((pl : Int) == (pl : Int)) = true := by simp
  go_wp2_with (fail)
  refine (same_any w6 Aa Aw _ _ da dw bs bs _ _ rfl rfl HBY.out HBY.out (sl_of_own OA.out) (sl_of_own OW.out) (fun h => own_none OA.out h) (fun h => own_none OW.out h)).mono ?_
  rintro e w7 ⟨rfl, rfl⟩
  rw [decide_eq_true rfl]
  go_wp2_with (fail)
  refine (same_any w6 Ab Aw _ _ db dw bs bs _ _ rfl rfl HBY.out HBY.out (sl_of_own OB.out) (sl_of_own OW.out) (fun h => own_none OB.out h) (fun h => own_none OW.out h)).mono ?_
  rintro e w7 ⟨rfl, rfl⟩
  rw [decide_eq_true rfl]
  go_wp2_with (fail)
  refine (size_any w6 (some ⟨g, 0, none⟩) l.length d1 l _ rfl (by exact face_part O1.out) (by omega)).mono ?_
  rintro e w7 ⟨rfl, h3⟩
  have F7 := Hd.mk (F6.out.trans h3 (by simp))
  have OA := Hd.mk (own_frame OA.out h3 (by simp))
  have OB := Hd.mk (own_frame OB.out h3 (by simp))
  have O1 := Hd.mk (own_frame O1.out h3 (by simp))
  clear h3
  go_wp2_with (fail)
  refine (rsize_any w7 A l.length c l p rfl (by exact HS.out.frame F7.out (by simp)) (by omega)).mono ?_
  rintro e w8 ⟨rfl, h3⟩
  have F8 := Hd.mk (F7.out.trans h3 (by simp))
  have OA := Hd.mk (own_frame OA.out h3 (by simp))
  have OB := Hd.mk (own_frame OB.out h3 (by simp))
  have O1 := Hd.mk (own_frame O1.out h3 (by simp))
  clear h3
  obtain ⟨sz, hsz⟩ : ∃ sz, sz = sizeOf l := ⟨_, rfl⟩
  rw [← hsz]
  have hss : ((sz : Int) == (sz : Int)) = true := by simp
  clear hsz
  go_wp2_with (fail)
  refine (tkept_any w8 g d1 l A c p O1.out (by exact HS.out.frame F8.out (by simp)) hb).mono ?_
  rintro e w9 ⟨rfl, h3⟩
  have F9 := Hd.mk (F8.out.trans h3 (by simp))
  have OA := Hd.mk (own_frame OA.out h3 (by simp))
  have OB := Hd.mk (own_frame OB.out h3 (by simp))
  clear h3
  have ha : ∀ k, (Value.slice Aa bs.length da).ownBlock = some k → W.heap.size ≤ k ∧ k < w4.heap.size := fun k hk => ⟨by have := BA.out k hk; omega, hwa.out k hk⟩
  have hbk : ∀ k, (Value.slice Ab bs.length db).ownBlock = some k → w4.heap.size ≤ k := fun k hk => BB.out k hk
  have Ha := Hd.mk ha
  have Hb := Hd.mk hbk
  clear ha hbk
  go_wp2_with (fail)
  refine (own_any _ (some ⟨w9.heap.size, 0, none⟩) 2 2 [⟨Aa, bs.length, da⟩, ⟨Ab, bs.length, db⟩] (some w9.heap.size) (fun _ => bs) rfl (by exact sl_of_blk (blk_new w9 _)) ?own1 ?own2 ?own3 ?own4 ?own5 (by decide)).mono ?_
  case own1 =>
    intro k hk e
    cases hk
    obtain ⟨i, hi, e⟩ := of_owns e
    match i, hi with
    | 0, _ => have := own_lt OA.out e; omega
    | 1, _ => have := own_lt OB.out e; omega
  case own2 => intro k hk; cases hk; simp
  case own3 =>
    intro i hi
    match i, hi with
    | 0, _ => exact OA.out.alloc _
    | 1, _ => exact OB.out.alloc _
  case own4 =>
    intro i j hi hj hij k h1 h2
    match i, j, hi, hj with
    | 0, 0, _, _ => exact hij rfl
    | 1, 1, _, _ => exact hij rfl
    | 0, 1, _, _ => have := Ha.out k h1; have := Hb.out k h2; omega
    | 1, 0, _, _ => have := Hb.out k h1; have := Ha.out k h2; omega
  case own5 =>
    intro i hi
    match i, hi with
    | 0, _ => show bs.length ≤ _; omega
    | 1, _ => show bs.length ≤ _; omega
  rintro e w10 ⟨rfl, h1⟩
  have F10 : Hd (Fr W w10 []) := ⟨(F9.out.alloc _).trans h1 (fun x hx e => by
    obtain ⟨i, hi, e⟩ := of_owns e
    match i, hi with
    | 0, _ => have := Ha.out x e; omega
    | 1, _ => have := Hb.out x e; have := F4.out.size; omega)⟩
  clear h1
  go_wp2_with (fail)
  refine (lives_any w10).mono ?_
  rintro e w11 ⟨rfl, h1⟩
  have F11 := Hd.mk (F10.out.trans h1 (by simp))
  clear h1
  go_wp2
  go_ret
  exact ⟨rfl, F11.out.below⟩
end Go.Proofs.Ytbfdokklhdmmoaa.Lz
