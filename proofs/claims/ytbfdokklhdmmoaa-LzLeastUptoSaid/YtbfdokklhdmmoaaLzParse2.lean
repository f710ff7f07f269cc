/- The program's Parse. Conditions: at most 2^20 bytes. -/
import Derived.Test.YtbfdokklhdmmoaaLzParse
set_option linter.unusedVariables false
set_option linter.unusedSimpArgs false
set_option maxRecDepth 100000
namespace Go.Proofs.Ytbfdokklhdmmoaa.Lz
open Go.RowKit Go.Maps Go.Proofs.Ytbfdokklhdmmoaa.Lib Go.Proofs.Ytbfdokklhdmmoaa.Num Go.Proofs.Ytbfdokklhdmmoaa.Bits

section
variable {w w' : World} {g : Nat} {A : Option Addr} {n c : Nat} {d : List Int} {q : Option Nat} {k : Opt} {B : Nat} {E : Option Addr} {ec kn : Nat}
theorem Fd.frame2 (h : Fd w g A n c d q k B E ec kn) {F : List Nat} (hf : Fr w w' F) (hF : ∀ y ∈ F, y ≠ g ∧ y ≠ B ∧ (Value.slice E kn ec).ownBlock ≠ some y ∧ q ≠ some y) : Fd w' g A n c d q k B E ec kn where
  blk := hf.blk h.blk (fun hm => (hF _ hm).1 rfl)
  data := h.data.frame hf (fun y hy hm => (hF _ hm).2.2.2 hy)
  len := h.len
  nc := h.nc
  byte := h.byte
  kle := h.kle
  map := Mp.frame (show Mp w B d kn from h.map) hf (fun hm => (hF _ hm).2.1 rfl)
  own := own_frame h.own hf (fun y hy hm => (hF _ hm).2.2.1 hy)
  qlt := fun y hy => Nat.lt_of_lt_of_le (h.qlt y hy) hf.size
  qne := h.qne
/-- a list of tokens lies apart from the finder -/
theorem Fd.apart (h : Fd w g A n c d q k B E ec kn) {v : Value} {m : Nat} {xs : List Value} (ho : w.ownsRow 0 56 3 v m xs) {y : Nat} (hy : v.ownBlock = some y) : y ≠ g ∧ y ≠ B ∧ (Value.slice E kn ec).ownBlock ≠ some y := by
  obtain ⟨cs, hcs⟩ := own_type ho hy
  refine ⟨?_, ?_, ?_⟩
  · exact blk_ne hcs h.blk (by decide)
  · rintro rfl
    obtain ⟨es, clock, hb⟩ := h.map_blk
    rw [hb] at hcs
    cases hcs
  · intro e
    obtain ⟨ds, hds⟩ := own_type h.own e
    exact blk_ne hcs hds (by decide) rfl
/-- where Parse stands -/
structure St (w wr : World) (kb g : Nat) (A : Option Addr) (n c : Nat) (d : List Int) (q : Option Nat) (k : Opt) (B : Nat) (E : Option Addr) (ec kn : Nat) (A1 : Option Addr) (m d1 : Nat) (P : List Tok) : Prop where
  own : wr.ownsRow 0 56 3 (.slice A1 m d1) m (tcells P)
  new : ∀ y, (Value.slice A1 m d1).ownBlock = some y → w.heap.size ≤ y
  fr : Fr w wr []
  opt : wr.heap[kb]? = some (.cells #[.int .i64 k.window, .int .i64 k.chain, .bool k.isLazy] 49 (0, 0))
  fd : Fd wr g A n c d q k B E ec kn
  rnew : ∀ y, (Value.slice E kn ec).ownBlock = some y → w.heap.size ≤ y
theorem St.best {wr w3 : World} {kb : Nat} {A1 : Option Addr} {m d1 : Nat} {P : List Tok} {E' : Option Addr} {ec' kn' : Nat} (h : St w wr kb g A n c d q k B E ec kn A1 m d1 P) (hg : w.heap.size ≤ g) (hB : w.heap.size ≤ B) (hgk : kb ≠ g ∧ kb ≠ B)
    (h1 : Fd w3 g A n c d q k B E' ec' kn') (h2 : Aft wr (Value.slice E kn ec).ownBlock (Value.slice E' kn' ec').ownBlock) (h3 : Fr wr w3 (g :: B :: (Value.slice E kn ec).ownBlock.toList)) : St w w3 kb g A n c d q k B E' ec' kn' A1 m d1 P where
  own := own_frame h.own h3 (fun y hy hm => by
    obtain ⟨n1, n2, n3⟩ := h.fd.apart h.own hy
    simp only [List.mem_cons, Option.mem_toList, Option.mem_def] at hm
    rcases hm with e | e | e
    · exact n1 e
    · exact n2 e
    · exact n3 e)
  new := h.new
  fr := h.fr.trans h3 (fun y hy hm => by
    simp only [List.mem_cons, Option.mem_toList, Option.mem_def] at hm
    rcases hm with e | e | e
    · omega
    · omega
    · have := h.rnew y e; omega)
  opt := h3.blk h.opt (fun hm => by
    simp only [List.mem_cons, Option.mem_toList, Option.mem_def] at hm
    rcases hm with e | e | e
    · exact hgk.1 e
    · exact hgk.2 e
    · obtain ⟨cs, hcs⟩ := own_type h.fd.own e
      exact blk_ne hcs h.opt (by decide) rfl)
  fd := h1
  rnew := fun y hy => by
    rcases h2 with e | ⟨z, e, hz⟩
    · rw [e] at hy; exact h.rnew y hy
    · rw [e] at hy; cases hy; exact Nat.le_trans h.fr.size hz
theorem St.push {wr w6 : World} {kb : Nat} {A1 A3 : Option Addr} {m d1 d3 : Nat} {P : List Tok} {t : Tok} {cs : Array Value} {ty : TypeId} (h : St w wr kb g A n c d q k B E ec kn A1 m d1 P) (hq : ∀ y, q = some y → y < w.heap.size) (hkb : kb < w.heap.size + 1)
    (h1 : w6.ownsRow 0 56 3 (.slice A3 (m + 1) d3) (m + 1) (tcells P ++ tcell t)) (h2 : (wr.alloc (.cells cs ty)).grownBy w6 (Value.slice A1 m d1).ownBlock) (h3 : Aft (wr.alloc (.cells cs ty)) (Value.slice A1 m d1).ownBlock (Value.slice A3 (m + 1) d3).ownBlock) : St w w6 kb g A n c d q k B E ec kn A3 (m + 1) d3 (P ++ [t]) := by
  have hfr : Fr wr w6 (Value.slice A1 m d1).ownBlock.toList := ((Fr.refl wr _).alloc _).grown h2 (fun y hy => .inl (by simp [hy]))
  refine ⟨by rw [tcells_app]; simpa [tcells] using h1, tokOwn_new h.new h.fr.size h3, ?_, hfr.blk h.opt (fun hm => ?_), h.fd.frame2 hfr (fun y hy => ?_), h.rnew⟩
  · exact h.fr.trans hfr (fun y hy hm => by have := h.new y (by simpa using hm); omega)
  · have hm' : (Value.slice A1 m d1).ownBlock = some kb := by simpa using hm
    obtain ⟨ds, hds⟩ := own_type h.own hm'
    exact blk_ne hds h.opt (by decide) rfl
  · have hy' : (Value.slice A1 m d1).ownBlock = some y := by simpa using hy
    obtain ⟨n1, n2, n3⟩ := h.fd.apart h.own hy'
    exact ⟨n1, n2, n3, fun e => by have := hq y e; have := h.new y hy'; omega⟩
end
set_option maxHeartbeats 8000000 in
theorem parse_any (w : World) (A : Option Addr) (n c : Nat) (d : List Int) (q : Option Nat) (k : Opt) (hS : SlArg w A n c (u8s d) q) (hby : Bytes d) (hn : n ≤ 1048576) (er : Int) (ts : List Tok) (her : er = optErr k) (hts : ts = parse d k) :
    Calls Try.prog 23 #[.slice A n c, .agg #[.int .i64 k.window, .int .i64 k.chain, .bool k.isLazy]] w fun e w' => ∃ A' m dd, e = .returned (.tuple #[.slice A' m dd, .int .i64 er]) ∧
      w'.ownsRow 0 56 3 (.slice A' m dd) m (tcells ts) ∧ (∀ y, (Value.slice A' m dd).ownBlock = some y → w.heap.size ≤ y) ∧ Fr w w' [] := by
  obtain ⟨i0, hi0, hz0, hz1, hz2⟩ := info_parts infoTok
  have HS := Hd.mk hS
  have hl : d.length = n := by have := hS.len; simpa [u8s] using this
  have HE := Hd.mk her
  have HT := Hd.mk hts
  have HBy := Hd.mk hby
  have her2 : er = 0 ∨ er = 72 := her ▸ optErr_two k
  clear hS her hts hby
  go_enter Try.func23, Try.ntmps23
  go_wp2_with (fail)
  refine (opt_any _ k er HE.out).mono ?_
  rintro e w1 ⟨rfl, h1⟩
  have hbk := h1.blk (blk_new w (.cells #[.int .i64 k.window, .int .i64 k.chain, .bool k.isLazy] 49)) (by simp)
  have F1 := Hd.mk (((Fr.refl w []).alloc (.cells #[.int .i64 k.window, .int .i64 k.chain, .bool k.isLazy] 49)).trans h1 (by simp))
  obtain ⟨kb, hkb⟩ : ∃ kb, kb = w.heap.size := ⟨_, rfl⟩
  have hkbw : kb = w.heap.size := hkb
  rw [← hkb] at hbk ⊢
  have b0 := blk_cell hbk 0
  have b1 := blk_cell hbk 1
  have b2 := blk_cell hbk 2
  simp only [List.getElem?_toArray, List.getElem?_cons_zero, List.getElem?_cons_succ] at b0 b1 b2
  have HKB := Hd.mk hbk
  have HKW := Hd.mk hkbw
  clear h1 hbk hkb hkbw
  rcases her2 with rfl | rfl
  · have HX : Hd (ts = parseF d k n 0) := ⟨by rw [HT.out]; unfold parse; rw [if_pos HE.out.symm, hl]⟩
    have hzb : kb < w1.heap.size := blk_lt HKB.out
    go_wp2_with (fail)
    refine (new_any w1 A n c d q k (HS.out.frame F1.out (by simp)) HBy.out).mono ?_
    rintro e w2 ⟨g, B, rfl, hf, hg, hB, h2⟩
    have HF2 := Hd.mk hf
    have F2 := Hd.mk (F1.out.trans h2 (by simp))
    have HKB2 := Hd.mk (h2.blk HKB.out (by simp))
    have hg1 : w.heap.size ≤ g := Nat.le_trans F1.out.size hg
    have hB1 : w.heap.size ≤ B := Nat.le_trans F1.out.size hB
    have hgk : kb ≠ g ∧ kb ≠ B := by omega
    have hkb1 : kb < w.heap.size + 1 := by have := HKW.out; omega
    clear hf h2 b0 b1 b2
    go_wp2
    have HQ : Hd (∀ y, q = some y → y < w.heap.size) := ⟨HS.out.lt⟩
    have HST0 : Hd (St w w2 kb g A n c d q k B none 0 0 none 0 0 []) := ⟨⟨own_nil _ _ _ _, (by intro y hy; cases hy), F2.out, HKB2.out, HF2.out, (by intro y hy; cases hy)⟩⟩
    go_loopg [7, 9] n (fun kq sv pv wr => ∃ (p : Nat) (A1 : Option Addr) (m d1 : Nat) (P : List Tok) (E : Option Addr) (ec kn : Nat), sv = .slice A1 m d1 ∧ pv = .int .i64 (p : Nat) ∧ p + kq = n ∧ m ≤ p ∧ Hd (ts = P ++ parseF d k n p) ∧ Hd (St w wr kb g A n c d q k B E ec kn A1 m d1 P))
    case atStart => exact ⟨0, none, 0, 0, [], none, 0, 0, rfl, rfl, by omega, by omega, HX, HST0⟩
    case round =>
      obtain ⟨p, A1, m, d1, P, E, ec, kn, rfl, rfl, hp, hmp, HP, HSt⟩ := hrel
      by_cases h1 : p < n
      · obtain ⟨r1, hr1⟩ : ∃ r1, r1 = (best d p k.window.toNat k.chain.toNat).1 := ⟨_, rfl⟩
        obtain ⟨r2, hr2⟩ : ∃ r2, r2 = (best d p k.window.toNat k.chain.toNat).2 := ⟨_, rfl⟩
        have hgood := best_good (d := d) (p := p) (w := k.window.toNat) (ch := k.chain.toNat) (by omega)
        have hrb : r1 ≤ 258 ∧ (r1 ≠ 0 → p + r1 ≤ n) := by
          rw [hr1]
          rcases hgood with h | h
          · omega
          · omega
        have HR1 := Hd.mk hr1
        have HR2 := Hd.mk hr2
        obtain ⟨tk, htk⟩ : ∃ tk, tk = taken d k p := ⟨_, rfl⟩
        have HTK := Hd.mk htk
        have htk0 : tk = 0 ∨ tk = r1 := by rw [htk, hr1]; exact taken_good (by omega)
        have HSTP : Hd (parseF d k n p = tokAt d k p :: parseF d k n (p + stepAt d k p)) := ⟨parseF_step (by omega) (by omega)⟩
        clear hr1 hr2 hgood htk
        go_wp2_with (fail)
        refine (best_any wr p h1 (by omega) HE.out.symm (r1, r2) (by rw [HR1.out, HR2.out]) HSt.out.fd).mono ?_
        rintro e w3 ⟨rfl, E3, ec3, kn3, q1, q2, q3⟩
        have HSt3 := Hd.mk (HSt.out.best hg1 hB1 hgk q1 q2 q3)
        clear q1 q2 q3
        have hkb := HSt3.out.opt
        have b2 := blk_cell hkb 2
        simp only [List.getElem?_toArray, List.getElem?_cons_zero, List.getElem?_cons_succ] at b2
        clear hkb
        obtain ⟨lz, hlz⟩ : ∃ lz, lz = k.isLazy := ⟨_, rfl⟩
        rw [← hlz] at b2
        have HLZ := Hd.mk hlz
        clear hlz
        obtain ⟨bt, hbt⟩ : ∃ bt, bt = (decide (0 < r1) && (lz && decide (p + 1 < n))) := ⟨_, rfl⟩
        have HBT := Hd.mk hbt
        clear hbt
        go_upto_region 9 with (fail)
        go_cut [45] from 33 to 46 (fun s44 wd => s44 = .bool bt ∧ wd = w3)
        case first =>
          by_cases h2 : 0 < r1
          · cases lz with
            | true =>
              by_cases h3 : p + 1 < n
              · obtain rfl : bt = true := by rw [HBT.out, decide_eq_true h2, decide_eq_true h3]; rfl
                go_wp2
                go_meet
                exact ⟨by rw [show decide ((p : Int) + 1 < (n : Int)) = true from decide_eq_true (by omega)], rfl⟩
              · obtain rfl : bt = false := by rw [HBT.out, decide_eq_false h3]; simp
                go_wp2
                go_meet
                exact ⟨by rw [show decide ((p : Int) + 1 < (n : Int)) = false from decide_eq_false (by omega)], rfl⟩
            | false =>
              obtain rfl : bt = false := by rw [HBT.out]; simp
              go_wp2
              go_meet
              exact ⟨rfl, rfl⟩
          · obtain rfl : bt = false := by rw [HBT.out, decide_eq_false h2]; rfl
            obtain rfl : r1 = 0 := by omega
            go_wp2
            go_meet
            exact ⟨rfl, rfl⟩
        case rest =>
          obtain ⟨rfl, rfl⟩ := hcut
          obtain ⟨wa, rfl⟩ : ∃ wa : World, wa = wc := ⟨_, rfl⟩
          clear b2
          go_upto_if 45 with (fail)
          go_cut [10] from 46 to 56 (fun s9 wd => ∃ E5 ec5 kn5, s9 = .int .i64 (tk : Nat) ∧ Hd (St w wd kb g A n c d q k B E5 ec5 kn5 A1 m d1 P))
          case first =>
            cases bt with
            | false =>
              obtain rfl : tk = r1 := by
                rw [HTK.out]
                unfold taken
                rw [if_neg]
                · exact HR1.out.symm
                · intro h
                  have := HBT.out
                  rw [← HR1.out, ← HLZ.out, hl] at h
                  rw [decide_eq_true h.1, h.2.1, decide_eq_true h.2.2.1] at this
                  cases this
              go_wp2
              go_meet
              exact ⟨E3, ec3, kn3, rfl, HSt3⟩
            | true =>
              have hbt := HBT.out
              simp only [Bool.true_eq, Bool.and_eq_true, decide_eq_true_eq] at hbt
              obtain ⟨hb1, hb2, hb3⟩ := hbt
              obtain ⟨s1, hs1⟩ : ∃ s1, s1 = (best d (p + 1) k.window.toNat k.chain.toNat).1 := ⟨_, rfl⟩
              obtain ⟨s2, hs2⟩ : ∃ s2, s2 = (best d (p + 1) k.window.toNat k.chain.toNat).2 := ⟨_, rfl⟩
              have hsg : s1 ≤ 258 := by
                have hgood := best_good (d := d) (p := p + 1) (w := k.window.toNat) (ch := k.chain.toNat) (by omega)
                rw [hs1]
                rcases hgood with h | h
                · omega
                · omega
              have HTK2 : Hd (tk = if r1 < s1 then 0 else r1) := ⟨by
                rw [HTK.out]
                unfold taken
                rw [← HR1.out, ← HLZ.out, hl, ← hs1]
                by_cases e : r1 < s1
                · rw [if_pos e, if_pos ⟨hb1, hb2, hb3, e⟩]
                · rw [if_neg e, if_neg (fun h => e h.2.2.2)]⟩
              have HS1 := Hd.mk hs1
              have HS2 := Hd.mk hs2
              clear hs1 hs2
              go_wp2_with (fail)
              refine (best_any wa (p + 1) hb3 (by omega) HE.out.symm (s1, s2) (by rw [HS1.out, HS2.out]) HSt3.out.fd).mono ?_
              rintro e w4 ⟨rfl, E4, ec4, kn4, q1, q2, q3⟩
              have HSt4 := Hd.mk (HSt3.out.best hg1 hB1 hgk q1 q2 q3)
              clear q1 q2 q3
              by_cases h5 : r1 < s1
              · obtain rfl : tk = 0 := by rw [HTK2.out, if_pos h5]
                go_wp2
                go_meet
                exact ⟨E4, ec4, kn4, rfl, HSt4⟩
              · obtain rfl : tk = r1 := by rw [HTK2.out, if_neg h5]
                go_wp2
                go_meet
                exact ⟨E4, ec4, kn4, rfl, HSt4⟩
          case rest =>
            obtain ⟨E5, ec5, kn5, rfl, HSt5⟩ := hcut
            by_cases h6 : tk = 0
            · subst h6
              have HTA : Hd (tokAt d k p = ⟨at0 d p, 0, 0⟩ ∧ stepAt d k p = 1) := ⟨by unfold tokAt stepAt; rw [← HTK.out]; exact ⟨rfl, rfl⟩⟩
              obtain ⟨b, off, e1, _, hcc⟩ := HSt5.out.fd.data (by rw [u8s_length]; omega)
              subst e1
              have kc := (hcc p (by rw [u8s_length]; omega)).trans (u8s_at (by omega))
              obtain ⟨x, hx⟩ : ∃ x, x = at0 d p := ⟨_, rfl⟩
              rw [← hx] at kc
              have HXX := Hd.mk hx
              clear hcc hx
              go_wp2_with (at_builtin; refine wpList_append_sl rfl (.tmp 58) (.tmp 64) 24 rfl 56 i0 (.agg #[.int .u8 0, .int .i64 0, .int .i64 0]) 3 24 Try.underlying24 hi0 hz0 hz1 hz2 rfl (by decide) (.slice A1 m d1) m _ rfl (by exact HSt5.out.own.alloc _) (some ⟨wc.heap.size, 0, none⟩) 1 1 [.int .u8 x, .int .i64 0, .int .i64 0] (some wc.heap.size) rfl rfl (by exact sl_of_blk (blk_new _ _)) (by intro h; cases h) (by intro u hu; simp at hu; rcases hu with rfl | rfl | rfl <;> rfl) (by unfold maxLen; omega) (by omega) ?_; intro A3 d3 w6 hown' hgrow haft; have O3 := Hd.mk hown'; have G3 := Hd.mk hgrow; have F3 := Hd.mk haft; clear hown' hgrow haft)
              go_roundg (gk - 1)
              case measure => omega
              case rel =>
                exact ⟨p + 1, A3, m + 1, d3, P ++ [⟨x, 0, 0⟩], E5, ec5, kn5, rfl, by go_num, by omega, by omega, ⟨by rw [HP.out, HSTP.out, HTA.out.1, HTA.out.2, HXX.out, List.append_assoc]; rfl⟩, ⟨HSt5.out.push (t := ⟨x, 0, 0⟩) HQ.out hkb1 O3.out G3.out F3.out⟩⟩
            · obtain rfl : tk = r1 := by omega
              have e6 : ((tk : Int) == 0) = false := by simp; omega
              have HTA : Hd (tokAt d k p = ⟨0, tk, r2⟩ ∧ stepAt d k p = tk) := ⟨by unfold tokAt stepAt; rw [← HTK.out, if_neg h6, if_neg h6, ← HR2.out]; exact ⟨rfl, rfl⟩⟩
              go_wp2_with (at_builtin; refine wpList_append_sl rfl (.tmp 68) (.tmp 72) 24 rfl 56 i0 (.agg #[.int .u8 0, .int .i64 0, .int .i64 0]) 3 24 Try.underlying24 hi0 hz0 hz1 hz2 rfl (by decide) (.slice A1 m d1) m _ rfl (by exact HSt5.out.own.alloc _) (some ⟨wc.heap.size, 0, none⟩) 1 1 [.int .u8 0, .int .i64 (tk : Nat), .int .i64 (r2 : Nat)] (some wc.heap.size) rfl rfl (by exact sl_of_blk (blk_new _ _)) (by intro h; cases h) (by intro u hu; simp at hu; rcases hu with rfl | rfl | rfl <;> rfl) (by unfold maxLen; omega) (by omega) ?_; intro A3 d3 w6 hown' hgrow haft; have O3 := Hd.mk hown'; have G3 := Hd.mk hgrow; have F3 := Hd.mk haft; clear hown' hgrow haft)
              go_roundg (gk - tk)
              case measure => omega
              case rel =>
                exact ⟨p + tk, A3, m + 1, d3, P ++ [⟨0, tk, r2⟩], E5, ec5, kn5, rfl, by go_num, by omega, by omega, ⟨by rw [HP.out, HSTP.out, HTA.out.1, HTA.out.2, List.append_assoc]; rfl⟩, ⟨HSt5.out.push (t := ⟨0, tk, r2⟩) HQ.out hkb1 O3.out G3.out F3.out⟩⟩
      · obtain rfl : p = n := by omega
        have hpp : Hd (ts = P) := ⟨by rw [HP.out, parseF_end (by omega), List.append_nil]⟩
        go_wp2
        go_ret2
        exact ⟨A1, m, d1, rfl, by rw [hpp.out]; exact HSt.out.own, HSt.out.new, HSt.out.fr⟩
  · obtain rfl : ts = [] := by rw [HT.out]; unfold parse; rw [if_neg (by rw [← HE.out]; simp)]
    go_wp2
    go_ret2
    exact ⟨none, 0, 0, rfl, own_nil _ _ _ _, (by intro j hj; cases hj), F1.out⟩
end Go.Proofs.Ytbfdokklhdmmoaa.Lz
