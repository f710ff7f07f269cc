/- Texts of this claim, one behind the other: BitsR, CodeC, BlkG, U8. -/
import Derived.Test.YtlfckpmdmkccjaaGreatG08
import Derived.Test.YtlfckpmdmkccjaaGreatG07
import Derived.Test.YtlfckpmdmkccjaaGreatG01
import Derived.Laws.CopyOwn
import Derived.WalkSpells
/- The reader's methods: what each answers and leaves behind. Conditions: fewer than 2^60 bits in all. -/
set_option maxRecDepth 100000
set_option linter.unusedVariables false
set_option linter.unusedSimpArgs false
namespace Go.Proofs.YtlfckpmdmkccjaaGreat.Bits
open Go.RowKit Go.Proofs.YtlfckpmdmkccjaaGreat.Lib Go.Proofs.YtlfckpmdmkccjaaGreat.Num

/-- A reader in block g holds the h bits of V; t are gone. -/
def Rd (w : World) (g : Nat) (V h t : Nat) : Prop :=
  w.heap[g]? = some (.cells #[.int .u64 V, .int .i64 h, .int .i64 t] 118 (0, 0)) ∧ V < 2 ^ h ∧ h ≤ 64
theorem Rd.frame {w w' : World} {g V h t : Nat} (hr : Rd w g V h t) {F : List Nat} (hf : Fr w w' F) (hg : g ∉ F) : Rd w' g V h t := ⟨hf.blk hr.1 hg, hr.2⟩
theorem Rd.lt {w : World} {g V h t : Nat} (hr : Rd w g V h t) : g < w.heap.size := blk_lt hr.1
theorem rd_cells {w : World} {g V h t : Nat} (hr : Rd w g V h t) : w.cell? ⟨g, 0, none⟩ = some (.int .u64 V) ∧ w.cell? ⟨g, 1, none⟩ = some (.int .i64 h) ∧ w.cell? ⟨g, 2, none⟩ = some (.int .i64 t) :=
  ⟨blk_cell hr.1 0, blk_cell hr.1 1, blk_cell hr.1 2⟩
theorem rd_free {w : World} {g V h t : Nat} (hr : Rd w g V h t) : w.frozen? ⟨g, 0, none⟩ = false ∧ w.frozen? ⟨g, 1, none⟩ = false ∧ w.frozen? ⟨g, 2, none⟩ = false :=
  ⟨blk_frozen hr.1 0, blk_frozen hr.1 1, blk_frozen hr.1 2⟩
section
variable {g V b t : Nat}
theorem has_any (w : World) (hr : Rd w g V b t) :
    Calls Tryz.prog 53 #[.pointer (some ⟨g, 0, none⟩)] w fun e w' => e = .returned (.int .i64 b) ∧ w = w' := by
  obtain ⟨c0, c1, c2⟩ := rd_cells hr
  clear hr
  go_enter Tryz.func53, Tryz.ntmps53
  go_wp2
  go_ret
  exact ⟨rfl, rfl⟩
theorem taken_any (w : World) (hr : Rd w g V b t) :
    Calls Tryz.prog 82 #[.pointer (some ⟨g, 0, none⟩)] w fun e w' => e = .returned (.int .i64 t) ∧ w = w' := by
  obtain ⟨c0, c1, c2⟩ := rd_cells hr
  clear hr
  go_enter Tryz.func82, Tryz.ntmps82
  go_wp2
  go_ret
  exact ⟨rfl, rfl⟩
theorem space_any (w : World) (hr : Rd w g V b t) :
    Calls Tryz.prog 151 #[.pointer (some ⟨g, 0, none⟩)] w fun e w' => e = .returned (.int .i64 (((64 - b) / 8 : Nat) : Int)) ∧ w = w' := by
  obtain ⟨c0, c1, c2⟩ := rd_cells hr
  have h64 : b ≤ 64 := hr.2.2
  clear hr
  go_enter Tryz.func151, Tryz.ntmps151
  go_wp2
  go_ret
  have e : ((64 : Int) - b) / 8 = (((64 - b) / 8 : Nat) : Int) := by omega
  exact ⟨by rw [← e]; rfl, rfl⟩
theorem peek_ok (w : World) (n : Int) (h0 : 0 ≤ n) (h1 : n ≤ 56) (h2 : n ≤ b) (hr : Rd w g V b t) :
    Calls Tryz.prog 133 #[.pointer (some ⟨g, 0, none⟩), .int .i64 n] w fun e w' => e = .returned (.tuple #[.int .u64 ((V % 2 ^ n.toNat : Nat) : Int), .bool true]) ∧ w.drew = w' := by
  obtain ⟨n, rfl⟩ := Int.eq_ofNat_of_zero_le h0
  obtain ⟨c0, c1, c2⟩ := rd_cells hr
  have hV : V < 2 ^ 64 := Nat.lt_of_lt_of_le hr.2.1 (Nat.pow_le_pow_right (by decide) hr.2.2)
  have hm := n64mask (n := n) hV (by omega)
  have hp := pow_lt_64 (n := n) (by omega)
  have hp0 := Nat.two_pow_pos n
  have e1 : IntKind.u64.wrap (IntKind.u64.wrap (2 ^ n) - 1) = ((2 ^ n - 1 : Nat) : Int) := by
    rw [← pow_cast, n64id (n := ((2 ^ n : Nat) : Int)) (by omega) (by omega), show ((2 ^ n : Nat) : Int) - 1 = ((2 ^ n - 1 : Nat) : Int) from by omega]
    exact n64id (by omega) (by omega)
  rw [← e1] at hm
  have Hm := Hd.mk hm
  clear hr hV hm hp hp0 e1
  go_enter Tryz.func133, Tryz.ntmps133
  go_wp2
  go_region
  go_wp2
  go_ret2
  exact ⟨by rw [Int.toNat_natCast, ← Hm.out]; rfl, rfl⟩
theorem peek_no (w : World) (n : Int) (hn : n < 0 ∨ 56 < n ∨ b < n) (hr : Rd w g V b t) :
    Calls Tryz.prog 133 #[.pointer (some ⟨g, 0, none⟩), .int .i64 n] w fun e w' => e = .returned (.tuple #[.int .u64 0, .bool false]) ∧ w = w' := by
  obtain ⟨c0, c1, c2⟩ := rd_cells hr
  clear hr
  by_cases h1 : n < 0
  · clear hn
    go_enter Tryz.func133, Tryz.ntmps133
    go_wp2
    go_ret2
    exact ⟨rfl, rfl⟩
  · by_cases h2 : 56 < n
    · clear hn
      go_enter Tryz.func133, Tryz.ntmps133
      go_wp2
      go_ret2
      exact ⟨rfl, rfl⟩
    · have h3 : (b : Int) < n := by omega
      clear hn
      go_enter Tryz.func133, Tryz.ntmps133
      go_wp2
      go_ret2
      exact ⟨rfl, rfl⟩
theorem take_ok (w : World) (n : Int) (h0 : 0 ≤ n) (h1 : n ≤ 56) (h2 : n ≤ b) (ht : t ≤ 1152921504606846976) (hr : Rd w g V b t) :
    Calls Tryz.prog 112 #[.pointer (some ⟨g, 0, none⟩), .int .i64 n] w fun e w' => e = .returned (.tuple #[.int .u64 ((V % 2 ^ n.toNat : Nat) : Int), .bool true]) ∧
      Rd w' g (V / 2 ^ n.toNat) (b - n.toNat) (t + n.toNat) ∧ Fr w w' [g] := by
  obtain ⟨n, rfl⟩ := Int.eq_ofNat_of_zero_le h0
  obtain ⟨c0, c1, c2⟩ := rd_cells hr
  obtain ⟨f0, f1, f2⟩ := rd_free hr
  have h64 := hr.2.2
  have HR := Hd.mk hr
  clear hr
  go_enter Tryz.func112, Tryz.ntmps112
  go_wp2_with (go_at_call 133; refine (peek_ok w (n : Int) h0 h1 h2 HR.out).mono ?_; rintro e w' ⟨rfl, rfl⟩)
  go_ret2
  simp only [Int.toNat_natCast]
  have hr := HR.out
  have hb0 := hr.1
  refine ⟨rfl, ⟨?_, ?_, by omega⟩, ?_⟩
  · have e1 : ((V / 2 ^ n : Nat) : Int) = (V : Int) / 2 ^ n := by simp
    have e2 : ((b - n : Nat) : Int) = (b : Int) - n := by omega
    rw [e1, e2, Int.natCast_add, drew_heap]
    simpa using blk_set (blk_set (blk_set hb0 0 (.int .u64 ((V : Int) / 2 ^ n))) 1 (.int .i64 ((b : Int) - n))) 2 (.int .i64 ((t : Int) + n))
  · have := hr.2.1
    rw [Nat.div_lt_iff_lt_mul (Nat.two_pow_pos _), ← Nat.pow_add, Nat.sub_add_cancel (by omega)]
    exact this
  · exact ((((Fr.refl w [g]).setCell _ (.inl (by simp))).setCell _ (.inl (by simp))).setCell _ (.inl (by simp))).drew
theorem take_no (w : World) (n : Int) (hn : n < 0 ∨ 56 < n ∨ b < n) (hr : Rd w g V b t) :
    Calls Tryz.prog 112 #[.pointer (some ⟨g, 0, none⟩), .int .i64 n] w fun e w' => e = .returned (.tuple #[.int .u64 0, .bool false]) ∧ w = w' := by
  have HR := Hd.mk hr
  have HN := Hd.mk hn
  clear hr hn
  go_enter Tryz.func112, Tryz.ntmps112
  go_wp2_with (go_at_call 133; refine (peek_no w n HN.out HR.out).mono ?_; rintro e w' ⟨rfl, rfl⟩)
  go_ret2
  exact ⟨rfl, rfl⟩
theorem ralign_any (w : World) (k : Nat) (hk : k = min ((8 - t % 8) % 8) b) (ht : t ≤ 1152921504606846976) (hr : Rd w g V b t) :
    Calls Tryz.prog 113 #[.pointer (some ⟨g, 0, none⟩)] w fun e w' => e = .returned (.tuple #[.int .i64 k, .int .u64 ((V % 2 ^ k : Nat) : Int)]) ∧
      Rd w' g (V / 2 ^ k) (b - k) (t + k) ∧ Fr w w' [g] := by
  obtain ⟨c0, c1, c2⟩ := rd_cells hr
  have h64 := hr.2.2
  have HR := Hd.mk hr
  have hmin : (if (b : Int) < -((t : Int) % 8) % 8 then (b : Int) else -((t : Int) % 8) % 8) = (k : Int) := by split <;> omega
  have hk8 : (k : Int) ≤ 7 := by omega
  have hkh : (k : Int) ≤ b := by omega
  clear hr hk
  go_enter Tryz.func113, Tryz.ntmps113
  go_wp2
  go_region
  go_wp2_with (fail)
  refine (take_ok (V := V) (b := b) (t := t) w.drew (k : Int) (by omega) (by omega) (by omega) ht (by exact HR.out)).mono ?_
  rintro e w1 ⟨rfl, h1, h2⟩
  simp only [Int.toNat_natCast] at h1 ⊢
  have H1 := Hd.mk h1
  have H2 := Hd.mk h2
  clear h1 h2
  go_wp2
  go_ret2
  exact ⟨rfl, H1.out, H2.out.ofDrew⟩
/-- Feed: as many of the bytes as there is room for. -/
theorem feed_any (w : World) (A : Option Addr) (l c : Nat) (xs : List Int) (qx : Option Nat) (hlen : xs.length = l) (hx : ∀ x ∈ xs, 0 ≤ x ∧ x ≤ 255) (hS : Sl w A (u8s xs) qx) (hl : xs.length ≤ c) (hlm : xs.length ≤ 4611686018427387904)
    (hq : qx ≠ some g) (n : Nat) (hn : n = min ((64 - b) / 8) xs.length) (hr : Rd w g V b t) :
    Calls Tryz.prog 132 #[.pointer (some ⟨g, 0, none⟩), .slice A l c] w fun e w' => e = .returned (.int .i64 n) ∧
      Rd w' g (V + valB (xs.take n) * 2 ^ b) (b + 8 * n) t ∧ Fr w w' [g] := by
  subst hlen
  have h64 := hr.2.2
  have HR := Hd.mk hr
  have HS := Hd.mk hS
  have HX := Hd.mk hx
  obtain ⟨s, hs⟩ : ∃ s, s = (64 - b) / 8 := ⟨_, rfl⟩
  have hmin : (if xs.length < s then (xs.length : Int) else (s : Int)) = (n : Int) := by split <;> omega
  have hn1 : n ≤ xs.length := by omega
  have hn2 : b + 8 * n ≤ 64 := by omega
  have Hs := Hd.mk hs
  clear hr hn hS hx hs
  go_enter Tryz.func132, Tryz.ntmps132
  go_wp2_with (go_at_call 151; refine (space_any _ HR.out).mono ?_; rintro e w' ⟨rfl, rfl⟩; rw [← Hs.out])
  go_loopg [17] n (fun kq jv wr => ∃ (j V1 b1 : Nat), jv = .int .i64 (j : Nat) ∧ j + kq = n ∧ b1 ≤ 64 ∧ b1 + 8 * kq ≤ 64 ∧ Hd (V1 = V + valB (xs.take j) * 2 ^ b ∧ b1 = b + 8 * j) ∧ Rd wr g V1 b1 t ∧ Fr w wr [g])
  case atStart => exact ⟨0, V, b, rfl, by omega, by omega, by omega, ⟨by simp [valB], rfl⟩, HR.out, Fr.refl _ _⟩
  case round =>
    obtain ⟨j, V1, b1, rfl, hj, hb1, hb2, HE, hr1, hF⟩ := hrel
    have HR1 := Hd.mk hr1
    have HF := Hd.mk hF
    obtain ⟨c0, c1, c2⟩ := rd_cells hr1
    obtain ⟨f0, f1, f2⟩ := rd_free hr1
    by_cases hlt : j < n
    · obtain ⟨p, off, rfl, hp, hcell⟩ := (HS.out.frame hF (by intro k hk; simp; rintro rfl; exact hq hk)) (by simp [u8s]; omega)
      have hxj := HX.out (xs[j]'(by omega)) (List.getElem_mem _)
      obtain ⟨x, hx⟩ : ∃ x : Nat, xs[j]'(by omega) = (x : Int) := Int.eq_ofNat_of_zero_le hxj.1
      have hcj := (hcell j (by simp [u8s]; omega)).trans (by rw [u8s_get, List.getElem?_eq_getElem (by omega), hx])
      have hx255 : (x : Int) ≤ 255 := by omega
      have Hx := Hd.mk hx
      clear hr1 hF hcell hx hxj
      go_wp2
      go_region
      go_wp2
      go_roundg (gk - 1)
      case measure => omega
      case rel =>
        have hr := HR1.out
        obtain ⟨e1, e2⟩ := HE.out
        rw [bits_or hr.2.1 (by omega) (by omega)]
        refine ⟨j + 1, V1 + x * 2 ^ b1, b1 + 8, by go_num, by omega, by omega, by omega, ⟨?_, by omega⟩, ⟨?_, ?_, by omega⟩, ?_⟩
        · rw [valB_take xs j (by omega), Hx.out, Int.toNat_natCast, Nat.add_mul, ← Nat.add_assoc, ← e1, e2, Nat.pow_add, Nat.mul_assoc, Nat.mul_comm (2 ^ b)]
        · rw [drew_heap, show ((b1 + 8 : Nat) : Int) = (b1 : Int) + 8 from by omega]
          simpa using blk_set (blk_set hr.1 0 (.int .u64 ((V1 + x * 2 ^ b1 : Nat) : Int))) 1 (.int .i64 ((b1 : Int) + 8))
        · exact grow_lt hr.2.1 (by omega)
        · exact ((HF.out.setCell _ (.inl (by simp))).setCell _ (.inl (by simp))).drew
    · clear hr1 hF
      go_wp2
      go_ret
      obtain rfl : j = n := by omega
      obtain ⟨rfl, rfl⟩ := HE.out
      exact ⟨rfl, HR1.out, HF.out⟩
end
end Go.Proofs.YtlfckpmdmkccjaaGreat.Bits
/- The encoder: made, asked, laid down. Conditions: none but the slice's. -/
set_option linter.unusedVariables false
set_option linter.unusedSimpArgs false
set_option maxRecDepth 100000
namespace Go.Proofs.YtlfckpmdmkccjaaGreat.Code
open Go.RowKit Go.IntWalk Go.Proofs.YtlfckpmdmkccjaaGreat.Lib Go.Proofs.YtlfckpmdmkccjaaGreat.Ints Go.Proofs.YtlfckpmdmkccjaaGreat.Num Go.Proofs.YtlfckpmdmkccjaaGreat.Bits

/-- a whole row is laid over a row of the same length -/
theorem wpl_copy_all {ops : Array Oper} {rest : List Oper} {o : Oper} {a : Act} {w : World} {Q : Exit → Act → World → Prop} (hgd : o.guard = none) (d s : Operand)
    (ho : o.op = .call { callee := .builtin .copy, args := #[d, s], argTypes := #[65, 65] })
    (g n cap : Nat) (A : Option Addr) (c : Nat) (xs ys : List Value) (q : Option Nat) (hd : a.eval d = .slice (some ⟨g, 0, none⟩) n cap) (hs : a.eval s = .slice A n c)
    (hO : w.ownsRow 0 3 1 (.slice (some ⟨g, 0, none⟩) n cap) n ys) (hn : xs.length = n) (hS : Sl w A xs q) (h1 : ∀ v ∈ xs, v.oneCell' = true)
    (h : ∀ w', w'.ownsRow 0 3 1 (.slice (some ⟨g, 0, none⟩) n cap) n xs → Fr w w' [g] → wpList Tryz.prog ops Q rest (a.put o.dst (goInt n)) w') :
    wpList Tryz.prog ops Q (o :: rest) a w := by
  subst hn
  have hsz : (Tryz.prog.info? 3).map (·.size) = some 1 := by kernel_rfl
  by_cases h0 : xs.length = 0
  · obtain rfl : xs = [] := List.eq_nil_of_length_eq_zero h0
    have hy : ys = [] := List.eq_nil_of_length_eq_zero (by have := hO.1; simpa using this)
    subst hy
    exact wpList_copy_nothing hgd d s _ _ ho 3 Tryz.underlying65 hsz _ A 0 cap 0 c hd hs rfl (h w hO (Fr.refl w _))
  · obtain ⟨bd, off, rfl, _, hcc⟩ := hS (by omega)
    obtain ⟨hl, hrow⟩ := hO
    rcases hrow with ⟨e, _⟩ | ⟨g', cap', cur, e, hb, hg, hnc, hcm, hcs, hcur⟩
    · cases e
    · injection e with e1 _ e2
      injection e1 with e1
      injection e1 with e1 _ _
      subst e1 e2
      refine wpList_copy_own hgd d s _ _ ho 3 Tryz.underlying65 hsz g 0 xs.length cap ⟨bd, off, none⟩ xs.length c hd hs cur _ hg xs (by simp) (fun j v hv => ?_) (by omega) h1 (h _ ⟨by omega, .inr ⟨g, cap, _, rfl, hb, setRow_heap _ _ _ _ _ _ hg, hnc, hcm, ?_, ?_⟩⟩ (Fr.setRow (Fr.refl w _) _ (.inl (by simp))))
      · have hj : j < xs.length := by
          rcases Nat.lt_or_ge j xs.length with h | h
          · exact h
          · rw [List.getElem?_eq_none h] at hv; cases hv
        have hadd : (⟨bd, off, none⟩ : Addr).add j = ⟨bd, off + j, none⟩ := by unfold Addr.add; split <;> simp_all
        rw [hadd, hcc j hj, hv]
      · simp; omega
      · simp
/-- an encoder -/
structure En (w : World) (g ga da : Nat) (B : Option Addr) (db : Nat) (lens : List Int) (L : List Nat) : Prop where
  blk : w.heap[g]? = some (.cells #[.slice (some ⟨ga, 0, none⟩) lens.length da, .slice B L.length db] 252 (0, 0))
  lens_ : w.ownsRow 0 3 1 (.slice (some ⟨ga, 0, none⟩) lens.length da) lens.length (i64s lens)
  codes_ : w.ownsRow 0 3 1 (.slice B L.length db) L.length (nv L)
  ok : check lens = 0
  L_ : L = codes lens
theorem En.frame {w w' : World} {g ga da db : Nat} {B : Option Addr} {lens : List Int} {L : List Nat} (h : En w g ga da B db lens L) {F : List Nat} (hf : Fr w w' F) (hF : g ∉ F ∧ ga ∉ F ∧ ∀ y, (Value.slice B L.length db).ownBlock = some y → y ∉ F) : En w' g ga da B db lens L :=
  ⟨hf.blk h.blk hF.1, own_frame h.lens_ hf (fun y hy => by cases hy; exact hF.2.1), own_frame h.codes_ hf hF.2.2, h.ok, h.L_⟩
set_option maxHeartbeats 8000000 in
theorem newenc_any (w : World) (A : Option Addr) (n c : Nat) (lens : List Int) (q : Option Nat) (hS : SlArg w A n c (i64s lens) q) (r : Int) (hr : r = check lens) :
    Calls Tryz.prog 125 #[.slice A n c] w fun e w' => ∃ p, e = .returned (.tuple #[.pointer p, .int .i64 r]) ∧ Fr w w' [] ∧ (r ≠ 0 → p = none) ∧ (r = 0 → ∃ g ga da B db L, p = some ⟨g, 0, none⟩ ∧ En w' g ga da B db lens L ∧ w.heap.size ≤ g ∧ w.heap.size ≤ ga ∧ (∀ y, (Value.slice B L.length db).ownBlock = some y → w.heap.size ≤ y)) := by
  obtain ⟨j0, hj0, hj1, hj2, hj3⟩ := info_parts infoI64
  have HS := Hd.mk hS
  have HR := Hd.mk hr
  have hl : lens.length = n := by have := hS.len; simpa [i64s] using this
  clear hS hr
  obtain ⟨L, hL⟩ : ∃ L, L = codes lens := ⟨_, rfl⟩
  have HL := Hd.mk hL
  clear hL
  go_enter Tryz.func125, Tryz.ntmps125
  go_wp2_with (fail)
  refine (codes_any w A n c lens q HS.out r L HR.out HL.out).mono ?_
  rintro e w1 ⟨A1, d1, rfl, h1, h2, h3⟩
  have O1 := Hd.mk h1
  have B1 := Hd.mk h2
  have F1 := Hd.mk h3
  clear h1 h2 h3
  by_cases hr0 : r = 0
  · subst hr0
    have hn288 : n ≤ 288 := by
      have hb : bad lens = false := by
        cases hb : bad lens with
        | false => rfl
        | true => have := HR.out; unfold check at this; rw [if_pos hb] at this; cases this
      have := (bad_false hb).1
      omega
    go_upto_region 5 with (refine wpList_make_full _ rfl _ _ 65 rfl 0 3 j0 (.int .i64 0) 1 Tryz.underlying65 hj0 hj1 hj2 .i64 .i64 _ _ n rfl rfl rfl rfl (by rw [hj3]; omega) (by unfold maxLen; omega) (Nat.zero_le _) ?_; intro w2 hown1 hgrow1; have O2 := Hd.mk hown1; have F2 := Hd.mk (F1.out.grown hgrow1 (by simp)); have O12 := Hd.mk (own_frame O1.out ((Fr.refl w1 []).grown hgrow1 (by simp)) (by simp)); clear hown1 hgrow1)
    have hg1 : w.heap.size ≤ w1.heap.size := F1.out.size
    have L1 : Hd (∀ y, (Value.slice A1 L.length d1).ownBlock = some y → y < w1.heap.size) := ⟨fun y hy => own_lt O1.out hy⟩
    generalize w1.heap.size = ga at *
    go_upto_region 6 with (refine wpl_copy_all rfl _ _ rfl ga n n A c (i64s lens) _ q rfl rfl O2.out (by rw [i64s_length]; omega) (HS.out.sl.frame F2.out (by simp)) (i64s_one lens) ?_; intro w3 hO3 hF3; have O3 := Hd.mk hO3; have F3 := Hd.mk (F2.out.trans hF3 (by intro x hx hm; simp at hm; omega)); have O13 := Hd.mk (own_frame O12.out hF3 (fun y hy hm => by have := L1.out y hy; simp at hm; omega)); clear hO3 hF3)
    have hbn : Hd (w.heap.size ≤ w3.heap.size) := ⟨F3.out.size⟩
    have hE : En (w3.alloc (.cells #[.slice (some ⟨ga, 0, none⟩) n n, .slice A1 L.length d1] 252)) w3.heap.size ga n A1 d1 lens L := by
      have o1 := O3.out.alloc (.cells #[.slice (some ⟨ga, 0, none⟩) n n, .slice A1 L.length d1] 252)
      have o2 := O13.out.alloc (.cells #[.slice (some ⟨ga, 0, none⟩) n n, .slice A1 L.length d1] 252)
      subst hl
      exact ⟨blk_new w3 _, o1, o2, HR.out.symm, HL.out⟩
    have HE := Hd.mk hE
    clear hE
    simp only [Act.put]
    go_wp2
    go_ret2
    exact ⟨_, rfl, F3.out.alloc _, _, rfl, ga, n, A1, d1, L, HE.out, hbn.out, hg1, B1.out⟩
  · have hne : (r != 0) = true := by simpa using hr0
    go_wp2
    go_ret2
    exact ⟨none, rfl, F1.out, fun _ => rfl, fun h => absurd h hr0⟩
section
variable {w : World} {g ga da db : Nat} {B : Option Addr} {lens : List Int} {L : List Nat}
set_option maxHeartbeats 8000000 in
theorem cost_any (s : Int) (n : Nat) (hn : n = bitsOf lens s) (hE : En w g ga da B db lens L) :
    Calls Tryz.prog 144 #[.pointer (some ⟨g, 0, none⟩), .int .i64 s] w fun e w' => e = .returned (.int .i64 (n : Nat)) ∧ w = w' := by
  have c0 := blk_cell hE.blk 0
  simp only [List.getElem?_toArray, List.getElem?_cons_zero, List.getElem?_cons_succ] at c0
  have HE := Hd.mk hE
  have HN := Hd.mk hn
  clear hE hn
  obtain ⟨ll, hll⟩ : ∃ ll, ll = lens.length := ⟨_, rfl⟩
  rw [← hll] at c0
  have HLL := Hd.mk hll
  clear hll
  go_enter Tryz.func144, Tryz.ntmps144
  by_cases h0 : s < 0
  · obtain rfl : n = 0 := by rw [HN.out]; unfold bitsOf; rw [if_neg (by omega)]
    go_wp2
    go_ret
    exact ⟨rfl, rfl⟩
  · by_cases h1 : s ≥ (ll : Nat)
    · obtain rfl : n = 0 := by rw [HN.out]; unfold bitsOf; rw [if_neg (by have := HLL.out; omega)]
      go_wp2
      go_ret
      exact ⟨rfl, rfl⟩
    · obtain ⟨i, rfl⟩ := Int.eq_ofNat_of_zero_le (show 0 ≤ s by omega)
      have hi : i < lens.length := by have := HLL.out; omega
      have hall := (bad_false (check_zero HE.out.ok).1).2 lens[i] (List.getElem_mem hi)
      have hn2 : lens[i] = (n : Int) := by
        rw [HN.out]
        unfold bitsOf
        rw [if_pos (by omega), List.getD_eq_getElem?_getD, Int.toNat_natCast, List.getElem?_eq_getElem hi]
        simp only [Option.getD_some]
        omega
      have kc := (HE.out.lens_.cellAt i (by omega)).trans (i64s_get lens i)
      rw [List.getElem?_eq_getElem hi, hn2] at kc
      simp only [Option.map_some] at kc
      clear hall hn2
      go_wp2
      go_ret
      exact ⟨rfl, rfl⟩
theorem put_none (s : Int) (h : bitsOf lens s = 0) (gw : Nat) (hE : En w g ga da B db lens L) :
    Calls Tryz.prog 126 #[.pointer (some ⟨g, 0, none⟩), .pointer (some ⟨gw, 0, none⟩), .int .i64 s] w fun e w' => e = .returned (.int .i64 53) ∧ w = w' := by
  have c0 := blk_cell hE.blk 0
  simp only [List.getElem?_toArray, List.getElem?_cons_zero, List.getElem?_cons_succ] at c0
  have HE := Hd.mk hE
  have HN := Hd.mk h
  clear hE h
  have n0 := fun w ca => Lib.run_eql_slice_nil (P := Tryz.prog) w 65 3 (some ⟨ga, 0, none⟩) lens.length ca 0 0 Tryz.underlying65
  go_enter Tryz.func126, Tryz.ntmps126
  go_wp2_with (fail)
  refine (cost_any s 0 HN.out.symm HE.out).mono ?_
  rintro e w1 ⟨rfl, rfl⟩
  go_wp2
  go_ret
  exact ⟨rfl, rfl⟩
theorem put_some {T : TypeId} {N m : Nat} {q : Option Nat} (s : Int) (n cd : Nat) (hn : n = bitsOf lens s) (hcd : cd = codeOf lens s) (h : n ≠ 0) (gw : Nat) (hE : En w g ga da B db lens L) (hm : m + 15 ≤ 1125899906842624) (hT : Tl w gw T N m q) :
    Calls Tryz.prog 126 #[.pointer (some ⟨g, 0, none⟩), .pointer (some ⟨gw, 0, none⟩), .int .i64 s] w fun e w' => e = .returned (.int .i64 0) ∧ ∃ q', Tl w' gw T (N + rv cd n * 2 ^ m) (m + n) q' ∧ Aft w q q' ∧ Fr w w' (gw :: q.toList) := by
  have c0 := blk_cell hE.blk 0
  have c1 := blk_cell hE.blk 1
  simp only [List.getElem?_toArray, List.getElem?_cons_zero, List.getElem?_cons_succ] at c0 c1
  obtain ⟨k1, k2, k3, k4, k5, k6⟩ := bitsOf_fits hE.ok (s := s) (by rw [← hn]; exact h)
  rw [← hn] at k3 k4
  rw [← hcd] at k3 k6
  obtain ⟨i, rfl⟩ := Int.eq_ofNat_of_zero_le k1
  rw [Int.toNat_natCast] at k6
  have hL := hE.L_
  have hLl : L.length = lens.length := by rw [hL, codes_len hE.ok]
  have hi : i < L.length := by omega
  have hlen0 : 0 < L.length := by omega
  obtain ⟨gb, db', eb, hdb⟩ := own_some hE.codes_ hlen0
  injection eb with eb1 _ eb2
  subst eb1 eb2
  have kc := (hE.codes_.cellAt i (by omega)).trans (show (nv L)[i]? = some (.int .i64 (cd : Nat)) from by
    unfold nv
    rw [i64s_get, List.getElem?_map, hL, k6]
    rfl)
  have hcd2 : cd < 2 ^ 15 := Nat.lt_of_lt_of_le k3 (Nat.pow_le_pow_right (by omega) k4)
  have hm0 : mayN cd (n : Int) = 0 := mayN_ok (by omega) (by omega) (by simpa using k3)
  have HE := Hd.mk hE
  have HN := Hd.mk hn
  have HM := Hd.mk hm0
  have HT := Hd.mk hT
  have hiL : (i : Int) < (L.length : Nat) := by omega
  clear hE hn hm0 hT hcd k1 k2 k3 k5 k6 hL hLl
  generalize L.length = ln at *
  have n0 := fun w ca => Lib.run_eql_slice_nil (P := Tryz.prog) w 65 3 (some ⟨ga, 0, none⟩) lens.length ca 0 0 Tryz.underlying65
  go_enter Tryz.func126, Tryz.ntmps126
  go_wp2_with (fail)
  refine (cost_any (i : Int) n HN.out HE.out).mono ?_
  rintro e w1 ⟨rfl, rfl⟩
  have hnz : ((n : Int) == 0) = false := by simp; omega
  go_wp2_with (fail)
  refine (turned_ok (cd : Int) (n : Int) cd w rfl HM.out (by rw [Int.toNat_natCast]; omega) HT.out).mono ?_
  rintro e w2 ⟨rfl, q', h1, h2, h3⟩
  rw [Int.toNat_natCast] at h1
  have H1 := Hd.mk (And.intro h1 (And.intro h2 h3))
  clear h1 h2 h3
  go_wp2
  go_ret
  exact ⟨rfl, q', H1.out⟩
end
end Go.Proofs.YtlfckpmdmkccjaaGreat.Code
/- Chapter 09: the plain lengths. No condition. -/
set_option linter.unusedVariables false
set_option linter.unusedSimpArgs false
set_option maxRecDepth 100000
namespace Go.Proofs.YtlfckpmdmkccjaaGreat.Blk
open Go.RowKit Go.Proofs.YtlfckpmdmkccjaaGreat.Lib Go.Proofs.YtlfckpmdmkccjaaGreat.Ints
def fill (f : Nat → Int) (n j : Nat) : List Int := (List.range n).map fun i => if i < j then f i else 0
theorem fill_len (f : Nat → Int) (n j : Nat) : (fill f n j).length = n := by simp [fill]
theorem fill_zero (f : Nat → Int) (n : Nat) : (madeCells (Value.int .i64 0).cells (n * 1)).toList = i64s (fill f n 0) := by
  rw [show (Value.int .i64 0).cells = #[Value.int .i64 0] from rfl, toList_madeCells_one (Value.int .i64 0) (n * 1), Nat.mul_one]
  apply List.ext_getElem?
  intro k
  by_cases h : k < n <;> simp [i64s, fill, h]
theorem fill_set (f : Nat → Int) (n j : Nat) : (i64s (fill f n j)).set j (.int .i64 (f j)) = i64s (fill f n (j + 1)) := by
  apply List.ext_getElem?
  intro k
  by_cases h : k < n
  · by_cases e : j = k
    · subst e
      simp [i64s, fill, h]
    · rw [List.getElem?_set_ne e]
      simp only [i64s, fill, List.getElem?_map, List.getElem?_range h, Option.map_some]
      by_cases h2 : k < j
      · rw [if_pos h2, if_pos (by omega)]
      · rw [if_neg h2, if_neg (by omega)]
  · rw [List.getElem?_eq_none (by simp [i64s, fill]; omega), List.getElem?_eq_none (by simp [i64s, fill]; omega)]
def litF (i : Nat) : Int := if i < 144 then 8 else if i < 256 then 9 else if i < 280 then 7 else 8
def plainLit : List Int := fill litF 288 288
def plainDist : List Int := fill (fun _ => 5) 32 32
def PlPost (w w' : World) (e : Ending) : Prop := ∃ g h, e = .returned (.tuple #[.slice (some ⟨g, 0, none⟩) 288 288, .slice (some ⟨h, 0, none⟩) 32 32]) ∧ w'.ownsRow 0 3 1 (.slice (some ⟨g, 0, none⟩) 288 288) 288 (i64s plainLit) ∧ w'.ownsRow 0 3 1 (.slice (some ⟨h, 0, none⟩) 32 32) 32 (i64s plainDist) ∧ w.heap.size ≤ g ∧ w.heap.size ≤ h ∧ g ≠ h ∧ Fr w w' []
set_option maxHeartbeats 8000000 in
theorem plainLens_any (w : World) : Calls Tryz.prog 28 #[] w fun e w' => PlPost w w' e := by
  obtain ⟨j0, hj0, hj1, hj2, hj3⟩ := info_parts infoI64
  go_enter Tryz.func28, Tryz.ntmps28
  go_upto_region 2 with (refine wpList_make_full _ rfl _ _ 65 rfl 0 3 j0 (.int .i64 0) 1 Tryz.underlying65 hj0 hj1 hj2 .i64 .i64 _ _ 288 rfl rfl rfl rfl (by rw [hj3]; omega) (by unfold maxLen; omega) (Nat.zero_le _) ?_; intro w1 hown1 hgrow1; rw [fill_zero litF 288] at hown1; have O1 := Hd.mk hown1; have F1 : Hd (Fr w w1 []) := ⟨(Fr.refl w []).grown hgrow1 (by simp)⟩; clear hown1 hgrow1)
  have hg1 : w.heap.size ≤ w.heap.size := Nat.le_refl _
  obtain ⟨g, hg⟩ : ∃ g, g = w.heap.size := ⟨_, rfl⟩
  rw [← hg] at O1 ⊢
  have hgb : w.heap.size ≤ g := by omega
  clear hg hg1
  go_wp2
  go_loopg [9] 288 (fun kq jv wr => ∃ j : Nat, jv = .int .i64 (j : Nat) ∧ j + kq = 288 ∧ Hd (wr.ownsRow 0 3 1 (.slice (some ⟨g, 0, none⟩) 288 288) 288 (i64s (fill litF 288 j))) ∧ Hd (Fr w wr []))
  case atStart => exact ⟨0, rfl, by omega, O1, F1⟩
  case round =>
    obtain ⟨j, rfl, hj, HO, HF⟩ := hrel
    by_cases h1 : j < 288
    · have HO2 := Hd.mk ((HO.out.stored j (.int .i64 (litF j))).1)
      rw [fill_set] at HO2
      obtain ⟨u0, y0, f0⟩ := Code.own_any HO.out (j := j) (by omega)
      have HL : Hd (litF j = if j < 144 then 8 else if j < 256 then 9 else if j < 280 then 7 else 8) := ⟨rfl⟩
      by_cases h2 : j < 144
      · rw [HL.out, if_pos h2] at HO2
        go_wp2
        go_roundg (gk - 1)
        case measure => omega
        case rel => exact ⟨j + 1, by go_num, by omega, HO2, ⟨HF.out.setCell _ (.inr hgb)⟩⟩
      by_cases h3 : j < 256
      · rw [HL.out, if_neg h2, if_pos h3] at HO2
        go_wp2
        go_roundg (gk - 1)
        case measure => omega
        case rel => exact ⟨j + 1, by go_num, by omega, HO2, ⟨HF.out.setCell _ (.inr hgb)⟩⟩
      by_cases h4 : j < 280
      · rw [HL.out, if_neg h2, if_neg h3, if_pos h4] at HO2
        go_wp2
        go_roundg (gk - 1)
        case measure => omega
        case rel => exact ⟨j + 1, by go_num, by omega, HO2, ⟨HF.out.setCell _ (.inr hgb)⟩⟩
      · rw [HL.out, if_neg h2, if_neg h3, if_neg h4] at HO2
        go_wp2
        go_roundg (gk - 1)
        case measure => omega
        case rel => exact ⟨j + 1, by go_num, by omega, HO2, ⟨HF.out.setCell _ (.inr hgb)⟩⟩
    · obtain rfl : j = 288 := by omega
      go_upto_region 14 with (refine wpList_make_full _ rfl _ _ 65 rfl 0 3 j0 (.int .i64 0) 1 Tryz.underlying65 hj0 hj1 hj2 .i64 .i64 _ _ 32 rfl rfl rfl rfl (by rw [hj3]; omega) (by unfold maxLen; omega) (Nat.zero_le _) ?_; intro w2 hown1 hgrow1; rw [fill_zero (fun _ => 5) 32] at hown1; have O2 := Hd.mk hown1; have F2 : Hd (Fr w w2 []) := ⟨HF.out.grown hgrow1 (by simp)⟩; have G2 := Hd.mk (own_frame HO.out ((Fr.refl _ []).grown hgrow1 (by simp)) (by simp)); clear hown1 hgrow1)
      obtain ⟨h, hh⟩ : ∃ h, h = wr.heap.size := ⟨_, rfl⟩
      have hne : g ≠ h := by have := own_lt HO.out (k := g) rfl; omega
      have hhb : w.heap.size ≤ h := by have := HF.out.size; omega
      rw [← hh] at O2 ⊢
      clear hh HO HF
      go_wp2
      go_loopg [37] 32 (fun kq jv wr => ∃ j : Nat, jv = .int .i64 (j : Nat) ∧ j + kq = 32 ∧ Hd (wr.ownsRow 0 3 1 (.slice (some ⟨g, 0, none⟩) 288 288) 288 (i64s plainLit)) ∧ Hd (wr.ownsRow 0 3 1 (.slice (some ⟨h, 0, none⟩) 32 32) 32 (i64s (fill (fun _ => 5) 32 j))) ∧ Hd (Fr w wr []))
      case atStart => exact ⟨0, rfl, by omega, G2, O2, F2⟩
      case round =>
        obtain ⟨j, rfl, hj, HG, HO, HF⟩ := hrel
        by_cases h1 : j < 32
        · have HO2 := Hd.mk ((HO.out.stored j (.int .i64 5)).1)
          rw [fill_set (fun _ => 5)] at HO2
          obtain ⟨u0, y0, f0⟩ := Code.own_any HO.out (j := j) (by omega)
          have HG2 := Hd.mk (own_setFar HG.out (a := ⟨h, j, none⟩) (.int .i64 5) (by simp [Value.ownBlock]; exact hne))
          go_wp2
          go_roundg (gk - 1)
          case measure => omega
          case rel => exact ⟨j + 1, by go_num, by omega, HG2, HO2, ⟨HF.out.setCell _ (.inr hhb)⟩⟩
        · obtain rfl : j = 32 := by omega
          go_wp2
          go_ret2
          exact ⟨g, h, rfl, HG.out, HO.out, hgb, hhb, hne, HF.out⟩
end Go.Proofs.YtlfckpmdmkccjaaGreat.Blk
/- Bytes, where the writer's texts are there: these have the names. No condition. -/

set_option maxRecDepth 100000
