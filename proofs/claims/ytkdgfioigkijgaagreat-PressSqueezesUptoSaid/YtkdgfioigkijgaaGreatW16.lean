import Derived.Test.YtkdgfioigkijgaaGreatW01
import Derived.Test.YtkdgfioigkijgaaGreatW02
import Derived.Test.YtkdgfioigkijgaaGreatW03
import Derived.Test.YtkdgfioigkijgaaGreatW04
import Derived.Test.YtkdgfioigkijgaaGreatW05
import Derived.Test.YtkdgfioigkijgaaGreatW06
import Derived.Test.YtkdgfioigkijgaaGreatW07
import Derived.Test.YtkdgfioigkijgaaGreatW08
import Derived.Test.YtkdgfioigkijgaaGreatW09
import Derived.Test.YtkdgfioigkijgaaGreatW10
import Derived.Test.YtkdgfioigkijgaaGreatW11
import Derived.Test.YtkdgfioigkijgaaGreatW12
import Derived.Test.YtkdgfioigkijgaaGreatW13
import Derived.Test.YtkdgfioigkijgaaGreatW14
import Derived.Test.YtkdgfioigkijgaaGreatW15
import Derived.BigRegion
import Derived.BigQuiet
import Derived.Deep.QuietTactic
import Derived.Deep.LoopGhost
import Derived.Deep.DeepCutAuto
import Derived.KernelRfl
import Derived.Deep.RegionLaw
import Derived.Outline
import Derived.Maps.Own
import Derived.Maps.OwnOps
import Derived.Maps.OwnSet
import Derived.Maps.Views
import Derived.DeepKeys4
import Derived.Laws.Cover3
set_option linter.unusedVariables false
set_option linter.unusedSimpArgs false
set_option maxRecDepth 100000
namespace Go.Proofs.YtkdgfioigkijgaaGreat.Prs
open Go.RowKit Go.Shelf Go.Proofs.YtkdgfioigkijgaaGreat.Lib Go.Proofs.YtkdgfioigkijgaaGreat.Ints Go.Proofs.YtkdgfioigkijgaaGreat.Lz Go.Proofs.YtkdgfioigkijgaaGreat.Num Go.Proofs.YtkdgfioigkijgaaGreat.Bits Go.Proofs.YtkdgfioigkijgaaGreat.Blk
def blkJ (l : List Tok) (d : List Int) (most j m : Nat) : List (Nat × Nat) :=
  blockP (kdN (btN l most j) (tks l most j)) m (decide (atN l.length most j + lenN l.length most j = l.length)) ((d.drop (posN l most j)).take (szN l most j)) (tks l most j)
def PBx (l : List Tok) (d : List Int) (most : Nat) (js : List Nat) : List (Nat × Nat) := js.foldl (fun P j => P ++ blkJ l d most j (totOf P)) []
theorem PBx_snoc (l : List Tok) (d : List Int) (most : Nat) (js : List Nat) (j : Nat) : PBx l d most (js ++ [j]) = PBx l d most js ++ blkJ l d most j (totOf (PBx l d most js)) := by
  unfold PBx
  rw [List.foldl_append]
  rfl
theorem blk_le {k : Int} {m : Nat} {b : Bool} {data : List Int} {l : List Tok} (hl : LitB l) (h : wrErr k data.length l = 0) : totOf (blockP k.toNat m b data l) ≤ 4000000 := by
  unfold wrErr at h
  split at h
  · cases h
  split at h
  · rename_i h1 h2; exact absurd h h2
  rename_i h1 h2
  have hz := mayB_zero (Decidable.not_not.1 h2)
  split at h
  · cases h
  split at h
  · cases h
  rename_i h3 h4
  have hds : data.length = Lz.sizeOf l := Decidable.not_not.1 h4
  obtain ⟨j, rfl⟩ := Int.eq_ofNat_of_zero_le (show 0 ≤ k by omega)
  have hc : j = 0 ∨ j = 1 ∨ j = 2 := by omega
  have hb : ∀ lit dist, Code.check lit = 0 → Code.check dist = 0 → totOf (bodyP lit dist l) ≤ 48 * 65536 + 15 := by
    intro lit dist h5 h6
    have := toksP_le h5 h6 l hz.2 hl
    have h7 := part_le h5 256
    unfold bodyP
    rw [totOf_snoc2]
    have := hz.1
    omega
  rw [Int.toNat_natCast]
  unfold blockP
  rw [totOf_app]
  have h8 : totOf [(lastN b, 1), (j, 2)] = 3 := rfl
  rcases hc with rfl | rfl | rfl
  · have h9 : ¬ 65535 < Lz.sizeOf l := fun h => h3 ⟨rfl, h⟩
    have : totOf (kindP 0 (m + 3) data l) = (8 - (m + 3) % 8) % 8 + (16 + 16) + 8 * data.length := by
      unfold kindP
      rw [if_pos rfl]
      unfold storedP
      rw [totOf_app, bytesP_tot]
      simp only [totOf]
    omega
  · have : kindP 1 (m + 3) data l = bodyP plainLit plainDist l := rfl
    rw [this]
    have := hb _ _ plainLit_check plainDist_check
    omega
  · have : kindP 2 (m + 3) data l = Head.headP (ownLit l) (ownDist l) ++ bodyP (ownLit l) (ownDist l) l := rfl
    rw [this, totOf_app]
    have := hb _ _ (ownLit_check l) (ownDist_check l)
    have := headP_tot l
    omega
theorem piece_ok {l : List Tok} {d : List Int} {most : Nat} (hr : ∀ t ∈ l, right t = true) (hl : LitB l) (hs : Lz.sizeOf l = d.length) (hm2 : most ≤ 65536) (j : Nat) :
    kdN (btN l most j) (tks l most j) < 3 ∧ ((d.drop (posN l most j)).take (szN l most j)).length = szN l most j ∧ wrErr ((kdN (btN l most j) (tks l most j) : Nat) : Int) (szN l most j) (tks l most j) = 0 ∧ mayB (tks l most j) = 0 ∧ LitB (tks l most j) := by
  have h1 := tks_may hr hm2 j
  have h2 := tks_lit hl most j
  obtain ⟨h3, h4, _⟩ := pick_some (m := btN l most j) h1 h2
  have h5 := pos_le l most (j + 1)
  rw [pos_succ, hs] at h5
  refine ⟨h3, by rw [List.length_take, List.length_drop]; omega, ?_, h1, h2⟩
  unfold wrErr
  rw [if_neg (by omega), if_neg (by rw [h1]; simp), if_neg, if_neg (by unfold szN; simp)]
  rintro ⟨h6, h7⟩
  have h8 : kdN (btN l most j) (tks l most j) = 0 := by omega
  rw [h8] at h4
  unfold costK at h4
  rw [if_pos rfl, if_pos h7] at h4
  cases h4
theorem blkJ_le {l : List Tok} {d : List Int} {most : Nat} (hr : ∀ t ∈ l, right t = true) (hl : LitB l) (hs : Lz.sizeOf l = d.length) (hm2 : most ≤ 65536) (j m : Nat) : totOf (blkJ l d most j m) ≤ 4000000 := by
  obtain ⟨h1, h2, h3, h4, h5⟩ := piece_ok hr hl hs hm2 j
  have h := blk_le (k := ((kdN (btN l most j) (tks l most j) : Nat) : Int)) (m := m) (b := decide (atN l.length most j + lenN l.length most j = l.length)) (data := (d.drop (posN l most j)).take (szN l most j)) h5 (by rw [h2]; exact h3)
  rw [Int.toNat_natCast] at h
  exact h
theorem blkJ_tot {l : List Tok} {d : List Int} {most : Nat} (hr : ∀ t ∈ l, right t = true) (hl : LitB l) (hs : Lz.sizeOf l = d.length) (hm2 : most ≤ 65536) (j : Nat) : totOf (blkJ l d most j (btN l most j)) = csN (btN l most j) (tks l most j) := by
  obtain ⟨h1, h2, h3, h4, h5⟩ := piece_ok hr hl hs hm2 j
  obtain ⟨g3, g4, g5, g6, g7⟩ := pick_some (m := btN l most j) h4 h5
  have h := blockP_bits (m := btN l most j) (b := decide (atN l.length most j + lenN l.length most j = l.length)) (data := (d.drop (posN l most j)).take (szN l most j)) h1 h4 h5 (by rw [h2]; rfl) g4
  rw [g6] at h
  unfold blkJ
  omega
theorem PBx_tot {l : List Tok} {d : List Int} {most : Nat} (hr : ∀ t ∈ l, right t = true) (hl : LitB l) (hs : Lz.sizeOf l = d.length) (hm2 : most ≤ 65536) : ∀ J, totOf (PBx l d most (List.range J)) = btN l most J
  | 0 => rfl
  | J + 1 => by
    rw [List.range_succ, PBx_snoc, totOf_app, PBx_tot hr hl hs hm2 J, blkJ_tot hr hl hs hm2 J]
    rfl
structure WS (w : World) (gw gb gt gd gm : Nat) (A : Option Addr) (c : Nat) (l : List Tok) (p : Option Nat) (D : Option Addr) (cd : Nat) (d : List Int) (pd : Option Nat) (most : Nat) (js : List Nat) (W : World) : Prop where
  tot : totOf (PBx l d most js) ≤ js.length * 4000000
  tl : ∃ q, Tl W gw 27 (numOf (PBx l d most js)) (totOf (PBx l d most js)) q ∧ ∀ y, q = some y → w.heap.size ≤ y
  box : W.heap[gb]? = some (.cells #[.pointer (some ⟨gw, 0, none⟩)] 47 (0, 0))
  fr : Fr w W []
  src : Src W gt gd gm A c l p D cd d pd most
  new : w.heap.size ≤ gw
  pw : ∀ b, b ∈ p.toList ++ pd.toList → b < w.heap.size
section
variable {w W W' : World} {gw gb gt gd gm c cd most : Nat} {A D : Option Addr} {l : List Tok} {d : List Int} {p pd : Option Nat} {js : List Nat}
theorem WS.keep (h : WS w gw gb gt gd gm A c l p D cd d pd most js W) {F : List Nat} (hf : Fr W W' F) (hF : ∀ k ∈ F, w.heap.size ≤ k ∧ ∃ o : Obj, W.heap[k]? = some o ∧ o.isCells = false) : WS w gw gb gt gd gm A c l p D cd d pd most js W' := by
  have hn : ∀ {k : Nat} {cs : Array Value} {t : TypeId} {fr : Nat × Nat}, W.heap[k]? = some (.cells cs t fr) → k ∉ F := fun hk hm => by
    obtain ⟨_, o, ho, hc⟩ := hF _ hm
    rw [hk] at ho
    cases ho
    cases hc
  obtain ⟨q, ht, hq⟩ := h.tl
  obtain ⟨⟨ds, hd⟩, hqq⟩ := tl_blk ht
  refine ⟨h.tot, ⟨q, ht.frame hf (hn hd) (fun y hy => by obtain ⟨es, he⟩ := hqq y hy; exact hn he), hq⟩, hf.blk h.box (hn h.box), h.fr.trans hf (fun x hx hm => absurd (hF x hm).1 (by omega)), h.src.keep (Kp.fr hf (fun b hb hm => ?_)), h.new, h.pw⟩
  simp only [List.mem_cons] at hb
  rcases hb with rfl | rfl | rfl | hb
  · exact hn h.src.bt hm
  · exact hn h.src.bd hm
  · exact hn h.src.bm hm
  · exact absurd (hF b hm).1 (by have := h.pw b hb; omega)
theorem WS.step (h : WS w gw gb gt gd gm A c l p D cd d pd most js W) {j : Nat} {q q' : Option Nat} (hq : ∀ y, q = some y → w.heap.size ≤ y)
    (hT : Tl W gw 27 (numOf (PBx l d most js)) (totOf (PBx l d most js)) q) (hP : Pw W W' gw q q' (numOf (PBx l d most js)) (totOf (PBx l d most js)) (blkJ l d most j (totOf (PBx l d most js)))) (hle : totOf (blkJ l d most j (totOf (PBx l d most js))) ≤ 4000000) (B : Nat) :
    KeepsFrom B W W' ∧ Kp gt gd gm p pd W W' ∧ WS w gw gb gt gd gm A c l p D cd d pd most (js ++ [j]) W' := by
  obtain ⟨⟨ds, hd⟩, hqq⟩ := tl_blk hT
  have hq2 : ∀ x, x ∈ gw :: q.toList → w.heap.size ≤ x := fun x hx => by
    rcases List.mem_cons.1 hx with rfl | hx
    · exact h.new
    · exact hq x (by simpa using hx)
  have hk : Kp gt gd gm p pd W W' := Kp.fr hP.fr (fun b hb => by
    simp only [List.mem_cons] at hb
    rcases hb with rfl | rfl | rfl | hb
    · exact tl_not hT h.src.bt (by decide) (by decide)
    · exact tl_not hT h.src.bd (by decide) (by decide)
    · exact tl_not hT h.src.bm (by decide) (by decide)
    · intro hm
      have := hq2 b hm
      have := h.pw b hb
      omega)
  refine ⟨⟨hP.fr.size, fun k o hB hk ho => ?_⟩, hk, ⟨?_, ⟨q', ?_, ?_⟩, tl_keep hT h.box (by decide) (by decide) hP.fr, h.fr.trans hP.fr (fun x hx hm => absurd (hq2 x hm) (by omega)), h.src.keep hk, h.new, h.pw⟩⟩
  · refine (hP.fr.block k (blk_lt hk) (fun hm => ?_)).trans hk
    rcases List.mem_cons.1 hm with rfl | hm
    · rw [hd] at hk; cases hk; cases ho
    · obtain ⟨es, he⟩ := hqq k (by simpa using hm)
      rw [he] at hk; cases hk; cases ho
  · rw [PBx_snoc, totOf_app, List.length_append, List.length_singleton, Nat.add_mul]
    have := h.tot
    omega
  · rw [PBx_snoc, totOf_app, numOf_app]
    exact hP.tl
  · intro y hy
    rcases hP.aft with e | ⟨k, e, hk⟩
    · exact hq y (by rw [← e]; exact hy)
    · rw [e] at hy; cases hy
      have := h.fr.size
      omega
end
theorem pieces_any (w : World) (D : Option Addr) (nd cd : Nat) (A : Option Addr) (n c most : Nat) :
    Calls Tryz.prog 69 #[.slice D nd cd, .slice A n c, .int .i64 (most : Nat)] w fun e w' => e = .returned (.func (.func 112) #[] #[.pointer (some ⟨w.heap.size + 1, 0, none⟩), .pointer (some ⟨w.heap.size, 0, none⟩), .pointer (some ⟨w.heap.size + 1 + 1, 0, none⟩)]) ∧
      w' = ((w.alloc (.cells #[.slice D nd cd] 23)).alloc (.cells #[.slice A n c] 41)).alloc (.cells #[.int .i64 (most : Nat)] 3) := by
  go_enter Tryz.func69, Tryz.ntmps69
  go_wp2
  go_ret
  exact ⟨rfl, rfl⟩
theorem u8s_take (d : List Int) (n : Nat) : u8s (d.take n) = (u8s d).take n := by unfold u8s; rw [List.map_take]
theorem Kp.put {gt gd gm : Nat} {p pd : Option Nat} {B : Nat} (hall : ∀ b, b ∈ gt :: gd :: gm :: (p.toList ++ pd.toList) → b < B) (W : World) (l : Nat) (o o' : Obj) (hl : B ≤ l) (h : W.heap[l]? = some o) (_ : o.isCells = false) (_ : o.isWalk = false) : Kp gt gd gm p pd W (W.putObj l o') :=
  ⟨by simp [World.putObj], fun b hb hlt => World.putObj_heap_other (by have := hall b hb; omega)⟩
theorem ptl_new (w : World) (T : TypeId) (hT : T ≠ 5) : Tl (w.alloc (.cells #[.slice none 0 0, .int .i64 0] T)) w.heap.size T 0 0 none :=
  ⟨_, blk_new _ _, own_nil _ _ _ _, rfl, by simp, hT⟩
theorem ws_start (w : World) (c cd most : Nat) (A D : Option Addr) (l : List Tok) (d : List Int) (p pd : Option Nat) (hA : Sl w A (tcells l) p) (hc : l.length ≤ c) (hcm : c ≤ maxLen) (hAn : A = none → l.length = 0 ∧ c = 0) (hD : Sl w D (u8s d) pd) (hdc : d.length ≤ cd) (hcd : cd ≤ maxLen) (hDn : D = none → d.length = 0 ∧ cd = 0)
    (hpw : ∀ b, b ∈ p.toList ++ pd.toList → b < w.heap.size) : WS w w.heap.size (w.heap.size + 1) (w.heap.size + 1 + 1 + 1) (w.heap.size + 1 + 1) (w.heap.size + 1 + 1 + 1 + 1) A c l p D cd d pd most []
      (((((w.alloc (.cells #[.slice none 0 0, .int .i64 0] 27)).alloc (.cells #[.pointer (some ⟨w.heap.size, 0, none⟩)] 47)).alloc (.cells #[.slice D d.length cd] 23)).alloc (.cells #[.slice A l.length c] 41)).alloc (.cells #[.int .i64 (most : Nat)] 3)) := by
  have hf : Fr w (((((w.alloc (.cells #[.slice none 0 0, .int .i64 0] 27)).alloc (.cells #[.pointer (some ⟨w.heap.size, 0, none⟩)] 47)).alloc (.cells #[.slice D d.length cd] 23)).alloc (.cells #[.slice A l.length c] 41)).alloc (.cells #[.int .i64 (most : Nat)] 3)) [] := (((((Fr.refl w []).alloc _).alloc _).alloc _).alloc _).alloc _
  have b1 := blk_new (w.alloc (.cells #[.slice none 0 0, .int .i64 0] 27)) (.cells #[.pointer (some ⟨w.heap.size, 0, none⟩)] 47)
  have b2 := blk_new ((w.alloc (.cells #[.slice none 0 0, .int .i64 0] 27)).alloc (.cells #[.pointer (some ⟨w.heap.size, 0, none⟩)] 47)) (.cells #[.slice D d.length cd] 23)
  have b3 := blk_new (((w.alloc (.cells #[.slice none 0 0, .int .i64 0] 27)).alloc (.cells #[.pointer (some ⟨w.heap.size, 0, none⟩)] 47)).alloc (.cells #[.slice D d.length cd] 23)) (.cells #[.slice A l.length c] 41)
  have b4 := blk_new ((((w.alloc (.cells #[.slice none 0 0, .int .i64 0] 27)).alloc (.cells #[.pointer (some ⟨w.heap.size, 0, none⟩)] 47)).alloc (.cells #[.slice D d.length cd] 23)).alloc (.cells #[.slice A l.length c] 41)) (.cells #[.int .i64 (most : Nat)] 3)
  have t0 : Tl (((((w.alloc (.cells #[.slice none 0 0, .int .i64 0] 27)).alloc (.cells #[.pointer (some ⟨w.heap.size, 0, none⟩)] 47)).alloc (.cells #[.slice D d.length cd] 23)).alloc (.cells #[.slice A l.length c] 41)).alloc (.cells #[.int .i64 (most : Nat)] 3)) w.heap.size 27 0 0 none :=
    (ptl_new w _ (by decide)).frame (F := []) (((((Fr.refl _ []).alloc _).alloc _).alloc _).alloc _) (by simp) (by simp)
  simp only [World.size_alloc] at b1 b2 b3 b4
  exact ⟨Nat.zero_le _, ⟨none, t0, by simp⟩, blk_alloc (blk_alloc (blk_alloc b1 _) _) _, hf,
    ⟨blk_alloc b3 _, blk_alloc (blk_alloc b2 _) _, b4, hA.frame hf (by simp), hc, hcm, hAn, hD.frame hf (by simp), hdc, hcd, hDn⟩, Nat.le_refl _, hpw⟩
theorem last_ok {T most : Nat} {xs : List (Ix T most)} (h : xs.map (fun x : Ix T most => x.1) = List.range xs.length) : xs.length = 1 ∨ (xs.length - 1) * most < T ∨ xs.length = 0 := by
  rcases Nat.eq_zero_or_pos xs.length with h0 | h0
  · exact .inr (.inr h0)
  · have hlt : xs.length - 1 < xs.length := by omega
    have h1 : (xs.map (fun x : Ix T most => x.1))[xs.length - 1]? = some (xs.length - 1) := by rw [h, List.getElem?_range hlt]
    rw [List.getElem?_map, List.getElem?_eq_getElem hlt] at h1
    have h2 : (xs[xs.length - 1]).1 = xs.length - 1 := by simpa using h1
    rcases (xs[xs.length - 1]).2 with h3 | h3
    · left; omega
    · rw [h2] at h3
      unfold atN at h3
      right; left; omega
set_option maxHeartbeats 16000000 in
theorem written_any (w : World) (c cd most : Nat) (A D : Option Addr) (l : List Tok) (d : List Int) (p pd : Option Nat) (hA : Sl w A (tcells l) p) (hc : l.length ≤ c) (hcm : c ≤ maxLen) (hAn : A = none → l.length = 0 ∧ c = 0) (hD : Sl w D (u8s d) pd) (hdc : d.length ≤ cd) (hcd : cd ≤ maxLen) (hDn : D = none → d.length = 0 ∧ cd = 0)
    (hpw : ∀ b, b ∈ p.toList ++ pd.toList → b < w.heap.size) (hby : ∀ x ∈ d, 0 ≤ x ∧ x ≤ 255) (hr : ∀ t ∈ l, right t = true) (hl : LitB l) (hs : Lz.sizeOf l = d.length) (hm1 : 1 ≤ most) (hm2 : most ≤ 65536) (hT : l.length ≤ 134217728) (hd : d.length ≤ 268435456) :
    CallsIn Fence.wide 6 Tryz.prog 68 #[.slice D d.length cd, .slice A l.length c, .int .i64 (most : Nat)] w fun e w' => ∃ (J : Nat) (v : Value), 1 ≤ J ∧ l.length ≤ J * most ∧ (J = 1 ∨ (J - 1) * most < l.length) ∧ e = .returned v ∧ w'.ownsRow 0 5 1 v ((btN l most J + 7) / 8) (u8s (bytesOf (numOf (PBx l d most (List.range J))) (btN l most J))) ∧ Aft w none v.ownBlock ∧ Fr w w' [] := by
  refine callsIn_of_wp_marks Tryz.func68 rfl trivial ?_ rfl
  simp only [Tryz.ntmps68, List.size_toArray, List.length_cons, List.length_nil, Nat.reduceAdd, Nat.reduceSub, Array.replicate_succ, Array.replicate_zero, List.push_toArray, List.append_toArray, List.nil_append, List.cons_append]
  gi_wp2_with (refine ⟨trivial, ?_⟩; gi_at_call 69; refine (callsIn_wide.2 (pieces_any _ D d.length cd A l.length c most)).mono ?_; rintro e w' ⟨rfl, rfl⟩)
  have HWS := ws_start w c cd most A D l d p pd hA hc hcm hAn hD hdc hcd hDn hpw
  generalize hW0 : World.alloc _ _ = W0
  rw [hW0] at HWS
  clear hW0
  have hp0 : ∀ b, b ∈ (w.heap.size + 1 + 1 + 1) :: (w.heap.size + 1 + 1) :: (w.heap.size + 1 + 1 + 1 + 1) :: (p.toList ++ pd.toList) → b < W0.heap.size := fun b hb => by
    simp only [List.mem_cons] at hb
    rcases hb with rfl | rfl | rfl | hb
    · exact blk_lt HWS.src.bt
    · exact blk_lt HWS.src.bd
    · exact blk_lt HWS.src.bm
    · exact Nat.lt_of_lt_of_le (hpw b hb) HWS.fr.size
  refine wpIn_rangeFunc_ownH rfl (by decide) (gf := 112) (lb := #[.pointer (some ⟨w.heap.size + 1 + 1 + 1, 0, none⟩), .pointer (some ⟨w.heap.size + 1 + 1, 0, none⟩), .pointer (some ⟨w.heap.size + 1 + 1 + 1 + 1, 0, none⟩)]) rfl trivial (enters_of Tryz.func112 (by kernel_rfl) rfl)
    (α := Ix l.length most) (encs := fun x => #[.agg (pcV A c l D cd most x.1)]) (Kp := Kp (w.heap.size + 1 + 1 + 1) (w.heap.size + 1 + 1) (w.heap.size + 1 + 1 + 1 + 1) p pd)
    (S := fun xs => xs.map (·.1) = List.range xs.length ∧ 1 ≤ xs.length ∧ l.length ≤ xs.length * most) (Sp := fun pre => pre.map (·.1) = List.range pre.length) (N := l.length + 1) (w0 := W0)
    (fun l0 J Jx W hW hJ _ hY h0 => pieces1_any l0 _ _ _ c cd most A D l d p pd J Jx W hJ hY (HWS.src.fr (Fr.ofBelow hW [])) h0 hr hl hs hm1 hm2 (by omega) hd)
    (fun h k => h.trans k) (Kp.put hp0) (Below.refl _ _) (fun _ => rfl)
    (fun (pre : List (Ix l.length most)) W => WS w w.heap.size (w.heap.size + 1) (w.heap.size + 1 + 1 + 1) (w.heap.size + 1 + 1) (w.heap.size + 1 + 1 + 1 + 1) A c l p D cd d pd most (List.map (fun x : Ix l.length most => x.1) pre) W)
    (fun _ _ _ => False)
    (fun s W W' row hs hg hr => hs.keep ((Fr.refl W row.toList).grown hg (fun k hk => .inl (by simp [hk]))) (fun k hk => by obtain ⟨h1, h2⟩ := hr k (by simpa using hk); exact ⟨Nat.le_trans HWS.fr.size h1, h2⟩))
    (fun _ _ _ _ _ hs _ _ => hs)
    HWS
    (fun x a' W => ∃ Bx, W.heap[Bx]? = some (.cells (pcV A c l D cd most x.1) 155 (0, 0)) ∧ a' = { tmps := #[.slice D d.length cd, .slice A l.length c, .int .i64 (most : Nat), undef, undef, undef, .slice none 0 0, .pointer (some ⟨w.heap.size + 1, 0, none⟩), .pointer (some ⟨Bx, 0, none⟩), .agg #[.slice none 0 0, .int .i64 0], .pointer (some ⟨w.heap.size, 0, none⟩), .slice D d.length cd, .slice A l.length c, .int .i64 (most : Nat), .func (.func 112) #[] #[.pointer (some ⟨w.heap.size + 1 + 1 + 1, 0, none⟩), .pointer (some ⟨w.heap.size + 1 + 1, 0, none⟩), .pointer (some ⟨w.heap.size + 1 + 1 + 1 + 1, 0, none⟩)], .agg (pcV A c l D cd most x.1), undef, undef, undef, undef, undef, undef, undef, undef, undef, undef, undef, undef, undef], defers := [] })
    (fun x a' _ X Y row hs hg hr => by
      obtain ⟨Bx, h1, h2⟩ := hs
      exact ⟨Bx, blk_grown hg h1 (fun e => by obtain ⟨_, o, ho, hc⟩ := hr Bx e.symm; rw [h1] at ho; cases ho; cases hc), h2⟩)
    ?assign ?body ?done ?stop
  case assign =>
    rintro l0 pre x W K hI hK
    simp only [pcV] at hK ⊢
    have SA := @Oper.semAt_some
    gi_wp2
    refine hK _ _ ((KeepsOthers.alloc _ _).from _) (Kp.fr ((Fr.refl W []).alloc _) (fun _ _ => by simp)) (hI.keep ((Fr.refl W []).alloc _) (fun _ h => by cases h)) ⟨W.heap.size, blk_new _ _, rfl⟩
  case body =>
    rintro l0 pre x a' W hl0 ⟨r, hr0⟩ hI ⟨Bx, hB, rfl⟩ hlt
    obtain ⟨j, hj⟩ := x
    simp only [pcV] at hB ⊢
    obtain ⟨q, hTl, hq⟩ := hI.tl
    obtain ⟨hk3, hdl, hwe, hmy, hlt2⟩ := piece_ok hr hl hs hm2 j
    have hpn := hI.tot
    rw [List.length_map] at hpn
    have hnw := hI.new
    have hpq : ∀ k, k ∈ p.toList ++ pd.toList → k ∉ w.heap.size :: q.toList ∧ k < W.heap.size := fun k hk => by
      have h1 := hpw k hk
      refine ⟨fun hm => ?_, Nat.lt_of_lt_of_le h1 hI.fr.size⟩
      rcases List.mem_cons.1 hm with h2 | h2
      · omega
      · have := hq k (by simpa using h2)
        omega
    have hsd := (dA_sl (most := most) hI.src.dat hdc hs j).take (szN l most j)
    rw [← u8s_take] at hsd
    have hst : Sl W (tA A c l most j) (tcells (tks l most j)) p := sl_take3 (tA_sl (most := most) hI.src.tok hc j)
    have CW := write3_any W _ hk3 (decide (atN l.length most j + lenN l.length most j = l.length)) (dA D cd l most j) (szN l most j) ((d.drop (posN l most j)).take (szN l most j)) pd hsd
      (fun hn => by rw [hdl]; have := dA_none (l := l) (most := most) hDn j hn; have h1 := pos_le l most (j + 1); rw [pos_succ, hs] at h1; omega)
      (fun y hy => hby y (List.mem_of_mem_drop (List.mem_of_mem_take hy))) (by rw [hdl]; have h1 := pos_le l most (j + 1); rw [pos_succ, hs] at h1; omega)
      (tA A c l most j) (lenN l.length most j) (lenN l.length most j) (tks l most j) p (tks_len l most j) hst (by have := tks_len l most j; have := at_le l.length most j; unfold lenN; omega) hlt2
      w.heap.size _ _ q hTl (fun k hk => hpq k (by simp [hk])) (fun k hk => hpq k (by simp [hk])) (by omega) 0 (by rw [hdl]; exact hwe.symm)
    rw [hdl] at CW
    have c0 := blk_cell hI.box 0
    have c1 := blk_cell hB 0
    have c2 := blk_cell hB 4
    have c3 := blk_cell hB 5
    have c4 := blk_cell hB 6
    simp only [List.getElem?_toArray, List.getElem?_cons_zero, List.getElem?_cons_succ] at c0 c1 c2 c3 c4
    have HI := Hd.mk hI
    have HTL := Hd.mk hTl
    have HCW := Hd.mk CW
    have HQ := Hd.mk hq
    clear hI hTl CW hq hsd hst hpq hwe hmy hlt2 hdl hB
    have SA := @Oper.semAt_some
    gi_wp2_with (refine ⟨trivial, ?_⟩; gi_at_call 17; refine (CallsIn.inRound l0 (callsIn_wide.2 HCW.out)).mono ?_; rintro e w2 ⟨rfl, hW2⟩)
    obtain ⟨q', hP⟩ := hW2.1 rfl
    obtain ⟨k1, k2, k3⟩ := HI.out.step (j := j) HQ.out HTL.out hP (blkJ_le hr hl hs hm2 j _) W0.heap.size
    refine ⟨k1, k2, ?_⟩
    dsimp only
    rw [List.map_append]
    exact k3
  case done =>
    rintro D0 xs W hD0 ⟨hS1, hS2, hS3⟩ hI hK
    have c0 := blk_cell hI.box 0
    simp only [List.getElem?_toArray, List.getElem?_cons_zero] at c0
    obtain ⟨q, hTl, hq⟩ := hI.tl
    have htt := PBx_tot hr hl hs hm2 xs.length
    have hbt := bt_le hr hl hm2 xs.length
    rw [hS1] at hTl
    rw [htt] at hTl
    have hJ : xs.length = 1 ∨ (xs.length - 1) * most < l.length := by rcases last_ok hS1 with h | h | h <;> omega
    have hJ2 : xs.length ≤ l.length + 1 := by
      rcases hJ with h | h
      · omega
      · have : (xs.length - 1) * 1 ≤ (xs.length - 1) * most := Nat.mul_le_mul_left _ hm1
        omega
    have hat := at_le l.length most xs.length
    have CB := Hd.mk (bytes_any W (by omega) hTl)
    have HI := Hd.mk hI
    have HSS := Hd.mk (And.intro hS1 (And.intro hS2 hS3))
    have HJJ := Hd.mk hJ
    clear hI hTl htt hbt hJ hS1 hS2 hS3 hq
    gi_wp2_with (refine ⟨trivial, ?_⟩; gi_at_call 23; refine (callsIn_wide.2 CB.out).mono ?_; rintro e w2 ⟨v, rfl, h1, h2, h3⟩)
    have hK2 := h3.blk hK (by simp)
    refine ⟨by simp, .inl ⟨_, _, rfl, run_takeDeferred hK2, ?_⟩⟩
    refine ⟨_, results_tmp rfl _ _ _, xs.length, v, HSS.out.2.1, HSS.out.2.2, HJJ.out, rfl, ownsRow_putObj h1 _ hK2 rfl, (Aft.refl w none).trans h2 HI.out.fr.size, ?_⟩
    exact (HI.out.fr.trans h3 (by simp)).grown (grownBy_putObj' w2 D0 _) (fun k e => by cases e; exact .inr (by have := HWS.fr.size; omega))
  case stop =>
    rintro D c pre W _ _ h _
    exact h.elim
end Go.Proofs.YtkdgfioigkijgaaGreat.Prs
set_option linter.unusedVariables false
set_option linter.unusedSimpArgs false
set_option maxRecDepth 100000
namespace Go.Proofs.YtkdgfioigkijgaaGreat.Lz
open Go.RowKit Go.Maps Go.Proofs.YtkdgfioigkijgaaGreat.Lib Go.Proofs.YtkdgfioigkijgaaGreat.Num Go.Proofs.YtkdgfioigkijgaaGreat.Bits
theorem laidOutP : laidOutB Tryz.prog = true := by kernel_rfl
theorem row3 : 284 < Tryz.prog.types.size := of_decide_eq_true (by kernel_rfl)
theorem wide3 : (match Tryz.prog.underlying 284 with | some (.array _ _) | some (.struct _) => true | _ => false) = true := by kernel_rfl
theorem law3 : Keyed Tryz.prog 284 := Keyed.of_law (deep_law_laid laidOutP (m := 2) (by omega) row3 (by kernel_rfl) wide3)
theorem infoI : (Tryz.prog.info? 3).map (fun i => (i.zero, i.size, i.bytes)) = some (some (.int .i64 0), 1, 8) := by kernel_rfl
def key3 (a b c : Int) : Value := .agg #[.int .u8 a, .int .u8 b, .int .u8 c]
theorem key3_lit (a b c : Int) (ha : 0 ≤ a ∧ a ≤ 255) (hb : 0 ≤ b ∧ b ≤ 255) (hc : 0 ≤ c ∧ c ≤ 255) : keyOf Tryz.prog 284 (key3 a b c) = some (.string (keyBytes [.int .u8 a, .int .u8 b, .int .u8 c])) := by
  obtain ⟨m, hm⟩ : ∃ m, Tryz.prog.types.size = m + 1 := ⟨Tryz.prog.types.size - 1, by have := row3; omega⟩
  have hc3 : Tryz.prog.cellsOf 284 = 3 := by kernel_rfl
  have hc1 : Tryz.prog.cellsOf 5 = 1 := by kernel_rfl
  have hk : Tryz.prog.keyType 284 = true := by kernel_rfl
  have w1 : (Lit.int .u8 a).wf = true := WalkArith.wf_u8 ha
  have w2 : (Lit.int .u8 b).wf = true := WalkArith.wf_u8 hb
  have w3 : (Lit.int .u8 c).wf = true := WalkArith.wf_u8 hc
  have hf : (key3 a b c).formed Tryz.prog 284 = true := by
    unfold key3 Value.formed
    rw [Tryz.underlying284]
    simp [hc3]
  have one : ∀ x : Int, (Lit.int .u8 x).wf = true → Tryz.prog.keyLits (m + 1) 5 [.int .u8 x] = some [.int .u8 x] := by
    intro x hx
    unfold Program.keyLits
    rw [Tryz.underlying5]
    simp [hx]
  have all : Tryz.prog.keyLits (m + 1 + 1) 284 [.int .u8 a, .int .u8 b, .int .u8 c] = some [.int .u8 a, .int .u8 b, .int .u8 c] := by
    unfold Program.keyLits
    rw [Tryz.underlying284]
    simp [hc3, hc1, List.range, List.range.loop, one a w1, one b w2, one c w3]
  unfold keyOf
  rw [Tryz.underlying284]
  simp only [hk, hf, Bool.and_self, if_true, hm]
  have e : (key3 a b c).cells.toList = [.int .u8 a, .int .u8 b, .int .u8 c] := rfl
  rw [e, all]
  rfl
abbrev U := Unit
def kl (d : List Int) (p : Nat) : Lit := .string (keyBytes [.int .u8 (at0 d p), .int .u8 (at0 d (p + 1)), .int .u8 (at0 d (p + 2))])
def kv (d : List Int) (p : Nat) : Value := key3 (at0 d p) (at0 d (p + 1)) (at0 d (p + 2))
def Bytes (d : List Int) : Prop := ∀ x ∈ d, 0 ≤ x ∧ x ≤ 255
theorem at0_byte {d : List Int} (h : Bytes d) {i : Nat} (hi : i < d.length) : 0 ≤ at0 d i ∧ at0 d i ≤ 255 := by
  unfold at0
  rw [List.getD_eq_getElem?_getD, List.getElem?_eq_getElem hi]
  exact h _ (List.getElem_mem hi)
theorem kv_lit {d : List Int} (h : Bytes d) {p : Nat} (hp : p + 3 ≤ d.length) : keyOf Tryz.prog 284 (kv d p) = some (kl d p) :=
  key3_lit _ _ _ (at0_byte h (by omega)) (at0_byte h (by omega)) (at0_byte h (by omega))
theorem kl_same {d : List Int} {p q : Nat} (h : same3 d p q) : kl d p = kl d q := by unfold kl; rw [h.1, h.2.1, h.2.2]
theorem kl_ne {d : List Int} (hb : Bytes d) {p q : Nat} (hp : p + 3 ≤ d.length) (hq : q + 3 ≤ d.length) (h : ¬ same3 d p q) : kl d p ≠ kl d q := by
  intro e
  have h1 := kv_lit hb hp
  have h2 := kv_lit hb hq
  rw [← e] at h2
  have := law3.inj h1 h2
  unfold kv key3 at this
  simp only [Value.agg.injEq, Array.mk.injEq, List.cons.injEq, Value.int.injEq, true_and, and_true] at this
  exact h ⟨this.1, this.2.1, this.2.2⟩
def MapOk (d : List Int) (kn : Nat) (D : DataW U) : Prop := ∀ p, p + 3 ≤ d.length →
  (0 ≤ prevF d p kn → D.atKey (kl d p) (.lit (.int .i64 0)) = .lit (.int .i64 (prevF d p kn)) ∧ Maps.has D (kl d p) = true) ∧ (prevF d p kn < 0 → Maps.has D (kl d p) = false)
theorem MapOk.zero (d : List Int) : MapOk d 0 (.map []) := fun p _ => ⟨fun h => by simp [prevF] at h, fun _ => rfl⟩
theorem MapOk.put {d : List Int} {kn : Nat} {D : DataW U} (h : MapOk d kn D) (hb : Bytes d) (hk : kn + 3 ≤ d.length) (hD : Maps.IsMap D) : MapOk d (kn + 1) (D.put (kl d kn) (.lit (.int .i64 (kn : Nat)))) := by
  intro p hp
  have hkey : WideAt.IsKeyLit (kl d kn) := law3.key (kv_lit hb hk)
  simp only [prevF]
  by_cases hs : same3 d kn p
  · rw [if_pos hs, ← kl_same hs]
    exact ⟨fun _ => ⟨Maps.atKey_put_same hD hkey _ _, Maps.has_put_same hD hkey _⟩, fun h => by omega⟩
  · rw [if_neg hs]
    have hne : kl d p ≠ kl d kn := (kl_ne hb hk hp hs).symm
    rw [Maps.atKey_put_other hne, Maps.has_put_other hne]
    exact h p hp
def links (d : List Int) (kn : Nat) : List Value := (List.range kn).map fun i => .int .i64 (prev d i)
theorem links_succ (d : List Int) (kn : Nat) : links d (kn + 1) = links d kn ++ [.int .i64 (prev d kn)] := by simp [links, List.range_succ]
theorem links_get {d : List Int} {kn i : Nat} (h : i < kn) : (links d kn)[i]? = some (.int .i64 (prev d i)) := by simp [links, h]
structure Fd (w : World) (g : Nat) (A : Option Addr) (n c : Nat) (d : List Int) (q : Option Nat) (k : Opt) (B : Nat) (E : Option Addr) (ec kn : Nat) : Prop where
  blk : w.heap[g]? = some (.cells #[.slice A n c, .int .i64 k.window, .int .i64 k.chain, .bool k.isLazy, .map (some B), .slice E kn ec, .int .i64 (kn : Nat)] 262 (0, 0))
  data : Sl w A (u8s d) q
  len : d.length = n
  nc : n ≤ c
  byte : Bytes d
  kle : kn ≤ n
  map : ∃ D : DataW U, w.ownsMap Tryz.prog 284 (plainElem Tryz.prog 3) B kn D ∧ MapOk d kn D
  own : w.ownsRow 0 3 1 (.slice E kn ec) kn (links d kn)
  qlt : ∀ y, q = some y → y < w.heap.size
  qne : q ≠ some g ∧ q ≠ some B ∧ (∀ y, q = some y → (Value.slice E kn ec).ownBlock ≠ some y)
section
variable {w w' : World} {g : Nat} {A : Option Addr} {n c : Nat} {d : List Int} {q : Option Nat} {k : Opt} {B : Nat} {E : Option Addr} {ec kn : Nat}
theorem Fd.lt (h : Fd w g A n c d q k B E ec kn) : g < w.heap.size ∧ B < w.heap.size := ⟨blk_lt h.blk, by obtain ⟨D, hD, _⟩ := h.map; exact hD.lt⟩
theorem Fd.map_blk (h : Fd w g A n c d q k B E ec kn) : ∃ es clock, w.heap[B]? = some (.map es clock) := by
  obtain ⟨D, hD, _⟩ := h.map
  obtain ⟨es, clock, hb, _⟩ := hD
  exact ⟨es, clock, hb⟩
theorem Fd.ne (h : Fd w g A n c d q k B E ec kn) : B ≠ g ∧ (Value.slice E kn ec).ownBlock ≠ some g ∧ (Value.slice E kn ec).ownBlock ≠ some B := by
  obtain ⟨es, clock, hb⟩ := h.map_blk
  refine ⟨?_, own_ne h.own h.blk (by decide), ?_⟩
  · rintro rfl
    have := h.blk
    rw [hb] at this
    cases this
  · intro e
    obtain ⟨cs, hcs⟩ := own_type h.own e
    rw [hb] at hcs
    cases hcs
theorem Fd.frame (h : Fd w g A n c d q k B E ec kn) (hf : Fr w w' []) : Fd w' g A n c d q k B E ec kn where
  blk := hf.blk h.blk (by simp)
  data := h.data.frame hf (by simp)
  len := h.len
  nc := h.nc
  byte := h.byte
  kle := h.kle
  map := by obtain ⟨D, hD, hM⟩ := h.map; exact ⟨D, hD.kept (hf.to_grown none (by simp)) (by simp), hM⟩
  own := own_frame h.own hf (by simp)
  qlt := fun y hy => Nat.lt_of_lt_of_le (h.qlt y hy) hf.size
  qne := h.qne
theorem Fd.cell (h : Fd w g A n c d q k B E ec kn) : w.cell? ⟨g, 0, none⟩ = some (.slice A n c) ∧ w.cell? ⟨g, 1, none⟩ = some (.int .i64 k.window) ∧ w.cell? ⟨g, 2, none⟩ = some (.int .i64 k.chain) ∧ w.cell? ⟨g, 3, none⟩ = some (.bool k.isLazy) ∧
    w.cell? ⟨g, 4, none⟩ = some (.map (some B)) ∧ w.cell? ⟨g, 5, none⟩ = some (.slice E kn ec) ∧ w.cell? ⟨g, 6, none⟩ = some (.int .i64 (kn : Nat)) :=
  ⟨blk_cell h.blk 0, blk_cell h.blk 1, blk_cell h.blk 2, blk_cell h.blk 3, blk_cell h.blk 4, blk_cell h.blk 5, blk_cell h.blk 6⟩
end
theorem u8s_at {d : List Int} {i : Nat} (h : i < d.length) : (u8s d)[i]? = some (.int .u8 (at0 d i)) := by
  rw [u8s_get]
  unfold at0
  rw [List.getElem?_eq_getElem h, List.getD_eq_getElem?_getD, List.getElem?_eq_getElem h]
  rfl
section
variable {w : World} {g : Nat} {A : Option Addr} {n c : Nat} {d : List Int} {q : Option Nat} {k : Opt} {B : Nat} {E : Option Addr} {ec kn : Nat}
theorem key_any (w : World) (g : Nat) (A : Option Addr) (n c : Nat) (d : List Int) (q : Option Nat) (i : Nat) (hi : i + 3 ≤ n) (hn : n ≤ 1099511627776) (c0 : w.cell? ⟨g, 0, none⟩ = some (.slice A n c)) (hD : Sl w A (u8s d) q) (hl : d.length = n) (hnc : n ≤ c) :
    Calls Tryz.prog 166 #[.pointer (some ⟨g, 0, none⟩), .int .i64 (i : Nat)] w fun e w' => e = .returned (kv d i) ∧ Fr w w' [] := by
  have hgl := World.block_lt_of_cell? w _ c0
  obtain ⟨b, off, rfl, rfl, hc⟩ := hD (by rw [u8s_length]; omega)
  have k0 := (hc i (by rw [u8s_length]; omega)).trans (u8s_at (by omega))
  have k1 := (hc (i + 1) (by rw [u8s_length]; omega)).trans (u8s_at (by omega))
  have k2 := (hc (i + 2) (by rw [u8s_length]; omega)).trans (u8s_at (by omega))
  obtain ⟨x0, h0⟩ : ∃ x, x = at0 d i := ⟨_, rfl⟩
  obtain ⟨x1, h1⟩ : ∃ x, x = at0 d (i + 1) := ⟨_, rfl⟩
  obtain ⟨x2, h2⟩ : ∃ x, x = at0 d (i + 2) := ⟨_, rfl⟩
  have HV : Hd (kv d i = .agg #[.int .u8 x0, .int .u8 x1, .int .u8 x2]) := ⟨by rw [h0, h1, h2]; rfl⟩
  rw [← h0] at k0
  rw [← h1] at k1
  rw [← h2] at k2
  have k1' : w.cell? ⟨b, off + i + 1, none⟩ = some (.int .u8 x1) := k1
  have k2' : w.cell? ⟨b, off + i + 2, none⟩ = some (.int .u8 x2) := k2
  have f := (Fr.refl w []).alloc (.cells #[.int .u8 0, .int .u8 0, .int .u8 0] 284)
  have hbl := World.block_lt_of_cell? w _ k0
  have hb := blk_new w (.cells #[.int .u8 0, .int .u8 0, .int .u8 0] 284)
  rw [HV.out]
  clear h0 h1 h2 hc hD k1 k2
  go_enter Tryz.func166, Tryz.ntmps166
  go_upto_region 1 with (fail)
  generalize hw2 : w.alloc (.cells #[.int .u8 0, .int .u8 0, .int .u8 0] 284) = w2
  rw [hw2] at hb f
  have e0 := (World.cell?_of_block (w := w) (f.block b hbl (by simp)) : w2.cell? ⟨b, off + i, none⟩ = _).trans k0
  have e1 := (World.cell?_of_block (w := w) (f.block b hbl (by simp)) : w2.cell? ⟨b, off + i + 1, none⟩ = _).trans k1'
  have e2 := (World.cell?_of_block (w := w) (f.block b hbl (by simp)) : w2.cell? ⟨b, off + i + 2, none⟩ = _).trans k2'
  have eg := (World.cell?_of_block (w := w) (f.block g hgl (by simp)) : w2.cell? ⟨g, 0, none⟩ = _).trans c0
  have n0 := blk_cell hb 0
  have n1 := blk_cell hb 1
  have n2 := blk_cell hb 2
  have z0 := blk_frozen hb 0
  have z1 := blk_frozen hb 1
  have z2 := blk_frozen hb 2
  simp only [List.getElem?_toArray, List.getElem?_cons_zero, List.getElem?_cons_succ] at n0 n1 n2
  have HF2 := Hd.mk f
  have HBK := Hd.mk hb
  clear hb f k0 k1' k2' c0 hw2
  have harr : ∀ W : World, (Instr.arrayAt 284 (.slice (some ⟨b, off + i, none⟩) 3 (c - i))).run Tryz.prog W = .ok (.pointer (some ⟨b, off + i, none⟩)) W := fun W => run_arrayAt W _ _ 3 _ _ _ Tryz.underlying284 (Nat.le_refl _)
  go_wp2
  have hb4 := blk_set (blk_set (blk_set HBK.out 0 (.int .u8 x0)) 1 (.int .u8 x1)) 2 (.int .u8 x2)
  have hf4 := ((HF2.out.setCell (a := ⟨w.heap.size, 0, none⟩) (.int .u8 x0) (.inr (Nat.le_refl _))).setCell (a := ⟨w.heap.size, 1, none⟩) (.int .u8 x1) (.inr (Nat.le_refl _))).setCell (a := ⟨w.heap.size, 2, none⟩) (.int .u8 x2) (.inr (Nat.le_refl _))
  generalize ((w2.setCell ⟨w.heap.size, 0, none⟩ (.int .u8 x0)).setCell ⟨w.heap.size, 1, none⟩ (.int .u8 x1)).setCell ⟨w.heap.size, 2, none⟩ (.int .u8 x2) = w4 at hb4 hf4 ⊢
  have m0 := blk_cell hb4 0
  have m1 := blk_cell hb4 1
  have m2 := blk_cell hb4 2
  simp only [List.setIfInBounds_toArray, List.getElem?_toArray, List.set_cons_zero, List.set_cons_succ, List.getElem?_cons_zero, List.getElem?_cons_succ] at m0 m1 m2
  exact bodyPost_ret (v := .agg #[.int .u8 x0, .int .u8 x1, .int .u8 x2]) (by simp [results, Tryz.results166, go_sem, m0, m1, m2]) rfl ⟨rfl, hf4⟩
theorem common_any (w : World) (ci at' : Nat) (hc : ci < at') (ha : at' ≤ n) (hn : n ≤ 1099511627776) (hF : Fd w g A n c d q k B E ec kn) :
    Calls Tryz.prog 160 #[.pointer (some ⟨g, 0, none⟩), .int .i64 (ci : Nat), .int .i64 (at' : Nat)] w fun e w' => e = .returned (.int .i64 (alike d ci at' : Nat)) ∧ Fr w w' [] := by
  have HF := Hd.mk hF
  have c0 := hF.cell.1
  have hl := hF.len
  have HD := Hd.mk hF.data
  clear hF
  go_enter Tryz.func160, Tryz.ntmps160
  go_wp2
  go_loopg [7] 258 (fun kq jv wr => ∃ (j nq : Nat), jv = .int .i64 (j : Nat) ∧ j + kq = 258 ∧ wr = w.drewN nq ∧ Hd (alike d ci at' = alikeF d ci at' (258 - j) j))
  case atStart => exact ⟨0, 0, rfl, rfl, rfl, ⟨rfl⟩⟩
  case round =>
    obtain ⟨j, nq0, rfl, hj, rfl, HA⟩ := hrel
    by_cases h1 : j < 258
    · have HA2 : Hd (alike d ci at' = if at' + j < d.length ∧ at0 d (ci + j) = at0 d (at' + j) then alikeF d ci at' (258 - (j + 1)) (j + 1) else j) := ⟨by
        rw [HA.out, show 258 - j = (258 - (j + 1)) + 1 from by omega]; rfl⟩
      clear HA
      have hd1i : decide ((j : Int) < 258) = true := decide_eq_true (by omega)
      by_cases h2 : at' + j < n
      · have hd2 : decide ((at' : Int) + (j : Int) < (n : Int)) = true := decide_eq_true (by omega)
        obtain ⟨b, off, e, _, hcc⟩ := HD.out (by rw [u8s_length]; omega)
        subst e
        have k0 := (hcc (ci + j) (by rw [u8s_length]; omega)).trans (u8s_at (by omega))
        have k1 := (hcc (at' + j) (by rw [u8s_length]; omega)).trans (u8s_at (by omega))
        obtain ⟨x0, h0⟩ : ∃ x, x = at0 d (ci + j) := ⟨_, rfl⟩
        obtain ⟨x1, h1'⟩ : ∃ x, x = at0 d (at' + j) := ⟨_, rfl⟩
        rw [← h0] at k0
        rw [← h1'] at k1
        have H0 := Hd.mk h0
        have H1 := Hd.mk h1'
        clear hcc h0 h1'
        by_cases h3 : x0 = x1
        · subst h3
          go_wp2
          go_quiet (fail)
          go_wp2
          go_roundg (gk - 1)
          case measure => omega
          case rel => exact ⟨j + 1, nq0 + nq, by go_num, by omega, by first | rfl | exact World.drewN_drewN _ _ _, ⟨by rw [HA2.out, if_pos ⟨by omega, by rw [← H0.out, ← H1.out]⟩]⟩⟩
        · have hbq : (x0 == x1) = false := by simpa using h3
          go_wp2
          go_quiet (fail)
          go_wp2
          go_ret
          refine ⟨?_, ((Fr.refl w []).drewN _).drewN _⟩
          rw [HA2.out, if_neg (fun h => h3 (by rw [H0.out, H1.out]; exact h.2))]
          rfl
      · have hd2 : decide ((at' : Int) + (j : Int) < (n : Int)) = false := decide_eq_false (by omega)
        go_wp2
        go_quiet (fail)
        go_wp2
        go_ret
        refine ⟨?_, ((Fr.refl w []).drewN _).drewN _⟩
        rw [HA2.out, if_neg (fun h => by omega)]
        rfl
    · obtain rfl : j = 258 := by omega
      go_wp2
      go_quiet (fail)
      go_wp2
      go_ret
      refine ⟨?_, ((Fr.refl w []).drewN _).drewN _⟩
      rw [HA.out]
      rfl
end
end Go.Proofs.YtkdgfioigkijgaaGreat.Lz
set_option linter.unusedVariables false
set_option linter.unusedSimpArgs false
set_option maxRecDepth 100000
namespace Go.Proofs.YtkdgfioigkijgaaGreat.Lz
open Go.RowKit Go.Maps Go.Proofs.YtkdgfioigkijgaaGreat.Lib Go.Proofs.YtkdgfioigkijgaaGreat.Num Go.Proofs.YtkdgfioigkijgaaGreat.Bits
theorem zeroI (w : World) : (zeroValue 3).run Tryz.prog w = .ok (.int .i64 0) w := by kernel_rfl
theorem wfI {a : Int} (h0 : -9223372036854775808 ≤ a) (h1 : a ≤ 9223372036854775807) : (Lit.int .i64 a).wf = true := WalkArith.wf_i64 ⟨h0, h1⟩
section
variable {w w' : World} {g : Nat} {A : Option Addr} {n c : Nat} {d : List Int} {q : Option Nat} {k : Opt} {B : Nat} {E : Option Addr} {ec kn : Nat}
def Mp (w : World) (B : Nat) (d : List Int) (kn : Nat) : Prop := ∃ D : DataW U, w.ownsMap Tryz.prog 284 (plainElem Tryz.prog 3) B kn D ∧ MapOk d kn D
theorem Mp.frame {w w' : World} {B : Nat} {d : List Int} {kn : Nat} (h : Mp w B d kn) {F : List Nat} (hf : Fr w w' F) (hB : B ∉ F) : Mp w' B d kn := by
  obtain ⟨D, hD, hM⟩ := h
  obtain ⟨es, clock, hb, r⟩ := hD
  exact ⟨D, ⟨es, clock, hf.blk hb hB, r⟩, hM⟩
theorem Mp.look {w : World} {B : Nat} {d : List Int} {kn : Nat} (h : Mp w B d kn) (hb : Bytes d) (hk : kn + 3 ≤ d.length) : ∃ x : Int, (Instr.lookup 260 (.map (some B)) (kv d kn) true).run Tryz.prog w = .ok (.tuple #[.int .i64 x, .bool (decide (0 ≤ prev d kn))]) w ∧ (0 ≤ prev d kn → x = prev d kn) := by
  obtain ⟨D, hD, hM⟩ := h
  have hkey := kv_lit hb (p := kn) (by omega)
  obtain ⟨v, ps, hrun, hv⟩ := hD.look_ok law3 Tryz.underlying260 (zeroI w) (plainElem_int Tryz.underlying3 (by decide)) hkey
  obtain ⟨x, rfl, hx, _⟩ := plainElem_int_inv Tryz.underlying3 hv
  simp only [Prod.mk.injEq] at hx
  obtain ⟨h1, h2⟩ := hM kn hk
  refine ⟨x, ?_, fun h0 => ?_⟩
  · rw [hrun]
    rw [show Maps.has D (kl d kn) = decide (0 ≤ prev d kn) from ?_]
    by_cases h0 : 0 ≤ prevF d kn kn
    · rw [(h1 h0).2]; exact (decide_eq_true h0).symm
    · rw [h2 (by omega)]; exact (decide_eq_false h0).symm
  · have := (h1 h0).1
    rw [hx.1] at this
    injection this with this
    injection this
theorem Mp.upd {w : World} {B : Nat} {d : List Int} {kn : Nat} (h : Mp w B d kn) (hb : Bytes d) (hk : kn + 3 ≤ d.length) (hn : d.length ≤ 1099511627776) : ∃ w', (Instr.mapUpdate 260 (.map (some B)) (kv d kn) (.int .i64 (kn : Nat))).run Tryz.prog w = .ok () w' ∧ Mp w' B d (kn + 1) ∧ Fr w w' [B] := by
  obtain ⟨D, hD, hM⟩ := h
  obtain ⟨w', hrun, h1, h2⟩ := hD.update law3 Tryz.underlying260 (by unfold maxLen; omega) (kv_lit hb hk) (plainElem_int Tryz.underlying3 (wfI (a := (kn : Nat)) (by omega) (by omega)))
  exact ⟨w', hrun, ⟨_, h1, hM.put hb hk hD.isMap⟩, (Fr.refl w [B]).grown h2 (fun y hy => .inl (by cases hy; simp))⟩
set_option maxHeartbeats 8000000 in
theorem learn_any (w : World) (a : Int) (ha : a < n) (hn : n ≤ 1099511627776) (hF : Fd w g A n c d q k B E ec kn) :
    Calls Tryz.prog 120 #[.pointer (some ⟨g, 0, none⟩), .int .i64 a] w fun e w' => e = .returned (.tuple #[]) ∧ ∃ E' ec' kn', kn ≤ kn' ∧ (∀ i : Nat, (i : Int) ≤ a → i + 3 ≤ n → i < kn') ∧ Fd w' g A n c d q k B E' ec' kn' ∧ Aft w (Value.slice E kn ec).ownBlock (Value.slice E' kn' ec').ownBlock ∧ Fr w w' (g :: B :: (Value.slice E kn ec).ownBlock.toList) := by
  obtain ⟨j0, hj0, hj1, hj2, hj3⟩ := info_parts infoI
  have HF := Hd.mk hF
  have hl := hF.len
  have hnc := hF.nc
  have hkl := hF.kle
  have hby := Hd.mk hF.byte
  clear hF
  go_enter Tryz.func120, Tryz.ntmps120
  go_wp2
  go_loopg [4, 5] (n - kn) (fun kq u4 u5 wr => ∃ (E1 : Option Addr) (ec1 k1 : Nat), k1 + kq = n ∧ kn ≤ k1 ∧ Hd (Fd wr g A n c d q k B E1 ec1 k1) ∧ Hd (Aft w (Value.slice E kn ec).ownBlock (Value.slice E1 k1 ec1).ownBlock) ∧ Hd (Fr w wr (g :: B :: (Value.slice E kn ec).ownBlock.toList)))
  case atStart => exact ⟨E, ec, kn, by omega, Nat.le_refl _, HF, ⟨Aft.refl _ _⟩, ⟨Fr.refl _ _⟩⟩
  case round =>
    obtain ⟨E1, ec1, k1, hk1, hkk, HF1, HA1, HW1⟩ := hrel
    obtain ⟨c0, c1, c2, c3, c4, c5, c6⟩ := HF1.out.cell
    by_cases h1 : (k1 : Int) ≤ a
    · have hd1 : decide ((k1 : Int) ≤ a) = true := decide_eq_true h1
      by_cases h2 : k1 + 3 ≤ n
      · have hd2 : decide ((k1 : Int) + 3 ≤ (n : Int)) = true := decide_eq_true (by omega)
        go_wp2
        go_quiet (fail)
        have HF2 := Hd.mk (HF1.out.frame ((Fr.refl wr []).drewN nq))
        have HW2 := Hd.mk (HW1.out.drewN nq)
        have HA2 := HA1
        clear HF1 HW1 HA1 c0 c1 c2 c3 c4 c5 c6
        generalize wr.drewN nq = w1 at *
        obtain ⟨c0, c1, c2, c3, c4, c5, c6⟩ := HF2.out.cell
        obtain ⟨b, hb⟩ : ∃ b, b = decide (0 ≤ prev d k1) := ⟨_, rfl⟩
        have HBB := Hd.mk hb
        clear hb
        go_upto_region 2 with (fail)
        go_cut [4, 5] from 32 to 46 (fun s4 s5 wd => ∃ x : Int, s4 = .int .i64 x ∧ s5 = .bool b ∧ Hd (Fr w1 wd []) ∧ Hd (0 ≤ prev d k1 → x = prev d k1))
        case first =>
          have K1 := Hd.mk (key_any w1.drew g A n c d q k1 h2 hn c0 (by exact HF2.out.data) hl hnc)
          go_region_with (go_loud (go_at_call 166; (with_reducible refine (K1.out).mono ?_); rintro e w2 ⟨rfl, f1⟩; have F2 := Hd.mk (((Fr.refl w1 []).drew).trans f1 (by simp)); have HF3 := Hd.mk (HF2.out.frame F2.out); obtain ⟨e0, e1, e2, e3, e4, e5, e6⟩ := HF3.out.cell; obtain ⟨x, hlook, hx⟩ := Mp.look (show Mp w2 B d k1 from HF3.out.map) hby.out (by omega); rw [← HBB.out] at hlook; have HXX := Hd.mk hx; clear f1 hx))
          all_goals
            go_wp2
            go_meet
            exact ⟨x, rfl, rfl, F2, HXX⟩
        case rest =>
          obtain ⟨x, rfl, rfl, F2, HXX⟩ := hcut
          obtain ⟨pv, hpv⟩ : ∃ pv, pv = prev d k1 := ⟨_, rfl⟩
          have HPV := Hd.mk hpv
          have HFc := Hd.mk (HF2.out.frame F2.out)
          have HWc := Hd.mk (HW2.out.trans F2.out (by simp))
          clear hpv c0 c1 c2 c3 c4 c5 c6 HF2 HW2 F2
          go_upto_if 47 with (fail)
          go_cut [4] from 48 to 48 (fun s4 wd => s4 = .int .i64 pv ∧ wd = wc)
          case first =>
            cases b with
            | true =>
              have h0 : 0 ≤ prev d k1 := of_decide_eq_true HBB.out.symm
              obtain rfl : x = pv := by rw [HPV.out]; exact HXX.out h0
              go_wp2
              go_meet
              exact ⟨rfl, rfl⟩
            | false =>
              have h0 : ¬ 0 ≤ prev d k1 := of_decide_eq_false HBB.out.symm
              obtain rfl : pv = -1 := by rw [HPV.out]; have := prevF_lt d k1 k1; unfold prev at h0 ⊢; omega
              go_wp2
              go_meet
              exact ⟨rfl, rfl⟩
          case rest =>
            obtain ⟨rfl, rfl⟩ := hcut
            obtain ⟨wa, rfl⟩ : ∃ wa : World, wa = wc := ⟨_, rfl⟩
            obtain ⟨c0, c1, c2, c3, c4, c5, c6⟩ := HFc.out.cell
            have hgl := HFc.out.lt.1
            have hne := HFc.out.ne
            have hbw : Hd (wa.heap[g]? = some (.cells #[.slice A n c, .int .i64 k.window, .int .i64 k.chain, .bool k.isLazy, .map (some B), .slice E1 k1 ec1, .int .i64 (k1 : Nat)] 262 (0, 0))) := ⟨HFc.out.blk⟩
            go_upto_region 5 with (fail)
            go_cut [] from 48 to 58 (fun wd => ∃ E3 ec3, Hd (wd.heap[g]? = some (.cells #[.slice A n c, .int .i64 k.window, .int .i64 k.chain, .bool k.isLazy, .map (some B), .slice E3 (k1 + 1) ec3, .int .i64 (k1 : Nat)] 262 (0, 0))) ∧
              Hd (wd.ownsRow 0 3 1 (.slice E3 (k1 + 1) ec3) (k1 + 1) (links d (k1 + 1))) ∧ Hd (Aft wa (Value.slice E1 k1 ec1).ownBlock (Value.slice E3 (k1 + 1) ec3).ownBlock) ∧ Hd (Fr wa wd (g :: (Value.slice E1 k1 ec1).ownBlock.toList)))
            case first =>
              go_wp2_with (at_builtin; refine wpList_append_sl rfl (.tmp 52) (.tmp 54) 79 rfl 3 j0 (.int .i64 0) 1 8 Tryz.underlying79 hj0 hj1 hj2 hj3 rfl (by decide) (.slice E1 k1 ec1) k1 _ rfl (by exact HFc.out.own.alloc _) (some ⟨wa.heap.size, 0, none⟩) 1 1 [.int .i64 pv] (some wa.heap.size) rfl rfl (by exact sl_of_blk (blk_new _ _)) (by intro h; cases h) (by intro u hu; simp at hu; rcases hu with rfl; rfl) (by unfold maxLen; omega) (by omega) ?_; intro E3 ec3 w4 hown' hgrow haft; have O3 := Hd.mk hown'; have G3 := Hd.mk hgrow; have F3 := Hd.mk haft; have hb4 := blk_grown hgrow (blk_alloc hbw.out _) (fun e => hne.2.1 e.symm); have f0 := blk_frozen hb4 5; have e0 := blk_cell hb4 5; simp only [List.getElem?_toArray, List.getElem?_cons_zero, List.getElem?_cons_succ] at e0; have HB4 := Hd.mk hb4; clear hown' hgrow haft hb4)
              go_meet
              exact ⟨E3, ec3, ⟨by simpa using blk_set HB4.out 5 (.slice E3 (k1 + 1) ec3)⟩, ⟨own_setFar (by rw [links_succ, ← HPV.out]; exact O3.out) _ (own_ne O3.out HB4.out (by decide))⟩, ⟨by
                rcases F3.out with h | ⟨z, h, hz⟩
                · exact .inl h
                · exact .inr ⟨z, h, by simp at hz; omega⟩⟩, ⟨(((Fr.refl wa _).alloc _).grown G3.out (fun y hy => .inl (by simp [hy]))).setCell _ (.inl (by simp))⟩⟩
            case rest =>
              obtain ⟨E3, ec3, HB5, HO5, HA5, HF5⟩ := hcut
              obtain ⟨wb, rfl⟩ : ∃ wb : World, wb = wc := ⟨_, rfl⟩
              have hqn := HFc.out.qne
              have HD5 : Hd (Sl wb A (u8s d) q) := ⟨HFc.out.data.frame HF5.out (fun y hy hm => by
                rcases List.mem_cons.1 hm with e | e
                · exact hqn.1 (by rw [hy, e])
                · exact hqn.2.2 y hy (by simpa using e))⟩
              have HM5 : Hd (Mp wb B d k1) := ⟨Mp.frame (show Mp wa B d k1 from HFc.out.map) HF5.out (fun hm => by
                rcases List.mem_cons.1 hm with e | e
                · exact hne.1 e
                · exact hne.2.2 (by simpa using e))⟩
              have b0 := blk_cell HB5.out 0
              have b4 := blk_cell HB5.out 4
              have b6 := blk_cell HB5.out 6
              simp only [List.getElem?_toArray, List.getElem?_cons_zero, List.getElem?_cons_succ] at b0 b4 b6
              clear c0 c1 c2 c3 c4 c5 c6 hbw
              have K2 := Hd.mk (key_any wb.drew g A n c d q k1 h2 hn b0 (by exact HD5.out) hl hnc)
              go_wp2
              go_region_with (first | (go_at_call 166; (with_reducible refine (K2.out).mono ?_); rintro e w2 ⟨rfl, f1⟩; have F2 := Hd.mk (((Fr.refl wb []).drew).trans f1 (by simp)); have hb2 := F2.out.blk HB5.out (by simp); have e4 := blk_cell hb2 4; have e6 := blk_cell hb2 6; simp only [List.getElem?_toArray, List.getElem?_cons_zero, List.getElem?_cons_succ] at e4 e6; obtain ⟨w7, hupd, hm7, hf7⟩ := Mp.upd (HM5.out.frame F2.out (by simp)) hby.out (by omega) (by omega); have M7 := Hd.mk hm7; have F7 := Hd.mk ((F2.out.mono (G := [B]) (by simp)).trans hf7 (fun y hy hm => hm)); have hb7 := F7.out.blk HB5.out (by simp; exact fun e => hne.1 e.symm); have b6p := blk_cell hb7 6; have z6p := blk_frozen hb7 6; simp only [List.getElem?_toArray, List.getElem?_cons_zero, List.getElem?_cons_succ] at b6p; have HB7 := Hd.mk hb7; clear f1 hm7 hf7 hb2 hb7))
              all_goals
                go_wp2
                go_roundg (gk - 1)
                case measure => omega
                case rel =>
                  have hfr : Fr w (w7.setCell ⟨g, 6, none⟩ (.int .i64 ((k1 + 1 : Nat) : Int))) (g :: B :: (Value.slice E kn ec).ownBlock.toList) := by
                    refine (((HWc.out.trans HF5.out (fun y hy hm => ?_)).trans F7.out (fun y hy hm => ?_)).setCell _ (.inl (by simp)))
                    · rcases List.mem_cons.1 hm with e | e
                      · simp [e]
                      · rcases HA2.out.mem e with h | h
                        · simp [h]
                        · omega
                    · simp at hm; simp [hm]
                  have hqn := HFc.out.qne
                  have hat : Aft w (Value.slice E kn ec).ownBlock (Value.slice E3 (k1 + 1) ec3).ownBlock := HA2.out.trans HA5.out HWc.out.size
                  have hO7 := own_frame HO5.out F7.out (fun y hy hm => by
                    simp at hm
                    subst hm
                    rcases HA5.out with h | ⟨z, h, hz⟩
                    · rw [h] at hy; exact hne.2.2 hy
                    · rw [h] at hy; cases hy; have := HFc.out.lt.2; omega)
                  have hD7 := HD5.out.frame F7.out (fun y hy hm => by simp at hm; subst hm; exact hqn.2.1 hy)
                  refine ⟨E3, ec3, k1 + 1, by omega, by omega, ⟨⟨by simpa using blk_set HB7.out 6 (.int .i64 ((k1 + 1 : Nat) : Int)), hD7.frame ((Fr.refl _ [g]).setCell _ (.inl (by simp))) (fun y hy hm => by simp at hm; subst hm; exact hqn.1 hy), hl, hnc, hby.out, by omega, Mp.frame M7.out ((Fr.refl _ [g]).setCell _ (.inl (by simp))) (by simp; exact hne.1), own_setFar hO7 _ (own_ne hO7 HB7.out (by decide)), fun y hy => ?_, hqn.1, hqn.2.1, fun y hy hz => ?_⟩⟩, ⟨hat⟩, ⟨hfr⟩⟩
                  · have h1 := HFc.out.qlt y hy
                    have h2 := HF5.out.size
                    have h3 := F7.out.size
                    rw [World.size_setCell]
                    omega
                  · rcases HA5.out with h | ⟨z, h, hz'⟩
                    · rw [h] at hz; exact hqn.2.2 y hy hz
                    · rw [h] at hz; cases hz; have := HFc.out.qlt _ hy; omega
      · have hd2 : decide ((k1 : Int) + 3 ≤ (n : Int)) = false := decide_eq_false (by omega)
        go_wp2
        go_quiet (fail)
        go_wp2
        go_end0
        exact ⟨rfl, E1, ec1, k1, hkk, fun i h3 h4 => by omega, HF1.out.frame ((Fr.refl wr []).drewN nq), HA1.out, HW1.out.drewN nq⟩
    · have hd1 : decide ((k1 : Int) ≤ a) = false := decide_eq_false h1
      go_wp2
      go_quiet (fail)
      go_wp2
      go_end0
      exact ⟨rfl, E1, ec1, k1, hkk, fun i h3 h4 => by omega, HF1.out.frame ((Fr.refl wr []).drewN nq), HA1.out, HW1.out.drewN nq⟩
end
end Go.Proofs.YtkdgfioigkijgaaGreat.Lz
set_option linter.unusedVariables false
set_option linter.unusedSimpArgs false
set_option maxRecDepth 100000
namespace Go.Proofs.YtkdgfioigkijgaaGreat.Lz
open Go.RowKit Go.Maps Go.Proofs.YtkdgfioigkijgaaGreat.Lib Go.Proofs.YtkdgfioigkijgaaGreat.Num Go.Proofs.YtkdgfioigkijgaaGreat.Bits
section
variable {w w' : World} {g : Nat} {A : Option Addr} {n c : Nat} {d : List Int} {q : Option Nat} {k : Opt} {B : Nat} {E : Option Addr} {ec kn : Nat}
theorem optErr_ok {k : Opt} (h : optErr k = 0) : 1 ≤ k.window ∧ k.window ≤ 32768 ∧ 0 ≤ k.chain ∧ k.chain ≤ 4096 := by
  unfold optErr at h
  split at h
  · cases h
  · omega
set_option maxHeartbeats 4000000 in
theorem best_any (w : World) (p : Nat) (hp : p < n) (hn : n ≤ 1099511627776) (hk : optErr k = 0) (r : Nat × Nat) (hr : r = best d p k.window.toNat k.chain.toNat) (hF : Fd w g A n c d q k B E ec kn) :
    Calls Tryz.prog 111 #[.pointer (some ⟨g, 0, none⟩), .int .i64 (p : Nat)] w fun e w' => e = .returned (.tuple #[.int .i64 (r.1 : Nat), .int .i64 (r.2 : Nat)]) ∧ ∃ E' ec' kn', Fd w' g A n c d q k B E' ec' kn' ∧ Aft w (Value.slice E kn ec).ownBlock (Value.slice E' kn' ec').ownBlock ∧ Fr w w' (g :: B :: (Value.slice E kn ec).ownBlock.toList) := by
  obtain ⟨r1, r2⟩ := r
  simp only
  have HF := Hd.mk hF
  have HR := Hd.mk hr
  have hl := hF.len
  obtain ⟨c0, c1, c2, c3, c4, c5, c6⟩ := hF.cell
  clear hF hr
  by_cases h3 : n < p + 3
  · have hz := HR.out
    rw [best_short (by omega) (by omega)] at hz
    obtain ⟨rfl, rfl⟩ : r1 = 0 ∧ r2 = 0 := by simpa using hz
    clear hz
    go_enter Tryz.func111, Tryz.ntmps111
    go_wp2
    go_ret2
    exact ⟨rfl, E, ec, kn, HF.out, Aft.refl _ _, Fr.refl _ _⟩
  · have HR2 : Hd ((r1, r2) = chainF d p k.window.toNat k.chain.toNat (prev d p) 0 0) := ⟨by rw [HR.out, best_chain (by omega)]⟩
    obtain ⟨hw1, hw2, hc1, hc2⟩ := optErr_ok hk
    obtain ⟨W, hW⟩ : ∃ W : Nat, k.window = (W : Nat) := ⟨k.window.toNat, by omega⟩
    obtain ⟨C, hC⟩ : ∃ C : Nat, k.chain = (C : Nat) := ⟨k.chain.toNat, by omega⟩
    have HR3 : Hd ((r1, r2) = chainF d p W C (prev d p) 0 0) := ⟨by rw [HR2.out, hW, hC]; rfl⟩
    clear HR HR2
    have HW := Hd.mk hW
    have HC := Hd.mk hC
    have hWb : W ≤ 32768 := by omega
    have hCb : C ≤ 4096 := by omega
    clear hW hC
    go_enter Tryz.func111, Tryz.ntmps111
    go_wp2_with (fail)
    refine (learn_any w (p : Nat) (by omega) hn HF.out).mono ?_
    rintro e w1 ⟨rfl, E1, ec1, k1, _, hk1, hF1, hA1, hW1⟩
    have hpk := hk1 p (by omega) (by omega)
    have HF1 := Hd.mk hF1
    have HA1 := Hd.mk hA1
    have HW1 := Hd.mk hW1
    obtain ⟨c0, c1, c2, c3, c4, c5, c6⟩ := hF1.cell
    have hkl := hF1.kle
    obtain ⟨ga, d1, e1, hd1⟩ := own_some hF1.own (by omega)
    injection e1 with e1 _ e2
    subst e1 e2
    have hcp := (hF1.own.cellAt p (by omega)).trans (links_get hpk)
    rw [HW.out] at c1
    rw [HC.out] at c2
    obtain ⟨pv, hpv⟩ : ∃ pv, pv = prev d p := ⟨_, rfl⟩
    rw [← hpv] at hcp HR3
    have hpv1 := prevF_lt d p p
    have HPV := Hd.mk hpv
    have hpb : -1 ≤ pv ∧ pv < p ∧ (0 ≤ pv → same3 d pv.toNat p) := ⟨by rw [hpv]; exact hpv1.2, by rw [hpv]; exact hpv1.1, by rw [hpv]; exact prevF_hit⟩
    have HPB := Hd.mk hpb
    clear hk1 hF1 hA1 hW1 hpv hpv1 hpb
    go_wp2
    go_loopg [6, 7, 8, 33] C (fun kq nv sv cv iv wr => ∃ (i b s : Nat) (x : Int), nv = .int .i64 (b : Nat) ∧ sv = .int .i64 (s : Nat) ∧ cv = .int .i64 x ∧ iv = .int .i64 (i : Nat) ∧ i + kq = C ∧ -1 ≤ x ∧ x < p ∧ Hd ((r1, r2) = chainF d p W (C - i) x b s) ∧ Hd (Fr w1 wr []))
    case atStart => exact ⟨0, 0, 0, pv, rfl, rfl, rfl, rfl, by omega, HPB.out.1, HPB.out.2.1, HR3, ⟨Fr.refl _ _⟩⟩
    case round =>
      obtain ⟨i, b, s, x, rfl, rfl, rfl, rfl, hi, hx0, hx1, HR4, HG⟩ := hrel
      by_cases h4 : i < C
      · have HR5 : Hd ((r1, r2) = if x < 0 ∨ (W : Int) < p - x then (b, s) else if b < alike d x.toNat p then chainF d p W (C - (i + 1)) (prev d x.toNat) (alike d x.toNat p) ((p : Int) - x).toNat else chainF d p W (C - (i + 1)) (prev d x.toNat) b s) := ⟨by
          rw [HR4.out, show C - i = (C - (i + 1)) + 1 from by omega]; rfl⟩
        clear HR4
        by_cases h5 : x < 0
        · have hz := HR5.out
          rw [if_pos (.inl h5)] at hz
          obtain ⟨rfl, rfl⟩ : r1 = b ∧ r2 = s := by simpa using hz
          clear hz
          go_wp2
          go_ret2
          exact ⟨rfl, some ⟨ga, 0, none⟩, ec1, k1, HF1.out.frame HG.out, HA1.out, HW1.out.trans HG.out (by simp)⟩
        · obtain ⟨x, rfl⟩ := Int.eq_ofNat_of_zero_le (show 0 ≤ x by omega)
          have e1 := (World.cell?_of_block (w := w1) (HG.out.block g (World.block_lt_of_cell? w1 _ c1) (by simp)) : wr.cell? ⟨g, 1, none⟩ = _).trans c1
          by_cases h6 : (W : Int) < (p : Int) - (x : Int)
          · have hz := HR5.out
            rw [if_pos (.inr h6)] at hz
            obtain ⟨rfl, rfl⟩ : r1 = b ∧ r2 = s := by simpa using hz
            clear hz
            go_wp2
            go_ret2
            exact ⟨rfl, some ⟨ga, 0, none⟩, ec1, k1, HF1.out.frame HG.out, HA1.out, HW1.out.trans HG.out (by simp)⟩
          · obtain ⟨m, hm⟩ : ∃ m, m = alike d x p := ⟨_, rfl⟩
            have hmb : m ≤ 258 := by rw [hm]; exact alike_le d x p
            have HR6 : Hd ((r1, r2) = if b < m then chainF d p W (C - (i + 1)) (prev d x) m (p - x) else chainF d p W (C - (i + 1)) (prev d x) b s) := ⟨by
              have := HR5.out
              rw [if_neg (by omega), Int.toNat_natCast, ← hm, show ((p : Int) - (x : Int)).toNat = p - x from by omega] at this
              exact this⟩
            have HMM := Hd.mk hm
            clear hm HR5
            obtain ⟨pv2, hpv2⟩ : ∃ pv2, pv2 = prev d x := ⟨_, rfl⟩
            rw [← hpv2] at HR6
            have hpv3 := prevF_lt d x x
            have hpb2 : -1 ≤ pv2 ∧ pv2 < p := by rw [hpv2]; unfold prev; omega
            have hcx := (HF1.out.own.cellAt x (by omega)).trans (links_get (show x < k1 by omega))
            rw [← hpv2] at hcx
            clear hpv2 hpv3
            go_wp2_with (fail)
            refine (common_any wr x p (by omega) (by omega) hn (HF1.out.frame HG.out)).mono ?_
            rintro e w3 ⟨rfl, h3g⟩
            rw [← HMM.out]
            have HG3 := Hd.mk (HG.out.trans h3g (by simp))
            clear h3g e1
            have e5 := (World.cell?_of_block (w := w1) (HG3.out.block g (World.block_lt_of_cell? w1 _ c5) (by simp)) : w3.cell? ⟨g, 5, none⟩ = _).trans c5
            have ex := (World.cell?_of_block (w := w1) (HG3.out.block ga (World.block_lt_of_cell? w1 _ hcx) (by simp)) : w3.cell? ⟨ga, x, none⟩ = _).trans hcx
            have hxk : x < k1 := by omega
            have hsub : (p : Int) - (x : Int) = ((p - x : Nat) : Int) := by omega
            by_cases h7 : b < m
            · go_wp2
              go_roundg (gk - 1)
              case measure => omega
              case rel => exact ⟨i + 1, m, p - x, pv2, rfl, by go_num, rfl, by go_num, by omega, hpb2.1, hpb2.2, ⟨by have := HR6.out; rwa [if_pos h7] at this⟩, HG3⟩
            · go_wp2
              go_roundg (gk - 1)
              case measure => omega
              case rel => exact ⟨i + 1, b, s, pv2, rfl, rfl, rfl, by go_num, by omega, hpb2.1, hpb2.2, ⟨by have := HR6.out; rwa [if_neg h7] at this⟩, HG3⟩
      · obtain rfl : i = C := by omega
        have hz := HR4.out
        rw [Nat.sub_self] at hz
        obtain ⟨rfl, rfl⟩ : r1 = b ∧ r2 = s := by simpa [chainF] using hz
        clear hz
        go_wp2
        go_ret2
        exact ⟨rfl, some ⟨ga, 0, none⟩, ec1, k1, HF1.out.frame HG.out, HA1.out, HW1.out.trans HG.out (by simp)⟩
end
end Go.Proofs.YtkdgfioigkijgaaGreat.Lz
