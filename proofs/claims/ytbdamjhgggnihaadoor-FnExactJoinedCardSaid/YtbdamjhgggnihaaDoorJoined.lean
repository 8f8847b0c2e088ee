/-
  The contracts of Joined, the reference's and the program's: texts put together. Conditions: the slice stands in memory and is small; the tables of unicode utf8 stand in memory.
-/
import Derived.Test.YtbdamjhgggnihaaDoorShelf
import Derived.Test.YtbdamjhgggnihaaDoorStrs
import Derived.Test.YtbdamjhgggnihaaDoorCodes
import Derived.Test.YtbdamjhgggnihaaDoorTextOk
import Derived.Test.YtbdamjhgggnihaaDoorTxtAny
import Derived.Lib.Join
import Derived.Shelf.Strings.OnBuilder
namespace Go.Proofs.YtbdamjhgggnihaaDoor
open Go.RowKit
open Go.Lib hiding intOf
set_option linter.unusedVariables false
set_option linter.unusedSimpArgs false

/-- the first j put together -/
def joinN (l : List ByteArray) (sep : List UInt8) : Nat → List UInt8
  | 0 => []
  | j + 1 => (if j = 0 then [] else joinN l sep j ++ sep) ++ bs (l.getD j .empty)
theorem joinN_one (l : List ByteArray) (sep : List UInt8) : joinN l sep 1 = bs (l.getD 0 .empty) := rfl
theorem joinN_more (l : List ByteArray) (sep : List UInt8) (j : Nat) (h : ¬ j = 0) : joinN l sep (j + 1) = (joinN l sep j ++ sep) ++ bs (l.getD j .empty) := by
  show (if j = 0 then [] else joinN l sep j ++ sep) ++ _ = _
  rw [if_neg h]
theorem joinTail_snoc (sep : List UInt8) (r : List (List UInt8)) (x : List UInt8) : Lib.joinTail sep (r ++ [x]) = Lib.joinTail sep r ++ sep ++ x := by
  unfold Lib.joinTail; simp
theorem joinN_join (l : List ByteArray) (sep : List UInt8) : ∀ j, j ≤ l.length → joinN l sep j = Lib.join ((l.take j).map bs) sep
  | 0, _ => rfl
  | 1, h => by
    have e : l.take 1 = [l[0]] := by rw [List.take_succ_eq_append_getElem (by omega)]; simp
    rw [joinN_one, e, getD_getS l 0 (by omega)]
    exact (Lib.join_one _ _).symm
  | j + 2, h => by
    rw [joinN_more l sep (j + 1) (by omega), joinN_join l sep (j + 1) (by omega), getD_getS l (j + 1) (by omega), List.take_succ_eq_append_getElem (i := j + 1) (by omega), List.map_append]
    cases l with
    | nil => simp at h
    | cons y r =>
      rw [List.take_succ_cons, List.map_cons, List.cons_append, Lib.join_cons, Lib.join_cons]
      show _ = bs y ++ Lib.joinTail sep (List.map bs (r.take j) ++ [bs ((y :: r)[j + 1])])
      rw [joinTail_snoc]
      simp
theorem joinN_mono (l : List ByteArray) (sep : List UInt8) : ∀ (j k : Nat), j ≤ k → (joinN l sep j).length ≤ (joinN l sep k).length
  | j, 0, h => by
    obtain rfl : j = 0 := by omega
    exact Nat.le_refl _
  | j, k + 1, h => by
    by_cases e : j = k + 1
    · rw [e]; exact Nat.le_refl _
    · have h1 := joinN_mono l sep j k (by omega)
      refine Nat.le_trans h1 ?_
      by_cases h0 : k = 0
      · subst h0; exact Nat.zero_le _
      · rw [joinN_more l sep k h0, List.length_append, List.length_append]
        omega
theorem joinN_small (l : List ByteArray) (sep : List UInt8) (h1 : ∀ s ∈ l, s.size ≤ 1000) (h2 : sep.length ≤ 1048576) : ∀ j, j ≤ l.length → (joinN l sep j).length ≤ j * 1050000
  | 0, _ => Nat.le_refl _
  | j + 1, h => by
    have ih := joinN_small l sep h1 h2 j (by omega)
    have hx := h1 _ (List.getElem_mem (l := l) (n := j) (by omega))
    show ((if j = 0 then [] else joinN l sep j ++ sep) ++ bs (l.getD j .empty)).length ≤ _
    rw [getD_getS l j (by omega), List.length_append, bs_length]
    by_cases h0 : j = 0
    · rw [if_pos h0]; simp; omega
    · rw [if_neg h0, List.length_append]; omega
/-- texts put together are code points' bytes -/
theorem joinN_enc (l : List ByteArray) (sep : List UInt8) (h1 : ∀ s ∈ l, okT (bs s) = true) (h2 : okT sep = true) : ∀ j, j ≤ l.length → ∃ r : List Nat, joinN l sep j = enc r ∧ ∀ c ∈ r, isPt (c : Int) = true
  | 0, _ => ⟨[], rfl, fun c hc => by simp at hc⟩
  | j + 1, h => by
    obtain ⟨r, e, hr⟩ := joinN_enc l sep h1 h2 j (by omega)
    obtain ⟨e1, p1, _⟩ := okT_enc (h1 _ (List.getElem_mem (l := l) (n := j) (by omega)))
    obtain ⟨e2, p2, _⟩ := okT_enc h2
    by_cases h0 : j = 0
    · subst h0
      exact ⟨rl (bs l[0]), by rw [joinN_one, getD_getS l 0 (by omega)]; exact e1, p1⟩
    · refine ⟨(r ++ rl sep) ++ rl (bs l[j]), ?_, ?_⟩
      · rw [joinN_more l sep j h0, getD_getS l j (by omega), enc_append, enc_append, ← e, ← e1, ← e2]
      · intro c hc
        simp only [List.mem_append] at hc
        rcases hc with (hc | hc) | hc
        · exact hr c hc
        · exact p2 c hc
        · exact p1 c hc

def allOk (l : List ByteArray) : Bool := l.all (fun s => okT (bs s))
/-- do they make a text -/
def jOk (l : List ByteArray) (sep : List UInt8) : Bool := okT sep && (allOk l && decide ((joinN l sep l.length).length ≤ 1000))
def jTxt (l : List ByteArray) (sep : List UInt8) : List UInt8 := if jOk l sep = true then joinN l sep l.length else []
theorem jOk_sep {l : List ByteArray} {sep : List UInt8} (h : okT sep = false) : jOk l sep = false ∧ jTxt l sep = [] := by simp [jOk, jTxt, h]
theorem jOk_elem {l : List ByteArray} {sep : List UInt8} {s : ByteArray} (h : s ∈ l) (hs : okT (bs s) = false) : jOk l sep = false ∧ jTxt l sep = [] := by
  have : allOk l = false := by unfold allOk; rw [List.all_eq_false]; exact ⟨s, h, by simp [hs]⟩
  simp [jOk, jTxt, this]
theorem jOk_long {l : List ByteArray} {sep : List UInt8} (h : 1000 < (joinN l sep l.length).length) : jOk l sep = false ∧ jTxt l sep = [] := by
  have : ¬ (joinN l sep l.length).length ≤ 1000 := by omega
  simp [jOk, jTxt, this]
theorem jOk_yes {l : List ByteArray} {sep : List UInt8} (h1 : okT sep = true) (h2 : allOk l = true) (h : (joinN l sep l.length).length ≤ 1000) : jOk l sep = true ∧ jTxt l sep = joinN l sep l.length := by
  simp [jOk, jTxt, h1, h2, h]
theorem allOk_take {l : List ByteArray} {j : Nat} (h : j < l.length) (h1 : allOk (l.take j) = true) (h2 : okT (bs l[j]) = true) : allOk (l.take (j + 1)) = true := by
  unfold allOk at *
  rw [List.take_succ_eq_append_getElem h, List.all_append, h1]
  simp [h2]
theorem allOk_mem {l : List ByteArray} (h : allOk l = true) : ∀ s ∈ l, okT (bs s) = true := by
  unfold allOk at h; rw [List.all_eq_true] at h; exact h

set_option maxRecDepth 10000 in
set_option maxHeartbeats 1000000 in
theorem specJoined_any (a : Option Addr) (cap : Nat) (l : List ByteArray) (sep : ByteArray) (w0 : World) (h : RowS w0 a l) (hl : l.length ≤ 1048576) (hsm : ∀ s ∈ l, s.size ≤ 1048576) (hsep : sep.size ≤ 1048576) :
    Calls Tryd.prog 32 #[.slice a l.length cap, .string sep] w0 fun e w' => e = .returned (.tuple #[.string (ofL (jTxt l (bs sep))), .bool (jOk l (bs sep))]) ∧ Below w0.heap.size w0 w' := by
  obtain ⟨i0, hi, hz0, hz1, hz2⟩ := info_parts infoByte
  have HR := Lib.hid h
  have HS := Lib.hid hsm
  clear h hsm
  go_enter Tryd.func32, Tryd.ntmps32
  go_wp2_with fail
  refine (specTextOk_any sep _ (by omega)).mono ?_
  rintro e w ⟨rfl, hb1⟩
  have HB1 := Lib.hid hb1
  have HRW := Lib.hid (HR.out.below hb1)
  clear hb1
  cases hk : okT (bs sep)
  · obtain ⟨e1, e2⟩ := jOk_sep (l := l) hk
    go_wp2
    go_ret2
    rw [e1, e2]
    exact ⟨rfl, HB1.out⟩
  · have HK := Lib.hid hk
    clear hk
    go_wp2
    go_loopw [6, 7] (fun v i wr => ∃ j : Nat, j ≤ l.length ∧ i = .int .i64 j ∧ wr.ownsRow w.heap.size 5 1 v (joinN l (bs sep) j).length ((joinN l (bs sep) j).map byteV) ∧ Below w.heap.size w wr ∧ w.heap.size < wr.heap.size ∧ allOk (l.take j) = true ∧ (joinN l (bs sep) j).length ≤ 1000) (fun _ i _ => l.length - (intOf i).toNat)
    case atStart => exact ⟨0, Nat.zero_le _, rfl, ownsRow_empty _ _ _ (Nat.le_refl _), (Below.refl _ _).alloc (Nat.le_refl _) _, by simp, rfl, by simp [joinN]⟩
    case round =>
      obtain ⟨j, hj, rfl, hown, hb, hsz, hok, hlen⟩ := hrel
      have HB := Lib.hid hb
      have HOW := Lib.hid hown
      have HOK := Lib.hid hok
      clear hb hown hok
      by_cases hlt : j < l.length
      · rcases HRW.out with h0 | ⟨b, off, rfl, hbl, hc⟩
        · rw [h0] at hlt; exact absurd hlt (Nat.not_lt_zero _)
        have hcw := hc j hlt
        rw [getD_getS l j hlt] at hcw
        have hc0 : wr.cell? ⟨b, off + j, none⟩ = some (.string l[j]) := by rw [HB.out.cell (p := ⟨b, off + j, none⟩) hbl]; exact hcw
        have hmem := List.getElem_mem hlt
        have hxs := HS.out _ hmem
        have htk := allOk_take hlt HOK.out
        have hmono := joinN_mono l (bs sep) (j + 1) l.length hlt
        have hone := joinN_one l (bs sep)
        have hmore := joinN_more l (bs sep) j
        rw [getD_getS l j hlt] at hmore
        have hz : j = 0 → joinN l (bs sep) (j + 1) = bs l[j] := fun e => by subst e; rw [hone, getD_getS l 0 hlt]
        generalize l[j] = x at *
        obtain ⟨q, hq⟩ : ∃ q, (joinN l (bs sep) j).length = q := ⟨_, rfl⟩
        rw [hq] at hlen HOW
        have HQ := Lib.hid hq
        have HTK := Lib.hid htk
        have HZ := Lib.hid hz
        have HMO := Lib.hid hmore
        have HMN := Lib.hid hmono
        have HCW := Lib.hid hcw
        clear hc htk hone hmore hz hmono hq hcw
        cases hx : okT (bs x)
        · obtain ⟨e1, e2⟩ := jOk_elem (sep := bs sep) hmem hx
          have E1 := Lib.hid e1
          have E2 := Lib.hid e2
          clear e1 e2
          go_wp2_with fail
          refine (specTextOk_any x _ (by omega)).mono ?_
          rintro e w2 ⟨rfl, hb2⟩
          rw [hx]
          go_wp2
          go_ret2
          rw [E1.out, E2.out]
          exact ⟨rfl, HB1.out.trans ((HB.out.mono (Nat.le_refl _)).trans (hb2.mono HB.out.size) |>.mono HB1.out.size)⟩
        · have HX := Lib.hid hx
          clear hx
          go_wp2_with fail
          refine (specTextOk_any x _ (by omega)).mono ?_
          rintro e w2 ⟨rfl, hb2⟩
          rw [HX.out]
          have HB2 := Lib.hid (HB.out.trans (hb2.mono HB.out.size))
          have HOW2 := Lib.hid (ownsRow_below HOW.out hb2)
          have hsz2 : w.heap.size < w2.heap.size := Nat.lt_of_lt_of_le hsz hb2.size
          have hcx : w2.cell? ⟨b, off + j, none⟩ = some (.string x) := by rw [HB2.out.cell (p := ⟨b, off + j, none⟩) hbl]; exact HCW.out
          have hszl : w.heap.size ≤ w2.heap.size := by omega
          clear hb2 hc0
          by_cases h0 : j = 0
          · subst h0
            have hcx0 : w2.cell? ⟨b, off, none⟩ = some (.string x) := hcx
            have hn1 := HZ.out rfl
            have hq0 : q = 0 := by rw [← HQ.out]; rfl
            subst hq0
            have hlx : (joinN l (bs sep) (0 + 1)).length = 0 + x.size := by rw [hn1, bs_length]; omega
            have hmn := HMN.out
            rw [hlx] at hmn
            have HN1 := Lib.hid hn1
            have HLX := Lib.hid hlx
            clear hn1 hlx
            by_cases hlong : 1000 < 0 + x.size
            · obtain ⟨e1, e2⟩ := jOk_long (l := l) (sep := bs sep) (by omega)
              have E1 := Lib.hid e1
              have E2 := Lib.hid e2
              clear e1 e2
              go_wp2_with (at_builtin; refine Lib.wpList_append_own_string _ rfl _ _ 43 9 rfl w.heap.size 5 i0 Tryd.underlying43 Tryd.underlying9 hi hz0 hz1 hz2 _ _ _ rfl HOW2.out x rfl (by unfold maxLen; omega) (by omega) (by omega) ?_; intro v3 w3 hown3 hgr3 hnil3; obtain ⟨a3, c3, rfl⟩ := ownsRow_slice hown3)
              have hbz : Below w.heap.size w w3 := Below.grown HB2.out hgr3 HB2.out.size (ownBlock_lo HOW2.out)
              go_ret2
              rw [E1.out, E2.out]
              exact ⟨rfl, HB1.out.trans (hbz.mono HB1.out.size)⟩
            · go_wp2_with (at_builtin; refine Lib.wpList_append_own_string _ rfl _ _ 43 9 rfl w.heap.size 5 i0 Tryd.underlying43 Tryd.underlying9 hi hz0 hz1 hz2 _ _ _ rfl HOW2.out x rfl (by unfold maxLen; omega) (by omega) (by omega) ?_; intro v3 w3 hown3 hgr3 hnil3; obtain ⟨a3, c3, rfl⟩ := ownsRow_slice hown3)
              have hbz : Below w.heap.size w w3 := Below.grown HB2.out hgr3 HB2.out.size (ownBlock_lo HOW2.out)
              have hszz : w.heap.size < w3.heap.size := by have := hgr3.size; omega
              refine ⟨⟨0 + 1, by omega, by go_num, ?_, hbz, hszz, HTK.out HX.out, by rw [HLX.out]; omega⟩, by simp [intOf]; omega⟩
              rw [HLX.out, HN1.out]
              rw [Nat.zero_add] at hown3 ⊢
              exact hown3
          · have hmo := HMO.out h0
            have hlx : (joinN l (bs sep) (j + 1)).length = q + sep.size + x.size := by rw [hmo, List.length_append, List.length_append, HQ.out, bs_length, bs_length]
            have hmn := HMN.out
            rw [hlx] at hmn
            have hji : (0 : Int) < j := by omega
            have HN1 := Lib.hid hmo
            have HLX := Lib.hid hlx
            clear hmo hlx
            by_cases hlong : 1000 < q + sep.size + x.size
            · obtain ⟨e1, e2⟩ := jOk_long (l := l) (sep := bs sep) (by omega)
              have E1 := Lib.hid e1
              have E2 := Lib.hid e2
              clear e1 e2
              go_wp2_with (at_builtin; first | (refine Lib.wpList_append_own_string _ rfl _ _ 43 9 rfl w.heap.size 5 i0 Tryd.underlying43 Tryd.underlying9 hi hz0 hz1 hz2 _ _ _ rfl HOW2.out sep rfl (by unfold maxLen; omega) (by omega) (by omega) ?_; intro v3 w3 hown3 hgr3 hnil3; have hbz3 : Below w.heap.size w w3 := Below.grown HB2.out hgr3 HB2.out.size (ownBlock_lo HOW2.out); have hcx3 : w3.cell? ⟨b, off + j, none⟩ = some (.string x) := (by rw [hbz3.cell (p := ⟨b, off + j, none⟩) hbl]; exact HCW.out); have hsz3 : w.heap.size ≤ w3.heap.size := hbz3.size) | (refine Lib.wpList_append_own_string _ rfl _ _ 43 9 rfl w.heap.size 5 i0 Tryd.underlying43 Tryd.underlying9 hi hz0 hz1 hz2 _ _ _ rfl hown3 x rfl (by unfold maxLen; omega) (by omega) (by omega) ?_; intro v4 w4 hown4 hgr4 hnil4; obtain ⟨a4, c4, rfl⟩ := ownsRow_slice hown4))
              have hbz : Below w.heap.size w w4 := Below.grown hbz3 hgr4 hbz3.size (ownBlock_lo hown3)
              go_ret2
              rw [E1.out, E2.out]
              exact ⟨rfl, HB1.out.trans (hbz.mono HB1.out.size)⟩
            · go_wp2_with (at_builtin; first | (refine Lib.wpList_append_own_string _ rfl _ _ 43 9 rfl w.heap.size 5 i0 Tryd.underlying43 Tryd.underlying9 hi hz0 hz1 hz2 _ _ _ rfl HOW2.out sep rfl (by unfold maxLen; omega) (by omega) (by omega) ?_; intro v3 w3 hown3 hgr3 hnil3; have hbz3 : Below w.heap.size w w3 := Below.grown HB2.out hgr3 HB2.out.size (ownBlock_lo HOW2.out); have hcx3 : w3.cell? ⟨b, off + j, none⟩ = some (.string x) := (by rw [hbz3.cell (p := ⟨b, off + j, none⟩) hbl]; exact HCW.out); have hsz3 : w.heap.size ≤ w3.heap.size := hbz3.size) | (refine Lib.wpList_append_own_string _ rfl _ _ 43 9 rfl w.heap.size 5 i0 Tryd.underlying43 Tryd.underlying9 hi hz0 hz1 hz2 _ _ _ rfl hown3 x rfl (by unfold maxLen; omega) (by omega) (by omega) ?_; intro v4 w4 hown4 hgr4 hnil4; obtain ⟨a4, c4, rfl⟩ := ownsRow_slice hown4))
              have hbz : Below w.heap.size w w4 := Below.grown hbz3 hgr4 hbz3.size (ownBlock_lo hown3)
              have hszz : w.heap.size < w4.heap.size := by have := hgr3.size; have := hgr4.size; omega
              refine ⟨⟨j + 1, by omega, by go_num, ?_, hbz, hszz, HTK.out HX.out, by rw [HLX.out]; omega⟩, by simp [intOf]; omega⟩
              rw [HLX.out, HN1.out, List.map_append, List.map_append]
              exact hown4
      · obtain rfl : j = l.length := by omega
        have hall : l.take l.length = l := List.take_of_length_le (Nat.le_refl _)
        rw [hall] at HOK
        obtain ⟨e1, e2⟩ := jOk_yes HK.out HOK.out hlen
        have hconv := textOfAny HOW.out
        have E1 := Lib.hid e1
        have E2 := Lib.hid e2
        clear e1 e2
        go_wp2
        go_ret2
        rw [E1.out, E2.out]
        exact ⟨rfl, HB1.out.trans (HB.out.mono HB1.out.size)⟩

/-- a string that is too long is no text -/
theorem implTextOk_long (s : ByteArray) (w : World) (h : 1000 < s.size) : Calls Tryd.prog 39 #[.string s] w fun e w' => e = .returned (.bool false) ∧ Below w.heap.size w w' := by
  have hl : (1000 : Int) < (s.size : Int) := by omega
  have HA := Lib.hid (show Calls Tryd.prog 37 #[.string s] w fun e w' => e = .returned (.tuple #[.slice none 0 0, .bool false]) ∧ w' = w by
    go_enter Tryd.func37, Tryd.ntmps37
    go_wp2
    go_ret2
    exact ⟨rfl, rfl⟩)
  go_enter Tryd.func39, Tryd.ntmps39
  go_wp2_with fail
  refine HA.out.mono ?_
  rintro e w1 ⟨rfl, rfl⟩
  go_wp2
  go_ret
  exact ⟨rfl, Below.refl _ _⟩

set_option maxRecDepth 10000 in
set_option maxHeartbeats 1000000 in
theorem implJoined_any (a : Option Addr) (cap : Nat) (l : List ByteArray) (sep : ByteArray) (w : World) (h : RowS w a l) (hcap : l.length ≤ cap) (hl : l.length ≤ 1048576) (hsm : ∀ s ∈ l, s.size ≤ 1048576) (hsep : sep.size ≤ 1048576) (hT : Tabs w) :
    Calls Tryd.prog 34 #[.slice a l.length cap, .string sep] w fun e w' => e = .returned (.tuple #[.string (ofL (jTxt l (bs sep))), .bool (jOk l (bs sep))]) ∧ Below w.heap.size w w' := by
  have HR := Lib.hid h
  have HS := Lib.hid hsm
  have HT := Lib.hid hT
  clear h hsm hT
  go_enter Tryd.func34, Tryd.ntmps34
  go_wp2
  go_loopw [11] (fun i wr => ∃ j : Nat, j ≤ l.length ∧ i = .int .i64 j ∧ Below w.heap.size w wr ∧ allOk (l.take j) = true) (fun i _ => l.length - (intOf i).toNat)
  case atStart => exact ⟨0, Nat.zero_le _, rfl, Below.refl _ _, rfl⟩
  case round =>
    obtain ⟨j, hj, rfl, hb, hok⟩ := hrel
    have HB := Lib.hid hb
    have HOK := Lib.hid hok
    clear hb hok
    by_cases hlt : j < l.length
    · have hR : RowS wr a l := HR.out.below HB.out
      rcases hR with h0 | ⟨b, off, rfl, hbl, hc⟩
      · rw [h0] at hlt; exact absurd hlt (Nat.not_lt_zero _)
      have hc0 := hc j hlt
      rw [getD_getS l j hlt] at hc0
      have hmem := List.getElem_mem hlt
      have hxs := HS.out _ hmem
      have htk := allOk_take hlt HOK.out
      generalize l[j] = x at *
      have HTK := Lib.hid htk
      clear hc htk
      cases hx : okT (bs x)
      · obtain ⟨e1, e2⟩ := jOk_elem (sep := bs sep) hmem hx
        have E1 := Lib.hid e1
        have E2 := Lib.hid e2
        clear e1 e2
        go_wp2_with fail
        refine (implTextOk_any x _ (by omega) (HT.out.below HB.out)).mono ?_
        rintro e w2 ⟨rfl, hb2⟩
        rw [hx]
        go_wp2
        go_ret2
        rw [E1.out, E2.out]
        exact ⟨rfl, HB.out.trans (hb2.mono HB.out.size)⟩
      · have HX := Lib.hid hx
        clear hx
        go_wp2_with fail
        refine (implTextOk_any x _ (by omega) (HT.out.below HB.out)).mono ?_
        rintro e w2 ⟨rfl, hb2⟩
        rw [HX.out]
        go_wp2
        exact ⟨⟨j + 1, by omega, by go_num, HB.out.trans (hb2.mono HB.out.size), HTK.out HX.out⟩, by simp [intOf]; omega⟩
    · obtain rfl : j = l.length := by omega
      have hall : l.take l.length = l := List.take_of_length_le (Nat.le_refl _)
      rw [hall] at HOK
      have hmem := allOk_mem HOK.out
      have h1000 : ∀ s ∈ l, s.size ≤ 1000 := fun s hs => by
        have := (okT_enc (hmem s hs)).2.2
        rwa [bs_length] at this
      have hsml := joinN_small l (bs sep) h1000 (by rw [bs_length]; exact hsep) l.length (Nat.le_refl _)
      have hjj : Lib.join (l.map (·.data.toList)) sep.data.toList = joinN l (bs sep) l.length := by
        have := joinN_join l (bs sep) l.length (Nat.le_refl _)
        rw [hall] at this
        exact this.symm
      have henc : okT (bs sep) = true → (joinN l (bs sep) l.length).length ≤ 1000 → okT (joinN l (bs sep) l.length) = true := fun h1 h2 => by
        obtain ⟨r, e, hr⟩ := joinN_enc l (bs sep) hmem h1 l.length (Nat.le_refl _)
        rw [e] at h2 ⊢
        exact (okT_enc' hr h2).1
      have HJJ := Lib.hid hjj
      have HEN := Lib.hid henc
      have hJ : (Calls Tryd.prog 49 #[.slice a l.length cap, .string sep] wr fun e w' => e = .returned (.string (ofL (joinN l (bs sep) l.length))) ∧ Below wr.heap.size wr w') := by
        have hR : RowS wr a l := HR.out.below HB.out
        rcases hR with h0 | ⟨b, off, rfl, hbl, hc⟩
        · subst h0
          refine (Tryd.strings_Join_none a cap sep wr).mono ?_
          rintro e w' ⟨rfl, rfl⟩
          exact ⟨rfl, Below.refl _ _⟩
        · refine (Tryd.strings_Join b off cap l sep wr (fun k x hx => ?_) hbl (by omega) hcap (by rw [HJJ.out]; omega)).mono ?_
          · obtain ⟨hk, rfl⟩ := List.getElem?_eq_some_iff.1 hx
            rw [hc k hk, getD_getS l k hk]
          · rintro e w' ⟨rfl, hb'⟩
            rw [HJJ.out]
            exact ⟨rfl, hb'⟩
      have HJ := Lib.hid hJ
      clear hJ
      have hyes := fun h1 h2 => jOk_yes (l := l) (sep := bs sep) h1 HOK.out h2
      have hlongg := fun h => jOk_long (l := l) (sep := bs sep) h
      have hsepp := fun h => jOk_sep (l := l) (sep := bs sep) h
      have hszJ := size_ofL (joinN l (bs sep) l.length)
      have hbsJ := bs_ofL (joinN l (bs sep) l.length)
      generalize joinN l (bs sep) l.length = J at *
      have HYES := Lib.hid hyes
      have HLON := Lib.hid hlongg
      have HSEP := Lib.hid hsepp
      have HSZ := Lib.hid hszJ
      have HBJ := Lib.hid hbsJ
      clear hmem h1000 hjj henc hall hyes hlongg hsepp hszJ hbsJ
      go_wp2_with fail
      refine HJ.out.mono ?_
      rintro e w2 ⟨rfl, hb2⟩
      have HB2 := Lib.hid (HB.out.trans (hb2.mono HB.out.size))
      clear hb2
      go_wp2_with fail
      refine (implTextOk_any sep _ (by omega) (HT.out.below HB2.out)).mono ?_
      rintro e w3 ⟨rfl, hb3⟩
      have HB3 := Lib.hid (HB2.out.trans (hb3.mono HB2.out.size))
      clear hb3
      cases hk : okT (bs sep)
      · obtain ⟨e1, e2⟩ := HSEP.out hk
        go_wp2
        go_ret2
        rw [e1, e2]
        exact ⟨rfl, HB3.out⟩
      · by_cases hlong : 1000 < J.length
        · obtain ⟨e1, e2⟩ := HLON.out hlong
          have E1 := Lib.hid e1
          have E2 := Lib.hid e2
          clear e1 e2 hk
          go_wp2_with fail
          refine (implTextOk_long (ofL J) _ (by rw [HSZ.out]; exact hlong)).mono ?_
          rintro e w4 ⟨rfl, hb4⟩
          go_wp2
          go_ret2
          rw [E1.out, E2.out]
          exact ⟨rfl, HB3.out.trans (hb4.mono HB3.out.size)⟩
        · obtain ⟨e1, e2⟩ := HYES.out hk (by omega)
          have ek := HEN.out hk (by omega)
          have E1 := Lib.hid e1
          have E2 := Lib.hid e2
          have EK := Lib.hid ek
          clear e1 e2 hk ek
          go_wp2_with fail
          refine (implTextOk_any (ofL J) _ (by rw [HSZ.out]; omega) (HT.out.below HB3.out)).mono ?_
          rintro e w4 ⟨rfl, hb4⟩
          rw [HBJ.out, EK.out]
          go_wp2
          go_ret2
          rw [E1.out, E2.out]
          exact ⟨rfl, HB3.out.trans (hb4.mono HB3.out.size)⟩
end Go.Proofs.YtbdamjhgggnihaaDoor
