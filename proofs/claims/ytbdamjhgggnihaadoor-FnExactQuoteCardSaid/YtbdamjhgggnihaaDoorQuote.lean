/-
  The contracts of Quote, the reference's and the program's: a text in quotes. Conditions: as in the text on Runes.
-/
import Derived.Test.YtbdamjhgggnihaaDoorQuoteL
import Derived.Test.YtbdamjhgggnihaaDoorBuilt
import Derived.Test.YtbdamjhgggnihaaDoorCased
namespace Go.Proofs.YtbdamjhgggnihaaDoor
open Go.RowKit
open Go.Lib hiding intOf
set_option linter.unusedVariables false
set_option linter.unusedSimpArgs false

theorem cells_new (w : World) (xs : List Value) (t : TypeId) (h : xs.length ≤ 100) : ∀ j u, xs[j]? = some u → (w.alloc (.cells xs.toArray t)).cell? ((⟨w.heap.size, 0, none⟩ : Addr).add j) = some u :=
  ownsRow_news (World.ownsRow_lit (base := w.heap.size) (e := t) (size := 1) w xs.toArray xs.length (Nat.le_refl _) (by unfold maxLen; omega) (by simp))
/-- what Quote gives -/
def quoteT (l : List UInt8) : List UInt8 := if okT l = true then qtL l ++ [34] else []
theorem okT_len {s : ByteArray} (h : okT (bs s) = true) : s.size ≤ 1000 := by
  have := (okT_enc h).2.2
  rwa [bs_length] at this

set_option maxRecDepth 10000 in
set_option maxHeartbeats 1000000 in
theorem quoted_any (s : ByteArray) (w : World) (hs : s.size ≤ 1000) :
    Calls Tryd.prog 42 #[.string s] w fun e w' => e = .returned (.string (ofL (qtL (bs s) ++ [34]))) ∧ Below w.heap.size w w' := by
  go_enter Tryd.func42, Tryd.ntmps42
  go_wp2_with fail
  refine (writeByte_any w.heap.size w.heap.size [] 34 34 rfl _ (built_new w) (by simp) (by simp)).mono ?_
  rintro e w1 ⟨rfl, hbu1, hb1⟩
  have HB1 := Lib.hid (((Below.refl w.heap.size w).alloc (Nat.le_refl _) _).trans hb1)
  have HBU1 := Lib.hid hbu1
  clear hbu1 hb1
  go_wp2
  go_loopw [8] (fun i wr => ∃ j : Nat, j ≤ s.size ∧ i = .int .i64 j ∧ Built w.heap.size w.heap.size (qtL ((bs s).take j)) wr ∧ Below w.heap.size w wr) (fun i _ => s.size - (intOf i).toNat)
  case atStart => exact ⟨0, Nat.zero_le _, rfl, HBU1.out, HB1.out⟩
  case round =>
    obtain ⟨j, hj, rfl, hbu, hb⟩ := hrel
    have HB := Lib.hid hb
    have HBU := Lib.hid hbu
    have hlen := qtL_length ((bs s).take j)
    rw [List.length_take, bs_length] at hlen
    have hsz := hb.size
    clear hb hbu
    by_cases hlt : j < s.size
    · have htk := qtL_take (bs s) j (by rw [bs_length]; exact hlt)
      rw [bs_get s j hlt] at htk
      obtain ⟨x, hx⟩ : ∃ x, s[j] = x := ⟨_, rfl⟩
      rw [hx] at htk
      have hx' : s[j] = x := hx
      have HTK := Lib.hid htk
      clear htk hx
      by_cases c0 : (x.toNat : Int) = 34
      · have HQ := Lib.hid (show qtB x = [92, x] by unfold qtB; rw [if_pos (by omega)])
        go_wp2_with fail
        refine (writeByte_any _ _ _ 92 92 rfl _ HBU.out (by first | omega | (simp; omega)) (by omega)).mono ?_
        rintro e v0 ⟨rfl, hbu0, hb0⟩
        have hzz0 := hb0.size
        go_wp2_with fail
        refine (writeByte_any _ _ _ x 34 (by omega) _ hbu0 (by first | omega | (simp; omega)) (by omega)).mono ?_
        rintro e v1 ⟨rfl, hbu1, hb1⟩
        have hzz1 := hb1.size
        go_wp2
        refine ⟨⟨j + 1, by omega, by go_num, ?_, ((HB.out.trans hb0).trans hb1)⟩, by simp [intOf]; omega⟩
        rw [HTK.out, HQ.out]
        simpa using hbu1
      by_cases c1 : (x.toNat : Int) = 92
      · have HQ := Lib.hid (show qtB x = [92, x] by unfold qtB; rw [if_pos (by omega)])
        go_wp2_with fail
        refine (writeByte_any _ _ _ 92 92 rfl _ HBU.out (by first | omega | (simp; omega)) (by omega)).mono ?_
        rintro e v0 ⟨rfl, hbu0, hb0⟩
        have hzz0 := hb0.size
        go_wp2_with fail
        refine (writeByte_any _ _ _ x 92 (by omega) _ hbu0 (by first | omega | (simp; omega)) (by omega)).mono ?_
        rintro e v1 ⟨rfl, hbu1, hb1⟩
        have hzz1 := hb1.size
        go_wp2
        refine ⟨⟨j + 1, by omega, by go_num, ?_, ((HB.out.trans hb0).trans hb1)⟩, by simp [intOf]; omega⟩
        rw [HTK.out, HQ.out]
        simpa using hbu1
      by_cases c2 : (x.toNat : Int) = 10
      · have HQ := Lib.hid (show qtB x = [92, 110] by unfold qtB; rw [if_neg (by omega)]; rw [if_pos (by omega)])
        go_wp2_with fail
        refine (writeString_any _ _ _ (ofL [92, 110]) _ HBU.out (by omega) (by simp [size_ofL]) (by omega)).mono ?_
        rintro e v0 ⟨rfl, hbu0, hb0⟩
        go_wp2
        refine ⟨⟨j + 1, by omega, by go_num, ?_, HB.out.trans hb0⟩, by simp [intOf]; omega⟩
        rw [HTK.out, HQ.out]
        exact hbu0
      by_cases c3 : (x.toNat : Int) = 9
      · have HQ := Lib.hid (show qtB x = [92, 116] by unfold qtB; rw [if_neg (by omega)]; rw [if_neg (by omega)]; rw [if_pos (by omega)])
        go_wp2_with fail
        refine (writeString_any _ _ _ (ofL [92, 116]) _ HBU.out (by omega) (by simp [size_ofL]) (by omega)).mono ?_
        rintro e v0 ⟨rfl, hbu0, hb0⟩
        go_wp2
        refine ⟨⟨j + 1, by omega, by go_num, ?_, HB.out.trans hb0⟩, by simp [intOf]; omega⟩
        rw [HTK.out, HQ.out]
        exact hbu0
      by_cases c4 : (x.toNat : Int) = 13
      · have HQ := Lib.hid (show qtB x = [92, 114] by unfold qtB; rw [if_neg (by omega)]; rw [if_neg (by omega)]; rw [if_neg (by omega)]; rw [if_pos (by omega)])
        go_wp2_with fail
        refine (writeString_any _ _ _ (ofL [92, 114]) _ HBU.out (by omega) (by simp [size_ofL]) (by omega)).mono ?_
        rintro e v0 ⟨rfl, hbu0, hb0⟩
        go_wp2
        refine ⟨⟨j + 1, by omega, by go_num, ?_, HB.out.trans hb0⟩, by simp [intOf]; omega⟩
        rw [HTK.out, HQ.out]
        exact hbu0
      have HQ := Lib.hid (show qtB x = [x] by unfold qtB; rw [if_neg (by omega)]; rw [if_neg (by omega)]; rw [if_neg (by omega)]; rw [if_neg (by omega)])
      go_wp2_with fail
      refine (writeByte_any _ _ _ x (x.toNat : Int) rfl _ HBU.out (by first | omega | (simp; omega)) (by omega)).mono ?_
      rintro e v0 ⟨rfl, hbu0, hb0⟩
      have hzz0 := hb0.size
      go_wp2
      refine ⟨⟨j + 1, by omega, by go_num, ?_, (HB.out.trans hb0)⟩, by simp [intOf]; omega⟩
      rw [HTK.out, HQ.out]
      simpa using hbu0
    · obtain rfl : j = s.size := by omega
      rw [take_all] at HBU hlen
      go_wp2_with fail
      refine (writeByte_any _ _ _ 34 34 rfl _ HBU.out (by omega) hsz).mono ?_
      rintro e w2 ⟨rfl, hbu2, hb2⟩
      have hsz2 := hb2.size
      go_wp2_with fail
      refine (builtString_any _ _ _ _ hbu2 (by omega)).mono ?_
      rintro e w3 ⟨rfl, hb3⟩
      go_wp2
      go_ret
      exact ⟨rfl, (HB.out.trans hb2).trans hb3⟩

theorem implQuote_any (s : ByteArray) (w : World) (hs : s.size ≤ 1099511627776) (hT : Tabs w) :
    Calls Tryd.prog 22 #[.string s] w fun e w' => e = .returned (.string (ofL (quoteT (bs s)))) ∧ Below w.heap.size w w' := by
  have HT := Lib.hid hT
  clear hT
  go_enter Tryd.func22, Tryd.ntmps22
  go_wp2_with fail
  refine (implTextOk_any s _ hs HT.out).mono ?_
  rintro e w1 ⟨rfl, hb1⟩
  have HB1 := Lib.hid hb1
  clear hb1
  cases hk : okT (bs s)
  · have HE := Lib.hid (show quoteT (bs s) = [] by unfold quoteT; rw [hk]; rfl)
    go_wp2
    go_ret
    rw [HE.out]
    exact ⟨rfl, HB1.out⟩
  · have HE := Lib.hid (show quoteT (bs s) = qtL (bs s) ++ [34] by unfold quoteT; rw [hk]; rfl)
    have hl := okT_len hk
    go_wp2_with fail
    refine (quoted_any s _ hl).mono ?_
    rintro e w2 ⟨rfl, hb2⟩
    go_wp2
    go_ret
    rw [HE.out]
    exact ⟨rfl, HB1.out.trans (hb2.mono HB1.out.size)⟩

set_option maxRecDepth 10000 in
set_option maxHeartbeats 2000000 in
theorem specQuote_any (s : ByteArray) (w0 : World) (hs : s.size ≤ 1099511627776) :
    Calls Tryd.prog 21 #[.string s] w0 fun e w' => e = .returned (.string (ofL (quoteT (bs s)))) ∧ Below w0.heap.size w0 w' := by
  obtain ⟨i0, hi, hz0, hz1, hz2⟩ := info_parts infoByte
  go_enter Tryd.func21, Tryd.ntmps21
  go_wp2_with fail
  refine (specTextOk_any s _ hs).mono ?_
  rintro e w ⟨rfl, hb1⟩
  have HB1 := Lib.hid hb1
  clear hb1
  cases hk : okT (bs s)
  · have HE := Lib.hid (show quoteT (bs s) = [] by unfold quoteT; rw [hk]; rfl)
    go_wp2
    go_ret
    rw [HE.out]
    exact ⟨rfl, HB1.out⟩
  · have HE := Lib.hid (show quoteT (bs s) = qtL (bs s) ++ [34] by unfold quoteT; rw [hk]; rfl)
    have hl := okT_len hk
    clear hk
    go_wp2
    go_loopw [3, 4] (fun v i wr => ∃ j : Nat, j ≤ s.size ∧ i = .int .i64 j ∧ wr.ownsRow w.heap.size 5 1 v (qtL ((bs s).take j)).length ((qtL ((bs s).take j)).map byteV) ∧ Below w.heap.size w wr ∧ w.heap.size < wr.heap.size) (fun _ i _ => s.size - (intOf i).toNat)
    case atStart => exact ⟨0, Nat.zero_le _, rfl, ownsRow_one w w.heap.size 5 _ (Nat.le_refl _), (Below.refl _ _).alloc (Nat.le_refl _) _, by simp⟩
    case round =>
      obtain ⟨j, hj, rfl, hown, hb, hsz⟩ := hrel
      have HB := Lib.hid hb
      have hlen := qtL_length ((bs s).take j)
      rw [List.length_take, bs_length] at hlen
      by_cases hlt : j < s.size
      · have htk := qtL_take (bs s) j (by rw [bs_length]; exact hlt)
        rw [bs_get s j hlt] at htk
        obtain ⟨x, hx⟩ : ∃ x, s[j] = x := ⟨_, rfl⟩
        rw [hx] at htk
        have hx' : s[j] = x := hx
        obtain ⟨q, hq⟩ : ∃ q, (qtL ((bs s).take j)).length = q := ⟨_, rfl⟩
        rw [hq] at hlen hown
        have HL := Lib.hid hq
        have HOW := Lib.hid hown
        have HTK := Lib.hid htk
        clear htk hx hown hq hb
        by_cases c0 : (x.toNat : Int) = 34
        · have HQ := Lib.hid (show qtB x = [92, x] by unfold qtB; rw [if_pos (by omega)])
          go_wp2_with (at_builtin; refine wpList_append_own _ rfl _ _ 43 rfl w.heap.size 5 i0 (.int .u8 0) 1 1 Tryd.underlying43 hi hz0 hz1 hz2 rfl (by decide) _ _ _ rfl (HOW.out.alloc _) ⟨wr.heap.size, 0, none⟩ 2 2 [.int .u8 92, .int .u8 34] rfl rfl (cells_new _ _ _ (by simp)) (fun u hu => by simp at hu; first | (subst hu; rfl) | (rcases hu with rfl | rfl <;> rfl)) (by unfold maxLen; omega) (by omega) (by first | omega | (simp; omega) | simp) ?_; intro v2 w2 hown2 hgr2 hnil2)
          have hbz : Below w.heap.size w w2 := Below.grown (HB.out.alloc HB.out.size _) hgr2 (by simp; omega) (ownBlock_lo HOW.out)
          have hsz2 : w.heap.size < w2.heap.size := by have := hgr2.size; simp at this; omega
          refine ⟨⟨j + 1, by omega, by go_num, ?_, hbz, hsz2⟩, by simp [intOf]; omega⟩
          rw [HTK.out, HQ.out, List.length_append, List.map_append, HL.out]
          have e : byteV x = .int .u8 34 := by unfold byteV; congr 1
          rw [show List.map byteV [92, x] = [.int .u8 92, byteV x] from rfl, e]
          exact hown2
        by_cases c1 : (x.toNat : Int) = 92
        · have HQ := Lib.hid (show qtB x = [92, x] by unfold qtB; rw [if_pos (by omega)])
          go_wp2_with (at_builtin; refine wpList_append_own _ rfl _ _ 43 rfl w.heap.size 5 i0 (.int .u8 0) 1 1 Tryd.underlying43 hi hz0 hz1 hz2 rfl (by decide) _ _ _ rfl (HOW.out.alloc _) ⟨wr.heap.size, 0, none⟩ 2 2 [.int .u8 92, .int .u8 92] rfl rfl (cells_new _ _ _ (by simp)) (fun u hu => by simp at hu; first | (subst hu; rfl) | (rcases hu with rfl | rfl <;> rfl)) (by unfold maxLen; omega) (by omega) (by first | omega | (simp; omega) | simp) ?_; intro v2 w2 hown2 hgr2 hnil2)
          have hbz : Below w.heap.size w w2 := Below.grown (HB.out.alloc HB.out.size _) hgr2 (by simp; omega) (ownBlock_lo HOW.out)
          have hsz2 : w.heap.size < w2.heap.size := by have := hgr2.size; simp at this; omega
          refine ⟨⟨j + 1, by omega, by go_num, ?_, hbz, hsz2⟩, by simp [intOf]; omega⟩
          rw [HTK.out, HQ.out, List.length_append, List.map_append, HL.out]
          have e : byteV x = .int .u8 92 := by unfold byteV; congr 1
          rw [show List.map byteV [92, x] = [.int .u8 92, byteV x] from rfl, e]
          exact hown2
        by_cases c2 : (x.toNat : Int) = 10
        · have HQ := Lib.hid (show qtB x = [92, 110] by unfold qtB; rw [if_neg (by omega)]; rw [if_pos (by omega)])
          go_wp2_with (at_builtin; refine wpList_append_own _ rfl _ _ 43 rfl w.heap.size 5 i0 (.int .u8 0) 1 1 Tryd.underlying43 hi hz0 hz1 hz2 rfl (by decide) _ _ _ rfl (HOW.out.alloc _) ⟨wr.heap.size, 0, none⟩ 2 2 [.int .u8 92, .int .u8 110] rfl rfl (cells_new _ _ _ (by simp)) (fun u hu => by simp at hu; first | (subst hu; rfl) | (rcases hu with rfl | rfl <;> rfl)) (by unfold maxLen; omega) (by omega) (by first | omega | (simp; omega) | simp) ?_; intro v2 w2 hown2 hgr2 hnil2)
          have hbz : Below w.heap.size w w2 := Below.grown (HB.out.alloc HB.out.size _) hgr2 (by simp; omega) (ownBlock_lo HOW.out)
          have hsz2 : w.heap.size < w2.heap.size := by have := hgr2.size; simp at this; omega
          refine ⟨⟨j + 1, by omega, by go_num, ?_, hbz, hsz2⟩, by simp [intOf]; omega⟩
          rw [HTK.out, HQ.out, List.length_append, List.map_append, HL.out]
          exact hown2
        by_cases c3 : (x.toNat : Int) = 9
        · have HQ := Lib.hid (show qtB x = [92, 116] by unfold qtB; rw [if_neg (by omega)]; rw [if_neg (by omega)]; rw [if_pos (by omega)])
          go_wp2_with (at_builtin; refine wpList_append_own _ rfl _ _ 43 rfl w.heap.size 5 i0 (.int .u8 0) 1 1 Tryd.underlying43 hi hz0 hz1 hz2 rfl (by decide) _ _ _ rfl (HOW.out.alloc _) ⟨wr.heap.size, 0, none⟩ 2 2 [.int .u8 92, .int .u8 116] rfl rfl (cells_new _ _ _ (by simp)) (fun u hu => by simp at hu; first | (subst hu; rfl) | (rcases hu with rfl | rfl <;> rfl)) (by unfold maxLen; omega) (by omega) (by first | omega | (simp; omega) | simp) ?_; intro v2 w2 hown2 hgr2 hnil2)
          have hbz : Below w.heap.size w w2 := Below.grown (HB.out.alloc HB.out.size _) hgr2 (by simp; omega) (ownBlock_lo HOW.out)
          have hsz2 : w.heap.size < w2.heap.size := by have := hgr2.size; simp at this; omega
          refine ⟨⟨j + 1, by omega, by go_num, ?_, hbz, hsz2⟩, by simp [intOf]; omega⟩
          rw [HTK.out, HQ.out, List.length_append, List.map_append, HL.out]
          exact hown2
        by_cases c4 : (x.toNat : Int) = 13
        · have HQ := Lib.hid (show qtB x = [92, 114] by unfold qtB; rw [if_neg (by omega)]; rw [if_neg (by omega)]; rw [if_neg (by omega)]; rw [if_pos (by omega)])
          go_wp2_with (at_builtin; refine wpList_append_own _ rfl _ _ 43 rfl w.heap.size 5 i0 (.int .u8 0) 1 1 Tryd.underlying43 hi hz0 hz1 hz2 rfl (by decide) _ _ _ rfl (HOW.out.alloc _) ⟨wr.heap.size, 0, none⟩ 2 2 [.int .u8 92, .int .u8 114] rfl rfl (cells_new _ _ _ (by simp)) (fun u hu => by simp at hu; first | (subst hu; rfl) | (rcases hu with rfl | rfl <;> rfl)) (by unfold maxLen; omega) (by omega) (by first | omega | (simp; omega) | simp) ?_; intro v2 w2 hown2 hgr2 hnil2)
          have hbz : Below w.heap.size w w2 := Below.grown (HB.out.alloc HB.out.size _) hgr2 (by simp; omega) (ownBlock_lo HOW.out)
          have hsz2 : w.heap.size < w2.heap.size := by have := hgr2.size; simp at this; omega
          refine ⟨⟨j + 1, by omega, by go_num, ?_, hbz, hsz2⟩, by simp [intOf]; omega⟩
          rw [HTK.out, HQ.out, List.length_append, List.map_append, HL.out]
          exact hown2
        have HQ := Lib.hid (show qtB x = [x] by unfold qtB; rw [if_neg (by omega)]; rw [if_neg (by omega)]; rw [if_neg (by omega)]; rw [if_neg (by omega)])
        go_wp2_with (at_builtin; refine wpList_append_own _ rfl _ _ 43 rfl w.heap.size 5 i0 (.int .u8 0) 1 1 Tryd.underlying43 hi hz0 hz1 hz2 rfl (by decide) _ _ _ rfl (HOW.out.alloc _) ⟨wr.heap.size, 0, none⟩ 1 1 [.int .u8 (x.toNat : Int)] rfl rfl (cells_new _ _ _ (by simp)) (fun u hu => by simp at hu; first | (subst hu; rfl) | (rcases hu with rfl | rfl <;> rfl)) (by unfold maxLen; omega) (by omega) (by first | omega | (simp; omega) | simp) ?_; intro v2 w2 hown2 hgr2 hnil2)
        have hbz : Below w.heap.size w w2 := Below.grown (HB.out.alloc HB.out.size _) hgr2 (by simp; omega) (ownBlock_lo HOW.out)
        have hsz2 : w.heap.size < w2.heap.size := by have := hgr2.size; simp at this; omega
        refine ⟨⟨j + 1, by omega, by go_num, ?_, hbz, hsz2⟩, by simp [intOf]; omega⟩
        rw [HTK.out, HQ.out, List.length_append, List.map_append, HL.out]
        exact hown2
      · obtain rfl : j = s.size := by omega
        rw [take_all] at hlen hown
        obtain ⟨q, hq⟩ : ∃ q, (qtL (bs s)).length = q := ⟨_, rfl⟩
        rw [hq] at hlen hown
        have HOW := Lib.hid hown
        clear hown hb hq
        go_wp2_with (at_builtin; refine wpList_append_own _ rfl _ _ 43 rfl w.heap.size 5 i0 (.int .u8 0) 1 1 Tryd.underlying43 hi hz0 hz1 hz2 rfl (by decide) _ _ _ rfl (HOW.out.alloc _) ⟨wr.heap.size, 0, none⟩ 1 1 [.int .u8 34] rfl rfl (cells_new _ _ _ (by simp)) (fun u hu => by simp at hu; first | (subst hu; rfl) | (rcases hu with rfl | rfl <;> rfl)) (by unfold maxLen; omega) (by omega) (by first | omega | (simp; omega) | simp) ?_; intro v2 w2 hown2 hgr2 hnil2; have hconv := textOfAny (show w2.ownsRow w.heap.size 5 1 v2 (q + 1) ((qtL (bs s) ++ [34]).map byteV) by rw [List.map_append]; exact hown2))
        have hbz : Below w.heap.size w w2 := Below.grown (HB.out.alloc HB.out.size _) hgr2 (by simp; omega) (ownBlock_lo HOW.out)
        go_ret
        rw [HE.out]
        exact ⟨rfl, HB1.out.trans (hbz.mono HB1.out.size)⟩

end Go.Proofs.YtbdamjhgggnihaaDoor
