/-
  The contracts of JsonString, the reference's and the program's: a text as a string of records. Conditions: as in the text on Runes.
-/
import Derived.Test.YtbdamjhgggnihaaDoorQuoteL
import Derived.Test.YtbdamjhgggnihaaDoorBuilt
import Derived.Test.YtbdamjhgggnihaaDoorCased
import Derived.Test.YtbdamjhgggnihaaDoorStepOwn
namespace Go.Proofs.YtbdamjhgggnihaaDoor
open Go.RowKit
open Go.Lib hiding intOf
set_option linter.unusedVariables false
set_option linter.unusedSimpArgs false

theorem cells_new (w : World) (xs : List Value) (t : TypeId) (h : xs.length ≤ 100) : ∀ j u, xs[j]? = some u → (w.alloc (.cells xs.toArray t)).cell? ((⟨w.heap.size, 0, none⟩ : Addr).add j) = some u :=
  ownsRow_news (World.ownsRow_lit (base := w.heap.size) (e := t) (size := 1) w xs.toArray xs.length (Nat.le_refl _) (by unfold maxLen; omega) (by simp))
theorem wrap_u8 {d : Nat} (h : d < 16) : IntKind.u8.wrap (d : Int) = (d : Int) := by
  simp [IntKind.wrap, IntKind.signed, IntKind.bits]
  omega
theorem hex_get : ∀ (n : Nat) (h : n < 16) (h2 : n < (ByteArray.mk #[48, 49, 50, 51, 52, 53, 54, 55, 56, 57, 97, 98, 99, 100, 101, 102]).size), (((ByteArray.mk #[48, 49, 50, 51, 52, 53, 54, 55, 56, 57, 97, 98, 99, 100, 101, 102])[n].toNat : Nat) : Int) = ((hexB n).toNat : Int) := by
  intro n h h2
  have h3 : ∀ m : Fin 16, ((ByteArray.mk #[48, 49, 50, 51, 52, 53, 54, 55, 56, 57, 97, 98, 99, 100, 101, 102]).get m.val m.isLt) = hexB m.val := by decide
  have h4 := h3 ⟨n, h⟩
  exact congrArg (fun b : UInt8 => ((b.toNat : Nat) : Int)) h4
theorem idx_no (x : UInt8) (h : ¬ (x.toNat = 34 ∨ x.toNat = 92 ∨ x.toNat = 8 ∨ x.toNat = 12 ∨ x.toNat = 10 ∨ x.toNat = 13 ∨ x.toNat = 9)) :
    Lib.indexByte (ByteArray.mk #[34, 92, 8, 12, 10, 13, 9]).data.toList ((x.toNat : Int)).toNat.toUInt8 = -1 := by
  have e : ((x.toNat : Int)).toNat.toUInt8 = x := UInt8.toNat_inj.1 (u8n (by have := x.toNat_lt; omega))
  rw [e]
  have h1 : ∀ c : UInt8, c.toNat = 34 ∨ c.toNat = 92 ∨ c.toNat = 8 ∨ c.toNat = 12 ∨ c.toNat = 10 ∨ c.toNat = 13 ∨ c.toNat = 9 → (c == x) = false := fun c hc => by
    rw [beq_eq_false_iff_ne]
    intro e2
    rw [e2] at hc
    exact h hc
  show Lib.indexByte [34, 92, 8, 12, 10, 13, 9] x = -1
  simp [Lib.indexByte, h1]
/-- what JsonString gives -/
def jsonT (l : List UInt8) : List UInt8 := if okT l = true then jsL l ++ [34] else []
theorem okT_len {s : ByteArray} (h : okT (bs s) = true) : s.size ≤ 1000 := by
  have := (okT_enc h).2.2
  rwa [bs_length] at this

set_option maxRecDepth 10000 in
set_option maxHeartbeats 1000000 in
theorem jsonString_any (s : ByteArray) (w : World) (hs : s.size ≤ 1000) :
    Calls Tryd.prog 43 #[.string s] w fun e w' => e = .returned (.string (ofL (jsL (bs s) ++ [34]))) ∧ Below w.heap.size w w' := by
  go_enter Tryd.func43, Tryd.ntmps43
  go_wp2_with fail
  refine (writeByte_any w.heap.size w.heap.size [] 34 34 rfl _ (built_new w) (by simp) (by simp)).mono ?_
  rintro e w1 ⟨rfl, hbu1, hb1⟩
  have HB1 := Lib.hid (((Below.refl w.heap.size w).alloc (Nat.le_refl _) _).trans hb1)
  have HBU1 := Lib.hid hbu1
  clear hbu1 hb1
  go_wp2
  go_loopw [10] (fun i wr => ∃ j : Nat, j ≤ s.size ∧ i = .int .i64 j ∧ Built w.heap.size w.heap.size (jsL ((bs s).take j)) wr ∧ Below w.heap.size w wr) (fun i _ => s.size - (intOf i).toNat)
  case atStart => exact ⟨0, Nat.zero_le _, rfl, HBU1.out, HB1.out⟩
  case round =>
    obtain ⟨j, hj, rfl, hbu, hb⟩ := hrel
    have HB := Lib.hid hb
    have HBU := Lib.hid hbu
    have hlen := jsL_length ((bs s).take j)
    rw [List.length_take, bs_length] at hlen
    have hsz := hb.size
    clear hb hbu
    by_cases hlt : j < s.size
    · have htk := jsL_take (bs s) j (by rw [bs_length]; exact hlt)
      rw [bs_get s j hlt] at htk
      obtain ⟨x, hx⟩ : ∃ x, s[j] = x := ⟨_, rfl⟩
      rw [hx] at htk
      have hx' : s[j] = x := hx
      have HTK := Lib.hid htk
      clear htk hx
      by_cases c0 : (x.toNat : Int) = 34
      · have HQ := Lib.hid (show jsB x = [92, x] by unfold jsB; rw [if_pos (by omega)])
        go_wp2_with fail
        refine (Tryd.strings_IndexByte ⟨#[34, 92, 8, 12, 10, 13, 9]⟩ 34 _).mono ?_
        rintro e wi ⟨rfl, hwi⟩
        obtain rfl : wr = wi := hwi.symm
        rw [show Lib.indexByte (ByteArray.mk #[34, 92, 8, 12, 10, 13, 9]).data.toList (34 : Int).toNat.toUInt8 = 0 by decide]
        go_wp2_with fail
        refine (writeByte_any _ _ _ 92 92 rfl _ HBU.out (by first | omega | (simp; omega)) (by omega)).mono ?_
        rintro e v0 ⟨rfl, hbu0, hb0⟩
        have hzz0 := hb0.size
        go_wp2_with fail
        refine (writeByte_any _ _ _ x 34 (by omega) _ hbu0 (by first | omega | (simp; omega)) (by omega)).mono ?_
        rintro e v1 ⟨rfl, hbu1, hb1⟩
        have hzz1 := hb1.size
        go_wp2
        refine ⟨⟨j + 1, by omega, by go_num, ?_, ((HB.out.trans hb0).trans hb1)⟩, by simp [intOf]; omega⟩
        rw [HTK.out, HQ.out]
        simpa using hbu1
      by_cases c1 : (x.toNat : Int) = 92
      · have HQ := Lib.hid (show jsB x = [92, x] by unfold jsB; rw [if_pos (by omega)])
        go_wp2_with fail
        refine (Tryd.strings_IndexByte ⟨#[34, 92, 8, 12, 10, 13, 9]⟩ 92 _).mono ?_
        rintro e wi ⟨rfl, hwi⟩
        obtain rfl : wr = wi := hwi.symm
        rw [show Lib.indexByte (ByteArray.mk #[34, 92, 8, 12, 10, 13, 9]).data.toList (92 : Int).toNat.toUInt8 = 1 by decide]
        go_wp2_with fail
        refine (writeByte_any _ _ _ 92 92 rfl _ HBU.out (by first | omega | (simp; omega)) (by omega)).mono ?_
        rintro e v0 ⟨rfl, hbu0, hb0⟩
        have hzz0 := hb0.size
        go_wp2_with fail
        refine (writeByte_any _ _ _ x 92 (by omega) _ hbu0 (by first | omega | (simp; omega)) (by omega)).mono ?_
        rintro e v1 ⟨rfl, hbu1, hb1⟩
        have hzz1 := hb1.size
        go_wp2
        refine ⟨⟨j + 1, by omega, by go_num, ?_, ((HB.out.trans hb0).trans hb1)⟩, by simp [intOf]; omega⟩
        rw [HTK.out, HQ.out]
        simpa using hbu1
      by_cases c2 : (x.toNat : Int) = 8
      · have HQ := Lib.hid (show jsB x = [92, 98] by unfold jsB; rw [if_neg (by omega)]; rw [if_pos (by omega)])
        go_wp2_with fail
        refine (Tryd.strings_IndexByte ⟨#[34, 92, 8, 12, 10, 13, 9]⟩ 8 _).mono ?_
        rintro e wi ⟨rfl, hwi⟩
        obtain rfl : wr = wi := hwi.symm
        rw [show Lib.indexByte (ByteArray.mk #[34, 92, 8, 12, 10, 13, 9]).data.toList (8 : Int).toNat.toUInt8 = 2 by decide]
        go_wp2_with fail
        refine (writeByte_any _ _ _ 92 92 rfl _ HBU.out (by first | omega | (simp; omega)) (by omega)).mono ?_
        rintro e v0 ⟨rfl, hbu0, hb0⟩
        have hzz0 := hb0.size
        go_wp2_with fail
        refine (writeByte_any _ _ _ 98 98 rfl _ hbu0 (by first | omega | (simp; omega)) (by omega)).mono ?_
        rintro e v1 ⟨rfl, hbu1, hb1⟩
        have hzz1 := hb1.size
        go_wp2
        refine ⟨⟨j + 1, by omega, by go_num, ?_, ((HB.out.trans hb0).trans hb1)⟩, by simp [intOf]; omega⟩
        rw [HTK.out, HQ.out]
        simpa using hbu1
      by_cases c3 : (x.toNat : Int) = 12
      · have HQ := Lib.hid (show jsB x = [92, 102] by unfold jsB; rw [if_neg (by omega)]; rw [if_neg (by omega)]; rw [if_pos (by omega)])
        go_wp2_with fail
        refine (Tryd.strings_IndexByte ⟨#[34, 92, 8, 12, 10, 13, 9]⟩ 12 _).mono ?_
        rintro e wi ⟨rfl, hwi⟩
        obtain rfl : wr = wi := hwi.symm
        rw [show Lib.indexByte (ByteArray.mk #[34, 92, 8, 12, 10, 13, 9]).data.toList (12 : Int).toNat.toUInt8 = 3 by decide]
        go_wp2_with fail
        refine (writeByte_any _ _ _ 92 92 rfl _ HBU.out (by first | omega | (simp; omega)) (by omega)).mono ?_
        rintro e v0 ⟨rfl, hbu0, hb0⟩
        have hzz0 := hb0.size
        go_wp2_with fail
        refine (writeByte_any _ _ _ 102 102 rfl _ hbu0 (by first | omega | (simp; omega)) (by omega)).mono ?_
        rintro e v1 ⟨rfl, hbu1, hb1⟩
        have hzz1 := hb1.size
        go_wp2
        refine ⟨⟨j + 1, by omega, by go_num, ?_, ((HB.out.trans hb0).trans hb1)⟩, by simp [intOf]; omega⟩
        rw [HTK.out, HQ.out]
        simpa using hbu1
      by_cases c4 : (x.toNat : Int) = 10
      · have HQ := Lib.hid (show jsB x = [92, 110] by unfold jsB; rw [if_neg (by omega)]; rw [if_neg (by omega)]; rw [if_neg (by omega)]; rw [if_pos (by omega)])
        go_wp2_with fail
        refine (Tryd.strings_IndexByte ⟨#[34, 92, 8, 12, 10, 13, 9]⟩ 10 _).mono ?_
        rintro e wi ⟨rfl, hwi⟩
        obtain rfl : wr = wi := hwi.symm
        rw [show Lib.indexByte (ByteArray.mk #[34, 92, 8, 12, 10, 13, 9]).data.toList (10 : Int).toNat.toUInt8 = 4 by decide]
        go_wp2_with fail
        refine (writeByte_any _ _ _ 92 92 rfl _ HBU.out (by first | omega | (simp; omega)) (by omega)).mono ?_
        rintro e v0 ⟨rfl, hbu0, hb0⟩
        have hzz0 := hb0.size
        go_wp2_with fail
        refine (writeByte_any _ _ _ 110 110 rfl _ hbu0 (by first | omega | (simp; omega)) (by omega)).mono ?_
        rintro e v1 ⟨rfl, hbu1, hb1⟩
        have hzz1 := hb1.size
        go_wp2
        refine ⟨⟨j + 1, by omega, by go_num, ?_, ((HB.out.trans hb0).trans hb1)⟩, by simp [intOf]; omega⟩
        rw [HTK.out, HQ.out]
        simpa using hbu1
      by_cases c5 : (x.toNat : Int) = 13
      · have HQ := Lib.hid (show jsB x = [92, 114] by unfold jsB; rw [if_neg (by omega)]; rw [if_neg (by omega)]; rw [if_neg (by omega)]; rw [if_neg (by omega)]; rw [if_pos (by omega)])
        go_wp2_with fail
        refine (Tryd.strings_IndexByte ⟨#[34, 92, 8, 12, 10, 13, 9]⟩ 13 _).mono ?_
        rintro e wi ⟨rfl, hwi⟩
        obtain rfl : wr = wi := hwi.symm
        rw [show Lib.indexByte (ByteArray.mk #[34, 92, 8, 12, 10, 13, 9]).data.toList (13 : Int).toNat.toUInt8 = 5 by decide]
        go_wp2_with fail
        refine (writeByte_any _ _ _ 92 92 rfl _ HBU.out (by first | omega | (simp; omega)) (by omega)).mono ?_
        rintro e v0 ⟨rfl, hbu0, hb0⟩
        have hzz0 := hb0.size
        go_wp2_with fail
        refine (writeByte_any _ _ _ 114 114 rfl _ hbu0 (by first | omega | (simp; omega)) (by omega)).mono ?_
        rintro e v1 ⟨rfl, hbu1, hb1⟩
        have hzz1 := hb1.size
        go_wp2
        refine ⟨⟨j + 1, by omega, by go_num, ?_, ((HB.out.trans hb0).trans hb1)⟩, by simp [intOf]; omega⟩
        rw [HTK.out, HQ.out]
        simpa using hbu1
      by_cases c6 : (x.toNat : Int) = 9
      · have HQ := Lib.hid (show jsB x = [92, 116] by unfold jsB; rw [if_neg (by omega)]; rw [if_neg (by omega)]; rw [if_neg (by omega)]; rw [if_neg (by omega)]; rw [if_neg (by omega)]; rw [if_pos (by omega)])
        go_wp2_with fail
        refine (Tryd.strings_IndexByte ⟨#[34, 92, 8, 12, 10, 13, 9]⟩ 9 _).mono ?_
        rintro e wi ⟨rfl, hwi⟩
        obtain rfl : wr = wi := hwi.symm
        rw [show Lib.indexByte (ByteArray.mk #[34, 92, 8, 12, 10, 13, 9]).data.toList (9 : Int).toNat.toUInt8 = 6 by decide]
        go_wp2_with fail
        refine (writeByte_any _ _ _ 92 92 rfl _ HBU.out (by first | omega | (simp; omega)) (by omega)).mono ?_
        rintro e v0 ⟨rfl, hbu0, hb0⟩
        have hzz0 := hb0.size
        go_wp2_with fail
        refine (writeByte_any _ _ _ 116 116 rfl _ hbu0 (by first | omega | (simp; omega)) (by omega)).mono ?_
        rintro e v1 ⟨rfl, hbu1, hb1⟩
        have hzz1 := hb1.size
        go_wp2
        refine ⟨⟨j + 1, by omega, by go_num, ?_, ((HB.out.trans hb0).trans hb1)⟩, by simp [intOf]; omega⟩
        rw [HTK.out, HQ.out]
        simpa using hbu1
      by_cases c7 : (x.toNat : Int) < 32
      · have HQ := Lib.hid (show jsB x = [92, 117, 48, 48, hexB (x.toNat / 16), hexB (x.toNat % 16)] by unfold jsB; rw [if_neg (by omega)]; rw [if_neg (by omega)]; rw [if_neg (by omega)]; rw [if_neg (by omega)]; rw [if_neg (by omega)]; rw [if_neg (by omega)]; rw [if_pos (by omega)])
        have HI := Lib.hid (idx_no x (by omega))
        go_wp2_with fail
        refine (Tryd.strings_IndexByte ⟨#[34, 92, 8, 12, 10, 13, 9]⟩ (x.toNat : Int) _).mono ?_
        rintro e wi ⟨rfl, hwi⟩
        obtain rfl : wr = wi := hwi.symm
        rw [HI.out]
        go_wp2_with fail
        refine (writeString_any _ _ _ (ofL [92, 117, 48, 48]) _ HBU.out (by omega) (by simp [size_ofL]) (by omega)).mono ?_
        rintro e v0 ⟨rfl, hbu0, hb0⟩
        have hzz0 := hb0.size
        go_wp2_with fail
        refine (writeByte_any _ _ _ (hexB (x.toNat / 16)) _ (hex_get _ (by omega) _) _ hbu0 (by simp [size_ofL]; omega) (by omega)).mono ?_
        rintro e v1 ⟨rfl, hbu1, hb1⟩
        have hzz1 := hb1.size
        go_wp2_with fail
        refine (writeByte_any _ _ _ (hexB (x.toNat % 16)) _ (hex_get _ (by omega) _) _ hbu1 (by simp [size_ofL]; omega) (by omega)).mono ?_
        rintro e v2 ⟨rfl, hbu2, hb2⟩
        go_wp2
        refine ⟨⟨j + 1, by omega, by go_num, ?_, ((HB.out.trans hb0).trans hb1).trans hb2⟩, by simp [intOf]; omega⟩
        rw [HTK.out, HQ.out]
        simpa [bs_ofL] using hbu2
      have HQ := Lib.hid (show jsB x = [x] by unfold jsB; rw [if_neg (by omega)]; rw [if_neg (by omega)]; rw [if_neg (by omega)]; rw [if_neg (by omega)]; rw [if_neg (by omega)]; rw [if_neg (by omega)]; rw [if_neg (by omega)])
      have HI := Lib.hid (idx_no x (by omega))
      go_wp2_with fail
      refine (Tryd.strings_IndexByte ⟨#[34, 92, 8, 12, 10, 13, 9]⟩ (x.toNat : Int) _).mono ?_
      rintro e wi ⟨rfl, hwi⟩
      obtain rfl : wr = wi := hwi.symm
      rw [HI.out]
      go_wp2_with fail
      refine (writeByte_any _ _ _ x (x.toNat : Int) rfl _ HBU.out (by first | omega | (simp; omega)) (by omega)).mono ?_
      rintro e v0 ⟨rfl, hbu0, hb0⟩
      have hzz0 := hb0.size
      go_wp2
      refine ⟨⟨j + 1, by omega, by go_num, ?_, (HB.out.trans hb0)⟩, by simp [intOf]; omega⟩
      rw [HTK.out, HQ.out]
      simpa using hbu0
    · obtain rfl : j = s.size := by omega
      rw [take_all] at HBU hlen
      go_wp2_with fail
      refine (writeByte_any _ _ _ 34 34 rfl _ HBU.out (by omega) hsz).mono ?_
      rintro e w2 ⟨rfl, hbu2, hb2⟩
      have hsz2 := hb2.size
      go_wp2_with fail
      refine (builtString_any _ _ _ _ hbu2 (by omega)).mono ?_
      rintro e w3 ⟨rfl, hb3⟩
      go_wp2
      go_ret
      exact ⟨rfl, (HB.out.trans hb2).trans hb3⟩

theorem implJsonString_any (s : ByteArray) (w : World) (hs : s.size ≤ 1099511627776) (hT : Tabs w) :
    Calls Tryd.prog 24 #[.string s] w fun e w' => e = .returned (.string (ofL (jsonT (bs s)))) ∧ Below w.heap.size w w' := by
  have HT := Lib.hid hT
  clear hT
  go_enter Tryd.func24, Tryd.ntmps24
  go_wp2_with fail
  refine (implTextOk_any s _ hs HT.out).mono ?_
  rintro e w1 ⟨rfl, hb1⟩
  have HB1 := Lib.hid hb1
  clear hb1
  cases hk : okT (bs s)
  · have HE := Lib.hid (show jsonT (bs s) = [] by unfold jsonT; rw [hk]; rfl)
    go_wp2
    go_ret
    rw [HE.out]
    exact ⟨rfl, HB1.out⟩
  · have HE := Lib.hid (show jsonT (bs s) = jsL (bs s) ++ [34] by unfold jsonT; rw [hk]; rfl)
    have hl := okT_len hk
    go_wp2_with fail
    refine (jsonString_any s _ hl).mono ?_
    rintro e w2 ⟨rfl, hb2⟩
    go_wp2
    go_ret
    rw [HE.out]
    exact ⟨rfl, HB1.out.trans (hb2.mono HB1.out.size)⟩

set_option maxRecDepth 10000 in
set_option maxHeartbeats 2000000 in
theorem specJsonString_any (s : ByteArray) (w0 : World) (hs : s.size ≤ 1099511627776) :
    Calls Tryd.prog 23 #[.string s] w0 fun e w' => e = .returned (.string (ofL (jsonT (bs s)))) ∧ Below w0.heap.size w0 w' := by
  obtain ⟨i0, hi, hz0, hz1, hz2⟩ := info_parts infoByte
  go_enter Tryd.func23, Tryd.ntmps23
  go_wp2_with fail
  refine (specTextOk_any s _ hs).mono ?_
  rintro e w ⟨rfl, hb1⟩
  have HB1 := Lib.hid hb1
  clear hb1
  cases hk : okT (bs s)
  · have HE := Lib.hid (show jsonT (bs s) = [] by unfold jsonT; rw [hk]; rfl)
    go_wp2
    go_ret
    rw [HE.out]
    exact ⟨rfl, HB1.out⟩
  · have HE := Lib.hid (show jsonT (bs s) = jsL (bs s) ++ [34] by unfold jsonT; rw [hk]; rfl)
    have hl := okT_len hk
    clear hk
    go_wp2
    go_loopw [3, 4] (fun v i wr => ∃ j : Nat, j ≤ s.size ∧ i = .int .i64 j ∧ wr.ownsRow w.heap.size 5 1 v (jsL ((bs s).take j)).length ((jsL ((bs s).take j)).map byteV) ∧ Below w.heap.size w wr ∧ w.heap.size < wr.heap.size) (fun _ i _ => s.size - (intOf i).toNat)
    case atStart => exact ⟨0, Nat.zero_le _, rfl, ownsRow_one w w.heap.size 5 _ (Nat.le_refl _), (Below.refl _ _).alloc (Nat.le_refl _) _, by simp⟩
    case round =>
      obtain ⟨j, hj, rfl, hown, hb, hsz⟩ := hrel
      have HB := Lib.hid hb
      have hlen := jsL_length ((bs s).take j)
      rw [List.length_take, bs_length] at hlen
      by_cases hlt : j < s.size
      · have htk := jsL_take (bs s) j (by rw [bs_length]; exact hlt)
        rw [bs_get s j hlt] at htk
        obtain ⟨x, hx⟩ : ∃ x, s[j] = x := ⟨_, rfl⟩
        rw [hx] at htk
        have hx' : s[j] = x := hx
        obtain ⟨q, hq⟩ : ∃ q, (jsL ((bs s).take j)).length = q := ⟨_, rfl⟩
        rw [hq] at hlen hown
        have HL := Lib.hid hq
        have HOW := Lib.hid hown
        have HTK := Lib.hid htk
        clear htk hx hown hq hb
        by_cases c0 : (x.toNat : Int) = 34
        · have HQ := Lib.hid (show jsB x = [92, x] by unfold jsB; rw [if_pos (by omega)])
          go_wp2_with (at_builtin; refine wpList_append_own _ rfl _ _ 43 rfl w.heap.size 5 i0 (.int .u8 0) 1 1 Tryd.underlying43 hi hz0 hz1 hz2 rfl (by decide) _ _ _ rfl (HOW.out.alloc _) ⟨wr.heap.size, 0, none⟩ 2 2 [.int .u8 92, .int .u8 34] rfl rfl (cells_new _ _ _ (by simp)) (fun u hu => by simp at hu; first | (subst hu; rfl) | (rcases hu with rfl | rfl <;> rfl)) (by unfold maxLen; omega) (by omega) (by first | omega | (simp; omega) | simp) ?_; intro v2 w2 hown2 hgr2 hnil2)
          have hbz : Below w.heap.size w w2 := Below.grown (HB.out.alloc HB.out.size _) hgr2 (by simp; omega) (ownBlock_lo HOW.out)
          have hsz2 : w.heap.size < w2.heap.size := by have := hgr2.size; simp at this; omega
          refine ⟨⟨j + 1, by omega, by go_num, ?_, hbz, hsz2⟩, by simp [intOf]; omega⟩
          rw [HTK.out, HQ.out, List.length_append, List.map_append, HL.out]
          have e : byteV x = .int .u8 34 := by unfold byteV; congr 1
          rw [show List.map byteV [92, x] = [.int .u8 92, byteV x] from rfl, e]
          exact hown2
        by_cases c1 : (x.toNat : Int) = 92
        · have HQ := Lib.hid (show jsB x = [92, x] by unfold jsB; rw [if_pos (by omega)])
          go_wp2_with (at_builtin; refine wpList_append_own _ rfl _ _ 43 rfl w.heap.size 5 i0 (.int .u8 0) 1 1 Tryd.underlying43 hi hz0 hz1 hz2 rfl (by decide) _ _ _ rfl (HOW.out.alloc _) ⟨wr.heap.size, 0, none⟩ 2 2 [.int .u8 92, .int .u8 92] rfl rfl (cells_new _ _ _ (by simp)) (fun u hu => by simp at hu; first | (subst hu; rfl) | (rcases hu with rfl | rfl <;> rfl)) (by unfold maxLen; omega) (by omega) (by first | omega | (simp; omega) | simp) ?_; intro v2 w2 hown2 hgr2 hnil2)
          have hbz : Below w.heap.size w w2 := Below.grown (HB.out.alloc HB.out.size _) hgr2 (by simp; omega) (ownBlock_lo HOW.out)
          have hsz2 : w.heap.size < w2.heap.size := by have := hgr2.size; simp at this; omega
          refine ⟨⟨j + 1, by omega, by go_num, ?_, hbz, hsz2⟩, by simp [intOf]; omega⟩
          rw [HTK.out, HQ.out, List.length_append, List.map_append, HL.out]
          have e : byteV x = .int .u8 92 := by unfold byteV; congr 1
          rw [show List.map byteV [92, x] = [.int .u8 92, byteV x] from rfl, e]
          exact hown2
        by_cases c2 : (x.toNat : Int) = 8
        · have HQ := Lib.hid (show jsB x = [92, 98] by unfold jsB; rw [if_neg (by omega)]; rw [if_pos (by omega)])
          go_wp2_with (at_builtin; refine wpList_append_own _ rfl _ _ 43 rfl w.heap.size 5 i0 (.int .u8 0) 1 1 Tryd.underlying43 hi hz0 hz1 hz2 rfl (by decide) _ _ _ rfl (HOW.out.alloc _) ⟨wr.heap.size, 0, none⟩ 2 2 [.int .u8 92, .int .u8 98] rfl rfl (cells_new _ _ _ (by simp)) (fun u hu => by simp at hu; first | (subst hu; rfl) | (rcases hu with rfl | rfl <;> rfl)) (by unfold maxLen; omega) (by omega) (by first | omega | (simp; omega) | simp) ?_; intro v2 w2 hown2 hgr2 hnil2)
          have hbz : Below w.heap.size w w2 := Below.grown (HB.out.alloc HB.out.size _) hgr2 (by simp; omega) (ownBlock_lo HOW.out)
          have hsz2 : w.heap.size < w2.heap.size := by have := hgr2.size; simp at this; omega
          refine ⟨⟨j + 1, by omega, by go_num, ?_, hbz, hsz2⟩, by simp [intOf]; omega⟩
          rw [HTK.out, HQ.out, List.length_append, List.map_append, HL.out]
          exact hown2
        by_cases c3 : (x.toNat : Int) = 12
        · have HQ := Lib.hid (show jsB x = [92, 102] by unfold jsB; rw [if_neg (by omega)]; rw [if_neg (by omega)]; rw [if_pos (by omega)])
          go_wp2_with (at_builtin; refine wpList_append_own _ rfl _ _ 43 rfl w.heap.size 5 i0 (.int .u8 0) 1 1 Tryd.underlying43 hi hz0 hz1 hz2 rfl (by decide) _ _ _ rfl (HOW.out.alloc _) ⟨wr.heap.size, 0, none⟩ 2 2 [.int .u8 92, .int .u8 102] rfl rfl (cells_new _ _ _ (by simp)) (fun u hu => by simp at hu; first | (subst hu; rfl) | (rcases hu with rfl | rfl <;> rfl)) (by unfold maxLen; omega) (by omega) (by first | omega | (simp; omega) | simp) ?_; intro v2 w2 hown2 hgr2 hnil2)
          have hbz : Below w.heap.size w w2 := Below.grown (HB.out.alloc HB.out.size _) hgr2 (by simp; omega) (ownBlock_lo HOW.out)
          have hsz2 : w.heap.size < w2.heap.size := by have := hgr2.size; simp at this; omega
          refine ⟨⟨j + 1, by omega, by go_num, ?_, hbz, hsz2⟩, by simp [intOf]; omega⟩
          rw [HTK.out, HQ.out, List.length_append, List.map_append, HL.out]
          exact hown2
        by_cases c4 : (x.toNat : Int) = 10
        · have HQ := Lib.hid (show jsB x = [92, 110] by unfold jsB; rw [if_neg (by omega)]; rw [if_neg (by omega)]; rw [if_neg (by omega)]; rw [if_pos (by omega)])
          go_wp2_with (at_builtin; refine wpList_append_own _ rfl _ _ 43 rfl w.heap.size 5 i0 (.int .u8 0) 1 1 Tryd.underlying43 hi hz0 hz1 hz2 rfl (by decide) _ _ _ rfl (HOW.out.alloc _) ⟨wr.heap.size, 0, none⟩ 2 2 [.int .u8 92, .int .u8 110] rfl rfl (cells_new _ _ _ (by simp)) (fun u hu => by simp at hu; first | (subst hu; rfl) | (rcases hu with rfl | rfl <;> rfl)) (by unfold maxLen; omega) (by omega) (by first | omega | (simp; omega) | simp) ?_; intro v2 w2 hown2 hgr2 hnil2)
          have hbz : Below w.heap.size w w2 := Below.grown (HB.out.alloc HB.out.size _) hgr2 (by simp; omega) (ownBlock_lo HOW.out)
          have hsz2 : w.heap.size < w2.heap.size := by have := hgr2.size; simp at this; omega
          refine ⟨⟨j + 1, by omega, by go_num, ?_, hbz, hsz2⟩, by simp [intOf]; omega⟩
          rw [HTK.out, HQ.out, List.length_append, List.map_append, HL.out]
          exact hown2
        by_cases c5 : (x.toNat : Int) = 13
        · have HQ := Lib.hid (show jsB x = [92, 114] by unfold jsB; rw [if_neg (by omega)]; rw [if_neg (by omega)]; rw [if_neg (by omega)]; rw [if_neg (by omega)]; rw [if_pos (by omega)])
          go_wp2_with (at_builtin; refine wpList_append_own _ rfl _ _ 43 rfl w.heap.size 5 i0 (.int .u8 0) 1 1 Tryd.underlying43 hi hz0 hz1 hz2 rfl (by decide) _ _ _ rfl (HOW.out.alloc _) ⟨wr.heap.size, 0, none⟩ 2 2 [.int .u8 92, .int .u8 114] rfl rfl (cells_new _ _ _ (by simp)) (fun u hu => by simp at hu; first | (subst hu; rfl) | (rcases hu with rfl | rfl <;> rfl)) (by unfold maxLen; omega) (by omega) (by first | omega | (simp; omega) | simp) ?_; intro v2 w2 hown2 hgr2 hnil2)
          have hbz : Below w.heap.size w w2 := Below.grown (HB.out.alloc HB.out.size _) hgr2 (by simp; omega) (ownBlock_lo HOW.out)
          have hsz2 : w.heap.size < w2.heap.size := by have := hgr2.size; simp at this; omega
          refine ⟨⟨j + 1, by omega, by go_num, ?_, hbz, hsz2⟩, by simp [intOf]; omega⟩
          rw [HTK.out, HQ.out, List.length_append, List.map_append, HL.out]
          exact hown2
        by_cases c6 : (x.toNat : Int) = 9
        · have HQ := Lib.hid (show jsB x = [92, 116] by unfold jsB; rw [if_neg (by omega)]; rw [if_neg (by omega)]; rw [if_neg (by omega)]; rw [if_neg (by omega)]; rw [if_neg (by omega)]; rw [if_pos (by omega)])
          go_wp2_with (at_builtin; refine wpList_append_own _ rfl _ _ 43 rfl w.heap.size 5 i0 (.int .u8 0) 1 1 Tryd.underlying43 hi hz0 hz1 hz2 rfl (by decide) _ _ _ rfl (HOW.out.alloc _) ⟨wr.heap.size, 0, none⟩ 2 2 [.int .u8 92, .int .u8 116] rfl rfl (cells_new _ _ _ (by simp)) (fun u hu => by simp at hu; first | (subst hu; rfl) | (rcases hu with rfl | rfl <;> rfl)) (by unfold maxLen; omega) (by omega) (by first | omega | (simp; omega) | simp) ?_; intro v2 w2 hown2 hgr2 hnil2)
          have hbz : Below w.heap.size w w2 := Below.grown (HB.out.alloc HB.out.size _) hgr2 (by simp; omega) (ownBlock_lo HOW.out)
          have hsz2 : w.heap.size < w2.heap.size := by have := hgr2.size; simp at this; omega
          refine ⟨⟨j + 1, by omega, by go_num, ?_, hbz, hsz2⟩, by simp [intOf]; omega⟩
          rw [HTK.out, HQ.out, List.length_append, List.map_append, HL.out]
          exact hown2
        by_cases c7 : (x.toNat : Int) < 32
        · have HQ := Lib.hid (show jsB x = [92, 117, 48, 48, hexB (x.toNat / 16), hexB (x.toNat % 16)] by unfold jsB; rw [if_neg (by omega)]; rw [if_neg (by omega)]; rw [if_neg (by omega)]; rw [if_neg (by omega)]; rw [if_neg (by omega)]; rw [if_neg (by omega)]; rw [if_pos (by omega)])
          have hb34 : ((x.toNat : Int) == 34) = false := by rw [beq_eq_false_iff_ne]; exact c0
          have hb92 : ((x.toNat : Int) == 92) = false := by rw [beq_eq_false_iff_ne]; exact c1
          go_wp2_with (at_builtin; refine Lib.wpList_append_own_string _ rfl _ _ 43 9 rfl w.heap.size 5 i0 Tryd.underlying43 Tryd.underlying9 hi hz0 hz1 hz2 _ _ _ rfl HOW.out (ofL [92, 117, 48, 48]) rfl (by simp [size_ofL]; unfold maxLen; omega) (by simp [size_ofL]; omega) (by omega) ?_; intro v2 w2 hown2 hgr2 hnil2)
          have hbz0 : Below w.heap.size w w2 := Below.grown HB.out hgr2 HB.out.size (ownBlock_lo HOW.out)
          have hown2b : w2.ownsRow w.heap.size 5 1 v2 (q + 4) ((jsL ((bs s).take j) ++ [92, 117, 48, 48]).map byteV) := by rw [List.map_append]; exact hown2
          have hszz : w.heap.size ≤ w2.heap.size := hbz0.size
          have hszz2 : w.heap.size < w2.heap.size := by have := hgr2.size; omega
          have HOW2 := Lib.hid hown2b
          have HBZ := Lib.hid hbz0
          clear hown2 hgr2 hnil2 hown2b hbz0
          have hxl : x.toNat < 32 := by omega
          obtain ⟨d, hd⟩ : ∃ d, x.toNat / 16 = d := ⟨_, rfl⟩
          obtain ⟨m, hm⟩ : ∃ m, x.toNat % 16 = m := ⟨_, rfl⟩
          have hd16 : d < 16 := by omega
          have hm16 : m < 16 := by omega
          have hd16i : (d : Int) < 16 := by omega
          have hm16i : (m : Int) < 16 := by omega
          have hdv : (x.toNat : Int) / 16 = (d : Int) := by omega
          have hmv : (x.toNat : Int) % 16 = (m : Int) := by omega
          have hw1 : IntKind.u8.wrap ((x.toNat : Int) / 16) = (d : Int) := by rw [hdv]; exact wrap_u8 hd16
          have hw2 : Int.tmod (x.toNat : Int) 16 = (m : Int) := by rw [Int.tmod_eq_emod_of_nonneg (by omega)]; exact hmv
          have hw3 : IntKind.u8.wrap (m : Int) = (m : Int) := wrap_u8 hm16
          have hh1 := hex_get d hd16 (by show _ < 16; omega)
          have hh2 := hex_get m hm16 (by show _ < 16; omega)
          rw [hd, hm] at HQ
          clear hd hm hdv
          have HOW3 := Lib.hid (ownsRow_below HOW2.out (Below.refl _ w2).drew)
          have HBZ3 := Lib.hid HBZ.out.drew
          have hsz4 : w.heap.size < w2.drew.heap.size := hszz2
          go_wp2_with fail
          clear HOW3 HBZ3 hsz4
          go_region_law (refine step_append_own rfl (.tmp 85) (.tmp 96) 43 rfl w.heap.size 5 i0 (.int .u8 0) 1 1 Tryd.underlying43 hi hz0 hz1 hz2 rfl (by decide) v2 (q + 4) ((jsL ((bs s).take j) ++ [92, 117, 48, 48]).map byteV) (by simp [Act.eval, Act.put]) (by first | exact HOW2.out.alloc _ | exact (ownsRow_below HOW2.out (Below.refl _ w2).drew).alloc _) ⟨w2.heap.size, 0, none⟩ 2 2 [.int .u8 ((hexB d).toNat : Int), .int .u8 ((hexB m).toNat : Int)] (by simp [Act.eval, Act.put]) rfl (by first | exact cells_new w2.drew _ _ (by simp) | exact cells_new w2 _ _ (by simp)) (fun u hu => by simp at hu; rcases hu with rfl | rfl <;> rfl) (by unfold maxLen; omega) (by omega) (by simp; omega) ?_; intro v3 w3 hown3 hgr3)
          all_goals go_wp2
          all_goals (have hbz : Below w.heap.size w w3 := Below.grown ((HBZ.out.drew).alloc (Nat.le_of_lt hszz2) _) hgr3 (by first | (simp; done) | (simp; omega) | omega) (ownBlock_lo HOW2.out); have hsz3 : w.heap.size < w3.heap.size := (by have := hgr3.size; simp at this; omega); refine ⟨⟨j + 1, by omega, by go_num, ?_, hbz, hsz3⟩, by simp [intOf]; omega⟩; rw [HTK.out, HQ.out, List.length_append, HL.out]; have e : (jsL ((bs s).take j) ++ [92, 117, 48, 48, hexB d, hexB m]).map byteV = (jsL ((bs s).take j) ++ [92, 117, 48, 48]).map byteV ++ [.int .u8 ((hexB d).toNat : Int), .int .u8 ((hexB m).toNat : Int)] := (by simp [byteV]); rw [e]; exact hown3)
        have HQ := Lib.hid (show jsB x = [x] by unfold jsB; rw [if_neg (by omega)]; rw [if_neg (by omega)]; rw [if_neg (by omega)]; rw [if_neg (by omega)]; rw [if_neg (by omega)]; rw [if_neg (by omega)]; rw [if_neg (by omega)])
        have hb34 : ((x.toNat : Int) == 34) = false := by rw [beq_eq_false_iff_ne]; exact c0
        have hb92 : ((x.toNat : Int) == 92) = false := by rw [beq_eq_false_iff_ne]; exact c1
        go_wp2_with (at_builtin; refine wpList_append_own _ rfl _ _ 43 rfl w.heap.size 5 i0 (.int .u8 0) 1 1 Tryd.underlying43 hi hz0 hz1 hz2 rfl (by decide) _ _ _ rfl (HOW.out.alloc _) ⟨wr.heap.size, 0, none⟩ 1 1 [.int .u8 (x.toNat : Int)] rfl rfl (cells_new _ _ _ (by simp)) (fun u hu => by simp at hu; first | (subst hu; rfl) | (rcases hu with rfl | rfl <;> rfl)) (by unfold maxLen; omega) (by omega) (by first | omega | (simp; omega) | simp) ?_; intro v2 w2 hown2 hgr2 hnil2)
        have hbz : Below w.heap.size w w2 := Below.grown (HB.out.alloc HB.out.size _) hgr2 (by simp; omega) (ownBlock_lo HOW.out)
        have hsz2 : w.heap.size < w2.heap.size := by have := hgr2.size; simp at this; omega
        refine ⟨⟨j + 1, by omega, by go_num, ?_, hbz, hsz2⟩, by simp [intOf]; omega⟩
        rw [HTK.out, HQ.out, List.length_append, List.map_append, HL.out]
        exact hown2
      · obtain rfl : j = s.size := by omega
        rw [take_all] at hlen hown
        obtain ⟨q, hq⟩ : ∃ q, (jsL (bs s)).length = q := ⟨_, rfl⟩
        rw [hq] at hlen hown
        have HOW := Lib.hid hown
        clear hown hb hq
        go_wp2_with (at_builtin; refine wpList_append_own _ rfl _ _ 43 rfl w.heap.size 5 i0 (.int .u8 0) 1 1 Tryd.underlying43 hi hz0 hz1 hz2 rfl (by decide) _ _ _ rfl (HOW.out.alloc _) ⟨wr.heap.size, 0, none⟩ 1 1 [.int .u8 34] rfl rfl (cells_new _ _ _ (by simp)) (fun u hu => by simp at hu; first | (subst hu; rfl) | (rcases hu with rfl | rfl <;> rfl)) (by unfold maxLen; omega) (by omega) (by first | omega | (simp; omega) | simp) ?_; intro v2 w2 hown2 hgr2 hnil2; have hconv := textOfAny (show w2.ownsRow w.heap.size 5 1 v2 (q + 1) ((jsL (bs s) ++ [34]).map byteV) by rw [List.map_append]; exact hown2))
        have hbz : Below w.heap.size w w2 := Below.grown (HB.out.alloc HB.out.size _) hgr2 (by simp; omega) (ownBlock_lo HOW.out)
        go_ret
        rw [HE.out]
        exact ⟨rfl, HB1.out.trans (hbz.mono HB1.out.size)⟩

end Go.Proofs.YtbdamjhgggnihaaDoor
