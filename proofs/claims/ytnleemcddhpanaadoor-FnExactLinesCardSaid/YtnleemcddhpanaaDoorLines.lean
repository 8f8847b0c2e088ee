/-
  The contracts of Lines, the reference's and the program's: the lines of a text, or its paragraphs. Conditions: as in the text on Runes; the library's MaxLen holds an int.
-/
import Derived.Test.YtnleemcddhpanaaDoorSplit
import Derived.Test.YtnleemcddhpanaaDoorLinesL
import Derived.Test.YtnleemcddhpanaaDoorFileOk
import Derived.Test.YtnleemcddhpanaaDoorLength
import Derived.Test.YtnleemcddhpanaaDoorOutRow
import Derived.Test.YtnleemcddhpanaaDoorCodes
namespace Go.Proofs.YtnleemcddhpanaaDoor
open Go.RowKit
open Go.Lib hiding intOf
set_option linter.unusedVariables false
set_option linter.unusedSimpArgs false

/-- what Lines gives -/
def linesT (s rs : ByteArray) : List ByteArray :=
  if okF (bs s) = true ∧ 0 ≤ lenT (bs rs) ∧ lenT (bs rs) ≤ 1 then (if rs.size = 0 then (parasL (bs s)).map ofL else dropE (splS s rs)) else []
theorem linesT_no {s rs : ByteArray} (h : ¬ (okF (bs s) = true ∧ 0 ≤ lenT (bs rs) ∧ lenT (bs rs) ≤ 1)) : linesT s rs = [] := by unfold linesT; rw [if_neg h]
theorem linesT_par {s rs : ByteArray} (h : okF (bs s) = true ∧ 0 ≤ lenT (bs rs) ∧ lenT (bs rs) ≤ 1) (h0 : rs.size = 0) : linesT s rs = (parasL (bs s)).map ofL := by unfold linesT; rw [if_pos h, if_pos h0]
theorem linesT_spl {s rs : ByteArray} (h : okF (bs s) = true ∧ 0 ≤ lenT (bs rs) ∧ lenT (bs rs) ≤ 1) (h0 : ¬ rs.size = 0) : linesT s rs = dropE (splS s rs) := by unfold linesT; rw [if_pos h, if_neg h0]
theorem okF_size {s : ByteArray} (h : okF (bs s) = true) : s.size ≤ 4000 := by
  unfold okF at h
  rw [Bool.and_eq_true, decide_eq_true_eq, bs_length] at h
  exact h.1
/-- no code point: an empty text; one: not empty -/
theorem lenT_zero {rs : ByteArray} (h : 0 ≤ lenT (bs rs)) : okT (bs rs) = true ∧ (lenT (bs rs) = 0 ↔ rs.size = 0) := by
  unfold lenT at *
  by_cases hk : okT (bs rs) = true
  · rw [if_pos hk] at *
    refine ⟨hk, ?_⟩
    obtain ⟨he, _, _⟩ := okT_enc hk
    constructor
    · intro h2
      have h3 : rl (bs rs) = [] := List.eq_nil_of_length_eq_zero (by omega)
      rw [h3] at he
      rw [← bs_length, he]
      rfl
    · intro h2
      have h3 : bs rs = [] := bs_empty h2
      rw [h3]
      rfl
  · rw [if_neg hk] at h
    omega
theorem linesT_len (s rs : ByteArray) : (linesT s rs).length ≤ 1048577 := by
  by_cases h : okF (bs s) = true ∧ 0 ≤ lenT (bs rs) ∧ lenT (bs rs) ≤ 1
  · have hs := okF_size h.1
    by_cases h0 : rs.size = 0
    · rw [linesT_par h h0, List.length_map]
      have h1 := psL_count (Lib.split (bs s) [10]) (Lib.split (bs s) [10]).length
      have h2 := (splS_count s (ofL [10]) (by simp [size_ofL])).2
      unfold splS at h2
      rw [List.length_map, bs_ofL] at h2
      unfold parasL
      rw [List.length_append]
      omega
    · rw [linesT_spl h h0]
      have h2 := (splS_count s rs (by omega)).2
      unfold dropE
      split
      · rw [List.length_take]; omega
      · omega
  · rw [linesT_no h]; simp

set_option maxRecDepth 10000 in
set_option maxHeartbeats 2000000 in
theorem specLines_any (s rs : ByteArray) (w : World) (hs : s.size ≤ 1099511627776) (hrs : rs.size ≤ 1099511627776) :
    Calls Tryd.prog 27 #[.string s, .string rs] w (StrsPost w (linesT s rs)) := by
  obtain ⟨i0, hi, hz0, hz1, hz2⟩ := info_parts infoString
  go_enter Tryd.func27, Tryd.ntmps27
  go_wp2_with fail
  refine (specFileOk_any s _ hs).mono ?_
  rintro e w1 ⟨rfl, hb1⟩
  have HB1 := Lib.hid (((Below.refl w.heap.size w).alloc (Nat.le_refl _) _).trans (hb1.mono (by simp)))
  have HO1 := Lib.hid (ownsRow_below (ownsRow_empty w w.heap.size 9 (Nat.le_refl _)) hb1)
  clear hb1
  cases hk : okF (bs s)
  · have HE := Lib.hid (linesT_no (s := s) (rs := rs) (fun h => by rw [hk] at h; cases h.1))
    go_wp2
    go_ret
    rw [HE.out]
    exact ⟨_, rfl, HO1.out, HB1.out⟩
  have HK := Lib.hid hk
  have hs4 := okF_size hk
  clear hk
  obtain ⟨ln, hln⟩ : ∃ ln, lenT (bs rs) = ln := ⟨_, rfl⟩
  have HLN := Lib.hid hln
  have hz := lenT_zero (rs := rs)
  rw [hln] at hz
  have HZ := Lib.hid hz
  clear hz hln
  go_wp2_with fail
  refine (specLength_any rs _ hrs).mono ?_
  rintro e w2 ⟨rfl, hb2⟩
  rw [HLN.out]
  have HB2 := Lib.hid (HB1.out.trans (hb2.mono HB1.out.size))
  have HO2 := Lib.hid (ownsRow_below HO1.out hb2)
  clear hb2
  by_cases h1 : ln < 0
  · have HE := Lib.hid (linesT_no (s := s) (rs := rs) (fun h => by have := h.2.1; rw [HLN.out] at this; omega))
    go_wp2
    go_ret
    rw [HE.out]
    exact ⟨_, rfl, HO2.out, HB2.out⟩
  go_wp2_with fail
  refine (specLength_any rs _ hrs).mono ?_
  rintro e w3 ⟨rfl, hb3⟩
  rw [HLN.out]
  have HB3 := Lib.hid (HB2.out.trans (hb3.mono HB2.out.size))
  have HO3 := Lib.hid (ownsRow_below HO2.out hb3)
  clear hb3
  by_cases h2 : 1 < ln
  · have HE := Lib.hid (linesT_no (s := s) (rs := rs) (fun h => by have := h.2.2; rw [HLN.out] at this; omega))
    go_wp2
    go_ret
    rw [HE.out]
    exact ⟨_, rfl, HO3.out, HB3.out⟩
  obtain ⟨hok, hzz⟩ := HZ.out (by omega)
  have hrz := okT_size hok
  have hall : okF (bs s) = true ∧ 0 ≤ lenT (bs rs) ∧ lenT (bs rs) ≤ 1 := ⟨HK.out, by rw [HLN.out]; omega, by rw [HLN.out]; omega⟩
  by_cases h0 : rs.size = 0
  · have he0 := isEmpty_yes h0
    have HE := Lib.hid (linesT_par hall h0)
    clear hall hok hzz
    have hs10 : (⟨#[10]⟩ : ByteArray).size = 1 := rfl
    have HA0 := Lib.hid (fun W => l08Split_any (s ++ ⟨#[10]⟩) ⟨#[10]⟩ W (by rw [ByteArray.size_append, hs10]; omega) (by rw [hs10]; exact Nat.le_refl _) (by rw [hs10]; omega))
    clear hs10
    go_wp2_with fail
    refine (HA0.out _).mono ?_
    rintro e w4 ⟨v, rfl, hown, hb4⟩
    obtain ⟨a, c, rfl⟩ := ownsRow_slice hown
    have HB4 := Lib.hid (HB3.out.trans (hb4.mono HB3.out.size))
    have HO4 := Lib.hid (ownsRow_below HO3.out hb4)
    have hbs : bs (s ++ ⟨#[10]⟩) = bs s ++ [10] := by simp [bs]
    have hspl : splS (s ++ ⟨#[10]⟩) ⟨#[10]⟩ = (Lib.split (bs s ++ [10]) [10]).map ofL := by unfold splS; rw [hbs]
    rw [hspl, List.length_map] at hown
    rw [hspl, List.length_map]
    have hfin := parasL_spec (bs s)
    have hcnt := (splS_count (s ++ ⟨#[10]⟩) ⟨#[10]⟩ (Nat.le_refl 1)).2
    rw [hspl, List.length_map, ByteArray.size_append] at hcnt
    have hcnt2 : (Lib.split (bs s ++ [10]) [10]).length ≤ s.size + 1 + 1 := hcnt
    have hel : ∀ x ∈ Lib.split (bs s ++ [10]) [10], x.length ≤ 4001 := fun x hx => by
      have := split_elem [10] _ _ x hx
      rw [List.length_append, bs_length] at this
      simp at this
      omega
    generalize Lib.split (bs s ++ [10]) [10] = A at *
    have HEL := Lib.hid hel
    clear hel
    obtain ⟨N, hN⟩ : ∃ N, A.length = N := ⟨_, rfl⟩
    rw [hN] at hown hfin hcnt2 ⊢
    have HA := Lib.hid hown
    have HN := Lib.hid hN
    have HFIN := Lib.hid hfin
    clear hown hb4 hN hfin hbs hspl hcnt
    go_wp2
    go_loopw [5, 7, 8, 9] (fun ov rv mv iv wr => ∃ (j m : Nat), j ≤ N ∧ iv = .int .i64 (j : Int) ∧ mv = .int .i64 (m : Int) ∧ m ≤ j ∧ (m = 0 ↔ (psL A j).2 = none) ∧ rv = .string (ofL ((psL A j).2.getD [])) ∧ ((ov = .slice (some ⟨w.heap.size, 0, none⟩) 0 0 ∧ (psL A j).1 = []) ∨ wr.ownsRow w4.heap.size 9 1 ov (psL A j).1.length (((psL A j).1.map ofL).map Value.string)) ∧ Below w4.heap.size w4 wr) (fun _ _ _ iv _ => N - (intOf iv).toNat)
    case atStart => exact ⟨0, 0, Nat.zero_le _, rfl, rfl, Nat.le_refl _, by simp [psL], rfl, .inl ⟨rfl, rfl⟩, Below.refl _ _⟩
    case round =>
      obtain ⟨j, m, hj, rfl, rfl, hmj, hmr, rfl, hout, hb⟩ := hrel
      have HB := Lib.hid hb
      have hzb := hb.size
      by_cases hlt : j < N
      · have HAR := Lib.hid (ownsRow_below HA.out hb)
        obtain ⟨g, c', hv, hg, hg2⟩ := ownsRow_some HAR.out (by omega)
        simp only [Value.slice.injEq, true_and] at hv
        obtain ⟨rfl, rfl⟩ := hv
        have hjA : j < A.length := by rw [HN.out]; exact hlt
        have hc := HAR.out.cellAt j (by omega)
        rw [List.getElem?_map, List.getElem?_map, List.getElem?_eq_getElem hjA] at hc
        have hnil := psL_nil A j
        have hmore := psL_more A j
        have hgx : A.getD j [] = A[j] := by simp [hjA]
        have hcn := psL_count A j
        have hrw := psL_row A 4001 HEL.out j
        have hxl := HEL.out _ (List.getElem_mem hjA)
        rw [hgx] at hnil hmore
        obtain ⟨x, hx⟩ : ∃ x, A[j] = x := ⟨_, rfl⟩
        rw [hx] at hc hnil hmore hxl
        have hxs : (ofL x).size ≤ 4001 := by rw [size_ofL]; exact hxl
        have hcx : wr.cell? ⟨g, j, none⟩ = some (.string (ofL x)) := hc
        obtain ⟨o, ho⟩ : ∃ o, (psL A j).1 = o := ⟨_, rfl⟩
        obtain ⟨r, hr⟩ : ∃ r, (psL A j).2 = r := ⟨_, rfl⟩
        rw [ho] at hout hnil hmore hcn
        rw [hr] at hmr hnil hmore hcn hrw ⊢
        obtain ⟨q, hq⟩ : ∃ q, o.length = q := ⟨_, rfl⟩
        rw [hq] at hout hcn
        have HQ := Lib.hid hq
        have hol : OutRow wr w4.heap.size 9 u5 q ((o.map ofL).map Value.string) := by
          rcases hout with ⟨h1, h2⟩ | h
          · subst h2
            exact .inl ⟨_, h1, by simpa using hq.symm, rfl⟩
          · exact .inr h
        have HOUT := Lib.hid hout
        have HOL := Lib.hid hol
        have HNIL := Lib.hid hnil
        have HMORE := Lib.hid hmore
        clear hout hnil hmore hgx hx hc hb HAR ho hr hq hol hjA
        by_cases hx0 : x = []
        · have hxe := isEmpty_yes (s := ofL x) (by rw [size_ofL, hx0]; rfl)
          have hps := HNIL.out hx0
          have HPS := Lib.hid hps
          clear hps hx0
          cases r with
          | none =>
            obtain rfl : m = 0 := hmr.2 rfl
            go_wp2
            refine ⟨⟨j + 1, 0, by omega, by go_num, rfl, Nat.zero_le _, by rw [HPS.out]; simp, by rw [HPS.out]; rfl, ?_, HB.out⟩, by simp [intOf]; omega⟩
            rw [HPS.out]
            simp only [Option.toList_none, List.append_nil, HQ.out]
            exact HOUT.out
          | some y =>
            have hm0 : 0 < m := by
              rcases Nat.eq_zero_or_pos m with h | h
              · have := hmr.1 h; cases this
              · exact h
            have hmI : (0 : Int) < m := by omega
            go_wp2_with (at_builtin; refine wpList_append_out rfl _ _ 22 rfl w4.heap.size 9 i0 (.string .empty) 16 Tryd.underlying22 hi hz0 hz1 hz2 rfl _ _ _ rfl (HOL.out.below ((Below.refl _ _).alloc (Nat.le_refl _) _)) ⟨wr.heap.size, 0, none⟩ 1 1 [.string (ofL y)] rfl rfl (Nat.le_refl _) (cell_one_new _ _ _) (fun u hu => by simp at hu; subst hu; rfl) (by unfold maxLen; omega) (by omega) (by simp; omega) ?_; intro v2 w2 hown2 hb2)
            refine ⟨⟨j + 1, 0, by omega, by go_num, rfl, Nat.zero_le _, by rw [HPS.out]; simp, by rw [HPS.out]; rfl, .inr ?_, (HB.out.alloc hzb _).trans hb2⟩, by simp [intOf]; omega⟩
            rw [HPS.out]
            simp only [Option.toList_some, List.length_append, List.map_append, HQ.out]
            exact hown2
        · have hxe := isEmpty_no (s := ofL x) (by rw [size_ofL]; exact List.length_pos_iff.2 hx0)
          have hps := HMORE.out hx0
          have HPS := Lib.hid hps
          clear hps hx0
          cases r with
          | none =>
            obtain rfl : m = 0 := hmr.2 rfl
            have he00 : (ofL []).size = 0 := rfl
            have hadd : ofL [] ++ ofL x = ofL x := bs_inj (by simp [bs, ofL])
            have HADD := Lib.hid hadd
            clear hadd
            go_wp2
            refine ⟨⟨j + 1, 1, by omega, by go_num, rfl, by omega, by rw [HPS.out]; simp, ?_, ?_, HB.out⟩, by simp [intOf]; omega⟩
            · rw [HPS.out]
              exact congrArg Value.string HADD.out
            · rw [HPS.out]
              simp only [HQ.out]
              exact HOUT.out
          | some y =>
            have hm0 : 0 < m := by
              rcases Nat.eq_zero_or_pos m with h | h
              · have := hmr.1 h; cases this
              · exact h
            have hmI : (0 : Int) < m := by omega
            have hys : (ofL y).size ≤ 20000000 := by rw [size_ofL]; have : y.length ≤ j * (4001 + 1) := hrw; omega
            have hadd : ofL y ++ ⟨#[10]⟩ ++ ofL x = ofL (y ++ 10 :: x) := bs_inj (by simp [bs, ofL])
            have HADD := Lib.hid hadd
            clear hadd
            go_wp2
            refine ⟨⟨j + 1, m + 1, by omega, by go_num, by go_num, by omega, by rw [HPS.out]; simp, ?_, ?_, HB.out⟩, by simp [intOf]; omega⟩
            · rw [HPS.out]
              exact congrArg Value.string HADD.out
            · rw [HPS.out]
              simp only [HQ.out]
              exact HOUT.out
      · obtain rfl : j = N := by omega
        have hfin := HFIN.out
        rw [hfin] at hout
        have hpost : wr.ownsRow w.heap.size 9 1 u5 (parasL (bs s)).length (((parasL (bs s)).map ofL).map Value.string) := by
          rcases hout with ⟨rfl, h2⟩ | h
          · have h3 : parasL (bs s) = [] := h2
            rw [h3]
            exact ownsRow_below HO4.out hb
          · exact ownsRow_base h HB4.out.size
        obtain ⟨av, cv, hvv⟩ := ownsRow_slice hpost
        have HP := Lib.hid hpost
        clear hout hpost hfin hmr
        subst hvv
        go_wp2
        go_ret
        rw [HE.out]
        refine ⟨_, rfl, ?_, HB4.out.trans (HB.out.mono HB4.out.size)⟩
        rw [List.length_map]
        exact HP.out
  · have he0 := isEmpty_no (s := rs) (by omega)
    have HE := Lib.hid (linesT_spl hall h0)
    clear hall hok hzz
    go_wp2_with fail
    refine (l08Split_any s rs _ (by omega) (by omega) (by omega)).mono ?_
    rintro e w4 ⟨v, rfl, hown, hb4⟩
    have hpos := splS_pos s rs
    have hcnt := (splS_count s rs (by omega)).2
    generalize splS s rs = L at *
    obtain ⟨k, hk⟩ : ∃ k, L.length = k + 1 := ⟨L.length - 1, by omega⟩
    have hkl : k < L.length := by omega
    rw [hk] at hown hcnt
    obtain ⟨g, c, rfl, hg, hg2⟩ := ownsRow_some hown (by omega)
    obtain ⟨hcap1, hcap2⟩ := ownsRow_cap hown
    unfold maxLen at hcap2
    have HB4 := Lib.hid (HB3.out.trans (hb4.mono HB3.out.size))
    have HOW := Lib.hid (ownsRow_base hown HB3.out.size)
    have hc := hown.cellAt k (by omega)
    rw [List.getElem?_map, List.getElem?_eq_getElem hkl] at hc
    have hde : dropE L = if (L[k]).size = 0 then L.take k else L := by
      unfold dropE
      rw [show L.length - 1 = k by omega, getD_getS L k hkl]
    obtain ⟨x, hx⟩ : ∃ x, L[k] = x := ⟨_, rfl⟩
    rw [hx] at hc hde
    have hc' : w4.cell? ⟨g, k, none⟩ = some (.string x) := hc
    have HDE := Lib.hid hde
    have HK2 := Lib.hid hk
    clear hown hb4 hc hde hx hk hkl hpos
    by_cases hx0 : x.size = 0
    · have hxe := isEmpty_yes hx0
      go_wp2
      go_ret
      rw [HE.out, HDE.out, if_pos hx0]
      have ht := ownsRow_take HOW.out (k := k) (by omega) (by omega)
      rw [← List.map_take] at ht
      have hl : (L.take k).length = k := by rw [List.length_take, HK2.out]; omega
      refine ⟨_, rfl, ?_, HB4.out⟩
      rw [hl]
      exact ht
    · have hxe := isEmpty_no (s := x) (by omega)
      go_wp2
      go_ret
      rw [HE.out, HDE.out, if_neg hx0]
      refine ⟨_, rfl, ?_, HB4.out⟩
      rw [HK2.out]
      exact HOW.out

set_option maxRecDepth 10000 in
set_option maxHeartbeats 2000000 in
theorem paragraphs_any (s : ByteArray) (w : World) (hs : s.size ≤ 4000) (hM : MaxCell w) :
    Calls Tryd.prog 56 #[.string s] w (StrsPost w ((parasL (bs s)).map ofL)) := by
  obtain ⟨i0, hi, hz0, hz1, hz2⟩ := info_parts infoString
  have hs10 : (⟨#[10]⟩ : ByteArray).size = 1 := rfl
  have HA0 := Lib.hid (stringsSplit_any s ⟨#[10]⟩ w hM (by omega) (by rw [hs10]; exact Nat.le_refl _))
  clear hs10 hM
  go_enter Tryd.func56, Tryd.ntmps56
  go_wp2_with fail
  refine HA0.out.mono ?_
  rintro e w4 ⟨v, rfl, hown, hb4⟩
  obtain ⟨a, c, rfl⟩ := ownsRow_slice hown
  have HB4 := Lib.hid hb4
  have hspl : splS s ⟨#[10]⟩ = (Lib.split (bs s) [10]).map ofL := rfl
  rw [hspl, List.length_map] at hown
  rw [hspl, List.length_map]
  have hel : ∀ x ∈ Lib.split (bs s) [10], x.length ≤ 4001 := fun x hx => by
    have := split_elem [10] _ _ x hx
    rw [bs_length] at this
    omega
  have hcnt := (splS_count s ⟨#[10]⟩ (Nat.le_refl 1)).2
  rw [hspl, List.length_map] at hcnt
  have hpar : parasL (bs s) = (psL (Lib.split (bs s) [10]) (Lib.split (bs s) [10]).length).1 ++ (psL (Lib.split (bs s) [10]) (Lib.split (bs s) [10]).length).2.toList := rfl
  generalize Lib.split (bs s) [10] = A at *
  obtain ⟨N, hN⟩ : ∃ N, A.length = N := ⟨_, rfl⟩
  rw [hN] at hown hpar hcnt ⊢
  have HA := Lib.hid hown
  have HN := Lib.hid hN
  have HEL := Lib.hid hel
  have HPAR := Lib.hid hpar
  clear hown hb4 hN hel hspl hpar
  go_wp2
  go_loopw [3, 4, 10] (fun ov bv iv wr => ∃ (j : Nat), j ≤ N ∧ iv = .int .i64 (j : Int) ∧ bv = .bool ((psL A j).2.isSome) ∧ wr.ownsRow w4.heap.size 9 1 ov ((psL A j).1.length + (psL A j).2.toList.length) ((((psL A j).1 ++ (psL A j).2.toList).map ofL).map Value.string) ∧ Below w4.heap.size w4 wr) (fun _ _ iv _ => N - (intOf iv).toNat)
  case atStart => exact ⟨0, Nat.zero_le _, rfl, rfl, ownsRow_none _ _ _, Below.refl _ _⟩
  case round =>
    obtain ⟨j, hj, rfl, rfl, hout, hb⟩ := hrel
    have HB := Lib.hid hb
    have hzb := hb.size
    by_cases hlt : j < N
    · have HAR := Lib.hid (ownsRow_below HA.out hb)
      obtain ⟨g, c', hv, hg, hg2⟩ := ownsRow_some HAR.out (by omega)
      simp only [Value.slice.injEq, true_and] at hv
      obtain ⟨rfl, rfl⟩ := hv
      have hjA : j < A.length := by rw [HN.out]; exact hlt
      have hc := HAR.out.cellAt j (by omega)
      rw [List.getElem?_map, List.getElem?_map, List.getElem?_eq_getElem hjA] at hc
      have hnil := psL_nil A j
      have hmore := psL_more A j
      have hgx : A.getD j [] = A[j] := by simp [hjA]
      have hcn := psL_count A j
      have hrw := psL_row A 4001 HEL.out j
      have hxl := HEL.out _ (List.getElem_mem hjA)
      rw [hgx] at hnil hmore
      obtain ⟨x, hx⟩ : ∃ x, A[j] = x := ⟨_, rfl⟩
      rw [hx] at hc hnil hmore hxl
      have hxs : (ofL x).size ≤ 4001 := by rw [size_ofL]; exact hxl
      have hcx : wr.cell? ⟨g, j, none⟩ = some (.string (ofL x)) := hc
      obtain ⟨o, ho⟩ : ∃ o, (psL A j).1 = o := ⟨_, rfl⟩
      obtain ⟨r, hr⟩ : ∃ r, (psL A j).2 = r := ⟨_, rfl⟩
      rw [ho] at hout hnil hmore hcn
      rw [hr] at hout hnil hmore hcn hrw ⊢
      obtain ⟨q, hq⟩ : ∃ q, o.length = q := ⟨_, rfl⟩
      rw [hq] at hout hcn
      have HQ := Lib.hid hq
      have HOUT := Lib.hid hout
      have HNIL := Lib.hid hnil
      have HMORE := Lib.hid hmore
      clear hout hnil hmore hgx hx hc hb HAR ho hr hq hjA
      by_cases hx0 : x = []
      · have hxe := isEmpty_yes (s := ofL x) (by rw [size_ofL, hx0]; rfl)
        have hps := HNIL.out hx0
        have HPS := Lib.hid hps
        clear hps hx0
        go_wp2
        refine ⟨⟨j + 1, by omega, by go_num, by rw [HPS.out]; rfl, ?_, HB.out⟩, by simp [intOf]; omega⟩
        rw [HPS.out]
        simp only [Option.toList_none, List.append_nil, List.length_append, List.length_nil, Nat.add_zero, HQ.out]
        exact HOUT.out
      · have hxe := isEmpty_no (s := ofL x) (by rw [size_ofL]; exact List.length_pos_iff.2 hx0)
        have hps := HMORE.out hx0
        have HPS := Lib.hid hps
        clear hps hx0
        cases r with
        | none =>
          simp only [Option.toList_none, List.append_nil, List.length_nil, Nat.add_zero] at HOUT hcn
          go_wp2_with (at_builtin; refine wpList_append_own _ rfl _ _ 22 rfl w4.heap.size 9 i0 (.string .empty) 1 16 Tryd.underlying22 hi hz0 hz1 hz2 rfl (by decide) _ _ _ rfl (HOUT.out.alloc _) ⟨wr.heap.size, 0, none⟩ 1 1 [.string (ofL x)] rfl rfl (cell_one_new _ _ _) (fun u hu => by simp at hu; subst hu; rfl) (by unfold maxLen; omega) (by omega) (by simp; omega) ?_; intro v2 w2 hown2 hgr2 hnil2)
          have hbz : Below w4.heap.size w4 w2 := Below.grown (HB.out.alloc hzb _) hgr2 (by simp; omega) (ownBlock_lo HOUT.out)
          refine ⟨⟨j + 1, by omega, by go_num, by rw [HPS.out]; rfl, ?_, hbz⟩, by simp [intOf]; omega⟩
          rw [HPS.out]
          simp only [Option.toList_some, List.length_cons, List.length_nil, List.map_append, HQ.out]
          exact hown2
        | some y =>
          have hys : (ofL y).size ≤ 20000000 := by rw [size_ofL]; have : y.length ≤ j * (4001 + 1) := hrw; omega
          have HO2 : wr.ownsRow w4.heap.size 9 1 u3 (q + 1) (((o ++ [y]).map ofL).map Value.string) := HOUT.out
          obtain ⟨g2, c2, rfl, hgb, hgs⟩ := ownsRow_some HO2 (by omega)
          have hcq := HO2.cellAt q (by omega)
          have hfq := HO2.frozenAt q
          have hyq : (((o ++ [y]).map ofL).map Value.string)[q]? = some (.string (ofL y)) := by
            rw [List.getElem?_map, List.getElem?_map, List.getElem?_append_right (by rw [HQ.out]; exact Nat.le_refl _), HQ.out, Nat.sub_self]
            rfl
          rw [hyq] at hcq
          have hadd : ofL y ++ (⟨#[10]⟩ ++ ofL x) = ofL (y ++ 10 :: x) := bs_inj (by simp [bs, ofL])
          have hset : (((o ++ [y]).map ofL).map Value.string).set q (.string (ofL y ++ (⟨#[10]⟩ ++ ofL x))) = ((o ++ [y ++ 10 :: x]).map ofL).map Value.string := by
            rw [hadd, List.map_append, List.map_append, List.map_append, List.map_append, List.set_append_right _ _ (by rw [List.length_map, List.length_map, HQ.out]; exact Nat.le_refl _), List.length_map, List.length_map, HQ.out, Nat.sub_self]
            rfl
          have HSET := Lib.hid hset
          have HST := Lib.hid (HO2.stored q (.string (ofL y ++ (⟨#[10]⟩ ++ ofL x)))).1
          clear HO2 HOUT hadd hset hyq
          go_wp2
          go_light
          refine ⟨⟨j + 1, by omega, by go_num, by rw [HPS.out]; rfl, ?_, HB.out.setCell hgb _⟩, by simp [intOf]; omega⟩
          rw [HPS.out]
          simp only [Option.toList_some, List.length_cons, List.length_nil, HQ.out]
          rw [← HSET.out]
          exact HST.out
    · obtain rfl : j = N := by omega
      obtain ⟨av, cv, hvv⟩ := ownsRow_slice hout
      have HP := Lib.hid hout
      clear hout
      subst hvv
      go_wp2
      go_ret
      rw [HPAR.out]
      refine ⟨_, rfl, ?_, HB4.out.trans (HB.out.mono HB4.out.size)⟩
      rw [List.length_map, List.length_append]
      exact ownsRow_base HP.out HB4.out.size

set_option maxRecDepth 10000 in
set_option maxHeartbeats 2000000 in
theorem implLines_any (s rs : ByteArray) (w : World) (hs : s.size ≤ 1099511627776) (hrs : rs.size ≤ 1099511627776) (hT : Tabs w) (hM : MaxCell w) :
    Calls Tryd.prog 28 #[.string s, .string rs] w (StrsPost w (linesT s rs)) := by
  have HT := Lib.hid hT
  have HMX := Lib.hid hM
  clear hT hM
  go_enter Tryd.func28, Tryd.ntmps28
  go_wp2_with fail
  refine (isFile_any s _ hs HT.out).mono ?_
  rintro e w1 ⟨rfl, hb1⟩
  have HB1 := Lib.hid hb1
  clear hb1
  cases hk : okF (bs s)
  · have HE := Lib.hid (linesT_no (s := s) (rs := rs) (fun h => by rw [hk] at h; cases h.1))
    go_wp2
    go_ret
    rw [HE.out]
    exact ⟨_, rfl, ownsRow_none _ _ _, HB1.out⟩
  have HK := Lib.hid hk
  have hs4 := okF_size hk
  clear hk
  obtain ⟨ln, hln⟩ : ∃ ln, lenT (bs rs) = ln := ⟨_, rfl⟩
  have HLN := Lib.hid hln
  have hz := lenT_zero (rs := rs)
  rw [hln] at hz
  have HZ := Lib.hid hz
  clear hz hln
  go_wp2_with fail
  refine (implLength_any rs _ hrs (HT.out.below HB1.out)).mono ?_
  rintro e w2 ⟨rfl, hb2⟩
  rw [HLN.out]
  have HB2 := Lib.hid (HB1.out.trans (hb2.mono HB1.out.size))
  clear hb2
  by_cases h0 : ln = 0
  · obtain ⟨hok, hzz⟩ := HZ.out (by omega)
    have HE := Lib.hid (linesT_par (s := s) (rs := rs) ⟨HK.out, by rw [HLN.out]; omega, by rw [HLN.out]; omega⟩ (hzz.1 h0))
    have hb0 : (ln == 0) = true := by rw [h0]; rfl
    clear h0 hok hzz
    go_wp2_with fail
    refine (paragraphs_any s _ hs4 (HMX.out.below HB2.out)).mono ?_
    rintro e w3 ⟨v, rfl, hown, hb3⟩
    obtain ⟨a, c, rfl⟩ := ownsRow_slice hown
    go_wp2
    go_ret
    rw [HE.out]
    refine ⟨_, rfl, ?_, HB2.out.trans (hb3.mono HB2.out.size)⟩
    rw [List.length_map] at hown ⊢
    exact ownsRow_base hown HB2.out.size
  by_cases h1 : ln = 1
  · obtain ⟨hok, hzz⟩ := HZ.out (by omega)
    have hr0 : ¬ rs.size = 0 := fun h => h0 (hzz.2 h)
    have HE := Lib.hid (linesT_spl (s := s) (rs := rs) ⟨HK.out, by rw [HLN.out]; omega, by rw [HLN.out]; omega⟩ hr0)
    have hb0 : (ln == 0) = false := by rw [beq_eq_false_iff_ne]; exact h0
    have hb1 : (ln == 1) = true := by rw [h1]; rfl
    have hcnt := (splS_count s rs (by omega)).2
    clear h0 h1 hok hzz
    go_wp2_with fail
    refine (stringsSplit_any s rs _ (HMX.out.below HB2.out) (by omega) (by omega)).mono ?_
    rintro e w4 ⟨v, rfl, hown, hb4⟩
    have hpos := splS_pos s rs
    generalize splS s rs = L at *
    obtain ⟨k, hk⟩ : ∃ k, L.length = k + 1 := ⟨L.length - 1, by omega⟩
    have hkl : k < L.length := by omega
    rw [hk] at hown hcnt
    obtain ⟨g, c, rfl, hg, hg2⟩ := ownsRow_some hown (by omega)
    obtain ⟨hcap1, hcap2⟩ := ownsRow_cap hown
    unfold maxLen at hcap2
    have HB4 := Lib.hid (HB2.out.trans (hb4.mono HB2.out.size))
    have HOW := Lib.hid (ownsRow_base hown HB2.out.size)
    have hc := hown.cellAt k (by omega)
    rw [List.getElem?_map, List.getElem?_eq_getElem hkl] at hc
    have hde : dropE L = if (L[k]).size = 0 then L.take k else L := by
      unfold dropE
      rw [show L.length - 1 = k by omega, getD_getS L k hkl]
    obtain ⟨x, hx⟩ : ∃ x, L[k] = x := ⟨_, rfl⟩
    rw [hx] at hc hde
    have hc' : w4.cell? ⟨g, k, none⟩ = some (.string x) := hc
    have HDE := Lib.hid hde
    have HK2 := Lib.hid hk
    clear hown hb4 hc hde hx hk hkl hpos
    by_cases hx0 : x.size = 0
    · have hxe := isEmpty_yes hx0
      go_wp2
      go_ret
      rw [HE.out, HDE.out, if_pos hx0]
      have ht := ownsRow_take HOW.out (k := k) (by omega) (by omega)
      rw [← List.map_take] at ht
      have hl : (L.take k).length = k := by rw [List.length_take, HK2.out]; omega
      refine ⟨_, rfl, ?_, HB4.out⟩
      rw [hl]
      exact ht
    · have hxe := isEmpty_no (s := x) (by omega)
      go_wp2
      go_ret
      rw [HE.out, HDE.out, if_neg hx0]
      refine ⟨_, rfl, ?_, HB4.out⟩
      rw [HK2.out]
      exact HOW.out
  · have hb0 : (ln == 0) = false := by rw [beq_eq_false_iff_ne]; exact h0
    have hb1 : (ln == 1) = false := by rw [beq_eq_false_iff_ne]; exact h1
    have HE := Lib.hid (linesT_no (s := s) (rs := rs) (fun h => by have h2 := h.2.1; have h3 := h.2.2; rw [HLN.out] at h2 h3; omega))
    go_wp2
    go_ret
    rw [HE.out]
    exact ⟨_, rfl, ownsRow_none _ _ _, HB2.out⟩
end Go.Proofs.YtnleemcddhpanaaDoor
