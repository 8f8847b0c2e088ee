/-
  The contracts of Find, the reference's and the program's: where a text stands in another. Conditions: as in the text on Runes; the library's MaxLen holds an int.
-/
import Derived.Test.YtbdamjhgggnihaaDoorPickL
import Derived.Test.YtbdamjhgggnihaaDoorTextOk
import Derived.Test.YtbdamjhgggnihaaDoorLength
import Derived.Test.YtbdamjhgggnihaaDoorFill
import Derived.Test.YtbdamjhgggnihaaDoorShelf
namespace Go.Proofs.YtbdamjhgggnihaaDoor
open Go.RowKit
open Go.Lib hiding intOf
set_option linter.unusedVariables false
set_option linter.unusedSimpArgs false

/-- the library's MaxLen holds an int -/
def MaxCell (w : World) : Prop := ∃ m : Int, w.cell? ⟨2, 0, none⟩ = some (.int .i64 m)
theorem MaxCell.below {w w' : World} (h : MaxCell w) (hb : Below w.heap.size w w') : MaxCell w' := by
  obtain ⟨m, hm⟩ := h
  obtain ⟨c, -⟩ := bcell hb
  exact ⟨m, by rw [c _ _ (cell_lt hm)]; exact hm⟩
theorem max_of {w : World} (h : w.ShapedOpen Tryd.prog) : MaxCell w := Tryd.laysM143.s1_3 w h
theorem index_any (s t : ByteArray) (w : World) (hM : MaxCell w) (hs : s.size < 4294967281) :
    Calls Tryd.prog 46 #[.string s, .string t] w fun e w' => e = .returned (.int .i64 (Lib.index (bs s) (bs t))) ∧ w' = w := by
  obtain ⟨m, hm⟩ := hM
  exact Tryd.strings_Index s t m w hs hm
theorem bs_cut (s : ByteArray) (k : Nat) : bs (s.extract 0 k) = (bs s).take k := by
  show (s.extract 0 k).data.toList = _
  rw [Lib.extract_data]; simp [bs]
/-- what Find gives -/
def FindPost (l m : List UInt8) (v : Int) : Prop := ((okT l = false ∨ okT m = false ∨ m = []) ∧ v = 0) ∨ (okT l = true ∧ okT m = true ∧ m ≠ [] ∧ FindIs (rl l) (rl m) v)
theorem FindPost.same {l m : List UInt8} {v v' : Int} (h : FindPost l m v) (h' : FindPost l m v') : v = v' := by
  rcases h with ⟨h1, rfl⟩ | ⟨h1, h2, h3, h4⟩ <;> rcases h' with ⟨h5, rfl⟩ | ⟨h5, h6, h7, h8⟩
  · rfl
  · rcases h1 with h | h | h
    · rw [h] at h5; cases h5
    · rw [h] at h6; cases h6
    · exact absurd h h7
  · rcases h5 with h | h | h
    · rw [h] at h1; cases h1
    · rw [h] at h2; cases h2
    · exact absurd h h3
  · exact h4.same h8
theorem rl_nil {m : List UInt8} (h : okT m = true) : rl m = [] ↔ m = [] := by
  obtain ⟨h1, _, _⟩ := okT_enc h
  constructor
  · intro h2; rw [h1, h2]; rfl
  · intro h2; subst h2; rfl

set_option maxRecDepth 10000 in
set_option maxHeartbeats 2000000 in
theorem specFind_any (s t : ByteArray) (w : World) (hs : s.size ≤ 1099511627776) (ht : t.size ≤ 1099511627776) :
    Calls Tryd.prog 27 #[.string s, .string t] w fun e w' => ∃ v, e = .returned (.int .i64 v) ∧ FindPost (bs s) (bs t) v ∧ Below w.heap.size w w' := by
  have hsh := rl_short (bs s)
  have hsh2 := rl_short (bs t)
  obtain ⟨n, hn⟩ : ∃ n, (rl (bs s)).length = n := ⟨_, rfl⟩
  obtain ⟨m, hm⟩ : ∃ m, (rl (bs t)).length = m := ⟨_, rfl⟩
  rw [hn] at hsh
  rw [hm] at hsh2
  have HN := Lib.hid hn
  have HM := Lib.hid hm
  clear hn hm
  go_enter Tryd.func27, Tryd.ntmps27
  go_wp2_with fail
  refine (specRunes_any s _ hs).mono ?_
  rintro e w1 ⟨v0, rfl, hown0, hb1⟩
  obtain ⟨a0, c0, rfl⟩ := ownsRow_slice hown0
  rw [HN.out] at hown0 ⊢
  have HB1 := Lib.hid hb1
  have HO0 := Lib.hid hown0
  clear hb1 hown0
  go_wp2_with fail
  refine (specRunes_any t _ ht).mono ?_
  rintro e w2 ⟨v1, rfl, hown1, hb2⟩
  obtain ⟨a1, c1, rfl⟩ := ownsRow_slice hown1
  rw [HM.out] at hown1 ⊢
  have HB2 := Lib.hid (HB1.out.trans (hb2.mono HB1.out.size))
  have HO02 := Lib.hid (ownsRow_below HO0.out hb2)
  have HO1 := Lib.hid hown1
  clear hb2 hown1
  cases hk : okT (bs s)
  · go_wp2
    go_ret
    exact ⟨0, rfl, .inl ⟨.inl hk, rfl⟩, HB2.out⟩
  cases hk2 : okT (bs t)
  · go_wp2
    go_ret
    exact ⟨0, rfl, .inl ⟨.inr (.inl hk2), rfl⟩, HB2.out⟩
  by_cases h0 : m = 0
  · have hz : bs t = [] := (rl_nil hk2).1 (List.eq_nil_of_length_eq_zero (by rw [HM.out]; exact h0))
    have HZ := Lib.hid hz
    have h0' : ((m : Int) == 0) = true := by rw [h0]; rfl
    clear hz
    go_wp2
    go_ret
    exact ⟨0, rfl, .inl ⟨.inr (.inr HZ.out), rfl⟩, HB2.out⟩
  · have h0' : ((m : Int) == 0) = false := by rw [beq_eq_false_iff_ne]; omega
    have hz : bs t ≠ [] := fun e => h0 (by rw [← HM.out, (rl_nil hk2).2 e]; rfl)
    have hfp : ∀ v, FindIs (rl (bs s)) (rl (bs t)) v → FindPost (bs s) (bs t) v := fun v h => .inr ⟨hk, hk2, hz, h⟩
    have HFP := Lib.hid hfp
    clear hfp
    have hbn : rl (bs t) ≠ [] := fun e => hz ((rl_nil hk2).1 e)
    generalize rl (bs s) = A at *
    generalize rl (bs t) = C at *
    have HBN := Lib.hid hbn
    clear hk hk2 hz hbn
    go_wp2
    go_loopw [9] (fun i wr => ∃ j : Nat, j ≤ n ∧ i = .int .i64 j ∧ Below w2.heap.size w2 wr ∧ ∀ k, k < j → ¬ C <+: A.drop k) (fun i _ => n - (intOf i).toNat)
    case atStart => exact ⟨0, Nat.zero_le _, rfl, Below.refl _ _, fun k hk => absurd hk (Nat.not_lt_zero _)⟩
    case round =>
      obtain ⟨j, hj, rfl, hb, hno⟩ := hrel
      have HB := Lib.hid hb
      have HNO := Lib.hid hno
      clear hb hno
      by_cases hlt : j + m ≤ n
      · have hltI : (j : Int) + m ≤ n := by omega
        go_wp2
        go_loopw [10, 11] (fun same k wi => ∃ t : Nat, t ≤ m ∧ k = .int .i64 t ∧ same = .bool (eqTo A C j t) ∧ Below w2.heap.size w2 wi) (fun _ k _ => m - (intOf k).toNat)
        case atStart => exact ⟨0, Nat.zero_le _, rfl, rfl, HB.out⟩
        case round =>
          obtain ⟨k, hkm, rfl, rfl, hb⟩ := hrel
          have HBI := Lib.hid hb
          have HR0 := Lib.hid (ownsRow_below HO02.out hb)
          have HR1 := Lib.hid (ownsRow_below HO1.out hb)
          clear hb
          cases hq : eqTo A C j k
          · have HNP := Lib.hid (show ¬ C <+: A.drop j from fun h => by
              have h1 := (eqTo_prefix (a := A) (b := C) (i := j) (by rw [HM.out, HN.out]; exact hlt)).2 h
              rw [HM.out, eqTo_le hq hkm] at h1
              cases h1)
            clear hq
            by_cases hkl : k < m
            · go_wp2
              refine ⟨⟨j + 1, by omega, by go_num, HBI.out, fun k hk hp => ?_⟩, by simp [intOf]; omega⟩
              by_cases e : k = j
              · rw [e] at hp; exact HNP.out hp
              · exact HNO.out k (by omega) hp
            · go_wp2
              refine ⟨⟨j + 1, by omega, by go_num, HBI.out, fun k hk hp => ?_⟩, by simp [intOf]; omega⟩
              by_cases e : k = j
              · rw [e] at hp; exact HNP.out hp
              · exact HNO.out k (by omega) hp
          · by_cases hkl : k < m
            · have hkA : j + k < A.length := by rw [HN.out]; omega
              have hkC : k < C.length := by rw [HM.out]; omega
              obtain ⟨g0, cap0, hv0, hg0, hg02⟩ := ownsRow_some HR0.out (by omega)
              simp only [Value.slice.injEq, true_and] at hv0
              obtain ⟨rfl, rfl⟩ := hv0
              obtain ⟨g1, cap1, hv1, hg1, hg12⟩ := ownsRow_some HR1.out (by omega)
              simp only [Value.slice.injEq, true_and] at hv1
              obtain ⟨rfl, rfl⟩ := hv1
              have hc0 := HR0.out.cellAt (j + k) (by omega)
              rw [List.getElem?_map, List.getElem?_eq_getElem hkA] at hc0
              have hc1 := HR1.out.cellAt k (by omega)
              rw [List.getElem?_map, List.getElem?_eq_getElem hkC] at hc1
              have hsu := eqTo_succ A C j k
              rw [hq, show A.getD (j + k) 0 = A[j + k] by simp [hkA], show C.getD k 0 = C[k] by simp [hkC], Bool.true_and] at hsu
              generalize A[j + k] = x at *
              generalize C[k] = y at *
              have hcx : wr.cell? ⟨g0, j + k, none⟩ = some (.int .i64 (x : Int)) := hc0
              have hcy : wr.cell? ⟨g1, k, none⟩ = some (.int .i64 (y : Int)) := hc1
              have HSU := Lib.hid hsu
              clear hc0 hc1 hsu hq hkA hkC
              by_cases hxy : x = y
              · subst hxy
                have hb : ((x : Int) == (x : Int)) = true := by simp
                go_wp2
                go_quiet (fail)
                go_wp2
                refine ⟨⟨k + 1, by omega, by go_num, ?_, Go.below_drewN HBI.out _⟩, by simp [intOf]; omega⟩
                rw [HSU.out]; simp
              · have hb : ((x : Int) == (y : Int)) = false := by rw [beq_eq_false_iff_ne]; omega
                go_wp2
                go_quiet (fail)
                go_wp2
                refine ⟨⟨k + 1, by omega, by go_num, ?_, Go.below_drewN HBI.out _⟩, by simp [intOf]; omega⟩
                rw [HSU.out, beq_eq_false_iff_ne.2 hxy]
            · obtain rfl : k = m := by omega
              have hfi : FindIs A C ((j : Int) + 1) := .inl ⟨j, rfl, by rw [HM.out, HN.out]; exact hlt, (eqTo_prefix (a := A) (b := C) (i := j) (by rw [HM.out, HN.out]; exact hlt)).1 (by rw [HM.out]; exact hq), HNO.out⟩
              have HFI := Lib.hid (HFP.out _ hfi)
              clear hfi hq
              go_wp2
              go_ret
              exact ⟨(j : Int) + 1, rfl, HFI.out, HB2.out.trans (HBI.out.mono HB2.out.size)⟩
      · have hltI : ¬ (j : Int) + m ≤ n := by omega
        have hfi : FindIs A C 0 := .inr ⟨rfl, fun k hk => by
          by_cases hkj : k < j
          · exact HNO.out k hkj hk
          · have := prefix_room hk HBN.out
            rw [HM.out, HN.out] at this
            omega⟩
        have HFI := Lib.hid (HFP.out 0 hfi)
        clear hfi
        go_wp2
        go_ret
        exact ⟨0, rfl, HFI.out, HB2.out.trans (HB.out.mono HB2.out.size)⟩

set_option maxRecDepth 10000 in
set_option maxHeartbeats 1000000 in
theorem implFind_any (s t : ByteArray) (w : World) (hs : s.size ≤ 1099511627776) (ht : t.size ≤ 1099511627776) (hT : Tabs w) (hM : MaxCell w) :
    Calls Tryd.prog 28 #[.string s, .string t] w fun e w' => ∃ v, e = .returned (.int .i64 v) ∧ FindPost (bs s) (bs t) v ∧ Below w.heap.size w w' := by
  have HT := Lib.hid hT
  have HMX := Lib.hid hM
  clear hT hM
  go_enter Tryd.func28, Tryd.ntmps28
  go_wp2_with fail
  refine (implTextOk_any s _ hs HT.out).mono ?_
  rintro e w1 ⟨rfl, hb1⟩
  have HB1 := Lib.hid hb1
  clear hb1
  cases hk : okT (bs s)
  · go_wp2
    go_ret
    exact ⟨0, rfl, .inl ⟨.inl hk, rfl⟩, HB1.out⟩
  have HK := Lib.hid hk
  clear hk
  go_wp2_with fail
  refine (implTextOk_any t _ ht (HT.out.below HB1.out)).mono ?_
  rintro e w2 ⟨rfl, hb2⟩
  have HB2 := Lib.hid (HB1.out.trans (hb2.mono HB1.out.size))
  clear hb2
  cases hk2 : okT (bs t)
  · go_wp2
    go_ret
    exact ⟨0, rfl, .inl ⟨.inr (.inl hk2), rfl⟩, HB2.out⟩
  have HK2 := Lib.hid hk2
  clear hk2
  by_cases h0 : t.size = 0
  · have HZ := Lib.hid (bs_empty h0)
    have h0' := isEmpty_yes h0
    go_wp2
    go_ret
    exact ⟨0, rfl, .inl ⟨.inr (.inr HZ.out), rfl⟩, HB2.out⟩
  · have HNZ := Lib.hid (ne_nil (s := t) (by omega))
    have h0' := isEmpty_no (s := t) (by omega)
    obtain ⟨hea, hpa, hla⟩ := okT_enc HK.out
    obtain ⟨heb, hpb, hlb⟩ := okT_enc HK2.out
    rw [bs_length] at hla hlb
    have hbn : rl (bs t) ≠ [] := fun e => HNZ.out ((rl_nil HK2.out).1 e)
    have hfp : ∀ v, FindIs (rl (bs s)) (rl (bs t)) v → FindPost (bs s) (bs t) v := fun v h => .inr ⟨HK.out, HK2.out, HNZ.out, h⟩
    have HFP := Lib.hid hfp
    clear hfp
    have hidx := index_enc hpa hpb hbn
    rw [← hea, ← heb] at hidx
    rcases hidx with ⟨h1, h2⟩ | ⟨i, h1, h2, h3⟩
    · have HFI := Lib.hid (HFP.out 0 h2)
      clear hea heb hpa hpb hbn h2
      go_wp2_with fail
      refine (index_any s t _ (HMX.out.below HB2.out) (by omega)).mono ?_
      rintro e w3 ⟨rfl, hw3⟩
      obtain rfl : w2 = w3 := hw3.symm
      rw [h1]
      clear h1
      go_wp2
      go_ret
      exact ⟨0, rfl, HFI.out, HB2.out⟩
    · have HFI := Lib.hid (HFP.out _ h3)
      have hple : (enc ((rl (bs s)).take i)).length ≤ s.size := by
        have h4 := enc_take (rl (bs s)) i
        rw [← hea] at h4
        have h5 := congrArg List.length h4
        rw [List.length_take, bs_length] at h5
        omega
      have hpre : bs (s.extract 0 (enc ((rl (bs s)).take i)).length) = enc ((rl (bs s)).take i) := by
        have h4 := enc_take (rl (bs s)) i
        rw [← hea] at h4
        rw [bs_cut]
        exact h4
      have hlen : lenT (enc ((rl (bs s)).take i)) = (i : Int) := by
        obtain ⟨h4, h5⟩ := okT_enc' (r := (rl (bs s)).take i) (fun c hc => hpa c (List.mem_of_mem_take hc)) (by omega)
        unfold lenT
        rw [if_pos h4, h5, List.length_take, Nat.min_eq_left (by omega)]
      generalize enc ((rl (bs s)).take i) = P at *
      obtain ⟨p, hp⟩ : ∃ p, P.length = p := ⟨_, rfl⟩
      rw [hp] at h2 hple hpre
      have hi1 := rl_short (bs s)
      have HIX := Lib.hid h2
      have HPR := Lib.hid hpre
      have HLE := Lib.hid hlen
      clear hea heb hpa hpb hbn h2 h3 hpre hlen hp
      go_wp2_with fail
      refine (index_any s t _ (HMX.out.below HB2.out) (by omega)).mono ?_
      rintro e w3 ⟨rfl, hw3⟩
      obtain rfl : w2 = w3 := hw3.symm
      rw [HIX.out]
      go_wp2_with fail
      refine (implLength_any (s.extract 0 p) _ (by rw [ByteArray.size_extract]; omega) (HT.out.below HB2.out)).mono ?_
      rintro e w4 ⟨rfl, hb4⟩
      rw [HPR.out, HLE.out]
      go_wp2
      go_ret
      exact ⟨(i : Int) + 1, rfl, HFI.out, HB2.out.trans (hb4.mono HB2.out.size)⟩
end Go.Proofs.YtbdamjhgggnihaaDoor
