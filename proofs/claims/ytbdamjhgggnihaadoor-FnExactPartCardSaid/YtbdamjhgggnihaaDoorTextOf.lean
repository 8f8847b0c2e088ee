/-
  The contracts of textOf and TextOf: the text of a list of code points. Conditions: the list stands in memory and has at most 2 to the 20 numbers.
-/
import Derived.Test.YtbdamjhgggnihaaDoorPickL
import Derived.Test.YtbdamjhgggnihaaDoorBuilt
import Derived.Test.YtbdamjhgggnihaaDoorCased
namespace Go.Proofs.YtbdamjhgggnihaaDoor
open Go.RowKit
open Go.Lib hiding intOf
set_option linter.unusedVariables false
set_option linter.unusedSimpArgs false

set_option maxRecDepth 10000 in
set_option maxHeartbeats 1000000 in
theorem textOf_any (a : Option Addr) (cap n : Nat) (l : List Int) (w : World) (h : RowI .i64 w a l) (hln : l.length = n) (hl : n ≤ 1048576) :
    Calls Tryd.prog 45 #[.slice a n cap] w fun e w' => e = .returned (.tuple #[.string (ofL (txtI l)), .bool (ptsOk l)]) ∧ Below w.heap.size w w' := by
  have HR := Lib.hid h
  have HLN := Lib.hid hln
  clear h hln
  go_enter Tryd.func45, Tryd.ntmps45
  go_wp2
  go_loopw [9] (fun i wr => ∃ j : Nat, j ≤ n ∧ i = .int .i64 j ∧ Built w.heap.size w.heap.size (encI (l.take j)) wr ∧ Below w.heap.size w wr ∧ ptsOk (l.take j) = true) (fun i _ => n - (intOf i).toNat)
  case atStart => exact ⟨0, Nat.zero_le _, rfl, built_new w, (Below.refl _ _).alloc (Nat.le_refl _) _, rfl⟩
  case round =>
    obtain ⟨j, hj, rfl, hbu, hb, hok⟩ := hrel
    have HB := Lib.hid hb
    have HBU := Lib.hid hbu
    have HOK := Lib.hid hok
    have hsz := hb.size
    have hlen := encI_length (l.take j)
    rw [List.length_take] at hlen
    clear hb hbu hok
    by_cases hlt : j < n
    · have hjl : j < l.length := by rw [HLN.out]; exact hlt
      have hR : RowI .i64 wr a l := HR.out.below HB.out
      rcases hR with h0 | ⟨b, off, rfl, hbl, hc⟩
      · rw [h0] at hjl; exact absurd hjl (Nat.not_lt_zero _)
      have hc0 := hc j hjl
      rw [getD_get l j hjl] at hc0
      have hmem := List.getElem_mem hjl
      have htk := encI_take l j hjl
      have hpk := ptsOk_take hjl HOK.out
      generalize l[j] = c at *
      have HTK := Lib.hid htk
      have HPK := Lib.hid hpk
      clear htk hpk hc
      cases hp : isPt c
      · have hno := ptsOk_no hmem hp
        have e : txtI l = [] := by unfold txtI; rw [hno]; rfl
        go_wp2_with (go_at_call 58; refine (isPoint_any _ _).mono ?_; rintro e w1 ⟨rfl, rfl⟩; rw [hp])
        go_ret2
        rw [e, hno]
        exact ⟨rfl, HB.out⟩
      · have hpi := hp
        rw [isPt_iff] at hpi
        obtain ⟨hp1, hp2, hp3⟩ := hpi
        have HP := Lib.hid hp
        obtain ⟨d, hd⟩ : ∃ d : Nat, c.toNat = d := ⟨_, rfl⟩
        have hcd : c = (d : Int) := by omega
        subst hcd
        have hdd : ((d : Int)).toNat = d := by omega
        rw [hdd] at HTK
        clear hd hdd
        go_wp2_with fail
        refine (isPoint_any _ _).mono ?_
        rintro e w1 ⟨rfl, hw1⟩
        obtain rfl : wr = w1 := hw1.symm
        rw [HP.out]
        go_wp2_with fail
        refine (writeRune_any _ _ _ d (by omega) _ HBU.out (by omega) hsz).mono ?_
        rintro e w2 ⟨rfl, hbu2, hb2⟩
        go_wp2
        refine ⟨⟨j + 1, by omega, by go_num, by rw [HTK.out]; exact hbu2, HB.out.trans hb2, HPK.out HP.out⟩, by simp [intOf]; omega⟩
    · obtain rfl : j = n := by omega
      have hall : l.take j = l := List.take_of_length_le (by rw [HLN.out]; exact Nat.le_refl _)
      rw [hall] at HBU HOK hlen
      have e : txtI l = encI l := by unfold txtI; rw [if_pos HOK.out]
      go_wp2_with fail
      refine (builtString_any _ _ _ _ HBU.out hsz).mono ?_
      rintro e w2 ⟨rfl, hb2⟩
      go_wp2
      go_ret2
      rw [e, HOK.out]
      exact ⟨rfl, HB.out.trans hb2⟩


end Go.Proofs.YtbdamjhgggnihaaDoor
