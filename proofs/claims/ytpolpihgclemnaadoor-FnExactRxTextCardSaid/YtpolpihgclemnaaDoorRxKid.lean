/-
  The program's kidText. Conditions: bounds.
-/
import Derived.Test.YtpolpihgclemnaaDoorRxSet
import Derived.Test.YtpolpihgclemnaaDoorStrs
namespace Go.Proofs.YtpolpihgclemnaaDoor
open Go.RowKit
open Go.Lib hiding intOf
set_option linter.unusedVariables false
set_option linter.unusedSimpArgs false

set_option maxRecDepth 10000 in
theorem kidText_any (Q : List NdQ) (S : List ByteArray) (aq a2 : Option Addr) (n cq m ct k bz nz cz : Nat) (Z : List Int) (x : Int) (s : ByteArray) (w : World)
    (hq : NdR w aq Q) (hn : Q.length = n) (hS : RowS w a2 S) (hm : S.length = m) (hkn : k < n) (hkm : k < m) (hx : ∃ h : k < Q.length, Q[k].op = x) (hs : S.getD k .empty = s) (hss : s.size ≤ 1000) (hn1 : n ≤ 1048576) (hm1 : m ≤ 1048576)
    (hz : Z.length = nz) (hz1 : nz ≤ 10) (hc : ∀ j, j < Z.length → w.cell? ⟨bz, 0 + j, none⟩ = some (.int .i64 (Z.getD j 0))) (hbz : bz < w.heap.size) :
    Calls Tryd.prog 32 #[.agg #[.slice aq n cq], .slice a2 m ct, .int .i64 k, .slice (some ⟨bz, 0, none⟩) nz cz] w fun e w' => e = .returned (.string (if Z.contains x = true then ⟨#[40]⟩ ++ s ++ ⟨#[41]⟩ else s)) ∧ Below w.heap.size w w' := by
  obtain ⟨hkq, hx⟩ := hx
  obtain ⟨u, hu, su, bu, c0, _⟩ := laid_one2 w (.slice aq n cq) 29
  have HBU := Lib.hid bu
  have hCON := Tryd.slices_Contains_int bz 0 nz cz Z x u (by omega) (by omega) (fun j hj => by rw [bu.cell (p := ⟨bz, 0 + j, none⟩) hbz]; exact hc j hj)
  rw [List.take_of_length_le (by omega)] at hCON
  have HCON := Lib.hid hCON
  clear hCON hc
  obtain ⟨hr1, hr2⟩ := hq
  rcases hr1 with h0 | ⟨b, off, rfl, hbl, hcc⟩
  · rw [h0] at hkq; exact absurd hkq (Nat.not_lt_zero _)
  obtain ⟨d0, -⟩ := (hcc k hkq).below bu hbl
  rw [hx] at d0
  rcases hS.below bu with h0 | ⟨b2, off2, rfl, hbl2, hc2⟩
  · rw [h0] at hm; simp at hm; omega
  have y0 := hc2 k (by omega)
  rw [hs] at y0
  clear hr2 hc2 hcc hS hx hs hn hm hz bu su hkq
  cases hb : Z.contains x
  · rw [hb] at HCON
    clear hb
    go_enter Tryd.func32, Tryd.ntmps32
    go_wp2_with fail
    refine HCON.out.mono ?_
    rintro e w1 ⟨rfl, hw1⟩
    obtain rfl : u = w1 := hw1.symm
    go_wp2
    go_ret
    exact ⟨rfl, HBU.out⟩
  · rw [hb] at HCON
    clear hb
    go_enter Tryd.func32, Tryd.ntmps32
    go_wp2_with fail
    refine HCON.out.mono ?_
    rintro e w1 ⟨rfl, hw1⟩
    obtain rfl : u = w1 := hw1.symm
    go_wp2
    go_ret
    exact ⟨rfl, HBU.out⟩
end Go.Proofs.YtpolpihgclemnaaDoor
