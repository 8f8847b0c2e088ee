/-
  The contracts of what the draws draw: a size, a number, a natural: each returns something in range and leaves what lies below the cursor. Conditions: the cursor stands at a block of its own, the code below it.
-/
import Derived.Test.YtjjpdoabagnmoaaDoorCur
namespace Go.Proofs.YtjjpdoabagnmoaaDoor
open Go.RowKit
set_option linter.unusedVariables false
set_option linter.unusedSimpArgs false

theorem size_any (p len cap at' seed n : Nat) (a : Option Addr) (w : World) (h : Cur w p a len cap at' seed) (hat : at' ≤ 100000000000) (hn : n ≤ 100000) :
    Calls Tryd.prog 62 #[.pointer (some ⟨p, 0, none⟩), .int .i64 (n : Int)] w fun e w' => ∃ x at2 seed2 : Nat, e = .returned (.int .i64 (x : Int)) ∧ x ≤ n ∧ at2 ≤ at' + 1 ∧ Cur w' p a len cap at2 seed2 ∧ Only p w w' := by
  have c0 := h.c0
  have hlen := h.len_le
  have HC := Lib.hid h
  clear h
  by_cases hk : n < 1 + len / 10
  · have hk' : (n : Int) < 1 + (len : Int) / 10 := by omega
    go_enter Tryd.func62, Tryd.ntmps62
    go_wp2_with fail
    refine (pick_any p len cap at' seed (n + 1) a _ HC.out (by omega) (by omega)).mono ?_
    rintro e w1 ⟨x, at2, seed2, rfl, hx, hat2, hc2, ho2⟩
    have H := Lib.hid (And.intro hc2 ho2)
    clear hc2 ho2
    go_wp2
    go_ret
    exact ⟨x, at2, seed2, rfl, by omega, hat2, H.out.1, H.out.2⟩
  · have hk' : ¬ ((n : Int) < 1 + (len : Int) / 10) := by omega
    obtain ⟨q, hq⟩ : ∃ q, 1 + len / 10 = q := ⟨_, rfl⟩
    have hq' : 1 + (len : Int) / 10 = (q : Int) := by omega
    have hqn : q ≤ n := by omega
    have hk2 : decide ((n : Int) < (q : Int)) = false := decide_eq_false (by omega)
    clear hk hk' hq
    go_enter Tryd.func62, Tryd.ntmps62
    go_wp2_with fail
    refine (pick_any p len cap at' seed (q + 1) a _ HC.out (by omega) (by omega)).mono ?_
    rintro e w1 ⟨x, at2, seed2, rfl, hx, hat2, hc2, ho2⟩
    have H := Lib.hid (And.intro hc2 ho2)
    clear hc2 ho2
    go_wp2
    go_ret
    exact ⟨x, at2, seed2, rfl, by omega, hat2, H.out.1, H.out.2⟩

theorem wf_u8 {x : Int} (h : (Lit.int .u8 x).wf = true) : 0 ≤ x ∧ x ≤ 255 := by
  simpa [Lit.wf, IntKind.min, IntKind.max, IntKind.signed, IntKind.bits] using h
/-- the cursor that a code is opened by -/
theorem open_any (a : Option Addr) (len cap : Nat) (z : List Int) (w : World) (hr : IsRow .u8 w a len cap z) (hlen : len ≤ 1048576) :
    Calls Tryd.prog 33 #[.slice a len cap] w fun e w' => ∃ p seed, e = .returned (.pointer (some ⟨p, 0, none⟩)) ∧ w.heap.size ≤ p ∧ p < w'.heap.size ∧ Cur w' p a len cap 0 seed ∧ Below w.heap.size w w' := by
  obtain ⟨hrow, hl, hm, hz⟩ := isRow_row hr
  have HR := Lib.hid (And.intro hrow (And.intro hl hz))
  clear hrow hl hz hr hm
  go_enter Tryd.func33, Tryd.ntmps33
  go_wp2
  go_ret
  refine ⟨w.heap.size, 17 + len % 1000, rfl, Nat.le_refl _, by simp, ⟨by simp, by simp, by simp, by simp, by simp, ?_, by omega, by omega⟩, (Below.refl _ _).alloc (Nat.le_refl _) _⟩
  obtain ⟨hrow, hl, hz⟩ := HR.out
  rcases hrow with h0 | ⟨b, off, ha, hb, hc⟩
  · left; rw [h0] at hl; simpa using hl.symm
  · right
    refine ⟨b, off, ha, hb, fun i hi => ?_⟩
    have e := hc i (by omega)
    have hm : (z.take len).getD i 0 ∈ z.take len := by
      rw [List.getD_eq_getElem?_getD, List.getElem?_eq_getElem (by omega)]
      exact List.getElem_mem _
    obtain ⟨w1, w2⟩ := wf_u8 (hz _ hm)
    refine ⟨((z.take len).getD i 0).toNat, by omega, ?_⟩
    rw [Below.cell ((Below.refl w.heap.size w).alloc (Nat.le_refl _) _) (p := ⟨b, off + i, none⟩) hb, e]
    congr 2
    omega

theorem new_cell (w : World) (cs : Array Value) (e : TypeId) (j : Nat) : (w.alloc (.cells cs e)).cell? ⟨w.heap.size, j, none⟩ = cs[j]? := by simp

end Go.Proofs.YtjjpdoabagnmoaaDoor
