/-
  NfaFind of the program. Conditions: bounds; the tables of unicode utf8 stand in memory.
-/
import Derived.Test.YtobpecgecopdnaaDoorNfaFindS
import Derived.Test.YtobpecgecopdnaaDoorNfaRunW
import Derived.Test.YtobpecgecopdnaaDoorNfaImpl
namespace Go.Proofs.YtobpecgecopdnaaDoor
open Go.RowKit
set_option linter.unusedVariables false
set_option linter.unusedSimpArgs false

set_option maxHeartbeats 2000000 in
set_option maxRecDepth 20000 in
theorem implNfaFind_any (a : Option Addr) (cap n : Nat) (Q : List OpQ) (s : ByteArray) (fr : Int) (w : World) (hr : OpR w a Q) (hn : Q.length = n) (hl : n ≤ 1048576) (hql : ∀ q ∈ Q, q.sl ≤ 1048576) (hs : s.size ≤ 1048576) (hfr : Op64 fr) (hT : Tabs w) :
    Calls Tryd.prog 11 #[.agg #[.slice a n cap], .string s, .int .i64 fr] w fun e w' => ∃ x y : Int, e = .returned (.tuple #[.int .i64 x, .int .i64 y]) ∧ FindR (valsOf Q) (bs s) fr x y ∧ Below w.heap.size w w' := by
  obtain ⟨u, hu, hsz, hbu, hc0⟩ := nfa_box w (.slice a n cap) 32
  have HR := Lib.hid hr
  have HN := Lib.hid hn
  have HQL := Lib.hid hql
  have HU := Lib.hid hbu
  have HSZ := Lib.hid hsz
  have HTU := Lib.hid (hT.below hbu)
  have hrlen := rl_short (bs s)
  obtain ⟨L, hL⟩ : ∃ L, (rl (bs s)).length = L := ⟨_, rfl⟩
  rw [hL] at hrlen
  have HLL := Lib.hid hL
  have HSO := Lib.hid (fun W (hb : Below w.heap.size w W) => isNfa_any a cap n Q W (hr.below hb) hn hl hql)
  clear hr hn hql hbu hsz hL hT
  go_enter Tryd.func11, Tryd.ntmps11
  go_wp2_with fail
  refine (runesOf_any s _ (by omega) HTU.out).mono ?_
  rintro e w1 ⟨v, rfl, hown, hb1⟩
  rw [HLL.out] at hown
  obtain ⟨a2, c2, rfl⟩ := ownsRow_slice hown
  have hbx : w1.cell? ⟨w.heap.size, 0, none⟩ = some (.slice a n cap) := by rw [hb1.cell (p := ⟨w.heap.size, 0, none⟩) (by show w.heap.size < _; have := HSZ.out; omega)]; exact hc0
  have HB1 := Lib.hid (HU.out.trans (hb1.mono HU.out.size))
  have HRW := Lib.hid (show RowI .i64 w1 a2 ((rl (bs s)).map Int.ofNat) from rowI_owns hown)
  have hlt1 : w.heap.size < w1.heap.size := cell_lt hbx
  clear hown hb1 hc0
  cases hok : okT (bs s)
  · have HX := Lib.hid (show FindR (valsOf Q) (bs s) fr (-1) (-1) from .inr ⟨fun h => (by rw [hok] at h; cases h.1), rfl, rfl⟩)
    clear hok
    go_wp2
    go_ret2
    exact ⟨_, _, rfl, HX.out, HB1.out⟩
  have HOK := Lib.hid hok
  clear hok
  have HSO1 := Lib.hid (HSO.out w1 HB1.out)
  cases hnf : nfaOk (valsOf Q)
  · rw [hnf] at HSO1
    have HX := Lib.hid (show FindR (valsOf Q) (bs s) fr (-1) (-1) from .inr ⟨fun h => (by rw [hnf] at h; cases h.2.1), rfl, rfl⟩)
    clear hnf
    go_wp2_with fail
    refine HSO1.out.mono ?_
    rintro e w2 ⟨rfl, hb2⟩
    have HB2 := Lib.hid (HB1.out.trans (hb2.mono HB1.out.size))
    clear hb2
    go_wp2
    go_ret2
    exact ⟨_, _, rfl, HX.out, HB2.out⟩
  rw [hnf] at HSO1
  have HNF := Lib.hid hnf
  clear hnf
  go_wp2_with fail
  refine HSO1.out.mono ?_
  rintro e w2 ⟨rfl, hb2⟩
  have HB2 := Lib.hid (HB1.out.trans (hb2.mono HB1.out.size))
  have HRW2 := Lib.hid (HRW.out.below hb2)
  have hbx2 : w2.cell? ⟨w.heap.size, 0, none⟩ = some (.slice a n cap) := by rw [hb2.cell (p := ⟨w.heap.size, 0, none⟩) hlt1]; exact hbx
  have hlt2 : w.heap.size < w2.heap.size := cell_lt hbx2
  clear hb2 hbx
  cases hbt : betw fr 0 (L : Int)
  · have HX := Lib.hid (show FindR (valsOf Q) (bs s) fr (-1) (-1) from .inr ⟨fun h => (by rw [HLL.out, hbt] at h; cases h.2.2), rfl, rfl⟩)
    go_wp2_with (go_at_call 29; refine (within_any _ _ _ _).mono ?_; rintro e w3 ⟨rfl, rfl⟩; rw [hbt])
    go_ret2
    exact ⟨_, _, rfl, HX.out, HB2.out⟩
  obtain ⟨F, rfl, hF⟩ := betw_nat0 hbt
  have HFP := Lib.hid (fun x y (h : FindP L (SU Q L) (TK Q (rl (bs s))) (n - 1) F x y) => (show FindR (valsOf Q) (bs s) (F : Int) x y from .inl ⟨HOK.out, HNF.out, by rw [HLL.out]; exact hbt, by rw [HLL.out, valsOf_len, HN.out]; exact h⟩))
  have HRUN := Lib.hid (runNfa_any a cap n Q a2 c2 L (rl (bs s)) F w2 (HR.out.below HB2.out) HN.out HNF.out HQL.out HRW2.out HLL.out hrlen hF)
  go_wp2_with (go_at_call 29; refine (within_any _ _ _ _).mono ?_; rintro e w3 ⟨rfl, hw3⟩; obtain rfl := hw3.symm; rw [hbt])
  refine HRUN.out.mono ?_
  rintro e w4 ⟨x, y, rfl, hfp, hb4⟩
  have HF := Lib.hid (HFP.out x y hfp)
  have HB4 := Lib.hid (HB2.out.trans (hb4.mono HB2.out.size))
  clear hfp hb4
  go_wp2
  go_ret2
  exact ⟨x, y, rfl, HF.out, HB4.out⟩
end Go.Proofs.YtobpecgecopdnaaDoor
