/-
  NfaFind of the reference. Conditions: bounds.
-/
import Derived.Test.YtobpecgecopdnaaDoorNfaGo
import Derived.Test.YtobpecgecopdnaaDoorCodes
namespace Go.Proofs.YtobpecgecopdnaaDoor
open Go.RowKit
set_option linter.unusedVariables false
set_option linter.unusedSimpArgs false

/-- what both searches leave -/
def FindR (V : List OpV) (l : List UInt8) (fr x y : Int) : Prop :=
  (okT l = true ∧ nfaOk V = true ∧ betw fr 0 ((rl l).length : Int) = true ∧ FindP (rl l).length (sucV V (rl l).length) (tkV V (rl l)) (V.length - 1) fr.toNat x y) ∨
  (¬ (okT l = true ∧ nfaOk V = true ∧ betw fr 0 ((rl l).length : Int) = true) ∧ x = -1 ∧ y = -1)
theorem FindR.same {V : List OpV} {l : List UInt8} {fr x y x' y' : Int} (h : FindR V l fr x y) (h' : FindR V l fr x' y') : x = x' ∧ y = y' := by
  rcases h with ⟨h1, h2, h3, h4⟩ | ⟨h1, rfl, rfl⟩
  · rcases h' with ⟨_, _, _, k4⟩ | ⟨k1, _⟩
    · exact h4.same k4
    · exact absurd ⟨h1, h2, h3⟩ k1
  · rcases h' with ⟨k1, k2, k3, _⟩ | ⟨_, rfl, rfl⟩
    · exact absurd ⟨k1, k2, k3⟩ h1
    · exact ⟨rfl, rfl⟩
theorem betw_nat0 {x : Int} {L : Nat} (h : betw x 0 (L : Int) = true) : ∃ n : Nat, x = (n : Int) ∧ n ≤ L := by
  unfold betw at h
  simp at h
  exact ⟨x.toNat, by omega, by omega⟩

set_option maxHeartbeats 2000000 in
set_option maxRecDepth 20000 in
theorem specNfaFind_any (a : Option Addr) (cap n : Nat) (Q : List OpQ) (s : ByteArray) (fr : Int) (w : World) (hr : OpR w a Q) (hn : Q.length = n) (hl : n ≤ 1048576) (hql : ∀ q ∈ Q, q.sl ≤ 1048576) (hs : s.size ≤ 1048576) (hfr : Op64 fr) :
    Calls Tryd.prog 9 #[.agg #[.slice a n cap], .string s, .int .i64 fr] w fun e w' => ∃ x y : Int, e = .returned (.tuple #[.int .i64 x, .int .i64 y]) ∧ FindR (valsOf Q) (bs s) fr x y ∧ Below w.heap.size w w' := by
  obtain ⟨u, hu, hsz, hbu, hc0⟩ := nfa_box w (.slice a n cap) 32
  have HR := Lib.hid hr
  have HN := Lib.hid hn
  have HQL := Lib.hid hql
  have HU := Lib.hid hbu
  have HSZ := Lib.hid hsz
  have hrlen := rl_short (bs s)
  obtain ⟨L, hL⟩ : ∃ L, (rl (bs s)).length = L := ⟨_, rfl⟩
  rw [hL] at hrlen
  have HLL := Lib.hid hL
  have HSO := Lib.hid (fun W (hb : Below w.heap.size w W) => specNfaSound_any a cap n Q W (hr.below hb) hn hl hql)
  clear hr hn hql hbu hsz hL
  go_enter Tryd.func9, Tryd.ntmps9
  go_wp2_with fail
  refine (specRunes_any s _ (by omega)).mono ?_
  rintro e w1 ⟨v, rfl, hown, hb1⟩
  rw [HLL.out] at hown
  obtain ⟨a2, c2, rfl⟩ := ownsRow_slice hown
  have hbx : w1.cell? ⟨w.heap.size, 0, none⟩ = some (.slice a n cap) := by rw [hb1.cell (p := ⟨w.heap.size, 0, none⟩) (by show w.heap.size < _; have := HSZ.out; omega)]; exact hc0
  have HB1 := Lib.hid (HU.out.trans (hb1.mono HU.out.size))
  have HRW := Lib.hid (show RowI .i64 w1 a2 ((rl (bs s)).map Int.ofNat) from rowI_owns hown)
  have hlt1 : w.heap.size < w1.heap.size := cell_lt hbx
  clear hown hb1 hc0
  cases hok : okT (bs s)
  · have HX := Lib.hid (show FindR (valsOf Q) (bs s) fr (-1) (-1) from .inr ⟨fun h => (by rw [hok] at h; cases h.1), rfl, rfl⟩)
    clear hok
    go_wp2
    go_ret2
    exact ⟨_, _, rfl, HX.out, HB1.out⟩
  have HOK := Lib.hid hok
  clear hok
  have HSO1 := Lib.hid (HSO.out w1 HB1.out)
  cases hnf : nfaOk (valsOf Q)
  · rw [hnf] at HSO1
    have HX := Lib.hid (show FindR (valsOf Q) (bs s) fr (-1) (-1) from .inr ⟨fun h => (by rw [hnf] at h; cases h.2.1), rfl, rfl⟩)
    clear hnf
    go_wp2_with fail
    refine HSO1.out.mono ?_
    rintro e w2 ⟨rfl, hb2⟩
    have HB2 := Lib.hid (HB1.out.trans (hb2.mono HB1.out.size))
    clear hb2
    go_wp2
    go_ret2
    exact ⟨_, _, rfl, HX.out, HB2.out⟩
  rw [hnf] at HSO1
  have HNF := Lib.hid hnf
  clear hnf
  go_wp2_with fail
  refine HSO1.out.mono ?_
  rintro e w2 ⟨rfl, hb2⟩
  have HB2 := Lib.hid (HB1.out.trans (hb2.mono HB1.out.size))
  have HRW2 := Lib.hid (HRW.out.below hb2)
  have hbx2 : w2.cell? ⟨w.heap.size, 0, none⟩ = some (.slice a n cap) := by rw [hb2.cell (p := ⟨w.heap.size, 0, none⟩) hlt1]; exact hbx
  have hlt2 : w.heap.size < w2.heap.size := cell_lt hbx2
  clear hb2 hbx
  cases hbt : betw fr 0 (L : Int)
  · have HX := Lib.hid (show FindR (valsOf Q) (bs s) fr (-1) (-1) from .inr ⟨fun h => (by rw [HLL.out, hbt] at h; cases h.2.2), rfl, rfl⟩)
    go_wp2_with (go_at_call 24; refine (l01Between_any _ _ _ _).mono ?_; rintro e w3 ⟨rfl, rfl⟩; rw [hbt])
    go_ret2
    exact ⟨_, _, rfl, HX.out, HB2.out⟩
  obtain ⟨F, rfl, hF⟩ := betw_nat0 hbt
  have HFP := Lib.hid (fun x y (h : FindP L (SU Q L) (TK Q (rl (bs s))) (n - 1) F x y) => (show FindR (valsOf Q) (bs s) (F : Int) x y from .inl ⟨HOK.out, HNF.out, by rw [HLL.out]; exact hbt, by rw [HLL.out, valsOf_len, HN.out]; exact h⟩))
  go_wp2_with (go_at_call 24; refine (l01Between_any _ _ _ _).mono ?_; rintro e w3 ⟨rfl, hw3⟩; obtain rfl := hw3.symm; rw [hbt])
  clear hbt
  go_loopw [10] (fun iv wr => ∃ k : Nat, F ≤ k ∧ k ≤ L + 1 ∧ iv = .int .i64 (k : Int) ∧ (∀ f p, F ≤ f → f < k → ¬ At L (SU Q L) (TK Q (rl (bs s))) f p (n - 1)) ∧ Below w2.heap.size w2 wr) (fun iv _ => L + 1 - (intOf iv).toNat)
  case atStart => exact ⟨F, Nat.le_refl _, by omega, rfl, fun f p h1 h2 => by omega, Below.refl _ _⟩
  case round =>
    obtain ⟨k, hk1, hk2, rfl, hno, hb⟩ := hrel
    rename World => wr
    have HNO := Lib.hid hno
    have HBR := Lib.hid (HB2.out.trans (hb.mono HB2.out.size))
    have hbxr : wr.cell? ⟨w.heap.size, 0, none⟩ = some (.slice a n cap) := by rw [hb.cell (p := ⟨w.heap.size, 0, none⟩) hlt2]; exact hbx2
    have HRWR := Lib.hid (HRW2.out.below hb)
    have HBB := Lib.hid hb
    clear hno hb
    by_cases hlt : k ≤ L
    · have HGO := Lib.hid (l07Go_any a cap n Q a2 c2 L (rl (bs s)) k wr (HR.out.below HBR.out) HN.out HNF.out HQL.out HRWR.out HLL.out hrlen hlt)
      go_wp2_with fail
      refine HGO.out.mono ?_
      rintro e w4 ⟨x, rfl, hgo, hb4⟩
      have HG := Lib.hid hgo
      have HB4 := Lib.hid (HBR.out.trans (hb4.mono HBR.out.size))
      have HB5 := Lib.hid (HBB.out.trans (hb4.mono HBB.out.size))
      clear hgo hb4
      by_cases hx : 0 ≤ x
      · have HX := Lib.hid (HFP.out _ _ (FindP.hit HG.out hx hk1 HNO.out))
        go_wp2
        go_ret2
        exact ⟨_, _, rfl, HX.out, HB4.out⟩
      · have HM := Lib.hid (findP_miss HG.out (by omega) HNO.out)
        go_wp2
        exact ⟨⟨k + 1, by omega, by omega, by go_num, HM.out, HB5.out⟩, by simp [intOf]; omega⟩
    · have HX := Lib.hid (HFP.out _ _ (findP_none (by omega) HNO.out))
      go_wp2
      go_ret2
      exact ⟨_, _, rfl, HX.out, HBR.out⟩
end Go.Proofs.YtobpecgecopdnaaDoor
