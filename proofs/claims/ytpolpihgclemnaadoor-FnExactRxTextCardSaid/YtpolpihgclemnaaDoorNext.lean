/-
  The contract of l01Next: the reference's step (nx). Condition: the place lies in the text.
-/
import Derived.Test.YtpolpihgclemnaaDoorUtf
import Derived.Test.YtpolpihgclemnaaDoorBytes
import Derived.WalkSmall
import Derived.Lib.Agree
namespace Go.Proofs.YtpolpihgclemnaaDoor
open Go.RowKit
open Go.Lib hiding intOf
set_option linter.unusedVariables false
set_option linter.unusedSimpArgs false

theorem getD_drop (s : ByteArray) (at' j : Nat) (h : at' + j < s.size) : ((bs s).drop at').getD j 0 = s[at' + j] := by
  rw [List.getD_eq_getElem?_getD, List.getElem?_drop, List.getElem?_eq_getElem (by rw [bs_length]; exact h), Option.getD_some, bs_get s (at' + j) h]
theorem betw_yes {n lo hi : Int} (h1 : lo ≤ n) (h2 : n ≤ hi) : betw n lo hi = true := by simp [betw, h1, h2]
theorem betw_no {n lo hi : Int} (h : n < lo ∨ hi < n) : betw n lo hi = false := by simp [betw]; omega
theorem ret2_int {a b c d : Int} (h1 : a = c) (h2 : b = d) : Ending.returned (.tuple #[.int .i64 a, .int .i64 b]) = .returned (.tuple #[.int .i64 c, .int .i64 d]) := by rw [h1, h2]
theorem cont_betw (l : List UInt8) (j : Nat) : isCont l j = betw ((l.getD j 0).toNat : Int) 128 191 := by
  rw [Bool.eq_iff_iff, isCont_iff]; simp [betw]; omega










end Go.Proofs.YtpolpihgclemnaaDoor
