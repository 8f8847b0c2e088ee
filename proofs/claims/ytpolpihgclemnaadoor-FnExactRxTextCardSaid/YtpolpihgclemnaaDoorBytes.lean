/-
  The contract of l01Bytes: a code point's bytes in a new row. Condition: the number is a code point.
-/
import Derived.Test.YtpolpihgclemnaaDoorBetw
import Derived.Lib.RuneBytes
namespace Go.Proofs.YtpolpihgclemnaaDoor
open Go.RowKit Go.Lib
set_option linter.unusedVariables false
set_option linter.unusedSimpArgs false

theorem l01Bytes_any (c : Int) (h : isPt c = true) (w : World) :
    Calls Tryd.prog 26 #[.int .i64 c] w fun e w' => e = .returned (.slice (some ⟨w.heap.size, 0, none⟩) (runeCells c).length (runeCells c).length) ∧ w' = w.alloc (.cells (runeCells c).toArray 5) := by
  rw [isPt_iff] at h
  obtain ⟨h1, h2, h3⟩ := h
  by_cases c1 : c < 128
  · have e : runeCells c = [.int .u8 c] := by unfold runeCells; rw [encodeRuneZ_one (by omega) (by omega)]; rfl
    rw [e]
    clear h3
    go_enter Tryd.func26, Tryd.ntmps26
    go_wp2
    go_ret
    exact ⟨rfl, rfl⟩
  by_cases c2 : c < 2048
  · have e : runeCells c = [.int .u8 (192 + c / 64), .int .u8 (128 + c % 64)] := by unfold runeCells; rw [encodeRuneZ_two (by omega) (by omega)]; rfl
    rw [e]
    clear h3
    have k1 : 0 ≤ c / 64 := by omega
    have k2 : c / 64 < 32 := by omega
    have k3 : 0 ≤ c % 64 := by omega
    have k4 : c % 64 < 64 := by omega
    go_enter Tryd.func26, Tryd.ntmps26
    go_wp2
    go_ret
    exact ⟨rfl, rfl⟩
  by_cases c3 : c < 65536
  · have e : runeCells c = [.int .u8 (224 + c / 4096), .int .u8 (128 + c / 64 % 64), .int .u8 (128 + c % 64)] := by unfold runeCells; rw [encodeRuneZ_three (by omega)]; rfl
    rw [e]
    clear h3
    have k1 : 0 ≤ c / 4096 := by omega
    have k2 : c / 4096 < 16 := by omega
    have k3 : 0 ≤ c % 64 := by omega
    have k4 : c % 64 < 64 := by omega
    have k5 : 0 ≤ c / 64 := by omega
    have k6 : c / 64 < 1024 := by omega
    have k7 : 0 ≤ c / 64 % 64 := by omega
    have k8 : c / 64 % 64 < 64 := by omega
    go_enter Tryd.func26, Tryd.ntmps26
    go_wp2
    go_ret
    exact ⟨rfl, rfl⟩
  · have e : runeCells c = [.int .u8 (240 + c / 262144), .int .u8 (128 + c / 4096 % 64), .int .u8 (128 + c / 64 % 64), .int .u8 (128 + c % 64)] := by unfold runeCells; rw [encodeRuneZ_four (by omega) (by omega)]; rfl
    rw [e]
    clear h3
    have k1 : 0 ≤ c / 262144 := by omega
    have k2 : c / 262144 < 8 := by omega
    have k3 : 0 ≤ c % 64 := by omega
    have k4 : c % 64 < 64 := by omega
    have k5 : 0 ≤ c / 64 := by omega
    have k6 : c / 64 < 32768 := by omega
    have k7 : 0 ≤ c / 64 % 64 := by omega
    have k8 : c / 64 % 64 < 64 := by omega
    have k9 : 0 ≤ c / 4096 := by omega
    have k10 : c / 4096 < 512 := by omega
    have k11 : 0 ≤ c / 4096 % 64 := by omega
    have k12 : c / 4096 % 64 < 64 := by omega
    go_enter Tryd.func26, Tryd.ntmps26
    go_wp2
    go_ret
    exact ⟨rfl, rfl⟩
end Go.Proofs.YtpolpihgclemnaaDoor
