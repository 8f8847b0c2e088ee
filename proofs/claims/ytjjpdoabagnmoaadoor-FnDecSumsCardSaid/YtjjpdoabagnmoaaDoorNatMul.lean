/-
  The contract of multiplying naturals, the program's: the row of the product. Conditions: rows of digits, no longer than 4096.
-/
import Derived.Test.YtjjpdoabagnmoaaDoorCols
import Derived.Test.YtjjpdoabagnmoaaDoorNatAdd
import Derived.StillTailTactics
namespace Go.Proofs.YtjjpdoabagnmoaaDoor
open Go.RowKit
set_option linter.unusedVariables false
set_option linter.unusedSimpArgs false

theorem infoInts : (Tryd.prog.info? 3).map (fun i => (i.zero, i.size, i.bytes)) = some (some (.int .i64 0), 1, 8) := by kernel_rfl
theorem makeInts (n : Nat) (hn : n ≤ 1099511627776) (u : World) : (Instr.makeSlice 56 (.int .i64 (n : Int)) (.int .i64 (n : Int))).run Tryd.prog u =
      .ok (.slice (some ⟨u.heap.size, 0, none⟩) n n) (u.alloc (.cells (madeCells #[.int .i64 0] n) 3)) := by
  obtain ⟨i0, hi, hz0, hz1, hz2⟩ := info_parts infoInts
  have h := run_make (P := Tryd.prog) u 56 3 i0 (.int .i64 0) Tryd.underlying56 hi hz0 .i64 .i64 (n : Int) (n : Int) (by omega) (Int.le_refl _) (by rw [hz2]; omega) (by omega)
  simpa [hz1, Value.cells] using h
theorem fillInts (w : World) (n : Nat) : Fill w (w.alloc (.cells (madeCells #[.int .i64 0] n) 3)) w.heap.size n (fun _ => .int .i64 0) := by
  have hF := Fill.made w w (Below.refl _ _) (madeCells #[.int .i64 0] n) 3 (fun _ => .int .i64 0) (fun j hj => madeBytes_get _ _ _ (by simpa [size_madeCells] using hj))
  rw [size_madeCells] at hF
  exact hF

set_option maxRecDepth 10000 in
set_option maxHeartbeats 1000000 in
theorem natMul_any (s t : ByteArray) (w : World) (hs : (bs s).all isDig = true) (ht : (bs t).all isDig = true) (hs' : s.size ≤ 4096) (ht' : t.size ≤ 4096) :
    Calls Tryd.prog 78 #[.string s, .string t] w fun e w' => e = .returned (.string (ofL (dec (val (bs s) * val (bs t))))) ∧ Below w.heap.size w w' := by
  obtain ⟨n, hn⟩ : ∃ n : Nat, n = s.size + t.size := ⟨_, rfl⟩
  have hmk := makeInts n (by omega) w
  have HF := Lib.hid (fillInts w n)
  have HS := Lib.hid hs
  have HT := Lib.hid ht
  obtain ⟨A, hA⟩ : ∃ A, val (bs s) = A := ⟨_, rfl⟩
  obtain ⟨B, hB⟩ : ∃ B, val (bs t) = B := ⟨_, rfl⟩
  have hA' := val_lt (bs s) hs
  have hB' := val_lt (bs t) ht
  rw [bs_length, hA] at hA'
  rw [bs_length, hB] at hB'
  have HA := Lib.hid hA
  have HB := Lib.hid hB
  have HLA := Lib.hid hA'
  have HLB := Lib.hid hB'
  have HLT := Lib.hid (mul_lt_pow hA' hB' (Nat.le_of_eq hn.symm))
  have HPR := Lib.hid (sumP_all hA' hB' (Nat.le_of_eq hn.symm))
  rw [hA, hB]
  clear hs ht hA hB hA' hB'
  have hadd : ((s.size : Int) + (t.size : Int)) = (n : Int) := by omega
  have hn1 : n ≤ 8192 := by omega
  have HN := Lib.hid hn
  clear hn
  go_enter Tryd.func78, Tryd.ntmps78
  go_wp2
  clear hmk hadd
  go_loopw [20] (fun i wr => ∃ k : Nat, k ≤ s.size ∧ i = .int .i64 k ∧ Fill w wr w.heap.size n (fun j => .int .i64 (col A B k j : Nat))) (fun i _ => s.size - (intOf i).toNat)
  case atStart =>
    exact ⟨0, Nat.zero_le _, rfl, HF.out⟩
  case round =>
    obtain ⟨i, hi, rfl, hfill⟩ := hrel
    have HI := Lib.hid hfill
    clear hfill
    by_cases hlt : i < s.size
    · go_wp2
      go_loopw [25] (fun q wr2 => ∃ k : Nat, k ≤ t.size ∧ q = .int .i64 k ∧ Fill w wr2 w.heap.size n (fun j => .int .i64 (colK A B i k j : Nat))) (fun q _ => t.size - (intOf q).toNat)
      case atStart =>
        exact ⟨0, Nat.zero_le _, rfl, HI.out.congr (fun j _ => by rw [colK_zero])⟩
      case round =>
        obtain ⟨k, hk, rfl, hfill⟩ := hrel
        have HJ := Lib.hid hfill
        clear hfill
        by_cases hlt2 : k < t.size
        · have hin : i + k < n := by have := HN.out; omega
          have hs0 := HJ.out.cell (i + k) (by omega)
          have hf0 := HJ.out.free (i + k) (by omega)
          have hp0 : 0 ≤ (i : Int) + (k : Int) := by omega
          have hp1 : (i : Int) + (k : Int) < (n : Int) := by omega
          have hpt : ((i : Int) + (k : Int)).toNat = i + k := by omega
          have d1 := dgt_lt A i
          have d2 := dgt_lt B k
          have d3 := colK_le A B i k (i + k)
          have d4 := dgt_mul_le A B i k
          have hcat := colK_at A B i k
          have HCA : ∀ v, Calls Tryd.prog 98 #[.string s, .int .i64 (i : Int)] v fun e w' => e = .returned (.int .i64 (dgt A i : Nat)) ∧ w' = v := fun v => by rw [← HA.out]; exact digitAt_any s i v HS.out (by omega) (by omega)
          have HCB : ∀ v, Calls Tryd.prog 98 #[.string t, .int .i64 (k : Int)] v fun e w' => e = .returned (.int .i64 (dgt B k : Nat)) ∧ w' = v := fun v => by rw [← HB.out]; exact digitAt_any t k v HT.out (by omega) (by omega)
          obtain ⟨x, hx⟩ : ∃ x, dgt A i = x := ⟨_, rfl⟩
          obtain ⟨y, hy⟩ : ∃ y, dgt B k = y := ⟨_, rfl⟩
          obtain ⟨z, hz⟩ : ∃ z, colK A B i k (i + k) = z := ⟨_, rfl⟩
          obtain ⟨z', hz'⟩ : ∃ z', colK A B i (k + 1) (i + k) = z' := ⟨_, rfl⟩
          rw [hx] at HCA d1 d4 hcat
          rw [hy] at HCB d2 d4 hcat
          rw [hz] at d3 hcat hs0
          rw [hz'] at hcat
          obtain ⟨p, hp⟩ : ∃ p, x * y = p := ⟨_, rfl⟩
          have hwm : IntKind.i64.wrap ((x : Int) * (y : Int)) = (p : Int) := by
            have e : (x : Int) * (y : Int) = (p : Int) := by rw [← hp]; exact (Int.natCast_mul x y).symm
            rw [e]; exact IntWalk.i64_in _ (by omega)
          have hwz : IntKind.i64.wrap ((z : Int) + (p : Int)) = (z' : Int) := by
            rw [IntWalk.i64_in _ (by omega)]; omega
          have hwp : IntKind.i64.wrap ((i : Int) + (k : Int)) = (i : Int) + (k : Int) := IntWalk.i64_in _ (by omega)
          have HCA' := Lib.hid HCA
          have HCB' := Lib.hid HCB
          have HZ' := Lib.hid hz'
          clear HCA HCB hz hz' hx hy hp hcat d1 d2 d3 d4
          go_wp2
          refine wp_region_still_tail 15 (by kernel_rfl) (by kernel_rfl) ?_
          simp only [List.take_succ_cons, List.take_zero, List.drop_succ_cons, List.drop_zero]
          iterate 8 still_step
          still_call (HCA'.out _)
          iterate 2 still_step
          still_call (HCB'.out _)
          iterate 3 still_step
          refine wpStill_nil ?_
          change wpList _ _ _ _ _ wr.drew
          have HK := Lib.hid HJ.out.drew
          have hlow := HJ.out.hi
          clear hs0 hf0 HJ
          generalize wr.drew = wd at HK ⊢
          have hs0 := HK.out.cell (i + k) hin
          have hf0 := HK.out.free (i + k) hin
          go_wp2
          refine ⟨⟨k + 1, by omega, by go_num, ?_⟩, by simp [intOf]; omega⟩
          refine (HK.out.store (j := i + k) hin _).congr ?_
          intro j hj
          by_cases e : j = i + k
          · rw [if_pos e, e, HZ'.out]
          · rw [if_neg e, colK_off e]
        · obtain rfl : k = t.size := by omega
          go_wp2
          refine ⟨⟨i + 1, by omega, by go_num, HJ.out.congr (fun j _ => by rw [colK_end HLB.out])⟩, by simp [intOf]; omega⟩
    · obtain rfl : i = s.size := by omega
      rename World => wa
      have hlow := HI.out.hi
      have HB0 := Lib.hid HI.out.below
      have HCELL := Lib.hid HI.out.cell
      have hmk2 := makeBytes n (by omega) wa
      have HF2 := Lib.hid (fillBytes wa n)
      go_wp2
      clear hmk2
      have hn2 : n ≤ n := Nat.le_refl n
      have HDG : ∀ k, k < n → (carF (col A B s.size) k + col A B s.size k) % 10 = dgt (A * B) k := fun k hk => by rw [carF_dgt hk, HPR.out]
      have HDG' := Lib.hid HDG
      have HCL := Lib.hid (carF_le (col_le A B s.size))
      have HCO := Lib.hid (col_le A B s.size)
      clear HDG HS HT HF HI
      obtain ⟨base, hbase⟩ : ∃ b, w.heap.size = b := ⟨_, rfl⟩
      rw [hbase] at hlow HCELL ⊢
      have HBASE := Lib.hid hbase
      clear hbase
      go_loopw [9, 50] (fun c i wr2 => ∃ k : Nat, k ≤ n ∧ i = .int .i64 k ∧ c = .int .i64 (carF (col A B s.size) k : Nat) ∧ Fill wa wr2 wa.heap.size n (fun j => if n - k ≤ j then .int .u8 (48 + (dgt (A * B) (n - 1 - j) : Nat)) else .int .u8 0)) (fun _ i _ => n - (intOf i).toNat)
      case atStart =>
        refine ⟨0, Nat.zero_le _, rfl, by rw [carF_zero]; rfl, HF2.out.congr (fun j hj => ?_)⟩
        rw [if_neg (by omega)]
      case round =>
        obtain ⟨k, hk, rfl, rfl, hfill⟩ := hrel
        have HJ := Lib.hid hfill
        clear hfill
        have hcar := HCL.out k
        have hcol := HCO.out k
        have hHCs := HF2.out.lo
        by_cases hlt3 : k < n
        · have HS1 := Lib.hid (carF_succ (col A B s.size) k)
          have HD1 := Lib.hid (HDG'.out k hlt3)
          have hcl : wr.cell? ⟨base, k, none⟩ = some (.int .i64 (col A B s.size k : Nat)) := by
            rw [HJ.out.below.cell (p := ⟨base, k, none⟩) hlow]; exact HCELL.out k hlt3
          obtain ⟨c, hc⟩ : ∃ c, carF (col A B s.size) k = c := ⟨_, rfl⟩
          obtain ⟨x, hx⟩ : ∃ x, col A B s.size k = x := ⟨_, rfl⟩
          rw [hc] at hcar ⊢
          rw [hx] at hcol hcl
          have HC := Lib.hid hc
          have HX := Lib.hid hx
          clear hc hx
          have hs0 := HJ.out.cell (n - 1 - k) (by omega)
          have hf0 := HJ.out.free (n - 1 - k) (by omega)
          rw [if_neg (by omega)] at hs0
          have ht0 : ((n : Int) - 1 - (k : Int)).toNat = n - 1 - k := by omega
          have ht1 : 0 ≤ (n : Int) - 1 - (k : Int) := by omega
          have ht2 : (n : Int) - 1 - (k : Int) < (n : Int) := by omega
          have hkn : (k : Int) < (n : Int) := by omega
          have hd0 : 0 ≤ ((c : Int) + (x : Int)) / 10 := by omega
          have hd1 : ((c : Int) + (x : Int)) / 10 ≤ 100000 := by omega
          have hm0 : 0 ≤ ((c : Int) + (x : Int)) % 10 := by omega
          have hm1 : ((c : Int) + (x : Int)) % 10 ≤ 9 := by omega
          go_wp2
          have e4 := HS1.out
          have e5 := HD1.out
          rw [HC.out, HX.out] at e4 e5
          refine ⟨⟨k + 1, by omega, by go_num, by rw [← e4]; congr 1, ?_⟩, by simp [intOf]; omega⟩
          refine (HJ.out.store (j := n - 1 - k) (by omega) _).congr ?_
          intro j hj
          by_cases e : j = n - 1 - k
          · rw [if_pos e, if_pos (by omega), e, show n - 1 - (n - 1 - k) = k by omega, ← e5]
            congr 1
          · rw [if_neg e]
            by_cases e1 : n - k ≤ j
            · rw [if_pos e1, if_pos (by omega)]
            · rw [if_neg e1, if_neg (by omega)]
        · obtain rfl : k = n := by omega
          have hconv := textOfDigs (cap := k) (HJ.out.congr (fun j hj => if_pos (by omega)))
          have HTD := Lib.hid (trimZ_digs HLT.out)
          have HBB := Lib.hid (HB0.out.trans (HJ.out.below.mono (by have := HBASE.out; omega)))
          go_wp2_with fail
          refine (trimNat_any _ _).mono ?_
          rintro e w1 ⟨rfl, rfl⟩
          go_wp2
          go_ret
          refine ⟨ret_str ?_, ?_⟩
          · rw [bs_ofL, HTD.out]
          · exact HBB.out
end Go.Proofs.YtjjpdoabagnmoaaDoor
