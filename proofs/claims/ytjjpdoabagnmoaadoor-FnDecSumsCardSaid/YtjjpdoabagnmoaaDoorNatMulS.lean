/-
  The contract of multiplying naturals, the reference's: the row of the product. Conditions: rows of digits, no longer than 4096.
-/
import Derived.Test.YtjjpdoabagnmoaaDoorNatMul
import Derived.Test.YtjjpdoabagnmoaaDoorNatAddS
namespace Go.Proofs.YtjjpdoabagnmoaaDoor
open Go.RowKit
set_option linter.unusedVariables false
set_option linter.unusedSimpArgs false

set_option maxRecDepth 10000 in
set_option maxHeartbeats 1000000 in
theorem l02Mul_any (s t : ByteArray) (w : World) (hs : (bs s).all isDig = true) (ht : (bs t).all isDig = true) (hs' : s.size ≤ 4096) (ht' : t.size ≤ 4096) :
    Calls Tryd.prog 42 #[.string s, .string t] w fun e w' => e = .returned (.string (ofL (dec (val (bs s) * val (bs t))))) ∧ Below w.heap.size w w' := by
  obtain ⟨n, hn⟩ : ∃ n : Nat, n = s.size + t.size + 1 := ⟨_, rfl⟩
  obtain ⟨i0, hinf, hy0, hy1, hy2⟩ := info_parts infoByte
  have hmk := makeInts n (by omega) w
  have HF := Lib.hid (fillInts w n)
  have HS := Lib.hid hs
  have HT := Lib.hid ht
  obtain ⟨A, hA⟩ : ∃ A, val (bs s) = A := ⟨_, rfl⟩
  obtain ⟨B, hB⟩ : ∃ B, val (bs t) = B := ⟨_, rfl⟩
  have hA' := val_lt (bs s) hs
  have hB' := val_lt (bs t) ht
  rw [bs_length, hA] at hA'
  rw [bs_length, hB] at hB'
  have HA := Lib.hid hA
  have HB := Lib.hid hB
  have HLA := Lib.hid hA'
  have HLB := Lib.hid hB'
  have HLT := Lib.hid (mul_lt_pow hA' hB' (by omega : s.size + t.size ≤ n))
  have HPR := Lib.hid (sumP_all hA' hB' (by omega : s.size + t.size ≤ n))
  rw [hA, hB]
  clear hs ht hA hB hA' hB'
  have hadd : ((s.size : Int) + (t.size : Int) + 1) = (n : Int) := by omega
  have hn1 : n ≤ 8193 := by omega
  have HN := Lib.hid hn
  clear hn
  go_enter Tryd.func42, Tryd.ntmps42
  go_wp2
  clear hmk hadd
  go_loopw [6] (fun i wr => ∃ k : Nat, k ≤ s.size ∧ i = .int .i64 k ∧ Fill w wr w.heap.size n (fun j => .int .i64 (col A B k j : Nat))) (fun i _ => s.size - (intOf i).toNat)
  case atStart =>
    exact ⟨0, Nat.zero_le _, rfl, HF.out⟩
  case round =>
    obtain ⟨i, hi, rfl, hfill⟩ := hrel
    have HI := Lib.hid hfill
    clear hfill
    by_cases hlt : i < s.size
    · go_wp2
      go_loopw [7] (fun q wr2 => ∃ k : Nat, k ≤ t.size ∧ q = .int .i64 k ∧ Fill w wr2 w.heap.size n (fun j => .int .i64 (colK A B i k j : Nat))) (fun q _ => t.size - (intOf q).toNat)
      case atStart =>
        exact ⟨0, Nat.zero_le _, rfl, HI.out.congr (fun j _ => by rw [colK_zero])⟩
      case round =>
        obtain ⟨k, hk, rfl, hfill⟩ := hrel
        have HJ := Lib.hid hfill
        clear hfill
        by_cases hlt2 : k < t.size
        · have hin : i + k < n := by have := HN.out; omega
          have hs0 := HJ.out.cell (i + k) (by omega)
          have hf0 := HJ.out.free (i + k) (by omega)
          have hp0 : 0 ≤ (i : Int) + (k : Int) := by omega
          have hp1 : (i : Int) + (k : Int) < (n : Int) := by omega
          have hpt : ((i : Int) + (k : Int)).toNat = i + k := by omega
          have d1 := dgt_lt A i
          have d2 := dgt_lt B k
          have d3 := colK_le A B i k (i + k)
          have d4 := dgt_mul_le A B i k
          have hcat := colK_at A B i k
          have HCA : ∀ v, Calls Tryd.prog 81 #[.string s, .int .i64 (i : Int)] v fun e w' => e = .returned (.int .i64 (dgt A i : Nat)) ∧ w' = v := fun v => by rw [← HA.out]; exact l02Digit_any s i v HS.out (by omega) (by omega)
          have HCB : ∀ v, Calls Tryd.prog 81 #[.string t, .int .i64 (k : Int)] v fun e w' => e = .returned (.int .i64 (dgt B k : Nat)) ∧ w' = v := fun v => by rw [← HB.out]; exact l02Digit_any t k v HT.out (by omega) (by omega)
          obtain ⟨x, hx⟩ : ∃ x, dgt A i = x := ⟨_, rfl⟩
          obtain ⟨y, hy⟩ : ∃ y, dgt B k = y := ⟨_, rfl⟩
          obtain ⟨z, hz⟩ : ∃ z, colK A B i k (i + k) = z := ⟨_, rfl⟩
          obtain ⟨z', hz'⟩ : ∃ z', colK A B i (k + 1) (i + k) = z' := ⟨_, rfl⟩
          rw [hx] at HCA d1 d4 hcat
          rw [hy] at HCB d2 d4 hcat
          rw [hz] at d3 hcat hs0
          rw [hz'] at hcat
          obtain ⟨p, hp⟩ : ∃ p, x * y = p := ⟨_, rfl⟩
          have hwm : IntKind.i64.wrap ((x : Int) * (y : Int)) = (p : Int) := by
            have e : (x : Int) * (y : Int) = (p : Int) := by rw [← hp]; exact (Int.natCast_mul x y).symm
            rw [e]; exact IntWalk.i64_in _ (by omega)
          have hwz : IntKind.i64.wrap ((z : Int) + (p : Int)) = (z' : Int) := by
            rw [IntWalk.i64_in _ (by omega)]; omega
          have hwp : IntKind.i64.wrap ((i : Int) + (k : Int)) = (i : Int) + (k : Int) := IntWalk.i64_in _ (by omega)
          have HCA' := Lib.hid HCA
          have HCB' := Lib.hid HCB
          have HZ' := Lib.hid hz'
          clear HCA HCB hz hz' hx hy hp hcat d1 d2 d3 d4
          go_wp2
          refine wp_region_still_tail 19 (by kernel_rfl) (by kernel_rfl) ?_
          simp only [List.take_succ_cons, List.take_zero, List.drop_succ_cons, List.drop_zero]
          iterate 12 still_step
          still_call (HCA'.out _)
          iterate 2 still_step
          still_call (HCB'.out _)
          iterate 3 still_step
          refine wpStill_nil ?_
          change wpList _ _ _ _ _ wr.drew
          have HK := Lib.hid HJ.out.drew
          have hlow := HJ.out.hi
          clear hs0 hf0 HJ
          generalize wr.drew = wd at HK ⊢
          have hs0 := HK.out.cell (i + k) hin
          have hf0 := HK.out.free (i + k) hin
          go_wp2
          refine ⟨⟨k + 1, by omega, by go_num, ?_⟩, by simp [intOf]; omega⟩
          refine (HK.out.store (j := i + k) hin _).congr ?_
          intro j hj
          by_cases e : j = i + k
          · rw [if_pos e, e, HZ'.out]
          · rw [if_neg e, colK_off e]
        · obtain rfl : k = t.size := by omega
          go_wp2
          refine ⟨⟨i + 1, by omega, by go_num, HJ.out.congr (fun j _ => by rw [colK_end HLB.out])⟩, by simp [intOf]; omega⟩
    · obtain rfl : i = s.size := by omega
      rename World => wa
      have hlow := HI.out.hi
      have HB0 := Lib.hid HI.out.below
      have HCELL := Lib.hid HI.out.cell
      have hlowa := HI.out.below.size
      clear HF HS HT
      go_wp2
      have HDG : ∀ k, k < n → (carF (col A B s.size) k + col A B s.size k) % 10 = dgt (A * B) k := fun k hk => by rw [carF_dgt hk, HPR.out]
      have HDG' := Lib.hid HDG
      have HCL := Lib.hid (carF_le (col_le A B s.size))
      have HCO := Lib.hid (col_le A B s.size)
      clear HDG HI
      obtain ⟨base, hbase⟩ : ∃ b, w.heap.size = b := ⟨_, rfl⟩
      rw [hbase] at hlow HCELL ⊢
      have HBASE := Lib.hid hbase
      clear hbase
      go_loopw [8, 9, 10] (fun v c i wr => ∃ (k g cap : Nat), k ≤ n ∧ i = .int .i64 k ∧ c = .int .i64 (carF (col A B s.size) k : Nat) ∧ v = .slice (some ⟨g, 0, none⟩) k cap ∧ wr.ownsRow wa.heap.size 5 1 (.slice (some ⟨g, 0, none⟩) k cap) k ((digs (A * B) k).map byteV) ∧ Below wa.heap.size wa wr) (fun _ _ i _ => n - (intOf i).toNat)
      case atStart =>
        exact ⟨0, wa.heap.size, 0, Nat.zero_le _, rfl, by rw [carF_zero]; rfl, rfl, ownsRow_empty _ _ _ (Nat.le_refl _), (Below.refl _ _).alloc (Nat.le_refl _) _⟩
      case round =>
        obtain ⟨k, g, cap, hk, rfl, rfl, rfl, hown, hb⟩ := hrel
        have HOW := Lib.hid hown
        have HBW := Lib.hid hb
        have hlow2 := hb.size
        clear hown hb
        have hcar := HCL.out k
        have hcol := HCO.out k
        by_cases hlt3 : k < n
        · have HS1 := Lib.hid (carF_succ (col A B s.size) k)
          have HD1 := Lib.hid (HDG'.out k hlt3)
          have hcl : wr.cell? ⟨base, k, none⟩ = some (.int .i64 (col A B s.size k : Nat)) := by
            rw [HBW.out.cell (p := ⟨base, k, none⟩) hlow]; exact HCELL.out k hlt3
          obtain ⟨c, hc⟩ : ∃ c, carF (col A B s.size) k = c := ⟨_, rfl⟩
          obtain ⟨x, hx⟩ : ∃ x, col A B s.size k = x := ⟨_, rfl⟩
          rw [hc] at hcar ⊢
          rw [hx] at hcol hcl
          have HC := Lib.hid hc
          have HX := Lib.hid hx
          clear hc hx
          have hkn : (k : Int) < (n : Int) := by omega
          have hd0 : 0 ≤ ((x : Int) + (c : Int)) / 10 := by omega
          have hd1 : ((x : Int) + (c : Int)) / 10 ≤ 100000 := by omega
          have hm0 : 0 ≤ ((x : Int) + (c : Int)) % 10 := by omega
          have hm1 : ((x : Int) + (c : Int)) % 10 ≤ 9 := by omega
          go_wp2_with (at_builtin; refine wpList_append_own _ rfl _ _ 29 rfl wa.heap.size 5 i0 (.int .u8 0) 1 1 Tryd.underlying29 hinf hy0 hy1 hy2 rfl (by decide) _ _ _ rfl (ownsRow_one wr wa.heap.size 5 _ hlow2) ⟨g, 0, none⟩ k cap ((digs (A * B) k).map byteV) rfl (by simp [digs_length]) (ownsRow_news (HOW.out.alloc _)) byteV_one (by unfold maxLen; omega) (by omega) (by simp; omega) ?_; intro v2 w2 hown2 hgr2 hnil2)
          have e4 := HS1.out
          have e5 := HD1.out
          rw [HC.out, HX.out] at e4 e5
          obtain ⟨g2, cap2, rfl, hg2, hg2'⟩ := ownsRow_some hown2 (by omega)
          have hbz : Below wa.heap.size wa w2 := Below.grown (HBW.out.alloc hlow2 _) hgr2 (by simp; omega) (ownBlock_lo (ownsRow_one wr wa.heap.size 5 (.bool true) hlow2))
          refine ⟨⟨k + 1, g2, cap2, by omega, by go_num, by rw [← e4]; congr 1; omega, by rw [Nat.add_comm 1 k], ?_, hbz⟩, by simp [intOf]; omega⟩
          rw [digs_cons, List.map_cons, ← e5]
          rw [Nat.add_comm 1 k] at hown2
          have hx5 : byteV (UInt8.ofNat (48 + (c + x) % 10)) = .int .u8 (48 + ((x : Int) + (c : Int)) % 10) := by
            unfold byteV; rw [ofNat_val (Nat.mod_lt _ (by omega))]; congr 1; omega
          rw [hx5]
          exact hown2
        · obtain rfl : k = n := by omega
          have hconv := textOfOwned HOW.out
          have HTD := Lib.hid (trimZ_digs HLT.out)
          have HBB := Lib.hid (HB0.out.trans (HBW.out.mono (by have := HBASE.out; omega)))
          go_wp2_with fail
          refine (l02Trim_any _ _ (by rw [size_ofL, digs_length]; omega)).mono ?_
          rintro e w1 ⟨rfl, hw1⟩
          obtain rfl : wr = w1 := hw1.symm
          go_wp2
          go_ret
          refine ⟨ret_str ?_, ?_⟩
          · rw [bs_ofL, HTD.out]
          · exact HBB.out
end Go.Proofs.YtjjpdoabagnmoaaDoor
