/-
  (*strings.byteStringReplacer).Replace with the table of a cell's escapes. Conditions: bounds.
-/
import Derived.Test.YtobpecgecopdnaaGreatDoorReplBuild
import Derived.Test.YtobpecgecopdnaaGreatDoorCellL
import Derived.Test.YtobpecgecopdnaaGreatDoorShelf
import Derived.Laws.CopyOwn
import Derived.Deep.QuietTactic
import Derived.Deep.RegionLaw
namespace Go.Proofs.YtobpecgecopdnaaGreatDoor
open Go.RowKit
set_option linter.unusedVariables false
set_option linter.unusedSimpArgs false

theorem clB_esc {m : Nat} {x : UInt8} (hm : m < 4) (h : escC m = x.toNat) : clB x = [92, UInt8.ofNat (escE m)] := by
  unfold clB
  obtain rfl | rfl | rfl | rfl : m = 0 ∨ m = 1 ∨ m = 2 ∨ m = 3 := by omega
  · have h' : x.toNat = 13 := h.symm
    rw [if_neg (by omega), if_neg (by omega), if_pos h']; rfl
  · have h' : x.toNat = 10 := h.symm
    rw [if_neg (by omega), if_pos h']; rfl
  · have h' : x.toNat = 9 := h.symm
    rw [if_pos h']; rfl
  · have h' : x.toNat = 92 := h.symm
    rw [if_neg (by omega), if_neg (by omega), if_neg (by omega), if_pos h']; rfl
theorem clB_no {x : UInt8} (h : ∀ m, m < 4 → escC m ≠ x.toNat) : clB x = [x] := by
  have h0 : 13 ≠ x.toNat := h 0 (by omega)
  have h1 : 10 ≠ x.toNat := h 1 (by omega)
  have h2 : 9 ≠ x.toNat := h 2 (by omega)
  have h3 : 92 ≠ x.toNat := h 3 (by omega)
  unfold clB
  rw [if_neg (by omega), if_neg (by omega), if_neg (by omega), if_neg (by omega)]
/-- how many bytes are written in two -/
def spc (l : List UInt8) : Nat := (clL l).length - l.length
theorem spc_len (l : List UInt8) : (clL l).length = l.length + spc l := by
  have := clL_count l
  unfold spc
  omega
theorem spc_count (l : List UInt8) : spc l = l.count 13 + l.count 10 + l.count 9 + l.count 92 := by
  have := clL_count l
  unfold spc
  omega
theorem spc_take (l : List UInt8) (j : Nat) (h : j < l.length) : spc (l.take (j + 1)) + 1 = spc (l.take j) + (clB l[j]).length := by
  have h1 := spc_len (l.take (j + 1))
  have h2 := spc_len (l.take j)
  rw [clL_take l j h, List.length_append] at h1
  simp only [List.length_take] at h1 h2
  omega
theorem spc_le (l : List UInt8) : spc l ≤ l.length + 2 := by
  have := clL_length l
  unfold spc
  omega
theorem clL_zero {l : List UInt8} (h : spc l = 0) : clL l = l := by
  rw [spc_count] at h
  exact clL_none (by omega) (by omega) (by omega) (by omega)
/-- the counts of the first j of the four bytes -/
def cn (l : List UInt8) : Nat → Nat
  | 0 => 0
  | j + 1 => cn l j + l.count (UInt8.ofNat (escC j))
theorem cn_all (l : List UInt8) : cn l 4 = spc l := by
  rw [spc_count]
  show 0 + l.count (UInt8.ofNat 13) + l.count (UInt8.ofNat 10) + l.count (UInt8.ofNat 9) + l.count (UInt8.ofNat 92) = _
  rw [Nat.zero_add]
  rfl
theorem cn_le (l : List UInt8) (j : Nat) (hj : j ≤ 4) : cn l j ≤ spc l := by
  rw [← cn_all]
  obtain rfl | rfl | rfl | rfl | rfl : j = 0 ∨ j = 1 ∨ j = 2 ∨ j = 3 ∨ j = 4 := by omega
  all_goals (simp only [cn]; omega)
theorem BsrM.below {B d m : Nat} {w w' : World} (h : BsrM B d m w) (hb : Below w.heap.size w w') : BsrM B d m w' := by
  have hl := h.lt
  have c : ∀ k, w'.cell? ⟨d, k, none⟩ = w.cell? ⟨d, k, none⟩ := fun k => hb.cell (p := ⟨d, k, none⟩) hl
  refine ⟨fun k hk hj => by rw [c]; exact h.nil k hk hj, fun j hj => ?_, ?_, fun k hk => by rw [hb.frozen (p := ⟨d, k, none⟩) hl]; exact h.free k hk, ?_, h.lo⟩
  · obtain ⟨g, cap, cs, z, h1, h2, h3, h4, h5⟩ := h.set j hj
    exact ⟨g, cap, cs, z, by rw [c]; exact h1, by rw [hb.block g (Array.getElem?_eq_some_iff.1 h2).1]; exact h2, h3, h4, h5⟩
  · obtain ⟨v, h1, h2⟩ := h.row
    exact ⟨v, by rw [c]; exact h1, ownsRow_below h2 hb⟩
  · obtain ⟨cs, z, hz⟩ := h.blk
    exact ⟨cs, z, by rw [hb.block d hl]; exact hz⟩
theorem BsrM.most {B d m p : Nat} {w w' : World} (h : BsrM B d m w) (hb : Mostly p w w') (hp : p < B) : BsrM B d m w' := by
  have hl := h.lt
  have hlo := h.lo
  have hblk := hb.block d (by omega) hl
  have c : ∀ k, w'.cell? ⟨d, k, none⟩ = w.cell? ⟨d, k, none⟩ := fun k => World.cell?_of_block (a := ⟨d, k, none⟩) hblk
  refine ⟨fun k hk hj => by rw [c]; exact h.nil k hk hj, fun j hj => ?_, ?_, fun k hk => by rw [World.frozen?_of_block (a := ⟨d, k, none⟩) hblk]; exact h.free k hk, ?_, h.lo⟩
  · obtain ⟨g, cap, cs, z, h1, h2, h3, h4, h5, h6⟩ := h.set j hj
    exact ⟨g, cap, cs, z, by rw [c]; exact h1, by rw [hb.block g (by omega) (Array.getElem?_eq_some_iff.1 h2).1]; exact h2, h3, h4, h5, h6⟩
  · obtain ⟨v, h1, h2⟩ := h.row
    exact ⟨v, by rw [c]; exact h1, hb.ownsRow h2 (fun e => by have := (h2.lt p e).1; omega)⟩
  · obtain ⟨cs, z, hz⟩ := h.blk
    exact ⟨cs, z, by rw [hblk]; exact hz⟩
theorem cell_of_blk {w : World} {g k : Nat} {cs : Array Value} {e : TypeId} {z : Nat × Nat} {v : Value} (h : w.heap[g]? = some (.cells cs e z)) (hk : cs[k]? = some v) : w.cell? ⟨g, k, none⟩ = some v := by
  unfold World.cell?
  rw [h]
  exact hk

theorem two_cells {u : World} {g : Nat} {x y : Value} (h0 : u.cell? ⟨g, 0, none⟩ = some x) (h1 : u.cell? ⟨g, 1, none⟩ = some y) : ∀ j v, [x, y][j]? = some v → u.cell? ((⟨g, 0, none⟩ : Addr).add j) = some v := by
  intro j v hj
  match j, hj with
  | 0, hj => simp at hj; subst hj; simpa [Addr.add] using h0
  | 1, hj => simp at hj; subst hj; simpa [Addr.add] using h1
  | j + 2, hj => simp at hj
theorem clL_append (a b : List UInt8) : clL (a ++ b) = clL a ++ clL b := by simp [clL]
theorem clL_take_le (l : List UInt8) (j : Nat) : (clL (l.take j)).length ≤ (clL l).length := by
  have h : clL l = clL (l.take j) ++ clL (l.drop j) := by rw [← clL_append, List.take_append_drop]
  rw [h, List.length_append]
  omega
theorem take_splice {L cs : List Value} {off : Nat} (h : off ≤ L.length) : (splice L off cs).take (off + cs.length) = L.take off ++ cs := by
  unfold splice
  rw [← List.append_assoc]
  exact List.take_left' (by rw [List.length_append, List.length_take]; omega)
theorem buf_set {w : World} {g J : Nat} {cur : List Value} {e : TypeId} (h : w.heap[g]? = some (.cells cur.toArray e (0, 0))) (v : Value) : (w.setCell ⟨g, J, none⟩ v).heap[g]? = some (.cells (cur.set J v).toArray e (0, 0)) := by
  rw [setCell_eq_setRow w g J cur.toArray e (0, 0) v h, setRow_heap w g cur.toArray _ e _ h]
  simp
theorem take_set {cur : List Value} {J : Nat} (v : Value) (h : J < cur.length) : (cur.set J v).take (J + 1) = cur.take J ++ [v] := by
  rw [List.take_succ_eq_append_getElem (by rw [List.length_set]; exact h), List.getElem_set_self, List.take_set_of_le (Nat.le_refl _)]
set_option maxRecDepth 20000 in
set_option maxHeartbeats 2000000 in
theorem bsrReplace_any (B d : Nat) (s : ByteArray) (w : World) (h : BsrM B d 4 w) (hs : s.size ≤ 1000000) :
    Calls Tryz.prog 111 #[.pointer (some ⟨d, 0, none⟩), .string s] w fun e w' => e = .returned (.string (ofL (clL (bs s)))) ∧ Below w.heap.size w w' := by
  have H := Lib.hid h
  obtain ⟨v, hv, hown⟩ := h.row
  obtain ⟨t, cap, rfl, htlo, htl⟩ := ownsRow_some hown (by omega)
  have hdl := h.lt
  have t0 : w.cell? ⟨t, 0, none⟩ = some (.string ⟨#[13]⟩) := hown.cellAt 0 (by omega)
  have t1 : w.cell? ⟨t, 1, none⟩ = some (.string ⟨#[10]⟩) := hown.cellAt 1 (by omega)
  have t2 : w.cell? ⟨t, 2, none⟩ = some (.string ⟨#[9]⟩) := hown.cellAt 2 (by omega)
  have t3 : w.cell? ⟨t, 3, none⟩ = some (.string ⟨#[92]⟩) := hown.cellAt 3 (by omega)
  have nT : ∀ (w : World) (a : Option Addr) (n c n' c' : Nat), (binOp .neq 35 (.slice a n c) (.slice none n' c')).run Tryz.prog w = .ok (.bool (!a.isNone)) w := fun w a n c n' c' => run_neq_slice_nil_any w _ _ a n c n' c' Tryz.underlying35
  have hsp := spc_le (bs s)
  rw [bs_length] at hsp
  clear h hown
  go_enter Tryz.func111, Tryz.ntmps111
  go_upto_if 26 with fail
  go_cut [5, 6] (fun nv av wx => nv = .int .i64 ((s.size + spc (bs s) : Nat) : Int) ∧ av = .bool (decide (0 < spc (bs s))) ∧ Below w.heap.size w wx)
  case first =>
    by_cases hbig : 32 ≤ s.size
    · go_wp2
      go_loopw [5, 6, 32] (fun nv av iv wr => ∃ (j A : Nat) (q : Bool), ((iv = .int .i64 0 ∧ j = 0) ∨ (iv = .int .i64 1 ∧ j = 1) ∨ (iv = .int .i64 2 ∧ j = 2) ∨ (iv = .int .i64 3 ∧ j = 3) ∨ (iv = .int .i64 4 ∧ j = 4)) ∧ nv = .int .i64 (A : Int) ∧ av = .bool q ∧ Hid (A = s.size + cn (bs s) j) ∧ Hid (q = decide (0 < cn (bs s) j)) ∧ Below w.heap.size w wr) (fun _ _ iv _ => 4 - (intOf iv).toNat)
      case atStart => exact ⟨0, s.size, false, .inl ⟨rfl, rfl⟩, rfl, rfl, rfl, rfl, Below.refl _ _⟩
      case round =>
        rename (32 : Int) ≤ (s.size : Int) => h9
        clear h9 hbig
        obtain ⟨j, A, q, hji, rfl, rfl, hA, hq, hb⟩ := hrel
        rcases hji with ⟨rfl, rfl⟩ | ⟨rfl, rfl⟩ | ⟨rfl, rfl⟩ | ⟨rfl, rfl⟩ | ⟨rfl, rfl⟩
        · have hcx := (hb.cell (p := ⟨t, 0, none⟩) htl).trans t0
          have HH := H.out.below hb
          obtain ⟨gs, cp, cs, z, h1, -, -, -, -⟩ := HH.set 0 (by omega)
          have h1' : wr.cell? ⟨d, 13, none⟩ = some (.slice (some ⟨gs, 0, none⟩) 2 cp) := h1
          have HB := Lib.hid hb
          have HN : Hid (cn (bs s) 1 = cn (bs s) 0 + (bs s).count 13) := rfl
          have hA1 := cn_le (bs s) 1 (by omega)
          rw [HN.out] at hA1
          have hA3 : A + (bs s).count 13 ≤ 3000000 := by rw [hA.out]; omega
          have e0 : ((ByteArray.mk #[13])[0]'(by decide)).toNat = 13 := rfl
          clear hb h1 HH hA1
          go_wp2_with fail
          refine (Tryz.strings_Count_one s 13 _).mono ?_
          rintro e wq ⟨rfl, hwq⟩
          obtain rfl : wr = wq := hwq.symm
          unfold Lib.countByte
          rw [show s.data.toList.count 13 = (bs s).count 13 from rfl]
          obtain ⟨c, hc⟩ : ∃ c, (bs s).count 13 = c := ⟨_, rfl⟩
          rw [hc] at HN hA3 ⊢
          clear hc
          by_cases hc0 : c = 0
          · subst hc0
            go_wp2
            exact ⟨⟨1, A, q, (.inr (.inl ⟨rfl, rfl⟩)), rfl, rfl, by rw [HN.out, Nat.add_zero]; exact hA, by rw [HN.out, Nat.add_zero]; exact hq, HB.out⟩, by decide⟩
          · have hcn : ((c : Int) != 0) = true := by simp; omega
            have w1 : IntKind.i64.wrap (c : Int) = c := IntWalk.i64_in _ (by omega)
            have w2 : IntKind.i64.wrap ((A : Int) + (c : Int)) = (A : Int) + (c : Int) := IntWalk.i64_in _ (by omega)
            go_wp2
            go_quiet (fail)
            go_wp2
            exact ⟨⟨1, A + c, true, (.inr (.inl ⟨rfl, rfl⟩)), by go_num, rfl, by rw [HN.out, hA.out]; exact Nat.add_assoc _ _ _, by rw [HN.out]; exact (decide_eq_true (by omega)).symm, Go.below_drewN HB.out _⟩, by decide⟩
        · have hcx := (hb.cell (p := ⟨t, 1, none⟩) htl).trans t1
          have HH := H.out.below hb
          obtain ⟨gs, cp, cs, z, h1, -, -, -, -⟩ := HH.set 1 (by omega)
          have h1' : wr.cell? ⟨d, 10, none⟩ = some (.slice (some ⟨gs, 0, none⟩) 2 cp) := h1
          have HB := Lib.hid hb
          have HN : Hid (cn (bs s) 2 = cn (bs s) 1 + (bs s).count 10) := rfl
          have hA1 := cn_le (bs s) 2 (by omega)
          rw [HN.out] at hA1
          have hA3 : A + (bs s).count 10 ≤ 3000000 := by rw [hA.out]; omega
          have e0 : ((ByteArray.mk #[10])[0]'(by decide)).toNat = 10 := rfl
          clear hb h1 HH hA1
          go_wp2_with fail
          refine (Tryz.strings_Count_one s 10 _).mono ?_
          rintro e wq ⟨rfl, hwq⟩
          obtain rfl : wr = wq := hwq.symm
          unfold Lib.countByte
          rw [show s.data.toList.count 10 = (bs s).count 10 from rfl]
          obtain ⟨c, hc⟩ : ∃ c, (bs s).count 10 = c := ⟨_, rfl⟩
          rw [hc] at HN hA3 ⊢
          clear hc
          by_cases hc0 : c = 0
          · subst hc0
            go_wp2
            exact ⟨⟨2, A, q, (.inr (.inr (.inl ⟨rfl, rfl⟩))), rfl, rfl, by rw [HN.out, Nat.add_zero]; exact hA, by rw [HN.out, Nat.add_zero]; exact hq, HB.out⟩, by decide⟩
          · have hcn : ((c : Int) != 0) = true := by simp; omega
            have w1 : IntKind.i64.wrap (c : Int) = c := IntWalk.i64_in _ (by omega)
            have w2 : IntKind.i64.wrap ((A : Int) + (c : Int)) = (A : Int) + (c : Int) := IntWalk.i64_in _ (by omega)
            go_wp2
            go_quiet (fail)
            go_wp2
            exact ⟨⟨2, A + c, true, (.inr (.inr (.inl ⟨rfl, rfl⟩))), by go_num, rfl, by rw [HN.out, hA.out]; exact Nat.add_assoc _ _ _, by rw [HN.out]; exact (decide_eq_true (by omega)).symm, Go.below_drewN HB.out _⟩, by decide⟩
        · have hcx := (hb.cell (p := ⟨t, 2, none⟩) htl).trans t2
          have HH := H.out.below hb
          obtain ⟨gs, cp, cs, z, h1, -, -, -, -⟩ := HH.set 2 (by omega)
          have h1' : wr.cell? ⟨d, 9, none⟩ = some (.slice (some ⟨gs, 0, none⟩) 2 cp) := h1
          have HB := Lib.hid hb
          have HN : Hid (cn (bs s) 3 = cn (bs s) 2 + (bs s).count 9) := rfl
          have hA1 := cn_le (bs s) 3 (by omega)
          rw [HN.out] at hA1
          have hA3 : A + (bs s).count 9 ≤ 3000000 := by rw [hA.out]; omega
          have e0 : ((ByteArray.mk #[9])[0]'(by decide)).toNat = 9 := rfl
          clear hb h1 HH hA1
          go_wp2_with fail
          refine (Tryz.strings_Count_one s 9 _).mono ?_
          rintro e wq ⟨rfl, hwq⟩
          obtain rfl : wr = wq := hwq.symm
          unfold Lib.countByte
          rw [show s.data.toList.count 9 = (bs s).count 9 from rfl]
          obtain ⟨c, hc⟩ : ∃ c, (bs s).count 9 = c := ⟨_, rfl⟩
          rw [hc] at HN hA3 ⊢
          clear hc
          by_cases hc0 : c = 0
          · subst hc0
            go_wp2
            exact ⟨⟨3, A, q, (.inr (.inr (.inr (.inl ⟨rfl, rfl⟩)))), rfl, rfl, by rw [HN.out, Nat.add_zero]; exact hA, by rw [HN.out, Nat.add_zero]; exact hq, HB.out⟩, by decide⟩
          · have hcn : ((c : Int) != 0) = true := by simp; omega
            have w1 : IntKind.i64.wrap (c : Int) = c := IntWalk.i64_in _ (by omega)
            have w2 : IntKind.i64.wrap ((A : Int) + (c : Int)) = (A : Int) + (c : Int) := IntWalk.i64_in _ (by omega)
            go_wp2
            go_quiet (fail)
            go_wp2
            exact ⟨⟨3, A + c, true, (.inr (.inr (.inr (.inl ⟨rfl, rfl⟩)))), by go_num, rfl, by rw [HN.out, hA.out]; exact Nat.add_assoc _ _ _, by rw [HN.out]; exact (decide_eq_true (by omega)).symm, Go.below_drewN HB.out _⟩, by decide⟩
        · have hcx := (hb.cell (p := ⟨t, 3, none⟩) htl).trans t3
          have HH := H.out.below hb
          obtain ⟨gs, cp, cs, z, h1, -, -, -, -⟩ := HH.set 3 (by omega)
          have h1' : wr.cell? ⟨d, 92, none⟩ = some (.slice (some ⟨gs, 0, none⟩) 2 cp) := h1
          have HB := Lib.hid hb
          have HN : Hid (cn (bs s) 4 = cn (bs s) 3 + (bs s).count 92) := rfl
          have hA1 := cn_le (bs s) 4 (by omega)
          rw [HN.out] at hA1
          have hA3 : A + (bs s).count 92 ≤ 3000000 := by rw [hA.out]; omega
          have e0 : ((ByteArray.mk #[92])[0]'(by decide)).toNat = 92 := rfl
          clear hb h1 HH hA1
          go_wp2_with fail
          refine (Tryz.strings_Count_one s 92 _).mono ?_
          rintro e wq ⟨rfl, hwq⟩
          obtain rfl : wr = wq := hwq.symm
          unfold Lib.countByte
          rw [show s.data.toList.count 92 = (bs s).count 92 from rfl]
          obtain ⟨c, hc⟩ : ∃ c, (bs s).count 92 = c := ⟨_, rfl⟩
          rw [hc] at HN hA3 ⊢
          clear hc
          by_cases hc0 : c = 0
          · subst hc0
            go_wp2
            exact ⟨⟨4, A, q, (.inr (.inr (.inr (.inr ⟨rfl, rfl⟩)))), rfl, rfl, by rw [HN.out, Nat.add_zero]; exact hA, by rw [HN.out, Nat.add_zero]; exact hq, HB.out⟩, by decide⟩
          · have hcn : ((c : Int) != 0) = true := by simp; omega
            have w1 : IntKind.i64.wrap (c : Int) = c := IntWalk.i64_in _ (by omega)
            have w2 : IntKind.i64.wrap ((A : Int) + (c : Int)) = (A : Int) + (c : Int) := IntWalk.i64_in _ (by omega)
            go_wp2
            go_quiet (fail)
            go_wp2
            exact ⟨⟨4, A + c, true, (.inr (.inr (.inr (.inr ⟨rfl, rfl⟩)))), by go_num, rfl, by rw [HN.out, hA.out]; exact Nat.add_assoc _ _ _, by rw [HN.out]; exact (decide_eq_true (by omega)).symm, Go.below_drewN HB.out _⟩, by decide⟩
        · have HB := Lib.hid hb
          rw [cn_all] at hA hq
          have hA' := hA.out
          have hq' := hq.out
          subst hA'
          subst hq'
          clear hb
          go_wp2
          go_meet
          exact ⟨rfl, rfl, HB.out⟩
    · have hbig' : ¬ (32 : Int) ≤ (s.size : Int) := by omega
      go_wp2
      go_loopw [5, 6, 10] (fun nv av iv wr => ∃ (i A : Nat) (q : Bool), i ≤ s.size ∧ iv = .int .i64 (i : Int) ∧ nv = .int .i64 (A : Int) ∧ av = .bool q ∧ Hid (A = s.size + spc ((bs s).take i)) ∧ Hid (q = decide (0 < spc ((bs s).take i))) ∧ Below w.heap.size w wr) (fun _ _ iv _ => s.size - (intOf iv).toNat)
      case atStart => exact ⟨0, s.size, false, Nat.zero_le _, rfl, rfl, rfl, rfl, rfl, Below.refl _ _⟩
      case round =>
        clear hbig' hbig
        obtain ⟨i, A, q, hi, rfl, rfl, rfl, hA, hq, hb⟩ := hrel
        have HB := Lib.hid hb
        by_cases hlt : i < s.size
        · have htk := spc_take (bs s) i (by rw [bs_length]; exact hlt)
          rw [bs_get s i hlt] at htk
          have hsi := spc_le ((bs s).take i)
          rw [List.length_take, bs_length] at hsi
          have hA3 : A ≤ 3000000 := by rw [hA.out]; omega
          obtain ⟨x, hx⟩ : ∃ x, s[i] = x := ⟨_, rfl⟩
          rw [hx] at htk
          have hx' : s[i] = x := hx
          have hxl := x.toNat_lt
          have hxI : (x.toNat : Int) < 256 := by omega
          have HH := H.out.below hb
          by_cases hsp2 : ∃ m, m < 4 ∧ escC m = x.toNat
          · obtain ⟨m, hm, he⟩ := hsp2
            rw [clB_esc hm he] at htk
            have HTK := Lib.hid (show spc ((bs s).take (i + 1)) = spc ((bs s).take i) + 1 by simp at htk; omega)
            obtain ⟨gs, cp, cs, z, h1, -, -, -, -⟩ := HH.set m hm
            rw [he] at h1
            clear htk hx hb HH he hsi
            go_wp2
            exact ⟨⟨i + 1, A + 1, true, by omega, by go_num, by go_num, rfl, by rw [HTK.out, hA.out]; exact Nat.add_assoc _ _ _, by rw [HTK.out]; exact (decide_eq_true (by omega)).symm, HB.out⟩, by simp [intOf]; omega⟩
          · rw [clB_no (fun m hm he => hsp2 ⟨m, hm, he⟩)] at htk
            have HTK := Lib.hid (show spc ((bs s).take (i + 1)) = spc ((bs s).take i) by simp at htk; omega)
            have h1 := HH.nil x.toNat (by omega) (fun m hm he => hsp2 ⟨m, hm, he⟩)
            clear htk hx hb HH hsi hsp2
            go_wp2
            exact ⟨⟨i + 1, A, q, by omega, by go_num, rfl, rfl, by rw [HTK.out]; exact hA, by rw [HTK.out]; exact hq, HB.out⟩, by simp [intOf]; omega⟩
        · obtain rfl : i = s.size := by omega
          rw [take_all] at hA hq
          have hA' := hA.out
          have hq' := hq.out
          subst hA'
          subst hq'
          clear hb
          go_wp2
          go_meet
          exact ⟨rfl, rfl, HB.out⟩
  case rest =>
    obtain ⟨rfl, rfl, hb⟩ := hcut
    have HB := Lib.hid hb
    by_cases h0 : spc (bs s) = 0
    · have HE := Lib.hid (show ofL (clL (bs s)) = s by rw [clL_zero h0]; exact bs_inj (by rw [bs_ofL]))
      rw [show decide (0 < spc (bs s)) = false from decide_eq_false (by omega)]
      clear hb h0
      go_wp2
      go_ret
      rw [HE.out]
      exact ⟨rfl, HB.out⟩
    · rw [show decide (0 < spc (bs s)) = true from decide_eq_true (by omega)]
      obtain ⟨N, hN⟩ : ∃ N, s.size + spc (bs s) = N := ⟨_, rfl⟩
      have HN := Lib.hid (show (clL (bs s)).length = N by rw [spc_len, bs_length, hN])
      have hN3 : N ≤ 3000000 := by omega
      rw [hN]
      have hmk := makeBytes N (by omega) wc
      obtain ⟨g, hg⟩ : ∃ g, wc.heap.size = g := ⟨_, rfl⟩
      obtain ⟨wb, hwb⟩ : ∃ wb, wc.alloc (.cells (madeCells #[.int .u8 0] N) 5) = wb := ⟨_, rfl⟩
      have HG0 := Lib.hid (show wb.heap[g]? = some (.cells (madeCells #[.int .u8 0] N).toList.toArray 5 (0, 0)) by rw [← hwb, ← hg, Array.toArray_toList]; exact Array.getElem?_push_size)
      have HB0 := Lib.hid (show Below g wc wb by rw [← hwb, ← hg]; exact (Below.refl _ _).alloc (Nat.le_refl _) _)
      have hwg := hb.size
      rw [hwb, hg] at hmk
      rw [hg] at hwg
      clear hb h0 hN hwb hg
      go_wp2
      go_loopw [13, 14] (fun jv iv wr => ∃ (i J : Nat) (cur : List Value), i ≤ s.size ∧ iv = .int .i64 (i : Int) ∧ jv = .int .i64 (J : Int) ∧ Hid (J = (clL ((bs s).take i)).length) ∧ Hid (wr.heap[g]? = some (.cells cur.toArray 5 (0, 0))) ∧ Hid (cur.length = N) ∧ Hid (cur.take J = (clL ((bs s).take i)).map byteV) ∧ Below g wc wr) (fun _ iv _ => s.size - (intOf iv).toNat)
      case atStart => exact ⟨0, 0, _, Nat.zero_le _, rfl, rfl, rfl, HG0.out, by rw [Array.length_toList, size_madeCells]; exact Lib.hid rfl, rfl, HB0.out⟩
      case round =>
        clear HG0 HB0 hmk
        obtain ⟨i, J, cur, hi, rfl, rfl, hJ, hg, hcl, hct, hb⟩ := hrel
        have HB2 := Lib.hid hb
        have hbw : Below w.heap.size w wr := HB.out.trans (hb.mono hwg)
        by_cases hlt : i < s.size
        · have htk := clL_take (bs s) i (by rw [bs_length]; exact hlt)
          rw [bs_get s i hlt] at htk
          have hle := clL_take_le (bs s) (i + 1)
          rw [htk, HN.out, List.length_append, ← hJ.out] at hle
          obtain ⟨x, hx⟩ : ∃ x, s[i] = x := ⟨_, rfl⟩
          rw [hx] at htk hle
          have hx' : s[i] = x := hx
          have hxl := x.toNat_lt
          have hxI : (x.toNat : Int) < 256 := by omega
          have HH := H.out.below hbw
          by_cases hsp2 : ∃ m, m < 4 ∧ escC m = x.toNat
          · obtain ⟨m, hm, he⟩ := hsp2
            rw [clB_esc hm he] at htk hle
            simp only [List.length_cons, List.length_nil] at hle
            have hJN : J ≤ N := by omega
            have hJne : ¬ N = J := by omega
            have HTK := Lib.hid htk
            obtain ⟨gs, cp, cs, z, h1, h2, h3, h4, h5⟩ := HH.set m hm
            rw [he] at h1
            have g0 := cell_of_blk h2 h3
            have g1 := cell_of_blk h2 h4
            have HE := Lib.hid (show escE m < 256 by unfold escE; split <;> omega)
            obtain ⟨E, hE⟩ : ∃ E, escE m = E := ⟨_, rfl⟩
            rw [hE] at g1 HTK HE
            clear htk hx hb HH he h2 h3 h4 h5 hm hE hbw
            go_wp2
            go_region_law (refine step_copy_splice rfl (.tmp 105) (.tmp 111) 35 35 rfl 5 Tryz.underlying35 (by kernel_rfl) (some ⟨g, J, none⟩) (some ⟨gs, 0, none⟩) (N - J) (N - J) 2 cp rfl rfl g J cur 5 hg.out [.int .u8 92, .int .u8 (E : Int)] (by show 2 = min 2 (N - J); omega) (fun _ => ⟨rfl, ⟨gs, 0, none⟩, rfl, two_cells (u := wr) g0 g1⟩) (by rw [hcl.out]; show J + 2 ≤ N; omega) (fun y hy => by simp at hy; rcases hy with rfl | rfl <;> rfl) g wc HB2.out.drew (Nat.le_refl _) ?_; intro w4 hg4 hb4)
            all_goals go_wp2
            refine ⟨⟨i + 1, J + 2, _, by omega, by go_num, by go_num, by rw [HTK.out, List.length_append, ← hJ.out]; exact Lib.hid rfl, hg4, by rw [length_splice _ _ _ (by rw [hcl.out]; show J + 2 ≤ N; omega)]; exact hcl, ?_, hb4⟩, by simp [intOf]; omega⟩
            have hsp3 := take_splice (L := cur) (cs := [.int .u8 92, .int .u8 (E : Int)]) (off := J) (by rw [hcl.out]; omega)
            rw [HTK.out, List.map_append, ← hct.out]
            refine Lib.hid (hsp3.trans ?_)
            have hEE : byteV (UInt8.ofNat E) = .int .u8 (E : Int) := by
              unfold byteV
              rw [UInt8.toNat_ofNat_of_lt' HE.out]
            rw [List.map_cons, List.map_cons, hEE]
            rfl
          · rw [clB_no (fun m hm he => hsp2 ⟨m, hm, he⟩)] at htk hle
            simp only [List.length_cons, List.length_nil] at hle
            have hJN : J < N := by omega
            have hJI : (J : Int) < (N : Int) := by omega
            have HTK := Lib.hid htk
            have h1 := HH.nil x.toNat (by omega) (fun m hm he => hsp2 ⟨m, hm, he⟩)
            have hJc : J < cur.length := by rw [hcl.out]; exact hJN
            have g0 : wr.cell? ⟨g, J, none⟩ = some cur[J] := cell_of_blk hg.out (by rw [List.getElem?_toArray]; exact List.getElem?_eq_getElem hJc)
            have f0 : wr.frozen? ⟨g, J, none⟩ = false := by unfold World.frozen?; rw [hg.out]; simp
            have HGS := Lib.hid (buf_set (J := J) hg.out (byteV x))
            have HTS := Lib.hid (take_set (byteV x) hJc)
            have HBS := Lib.hid (HB2.out.setCell (p := ⟨g, J, none⟩) (Nat.le_refl _) (byteV x))
            generalize cur[J] = old at g0
            clear htk hx hb HH hsp2 hbw hJc
            go_wp2
            exact ⟨⟨i + 1, J + 1, _, by omega, by go_num, by go_num, by rw [HTK.out, List.length_append, ← hJ.out]; exact Lib.hid rfl, HGS.out, by rw [List.length_set]; exact hcl, by rw [HTS.out, HTK.out, List.map_append, ← hct.out]; exact Lib.hid rfl, HBS.out⟩, by simp [intOf]; omega⟩
        · obtain rfl : i = s.size := by omega
          have hJN := hJ.out
          have hct' := hct.out
          rw [take_all] at hJN hct'
          rw [HN.out] at hJN
          subst hJN
          have hlen := hcl.out
          rw [List.take_of_length_le (by omega)] at hct'
          have hcv := textOfRow wr g J J (clL (bs s)) HN.out (fun j hj => cell_of_blk hg.out (by
            rw [hct', List.getElem?_toArray, List.getElem?_map, List.getElem?_eq_getElem hj]; rfl))
          have HBW := Lib.hid hbw
          clear hb hbw hlen hct'
          go_wp2
          go_ret
          exact ⟨rfl, HBW.out⟩
end Go.Proofs.YtobpecgecopdnaaGreatDoor
