/-
  Texts of this claim in one file, in build order: DrawDec. Each says ahead what it proves and under which conditions.
-/
import Derived.Test.YtjjpdoabagnmoaaGreatDoorQ09
import Derived.Deep.DeepCutAuto
import Derived.Deep.CutBlock
/-
  The contract of drawing a number: three parts of whatever values, a short text among them. Conditions: the cursor stands at a block of its own, the code below it.
-/
namespace Go.Proofs.YtjjpdoabagnmoaaGreatDoor
open Go.RowKit
set_option linter.unusedVariables false
set_option linter.unusedSimpArgs false

/-- of what was there nothing but block p may have turned -/
structure Mostly (p : Nat) (w w' : World) : Prop where
  os : w'.os = w.os
  tape : w'.tape = w.tape
  output : w'.output = w.output
  size : w.heap.size ≤ w'.heap.size
  block : ∀ k, k ≠ p → k < w.heap.size → w'.heap[k]? = w.heap[k]?
theorem Mostly.refl (p : Nat) (w : World) : Mostly p w w := ⟨rfl, rfl, rfl, Nat.le_refl _, fun _ _ _ => rfl⟩
theorem Mostly.trans {p : Nat} {a b c : World} (h : Mostly p a b) (k : Mostly p b c) : Mostly p a c :=
  ⟨k.os.trans h.os, k.tape.trans h.tape, k.output.trans h.output, Nat.le_trans h.size k.size, fun i hi hl => (k.block i hi (Nat.lt_of_lt_of_le hl h.size)).trans (h.block i hi hl)⟩
theorem Mostly.of_only {p : Nat} {w w' : World} (h : Only p w w') : Mostly p w w' := ⟨h.os, h.tape, h.output, Nat.le_of_eq h.size.symm, fun k hk _ => h.block k hk⟩
theorem Mostly.of_below {p : Nat} {w w' : World} (h : Below w.heap.size w w') : Mostly p w w' := ⟨h.os, h.tape, h.output, h.size, fun k _ hl => h.block k hl⟩
theorem Mostly.below {p B : Nat} {w w' : World} (h : Mostly p w w') (h1 : B ≤ p) (h2 : B ≤ w.heap.size) : Below B w w' :=
  ⟨h.os, h.tape, h.output, h.size, fun k hk => h.block k (by omega) (by omega)⟩
theorem Mostly.cell {p : Nat} {w w' : World} (h : Mostly p w w') {b o : Nat} (hb : b ≠ p) (hl : b < w.heap.size) : w'.cell? ⟨b, o, none⟩ = w.cell? ⟨b, o, none⟩ := by
  unfold World.cell?; rw [h.block b hb hl]
theorem Mostly.frozen {p : Nat} {w w' : World} (h : Mostly p w w') {b o : Nat} (hb : b ≠ p) (hl : b < w.heap.size) : w'.frozen? ⟨b, o, none⟩ = w.frozen? ⟨b, o, none⟩ := by
  unfold World.frozen?; rw [h.block b hb hl]
/-- block g holds a number's three parts; of what was there nothing but block p has turned -/
structure Lay (p g : Nat) (n : Bool) (u : ByteArray) (x : Int) (w wr : World) : Prop where
  most : Mostly p w wr
  hz : g < wr.heap.size
  hc : wr.cell? ⟨g, 0, none⟩ = some (.bool n) ∧ wr.cell? ⟨g, 1, none⟩ = some (.string u) ∧ wr.cell? ⟨g, 2, none⟩ = some (.int .i64 x)
  hf : wr.frozen? ⟨g, 0, none⟩ = false ∧ wr.frozen? ⟨g, 1, none⟩ = false ∧ wr.frozen? ⟨g, 2, none⟩ = false
theorem Lay.mostly {p g : Nat} {n : Bool} {u : ByteArray} {x : Int} {w wr w' : World} (h : Lay p g n u x w wr) (ho : Mostly p wr w') (hne : g ≠ p) : Lay p g n u x w w' := by
  refine ⟨h.most.trans ho, Nat.lt_of_lt_of_le h.hz ho.size, ?_, ?_⟩
  · rw [ho.cell (o := 0) hne h.hz, ho.cell (o := 1) hne h.hz, ho.cell (o := 2) hne h.hz]; exact h.hc
  · rw [ho.frozen (o := 0) hne h.hz, ho.frozen (o := 1) hne h.hz, ho.frozen (o := 2) hne h.hz]; exact h.hf
theorem Lay.only {p g : Nat} {n : Bool} {u : ByteArray} {x : Int} {w wr w' : World} (h : Lay p g n u x w wr) (ho : Only p wr w') (hg : p < g) : Lay p g n u x w w' := h.mostly (.of_only ho) (Nat.ne_of_gt hg)
theorem Lay.grow {p g : Nat} {n : Bool} {u : ByteArray} {x : Int} {w wr w' : World} (h : Lay p g n u x w wr) (hb : Below wr.heap.size wr w') (hg : p < g) : Lay p g n u x w w' := h.mostly (.of_below hb) (Nat.ne_of_gt hg)
theorem Lay.alloc {p g : Nat} {n : Bool} {u : ByteArray} {x : Int} {w wr : World} (h : Lay p g n u x w wr) (hg : p < g) (o : Obj) : Lay p g n u x w (wr.alloc o) :=
  h.grow ((Below.refl _ wr).alloc (Nat.le_refl _) o) hg
/-- what a draw of a number leaves -/
def DecPost (p len cap at' : Nat) (a : Option Addr) (w : World) (e : Ending) (w' : World) : Prop :=
  ∃ (n : Bool) (t : ByteArray) (x : Int) (at2 seed2 : Nat), e = .returned (.agg #[.bool n, .string t, .int .i64 x]) ∧ t.size ≤ 1000 ∧ (-9223372036854775808 ≤ x ∧ x ≤ 9223372036854775807) ∧ at2 ≤ at' + 100 ∧ (Cur w' p a len cap at2 seed2 ∧ Mostly p w w')
theorem dec_done {p len cap at2 seed2 : Nat} {a : Option Addr} {n : Bool} {u : ByteArray} {x : Int} {w wX w' : World} (hC : Cur wX p a len cap at2 seed2) (hL : Lay p w.heap.size n u x w wX) (hg : p < w.heap.size) (hb : Below w.heap.size wX w') : Cur w' p a len cap at2 seed2 ∧ Mostly p w w' :=
  ⟨hC.below hb hg, ⟨hb.os.trans hL.most.os, hb.tape.trans hL.most.tape, hb.output.trans hL.most.output, Nat.le_trans hL.most.size hb.size, fun k hk hl => (hb.block k hl).trans (hL.most.block k hk hl)⟩⟩
theorem once_any (p len cap at' seed n : Nat) (a : Option Addr) (w : World) (h : Cur w p a len cap at' seed) (hat : at' ≤ 100000000000) (hn : n ≤ 100000) :
    Calls Tryz.prog 68 #[.pointer (some ⟨p, 0, none⟩), .int .i64 (n : Int)] w fun e w' => ∃ (b : Bool) (at2 seed2 : Nat), e = .returned (.bool b) ∧ at2 ≤ at' + 1 ∧ Cur w' p a len cap at2 seed2 ∧ Only p w w' := by
  have HC := Lib.hid h
  clear h
  go_enter Tryz.func68, Tryz.ntmps68
  go_wp2_with fail
  refine (pick_any p len cap at' seed n a _ HC.out (by omega) (by omega)).mono ?_
  rintro e w1 ⟨x, at2, seed2, rfl, hx, hat2, hc2, ho2⟩
  have H := Lib.hid (And.intro hc2 ho2)
  clear hc2 ho2
  go_wp2
  go_ret
  exact ⟨_, at2, seed2, rfl, hat2, H.out.1, H.out.2⟩

set_option maxRecDepth 20000 in
set_option maxHeartbeats 8000000 in
theorem dec_any (p len cap at' seed : Nat) (a : Option Addr) (w : World) (h : Cur w p a len cap at' seed) (hp : p < w.heap.size) (hat : at' ≤ 100000000) :
    Calls Tryz.prog 36 #[.pointer (some ⟨p, 0, none⟩)] w (DecPost p len cap at' a w) := by
  have HC := Lib.hid h
  have hpg : p < w.heap.size := hp
  clear h
  go_enter Tryz.func36, Tryz.ntmps36
  go_wp2_with fail
  obtain ⟨w0, hw0, hz0, hv0, hc0, hf0⟩ := one_laid w false ⟨#[]⟩ 0
  rw [hw0]
  have H0 := Lib.hid (And.intro (HC.out.below hv0 hp) (show Lay p w.heap.size false ⟨#[]⟩ 0 w w0 from ⟨.of_below hv0, hz0, hc0, hf0⟩))
  clear hw0 hv0 hc0 hf0
  refine (size_any p len cap at' seed 10 a _ H0.out.1 (by omega) (by omega)).mono ?_
  rintro e w1 ⟨x, at2, seed2, rfl, hx, hat2, hc2, ho2⟩
  have H1 := Lib.hid (And.intro hc2 (H0.out.2.only ho2 hpg))
  clear hc2 ho2 hz0
  go_wp2
  go_loopw [3, 4] (fun v i wr => ∃ (t : ByteArray) (k at3 seed3 : Nat), v = .string t ∧ i = .int .i64 (k : Int) ∧ t.size + 2 * k ≤ 22 ∧ at3 + k ≤ at' + 15 ∧ (bs t).all isDig = true ∧ (Cur wr p a len cap at3 seed3 ∧ Lay p w.heap.size false ⟨#[]⟩ 0 w wr)) (fun _ i _ => (intOf i).toNat)
  case atStart =>
    exact ⟨⟨#[]⟩, x + 1, at2, seed2, rfl, by congr 1; omega, by show 0 + 2 * (x + 1) ≤ 22; omega, by omega, rfl, H1.out⟩
  case round =>
    obtain ⟨t, k, at3, seed3, rfl, rfl, ht, hat3, htd, hcl⟩ := hrel
    have H3 := Lib.hid hcl
    have HTD := Lib.hid htd
    have hz3 := hcl.2.hz
    clear hcl htd
    by_cases hk : 0 < k
    · have hk' : (0 : Int) < (k : Int) := by omega
      go_wp2_with fail
      refine (pick_any p len cap at3 seed3 10 a _ (H3.out.1.below ((Below.refl wr.heap.size wr).alloc (Nat.le_refl _) _) (by omega)) (by omega) (by omega)).mono ?_
      rintro e w2 ⟨y, at4, seed4, rfl, hy, hat4, hc4, ho4⟩
      obtain ⟨v, hv, hvs, hvd⟩ : ∃ v : ByteArray, w2.cell? ⟨wr.heap.size, y, none⟩ = some (.string v) ∧ v.size ≤ 2 ∧ (bs v).all isDig = true := by
        rw [ho4.cell (by omega), new_cell]
        rcases (by omega : y = 0 ∨ y = 1 ∨ y = 2 ∨ y = 3 ∨ y = 4 ∨ y = 5 ∨ y = 6 ∨ y = 7 ∨ y = 8 ∨ y = 9) with rfl | rfl | rfl | rfl | rfl | rfl | rfl | rfl | rfl | rfl
        all_goals exact ⟨_, rfl, by decide, by decide⟩
      have HVD := Lib.hid hvd
      have hsz : w2.heap.size = wr.heap.size + 1 := by rw [ho4.size]; simp
      have H4 := Lib.hid (And.intro hc4 ((H3.out.2.alloc hpg _).only ho4 hpg))
      have hyb : (y : Int) < 10 := by omega
      have hno : ¬ (9223372036854775807 < t.size + v.size) := by omega
      clear hc4 ho4 hvd
      go_wp2
      have hts : (t ++ v).size = t.size + v.size := ByteArray.size_append
      refine ⟨⟨t ++ v, k - 1, at4, seed4, rfl, by congr 1; omega, by rw [hts]; omega, by omega, by rw [bs_app, List.all_append, HTD.out, HVD.out]; rfl, H4.out⟩, by simp [intOf]; omega⟩
    · have hk' : ¬ ((0 : Int) < (k : Int)) := by omega
      go_upto_if 24 with fail
      go_cut [3] (fun v wx => ∃ D : ByteArray, v = .string D ∧ D.size ≤ 22 ∧ (bs D).all isDig = true ∧ (Cur wx p a len cap at3 seed3 ∧ Lay p w.heap.size false ⟨#[]⟩ 0 w wx))
      case first =>
        by_cases h20 : 20 < t.size
        · have h20' : (20 : Int) < (t.size : Int) := by omega
          have h20b : (20 : Int) ≤ (t.size : Int) := by omega
          go_wp2_with fail
          go_meet
          exact ⟨t.extract 0 20, rfl, by rw [← bs_length, bs_front, List.length_take]; omega, by rw [bs_front]; exact all_take HTD.out 20, H3.out⟩
        · have h20' : ¬ (20 : Int) < (t.size : Int) := by omega
          go_wp2_with fail
          go_meet
          exact ⟨t, rfl, by omega, HTD.out, H3.out⟩
      case rest =>
        obtain ⟨D, rfl, hDs, hDd, hcl⟩ := hcut
        have H3 := Lib.hid hcl
        have HD := Lib.hid hDd
        clear hcl hDd
        go_wp2_with fail
        refine (pick_any p len cap at3 seed3 13 a _ H3.out.1 (by omega) (by omega)).mono ?_
        rintro e w4 ⟨x4, at4, seed4, rfl, hx4, hat4, hc4, ho4⟩
        have H4 := Lib.hid (And.intro hc4 (H3.out.2.only ho4 hpg))
        clear hc4 ho4
        go_wp2_with fail
        refine (pick_any p len cap at4 seed4 10 a _ H4.out.1 (by omega) (by omega)).mono ?_
        rintro e w5 ⟨y5, at5, seed5, rfl, hy5, hat5, hc5, ho5⟩
        have H5 := Lib.hid (And.intro hc5 (H4.out.2.only ho5 hpg))
        clear hc5 ho5
        go_upto_block 2 with fail
        go_cut [3, 5] (fun v x wx => ∃ (E : ByteArray) (X : Int) (atS seedS : Nat), v = .string E ∧ x = .int .i64 X ∧ E.size ≤ 22 ∧ (bs E).all isDig = true ∧ (-99 ≤ X ∧ X ≤ 99) ∧ atS ≤ at5 + 1 ∧ (Cur wx p a len cap atS seedS ∧ Lay p w.heap.size false ⟨#[]⟩ 0 w wx))
        case first =>
          rcases (by omega : y5 = 0 ∨ y5 = 1 ∨ y5 = 2 ∨ 3 ≤ y5) with rfl | rfl | rfl | hy5c
          · go_wp2_with fail
            refine (pick_any p len cap at5 seed5 198 a _ H5.out.1 (by omega) (by omega)).mono ?_
            rintro e wa ⟨xa, ata, seeda, rfl, hxa, hata, hca, hoa⟩
            have HA := Lib.hid (And.intro hca (H5.out.2.only hoa hpg))
            clear hca hoa
            go_wp2_with fail
            go_meet
            exact ⟨D, _, ata, seeda, rfl, rfl, hDs, HD.out, by omega, by omega, HA.out⟩
          · have hz5 := H5.out.2.hz
            go_wp2_with fail
            refine (pick_any p len cap at5 seed5 6 a _ (H5.out.1.below ((Below.refl w5.heap.size w5).alloc (Nat.le_refl _) _) (by omega)) (by omega) (by omega)).mono ?_
            rintro e wa ⟨xa, ata, seeda, rfl, hxa, hata, hca, hoa⟩
            obtain ⟨v, hv, hvs, hvd⟩ : ∃ v : ByteArray, wa.cell? ⟨w5.heap.size, xa, none⟩ = some (.string v) ∧ v.size ≤ 22 ∧ (bs v).all isDig = true := by
              rw [hoa.cell (by omega), new_cell]
              rcases (by omega : xa = 0 ∨ xa = 1 ∨ xa = 2 ∨ xa = 3 ∨ xa = 4 ∨ xa = 5) with rfl | rfl | rfl | rfl | rfl | rfl
              all_goals exact ⟨_, rfl, by decide, by decide⟩
            have HVD := Lib.hid hvd
            have HA := Lib.hid (And.intro hca ((H5.out.2.alloc hpg _).only hoa hpg))
            have hyb : (xa : Int) < 6 := by omega
            have hsz : wa.heap.size = w5.heap.size + 1 := by rw [hoa.size]; simp
            clear hca hoa hvd
            go_wp2_with fail
            go_meet
            exact ⟨v, _, ata, seeda, rfl, rfl, hvs, HVD.out, by omega, by omega, HA.out⟩
          · go_wp2_with fail
            refine (pick_any p len cap at5 seed5 12 a _ H5.out.1 (by omega) (by omega)).mono ?_
            rintro e wa ⟨xa, ata, seeda, rfl, hxa, hata, hca, hoa⟩
            have HA := Lib.hid (And.intro hca (H5.out.2.only hoa hpg))
            clear hca hoa
            have hza := HA.out.2.hz
            obtain ⟨n', u, y', c, hV, hok, hus, -⟩ := formV_lit (decide ((xa : Int) - 3 < 0)) ((xa : Int) - 3).natAbs 0
            obtain ⟨-, q2, q3, -⟩ := dec_facts hok
            have HDO := Lib.hid (fun w => specDecOf_any ((xa : Int) - 3) w (by omega) (by omega) n' u y' c hV)
            clear hV hok
            go_wp2_with fail
            refine (HDO.out _).mono ?_
            rintro e wb ⟨rfl, hbb⟩
            have HB := Lib.hid (And.intro (HA.out.1.below hbb (by omega)) (HA.out.2.grow hbb hpg))
            clear hbb
            obtain ⟨r1, r2, r3⟩ := HB.out.2.hc
            obtain ⟨f1, f2, f3⟩ := HB.out.2.hf
            go_wp2
            refine bodyPost_ret (v := .agg #[.bool n', .string u, .int .i64 y']) (by simp [results, Tryz.results36, go_sem, *]) rfl ?_
            refine ⟨n', u, y', ata, seeda, rfl, by omega, ⟨by omega, by omega⟩, by omega, dec_done HB.out.1 HB.out.2 hpg ?_⟩
            (repeat (first | exact Below.refl _ _ | refine Below.setCell ?_ (by first | exact Nat.le_refl _ | (dsimp only; omega) | (simp; omega)) _ | refine Below.drew ?_ | refine Go.below_drewN ?_ _))
          · have e0 : ((y5 : Int) == 0) = false := beq_eq_false_iff_ne.2 (by omega)
            have e1 : ((y5 : Int) == 1) = false := beq_eq_false_iff_ne.2 (by omega)
            have e2 : ((y5 : Int) == 2) = false := beq_eq_false_iff_ne.2 (by omega)
            go_wp2_with fail
            go_meet
            exact ⟨D, _, at5, seed5, rfl, rfl, hDs, HD.out, by omega, by omega, H5.out⟩
        case rest =>
          obtain ⟨E, X, atS, seedS, rfl, rfl, hEs, hEd, hX, hatS, hcl⟩ := hcut
          have HS := Lib.hid hcl
          have HE := Lib.hid hEd
          clear hcl hEd
          go_wp2_with fail
          refine (pick_any p len cap atS seedS 3 a _ HS.out.1 (by omega) (by omega)).mono ?_
          rintro e w6 ⟨z, at6, seed6, rfl, hz, hat6, hc6, ho6⟩
          have H6 := Lib.hid (And.intro hc6 (HS.out.2.only ho6 hpg))
          clear hc6 ho6
          obtain ⟨bz, hbz⟩ : ∃ bz, ((z : Int) == 0) = bz := ⟨_, rfl⟩
          obtain ⟨n', u, y', c, hV, hok, hus, -⟩ := formV_lit bz (val (bs E)) X
          obtain ⟨-, q2, q3, -⟩ := dec_facts hok
          have HV := Lib.hid hV
          clear hV hok
          go_wp2_with fail
          refine (l03Form_any bz E X _ HE.out (by omega) (by omega) (by omega)).mono ?_
          rintro e w7 ⟨rfl, hb7⟩
          rw [HV.out]
          have hz6 := H6.out.2.hz
          have hp7 : p < w7.heap.size := by have := hb7.size; omega
          have H7 := Lib.hid (And.intro (H6.out.1.below hb7 (by omega)) (H6.out.2.grow hb7 hpg))
          have hg7 : w.heap.size < w7.heap.size := H7.out.2.hz
          clear hb7 hz6
          go_wp2_with fail
          obtain ⟨w8, hw8, hz8, hv8, hc8, hf8⟩ := one_laid w7 n' u y'
          rw [hw8]
          have H8 := Lib.hid (And.intro (H7.out.1.below hv8 hp7) (And.intro (H7.out.2.grow hv8 hpg) (show Lay p w7.heap.size n' u y' w w8 from ⟨H7.out.2.most.trans (.of_below hv8), hz8, hc8, hf8⟩)))
          clear hw8 hz8 hv8 hc8 hf8
          refine (once_any p len cap at6 seed6 18 a _ H8.out.1 (by omega) (by omega)).mono ?_
          rintro e w9 ⟨b9, at9, seed9, rfl, hat9, hc9, ho9⟩
          have H9 := Lib.hid (And.intro hc9 (And.intro (H8.out.2.1.only ho9 hpg) (H8.out.2.2.only ho9 hp7)))
          clear hc9 ho9
          cases b9
          · obtain ⟨r1, r2, r3⟩ := H9.out.2.1.hc
            obtain ⟨f1, f2, f3⟩ := H9.out.2.1.hf
            obtain ⟨d1, d2, d3⟩ := H9.out.2.2.hc
            go_wp2
            refine bodyPost_ret (v := .agg #[.bool n', .string u, .int .i64 y']) (by simp [results, Tryz.results36, go_sem, *]) rfl ?_
            refine ⟨n', u, y', at9, seed9, rfl, by omega, ⟨by omega, by omega⟩, by omega, dec_done H9.out.1 H9.out.2.1 hpg ?_⟩
            (repeat (first | exact Below.refl _ _ | refine Below.setCell ?_ (by first | exact Nat.le_refl _ | (dsimp only; omega) | (simp; omega)) _ | refine Below.drew ?_ | refine Go.below_drewN ?_ _))
          · go_wp2_with fail
            refine (pick_any p len cap at9 seed9 5 a _ H9.out.1 (by omega) (by omega)).mono ?_
            rintro e w10 ⟨q, at10, seed10, rfl, hq, hat10, hc10, ho10⟩
            have H10 := Lib.hid (And.intro hc10 (And.intro (H9.out.2.1.only ho10 hpg) (H9.out.2.2.only ho10 hp7)))
            clear hc10 ho10
            rcases (by omega : q = 0 ∨ q = 1 ∨ q = 2 ∨ q = 3 ∨ q = 4) with rfl | rfl | rfl | rfl | rfl
            · obtain ⟨r1, r2, r3⟩ := H10.out.2.1.hc
              obtain ⟨f1, f2, f3⟩ := H10.out.2.1.hf
              obtain ⟨d1, d2, d3⟩ := H10.out.2.2.hc
              obtain ⟨k1, k2, k3⟩ := H10.out.2.2.hf
              have hno : ¬ (9223372036854775807 < u.size + 1) := by omega
              have hne1 : ¬ (w.heap.size = w7.heap.size) := by omega
              have hne2 : ¬ (w7.heap.size = w.heap.size) := by omega
              go_wp2
              refine bodyPost_ret (v := .agg #[.bool n', .string (u ++ ⟨#[48]⟩), .int .i64 y']) (by simp [results, Tryz.results36, go_sem, *]) rfl ?_
              refine ⟨n', u ++ ⟨#[48]⟩, y', at10, seed10, rfl, by rw [ByteArray.size_append]; show u.size + 1 ≤ 1000; omega, ⟨by omega, by omega⟩, by omega, dec_done H10.out.1 H10.out.2.1 hpg ?_⟩
              (repeat (first | exact Below.refl _ _ | refine Below.setCell ?_ (by first | exact Nat.le_refl _ | (dsimp only; omega) | (simp; omega)) _ | refine Below.drew ?_ | refine Go.below_drewN ?_ _))
            · have hz10 := H10.out.2.1.hz
              have hz10b := H10.out.2.2.hz
              go_wp2_with fail
              refine (pick_any p len cap at10 seed10 4 a _ (H10.out.1.below ((Below.refl w10.heap.size w10).alloc (Nat.le_refl _) _) (by omega)) (by omega) (by omega)).mono ?_
              rintro e w11 ⟨q2, at11, seed11, rfl, hq2, hat11, hc11, ho11⟩
              obtain ⟨v, hv, hvb⟩ : ∃ v : Int, w11.cell? ⟨w10.heap.size, q2, none⟩ = some (.int .i64 v) ∧ (-9223372036854775808 ≤ v ∧ v ≤ 9223372036854775807) := by
                rw [ho11.cell (by omega), new_cell]
                rcases (by omega : q2 = 0 ∨ q2 = 1 ∨ q2 = 2 ∨ q2 = 3) with rfl | rfl | rfl | rfl
                all_goals exact ⟨_, rfl, by decide⟩
              have H11 := Lib.hid (And.intro hc11 (And.intro ((H10.out.2.1.alloc hpg _).only ho11 hpg) ((H10.out.2.2.alloc hp7 _).only ho11 hp7)))
              have hsz11 : w11.heap.size = w10.heap.size + 1 := by rw [ho11.size]; simp
              clear hc11 ho11
              have hyb : (q2 : Int) < 4 := by omega
              obtain ⟨r1, r2, r3⟩ := H11.out.2.1.hc
              obtain ⟨f1, f2, f3⟩ := H11.out.2.1.hf
              obtain ⟨d1, d2, d3⟩ := H11.out.2.2.hc
              obtain ⟨k1, k2, k3⟩ := H11.out.2.2.hf
              have hne1 : ¬ (w.heap.size = w7.heap.size) := by omega
              have hne2 : ¬ (w7.heap.size = w.heap.size) := by omega
              go_wp2
              refine bodyPost_ret (v := .agg #[.bool n', .string u, .int .i64 v]) (by simp [results, Tryz.results36, go_sem, *]) rfl ?_
              refine ⟨n', u, v, at11, seed11, rfl, by omega, hvb, by omega, dec_done H11.out.1 H11.out.2.1 hpg ?_⟩
              (repeat (first | exact Below.refl _ _ | refine Below.setCell ?_ (by first | exact Nat.le_refl _ | (dsimp only; omega) | (simp; omega)) _ | refine Below.drew ?_ | refine Go.below_drewN ?_ _))
            · obtain ⟨r1, r2, r3⟩ := H10.out.2.1.hc
              obtain ⟨f1, f2, f3⟩ := H10.out.2.1.hf
              obtain ⟨d1, d2, d3⟩ := H10.out.2.2.hc
              obtain ⟨k1, k2, k3⟩ := H10.out.2.2.hf
              have hno : ¬ (9223372036854775807 < 1 + u.size) := by omega
              have hne1 : ¬ (w.heap.size = w7.heap.size) := by omega
              have hne2 : ¬ (w7.heap.size = w.heap.size) := by omega
              go_wp2
              refine bodyPost_ret (v := .agg #[.bool n', .string (⟨#[48]⟩ ++ u), .int .i64 y']) (by simp [results, Tryz.results36, go_sem, *]) rfl ?_
              refine ⟨n', ⟨#[48]⟩ ++ u, y', at10, seed10, rfl, by rw [ByteArray.size_append]; show 1 + u.size ≤ 1000; omega, ⟨by omega, by omega⟩, by omega, dec_done H10.out.1 H10.out.2.1 hpg ?_⟩
              (repeat (first | exact Below.refl _ _ | refine Below.setCell ?_ (by first | exact Nat.le_refl _ | (dsimp only; omega) | (simp; omega)) _ | refine Below.drew ?_ | refine Go.below_drewN ?_ _))
            · obtain ⟨r1, r2, r3⟩ := H10.out.2.1.hc
              obtain ⟨f1, f2, f3⟩ := H10.out.2.1.hf
              obtain ⟨d1, d2, d3⟩ := H10.out.2.2.hc
              obtain ⟨k1, k2, k3⟩ := H10.out.2.2.hf
              have hne1 : ¬ (w.heap.size = w7.heap.size) := by omega
              have hne2 : ¬ (w7.heap.size = w.heap.size) := by omega
              go_wp2
              refine bodyPost_ret (v := .agg #[.bool n', .string ⟨#[49, 120, 51]⟩, .int .i64 y']) (by simp [results, Tryz.results36, go_sem, *]) rfl ?_
              refine ⟨n', ⟨#[49, 120, 51]⟩, y', at10, seed10, rfl, by decide, ⟨by omega, by omega⟩, by omega, dec_done H10.out.1 H10.out.2.1 hpg ?_⟩
              (repeat (first | exact Below.refl _ _ | refine Below.setCell ?_ (by first | exact Nat.le_refl _ | (dsimp only; omega) | (simp; omega)) _ | refine Below.drew ?_ | refine Go.below_drewN ?_ _))
            · obtain ⟨r1, r2, r3⟩ := H10.out.2.1.hc
              obtain ⟨f1, f2, f3⟩ := H10.out.2.1.hf
              obtain ⟨d1, d2, d3⟩ := H10.out.2.2.hc
              obtain ⟨k1, k2, k3⟩ := H10.out.2.2.hf
              have hne1 : ¬ (w.heap.size = w7.heap.size) := by omega
              have hne2 : ¬ (w7.heap.size = w.heap.size) := by omega
              go_wp2
              refine bodyPost_ret (v := .agg #[.bool true, .string ⟨#[]⟩, .int .i64 0]) (by simp [results, Tryz.results36, go_sem, *]) rfl ?_
              refine ⟨true, ⟨#[]⟩, 0, at10, seed10, rfl, by decide, ⟨by omega, by omega⟩, by omega, dec_done H10.out.1 H10.out.2.1 hpg ?_⟩
              (repeat (first | exact Below.refl _ _ | refine Below.setCell ?_ (by first | exact Nat.le_refl _ | (dsimp only; omega) | (simp; omega)) _ | refine Below.drew ?_ | refine Go.below_drewN ?_ _))
end Go.Proofs.YtjjpdoabagnmoaaGreatDoor
