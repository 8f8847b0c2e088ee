/-
  The contract of the program's tsvCell: a cell from where the reader stands. Conditions: bounds; the reader stands in memory.
-/
import Derived.Test.YthpdmipgnoidpaaDoorTsvT
namespace Go.Proofs.YthpdmipgnoidpaaDoor
open Go.RowKit
open Go.Lib hiding intOf
set_option linter.unusedVariables false
set_option linter.unusedSimpArgs false

theorem idx_esc (x : UInt8) : (Lib.indexByte (ByteArray.mk #[116, 110, 114, 92]).data.toList x = -1 ∧ escB x = 0) ∨ (Lib.indexByte (ByteArray.mk #[116, 110, 114, 92]).data.toList x = 0 ∧ escB x = 9) ∨ (Lib.indexByte (ByteArray.mk #[116, 110, 114, 92]).data.toList x = 1 ∧ escB x = 10) ∨ (Lib.indexByte (ByteArray.mk #[116, 110, 114, 92]).data.toList x = 2 ∧ escB x = 13) ∨ (Lib.indexByte (ByteArray.mk #[116, 110, 114, 92]).data.toList x = 3 ∧ escB x = 92) := by
  by_cases h1 : x = 116
  · subst h1; exact .inr (.inl ⟨by rfl, by rfl⟩)
  by_cases h2 : x = 110
  · subst h2; exact .inr (.inr (.inl ⟨by rfl, by rfl⟩))
  by_cases h3 : x = 114
  · subst h3; exact .inr (.inr (.inr (.inl ⟨by rfl, by rfl⟩)))
  by_cases h4 : x = 92
  · subst h4; exact .inr (.inr (.inr (.inr ⟨by rfl, by rfl⟩)))
  · left
    refine ⟨?_, by unfold escB; rw [if_neg h1, if_neg h2, if_neg h3, if_neg h4]⟩
    show Lib.indexByte [116, 110, 114, 92] x = -1
    simp [Lib.indexByte, Ne.symm h1, Ne.symm h2, Ne.symm h3, Ne.symm h4, h1, h2, h3, h4]

/-- the text of an owned row of bytes, the nil slice included -/
theorem textOfOwn {w : World} {b n : Nat} {v : Value} {l : List UInt8} (h : w.ownsRow b 5 1 v n (l.map byteV)) : (convert 62 9 v).run Tryd.prog w = .ok (.string (ofL l)) w := by
  rcases h.2 with ⟨rfl, rfl⟩ | ⟨g, cap, cur, rfl, _⟩
  · have hl : l = [] := List.eq_nil_of_length_eq_zero (by simpa using h.1)
    subst hl
    have h1 := Tryd.underlying62
    have h2 := Tryd.underlying9
    have h3 := Tryd.underlying5
    simp [convert, h1, h2, h3, go_sem]
    simp [Conv.bytesToString, go_sem]
    rfl
  · exact textOfOwned h
/-- a quiet call in a region behind a quiet region -/
theorem quiet_again {P : Program} {f : FuncId} {args : Array Value} {w : World} {v : Value} {a : Nat} (h : ∀ W, Calls P f args W fun e w' => e = .returned v ∧ w' = W) (b : Nat) : Calls P f args (w.drewN (a + b)) fun e w'' => e = .returned v ∧ ∃ n, w'' = w.drewN (a + n) := (h _).mono fun _ _ h => ⟨h.1, b, h.2⟩
theorem u8_back (c : UInt8) : ((c.toNat : Int)).toNat.toUInt8 = c := by
  have h : ((c.toNat : Int)).toNat = c.toNat := by omega
  rw [h]; simp
theorem bytes_snoc (l : List UInt8) (c : UInt8) : l.map byteV ++ [.int .u8 (c.toNat : Int)] = (l ++ [c]).map byteV := by simp [byteV]
/-- a cell was read from k0 on: where the reader stands, what it means -/
def CellPost (w : World) (g : Nat) (s : ByteArray) (k0 : Nat) (e : Ending) (w' : World) : Prop :=
  ∃ (code k' : Nat) (cell : List UInt8), e = .returned (.tuple #[.string (ofL cell), .int .i64 (code : Int)]) ∧ Rdr w' g s k' ∧ Mostly g w w' ∧ k0 ≤ k' ∧ k' ≤ s.size ∧ cell.length ≤ k' - k0 ∧
    ((code = 0 ∧ (∀ h : k' < s.size, s[k'] = 9 ∨ s[k'] = 10) ∧ ∀ cells rows, cells.length ≠ 100 → tsvG ((bs s).drop k0) k0 k0 [] cells rows = tsvG ((bs s).drop k') k' k0 cell cells rows) ∨
     (code = 7 ∧ ∀ cells rows, cells.length ≠ 100 → tsvG ((bs s).drop k0) k0 k0 [] cells rows = (rows, k', 7)))

set_option maxRecDepth 20000 in
set_option maxHeartbeats 4000000 in
theorem tsvCell_any (g : Nat) (s : ByteArray) (k0 : Nat) (w : World) (h : Rdr w g s k0) (hk0 : k0 ≤ s.size) (hs : s.size ≤ 4000) :
    Calls Tryd.prog 73 #[.pointer (some ⟨g, 0, none⟩)] w (CellPost w g s k0) := by
  obtain ⟨ib, hib, hbz0, hbz1, hbz2⟩ := info_parts infoByte
  have HR0 := Lib.hid h
  have hg := h.lt
  clear h
  go_enter Tryd.func73, Tryd.ntmps73
  go_wp2
  go_loopw [4] (fun cv wr => ∃ (k : Nat) (cell : List UInt8), Rdr wr g s k ∧ Mostly g w wr ∧ k0 ≤ k ∧ k ≤ s.size ∧ cell.length ≤ k - k0 ∧ wr.ownsRow w.heap.size 5 1 cv cell.length (cell.map byteV) ∧ ∀ cells rows, cells.length ≠ 100 → tsvG ((bs s).drop k0) k0 k0 [] cells rows = tsvG ((bs s).drop k) k k0 cell cells rows) (fun _ wr => s.size - (intOf ((wr.cell? ⟨g, 1, none⟩).getD undef)).toNat)
  case atStart => exact ⟨k0, [], HR0.out, .refl _ _, Nat.le_refl _, hk0, Nat.zero_le _, ownsRow_none _ _ _, fun _ _ _ => rfl⟩
  case round =>
    obtain ⟨k, cell, hr, hm, hk0k, hks, hcl, hown, hG⟩ := hrel
    have HR := Lib.hid hr
    have HM := Lib.hid hm
    have HOWN := Lib.hid hown
    have HG := Lib.hid hG
    have hc0 := hr.text
    have hc1 := hr.place
    have hf1 := hr.free
    have hgw := hr.lt
    have hws := hm.size
    clear hr hm hG
    obtain ⟨q, hq⟩ : ∃ q, cell.length = q := ⟨_, rfl⟩
    rw [hq] at hown HOWN hcl
    have HQ := Lib.hid hq
    clear hq hown
    have HI0 := Lib.hid (Below.refl wr.heap.size wr)
    by_cases hlt : k < s.size
    · have hltI : (k : Int) < s.size := by omega
      have HD := Lib.hid (bs_drop s k hlt)
      have HNF : Hid (∀ cells : List (List UInt8), cells.length ≠ 100 → ¬ (k = k0 ∧ cells.length = 100)) := Lib.hid (fun cells h1 h2 => h1 h2.2)
      by_cases hend : (s[k].toNat : Int) = 9 ∨ (s[k].toNat : Int) = 10
      · have HE : Hid (s[k] = 9 ∨ s[k] = 10) := Lib.hid (by
          rcases hend with h | h
          · exact .inl (u8_eq h)
          · exact .inr (u8_eq h))
        have hb : ((s[k].toNat : Int) != 9) = false ∨ (((s[k].toNat : Int) != 9) = true ∧ ((s[k].toNat : Int) != 10) = false) := by
          rcases hend with h | h
          · left; simpa using h
          · right; rw [h]; exact ⟨rfl, rfl⟩
        clear hend
        rcases hb with e9 | ⟨e9, e10⟩
        all_goals
          go_wp2
          go_quiet (fail)
          go_wp2_with fail
          rw [textOfOwn (ownsRow_below HOWN.out (Go.below_drewN (Below.refl _ _) _))]
          go_wp2
          refine bodyPost_ret (v := .tuple #[.string (ofL cell), .int .i64 0]) (by simp [results, Tryd.results73, go_sem, *]) rfl ?_
          exact ⟨0, k, cell, rfl, HR.out.below (Go.below_drewN (Below.refl _ _) _), HM.out.call (Go.below_drewN (Below.refl _ _) _), hk0k, hks, by rw [HQ.out]; exact hcl, .inl ⟨rfl, fun _ => HE.out, HG.out⟩⟩
      · have e9 : ((s[k].toNat : Int) != 9) = true := by
          rw [bne_iff_ne]; exact fun h => hend (.inl h)
        have e10 : ((s[k].toNat : Int) != 10) = true := by
          rw [bne_iff_ne]; exact fun h => hend (.inr h)
        have HN9 : Hid (s[k] ≠ 9) := Lib.hid (fun e => hend (.inl (by rw [e]; rfl)))
        have HN10 : Hid (s[k] ≠ 10) := Lib.hid (fun e => hend (.inr (by rw [e]; rfl)))
        have hu8 := u8_lt s[k]
        clear hend
        by_cases h92 : (s[k].toNat : Int) = 92
        · have HC92 : Hid (s[k] = 92) := Lib.hid (u8_eq h92)
          have e92 : ((s[k].toNat : Int) == 92) = true := by rw [h92]; rfl
          have hs92 : (s[k].toNat : Int) = 92 := h92
          clear h92 e9 e10 hu8
          have e9 : ((92 : Int) != 9) = true := rfl
          by_cases hk1 : k + 1 < s.size
          · have hk1I : (k : Int) + 1 < s.size := by omega
            have HD2 := Lib.hid (bs_drop s (k + 1) hk1)
            have hx := idx_esc s[k + 1]
            have HIX := Lib.hid (fun W => Tryd.strings_IndexByte ⟨#[116, 110, 114, 92]⟩ (s[k + 1].toNat : Int) W)
            rw [u8_back] at HIX
            obtain ⟨v, hv⟩ : ∃ v, Lib.indexByte (ByteArray.mk #[116, 110, 114, 92]).data.toList s[k + 1] = v := ⟨_, rfl⟩
            rw [hv] at HIX hx
            clear hv
            have H1 : Hid (∀ n, Rdr ((wr.drewN n).setCell ⟨g, 1, none⟩ (.int .i64 ((k : Int) + 1))) g s (k + 1) ∧ Mostly g w ((wr.drewN n).setCell ⟨g, 1, none⟩ (.int .i64 ((k : Int) + 1))) ∧ ((wr.drewN n).setCell ⟨g, 1, none⟩ (.int .i64 ((k : Int) + 1))).ownsRow w.heap.size 5 1 u4 q (cell.map byteV) ∧ w.heap.size ≤ ((wr.drewN n).setCell ⟨g, 1, none⟩ (.int .i64 ((k : Int) + 1))).heap.size) := Lib.hid (fun n =>
              ⟨(HR.out.below (Go.below_drewN (Below.refl _ _) n)).set _ _ (by go_num), (HM.out.call (Go.below_drewN (Below.refl _ _) n)).setCell _ _, Mostly.ownsRow (.set _ _ _ _) (ownsRow_below HOWN.out (Go.below_drewN (Below.refl _ _) n)) (fun e => by have := (HOWN.out.lt g e).1; omega), by simp [World.setCell]; omega⟩)
            rcases hx with ⟨rfl, he⟩ | ⟨rfl, he⟩ | ⟨rfl, he⟩ | ⟨rfl, he⟩ | ⟨rfl, he⟩
            · have HE : Hid (∀ cells rows, cells.length ≠ 100 → tsvG ((bs s).drop k0) k0 k0 [] cells rows = (rows, k, 7)) := Lib.hid (fun cells rows hc => by rw [HG.out cells rows hc, HD.out, HD2.out, HC92.out, tsvG_bad (HNF.out cells hc) he])
              clear he
              go_wp2
              go_quiet (fail)
              go_wp2
              go_quiet (fail)
              go_wp2
              go_quiet (fail)
              go_wp2
              have x1 : IntKind.i64.wrap ((k : Int) + 1) = (k : Int) + 1 := IntWalk.i64_in _ (by omega)
              have x2 : ((k : Int) + 1).toNat = k + 1 := by omega
              have x3 : (0 : Int) ≤ (k : Int) + 1 := by omega
              go_quiet ((go_at_call 72; exact quiet_again HIX.out _))
              clear x1
              go_wp2
              refine bodyPost_ret (v := .tuple #[.string ⟨#[]⟩, .int .i64 7]) (by simp [results, Tryd.results73, go_sem, *]) rfl ?_
              exact ⟨7, k, [], rfl, HR.out.below (Go.below_drewN (Below.refl _ _) _), HM.out.call (Go.below_drewN (Below.refl _ _) _), hk0k, hks, Nat.zero_le _, .inr ⟨rfl, HE.out⟩⟩
            · -- 9
              have HE := Lib.hid he
              clear he
              go_wp2
              go_quiet (fail)
              go_wp2
              go_quiet (fail)
              go_wp2
              go_quiet (fail)
              go_wp2
              have x1 : IntKind.i64.wrap ((k : Int) + 1) = (k : Int) + 1 := IntWalk.i64_in _ (by omega)
              have x2 : ((k : Int) + 1).toNat = k + 1 := by omega
              have x3 : (0 : Int) ≤ (k : Int) + 1 := by omega
              go_quiet ((go_at_call 72; exact quiet_again HIX.out _))
              clear x1
              go_wp2_with (at_builtin; refine wpList_append_own _ rfl _ _ 62 rfl w.heap.size 5 ib (.int .u8 0) 1 1 Tryd.underlying62 hib hbz0 hbz1 hbz2 rfl (by decide) _ _ _ rfl (ownsRow_below (H1.out _).2.2.1 ((Below.refl _ _).alloc (Nat.le_refl _) _)) ⟨_, 0, none⟩ 1 1 [.int .u8 9] rfl rfl (one_news _ _ _ _ (by simp [World.setCell])) (fun u hu => by simp at hu; subst hu; rfl) (by unfold maxLen; omega) (by omega) (by have := (H1.out 0).2.2.2; simp [World.setCell] at this ⊢; omega) ?_; intro v2 w2 hown2 hgr2 hnil2; clear hnil2; have hne2 := Lib.hid (fun x (hx : u4.ownBlock = some x) => (HOWN.out.lt x hx).1); have hR2 := Rdr.grown (g := g) (s := s) (k := k + 1) ((H1.out _).1.below ((Below.refl _ _).alloc (Nat.le_refl _) _)) hgr2 (fun e => by have := hne2.out g e.symm; omega); have hM2 := Lib.hid (Mostly.grown ((H1.out _).2.1.call ((Below.refl _ _).alloc (Nat.le_refl _) _)) hgr2 hne2.out); have HR2 := Lib.hid hR2; have c0 := hR2.text; have c1 := hR2.place; have f1 := hR2.free; rw [show (.int .u8 9 : Value) = .int .u8 ((9 : UInt8).toNat : Int) from rfl, bytes_snoc] at hown2; have HO2 := Lib.hid hown2; clear hR2 hown2 hgr2)
              refine ⟨⟨k + 2, cell ++ [(9 : UInt8)], HR2.out.set _ _ (by go_num), hM2.out.setCell _ _, by omega, by omega, by rw [List.length_append, HQ.out]; simp; omega, ?_, fun cells rows hc => ?_⟩, ?_⟩
              · rw [List.length_append, HQ.out]
                exact Mostly.ownsRow (.set _ _ _ _) HO2.out (fun e => by have := (HO2.out.lt g e).1; omega)
              · rw [HG.out cells rows hc, HD.out, HD2.out, HC92.out, tsvG_esc (HNF.out cells hc) (by rw [HE.out]; decide), HE.out]
              · rw [(HR2.out.set (.int .i64 ((k : Int) + 1 + 1)) (k + 2) (by go_num)).place, hc1]; simp [intOf]; omega
            · -- 10
              have HE := Lib.hid he
              clear he
              go_wp2
              go_quiet (fail)
              go_wp2
              go_quiet (fail)
              go_wp2
              go_quiet (fail)
              go_wp2
              have x1 : IntKind.i64.wrap ((k : Int) + 1) = (k : Int) + 1 := IntWalk.i64_in _ (by omega)
              have x2 : ((k : Int) + 1).toNat = k + 1 := by omega
              have x3 : (0 : Int) ≤ (k : Int) + 1 := by omega
              go_quiet ((go_at_call 72; exact quiet_again HIX.out _))
              clear x1
              go_wp2_with (at_builtin; refine wpList_append_own _ rfl _ _ 62 rfl w.heap.size 5 ib (.int .u8 0) 1 1 Tryd.underlying62 hib hbz0 hbz1 hbz2 rfl (by decide) _ _ _ rfl (ownsRow_below (H1.out _).2.2.1 ((Below.refl _ _).alloc (Nat.le_refl _) _)) ⟨_, 0, none⟩ 1 1 [.int .u8 10] rfl rfl (one_news _ _ _ _ (by simp [World.setCell])) (fun u hu => by simp at hu; subst hu; rfl) (by unfold maxLen; omega) (by omega) (by have := (H1.out 0).2.2.2; simp [World.setCell] at this ⊢; omega) ?_; intro v2 w2 hown2 hgr2 hnil2; clear hnil2; have hne2 := Lib.hid (fun x (hx : u4.ownBlock = some x) => (HOWN.out.lt x hx).1); have hR2 := Rdr.grown (g := g) (s := s) (k := k + 1) ((H1.out _).1.below ((Below.refl _ _).alloc (Nat.le_refl _) _)) hgr2 (fun e => by have := hne2.out g e.symm; omega); have hM2 := Lib.hid (Mostly.grown ((H1.out _).2.1.call ((Below.refl _ _).alloc (Nat.le_refl _) _)) hgr2 hne2.out); have HR2 := Lib.hid hR2; have c0 := hR2.text; have c1 := hR2.place; have f1 := hR2.free; rw [show (.int .u8 10 : Value) = .int .u8 ((10 : UInt8).toNat : Int) from rfl, bytes_snoc] at hown2; have HO2 := Lib.hid hown2; clear hR2 hown2 hgr2)
              refine ⟨⟨k + 2, cell ++ [(10 : UInt8)], HR2.out.set _ _ (by go_num), hM2.out.setCell _ _, by omega, by omega, by rw [List.length_append, HQ.out]; simp; omega, ?_, fun cells rows hc => ?_⟩, ?_⟩
              · rw [List.length_append, HQ.out]
                exact Mostly.ownsRow (.set _ _ _ _) HO2.out (fun e => by have := (HO2.out.lt g e).1; omega)
              · rw [HG.out cells rows hc, HD.out, HD2.out, HC92.out, tsvG_esc (HNF.out cells hc) (by rw [HE.out]; decide), HE.out]
              · rw [(HR2.out.set (.int .i64 ((k : Int) + 1 + 1)) (k + 2) (by go_num)).place, hc1]; simp [intOf]; omega
            · -- 13
              have HE := Lib.hid he
              clear he
              go_wp2
              go_quiet (fail)
              go_wp2
              go_quiet (fail)
              go_wp2
              go_quiet (fail)
              go_wp2
              have x1 : IntKind.i64.wrap ((k : Int) + 1) = (k : Int) + 1 := IntWalk.i64_in _ (by omega)
              have x2 : ((k : Int) + 1).toNat = k + 1 := by omega
              have x3 : (0 : Int) ≤ (k : Int) + 1 := by omega
              go_quiet ((go_at_call 72; exact quiet_again HIX.out _))
              clear x1
              go_wp2_with (at_builtin; refine wpList_append_own _ rfl _ _ 62 rfl w.heap.size 5 ib (.int .u8 0) 1 1 Tryd.underlying62 hib hbz0 hbz1 hbz2 rfl (by decide) _ _ _ rfl (ownsRow_below (H1.out _).2.2.1 ((Below.refl _ _).alloc (Nat.le_refl _) _)) ⟨_, 0, none⟩ 1 1 [.int .u8 13] rfl rfl (one_news _ _ _ _ (by simp [World.setCell])) (fun u hu => by simp at hu; subst hu; rfl) (by unfold maxLen; omega) (by omega) (by have := (H1.out 0).2.2.2; simp [World.setCell] at this ⊢; omega) ?_; intro v2 w2 hown2 hgr2 hnil2; clear hnil2; have hne2 := Lib.hid (fun x (hx : u4.ownBlock = some x) => (HOWN.out.lt x hx).1); have hR2 := Rdr.grown (g := g) (s := s) (k := k + 1) ((H1.out _).1.below ((Below.refl _ _).alloc (Nat.le_refl _) _)) hgr2 (fun e => by have := hne2.out g e.symm; omega); have hM2 := Lib.hid (Mostly.grown ((H1.out _).2.1.call ((Below.refl _ _).alloc (Nat.le_refl _) _)) hgr2 hne2.out); have HR2 := Lib.hid hR2; have c0 := hR2.text; have c1 := hR2.place; have f1 := hR2.free; rw [show (.int .u8 13 : Value) = .int .u8 ((13 : UInt8).toNat : Int) from rfl, bytes_snoc] at hown2; have HO2 := Lib.hid hown2; clear hR2 hown2 hgr2)
              refine ⟨⟨k + 2, cell ++ [(13 : UInt8)], HR2.out.set _ _ (by go_num), hM2.out.setCell _ _, by omega, by omega, by rw [List.length_append, HQ.out]; simp; omega, ?_, fun cells rows hc => ?_⟩, ?_⟩
              · rw [List.length_append, HQ.out]
                exact Mostly.ownsRow (.set _ _ _ _) HO2.out (fun e => by have := (HO2.out.lt g e).1; omega)
              · rw [HG.out cells rows hc, HD.out, HD2.out, HC92.out, tsvG_esc (HNF.out cells hc) (by rw [HE.out]; decide), HE.out]
              · rw [(HR2.out.set (.int .i64 ((k : Int) + 1 + 1)) (k + 2) (by go_num)).place, hc1]; simp [intOf]; omega
            · -- 92
              have HE := Lib.hid he
              clear he
              go_wp2
              go_quiet (fail)
              go_wp2
              go_quiet (fail)
              go_wp2
              go_quiet (fail)
              go_wp2
              have x1 : IntKind.i64.wrap ((k : Int) + 1) = (k : Int) + 1 := IntWalk.i64_in _ (by omega)
              have x2 : ((k : Int) + 1).toNat = k + 1 := by omega
              have x3 : (0 : Int) ≤ (k : Int) + 1 := by omega
              go_quiet ((go_at_call 72; exact quiet_again HIX.out _))
              clear x1
              go_wp2_with (at_builtin; refine wpList_append_own _ rfl _ _ 62 rfl w.heap.size 5 ib (.int .u8 0) 1 1 Tryd.underlying62 hib hbz0 hbz1 hbz2 rfl (by decide) _ _ _ rfl (ownsRow_below (H1.out _).2.2.1 ((Below.refl _ _).alloc (Nat.le_refl _) _)) ⟨_, 0, none⟩ 1 1 [.int .u8 92] rfl rfl (one_news _ _ _ _ (by simp [World.setCell])) (fun u hu => by simp at hu; subst hu; rfl) (by unfold maxLen; omega) (by omega) (by have := (H1.out 0).2.2.2; simp [World.setCell] at this ⊢; omega) ?_; intro v2 w2 hown2 hgr2 hnil2; clear hnil2; have hne2 := Lib.hid (fun x (hx : u4.ownBlock = some x) => (HOWN.out.lt x hx).1); have hR2 := Rdr.grown (g := g) (s := s) (k := k + 1) ((H1.out _).1.below ((Below.refl _ _).alloc (Nat.le_refl _) _)) hgr2 (fun e => by have := hne2.out g e.symm; omega); have hM2 := Lib.hid (Mostly.grown ((H1.out _).2.1.call ((Below.refl _ _).alloc (Nat.le_refl _) _)) hgr2 hne2.out); have HR2 := Lib.hid hR2; have c0 := hR2.text; have c1 := hR2.place; have f1 := hR2.free; rw [show (.int .u8 92 : Value) = .int .u8 ((92 : UInt8).toNat : Int) from rfl, bytes_snoc] at hown2; have HO2 := Lib.hid hown2; clear hR2 hown2 hgr2)
              refine ⟨⟨k + 2, cell ++ [(92 : UInt8)], HR2.out.set _ _ (by go_num), hM2.out.setCell _ _, by omega, by omega, by rw [List.length_append, HQ.out]; simp; omega, ?_, fun cells rows hc => ?_⟩, ?_⟩
              · rw [List.length_append, HQ.out]
                exact Mostly.ownsRow (.set _ _ _ _) HO2.out (fun e => by have := (HO2.out.lt g e).1; omega)
              · rw [HG.out cells rows hc, HD.out, HD2.out, HC92.out, tsvG_esc (HNF.out cells hc) (by rw [HE.out]; decide), HE.out]
              · rw [(HR2.out.set (.int .i64 ((k : Int) + 1 + 1)) (k + 2) (by go_num)).place, hc1]; simp [intOf]; omega
          · have hk1I : ¬ (k : Int) + 1 < s.size := by omega
            have HE : Hid (∀ cells rows, cells.length ≠ 100 → tsvG ((bs s).drop k0) k0 k0 [] cells rows = (rows, k, 7)) := Lib.hid (fun cells rows hc => by rw [HG.out cells rows hc, HD.out, HC92.out, drop_end s (k + 1) (by omega), tsvG_badend (HNF.out cells hc)])
            go_wp2
            go_quiet (fail)
            go_wp2
            go_quiet (fail)
            go_wp2
            go_quiet (fail)
            go_wp2
            refine bodyPost_ret (v := .tuple #[.string ⟨#[]⟩, .int .i64 7]) (by simp [results, Tryd.results73, go_sem, *]) rfl ?_
            exact ⟨7, k, [], rfl, HR.out.below (Go.below_drewN (Below.refl _ _) _), HM.out.call (Go.below_drewN (Below.refl _ _) _), hk0k, hks, Nat.zero_le _, .inr ⟨rfl, HE.out⟩⟩
        · have HN92 : Hid (s[k] ≠ 92) := Lib.hid (fun e => h92 (by rw [e]; rfl))
          have e92 : ((s[k].toNat : Int) == 92) = false := by simpa using h92
          clear h92
          go_wp2
          go_quiet (fail)
          go_wp2
          go_quiet (fail)
          go_wp2_with (at_builtin; refine wpList_append_own _ rfl _ _ 62 rfl w.heap.size 5 ib (.int .u8 0) 1 1 Tryd.underlying62 hib hbz0 hbz1 hbz2 rfl (by decide) _ _ _ rfl (ownsRow_below HOWN.out (by (repeat (first | exact Below.refl _ _ | assumption | refine Below.drew ?_ | refine Go.below_drewN ?_ _ | (refine Below.alloc ?_ (by first | exact Nat.le_refl _ | (simp; done) | (simp; omega) | (simp at *; omega)) _) | (refine Below.setCell ?_ (by first | exact Nat.le_refl _ | (simp; done) | (simp; omega)) _) | (refine Below.trans ?_ (Below.mono (by assumption) (by first | exact Nat.le_refl _ | (simp; done) | (simp; omega) | (simp at *; omega)))))))) ⟨_, 0, none⟩ 1 1 [.int .u8 (s[k].toNat : Int)] rfl rfl (one_news _ _ _ _ rfl) (fun u hu => by simp at hu; subst hu; rfl) (by unfold maxLen; omega) (by omega) (Nat.le_trans hws (Below.size (by (repeat (first | exact Below.refl _ _ | assumption | refine Below.drew ?_ | refine Go.below_drewN ?_ _ | (refine Below.alloc ?_ (by first | exact Nat.le_refl _ | (simp; done) | (simp; omega) | (simp at *; omega)) _) | (refine Below.setCell ?_ (by first | exact Nat.le_refl _ | (simp; done) | (simp; omega)) _) | (refine Below.trans ?_ (Below.mono (by assumption) (by first | exact Nat.le_refl _ | (simp; done) | (simp; omega) | (simp at *; omega))))))))) ?_; intro v2 w2 hown2 hgr2 hnil2; clear hnil2; have hne2 := Lib.hid (fun x (hx : u4.ownBlock = some x) => (HOWN.out.lt x hx).1); have hR2 := Rdr.grown (g := g) (s := s) (k := k) (HR.out.below (by (repeat (first | exact Below.refl _ _ | assumption | refine Below.drew ?_ | refine Go.below_drewN ?_ _ | (refine Below.alloc ?_ (by first | exact Nat.le_refl _ | (simp; done) | (simp; omega) | (simp at *; omega)) _) | (refine Below.setCell ?_ (by first | exact Nat.le_refl _ | (simp; done) | (simp; omega)) _) | (refine Below.trans ?_ (Below.mono (by assumption) (by first | exact Nat.le_refl _ | (simp; done) | (simp; omega) | (simp at *; omega)))))))) hgr2 (fun e => by have := hne2.out g e.symm; omega); have hM2 := Lib.hid (Mostly.grown (HM.out.call (by (repeat (first | exact Below.refl _ _ | assumption | refine Below.drew ?_ | refine Go.below_drewN ?_ _ | (refine Below.alloc ?_ (by first | exact Nat.le_refl _ | (simp; done) | (simp; omega) | (simp at *; omega)) _) | (refine Below.setCell ?_ (by first | exact Nat.le_refl _ | (simp; done) | (simp; omega)) _) | (refine Below.trans ?_ (Below.mono (by assumption) (by first | exact Nat.le_refl _ | (simp; done) | (simp; omega) | (simp at *; omega)))))))) hgr2 hne2.out); have HR2 := Lib.hid hR2; have c0 := hR2.text; have c1 := hR2.place; have f1 := hR2.free; rw [bytes_snoc] at hown2; have HO2 := Lib.hid hown2; clear hR2 hown2 hgr2)
          refine ⟨⟨k + 1, cell ++ [s[k]], HR2.out.set _ _ (by go_num), hM2.out.setCell _ _, by omega, by omega, by rw [List.length_append, HQ.out]; simp; omega, ?_, fun cells rows hc => ?_⟩, ?_⟩
          · rw [List.length_append, HQ.out]
            exact Mostly.ownsRow (.set _ _ _ _) HO2.out (fun e => by have := (HO2.out.lt g e).1; omega)
          · rw [HG.out cells rows hc, HD.out, tsvG_chr (HNF.out cells hc) HN9.out HN10.out HN92.out]
          · rw [(HR2.out.set (.int .i64 ((k : Int) + 1)) (k + 1) (by go_num)).place, hc1]; simp [intOf]; omega
    · have hltI : ¬ (k : Int) < s.size := by omega
      have HE : Hid (k = s.size) := Lib.hid (by omega)
      go_wp2
      go_quiet (fail)
      go_wp2_with fail
      rw [textOfOwn (ownsRow_below HOWN.out (Go.below_drewN (Below.refl _ _) _))]
      go_wp2
      refine bodyPost_ret (v := .tuple #[.string (ofL cell), .int .i64 0]) (by simp [results, Tryd.results73, go_sem, *]) rfl ?_
      exact ⟨0, k, cell, rfl, HR.out.below (Go.below_drewN (Below.refl _ _) _), HM.out.call (Go.below_drewN (Below.refl _ _) _), hk0k, hks, by rw [HQ.out]; exact hcl, .inl ⟨rfl, fun h => absurd h (by have := HE.out; omega), HG.out⟩⟩
end Go.Proofs.YthpdmipgnoidpaaDoor
