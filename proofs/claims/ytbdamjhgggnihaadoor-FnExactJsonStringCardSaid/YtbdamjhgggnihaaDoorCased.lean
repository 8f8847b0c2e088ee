/-
  The contracts of l01Text (code points' bytes), l01Cased and shifted (letters that are turned, code point by code point or byte by byte). Conditions: the string is no longer than 2 to the 40; the tables of unicode utf8 stand in memory.
-/
import Derived.Test.YtbdamjhgggnihaaDoorCodes
import Derived.Test.YtbdamjhgggnihaaDoorBytes
import Derived.Test.YtbdamjhgggnihaaDoorFill
import Derived.Test.YtbdamjhgggnihaaDoorTextOk
import Derived.Laws.OwnMore
import Derived.Lib.BufferRead
import Derived.Lib.ConvBytes
namespace Go.Proofs.YtbdamjhgggnihaaDoor
open Go.RowKit
open Go.Lib hiding intOf
set_option linter.unusedVariables false
set_option linter.unusedSimpArgs false

/-- the text of an owned row of bytes, an empty one too -/
theorem textOfAny {w : World} {b : Nat} {v : Value} {n : Nat} {l : List UInt8} (h : w.ownsRow b 5 1 v n (l.map byteV)) :
    (convert 43 9 v).run Tryd.prog w = .ok (.string (ofL l)) w := by
  rcases h.2 with ⟨rfl, h0⟩ | ⟨g, cap, cur, rfl, _⟩
  · have h1 : l.length = 0 := by have := h.1; simp at this; omega
    obtain rfl : l = [] := List.eq_nil_of_length_eq_zero h1
    exact Lib.run_convert_nil_bytes w _ _ _ 0 Tryd.underlying43 Tryd.underlying5 Tryd.underlying9
  · exact textOfOwned h
theorem pt_cells (c : Nat) : (ptBytes c).map byteV = runeCells (c : Int) := byteCells_encodeRune (c : Int)
theorem enc_take_succ {r : List Nat} {j : Nat} (h : j < r.length) : enc (r.take (j + 1)) = enc (r.take j) ++ ptBytes r[j] := by
  rw [List.take_succ_eq_append_getElem h, enc_snoc]

set_option maxHeartbeats 1000000 in
theorem l01Text_any (B : Nat) (v : Value) (n : Nat) (r : List Nat) (w : World) (h : w.ownsRow B 3 1 v n (r.map intV)) (hpt : ∀ c ∈ r, isPt (c : Int) = true) (hn : n ≤ 1048576) :
    Calls Tryd.prog 44 #[v] w fun e w' => e = .returned (.string (ofL (enc r))) ∧ Below w.heap.size w w' := by
  obtain ⟨i0, hi, hz0, hz1, hz2⟩ := info_parts infoByte
  obtain ⟨a, cap, rfl⟩ := ownsRow_slice h
  have hrl : r.length = n := by simpa using h.1
  have HO := Lib.hid h
  have HPT := Lib.hid hpt
  have HRL := Lib.hid hrl
  clear h hpt hrl
  go_enter Tryd.func44, Tryd.ntmps44
  go_wp2
  go_loopw [3, 4] (fun v i wr => ∃ (j : Nat), j ≤ n ∧ i = .int .i64 j ∧ wr.ownsRow w.heap.size 5 1 v (enc (r.take j)).length ((enc (r.take j)).map byteV) ∧ Below w.heap.size w wr ∧ w.heap.size < wr.heap.size) (fun _ i _ => n - (intOf i).toNat)
  case atStart => exact ⟨0, Nat.zero_le _, rfl, ownsRow_empty _ _ _ (Nat.le_refl _), (Below.refl _ _).alloc (Nat.le_refl _) _, by simp⟩
  case round =>
    obtain ⟨j, hj, rfl, hown, hb, hsz⟩ := hrel
    have HB := Lib.hid hb
    have HOW := Lib.hid hown
    have HR := Lib.hid (ownsRow_below HO.out hb)
    clear hb hown
    by_cases hlt : j < n
    · have hjr : j < r.length := by rw [HRL.out]; exact hlt
      obtain ⟨g, cap', hv, hg, hg2⟩ := ownsRow_some HR.out (by omega)
      simp only [Value.slice.injEq, true_and] at hv
      obtain ⟨rfl, rfl⟩ := hv
      have hc := HR.out.cellAt j (by omega)
      rw [List.getElem?_map, List.getElem?_eq_getElem hjr] at hc
      have hpc := HPT.out _ (List.getElem_mem hjr)
      have hsuc := enc_take_succ hjr
      obtain ⟨c, hcc⟩ : ∃ c, r[j] = c := ⟨_, rfl⟩
      rw [hcc] at hc hpc hsuc
      have HPC := Lib.hid hpc
      have HSUC := Lib.hid hsuc
      have hl := (enc_length (r.take j)).2
      rw [List.length_take] at hl
      have hp4 := ptBytes_pos c
      have hpl : (runeCells (c : Int)).length = (ptBytes c).length := by rw [← pt_cells, List.length_map]
      obtain ⟨m, hm⟩ : ∃ m, (ptBytes c).length = m := ⟨_, rfl⟩
      rw [hm] at hp4 hpl
      have HM := Lib.hid hm
      clear hpc hsuc hcc hm
      go_wp2_with fail
      refine (l01Bytes_any (c : Int) HPC.out _).mono ?_
      rintro e w1 ⟨rfl, rfl⟩
      rw [hpl]
      have hnew : (wr.alloc (.cells (runeCells (c : Int)).toArray 5)).ownsRow w.heap.size 5 1 (.slice (some ⟨wr.heap.size, 0, none⟩) m m) m ((ptBytes c).map byteV) := by
        have h := World.ownsRow_lit (base := w.heap.size) (e := 5) (size := 1) wr (runeCells (c : Int)).toArray m HB.out.size (by unfold maxLen; omega) (by simp [hpl])
        rw [pt_cells]
        simpa using h
      have HNEW := Lib.hid (ownsRow_news hnew)
      clear hnew
      go_wp2_with (at_builtin; refine wpList_append_own _ rfl _ _ 43 rfl w.heap.size 5 i0 (.int .u8 0) 1 1 Tryd.underlying43 hi hz0 hz1 hz2 rfl (by decide) _ _ _ rfl (HOW.out.alloc _) ⟨wr.heap.size, 0, none⟩ m m ((ptBytes c).map byteV) rfl (by simp [HM.out]) HNEW.out byteV_one (by unfold maxLen; omega) (by omega) (by simp; omega) ?_; intro v2 w2 hown2 hgr2 hnil2)
      have hbz : Below w.heap.size w w2 := Below.grown (HB.out.alloc HB.out.size _) hgr2 (by simp; omega) (ownBlock_lo HOW.out)
      have hsz2 : w.heap.size < w2.heap.size := by have := hgr2.size; simp at this; omega
      refine ⟨⟨j + 1, by omega, by go_num, ?_, hbz, hsz2⟩, by simp [intOf]; omega⟩
      rw [HSUC.out, List.length_append, List.map_append, HM.out]
      exact hown2
    · obtain rfl : j = n := by omega
      have hall : r.take j = r := List.take_of_length_le (by rw [HRL.out]; exact Nat.le_refl _)
      rw [hall] at HOW
      have hconv := textOfAny HOW.out
      go_wp2
      go_ret
      exact ⟨rfl, HB.out⟩

/-- letters of a text turned; nothing of what is no text -/
def casedL (lo b : Int) (l : List UInt8) : List UInt8 := if okT l = true then l.map (shB lo b) else []
/-- the first j turned, the others not -/
def mixL {α : Type} (f : α → α) (r : List α) (j : Nat) : List α := (r.take j).map f ++ r.drop j
theorem mixL_zero {α : Type} (f : α → α) (r : List α) : mixL f r 0 = r := by simp [mixL]
theorem mixL_all {α : Type} (f : α → α) (r : List α) : mixL f r r.length = r.map f := by simp [mixL]
theorem mixL_get {α : Type} (f : α → α) (r : List α) (j : Nat) (h : j < r.length) : (mixL f r j)[j]? = some r[j] := by
  unfold mixL
  rw [List.getElem?_append_right (by rw [List.length_map, List.length_take]; omega), List.length_map, List.length_take, Nat.min_eq_left (by omega), Nat.sub_self, List.getElem?_drop, Nat.add_zero, List.getElem?_eq_getElem h]
theorem mixL_cons {α : Type} (f : α → α) (r : List α) (j : Nat) (h : j < r.length) : mixL f r j = (r.take j).map f ++ r[j] :: r.drop (j + 1) := by
  unfold mixL; rw [List.drop_eq_getElem_cons h]
theorem mixL_succ {α : Type} (f : α → α) (r : List α) (j : Nat) (h : j < r.length) : mixL f r (j + 1) = (r.take j).map f ++ f r[j] :: r.drop (j + 1) := by
  unfold mixL; rw [List.take_succ_eq_append_getElem h, List.map_append, List.append_assoc]; rfl
theorem mixL_same {α : Type} (f : α → α) (r : List α) (j : Nat) (h : j < r.length) (e : f r[j] = r[j]) : mixL f r j = mixL f r (j + 1) := by
  rw [mixL_cons f r j h, mixL_succ f r j h, e]
theorem mixL_set {α β : Type} (g : α → β) (f : α → α) (r : List α) (j : Nat) (h : j < r.length) : ((mixL f r j).map g).set j (g (f r[j])) = (mixL f r (j + 1)).map g := by
  rw [mixL_cons f r j h, mixL_succ f r j h, List.map_append, List.map_append, List.map_cons, List.map_cons]
  rw [List.set_append_right _ _ (by rw [List.length_map, List.length_map, List.length_take]; omega)]
  simp [Nat.min_eq_left (Nat.le_of_lt h)]
theorem mixL_length {α : Type} (f : α → α) (r : List α) (j : Nat) (h : j ≤ r.length) : (mixL f r j).length = r.length := by
  unfold mixL; rw [List.length_append, List.length_map, List.length_take, List.length_drop]; omega

set_option maxRecDepth 10000 in
set_option maxHeartbeats 1000000 in
theorem l01Cased_any (lo b : Int) (h1 : 1 ≤ lo) (h2 : lo + 25 < 128) (h3 : 1 ≤ lo + b) (h4 : lo + 25 + b < 128) (s : ByteArray) (w : World) (hs : s.size ≤ 1099511627776) :
    Calls Tryd.prog 38 #[.string s, .int .i64 lo, .int .i64 b] w fun e w' => e = .returned (.string (ofL (casedL lo b (bs s)))) ∧ Below w.heap.size w w' := by
  have hsh := rl_short (bs s)
  obtain ⟨n, hn⟩ : ∃ n, (rl (bs s)).length = n := ⟨_, rfl⟩
  rw [hn] at hsh
  have HN := Lib.hid hn
  clear hn
  go_enter Tryd.func38, Tryd.ntmps38
  go_wp2_with fail
  refine (specRunes_any s _ hs).mono ?_
  rintro e w1 ⟨v0, rfl, hown0, hb1⟩
  obtain ⟨a0, c0, rfl⟩ := ownsRow_slice hown0
  rw [HN.out] at hown0 ⊢
  have HB1 := Lib.hid hb1
  have HO0 := Lib.hid hown0
  clear hb1 hown0
  cases hk : okT (bs s)
  · have e : casedL lo b (bs s) = [] := by unfold casedL; rw [hk]; rfl
    go_wp2
    go_ret
    rw [e]
    exact ⟨rfl, HB1.out⟩
  · obtain ⟨he, hpt, hl⟩ := okT_enc hk
    have e : casedL lo b (bs s) = enc ((rl (bs s)).map (shN lo b)) := by
      unfold casedL
      rw [if_pos hk]
      conv => lhs; rw [he]
      exact shB_enc h1 h2 h3 h4 _ hpt
    have hpt2 : ∀ c ∈ (rl (bs s)).map (shN lo b), isPt (c : Int) = true := by
      intro c hc
      obtain ⟨d, hd, rfl⟩ := List.mem_map.1 hc
      exact shN_pt h1 h2 h3 h4 (hpt d hd)
    generalize hr : rl (bs s) = r at *
    have HE := Lib.hid e
    have HPT := Lib.hid hpt
    have HPT2 := Lib.hid hpt2
    clear he hpt hl e hpt2 hr
    go_wp2
    go_loopw [9] (fun i wr => ∃ (j : Nat), j ≤ n ∧ i = .int .i64 j ∧ wr.ownsRow w.heap.size 3 1 (.slice a0 n c0) n ((mixL (shN lo b) r j).map intV) ∧ Below w.heap.size w wr) (fun i _ => n - (intOf i).toNat)
    case atStart => exact ⟨0, Nat.zero_le _, rfl, by rw [mixL_zero]; exact HO0.out, HB1.out⟩
    case round =>
      obtain ⟨j, hj, rfl, hown, hb⟩ := hrel
      have HB := Lib.hid hb
      have HOW := Lib.hid hown
      clear hown hb
      by_cases hlt : j < n
      · have hjr : j < r.length := by rw [HN.out]; exact hlt
        obtain ⟨g, cap', hv, hg, hg2⟩ := ownsRow_some HOW.out (by omega)
        simp only [Value.slice.injEq, true_and] at hv
        obtain ⟨rfl, rfl⟩ := hv
        have hc := HOW.out.cellAt j (by omega)
        have hf := HOW.out.frozenAt j
        rw [List.getElem?_map, mixL_get _ _ _ hjr] at hc
        have hset := mixL_set intV (shN lo b) r j hjr
        have hsame := mixL_same (shN lo b) r j hjr
        obtain ⟨c, hcc⟩ : ∃ c, r[j] = c := ⟨_, rfl⟩
        rw [hcc] at hc hset hsame
        have HSET := Lib.hid hset
        have HSAME := Lib.hid hsame
        have hc' : wr.cell? ⟨g, j, none⟩ = some (.int .i64 (c : Int)) := hc
        clear hset hsame hcc hc
        cases hbt : betw (c : Int) lo (lo + 25)
        · have hno : shN lo b c = c := by
            unfold shN; rw [if_neg]; intro h; simp [betw] at hbt; omega
          go_wp2_with (go_at_call 50; refine (l01Between_any _ _ _ _).mono ?_; rintro e w1 ⟨rfl, rfl⟩; rw [hbt])
          refine ⟨⟨j + 1, by omega, by go_num, ?_, HB.out⟩, by simp [intOf]; omega⟩
          rw [← HSAME.out hno]
          exact HOW.out
        · have hr1 : lo ≤ (c : Int) ∧ (c : Int) ≤ lo + 25 := by simpa [betw] using hbt
          have hyes : intV (shN lo b c) = .int .i64 ((c : Int) + b) := by
            unfold shN intV; rw [if_pos hr1]; congr 1; omega
          obtain ⟨hr2, hr3⟩ := hr1
          have HY := Lib.hid hyes
          clear hyes
          go_wp2_with (go_at_call 50; refine (l01Between_any _ _ _ _).mono ?_; rintro e w1 ⟨rfl, rfl⟩; rw [hbt])
          go_light
          refine ⟨⟨j + 1, by omega, by go_num, ?_, HB.out.setCell hg _⟩, by simp [intOf]; omega⟩
          rw [← HSET.out, HY.out]
          exact (HOW.out.stored j _).1
      · obtain rfl : j = n := by omega
        have hall : mixL (shN lo b) r j = r.map (shN lo b) := by rw [← HN.out]; exact mixL_all _ _
        rw [hall] at HOW
        go_wp2_with fail
        refine (l01Text_any w.heap.size _ j (r.map (shN lo b)) _ HOW.out HPT2.out (by omega)).mono ?_
        rintro e w2 ⟨rfl, hb2⟩
        go_wp2
        go_ret
        rw [HE.out]
        exact ⟨rfl, HB.out.trans (hb2.mono HB.out.size)⟩

set_option maxRecDepth 10000 in
set_option maxHeartbeats 1000000 in
theorem shifted_any (lo hi b : Int) (h1 : 1 ≤ lo) (hhi : hi = lo + 25) (h2 : hi < 128) (h3 : 1 ≤ lo + b) (h4 : hi + b < 128) (s : ByteArray) (w : World) (hs : s.size ≤ 1099511627776) :
    Calls Tryd.prog 40 #[.string s, .int .u8 lo, .int .u8 hi, .int .i64 b] w fun e w' => e = .returned (.string (ofL ((bs s).map (shB lo b)))) ∧ Below w.heap.size w w' := by
  have hconv := fun W => Lib.run_convert_string_bytes (P := Tryd.prog) W 9 43 5 s Tryd.underlying9 Tryd.underlying43 Tryd.underlying5
  have hF : Fill w (Lib.bytesWorld w 5 s) w.heap.size s.size (fun j => byteV ((bs s).getD j 0)) :=
    ⟨⟨rfl, rfl, rfl, by rw [Lib.bytesWorld_size]; omega, fun j hj => Lib.bytesWorld_at_old w _ s j hj⟩, Nat.le_refl _, by rw [Lib.bytesWorld_size]; omega, fun j hj => Lib.bytesWorld_cell w _ s j hj, fun j hj => by
      unfold World.frozen?
      rw [Lib.bytesWorld_at_new]
      have e : s.size ≤ (Lib.bytesCells w 5 s).size := by
        unfold Lib.bytesCells
        rw [Array.size_append, Array.size_map]
        exact Nat.le_add_right _ _
      have h0 : ¬ (Lib.bytesCells w 5 s).size ≤ j := by omega
      show (decide ((Lib.bytesCells w 5 s).size ≤ j) && _) = false
      rw [decide_eq_false h0]
      rfl⟩
  have HF := Lib.hid hF
  have HHI := Lib.hid hhi
  have hhi1 : hi ≤ lo + 25 := by omega
  have hhi2 : lo + 25 ≤ hi := by omega
  clear hF hhi
  generalize hwb : Lib.bytesWorld w 5 s = wb at *
  have hcv : (convert 9 43 (.string s)).run Tryd.prog w = .ok (.slice (some ⟨w.heap.size, 0, none⟩) s.size (grownCap w s.size 0 5)) wb := by rw [← hwb]; exact hconv w
  generalize grownCap w s.size 0 5 = cp at *
  clear hconv hwb
  go_enter Tryd.func40, Tryd.ntmps40
  go_wp2
  go_loopw [16] (fun i wr => ∃ j : Nat, j ≤ s.size ∧ i = .int .i64 j ∧ Fill w wr w.heap.size s.size (fun t => if t < j then byteV (shB lo b ((bs s).getD t 0)) else byteV ((bs s).getD t 0))) (fun i _ => s.size - (intOf i).toNat)
  case atStart => exact ⟨0, Nat.zero_le _, rfl, by simpa using HF.out⟩
  case round =>
    obtain ⟨j, hj, rfl, hfill⟩ := hrel
    have HI := Lib.hid hfill
    clear hfill hcv
    by_cases hlt : j < s.size
    · have hc := HI.out.cell j hlt
      rw [if_neg (Nat.lt_irrefl _)] at hc
      have hf := HI.out.free j hlt
      have hlo := HI.out.lo
      have hhi' := HI.out.hi
      have hsh : ∀ x : UInt8, (bs s).getD j 0 = x → shB lo b x = shB lo b ((bs s).getD j 0) := fun x hx => by rw [hx]
      obtain ⟨x, hx⟩ : ∃ x, (bs s).getD j 0 = x := ⟨_, rfl⟩
      rw [hx] at hc
      have hcx : wr.cell? ⟨w.heap.size, j, none⟩ = some (.int .u8 (x.toNat : Int)) := hc
      have hxl := x.toNat_lt
      have HX := Lib.hid hx
      clear hc hsh hx
      by_cases hr1 : lo ≤ (x.toNat : Int)
      · by_cases hr2 : (x.toNat : Int) ≤ hi
        · have hst : (shB lo b x).toNat = ((x.toNat : Int) + b).toNat := by
            unfold shB shN
            rw [if_pos ⟨hr1, by omega⟩]
            exact u8n (by omega)
          have hsv : byteV (shB lo b x) = .int .u8 ((x.toNat : Int) + b) := by
            unfold byteV; rw [hst]; congr 1; omega
          have HSV := Lib.hid hsv
          clear hst hsv
          go_wp2
          go_light
          refine ⟨⟨j + 1, by omega, by go_num, ?_⟩, by simp [intOf]; omega⟩
          refine (HI.out.store hlt (.int .u8 ((x.toNat : Int) + b))).congr ?_
          intro t ht
          by_cases e : t = j
          · subst e
            rw [if_pos rfl, if_pos (Nat.lt_succ_self _), HX.out, HSV.out]
          · simp only [if_neg e]
            by_cases e1 : t < j
            · rw [if_pos e1, if_pos (by omega)]
            · rw [if_neg e1, if_neg (by omega)]
        · have hst : shB lo b x = x := by
            unfold shB shN
            rw [if_neg (by omega)]
            exact UInt8.toNat_inj.1 (u8n x.toNat_lt)
          have HST := Lib.hid hst
          clear hst
          go_wp2
          refine ⟨⟨j + 1, by omega, by go_num, HI.out.congr ?_⟩, by simp [intOf]; omega⟩
          intro t ht
          by_cases e : t = j
          · subst e
            rw [if_neg (Nat.lt_irrefl _), if_pos (Nat.lt_succ_self _), HX.out, HST.out]
          · by_cases e1 : t < j
            · rw [if_pos e1, if_pos (by omega)]
            · rw [if_neg e1, if_neg (by omega)]
      · have hst : shB lo b x = x := by
          unfold shB shN
          rw [if_neg (by omega)]
          exact UInt8.toNat_inj.1 (u8n x.toNat_lt)
        have HST := Lib.hid hst
        clear hst
        go_wp2
        refine ⟨⟨j + 1, by omega, by go_num, HI.out.congr ?_⟩, by simp [intOf]; omega⟩
        intro t ht
        by_cases e : t = j
        · subst e
          rw [if_neg (Nat.lt_irrefl _), if_pos (Nat.lt_succ_self _), HX.out, HST.out]
        · by_cases e1 : t < j
          · rw [if_pos e1, if_pos (by omega)]
          · rw [if_neg e1, if_neg (by omega)]
    · obtain rfl : j = s.size := by omega
      have hconv := textOfRow wr w.heap.size cp s.size ((bs s).map (shB lo b)) (by rw [List.length_map, bs_length]) (fun t ht => by
        rw [List.length_map, bs_length] at ht
        have h := HI.out.cell t ht
        rw [if_pos ht] at h
        rw [h, List.getElem_map]
        have e : (bs s).getD t 0 = (bs s)[t]'(by rw [bs_length]; exact ht) := by simp [bs_length, ht]
        rw [e]
        rfl)
      go_wp2
      go_ret
      exact ⟨rfl, HI.out.below⟩
end Go.Proofs.YtbdamjhgggnihaaDoor
