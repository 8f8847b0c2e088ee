/-
  The program's nodeText: one kid behind another. Conditions: bounds.
-/
import Derived.Test.YtpolpihgclemnaaDoorRxNodeO
import Derived.Test.YtpolpihgclemnaaDoorRxSizeS
import Derived.Lib.Join
namespace Go.Proofs.YtpolpihgclemnaaDoor
open Go.RowKit
open Go.Lib hiding intOf
set_option linter.unusedVariables false
set_option linter.unusedSimpArgs false

theorem kidB_len {T : List (List UInt8)} (h : ∀ k, (T.getD k []).length ≤ 1000) (K : List Int) (kind x : Int) : (kidB T K kind x).length ≤ 1002 := by
  unfold kidB parB
  have := h x.toNat
  split
  · simp only [List.length_cons, List.length_append, List.length_nil]; omega
  · omega
theorem kidsB_join (T : List (List UInt8)) (K : List Int) (kind : Int) : ∀ l : List Int, Lib.join (l.map (kidB T K kind)) (if kind = 8 then [124] else []) = kidsB T K kind l
  | [] => by simp [kidsB, Lib.join]
  | [k] => by simp [kidsB, Lib.join]
  | k :: y :: r => by
    have h := kidsB_join T K kind (y :: r)
    rw [kidsB, ← h, List.map_cons, List.map_cons]
    · simp [Lib.join, List.intercalate]
    · simp
theorem kidsB_len {T : List (List UInt8)} (h : ∀ k, (T.getD k []).length ≤ 1000) (K : List Int) (kind : Int) : ∀ l : List Int, (kidsB T K kind l).length ≤ 1003 * l.length
  | [] => by simp [kidsB]
  | [k] => by have := kidB_len h K kind k; simp only [kidsB, List.length_cons, List.length_nil]; omega
  | k :: y :: r => by
    have h1 := kidB_len h K kind k
    have h2 := kidsB_len h K kind (y :: r)
    rw [kidsB]
    · simp only [List.length_append, List.length_cons] at *
      split
      · simp only [List.length_cons, List.length_nil]; omega
      · simp only [List.length_nil]; omega
    · simp
/-- the parts so far -/
def partF (P : List ByteArray) (k j : Nat) : Value := .string (if j < k then P.getD j .empty else .empty)
theorem partF_store {w wr : World} {g n k : Nat} {P : List ByteArray} (h : Fill w wr g n (partF P k)) (hk : k < n) : Fill w (wr.setCell ⟨g, k, none⟩ (.string (P.getD k .empty))) g n (partF P (k + 1)) := by
  refine (h.store hk _).congr ?_
  intro j hj
  unfold partF
  by_cases e : j = k
  · subst e
    rw [if_pos rfl, if_pos (by omega)]
  · rw [if_neg e]
    by_cases e1 : j < k
    · rw [if_pos e1, if_pos (by omega)]
    · rw [if_neg e1, if_neg (by omega)]
theorem infoStrX : (Tryd.prog.info? 9).map (fun i => (i.zero, i.size, i.bytes)) = some (some (.string .empty), 1, 16) := by kernel_rfl
theorem makeStrsX (n : Nat) (hn : n ≤ 1099511627776) (u : World) : (Instr.makeSlice 35 (.int .i64 (n : Int)) (.int .i64 (n : Int))).run Tryd.prog u =
      .ok (.slice (some ⟨u.heap.size, 0, none⟩) n n) (u.alloc (.cells (madeCells #[.string .empty] n) 9)) := by
  obtain ⟨i0, hi, hz0, hz1, hz2⟩ := info_parts infoStrX
  have h := run_make (P := Tryd.prog) u 35 9 i0 (.string .empty) Tryd.underlying35 hi hz0 .i64 .i64 (n : Int) (n : Int) (by omega) (Int.le_refl _) (by rw [hz2]; omega) (by omega)
  simpa [hz1, Value.cells] using h
theorem fillStrsX (w : World) (n : Nat) : Fill w (w.alloc (.cells (madeCells #[.string .empty] n) 9)) w.heap.size n (fun _ => .string .empty) := by
  have hF := Fill.made w w (Below.refl _ _) (madeCells #[.string .empty] n) 9 (fun _ => .string .empty) (fun j hj => madeCells_get _ _ _ (by simpa [size_madeCells] using hj))
  rw [size_madeCells] at hF
  simpa using hF
set_option maxRecDepth 20000 in
theorem node_7 {w : World} {Q : List NdQ} {S : List ByteArray} {T : List (List UInt8)} {aq a2 : Option Addr} {n : Nat} {q : NdQ} (cq ct : Nat) (h : NodeIn w Q S T aq a2 n q) (hop : q.op = 7) :
    Calls Tryd.prog 23 #[.agg #[.slice aq n cq], .slice a2 n ct, q.agg] w fun e w' => NodePost w (nodeT T ((ndsOf Q).map fun v => v.1) q.val) e w' := by
  obtain ⟨hq, hn, hn1, hS, hm, hT, hTL, hf, hl, hK, hP⟩ := h
  obtain ⟨op, qa, qb, neg, sa, sl, sc, set, ka, kl, kc, kids⟩ := q
  simp only [] at hl hK hop
  obtain ⟨u, hu, su, bu, c, c0, c1, c2, c3, c4, c5⟩ := node_laid w (.slice aq n cq) (.int .i64 op) (.int .i64 qa) (.int .i64 qb) (.bool neg) (.slice sa sl sc) (.slice ka kl kc) 29 38
  have HBU := Lib.hid bu
  have HV := Lib.hid (show nodeT T ((ndsOf Q).map fun v => v.1) (NdQ.mk op qa qb neg sa sl sc set ka kl kc kids).val = some (kidsB T ((ndsOf Q).map fun v => v.1) 7 kids) by subst hop; simp only [NdQ.val]; unfold nodeT; rw [if_neg (show ¬ (7 : Int) = 1 by decide), if_neg (show ¬ (7 : Int) = 2 by decide), if_neg (show ¬ (7 : Int) = 3 by decide), if_neg (show ¬ (7 : Int) = 5 by decide), if_neg (show ¬ (7 : Int) = 6 by decide), if_neg (show ¬ (7 : Int) = 4 by decide), if_pos (show (7 : Int) = 7 ∨ (7 : Int) = 8 by decide)])
  subst hop
  have hkl : kids.length = kl := hf.2.1.2
  have HKL := Lib.hid hkl
  obtain ⟨K, hKd⟩ : ∃ K, (ndsOf Q).map (fun v => v.1) = K := ⟨_, rfl⟩
  rw [hKd] at HV ⊢
  obtain ⟨P, hP0⟩ : ∃ P, kids.map (fun x => ofL (kidB T K 7 x)) = P := ⟨_, rfl⟩
  have hPl : P.length = kl := by rw [← hP0, List.length_map, hkl]
  have hPm : P.map (fun x => x.data.toList) = kids.map (kidB T K 7) := by rw [← hP0, List.map_map]; exact List.map_congr_left (fun x _ => by simp [ofL])
  have HPM := Lib.hid hPm
  have HPL := Lib.hid hPl
  have hlen := kidsB_len hTL K 7 kids
  have hj := kidsB_join T K 7 kids
  rw [if_neg (by decide)] at hj
  rw [hkl] at hlen
  have hjl : (Lib.join (P.map (·.data.toList)) []).length ≤ 140737488355328 := by
    rw [hPm, hj]; omega
  have HJL := Lib.hid hjl
  have HJ := Lib.hid hj
  have HQ := Lib.hid (hq.below bu)
  have HS1 := Lib.hid (hS.below bu)
  have HK := Lib.hid (show ∀ (k : Nat) (hk : k < kids.length), ∃ x : Nat, kids[k] = (x : Int) ∧ x < n ∧ ∀ W bz, Below u.heap.size u W → bz < W.heap.size → (W.cell? ⟨bz, 0, none⟩ = some (.int .i64 7) ∧ W.cell? ⟨bz, 1, none⟩ = some (.int .i64 8) ∧ W.cell? ⟨bz, 2, none⟩ = some (.int .i64 1)) → Calls Tryd.prog 32 #[.agg #[.slice aq n cq], .slice a2 n ct, .int .i64 x, .slice (some ⟨bz, 0, none⟩) 3 3] W fun e w' => e = .returned (.string (P.getD k .empty)) ∧ Below W.heap.size W w' from fun k hk => by
    obtain ⟨hx0, hxn⟩ := hK kids[k] (List.getElem_mem hk)
    obtain ⟨x, hx⟩ : ∃ x : Nat, kids[k] = (x : Int) := ⟨kids[k].toNat, by omega⟩
    have hxn2 : x < n := by omega
    have hxq : x < Q.length := by omega
    have hsT := hT x hxn2
    obtain ⟨y, hy⟩ : ∃ y, Q[x].op = y := ⟨_, rfl⟩
    obtain ⟨s, hs⟩ : ∃ s, S.getD x .empty = s := ⟨_, rfl⟩
    rw [hs] at hsT
    have hss : s.size ≤ 1000 := by rw [hsT, size_ofL]; exact hTL x
    have hpk : parK 7 y = ([7, 8, 1] : List Int).contains y := by
      unfold parK
      rw [if_neg (by decide), if_pos rfl]
      rw [Bool.eq_iff_iff]
      simp
    refine ⟨x, hx, hxn2, fun W bz hW hbz hcz => ?_⟩
    have hm := kidText_any Q S aq a2 n cq n ct x bz 3 3 [7, 8, 1] y s W (HQ.out.below hW) hn (HS1.out.below hW) hm hxn2 hxn2 ⟨hxq, hy⟩ hs hss hn1 hn1 rfl (by decide) (fun j hj => by
      match j, hj with
      | 0, _ => exact hcz.1
      | 1, _ => exact hcz.2.1
      | 2, _ => exact hcz.2.2) hbz
    rw [show (if ([7, 8, 1] : List Int).contains y = true then (⟨#[40]⟩ : ByteArray) ++ s ++ ⟨#[41]⟩ else s) = P.getD k .empty from ?_] at hm
    · exact hm
    · rw [← hP0, List.getD_eq_getElem?_getD, List.getElem?_eq_getElem (by rw [List.length_map]; exact hk), Option.getD_some, List.getElem_map, hx]
      unfold kidB
      rw [show ((x : Int)).toNat = x from rfl, show K.getD x 0 = y from by rw [← hKd, ← hy]; simp [ndsOf, NdQ.val, hxq], hpk]
      have hbs : T.getD x [] = bs s := by rw [hsT]; simp [bs, ofL]
      rw [hbs]
      unfold parB
      split
      · exact bs_inj (by simp [bs, ofL])
      · exact bs_inj (by simp [bs, ofL]))
  have hrow := hf.1.2.below bu
  have HRW := Lib.hid hrow
  have hmk := makeStrsX kl (by omega)
  have HF := Lib.hid (fillStrsX u kl)
  have hpj := Tryd.strings_Join
  have HPJ := Lib.hid hpj
  clear hq hn hS hm hT hTL hf hK hP bu hPl hPm hlen hj hjl hP0 hrow hpj hkl
  go_enter Tryd.func23, Tryd.ntmps23
  go_wp2_with fail
  clear hmk
  go_loopw [45] (fun i wr => ∃ k : Nat, k ≤ kl ∧ i = .int .i64 k ∧ Fill u wr u.heap.size kl (partF P k)) (fun i _ => kl - (intOf i).toNat)
  case atStart => exact ⟨0, Nat.zero_le _, rfl, HF.out.congr (fun j hj => by simp [partF])⟩
  case round =>
    obtain ⟨k, hk, rfl, hfill⟩ := hrel
    have HI := Lib.hid hfill
    have hbw := hfill.below
    obtain ⟨cc, -⟩ := bcell hbw
    have f0 : wr.cell? ⟨w.heap.size, 0, none⟩ = some (.slice aq n cq) := by rw [cc _ _ (by omega)]; exact c
    have f1 : wr.cell? ⟨w.heap.size + 1, 0, none⟩ = some (.int .i64 7) := by rw [cc _ _ su]; exact c0
    clear cc
    by_cases hkl : k < kl
    · have hks : k < kids.length := by rw [HKL.out]; exact hkl
      have hRR := HRW.out
      rcases hRR with h0 | ⟨b, off, rfl, hbl, hc⟩
      · rw [show kids = [] from h0] at hks; exact absurd hks (Nat.not_lt_zero _)
      obtain ⟨x, hx, hxn, hcall⟩ := HK.out k hks
      have hkx : wr.cell? ⟨b, off + k, none⟩ = some (.int .i64 (x : Int)) := by rw [hbw.cell (p := ⟨b, off + k, none⟩) hbl, hc k hks, ← hx]; simp [List.getElem?_eq_getElem hks]
      obtain ⟨s, hs⟩ : ∃ s, P.getD k .empty = s := ⟨_, rfl⟩
      rw [hs] at hcall
      have HCA := Lib.hid hcall
      have HST := Lib.hid (fun (wx : World) (h : Fill u wx u.heap.size kl (partF P k)) => (show Fill u (wx.setCell ⟨u.heap.size, k, none⟩ (.string s)) u.heap.size kl (partF P (k + 1)) from hs ▸ partF_store h hkl))
      clear hc hcall hs hx hxn hks hfill
      go_wp2_with fail
      refine (HCA.out _ _ (hbw.alloc hbw.size _) (by simp) (by simp)).mono ?_
      rintro e w1 ⟨rfl, hb1⟩
      have HI5 := Lib.hid (HI.out.from (((Below.refl _ _).alloc (Nat.le_refl _) _).trans (hb1.mono (by simp))))
      have HS2 := Lib.hid (HST.out w1 HI5.out)
      have hfk := HI5.out.free k hkl
      have hck := HI5.out.cell k hkl
      unfold partF at hck
      rw [if_neg (Nat.lt_irrefl _)] at hck
      clear hb1
      go_wp2_with fail
      exact ⟨⟨k + 1, by omega, by go_num, HS2.out⟩, by simp [intOf]; omega⟩
    · have HC := Lib.hid (show ∀ (j : Nat) x, P[j]? = some x → wr.cell? ⟨u.heap.size, 0 + j, none⟩ = some (.string x) from fun j x hjx => by
        obtain ⟨h1, h2⟩ := List.getElem?_eq_some_iff.1 hjx
        rw [HPL.out] at h1
        rw [Nat.zero_add, HI.out.cell j h1]
        unfold partF
        rw [if_pos (by omega), List.getD_eq_getElem?_getD, hjx]; rfl)
      have hJ := HPJ.out u.heap.size 0 kl P ⟨#[]⟩ wr HC.out HI.out.hi (by rw [HPL.out]; omega) (by rw [HPL.out]; exact Nat.le_refl _) HJL.out
      rw [HPL.out] at hJ
      have HJN := Lib.hid hJ
      have HE : Hid (k = kl) := Lib.hid (by omega)
      clear hJ hfill
      go_wp2_with fail
      refine HJN.out.mono ?_
      rintro e w1 ⟨rfl, hb1⟩
      have HB1 := Lib.hid (HBU.out.trans (((HI.out.below).trans (hb1.mono HI.out.below.size)).mono HBU.out.size))
      clear hb1
      go_wp2_with fail
      go_ret2
      refine NodePost.some HV.out ?_ HB1.out
      rw [← HJ.out, ← HPM.out]
      rfl
set_option maxRecDepth 20000 in
theorem node_8 {w : World} {Q : List NdQ} {S : List ByteArray} {T : List (List UInt8)} {aq a2 : Option Addr} {n : Nat} {q : NdQ} (cq ct : Nat) (h : NodeIn w Q S T aq a2 n q) (hop : q.op = 8) :
    Calls Tryd.prog 23 #[.agg #[.slice aq n cq], .slice a2 n ct, q.agg] w fun e w' => NodePost w (nodeT T ((ndsOf Q).map fun v => v.1) q.val) e w' := by
  obtain ⟨hq, hn, hn1, hS, hm, hT, hTL, hf, hl, hK, hP⟩ := h
  obtain ⟨op, qa, qb, neg, sa, sl, sc, set, ka, kl, kc, kids⟩ := q
  simp only [] at hl hK hop
  obtain ⟨u, hu, su, bu, c, c0, c1, c2, c3, c4, c5⟩ := node_laid w (.slice aq n cq) (.int .i64 op) (.int .i64 qa) (.int .i64 qb) (.bool neg) (.slice sa sl sc) (.slice ka kl kc) 29 38
  have HBU := Lib.hid bu
  have HV := Lib.hid (show nodeT T ((ndsOf Q).map fun v => v.1) (NdQ.mk op qa qb neg sa sl sc set ka kl kc kids).val = some (kidsB T ((ndsOf Q).map fun v => v.1) 8 kids) by subst hop; simp only [NdQ.val]; unfold nodeT; rw [if_neg (show ¬ (8 : Int) = 1 by decide), if_neg (show ¬ (8 : Int) = 2 by decide), if_neg (show ¬ (8 : Int) = 3 by decide), if_neg (show ¬ (8 : Int) = 5 by decide), if_neg (show ¬ (8 : Int) = 6 by decide), if_neg (show ¬ (8 : Int) = 4 by decide), if_pos (show (8 : Int) = 7 ∨ (8 : Int) = 8 by decide)])
  subst hop
  have hkl : kids.length = kl := hf.2.1.2
  have HKL := Lib.hid hkl
  obtain ⟨K, hKd⟩ : ∃ K, (ndsOf Q).map (fun v => v.1) = K := ⟨_, rfl⟩
  rw [hKd] at HV ⊢
  obtain ⟨P, hP0⟩ : ∃ P, kids.map (fun x => ofL (kidB T K 8 x)) = P := ⟨_, rfl⟩
  have hPl : P.length = kl := by rw [← hP0, List.length_map, hkl]
  have hPm : P.map (fun x => x.data.toList) = kids.map (kidB T K 8) := by rw [← hP0, List.map_map]; exact List.map_congr_left (fun x _ => by simp [ofL])
  have HPM := Lib.hid hPm
  have HPL := Lib.hid hPl
  have hlen := kidsB_len hTL K 8 kids
  have hj := kidsB_join T K 8 kids
  rw [if_pos rfl] at hj
  rw [hkl] at hlen
  have hjl : (Lib.join (P.map (·.data.toList)) [124]).length ≤ 140737488355328 := by
    rw [hPm, hj]; omega
  have HJL := Lib.hid hjl
  have HJ := Lib.hid hj
  have HQ := Lib.hid (hq.below bu)
  have HS1 := Lib.hid (hS.below bu)
  have HK := Lib.hid (show ∀ (k : Nat) (hk : k < kids.length), ∃ x : Nat, kids[k] = (x : Int) ∧ x < n ∧ ∀ W bz, Below u.heap.size u W → bz < W.heap.size → (W.cell? ⟨bz, 0, none⟩ = some (.int .i64 8)) → Calls Tryd.prog 32 #[.agg #[.slice aq n cq], .slice a2 n ct, .int .i64 x, .slice (some ⟨bz, 0, none⟩) 1 1] W fun e w' => e = .returned (.string (P.getD k .empty)) ∧ Below W.heap.size W w' from fun k hk => by
    obtain ⟨hx0, hxn⟩ := hK kids[k] (List.getElem_mem hk)
    obtain ⟨x, hx⟩ : ∃ x : Nat, kids[k] = (x : Int) := ⟨kids[k].toNat, by omega⟩
    have hxn2 : x < n := by omega
    have hxq : x < Q.length := by omega
    have hsT := hT x hxn2
    obtain ⟨y, hy⟩ : ∃ y, Q[x].op = y := ⟨_, rfl⟩
    obtain ⟨s, hs⟩ : ∃ s, S.getD x .empty = s := ⟨_, rfl⟩
    rw [hs] at hsT
    have hss : s.size ≤ 1000 := by rw [hsT, size_ofL]; exact hTL x
    have hpk : parK 8 y = ([8] : List Int).contains y := by
      unfold parK
      rw [if_pos rfl]
      rw [Bool.eq_iff_iff]
      simp
    refine ⟨x, hx, hxn2, fun W bz hW hbz hcz => ?_⟩
    have hm := kidText_any Q S aq a2 n cq n ct x bz 1 1 [8] y s W (HQ.out.below hW) hn (HS1.out.below hW) hm hxn2 hxn2 ⟨hxq, hy⟩ hs hss hn1 hn1 rfl (by decide) (fun j hj => by
      match j, hj with
      | 0, _ => exact hcz) hbz
    rw [show (if ([8] : List Int).contains y = true then (⟨#[40]⟩ : ByteArray) ++ s ++ ⟨#[41]⟩ else s) = P.getD k .empty from ?_] at hm
    · exact hm
    · rw [← hP0, List.getD_eq_getElem?_getD, List.getElem?_eq_getElem (by rw [List.length_map]; exact hk), Option.getD_some, List.getElem_map, hx]
      unfold kidB
      rw [show ((x : Int)).toNat = x from rfl, show K.getD x 0 = y from by rw [← hKd, ← hy]; simp [ndsOf, NdQ.val, hxq], hpk]
      have hbs : T.getD x [] = bs s := by rw [hsT]; simp [bs, ofL]
      rw [hbs]
      unfold parB
      split
      · exact bs_inj (by simp [bs, ofL])
      · exact bs_inj (by simp [bs, ofL]))
  have hrow := hf.1.2.below bu
  have HRW := Lib.hid hrow
  have hmk := makeStrsX kl (by omega)
  have HF := Lib.hid (fillStrsX u kl)
  have hpj := Tryd.strings_Join
  have HPJ := Lib.hid hpj
  clear hq hn hS hm hT hTL hf hK hP bu hPl hPm hlen hj hjl hP0 hrow hpj hkl
  go_enter Tryd.func23, Tryd.ntmps23
  go_wp2_with fail
  clear hmk
  go_loopw [45] (fun i wr => ∃ k : Nat, k ≤ kl ∧ i = .int .i64 k ∧ Fill u wr u.heap.size kl (partF P k)) (fun i _ => kl - (intOf i).toNat)
  case atStart => exact ⟨0, Nat.zero_le _, rfl, HF.out.congr (fun j hj => by simp [partF])⟩
  case round =>
    obtain ⟨k, hk, rfl, hfill⟩ := hrel
    have HI := Lib.hid hfill
    have hbw := hfill.below
    obtain ⟨cc, -⟩ := bcell hbw
    have f0 : wr.cell? ⟨w.heap.size, 0, none⟩ = some (.slice aq n cq) := by rw [cc _ _ (by omega)]; exact c
    have f1 : wr.cell? ⟨w.heap.size + 1, 0, none⟩ = some (.int .i64 8) := by rw [cc _ _ su]; exact c0
    clear cc
    by_cases hkl : k < kl
    · have hks : k < kids.length := by rw [HKL.out]; exact hkl
      have hRR := HRW.out
      rcases hRR with h0 | ⟨b, off, rfl, hbl, hc⟩
      · rw [show kids = [] from h0] at hks; exact absurd hks (Nat.not_lt_zero _)
      obtain ⟨x, hx, hxn, hcall⟩ := HK.out k hks
      have hkx : wr.cell? ⟨b, off + k, none⟩ = some (.int .i64 (x : Int)) := by rw [hbw.cell (p := ⟨b, off + k, none⟩) hbl, hc k hks, ← hx]; simp [List.getElem?_eq_getElem hks]
      obtain ⟨s, hs⟩ : ∃ s, P.getD k .empty = s := ⟨_, rfl⟩
      rw [hs] at hcall
      have HCA := Lib.hid hcall
      have HST := Lib.hid (fun (wx : World) (h : Fill u wx u.heap.size kl (partF P k)) => (show Fill u (wx.setCell ⟨u.heap.size, k, none⟩ (.string s)) u.heap.size kl (partF P (k + 1)) from hs ▸ partF_store h hkl))
      clear hc hcall hs hx hxn hks hfill
      go_wp2_with fail
      refine (HCA.out _ _ (hbw.alloc hbw.size _) (by simp) (by simp)).mono ?_
      rintro e w1 ⟨rfl, hb1⟩
      have HI5 := Lib.hid (HI.out.from (((Below.refl _ _).alloc (Nat.le_refl _) _).trans (hb1.mono (by simp))))
      have HS2 := Lib.hid (HST.out w1 HI5.out)
      have hfk := HI5.out.free k hkl
      have hck := HI5.out.cell k hkl
      unfold partF at hck
      rw [if_neg (Nat.lt_irrefl _)] at hck
      clear hb1
      go_wp2_with fail
      exact ⟨⟨k + 1, by omega, by go_num, HS2.out⟩, by simp [intOf]; omega⟩
    · have HC := Lib.hid (show ∀ (j : Nat) x, P[j]? = some x → wr.cell? ⟨u.heap.size, 0 + j, none⟩ = some (.string x) from fun j x hjx => by
        obtain ⟨h1, h2⟩ := List.getElem?_eq_some_iff.1 hjx
        rw [HPL.out] at h1
        rw [Nat.zero_add, HI.out.cell j h1]
        unfold partF
        rw [if_pos (by omega), List.getD_eq_getElem?_getD, hjx]; rfl)
      have hJ := HPJ.out u.heap.size 0 kl P ⟨#[124]⟩ wr HC.out HI.out.hi (by rw [HPL.out]; omega) (by rw [HPL.out]; exact Nat.le_refl _) HJL.out
      rw [HPL.out] at hJ
      have HJN := Lib.hid hJ
      have HE : Hid (k = kl) := Lib.hid (by omega)
      clear hJ hfill
      go_wp2_with fail
      refine HJN.out.mono ?_
      rintro e w1 ⟨rfl, hb1⟩
      have HB1 := Lib.hid (HBU.out.trans (((HI.out.below).trans (hb1.mono HI.out.below.size)).mono HBU.out.size))
      clear hb1
      go_wp2_with fail
      go_ret2
      refine NodePost.some HV.out ?_ HB1.out
      rw [← HJ.out, ← HPM.out]
      rfl
end Go.Proofs.YtpolpihgclemnaaDoor
