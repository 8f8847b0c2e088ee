/-
  The program's nodeText: how often. Conditions: bounds.
-/
import Derived.Test.YtpolpihgclemnaaDoorRxNode
import Derived.Deep.RegionHeld3
namespace Go.Proofs.YtpolpihgclemnaaDoor
open Go.RowKit
open Go.Lib hiding intOf
set_option linter.unusedVariables false
set_option linter.unusedSimpArgs false

theorem box4 (v : World) (a b c d : Value) (t : TypeId) : (v.alloc (.cells #[a, b, c, d] t)).cell? ⟨v.heap.size, 0, none⟩ = some a ∧ (v.alloc (.cells #[a, b, c, d] t)).cell? ⟨v.heap.size, 1, none⟩ = some b ∧ (v.alloc (.cells #[a, b, c, d] t)).cell? ⟨v.heap.size, 2, none⟩ = some c ∧ (v.alloc (.cells #[a, b, c, d] t)).cell? ⟨v.heap.size, 3, none⟩ = some d := by simp
theorem bel_call {u W W2 : World} (h : Below u.heap.size u W) (hb : Below W.heap.size W W2) : Below u.heap.size u W2 := h.trans (hb.mono h.size)
theorem keep4 {W W2 : World} {z : Nat} {a b c d : Value} (h : Below W.heap.size W W2) (hz : z < W.heap.size) (hc : W.cell? ⟨z, 0, none⟩ = some a ∧ W.cell? ⟨z, 1, none⟩ = some b ∧ W.cell? ⟨z, 2, none⟩ = some c ∧ W.cell? ⟨z, 3, none⟩ = some d) : W2.cell? ⟨z, 0, none⟩ = some a ∧ W2.cell? ⟨z, 1, none⟩ = some b ∧ W2.cell? ⟨z, 2, none⟩ = some c ∧ W2.cell? ⟨z, 3, none⟩ = some d := by
  obtain ⟨cc, -⟩ := bcell h
  rw [cc _ _ hz, cc _ _ hz, cc _ _ hz, cc _ _ hz]
  exact hc
set_option maxRecDepth 20000 in
theorem node_9 {w : World} {Q : List NdQ} {S : List ByteArray} {T : List (List UInt8)} {aq a2 : Option Addr} {n : Nat} {q : NdQ} (cq ct : Nat) (h : NodeIn w Q S T aq a2 n q) (hop : q.op = 9) :
    Calls Tryd.prog 23 #[.agg #[.slice aq n cq], .slice a2 n ct, q.agg] w fun e w' => NodePost w (nodeT T ((ndsOf Q).map fun v => v.1) q.val) e w' := by
  obtain ⟨hq, hn, hn1, hS, hm, hT, hTL, hf, hl, hK, hP⟩ := h
  obtain ⟨op, qa, qb, neg, sa, sl, sc, set, ka, kl, kc, kids⟩ := q
  simp only [] at hl hK hop
  obtain ⟨u, hu, su, bu, c, c0, c1, c2, c3, c4, c5⟩ := node_laid w (.slice aq n cq) (.int .i64 op) (.int .i64 qa) (.int .i64 qb) (.bool neg) (.slice sa sl sc) (.slice ka kl kc) 29 38
  have HBU := Lib.hid bu
  have HV := Lib.hid (show nodeT T ((ndsOf Q).map fun v => v.1) (NdQ.mk op qa qb neg sa sl sc set ka kl kc kids).val = (if kids.length = 1 ∧ 0 ≤ qa ∧ -1 ≤ qb then some (kidB T ((ndsOf Q).map fun v => v.1) 9 (kids.getD 0 0) ++ oftB qa qb) else none) by subst hop; simp only [NdQ.val]; unfold nodeT; rw [if_neg (show ¬ (9 : Int) = 1 by decide), if_neg (show ¬ (9 : Int) = 2 by decide), if_neg (show ¬ (9 : Int) = 3 by decide), if_neg (show ¬ (9 : Int) = 5 by decide), if_neg (show ¬ (9 : Int) = 6 by decide), if_neg (show ¬ (9 : Int) = 4 by decide), if_neg (show ¬ ((9 : Int) = 7 ∨ (9 : Int) = 8) by decide), if_pos rfl])
  subst hop
  have hkl : kids.length = kl := hf.2.1.2
  have h64 : Nd64 qa ∧ Nd64 qb := ⟨hf.2.2.2.2.1, hf.2.2.2.2.2.1⟩
  by_cases hbad : ¬ (kids.length = 1 ∧ 0 ≤ qa ∧ -1 ≤ qb)
  · rw [if_neg hbad, ] at HV
    rw [hkl] at hbad
    clear hq hn hS hm hT hTL hf hK hP bu su hkl h64
    by_cases hx : kl = 1
    · subst hx
      by_cases hy : qa < 0
      · go_enter Tryd.func23, Tryd.ntmps23
        go_wp2
        go_ret2
        exact NodePost.none HV.out HBU.out
      · have hz : qb < -1 := by omega
        clear hbad
        go_enter Tryd.func23, Tryd.ntmps23
        go_wp2
        go_ret2
        exact NodePost.none HV.out HBU.out
    · have e1 : ((kl : Int) != 1) = true := by rw [bne_iff_ne]; omega
      clear hbad
      go_enter Tryd.func23, Tryd.ntmps23
      go_wp2
      go_ret2
      exact NodePost.none HV.out HBU.out
  have hgood : kids.length = 1 ∧ 0 ≤ qa ∧ -1 ≤ qb := by omega
  rw [if_pos hgood] at HV
  obtain ⟨hk1, hqa, hqb⟩ := hgood
  rw [hkl] at hk1
  obtain ⟨x, hx⟩ : ∃ x, kids = [x] := by
    rw [hk1] at hkl
    match kids, hkl with
    | [x], _ => exact ⟨x, rfl⟩
  subst hx
  obtain ⟨hx0, hxn⟩ := hK x (by simp)
  obtain ⟨k, rfl⟩ : ∃ k : Nat, x = (k : Int) := ⟨x.toNat, by omega⟩
  have hkn : k < n := by omega
  have hkq : k < Q.length := by omega
  obtain ⟨y, hy⟩ : ∃ y, Q[k].op = y := ⟨_, rfl⟩
  obtain ⟨s, hs⟩ : ∃ s, S.getD k .empty = s := ⟨_, rfl⟩
  have hsT := hT k hkn
  rw [hs] at hsT
  have hss : s.size ≤ 1000 := by rw [hsT, size_ofL]; exact hTL k
  have hpk : parK 9 y = [7, 8, 9, 1].contains y := by
    unfold parK
    rw [if_neg (by decide), if_neg (by decide)]
    rw [Bool.eq_iff_iff]
    simp
  have hkb : kidB T ((ndsOf Q).map fun v => v.1) 9 (k : Int) = bs (if [7, 8, 9, 1].contains y = true then ⟨#[40]⟩ ++ s ++ ⟨#[41]⟩ else s) := by
    unfold kidB
    rw [show ((k : Int)).toNat = k from rfl, show ((ndsOf Q).map fun v => v.1).getD k 0 = y from by rw [← hy]; simp [ndsOf, NdQ.val, hkq], hpk]
    have hbs : T.getD k [] = bs s := by rw [hsT]; simp [bs, ofL]
    rw [hbs]
    unfold parB
    split
    · simp [bs]
    · rfl
  obtain ⟨t1, ht1⟩ : ∃ t, (if [7, 8, 9, 1].contains y = true then ⟨#[40]⟩ ++ s ++ ⟨#[41]⟩ else s) = t := ⟨_, rfl⟩
  have hts1 : t1.size ≤ 1002 := by
    rw [← ht1]
    split
    · rw [ByteArray.size_append, ByteArray.size_append]; simp only [ByteArray.size, List.size_toArray, List.length_cons, List.length_nil] at *; omega
    · omega
  have HT := Lib.hid (show ∀ W, Below u.heap.size u W → Calls Tryd.prog 34 #[.int .i64 qa, .int .i64 qb] W fun e w' => e = .returned (.string (ofL (oftB qa qb))) ∧ Below W.heap.size W w' from fun W hW => timesText_any qa qb W h64.1 h64.2 hqa hqb ((hP.below bu).below hW))
  have hq1 := hq.below bu
  have hS1 := hS.below bu
  have HK := Lib.hid (show ∀ W bz, Below u.heap.size u W → bz < W.heap.size → (W.cell? ⟨bz, 0, none⟩ = some (.int .i64 7) ∧ W.cell? ⟨bz, 1, none⟩ = some (.int .i64 8) ∧ W.cell? ⟨bz, 2, none⟩ = some (.int .i64 9) ∧ W.cell? ⟨bz, 3, none⟩ = some (.int .i64 1)) → Calls Tryd.prog 32 #[.agg #[.slice aq n cq], .slice a2 n ct, .int .i64 k, .slice (some ⟨bz, 0, none⟩) 4 4] W fun e w' => e = .returned (.string t1) ∧ Below W.heap.size W w' from fun W bz hW hbz hcz => by
    rw [← ht1]
    refine kidText_any Q S aq a2 n cq n ct k bz 4 4 [7, 8, 9, 1] y s W (hq1.below hW) hn (hS1.below hW) hm hkn hkn ⟨hkq, hy⟩ hs hss hn1 hn1 rfl (by decide) (fun j hj => ?_) hbz
    match j, hj with
    | 0, _ => exact hcz.1
    | 1, _ => exact hcz.2.1
    | 2, _ => exact hcz.2.2.1
    | 3, _ => exact hcz.2.2.2)
  have HG := Lib.hid (show some (kidB T ((ndsOf Q).map fun v => v.1) 9 (([(k : Int)] : List Int).getD 0 0) ++ oftB qa qb) = some (bs (t1 ++ ofL (oftB qa qb))) by
    rw [show ([(k : Int)] : List Int).getD 0 0 = (k : Int) from rfl, hkb, ht1]; simp [bs, ofL])
  have hrow := hf.1.2.below bu
  rcases hrow with h0 | ⟨b, off, rfl, hbl, hc⟩
  · simp at h0
  have d0 : u.cell? ⟨b, off, none⟩ = some (.int .i64 k) := by have := hc 0 (by simp); simpa using this
  have hos := oftB_len h64.1 h64.2
  rw [← size_ofL] at hos
  obtain ⟨t2, ht2⟩ : ∃ t, ofL (oftB qa qb) = t := ⟨_, rfl⟩
  rw [ht2] at HT HG hos
  subst hk1
  have hsu := su
  clear hq hn hS hm hT hTL hf hK hP hkl h64 hq1 hS1 hc ht1 hkb hpk hsT hs hss hy hkq hx0 hxn hbad ht2 bu
  have HS := Lib.hid (show ∀ W, Below u.heap.size u W → Below u.heap.size u W ∧ W.cell? ⟨w.heap.size, 0, none⟩ = some (.slice aq n cq) ∧ W.cell? ⟨w.heap.size + 1, 1, none⟩ = some (.int .i64 qa) ∧ W.cell? ⟨w.heap.size + 1, 2, none⟩ = some (.int .i64 qb) ∧ W.cell? ⟨w.heap.size + 1, 5, none⟩ = some (.slice (some ⟨b, off, none⟩) 1 kc) ∧ W.cell? ⟨b, off, none⟩ = some (.int .i64 k) from fun W hW => by
    obtain ⟨cc, -⟩ := bcell hW
    refine ⟨hW, ?_, ?_, ?_, ?_, ?_⟩
    · rw [cc _ _ (by omega)]; exact c
    · rw [cc _ _ (by omega)]; exact c1
    · rw [cc _ _ (by omega)]; exact c2
    · rw [cc _ _ (by omega)]; exact c5
    · rw [cc _ _ hbl]; exact d0)
  have hbU0 : Below u.heap.size u u := Below.refl _ _
  have hsum : ¬ (9223372036854775807 < t1.size + t2.size) := by omega
  go_enter Tryd.func23, Tryd.ntmps23
  go_upto_region 30 with fail
  go_region_held3 (fun w' => Below u.heap.size u w' ∧ w'.cell? ⟨w.heap.size, 0, none⟩ = some (.slice aq n cq) ∧ w'.cell? ⟨w.heap.size + 1, 1, none⟩ = some (.int .i64 qa) ∧ w'.cell? ⟨w.heap.size + 1, 2, none⟩ = some (.int .i64 qb) ∧ w'.cell? ⟨w.heap.size + 1, 5, none⟩ = some (.slice (some ⟨b, off, none⟩) 1 kc) ∧ w'.cell? ⟨b, off, none⟩ = some (.int .i64 k)) (first | exact HS.out _ (by first | assumption | exact Below.alloc (by assumption) (Below.size (by assumption)) _ | exact Below.drew (by assumption) | exact Below.drew (Below.alloc (by assumption) (Below.size (by assumption)) _)) | assumption)
    (first
      | (go_at_call 34; refine (HT.out _ (by first | assumption | exact Below.alloc (by assumption) (Below.size (by assumption)) _ | exact Below.drew (by assumption) | exact Below.drew (Below.alloc (by assumption) (Below.size (by assumption)) _))).mono ?_; rintro e w4 ⟨rfl, hbT⟩; have hbU4 := bel_call (by first | assumption | exact Below.alloc (by assumption) (Below.size (by assumption)) _ | exact Below.drew (by assumption) | exact Below.drew (Below.alloc (by assumption) (Below.size (by assumption)) _)) hbT)
      | (go_at_call 32; refine (HK.out _ _ (by first | assumption | exact Below.alloc (by assumption) (Below.size (by assumption)) _ | exact Below.drew (by assumption) | exact Below.drew (Below.alloc (by assumption) (Below.size (by assumption)) _)) (by simp) (by simp)).mono ?_; rintro e w5 ⟨rfl, hbK⟩; have hbU5 := bel_call (by first | assumption | exact Below.alloc (by assumption) (Below.size (by assumption)) _ | exact Below.drew (by assumption) | exact Below.drew (Below.alloc (by assumption) (Below.size (by assumption)) _)) hbK)
      | (go_at_call 32; refine (HK.out _ _ (by first | assumption | exact Below.alloc (by assumption) (Below.size (by assumption)) _ | exact Below.drew (by assumption) | exact Below.drew (Below.alloc (by assumption) (Below.size (by assumption)) _)) (Nat.lt_of_lt_of_le (by simp) hbT.size) (keep4 hbT (by simp) (by simp))).mono ?_; rintro e w5 ⟨rfl, hbK⟩; have hbU5 := bel_call (by first | assumption | exact Below.alloc (by assumption) (Below.size (by assumption)) _ | exact Below.drew (by assumption) | exact Below.drew (Below.alloc (by assumption) (Below.size (by assumption)) _)) hbK))
  all_goals
    go_wp2
    refine bodyPost_ret (v := .tuple #[.string (t1 ++ t2), .bool true]) (by simp [results, Tryd.results23, go_sem, *]) rfl ?_
    refine NodePost.some (HV.out.trans HG.out) ?_ (HBU.out.trans (Below.mono (by assumption) HBU.out.size))
    exact bs_inj (by simp [bs, ofL])
end Go.Proofs.YtpolpihgclemnaaDoor
