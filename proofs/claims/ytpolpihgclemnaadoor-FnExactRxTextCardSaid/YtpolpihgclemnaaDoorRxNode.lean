/-
  The program's nodeText: the kinds that read no kid. Conditions: bounds.
-/
import Derived.Test.YtpolpihgclemnaaDoorRxKid
import Derived.Test.YtpolpihgclemnaaDoorRxOften
import Derived.Test.YtpolpihgclemnaaDoorQuietDo
namespace Go.Proofs.YtpolpihgclemnaaDoor
open Go.RowKit
open Go.Lib hiding intOf
set_option linter.unusedVariables false
set_option linter.unusedSimpArgs false

/-- what nodeText is handed -/
structure NodeIn (w : World) (Q : List NdQ) (S : List ByteArray) (T : List (List UInt8)) (aq a2 : Option Addr) (n : Nat) (q : NdQ) : Prop where
  hq : NdR w aq Q
  hn : Q.length = n
  hn1 : n ≤ 1048576
  hS : RowS w a2 S
  hm : S.length = n
  hT : ∀ k, k < n → S.getD k .empty = ofL (T.getD k [])
  hTL : ∀ k, (T.getD k []).length ≤ 1000
  hf : NdFine w q
  hl : q.sl ≤ 1048576 ∧ q.kl ≤ 1048576
  hK : ∀ x ∈ q.kids, 0 ≤ x ∧ x < n
  hP : PowTab w
/-- what it gives: a text and whether there is one -/
def NodePost (w : World) (o : Option (List UInt8)) (e : Ending) (w' : World) : Prop := ∃ t, e = .returned (.tuple #[.string t, .bool (opB o)]) ∧ (∀ l, o = some l → t = ofL l) ∧ Below w.heap.size w w'
theorem NodePost.some {w w' : World} {o : Option (List UInt8)} {l : List UInt8} {t : ByteArray} (h : o = some l) (ht : t = ofL l) (hb : Below w.heap.size w w') : NodePost w o (.returned (.tuple #[.string t, .bool true])) w' := by
  subst h
  exact ⟨t, rfl, fun l' h' => by cases h'; exact ht, hb⟩
theorem NodePost.none {w w' : World} {o : Option (List UInt8)} {t : ByteArray} (h : o = none) (hb : Below w.heap.size w w') : NodePost w o (.returned (.tuple #[.string t, .bool false])) w' := by
  subst h
  exact ⟨t, rfl, fun l' h' => (by cases h'), hb⟩
theorem node_laid (w : World) (v v0 v1 v2 v3 v4 v5 : Value) (t1 t2 : TypeId) : ∃ u, (w.alloc (.cells #[v] t1)).alloc (.cells #[v0, v1, v2, v3, v4, v5] t2) = u ∧ w.heap.size + 1 < u.heap.size ∧ Below w.heap.size w u ∧ u.cell? ⟨w.heap.size, 0, none⟩ = some v ∧
    (u.cell? ⟨w.heap.size + 1, 0, none⟩ = some v0 ∧ u.cell? ⟨w.heap.size + 1, 1, none⟩ = some v1 ∧ u.cell? ⟨w.heap.size + 1, 2, none⟩ = some v2 ∧ u.cell? ⟨w.heap.size + 1, 3, none⟩ = some v3 ∧ u.cell? ⟨w.heap.size + 1, 4, none⟩ = some v4 ∧ u.cell? ⟨w.heap.size + 1, 5, none⟩ = some v5) := by
  obtain ⟨u1, h1, s1, b1, c1, _⟩ := laid_one2 w v t1
  obtain ⟨u2, h2, s2, b2, c2, f2⟩ := laid6 u1 v0 v1 v2 v3 v4 v5 t2
  rw [s1] at c2 s2
  refine ⟨u2, by rw [h1, h2], by omega, b1.trans (b2.mono b1.size), ?_, c2⟩
  rw [b2.cell (p := ⟨w.heap.size, 0, none⟩) (by show w.heap.size < _; omega)]; exact c1

set_option maxRecDepth 20000 in
theorem node_1 {w : World} {Q : List NdQ} {S : List ByteArray} {T : List (List UInt8)} {aq a2 : Option Addr} {n : Nat} {q : NdQ} (cq ct : Nat) (h : NodeIn w Q S T aq a2 n q) (hop : q.op = 1) :
    Calls Tryd.prog 23 #[.agg #[.slice aq n cq], .slice a2 n ct, q.agg] w fun e w' => NodePost w (nodeT T ((ndsOf Q).map fun v => v.1) q.val) e w' := by
  obtain ⟨hq, hn, hn1, hS, hm, hT, hTL, hf, hl, hK, hP⟩ := h
  obtain ⟨op, qa, qb, neg, sa, sl, sc, set, ka, kl, kc, kids⟩ := q
  simp only [] at hl hK hop
  obtain ⟨u, hu, su, bu, c, c0, c1, c2, c3, c4, c5⟩ := node_laid w (.slice aq n cq) (.int .i64 op) (.int .i64 qa) (.int .i64 qb) (.bool neg) (.slice sa sl sc) (.slice ka kl kc) 29 38
  have HBU := Lib.hid bu
  have HV := Lib.hid (show nodeT T ((ndsOf Q).map fun v => v.1) (NdQ.mk op qa qb neg sa sl sc set ka kl kc kids).val = some [] by subst hop; simp [nodeT, NdQ.val])
  subst hop
  clear hq hn hS hm hT hTL hf hl hK hP bu su
  go_enter Tryd.func23, Tryd.ntmps23
  go_wp2
  go_ret2
  exact NodePost.some HV.out rfl HBU.out
set_option maxRecDepth 20000 in
theorem node_3 {w : World} {Q : List NdQ} {S : List ByteArray} {T : List (List UInt8)} {aq a2 : Option Addr} {n : Nat} {q : NdQ} (cq ct : Nat) (h : NodeIn w Q S T aq a2 n q) (hop : q.op = 3) :
    Calls Tryd.prog 23 #[.agg #[.slice aq n cq], .slice a2 n ct, q.agg] w fun e w' => NodePost w (nodeT T ((ndsOf Q).map fun v => v.1) q.val) e w' := by
  obtain ⟨hq, hn, hn1, hS, hm, hT, hTL, hf, hl, hK, hP⟩ := h
  obtain ⟨op, qa, qb, neg, sa, sl, sc, set, ka, kl, kc, kids⟩ := q
  simp only [] at hl hK hop
  obtain ⟨u, hu, su, bu, c, c0, c1, c2, c3, c4, c5⟩ := node_laid w (.slice aq n cq) (.int .i64 op) (.int .i64 qa) (.int .i64 qb) (.bool neg) (.slice sa sl sc) (.slice ka kl kc) 29 38
  have HBU := Lib.hid bu
  have HV := Lib.hid (show nodeT T ((ndsOf Q).map fun v => v.1) (NdQ.mk op qa qb neg sa sl sc set ka kl kc kids).val = some [46] by subst hop; simp [nodeT, NdQ.val])
  subst hop
  clear hq hn hS hm hT hTL hf hl hK hP bu su
  go_enter Tryd.func23, Tryd.ntmps23
  go_wp2
  go_ret2
  exact NodePost.some HV.out rfl HBU.out
set_option maxRecDepth 20000 in
theorem node_5 {w : World} {Q : List NdQ} {S : List ByteArray} {T : List (List UInt8)} {aq a2 : Option Addr} {n : Nat} {q : NdQ} (cq ct : Nat) (h : NodeIn w Q S T aq a2 n q) (hop : q.op = 5) :
    Calls Tryd.prog 23 #[.agg #[.slice aq n cq], .slice a2 n ct, q.agg] w fun e w' => NodePost w (nodeT T ((ndsOf Q).map fun v => v.1) q.val) e w' := by
  obtain ⟨hq, hn, hn1, hS, hm, hT, hTL, hf, hl, hK, hP⟩ := h
  obtain ⟨op, qa, qb, neg, sa, sl, sc, set, ka, kl, kc, kids⟩ := q
  simp only [] at hl hK hop
  obtain ⟨u, hu, su, bu, c, c0, c1, c2, c3, c4, c5⟩ := node_laid w (.slice aq n cq) (.int .i64 op) (.int .i64 qa) (.int .i64 qb) (.bool neg) (.slice sa sl sc) (.slice ka kl kc) 29 38
  have HBU := Lib.hid bu
  have HV := Lib.hid (show nodeT T ((ndsOf Q).map fun v => v.1) (NdQ.mk op qa qb neg sa sl sc set ka kl kc kids).val = some [94] by subst hop; simp [nodeT, NdQ.val])
  subst hop
  clear hq hn hS hm hT hTL hf hl hK hP bu su
  go_enter Tryd.func23, Tryd.ntmps23
  go_wp2
  go_ret2
  exact NodePost.some HV.out rfl HBU.out
set_option maxRecDepth 20000 in
theorem node_6 {w : World} {Q : List NdQ} {S : List ByteArray} {T : List (List UInt8)} {aq a2 : Option Addr} {n : Nat} {q : NdQ} (cq ct : Nat) (h : NodeIn w Q S T aq a2 n q) (hop : q.op = 6) :
    Calls Tryd.prog 23 #[.agg #[.slice aq n cq], .slice a2 n ct, q.agg] w fun e w' => NodePost w (nodeT T ((ndsOf Q).map fun v => v.1) q.val) e w' := by
  obtain ⟨hq, hn, hn1, hS, hm, hT, hTL, hf, hl, hK, hP⟩ := h
  obtain ⟨op, qa, qb, neg, sa, sl, sc, set, ka, kl, kc, kids⟩ := q
  simp only [] at hl hK hop
  obtain ⟨u, hu, su, bu, c, c0, c1, c2, c3, c4, c5⟩ := node_laid w (.slice aq n cq) (.int .i64 op) (.int .i64 qa) (.int .i64 qb) (.bool neg) (.slice sa sl sc) (.slice ka kl kc) 29 38
  have HBU := Lib.hid bu
  have HV := Lib.hid (show nodeT T ((ndsOf Q).map fun v => v.1) (NdQ.mk op qa qb neg sa sl sc set ka kl kc kids).val = some [36] by subst hop; simp [nodeT, NdQ.val])
  subst hop
  clear hq hn hS hm hT hTL hf hl hK hP bu su
  go_enter Tryd.func23, Tryd.ntmps23
  go_wp2
  go_ret2
  exact NodePost.some HV.out rfl HBU.out
set_option maxRecDepth 20000 in
theorem node_0 {w : World} {Q : List NdQ} {S : List ByteArray} {T : List (List UInt8)} {aq a2 : Option Addr} {n : Nat} {q : NdQ} (cq ct : Nat) (h : NodeIn w Q S T aq a2 n q) (hop : q.op ≠ 1 ∧ q.op ≠ 2 ∧ q.op ≠ 3 ∧ q.op ≠ 4 ∧ q.op ≠ 5 ∧ q.op ≠ 6 ∧ q.op ≠ 7 ∧ q.op ≠ 8 ∧ q.op ≠ 9) :
    Calls Tryd.prog 23 #[.agg #[.slice aq n cq], .slice a2 n ct, q.agg] w fun e w' => NodePost w (nodeT T ((ndsOf Q).map fun v => v.1) q.val) e w' := by
  obtain ⟨hq, hn, hn1, hS, hm, hT, hTL, hf, hl, hK, hP⟩ := h
  obtain ⟨op, qa, qb, neg, sa, sl, sc, set, ka, kl, kc, kids⟩ := q
  simp only [] at hl hK hop
  obtain ⟨u, hu, su, bu, c, c0, c1, c2, c3, c4, c5⟩ := node_laid w (.slice aq n cq) (.int .i64 op) (.int .i64 qa) (.int .i64 qb) (.bool neg) (.slice sa sl sc) (.slice ka kl kc) 29 38
  have HBU := Lib.hid bu
  have HV := Lib.hid (show nodeT T ((ndsOf Q).map fun v => v.1) (NdQ.mk op qa qb neg sa sl sc set ka kl kc kids).val = none by simp [nodeT, NdQ.val, hop])
  have e1 : (op == 1) = false := by rw [beq_eq_false_iff_ne]; omega
  have e2 : (op == 2) = false := by rw [beq_eq_false_iff_ne]; omega
  have e3 : (op == 3) = false := by rw [beq_eq_false_iff_ne]; omega
  have e4 : (op == 4) = false := by rw [beq_eq_false_iff_ne]; omega
  have e5 : (op == 5) = false := by rw [beq_eq_false_iff_ne]; omega
  have e6 : (op == 6) = false := by rw [beq_eq_false_iff_ne]; omega
  have e7 : (op == 7) = false := by rw [beq_eq_false_iff_ne]; omega
  have e8 : (op == 8) = false := by rw [beq_eq_false_iff_ne]; omega
  have e9 : (op == 9) = false := by rw [beq_eq_false_iff_ne]; omega
  clear hq hn hS hm hT hTL hf hl hK hP bu su hop
  go_enter Tryd.func23, Tryd.ntmps23
  go_wp2
  go_ret2
  exact NodePost.none HV.out HBU.out
set_option maxRecDepth 20000 in
theorem node_4 {w : World} {Q : List NdQ} {S : List ByteArray} {T : List (List UInt8)} {aq a2 : Option Addr} {n : Nat} {q : NdQ} (cq ct : Nat) (h : NodeIn w Q S T aq a2 n q) (hop : q.op = 4) :
    Calls Tryd.prog 23 #[.agg #[.slice aq n cq], .slice a2 n ct, q.agg] w fun e w' => NodePost w (nodeT T ((ndsOf Q).map fun v => v.1) q.val) e w' := by
  obtain ⟨hq, hn, hn1, hS, hm, hT, hTL, hf, hl, hK, hP⟩ := h
  obtain ⟨op, qa, qb, neg, sa, sl, sc, set, ka, kl, kc, kids⟩ := q
  simp only [] at hl hK hop
  obtain ⟨u, hu, su, bu, c, c0, c1, c2, c3, c4, c5⟩ := node_laid w (.slice aq n cq) (.int .i64 op) (.int .i64 qa) (.int .i64 qb) (.bool neg) (.slice sa sl sc) (.slice ka kl kc) 29 38
  have HBU := Lib.hid bu
  have HV := Lib.hid (show nodeT T ((ndsOf Q).map fun v => v.1) (NdQ.mk op qa qb neg sa sl sc set ka kl kc kids).val = setT neg set by subst hop; simp only [NdQ.val]; unfold nodeT setT; rw [if_neg (show ¬ (4 : Int) = 1 by decide), if_neg (show ¬ (4 : Int) = 2 by decide), if_neg (show ¬ (4 : Int) = 3 by decide), if_neg (show ¬ (4 : Int) = 5 by decide), if_neg (show ¬ (4 : Int) = 6 by decide), if_pos rfl])
  have hC := setText_any (NdQ.mk op qa qb neg sa sl sc set ka kl kc kids) u (hf.below bu) hl.1
  simp only [NdQ.agg] at hC
  subst hop
  have HC := Lib.hid hC
  clear hq hn hS hm hT hTL hf hl hK hP bu su hC
  go_enter Tryd.func23, Tryd.ntmps23
  go_wp2_with fail
  refine HC.out.mono ?_
  rintro e w1 ⟨rfl, hb1⟩
  have HB1 := Lib.hid (HBU.out.trans (hb1.mono HBU.out.size))
  clear hb1
  go_wp2_with fail
  go_ret2
  rw [HV.out]
  exact ⟨_, rfl, fun l h' => by rw [h']; rfl, HB1.out⟩
set_option maxRecDepth 20000 in
theorem node_2 {w : World} {Q : List NdQ} {S : List ByteArray} {T : List (List UInt8)} {aq a2 : Option Addr} {n : Nat} {q : NdQ} (cq ct : Nat) (h : NodeIn w Q S T aq a2 n q) (hop : q.op = 2) :
    Calls Tryd.prog 23 #[.agg #[.slice aq n cq], .slice a2 n ct, q.agg] w fun e w' => NodePost w (nodeT T ((ndsOf Q).map fun v => v.1) q.val) e w' := by
  obtain ⟨hq, hn, hn1, hS, hm, hT, hTL, hf, hl, hK, hP⟩ := h
  obtain ⟨op, qa, qb, neg, sa, sl, sc, set, ka, kl, kc, kids⟩ := q
  simp only [] at hl hK hop
  obtain ⟨u, hu, su, bu, c, c0, c1, c2, c3, c4, c5⟩ := node_laid w (.slice aq n cq) (.int .i64 op) (.int .i64 qa) (.int .i64 qb) (.bool neg) (.slice sa sl sc) (.slice ka kl kc) 29 38
  have HBU := Lib.hid bu
  have HV := Lib.hid (show nodeT T ((ndsOf Q).map fun v => v.1) (NdQ.mk op qa qb neg sa sl sc set ka kl kc kids).val = (if isPt qa = true then some (chB qa (bs sgnA)) else none) by subst hop; simp only [NdQ.val]; unfold nodeT; rw [if_neg (show ¬ (2 : Int) = 1 by decide), if_pos rfl])
  subst hop
  have k1 := cell_regrown c1
  have cT : ∀ d os, Calls Tryd.prog 29 #[.int .i64 qa, .string ⟨#[92, 94, 36, 46, 91, 124, 40, 41, 42, 43, 63, 123]⟩] (Sort.grow (redrawn u d) os) fun e w'' => e = .returned (.string (chI qa sgnA)) ∧ ∃ p : Regrown, w'' = Sort.grow (redrawn u p.d) p.os := fun d os => Calls.regrown_of (charText_any qa sgnA _ sgnA_asc (by decide) (by decide))
  have cP : ∀ d os, Calls Tryd.prog 30 #[.int .i64 qa] (Sort.grow (redrawn u d) os) fun e w'' => e = .returned (.bool (isPt qa)) ∧ ∃ p : Regrown, w'' = Sort.grow (redrawn u p.d) p.os := fun d os => Calls.regrown_of ((isPoint_any qa _).mono (fun e w' h => ⟨h.1, h.2 ▸ Below.refl _ _⟩))
  clear hq hn hS hm hT hTL hf hl hK hP bu su
  go_enter Tryd.func23, Tryd.ntmps23
  go_wp2
  refine wp_region_quiet_below (by kernel_rfl) (by kernel_rfl) ?_
  with_reducible refine wpQuiet_do (by kernel_rfl) (fun K hK => ?_)
  go_simp
  with_reducible refine hK _ ?_
  clear hK K
  with_reducible refine wpQuiet_do (by kernel_rfl) (fun K hK => ?_)
  go_simp
  with_reducible refine hK _ ?_
  clear hK K
  with_reducible refine wpQuiet_do (by kernel_rfl) (fun K hK => ?_)
  go_simp
  apply Exists.intro
  refine ⟨fun _ => ?_, hK _ ?_⟩
  · with_reducible exact cT _ _
  clear hK K
  with_reducible refine wpQuiet_do (by kernel_rfl) (fun K hK => ?_)
  go_simp
  with_reducible refine hK _ ?_
  clear hK K
  with_reducible refine wpQuiet_do (by kernel_rfl) (fun K hK => ?_)
  go_simp
  with_reducible refine hK _ ?_
  clear hK K
  with_reducible refine wpQuiet_do (by kernel_rfl) (fun K hK => ?_)
  go_simp
  apply Exists.intro
  refine ⟨fun _ => ?_, hK _ ?_⟩
  · with_reducible exact cP _ _
  clear hK K
  with_reducible refine wpQuiet_do (by kernel_rfl) (fun K hK => ?_)
  go_simp
  with_reducible refine hK _ ?_
  clear hK K
  with_reducible refine wpQuiet_do (by kernel_rfl) (fun K hK => ?_)
  go_simp
  with_reducible refine hK _ ?_
  clear hK K
  refine wpQuiet_nil ?_
  intro _ hw'
  obtain ⟨⟨dq, osq⟩, hw''⟩ := hw'
  subst hw''
  have HWQ := Lib.hid (below_regrown u dq osq)
  generalize Sort.grow (redrawn u dq) osq = W at *
  go_wp2
  go_ret2
  rw [HV.out]
  refine ⟨_, by cases isPt qa <;> rfl, fun l h' => ?_, HBU.out.trans (HWQ.out.mono HBU.out.size)⟩
  cases hp : isPt qa
  · rw [hp] at h'; simp at h'
  · rw [hp] at h'
    simp only [if_true, Option.some.injEq] at h'
    rw [← h']
    exact chI_pt hp sgnA_asc
end Go.Proofs.YtpolpihgclemnaaDoor
