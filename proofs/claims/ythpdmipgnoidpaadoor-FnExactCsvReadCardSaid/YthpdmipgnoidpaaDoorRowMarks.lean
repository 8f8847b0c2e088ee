/-
  A slice of rows of strings that a call owns, every row in a block of its own; the laws' helpers markRowS, heldRowS and eqRowS on it. Condition: bounds.
-/
import Derived.Test.YthpdmipgnoidpaaDoorMost
import Derived.Test.YthpdmipgnoidpaaDoorRowL
import Derived.Test.YthpdmipgnoidpaaDoorStrMarks
import Derived.Test.YthpdmipgnoidpaaDoorOutRow
namespace Go.Proofs.YthpdmipgnoidpaaDoor
open Go.RowKit
set_option linter.unusedVariables false
set_option linter.unusedSimpArgs false

instance : Inhabited RowQ := ⟨⟨none, 0, 0, []⟩⟩
/-- rows of different types lie in different blocks -/
theorem own_types {w : World} {B B' : Nat} {e e' : TypeId} {v v' : Value} {n n' : Nat} {xs xs' : List Value} (h : w.ownsRow B e 1 v n xs) (h' : w.ownsRow B' e' 1 v' n' xs') (he : e ≠ e') : v.ownBlock = none ∨ v.ownBlock ≠ v'.ownBlock := by
  rcases h.2 with ⟨rfl, h0⟩ | ⟨g, cap, cur, rfl, _, hg, _⟩
  · exact .inl rfl
  · right
    rcases h'.2 with ⟨rfl, _⟩ | ⟨g', cap', cur', rfl, _, hg', _⟩
    · simp [Value.ownBlock]
    · simp only [Value.ownBlock, ne_eq, Option.some.injEq]
      rintro rfl
      rw [hg] at hg'
      simp only [Option.some.injEq, Obj.cells.injEq] at hg'
      exact he hg'.2.1
theorem rowTypes : (9 : TypeId) ≠ 60 := by decide

/-- rows of the call's own: what a row holds by its place, all blocks ahead of T, no two the same -/
structure RowsOf (w : World) (B : Nat) (v : Value) (Q : List RowQ) (T : Nat) (f : Nat → List Value) : Prop where
  outer : w.ownsRow B 60 1 v Q.length (Q.map RowQ.v)
  each : ∀ i, (h : i < Q.length) → 0 < (Q[i]).l ∧ w.ownsRow B 9 1 (Q[i]).v (Q[i]).l (f i) ∧ ∀ k, (Q[i]).v.ownBlock = some k → k < T
  dist : ∀ i j, (hi : i < Q.length) → (hj : j < Q.length) → i ≠ j → (Q[i]).v.ownBlock ≠ (Q[j]).v.ownBlock
/-- .. that hold strings -/
abbrev RowsIn (w : World) (B : Nat) (v : Value) (Q : List RowQ) (T : Nat) : Prop := RowsOf w B v Q T (fun i => ((Q.getD i default).ss).map Value.string)
theorem RowsOf.below {w w' : World} {B T : Nat} {v : Value} {Q : List RowQ} {f : Nat → List Value} (h : RowsOf w B v Q T f) (hb : Below w.heap.size w w') : RowsOf w' B v Q T f :=
  ⟨ownsRow_below h.outer hb, fun i hi => ⟨(h.each i hi).1, ownsRow_below (h.each i hi).2.1 hb, (h.each i hi).2.2⟩, h.dist⟩
theorem RowsOf.most {w w' : World} {B T p : Nat} {v : Value} {Q : List RowQ} {f : Nat → List Value} (h : RowsOf w B v Q T f) (hb : Mostly p w w') (hp : p < B) : RowsOf w' B v Q T f := by
  have key : ∀ {e v n xs}, w.ownsRow B e 1 v n xs → v.ownBlock ≠ some p := fun ho he => by
    have := ho.lt p he; omega
  exact ⟨hb.ownsRow h.outer (key h.outer), fun i hi => ⟨(h.each i hi).1, hb.ownsRow (h.each i hi).2.1 (key (h.each i hi).2.1), (h.each i hi).2.2⟩, h.dist⟩
theorem RowsOf.base {w : World} {B B' T : Nat} {v : Value} {Q : List RowQ} {f : Nat → List Value} (h : RowsOf w B v Q T f) (hb : B' ≤ B) : RowsOf w B' v Q T f :=
  ⟨ownsRow_base h.outer hb, fun i hi => ⟨(h.each i hi).1, ownsRow_base (h.each i hi).2.1 hb, (h.each i hi).2.2⟩, h.dist⟩
theorem RowsOf.top {w : World} {B T T' : Nat} {v : Value} {Q : List RowQ} {f : Nat → List Value} (h : RowsOf w B v Q T f) (ht : T ≤ T') : RowsOf w B v Q T' f :=
  ⟨h.outer, fun i hi => ⟨(h.each i hi).1, (h.each i hi).2.1, fun k hk => Nat.lt_of_lt_of_le ((h.each i hi).2.2 k hk) ht⟩, h.dist⟩
theorem RowsOf.all {w : World} {B T : Nat} {v : Value} {Q : List RowQ} {f : Nat → List Value} (h : RowsOf w B v Q T f) : RowsOf w B v Q w.heap.size f :=
  ⟨h.outer, fun i hi => ⟨(h.each i hi).1, (h.each i hi).2.1, fun k hk => ((h.each i hi).2.1.lt k hk).2⟩, h.dist⟩
theorem RowsOf.congr {w : World} {B T : Nat} {v : Value} {Q : List RowQ} {f f' : Nat → List Value} (h : RowsOf w B v Q T f) (hf : ∀ i, i < Q.length → f i = f' i) : RowsOf w B v Q T f' :=
  ⟨h.outer, fun i hi => ⟨(h.each i hi).1, by rw [← hf i hi]; exact (h.each i hi).2.1, (h.each i hi).2.2⟩, h.dist⟩
theorem rowsIn_none (w : World) (B T : Nat) : RowsIn w B (.slice none 0 0) [] T :=
  ⟨ownsRow_none _ _ _, fun i hi => by simp at hi, fun i j hi => by simp at hi⟩
theorem rowsIn_empty (w : World) (B T : Nat) (hB : B ≤ w.heap.size) : RowsIn (w.alloc (.cells #[] 60)) B (.slice (some ⟨w.heap.size, 0, none⟩) 0 0) [] T :=
  ⟨ownsRow_empty _ _ _ hB, fun i hi => by simp at hi, fun i j hi => by simp at hi⟩
theorem getD_ss (Q : List RowQ) {i : Nat} (h : i < Q.length) : Q.getD i default = Q[i] := by simp [h]
/-- one more row, in a block from T on -/
theorem RowsOf.push {w w' : World} {B T : Nat} {v v' : Value} {Q : List RowQ} (h : RowsIn w B v Q T) (q : RowQ) (hq : w.ownsRow T 9 1 q.v q.l (q.ss.map Value.string)) (hl : 0 < q.l) (hB : B ≤ T)
    (ho : w'.ownsRow B 60 1 v' (Q.length + 1) (Q.map RowQ.v ++ [q.v])) (hg : w.grownBy w' v.ownBlock) : RowsIn w' B v' (Q ++ [q]) w'.heap.size := by
  have hk : ∀ {u : Value} {n : Nat} {xs : List Value} {b : Nat}, w.ownsRow b 9 1 u n xs → w'.ownsRow b 9 1 u n xs := fun ho => ho.kept hg (own_types ho h.outer rowTypes)
  have hold : ∀ i, (hi : i < Q.length) → w'.ownsRow B 9 1 (Q[i]).v (Q[i]).l ((Q[i]).ss.map Value.string) := fun i hi => by
    have h1 := h.each i hi
    have h2 := h1.2.1
    rw [getD_ss Q hi] at h2
    exact hk h2
  have hnew : w'.ownsRow T 9 1 q.v q.l (q.ss.map Value.string) := hk hq
  have hblk : ∀ k, q.v.ownBlock = some k → T ≤ k := fun k hk => (hq.lt k hk).1
  have hqs : q.v.ownBlock ≠ none := by
    obtain ⟨g, cap, hv, _⟩ := ownsRow_some hq hl
    rw [hv]; simp [Value.ownBlock]
  obtain ⟨kq, hkq⟩ := Option.ne_none_iff_exists'.1 hqs
  have hlen : (Q ++ [q]).length = Q.length + 1 := by simp
  have hdist : ∀ i, (hi : i < Q.length) → (Q[i]).v.ownBlock ≠ q.v.ownBlock := fun i hi e => by
    have h1 := (h.each i hi).2.2 kq (by rw [e]; exact hkq)
    have h2 := hblk kq hkq
    omega
  refine ⟨?_, fun i hi => ?_, fun i j hi hj hne => ?_⟩
  · rw [List.map_append, hlen]; exact ho
  · rw [hlen] at hi
    by_cases e : i < Q.length
    · have e1 : (Q ++ [q])[i]'(by rw [hlen]; exact hi) = Q[i] := List.getElem_append_left e
      have e2 : (Q ++ [q]).getD i default = Q[i] := by rw [getD_ss _ (by rw [hlen]; exact hi), e1]
      rw [e1]
      refine ⟨(h.each i e).1, ?_, fun k hk => ((hold i e).lt k hk).2⟩
      show w'.ownsRow B _ 1 _ _ (((Q ++ [q]).getD i default).ss.map Value.string)
      rw [e2]
      exact hold i e
    · obtain rfl : i = Q.length := by omega
      have e1 : (Q ++ [q])[Q.length]'(by rw [hlen]; exact hi) = q := by simp
      have e2 : (Q ++ [q]).getD Q.length default = q := by rw [getD_ss _ (by rw [hlen]; exact hi), e1]
      rw [e1]
      refine ⟨hl, ?_, fun k hk => (hnew.lt k hk).2⟩
      show w'.ownsRow B _ 1 _ _ (((Q ++ [q]).getD Q.length default).ss.map Value.string)
      rw [e2]
      exact ownsRow_base hnew hB
  · rw [hlen] at hi hj
    by_cases e : i < Q.length
    · have e1 : (Q ++ [q])[i]'(by rw [hlen]; exact hi) = Q[i] := List.getElem_append_left e
      rw [e1]
      by_cases e' : j < Q.length
      · have e3 : (Q ++ [q])[j]'(by rw [hlen]; exact hj) = Q[j] := List.getElem_append_left e'
        rw [e3]
        exact h.dist i j e e' hne
      · obtain rfl : j = Q.length := by omega
        have e3 : (Q ++ [q])[Q.length]'(by rw [hlen]; exact hj) = q := by simp
        rw [e3]
        exact hdist i e
    · obtain rfl : i = Q.length := by omega
      have e1 : (Q ++ [q])[Q.length]'(by rw [hlen]; exact hi) = q := by simp
      have e' : j < Q.length := by omega
      have e3 : (Q ++ [q])[j]'(by rw [hlen]; exact hj) = Q[j] := List.getElem_append_left e'
      rw [e1, e3]
      exact (hdist j e').symm

/-- rows stand while a row of strings from T on grows -/
theorem RowsOf.beside {w w' : World} {B T n : Nat} {v u : Value} {xs : List Value} {Q : List RowQ} {f : Nat → List Value} (h : RowsOf w B v Q T f) (hu : w.ownsRow T 9 1 u n xs) (hg : w.grownBy w' u.ownBlock) : RowsOf w' B v Q T f := by
  refine ⟨h.outer.kept hg (own_types h.outer hu rowTypes.symm), fun i hi => ⟨(h.each i hi).1, (h.each i hi).2.1.kept hg ?_, (h.each i hi).2.2⟩, h.dist⟩
  by_cases e : (Q[i]).v.ownBlock = none
  · exact .inl e
  · right
    intro e2
    obtain ⟨k, hk⟩ := Option.ne_none_iff_exists'.1 e
    have h1 := (h.each i hi).2.2 k hk
    have h2 := (hu.lt k (by rw [← e2]; exact hk)).1
    omega
/-- the empty literal, or rows of the call's own -/
def OutRows (w : World) (B : Nat) (v : Value) (Q : List RowQ) (T : Nat) : Prop := (Q = [] ∧ ∃ g, v = .slice (some ⟨g, 0, none⟩) 0 0) ∨ RowsIn w B v Q T
theorem OutRows.below {w w' : World} {B T : Nat} {v : Value} {Q : List RowQ} (h : OutRows w B v Q T) (hb : Below w.heap.size w w') : OutRows w' B v Q T := by
  rcases h with h | h
  · exact .inl h
  · exact .inr (h.below hb)
theorem OutRows.most {w w' : World} {B T p : Nat} {v : Value} {Q : List RowQ} (h : OutRows w B v Q T) (hb : Mostly p w w') (hp : p < B) : OutRows w' B v Q T := by
  rcases h with h | h
  · exact .inl h
  · exact .inr (RowsOf.most h hb hp)
theorem OutRows.top {w : World} {B T T' : Nat} {v : Value} {Q : List RowQ} (h : OutRows w B v Q T) (ht : T ≤ T') : OutRows w B v Q T' := by
  rcases h with h | h
  · exact .inl h
  · exact .inr (RowsOf.top h ht)
theorem OutRows.beside {w w' : World} {B T n : Nat} {v u : Value} {xs : List Value} {Q : List RowQ} (h : OutRows w B v Q T) (hu : w.ownsRow T 9 1 u n xs) (hg : w.grownBy w' u.ownBlock) : OutRows w' B v Q T := by
  rcases h with h | h
  · exact .inl h
  · exact .inr (RowsOf.beside h hu hg)
theorem OutRows.slice {w : World} {B T : Nat} {v : Value} {Q : List RowQ} (h : OutRows w B v Q T) : ∃ a c, v = .slice a Q.length c := by
  rcases h with ⟨rfl, g, rfl⟩ | h
  · exact ⟨_, _, rfl⟩
  · obtain ⟨a, c, hv⟩ := ownsRow_slice h.outer
    exact ⟨a, c, hv⟩
/-- append of one row to such rows -/
theorem wpList_push_row {P : Program} {w : World} {ops : Array Oper} {rest : List Oper} {o : Oper} {a : Act} {Q : Exit → Act → World → Prop} (hgd : o.guard = none) (s x : Operand) (t : TypeId)
    (ho : o.op = .call { callee := .builtin .append, args := #[s, x], argTypes := #[t, t] })
    (B T : Nat) (i : TypeInfo) (z : Value) (bytes : Nat) (ht : P.underlying t = some (.slice 60)) (hi : P.info? 60 = some i) (hz : i.zero = some z)
    (hsize : i.size = 1) (hby : i.bytes = bytes) (hzs : z.cells.size = 1)
    (v : Value) (L : List RowQ) (n : Nat) (hn : L.length = n) (hs : a.eval s = v) (hown : OutRows w B v L T)
    (q : RowQ) (hq : w.ownsRow T 9 1 q.v q.l (q.ss.map Value.string)) (hl : 0 < q.l) (hB : B ≤ T)
    (ad : Addr) (c : Nat) (hx : a.eval x = .slice (some ad) 1 c) (hnews : w.cell? (ad.add 0) = some q.v)
    (h63 : n + 1 ≤ maxLen) (hbytes : (n + 1) * bytes ≤ 140737488355328) (hbase : B ≤ w.heap.size)
    (h : ∀ v' w', RowsIn w' B v' (L ++ [q]) w'.heap.size → Below B w w' → wpList P ops Q rest (a.put o.dst v') w') : wpList P ops Q (o :: rest) a w := by
  subst hn
  have hN : ∀ j u, [q.v][j]? = some u → w.cell? (ad.add j) = some u := fun j u hj => by
    rcases j with _ | j
    · simp at hj; subst hj; exact hnews
    · simp at hj
  have hone : ∀ u ∈ [q.v], u.oneCell' = true := fun u hu => by simp at hu; subst hu; rfl
  rcases hown with ⟨rfl, g, rfl⟩ | hown
  · refine wpList_plain hgd fun K hK => ?_
    obtain ⟨v', w', hrun, r1, r2⟩ := run_append_arg_grows (P := P) w t o.type 60 i z 1 bytes ht hi hz hsize hby hzs (by decide) ⟨g, 0, none⟩ 0 0 [] (by simp) (fun j u hj => by simp at hj) ad 1 c [q.v] (by simp) hN (by omega) h63 hbytes
    unfold Oper.wp execOp
    simp only [ho, resolve, invoke, builtin, Sem.run_bind, Sem.run_pure, Result.andThen_ok, List.map_toArray, List.map_cons, List.map_nil, hs, hx, hrun]
    refine hK _ _ (h v' w' ?_ (Below.grown (Below.refl _ _) r2 hbase (fun k hk => by simp at hk)))
    exact RowsOf.push (rowsIn_none w B T) q hq hl hB (ownsRow_base r1 hbase) r2
  · refine wpList_append_own w hgd s x t ho B 60 i z 1 bytes ht hi hz hsize hby hzs (by decide) v L.length (L.map RowQ.v) hs hown.outer ad 1 c [q.v] hx (by simp) hN hone h63 hbytes hbase (fun v' w' h2 h3 _ => ?_)
    exact h v' w' (RowsOf.push hown q hq hl hB h2 h3) (Below.grown (Below.refl _ _) h3 hbase (ownBlock_lo hown.outer))

/-- .. as a slice of rows that is read -/
theorem RowsOf.read {w : World} {B T : Nat} {a : Option Addr} {n cap : Nat} {Q : List RowQ} (h : RowsIn w B (.slice a n cap) Q T) (hn : Q.length = n) : RowR w a Q := by
  refine ⟨?_, fun q hq => ?_⟩
  · by_cases h0 : Q = []
    · exact .inl h0
    · right
      obtain ⟨g, c, hv, _, hlt⟩ := ownsRow_some h.outer (List.length_pos_iff.2 h0)
      simp only [Value.slice.injEq] at hv
      obtain ⟨rfl, _, rfl⟩ := hv
      refine ⟨g, 0, rfl, hlt, fun i hi => ?_⟩
      have := h.outer
      rw [hn] at this
      rw [Nat.zero_add, this.cellAt i (by omega), List.getElem?_map, List.getElem?_eq_getElem hi]
      rfl
  · obtain ⟨i, hi, rfl⟩ := List.getElem_of_mem hq
    obtain ⟨h1, h2, _⟩ := h.each i hi
    rw [getD_ss Q hi] at h2
    have h3 : (Q[i]).ss.length = (Q[i]).l := by simpa using h2.1
    have h4 : w.ownsRow B 9 1 (.slice (Q[i]).a (Q[i]).l (Q[i]).c) (Q[i]).l ((Q[i]).ss.map Value.string) := h2
    refine ⟨rowS_owns h4, h3, ?_⟩
    rcases h4.2 with ⟨_, h0⟩ | ⟨g, cap', cur, hv, _, _, hc, _⟩
    · omega
    · simp only [Value.slice.injEq] at hv
      omega
/-- how many strings stand in the first j rows -/
def offs (Q : List RowQ) : Nat → Nat
  | 0 => 0
  | j + 1 => offs Q j + (Q.getD j default).l
theorem offs_le (Q : List RowQ) (N : Nat) (hq : ∀ q ∈ Q, q.l ≤ N) : ∀ j, j ≤ Q.length → offs Q j ≤ j * N
  | 0, _ => by simp [offs]
  | j + 1, h => by
    have := offs_le Q N hq j (by omega)
    have h2 := hq (Q[j]'(by omega)) (List.getElem_mem _)
    rw [offs, getD_ss Q (by omega), Nat.succ_mul]
    omega
end Go.Proofs.YthpdmipgnoidpaaDoor
