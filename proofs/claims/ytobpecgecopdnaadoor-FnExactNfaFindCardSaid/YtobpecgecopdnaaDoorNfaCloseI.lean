/-
  A closing of threads under way in memory: what holds at each turn of its inner loop, and how it goes on. No condition.
-/
import Derived.Test.YtobpecgecopdnaaDoorNfaRunM
import Derived.Test.YtobpecgecopdnaaDoorRunes
namespace Go.Proofs.YtobpecgecopdnaaDoor
open Go.RowKit
set_option linter.unusedVariables false
set_option linter.unusedSimpArgs false

/-- the cells of a row of threads -/
def thC (T : List Thr) : List Value := T.flatMap fun t => [.int .i64 (t.1 : Int), .int .i64 (t.2 : Int)]
theorem thC_append (T U : List Thr) : thC (T ++ U) = thC T ++ thC U := by simp [thC]
theorem thC_one (t : Thr) : thC [t] = [.int .i64 (t.1 : Int), .int .i64 (t.2 : Int)] := rfl
theorem thC_len (T : List Thr) : (thC T).length = T.length * 2 := by
  induction T with
  | nil => rfl
  | cons t T ih =>
    show (thC ([t] ++ T)).length = _
    rw [thC_append, List.length_append, ih, thC_one]
    simp
    omega
theorem thC_get : ∀ (T : List Thr) (k : Nat) (h : k < T.length), (thC T)[k * 2]? = some (.int .i64 (T[k].1 : Int)) ∧ (thC T)[k * 2 + 1]? = some (.int .i64 (T[k].2 : Int))
  | [], k, h => absurd h (Nat.not_lt_zero _)
  | t :: T, 0, h => ⟨rfl, rfl⟩
  | t :: T, k + 1, h => by
    have := thC_get T k (by simpa using h)
    have e0 : (k + 1) * 2 = k * 2 + 2 := by omega
    have e1 : (k + 1) * 2 + 1 = k * 2 + 1 + 2 := by omega
    rw [e0]
    exact this
theorem ownsTh_slice {w : World} {B : Nat} {e : TypeId} {v : Value} {n : Nat} {xs : List Value} (h : w.ownsRow B e 2 v n xs) : ∃ a c, v = .slice a n c := by
  rcases h.2 with ⟨rfl, rfl⟩ | ⟨g, cap, cur, rfl, _⟩
  · exact ⟨none, 0, rfl⟩
  · exact ⟨_, cap, rfl⟩
theorem ownTypes2 {w : World} {B B' sz sz' : Nat} {e e' : TypeId} {v v' : Value} {n n' : Nat} {xs xs' : List Value} (h : w.ownsRow B e sz v n xs) (h' : w.ownsRow B' e' sz' v' n' xs') (he : e ≠ e') : v.ownBlock = none ∨ v.ownBlock ≠ v'.ownBlock := by
  rcases h.2 with ⟨rfl, h0⟩ | ⟨g, cap, cur, rfl, _, hg, _⟩
  · exact .inl rfl
  · right
    rcases h'.2 with ⟨rfl, _⟩ | ⟨g', cap', cur', rfl, _, hg', _⟩
    · simp [Value.ownBlock]
    · simp only [Value.ownBlock, ne_eq, Option.some.injEq]
      rintro rfl
      rw [hg] at hg'
      simp only [Option.some.injEq, Obj.cells.injEq] at hg'
      exact he hg'.2.1
theorem ownsRow_b2 {w w' : World} {B : Nat} {e : TypeId} {k : Nat} {v : Value} {n : Nat} {xs : List Value} (h : w.ownsRow B e k v n xs) (hb : Below w.heap.size w w') : w'.ownsRow B e k v n xs := by
  refine ⟨h.1, ?_⟩
  rcases h.2 with hn | ⟨g, cap, cur, rfl, hg, hh, rest⟩
  · exact .inl hn
  · exact .inr ⟨g, cap, cur, rfl, hg, by rw [hb.block g (Array.getElem?_eq_some_iff.1 hh).1]; exact hh, rest⟩
/-- is a mark the round's -/
def isP (p : Nat) : Value → Bool
  | .int _ x => decide (x = (p : Int) + 1)
  | _ => false
structure CloI (w : World) (r sg n tb : Nat) (ov lv0 : Value) (V : List OpV) (L p : Nat) (P : List Thr) (t : Thr) (r0 : Int × Int) (av lv : Value) (wr : World) (st : List Nat) (M : Nat → Bool) (A : List Thr) (r1 : Int × Int) (S : Nat → Nat) : Prop where
  stk : wr.ownsRow w.heap.size 3 1 lv st.length (st.map intV)
  act : wr.ownsRow w.heap.size 88 2 av A.length (thC A)
  run : RunM wr r ov lv0 (.slice (some ⟨sg, 0, none⟩) n n) r1
  mks : Marks wr sg n (fun j => .int .i64 (S j : Int))
  seen : ∀ j, j < n → (S j = p + 1 ↔ M j = true)
  most : Most2 r sg w wr
  clo : CloseI (sucV V L) (rdgV V) (n - 1) p P t M A st r0 r1
  lt : ∀ j ∈ st, j < n
  alt : ∀ a ∈ A, a.1 < n
  sle : ∀ j, j < n → S j ≤ p + 1
  sum : st.length + 2 * unm n M ≤ 2 * n + 1
  cnt : A.length + unm n M ≤ n
  var : ∃ z, wr.heap[tb]? = some (.cells #[.int .i64 (t.1 : Int), .int .i64 (t.2 : Int)] 88 z)
  anb : av.ownBlock ≠ some tb
  nil : A = [] → av = .slice none 0 0
/-- a row of two or more threads that grew lies not in a block of two cells -/
theorem act_fresh {w w' : World} {B tb m : Nat} {e : TypeId} {v v' : Value} {xs xs' : List Value} {c : Array Value} {z : Nat × Nat} (hg : w.grownBy w' v.ownBlock) (h' : w'.ownsRow B e 2 v' (m + 1) xs') (hm : 1 ≤ m) (hb : w.heap[tb]? = some (.cells c e z)) (hc : c.size = 2) (hne : v.ownBlock ≠ some tb) : v'.ownBlock ≠ some tb := by
  rcases h'.2 with ⟨rfl, _⟩ | ⟨g, cap, cur, rfl, _, hh, h1, _, h3, _⟩
  · simp [Value.ownBlock]
  · simp only [Value.ownBlock, ne_eq, Option.some.injEq]
    rintro rfl
    have hlt : g < w.heap.size := (Array.getElem?_eq_some_iff.1 hb).1
    rw [hg.block g hlt (fun e => hne e.symm), hb] at hh
    simp only [Option.some.injEq, Obj.cells.injEq] at hh
    rw [← hh.1] at h3
    omega
section
variable {w wr w' : World} {r sg n tb L p j : Nat} {ov lv0 av av' lv lv' : Value} {V : List OpV} {P : List Thr} {t : Thr} {r0 r1 r2 : Int × Int} {st st2 : List Nat} {M : Nat → Bool} {A A2 : List Thr} {S : Nat → Nat}
theorem stkLen {w : World} {B : Nat} {e : TypeId} {v : Value} {n : Nat} {xs : List Value} (h : w.ownsRow B e 1 v n xs) : lenV v = n := by
  obtain ⟨a, c, rfl⟩ := ownsRow_slice h
  rfl
theorem CloI.meas (c : CloI w r sg n tb ov lv0 V L p P t r0 av lv wr st M A r1 S) : 2 * unm n (mOf (isP p) wr sg) + lenV lv = 2 * unm n M + st.length := by
  rw [stkLen c.stk, unm_of c.mks (M := M) (fun j hj => ?_)]
  show decide ((S j : Int) = (p : Int) + 1) = M j
  have := c.seen j hj
  cases hm : M j
  · rw [decide_eq_false_iff_not]
    intro h
    have := this.1 (by omega)
    rw [hm] at this
    cases this
  · rw [decide_eq_true_eq]
    have := this.2 hm
    omega
theorem CloI.skip (c : CloI w r sg n tb ov lv0 V L p P t r0 av lv wr (st ++ [j]) M A r1 S) (hj : M j = true) (stk : wr.ownsRow w.heap.size 3 1 lv' st.length (st.map intV)) :
    CloI w r sg n tb ov lv0 V L p P t r0 av lv' wr st M A r1 S ∧ 2 * unm n (mOf (isP p) wr sg) + lenV lv' < 2 * unm n (mOf (isP p) wr sg) + lenV lv := by
  have h1 := stkLen c.stk
  have h2 := stkLen stk
  have h3 := c.sum
  rw [List.length_append] at h1 h3
  simp at h1 h3
  exact ⟨⟨stk, c.act, c.run, c.mks, c.seen, c.most, c.clo.skip hj, fun k hk => c.lt k (by simp [hk]), c.alt, c.sle, by omega, c.cnt, c.var, c.anb, c.nil⟩, by omega⟩
theorem CloI.take (c : CloI w r sg n tb ov lv0 V L p P t r0 av lv wr (st ++ [j]) M A r1 S) (hj : M j = false) (hb : OpBd n j (opAt V j))
    (stk : w'.ownsRow w.heap.size 3 1 lv' st2.length (st2.map intV)) (act : w'.ownsRow w.heap.size 88 2 av' A2.length (thC A2)) (run : RunM w' r ov lv0 (.slice (some ⟨sg, 0, none⟩) n n) r2)
    (mks : Marks w' sg n (fun x => if x = j then .int .i64 ((p : Int) + 1) else .int .i64 (S x : Int))) (most : Most2 r sg w w')
    (hs : ∀ k, k ∈ st2 ↔ k ∈ st ∨ k ∈ sucV V L p j) (hl : st2.length ≤ st.length + 2) (hA : A2 = if rdgV V j = true then A ++ [(j, t.2)] else A) (hr : r2 = if j = n - 1 then upd r1 t.2 p else r1)
    (var : ∃ z, w'.heap[tb]? = some (.cells #[.int .i64 (t.1 : Int), .int .i64 (t.2 : Int)] 88 z)) (anb : av'.ownBlock ≠ some tb) (nil : A2 = [] → av' = .slice none 0 0) :
    CloI w r sg n tb ov lv0 V L p P t r0 av' lv' w' st2 (mkd M j) A2 r2 (fun x => if x = j then p + 1 else S x) ∧ 2 * unm n (mOf (isP p) w' sg) + lenV lv' < 2 * unm n (mOf (isP p) wr sg) + lenV lv := by
  have hjn : j < n := c.lt j (by simp)
  have h1 := c.meas
  have h3 := c.sum
  have h4 := unm_set hjn hj
  have h5 := c.cnt
  rw [List.length_append] at h1 h3
  simp at h1 h3
  have hal : A2.length ≤ A.length + 1 := by rw [hA]; split <;> simp
  have hC : CloI w r sg n tb ov lv0 V L p P t r0 av' lv' w' st2 (mkd M j) A2 r2 (fun x => if x = j then p + 1 else S x) := by
    refine ⟨stk, act, run, mks.congr fun x _ => ?_, fun x hx => ?_, most, c.clo.take hj hs hA hr, fun k hk => ?_, fun a ha => ?_, fun x hx => ?_, by omega, by omega, var, anb, nil⟩
    · split <;> simp
    · by_cases e : x = j
      · subst e; simp [mkd]
      · rw [if_neg e, mkd_other e]; exact c.seen x hx
    · rcases (hs k).1 hk with h6 | h6
      · exact c.lt k (by simp [h6])
      · exact suc_lt hb hjn h6
    · rw [hA] at ha
      split at ha
      · rcases List.mem_append.1 ha with h6 | h6
        · exact c.alt a h6
        · simp at h6; rw [h6]; exact hjn
      · exact c.alt a ha
    · show (if x = j then p + 1 else S x) ≤ p + 1
      split
      · omega
      · exact c.sle x hx
  have h2 := hC.meas
  exact ⟨hC, by omega⟩
end
/-- a closing of threads between two threads -/
structure CloO (w : World) (r sg n : Nat) (ov lv0 : Value) (V : List OpV) (L p : Nat) (P : List Thr) (r0 : Int × Int) (av : Value) (wr : World) (M : Nat → Bool) (A : List Thr) (r1 : Int × Int) (S : Nat → Nat) : Prop where
  act : wr.ownsRow w.heap.size 88 2 av A.length (thC A)
  run : RunM wr r ov lv0 (.slice (some ⟨sg, 0, none⟩) n n) r1
  mks : Marks wr sg n (fun j => .int .i64 (S j : Int))
  seen : ∀ j, j < n → (S j = p + 1 ↔ M j = true)
  most : Most2 r sg w wr
  clo : CloseP (sucV V L) (rdgV V) (n - 1) p P M A r0 r1
  alt : ∀ a ∈ A, a.1 < n
  sle : ∀ j, j < n → S j ≤ p + 1
  cnt : A.length + unm n M ≤ n
  nil : A = [] → av = .slice none 0 0
theorem CloO.start {w : World} {r sg n L p : Nat} {ov lv0 : Value} {V : List OpV} {r0 : Int × Int} {S : Nat → Nat} (hr : RunM w r ov lv0 (.slice (some ⟨sg, 0, none⟩) n n) r0) (hm : Marks w sg n (fun j => .int .i64 (S j : Int))) (hs : ∀ j, j < n → S j ≤ p) :
    CloO w r sg n ov lv0 V L p [] r0 (.slice none 0 0) w (fun _ => false) [] r0 S :=
  ⟨World.ownsRow_nil _ _ _ _, hr, hm, fun j hj => ⟨fun h => by have := hs j hj; omega, fun h => by cases h⟩, .refl _ _ _, closeP_start _, fun a h => by simp at h, fun j hj => by have := hs j hj; omega, by have := unm_le n (fun _ => false); simp; omega, fun _ => rfl⟩
theorem CloO.begin {w wr u u3 : World} {r sg n L p : Nat} {ov lv0 av : Value} {V : List OpV} {P : List Thr} {t : Thr} {r0 r1 : Int × Int} {M : Nat → Bool} {A : List Thr} {S : Nat → Nat} (c : CloO w r sg n ov lv0 V L p P r0 av wr M A r1 S) (ht : t.1 < n) (hlo : ∀ t' ∈ P, t'.2 ≤ t.2)
    (hu : wr.alloc (.cells #[.int .i64 (t.1 : Int), .int .i64 (t.2 : Int)] 88) = u) (hu3 : u.alloc (.cells #[.int .i64 (t.1 : Int)] 3) = u3) :
    CloI w r sg n wr.heap.size ov lv0 V L p P t r0 av (.slice (some ⟨u.heap.size, 0, none⟩) 1 1) u3 [t.1] M A r1 S := by
  have b1 : Below wr.heap.size wr u := by rw [← hu]; exact (Below.refl _ _).alloc (Nat.le_refl _) _
  have b2 : Below u.heap.size u u3 := by rw [← hu3]; exact (Below.refl _ _).alloc (Nat.le_refl _) _
  have b3 : Below wr.heap.size wr u3 := b1.trans (b2.mono b1.size)
  have hsz := c.most.size
  have h1 := b1.size
  refine ⟨?_, ownsRow_b2 c.act b3, c.run.below b3, c.mks.below b3, c.seen, c.most.call b3, c.clo.begin hlo, fun j hj => by simp at hj; omega, c.alt, c.sle, ?_, c.cnt, ?_, ?_, c.nil⟩
  · rw [← hu3]; exact ownsRow_one _ _ _ _ (by omega)
  · have := unm_le n M; simp; omega
  · refine ⟨(0, 0), ?_⟩
    rw [b2.block wr.heap.size (by rw [← hu]; simp)]
    rw [← hu]
    exact Array.getElem?_push_size
  · intro e
    rcases c.act.2 with ⟨rfl, _⟩ | ⟨g, cap, cur, rfl, _, hg, _⟩
    · simp [Value.ownBlock] at e
    · simp [Value.ownBlock] at e
      have := (Array.getElem?_eq_some_iff.1 hg).1
      omega
theorem CloI.finish {w wr : World} {r sg n tb L p : Nat} {ov lv0 av lv : Value} {V : List OpV} {P : List Thr} {t : Thr} {r0 r1 : Int × Int} {M : Nat → Bool} {A : List Thr} {S : Nat → Nat} (c : CloI w r sg n tb ov lv0 V L p P t r0 av lv wr [] M A r1 S) : CloO w r sg n ov lv0 V L p (P ++ [t]) r0 av wr M A r1 S :=
  ⟨c.act, c.run, c.mks, c.seen, c.most, c.clo.done, c.alt, c.sle, c.cnt, c.nil⟩
end Go.Proofs.YtobpecgecopdnaaDoor
