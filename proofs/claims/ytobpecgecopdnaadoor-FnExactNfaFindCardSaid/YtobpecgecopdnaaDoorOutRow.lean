/-
  append onto a slice that is either the empty literal or a row of the call's own from a place of memory on. No program here. No condition.
-/
import Derived.Test.YtobpecgecopdnaaDoorOwns
import Derived.Deep.RegionLawGrows
import Derived.Laws.AppendOwn
import Derived.ArgAppend
namespace Go.Proofs.YtobpecgecopdnaaDoor
open Go.RowKit

/-- the empty literal, or a row of the call's own from B on -/
def OutRow (w : World) (B : Nat) (e : TypeId) (v : Value) (n : Nat) (xs : List Value) : Prop :=
  (∃ g, v = .slice (some ⟨g, 0, none⟩) 0 0 ∧ n = 0 ∧ xs = []) ∨ w.ownsRow B e 1 v n xs
theorem OutRow.below {w w' : World} {B : Nat} {e : TypeId} {v : Value} {n : Nat} {xs : List Value} (h : OutRow w B e v n xs) (hb : Below w.heap.size w w') : OutRow w' B e v n xs := by
  rcases h with h | h
  · exact .inl h
  · exact .inr (ownsRow_below h hb)

theorem wpList_append_out {P : Program} {w : World} {ops : Array Oper} {rest : List Oper} {o : Oper} {a : Act} {Q : Exit → Act → World → Prop} (hgd : o.guard = none) (s x : Operand) (t : TypeId)
    (ho : o.op = .call { callee := .builtin .append, args := #[s, x], argTypes := #[t, t] })
    (B : Nat) (e : TypeId) (i : TypeInfo) (z : Value) (bytes : Nat) (ht : P.underlying t = some (.slice e)) (hi : P.info? e = some i) (hz : i.zero = some z)
    (hsize : i.size = 1) (hby : i.bytes = bytes) (hzs : z.cells.size = 1)
    (v : Value) (n : Nat) (xs : List Value) (hs : a.eval s = v) (hown : OutRow w B e v n xs)
    (ad : Addr) (m c : Nat) (news : List Value) (hx : a.eval x = .slice (some ad) m c) (hl : news.length = m) (hm : 1 ≤ m) (hnews : ∀ j u, news[j]? = some u → w.cell? (ad.add j) = some u) (h1 : ∀ u ∈ news, u.oneCell' = true)
    (h63 : n + m ≤ maxLen) (hbytes : (n + m) * bytes ≤ 140737488355328) (hbase : B ≤ w.heap.size)
    (h : ∀ v' w', w'.ownsRow B e 1 v' (n + m) (xs ++ news) → Below B w w' → wpList P ops Q rest (a.put o.dst v') w') : wpList P ops Q (o :: rest) a w := by
  rcases hown with ⟨g, rfl, rfl, rfl⟩ | hown
  · refine wpList_plain hgd fun K hK => ?_
    obtain ⟨v', w', hrun, r1, r2⟩ := run_append_arg_grows (P := P) w t o.type e i z 1 bytes ht hi hz hsize hby hzs (by decide) ⟨g, 0, none⟩ 0 0 [] (by simp) (fun j u hj => by simp at hj) ad m c news (by omega) hnews (by omega) h63 hbytes
    unfold Oper.wp execOp
    simp only [ho, resolve, invoke, builtin, Sem.run_bind, Sem.run_pure, Result.andThen_ok, List.map_toArray, List.map_cons, List.map_nil, hs, hx, hrun]
    exact hK _ _ (h v' w' (ownsRow_base r1 hbase) (Below.grown (Below.refl _ _) r2 hbase (fun k hk => by simp at hk)))
  · refine wpList_append_own w hgd s x t ho B e i z 1 bytes ht hi hz hsize hby hzs (by decide) v n xs hs hown ad m c news hx (by omega) hnews h1 h63 hbytes hbase (fun v' w' h2 h3 _ => ?_)
    exact h v' w' h2 (Below.grown (Below.refl _ _) h3 hbase (ownBlock_lo hown))
theorem ownsRow_cap {w : World} {b : Nat} {e : TypeId} {a : Option Addr} {c n : Nat} {xs : List Value} (h : w.ownsRow b e 1 (.slice a n c) n xs) : n ≤ c ∧ c ≤ maxLen := by
  rcases h.2 with ⟨h1, rfl⟩ | ⟨g, cap, cur, hv, hg, hh, h1, h2, h3, h4⟩
  · simp only [Value.slice.injEq] at h1
    obtain ⟨_, _, rfl⟩ := h1
    exact ⟨Nat.le_refl _, Nat.zero_le _⟩
  · simp only [Value.slice.injEq, true_and] at hv
    obtain ⟨rfl, rfl⟩ := hv
    exact ⟨h1, h2⟩
/-- a beginning of a row -/
theorem ownsRow_take {w : World} {b : Nat} {e : TypeId} {a : Option Addr} {c n k : Nat} {xs : List Value} (h : w.ownsRow b e 1 (.slice a n c) n xs) (hk : k ≤ n) (hn : 0 < n) : w.ownsRow b e 1 (.slice a k c) k (xs.take k) := by
  rcases h.2 with ⟨_, h0⟩ | ⟨g, cap, cur, hv, hg, hh, h1, h2, h3, h4⟩
  · omega
  · simp only [Value.slice.injEq, true_and] at hv
    obtain ⟨rfl, rfl⟩ := hv
    have hl := h.1
    refine ⟨by rw [List.length_take]; omega, .inr ⟨g, c, cur, rfl, hg, hh, by omega, h2, h3, ?_⟩⟩
    rw [← h4, List.take_take, Nat.mul_one, Nat.mul_one, Nat.min_eq_left hk]
end Go.Proofs.YtobpecgecopdnaaDoor
