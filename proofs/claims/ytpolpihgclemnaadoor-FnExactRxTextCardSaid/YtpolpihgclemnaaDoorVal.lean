/-
  Plain facts on naturals as rows of digits: a row's number (val), a number's row (dec), a row of so many places (digs). No program here. No condition.
-/
import Derived.Test.YtpolpihgclemnaaDoorText
import Derived.Lib.Bytealg
namespace Go.Proofs.YtpolpihgclemnaaDoor

/-- the number of a row of digits -/
def val (l : List UInt8) : Nat := l.foldl (fun a c => 10 * a + (c.toNat - 48)) 0

theorem val_nil : val [] = 0 := rfl
theorem val_snoc (l : List UInt8) (c : UInt8) : val (l ++ [c]) = 10 * val l + (c.toNat - 48) := by
  unfold val; rw [List.foldl_append]; rfl
theorem val_fold (l : List UInt8) : ∀ a, l.foldl (fun a c => 10 * a + (c.toNat - 48)) a = a * 10 ^ l.length + val l := by
  induction l with
  | nil => intro a; simp [val]
  | cons c l ih =>
    intro a
    unfold val
    rw [List.foldl_cons, List.foldl_cons, ih, ih (10 * 0 + (c.toNat - 48)), List.length_cons, Nat.pow_succ, Nat.add_mul, Nat.mul_zero, Nat.zero_add, Nat.mul_comm 10 a, Nat.mul_assoc, Nat.mul_comm 10]
    omega
theorem val_append (l r : List UInt8) : val (l ++ r) = val l * 10 ^ r.length + val r := by
  unfold val; rw [List.foldl_append, val_fold]; rfl
theorem val_cons (c : UInt8) (l : List UInt8) : val (c :: l) = (c.toNat - 48) * 10 ^ l.length + val l := by
  have := val_append [c] l
  simpa [val] using this
theorem isDig_le {c : UInt8} (h : isDig c = true) : 48 ≤ c.toNat ∧ c.toNat ≤ 57 := by
  have := (isDig_iff c).1 h; omega
theorem val_lt : ∀ (l : List UInt8), l.all isDig = true → val l < 10 ^ l.length
  | [], _ => by simp [val]
  | c :: l, h => by
    rw [List.all_cons, Bool.and_eq_true] at h
    have hc := isDig_le h.1
    have ih := val_lt l h.2
    rw [val_cons, List.length_cons, Nat.pow_succ]
    have : (c.toNat - 48) * 10 ^ l.length ≤ 9 * 10 ^ l.length := Nat.mul_le_mul_right _ (by omega)
    omega

/-- a number's row, without needless noughts -/
def dec (n : Nat) : List UInt8 := if n < 10 then [UInt8.ofNat (48 + n)] else dec (n / 10) ++ [UInt8.ofNat (48 + n % 10)]
termination_by n
decreasing_by omega

theorem ofNat_dig {d : Nat} (h : d < 10) : (UInt8.ofNat (48 + d)).toNat = 48 + d := by
  rw [UInt8.toNat_ofNat']; omega
theorem isDig_of {d : Nat} (h : d < 10) : isDig (UInt8.ofNat (48 + d)) = true := by
  rw [isDig_iff, ofNat_dig h]; omega
theorem dec_small {n : Nat} (h : n < 10) : dec n = [UInt8.ofNat (48 + n)] := by rw [dec, if_pos h]
theorem dec_big {n : Nat} (h : ¬ n < 10) : dec n = dec (n / 10) ++ [UInt8.ofNat (48 + n % 10)] := by rw [dec, if_neg h]
theorem dec_zero : dec 0 = [48] := dec_small (by omega)

theorem dec_all : ∀ n : Nat, (dec n).all isDig = true := by
  intro n
  induction n using Nat.strongRecOn with
  | ind n ih =>
    by_cases h : n < 10
    · rw [dec_small h, List.all_cons, List.all_nil, isDig_of h]; rfl
    · rw [dec_big h, List.all_append, ih (n / 10) (by omega), List.all_cons, List.all_nil, isDig_of (Nat.mod_lt n (by omega : 10 > 0))]; rfl
theorem val_dec : ∀ n : Nat, val (dec n) = n := by
  intro n
  induction n using Nat.strongRecOn with
  | ind n ih =>
    by_cases h : n < 10
    · rw [dec_small h, ← List.nil_append [_], val_snoc, val_nil, ofNat_dig h]; omega
    · rw [dec_big h, val_snoc, ih (n / 10) (by omega), ofNat_dig (Nat.mod_lt n (by omega : 10 > 0))]; omega
theorem dec_ne (n : Nat) : dec n ≠ [] := by
  by_cases h : n < 10
  · rw [dec_small h]; simp
  · rw [dec_big h]; simp
theorem dec_len (n : Nat) : 1 ≤ (dec n).length := by
  have := dec_ne n
  cases h : dec n with
  | nil => exact absurd h this
  | cons c l => simp

/-- a row without needless noughts -/
structure Canon (l : List UInt8) : Prop where
  dig : l.all isDig = true
  ne : l ≠ []
  head : l.length = 1 ∨ l.head? ≠ some 48

theorem head_app (l : List UInt8) (r : List UInt8) (h : l ≠ []) : (l ++ r).head? = l.head? := by
  cases l with
  | nil => exact absurd rfl h
  | cons c l => rfl
theorem dec_head : ∀ n : Nat, n ≠ 0 → (dec n).head? ≠ some 48 := by
  intro n
  induction n using Nat.strongRecOn with
  | ind n ih =>
    intro h0
    by_cases h : n < 10
    · rw [dec_small h]
      simp only [List.head?_cons, ne_eq, Option.some.injEq]
      intro e
      have := congrArg UInt8.toNat e
      rw [ofNat_dig h] at this
      have z : (48 : UInt8).toNat = 48 := rfl
      omega
    · rw [dec_big h, head_app _ _ (dec_ne _)]
      exact ih (n / 10) (by omega) (by omega)
theorem dec_canon (n : Nat) : Canon (dec n) := by
  refine ⟨dec_all n, dec_ne n, ?_⟩
  by_cases h : n = 0
  · left; rw [h, dec_zero]; rfl
  · right; exact dec_head n h

theorem ofNat_back {c : UInt8} (h : isDig c = true) : UInt8.ofNat (48 + (c.toNat - 48)) = c := by
  have := isDig_le h
  apply UInt8.toNat_inj.1
  rw [UInt8.toNat_ofNat']
  have := c.toNat_lt
  omega

/-- a row of digits with something in it is taken up by dec, its noughts ahead dropped -/
theorem dec_val_snoc (l : List UInt8) (c : UInt8) (hc : isDig c = true) (hl : 0 < val l) : dec (val (l ++ [c])) = dec (val l) ++ [c] := by
  have hc' := isDig_le hc
  rw [val_snoc, dec_big (by omega)]
  congr 2
  · congr 1; omega
  · rw [show (10 * val l + (c.toNat - 48)) % 10 = c.toNat - 48 by omega, ofNat_back hc]

theorem val_pos {c : UInt8} {l : List UInt8} (h : isDig c = true) (hn : c ≠ 48) : 0 < val (c :: l) := by
  have hc := isDig_le h
  have : c.toNat ≠ 48 := fun e => hn (UInt8.toNat_inj.1 (by rw [e]; rfl))
  rw [val_cons]
  have := Nat.mul_le_mul_right (10 ^ l.length) (show 1 ≤ c.toNat - 48 by omega)
  have := Nat.pow_pos (n := l.length) (show 0 < 10 by omega)
  omega

theorem rev_ind {P : List UInt8 → Prop} (h0 : P []) (h1 : ∀ l c, P l → P (l ++ [c])) : ∀ l, P l := by
  intro l
  have : ∀ r : List UInt8, P r.reverse := by
    intro r
    induction r with
    | nil => exact h0
    | cons c r ih => rw [List.reverse_cons]; exact h1 _ _ ih
  have e := this l.reverse
  rwa [List.reverse_reverse] at e

theorem dec_val_head (c : UInt8) (hc : isDig c = true) (hn : c ≠ 48) : ∀ l : List UInt8, l.all isDig = true → dec (val (c :: l)) = c :: l := by
  intro l
  refine rev_ind (P := fun l => l.all isDig = true → dec (val (c :: l)) = c :: l) ?_ ?_ l
  · intro _
    have hc' := isDig_le hc
    rw [val_cons, val_nil, List.length_nil, Nat.pow_zero, Nat.mul_one, Nat.add_zero, dec_small (by omega), ofNat_back hc]
  · intro l d ih ha
    rw [List.all_append, Bool.and_eq_true] at ha
    have hd : isDig d = true := by simpa using ha.2
    rw [← List.cons_append, dec_val_snoc (c :: l) d hd (val_pos hc hn), ih ha.1]

theorem canon_dec {l : List UInt8} (h : Canon l) : dec (val l) = l := by
  obtain ⟨ha, hne, hh⟩ := h
  cases l with
  | nil => exact absurd rfl hne
  | cons c l =>
    rw [List.all_cons, Bool.and_eq_true] at ha
    by_cases hc : c = 48
    · subst hc
      rcases hh with hh | hh
      · have : l = [] := by simpa using hh
        subst this
        rw [show val [48] = 0 from rfl, dec_zero]
      · simp at hh
    · exact dec_val_head c ha.1 hc l ha.2
theorem canon_inj {l r : List UInt8} (hl : Canon l) (hr : Canon r) (h : val l = val r) : l = r := by
  rw [← canon_dec hl, ← canon_dec hr, h]

/-- noughts ahead are dropped; "0" where nothing is left -/
def trimZ : List UInt8 → List UInt8
  | [] => [48]
  | c :: l => if c = 48 then trimZ l else c :: l
theorem trimZ_dec : ∀ l : List UInt8, l.all isDig = true → trimZ l = dec (val l)
  | [], _ => by rw [val_nil, dec_zero]; rfl
  | c :: l, h => by
    rw [List.all_cons, Bool.and_eq_true] at h
    unfold trimZ
    by_cases hc : c = 48
    · rw [if_pos hc, trimZ_dec l h.2, hc, val_cons]
      simp
    · rw [if_neg hc, dec_val_head c h.1 hc l h.2]

theorem natOk_canon {l : List UInt8} (h : natOk l = true) : Canon l ∧ l.length ≤ 600 := by
  unfold natOk at h
  simp only [Bool.and_eq_true, decide_eq_true_eq, Bool.or_eq_true, bne_iff_ne] at h
  obtain ⟨h1, ⟨h2, h3⟩, h4⟩ := h
  exact ⟨⟨h1, fun e => by rw [e] at h2; simp at h2, h4⟩, h3⟩
theorem canon_natOk {l : List UInt8} (h : Canon l) (h3 : l.length ≤ 600) : natOk l = true := by
  obtain ⟨h1, h2, h4⟩ := h
  unfold natOk
  simp only [Bool.and_eq_true, decide_eq_true_eq, Bool.or_eq_true, bne_iff_ne]
  exact ⟨h1, ⟨List.length_pos_iff.2 h2, h3⟩, h4⟩

/-- how long a number's row is -/
theorem dec_len_le : ∀ (k n : Nat), 1 ≤ k → n < 10 ^ k → (dec n).length ≤ k
  | 0, _, h, _ => by omega
  | k + 1, n, _, h => by
    by_cases hn : n < 10
    · rw [dec_small hn]; simp
    · rw [dec_big hn, List.length_append]
      have hk : 1 ≤ k := by
        by_cases e : k = 0
        · subst e; simp at h; omega
        · omega
      have := dec_len_le k (n / 10) hk (by rw [Nat.pow_succ] at h; omega)
      simp; omega
theorem dec_len_ge (n : Nat) (h0 : n ≠ 0) : 10 ^ ((dec n).length - 1) ≤ n := by
  induction n using Nat.strongRecOn with
  | ind n ih =>
    by_cases hn : n < 10
    · rw [dec_small hn]; simp; omega
    · have ih' := ih (n / 10) (by omega) (by omega)
      rw [dec_big hn, List.length_append]
      have := dec_len (n / 10)
      have e : (dec (n / 10)).length + [UInt8.ofNat (48 + n % 10)].length - 1 = ((dec (n / 10)).length - 1) + 1 := by simp; omega
      rw [e, Nat.pow_succ]
      omega

/-- the digit of a number at a place from its end -/
def dgt (v i : Nat) : Nat := v / 10 ^ i % 10
theorem dgt_lt (v i : Nat) : dgt v i < 10 := Nat.mod_lt _ (by omega)
theorem dgt_zero (v : Nat) : dgt v 0 = v % 10 := by simp [dgt]
theorem dgt_succ (v i : Nat) : dgt v (i + 1) = dgt (v / 10) i := by
  unfold dgt; rw [Nat.pow_succ, Nat.mul_comm, Nat.div_div_eq_div_mul]
theorem dgt_val : ∀ (l : List UInt8), l.all isDig = true → ∀ i (h : i < l.length), dgt (val l) i = (l[l.length - 1 - i]'(by omega)).toNat - 48 := by
  intro l
  refine rev_ind (P := fun l => l.all isDig = true → ∀ i (h : i < l.length), dgt (val l) i = (l[l.length - 1 - i]'(by omega)).toNat - 48) ?_ ?_ l
  · intro _ i h; simp at h
  · intro l c ih ha i h
    rw [List.all_append, Bool.and_eq_true] at ha
    have hc : isDig c = true := by simpa using ha.2
    have hc' := isDig_le hc
    rw [val_snoc]
    cases i with
    | zero =>
      rw [dgt_zero]
      have e : (l ++ [c])[(l ++ [c]).length - 1 - 0]'(by simp) = c := by simp
      rw [e]; omega
    | succ i =>
      rw [dgt_succ, show (10 * val l + (c.toNat - 48)) / 10 = val l by omega]
      simp at h
      rw [ih ha.1 i h]
      congr 2
      rw [List.getElem_append_left (by simp; omega)]
      congr 1
      simp; omega
theorem dgt_over {v i : Nat} (h : v < 10 ^ i) : dgt v i = 0 := by
  unfold dgt; rw [Nat.div_eq_of_lt h]

/-- a row of n places -/
def digs (v : Nat) : Nat → List UInt8
  | 0 => []
  | n + 1 => digs (v / 10) n ++ [UInt8.ofNat (48 + v % 10)]
theorem digs_length : ∀ (n v : Nat), (digs v n).length = n
  | 0, _ => rfl
  | n + 1, v => by simp [digs, digs_length n]
theorem digs_all : ∀ (n v : Nat), (digs v n).all isDig = true
  | 0, _ => rfl
  | n + 1, v => by rw [digs, List.all_append, digs_all n, List.all_cons, List.all_nil, isDig_of (Nat.mod_lt v (by omega : 10 > 0))]; rfl
theorem val_digs : ∀ (n v : Nat), v < 10 ^ n → val (digs v n) = v
  | 0, v, h => by simp at h; subst h; rfl
  | n + 1, v, h => by
    rw [digs, val_snoc, val_digs n (v / 10) (by rw [Nat.pow_succ] at h; omega), ofNat_dig (Nat.mod_lt v (by omega : 10 > 0))]; omega
theorem digs_cons : ∀ (n v : Nat), digs v (n + 1) = UInt8.ofNat (48 + dgt v n) :: digs v n
  | 0, v => by simp [digs, dgt]
  | n + 1, v => by
    have e : digs v (n + 2) = digs (v / 10) (n + 1) ++ [UInt8.ofNat (48 + v % 10)] := rfl
    have e2 : digs v (n + 1) = digs (v / 10) n ++ [UInt8.ofNat (48 + v % 10)] := rfl
    rw [e, digs_cons n (v / 10), e2, dgt_succ, List.cons_append]
theorem digs_get : ∀ (n v j : Nat) (h : j < n), (digs v n)[j]'(by rw [digs_length]; exact h) = UInt8.ofNat (48 + dgt v (n - 1 - j))
  | 0, _, j, h => by omega
  | n + 1, v, 0, h => by simp [digs_cons]
  | n + 1, v, j + 1, h => by
    have := digs_get n v j (by omega)
    simp only [digs_cons, List.getElem_cons_succ]
    rw [this]
    congr 3
    omega
/-- a row of places, trimmed -/
theorem trimZ_digs {n v : Nat} (h : v < 10 ^ n) : trimZ (digs v n) = dec v := by
  rw [trimZ_dec _ (digs_all n v), val_digs n v h]

/-! ### comparing -/
def cmpN (a b : Nat) : Int := if a < b then -1 else if a = b then 0 else 1

theorem canon_low {l : List UInt8} (h : Canon l) (h2 : 2 ≤ l.length) : 10 ^ (l.length - 1) ≤ val l := by
  obtain ⟨ha, hne, hh⟩ := h
  cases l with
  | nil => exact absurd rfl hne
  | cons c l =>
    rw [List.all_cons, Bool.and_eq_true] at ha
    have hc : c ≠ 48 := by
      rcases hh with hh | hh
      · omega
      · intro e; subst e; simp at hh
    have hd := isDig_le ha.1
    have : c.toNat ≠ 48 := fun e => hc (UInt8.toNat_inj.1 (by rw [e]; rfl))
    rw [val_cons, List.length_cons, Nat.add_sub_cancel]
    have := Nat.mul_le_mul_right (10 ^ l.length) (show 1 ≤ c.toNat - 48 by omega)
    omega
theorem canon_shorter {l r : List UInt8} (hl : Canon l) (hr : Canon r) (h : l.length < r.length) : val l < val r := by
  have h1 := val_lt l hl.dig
  have hl0 : 1 ≤ l.length := List.length_pos_iff.2 hl.ne
  have h2 := canon_low hr (by omega)
  have h3 : 10 ^ l.length ≤ 10 ^ (r.length - 1) := Nat.pow_le_pow_right (by omega) (by omega)
  omega
theorem val_pad (c d : UInt8) (x y : List UInt8) (hx : x.all isDig = true) (hy : y.all isDig = true) (hc : isDig c = true) (hd : isDig d = true) (h : x.length = y.length) :
    (c.toNat < d.toNat → val (c :: x) < val (d :: y)) ∧ (c = d → (val (c :: x) < val (d :: y) ↔ val x < val y)) := by
  have h1 := val_lt x hx
  have h2 := val_lt y hy
  have h3 := isDig_le hc
  have h4 := isDig_le hd
  rw [val_cons, val_cons, h] at *
  refine ⟨fun hlt => ?_, fun e => ?_⟩
  · have h5 := Nat.mul_le_mul_right (10 ^ y.length) (show c.toNat - 48 + 1 ≤ d.toNat - 48 by omega)
    rw [Nat.add_mul] at h5
    omega
  · subst e; omega
theorem u8_lt_iff (c d : UInt8) : c < d ↔ c.toNat < d.toNat := UInt8.lt_iff_toNat_lt
theorem less_val : ∀ (x y : List UInt8), x.all isDig = true → y.all isDig = true → x.length = y.length → Op.bytesLess x y = decide (val x < val y)
  | [], [], _, _, _ => by simp [Op.bytesLess]
  | [], _ :: _, _, _, h => by simp at h
  | _ :: _, [], _, _, h => by simp at h
  | c :: x, d :: y, hx, hy, h => by
    rw [List.all_cons, Bool.and_eq_true] at hx hy
    have hl : x.length = y.length := by simpa using h
    obtain ⟨p1, p2⟩ := val_pad c d x y hx.2 hy.2 hx.1 hy.1 hl
    obtain ⟨q1, _⟩ := val_pad d c y x hy.2 hx.2 hy.1 hx.1 hl.symm
    have ih := less_val x y hx.2 hy.2 hl
    unfold Op.bytesLess
    by_cases h1 : c.toNat < d.toNat
    · rw [decide_eq_true (p := c < d) ((u8_lt_iff _ _).2 h1), decide_eq_true (p1 h1)]; rfl
    · by_cases h2 : c = d
      · rw [decide_eq_false (p := c < d) (fun h => h1 ((u8_lt_iff _ _).1 h)), ih, h2]
        subst h2
        simp [p2 rfl]
      · have h3 : d.toNat < c.toNat := by
          have : c.toNat ≠ d.toNat := fun e => h2 (UInt8.toNat_inj.1 e)
          omega
        have := q1 h3
        rw [decide_eq_false (p := c < d) (fun h => h1 ((u8_lt_iff _ _).1 h)), decide_eq_false (p := val (c :: x) < val (d :: y)) (by omega)]
        simp [h2]
theorem compare_val : ∀ (x y : List UInt8), x.all isDig = true → y.all isDig = true → x.length = y.length → Lib.compareBytes x y = cmpN (val x) (val y)
  | [], [], _, _, _ => by simp [Lib.compareBytes, cmpN, val]
  | [], _ :: _, _, _, h => by simp at h
  | _ :: _, [], _, _, h => by simp at h
  | c :: x, d :: y, hx, hy, h => by
    rw [List.all_cons, Bool.and_eq_true] at hx hy
    have hl : x.length = y.length := by simpa using h
    obtain ⟨p1, p2⟩ := val_pad c d x y hx.2 hy.2 hx.1 hy.1 hl
    obtain ⟨q1, _⟩ := val_pad d c y x hy.2 hx.2 hy.1 hx.1 hl.symm
    have ih := compare_val x y hx.2 hy.2 hl
    unfold Lib.compareBytes
    by_cases h1 : c.toNat < d.toNat
    · rw [if_pos ((u8_lt_iff _ _).2 h1)]
      unfold cmpN; rw [if_pos (p1 h1)]
    · rw [if_neg (fun h => h1 ((u8_lt_iff _ _).1 h))]
      by_cases h3 : d.toNat < c.toNat
      · have := q1 h3
        rw [if_pos ((u8_lt_iff _ _).2 h3)]
        unfold cmpN; rw [if_neg (by omega), if_neg (by omega)]
      · rw [if_neg (fun h => h3 ((u8_lt_iff _ _).1 h)), ih]
        have h2 : c = d := UInt8.toNat_inj.1 (by omega)
        have p := p2 h2
        subst h2
        unfold cmpN
        by_cases h4 : val x < val y
        · rw [if_pos h4, if_pos (p.2 h4)]
        · rw [if_neg h4, if_neg (fun h => h4 (p.1 h))]
          by_cases h5 : val x = val y
          · rw [if_pos h5, if_pos (by rw [val_cons, val_cons, hl, h5])]
          · rw [if_neg h5, if_neg (fun e => h5 (by rw [val_cons, val_cons, hl] at e; omega))]

/-! ### texts given by their bytes -/
def ofL (l : List UInt8) : ByteArray := ⟨l.toArray⟩
theorem bs_ofL (l : List UInt8) : bs (ofL l) = l := rfl
theorem size_ofL (l : List UInt8) : (ofL l).size = l.length := by rw [← bs_length, bs_ofL]
theorem ofL_bs (s : ByteArray) : ofL (bs s) = s := rfl
theorem bs_inj {s t : ByteArray} (h : bs s = bs t) : s = t := by rw [← ofL_bs s, ← ofL_bs t, h]
theorem trimZ_drop : ∀ l : List UInt8, (match l.dropWhile (· == 48) with | [] => [48] | r => r) = trimZ l
  | [] => rfl
  | c :: l => by
    unfold trimZ
    by_cases h : c = 48
    · rw [if_pos h, List.dropWhile_cons, if_pos (by rw [h]; rfl)]; exact trimZ_drop l
    · rw [if_neg h, List.dropWhile_cons, if_neg (by simpa using h)]
theorem trimZ_canon {l : List UInt8} (h : l.all isDig = true) : Canon (trimZ l) := by rw [trimZ_dec l h]; exact dec_canon _
theorem val_trimZ {l : List UInt8} (h : l.all isDig = true) : val (trimZ l) = val l := by rw [trimZ_dec l h, val_dec]
theorem trimZ_len : ∀ l : List UInt8, (trimZ l).length ≤ l.length + 1
  | [] => by simp [trimZ]
  | c :: l => by
    unfold trimZ
    split
    · have := trimZ_len l; simp; omega
    · simp
end Go.Proofs.YtpolpihgclemnaaDoor
