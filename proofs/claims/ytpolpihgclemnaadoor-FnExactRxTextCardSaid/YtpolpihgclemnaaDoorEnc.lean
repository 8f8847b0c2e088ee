/-
  Plain facts on code points and their bytes: a code point's bytes decode to it, so that bytes begin with bytes as code points with code points; letters that are turned byte by byte. No program here. No condition.
-/
import Derived.Test.YtpolpihgclemnaaDoorUtf
import Derived.Lib.IndexMore
namespace Go.Proofs.YtpolpihgclemnaaDoor
open Go.Lib
set_option linter.unusedVariables false

theorem u8n {n : Nat} (h : n < 256) : n.toUInt8.toNat = n := by
  show n % 2 ^ 8 = n
  exact Nat.mod_eq_of_lt h

theorem ptBytes_one {c : Nat} (h : c < 128) : ptBytes c = [c.toUInt8] := by
  unfold ptBytes encodeRune
  rw [encodeRuneZ_one (by omega) (by omega)]
  rfl
theorem ptBytes_two {c : Nat} (h : 128 ≤ c) (h' : c < 2048) : ptBytes c = [(192 + c / 64).toUInt8, (128 + c % 64).toUInt8] := by
  unfold ptBytes encodeRune
  rw [encodeRuneZ_two (by omega) (by omega)]
  show [(192 + (c : Int) / 64).toNat.toUInt8, (128 + (c : Int) % 64).toNat.toUInt8] = _
  rw [show (192 + (c : Int) / 64).toNat = 192 + c / 64 by omega, show (128 + (c : Int) % 64).toNat = 128 + c % 64 by omega]
theorem ptBytes_three {c : Nat} (h : (2048 ≤ c ∧ c < 55296) ∨ (57343 < c ∧ c < 65536)) : ptBytes c = [(224 + c / 4096).toUInt8, (128 + c / 64 % 64).toUInt8, (128 + c % 64).toUInt8] := by
  unfold ptBytes encodeRune
  rw [encodeRuneZ_three (by omega)]
  show [(224 + (c : Int) / 4096).toNat.toUInt8, (128 + (c : Int) / 64 % 64).toNat.toUInt8, (128 + (c : Int) % 64).toNat.toUInt8] = _
  rw [show (224 + (c : Int) / 4096).toNat = 224 + c / 4096 by omega, show (128 + (c : Int) / 64 % 64).toNat = 128 + c / 64 % 64 by omega, show (128 + (c : Int) % 64).toNat = 128 + c % 64 by omega]
theorem ptBytes_four {c : Nat} (h : 65536 ≤ c) (h' : c ≤ 1114111) : ptBytes c = [(240 + c / 262144).toUInt8, (128 + c / 4096 % 64).toUInt8, (128 + c / 64 % 64).toUInt8, (128 + c % 64).toUInt8] := by
  unfold ptBytes encodeRune
  rw [encodeRuneZ_four (by omega) (by omega)]
  show [(240 + (c : Int) / 262144).toNat.toUInt8, (128 + (c : Int) / 4096 % 64).toNat.toUInt8, (128 + (c : Int) / 64 % 64).toNat.toUInt8, (128 + (c : Int) % 64).toNat.toUInt8] = _
  rw [show (240 + (c : Int) / 262144).toNat = 240 + c / 262144 by omega, show (128 + (c : Int) / 4096 % 64).toNat = 128 + c / 4096 % 64 by omega, show (128 + (c : Int) / 64 % 64).toNat = 128 + c / 64 % 64 by omega, show (128 + (c : Int) % 64).toNat = 128 + c % 64 by omega]
theorem ptBytes_pos (c : Nat) : 1 ≤ (ptBytes c).length ∧ (ptBytes c).length ≤ 4 := by
  have h := encodeRuneZ_length (c : Int)
  unfold ptBytes encodeRune
  rw [List.length_map]
  exact h

/-- THE STEP BACK: a code point's bytes decode to it -/
theorem nx_enc {c : Nat} (h : isPt (c : Int) = true) (rest : List UInt8) : nx (ptBytes c ++ rest) = (c, (ptBytes c).length) := by
  rw [isPt_iff] at h
  by_cases c1 : c < 128
  · rw [ptBytes_one c1, nx_N _ (by simp)]
    have e0 : (([c.toUInt8] ++ rest).getD 0 0).toNat = c := u8n (by omega)
    rw [e0]
    unfold nxN
    rw [if_pos c1, if_pos (by omega)]
    rfl
  by_cases c2 : c < 2048
  · rw [ptBytes_two (by omega) c2, nx_N _ (by simp)]
    have e0 : (([(192 + c / 64).toUInt8, (128 + c % 64).toUInt8] ++ rest).getD 0 0).toNat = 192 + c / 64 := u8n (by omega)
    have e1 : (([(192 + c / 64).toUInt8, (128 + c % 64).toUInt8] ++ rest).getD 1 0).toNat = 128 + c % 64 := u8n (by omega)
    have el : ([(192 + c / 64).toUInt8, (128 + c % 64).toUInt8] ++ rest).length = rest.length + 2 := by simp
    rw [e0, e1, el]
    unfold nxN
    rw [if_neg (by omega), if_pos (by omega), if_pos (by omega)]
    show _ = (c, 2)
    rw [show 64 * (192 + c / 64 - 192) + (128 + c % 64) - 128 = c by omega]
  by_cases c3 : c < 65536
  · rw [ptBytes_three (by omega), nx_N _ (by simp)]
    have e0 : (([(224 + c / 4096).toUInt8, (128 + c / 64 % 64).toUInt8, (128 + c % 64).toUInt8] ++ rest).getD 0 0).toNat = 224 + c / 4096 := u8n (by omega)
    have e1 : (([(224 + c / 4096).toUInt8, (128 + c / 64 % 64).toUInt8, (128 + c % 64).toUInt8] ++ rest).getD 1 0).toNat = 128 + c / 64 % 64 := u8n (by omega)
    have e2 : (([(224 + c / 4096).toUInt8, (128 + c / 64 % 64).toUInt8, (128 + c % 64).toUInt8] ++ rest).getD 2 0).toNat = 128 + c % 64 := u8n (by omega)
    have el : ([(224 + c / 4096).toUInt8, (128 + c / 64 % 64).toUInt8, (128 + c % 64).toUInt8] ++ rest).length = rest.length + 3 := by simp
    have ev : 64 * (64 * (224 + c / 4096 - 224) + (128 + c / 64 % 64) - 128) + (128 + c % 64) - 128 = c := by omega
    rw [e0, e1, e2, el]
    unfold nxN
    rw [if_neg (by omega), if_neg (by omega), if_pos (by omega), ev, if_pos (by omega)]
    rfl
  · rw [ptBytes_four (by omega) (by omega), nx_N _ (by simp)]
    have e0 : (([(240 + c / 262144).toUInt8, (128 + c / 4096 % 64).toUInt8, (128 + c / 64 % 64).toUInt8, (128 + c % 64).toUInt8] ++ rest).getD 0 0).toNat = 240 + c / 262144 := u8n (by omega)
    have e1 : (([(240 + c / 262144).toUInt8, (128 + c / 4096 % 64).toUInt8, (128 + c / 64 % 64).toUInt8, (128 + c % 64).toUInt8] ++ rest).getD 1 0).toNat = 128 + c / 4096 % 64 := u8n (by omega)
    have e2 : (([(240 + c / 262144).toUInt8, (128 + c / 4096 % 64).toUInt8, (128 + c / 64 % 64).toUInt8, (128 + c % 64).toUInt8] ++ rest).getD 2 0).toNat = 128 + c / 64 % 64 := u8n (by omega)
    have e3 : (([(240 + c / 262144).toUInt8, (128 + c / 4096 % 64).toUInt8, (128 + c / 64 % 64).toUInt8, (128 + c % 64).toUInt8] ++ rest).getD 3 0).toNat = 128 + c % 64 := u8n (by omega)
    have el : ([(240 + c / 262144).toUInt8, (128 + c / 4096 % 64).toUInt8, (128 + c / 64 % 64).toUInt8, (128 + c % 64).toUInt8] ++ rest).length = rest.length + 4 := by simp
    have ev : 64 * (64 * (64 * (240 + c / 262144 - 240) + (128 + c / 4096 % 64) - 128) + (128 + c / 64 % 64) - 128) + (128 + c % 64) - 128 = c := by omega
    rw [e0, e1, e2, e3, el]
    unfold nxN
    rw [if_neg (by omega), if_neg (by omega), if_neg (by omega), if_pos (by omega), ev, if_pos (by omega)]
    rfl

/-- the first byte of a code point is no byte of the middle; all others are -/
theorem ptBytes_mid {c : Nat} (h : isPt (c : Int) = true) : ∀ (k : Nat) (x : UInt8), (ptBytes c)[k]? = some x → ((k = 0 ↔ ¬ (128 ≤ x.toNat ∧ x.toNat ≤ 191)) ∧ (128 ≤ c → 128 ≤ x.toNat)) := by
  rw [isPt_iff] at h
  intro k x hx
  by_cases c1 : c < 128
  · rw [ptBytes_one c1] at hx
    rcases k with _ | k
    · obtain rfl : c.toUInt8 = x := by simpa using hx
      rw [u8n (by omega)]; omega
    · simp at hx
  by_cases c2 : c < 2048
  · rw [ptBytes_two (by omega) c2] at hx
    rcases k with _ | _ | k
    · obtain rfl : (192 + c / 64).toUInt8 = x := by simpa using hx
      rw [u8n (by omega)]; omega
    · obtain rfl : (128 + c % 64).toUInt8 = x := by simpa using hx
      rw [u8n (by omega)]; omega
    · simp at hx
  by_cases c3 : c < 65536
  · rw [ptBytes_three (by omega)] at hx
    rcases k with _ | _ | _ | k
    · obtain rfl : (224 + c / 4096).toUInt8 = x := by simpa using hx
      rw [u8n (by omega)]; omega
    · obtain rfl : (128 + c / 64 % 64).toUInt8 = x := by simpa using hx
      rw [u8n (by omega)]; omega
    · obtain rfl : (128 + c % 64).toUInt8 = x := by simpa using hx
      rw [u8n (by omega)]; omega
    · simp at hx
  · rw [ptBytes_four (by omega) (by omega)] at hx
    rcases k with _ | _ | _ | _ | k
    · obtain rfl : (240 + c / 262144).toUInt8 = x := by simpa using hx
      rw [u8n (by omega)]; omega
    · obtain rfl : (128 + c / 4096 % 64).toUInt8 = x := by simpa using hx
      rw [u8n (by omega)]; omega
    · obtain rfl : (128 + c / 64 % 64).toUInt8 = x := by simpa using hx
      rw [u8n (by omega)]; omega
    · obtain rfl : (128 + c % 64).toUInt8 = x := by simpa using hx
      rw [u8n (by omega)]; omega
    · simp at hx

/-- code points in bytes -/
def enc (r : List Nat) : List UInt8 := r.flatMap ptBytes
theorem enc_cons (c : Nat) (r : List Nat) : enc (c :: r) = ptBytes c ++ enc r := List.flatMap_cons ..
theorem enc_append (a b : List Nat) : enc (a ++ b) = enc a ++ enc b := List.flatMap_append ..
theorem enc_snoc (a : List Nat) (c : Nat) : enc (a ++ [c]) = enc a ++ ptBytes c := by rw [enc_append]; simp [enc]
theorem enc_length : ∀ r : List Nat, r.length ≤ (enc r).length ∧ (enc r).length ≤ 4 * r.length
  | [] => by simp [enc]
  | c :: r => by
    have h := enc_length r
    have h1 := ptBytes_pos c
    rw [enc_cons, List.length_append, List.length_cons]
    omega

theorem runes_enc : ∀ (r : List Nat), (∀ c ∈ r, isPt (c : Int) = true) → runes (enc r) = some r
  | [], _ => rfl
  | c :: r, h => by
    have hc := h c (List.mem_cons_self ..)
    have h1 := ptBytes_pos c
    have hne : ptBytes c ++ enc r ≠ [] := by
      intro e
      have := congrArg List.length e
      rw [List.length_append, List.length_nil] at this
      omega
    rw [enc_cons, runes_step _ hne, nx_enc hc]
    show (if (ptBytes c).length = 0 then none else (runes ((ptBytes c ++ enc r).drop (ptBytes c).length)).map (c :: ·)) = _
    rw [if_neg (by omega), List.drop_left, runes_enc r (fun d hd => h d (List.mem_cons_of_mem _ hd))]
    rfl

theorem enc_prefix : ∀ (b a : List Nat), (∀ c ∈ a, isPt (c : Int) = true) → (∀ c ∈ b, isPt (c : Int) = true) → enc b <+: enc a → b <+: a
  | [], a, _, _, _ => List.nil_prefix
  | c :: b, [], _, _, h => by
    have h1 := ptBytes_pos c
    have h2 := h.length_le
    rw [enc_cons, List.length_append] at h2
    have h3 : (enc []).length = 0 := rfl
    omega
  | c :: b, d :: a, ha, hb, h => by
    obtain ⟨t, ht⟩ := h
    rw [enc_cons, enc_cons, List.append_assoc] at ht
    have e := congrArg nx ht
    rw [nx_enc (hb c (List.mem_cons_self ..)), nx_enc (ha d (List.mem_cons_self ..))] at e
    obtain rfl : c = d := congrArg Prod.fst e
    have h2 := enc_prefix b a (fun x hx => ha x (List.mem_cons_of_mem _ hx)) (fun x hx => hb x (List.mem_cons_of_mem _ hx)) ⟨t, List.append_cancel_left ht⟩
    exact (List.prefix_cons_inj c).2 h2
theorem enc_prefix' {b a : List Nat} (h : b <+: a) : enc b <+: enc a := by
  obtain ⟨t, rfl⟩ := h
  rw [enc_append]
  exact List.prefix_append ..

/-- a place whose byte is none of the middle lies between code points -/
theorem enc_place : ∀ (a : List Nat) (p : Nat) (x : UInt8), (∀ c ∈ a, isPt (c : Int) = true) → (enc a)[p]? = some x → ¬ (128 ≤ x.toNat ∧ x.toNat ≤ 191) → ∃ i, i < a.length ∧ p = (enc (a.take i)).length
  | [], p, x, _, hx, _ => by simp [enc] at hx
  | d :: a, p, x, ha, hx, hn => by
    rw [enc_cons] at hx
    by_cases hp : p < (ptBytes d).length
    · rw [List.getElem?_append_left hp] at hx
      have := (ptBytes_mid (ha d (List.mem_cons_self ..)) p x hx).1.2 hn
      exact ⟨0, by simp, by simpa [enc] using this⟩
    · rw [List.getElem?_append_right (by omega)] at hx
      obtain ⟨i, hi, e⟩ := enc_place a _ x (fun c hc => ha c (List.mem_cons_of_mem _ hc)) hx hn
      refine ⟨i + 1, by simpa using hi, ?_⟩
      rw [List.take_succ_cons, enc_cons, List.length_append]
      omega
theorem enc_drop (a : List Nat) (i : Nat) : (enc a).drop (enc (a.take i)).length = enc (a.drop i) := by
  have e : enc a = enc (a.take i) ++ enc (a.drop i) := by rw [← enc_append, List.take_append_drop]
  conv => lhs; rw [e]
  exact List.drop_left
theorem enc_take (a : List Nat) (i : Nat) : (enc a).take (enc (a.take i)).length = enc (a.take i) := by
  have e : enc a = enc (a.take i) ++ enc (a.drop i) := by rw [← enc_append, List.take_append_drop]
  conv => lhs; rw [e]
  exact List.take_left
theorem occ_enc {a b : List Nat} (ha : ∀ c ∈ a, isPt (c : Int) = true) (hb : ∀ c ∈ b, isPt (c : Int) = true) (i : Nat) :
    occAt (enc a) (enc b) (enc (a.take i)).length = true ↔ b <+: a.drop i := by
  unfold occAt
  rw [List.isPrefixOf_iff_prefix, enc_drop]
  exact ⟨enc_prefix _ _ (fun c hc => ha c (List.mem_of_mem_drop hc)) hb, enc_prefix'⟩

/-- WHERE CODE POINTS FIRST STAND IN OTHERS: the place from 1 on, or 0 -/
def FindIs (a b : List Nat) (v : Int) : Prop :=
  (∃ i : Nat, v = (i : Int) + 1 ∧ i + b.length ≤ a.length ∧ b <+: a.drop i ∧ ∀ j, j < i → ¬ b <+: a.drop j) ∨ (v = 0 ∧ ∀ j, ¬ b <+: a.drop j)
theorem FindIs.same {a b : List Nat} {v v' : Int} (h : FindIs a b v) (h' : FindIs a b v') : v = v' := by
  rcases h with ⟨i, rfl, _, h1, h2⟩ | ⟨rfl, h2⟩ <;> rcases h' with ⟨j, rfl, _, h3, h4⟩ | ⟨rfl, h4⟩
  · have : i = j := by
      rcases Nat.lt_trichotomy i j with h | h | h
      · exact absurd h1 (h4 i h)
      · exact h
      · exact absurd h3 (h2 j h)
    rw [this]
  · exact absurd h1 (h4 i)
  · exact absurd h3 (h2 j)
  · rfl
theorem enc_take_lt {a : List Nat} {i j : Nat} (h : i < j) (hi : i < a.length) : (enc (a.take i)).length < (enc (a.take j)).length := by
  have e : a.take j = a.take i ++ (a.drop i).take (j - i) := by
    conv => lhs; rw [show j = i + (j - i) by omega]
    rw [List.take_add]
  rw [e, enc_append, List.length_append]
  have := (enc_length ((a.drop i).take (j - i))).1
  rw [List.length_take, List.length_drop] at this
  omega
/-- the place among the bytes tells the place among the code points -/
theorem index_enc {a b : List Nat} (ha : ∀ c ∈ a, isPt (c : Int) = true) (hb : ∀ c ∈ b, isPt (c : Int) = true) (hne : b ≠ []) :
    (index (enc a) (enc b) = -1 ∧ FindIs a b 0) ∨ ∃ i : Nat, i < a.length ∧ index (enc a) (enc b) = ((enc (a.take i)).length : Int) ∧ FindIs a b ((i : Int) + 1) := by
  rcases index_spec (enc a) (enc b) with ⟨h1, h2⟩ | ⟨p, h1, h2, h3, h4⟩
  · left
    refine ⟨h1, .inr ⟨rfl, fun j hj => ?_⟩⟩
    have e := (occ_enc ha hb j).2 hj
    rw [h2 _ (by
      have e : enc a = enc (a.take j) ++ enc (a.drop j) := by rw [← enc_append, List.take_append_drop]
      have := congrArg List.length e
      rw [List.length_append] at this
      omega)] at e
    cases e
  · right
    obtain ⟨c, b', rfl⟩ : ∃ c b', b = c :: b' := by
      cases b with
      | nil => exact absurd rfl hne
      | cons c b' => exact ⟨c, b', rfl⟩
    have hc := hb c (List.mem_cons_self ..)
    have hp := ptBytes_pos c
    obtain ⟨x, t, hx⟩ : ∃ x t, ptBytes c = x :: t := by
      cases h : ptBytes c with
      | nil => rw [h] at hp; simp at hp
      | cons x t => exact ⟨x, t, rfl⟩
    have hcx : (ptBytes c)[0]? = some x := by rw [hx]; rfl
    have hmid := (ptBytes_mid hc 0 x hcx).1.1 rfl
    have hs : enc (c :: b') = x :: (t ++ enc b') := by rw [enc_cons, hx]; rfl
    obtain ⟨i, hi, rfl⟩ := enc_place a p x ha (occAt_head hs h3) hmid
    have hpre := (occ_enc ha hb i).1 h3
    refine ⟨i, hi, h1, .inl ⟨i, rfl, ?_, hpre, fun j hj hj' => ?_⟩⟩
    · have := hpre.length_le
      rw [List.length_drop] at this
      have h5 : 0 < (c :: b').length := by simp
      omega
    · have e := (occ_enc ha hb j).2 hj'
      rw [h4 _ (enc_take_lt hj (by omega))] at e
      cases e

/-- a letter of 26 from lo on, so much further -/
def shN (lo b : Int) (c : Nat) : Nat := if lo ≤ (c : Int) ∧ (c : Int) ≤ lo + 25 then ((c : Int) + b).toNat else c
def shB (lo b : Int) (x : UInt8) : UInt8 := (shN lo b x.toNat).toUInt8
theorem shN_pt {lo b : Int} (h1 : 1 ≤ lo) (h2 : lo + 25 < 128) (h3 : 1 ≤ lo + b) (h4 : lo + 25 + b < 128) {c : Nat} (hc : isPt (c : Int) = true) : isPt (shN lo b c : Int) = true := by
  rw [isPt_iff] at hc ⊢
  unfold shN
  split <;> omega
theorem shB_pt {lo b : Int} (h1 : 1 ≤ lo) (h2 : lo + 25 < 128) (h3 : 1 ≤ lo + b) (h4 : lo + 25 + b < 128) {c : Nat} (hc : isPt (c : Int) = true) : (ptBytes c).map (shB lo b) = ptBytes (shN lo b c) := by
  by_cases c1 : c < 128
  · rw [ptBytes_one c1]
    have h4 : shN lo b c < 128 := by
      unfold shN
      split <;> omega
    rw [ptBytes_one h4]
    show [shB lo b c.toUInt8] = _
    unfold shB
    rw [u8n (by omega)]
  · have e : shN lo b c = c := by unfold shN; rw [if_neg (by omega)]
    rw [e]
    have e2 : ∀ x ∈ ptBytes c, shB lo b x = x := by
      intro x hx
      obtain ⟨k, hk⟩ := List.getElem?_of_mem hx
      have h4 := (ptBytes_mid hc k x hk).2 (by omega)
      unfold shB shN
      rw [if_neg (by omega)]
      exact UInt8.toNat_inj.1 (u8n x.toNat_lt)
    rw [List.map_congr_left e2]
    simp
theorem shB_enc {lo b : Int} (h1 : 1 ≤ lo) (h2 : lo + 25 < 128) (h3 : 1 ≤ lo + b) (h4 : lo + 25 + b < 128) : ∀ (r : List Nat), (∀ c ∈ r, isPt (c : Int) = true) → (enc r).map (shB lo b) = enc (r.map (shN lo b))
  | [], _ => rfl
  | c :: r, h => by
    rw [List.map_cons, enc_cons, enc_cons, List.map_append, shB_pt h1 h2 h3 h4 (h c (List.mem_cons_self ..)), shB_enc h1 h2 h3 h4 r (fun d hd => h d (List.mem_cons_of_mem _ hd))]
end Go.Proofs.YtpolpihgclemnaaDoor
