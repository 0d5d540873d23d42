/-
  The reference's Working and Prompt, in plain Lean.
-/
import Derived.Test.YtpmopdgnnlhplaaPAccountsWorkingx4
import Derived.Test.YtpmopdgnnlhplaaWd
namespace Go.Proofs.Ytpmopdgnnlhplaa
open Go.RowKit Go.Proofs.YtpmopdgnnlhplaaW.PrintWords
open PAccountsWorking
theorem w64' {x : Int} (h : -9223372036854775808 ≤ x ∧ x ≤ 9223372036854775807) : wrap64 x = x := by
  unfold wrap64
  omega
theorem rd_at {l : List Int} {j : Nat} {x : Int} (h : l[j]? = some x) : rd l j = x := by
  unfold rd
  rw [Int.toNat_natCast, List.getD_eq_getElem?_getD, h]
  rfl
theorem copied_l (l : List Int) (hl : l.length ≤ 1000) (d : Nat) : ∀ (j k : Nat), j + d = l.length → merinolaw07_copied.l0 (k + d + 1) l (l.take j ++ List.replicate d 0) j = some l := by
  induction d with
  | zero =>
    intro j k hj
    unfold merinolaw07_copied.l0
    rw [if_neg (by omega), List.take_of_length_le (by omega)]
    simp
  | succ d ih =>
    intro j k hj
    unfold merinolaw07_copied.l0
    have hlt : j < l.length := by omega
    rw [if_pos (by omega), if_pos (by omega), if_pos (by simp; omega), w64' (by omega), rd_at (List.getElem?_eq_getElem hlt), Int.toNat_natCast]
    have e : (l.take j ++ List.replicate (d + 1) 0).set j (l[j]) = l.take (j + 1) ++ List.replicate d 0 := by
      rw [List.set_append_right _ _ (by rw [List.length_take]; exact Nat.min_le_left _ _), List.length_take, Nat.min_eq_left (by omega), Nat.sub_self, List.take_succ_eq_append_getElem hlt, List.append_assoc]
      rfl
    rw [e]
    have := ih (j + 1) k (by omega)
    rw [show k + (d + 1) = k + d + 1 by omega]
    exact this
theorem copied_f (l : List Int) (hl : l.length ≤ 1000) : merinolaw07_copied.f (0 + l.length + 1) l = some l := by
  unfold merinolaw07_copied.f
  rw [if_pos (by omega), if_pos (by omega), Int.toNat_natCast]
  exact copied_l l hl l.length 0 0 (by omega)
theorem same_l (l : List Int) (hl : l.length ≤ 1000) (d : Nat) : ∀ (j k : Nat), j + d = l.length → merinolaw07_same.l0 (k + d + 1) l l j = some true := by
  induction d with
  | zero =>
    intro j k hj
    unfold merinolaw07_same.l0
    rw [if_neg (by omega)]
  | succ d ih =>
    intro j k hj
    unfold merinolaw07_same.l0
    rw [if_pos (by omega), if_pos (by omega), if_pos (by omega), if_pos rfl, w64' (by omega)]
    rw [show k + (d + 1) = k + d + 1 by omega]
    exact ih (j + 1) k (by omega)
theorem same_f (l : List Int) (hl : l.length ≤ 1000) : merinolaw07_same.f (0 + l.length + 1) l l = some true := by
  unfold merinolaw07_same.f
  rw [if_pos rfl]
  exact same_l l hl l.length 0 0 (by omega)
theorem Day_f (a : Int) : merinoref07_Day.f a = some (dayB a) := by
  unfold merinoref07_Day.f dayB
  by_cases h : 0 ≤ a
  · rw [if_pos h]
    simp [h]
  · rw [if_neg h]
    simp [h]
theorem hol_l (n : Int) (l : List Int) (hl : l.length ≤ 1000) (d : Nat) : ∀ (j k : Nat), j + d = l.length → merinoref07_holidays.l0 (k + d + 1) n l j = some (if dayB n && (l.drop j).all dayB then 0 else 2) := by
  induction d with
  | zero =>
    intro j k hj
    unfold merinoref07_holidays.l0
    rw [if_neg (by omega), Day_f, List.drop_of_length_le (by omega)]
    cases dayB n <;> rfl
  | succ d ih =>
    intro j k hj
    unfold merinoref07_holidays.l0
    have hlt : j < l.length := by omega
    rw [if_pos (by omega), if_pos (by omega), w64' (by omega), rd_at (List.getElem?_eq_getElem hlt), Day_f, List.drop_eq_getElem_cons hlt, List.all_cons]
    have := ih (j + 1) k (by omega)
    rw [show k + (d + 1) = k + d + 1 by omega]
    cases hd : dayB l[j] with
    | true =>
      rw [Option.bind_some, if_pos rfl, Bool.true_and]
      exact this
    | false => cases dayB n <;> rfl
theorem hol_f (n : Int) (l : List Int) (k : Nat) (hl : l.length ≤ 1000) : merinoref07_holidays.f (k + l.length + 1) n l = some (hErr n l) := by
  unfold merinoref07_holidays.f hErr
  by_cases h : 64 < l.length
  · rw [if_pos (by omega), if_pos h]
  · rw [if_neg (by omega), if_neg h]
    exact hol_l n l hl l.length 0 k (by omega)
theorem works_l (n : Int) (l : List Int) (hl : l.length ≤ 1000) (d : Nat) : ∀ (j k : Nat), j + d = l.length → merinoref07_works.l0 (k + d + 1) n l j = some (!((l.drop j).any fun h => decide (h = n))) := by
  induction d with
  | zero =>
    intro j k hj
    unfold merinoref07_works.l0
    rw [if_neg (by omega), List.drop_of_length_le (by omega)]
    rfl
  | succ d ih =>
    intro j k hj
    unfold merinoref07_works.l0
    have hlt : j < l.length := by omega
    rw [if_pos (by omega), if_pos (by omega), w64' (by omega), rd_at (List.getElem?_eq_getElem hlt), List.drop_eq_getElem_cons hlt, List.any_cons]
    have := ih (j + 1) k (by omega)
    rw [show k + (d + 1) = k + d + 1 by omega]
    by_cases hd : l[j] = n
    · rw [if_pos hd, decide_eq_true hd]; rfl
    · rw [if_neg hd, decide_eq_false hd, Bool.false_or]
      exact this
theorem works_f {n : Int} (h : 0 ≤ n) (l : List Int) (k : Nat) (hl : l.length ≤ 1000) : merinoref07_works.f (k + l.length + 1) n l = some (workB n l) := by
  unfold merinoref07_works.f workB
  rw [Int.tmod_eq_emod_of_nonneg h]
  by_cases h7 : n % 7 < 2
  · rw [if_pos h7, decide_eq_false (by omega)]; rfl
  · rw [if_neg h7, decide_eq_true (show 1 < n % 7 by omega), Bool.true_and]
    exact works_l n l hl l.length 0 k (by omega)
theorem RWorking_f (n : Int) (l : List Int) (hl : l.length ≤ 1000) : merinoref07_Working.f (0 + l.length + 1) n l = some (decide (hErr n l = 0) && workB n l, hErr n l) := by
  unfold merinoref07_Working.f
  rw [hol_f n l 0 hl, Option.bind_some]
  by_cases h : hErr n l = 0
  · rw [if_pos h, works_f (hErr_0 h).1 l 0 hl, h]
    rfl
  · rw [if_neg h, decide_eq_false h]
    rfl
theorem prompt_l (l : List Int) (hl : l.length ≤ 64) (k : Nat) (e : Nat) : ∀ (d n : Int), d + e = 1000001 → 0 ≤ d → 0 ≤ n → n ≤ 366 →
    merinoref07_Prompt.l0 (k + 2 * e + 100) d n l = some (if d = 1000001 then (0, 4) else if n = 0 then (d, 0) else nth l (1000000 - d).toNat d n) := by
  induction e with
  | zero =>
    intro d n hd h0 hn hn1
    obtain rfl : d = 1000001 := by omega
    rw [if_pos rfl]
    have e1 : merinoref07_Prompt.j3 (k + 2 * 0 + 99) 1000001 n l false = some (0, 4) := rfl
    unfold merinoref07_Prompt.l0
    by_cases h : n > 0
    · rw [if_pos h]
      exact e1
    · rw [if_neg h]
      exact e1
  | succ e ih =>
    intro d n hd h0 hn hn1
    rw [if_neg (by omega)]
    unfold merinoref07_Prompt.l0
    by_cases h : n > 0
    · rw [if_pos h, if_neg (by omega), decide_eq_true (show d ≤ 1000000 by omega)]
      unfold merinoref07_Prompt.j3
      rw [if_pos rfl, w64' (x := d + 1) (by omega), w64' (x := n - 1) (by omega)]
      have hw := works_f (n := d + 1) (by omega) l (k + 2 * (e + 1) + 97 - l.length) (by omega)
      rw [show k + 2 * (e + 1) + 97 - l.length + l.length + 1 = k + 2 * e + 100 by omega] at hw
      rw [show k + 2 * (e + 1) + 98 = k + 2 * e + 100 by omega, hw, Option.bind_some]
      have hk : (1000000 - d).toNat = if d = 1000000 then 0 else (1000000 - (d + 1)).toNat + 1 := by split <;> omega
      by_cases hW : workB (d + 1) l = true
      · rw [if_pos hW, ih (d + 1) (n - 1) (by omega) (by omega) (by omega) (by omega)]
        by_cases hx : d = 1000000
        · rw [hk, if_pos hx, if_pos (by omega)]
          rfl
        · rw [hk, if_neg hx, if_neg (by omega), nth_succ, if_pos hW]
          by_cases h1 : n = 1
          · rw [if_pos (by omega), if_pos h1]
          · rw [if_neg (by omega), if_neg h1]
      · rw [if_neg hW, ih (d + 1) n (by omega) (by omega) (by omega) (by omega)]
        by_cases hx : d = 1000000
        · rw [hk, if_pos hx, if_pos (by omega)]
          rfl
        · rw [hk, if_neg hx, if_neg (by omega), nth_succ, if_neg hW, if_neg (by omega)]
    · rw [if_neg h]
      have hn0 : n = 0 := by omega
      subst hn0
      rw [if_pos rfl]
      unfold merinoref07_Prompt.j3
      rw [if_neg (by simp), if_neg (by omega)]
theorem RPrompt_f (d n : Int) (l : List Int) (hl : l.length ≤ 1000) (K : Nat) (hK : 2001200 ≤ K) : merinoref07_Prompt.f (K + 2) d n l = some (promptR d n l) := by
  unfold merinoref07_Prompt.f promptR
  have hh := hol_f d l (K + 1 - l.length) hl
  rw [show K + 1 - l.length + l.length + 1 = K + 2 by omega] at hh
  rw [hh, Option.bind_some]
  by_cases h : hErr d l = 0
  · obtain ⟨d0, d1, hl64⟩ := hErr_0 h
    rw [if_pos h, if_neg (show ¬ (hErr d l ≠ 0) from fun h9 => h9 h), h]
    have bad : merinoref07_Prompt.j0 (K + 2) d n l 0 true = some (0, 2) := rfl
    by_cases h1 : n < 1
    · rw [if_pos h1, if_pos (.inl h1)]
      exact bad
    · rw [if_neg h1]
      by_cases h2 : n > 366
      · rw [decide_eq_true h2, if_pos (.inr h2)]
        exact bad
      · rw [decide_eq_false h2, if_neg (by omega)]
        show merinoref07_Prompt.l0 K d n l = _
        have := prompt_l l hl64 (K - 100 - 2 * (1000001 - d).toNat) (1000001 - d).toNat d n (by omega) d0 (by omega) (by omega)
        rw [show K - 100 - 2 * (1000001 - d).toNat + 2 * (1000001 - d).toNat + 100 = K by omega, if_neg (by omega), if_neg (by omega)] at this
        exact this
  · rw [if_neg h, if_pos (by simpa using h)]
    show merinoref07_Prompt.j1 (K + 1) d n l (hErr d l) = _
    simp only [merinoref07_Prompt.j1]
    rw [if_neg h]
end Go.Proofs.Ytpmopdgnnlhplaa
