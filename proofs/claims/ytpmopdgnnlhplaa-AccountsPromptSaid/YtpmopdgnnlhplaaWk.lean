/-
  Working days, in plain Lean.
-/
import Derived.Test.YtpmopdgnnlhplaaLg
namespace Go.Proofs.Ytpmopdgnnlhplaa
open Go.RowKit Go.Proofs.YtpmopdgnnlhplaaW.PrintWords
/-- The error of a day and holidays. -/
def hErr (n : Int) (l : List Int) : Int := if 64 < l.length then 3 else if dayB n && l.all dayB then 0 else 2
def workB (n : Int) (l : List Int) : Bool := decide (1 < n % 7) && !(l.any fun h => decide (h = n))
/-- The n-th working day behind d, k days being left. -/
def nth (l : List Int) : Nat → Int → Int → Int × Int
  | 0, _, _ => (0, 4)
  | k + 1, d, n => if workB (d + 1) l then (if n = 1 then (d + 1, 0) else nth l k (d + 1) (n - 1)) else nth l k (d + 1) n
def promptR (d n : Int) (l : List Int) : Int × Int :=
  if hErr d l ≠ 0 then (0, hErr d l) else if n < 1 ∨ 366 < n then (0, 2) else nth l (1000000 - d).toNat d n
theorem nth_ok {l : List Int} : ∀ {k : Nat} {d n a : Int}, nth l k d n = (a, 0) → d < a ∧ a ≤ d + k ∧ workB a l = true
  | 0, d, n, a, h => by simp [nth] at h
  | k + 1, d, n, a, h => by
    unfold nth at h
    by_cases hw : workB (d + 1) l = true
    · rw [if_pos hw] at h
      by_cases hn : n = 1
      · rw [if_pos hn] at h
        obtain rfl : d + 1 = a := by injection h
        exact ⟨by omega, by push_cast; omega, hw⟩
      · rw [if_neg hn] at h
        obtain ⟨h1, h2, h3⟩ := nth_ok h
        exact ⟨by omega, by push_cast; omega, h3⟩
    · rw [if_neg hw] at h
      obtain ⟨h1, h2, h3⟩ := nth_ok h
      exact ⟨by omega, by push_cast; omega, h3⟩
theorem nth_cases {l : List Int} : ∀ (k : Nat) (d n : Int), (nth l k d n).2 = 0 ∨ nth l k d n = (0, 4)
  | 0, d, n => .inr rfl
  | k + 1, d, n => by
    unfold nth
    split
    · split
      · exact .inl rfl
      · exact nth_cases k _ _
    · exact nth_cases k _ _
theorem nth_add {l : List Int} {n : Int} (hn : 1 ≤ n) : ∀ (k : Nat) (d m : Int), 1 ≤ m → ∀ a, nth l k d m = (a, 0) → nth l k d (m + n) = nth l (d + k - a).toNat a n
  | 0, d, m, _, a, h => by simp [nth] at h
  | k + 1, d, m, hm, a, h => by
    unfold nth at h
    rw [nth]
    by_cases hw : workB (d + 1) l = true
    · rw [if_pos hw] at h ⊢
      rw [if_neg (show ¬ m + n = 1 by omega)]
      by_cases h1 : m = 1
      · rw [if_pos h1] at h
        obtain rfl : d + 1 = a := by injection h
        rw [show (d + ((k + 1 : Nat) : Int) - (d + 1)).toNat = k by omega, show m + n - 1 = n by omega]
      · rw [if_neg h1] at h
        have := nth_add hn k (d + 1) (m - 1) (by omega) a h
        rw [show m - 1 + n = m + n - 1 by omega] at this
        rw [this, show d + 1 + (k : Int) - a = d + ((k + 1 : Nat) : Int) - a by omega]
    · rw [if_neg hw] at h ⊢
      have := nth_add hn k (d + 1) m hm a h
      rw [this, show d + 1 + (k : Int) - a = d + ((k + 1 : Nat) : Int) - a by omega]
theorem hErr_day {d a : Int} {l : List Int} (h : hErr d l = 0) (h0 : 0 ≤ a) (h1 : a ≤ 1000000) : hErr a l = 0 := by
  unfold hErr at h ⊢
  split
  · rename_i h2; rw [if_pos h2] at h; cases h
  · rename_i h2
    rw [if_neg h2] at h
    have hd : dayB a = true := by simp [dayB, h0, h1]
    cases hall : l.all dayB with
    | true => simp [hd]
    | false => rw [hall] at h; simp at h
theorem hErr_0 {d : Int} {l : List Int} (h : hErr d l = 0) : 0 ≤ d ∧ d ≤ 1000000 ∧ l.length ≤ 64 := by
  unfold hErr at h
  split at h
  · cases h
  · rename_i h2
    cases hd : dayB d with
    | true => exact ⟨by simpa using (of_decide_eq_true hd).1, by simpa using (of_decide_eq_true hd).2, by omega⟩
    | false => rw [hd] at h; simp at h
theorem promptR_err {d n : Int} {l : List Int} (h : (promptR d n l).2 ≠ 0) : (promptR d n l).1 = 0 := by
  unfold promptR at h ⊢
  split
  · rfl
  · split
    · rfl
    · rename_i h1 h2
      rw [if_neg h1, if_neg h2] at h
      rcases nth_cases (l := l) (1000000 - d).toNat d n with h3 | h3
      · exact absurd h3 h
      · rw [h3]
theorem promptR_ok {d n a : Int} {l : List Int} (h : promptR d n l = (a, 0)) : hErr d l = 0 ∧ 1 ≤ n ∧ n ≤ 366 ∧ nth l (1000000 - d).toNat d n = (a, 0) ∧ 0 ≤ d ∧ d < a ∧ a ≤ 1000000 ∧ hErr a l = 0 ∧ workB a l = true := by
  unfold promptR at h
  by_cases h0 : hErr d l = 0
  · rw [if_neg (by simpa using h0)] at h
    by_cases h1 : n < 1 ∨ 366 < n
    · rw [if_pos h1] at h; simp at h
    · rw [if_neg h1] at h
      obtain ⟨e0, e1, e2⟩ := hErr_0 h0
      obtain ⟨h2, h3, h4⟩ := nth_ok h
      have h5 : a ≤ 1000000 := by omega
      exact ⟨h0, by omega, by omega, h, e0, h2, h5, hErr_day h0 (by omega) h5, h4⟩
  · rw [if_pos (by simpa using h0)] at h
    injection h with h6 h7
    exact absurd h7 h0
theorem promptR_add {d m n a : Int} {l : List Int} (h : promptR d m l = (a, 0)) (hn : 1 ≤ n) (hm : n ≤ 366 - m) : promptR a n l = promptR d (m + n) l := by
  obtain ⟨h0, h1, h2, h3, h4, h5, h6, h7, h8⟩ := promptR_ok h
  unfold promptR
  rw [if_neg (by simpa using h7), if_neg (by omega), if_neg (by simpa using h0), if_neg (by omega), nth_add hn _ d m h1 a h3]
  congr 1
  omega
end Go.Proofs.Ytpmopdgnnlhplaa
