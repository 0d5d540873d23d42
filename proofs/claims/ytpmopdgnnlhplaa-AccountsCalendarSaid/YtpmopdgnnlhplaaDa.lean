/-
  The calendar, in plain Lean.
-/
import Derived.Test.YtpmopdgnnlhplaaPAccountsDatesx2
import Derived.Test.YtpmopdgnnlhplaaPAccountsDatesx4
namespace Go.Proofs.Ytpmopdgnnlhplaa
open Go.RowKit Go.Proofs.YtpmopdgnnlhplaaW.PrintWords
open PAccountsDates
def leapB (y : Int) : Bool := decide (y % 4 = 0 ∧ (y % 100 ≠ 0 ∨ y % 400 = 0))
def mlen (y m : Int) : Int := if m = 2 then (if leapB y then 29 else 28) else if m = 4 ∨ m = 6 ∨ m = 9 ∨ m = 11 then 30 else 31
def ylen (y : Int) : Int := if leapB y then 366 else 365
def cum (y : Int) : Nat → Int
  | 0 => 0
  | k + 1 => cum y k + mlen y (k + 1)
def ny : Nat → Int
  | 0 => 0
  | k + 1 => ny k + ylen (2000 + k)
theorem mlen_bd (y m : Int) : 28 ≤ mlen y m ∧ mlen y m ≤ 31 := by unfold mlen; split <;> (try split) <;> omega
theorem ylen_bd (y : Int) : 365 ≤ ylen y ∧ ylen y ≤ 366 := by unfold ylen; split <;> omega
theorem cum_bd (y : Int) (k : Nat) : 28 * (k : Int) ≤ cum y k ∧ cum y k ≤ 31 * (k : Int) := by
  induction k with
  | zero => simp [cum]
  | succ k ih => have := mlen_bd y (k + 1); unfold cum; omega
theorem ny_bd (k : Nat) : 365 * (k : Int) ≤ ny k ∧ ny k ≤ 366 * (k : Int) := by
  induction k with
  | zero => simp [ny]
  | succ k ih => have := ylen_bd (2000 + k); unfold ny; omega
theorem cum12 (y : Int) : cum y 12 = ylen y := by
  simp [cum, mlen, ylen]
  split <;> rfl
theorem ny_closed (k : Nat) : ny k = 365 * (k : Int) + ((k : Int) + 3) / 4 - ((k : Int) + 99) / 100 + ((k : Int) + 399) / 400 := by
  induction k with
  | zero => rfl
  | succ k ih =>
    unfold ny
    rw [ih]
    unfold ylen leapB
    by_cases h : (2000 + (k : Int)) % 4 = 0 ∧ ((2000 + (k : Int)) % 100 ≠ 0 ∨ (2000 + (k : Int)) % 400 = 0)
    · rw [if_pos (decide_eq_true h)]
      push_cast
      omega
    · rw [if_neg (by simpa using h)]
      push_cast
      omega
theorem leap_f {y : Int} (h : 0 ≤ y) : accounts_leap.f y = some (leapB y) := by
  unfold accounts_leap.f leapB
  rw [Int.tmod_eq_emod_of_nonneg h, Int.tmod_eq_emod_of_nonneg h, Int.tmod_eq_emod_of_nonneg h]
  by_cases h4 : y % 4 = 0 <;> by_cases h100 : y % 100 = 0 <;> by_cases h400 : y % 400 = 0 <;> simp [h4, h100, h400]
theorem rleap_f {y : Int} (h : 0 ≤ y) : merinoref07_leap.f y = some (leapB y) := by
  unfold merinoref07_leap.f leapB
  rw [Int.tmod_eq_emod_of_nonneg h, Int.tmod_eq_emod_of_nonneg h, Int.tmod_eq_emod_of_nonneg h]
  by_cases h4 : y % 4 = 0 <;> by_cases h100 : y % 100 = 0 <;> by_cases h400 : y % 400 = 0 <;> simp [h4, h100, h400]
theorem month_f {y : Int} (h : 0 ≤ y) (m : Int) (k : Nat) : accounts_month.f (k + 1) y m = some (mlen y m) := by
  unfold accounts_month.f mlen
  rw [leap_f h]
  by_cases h2 : m = 2
  · subst h2
    cases leapB y <;> simp [accounts_month.j0]
  · by_cases h4 : m = 4 <;> by_cases h6 : m = 6 <;> by_cases h9 : m = 9 <;> by_cases h11 : m = 11 <;> simp [accounts_month.j0, h2, h4, h6, h9, h11] <;> omega
theorem months_f {y : Int} (h : 0 ≤ y) (m : Int) : merinoref07_months.f y m = some (mlen y m) := by
  unfold merinoref07_months.f mlen
  rw [rleap_f h]
  by_cases h2 : m = 2
  · subst h2
    cases leapB y <;> simp
  · by_cases h4 : m = 4 <;> by_cases h6 : m = 6 <;> by_cases h9 : m = 9 <;> by_cases h11 : m = 11 <;> simp [h2, h4, h6, h9, h11] <;> omega
theorem w64 {x : Int} (h : -9223372036854775808 ≤ x ∧ x ≤ 9223372036854775807) : wrap64 x = x := by
  unfold wrap64
  omega
theorem newYear_f (k : Nat) (h : k ≤ 6000) : accounts_newYear.f (2000 + k) = some (ny k) := by
  unfold accounts_newYear.f
  rw [ny_closed]
  have e1 : (2000 + (k : Int)) - 2000 = k := by omega
  rw [e1, w64 (x := (k : Int)) (by omega), w64 (x := (k : Int) + 3) (by omega), w64 (x := (k : Int) + 99) (by omega), w64 (x := (k : Int) + 399) (by omega),
    Int.tdiv_eq_ediv_of_nonneg (by omega), Int.tdiv_eq_ediv_of_nonneg (by omega), Int.tdiv_eq_ediv_of_nonneg (by omega), w64 (x := 365 * (k : Int)) (by omega),
    w64 (x := ((k : Int) + 3) / 4) (by omega), w64 (x := ((k : Int) + 99) / 100) (by omega), w64 (x := ((k : Int) + 399) / 400) (by omega), w64 (x := 365 * (k : Int) + ((k : Int) + 3) / 4) (by omega), w64 (x := 365 * (k : Int) + ((k : Int) + 3) / 4 - ((k : Int) + 99) / 100) (by omega), w64 (by omega)]
theorem years_l {y : Int} (h : 0 ≤ y) (d : Nat) : ∀ (j k : Nat), j + d = 12 → merinoref07_years.l0 (k + d + 1) y (cum y j) (j + 1) = some (cum y 12) := by
  induction d with
  | zero =>
    intro j k hj
    obtain rfl : j = 12 := by omega
    unfold merinoref07_years.l0
    rw [if_neg (by omega)]
  | succ d ih =>
    intro j k hj
    unfold merinoref07_years.l0
    have h1 := cum_bd y j
    have h2 := mlen_bd y (j + 1)
    rw [if_pos (by omega), months_f h, Option.bind_some, w64 (by omega), w64 (by omega)]
    have := ih (j + 1) k (by omega)
    rw [show k + (d + 1) = k + d + 1 by omega]
    exact_mod_cast this
theorem years_f {y : Int} (h : 0 ≤ y) (k : Nat) : merinoref07_years.f (k + 13) y = some (ylen y) := by
  rw [← cum12]
  exact years_l h 12 0 k rfl
/-- What DayOf answers. -/
def dayOf (y m d : Int) : Int × Int :=
  if y < 2000 ∨ y > 5000 ∨ m < 1 ∨ m > 12 ∨ d < 1 ∨ d > mlen y m then (0, 2) else
  if ny (y - 2000).toNat + cum y (m - 1).toNat + d - 1 > 1000000 then (0, 4) else (ny (y - 2000).toNat + cum y (m - 1).toNat + d - 1, 0)
theorem acc_l0 {y : Int} (h : 0 ≤ y) (m d n0 : Int) (hn : 0 ≤ n0 ∧ n0 ≤ 2000000) (e : Nat) : ∀ (j k : Nat), (j : Int) + 1 + e = m → m ≤ 12 →
    accounts_DayOf.l0 (k + e + 2) (n0 + cum y j) (j + 1) y m d = some (if n0 + cum y (m - 1).toNat > 1000000 then (0, 4) else (n0 + cum y (m - 1).toNat, 0)) := by
  induction e with
  | zero =>
    intro j k hj hm
    unfold accounts_DayOf.l0
    rw [if_neg (by omega), show (m - 1).toNat = j by omega]
    split <;> rfl
  | succ e ih =>
    intro j k hj hm
    unfold accounts_DayOf.l0
    have h1 := cum_bd y j
    have h2 := mlen_bd y (j + 1)
    rw [if_pos (by omega), month_f h, Option.bind_some, w64 (by omega), w64 (by omega)]
    have := ih (j + 1) k (by push_cast; omega) hm
    rw [show k + (e + 1) + 1 = k + e + 2 by omega, ← this]
    congr 1
    show n0 + cum y j + mlen y (j + 1) = n0 + (cum y j + mlen y (j + 1))
    omega
theorem acc_dayOf (y m d : Int) (k : Nat) : accounts_DayOf.f (k + 16) y m d = some (dayOf y m d) := by
  unfold accounts_DayOf.f dayOf
  by_cases h1 : y < 2000
  · simp [h1, accounts_DayOf.j0]
  by_cases h2 : y > 5000
  · simp [h1, h2, accounts_DayOf.j0]
  by_cases h3 : m < 1
  · simp [h1, h2, h3, accounts_DayOf.j0]
  by_cases h4 : m > 12
  · simp [h1, h2, h3, h4, accounts_DayOf.j0]
  by_cases h5 : d < 1
  · simp [h1, h2, h3, h4, h5, accounts_DayOf.j0]
  rw [if_neg h1, if_neg h2, if_neg h3, if_neg h4, if_neg h5, month_f (by omega), Option.bind_some]
  by_cases h6 : d > mlen y m
  · rw [if_pos (by simp [h6])]
    simp [h6, accounts_DayOf.j0]
  · rw [if_neg (by rintro (h | h | h | h | h | h) <;> omega)]
    have hm := mlen_bd y m
    obtain ⟨q, hq⟩ : ∃ q : Nat, y = 2000 + q := ⟨(y - 2000).toNat, by omega⟩
    have hny := ny_bd q
    simp only [accounts_DayOf.j0]
    rw [if_neg (by simpa using h6), hq, newYear_f q (by omega), Option.bind_some, show (2000 + (q : Int) - 2000).toNat = q by omega, w64 (x := ny q + d) (by omega), w64 (x := ny q + d - 1) (by omega)]
    have := acc_l0 (y := 2000 + q) (by omega) m d (ny q + d - 1) (by omega) (m - 1).toNat 0 (k + 13 - (m - 1).toNat) (by omega) (by omega)
    rw [show k + 13 - (m - 1).toNat + (m - 1).toNat + 2 = k + 15 by omega] at this
    rw [show cum (2000 + q) 0 = 0 from rfl, Int.add_zero, show ((0 : Nat) : Int) + 1 = 1 from rfl] at this
    rw [show ny q + cum (2000 + q) (m - 1).toNat + d - 1 = ny q + d - 1 + cum (2000 + q) (m - 1).toNat by omega]
    rw [this]
theorem ref_l1 {y : Int} (h : 0 ≤ y) (m d n0 : Int) (hn : 0 ≤ n0 ∧ n0 ≤ 2000000) (e : Nat) : ∀ (j k : Nat), (j : Int) + 1 + e = m → m ≤ 12 →
    merinoref07_DayOf.l1 (k + e + 1) (n0 + cum y j) (j + 1) y m d = some (if n0 + cum y (m - 1).toNat > 1000000 then (0, 4) else (n0 + cum y (m - 1).toNat, 0)) := by
  induction e with
  | zero =>
    intro j k hj hm
    have h1 := cum_bd y j
    unfold merinoref07_DayOf.l1
    rw [if_neg (by omega), show (m - 1).toNat = j by omega]
    unfold merinoref07_Day.f
    rw [if_pos (by omega), Option.bind_some]
    by_cases hx : n0 + cum y j > 1000000
    · rw [if_neg (by simpa using hx), if_pos hx]
    · rw [if_pos (by simp; omega), if_neg hx]
  | succ e ih =>
    intro j k hj hm
    unfold merinoref07_DayOf.l1
    have h1 := cum_bd y j
    have h2 := mlen_bd y (j + 1)
    rw [if_pos (by omega), months_f h, Option.bind_some, w64 (by omega), w64 (by omega)]
    have := ih (j + 1) k (by push_cast; omega) hm
    rw [show k + (e + 1) = k + e + 1 by omega, ← this]
    congr 1
    show n0 + cum y j + mlen y (j + 1) = n0 + (cum y j + mlen y (j + 1))
    omega
theorem ref_l0 {y : Int} (m d : Int) (hm0 : 1 ≤ m) (hm : m ≤ 12) (hd : 1 ≤ d ∧ d ≤ 31) (e : Nat) : ∀ (j k : Nat), 2000 + (j : Int) + e = y → y ≤ 5000 →
    merinoref07_DayOf.l0 (k + e + 30) (d - 1 + ny j) (2000 + j) y m d = some (if d - 1 + ny (y - 2000).toNat + cum y (m - 1).toNat > 1000000 then (0, 4) else (d - 1 + ny (y - 2000).toNat + cum y (m - 1).toNat, 0)) := by
  induction e with
  | zero =>
    intro j k hj hy
    unfold merinoref07_DayOf.l0
    have h1 := ny_bd j
    rw [if_neg (by omega), show (y - 2000).toNat = j by omega]
    have := ref_l1 (y := y) (by omega) m d (d - 1 + ny j) (by omega) (m - 1).toNat 0 (k + 28 - (m - 1).toNat) (by omega) hm
    rw [show k + 28 - (m - 1).toNat + (m - 1).toNat + 1 = k + 29 by omega] at this
    rw [show cum y 0 = 0 from rfl, Int.add_zero, show ((0 : Nat) : Int) + 1 = 1 from rfl] at this
    exact this
  | succ e ih =>
    intro j k hj hy
    unfold merinoref07_DayOf.l0
    have h1 := ny_bd j
    have h2 := ylen_bd (2000 + j)
    rw [if_pos (by omega), show k + (e + 1) + 29 = (k + e + 17) + 13 by omega, years_f (by omega), Option.bind_some, w64 (by omega), w64 (by omega)]
    have := ih (j + 1) k (by push_cast; omega) hy
    rw [show k + e + 17 + 13 = k + e + 30 by omega, ← this]
    congr 1
    · show d - 1 + ny j + ylen (2000 + j) = d - 1 + (ny j + ylen (2000 + j))
      omega
theorem ref_dayOf (y m d : Int) (k : Nat) : merinoref07_DayOf.f (k + 4000) y m d = some (dayOf y m d) := by
  obtain ⟨K, hK, hK'⟩ : ∃ K, k + 4000 = K + 1 ∧ K = k + 3999 := ⟨k + 3999, rfl, rfl⟩
  rw [hK]
  have j1 : merinoref07_DayOf.j0 (K + 1) true y m d = some (0, 2) := by simp [merinoref07_DayOf.j0]
  unfold merinoref07_DayOf.f dayOf
  by_cases h1 : y < 2000
  · simp [h1, j1]
  by_cases h2 : y > 5000
  · simp [h1, h2, j1]
  by_cases h3 : m < 1
  · simp [h1, h2, h3, j1]
  by_cases h4 : m > 12
  · simp [h1, h2, h3, h4, j1]
  by_cases h5 : d < 1
  · simp [h1, h2, h3, h4, h5, j1]
  rw [if_neg h1, if_neg h2, if_neg h3, if_neg h4, if_neg h5, months_f (by omega), Option.bind_some]
  by_cases h6 : d > mlen y m
  · rw [if_pos (by simp [h6])]
    simp [h6, j1]
  · rw [if_neg (by rintro (h | h | h | h | h | h) <;> omega)]
    have hm := mlen_bd y m
    simp only [merinoref07_DayOf.j0]
    rw [if_neg (by simpa using h6), w64 (x := d - 1) (by omega)]
    have := ref_l0 (y := y) m d (by omega) (by omega) (by omega) (y - 2000).toNat 0 (K - 30 - (y - 2000).toNat) (by omega) (by omega)
    rw [show K - 30 - (y - 2000).toNat + (y - 2000).toNat + 30 = K by omega] at this
    rw [show ny 0 = 0 from rfl, Int.add_zero, show (2000 : Int) + ((0 : Nat) : Int) = 2000 from rfl] at this
    rw [show ny (y - 2000).toNat + cum y (m - 1).toNat + d - 1 = d - 1 + ny (y - 2000).toNat + cum y (m - 1).toNat by omega]
    rw [this]
end Go.Proofs.Ytpmopdgnnlhplaa
