/-
  Whole numbers as digits to the base 10000, in plain Lean.
  The steps of the school methods on digits, in plain Lean.
  Rounding, in plain Lean.
-/
import Derived.Lib.Hide
namespace Go.Proofs.Ytcobihdjcdefmaa
/-- The value of the first n digits. -/
def vF : Nat → (Nat → Int) → Int
  | 0, _ => 0
  | n + 1, f => vF n f + f n * 10000 ^ n
/-- The value of the last k of n digits. -/
def hF (n : Nat) (f : Nat → Int) : Nat → Int
  | 0 => 0
  | k + 1 => f (n - (k + 1)) + 10000 * hF n f k
def gF (n : Nat) (f : Nat → Int) : Prop := ∀ i, i < n → 0 ≤ f i ∧ f i < 10000
theorem pw_pos (n : Nat) : (0 : Int) < 10000 ^ n := Int.pow_pos (by decide)
theorem pw_succ (n : Nat) : (10000 : Int) ^ (n + 1) = 10000 ^ n * 10000 := Int.pow_succ 10000 n
theorem pw_mono {a b : Nat} (h : a ≤ b) : (10000 : Int) ^ a ≤ 10000 ^ b := by
  obtain ⟨k, rfl⟩ := Nat.le.dest h
  induction k with
  | zero => exact Int.le_refl _
  | succ k ih =>
    have h1 := ih (by omega)
    have h2 := pw_pos (a + k)
    rw [← Nat.add_assoc, pw_succ]; omega
theorem vF_congr {n : Nat} {f g : Nat → Int} (h : ∀ i, i < n → f i = g i) : vF n f = vF n g := by
  induction n with
  | zero => rfl
  | succ n ih => show vF n f + f n * _ = vF n g + g n * _; rw [ih fun i hi => h i (by omega), h n (by omega)]
theorem vF_nonneg {n : Nat} {f : Nat → Int} (h : gF n f) : 0 ≤ vF n f := by
  induction n with
  | zero => exact Int.le_refl _
  | succ n ih =>
    show 0 ≤ vF n f + f n * 10000 ^ n
    have h1 := ih fun i hi => h i (by omega)
    have h2 : 0 ≤ f n * 10000 ^ n := Int.mul_nonneg (h n (by omega)).1 (Int.le_of_lt (pw_pos n))
    omega
theorem vF_lt {n : Nat} {f : Nat → Int} (h : gF n f) : vF n f < 10000 ^ n := by
  induction n with
  | zero => exact Int.zero_lt_one
  | succ n ih =>
    show vF n f + f n * 10000 ^ n < 10000 ^ (n + 1)
    rw [pw_succ]
    have h1 := ih fun i hi => h i (by omega)
    have h2 : f n * 10000 ^ n ≤ 9999 * 10000 ^ n := Int.mul_le_mul_of_nonneg_right (by have := h n (by omega); omega) (Int.le_of_lt (pw_pos n))
    omega
theorem vF_zero {n : Nat} {f : Nat → Int} (h : ∀ i, i < n → f i = 0) : vF n f = 0 := by
  induction n with
  | zero => rfl
  | succ n ih => show vF n f + f n * _ = 0; rw [ih fun i hi => h i (by omega), h n (by omega)]; simp
theorem vF_split (m n : Nat) (f : Nat → Int) : vF (m + n) f = vF m f + vF n (fun j => f (m + j)) * 10000 ^ m := by
  induction n with
  | zero => simp [vF]
  | succ n ih =>
    show vF (m + n) f + f (m + n) * 10000 ^ (m + n) = vF m f + (vF n (fun j => f (m + j)) + f (m + n) * 10000 ^ n) * 10000 ^ m
    rw [ih, Int.add_mul, Int.pow_add, Int.mul_assoc, Int.mul_comm (10000 ^ n)]; omega
theorem vF_top {m n : Nat} {f : Nat → Int} (hmn : m ≤ n) (h : ∀ i, m ≤ i → i < n → f i = 0) : vF n f = vF m f := by
  obtain ⟨k, rfl⟩ := Nat.le.dest hmn
  rw [vF_split, vF_zero (n := k) fun i hi => h _ (by omega) (by omega)]; simp
/-- Changing one digit. -/
theorem vF_set {n i : Nat} (hi : i < n) (f : Nat → Int) (c : Int) : vF n (fun j => if j = i then c else f j) = vF n f + (c - f i) * 10000 ^ i := by
  induction n with
  | zero => omega
  | succ n ih =>
    show vF n _ + (if n = i then c else f n) * 10000 ^ n = vF n f + f n * 10000 ^ n + _
    by_cases e : n = i
    · subst e
      rw [if_pos rfl, vF_congr (g := f) fun j hj => if_neg (by omega), Int.sub_mul]; omega
    · rw [if_neg e, ih (by omega)]; omega
theorem hF_split {n : Nat} {f : Nat → Int} {k : Nat} (hk : k ≤ n) : vF n f = vF (n - k) f + hF n f k * 10000 ^ (n - k) := by
  induction k with
  | zero => simp [hF]
  | succ k ih =>
    rw [ih (by omega)]
    obtain ⟨m, hm⟩ : ∃ m, n - k = m + 1 := ⟨n - k - 1, by omega⟩
    have e : n - (k + 1) = m := by omega
    show _ = vF (n - (k + 1)) f + (f (n - (k + 1)) + 10000 * hF n f k) * 10000 ^ (n - (k + 1))
    rw [e, hm]
    show vF m f + f m * 10000 ^ m + hF n f k * 10000 ^ (m + 1) = _
    rw [pw_succ, Int.add_mul, Int.mul_comm 10000 (hF n f k), Int.mul_assoc (hF n f k) 10000, Int.mul_comm 10000 (10000 ^ m)]; omega
theorem hF_all (n : Nat) (f : Nat → Int) : hF n f n = vF n f := by
  have h := hF_split (n := n) (f := f) (Nat.le_refl n)
  rw [Nat.sub_self] at h
  rw [h]; simp [vF]
theorem hF_congr {n : Nat} {f g : Nat → Int} {k : Nat} (hk : k ≤ n) (h : ∀ i, n - k ≤ i → i < n → f i = g i) : hF n f k = hF n g k := by
  induction k with
  | zero => rfl
  | succ k ih =>
    show f (n - (k + 1)) + 10000 * hF n f k = g (n - (k + 1)) + 10000 * hF n g k
    rw [ih (by omega) fun i h1 h2 => h i (by omega) h2, h _ (by omega) (by omega)]
/-- Rows of digits. -/
abbrev dF (l : List Int) : Nat → Int := fun i => l.getD i 0
def vL (l : List Int) : Int := vF l.length (dF l)
def gL (l : List Int) : Prop := gF l.length (dF l)
def topL (l : List Int) : Prop := 0 < l.length → dF l (l.length - 1) ≠ 0
theorem dF_take {l : List Int} {n i : Nat} (hi : i < n) : dF (l.take n) i = dF l i := by
  show (l.take n).getD i 0 = l.getD i 0
  rw [List.getD_eq_getElem?_getD, List.getElem?_take, if_pos hi, ← List.getD_eq_getElem?_getD]
theorem vL_take {l : List Int} {n : Nat} (hn : n ≤ l.length) : vL (l.take n) = vF n (dF l) := by
  unfold vL
  rw [List.length_take, Nat.min_eq_left hn]
  exact vF_congr fun i hi => dF_take hi
theorem dF_cons {d : Int} {l : List Int} (i : Nat) : dF (d :: l) (i + 1) = dF l i := rfl
theorem vL_cons (d : Int) (l : List Int) : vL (d :: l) = d + 10000 * vL l := by
  show vF (l.length + 1) (dF (d :: l)) = _
  rw [Nat.add_comm, vF_split]
  show 0 + d * 10000 ^ 0 + vF l.length (fun j => dF (d :: l) (1 + j)) * 10000 ^ 1 = _
  rw [vF_congr (g := dF l) fun i _ => by rw [Nat.add_comm 1]; rfl]
  simp [vL, Int.mul_comm]
theorem dF_snoc {l : List Int} {d : Int} {i : Nat} (hi : i < l.length) : dF (l ++ [d]) i = dF l i := by
  show (l ++ [d]).getD i 0 = l.getD i 0
  rw [List.getD_eq_getElem?_getD, List.getElem?_append_left hi, ← List.getD_eq_getElem?_getD]
theorem dF_last {l : List Int} {d : Int} : dF (l ++ [d]) l.length = d := by
  show (l ++ [d]).getD l.length 0 = d
  rw [List.getD_eq_getElem?_getD, List.getElem?_append_right (Nat.le_refl _)]; simp
theorem vL_snoc (l : List Int) (d : Int) : vL (l ++ [d]) = vL l + d * 10000 ^ l.length := by
  unfold vL
  rw [List.length_append]
  show vF l.length (dF (l ++ [d])) + dF (l ++ [d]) l.length * _ = _
  rw [dF_last, vF_congr fun i hi => dF_snoc hi]
theorem gL_snoc {l : List Int} {d : Int} (h : gL l) (h0 : 0 ≤ d) (h1 : d < 10000) : gL (l ++ [d]) := fun i hi => by
  rw [List.length_append] at hi
  by_cases e : i < l.length
  · rw [dF_snoc e]; exact h i e
  · have : i = l.length := by have : i < l.length + 1 := hi; omega
    subst this; rw [dF_last]; exact ⟨h0, h1⟩
theorem gL_nil : gL [] := fun i hi => absurd hi (Nat.not_lt_zero i)
theorem gL_cons {d : Int} {l : List Int} (h0 : 0 ≤ d) (h1 : d < 10000) (h : gL l) : gL (d :: l) := fun i hi => by
  cases i with
  | zero => exact ⟨h0, h1⟩
  | succ i => exact h i (by simpa using hi)
theorem gL_tail {d : Int} {l : List Int} (h : gL (d :: l)) : gL l := fun i hi => h (i + 1) (by simpa using hi)
/-- The digits of a number. -/
def dg (n : Nat) : List Int := if h : n = 0 then [] else ((n % 10000 : Nat) : Int) :: dg (n / 10000)
termination_by n
decreasing_by exact Nat.div_lt_self (by omega) (by omega)
theorem dg_zero : dg 0 = [] := by rw [dg]; rfl
theorem dg_pos {n : Nat} (h : n ≠ 0) : dg n = ((n % 10000 : Nat) : Int) :: dg (n / 10000) := by rw [dg, dif_neg h]
theorem eq_dg : ∀ {l : List Int}, gL l → topL l → l = dg (vL l).toNat
  | [], _, _ => by show [] = dg (0 : Int).toNat; rw [show (0 : Int).toNat = 0 from rfl, dg_zero]
  | d :: l, h, ht => by
    have h1 := gL_tail h
    have ht1 : topL l := fun hp => by
      have h2 := ht (by simp)
      rw [show (d :: l).length - 1 = (l.length - 1) + 1 by simp; omega, dF_cons] at h2
      exact h2
    have ih := eq_dg h1 ht1
    have hd : 0 ≤ d ∧ d < 10000 := h 0 (by simp)
    have hn : 0 ≤ vL l := vF_nonneg h1
    have hne : (vL (d :: l)).toNat ≠ 0 := by
      rw [vL_cons]
      intro e
      have e1 : d = 0 ∧ vL l = 0 := by omega
      rw [e1.2, show (0 : Int).toNat = 0 from rfl, dg_zero] at ih
      subst ih
      exact ht (by simp) e1.1
    rw [dg_pos hne, vL_cons]
    have e1 : (((d + 10000 * vL l).toNat % 10000 : Nat) : Int) = d := by omega
    have e2 : (d + 10000 * vL l).toNat / 10000 = (vL l).toNat := by omega
    rw [e1, e2, ← ih]
theorem dg_gL : ∀ n, gL (dg n) ∧ topL (dg n) ∧ vL (dg n) = n := fun n => by
  induction n using Nat.strongRecOn with
  | ind n ih =>
    by_cases e : n = 0
    · subst e; rw [dg_zero]; exact ⟨gL_nil, fun h => absurd h (by simp), rfl⟩
    · obtain ⟨h1, h2, h3⟩ := ih (n / 10000) (Nat.div_lt_self (by omega) (by omega))
      rw [dg_pos e]
      refine ⟨gL_cons (by omega) (by omega) h1, fun _ => ?_, by rw [vL_cons, h3]; omega⟩
      by_cases e2 : n / 10000 = 0
      · rw [e2, dg_zero]
        show ((n % 10000 : Nat) : Int) ≠ 0
        omega
      · rw [dg_pos e2] at h2 ⊢
        have h4 := h2 (by simp)
        exact h4
theorem dg_good (n : Nat) : gL (dg n) := (dg_gL n).1
theorem dg_top (n : Nat) : topL (dg n) := (dg_gL n).2.1
theorem dg_val (n : Nat) : vL (dg n) = n := (dg_gL n).2.2
theorem dg_len {n k : Nat} (h : (n : Int) < 10000 ^ k) : (dg n).length ≤ k := by
  have h1 := dg_val n
  by_cases h0 : (dg n).length ≤ k
  · exact h0
  · have ht := dg_top n (by omega)
    have hg := dg_good n
    obtain ⟨m, hm⟩ : ∃ m, (dg n).length = m + 1 := ⟨(dg n).length - 1, by omega⟩
    have h2 : vL (dg n) = vF m (dF (dg n)) + dF (dg n) m * 10000 ^ m := by unfold vL; rw [hm]; rfl
    rw [hm, Nat.add_sub_cancel] at ht
    have h3 : 0 ≤ vF m (dF (dg n)) := vF_nonneg fun i hi => hg i (by omega)
    have h4 := hg m (by omega)
    have h5 : (10000 : Int) ^ m ≤ dF (dg n) m * 10000 ^ m := by
      have := Int.mul_le_mul_of_nonneg_right (show (1 : Int) ≤ dF (dg n) m by omega) (Int.le_of_lt (pw_pos m))
      omega
    have h6 : (10000 : Int) ^ k ≤ 10000 ^ m := pw_mono (by omega)
    omega
theorem dg_lower {n m : Nat} (h : (dg n).length = m + 1) : (10000 : Int) ^ m ≤ n := by
  have h1 := dg_val n
  have ht := dg_top n (by omega)
  have hg := dg_good n
  have h2 : vL (dg n) = vF m (dF (dg n)) + dF (dg n) m * 10000 ^ m := by unfold vL; rw [h]; rfl
  rw [h, Nat.add_sub_cancel] at ht
  have h3 : 0 ≤ vF m (dF (dg n)) := vF_nonneg fun i hi => hg i (by omega)
  have h4 := hg m (by omega)
  have h5 : (10000 : Int) ^ m ≤ dF (dg n) m * 10000 ^ m := by
    have := Int.mul_le_mul_of_nonneg_right (show (1 : Int) ≤ dF (dg n) m by omega) (Int.le_of_lt (pw_pos m))
    omega
  omega
theorem dg_lt_of_len {x y : Nat} (h : (dg x).length < (dg y).length) : x < y := by
  have h1 : vL (dg x) < 10000 ^ (dg x).length := vF_lt (dg_good x)
  rw [dg_val] at h1
  obtain ⟨m, hm⟩ : ∃ m, (dg y).length = m + 1 := ⟨(dg y).length - 1, by omega⟩
  have h2 := dg_lower hm
  have h3 : (10000 : Int) ^ (dg x).length ≤ 10000 ^ m := pw_mono (by omega)
  omega
/-- Two rows of one length that agree above a digit. -/
theorem vF_lt_of {n i : Nat} {f g : Nat → Int} (hi : i < n) (hf : gF n f) (hg : gF n g) (h : ∀ j, i < j → j < n → f j = g j) (hlt : f i < g i) : vF n f < vF n g := by
  have h1 := hF_split (n := n) (f := f) (k := n - (i + 1)) (by omega)
  have h2 := hF_split (n := n) (f := g) (k := n - (i + 1)) (by omega)
  rw [hF_congr (g := g) (by omega) fun j h3 h4 => h j (by omega) h4] at h1
  rw [show n - (n - (i + 1)) = i + 1 by omega] at h1 h2
  have h3 : vF (i + 1) f < vF (i + 1) g := by
    show vF i f + f i * 10000 ^ i < vF i g + g i * 10000 ^ i
    have a := vF_lt (n := i) (f := f) fun j hj => hf j (by omega)
    have b := vF_nonneg (n := i) (f := g) fun j hj => hg j (by omega)
    have c : (f i + 1) * 10000 ^ i ≤ g i * 10000 ^ i := Int.mul_le_mul_of_nonneg_right (by omega) (Int.le_of_lt (pw_pos i))
    rw [Int.add_mul, Int.one_mul] at c
    omega
  omega
/-- The first n digits are all that count. -/
theorem take_dg {l : List Int} {n : Nat} (h : gL l) (hn : n ≤ l.length) (h0 : ∀ i, n ≤ i → i < l.length → dF l i = 0) (ht : 0 < n → dF l (n - 1) ≠ 0) : l.take n = dg (vL l).toNat := by
  have e : vL (l.take n) = vL l := by rw [vL_take hn]; exact (vF_top hn h0).symm
  rw [← e]
  refine eq_dg (fun i hi => ?_) (fun hp => ?_)
  · rw [List.length_take, Nat.min_eq_left hn] at hi
    rw [dF_take hi]; exact h i (by omega)
  · rw [List.length_take, Nat.min_eq_left hn] at hp ⊢
    rw [dF_take (by omega)]; exact ht hp
end Go.Proofs.Ytcobihdjcdefmaa
namespace Go.Proofs.Ytcobihdjcdefmaa
theorem dF_over {l : List Int} {i : Nat} (h : l.length ≤ i) : dF l i = 0 := by
  show l.getD i 0 = 0
  rw [List.getD_eq_getElem?_getD, List.getElem?_eq_none h]; rfl
theorem vF_over {l : List Int} {n : Nat} (h : l.length ≤ n) : vF n (dF l) = vL l := vF_top h fun i hi _ => dF_over hi
theorem gL_dF {l : List Int} (h : gL l) (i : Nat) : 0 ≤ dF l i ∧ dF l i < 10000 := by
  by_cases e : i < l.length
  · exact h i e
  · rw [dF_over (by omega)]; omega
theorem add_step {out a b : List Int} {c : Int} (h : vL out + c * 10000 ^ out.length = vF out.length (dF a) + vF out.length (dF b)) {s : Int} (hs : s = c + dF a out.length + dF b out.length) :
    vL (out ++ [s % 10000]) + s / 10000 * 10000 ^ (out.length + 1) = vF (out.length + 1) (dF a) + vF (out.length + 1) (dF b) := by
  rw [vL_snoc, pw_succ]
  show _ = vF out.length (dF a) + dF a out.length * 10000 ^ out.length + (vF out.length (dF b) + dF b out.length * 10000 ^ out.length)
  have e : s = s % 10000 + 10000 * (s / 10000) := by omega
  have e2 : s * 10000 ^ out.length = s % 10000 * 10000 ^ out.length + s / 10000 * (10000 ^ out.length * 10000) := by
    conv => lhs; rw [e]
    rw [Int.add_mul, Int.mul_comm 10000 (s / 10000), Int.mul_assoc, Int.mul_comm 10000 (10000 ^ out.length)]
  have e3 : s * 10000 ^ out.length = c * 10000 ^ out.length + dF a out.length * 10000 ^ out.length + dF b out.length * 10000 ^ out.length := by
    rw [hs, Int.add_mul, Int.add_mul]
  omega
theorem sub_step {out a b : List Int} {c : Int} (h : vL out - c * 10000 ^ out.length = vF out.length (dF a) - vF out.length (dF b)) {s c' : Int} (hs : s = dF a out.length - c - dF b out.length + c' * 10000) :
    vL (out ++ [s]) - c' * 10000 ^ (out.length + 1) = vF (out.length + 1) (dF a) - vF (out.length + 1) (dF b) := by
  rw [vL_snoc, pw_succ]
  show _ = vF out.length (dF a) + dF a out.length * 10000 ^ out.length - (vF out.length (dF b) + dF b out.length * 10000 ^ out.length)
  have e2 : s * 10000 ^ out.length = dF a out.length * 10000 ^ out.length - c * 10000 ^ out.length - dF b out.length * 10000 ^ out.length + c' * (10000 ^ out.length * 10000) := by
    rw [hs, Int.add_mul, Int.sub_mul, Int.sub_mul, Int.mul_assoc, Int.mul_comm 10000 (10000 ^ out.length)]
  omega
/-- One step of a product's row: the digit at i + k becomes s % 10000. -/
theorem mul_step {n : Nat} {f : Nat → Int} {b : List Int} {x c V : Int} {i k : Nat} (hik : i + k < n)
    (h : vF n f + c * 10000 ^ (i + k) = V + x * vF k (dF b) * 10000 ^ i) {s : Int} (hs : s = f (i + k) + x * dF b k + c) :
    vF n (fun j => if j = i + k then s % 10000 else f j) + s / 10000 * 10000 ^ (i + (k + 1)) = V + x * vF (k + 1) (dF b) * 10000 ^ i := by
  rw [vF_set hik, ← Nat.add_assoc, pw_succ]
  show _ = V + x * (vF k (dF b) + dF b k * 10000 ^ k) * 10000 ^ i
  have e : s = s % 10000 + 10000 * (s / 10000) := by omega
  have e2 : s * 10000 ^ (i + k) = s % 10000 * 10000 ^ (i + k) + s / 10000 * (10000 ^ (i + k) * 10000) := by
    conv => lhs; rw [e]
    rw [Int.add_mul, Int.mul_comm 10000 (s / 10000), Int.mul_assoc, Int.mul_comm 10000 (10000 ^ (i + k))]
  have e3 : s * 10000 ^ (i + k) = f (i + k) * 10000 ^ (i + k) + x * dF b k * 10000 ^ (i + k) + c * 10000 ^ (i + k) := by
    rw [hs, Int.add_mul, Int.add_mul]
  have e4 : x * (vF k (dF b) + dF b k * 10000 ^ k) * 10000 ^ i = x * vF k (dF b) * 10000 ^ i + x * dF b k * 10000 ^ (i + k) := by
    rw [Int.mul_add, Int.add_mul, Int.pow_add, ← Int.mul_assoc x, Int.mul_assoc (x * dF b k), Int.mul_comm (10000 ^ k)]
  rw [Int.sub_mul, e4]
  omega
/-- The end of a row: the carry goes to the digit above, which was 0. -/
theorem mul_row {n : Nat} {f : Nat → Int} {b : List Int} {x c V : Int} {i : Nat} (hik : i + b.length < n) (h0 : f (i + b.length) = 0)
    (h : vF n f + c * 10000 ^ (i + b.length) = V + x * vF b.length (dF b) * 10000 ^ i) :
    vF n (fun j => if j = i + b.length then c else f j) = V + x * vL b * 10000 ^ i := by
  rw [vF_set hik, h0, Int.sub_zero]; exact h
theorem mul_next {a : List Int} {i : Nat} (V : Int) : vF i (dF a) * V + dF a i * V * 10000 ^ i = vF (i + 1) (dF a) * V := by
  show _ = (vF i (dF a) + dF a i * 10000 ^ i) * V
  rw [Int.add_mul, Int.mul_assoc (dF a i), Int.mul_assoc (dF a i), Int.mul_comm V]
theorem mul_bound {f x b c : Int} (hf : 0 ≤ f ∧ f < 10000) (hx : 0 ≤ x ∧ x < 10000) (hb : 0 ≤ b ∧ b < 10000) (hc : 0 ≤ c ∧ c < 10000) : 0 ≤ x * b ∧ x * b ≤ 99980001 ∧ 0 ≤ (f + x * b + c) % 10000 ∧ (f + x * b + c) % 10000 < 10000 ∧ 0 ≤ (f + x * b + c) / 10000 ∧ (f + x * b + c) / 10000 < 10000 := by
  have h1 : 0 ≤ x * b := Int.mul_nonneg hx.1 hb.1
  have h2 : x * b ≤ 9999 * 9999 := Int.mul_le_mul (by omega) (by omega) hb.1 (by decide)
  omega
/-- The greatest digit of a quotient. -/
theorem div_digit {R y lo : Nat} (hy : 0 < y) (h1 : y * lo ≤ R) (h2 : R < y * (lo + 1)) : lo = R / y ∧ R - y * lo = R % y := by
  have e : R / y = lo := Nat.div_eq_of_lt_le (by rw [Nat.mul_comm]; exact h1) (by rw [Nat.mul_comm]; exact h2)
  refine ⟨e.symm, ?_⟩
  have := Nat.div_add_mod R y
  rw [e] at this; omega
end Go.Proofs.Ytcobihdjcdefmaa
namespace Go.Proofs.Ytcobihdjcdefmaa
/-- x over y, rounded: a half goes to the even one (mode 5 of the reference), or up (mode 4). -/
def rndEven (x y : Int) : Int := if x % y = 0 then x / y else if y < 2 * (x % y) ∨ 2 * (x % y) = y ∧ (x / y) % 2 ≠ 0 then x / y + 1 else x / y
def rndUp (x y : Int) : Int := if x % y = 0 then x / y else if y ≤ 2 * (x % y) then x / y + 1 else x / y
theorem rndUp_same {s : Int} : rndUp s 10000 = (s + 5000) / 10000 := by
  unfold rndUp
  split
  · omega
  · split <;> omega
/-- What the program rounds. -/
def rndAbs (N y : Int) : Int := if y < 2 * (N % y) ∨ 2 * (N % y) = y ∧ (N / y) % 2 = 1 then N / y + 1 else N / y
theorem rnd_pos {N : Int} : rndEven N 3650000 = rndAbs N 3650000 := by
  unfold rndEven rndAbs
  split
  · rw [if_neg (by omega)]
  · split <;> split <;> omega
theorem rnd_neg {N : Int} : rndEven (-N) 3650000 = - rndAbs N 3650000 := by
  unfold rndEven rndAbs
  by_cases h : N % 3650000 = 0
  · rw [if_pos (by omega), if_neg (by omega)]; omega
  · rw [if_neg (by omega)]
    have e1 : (-N) / 3650000 = - (N / 3650000) - 1 := by omega
    have e2 : (-N) % 3650000 = 3650000 - N % 3650000 := by omega
    rw [e1, e2]
    split <;> split <;> omega
/-- The interest: both sides say the same. -/
theorem interest_same {c r d : Int} : rndEven (c * r * d) 3650000 = if c < 0 then - rndAbs (max c (-c) * (r * d)) 3650000 else rndAbs (max c (-c) * (r * d)) 3650000 := by
  by_cases h : c < 0
  · rw [if_pos h, show max c (-c) = -c by omega, ← rnd_neg, Int.neg_mul, Int.neg_neg, Int.mul_assoc]
  · rw [if_neg h, show max c (-c) = c by omega, ← rnd_pos, Int.mul_assoc]
end Go.Proofs.Ytcobihdjcdefmaa
