/-
  Flows in plain Lean: sums over arcs and nodes; a flow with feasible potentials costs the least; a flow whose tight steps are cut off is the lexicographically greatest.
  Potentials: Bellman and Ford's sweeps from zeros come to rest within n turns if there are feasible potentials at all.
  Cheapest ways: labels of cost, number of steps and last step; sweeps over them come to rest, and then the last steps lead back to a source.
  Pushing along steps of different arcs: what carries, what balances, which steps can still carry. Ways by labels. Feasible potentials after a push.
  The steps of a network, one round of carrying, and what it means that nothing more can be carried.
  Making a flow of least cost the lexicographically greatest: trees of a search, pushes round through an arc, what was settled stays settled.
  A label's number of steps is below the number of nodes: the walk that it tells of (a ghost) passes each node once.
  A sweep of potentials with its flag; how low potentials get.
  The search of round, in plain Lean.
-/
import Derived.Test.YtcobihdjcdefmaaQPZ
namespace Go.Proofs.Ytcobihdjcdefmaa
open PAccountsCompress
/-! ### Sums -/
def sumN : Nat → (Nat → Int) → Int
  | 0, _ => 0
  | n + 1, f => sumN n f + f n
theorem sumN_congr {n : Nat} {f g : Nat → Int} (h : ∀ i, i < n → f i = g i) : sumN n f = sumN n g := by
  induction n with
  | zero => rfl
  | succ n ih => simp only [sumN]; rw [ih (fun i hi => h i (by omega)), h n (by omega)]
theorem sumN_zero {n : Nat} {f : Nat → Int} (h : ∀ i, i < n → f i = 0) : sumN n f = 0 := by
  induction n with
  | zero => rfl
  | succ n ih => simp only [sumN]; rw [ih (fun i hi => h i (by omega)), h n (by omega)]; rfl
theorem sumN_add (n : Nat) (f g : Nat → Int) : sumN n (fun i => f i + g i) = sumN n f + sumN n g := by
  induction n with
  | zero => rfl
  | succ n ih => simp only [sumN]; rw [ih]; omega
theorem sumN_sub (n : Nat) (f g : Nat → Int) : sumN n (fun i => f i - g i) = sumN n f - sumN n g := by
  induction n with
  | zero => rfl
  | succ n ih => simp only [sumN]; rw [ih]; omega
theorem sumN_mul (n : Nat) (c : Int) (f : Nat → Int) : sumN n (fun i => c * f i) = c * sumN n f := by
  induction n with
  | zero => simp [sumN]
  | succ n ih => simp only [sumN]; rw [ih, Int.mul_add]
theorem sumN_le {n : Nat} {f g : Nat → Int} (h : ∀ i, i < n → f i ≤ g i) : sumN n f ≤ sumN n g := by
  induction n with
  | zero => exact Int.le_refl _
  | succ n ih => simp only [sumN]; have := ih (fun i hi => h i (by omega)); have := h n (by omega); omega
theorem sumN_lt {n : Nat} {f g : Nat → Int} (h : ∀ i, i < n → f i ≤ g i) {j : Nat} (hj : j < n) (hlt : f j < g j) : sumN n f < sumN n g := by
  induction n with
  | zero => omega
  | succ n ih =>
    simp only [sumN]
    by_cases e : j = n
    · subst e
      have := sumN_le (n := j) (f := f) (g := g) (fun i hi => h i (by omega))
      omega
    · have := ih (fun i hi => h i (by omega)) (by omega)
      have := h n (by omega)
      omega
theorem sumN_nonneg {n : Nat} {f : Nat → Int} (h : ∀ i, i < n → 0 ≤ f i) : 0 ≤ sumN n f := by
  have := sumN_le (f := fun _ => 0) (g := f) (n := n) h
  rwa [sumN_zero (fun _ _ => rfl)] at this
theorem sumN_eq_zero {n : Nat} {f : Nat → Int} (h : ∀ i, i < n → 0 ≤ f i) (hs : sumN n f ≤ 0) : ∀ i, i < n → f i = 0 := fun i hi => by
  refine Int.le_antisymm ?_ (h i hi)
  rcases Int.lt_or_le 0 (f i) with h1 | h1
  · have := sumN_lt (f := fun _ => 0) (g := f) h hi h1
    rw [sumN_zero (fun _ _ => rfl)] at this
    omega
  · exact h1
theorem sumN_single {n : Nat} {j : Nat} (hj : j < n) (c : Int) : sumN n (fun i => if i = j then c else 0) = c := by
  induction n with
  | zero => omega
  | succ n ih =>
    simp only [sumN]
    by_cases e : j = n
    · subst e
      rw [sumN_zero (fun i hi => if_neg (by omega)), if_pos rfl, Int.zero_add]
    · rw [ih (by omega), if_neg (by omega), Int.add_zero]
theorem sumN_pick {n : Nat} (p : Int → Int) {u : Int} (h0 : 0 ≤ u) (h1 : u < n) (c : Int) : sumN n (fun v => p v * (if u = v then c else 0)) = p u * c := by
  have e : ∀ i : Nat, i < n → p i * (if u = i then c else 0) = if i = u.toNat then p u * c else 0 := fun i hi => by
    by_cases h : u = i
    · rw [if_pos h, if_pos (by omega), h]
    · rw [if_neg h, if_neg (by omega), Int.mul_zero]
  rw [sumN_congr e, sumN_single (by omega)]
/-! ### Networks -/
abbrev Ar := S69
abbrev Stp := S145
/-- m arcs between nodes 0 .. n - 1. -/
def Net (n m : Nat) (A : Nat → Ar) : Prop := ∀ i, i < m → 0 ≤ (A i).f0 ∧ (A i).f0 < n ∧ 0 ≤ (A i).f1 ∧ (A i).f1 < n ∧ (A i).f0 ≠ (A i).f1
def Valid (m : Nat) (A : Nat → Ar) (x : Nat → Int) : Prop := ∀ i, i < m → 0 ≤ x i ∧ x i ≤ (A i).f2
def balF (m : Nat) (A : Nat → Ar) (x : Nat → Int) (v : Int) : Int := sumN m (fun i => (if (A i).f0 = v then x i else 0) - (if (A i).f1 = v then x i else 0))
def costF (m : Nat) (A : Nat → Ar) (x : Nat → Int) : Int := sumN m (fun i => (A i).f3 * x i)
def frm (A : Nat → Ar) (s : Stp) : Int := if s.f1 then (A s.f0.toNat).f1 else (A s.f0.toNat).f0
def tow (A : Nat → Ar) (s : Stp) : Int := if s.f1 then (A s.f0.toNat).f0 else (A s.f0.toNat).f1
def cst (A : Nat → Ar) (s : Stp) : Int := if s.f1 then -(A s.f0.toNat).f3 else (A s.f0.toNat).f3
def spr (A : Nat → Ar) (x : Nat → Int) (s : Stp) : Int := if s.f1 then x s.f0.toNat else (A s.f0.toNat).f2 - x s.f0.toNat
def Res (m : Nat) (A : Nat → Ar) (x : Nat → Int) (s : Stp) : Prop := (0 ≤ s.f0 ∧ s.f0 < m) ∧ 0 < spr A x s
/-- Potentials that no residual step undercuts. -/
def Feas (m : Nat) (A : Nat → Ar) (x : Nat → Int) (p : Int → Int) : Prop := ∀ s, Res m A x s → p (tow A s) ≤ p (frm A s) + cst A s
def rc (A : Nat → Ar) (p : Int → Int) (i : Nat) : Int := (A i).f3 + p (A i).f0 - p (A i).f1
theorem Res.on {m : Nat} {A : Nat → Ar} {x : Nat → Int} {i : Nat} (hi : i < m) (h : x i < (A i).f2) : Res m A x ⟨i, false⟩ := ⟨⟨by simp, by simpa using hi⟩, by simp only [spr]; simp; omega⟩
theorem Res.off {m : Nat} {A : Nat → Ar} {x : Nat → Int} {i : Nat} (hi : i < m) (h : 0 < x i) : Res m A x ⟨i, true⟩ := ⟨⟨by simp, by simpa using hi⟩, by simp only [spr]; simp; omega⟩
theorem Feas.on {m : Nat} {A : Nat → Ar} {x : Nat → Int} {p : Int → Int} (h : Feas m A x p) {i : Nat} (hi : i < m) (hx : x i < (A i).f2) : 0 ≤ rc A p i := by
  have := h _ (Res.on hi hx)
  simp only [tow, frm, cst] at this
  simp at this
  unfold rc
  omega
theorem Feas.off {m : Nat} {A : Nat → Ar} {x : Nat → Int} {p : Int → Int} (h : Feas m A x p) {i : Nat} (hi : i < m) (hx : 0 < x i) : rc A p i ≤ 0 := by
  have := h _ (Res.off hi hx)
  simp only [tow, frm, cst] at this
  simp at this
  unfold rc
  omega
/-- What leaves less what enters, weighed by potentials. -/
theorem pot_sum {n m : Nat} {A : Nat → Ar} (hN : Net n m A) (x : Nat → Int) (p : Int → Int) :
    sumN m (fun i => (p (A i).f0 - p (A i).f1) * x i) = sumN n (fun v => p v * balF m A x v) := by
  induction m with
  | zero =>
    simp only [sumN, balF]
    rw [sumN_zero (fun i _ => Int.mul_zero _)]
  | succ m ih =>
    simp only [sumN, balF]
    rw [ih (fun i hi => hN i (by omega))]
    obtain ⟨h1, h2, h3, h4, _⟩ := hN m (by omega)
    have e : ∀ v : Nat, v < n → p v * (sumN m (fun i => (if (A i).f0 = v then x i else 0) - (if (A i).f1 = v then x i else 0)) + ((if (A m).f0 = v then x m else 0) - (if (A m).f1 = v then x m else 0)))
        = p v * balF m A x v + (p v * (if (A m).f0 = v then x m else 0) - p v * (if (A m).f1 = v then x m else 0)) := fun v _ => by
      rw [Int.mul_add, Int.mul_sub]; rfl
    rw [sumN_congr e, sumN_add, sumN_sub, sumN_pick p h1 h2, sumN_pick p h3 h4, Int.sub_mul]
theorem balF_sub (m : Nat) (A : Nat → Ar) (x y : Nat → Int) (v : Int) : balF m A (fun i => y i - x i) v = balF m A y v - balF m A x v := by
  unfold balF
  rw [← sumN_sub]
  refine sumN_congr fun i _ => ?_
  show ((if (A i).f0 = v then y i - x i else 0) - (if (A i).f1 = v then y i - x i else 0)) = ((if (A i).f0 = v then y i else 0) - (if (A i).f1 = v then y i else 0)) - ((if (A i).f0 = v then x i else 0) - (if (A i).f1 = v then x i else 0))
  split <;> split <;> omega
theorem costF_sub (m : Nat) (A : Nat → Ar) (x y : Nat → Int) : costF m A (fun i => y i - x i) = costF m A y - costF m A x := by
  unfold costF
  rw [← sumN_sub]
  exact sumN_congr fun i _ => Int.mul_sub _ _ _
/-- The cost of a circulation, by reduced costs. -/
theorem cost_rc {n m : Nat} {A : Nat → Ar} (hN : Net n m A) (d : Nat → Int) (hb : ∀ v : Nat, v < n → balF m A d v = 0) (p : Int → Int) : costF m A d = sumN m (fun i => rc A p i * d i) := by
  have h := pot_sum hN d p
  rw [sumN_zero (f := fun v => p v * balF m A d v) (fun v hv => by rw [hb v hv, Int.mul_zero])] at h
  have e : sumN m (fun i => rc A p i * d i) = sumN m (fun i => (A i).f3 * d i + (p (A i).f0 - p (A i).f1) * d i) :=
    sumN_congr fun i _ => by unfold rc; rw [← Int.add_mul]; congr 1; omega
  rw [e, sumN_add, h, Int.add_zero]
  rfl
section
variable {n m : Nat} {A : Nat → Ar} {x y : Nat → Int} {p : Int → Int}
theorem term_nonneg (hx : Valid m A x) (hy : Valid m A y) (hp : Feas m A x p) {i : Nat} (hi : i < m) : 0 ≤ rc A p i * (y i - x i) := by
  obtain ⟨h1, h2⟩ := hx i hi
  obtain ⟨h3, h4⟩ := hy i hi
  rcases Int.lt_trichotomy (y i) (x i) with h | h | h
  · have h5 := hp.off hi (by omega)
    exact Int.mul_nonneg_of_nonpos_of_nonpos h5 (by omega)
  · rw [h, Int.sub_self, Int.mul_zero]; exact Int.le_refl _
  · have h5 := hp.on hi (by omega)
    exact Int.mul_nonneg h5 (by omega)
/-- With feasible potentials no flow of the same balance costs less. -/
theorem opt_le (hN : Net n m A) (hx : Valid m A x) (hy : Valid m A y) (hb : ∀ v : Nat, v < n → balF m A y v = balF m A x v) (hp : Feas m A x p) : costF m A x ≤ costF m A y := by
  have h := cost_rc hN (fun i => y i - x i) (fun v hv => by rw [balF_sub, hb v hv, Int.sub_self]) p
  rw [costF_sub] at h
  have := sumN_nonneg (f := fun i => rc A p i * (y i - x i)) (fun i hi => term_nonneg hx hy hp hi)
  omega
/-- No tight steps of later arcs lead round through arc i. -/
def LexCert (m : Nat) (A : Nat → Ar) (x : Nat → Int) (p : Int → Int) : Prop := ∀ i, i < m → rc A p i = 0 → x i < (A i).f2 →
  ∃ R : Int → Bool, R (A i).f1 = true ∧ R (A i).f0 = false ∧ ∀ s, Res m A x s → (i : Int) < s.f0 → rc A p s.f0.toNat = 0 → R (frm A s) = true → R (tow A s) = true
/-- The excess of a set that residual steps don't leave. -/
def capOut (m : Nat) (A : Nat → Ar) (R : Int → Bool) : Int := sumN m (fun i => if R (A i).f0 && !R (A i).f1 then (A i).f2 else 0)
theorem cut_out (hN : Net n m A) (hx : Valid m A x) {R : Int → Bool} (hR : ∀ s, Res m A x s → R (frm A s) = true → R (tow A s) = true) : sumN n (fun v => (if R v then 1 else 0) * balF m A x v) = capOut m A R := by
  rw [← pot_sum hN x (fun v => if R v then 1 else 0)]
  refine sumN_congr fun i hi => ?_
  obtain ⟨h1, h2⟩ := hx i hi
  have h5 := hR ⟨i, true⟩
  have h6 := hR ⟨i, false⟩
  simp only [frm, tow] at h5 h6
  cases h7 : R (A i).f0 <;> cases h8 : R (A i).f1 <;> simp_all
  · rcases Int.lt_or_le 0 (x i) with h9 | h9
    · exact absurd (Res.off hi h9) h5
    · omega
  · rcases Int.lt_or_le (x i) (A i).f2 with h9 | h9
    · exact absurd (Res.on hi h9) h6
    · omega
/-- No flow for a need whose excess is above 0. -/
theorem cut_le (hN : Net n m A) (hx : Valid m A x) (R : Int → Bool) : sumN n (fun v => (if R v then 1 else 0) * balF m A x v) ≤ capOut m A R := by
  rw [← pot_sum hN x (fun v => if R v then 1 else 0)]
  refine sumN_le fun i hi => ?_
  obtain ⟨h1, h2⟩ := hx i hi
  cases h7 : R (A i).f0 <;> cases h8 : R (A i).f1 <;> simp <;> omega
end
end Go.Proofs.Ytcobihdjcdefmaa
namespace Go.Proofs.Ytcobihdjcdefmaa
open PAccountsCompress
def upd (p : Int → Int) (v c : Int) : Int → Int := fun u => if u = v then c else p u
theorem upd_eq (p : Int → Int) (v c : Int) : upd p v c v = c := if_pos rfl
/-- A list of steps of n nodes, none of which costs more than C. -/
def StpsOk (n : Nat) (A : Nat → Ar) (C : Int) (all : List Stp) : Prop := ∀ s ∈ all, 0 ≤ frm A s ∧ frm A s < n ∧ 0 ≤ tow A s ∧ tow A s < n ∧ frm A s ≠ tow A s ∧ -C ≤ cst A s ∧ cst A s ≤ C
def FeasL (A : Nat → Ar) (all : List Stp) (p : Int → Int) : Prop := ∀ s ∈ all, p (tow A s) ≤ p (frm A s) + cst A s
def relP (A : Nat → Ar) (p : Int → Int) (s : Stp) : Int → Int := if p (frm A s) + cst A s < p (tow A s) then upd p (tow A s) (p (frm A s) + cst A s) else p
def swpP (A : Nat → Ar) (all : List Stp) (p : Int → Int) : Int → Int := all.foldl (relP A) p
theorem relP_le (A : Nat → Ar) (p : Int → Int) (s : Stp) (v : Int) : relP A p s v ≤ p v := by
  unfold relP
  split
  · unfold upd
    split
    · next h1 h2 => subst h2; omega
    · exact Int.le_refl _
  · exact Int.le_refl _
theorem swpP_le (A : Nat → Ar) (all : List Stp) (p : Int → Int) (v : Int) : swpP A all p v ≤ p v := by
  unfold swpP
  induction all generalizing p with
  | nil => exact Int.le_refl _
  | cons s l ih => exact Int.le_trans (ih (relP A p s)) (relP_le A p s v)
theorem relP_ge {A : Nat → Ar} {p d : Int → Int} {s : Stp} (hd : d (tow A s) ≤ d (frm A s) + cst A s) (h : ∀ v, d v ≤ p v) (v : Int) : d v ≤ relP A p s v := by
  unfold relP
  split
  · unfold upd
    split
    · next h1 h2 => subst h2; have := h (frm A s); omega
    · exact h v
  · exact h v
theorem swpP_ge {A : Nat → Ar} {all : List Stp} {p d : Int → Int} (hd : FeasL A all d) (h : ∀ v, d v ≤ p v) (v : Int) : d v ≤ swpP A all p v := by
  unfold swpP
  induction all generalizing p with
  | nil => exact h v
  | cons s l ih => exact ih (fun t ht => hd t (List.mem_cons_of_mem _ ht)) (fun v => relP_ge (hd s (List.mem_cons_self ..)) h v)
theorem relP_self (A : Nat → Ar) (p : Int → Int) (s : Stp) : relP A p s (tow A s) ≤ p (frm A s) + cst A s := by
  unfold relP
  split
  · rw [upd_eq]; exact Int.le_refl _
  · omega
theorem swpP_arc {A : Nat → Ar} {all : List Stp} {p : Int → Int} {s : Stp} (hs : s ∈ all) : swpP A all p (tow A s) ≤ p (frm A s) + cst A s := by
  unfold swpP
  induction all generalizing p with
  | nil => cases hs
  | cons t l ih =>
    rcases List.mem_cons.1 hs with h | h
    · subst h
      have h1 := relP_self A p s
      have h2 := swpP_le A l (relP A p s) (tow A s)
      unfold swpP at h2
      simp only [List.foldl_cons]
      omega
    · have h1 := relP_le A p t (frm A s)
      have h2 := ih (p := relP A p t) h
      simp only [List.foldl_cons]
      omega
theorem relP_fix {A : Nat → Ar} {p : Int → Int} {s : Stp} (h : p (tow A s) ≤ p (frm A s) + cst A s) : relP A p s = p := if_neg (by omega)
theorem swpP_fix {A : Nat → Ar} {all : List Stp} {p : Int → Int} (h : FeasL A all p) : swpP A all p = p := by
  unfold swpP
  induction all with
  | nil => rfl
  | cons s l ih =>
    simp only [List.foldl_cons]
    rw [relP_fix (h s (List.mem_cons_self ..))]
    exact ih fun t ht => h t (List.mem_cons_of_mem _ ht)
/-- The greatest feasible potentials that are nowhere above 0. -/
theorem max_feas (n : Nat) (A : Nat → Ar) (all : List Stp) : ∀ (k : Nat) (d : Int → Int), FeasL A all d → (∀ v, d v ≤ 0) → -(sumN n fun v => d v) ≤ k →
    ∃ e : Int → Int, FeasL A all e ∧ (∀ v, e v ≤ 0) ∧ ∀ e' : Int → Int, FeasL A all e' → (∀ v, e' v ≤ 0) → (sumN n fun v => e' v) ≤ sumN n fun v => e v
  | k, d, h1, h2, h3 => by
    by_cases hx : ∃ e' : Int → Int, FeasL A all e' ∧ (∀ v, e' v ≤ 0) ∧ (sumN n fun v => d v) < sumN n fun v => e' v
    · obtain ⟨e', g1, g2, g3⟩ := hx
      cases k with
      | zero =>
        exfalso
        have := sumN_le (n := n) (f := fun v => e' v) (g := fun _ => 0) fun i _ => g2 i
        rw [sumN_zero (f := fun _ => (0 : Int)) fun _ _ => rfl] at this
        omega
      | succ k => exact max_feas n A all k e' g1 g2 (by omega)
    · refine ⟨d, h1, h2, fun e' g1 g2 => ?_⟩
      rcases Int.lt_or_le (sumN n fun v => d v) (sumN n fun v => e' v) with h | h
      · exact absurd ⟨e', g1, g2, h⟩ hx
      · exact h
/-- Nodes that k tight steps reach from a node of potential 0. -/
def lay (A : Nat → Ar) (all : List Stp) (d : Int → Int) : Nat → Int → Prop
  | 0, v => d v = 0
  | k + 1, v => lay A all d k v ∨ ∃ s, s ∈ all ∧ tow A s = v ∧ lay A all d k (frm A s) ∧ d v = d (frm A s) + cst A s
theorem lay_le {A : Nat → Ar} {all : List Stp} {d : Int → Int} {k : Nat} {v : Int} (h : lay A all d k v) : ∀ j, k ≤ j → lay A all d j v := fun j hj => by
  induction hj with
  | refl => exact h
  | step _ ih => exact .inl ih
theorem swp_lay {A : Nat → Ar} {all : List Stp} {p d : Int → Int} (hd : FeasL A all d) (h : ∀ v, d v ≤ p v) {k : Nat} (hp : ∀ v, lay A all d k v → p v = d v) : ∀ v, lay A all d (k + 1) v → swpP A all p v = d v := fun v hv => by
  have h1 := swpP_ge hd h v
  rcases hv with hv | ⟨s, hs, rfl, hv, he⟩
  · have := swpP_le A all p v
    rw [hp v hv] at this
    omega
  · have := swpP_arc (A := A) (p := p) hs
    rw [hp _ hv] at this
    omega
/-- How many of the nodes satisfy P. -/
noncomputable def cntN (n : Nat) (P : Int → Prop) : Nat := open Classical in ((List.range n).filter fun v => decide (P (Int.ofNat v))).length
theorem cntN_le (n : Nat) (P : Int → Prop) : cntN n P ≤ n := by
  unfold cntN
  have := List.length_filter_le (fun v : Nat => open Classical in decide (P (Int.ofNat v))) (List.range n)
  simpa using this
theorem filter_lt {α : Type} {l : List α} {p q : α → Bool} (h : ∀ a, p a = true → q a = true) {a : α} (ha : a ∈ l) (hp : p a = false) (hq : q a = true) : (l.filter p).length < (l.filter q).length := by
  induction l with
  | nil => cases ha
  | cons b l ih =>
    have hle : (l.filter p).length ≤ (l.filter q).length := by
      clear ih ha
      induction l with
      | nil => exact Nat.le_refl _
      | cons c l ih2 =>
        simp only [List.filter_cons]
        cases h1 : p c <;> cases h2 : q c <;> simp_all
        omega
    simp only [List.filter_cons]
    rcases List.mem_cons.1 ha with h1 | h1
    · subst h1
      rw [hp, hq]
      simp
      omega
    · have := ih h1
      cases h1 : p b <;> cases h2 : q b <;> simp_all
      omega
theorem cntN_lt {n : Nat} {P Q : Int → Prop} (h : ∀ v, P v → Q v) {v : Int} (h0 : 0 ≤ v) (h1 : v < n) (hp : ¬ P v) (hq : Q v) : cntN n P < cntN n Q := by
  unfold cntN
  have e : Int.ofNat v.toNat = v := by show ((v.toNat : Nat) : Int) = v; omega
  refine filter_lt (a := v.toNat) (fun a ha => ?_) (by simp; omega) ?_ ?_
  · simp only [decide_eq_true_eq] at ha ⊢
    exact h _ ha
  · simp only [decide_eq_false_iff_not, e]; exact hp
  · simp only [decide_eq_true_eq, e]; exact hq
theorem cntN_all {n : Nat} {P : Int → Prop} (h : n ≤ cntN n P) : ∀ v : Int, 0 ≤ v → v < n → P v := fun v h0 h1 => by
  by_cases hp : P v
  · exact hp
  · exfalso
    have := cntN_lt (n := n) (P := P) (Q := fun _ => True) (fun _ _ => trivial) h0 h1 hp trivial
    have := cntN_le n (fun _ => True)
    omega
section
variable {n : Nat} {A : Nat → Ar} {C : Int} {all : List Stp}
/-- If the greatest feasible potentials' layers stand still, they hold all nodes. -/
theorem lay_grows (hS : StpsOk n A C all) {d : Int → Int} (hd : FeasL A all d) (h0 : ∀ v, d v ≤ 0)
    (hm : ∀ e' : Int → Int, FeasL A all e' → (∀ v, e' v ≤ 0) → (sumN n fun v => e' v) ≤ sumN n fun v => d v) (k : Nat) :
    (∀ v : Int, 0 ≤ v → v < n → lay A all d k v) ∨ ∃ v : Int, 0 ≤ v ∧ v < n ∧ ¬ lay A all d k v ∧ lay A all d (k + 1) v := by
  by_cases hall : ∀ v : Int, 0 ≤ v → v < n → lay A all d k v
  · exact .inl hall
  · refine .inr ?_
    refine Classical.byContradiction fun hno => ?_
    have hno : ∀ v : Int, 0 ≤ v → v < n → lay A all d (k + 1) v → lay A all d k v := fun v a b c => Classical.byContradiction fun g => hno ⟨v, a, b, g, c⟩
    have hex : ∃ v : Int, 0 ≤ v ∧ v < n ∧ ¬ lay A all d k v := Classical.byContradiction fun g => hall fun v a b => Classical.byContradiction fun c => g ⟨v, a, b, c⟩
    obtain ⟨u, u0, u1, hu⟩ := hex
    let e : Int → Int := fun v => open Classical in if 0 ≤ v ∧ v < n ∧ ¬ lay A all d k v then d v + 1 else d v
    have e1 : ∀ v : Int, 0 ≤ v ∧ v < n ∧ ¬ lay A all d k v → e v = d v + 1 := fun v h => if_pos h
    have e2 : ∀ v : Int, ¬ (0 ≤ v ∧ v < n ∧ ¬ lay A all d k v) → e v = d v := fun v h => if_neg h
    have hf : FeasL A all e := fun s hs => by
      have hds := hd s hs
      by_cases ht : 0 ≤ tow A s ∧ tow A s < n ∧ ¬ lay A all d k (tow A s)
      · rw [e1 _ ht]
        by_cases hf : 0 ≤ frm A s ∧ frm A s < n ∧ ¬ lay A all d k (frm A s)
        · rw [e1 _ hf]; omega
        · rw [e2 _ hf]
          by_cases htight : d (tow A s) = d (frm A s) + cst A s
          · exfalso
            obtain ⟨a1, a2, _⟩ := hS s hs
            have hfl : lay A all d k (frm A s) := Classical.byContradiction fun g => hf ⟨a1, a2, g⟩
            exact ht.2.2 (hno _ ht.1 ht.2.1 (.inr ⟨s, hs, rfl, hfl, htight⟩))
          · omega
      · rw [e2 _ ht]
        by_cases hf : 0 ≤ frm A s ∧ frm A s < n ∧ ¬ lay A all d k (frm A s)
        · rw [e1 _ hf]; omega
        · rw [e2 _ hf]; exact hds
    have he0 : ∀ v, e v ≤ 0 := fun v => by
      by_cases hv : 0 ≤ v ∧ v < n ∧ ¬ lay A all d k v
      · rw [e1 _ hv]
        have : d v ≠ 0 := fun h => hv.2.2 (lay_le (k := 0) h k (Nat.zero_le _))
        have := h0 v
        omega
      · rw [e2 _ hv]; exact h0 v
    have := hm e hf he0
    have hlt := sumN_lt (n := n) (f := fun v => d v) (g := fun v => e v) (fun i _ => by
      show d i ≤ e i
      by_cases hv : 0 ≤ (i : Int) ∧ (i : Int) < n ∧ ¬ lay A all d k i
      · rw [e1 _ hv]; omega
      · rw [e2 _ hv]; exact Int.le_refl _) (j := u.toNat) (by omega) (by
      show d (u.toNat : Nat) < e (u.toNat : Nat)
      have hx : ((u.toNat : Nat) : Int) = u := by omega
      rw [hx, e1 u ⟨u0, u1, hu⟩]
      omega)
    omega
/-- The greatest feasible potentials, all of whose nodes n tight steps reach: none is below -n*C. -/
theorem pot_top (hS : StpsOk n A C all) (hq : ∃ q, FeasL A all q) : ∃ d : Int → Int, FeasL A all d ∧ (∀ v, d v ≤ 0) ∧ ∀ v : Int, 0 ≤ v → v < n → lay A all d n v := by
  obtain ⟨q, hq⟩ := hq
  have hb : ∃ B : Int, ∀ v : Int, 0 ≤ v → v < n → q v ≤ B := by
    clear hS
    induction n with
    | zero => exact ⟨0, fun v h0 h1 => by omega⟩
    | succ n ih =>
      obtain ⟨B, hB⟩ := ih
      refine ⟨max B (q n), fun v h0 h1 => ?_⟩
      by_cases e : v = n
      · subst e; exact Int.le_max_right ..
      · exact Int.le_trans (hB v h0 (by omega)) (Int.le_max_left ..)
  obtain ⟨B, hB⟩ := hb
  let q' : Int → Int := fun v => if 0 ≤ v ∧ v < n then q v - B else 0
  have e1 : ∀ v : Int, 0 ≤ v → v < n → q' v = q v - B := fun v a b => if_pos ⟨a, b⟩
  have hq' : FeasL A all q' := fun s hs => by
    obtain ⟨a1, a2, a3, a4, _⟩ := hS s hs
    have := hq s hs
    rw [e1 _ a1 a2, e1 _ a3 a4]
    omega
  have hq0 : ∀ v, q' v ≤ 0 := fun v => by
    by_cases h : 0 ≤ v ∧ v < n
    · rw [e1 _ h.1 h.2]; have := hB v h.1 h.2; omega
    · exact Int.le_of_eq (if_neg h)
  obtain ⟨d, h1, h2, h3⟩ := max_feas n A all (-(sumN n fun v => q' v)).toNat q' hq' hq0 (by omega)
  refine ⟨d, h1, h2, ?_⟩
  have hk : ∀ k, (∀ v : Int, 0 ≤ v → v < n → lay A all d k v) ∨ k ≤ cntN n (lay A all d k) := fun k => by
    induction k with
    | zero => exact .inr (Nat.zero_le _)
    | succ k ih =>
      rcases ih with h | h
      · exact .inl fun v a b => .inl (h v a b)
      · rcases lay_grows hS h1 h2 h3 k with g | ⟨v, a, b, g1, g2⟩
        · exact .inl fun v a b => .inl (g v a b)
        · have := cntN_lt (P := lay A all d k) (Q := lay A all d (k + 1)) (fun v hv => .inl hv) a b g1 g2
          exact .inr (by omega)
  rcases hk n with h | h
  · exact h
  · exact cntN_all h
theorem lay_ge (hS : StpsOk n A C all) {d : Int → Int} (h2 : ∀ v, d v ≤ 0) (hC : 0 ≤ C) : ∀ (k : Nat) (v : Int), lay A all d k v → -(k * C) ≤ d v
  | 0, v, h => by have h : d v = 0 := h; omega
  | k + 1, v, h => by
    have e : ((k + 1 : Nat) : Int) * C = k * C + C := by rw [Int.natCast_add, Int.add_mul]; simp
    rcases h with h | ⟨s, hs, rfl, hv, he⟩
    · have := lay_ge hS h2 hC k v h
      omega
    · have := lay_ge hS h2 hC k _ hv
      obtain ⟨_, _, _, _, _, a5, _⟩ := hS s hs
      omega
/-- Feasible potentials between -n*C and 0. -/
theorem pot_bound (hS : StpsOk n A C all) (hC : 0 ≤ C) (hq : ∃ q, FeasL A all q) : ∃ d : Int → Int, FeasL A all d ∧ (∀ v, d v ≤ 0) ∧ ∀ v : Int, 0 ≤ v → v < n → -(n * C) ≤ d v := by
  obtain ⟨d, h1, h2, h3⟩ := pot_top hS hq
  exact ⟨d, h1, h2, fun v a b => lay_ge hS h2 hC n v (h3 v a b)⟩
def swpPs (A : Nat → Ar) (all : List Stp) : Nat → Int → Int
  | 0 => fun _ => 0
  | k + 1 => swpP A all (swpPs A all k)
/-- After n sweeps from zeros nothing moves. -/
theorem swpPs_fix (hS : StpsOk n A C all) (hq : ∃ q, FeasL A all q) : FeasL A all (swpPs A all n) := by
  obtain ⟨d, h1, h2, h3⟩ := pot_top hS hq
  have hge : ∀ k v, d v ≤ swpPs A all k v := fun k => by
    induction k with
    | zero => exact h2
    | succ k ih => exact fun v => swpP_ge h1 ih v
  have hlay : ∀ k v, lay A all d k v → swpPs A all k v = d v := fun k => by
    induction k with
    | zero => exact fun v hv => hv.symm
    | succ k ih => exact swp_lay h1 (hge k) ih
  intro s hs
  obtain ⟨a1, a2, a3, a4, _⟩ := hS s hs
  rw [hlay n _ (h3 _ a1 a2), hlay n _ (h3 _ a3 a4)]
  exact h1 s hs
theorem swpPs_le (A : Nat → Ar) (all : List Stp) (k : Nat) (v : Int) : swpPs A all k v ≤ 0 := by
  induction k with
  | zero => exact Int.le_refl _
  | succ k ih => exact Int.le_trans (swpP_le A all _ v) ih
theorem swpPs_ge (hS : StpsOk n A C all) (hC : 0 ≤ C) (hq : ∃ q, FeasL A all q) (k : Nat) : ∀ v : Int, 0 ≤ v → v < n → -(n * C) ≤ swpPs A all k v := by
  obtain ⟨d, h1, h2, h3⟩ := pot_bound hS hC hq
  have hge : ∀ k v, d v ≤ swpPs A all k v := fun k => by
    induction k with
    | zero => exact h2
    | succ k ih => exact fun v => swpP_ge h1 ih v
  intro v a b
  exact Int.le_trans (h3 v a b) (hge k v)
end
end Go.Proofs.Ytcobihdjcdefmaa
namespace Go.Proofs.Ytcobihdjcdefmaa
open PAccountsCompress
abbrev Lb := S147
def far : Int := 1152921504606846976
def updL (L : Int → Lb) (v : Int) (c : Lb) : Int → Lb := fun u => if u = v then c else L u
theorem updL_eq (L : Int → Lb) (v : Int) (c : Lb) : updL L v c v = c := if_pos rfl
theorem updL_ne {L : Int → Lb} {v : Int} {c : Lb} {u : Int} (h : u ≠ v) : updL L v c u = L u := if_neg h
def hitL (A : Nat → Ar) (L : Int → Lb) (s : Stp) : Bool :=
  decide ((L (frm A s)).f0 ≠ far ∧ ((L (frm A s)).f0 + cst A s < (L (tow A s)).f0 ∨ ((L (frm A s)).f0 + cst A s = (L (tow A s)).f0 ∧ (L (frm A s)).f1 + 1 < (L (tow A s)).f1)))
def newL (A : Nat → Ar) (L : Int → Lb) (s : Stp) : Lb := ⟨(L (frm A s)).f0 + cst A s, (L (frm A s)).f1 + 1, s⟩
def relL (A : Nat → Ar) (L : Int → Lb) (s : Stp) : Int → Lb := if hitL A L s = true then updL L (tow A s) (newL A L s) else L
noncomputable def cntL (n : Nat) (L : Int → Lb) : Nat := cntN n fun v => (L v).f0 ≠ far
/-- What holds of the labels all along. -/
structure LI (n : Nat) (A : Nat → Ar) (C : Int) (all : List Stp) (S : Int → Bool) (q : Int → Int) (L : Int → Lb) : Prop where
  unset : ∀ v : Int, 0 ≤ v → v < n → (L v).f0 = far → (L v).f1 = 0
  low : ∀ v : Int, 0 ≤ v → v < n → (L v).f0 ≠ far → q v ≤ (L v).f0
  high : ∀ v : Int, 0 ≤ v → v < n → (L v).f0 ≠ far → (L v).f0 ≤ C * cntL n L
  pos : ∀ v : Int, 0 ≤ v → v < n → 0 ≤ (L v).f1
  src : ∀ v : Int, 0 ≤ v → v < n → (L v).f0 ≠ far → (L v).f1 = 0 → S v = true ∧ (L v).f0 = 0
  set : ∀ v : Int, 0 ≤ v → v < n → S v = true → (L v).f0 ≠ far
  last : ∀ v : Int, 0 ≤ v → v < n → 0 < (L v).f1 → (L v).f2 ∈ all ∧ tow A (L v).f2 = v ∧ (L (frm A (L v).f2)).f0 ≠ far ∧
    (L (frm A (L v).f2)).f0 + cst A (L v).f2 ≤ (L v).f0 ∧ ((L (frm A (L v).f2)).f0 + cst A (L v).f2 = (L v).f0 → (L (frm A (L v).f2)).f1 + 1 ≤ (L v).f1)
section
variable {n : Nat} {A : Nat → Ar} {C : Int} {all : List Stp} {S : Int → Bool} {q : Int → Int} {L : Int → Lb}
theorem LI.bound (h : LI n A C all S q L) (hC : 0 ≤ C) (hq : ∀ v : Int, 0 ≤ v → v < n → -(n * C) ≤ q v) {v : Int} (h0 : 0 ≤ v) (h1 : v < n) (hs : (L v).f0 ≠ far) : -(n * C) ≤ (L v).f0 ∧ (L v).f0 ≤ n * C := by
  have a := h.low v h0 h1 hs
  have b := h.high v h0 h1 hs
  have c := hq v h0 h1
  have d : C * cntL n L ≤ C * n := Int.mul_le_mul_of_nonneg_left (by have := cntN_le n fun v => (L v).f0 ≠ far; unfold cntL; omega) hC
  rw [Int.mul_comm C n] at d
  omega
theorem hit_ne {s : Stp} (h : hitL A L s = true) : (L (frm A s)).f0 ≠ far := by
  have := of_decide_eq_true h
  exact this.1
theorem hit_lex {s : Stp} (h : hitL A L s = true) : (newL A L s).f0 < (L (tow A s)).f0 ∨ ((newL A L s).f0 = (L (tow A s)).f0 ∧ (newL A L s).f1 < (L (tow A s)).f1) := by
  have := of_decide_eq_true h
  exact this.2
/-- Counts after a label was turned. -/
theorem cnt_rel {s : Stp} (hs : StpsOk n A C all) (hm : s ∈ all) (hn : (newL A L s).f0 ≠ far) :
    cntL n L ≤ cntL n (updL L (tow A s) (newL A L s)) ∧ ((L (tow A s)).f0 = far → cntL n L < cntL n (updL L (tow A s) (newL A L s))) := by
  obtain ⟨a1, a2, a3, a4, _⟩ := hs s hm
  have hmono : ∀ v, (L v).f0 ≠ far → (updL L (tow A s) (newL A L s) v).f0 ≠ far := fun v hv => by
    by_cases e : v = tow A s
    · subst e; rw [updL_eq]; exact hn
    · rw [updL_ne e]; exact hv
  have hlt : (L (tow A s)).f0 = far → cntL n L < cntL n (updL L (tow A s) (newL A L s)) := fun hf => by
    refine cntN_lt hmono a3 a4 (fun g => g hf) ?_
    rw [updL_eq]; exact hn
  refine ⟨?_, hlt⟩
  by_cases hf : (L (tow A s)).f0 = far
  · exact Nat.le_of_lt (hlt hf)
  · have e : (fun v => (L v).f0 ≠ far) = fun v => (updL L (tow A s) (newL A L s) v).f0 ≠ far := by
      funext v
      by_cases e : v = tow A s
      · subst e; rw [updL_eq]; exact propext ⟨fun _ => hn, fun _ => hf⟩
      · rw [updL_ne e]
    unfold cntL
    rw [e]
    exact Nat.le_refl _
theorem LI.rel (h : LI n A C all S q L) (hS : StpsOk n A C all) (hC : 0 ≤ C) (hfar : (n + 1) * C < far) (hq : FeasL A all q) (hq0 : ∀ v : Int, 0 ≤ v → v < n → -(n * C) ≤ q v) {s : Stp} (hm : s ∈ all) : LI n A C all S q (relL A L s) := by
  unfold relL
  by_cases hh : hitL A L s = true
  · rw [if_pos hh]
    obtain ⟨a1, a2, a3, a4, a5, a6, a7⟩ := hS s hm
    have hu := hit_ne hh
    have hb := h.bound hC hq0 a1 a2 hu
    have hx : ((n : Int) + 1) * C = n * C + C := by rw [Int.add_mul, Int.one_mul]
    have hn : (newL A L s).f0 ≠ far := by
      show (L (frm A s)).f0 + cst A s ≠ far
      omega
    have hlex := hit_lex hh
    obtain ⟨hc1, hc2⟩ := cnt_rel (L := L) hS hm hn
    have hcc : C * cntL n L ≤ C * cntL n (updL L (tow A s) (newL A L s)) := Int.mul_le_mul_of_nonneg_left (by omega) hC
    have hf1 := h.pos _ a1 a2
    have hnf1 : 0 < (newL A L s).f1 := by show 0 < (L (frm A s)).f1 + 1; omega
    refine ⟨?_, ?_, ?_, ?_, ?_, ?_, ?_⟩
    · intro v h0 h1 hf
      by_cases e : v = tow A s
      · subst e; rw [updL_eq] at hf; exact absurd hf hn
      · rw [updL_ne e] at hf ⊢; exact h.unset v h0 h1 hf
    · intro v h0 h1 hf
      by_cases e : v = tow A s
      · subst e
        rw [updL_eq]
        show q (tow A s) ≤ (L (frm A s)).f0 + cst A s
        have := hq s hm
        have := h.low _ a1 a2 hu
        omega
      · rw [updL_ne e] at hf ⊢; exact h.low v h0 h1 hf
    · intro v h0 h1 hf
      by_cases e : v = tow A s
      · subst e
        rw [updL_eq]
        by_cases hv : (L (tow A s)).f0 = far
        · have h2 := hc2 hv
          have h3 : C * (cntL n L + 1) ≤ C * cntL n (updL L (tow A s) (newL A L s)) := Int.mul_le_mul_of_nonneg_left (by omega) hC
          rw [Int.mul_add, Int.mul_one] at h3
          have h4 := h.high _ a1 a2 hu
          show (L (frm A s)).f0 + cst A s ≤ _
          omega
        · have h4 := h.high _ a3 a4 hv
          omega
      · rw [updL_ne e] at hf ⊢; exact Int.le_trans (h.high v h0 h1 hf) hcc
    · intro v h0 h1
      by_cases e : v = tow A s
      · subst e; rw [updL_eq]; omega
      · rw [updL_ne e]; exact h.pos v h0 h1
    · intro v h0 h1 hf hz
      by_cases e : v = tow A s
      · subst e; rw [updL_eq] at hz; omega
      · rw [updL_ne e] at hf hz ⊢; exact h.src v h0 h1 hf hz
    · intro v h0 h1 hv
      by_cases e : v = tow A s
      · subst e; rw [updL_eq]; exact hn
      · rw [updL_ne e]; exact h.set v h0 h1 hv
    · intro v h0 h1 hz
      by_cases e : v = tow A s
      · subst e
        rw [updL_eq]
        refine ⟨hm, rfl, ?_, ?_, ?_⟩
        · show (updL L (tow A s) (newL A L s) (frm A s)).f0 ≠ far
          rw [updL_ne a5]; exact hu
        · show (updL L (tow A s) (newL A L s) (frm A s)).f0 + cst A s ≤ (L (frm A s)).f0 + cst A s
          rw [updL_ne a5]; exact Int.le_refl _
        · intro _
          show (updL L (tow A s) (newL A L s) (frm A s)).f1 + 1 ≤ (L (frm A s)).f1 + 1
          rw [updL_ne a5]; exact Int.le_refl _
      · rw [updL_ne e] at hz ⊢
        obtain ⟨b1, b2, b3, b4, b5⟩ := h.last v h0 h1 hz
        refine ⟨b1, b2, ?_⟩
        by_cases e2 : frm A (L v).f2 = tow A s
        · rw [e2] at b3 b4 b5 ⊢
          rw [updL_eq]
          refine ⟨hn, by omega, fun g => ?_⟩
          have := b5 (by omega)
          omega
        · rw [updL_ne e2]
          exact ⟨b3, b4, b5⟩
  · rw [if_neg hh]; exact h
/-! ### Rest -/
noncomputable def meas (n : Nat) (C : Int) (L : Int → Lb) : Nat × Nat × Nat := open Classical in
  (n - cntL n L, (sumN n fun v => if (L v).f0 ≠ far then (L v).f0 + n * C else 0).toNat, (sumN n fun v => (L v).f1).toNat)
def lt3 (a b : Nat × Nat × Nat) : Prop := a.1 < b.1 ∨ (a.1 = b.1 ∧ (a.2.1 < b.2.1 ∨ (a.2.1 = b.2.1 ∧ a.2.2 < b.2.2)))
theorem lt3_wf : WellFounded lt3 := by
  refine Subrelation.wf (r := Prod.Lex (· < ·) (Prod.Lex (· < ·) (· < ·))) ?_ (Prod.lex ⟨_, Nat.lt_wfRel.wf⟩ (Prod.lex ⟨_, Nat.lt_wfRel.wf⟩ ⟨_, Nat.lt_wfRel.wf⟩)).wf
  intro a b h
  obtain ⟨a1, a2, a3⟩ := a
  obtain ⟨b1, b2, b3⟩ := b
  rcases h with h | ⟨h1, h | ⟨h2, h⟩⟩
  · exact .left _ _ h
  · simp only at h1; subst h1; exact .right _ (.left _ _ h)
  · simp only at h1 h2; subst h1; subst h2; exact .right _ (.right _ h)
theorem lt3_trans {a b c : Nat × Nat × Nat} (h : lt3 a b) (k : lt3 b c) : lt3 a c := by unfold lt3 at *; omega
theorem LI.less (h : LI n A C all S q L) (hS : StpsOk n A C all) (hC : 0 ≤ C) (hfar : (n + 1) * C < far) (hq0 : ∀ v : Int, 0 ≤ v → v < n → -(n * C) ≤ q v) {s : Stp} (hm : s ∈ all) (hh : hitL A L s = true)
    (h' : LI n A C all S q (relL A L s)) : lt3 (meas n C (relL A L s)) (meas n C L) := by
  have e : relL A L s = updL L (tow A s) (newL A L s) := if_pos hh
  rw [e] at h' ⊢
  obtain ⟨a1, a2, a3, a4, a5, a6, a7⟩ := hS s hm
  have hu := hit_ne hh
  have hb := h.bound hC hq0 a1 a2 hu
  have hx : ((n : Int) + 1) * C = n * C + C := by rw [Int.add_mul, Int.one_mul]
  have hn : (newL A L s).f0 ≠ far := by
    show (L (frm A s)).f0 + cst A s ≠ far
    omega
  have hlex := hit_lex hh
  obtain ⟨hc1, hc2⟩ := cnt_rel (L := L) hS hm hn
  have hcn := cntN_le n fun v => (updL L (tow A s) (newL A L s) v).f0 ≠ far
  by_cases hv : (L (tow A s)).f0 = far
  · refine .inl ?_
    have := hc2 hv
    show n - cntL n (updL L (tow A s) (newL A L s)) < n - cntL n L
    unfold cntL at *
    omega
  · have ec : cntL n (updL L (tow A s) (newL A L s)) = cntL n L := by
      have e : (fun v => (L v).f0 ≠ far) = fun v => (updL L (tow A s) (newL A L s) v).f0 ≠ far := by
        funext v
        by_cases e : v = tow A s
        · subst e; rw [updL_eq]; exact propext ⟨fun _ => hn, fun _ => hv⟩
        · rw [updL_ne e]
      unfold cntL
      rw [e]
    refine .inr ⟨by show n - cntL n _ = n - cntL n L; rw [ec], ?_⟩
    have ht : ((tow A s).toNat : Int) = tow A s := by omega
    have hp1 : ∀ (M : Int → Lb), LI n A C all S q M → ∀ i : Nat, i < n → (0 : Int) ≤ (if (M i).f0 ≠ far then (M i).f0 + n * C else 0) := fun M hM i hi => by
      split
      · next g => have := (hM.bound hC hq0 (v := (i : Int)) (by omega) (by omega) g).1; omega
      · exact Int.le_refl _
    rcases hlex with g | ⟨g1, g2⟩
    · refine .inl ?_
      have hlt := sumN_lt (n := n) (f := fun v => if (updL L (tow A s) (newL A L s) v).f0 ≠ far then (updL L (tow A s) (newL A L s) v).f0 + n * C else 0) (g := fun v => if (L v).f0 ≠ far then (L v).f0 + n * C else 0) (fun i hi => by
        by_cases e : (i : Int) = tow A s
        · rw [e, updL_eq, if_pos hn, if_pos hv]; omega
        · rw [updL_ne e]; exact Int.le_refl _) (j := (tow A s).toNat) (by omega) (by
        show (if (updL L (tow A s) (newL A L s) ((tow A s).toNat : Nat)).f0 ≠ far then _ else _) < (if (L ((tow A s).toNat : Nat)).f0 ≠ far then _ else _)
        rw [ht, updL_eq, if_pos hn, if_pos hv]; omega)
      have hnn := sumN_nonneg (n := n) (f := fun v => if (updL L (tow A s) (newL A L s) v).f0 ≠ far then (updL L (tow A s) (newL A L s) v).f0 + n * C else 0) (hp1 _ h')
      show (sumN n fun v => _).toNat < (sumN n fun v => _).toNat
      omega
    · refine .inr ⟨?_, ?_⟩
      · show (sumN n fun v => _).toNat = (sumN n fun v => _).toNat
        congr 1
        refine sumN_congr fun i hi => ?_
        by_cases e : (i : Int) = tow A s
        · rw [e, updL_eq, if_pos hn, if_pos hv, g1]
        · rw [updL_ne e]
      · have hlt := sumN_lt (n := n) (f := fun v => (updL L (tow A s) (newL A L s) v).f1) (g := fun v => (L v).f1) (fun i hi => by
          by_cases e : (i : Int) = tow A s
          · rw [e, updL_eq]; omega
          · rw [updL_ne e]; exact Int.le_refl _) (j := (tow A s).toNat) (by omega) (by
          show (updL L (tow A s) (newL A L s) ((tow A s).toNat : Nat)).f1 < (L ((tow A s).toNat : Nat)).f1
          rw [ht, updL_eq]; exact g2)
        have hnn := sumN_nonneg (n := n) (f := fun v => (updL L (tow A s) (newL A L s) v).f1) (fun i hi => h'.pos i (by omega) (by omega))
        show (sumN n fun v => _).toNat < (sumN n fun v => _).toNat
        omega
/-- One sweep, and whether it turned a label. -/
def swpL (A : Nat → Ar) (L : Int → Lb) (b : Bool) : List Stp → (Int → Lb) × Bool
  | [] => (L, b)
  | s :: l => swpL A (relL A L s) (b || hitL A L s) l
theorem swpL_inv (hS : StpsOk n A C all) (hC : 0 ≤ C) (hfar : (n + 1) * C < far) (hq : FeasL A all q) (hq0 : ∀ v : Int, 0 ≤ v → v < n → -(n * C) ≤ q v) :
    ∀ (l : List Stp) (L : Int → Lb) (b : Bool), (∀ s ∈ l, s ∈ all) → LI n A C all S q L → LI n A C all S q (swpL A L b l).1 ∧
      ((swpL A L b l).2 = false → (swpL A L b l).1 = L ∧ b = false ∧ ∀ s ∈ l, hitL A L s = false) ∧ ((swpL A L b l).2 = true → b = true ∨ lt3 (meas n C (swpL A L b l).1) (meas n C L)) ∧
      ((swpL A L b l).1 = L ∨ lt3 (meas n C (swpL A L b l).1) (meas n C L))
  | [], L, b, _, h => ⟨h, fun e => ⟨rfl, e, by simp⟩, fun e => .inl e, .inl rfl⟩
  | s :: l, L, b, hl, h => by
    have hm := hl s (List.mem_cons_self ..)
    have h' := h.rel hS hC hfar hq hq0 hm
    obtain ⟨g1, g2, g3, g4⟩ := swpL_inv hS hC hfar hq hq0 l (relL A L s) (b || hitL A L s) (fun t ht => hl t (List.mem_cons_of_mem _ ht)) h'
    show LI n A C all S q (swpL A (relL A L s) (b || hitL A L s) l).1 ∧ _
    refine ⟨g1, fun e => ?_, fun e => ?_, ?_⟩
    · obtain ⟨e1, e2, e3⟩ := g2 e
      have e4 : hitL A L s = false := by cases hq : hitL A L s <;> simp_all
      have e5 : relL A L s = L := if_neg (by rw [e4]; simp)
      rw [e5] at e1 e3
      refine ⟨?_, by cases b <;> simp_all, fun t ht => ?_⟩
      · show (swpL A (relL A L s) (b || hitL A L s) l).1 = L
        rw [e5]; exact e1
      · rcases List.mem_cons.1 ht with rfl | ht
        · exact e4
        · exact e3 t ht
    · by_cases hh : hitL A L s = true
      · have hl := h.less hS hC hfar hq0 hm hh h'
        refine .inr ?_
        rcases g4 with g | g
        · show lt3 (meas n C (swpL A (relL A L s) (b || hitL A L s) l).1) (meas n C L)
          rw [g]; exact hl
        · exact lt3_trans g hl
      · have e5 : relL A L s = L := if_neg hh
        have e4 : hitL A L s = false := by simpa using hh
        rcases g3 e with g | g
        · rw [e4, Bool.or_false] at g; exact .inl g
        · rw [e5] at g
          refine .inr ?_
          show lt3 (meas n C (swpL A (relL A L s) (b || hitL A L s) l).1) (meas n C L)
          rw [e5]; exact g
    · by_cases hh : hitL A L s = true
      · have hl := h.less hS hC hfar hq0 hm hh h'
        refine .inr ?_
        rcases g4 with g | g
        · show lt3 (meas n C (swpL A (relL A L s) (b || hitL A L s) l).1) (meas n C L)
          rw [g]; exact hl
        · exact lt3_trans g hl
      · have e5 : relL A L s = L := if_neg hh
        show (swpL A (relL A L s) (b || hitL A L s) l).1 = L ∨ lt3 (meas n C (swpL A (relL A L s) (b || hitL A L s) l).1) (meas n C L)
        rw [e5] at g4 ⊢
        exact g4
def swpLs (A : Nat → Ar) (all : List Stp) (L : Int → Lb) : Nat → Int → Lb
  | 0 => L
  | k + 1 => swpLs A all (swpL A L false all).1 k
/-- The sweeps come to rest. -/
theorem swpL_rest (hS : StpsOk n A C all) (hC : 0 ≤ C) (hfar : (n + 1) * C < far) (hq : FeasL A all q) (hq0 : ∀ v : Int, 0 ≤ v → v < n → -(n * C) ≤ q v) (L : Int → Lb) (h : LI n A C all S q L) :
    ∃ K, (swpL A (swpLs A all L K) false all).2 = false := by
  have key : ∀ m, ∀ L, meas n C L = m → LI n A C all S q L → ∃ K, (swpL A (swpLs A all L K) false all).2 = false := fun m => by
    refine lt3_wf.induction (C := fun m => ∀ L, meas n C L = m → LI n A C all S q L → ∃ K, (swpL A (swpLs A all L K) false all).2 = false) m ?_
    intro m ih L hm h
    obtain ⟨g1, g2, g3, g4⟩ := swpL_inv hS hC hfar hq hq0 all L false (fun _ hs => hs) h
    cases hb : (swpL A L false all).2 with
    | false => exact ⟨0, hb⟩
    | true =>
      rcases g3 hb with g | g
      · exact absurd g (by simp)
      · rw [hm] at g
        obtain ⟨K, hK⟩ := ih _ g _ rfl g1
        exact ⟨K + 1, hK⟩
  exact key _ L rfl h
theorem swpL_snoc (A : Nat → Ar) (s : Stp) : ∀ (l : List Stp) (L : Int → Lb) (b : Bool), swpL A L b (l ++ [s]) = (relL A (swpL A L b l).1 s, (swpL A L b l).2 || hitL A (swpL A L b l).1 s)
  | [], _, _ => rfl
  | t :: l, L, b => swpL_snoc A s l (relL A L t) (b || hitL A L t)
theorem swpLs_succ (A : Nat → Ar) (all : List Stp) : ∀ (k : Nat) (L : Int → Lb), swpLs A all L (k + 1) = (swpL A (swpLs A all L k) false all).1
  | 0, _ => rfl
  | k + 1, L => swpLs_succ A all k (swpL A L false all).1
/-- No step improves a label. -/
def RestL (A : Nat → Ar) (all : List Stp) (L : Int → Lb) : Prop := ∀ s ∈ all, hitL A L s = false
theorem RestL.step (hr : RestL A all L) {s : Stp} (hs : s ∈ all) (hu : (L (frm A s)).f0 ≠ far) : (L (tow A s)).f0 ≤ (L (frm A s)).f0 + cst A s ∧ ((L (tow A s)).f0 = (L (frm A s)).f0 + cst A s → (L (tow A s)).f1 ≤ (L (frm A s)).f1 + 1) := by
  have h := of_decide_eq_false (hr s hs)
  refine ⟨?_, fun e => ?_⟩
  · rcases Int.lt_or_le ((L (frm A s)).f0 + cst A s) (L (tow A s)).f0 with g | g
    · exact absurd ⟨hu, .inl g⟩ h
    · exact g
  · rcases Int.lt_or_le ((L (frm A s)).f1 + 1) (L (tow A s)).f1 with g | g
    · exact absurd ⟨hu, .inr ⟨e.symm, g⟩⟩ h
    · exact g
theorem RestL.set (hr : RestL A all L) (h : LI n A C all S q L) (hS : StpsOk n A C all) (hC : 0 ≤ C) (hfar : (n + 1) * C < far) (hq0 : ∀ v : Int, 0 ≤ v → v < n → -(n * C) ≤ q v) {s : Stp} (hs : s ∈ all) (hu : (L (frm A s)).f0 ≠ far) : (L (tow A s)).f0 ≠ far := by
  obtain ⟨a1, a2, a3, a4, a5, a6, a7⟩ := hS s hs
  have hb := h.bound hC hq0 a1 a2 hu
  have hx : ((n : Int) + 1) * C = n * C + C := by rw [Int.add_mul, Int.one_mul]
  have := (hr.step hs hu).1
  omega
/-- At rest the last step of a way is exact. -/
theorem RestL.last (hr : RestL A all L) (h : LI n A C all S q L) {v : Int} (h0 : 0 ≤ v) (h1 : v < n) (hz : 0 < (L v).f1) :
    (L v).f2 ∈ all ∧ tow A (L v).f2 = v ∧ (L (frm A (L v).f2)).f0 ≠ far ∧ (L v).f0 = (L (frm A (L v).f2)).f0 + cst A (L v).f2 ∧ (L v).f1 = (L (frm A (L v).f2)).f1 + 1 := by
  obtain ⟨b1, b2, b3, b4, b5⟩ := h.last v h0 h1 hz
  have hs := hr.step b1 b3
  rw [b2] at hs
  have e : (L v).f0 = (L (frm A (L v).f2)).f0 + cst A (L v).f2 := by omega
  have := b5 e.symm
  have := hs.2 e
  exact ⟨b1, b2, b3, e, by omega⟩
end
end Go.Proofs.Ytcobihdjcdefmaa
namespace Go.Proofs.Ytcobihdjcdefmaa
open PAccountsCompress
def setN (x : Nat → Int) (i : Nat) (c : Int) : Nat → Int := fun j => if j = i then c else x j
theorem setN_eq (x : Nat → Int) (i : Nat) (c : Int) : setN x i c i = c := if_pos rfl
theorem setN_ne {x : Nat → Int} {i : Nat} {c : Int} {j : Nat} (h : j ≠ i) : setN x i c j = x j := if_neg h
/-- The step carries d more. -/
def putS (d : Int) (x : Nat → Int) (s : Stp) : Nat → Int := setN x s.f0.toNat (if s.f1 then x s.f0.toNat - d else x s.f0.toNat + d)
def putP (d : Int) (x : Nat → Int) (P : List Stp) : Nat → Int := P.foldl (putS d) x
def rev (s : Stp) : Stp := ⟨s.f0, !s.f1⟩
theorem rev_frm (A : Nat → Ar) (s : Stp) : frm A (rev s) = tow A s := by cases s with | mk a b => cases b <;> rfl
theorem rev_tow (A : Nat → Ar) (s : Stp) : tow A (rev s) = frm A s := by cases s with | mk a b => cases b <;> rfl
theorem rev_cst (A : Nat → Ar) (s : Stp) : cst A (rev s) = -cst A s := by cases s with | mk a b => cases b <;> simp [rev, cst]
theorem stp_eq {s t : Stp} (h : s.f0 = t.f0) : t = s ∨ t = rev s := by
  cases s with | mk a b => cases t with | mk c d => simp only at h; subst h; cases b <;> cases d <;> simp [rev]
/-- Steps of arcs within the network, of different arcs. -/
structure PathOk (m : Nat) (P : List Stp) : Prop where
  rng : ∀ s ∈ P, 0 ≤ s.f0 ∧ s.f0 < m
  dif : (P.map fun s => s.f0).Nodup
theorem PathOk.tail {m : Nat} {s : Stp} {P : List Stp} (h : PathOk m (s :: P)) : PathOk m P := ⟨fun t ht => h.rng t (List.mem_cons_of_mem _ ht), by have := h.dif; rw [List.map_cons, List.nodup_cons] at this; exact this.2⟩
theorem PathOk.head {m : Nat} {s : Stp} {P : List Stp} (h : PathOk m (s :: P)) : ∀ t ∈ P, t.f0 ≠ s.f0 := fun t ht e => by
  have := h.dif
  rw [List.map_cons, List.nodup_cons] at this
  exact this.1 (List.mem_map.2 ⟨t, ht, e⟩)
theorem putP_out {m : Nat} {d : Int} {i : Nat} : ∀ {P : List Stp} {x : Nat → Int}, PathOk m P → (∀ s ∈ P, s.f0 ≠ i) → putP d x P i = x i
  | [], _, _, _ => rfl
  | s :: P, x, h, hn => by
    show putP d (putS d x s) P i = x i
    rw [putP_out h.tail (fun t ht => hn t (List.mem_cons_of_mem _ ht))]
    refine setN_ne fun e => ?_
    have := hn s (List.mem_cons_self ..)
    have := (h.rng s (List.mem_cons_self ..)).1
    omega
theorem putP_in {m : Nat} {d : Int} : ∀ {P : List Stp} {x : Nat → Int}, PathOk m P → ∀ s ∈ P, putP d x P s.f0.toNat = if s.f1 then x s.f0.toNat - d else x s.f0.toNat + d
  | [], _, _, s, hs => by cases hs
  | t :: P, x, h, s, hs => by
    have hr := h.rng
    have hh := h.head
    show putP d (putS d x t) P s.f0.toNat = _
    rcases List.mem_cons.1 hs with e | hs'
    · subst e
      rw [putP_out h.tail (fun u hu => by have := hh u hu; have := (hr s (List.mem_cons_self ..)).1; omega)]
      exact setN_eq ..
    · rw [putP_in h.tail s hs']
      have h1 := hh s hs'
      have h2 := (hr s (List.mem_cons_of_mem _ hs')).1
      have h3 := (hr t (List.mem_cons_self ..)).1
      have e : putS d x t s.f0.toNat = x s.f0.toNat := setN_ne (by omega)
      rw [e]
/-- What a step can carry after the push. -/
theorem spr_put {m : Nat} {A : Nat → Ar} {d : Int} {P : List Stp} {x : Nat → Int} (h : PathOk m P) (s : Stp) (h0 : 0 ≤ s.f0) :
    (s ∈ P → spr A (putP d x P) s = spr A x s - d) ∧ (rev s ∈ P → spr A (putP d x P) s = spr A x s + d) ∧ (s ∉ P → rev s ∉ P → spr A (putP d x P) s = spr A x s) := by
  refine ⟨fun hs => ?_, fun hs => ?_, fun h1 h2 => ?_⟩
  · have e := putP_in (d := d) (x := x) h s hs
    unfold spr
    rw [e]
    cases s.f1 <;> simp <;> omega
  · have e := putP_in (d := d) (x := x) h (rev s) hs
    have e2 : (rev s).f0 = s.f0 := rfl
    have e3 : (rev s).f1 = !s.f1 := rfl
    rw [e2, e3] at e
    unfold spr
    rw [e]
    cases s.f1 <;> simp <;> omega
  · have e := putP_out (d := d) (x := x) (i := s.f0.toNat) h (fun t ht e => by
      rcases stp_eq (s := s) (t := t) (by omega) with e2 | e2
      · subst e2; exact h1 ht
      · subst e2; exact h2 ht)
    unfold spr
    rw [e]
theorem put_valid {m : Nat} {A : Nat → Ar} {d : Int} {P : List Stp} {x : Nat → Int} (h : PathOk m P) (hd : 0 ≤ d) (hx : Valid m A x) (hs : ∀ s ∈ P, d ≤ spr A x s) : Valid m A (putP d x P) := fun i hi => by
  obtain ⟨h1, h2⟩ := hx i hi
  by_cases hex : ∃ s ∈ P, s.f0 = i
  · obtain ⟨s, hs1, hs2⟩ := hex
    have e := putP_in (d := d) (x := x) h s hs1
    have e2 : s.f0.toNat = i := by omega
    have e3 := hs s hs1
    unfold spr at e3
    rw [e2] at e e3
    rw [e]
    cases hb : s.f1 <;> simp [hb] at e3 ⊢ <;> omega
  · rw [putP_out h (fun s hs1 e => hex ⟨s, hs1, e⟩)]
    exact ⟨h1, h2⟩
/-- A step that can carry after the push could before, or is the way back of a step of the path. -/
theorem res_put {m : Nat} {A : Nat → Ar} {d : Int} {P : List Stp} {x : Nat → Int} (h : PathOk m P) (hd : 0 ≤ d) {s : Stp} (hr : Res m A (putP d x P) s) : Res m A x s ∨ rev s ∈ P := by
  obtain ⟨h1, h2⟩ := hr
  obtain ⟨g1, g2, g3⟩ := spr_put (A := A) (d := d) (x := x) h s h1.1
  by_cases a : rev s ∈ P
  · exact .inr a
  · refine .inl ⟨h1, ?_⟩
    by_cases b : s ∈ P
    · rw [g1 b] at h2; omega
    · rw [g3 b a] at h2; exact h2
/-- What the path brings to the balance of v. -/
def brings (A : Nat → Ar) (v : Int) : List Stp → Int
  | [] => 0
  | s :: P => (if frm A s = v then 1 else 0) - (if tow A s = v then 1 else 0) + brings A v P
theorem bal_put1 {m : Nat} {A : Nat → Ar} {d : Int} {x : Nat → Int} {s : Stp} (h0 : 0 ≤ s.f0) (h1 : s.f0 < m) (v : Int) :
    balF m A (putS d x s) v = balF m A x v + d * ((if frm A s = v then 1 else 0) - (if tow A s = v then 1 else 0)) := by
  unfold balF
  have hj : s.f0.toNat < m := by omega
  have e : ∀ i, i < m → ((if (A i).f0 = v then putS d x s i else 0) - (if (A i).f1 = v then putS d x s i else 0) : Int) =
      ((if (A i).f0 = v then x i else 0) - (if (A i).f1 = v then x i else 0)) + if i = s.f0.toNat then d * ((if frm A s = v then 1 else 0) - (if tow A s = v then 1 else 0)) else 0 := fun i _ => by
    by_cases e : i = s.f0.toNat
    · subst e
      rw [if_pos rfl]
      unfold putS
      rw [setN_eq]
      unfold frm tow
      cases hb : s.f1 <;> simp <;> by_cases c1 : (A s.f0.toNat).f0 = v <;> by_cases c2 : (A s.f0.toNat).f1 = v <;> simp [c1, c2] <;> omega
    · rw [if_neg e]
      unfold putS
      rw [setN_ne e]
      omega
  rw [sumN_congr e, sumN_add, sumN_single hj]
theorem bal_put {m : Nat} {A : Nat → Ar} {d : Int} : ∀ {P : List Stp} {x : Nat → Int}, (∀ s ∈ P, 0 ≤ s.f0 ∧ s.f0 < m) → ∀ v, balF m A (putP d x P) v = balF m A x v + d * brings A v P
  | [], x, _, v => by show balF m A x v = _; simp [brings]
  | s :: P, x, h, v => by
    show balF m A (putP d (putS d x s) P) v = _
    rw [bal_put (fun t ht => h t (List.mem_cons_of_mem _ ht)), bal_put1 (h s (List.mem_cons_self ..)).1 (h s (List.mem_cons_self ..)).2]
    simp only [brings]
    rw [Int.mul_add]
    omega
theorem brings_append (A : Nat → Ar) (v : Int) (P Q : List Stp) : brings A v (P ++ Q) = brings A v P + brings A v Q := by
  induction P with
  | nil => simp [brings]
  | cons s P ih => simp only [List.cons_append, brings, ih]; omega
/-! ### Ways by labels -/
/-- The way to v: k steps back. -/
def wayB (A : Nat → Ar) (L : Int → Lb) : Nat → Int → List Stp
  | 0, _ => []
  | k + 1, v => (L v).f2 :: wayB A L k (frm A (L v).f2)
section
variable {n : Nat} {A : Nat → Ar} {C : Int} {all : List Stp} {S : Int → Bool} {q : Int → Int} {L : Int → Lb}
theorem wayB_ok (hr : RestL A all L) (h : LI n A C all S q L) (hS : StpsOk n A C all) : ∀ (k : Nat) (v : Int), 0 ≤ v → v < n → (L v).f1 = k → (L v).f0 ≠ far →
    (∀ s ∈ wayB A L k v, s ∈ all ∧ (L (frm A s)).f0 ≠ far ∧ (L (tow A s)).f0 = (L (frm A s)).f0 + cst A s ∧ (L (tow A s)).f1 = (L (frm A s)).f1 + 1 ∧ (L (tow A s)).f1 ≤ k) ∧
    ((wayB A L k v).map fun s => s.f0).Nodup ∧
    ∃ u : Int, 0 ≤ u ∧ u < n ∧ S u = true ∧ (L u).f0 = 0 ∧ (L u).f1 = 0 ∧ (∀ y, brings A y (wayB A L k v) = (if u = y then 1 else 0) - (if v = y then 1 else 0)) ∧ (0 < k → ∃ s P, wayB A L k v = P ++ [s] ∧ frm A s = u)
  | 0, v, h0, h1, hk, hf => by
    obtain ⟨g1, g2⟩ := h.src v h0 h1 hf hk
    refine ⟨fun s hs => (nomatch hs), List.nodup_nil, v, h0, h1, g1, g2, hk, fun y => ?_, fun e => absurd e (by omega)⟩
    show (0 : Int) = _
    omega
  | k + 1, v, h0, h1, hk, hf => by
    obtain ⟨b1, b2, b3, b4, b5⟩ := hr.last h h0 h1 (by omega)
    obtain ⟨a1, a2, a3, a4, a5, _⟩ := hS _ b1
    obtain ⟨g1, g2, u, u0, u1, u2, u3, u4, g3, g4⟩ := wayB_ok hr h hS k (frm A (L v).f2) a1 a2 (by omega) b3
    refine ⟨fun s hs => ?_, ?_, u, u0, u1, u2, u3, u4, fun y => ?_, fun _ => ?_⟩
    · rcases List.mem_cons.1 hs with e | hs
      · subst e
        rw [b2]
        exact ⟨b1, b3, b4, b5, by omega⟩
      · obtain ⟨c1, c2, c3, c4, c5⟩ := g1 s hs
        exact ⟨c1, c2, c3, c4, by omega⟩
    · show ((L v).f2.f0 :: (wayB A L k (frm A (L v).f2)).map fun s => s.f0).Nodup
      rw [List.nodup_cons]
      refine ⟨fun hm => ?_, g2⟩
      obtain ⟨t, ht, e⟩ := List.mem_map.1 hm
      obtain ⟨c1, c2, c3, c4, c5⟩ := g1 t ht
      rcases stp_eq (s := (L v).f2) (t := t) e.symm with e2 | e2
      · subst e2
        rw [b2] at c5
        omega
      · rw [e2, rev_frm, rev_tow, b2] at c4
        omega
    · show (if frm A (L v).f2 = y then 1 else 0) - (if tow A (L v).f2 = y then 1 else 0) + brings A y (wayB A L k (frm A (L v).f2)) = _
      rw [g3, b2]
      omega
    · cases k with
      | zero =>
        refine ⟨(L v).f2, [], rfl, ?_⟩
        have hz : (L (frm A (L v).f2)).f1 = 0 := by omega
        have h5 := g3 u
        have h6 : (0 : Int) = (if u = u then 1 else 0) - (if frm A (L v).f2 = u then 1 else 0) := h5
        rw [if_pos rfl] at h6
        by_cases e : frm A (L v).f2 = u
        · exact e
        · rw [if_neg e] at h6; omega
      | succ k =>
        obtain ⟨s, P, e1, e2⟩ := g4 (by omega)
        exact ⟨s, (L v).f2 :: P, by show (L v).f2 :: wayB A L (k + 1) _ = _; rw [e1]; rfl, e2⟩
end
end Go.Proofs.Ytcobihdjcdefmaa
namespace Go.Proofs.Ytcobihdjcdefmaa
open PAccountsCompress
def stepsF (A : Nat → Ar) (x : Nat → Int) : Nat → List Stp
  | 0 => []
  | m + 1 => stepsF A x m ++ ((if 0 < spr A x ⟨m, false⟩ then [⟨m, false⟩] else []) ++ (if 0 < spr A x ⟨m, true⟩ then [⟨m, true⟩] else []))
theorem mem_stepsF {A : Nat → Ar} {x : Nat → Int} {m : Nat} {s : Stp} : s ∈ stepsF A x m ↔ Res m A x s := by
  induction m with
  | zero =>
    refine ⟨fun h => (nomatch h), fun h => ?_⟩
    have := h.1
    omega
  | succ m ih =>
    unfold stepsF
    simp only [List.mem_append, ih]
    have e : ∀ b : Bool, s ∈ (if 0 < spr A x ⟨m, b⟩ then [(⟨m, b⟩ : Stp)] else []) ↔ (0 < spr A x ⟨m, b⟩ ∧ s = ⟨m, b⟩) := fun b => by
      split
      · next h => simp [h]
      · next h => simp [h]
    rw [e, e]
    constructor
    · rintro (h | ⟨h, rfl⟩ | ⟨h, rfl⟩)
      · exact ⟨⟨h.1.1, by have := h.1.2; omega⟩, h.2⟩
      · exact ⟨⟨by simp, by simp; omega⟩, h⟩
      · exact ⟨⟨by simp, by simp; omega⟩, h⟩
    · rintro ⟨⟨h1, h2⟩, h3⟩
      by_cases hm : s.f0 < m
      · exact .inl ⟨⟨h1, hm⟩, h3⟩
      · refine .inr ?_
        have e : s.f0 = m := by omega
        cases s with | mk a b =>
          simp only at e
          subst e
          cases b
          · exact .inl ⟨h3, rfl⟩
          · exact .inr ⟨h3, rfl⟩
theorem feasL_iff {A : Nat → Ar} {x : Nat → Int} {m : Nat} {p : Int → Int} : FeasL A (stepsF A x m) p ↔ Feas m A x p := ⟨fun h s hs => h s (mem_stepsF.2 hs), fun h s hs => h s (mem_stepsF.1 hs)⟩
/-- A network as the program takes it. -/
structure NetOk (n m : Nat) (A : Nat → Ar) : Prop where
  n1 : 1 ≤ n
  n2 : n ≤ 32
  m1 : m ≤ 128
  net : Net n m A
  cap : ∀ i, i < m → 0 ≤ (A i).f2 ∧ (A i).f2 ≤ 1099511627776
  cost : ∀ i, i < m → -32768 ≤ (A i).f3 ∧ (A i).f3 ≤ 32768
theorem NetOk.stps {n m : Nat} {A : Nat → Ar} (h : NetOk n m A) {l : List Stp} (hl : ∀ s ∈ l, 0 ≤ s.f0 ∧ s.f0 < m) : StpsOk n A 32768 l := fun s hs => by
  obtain ⟨h1, h2⟩ := hl s hs
  obtain ⟨a1, a2, a3, a4, a5⟩ := h.net s.f0.toNat (by omega)
  obtain ⟨b1, b2⟩ := h.cost s.f0.toNat (by omega)
  unfold frm tow cst
  cases s.f1 <;> simp <;> omega
theorem NetOk.steps {n m : Nat} {A : Nat → Ar} (h : NetOk n m A) (x : Nat → Int) : StpsOk n A 32768 (stepsF A x m) := h.stps fun _ hs => (mem_stepsF.1 hs).1
theorem NetOk.far {n m : Nat} {A : Nat → Ar} (h : NetOk n m A) : ((n : Int) + 1) * 32768 < far := by have := h.n2; unfold Go.Proofs.Ytcobihdjcdefmaa.far; omega
/-- Feasible potentials of a modest size. -/
theorem NetOk.pot {n m : Nat} {A : Nat → Ar} (h : NetOk n m A) {x : Nat → Int} (hq : ∃ q, Feas m A x q) : ∃ d : Int → Int, Feas m A x d ∧ (∀ v, d v ≤ 0) ∧ ∀ v : Int, 0 ≤ v → v < n → -(n * 32768) ≤ d v := by
  obtain ⟨q, hq⟩ := hq
  obtain ⟨d, h1, h2, h3⟩ := pot_bound (h.steps x) (by omega) ⟨q, feasL_iff.2 hq⟩
  exact ⟨d, feasL_iff.1 h1, h2, h3⟩
/-- The first labels. -/
def iniL (S : Int → Bool) : Int → Lb := fun v => ⟨if S v then 0 else far, 0, z145⟩
theorem ini_LI {n : Nat} {A : Nat → Ar} {C : Int} {all : List Stp} {q : Int → Int} (S : Int → Bool) (hC : 0 ≤ C) (hq : ∀ v, q v ≤ 0) : LI n A C all S q (iniL S) := by
  have e : ∀ v, (iniL S v).f0 ≠ far ↔ S v = true := fun v => by
    unfold iniL
    cases S v <;> simp [far]
  have e0 : ∀ v, S v = true → (iniL S v).f0 = 0 := fun v h => by unfold iniL; simp [h]
  refine ⟨fun _ _ _ _ => rfl, fun v _ _ h => ?_, fun v _ _ h => ?_, fun _ _ _ => Int.le_refl _, fun v _ _ h _ => ⟨(e v).1 h, e0 v ((e v).1 h)⟩, fun v _ _ h => (e v).2 h, fun v _ _ h => absurd h (by simp [iniL])⟩
  · rw [e0 v ((e v).1 h)]; exact hq v
  · rw [e0 v ((e v).1 h)]; exact Int.mul_nonneg hC (by omega)
section
variable {n m : Nat} {A : Nat → Ar} {x : Nat → Int} {q : Int → Int} {S : Int → Bool} {L : Int → Lb}
/-- The labels of reached nodes make potentials again, also after a push along a way. -/
theorem carry_pot (hN : NetOk n m A) (hq : Feas m A x q) (hq1 : ∀ v : Int, 0 ≤ v → v < n → -(n * 32768) ≤ q v)
    (h : LI n A 32768 (stepsF A x m) S q L) (hr : RestL A (stepsF A x m) L) {d : Int} (hd : 0 ≤ d) {P : List Stp} (hP : PathOk m P)
    (ht : ∀ s ∈ P, (L (frm A s)).f0 ≠ far ∧ (L (tow A s)).f0 ≠ far ∧ (L (tow A s)).f0 = (L (frm A s)).f0 + cst A s) : ∃ p, Feas m A (putP d x P) p := by
  have hb := fun (v : Int) (h0 : 0 ≤ v) (h1 : v < n) (hs : (L v).f0 ≠ far) => h.bound (by omega) hq1 h0 h1 hs
  refine ⟨fun v => if (L v).f0 ≠ far then (L v).f0 else q v + (3 * (n * 32768) + 32768), fun s hs => ?_⟩
  have hst := hN.stps (l := [s]) (fun t ht => by rw [List.mem_singleton] at ht; subst ht; exact hs.1) s (List.mem_singleton.2 rfl)
  obtain ⟨a1, a2, a3, a4, a5, a6, a7⟩ := hst
  simp only
  rcases res_put hP hd hs with g | g
  · have hm := mem_stepsF.2 g
    by_cases hf : (L (frm A s)).f0 ≠ far
    · have h1 := hr.set h (hN.steps x) (by omega) hN.far hq1 hm hf
      have h2 := (hr.step hm hf).1
      rw [if_pos hf, if_pos h1]
      exact h2
    · rw [if_neg hf]
      by_cases ht : (L (tow A s)).f0 ≠ far
      · rw [if_pos ht]
        have := hb _ a3 a4 ht
        have := hq1 _ a1 a2
        omega
      · rw [if_neg ht]
        have := hq s g
        omega
  · obtain ⟨t1, t2, t3⟩ := ht _ g
    rw [rev_frm] at t1 t3
    rw [rev_tow] at t2 t3
    rw [rev_cst] at t3
    rw [if_pos t2, if_pos t1]
    omega
theorem brings_rev (A : Nat → Ar) (v : Int) (P : List Stp) : brings A v P.reverse = brings A v P := by
  induction P with
  | nil => rfl
  | cons s P ih => rw [List.reverse_cons, brings_append, ih]; simp only [brings]; omega
/-- One round of carrying: the way to b, turned about. -/
theorem carry_round (hN : NetOk n m A) (hx : Valid m A x) (hq : Feas m A x q) (hq1 : ∀ v : Int, 0 ≤ v → v < n → -(n * 32768) ≤ q v)
    (h : LI n A 32768 (stepsF A x m) S q L) (hr : RestL A (stepsF A x m) L) {b : Int} (b0 : 0 ≤ b) (b1 : b < n) (bf : (L b).f0 ≠ far) (bs : S b = false) :
    ∃ (s : Stp) (P : List Stp), (wayB A L (L b).f1.toNat b).reverse = s :: P ∧ PathOk m (s :: P) ∧ (∀ t ∈ s :: P, Res m A x t) ∧ (0 ≤ frm A s ∧ frm A s < n) ∧ S (frm A s) = true ∧
      (∀ y, brings A y (s :: P) = (if frm A s = y then 1 else 0) - (if b = y then 1 else 0)) ∧
      ∀ d : Int, 0 ≤ d → (∀ t ∈ s :: P, d ≤ spr A x t) → Valid m A (putP d x (s :: P)) ∧ (∃ p, Feas m A (putP d x (s :: P)) p) ∧
        ∀ y, balF m A (putP d x (s :: P)) y = balF m A x y + d * ((if frm A s = y then 1 else 0) - (if b = y then 1 else 0)) := by
  have hp := h.pos b b0 b1
  have hk : ((L b).f1.toNat : Int) = (L b).f1 := by omega
  have hpos : 0 < (L b).f1.toNat := by
    rcases Nat.eq_zero_or_pos (L b).f1.toNat with e | e
    · have := (h.src b b0 b1 bf (by omega)).1
      rw [bs] at this
      exact absurd this (by simp)
    · exact e
  obtain ⟨g1, g2, u, u0, u1, u2, u3, u4, g3, g4⟩ := wayB_ok hr h (hN.steps x) (L b).f1.toNat b b0 b1 hk.symm bf
  obtain ⟨s, P, e1, e2⟩ := g4 hpos
  have er : (wayB A L (L b).f1.toNat b).reverse = s :: P.reverse := by rw [e1]; simp
  have hmem : ∀ t, t ∈ s :: P.reverse → t ∈ wayB A L (L b).f1.toNat b := fun t ht => by rw [← er] at ht; exact List.mem_reverse.1 ht
  have hres : ∀ t ∈ s :: P.reverse, Res m A x t := fun t ht => mem_stepsF.1 (g1 t (hmem t ht)).1
  have hok : PathOk m (s :: P.reverse) := by
    refine ⟨fun t ht => (hres t ht).1, ?_⟩
    rw [← er, List.map_reverse]
    exact (List.reverse_perm _).nodup_iff.2 g2
  have hbr : ∀ y, brings A y (s :: P.reverse) = (if frm A s = y then 1 else 0) - (if b = y then 1 else 0) := fun y => by
    rw [← er, brings_rev, g3, e2]
  refine ⟨s, P.reverse, er, hok, hres, by rw [e2]; exact ⟨u0, u1⟩, by rw [e2]; exact u2, hbr, fun d hd hsp => ⟨put_valid hok hd hx hsp, ?_, fun y => ?_⟩⟩
  · refine carry_pot hN hq hq1 h hr hd hok fun t ht => ?_
    obtain ⟨c1, c2, c3, c4, c5⟩ := g1 t (hmem t ht)
    refine ⟨c2, ?_, c3⟩
    obtain ⟨a1, a2, _, _, _, a6, a7⟩ := hN.steps x t c1
    have := h.bound (by omega) hq1 a1 a2 c2
    have := hN.far
    have hx : ((n : Int) + 1) * 32768 = n * 32768 + 32768 := by omega
    omega
  · rw [bal_put (fun t ht => hok.rng t ht), hbr]
end
end Go.Proofs.Ytcobihdjcdefmaa
namespace Go.Proofs.Ytcobihdjcdefmaa
open PAccountsCompress
/-! ### What a push round leaves settled -/
/-- The sum over the steps of a path of what a function of nodes loses. -/
def lossP (A : Nat → Ar) (r : Int → Int) : List Stp → Int
  | [] => 0
  | s :: P => r (frm A s) - r (tow A s) + lossP A r P
theorem loss_brings {n : Nat} {A : Nat → Ar} {r : Int → Int} : ∀ {P : List Stp}, (∀ s ∈ P, 0 ≤ frm A s ∧ frm A s < n ∧ 0 ≤ tow A s ∧ tow A s < n) → sumN n (fun v => r v * brings A v P) = lossP A r P
  | [], _ => by
    simp only [brings, lossP, Int.mul_zero]
    exact sumN_zero fun _ _ => rfl
  | s :: P, h => by
    obtain ⟨a1, a2, a3, a4⟩ := h s (List.mem_cons_self ..)
    have ih := loss_brings (r := r) (P := P) fun t ht => h t (List.mem_cons_of_mem _ ht)
    have e : ∀ v : Nat, v < n → r v * brings A v (s :: P) = (r v * (if frm A s = v then 1 else 0) - r v * (if tow A s = v then 1 else 0)) + r v * brings A v P := fun v _ => by
      simp only [brings]
      rw [Int.mul_add, Int.mul_sub]
    rw [sumN_congr e, sumN_add, sumN_sub, sumN_pick r a1 a2, sumN_pick r a3 a4, ih]
    simp only [lossP, Int.mul_one]
theorem loss_zero {A : Nat → Ar} {r : Int → Int} : ∀ {P : List Stp}, (∀ s ∈ P, r (frm A s) ≤ r (tow A s)) → 0 ≤ lossP A r P → ∀ s ∈ P, r (frm A s) = r (tow A s)
  | [], _, _, s, hs => nomatch hs
  | t :: P, h, h0, s, hs => by
    have hle : ∀ {P : List Stp}, (∀ s ∈ P, r (frm A s) ≤ r (tow A s)) → lossP A r P ≤ 0 := fun {P} h => by
      induction P with
      | nil => exact Int.le_refl _
      | cons t P ih => simp only [lossP]; have := h t (List.mem_cons_self ..); have := ih fun u hu => h u (List.mem_cons_of_mem _ hu); omega
    have h1 := h t (List.mem_cons_self ..)
    have h2 := hle fun u hu => h u (List.mem_cons_of_mem _ hu)
    simp only [lossP] at h0
    rcases List.mem_cons.1 hs with e | hs
    · subst e; omega
    · exact loss_zero (fun u hu => h u (List.mem_cons_of_mem _ hu)) (by omega) s hs
/-- What LexCert says of one arc. -/
def LexAt (m : Nat) (A : Nat → Ar) (x : Nat → Int) (p : Int → Int) (i : Nat) : Prop := rc A p i = 0 → x i < (A i).f2 →
  ∃ R : Int → Bool, R (A i).f1 = true ∧ R (A i).f0 = false ∧ ∀ s, Res m A x s → (i : Int) < s.f0 → rc A p s.f0.toNat = 0 → R (frm A s) = true → R (tow A s) = true
section
variable {n m : Nat} {A : Nat → Ar} {x : Nat → Int} {p : Int → Int}
theorem rc_stp (s : Stp) : rc A p s.f0.toNat = 0 ↔ cst A s + p (frm A s) - p (tow A s) = 0 := by
  unfold rc cst frm tow
  cases s.f1 <;> simp <;> omega
theorem lex_put (hN : NetOk n m A) {j : Nat} (hl : LexAt m A x p j) {P : List Stp} (hP : PathOk m P) (hres : ∀ t ∈ P, Res m A x t) (htight : ∀ t ∈ P, rc A p t.f0.toNat = 0) (hgt : ∀ t ∈ P, (j : Int) < t.f0)
    (hround : ∀ y, brings A y P = 0) {d : Int} (hd : 0 ≤ d) : LexAt m A (putP d x P) p j := fun h1 h2 => by
  have e : putP d x P j = x j := putP_out hP fun s hs g => by have := hgt s hs; omega
  rw [e] at h2
  obtain ⟨R, r1, r2, r3⟩ := hl h1 h2
  refine ⟨R, r1, r2, fun s hs hj ht hf => ?_⟩
  rcases res_put hP hd hs with g | g
  · exact r3 s g hj ht hf
  · have hz := loss_zero (A := A) (r := fun v => if R v then 1 else 0) (P := P) (fun t ht => by
      have := r3 t (hres t ht) (hgt t ht) (htight t ht)
      split
      · next g => rw [if_pos (this g)]; exact Int.le_refl _
      · next g => split <;> omega) (by
      rw [← loss_brings (n := n) fun t ht => by obtain ⟨a1, a2, a3, a4, _⟩ := hN.stps hP.rng t ht; exact ⟨a1, a2, a3, a4⟩]
      rw [sumN_zero fun v _ => by rw [hround, Int.mul_zero]]
      exact Int.le_refl _) _ g
    simp only [rev_frm, rev_tow, hf, if_true] at hz
    by_cases ht : R (tow A s) = true
    · exact ht
    · rw [if_neg ht] at hz; omega
theorem feas_put (hp : Feas m A x p) {P : List Stp} (hP : PathOk m P) (htight : ∀ t ∈ P, rc A p t.f0.toNat = 0) {d : Int} (hd : 0 ≤ d) : Feas m A (putP d x P) p := fun s hs => by
  rcases res_put hP hd hs with g | g
  · exact hp s g
  · have h := (rc_stp (rev s)).1 (htight _ g)
    rw [rev_cst, rev_frm, rev_tow] at h
    omega
end
/-! ### The tree of a search -/
/-- The way back from v in a tree. -/
def wayT (A : Nat → Ar) (T : Int → Stp) (o : Int) : Nat → Int → List Stp
  | 0, _ => []
  | k + 1, v => if v = o then [] else T v :: wayT A T o k (frm A (T v))
/-- A tree: each node that was seen, but the first one, has a last step from one that was seen earlier. -/
structure Tree (n : Nat) (A : Nat → Ar) (all : List Stp) (let_ : Stp → Bool) (o : Int) (seen : Int → Bool) (T : Int → Stp) (r : Int → Nat) : Prop where
  top : seen o = true
  rng : ∀ v, seen v = true → 0 ≤ v ∧ v < n
  last : ∀ v, seen v = true → v ≠ o → T v ∈ all ∧ let_ (T v) = true ∧ tow A (T v) = v ∧ seen (frm A (T v)) = true ∧ r (frm A (T v)) < r v
theorem wayT_ok {n : Nat} {A : Nat → Ar} {all : List Stp} {let_ : Stp → Bool} {o : Int} {seen : Int → Bool} {T : Int → Stp} {r : Int → Nat} (h : Tree n A all let_ o seen T r) : ∀ (k : Nat) (v : Int), seen v = true → r v < k →
    (∀ s ∈ wayT A T o k v, s ∈ all ∧ let_ s = true ∧ r (frm A s) < r (tow A s) ∧ r (tow A s) ≤ r v) ∧ ((wayT A T o k v).map fun s => s.f0).Nodup ∧
    ∀ y, brings A y (wayT A T o k v) = (if o = y then 1 else 0) - (if v = y then 1 else 0)
  | 0, _, _, hk => absurd hk (by omega)
  | k + 1, v, hs, hk => by
    unfold wayT
    by_cases e : v = o
    · subst e
      rw [if_pos rfl]
      refine ⟨fun s hs => (nomatch hs), List.nodup_nil, fun y => ?_⟩
      show (0 : Int) = _
      omega
    · rw [if_neg e]
      obtain ⟨b1, b2, b3, b4, b5⟩ := h.last v hs e
      obtain ⟨g1, g2, g3⟩ := wayT_ok h k (frm A (T v)) b4 (by omega)
      refine ⟨fun s hs => ?_, ?_, fun y => ?_⟩
      · rcases List.mem_cons.1 hs with e | hs
        · subst e; rw [b3]; exact ⟨b1, b2, b5, Nat.le_refl _⟩
        · obtain ⟨c1, c2, c3, c4⟩ := g1 s hs
          exact ⟨c1, c2, c3, by omega⟩
      · rw [List.map_cons, List.nodup_cons]
        refine ⟨fun hm => ?_, g2⟩
        obtain ⟨t, ht, e⟩ := List.mem_map.1 hm
        obtain ⟨c1, c2, c3, c4⟩ := g1 t ht
        rcases stp_eq (s := T v) (t := t) e.symm with e2 | e2
        · subst e2; rw [b3] at c4; omega
        · rw [e2, rev_frm, rev_tow, b3] at c3; omega
      · show (if frm A (T v) = y then 1 else 0) - (if tow A (T v) = y then 1 else 0) + brings A y (wayT A T o k (frm A (T v))) = _
        rw [g3, b3]
        omega
/-! ### Best: what the reference looks for is not there -/
/-- Reached along steps that P lets. -/
inductive Rch (A : Nat → Ar) (P : Stp → Prop) : Int → Int → Prop
  | refl (a : Int) : Rch A P a a
  | step {a : Int} {s : Stp} : Rch A P a (frm A s) → P s → Rch A P a (tow A s)
end Go.Proofs.Ytcobihdjcdefmaa
namespace Go.Proofs.Ytcobihdjcdefmaa
open PAccountsCompress
/-- What is said of one entry (y, c) at place i of a walk: y's label is no later than (c, i). -/
def Early (L : Int → Lb) (y c : Int) (i : Nat) : Prop := (L y).f0 ≠ far ∧ ((L y).f0 < c ∨ ((L y).f0 = c ∧ (L y).f1 ≤ i))
/-- H tells of each label's walk: its nodes and the costs up to them. -/
structure Hist (n : Nat) (q : Int → Int) (L : Int → Lb) (H : Int → List (Int × Int)) : Prop where
  len : ∀ v : Int, 0 ≤ v → v < n → (L v).f0 ≠ far → ((H v).length : Int) = (L v).f1 + 1
  rng : ∀ v : Int, 0 ≤ v → v < n → (L v).f0 ≠ far → ∀ e ∈ H v, 0 ≤ e.1 ∧ e.1 < n
  dif : ∀ v : Int, 0 ≤ v → v < n → (L v).f0 ≠ far → ((H v).map fun e => e.1).Nodup
  early : ∀ v : Int, 0 ≤ v → v < n → (L v).f0 ≠ far → ∀ i e, (H v)[i]? = some e → Early L e.1 e.2 i
  red : ∀ v : Int, 0 ≤ v → v < n → (L v).f0 ≠ far → ∀ e ∈ H v, e.2 - q e.1 ≤ (L v).f0 - q v
def HI (n : Nat) (q : Int → Int) (L : Int → Lb) : Prop := ∃ H, Hist n q L H
theorem nodup_len : ∀ {n : Nat} {l : List Int}, l.Nodup → (∀ e ∈ l, 0 ≤ e ∧ e < n) → l.length ≤ n
  | 0, l, _, h => by
    cases l with
    | nil => exact Nat.le_refl _
    | cons a l => have := h a (List.mem_cons_self ..); omega
  | n + 1, l, hn, h => by
    have h1 := nodup_len (n := n) (l := l.filter (fun e => decide (e ≠ (n : Int)))) (hn.filter _) (fun e he => by
      obtain ⟨a, b⟩ := List.mem_filter.1 he
      have := h e a
      have := of_decide_eq_true b
      omega)
    have h2 : ∀ l : List Int, l.Nodup → l.length ≤ (l.filter (fun e => decide (e ≠ (n : Int)))).length + 1 := fun l => by
      induction l with
      | nil => intro _; simp
      | cons a l ih =>
        intro hd
        rw [List.nodup_cons] at hd
        by_cases e : a = (n : Int)
        · have hf : l.filter (fun e => decide (e ≠ (n : Int))) = l := List.filter_eq_self.2 fun b hb => decide_eq_true (fun g => hd.1 (by rw [e, ← g]; exact hb))
          rw [List.filter_cons_of_neg (by simp [e]), hf]
          simp
        · rw [List.filter_cons_of_pos (by simp [e])]
          have := ih hd.2
          simp only [List.length_cons]
          omega
    have := h2 l hn
    omega
theorem HI.steps {n : Nat} {q : Int → Int} {L : Int → Lb} (h : HI n q L) {v : Int} (h0 : 0 ≤ v) (h1 : v < n) (hs : (L v).f0 ≠ far) : (L v).f1 + 1 ≤ n := by
  obtain ⟨H, hH⟩ := h
  have h2 := nodup_len (n := n) (hH.dif v h0 h1 hs) (fun e he => by
    obtain ⟨p, hp, rfl⟩ := List.mem_map.1 he
    exact hH.rng v h0 h1 hs p hp)
  rw [List.length_map] at h2
  have := hH.len v h0 h1 hs
  omega
theorem HI.ini {n : Nat} {q : Int → Int} {L : Int → Lb} (h : ∀ v : Int, (L v).f0 ≠ far → (L v).f0 = 0 ∧ (L v).f1 = 0) : HI n q L := by
  refine ⟨fun v => [(v, 0)], fun v _ _ hs => by rw [(h v hs).2]; rfl, fun v h0 h1 _ e he => ?_, fun v _ _ _ => by simp, fun v _ _ hs i e he => ?_, fun v _ _ hs e he => ?_⟩
  · rw [List.mem_singleton] at he; subst he; exact ⟨h0, h1⟩
  · cases i with
    | zero =>
      have he : some (v, (0 : Int)) = some e := he
      obtain rfl := Option.some.inj he
      exact ⟨hs, .inr ⟨(h v hs).1, by rw [(h v hs).2]; exact Int.le_refl _⟩⟩
    | succ i => simp at he
  · rw [List.mem_singleton] at he; subst he; rw [(h v hs).1]; exact Int.le_refl _
theorem HI.rel {n : Nat} {A : Nat → Ar} {C : Int} {all : List Stp} {q : Int → Int} {L : Int → Lb} (h : HI n q L) (hS : StpsOk n A C all) (hq : FeasL A all q) {s : Stp} (hm : s ∈ all) (hne : hitL A L s = true → (newL A L s).f0 ≠ far) : HI n q (relL A L s) := by
  unfold relL
  by_cases hh : hitL A L s = true
  · rw [if_pos hh]
    obtain ⟨H, hH⟩ := h
    obtain ⟨a1, a2, a3, a4, a5, _⟩ := hS s hm
    have hu := hit_ne hh
    have hlex := hit_lex hh
    have hn := hne hh
    have hfe := hq s hm
    -- labels get earlier alone
    have hearly : ∀ y c i, Early L y c i → Early (updL L (tow A s) (newL A L s)) y c i := fun y c i hy => by
      by_cases e : y = tow A s
      · subst e
        obtain ⟨y1, y2⟩ := hy
        refine ⟨by rw [updL_eq]; exact hn, ?_⟩
        rw [updL_eq]
        omega
      · unfold Early; rw [updL_ne e]; exact hy
    -- the node reached does not lie on the walk so far
    have hnot : ∀ e ∈ H (frm A s), e.1 ≠ tow A s := fun e he g => by
      obtain ⟨i, hi⟩ := List.getElem?_of_mem he
      have h1 := hH.early _ a1 a2 hu i e hi
      have h2 := hH.red _ a1 a2 hu e he
      have h3 := hH.len _ a1 a2 hu
      have h4 := (List.getElem?_eq_some_iff.1 hi).1
      rw [g] at h1 h2
      obtain ⟨g1, g2⟩ := h1
      have n0 : (newL A L s).f0 = (L (frm A s)).f0 + cst A s := rfl
      have n1 : (newL A L s).f1 = (L (frm A s)).f1 + 1 := rfl
      rw [n0, n1] at hlex
      omega
    have n0 : (newL A L s).f0 = (L (frm A s)).f0 + cst A s := rfl
    have n1 : (newL A L s).f1 = (L (frm A s)).f1 + 1 := rfl
    refine ⟨fun v => if v = tow A s then H (frm A s) ++ [(tow A s, (newL A L s).f0)] else H v, fun v h0 h1 hs => ?_, fun v h0 h1 hs e he => ?_, fun v h0 h1 hs => ?_, fun v h0 h1 hs i e he => ?_, fun v h0 h1 hs e he => ?_⟩
    · by_cases g : v = tow A s
      · subst g
        rw [if_pos rfl, updL_eq, n1, List.length_append]
        have := hH.len _ a1 a2 hu
        simp only [List.length_cons, List.length_nil]
        omega
      · rw [updL_ne g] at hs ⊢
        rw [if_neg g]; exact hH.len v h0 h1 hs
    · by_cases g : v = tow A s
      · subst g
        rw [if_pos rfl] at he
        rcases List.mem_append.1 he with he | he
        · exact hH.rng _ a1 a2 hu e he
        · rw [List.mem_singleton] at he; subst he; exact ⟨a3, a4⟩
      · rw [updL_ne g] at hs
        rw [if_neg g] at he; exact hH.rng v h0 h1 hs e he
    · by_cases g : v = tow A s
      · subst g
        rw [if_pos rfl, List.map_append, List.nodup_append]
        refine ⟨hH.dif _ a1 a2 hu, by simp, fun a ha b hb => ?_⟩
        obtain ⟨e, he, rfl⟩ := List.mem_map.1 ha
        simp only [List.map_cons, List.map_nil, List.mem_singleton] at hb
        subst hb
        exact hnot e he
      · rw [updL_ne g] at hs
        rw [if_neg g]; exact hH.dif v h0 h1 hs
    · by_cases g : v = tow A s
      · subst g
        rw [if_pos rfl] at he
        rcases Nat.lt_or_ge i (H (frm A s)).length with hi | hi
        · rw [List.getElem?_append_left hi] at he
          exact hearly _ _ _ (hH.early _ a1 a2 hu i e he)
        · rw [List.getElem?_append_right hi] at he
          have h2 : i - (H (frm A s)).length = 0 := by
            have := (List.getElem?_eq_some_iff.1 he).1
            simp only [List.length_cons, List.length_nil] at this
            omega
          rw [h2] at he
          have he : some (tow A s, (newL A L s).f0) = some e := he
          obtain rfl := Option.some.inj he
          have h3 := hH.len _ a1 a2 hu
          refine ⟨by rw [updL_eq]; exact hn, .inr ⟨by rw [updL_eq], ?_⟩⟩
          rw [updL_eq, n1]
          omega
      · rw [updL_ne g] at hs
        rw [if_neg g] at he; exact hearly _ _ _ (hH.early v h0 h1 hs i e he)
    · by_cases g : v = tow A s
      · subst g
        rw [if_pos rfl] at he
        rw [updL_eq, n0]
        rcases List.mem_append.1 he with he | he
        · have := hH.red _ a1 a2 hu e he
          omega
        · rw [List.mem_singleton] at he; subst he; rw [n0]; exact Int.le_refl _
      · rw [updL_ne g] at hs ⊢
        rw [if_neg g] at he; exact hH.red v h0 h1 hs e he
  · rw [if_neg hh]; exact h
end Go.Proofs.Ytcobihdjcdefmaa
namespace Go.Proofs.Ytcobihdjcdefmaa
open PAccountsCompress
def hitP (A : Nat → Ar) (p : Int → Int) (s : Stp) : Bool := decide (p (frm A s) + cst A s < p (tow A s))
/-- One sweep of potentials, and whether it turned one. -/
def swpQ (A : Nat → Ar) (p : Int → Int) (b : Bool) : List Stp → (Int → Int) × Bool
  | [] => (p, b)
  | s :: l => swpQ A (relP A p s) (b || hitP A p s) l
theorem swpQ_fst (A : Nat → Ar) : ∀ (l : List Stp) (p : Int → Int) (b : Bool), (swpQ A p b l).1 = swpP A l p
  | [], _, _ => rfl
  | s :: l, p, b => swpQ_fst A l (relP A p s) (b || hitP A p s)
theorem swpQ_snoc (A : Nat → Ar) (s : Stp) : ∀ (l : List Stp) (p : Int → Int) (b : Bool), swpQ A p b (l ++ [s]) = (relP A (swpQ A p b l).1 s, (swpQ A p b l).2 || hitP A (swpQ A p b l).1 s)
  | [], _, _ => rfl
  | t :: l, p, b => swpQ_snoc A s l (relP A p t) (b || hitP A p t)
theorem swpQ_false (A : Nat → Ar) : ∀ (l : List Stp) (p : Int → Int) (b : Bool), (swpQ A p b l).2 = false ↔ (b = false ∧ FeasL A l p)
  | [], p, b => ⟨fun h => ⟨h, fun _ hs => nomatch hs⟩, fun h => h.1⟩
  | s :: l, p, b => by
    show (swpQ A (relP A p s) (b || hitP A p s) l).2 = false ↔ _
    rw [swpQ_false A l]
    constructor
    · rintro ⟨h1, h2⟩
      have hb : b = false := by cases b <;> simp_all
      have hh : hitP A p s = false := by cases h : hitP A p s <;> simp_all
      have hs : p (tow A s) ≤ p (frm A s) + cst A s := by have := of_decide_eq_false hh; omega
      rw [relP_fix hs] at h2
      exact ⟨hb, fun t ht => by
        rcases List.mem_cons.1 ht with rfl | ht
        · exact hs
        · exact h2 t ht⟩
    · rintro ⟨h1, h2⟩
      have hs := h2 s (List.mem_cons_self ..)
      rw [relP_fix hs]
      refine ⟨by rw [h1, Bool.false_or]; exact decide_eq_false (by omega), fun t ht => h2 t (List.mem_cons_of_mem _ ht)⟩
/-- Potentials within bounds. -/
def PB (n : Nat) (p : Int → Int) (k : Nat) : Prop := ∀ v : Int, 0 ≤ v → v < n → -(k * 32768 : Int) ≤ p v ∧ p v ≤ 0
theorem PB.rel {n : Nat} {A : Nat → Ar} {all : List Stp} {p : Int → Int} {k : Nat} (h : PB n p k) (hS : StpsOk n A 32768 all) {s : Stp} (hs : s ∈ all) : PB n (relP A p s) (k + 1) := fun v h0 h1 => by
  obtain ⟨a1, a2, a3, a4, a5, a6, a7⟩ := hS s hs
  have hv := h v h0 h1
  have hu := h _ a1 a2
  have e : ((k + 1 : Nat) : Int) * 32768 = k * 32768 + 32768 := by omega
  unfold relP
  split
  · next hc =>
    unfold upd
    split
    · next g => have := h _ a3 a4; omega
    · omega
  · omega
theorem PB.zero (n : Nat) : PB n (fun _ => 0) 0 := fun v _ _ => by simp
end Go.Proofs.Ytcobihdjcdefmaa
namespace Go.Proofs.Ytcobihdjcdefmaa
open PAccountsCompress
def updB (f : Int → Bool) (v : Int) : Int → Bool := fun y => if y = v then true else f y
def updT (f : Int → Stp) (v : Int) (s : Stp) : Int → Stp := fun y => if y = v then s else f y
def updR (f : Int → Nat) (v : Int) (k : Nat) : Int → Nat := fun y => if y = v then k else f y
noncomputable def cntS (n : Nat) (f : Int → Bool) : Nat := cntN n fun v => f v = true
def Shut (A : Nat → Ar) (all : List Stp) (let_ : Stp → Bool) (seen : Int → Bool) (v : Int) : Prop := ∀ s ∈ all, let_ s = true → frm A s = v → seen (tow A s) = true
structure SI (n : Nat) (A : Nat → Ar) (all : List Stp) (let_ : Stp → Bool) (o : Int) (seen : Int → Bool) (T : Int → Stp) (r : Int → Nat) (Q : List Int) : Prop where
  tree : Tree n A all let_ o seen T r
  qs : ∀ v ∈ Q, seen v = true
  done : ∀ v, seen v = true → v ∈ Q ∨ Shut A all let_ seen v
structure SJ (n : Nat) (A : Nat → Ar) (all : List Stp) (let_ : Stp → Bool) (o : Int) (u : Int) (t : Nat) (seen : Int → Bool) (T : Int → Stp) (r : Int → Nat) (Q : List Int) : Prop where
  tree : Tree n A all let_ o seen T r
  qs : ∀ v ∈ Q, seen v = true
  us : seen u = true
  done : ∀ v, seen v = true → v = u ∨ v ∈ Q ∨ Shut A all let_ seen v
  mine : ∀ s ∈ all.take t, let_ s = true → frm A s = u → seen (tow A s) = true
variable {n : Nat} {A : Nat → Ar} {all : List Stp} {let_ : Stp → Bool} {o u : Int} {t : Nat} {seen : Int → Bool} {T : Int → Stp} {r : Int → Nat} {Q : List Int}
theorem SI.start (h0 : 0 ≤ o) (h1 : o < n) : SI n A all let_ o (updB (fun _ => false) o) T (fun _ => 0) [o] := by
  have e : ∀ v, updB (fun _ => false) o v = true → v = o := fun v hv => by
    unfold updB at hv
    by_cases e : v = o
    · exact e
    · rw [if_neg e] at hv; exact absurd hv (by simp)
  have e2 : updB (fun _ => false) o o = true := if_pos rfl
  exact ⟨⟨e2, fun v hv => by rw [e v hv]; exact ⟨h0, h1⟩, fun v hv hne => absurd (e v hv) hne⟩, fun v hv => by rw [List.mem_singleton] at hv; subst hv; exact e2, fun v hv => .inl (by rw [e v hv]; exact List.mem_singleton.2 rfl)⟩
theorem SI.open_ (h : SI n A all let_ o seen T r (u :: Q)) : SJ n A all let_ o u 0 seen T r Q :=
  ⟨h.tree, fun v hv => h.qs v (List.mem_cons_of_mem _ hv), h.qs u (List.mem_cons_self ..), fun v hv => by
    rcases h.done v hv with g | g
    · rcases List.mem_cons.1 g with g | g
      · exact .inl g
      · exact .inr (.inl g)
    · exact .inr (.inr g), fun s hs => by simp at hs⟩
theorem SJ.skip {s : Stp} (h : SJ n A all let_ o u t seen T r Q) (hs : all[t]? = some s) (hn : ¬ (frm A s = u ∧ seen (tow A s) = false ∧ let_ s = true)) : SJ n A all let_ o u (t + 1) seen T r Q :=
  ⟨h.tree, h.qs, h.us, h.done, fun s' hs' hl hf => by
    rw [List.take_add_one, hs] at hs'
    rcases List.mem_append.1 hs' with g | g
    · exact h.mine s' g hl hf
    · have e : s' = s := by simpa using g
      subst e
      cases hz : seen (tow A s') with
      | true => rfl
      | false => exact absurd ⟨hf, hz, hl⟩ hn⟩
theorem SJ.put {s : Stp} (h : SJ n A all let_ o u t seen T r Q) (hs : all[t]? = some s) (hf : frm A s = u) (hz : seen (tow A s) = false) (hl : let_ s = true) (h0 : 0 ≤ tow A s) (h1 : tow A s < n) :
    SJ n A all let_ o u (t + 1) (updB seen (tow A s)) (updT T (tow A s) s) (updR r (tow A s) (r u + 1)) (Q ++ [tow A s]) ∧ cntS n seen < cntS n (updB seen (tow A s)) := by
  have hmono : ∀ v, seen v = true → updB seen (tow A s) v = true := fun v hv => by
    unfold updB
    split
    · rfl
    · exact hv
  have hself : updB seen (tow A s) (tow A s) = true := if_pos rfl
  have hne : ∀ v, seen v = true → v ≠ tow A s := fun v hv e => by subst e; rw [hz] at hv; exact absurd hv (by simp)
  have hold : ∀ v, updB seen (tow A s) v = true → v ≠ tow A s → seen v = true := fun v hv e => by
    unfold updB at hv; rwa [if_neg e] at hv
  have hr : ∀ v, v ≠ tow A s → updR r (tow A s) (r u + 1) v = r v := fun v e => if_neg e
  have hT : ∀ v, v ≠ tow A s → updT T (tow A s) s v = T v := fun v e => if_neg e
  refine ⟨⟨⟨hmono _ h.tree.top, fun v hv => ?_, fun v hv hvo => ?_⟩, fun v hv => ?_, hmono _ h.us, fun v hv => ?_, fun s' hs' hl' hf' => ?_⟩, ?_⟩
  · by_cases e : v = tow A s
    · rw [e]; exact ⟨h0, h1⟩
    · exact h.tree.rng v (hold v hv e)
  · by_cases e : v = tow A s
    · subst e
      have e1 : updT T (tow A s) s (tow A s) = s := if_pos rfl
      have e2 : updR r (tow A s) (r u + 1) (tow A s) = r u + 1 := if_pos rfl
      rw [e1, e2, hf, hr u (hne u h.us)]
      exact ⟨List.mem_of_getElem? hs, hl, rfl, hmono u h.us, by omega⟩
    · obtain ⟨c1, c2, c3, c4, c5⟩ := h.tree.last v (hold v hv e) hvo
      rw [hT v e, hr v e, hr _ (hne _ c4)]
      exact ⟨c1, c2, c3, hmono _ c4, c5⟩
  · rcases List.mem_append.1 hv with g | g
    · exact hmono v (h.qs v g)
    · rw [List.mem_singleton] at g; subst g; exact hself
  · by_cases e : v = tow A s
    · subst e; exact .inr (.inl (List.mem_append_right _ (List.mem_singleton.2 rfl)))
    · rcases h.done v (hold v hv e) with g | g | g
      · exact .inl g
      · exact .inr (.inl (List.mem_append_left _ g))
      · exact .inr (.inr fun s' h1 h2 h3 => hmono _ (g s' h1 h2 h3))
  · rw [List.take_add_one, hs] at hs'
    rcases List.mem_append.1 hs' with g | g
    · exact hmono _ (h.mine s' g hl' hf')
    · have e : s' = s := by simpa using g
      subst e; exact hself
  · exact cntN_lt (P := fun v => seen v = true) (Q := fun v => updB seen (tow A s) v = true) hmono h0 h1 (by rw [hz]; simp) hself
theorem SJ.close (h : SJ n A all let_ o u t seen T r Q) (ht : all.length ≤ t) : SI n A all let_ o seen T r Q :=
  ⟨h.tree, h.qs, fun v hv => by
    rcases h.done v hv with g | g | g
    · subst g
      exact .inr fun s hs hl hf => h.mine s (by rw [List.take_of_length_le ht]; exact hs) hl hf
    · exact .inl g
    · exact .inr g⟩
theorem wayT_stop (A : Nat → Ar) (T : Int → Stp) (k : Nat) {o v : Int} (h : v = o) : wayT A T o (k + 1) v = [] := if_pos h
theorem wayT_go (A : Nat → Ar) (T : Int → Stp) (k : Nat) {o v : Int} (h : ¬ v = o) : wayT A T o (k + 1) v = T v :: wayT A T o k (frm A (T v)) := if_neg h
theorem cntS_le (n : Nat) (f : Int → Bool) : cntS n f ≤ n := cntN_le n _
end Go.Proofs.Ytcobihdjcdefmaa
