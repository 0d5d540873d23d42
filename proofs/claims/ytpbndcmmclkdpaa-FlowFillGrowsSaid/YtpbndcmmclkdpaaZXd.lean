/-
  The plain law of Fill, told by plans (rows of amounts): what potentials tell, and that no plan sends more.
  The plain law of Fill: the program's network and the reference's.
  The plain law of Fill: amounts of the program's network and plans.
  The plain law of Fill: no plan is better; what the reference's Best asks for.
-/
import Derived.Test.YtpbndcmmclkdpaaZGPa
namespace Go.Proofs.Ytpbndcmmclkdpaa
theorem sumN_swap (P W : Nat) (f : Nat → Nat → Int) : sumN P (fun i => sumN W (fun k => f i k)) = sumN W (fun k => sumN P (fun i => f i k)) := by
  induction P with
  | zero => exact (sumN_zero fun _ _ => rfl).symm
  | succ P ih =>
    show sumN P (fun i => sumN W (fun k => f i k)) + sumN W (fun k => f P k) = _
    rw [ih, ← sumN_add]; rfl
/-- What is asked for. -/
structure Ord where
  P : Nat
  W : Nat
  b : Nat → Int
  c : Nat → Int
  suit : Nat → Nat → Bool
  cost : Nat → Nat → Int
structure Ord.Ok (o : Ord) : Prop where
  p1 : o.P ≤ 12
  w1 : o.W ≤ 12
  b1 : ∀ i, i < o.P → 0 ≤ o.b i ∧ o.b i ≤ 4096
  c1 : ∀ k, k < o.W → 0 ≤ o.c k ∧ o.c k ≤ 4096
  cost1 : ∀ i k, i < o.P → k < o.W → 0 ≤ o.cost i k ∧ o.cost i k ≤ 32768
abbrev Plan := Nat → Nat → Int
def Ord.row (o : Ord) (X : Plan) (i : Nat) : Int := sumN o.W (fun k => X i k)
def Ord.col (o : Ord) (X : Plan) (k : Nat) : Int := sumN o.P (fun i => X i k)
def Ord.tot (o : Ord) (X : Plan) : Int := sumN o.P (fun i => o.row X i)
def Ord.sum (o : Ord) (X : Plan) : Int := sumN o.P (fun i => sumN o.W (fun k => o.cost i k * X i k))
theorem Ord.tot_col (o : Ord) (X : Plan) : o.tot X = sumN o.W (fun k => o.col X k) := sumN_swap o.P o.W X
/-- A plan that is let in. -/
structure Ord.Adm (o : Ord) (X : Plan) : Prop where
  nn : ∀ i k, i < o.P → k < o.W → 0 ≤ X i k
  un : ∀ i k, i < o.P → k < o.W → o.suit i k = false → X i k = 0
  row : ∀ i, i < o.P → o.row X i ≤ o.b i
  col : ∀ k, k < o.W → o.col X k ≤ o.c k
theorem sumN_le1 {n : Nat} {f : Nat → Int} (h : ∀ i, i < n → 0 ≤ f i) {j : Nat} (hj : j < n) : f j ≤ sumN n f := by
  rw [← sumN_single hj (f j)]
  refine sumN_le fun i hi => ?_
  by_cases e : i = j
  · rw [if_pos e, e]; exact Int.le_refl _
  · rw [if_neg e]; exact h i hi
theorem Ord.Adm.le {o : Ord} {X : Plan} (h : o.Adm X) {i k : Nat} (hi : i < o.P) (hk : k < o.W) : X i k ≤ o.b i ∧ X i k ≤ o.c k :=
  ⟨Int.le_trans (sumN_le1 (f := fun k => X i k) (fun k hk => h.nn i k hi hk) hk) (h.row i hi), Int.le_trans (sumN_le1 (f := fun i => X i k) (fun i hi => h.nn i k hi hk) hi) (h.col k hk)⟩
/-- A set of parcels and wants that no more can leave. -/
structure Ord.Shut (o : Ord) (X : Plan) (S Q : Nat → Bool) : Prop where
  src : ∀ i, i < o.P → o.row X i < o.b i → S i = true
  on : ∀ i k, i < o.P → k < o.W → S i = true → o.suit i k = true → X i k < o.b i → X i k < o.c k → Q k = true
  off : ∀ i k, i < o.P → k < o.W → Q k = true → 0 < X i k → S i = true
  full : ∀ k, k < o.W → Q k = true → o.col X k = o.c k
theorem Ord.Shut.most {o : Ord} {X X' : Plan} {S Q : Nat → Bool} (h : o.Shut X S Q) (hX : o.Adm X) (hX' : o.Adm X') : o.tot X' ≤ o.tot X := by
  have key : ∀ Y : Plan, o.tot Y = sumN o.P (fun i => if S i then sumN o.W (fun k => if Q k then 0 else Y i k) else o.row Y i) + sumN o.P (fun i => sumN o.W (fun k => if S i && Q k then Y i k else 0)) := fun Y => by
    unfold Ord.tot
    rw [← sumN_add]
    refine sumN_congr fun i _ => ?_
    cases hS : S i with
    | true =>
      simp only [if_true, Bool.true_and]
      unfold Ord.row
      rw [← sumN_add]
      exact sumN_congr fun k _ => by cases Q k <;> simp
    | false => simp [sumN_zero]
  have swap : ∀ Y : Plan, sumN o.P (fun i => sumN o.W (fun k => if S i && Q k then Y i k else 0)) = sumN o.W (fun k => if Q k then sumN o.P (fun i => if S i then Y i k else 0) else 0) := fun Y => by
    rw [sumN_swap]
    refine sumN_congr fun k _ => ?_
    cases Q k with
    | true => simp
    | false => simp [sumN_zero]
  rw [key X, key X', swap X, swap X']
  have a1 : sumN o.P (fun i => if S i then sumN o.W (fun k => if Q k then 0 else X' i k) else o.row X' i) ≤ sumN o.P (fun i => if S i then sumN o.W (fun k => if Q k then 0 else X i k) else o.row X i) := by
    refine sumN_le fun i hi => ?_
    cases hS : S i with
    | true =>
      simp only [if_true]
      refine sumN_le fun k hk => ?_
      cases hQ : Q k with
      | true => simp
      | false =>
        simp only [Bool.false_eq_true, if_false]
        cases hs : o.suit i k with
        | false => rw [hX'.un i k hi hk hs, hX.un i k hi hk hs]; exact Int.le_refl _
        | true =>
          have h1 := hX'.le hi hk
          by_cases g1 : X i k < o.b i
          · by_cases g2 : X i k < o.c k
            · rw [h.on i k hi hk hS hs g1 g2] at hQ; exact absurd hQ (by simp)
            · omega
          · omega
    | false =>
      simp only [Bool.false_eq_true, if_false]
      by_cases g : o.row X i < o.b i
      · rw [h.src i hi g] at hS; exact absurd hS (by simp)
      · have := hX'.row i hi; omega
  have a2 : sumN o.W (fun k => if Q k then sumN o.P (fun i => if S i then X' i k else 0) else 0) ≤ sumN o.W (fun k => if Q k then sumN o.P (fun i => if S i then X i k else 0) else 0) := by
    refine sumN_le fun k hk => ?_
    cases hQ : Q k with
    | false => simp
    | true =>
      simp only [if_true]
      have e1 : sumN o.P (fun i => if S i then X i k else 0) = o.col X k := sumN_congr fun i hi => by
        cases hS : S i with
        | true => simp
        | false =>
          by_cases g : 0 < X i k
          · rw [h.off i k hi hk hQ g] at hS; exact absurd hS (by simp)
          · have := hX.nn i k hi hk; simp; omega
      have e2 : sumN o.P (fun i => if S i then X' i k else 0) ≤ o.col X' k := sumN_le fun i hi => by
        cases S i with
        | true => simp
        | false => simpa using hX'.nn i k hi hk
      have := h.full k hk hQ
      have := hX'.col k hk
      omega
  omega
/-- What potentials tell about a plan. -/
structure Ord.Pot (o : Ord) (X : Plan) (u v : Nat → Int) (p0 pl : Int) : Prop where
  on : ∀ i k, i < o.P → k < o.W → o.suit i k = true → X i k < 4096 → v k ≤ u i + o.cost i k
  off : ∀ i k, i < o.P → k < o.W → o.suit i k = true → 0 < X i k → u i ≤ v k - o.cost i k
  src : ∀ i, i < o.P → o.row X i < o.b i → u i ≤ p0
  snk : ∀ k, k < o.W → o.col X k < o.c k → pl ≤ v k
  back : o.tot X < 49152 → p0 ≤ pl - 1048576
/-- Steps of a stair that has more steps than there are numbers on it: one step is empty. -/
theorem gap_of (W : Nat) (v : Nat → Int) (p0 : Int) : ∃ j : Nat, j ≤ W ∧ ∀ k, k < W → ¬ (p0 + j * 32768 < v k ∧ v k ≤ p0 + (j + 1 : Nat) * 32768) := by
  have hcnt : ∀ j : Nat, (∀ i, i < j → ∃ k, k < W ∧ p0 + i * 32768 < v k ∧ v k ≤ p0 + (i + 1 : Nat) * 32768) → j ≤ cntN W (fun k => v k.toNat ≤ p0 + j * 32768) := fun j => by
    induction j with
    | zero => exact fun _ => Nat.zero_le _
    | succ j ih =>
      intro h
      have h1 := ih fun i hi => h i (by omega)
      obtain ⟨k, hk, h2, h3⟩ := h j (Nat.lt_succ_self j)
      have h4 := cntN_lt (n := W) (P := fun k => v k.toNat ≤ p0 + j * 32768) (Q := fun k => v k.toNat ≤ p0 + (j + 1 : Nat) * 32768) (fun k hk => by omega) (v := (k : Int)) (by omega) (by omega) (by simp; omega) (by simp; omega)
      omega
  by_cases h : ∃ j : Nat, j ≤ W ∧ ∀ k, k < W → ¬ (p0 + j * 32768 < v k ∧ v k ≤ p0 + (j + 1 : Nat) * 32768)
  · exact h
  · have h1 := hcnt (W + 1) fun i hi => by
      by_cases g : ∃ k, k < W ∧ p0 + i * 32768 < v k ∧ v k ≤ p0 + (i + 1 : Nat) * 32768
      · exact g
      · exact absurd ⟨i, by omega, fun k hk hh => g ⟨k, hk, hh⟩⟩ h
    have h2 := cntN_le W (fun k => v k.toNat ≤ p0 + (W + 1 : Nat) * 32768)
    omega
theorem Ord.Pot.shut {o : Ord} {X : Plan} {u v : Nat → Int} {p0 pl : Int} (h : o.Pot X u v p0 pl) (ho : o.Ok) (hX : o.Adm X) : ∃ S Q, o.Shut X S Q := by
  obtain ⟨j, hj, hgap⟩ := gap_of o.W v p0
  have hw := ho.w1
  refine ⟨fun i => decide (u i ≤ p0 + j * 32768), fun k => decide (v k ≤ p0 + j * 32768), ⟨fun i hi hb => ?_, fun i k hi hk hS hs h1 h2 => ?_, fun i k hi hk hQ h1 => ?_, fun k hk hQ => ?_⟩⟩
  · have := h.src i hi hb
    simp; omega
  · simp only [decide_eq_true_eq] at hS ⊢
    have hb := ho.b1 i hi
    have := h.on i k hi hk hs (by omega)
    have hc := ho.cost1 i k hi hk
    have := hgap k hk
    omega
  · simp only [decide_eq_true_eq] at hQ ⊢
    cases hs : o.suit i k with
    | false => rw [hX.un i k hi hk hs] at h1; omega
    | true =>
      have := h.off i k hi hk hs h1
      have hc := ho.cost1 i k hi hk
      omega
  · simp only [decide_eq_true_eq] at hQ
    have hle := hX.col k hk
    by_cases e : o.col X k < o.c k
    · have g1 := h.snk k hk e
      have g2 : o.tot X < 49152 := by
        rw [o.tot_col]
        have : sumN o.W (fun k => o.col X k) < sumN o.W (fun _ => (4096 : Int)) := sumN_lt (fun k hk => by have := hX.col k hk; have := ho.c1 k hk; omega) hk (by have := ho.c1 k hk; omega)
        have e4 : sumN o.W (fun _ => (4096 : Int)) = o.W * 4096 := by
          generalize o.W = n
          induction n with
          | zero => rfl
          | succ n ih => show sumN n _ + 4096 = _; rw [ih]; omega
        omega
      have g3 := h.back g2
      omega
    · omega
end Go.Proofs.Ytpbndcmmclkdpaa
namespace Go.Proofs.Ytpbndcmmclkdpaa
open PFlowSolves
theorem sumN_split (a b : Nat) (f : Nat → Int) : sumN (a + b) f = sumN a f + sumN b (fun i => f (a + i)) := by
  induction b with
  | zero => show sumN a f = sumN a f + 0; omega
  | succ b ih => show sumN (a + b) f + f (a + b) = sumN a f + (sumN b (fun i => f (a + i)) + f (a + b)); rw [ih]; omega
theorem sumN_grid (P W : Nat) (f : Nat → Nat → Int) : sumN (P * W) (fun b => f (b / W) (b % W)) = sumN P (fun i => sumN W (fun k => f i k)) := by
  induction P with
  | zero => rw [Nat.zero_mul]; rfl
  | succ P ih =>
    rw [Nat.succ_mul, sumN_split, ih]
    show _ = sumN P (fun i => sumN W (fun k => f i k)) + sumN W (fun k => f P k)
    congr 1
    refine sumN_congr fun k hk => ?_
    have h1 : (P * W + k) / W = P := by
      rw [Nat.add_comm, Nat.add_mul_div_right _ _ (by omega), Nat.div_eq_of_lt hk, Nat.zero_add]
    have h2 : (P * W + k) % W = k := by rw [Nat.add_comm, Nat.add_mul_mod_self_right, Nat.mod_eq_of_lt hk]
    rw [h1, h2]
/-- The numbers below M that are let in, in order; the rank of a number. -/
def pairsL (g : Nat → Bool) (M : Nat) : List Nat := (List.range M).filter g
def rank (g : Nat → Bool) (b : Nat) : Nat := (pairsL g b).length
theorem pairsL_succ (g : Nat → Bool) (M : Nat) : pairsL g (M + 1) = pairsL g M ++ (if g M then [M] else []) := by
  unfold pairsL
  rw [List.range_succ, List.filter_append]
  congr 1
  cases h : g M with
  | true => simp [h]
  | false => simp [h]
theorem rank_succ (g : Nat → Bool) (M : Nat) : rank g (M + 1) = rank g M + (if g M then 1 else 0) := by
  unfold rank
  rw [pairsL_succ, List.length_append]
  cases g M <;> simp
theorem rank_mono (g : Nat → Bool) {a b : Nat} (h : a ≤ b) : rank g a ≤ rank g b := by
  induction b with
  | zero => rw [Nat.le_zero.1 h]; exact Nat.le_refl _
  | succ b ih =>
    by_cases e : a = b + 1
    · rw [e]; exact Nat.le_refl _
    · rw [rank_succ]; have := ih (by omega); omega
theorem rank_lt (g : Nat → Bool) {a b : Nat} (h : a < b) (ha : g a = true) : rank g a < rank g b := by
  have h1 := rank_mono g (show a + 1 ≤ b from h)
  rw [rank_succ, ha] at h1
  simp at h1; omega
theorem rank_le (g : Nat → Bool) (b : Nat) : rank g b ≤ b := by
  have := List.length_filter_le g (List.range b)
  rw [List.length_range] at this; exact this
theorem pairsL_rank (g : Nat → Bool) {b : Nat} (hb : g b = true) : ∀ {M : Nat}, b < M → (pairsL g M)[rank g b]? = some b
  | 0, h => absurd h (Nat.not_lt_zero _)
  | M + 1, h => by
    rw [pairsL_succ]
    by_cases e : b = M
    · subst e
      show (pairsL g b ++ if g b = true then [b] else [])[(pairsL g b).length]? = some b
      rw [List.getElem?_append_right (Nat.le_refl _), hb, Nat.sub_self]; rfl
    · have h1 := pairsL_rank g hb (M := M) (by omega)
      rw [List.getElem?_append_left (List.getElem?_eq_some_iff.1 h1).1]
      exact h1
theorem pairsL_mem {g : Nat → Bool} {M j b : Nat} (h : (pairsL g M)[j]? = some b) : b < M ∧ g b = true := by
  have := List.mem_filter.1 (List.mem_of_getElem? h)
  exact ⟨List.mem_range.1 this.1, this.2⟩
theorem pairsL_at {g : Nat → Bool} {M j b : Nat} (h : (pairsL g M)[j]? = some b) : j = rank g b := by
  obtain ⟨h1, h2⟩ := pairsL_mem h
  have h3 := pairsL_rank g h2 h1
  have nd : (pairsL g M).Nodup := (List.nodup_range).filter _
  obtain ⟨l1, e1⟩ := List.getElem?_eq_some_iff.1 h
  obtain ⟨l2, e2⟩ := List.getElem?_eq_some_iff.1 h3
  exact (List.getElem_inj nd).1 (e1.trans e2.symm)
theorem sumN_pairs (g : Nat → Bool) (h : Nat → Int) : ∀ M : Nat, sumN (pairsL g M).length (fun j => h ((pairsL g M).getD j 0)) = sumN M (fun b => if g b then h b else 0)
  | 0 => rfl
  | M + 1 => by
    show _ = sumN M (fun b => if g b then h b else 0) + (if g M then h M else 0)
    rw [← sumN_pairs g h M, pairsL_succ, List.length_append]
    cases hg : g M with
    | false => simp
    | true =>
      simp only [if_true, List.length_singleton]
      show sumN (pairsL g M).length _ + _ = _
      congr 1
      · refine sumN_congr fun j hj => ?_
        simp only [List.getD_eq_getElem?_getD, List.getElem?_append_left hj]
      · simp only [List.getD_eq_getElem?_getD, List.getElem?_append_right (Nat.le_refl _), Nat.sub_self]; rfl
namespace Ord
variable (o : Ord)
def g (b : Nat) : Bool := o.suit (b / o.W) (b % o.W)
def s : Nat := rank o.g (o.P * o.W)
def pr (j : Nat) : Nat := (pairsL o.g (o.P * o.W)).getD j 0
def mA : Nat := o.s + o.P + o.W + 1
def mB : Nat := o.P * o.W + o.P + o.W
def nA : Nat := o.P + o.W + 2
/-- The program's network. -/
def arcA (j : Nat) : Ar :=
  if j < o.s then ⟨(1 + o.pr j / o.W : Nat), (1 + o.P + o.pr j % o.W : Nat), 4096, o.cost (o.pr j / o.W) (o.pr j % o.W)⟩
  else if j < o.s + o.P then ⟨0, (1 + (j - o.s) : Nat), o.b (j - o.s), 0⟩
  else if j < o.s + o.P + o.W then ⟨(1 + o.P + (j - o.s - o.P) : Nat), (1 + o.P + o.W : Nat), o.c (j - o.s - o.P), 0⟩
  else ⟨(1 + o.P + o.W : Nat), 0, 49152, -1048576⟩
/-- The reference's network. -/
def arcB (j : Nat) : Ar :=
  if j < o.P * o.W then ⟨(j / o.W : Nat), (o.P + j % o.W : Nat), if o.g j then min (o.b (j / o.W)) (o.c (j % o.W)) else 0, if o.g j then o.cost (j / o.W) (j % o.W) else 0⟩
  else if j < o.P * o.W + o.P then ⟨(o.P + o.W : Nat), (j - o.P * o.W : Nat), o.b (j - o.P * o.W), 0⟩
  else ⟨(o.P + (j - o.P * o.W - o.P) : Nat), (o.P + o.W + 1 : Nat), o.c (j - o.P * o.W - o.P), 0⟩
/-- The plan that amounts of the program's network tell. -/
def plan (x : Nat → Int) : Plan := fun i k => if o.suit i k then x (rank o.g (i * o.W + k)) else 0
/-- What the arcs of the reference's network carry for a plan. -/
def lift (X : Plan) (j : Nat) : Int := if j < o.P * o.W then X (j / o.W) (j % o.W) else if j < o.P * o.W + o.P then o.row X (j - o.P * o.W) else o.col X (j - o.P * o.W - o.P)
/-- What the arcs of the program's network carry for a plan. -/
def down (X : Plan) (j : Nat) : Int := if j < o.s then X (o.pr j / o.W) (o.pr j % o.W) else if j < o.s + o.P then o.row X (j - o.s) else if j < o.s + o.P + o.W then o.col X (j - o.s - o.P) else o.tot X
variable {o}
theorem pr_at {j : Nat} (h : j < o.s) : (pairsL o.g (o.P * o.W))[j]? = some (o.pr j) := by
  unfold pr
  rw [List.getD_eq_getElem?_getD, List.getElem?_eq_getElem (show j < (pairsL o.g (o.P * o.W)).length from h)]; rfl
theorem pr_ok {j : Nat} (h : j < o.s) : o.pr j < o.P * o.W ∧ o.g (o.pr j) = true ∧ rank o.g (o.pr j) = j :=
  ⟨(pairsL_mem (pr_at h)).1, (pairsL_mem (pr_at h)).2, (pairsL_at (pr_at h)).symm⟩
theorem pr_rank {b : Nat} (h : b < o.P * o.W) (hg : o.g b = true) : rank o.g b < o.s ∧ o.pr (rank o.g b) = b := by
  have h1 := pairsL_rank o.g hg h
  refine ⟨(List.getElem?_eq_some_iff.1 h1).1, ?_⟩
  unfold pr
  rw [List.getD_eq_getElem?_getD, h1]; rfl
theorem at_grid {P W i k : Nat} (hi : i < P) (hk : k < W) : i * W + k < P * W ∧ (i * W + k) / W = i ∧ (i * W + k) % W = k := by
  refine ⟨?_, ?_, ?_⟩
  · have : (i + 1) * W ≤ P * W := Nat.mul_le_mul_right _ hi
    rw [Nat.succ_mul] at this; omega
  · rw [Nat.add_comm, Nat.add_mul_div_right _ _ (by omega), Nat.div_eq_of_lt hk, Nat.zero_add]
  · rw [Nat.add_comm, Nat.add_mul_mod_self_right, Nat.mod_eq_of_lt hk]
theorem of_grid {P W b : Nat} (h : b < P * W) : b / W < P ∧ b % W < W ∧ b / W * W + b % W = b := by
  have hw : 0 < W := by
    rcases Nat.eq_zero_or_pos W with e | e
    · rw [e] at h; simp at h
    · exact e
  exact ⟨Nat.div_lt_of_lt_mul (by rw [Nat.mul_comm]; exact h), Nat.mod_lt _ hw, by have := Nat.div_add_mod b W; rw [Nat.mul_comm] at this; exact this⟩
/-- A sum over the arcs of the program's network. -/
theorem sumA (f : Nat → Int) : sumN o.mA f = sumN o.s f + sumN o.P (fun i => f (o.s + i)) + sumN o.W (fun k => f (o.s + o.P + k)) + f (o.s + o.P + o.W) := by
  show sumN (o.s + o.P + o.W) f + f (o.s + o.P + o.W) = _
  rw [sumN_split, sumN_split]
theorem sumA_pairs (h : Nat → Int) : sumN o.s (fun j => h (o.pr j)) = sumN o.P (fun i => sumN o.W (fun k => if o.suit i k then h (i * o.W + k) else 0)) := by
  rw [show sumN o.s (fun j => h (o.pr j)) = sumN (o.P * o.W) (fun b => if o.g b then h b else 0) from sumN_pairs o.g h (o.P * o.W),
    ← sumN_grid o.P o.W (fun i k => if o.suit i k then h (i * o.W + k) else 0)]
  refine sumN_congr fun b hb => ?_
  obtain ⟨_, _, e⟩ := of_grid hb
  show (if o.g b then h b else 0) = if o.g b then h (b / o.W * o.W + b % o.W) else 0
  rw [e]
end Ord
end Go.Proofs.Ytpbndcmmclkdpaa
namespace Go.Proofs.Ytpbndcmmclkdpaa
open PFlowSolves
namespace Ord
variable {o : Ord}
theorem arcA_pair {j : Nat} (h : j < o.s) : o.arcA j = ⟨(1 + o.pr j / o.W : Nat), (1 + o.P + o.pr j % o.W : Nat), 4096, o.cost (o.pr j / o.W) (o.pr j % o.W)⟩ := if_pos h
theorem arcA_src {i : Nat} (h : i < o.P) : o.arcA (o.s + i) = ⟨0, (1 + i : Nat), o.b i, 0⟩ := by
  unfold arcA
  rw [if_neg (by omega), if_pos (by omega), show o.s + i - o.s = i by omega]
theorem arcA_snk {k : Nat} (h : k < o.W) : o.arcA (o.s + o.P + k) = ⟨(1 + o.P + k : Nat), (1 + o.P + o.W : Nat), o.c k, 0⟩ := by
  unfold arcA
  rw [if_neg (by omega), if_neg (by omega), if_pos (by omega), show o.s + o.P + k - o.s - o.P = k by omega]
theorem arcA_back : o.arcA (o.s + o.P + o.W) = ⟨(1 + o.P + o.W : Nat), 0, 49152, -1048576⟩ := by
  unfold arcA
  rw [if_neg (by omega), if_neg (by omega), if_neg (by omega)]
theorem ne_z (a : Nat) : ¬ ((1 + a : Nat) : Int) = 0 := by omega
theorem ne_z2 (a b : Nat) : ¬ ((1 + a + b : Nat) : Int) = 0 := by omega
theorem plan_at {x : Nat → Int} {i k : Nat} : o.plan x i k = if o.suit i k then x (rank o.g (i * o.W + k)) else 0 := rfl
theorem sumN_pick1 {n j : Nat} (hj : j < n) (f : Nat → Int) : sumN n (fun i => if i = j then f i else 0) = f j := by
  rw [← sumN_single hj (f j)]
  exact sumN_congr fun i _ => by
    by_cases e : i = j
    · rw [if_pos e, if_pos e, e]
    · rw [if_neg e, if_neg e]
/-- A sum over the pairs that asks for one parcel, and for one want. -/
theorem pairs_row (x : Nat → Int) {i : Nat} (hi : i < o.P) : sumN o.s (fun j => if o.pr j / o.W = i then x j else 0) = o.row (o.plan x) i := by
  have e : sumN o.s (fun j => if o.pr j / o.W = i then x j else 0) = sumN o.s (fun j => (fun b => if b / o.W = i then x (rank o.g b) else 0) (o.pr j)) := sumN_congr fun j hj => by
    simp only [(pr_ok hj).2.2]
  rw [e]
  refine (sumA_pairs (fun b => if b / o.W = i then x (rank o.g b) else 0)).trans ?_
  have e2 : sumN o.P (fun i' => sumN o.W (fun k => if o.suit i' k then (fun b => if b / o.W = i then x (rank o.g b) else 0) (i' * o.W + k) else 0)) = sumN o.P (fun i' => if i' = i then o.row (o.plan x) i' else 0) := sumN_congr fun i' hi' => by
    by_cases e : i' = i
    · rw [if_pos e]
      refine sumN_congr fun k hk => ?_
      have hd := (at_grid hi' hk).2.1
      rw [e] at hd ⊢
      simp only [hd, if_true, plan_at]
    · rw [if_neg e]
      refine sumN_zero fun k hk => ?_
      simp only [(at_grid hi' hk).2.1, e, if_false, ite_self]
  rw [e2, sumN_pick1 hi]
theorem pairs_col (x : Nat → Int) {k : Nat} (hk : k < o.W) : sumN o.s (fun j => if o.pr j % o.W = k then x j else 0) = o.col (o.plan x) k := by
  have e : sumN o.s (fun j => if o.pr j % o.W = k then x j else 0) = sumN o.s (fun j => (fun b => if b % o.W = k then x (rank o.g b) else 0) (o.pr j)) := sumN_congr fun j hj => by
    simp only [(pr_ok hj).2.2]
  rw [e]
  refine (sumA_pairs (fun b => if b % o.W = k then x (rank o.g b) else 0)).trans (sumN_congr fun i hi => ?_)
  have e2 : sumN o.W (fun k' => if o.suit i k' then (fun b => if b % o.W = k then x (rank o.g b) else 0) (i * o.W + k') else 0) = sumN o.W (fun k' => if k' = k then o.plan x i k' else 0) := sumN_congr fun k' hk' => by
    simp only [(at_grid hi hk').2.2, plan_at]
    by_cases e : k' = k
    · simp only [e, if_true]
    · simp only [e, if_false, ite_self]
  rw [e2, sumN_pick1 hk]
theorem bal_parcel (x : Nat → Int) {i : Nat} (hi : i < o.P) : balF o.mA o.arcA x ((1 + i : Nat) : Int) = o.row (o.plan x) i - x (o.s + i) := by
  unfold balF
  rw [sumA]
  have e1 : sumN o.s (fun j => (if (o.arcA j).f0 = ((1 + i : Nat) : Int) then x j else 0) - (if (o.arcA j).f1 = ((1 + i : Nat) : Int) then x j else 0)) = o.row (o.plan x) i := by
    rw [← pairs_row x hi]
    refine sumN_congr fun j hj => ?_
    rw [arcA_pair hj]
    have g1 : (((1 + o.pr j / o.W : Nat) : Int) = ((1 + i : Nat) : Int)) = (o.pr j / o.W = i) := by apply propext; omega
    have g2 : ¬ (((1 + o.P + o.pr j % o.W : Nat) : Int) = ((1 + i : Nat) : Int)) := by omega
    simp only [g1, if_neg g2, Int.sub_zero]
  have e2 : sumN o.P (fun i' => (if (o.arcA (o.s + i')).f0 = ((1 + i : Nat) : Int) then x (o.s + i') else 0) - (if (o.arcA (o.s + i')).f1 = ((1 + i : Nat) : Int) then x (o.s + i') else 0)) = - x (o.s + i) := by
    rw [show - x (o.s + i) = sumN o.P (fun i' => if i' = i then - x (o.s + i') else 0) from (sumN_pick1 hi (fun i' => - x (o.s + i'))).symm]
    refine sumN_congr fun i' hi' => ?_
    rw [arcA_src hi']
    have g1 : ¬ ((0 : Int) = ((1 + i : Nat) : Int)) := by omega
    have g2 : (((1 + i' : Nat) : Int) = ((1 + i : Nat) : Int)) = (i' = i) := by apply propext; omega
    simp only [if_neg g1, g2]
    by_cases e : i' = i
    · rw [if_pos e, if_pos e]; omega
    · rw [if_neg e, if_neg e]; rfl
  have e3 : sumN o.W (fun k => (if (o.arcA (o.s + o.P + k)).f0 = ((1 + i : Nat) : Int) then x (o.s + o.P + k) else 0) - (if (o.arcA (o.s + o.P + k)).f1 = ((1 + i : Nat) : Int) then x (o.s + o.P + k) else 0)) = 0 := sumN_zero fun k hk => by
    rw [arcA_snk hk, if_neg (show ¬ ((1 + o.P + k : Nat) : Int) = ((1 + i : Nat) : Int) by omega), if_neg (show ¬ ((1 + o.P + o.W : Nat) : Int) = ((1 + i : Nat) : Int) by omega)]; rfl
  rw [e1, e2, e3, arcA_back, if_neg (show ¬ ((1 + o.P + o.W : Nat) : Int) = ((1 + i : Nat) : Int) by omega), if_neg (show ¬ (0 : Int) = ((1 + i : Nat) : Int) by omega)]
  omega
theorem bal_want (x : Nat → Int) {k : Nat} (hk : k < o.W) : balF o.mA o.arcA x ((1 + o.P + k : Nat) : Int) = x (o.s + o.P + k) - o.col (o.plan x) k := by
  unfold balF
  rw [sumA]
  have e1 : sumN o.s (fun j => (if (o.arcA j).f0 = ((1 + o.P + k : Nat) : Int) then x j else 0) - (if (o.arcA j).f1 = ((1 + o.P + k : Nat) : Int) then x j else 0)) = - o.col (o.plan x) k := by
    rw [← pairs_col x hk, show - sumN o.s (fun j => if o.pr j % o.W = k then x j else 0) = sumN o.s (fun j => 0 - (if o.pr j % o.W = k then x j else 0)) by rw [sumN_sub, sumN_zero (f := fun _ => (0 : Int)) (fun _ _ => rfl)]; omega]
    refine sumN_congr fun j hj => ?_
    rw [arcA_pair hj]
    have hlt := (of_grid (pr_ok hj).1).1
    have g1 : ¬ (((1 + o.pr j / o.W : Nat) : Int) = ((1 + o.P + k : Nat) : Int)) := by omega
    have g2 : (((1 + o.P + o.pr j % o.W : Nat) : Int) = ((1 + o.P + k : Nat) : Int)) = (o.pr j % o.W = k) := by apply propext; omega
    simp only [if_neg g1, g2]
  have e2 : sumN o.P (fun i' => (if (o.arcA (o.s + i')).f0 = ((1 + o.P + k : Nat) : Int) then x (o.s + i') else 0) - (if (o.arcA (o.s + i')).f1 = ((1 + o.P + k : Nat) : Int) then x (o.s + i') else 0)) = 0 := sumN_zero fun i' hi' => by
    rw [arcA_src hi', if_neg (show ¬ (0 : Int) = ((1 + o.P + k : Nat) : Int) by omega), if_neg (show ¬ ((1 + i' : Nat) : Int) = ((1 + o.P + k : Nat) : Int) by omega)]; rfl
  have e3 : sumN o.W (fun k' => (if (o.arcA (o.s + o.P + k')).f0 = ((1 + o.P + k : Nat) : Int) then x (o.s + o.P + k') else 0) - (if (o.arcA (o.s + o.P + k')).f1 = ((1 + o.P + k : Nat) : Int) then x (o.s + o.P + k') else 0)) = x (o.s + o.P + k) := by
    rw [← sumN_pick1 hk (fun k' => x (o.s + o.P + k'))]
    refine sumN_congr fun k' hk' => ?_
    rw [arcA_snk hk']
    have g1 : (((1 + o.P + k' : Nat) : Int) = ((1 + o.P + k : Nat) : Int)) = (k' = k) := by apply propext; omega
    have g2 : ¬ (((1 + o.P + o.W : Nat) : Int) = ((1 + o.P + k : Nat) : Int)) := by omega
    simp only [g1, if_neg g2, Int.sub_zero]
  rw [e1, e2, e3, arcA_back, if_neg (show ¬ ((1 + o.P + o.W : Nat) : Int) = ((1 + o.P + k : Nat) : Int) by omega), if_neg (show ¬ (0 : Int) = ((1 + o.P + k : Nat) : Int) by omega)]
  omega
theorem bal_first (x : Nat → Int) : balF o.mA o.arcA x 0 = sumN o.P (fun i => x (o.s + i)) - x (o.s + o.P + o.W) := by
  unfold balF
  rw [sumA]
  have e1 : sumN o.s (fun j => (if (o.arcA j).f0 = 0 then x j else 0) - (if (o.arcA j).f1 = 0 then x j else 0)) = 0 := sumN_zero fun j hj => by
    rw [arcA_pair hj, if_neg (ne_z (o.pr j / o.W)), if_neg (ne_z2 o.P (o.pr j % o.W))]; rfl
  have e2 : sumN o.P (fun i' => (if (o.arcA (o.s + i')).f0 = 0 then x (o.s + i') else 0) - (if (o.arcA (o.s + i')).f1 = 0 then x (o.s + i') else 0)) = sumN o.P (fun i => x (o.s + i)) := sumN_congr fun i' hi' => by
    rw [arcA_src hi', if_pos rfl, if_neg (show ¬ ((1 + i' : Nat) : Int) = 0 by omega)]; omega
  have e3 : sumN o.W (fun k' => (if (o.arcA (o.s + o.P + k')).f0 = 0 then x (o.s + o.P + k') else 0) - (if (o.arcA (o.s + o.P + k')).f1 = 0 then x (o.s + o.P + k') else 0)) = 0 := sumN_zero fun k' hk' => by
    rw [arcA_snk hk', if_neg (show ¬ ((1 + o.P + k' : Nat) : Int) = 0 by omega), if_neg (show ¬ ((1 + o.P + o.W : Nat) : Int) = 0 by omega)]; rfl
  rw [e1, e2, e3, arcA_back, if_neg (show ¬ ((1 + o.P + o.W : Nat) : Int) = 0 by omega), if_pos rfl]
  omega
theorem bal_last (x : Nat → Int) : balF o.mA o.arcA x ((1 + o.P + o.W : Nat) : Int) = x (o.s + o.P + o.W) - sumN o.W (fun k => x (o.s + o.P + k)) := by
  unfold balF
  rw [sumA]
  have e1 : sumN o.s (fun j => (if (o.arcA j).f0 = ((1 + o.P + o.W : Nat) : Int) then x j else 0) - (if (o.arcA j).f1 = ((1 + o.P + o.W : Nat) : Int) then x j else 0)) = 0 := sumN_zero fun j hj => by
    obtain ⟨h1, h2, _⟩ := of_grid (pr_ok hj).1
    rw [arcA_pair hj, if_neg (show ¬ ((1 + o.pr j / o.W : Nat) : Int) = ((1 + o.P + o.W : Nat) : Int) by omega), if_neg (show ¬ ((1 + o.P + o.pr j % o.W : Nat) : Int) = ((1 + o.P + o.W : Nat) : Int) by omega)]; rfl
  have e2 : sumN o.P (fun i' => (if (o.arcA (o.s + i')).f0 = ((1 + o.P + o.W : Nat) : Int) then x (o.s + i') else 0) - (if (o.arcA (o.s + i')).f1 = ((1 + o.P + o.W : Nat) : Int) then x (o.s + i') else 0)) = 0 := sumN_zero fun i' hi' => by
    rw [arcA_src hi', if_neg (show ¬ (0 : Int) = ((1 + o.P + o.W : Nat) : Int) by omega), if_neg (show ¬ ((1 + i' : Nat) : Int) = ((1 + o.P + o.W : Nat) : Int) by omega)]; rfl
  have e3 : sumN o.W (fun k' => (if (o.arcA (o.s + o.P + k')).f0 = ((1 + o.P + o.W : Nat) : Int) then x (o.s + o.P + k') else 0) - (if (o.arcA (o.s + o.P + k')).f1 = ((1 + o.P + o.W : Nat) : Int) then x (o.s + o.P + k') else 0)) = - sumN o.W (fun k => x (o.s + o.P + k)) := by
    rw [show - sumN o.W (fun k => x (o.s + o.P + k)) = sumN o.W (fun k => 0 - x (o.s + o.P + k)) by rw [sumN_sub, sumN_zero (f := fun _ => (0 : Int)) (fun _ _ => rfl)]; omega]
    refine sumN_congr fun k' hk' => ?_
    rw [arcA_snk hk', if_neg (show ¬ ((1 + o.P + k' : Nat) : Int) = ((1 + o.P + o.W : Nat) : Int) by omega), if_pos rfl]
  rw [e1, e2, e3, arcA_back, if_pos rfl, if_neg (show ¬ (0 : Int) = ((1 + o.P + o.W : Nat) : Int) by omega)]
  omega
theorem cost_down (x : Nat → Int) : costF o.mA o.arcA x = o.sum (o.plan x) - 1048576 * x (o.s + o.P + o.W) := by
  unfold costF
  rw [sumA]
  have e1 : sumN o.s (fun j => (o.arcA j).f3 * x j) = o.sum (o.plan x) := by
    have e : sumN o.s (fun j => (o.arcA j).f3 * x j) = sumN o.s (fun j => (fun b => o.cost (b / o.W) (b % o.W) * x (rank o.g b)) (o.pr j)) := sumN_congr fun j hj => by
      rw [arcA_pair hj]; simp only [(pr_ok hj).2.2]
    rw [e]
    refine (sumA_pairs (fun b => o.cost (b / o.W) (b % o.W) * x (rank o.g b))).trans (sumN_congr fun i hi => sumN_congr fun k hk => ?_)
    simp only [(at_grid hi hk).2.1, (at_grid hi hk).2.2, plan_at]
    split <;> simp
  have e2 : sumN o.P (fun i => (o.arcA (o.s + i)).f3 * x (o.s + i)) = 0 := sumN_zero fun i hi => by rw [arcA_src hi]; simp
  have e3 : sumN o.W (fun k => (o.arcA (o.s + o.P + k)).f3 * x (o.s + o.P + k)) = 0 := sumN_zero fun k hk => by rw [arcA_snk hk]; simp
  rw [e1, e2, e3, arcA_back]
  simp only []
  omega
/-- Amounts that go round. -/
structure Round (o : Ord) (x : Nat → Int) : Prop where
  valid : Valid o.mA o.arcA x
  bal : ∀ v : Nat, v < o.nA → balF o.mA o.arcA x v = 0
theorem Round.row {x : Nat → Int} (h : o.Round x) {i : Nat} (hi : i < o.P) : o.row (o.plan x) i = x (o.s + i) := by
  have := h.bal (1 + i) (by unfold nA; omega)
  rw [bal_parcel x hi] at this; omega
theorem Round.col {x : Nat → Int} (h : o.Round x) {k : Nat} (hk : k < o.W) : o.col (o.plan x) k = x (o.s + o.P + k) := by
  have := h.bal (1 + o.P + k) (by unfold nA; omega)
  rw [bal_want x hk] at this; omega
theorem Round.tot {x : Nat → Int} (h : o.Round x) : o.tot (o.plan x) = x (o.s + o.P + o.W) := by
  have := h.bal 0 (by unfold nA; omega)
  rw [show ((0 : Nat) : Int) = 0 from rfl, bal_first] at this
  unfold Ord.tot
  rw [sumN_congr fun i hi => h.row hi]; omega
theorem Round.adm {x : Nat → Int} (h : o.Round x) : o.Adm (o.plan x) where
  nn i k hi hk := by
    rw [plan_at]
    by_cases hs : o.suit i k = true
    · rw [if_pos hs]
      have hg : o.g (i * o.W + k) = true := by unfold g; rw [(at_grid hi hk).2.1, (at_grid hi hk).2.2]; exact hs
      have := (pr_rank (at_grid hi hk).1 hg).1
      exact (h.valid _ (by unfold mA; omega)).1
    · rw [if_neg hs]; exact Int.le_refl _
  un i k _ _ hs := by rw [plan_at, hs]; rfl
  row i hi := by rw [h.row hi]; have := (h.valid (o.s + i) (by unfold mA; omega)).2; rw [arcA_src hi] at this; exact this
  col k hk := by rw [h.col hk]; have := (h.valid (o.s + o.P + k) (by unfold mA; omega)).2; rw [arcA_snk hk] at this; exact this
theorem Round.pot {x : Nat → Int} (h : o.Round x) {p : Int → Int} (hp : Feas o.mA o.arcA x p) : o.Pot (o.plan x) (fun i => p ((1 + i : Nat) : Int)) (fun k => p ((1 + o.P + k : Nat) : Int)) (p 0) (p ((1 + o.P + o.W : Nat) : Int)) where
  on i k hi hk hs hx := by
    have hg : o.g (i * o.W + k) = true := by unfold g; rw [(at_grid hi hk).2.1, (at_grid hi hk).2.2]; exact hs
    obtain ⟨h1, h2⟩ := pr_rank (at_grid hi hk).1 hg
    rw [plan_at, if_pos hs] at hx
    have := hp.on (i := rank o.g (i * o.W + k)) (by unfold mA; omega) (by rw [arcA_pair h1]; exact hx)
    unfold rc at this
    rw [arcA_pair h1, h2, (at_grid hi hk).2.1, (at_grid hi hk).2.2] at this
    simp only at this ⊢; omega
  off i k hi hk hs hx := by
    have hg : o.g (i * o.W + k) = true := by unfold g; rw [(at_grid hi hk).2.1, (at_grid hi hk).2.2]; exact hs
    obtain ⟨h1, h2⟩ := pr_rank (at_grid hi hk).1 hg
    rw [plan_at, if_pos hs] at hx
    have := hp.off (i := rank o.g (i * o.W + k)) (by unfold mA; omega) hx
    unfold rc at this
    rw [arcA_pair h1, h2, (at_grid hi hk).2.1, (at_grid hi hk).2.2] at this
    simp only at this ⊢; omega
  src i hi hx := by
    rw [h.row hi] at hx
    have := hp.on (i := o.s + i) (by unfold mA; omega) (by rw [arcA_src hi]; exact hx)
    unfold rc at this
    rw [arcA_src hi] at this
    simp only at this ⊢; omega
  snk k hk hx := by
    rw [h.col hk] at hx
    have := hp.on (i := o.s + o.P + k) (by unfold mA; omega) (by rw [arcA_snk hk]; exact hx)
    unfold rc at this
    rw [arcA_snk hk] at this
    simp only at this ⊢; omega
  back hx := by
    rw [h.tot] at hx
    have := hp.on (i := o.s + o.P + o.W) (by unfold mA; omega) (by rw [arcA_back]; exact hx)
    unfold rc at this
    rw [arcA_back] at this
    simp only at this; omega
end Ord
end Go.Proofs.Ytpbndcmmclkdpaa
namespace Go.Proofs.Ytpbndcmmclkdpaa
open PFlowSolves
theorem Rch.imp {A : Nat → Ar} {P Q : Stp → Prop} (h : ∀ s, P s → Q s) {a b : Int} (hr : Rch A P a b) : Rch A Q a b := by
  induction hr with
  | refl => exact .refl _
  | step _ hp ih => exact .step ih (h _ hp)
/-- Nothing that the reference's Best looks for is there. -/
def BestOk (m : Nat) (A : Nat → Ar) (x : Nat → Int) (first : Int) : Prop :=
  (∃ q, Feas m A x q) ∧ ∀ p', Feas m A x p' → ∀ i, i < m → (i : Int) < first → x i < (A i).f2 → p' (A i).f0 + (A i).f3 = p' (A i).f1 → ¬ Rch A (fun s => Res m A x s ∧ (i : Int) < s.f0 ∧ p' (frm A s) + cst A s = p' (tow A s)) (A i).f1 (A i).f0
namespace Ord
variable {o : Ord} {X X' : Plan} {x : Nat → Int}
theorem row_congr (h : ∀ i k, i < o.P → k < o.W → X i k = X' i k) {i : Nat} (hi : i < o.P) : o.row X i = o.row X' i := sumN_congr fun k hk => h i k hi hk
theorem col_congr (h : ∀ i k, i < o.P → k < o.W → X i k = X' i k) {k : Nat} (hk : k < o.W) : o.col X k = o.col X' k := sumN_congr fun i hi => h i k hi hk
theorem tot_congr (h : ∀ i k, i < o.P → k < o.W → X i k = X' i k) : o.tot X = o.tot X' := sumN_congr fun _ hi => row_congr h hi
theorem sum_congr (h : ∀ i k, i < o.P → k < o.W → X i k = X' i k) : o.sum X = o.sum X' := sumN_congr fun i hi => sumN_congr fun k hk => by rw [h i k hi hk]
theorem g_at {i k : Nat} (hi : i < o.P) (hk : k < o.W) : o.g (i * o.W + k) = o.suit i k := by unfold g; rw [(at_grid hi hk).2.1, (at_grid hi hk).2.2]
theorem down_pair {j : Nat} (h : j < o.s) : o.down X j = X (o.pr j / o.W) (o.pr j % o.W) := if_pos h
theorem down_src {i : Nat} (h : i < o.P) : o.down X (o.s + i) = o.row X i := by
  unfold down; rw [if_neg (by omega), if_pos (by omega), show o.s + i - o.s = i by omega]
theorem down_snk {k : Nat} (h : k < o.W) : o.down X (o.s + o.P + k) = o.col X k := by
  unfold down; rw [if_neg (by omega), if_neg (by omega), if_pos (by omega), show o.s + o.P + k - o.s - o.P = k by omega]
theorem down_back : o.down X (o.s + o.P + o.W) = o.tot X := by
  unfold down; rw [if_neg (by omega), if_neg (by omega), if_neg (by omega)]
theorem plan_down (h : o.Adm X) : ∀ i k, i < o.P → k < o.W → o.plan (o.down X) i k = X i k := fun i k hi hk => by
  rw [plan_at]
  cases hs : o.suit i k with
  | false => rw [h.un i k hi hk hs]; rfl
  | true =>
    obtain ⟨h1, h2⟩ := pr_rank (at_grid hi hk).1 ((g_at hi hk).trans hs)
    rw [if_pos rfl, down_pair h1, h2, (at_grid hi hk).2.1, (at_grid hi hk).2.2]
theorem Adm.tot_le (h : o.Adm X) (ho : o.Ok) : 0 ≤ o.tot X ∧ o.tot X ≤ 49152 := by
  refine ⟨sumN_nonneg fun i hi => sumN_nonneg fun k hk => h.nn i k hi hk, ?_⟩
  have h1 : o.tot X ≤ sumN o.P (fun _ => (4096 : Int)) := sumN_le fun i hi => by have := h.row i hi; have := ho.b1 i hi; omega
  have h2 : ∀ n : Nat, sumN n (fun _ => (4096 : Int)) = n * 4096 := fun n => by
    induction n with
    | zero => rfl
    | succ n ih => show sumN n _ + 4096 = _; rw [ih]; omega
  have := h2 o.P
  have := ho.p1
  omega
theorem Adm.round (h : o.Adm X) (ho : o.Ok) : o.Round (o.down X) where
  valid j hj := by
    unfold mA at hj
    by_cases h1 : j < o.s
    · obtain ⟨g1, g2, _⟩ := of_grid (pr_ok h1).1
      rw [down_pair h1, arcA_pair h1]
      have := (h.le g1 g2).1
      have := ho.b1 _ g1
      exact ⟨h.nn _ _ g1 g2, by show _ ≤ (4096 : Int); omega⟩
    · by_cases h2 : j < o.s + o.P
      · obtain ⟨i, rfl⟩ : ∃ i, j = o.s + i := ⟨j - o.s, by omega⟩
        rw [down_src (by omega), arcA_src (by omega)]
        exact ⟨sumN_nonneg fun k hk => h.nn i k (by omega) hk, h.row i (by omega)⟩
      · by_cases h3 : j < o.s + o.P + o.W
        · obtain ⟨k, rfl⟩ : ∃ k, j = o.s + o.P + k := ⟨j - o.s - o.P, by omega⟩
          rw [down_snk (by omega), arcA_snk (by omega)]
          exact ⟨sumN_nonneg fun i hi => h.nn i k hi (by omega), h.col k (by omega)⟩
        · obtain rfl : j = o.s + o.P + o.W := by omega
          rw [down_back, arcA_back]
          exact h.tot_le ho
  bal v hv := by
    unfold nA at hv
    by_cases h0 : v = 0
    · subst h0
      rw [show ((0 : Nat) : Int) = 0 from rfl, bal_first, down_back, sumN_congr (g := fun i => o.row X i) fun i hi => down_src hi]
      exact Int.sub_self _
    · by_cases h1 : v < 1 + o.P
      · obtain ⟨i, rfl⟩ : ∃ i, v = 1 + i := ⟨v - 1, by omega⟩
        rw [bal_parcel _ (show i < o.P by omega), down_src (by omega), row_congr (plan_down h) (show i < o.P by omega)]
        exact Int.sub_self _
      · by_cases h2 : v < 1 + o.P + o.W
        · obtain ⟨k, rfl⟩ : ∃ k, v = 1 + o.P + k := ⟨v - 1 - o.P, by omega⟩
          rw [bal_want _ (show k < o.W by omega), down_snk (by omega), col_congr (plan_down h) (show k < o.W by omega)]
          exact Int.sub_self _
        · obtain rfl : v = 1 + o.P + o.W := by omega
          rw [bal_last, down_back, sumN_congr (g := fun k => o.col X k) fun k hk => down_snk hk, o.tot_col]
          exact Int.sub_self _
theorem ok_A (ho : o.Ok) : NetOk o.nA o.mA o.arcA := by
  have hp := ho.p1
  have hw := ho.w1
  have hs : o.s ≤ 144 := Nat.le_trans (rank_le o.g _) (Nat.mul_le_mul hp hw)
  refine ⟨by unfold nA; omega, by unfold nA; omega, by unfold mA; omega, fun j hj => ?_, fun j hj => ?_, fun j hj => ?_⟩
  all_goals
    unfold mA at hj
    by_cases h1 : j < o.s
    · obtain ⟨g1, g2, _⟩ := of_grid (pr_ok h1).1
      rw [arcA_pair h1]
      have := ho.cost1 _ _ g1 g2
      unfold nA at *
      generalize o.pr j / o.W = a at *
      generalize o.pr j % o.W = b at *
      simp only
      omega
    · by_cases h2 : j < o.s + o.P
      · obtain ⟨i, rfl⟩ : ∃ i, j = o.s + i := ⟨j - o.s, by omega⟩
        rw [arcA_src (by omega)]
        have := ho.b1 i (by omega)
        unfold nA at *
        simp only
        omega
      · by_cases h3 : j < o.s + o.P + o.W
        · obtain ⟨k, rfl⟩ : ∃ k, j = o.s + o.P + k := ⟨j - o.s - o.P, by omega⟩
          rw [arcA_snk (by omega)]
          have := ho.c1 k (by omega)
          unfold nA at *
          simp only
          omega
        · obtain rfl : j = o.s + o.P + o.W := by omega
          rw [arcA_back]
          unfold nA at *
          simp only
          omega
theorem arcB_pair {b : Nat} (h : b < o.P * o.W) : o.arcB b = ⟨(b / o.W : Nat), (o.P + b % o.W : Nat), if o.g b then min (o.b (b / o.W)) (o.c (b % o.W)) else 0, if o.g b then o.cost (b / o.W) (b % o.W) else 0⟩ := if_pos h
theorem arcB_src {i : Nat} (h : i < o.P) : o.arcB (o.P * o.W + i) = ⟨(o.P + o.W : Nat), (i : Nat), o.b i, 0⟩ := by
  unfold arcB; rw [if_neg (by omega), if_pos (by omega), show o.P * o.W + i - o.P * o.W = i by omega]
theorem arcB_snk (k : Nat) : o.arcB (o.P * o.W + o.P + k) = ⟨(o.P + k : Nat), (o.P + o.W + 1 : Nat), o.c k, 0⟩ := by
  unfold arcB; rw [if_neg (by omega), if_neg (by omega), show o.P * o.W + o.P + k - o.P * o.W - o.P = k by omega]
theorem lift_pair {b : Nat} (h : b < o.P * o.W) : o.lift X b = X (b / o.W) (b % o.W) := if_pos h
theorem lift_src {i : Nat} (h : i < o.P) : o.lift X (o.P * o.W + i) = o.row X i := by
  unfold lift; rw [if_neg (by omega), if_pos (by omega), show o.P * o.W + i - o.P * o.W = i by omega]
theorem lift_snk (k : Nat) : o.lift X (o.P * o.W + o.P + k) = o.col X k := by
  unfold lift; rw [if_neg (by omega), if_neg (by omega), show o.P * o.W + o.P + k - o.P * o.W - o.P = k by omega]
theorem ok_B (ho : o.Ok) : NetOk o.nA o.mB o.arcB := by
  have hp := ho.p1
  have hw := ho.w1
  have hs : o.P * o.W ≤ 144 := Nat.mul_le_mul hp hw
  refine ⟨by unfold nA; omega, by unfold nA; omega, by unfold mB; omega, fun j hj => ?_, fun j hj => ?_, fun j hj => ?_⟩
  all_goals
    unfold mB at hj
    by_cases h1 : j < o.P * o.W
    · obtain ⟨g1, g2, _⟩ := of_grid h1
      rw [arcB_pair h1]
      have := ho.cost1 _ _ g1 g2
      have := ho.b1 _ g1
      have := ho.c1 _ g2
      unfold nA at *
      generalize j / o.W = a at *
      generalize j % o.W = b at *
      simp only
      cases o.g j <;> (try simp only [if_true, Bool.false_eq_true, if_false]) <;> omega
    · by_cases h2 : j < o.P * o.W + o.P
      · obtain ⟨i, rfl⟩ : ∃ i, j = o.P * o.W + i := ⟨j - o.P * o.W, by omega⟩
        rw [arcB_src (by omega)]
        have := ho.b1 i (by omega)
        unfold nA at *
        simp only
        omega
      · obtain ⟨k, rfl⟩ : ∃ k, j = o.P * o.W + o.P + k := ⟨j - o.P * o.W - o.P, by omega⟩
        rw [arcB_snk]
        have := ho.c1 k (by omega)
        unfold nA at *
        simp only
        omega
/-- No plan sends more, or as many at a lower cost. -/
theorem Round.best_plan (h : o.Round x) (ho : o.Ok) {p : Int → Int} (hp : Feas o.mA o.arcA x p) (hX : o.Adm X) : o.tot X ≤ o.tot (o.plan x) ∧ (o.tot X = o.tot (o.plan x) → o.sum (o.plan x) ≤ o.sum X) := by
  obtain ⟨S, Q, hS⟩ := (h.pot hp).shut ho h.adm
  refine ⟨hS.most h.adm hX, fun e => ?_⟩
  have h1 := opt_le (n := o.nA) (ok_A ho).net h.valid (hX.round ho).valid (fun v hv => ((hX.round ho).bal v hv).trans (h.bal v hv).symm) hp
  rw [cost_down, cost_down, down_back, ← h.tot, sum_congr (plan_down hX), e] at h1
  omega
/-- Nodes of the reference's network, and of the program's. -/
def phi (o : Ord) (v : Int) : Int := if v = (o.P + o.W : Nat) then 0 else if v = (o.P + o.W + 1 : Nat) then (1 + o.P + o.W : Nat) else v + 1
def psi (o : Ord) (v : Int) : Int := if v = 0 then (o.P + o.W : Nat) else if v = (1 + o.P + o.W : Nat) then (o.P + o.W + 1 : Nat) else v - 1
def alp (o : Ord) (b : Nat) : Nat := if b < o.P * o.W then rank o.g b else o.s + (b - o.P * o.W)
theorem phi_lo {a : Nat} (h : a < o.P + o.W) : o.phi a = (1 + a : Nat) ∧ o.psi (1 + a : Nat) = a := by
  unfold phi psi
  rw [if_neg (by omega), if_neg (by omega), if_neg (by omega), if_neg (by omega)]
  omega
theorem phi_n : o.phi (o.P + o.W : Nat) = 0 ∧ o.psi 0 = (o.P + o.W : Nat) := ⟨if_pos rfl, if_pos rfl⟩
theorem phi_n1 : o.phi (o.P + o.W + 1 : Nat) = (1 + o.P + o.W : Nat) ∧ o.psi (1 + o.P + o.W : Nat) = (o.P + o.W + 1 : Nat) := by
  unfold phi psi
  rw [if_neg (by omega), if_pos rfl, if_neg (by omega), if_pos rfl]
  exact ⟨rfl, rfl⟩
/-- An arc of the reference's network that can carry something has its like in the program's. -/
structure Like (o : Ord) (x : Nat → Int) (b : Nat) : Prop where
  lt : o.alp b < o.mA
  f0 : (o.arcA (o.alp b)).f0 = o.phi (o.arcB b).f0 ∧ o.psi (o.arcA (o.alp b)).f0 = (o.arcB b).f0
  f1 : (o.arcA (o.alp b)).f1 = o.phi (o.arcB b).f1 ∧ o.psi (o.arcA (o.alp b)).f1 = (o.arcB b).f1
  f3 : (o.arcA (o.alp b)).f3 = (o.arcB b).f3
  amt : x (o.alp b) = o.lift (o.plan x) b
  cap : (o.arcB b).f2 ≤ (o.arcA (o.alp b)).f2
  suit : b < o.P * o.W → o.g b = true
theorem Round.like (h : o.Round x) (ho : o.Ok) {b : Nat} (hb : b < o.mB) (hres : o.lift (o.plan x) b < (o.arcB b).f2 ∨ 0 < o.lift (o.plan x) b) : o.Like x b := by
  unfold mB at hb
  by_cases h1 : b < o.P * o.W
  · obtain ⟨g1, g2, g3⟩ := of_grid h1
    have hg : o.g b = true := by
      cases hg : o.g b with
      | true => rfl
      | false =>
        rw [lift_pair h1, arcB_pair h1, plan_at, show o.suit (b / o.W) (b % o.W) = false from hg, hg] at hres
        simp at hres
    obtain ⟨r1, r2⟩ := pr_rank h1 hg
    have ea : o.alp b = rank o.g b := if_pos h1
    have e1 := phi_lo (o := o) (a := b / o.W) (by omega)
    have e2 := phi_lo (o := o) (a := o.P + b % o.W) (by omega)
    have hb1 := ho.b1 _ g1
    refine ⟨?_, ?_, ?_, ?_, ?_, ?_, fun _ => hg⟩
    · rw [ea]; unfold mA; omega
    · rw [ea, arcA_pair r1, arcB_pair h1, r2]; exact ⟨e1.1.symm, e1.2⟩
    · rw [ea, arcA_pair r1, arcB_pair h1, r2]
      rw [show 1 + (o.P + b % o.W) = 1 + o.P + b % o.W by omega] at e2
      exact ⟨e2.1.symm, e2.2⟩
    · rw [ea, arcA_pair r1, arcB_pair h1, r2, hg]; rfl
    · rw [ea, lift_pair h1, plan_at, g3]; exact (if_pos (show o.suit (b / o.W) (b % o.W) = true from hg)).symm
    · rw [ea, arcA_pair r1, arcB_pair h1, hg]
      show min _ _ ≤ (4096 : Int)
      omega
  · by_cases h2 : b < o.P * o.W + o.P
    · obtain ⟨i, rfl⟩ : ∃ i, b = o.P * o.W + i := ⟨b - o.P * o.W, by omega⟩
      have hi : i < o.P := by omega
      have ea : o.alp (o.P * o.W + i) = o.s + i := by unfold alp; rw [if_neg (by omega)]; omega
      have e1 := phi_lo (o := o) (a := i) (by omega)
      refine ⟨?_, ?_, ?_, ?_, ?_, ?_, fun h => absurd h (by omega)⟩
      · rw [ea]; unfold mA; omega
      · rw [ea, arcA_src hi, arcB_src hi]; exact ⟨phi_n.1.symm, phi_n.2⟩
      · rw [ea, arcA_src hi, arcB_src hi]; exact ⟨e1.1.symm, e1.2⟩
      · rw [ea, arcA_src hi, arcB_src hi]
      · rw [ea, lift_src hi, h.row hi]
      · rw [ea, arcA_src hi, arcB_src hi]; exact Int.le_refl _
    · obtain ⟨k, rfl⟩ : ∃ k, b = o.P * o.W + o.P + k := ⟨b - o.P * o.W - o.P, by omega⟩
      have hk : k < o.W := by omega
      have ea : o.alp (o.P * o.W + o.P + k) = o.s + o.P + k := by unfold alp; rw [if_neg (by omega)]; omega
      have e1 := phi_lo (o := o) (a := o.P + k) (by omega)
      rw [show 1 + (o.P + k) = 1 + o.P + k by omega] at e1
      refine ⟨?_, ?_, ?_, ?_, ?_, ?_, fun h => absurd h (by omega)⟩
      · rw [ea]; unfold mA; omega
      · rw [ea, arcA_snk hk, arcB_snk]; exact ⟨e1.1.symm, e1.2⟩
      · rw [ea, arcA_snk hk, arcB_snk]; exact ⟨phi_n1.1.symm, phi_n1.2⟩
      · rw [ea, arcA_snk hk, arcB_snk]
      · rw [ea, lift_snk, h.col hk]
      · rw [ea, arcA_snk hk, arcB_snk]; exact Int.le_refl _
theorem Like.mono {a b : Nat} (h : o.Like x a) (hab : a < b) : o.alp a < o.alp b := by
  unfold alp
  by_cases h1 : b < o.P * o.W
  · rw [if_pos h1, if_pos (by omega)]; exact rank_lt _ hab (h.suit (by omega))
  · by_cases h2 : a < o.P * o.W
    · rw [if_pos h2, if_neg h1]
      have := (pr_rank h2 (h.suit h2)).1
      omega
    · rw [if_neg h1, if_neg h2]; omega
/-- … and so have steps. -/
theorem Round.step (h : o.Round x) (ho : o.Ok) {t : Stp} (ht : Res o.mB o.arcB (o.lift (o.plan x)) t) :
    o.Like x t.f0.toNat ∧ Res o.mA o.arcA x ⟨o.alp t.f0.toNat, t.f1⟩ ∧ frm o.arcA ⟨o.alp t.f0.toNat, t.f1⟩ = o.phi (frm o.arcB t) ∧ tow o.arcA ⟨o.alp t.f0.toNat, t.f1⟩ = o.phi (tow o.arcB t) ∧
    o.psi (frm o.arcA ⟨o.alp t.f0.toNat, t.f1⟩) = frm o.arcB t ∧ o.psi (tow o.arcA ⟨o.alp t.f0.toNat, t.f1⟩) = tow o.arcB t ∧ cst o.arcA ⟨o.alp t.f0.toNat, t.f1⟩ = cst o.arcB t := by
  obtain ⟨⟨h0, h1⟩, h2⟩ := ht
  have hl : o.Like x t.f0.toNat := h.like ho (by omega) (by
    unfold spr at h2
    cases hb : t.f1 with
    | false => rw [hb] at h2; simp at h2; exact .inl (by omega)
    | true => rw [hb] at h2; simp at h2; exact .inr h2)
  refine ⟨hl, ⟨⟨by show (0 : Int) ≤ ((o.alp t.f0.toNat : Nat) : Int); omega, by show ((o.alp t.f0.toNat : Nat) : Int) < _; have := hl.lt; omega⟩, ?_⟩, ?_, ?_, ?_, ?_, ?_⟩
  · unfold spr at h2 ⊢
    simp only [Int.toNat_natCast]
    rw [hl.amt]
    cases hb : t.f1 with
    | false => rw [hb] at h2; simp at h2 ⊢; have := hl.cap; omega
    | true => rw [hb] at h2; simp at h2 ⊢; exact h2
  all_goals
    first | unfold frm | unfold tow | unfold cst
    simp only [Int.toNat_natCast]
    cases t.f1 <;> simp only [Bool.false_eq_true, if_false, if_true] <;> first | exact hl.f0.1 | exact hl.f1.1 | exact hl.f0.2 | exact hl.f1.2 | (rw [hl.f3])
theorem Round.best (h : o.Round x) (ho : o.Ok) {p : Int → Int} (hp : Feas o.mA o.arcA x p) (hl : LexCert o.mA o.arcA x p) : BestOk o.mB o.arcB (o.lift (o.plan x)) ((o.P * o.W : Nat) : Int) := by
  refine ⟨⟨fun v => p (o.phi v), fun t ht => ?_⟩, fun p' _ b hb hbf hx htt hr => ?_⟩
  · obtain ⟨_, k1, k2, k3, _, _, k6⟩ := h.step ho ht
    have := hp _ k1
    rw [k2, k3, k6] at this
    exact this
  · have hlk := h.like ho hb (.inl hx)
    have hx2 : x (o.alp b) < (o.arcA (o.alp b)).f2 := by rw [hlk.amt]; exact Int.lt_of_lt_of_le hx hlk.cap
    refine no_round hp hl (p' := fun v => p' (o.psi v)) hlk.lt hx2 (by rw [hlk.f0.2, hlk.f1.2, hlk.f3]; exact htt) ?_
    rw [hlk.f0.1, hlk.f1.1]
    clear hx2 htt hx hbf
    generalize (o.arcB b).f1 = a at hr ⊢
    generalize (o.arcB b).f0 = c at hr ⊢
    clear hb
    induction hr with
    | refl => exact .refl _
    | @step t _ ht ih =>
      obtain ⟨t1, t2, t3⟩ := ht
      obtain ⟨k0, k1, k2, k3, k4, k5, k6⟩ := h.step ho t1
      rw [← k2] at ih
      rw [← k3]
      exact .step ih ⟨k1, by show ((o.alp b : Nat) : Int) < ((o.alp t.f0.toNat : Nat) : Int); have := hlk.mono (show b < t.f0.toNat by have := t1.1; omega); omega, by rw [k4, k5, k6]; exact t3⟩
end Ord
end Go.Proofs.Ytpbndcmmclkdpaa
