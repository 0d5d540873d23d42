/-
  The network of debts: its arcs, what is left, the sums.
-/
import Derived.Test.YtcobihdjcdefmaaQFZ
import Derived.Test.YtcobihdjcdefmaaQCb
namespace Go.Proofs.Ytcobihdjcdefmaa
open PAccountsCompress
open Go.RowKit Go.Proofs.YtcobihdjcdefmaaW.PrintWords
theorem sumN_split (a b : Nat) (f : Nat → Int) : sumN (a + b) f = sumN a f + sumN b (fun i => f (a + i)) := by
  induction b with
  | zero => show sumN a f = sumN a f + 0; omega
  | succ b ih => show sumN (a + b) f + f (a + b) = sumN a f + (sumN b (fun i => f (a + i)) + f (a + b)); rw [ih]; omega
theorem sumN_grid (P W : Nat) (f : Nat → Nat → Int) : sumN (P * W) (fun b => f (b / W) (b % W)) = sumN P (fun i => sumN W (fun k => f i k)) := by
  induction P with
  | zero => rw [Nat.zero_mul]; rfl
  | succ P ih =>
    rw [Nat.succ_mul, sumN_split, ih]
    show _ = sumN P (fun i => sumN W (fun k => f i k)) + sumN W (fun k => f P k)
    congr 1
    refine sumN_congr fun k hk => ?_
    have h1 : (P * W + k) / W = P := by
      rw [Nat.add_comm, Nat.add_mul_div_right _ _ (by omega), Nat.div_eq_of_lt hk, Nat.zero_add]
    have h2 : (P * W + k) % W = k := by rw [Nat.add_comm, Nat.add_mul_mod_self_right, Nat.mod_eq_of_lt hk]
    rw [h1, h2]
/-- The numbers below M that are let in, in order; the rank of a number. -/
def pairsL (g : Nat → Bool) (M : Nat) : List Nat := (List.range M).filter g
def rank (g : Nat → Bool) (b : Nat) : Nat := (pairsL g b).length
theorem pairsL_succ (g : Nat → Bool) (M : Nat) : pairsL g (M + 1) = pairsL g M ++ (if g M then [M] else []) := by
  unfold pairsL
  rw [List.range_succ, List.filter_append]
  congr 1
  cases h : g M with
  | true => simp [h]
  | false => simp [h]
theorem rank_le (g : Nat → Bool) (b : Nat) : rank g b ≤ b := by
  have := List.length_filter_le g (List.range b)
  rw [List.length_range] at this; exact this
theorem pairsL_rank (g : Nat → Bool) {b : Nat} (hb : g b = true) : ∀ {M : Nat}, b < M → (pairsL g M)[rank g b]? = some b
  | 0, h => absurd h (Nat.not_lt_zero _)
  | M + 1, h => by
    rw [pairsL_succ]
    by_cases e : b = M
    · subst e
      show (pairsL g b ++ if g b = true then [b] else [])[(pairsL g b).length]? = some b
      rw [List.getElem?_append_right (Nat.le_refl _), hb, Nat.sub_self]; rfl
    · have h1 := pairsL_rank g hb (M := M) (by omega)
      rw [List.getElem?_append_left (List.getElem?_eq_some_iff.1 h1).1]
      exact h1
theorem pairsL_mem {g : Nat → Bool} {M j b : Nat} (h : (pairsL g M)[j]? = some b) : b < M ∧ g b = true := by
  have := List.mem_filter.1 (List.mem_of_getElem? h)
  exact ⟨List.mem_range.1 this.1, this.2⟩
theorem pairsL_at {g : Nat → Bool} {M j b : Nat} (h : (pairsL g M)[j]? = some b) : j = rank g b := by
  obtain ⟨h1, h2⟩ := pairsL_mem h
  have h3 := pairsL_rank g h2 h1
  have nd : (pairsL g M).Nodup := (List.nodup_range).filter _
  obtain ⟨l1, e1⟩ := List.getElem?_eq_some_iff.1 h
  obtain ⟨l2, e2⟩ := List.getElem?_eq_some_iff.1 h3
  exact (List.getElem_inj nd).1 (e1.trans e2.symm)
theorem sumN_pairs (g : Nat → Bool) (h : Nat → Int) : ∀ M : Nat, sumN (pairsL g M).length (fun j => h ((pairsL g M).getD j 0)) = sumN M (fun b => if g b then h b else 0)
  | 0 => rfl
  | M + 1 => by
    show _ = sumN M (fun b => if g b then h b else 0) + (if g M then h M else 0)
    rw [← sumN_pairs g h M, pairsL_succ, List.length_append]
    cases hg : g M with
    | false => simp
    | true =>
      simp only [if_true, List.length_singleton]
      show sumN (pairsL g M).length _ + _ = _
      congr 1
      · refine sumN_congr fun j hj => ?_
        simp only [List.getD_eq_getElem?_getD, List.getElem?_append_left hj]
      · simp only [List.getD_eq_getElem?_getD, List.getElem?_append_right (Nat.le_refl _), Nat.sub_self]; rfl
theorem at_grid {P W i k : Nat} (hi : i < P) (hk : k < W) : i * W + k < P * W ∧ (i * W + k) / W = i ∧ (i * W + k) % W = k := by
  refine ⟨?_, ?_, ?_⟩
  · have : (i + 1) * W ≤ P * W := Nat.mul_le_mul_right _ hi
    rw [Nat.succ_mul] at this; omega
  · rw [Nat.add_comm, Nat.add_mul_div_right _ _ (by omega), Nat.div_eq_of_lt hk, Nat.zero_add]
  · rw [Nat.add_comm, Nat.add_mul_mod_self_right, Nat.mod_eq_of_lt hk]
theorem of_grid {P W b : Nat} (h : b < P * W) : b / W < P ∧ b % W < W ∧ b / W * W + b % W = b := by
  have hw : 0 < W := by
    rcases Nat.eq_zero_or_pos W with e | e
    · rw [e] at h; simp at h
    · exact e
  exact ⟨Nat.div_lt_of_lt_mul (by rw [Nat.mul_comm]; exact h), Nat.mod_lt _ hw, by have := Nat.div_add_mod b W; rw [Nat.mul_comm] at this; exact this⟩
theorem netE_of {n : Int} {l : List Ar} (h1 : 1 ≤ n) (h2 : n ≤ 32) (h3 : l.length ≤ 128) (h4 : ∀ a ∈ l, ¬ BadP n a) : netE n l = 0 := by
  unfold netE
  rw [if_neg (by omega), if_neg (by omega), if_neg]
  intro h
  rw [List.any_eq_true] at h
  obtain ⟨a, ha, hb⟩ := h
  exact h4 a ha (of_decide_eq_true hb)
theorem needE_of {n : Int} {l : List Ar} {xs : List Int} (h0 : netE n l = 0) (h1 : (xs.length : Int) = n) (h2 : ∀ v : Nat, v < xs.length → -140737488355328 ≤ xs.getD v 0 ∧ xs.getD v 0 ≤ 140737488355328) (h3 : sumN xs.length (fun v => xs.getD v 0) = 0) : needE n l xs = 0 := by
  unfold needE
  rw [if_neg (fun g => g h0), if_neg (fun g => g h1), if_neg, if_pos h3]
  intro h
  rw [List.any_eq_true] at h
  obtain ⟨a, ha, hb⟩ := h
  obtain ⟨i, hi⟩ := List.getElem?_of_mem ha
  have hlt := (List.getElem?_eq_some_iff.1 hi).1
  have := h2 i hlt
  rw [getD_of hi] at this
  have hb : a < -140737488355328 ∨ a > 140737488355328 := of_decide_eq_true hb
  omega
/-- The pairs of two members, by number; the arcs of the first numbers. -/
def offD (n b : Nat) : Bool := decide (b / n ≠ b % n)
def arcO (O : Mt) (b : Nat) : Ar := ⟨(b / O.length : Nat), (b % O.length : Nat), Ex O (b / O.length) (b % O.length), -1⟩
def arcsN (O : Mt) (a : Nat) : List Ar := (pairsL (offD O.length) a).map (arcO O)
abbrev LL (O : Mt) : List Ar := arcsN O (O.length * O.length)
def prO (O : Mt) (t : Nat) : Nat := (pairsL (offD O.length) (O.length * O.length)).getD t 0
theorem arcsN_len (O : Mt) (a : Nat) : (arcsN O a).length = rank (offD O.length) a := List.length_map ..
theorem LL_len (O : Mt) (hn : O.length ≤ 10) : (LL O).length ≤ 100 := by
  rw [arcsN_len]
  have h1 := rank_le (offD O.length) (O.length * O.length)
  have h2 : O.length * O.length ≤ 10 * 10 := Nat.mul_le_mul hn hn
  omega
theorem offD_at {n i j : Nat} (hi : i < n) (hj : j < n) : offD n (i * n + j) = decide (i ≠ j) := by
  unfold offD
  rw [(at_grid hi hj).2.1, (at_grid hi hj).2.2]
theorem arcsN_next {O : Mt} {i j : Nat} (hi : i < O.length) (hj : j < O.length) : arcsN O (i * O.length + j + 1) = arcsN O (i * O.length + j) ++ (if i ≠ j then [⟨i, j, Ex O i j, -1⟩] else []) := by
  unfold arcsN
  rw [pairsL_succ, List.map_append, offD_at hi hj]
  congr 1
  by_cases h : i = j
  · rw [decide_eq_false (fun g => g h), if_neg (show ¬ (false = true) by simp), if_neg (fun g : i ≠ j => g h)]; rfl
  · rw [decide_eq_true h, if_pos rfl, if_pos h]
    unfold arcO
    rw [List.map_cons, List.map_nil, (at_grid hi hj).2.1, (at_grid hi hj).2.2]
theorem pr_at {O : Mt} {t : Nat} (h : t < (LL O).length) : (pairsL (offD O.length) (O.length * O.length))[t]? = some (prO O t) := by
  rw [arcsN_len] at h
  have h : t < (pairsL (offD O.length) (O.length * O.length)).length := h
  unfold prO
  rw [List.getD_eq_getElem?_getD, List.getElem?_eq_getElem h]; rfl
theorem arc_get {O : Mt} {t : Nat} (h : t < (LL O).length) : (LL O)[t]? = some (arcO O (prO O t)) := by
  show (List.map _ _)[t]? = _
  rw [List.getElem?_map, pr_at h]; rfl
theorem arc_at {O : Mt} {t : Nat} (h : t < (LL O).length) : arcF (LL O) t = arcO O (prO O t) := by
  unfold arcF; rw [List.getD_eq_getElem?_getD, arc_get h]; rfl
theorem pr_ok {O : Mt} {t : Nat} (h : t < (LL O).length) : prO O t / O.length < O.length ∧ prO O t % O.length < O.length ∧ prO O t / O.length * O.length + prO O t % O.length = prO O t ∧ prO O t / O.length ≠ prO O t % O.length ∧ rank (offD O.length) (prO O t) = t := by
  have h1 := pairsL_mem (pr_at h)
  have h2 := of_grid h1.1
  exact ⟨h2.1, h2.2.1, h2.2.2, of_decide_eq_true h1.2, (pairsL_at (pr_at h)).symm⟩
theorem pr_rank {O : Mt} {i j : Nat} (hi : i < O.length) (hj : j < O.length) (hne : i ≠ j) : rank (offD O.length) (i * O.length + j) < (LL O).length ∧ prO O (rank (offD O.length) (i * O.length + j)) = i * O.length + j := by
  have h1 := pairsL_rank (offD O.length) (b := i * O.length + j) (by rw [offD_at hi hj]; exact decide_eq_true hne) (at_grid hi hj).1
  rw [arcsN_len]
  refine ⟨(List.getElem?_eq_some_iff.1 h1).1, ?_⟩
  unfold prO
  rw [List.getD_eq_getElem?_getD, h1]; rfl
theorem sum_arcs (O : Mt) (h : Nat → Int) : sumN (LL O).length (fun t => h (prO O t)) = sumN O.length (fun i => sumN O.length (fun k => if i = k then 0 else h (i * O.length + k))) := by
  rw [arcsN_len]
  show sumN (pairsL (offD O.length) (O.length * O.length)).length (fun t => h ((pairsL (offD O.length) (O.length * O.length)).getD t 0)) = _
  rw [sumN_pairs, ← sumN_grid O.length O.length (fun i k => if i = k then 0 else h (i * O.length + k))]
  refine sumN_congr fun b hb => ?_
  obtain ⟨h1, h2, h3⟩ := of_grid hb
  rw [h3]
  unfold offD
  by_cases e : b / O.length = b % O.length
  · rw [decide_eq_false (fun g => g e), if_pos e]; rfl
  · rw [decide_eq_true e, if_neg e]; rfl
theorem LL_net {O : Mt} (hn : O.length ≤ 10) (h0 : 1 ≤ O.length) (hg : Good O) : netE (O.length : Int) (LL O) = 0 := by
  refine netE_of (by omega) (by omega) (by have := LL_len O hn; omega) fun a ha => ?_
  obtain ⟨t, ht⟩ := List.getElem?_of_mem ha
  have hlt := (List.getElem?_eq_some_iff.1 ht).1
  rw [arc_get hlt] at ht
  obtain rfl := Option.some.inj ht
  obtain ⟨h1, h2, h3, h4, _⟩ := pr_ok hlt
  have h5 := hg.ex h1 h2
  clear h3
  unfold BadP arcO
  simp only
  generalize prO O t / O.length = a at *
  generalize prO O t % O.length = b at *
  omega
theorem LL_need {O : Mt} (hn : O.length ≤ 10) (h0 : 1 ≤ O.length) (hg : Good O) : needE (O.length : Int) (LL O) (vecL O.length (fun _ => 0)) = 0 := by
  refine needE_of (LL_net hn h0 hg) (by rw [vecL_len]) (fun v hv => ?_) ?_
  · rw [vecL_len] at hv; rw [vecL_at hv]; omega
  · rw [vecL_len]
    exact sumN_zero fun v hv => vecL_at hv
/-- What is left when the first arcs' amounts are taken off. -/
def leftX (O : Mt) (x : Nat → Int) (t i k : Nat) : Int := Ex O i k - (if i ≠ k ∧ rank (offD O.length) (i * O.length + k) < t then x (rank (offD O.length) (i * O.length + k)) else 0)
theorem leftX_zero (O : Mt) (x : Nat → Int) (i k : Nat) : leftX O x 0 i k = Ex O i k := by unfold leftX; rw [if_neg (fun h => Nat.not_lt_zero _ h.2), Int.sub_zero]
theorem leftX_next {O : Mt} {x : Nat → Int} {t : Nat} (ht : t < (LL O).length) {i k : Nat} (hi : i < O.length) (hk : k < O.length) :
    leftX O x (t + 1) i k = if i = prO O t / O.length ∧ k = prO O t % O.length then leftX O x t i k - x t else leftX O x t i k := by
  obtain ⟨h1, h2, h3, h4, h5⟩ := pr_ok ht
  unfold leftX
  by_cases e : i = prO O t / O.length ∧ k = prO O t % O.length
  · rw [if_pos e]
    have hb : i * O.length + k = prO O t := by rw [e.1, e.2]; exact h3
    rw [hb, h5, if_pos ⟨by rw [e.1, e.2]; exact h4, Nat.lt_succ_self t⟩, if_neg (fun h => Nat.lt_irrefl _ h.2), Int.sub_zero]
  · rw [if_neg e]
    by_cases hs : i = k
    · rw [if_neg (fun h => h.1 hs), if_neg (fun h => h.1 hs)]
    · have hne : rank (offD O.length) (i * O.length + k) ≠ t := fun h => e (by
        have h6 := (pr_rank hi hk hs).2
        rw [h] at h6
        rw [h6, (at_grid hi hk).2.1, (at_grid hi hk).2.2]
        exact ⟨rfl, rfl⟩)
      by_cases h6 : rank (offD O.length) (i * O.length + k) < t
      · rw [if_pos ⟨hs, by omega⟩, if_pos ⟨hs, h6⟩]
      · rw [if_neg (fun h => by omega), if_neg (fun h => h6 h.2)]
/-- What is left at the end, as rows. -/
def leftF (O : Mt) (x : Nat → Int) : Nat → Nat → Int := leftX O x (LL O).length
def rowsM (n : Nat) (X : Nat → Nat → Int) : Mt := (List.range n).map (fun i => vecL n (X i))
abbrev leftL (O : Mt) (x : Nat → Int) : Mt := rowsM O.length (leftF O x)
theorem rowsM_len (n : Nat) (X : Nat → Nat → Int) : (rowsM n X).length = n := by unfold rowsM; simp
theorem rowsM_get {n : Nat} {X : Nat → Nat → Int} {i : Nat} (hi : i < n) : (rowsM n X)[i]? = some (vecL n (X i)) := by
  unfold rowsM; rw [List.getElem?_map, List.getElem?_range hi]; rfl
theorem rowsM_row {n : Nat} {X : Nat → Nat → Int} {i : Nat} (hi : i < n) : rowE (rowsM n X) i = vecL n (X i) := by
  unfold rowE; rw [List.getD_eq_getElem?_getD, rowsM_get hi]; rfl
theorem rowsM_ex {n : Nat} {X : Nat → Nat → Int} {i j : Nat} (hi : i < n) (hj : j < n) : Ex (rowsM n X) i j = X i j := by
  unfold Ex; rw [rowsM_row hi]; exact vecL_at hj
theorem leftF_ne {O : Mt} {x : Nat → Int} {i k : Nat} (hi : i < O.length) (hk : k < O.length) (h : i ≠ k) : leftF O x i k = Ex O i k - x (rank (offD O.length) (i * O.length + k)) := by
  unfold leftF leftX; rw [if_pos ⟨h, (pr_rank hi hk h).1⟩]
theorem leftF_eq {O : Mt} {x : Nat → Int} (i : Nat) : leftF O x i i = Ex O i i := by
  unfold leftF leftX; rw [if_neg (fun h => h.1 rfl), Int.sub_zero]
/-- A best cancelling. -/
def Sol (O : Mt) (x : Nat → Int) : Prop := Valid (LL O).length (arcF (LL O)) x ∧ (∃ p, Feas (LL O).length (arcF (LL O)) x p ∧ LexCert (LL O).length (arcF (LL O)) x p) ∧ ∀ v : Nat, v < O.length → balF (LL O).length (arcF (LL O)) x v = 0
theorem valid_ex {O : Mt} {x : Nat → Int} (h : Valid (LL O).length (arcF (LL O)) x) {i k : Nat} (hi : i < O.length) (hk : k < O.length) (hne : i ≠ k) : 0 ≤ x (rank (offD O.length) (i * O.length + k)) ∧ x (rank (offD O.length) (i * O.length + k)) ≤ Ex O i k := by
  obtain ⟨h1, h2⟩ := pr_rank hi hk hne
  have h3 := h _ h1
  rw [arc_at h1, h2] at h3
  have e : (arcO O (i * O.length + k)).f2 = Ex O i k := by unfold arcO; rw [(at_grid hi hk).2.1, (at_grid hi hk).2.2]
  rw [e] at h3
  exact h3
theorem left_good {O : Mt} {x : Nat → Int} (hg : Good O) (h : Valid (LL O).length (arcF (LL O)) x) : Good (leftL O x) := fun i hi => by
  rw [rowsM_len] at hi
  refine ⟨by rw [rowsM_row hi, vecL_len, rowsM_len], fun j hj => ?_⟩
  rw [rowsM_len] at hj
  rw [rowsM_ex hi hj]
  have h1 := hg.ex hi hj
  unfold BadE
  by_cases e : i = j
  · subst e; rw [leftF_eq]; have := h1.2.2 rfl; omega
  · rw [leftF_ne hi hj e]; have := valid_ex h hi hj e; omega
theorem sum_x {O : Mt} (x : Nat → Int) : sumN (LL O).length x = sumN O.length (fun i => sumN O.length (fun k => if i = k then 0 else x (rank (offD O.length) (i * O.length + k)))) := by
  rw [← sum_arcs O (fun b => x (rank (offD O.length) b))]
  exact sumN_congr fun t ht => by rw [(pr_ok ht).2.2.2.2]
theorem tot_left {O : Mt} (x : Nat → Int) : totF (leftL O x) = totF O - sumN (LL O).length x := by
  unfold totF
  rw [rowsM_len, sum_x, ← sumN_sub]
  refine sumN_congr fun i hi => ?_
  rw [← sumN_sub]
  refine sumN_congr fun k hk => ?_
  rw [rowsM_ex hi hk]
  by_cases e : i = k
  · subst e; rw [leftF_eq, if_pos rfl, Int.sub_zero]
  · rw [leftF_ne hi hk e, if_neg e]
theorem cost_x {O : Mt} (x : Nat → Int) : costF (LL O).length (arcF (LL O)) x = -sumN (LL O).length x := by
  unfold costF
  rw [show -sumN (LL O).length x = (-1) * sumN (LL O).length x by omega, ← sumN_mul]
  exact sumN_congr fun t ht => by rw [arc_at ht]; rfl
theorem sum_box {O : Mt} {x : Nat → Int} (hn : O.length ≤ 10) (hg : Good O) (h : Valid (LL O).length (arcF (LL O)) x) : 0 ≤ sumN (LL O).length x ∧ sumN (LL O).length x ≤ 281474976710656 := by
  have h1 : -(((LL O).length : Nat) * 1099511627776 : Int) ≤ sumN (LL O).length x ∧ sumN (LL O).length x ≤ ((LL O).length : Nat) * 1099511627776 := sumN_box fun t ht => by
    have h2 := h t ht
    rw [arc_at ht] at h2
    obtain ⟨g1, g2, _, _, _⟩ := pr_ok ht
    have h3 := hg.ex g1 g2
    have h2 : 0 ≤ x t ∧ x t ≤ Ex O (prO O t / O.length) (prO O t % O.length) := h2
    omega
  have h2 := LL_len O hn
  exact ⟨sumN_nonneg fun t ht => (h t ht).1, by omega⟩
end Go.Proofs.Ytcobihdjcdefmaa
