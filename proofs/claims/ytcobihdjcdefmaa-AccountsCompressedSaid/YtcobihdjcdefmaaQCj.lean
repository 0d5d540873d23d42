/-
  What is left owes nobody round: cancelling again takes nothing, the nets stay, and a plan with the same nets is no smaller.
-/
import Derived.Test.YtcobihdjcdefmaaQCc
import Derived.Test.YtcobihdjcdefmaaQVZ
namespace Go.Proofs.Ytcobihdjcdefmaa
open PAccountsCompress
open Go.RowKit Go.Proofs.YtcobihdjcdefmaaW.PrintWords
theorem bal_grid {O : Mt} (x : Nat → Int) (v : Nat) : balF (LL O).length (arcF (LL O)) x v =
    sumN O.length (fun i => sumN O.length (fun k => if i = k then 0 else (if i = v then x (rank (offD O.length) (i * O.length + k)) else 0) - (if k = v then x (rank (offD O.length) (i * O.length + k)) else 0))) := by
  have h := sum_arcs O (fun b => (if b / O.length = v then x (rank (offD O.length) b) else 0) - (if b % O.length = v then x (rank (offD O.length) b) else 0))
  unfold balF
  rw [sumN_congr (g := fun t => (if prO O t / O.length = v then x (rank (offD O.length) (prO O t)) else 0) - (if prO O t % O.length = v then x (rank (offD O.length) (prO O t)) else 0)) (fun t ht => ?_), h]
  · refine sumN_congr fun i hi => sumN_congr fun k hk => ?_
    simp only [(at_grid hi hk).2.1, (at_grid hi hk).2.2]
  · rw [arc_at ht, (pr_ok ht).2.2.2.2]
    show (if ((prO O t / O.length : Nat) : Int) = v then x t else 0) - (if ((prO O t % O.length : Nat) : Int) = v then x t else 0) = _
    simp only [Int.ofNat_inj]
theorem net_left {O : Mt} (x : Nat → Int) (v : Nat) : netF (leftL O x) v = netF O v + balF (LL O).length (arcF (LL O)) x v := by
  rw [bal_grid]
  unfold netF
  rw [rowsM_len, ← sumN_add]
  refine sumN_congr fun i hi => ?_
  rw [← sumN_add]
  refine sumN_congr fun k hk => ?_
  unfold trm
  rw [rowsM_ex hi hk]
  by_cases e : i = k
  · subst e; rw [leftF_eq, if_pos rfl]; omega
  · rw [leftF_ne hi hk e, if_neg e]
    split <;> split <;> omega
theorem LL_netN {O : Mt} : Net O.length (LL O).length (arcF (LL O)) := fun t ht => by
  obtain ⟨h1, h2, _, h4, _⟩ := pr_ok ht
  rw [arc_at ht]
  show (0 : Int) ≤ ((prO O t / O.length : Nat) : Int) ∧ ((prO O t / O.length : Nat) : Int) < O.length ∧ (0 : Int) ≤ ((prO O t % O.length : Nat) : Int) ∧ ((prO O t % O.length : Nat) : Int) < O.length ∧ ((prO O t / O.length : Nat) : Int) ≠ ((prO O t % O.length : Nat) : Int)
  generalize prO O t / O.length = a at *
  generalize prO O t % O.length = b at *
  omega
/-- A plan within the debts and of the same nets leaves no less. -/
theorem sol_least {O P : Mt} {x : Nat → Int} (_ : O.length ≤ 10) (hg : Good O) (hs : Sol O x) (hP : Good P) (hl : P.length = O.length) (hw : ∀ i k, i < O.length → k < O.length → Ex P i k ≤ Ex O i k) (hnet : ∀ v, v < O.length → netF P v = netF O v) : totF (leftL O x) ≤ totF P := by
  obtain ⟨z, hz⟩ : ∃ z : Nat → Int, z = fun t => Ex O (prO O t / O.length) (prO O t % O.length) - Ex P (prO O t / O.length) (prO O t % O.length) := ⟨_, rfl⟩
  have hze : ∀ i k, i < O.length → k < O.length → i ≠ k → z (rank (offD O.length) (i * O.length + k)) = Ex O i k - Ex P i k := fun i k hi hk e => by
    rw [hz]
    show Ex O (prO O _ / O.length) (prO O _ % O.length) - Ex P (prO O _ / O.length) (prO O _ % O.length) = _
    rw [(pr_rank hi hk e).2, (at_grid hi hk).2.1, (at_grid hi hk).2.2]
  have hzl : ∀ i k, i < O.length → k < O.length → leftF O z i k = Ex P i k := fun i k hi hk => by
    by_cases e : i = k
    · subst e
      rw [leftF_eq, (hg.ex hi hi).2.2 rfl, (hP.ex (by omega) (by omega)).2.2 rfl]
    · rw [leftF_ne hi hk e, hze i k hi hk e]; omega
  have hnl : ∀ v, netF (leftL O z) v = netF P v := fun v => by
    unfold netF
    rw [rowsM_len, hl]
    refine sumN_congr fun i hi => sumN_congr fun k hk => ?_
    unfold trm
    rw [rowsM_ex hi hk, hzl i k hi hk]
  have htl : totF (leftL O z) = totF P := by
    unfold totF
    rw [rowsM_len, hl]
    refine sumN_congr fun i hi => sumN_congr fun k hk => ?_
    rw [rowsM_ex hi hk, hzl i k hi hk]
  have hzv : Valid (LL O).length (arcF (LL O)) z := fun t ht => by
    obtain ⟨h1, h2, h3, h4, h5⟩ := pr_ok ht
    have h6 := hze _ _ h1 h2 h4
    rw [h3, h5] at h6
    rw [h6, arc_at ht]
    show 0 ≤ _ ∧ _ ≤ Ex O (prO O t / O.length) (prO O t % O.length)
    have h7 := hw _ _ h1 h2
    have h8 := hP.ex (show prO O t / O.length < P.length by rw [hl]; exact h1) (show prO O t % O.length < P.length by rw [hl]; exact h2)
    omega
  have hzb : ∀ v : Nat, v < O.length → balF (LL O).length (arcF (LL O)) z v = balF (LL O).length (arcF (LL O)) x v := fun v hv => by
    have h1 := net_left (O := O) z v
    rw [hnl v, hnet v hv] at h1
    rw [hs.2.2 v hv]
    omega
  obtain ⟨p, hf, _⟩ := hs.2.1
  have h1 := opt_le LL_netN hs.1 hzv hzb hf
  rw [cost_x, cost_x] at h1
  rw [← htl, tot_left, tot_left]
  omega
theorem net_same {O : Mt} {x : Nat → Int} (hs : Sol O x) {v : Nat} (hv : v < O.length) : netF (leftL O x) v = netF O v := by
  rw [net_left, hs.2.2 v hv, Int.add_zero]
/-- Cancelling again takes nothing. -/
theorem sol_again {O : Mt} {x y : Nat → Int} (hn : O.length ≤ 10) (hg : Good O) (hs : Sol O x) (hy : Sol (leftL O x) y) : sumN (LL (leftL O x)).length y = 0 ∧ leftL (leftL O x) y = leftL O x := by
  have hgl := left_good hg hs.1
  have hlen := rowsM_len O.length (leftF O x)
  have h1 : totF (leftL O x) ≤ totF (leftL (leftL O x) y) := by
    refine sol_least (P := leftL (leftL O x) y) hn hg hs (left_good hgl hy.1) (by rw [rowsM_len, rowsM_len]) (fun i k hi hk => ?_) (fun v hv => ?_)
    · have hi' : i < (leftL O x).length := by rw [hlen]; exact hi
      have hk' : k < (leftL O x).length := by rw [hlen]; exact hk
      rw [rowsM_ex hi' hk']
      by_cases e : i = k
      · subst e
        rw [leftF_eq, rowsM_ex hi hk, leftF_eq]; exact Int.le_refl _
      · have h2 := valid_ex hy.1 hi' hk' e
        rw [leftF_ne hi' hk' e, rowsM_ex hi hk, leftF_ne hi hk e]
        have h3 := valid_ex hs.1 hi hk e
        omega
    · rw [net_same hy (by rw [hlen]; exact hv), net_same hs hv]
  rw [tot_left (O := leftL O x) y] at h1
  have h2 : ∀ t, t < (LL (leftL O x)).length → 0 ≤ y t := fun t ht => (hy.1 t ht).1
  have h3 := sumN_nonneg h2
  have h4 := sumN_eq_zero h2 (by omega)
  refine ⟨sumN_zero h4, ?_⟩
  show rowsM (leftL O x).length _ = rowsM O.length _
  rw [hlen]
  unfold rowsM
  refine List.map_congr_left fun i hi => vecL_congr fun k hk => ?_
  have hi := List.mem_range.1 hi
  have hi' : i < (leftL O x).length := by rw [hlen]; exact hi
  have hk' : k < (leftL O x).length := by rw [hlen]; exact hk
  by_cases e : i = k
  · subst e; rw [leftF_eq, rowsM_ex hi hk]
  · rw [leftF_ne hi' hk' e, rowsM_ex hi hk, h4 _ (pr_rank hi' hk' e).1, Int.sub_zero]
/-- What is left goes down a potential. -/
theorem left_down {O : Mt} {x : Nat → Int} (hg : Good O) (hs : Sol O x) : ∃ p : Int → Int, ∀ i k, i < O.length → k < O.length → 0 < Ex (leftL O x) i k → p k < p i := by
  obtain ⟨p, hf, _⟩ := hs.2.1
  refine ⟨p, fun i k hi hk h => ?_⟩
  rw [rowsM_ex hi hk] at h
  by_cases e : i = k
  · subst e
    rw [leftF_eq, (hg.ex hi hi).2.2 rfl] at h
    exact absurd h (by decide)
  · rw [leftF_ne hi hk e] at h
    obtain ⟨h1, h2⟩ := pr_rank hi hk e
    have ha : arcF (LL O) (rank (offD O.length) (i * O.length + k)) = ⟨i, k, Ex O i k, -1⟩ := by
      rw [arc_at h1, h2]
      unfold arcO
      rw [(at_grid hi hk).2.1, (at_grid hi hk).2.2]
    have h3 := hf.on h1 (by rw [ha]; show _ < Ex O i k; omega)
    unfold rc at h3
    rw [ha] at h3
    have h3 : (0 : Int) ≤ -1 + p i - p k := h3
    omega
/-! ### round -/
def boolL (n : Nat) (T : Nat → Bool) : List Bool := (List.range n).map T
theorem boolL_len (n : Nat) (T : Nat → Bool) : (boolL n T).length = n := by unfold boolL; simp
theorem boolL_rd {n : Nat} {T : Nat → Bool} {i : Nat} (h : i < n) : rdOf false (boolL n T) (i : Int) = T i := by
  unfold rdOf boolL; rw [Int.toNat_natCast, List.getD_eq_getElem?_getD, List.getElem?_map, List.getElem?_range h]; rfl
def setB (T : Nat → Bool) (i : Nat) (b : Bool) : Nat → Bool := fun v => if v = i then b else T v
theorem boolL_set (n : Nat) (T : Nat → Bool) (i : Nat) (b : Bool) : (boolL n T).set i b = boolL n (setB T i b) := by
  apply List.ext_getElem?
  intro j
  unfold boolL setB
  rw [List.getElem?_set, List.getElem?_map, List.getElem?_map]
  by_cases hj : j < n
  · rw [List.getElem?_range hj]
    by_cases e : i = j
    · subst e; simp [hj]
    · rw [if_neg e]; simp [Ne.symm e]
  · rw [List.getElem?_eq_none (l := List.range n) (by simp; omega)]
    by_cases e : i = j
    · subst e; simp [hj]
    · rw [if_neg e]; rfl
def cntB (n : Nat) (T : Nat → Bool) : Nat := match n with
  | 0 => 0
  | n + 1 => cntB n T + (if T n then 1 else 0)
theorem cntB_congr {n : Nat} {T U : Nat → Bool} (h : ∀ i, i < n → T i = U i) : cntB n T = cntB n U := by
  induction n with
  | zero => rfl
  | succ n ih => show cntB n T + _ = cntB n U + _; rw [ih fun i hi => h i (by omega), h n (Nat.lt_succ_self n)]
theorem cntB_le (n : Nat) (T : Nat → Bool) : cntB n T ≤ n := by
  induction n with
  | zero => exact Nat.le_refl _
  | succ n ih => show cntB n T + _ ≤ n + 1; split <;> omega
theorem cntB_clear {n : Nat} {T : Nat → Bool} {i : Nat} (hi : i < n) (h : T i = true) : cntB n (setB T i false) + 1 = cntB n T := by
  induction n with
  | zero => exact absurd hi (Nat.not_lt_zero _)
  | succ n ih =>
    show cntB n (setB T i false) + (if setB T i false n then 1 else 0) + 1 = cntB n T + (if T n then 1 else 0)
    by_cases e : i = n
    · subst e
      rw [cntB_congr (U := T) (fun j hj => by unfold setB; rw [if_neg (by omega)]), h]
      unfold setB
      simp
    · have := ih (by omega)
      have e2 : setB T i false n = T n := by unfold setB; rw [if_neg (Ne.symm e)]
      rw [e2]; omega
theorem cntB_mono {n : Nat} {T U : Nat → Bool} (h : ∀ i, i < n → T i = true → U i = true) : cntB n T ≤ cntB n U := by
  induction n with
  | zero => exact Nat.le_refl _
  | succ n ih =>
    show cntB n T + _ ≤ cntB n U + _
    refine Nat.add_le_add (ih fun i hi => h i (by omega)) ?_
    by_cases e : T n = true
    · rw [if_pos e, if_pos (h n (Nat.lt_succ_self n) e)]; exact Nat.le_refl _
    · rw [if_neg e]; exact Nat.zero_le _
theorem cntB_pos {n : Nat} {T : Nat → Bool} (h : 0 < cntB n T) : ∃ i, i < n ∧ T i = true := by
  induction n with
  | zero => exact absurd h (Nat.lt_irrefl _)
  | succ n ih =>
    have h : 0 < cntB n T + (if T n then 1 else 0) := h
    by_cases e : T n = true
    · exact ⟨n, Nat.lt_succ_self n, e⟩
    · rw [if_neg e] at h
      obtain ⟨i, h1, h2⟩ := ih (by omega)
      exact ⟨i, by omega, h2⟩
def Owes (O : Mt) (T : Nat → Bool) (i k : Nat) : Prop := ∃ j, k ≤ j ∧ j < O.length ∧ T j = true ∧ 0 < Ex O i j
/-- A core that owes within itself has no potential. -/
theorem no_core {O : Mt} {p : Int → Int} (hp : ∀ i k, i < O.length → k < O.length → 0 < Ex O i k → p k < p i) {T : Nat → Bool} (hT : ∀ i, i < O.length → T i = true → Owes O T i 0) : cntB O.length T = 0 := by
  rcases Nat.eq_zero_or_pos (cntB O.length T) with h | h
  · exact h
  · obtain ⟨i, hi, ht⟩ := cntB_pos h
    have key : ∀ (N : Nat) (i : Nat), i < O.length → T i = true → cntB O.length (fun v => T v && decide (p v < p i)) ≤ N → False := by
      intro N
      induction N with
      | zero =>
        intro i hi ht hc
        obtain ⟨j, _, hj, htj, hex⟩ := hT i hi ht
        have hlt := hp i j hi hj hex
        have := cntB_clear (T := fun v => T v && decide (p v < p i)) hj (by simp [htj, hlt])
        omega
      | succ N ih =>
        intro i hi ht hc
        obtain ⟨j, _, hj, htj, hex⟩ := hT i hi ht
        have hlt := hp i j hi hj hex
        refine ih j hj htj ?_
        have h1 := cntB_clear (T := fun v => T v && decide (p v < p i)) hj (by simp [htj, hlt])
        have h2 : cntB O.length (fun v => T v && decide (p v < p j)) ≤ cntB O.length (setB (fun v => T v && decide (p v < p i)) j false) := cntB_mono fun v _ h => by
          rw [Bool.and_eq_true, decide_eq_true_eq] at h
          unfold setB
          by_cases e : v = j
          · subst e; have := h.2; omega
          · rw [if_neg e, Bool.and_eq_true, decide_eq_true_eq]
            exact ⟨h.1, by have := h.2; omega⟩
        omega
    exact absurd (key _ i hi ht (Nat.le_refl _)) id
theorem round_l0 (O : Mt) : ∀ (r i k : Nat) (T : Nat → Bool) (c : Int), i + r = O.length → O.length ≤ 10 → (∀ j, j < i → T j = true) →
    merinolaw07_round.l0 (r + 1 + k) O (boolL O.length T) c (i : Int) = merinolaw07_round.l1 k O (boolL O.length (fun _ => true)) c true
  | 0, i, k, T, c, hi, _, hT => by
    rw [show 0 + 1 + k = k + 1 by omega]
    unfold merinolaw07_round.l0
    rw [if_neg (by omega), show boolL O.length T = boolL O.length (fun _ => true) from List.map_congr_left fun j hj => hT j (by have := List.mem_range.1 hj; omega)]
  | r + 1, i, k, T, c, hi, hn, hT => by
    rw [show r + 1 + 1 + k = (r + 1 + k) + 1 by omega]
    unfold merinolaw07_round.l0
    rw [if_pos (by omega), if_pos (by omega), if_pos (by rw [boolL_len]; omega), Int.toNat_natCast, boolL_set, w64k (by omega), show (i : Int) + 1 = ((i + 1 : Nat) : Int) by omega]
    exact round_l0 O r (i + 1) k _ c (by omega) hn (fun j hj => by
      unfold setB
      by_cases e : j = i
      · rw [if_pos e]
      · rw [if_neg e]; exact hT j (by omega))
theorem round_l3 {O : Mt} (hg : Good O) (hn : O.length ≤ 10) {i : Nat} (hi : i < O.length) (T : Nat → Bool) (c : Int) (mv : Bool) : ∀ (r j k : Nat) (ow : Bool), j + r = O.length →
    ∃ ow', (ow' = true ↔ (ow = true ∨ Owes O T i j)) ∧ merinolaw07_round.l3 (r + 1 + k) O (boolL O.length T) c mv (i : Int) ow (j : Int) =
      (if T i = true then (if ow' = true then merinolaw07_round.l2 k O (boolL O.length T) c mv ((i + 1 : Nat) : Int) else merinolaw07_round.l2 k O (boolL O.length (setB T i false)) (wrap64 (c - 1)) true ((i + 1 : Nat) : Int)) else merinolaw07_round.l2 k O (boolL O.length T) c mv ((i + 1 : Nat) : Int))
  | 0, j, k, ow, hj => by
    have hr := (hg i hi).1
    refine ⟨ow, ⟨.inl, fun h => h.elim id (fun ⟨j', h1, h2, _⟩ => by omega)⟩, ?_⟩
    rw [show 0 + 1 + k = k + 1 by omega]
    unfold merinolaw07_round.l3
    rw [rdL, if_pos (by omega), if_pos (by omega), if_neg (by omega), if_pos (by rw [boolL_len]; omega), boolL_rd hi, Int.toNat_natCast, boolL_set, w64k (x := (i : Int) + 1) (by omega), show (i : Int) + 1 = ((i + 1 : Nat) : Int) by omega]
  | r + 1, j, k, ow, hj => by
    have hr := (hg i hi).1
    have hjl : j < O.length := by omega
    rw [show r + 1 + 1 + k = (r + 1 + k) + 1 by omega]
    unfold merinolaw07_round.l3
    rw [rdL, if_pos (by omega), if_pos (by omega), if_pos (by omega), if_pos (by omega), w64k (x := (j : Int) + 1) (by omega), show (j : Int) + 1 = ((j + 1 : Nat) : Int) by omega]
    cases ow with
    | true =>
      rw [if_pos rfl]
      obtain ⟨ow', h1, h2⟩ := round_l3 hg hn hi T c mv r (j + 1) k true (by omega)
      exact ⟨ow', ⟨fun _ => .inl rfl, fun _ => h1.2 (.inl rfl)⟩, h2⟩
    | false =>
      rw [if_neg (show ¬ (false = true) by simp), if_pos (by omega), if_pos (by rw [boolL_len]; omega), boolL_rd hjl, rdE]
      have nx : ∀ b : Bool, (b = true ↔ (T j = true ∧ 0 < Ex O i j)) → ∀ ow' : Bool, (ow' = true ↔ (b = true ∨ Owes O T i (j + 1))) → (ow' = true ↔ (false = true ∨ Owes O T i j)) := fun b hb ow' h => by
        rw [h, hb]
        constructor
        · rintro (⟨h1, h2⟩ | ⟨j', h1, h2, h3, h4⟩)
          · exact .inr ⟨j, Nat.le_refl _, hjl, h1, h2⟩
          · exact .inr ⟨j', by omega, h2, h3, h4⟩
        · rintro (h1 | ⟨j', h1, h2, h3, h4⟩)
          · simp at h1
          · rcases Nat.lt_or_ge j j' with h5 | h5
            · exact .inr ⟨j', h5, h2, h3, h4⟩
            · obtain rfl : j' = j := by omega
              exact .inl ⟨h3, h4⟩
      by_cases ht : T j = true
      · rw [if_pos ht]
        obtain ⟨ow', h1, h2⟩ := round_l3 hg hn hi T c mv r (j + 1) k (decide (Ex O i j > 0)) (by omega)
        exact ⟨ow', nx _ ⟨fun h => ⟨ht, of_decide_eq_true h⟩, fun h => decide_eq_true h.2⟩ ow' h1, h2⟩
      · rw [if_neg ht]
        obtain ⟨ow', h1, h2⟩ := round_l3 hg hn hi T c mv r (j + 1) k false (by omega)
        exact ⟨ow', nx _ ⟨fun h => by simp at h, fun h => absurd h.1 ht⟩ ow' h1, h2⟩
/-- What a pass over the members leaves. -/
structure Pass (O : Mt) (i : Nat) (T : Nat → Bool) (mv : Bool) (T' : Nat → Bool) (mv' : Bool) : Prop where
  le : cntB O.length T' ≤ cntB O.length T
  moved : mv' = true → mv = true ∨ cntB O.length T' < cntB O.length T
  rest : mv' = false → mv = false ∧ T' = T ∧ ∀ j, i ≤ j → j < O.length → T j = true → Owes O T j 0
theorem round_l2 {O : Mt} (hg : Good O) (hn : O.length ≤ 10) : ∀ (r i k : Nat) (T : Nat → Bool) (mv : Bool), i + r = O.length → r * 20 + 1 ≤ k →
    ∃ (k' : Nat) (T' : Nat → Bool) (mv' : Bool), k ≤ k' + (r * 20 + 1) ∧ Pass O i T mv T' mv' ∧ merinolaw07_round.l2 k O (boolL O.length T) (cntB O.length T : Int) mv (i : Int) = merinolaw07_round.l1 k' O (boolL O.length T') (cntB O.length T' : Int) mv'
  | 0, i, k + 1, T, mv, hi, _ => by
    refine ⟨k, T, mv, by omega, ⟨Nat.le_refl _, .inl, fun h => ⟨h, rfl, fun j h1 h2 => by omega⟩⟩, ?_⟩
    unfold merinolaw07_round.l2
    rw [if_neg (by omega)]
  | r + 1, i, k + 1, T, mv, hi, hk => by
    unfold merinolaw07_round.l2
    rw [if_pos (by omega)]
    obtain ⟨k2, rfl⟩ : ∃ k2, k = O.length + 1 + k2 := ⟨k - (O.length + 1), by omega⟩
    obtain ⟨ow', h1, h2⟩ := round_l3 hg hn (show i < O.length by omega) T (cntB O.length T : Int) mv O.length 0 k2 false (by omega)
    rw [show ((0 : Nat) : Int) = 0 from rfl] at h2
    rw [h2]
    by_cases ht : T i = true
    · rw [if_pos ht]
      by_cases ho : ow' = true
      · rw [if_pos ho]
        obtain ⟨k', T', mv', h3, h4, h5⟩ := round_l2 hg hn r (i + 1) k2 T mv (by omega) (by omega)
        refine ⟨k', T', mv', by omega, ⟨h4.le, h4.moved, fun h => ?_⟩, h5⟩
        obtain ⟨g1, g2, g3⟩ := h4.rest h
        refine ⟨g1, g2, fun j g4 g5 g6 => ?_⟩
        rcases Nat.lt_or_ge i j with g7 | g7
        · exact g3 j g7 g5 g6
        · rw [show j = i by omega]; exact (h1.1 ho).elim (fun h => by simp at h) id
      · rw [if_neg ho]
        have hc := cntB_clear (T := T) (show i < O.length by omega) ht
        have hcl := cntB_le O.length T
        rw [w64k (by omega), show (cntB O.length T : Int) - 1 = (cntB O.length (setB T i false) : Int) by omega]
        obtain ⟨k', T', mv', h3, h4, h5⟩ := round_l2 hg hn r (i + 1) k2 (setB T i false) true (by omega) (by omega)
        have hle := h4.le
        exact ⟨k', T', mv', by omega, ⟨by omega, fun _ => .inr (by omega), fun h => by have := (h4.rest h).1; simp at this⟩, h5⟩
    · rw [if_neg ht]
      obtain ⟨k', T', mv', h3, h4, h5⟩ := round_l2 hg hn r (i + 1) k2 T mv (by omega) (by omega)
      refine ⟨k', T', mv', by omega, ⟨h4.le, h4.moved, fun h => ?_⟩, h5⟩
      obtain ⟨g1, g2, g3⟩ := h4.rest h
      refine ⟨g1, g2, fun j g4 g5 g6 => ?_⟩
      rcases Nat.lt_or_ge i j with g7 | g7
      · exact g3 j g7 g5 g6
      · rw [show j = i by omega] at g6; exact absurd g6 ht
set_option maxRecDepth 100000 in
theorem round_l1 {O : Mt} (hg : Good O) (hn : O.length ≤ 10) {p : Int → Int} (hp : ∀ i k, i < O.length → k < O.length → 0 < Ex O i k → p k < p i) : ∀ (N : Nat) (k : Nat) (T : Nat → Bool), cntB O.length T ≤ N → N * 300 + 300 ≤ k →
    merinolaw07_round.l1 k O (boolL O.length T) (cntB O.length T : Int) true = some false := by
  intro N
  induction N with
  | zero =>
    intro k T hc hk
    obtain ⟨k, rfl⟩ : ∃ k', k = k' + 1 := ⟨k - 1, by omega⟩
    unfold merinolaw07_round.l1
    rw [if_pos rfl]
    obtain ⟨k', T', mv', h3, h4, h5⟩ := round_l2 hg hn O.length 0 k T false (by omega) (by omega)
    rw [show ((0 : Nat) : Int) = 0 from rfl] at h5
    rw [h5]
    cases mv' with
    | true => exact absurd (h4.moved rfl) (by simp; omega)
    | false =>
      obtain ⟨k', rfl⟩ : ∃ k2, k' = k2 + 1 := ⟨k' - 1, by omega⟩
      unfold merinolaw07_round.l1
      have hle := h4.le
      rw [if_neg (by simp), decide_eq_false (by omega)]
  | succ N ih =>
    intro k T hc hk
    obtain ⟨k, rfl⟩ : ∃ k', k = k' + 1 := ⟨k - 1, by omega⟩
    unfold merinolaw07_round.l1
    rw [if_pos rfl]
    obtain ⟨k', T', mv', h3, h4, h5⟩ := round_l2 hg hn O.length 0 k T false (by omega) (by omega)
    rw [show ((0 : Nat) : Int) = 0 from rfl] at h5
    rw [h5]
    cases mv' with
    | true =>
      rcases h4.moved rfl with hf | hf
      · exact absurd hf Bool.false_ne_true
      · have hk2 : N * 300 + 600 ≤ k + 1 := by rw [Nat.succ_mul] at hk; omega
        have hb : O.length * 20 + 1 ≤ 201 := by omega
        exact ih k' T' (by omega) (by clear hk h5 ih h4 hf; omega)
    | false =>
      obtain ⟨_, rfl, hr⟩ := h4.rest rfl
      have h0 := no_core hp (fun i hi ht => hr i (Nat.zero_le _) hi ht)
      obtain ⟨k', rfl⟩ : ∃ k2, k' = k2 + 1 := ⟨k' - 1, by omega⟩
      unfold merinolaw07_round.l1
      rw [if_neg (by simp), decide_eq_false (by omega)]
theorem round_f {O : Mt} (hg : Good O) (hn : O.length ≤ 10) {p : Int → Int} (hp : ∀ i k, i < O.length → k < O.length → 0 < Ex O i k → p k < p i) : merinolaw07_round.f 5000 O = some false := by
  unfold merinolaw07_round.f
  rw [if_pos (by omega), if_pos (by omega), Int.toNat_natCast]
  have h1 : List.replicate O.length false = boolL O.length (fun _ => false) := by
    unfold boolL
    apply List.ext_getElem?
    intro j
    rw [List.getElem?_replicate, List.getElem?_map]
    by_cases hj : j < O.length
    · rw [if_pos hj, List.getElem?_range hj]; rfl
    · rw [if_neg hj, List.getElem?_eq_none (l := List.range O.length) (by simp; omega)]; rfl
  have h2 := round_l0 O O.length 0 (5000 - (O.length + 1)) (fun _ => false) (O.length : Int) (by omega) hn (fun j hj => absurd hj (Nat.not_lt_zero _))
  have hk : O.length + 1 + (5000 - (O.length + 1)) = 5000 := by omega
  generalize hK : 5000 - (O.length + 1) = K at *
  have hK2 : 4900 ≤ K := by omega
  generalize hM : (5000 : Nat) = M at *
  rw [hk, show ((0 : Nat) : Int) = 0 from rfl] at h2
  rw [h1, h2]
  have h3 : cntB O.length (fun _ => true) = O.length := by
    generalize O.length = n
    induction n with
    | zero => rfl
    | succ n ih => show cntB n _ + 1 = n + 1; rw [ih]
  have h4 := round_l1 hg hn hp O.length K (fun _ => true) (by omega) (by omega)
  rw [h3] at h4
  exact h4
/-! ### within -/
def WithinP (P O : Mt) : Prop := P.length = O.length ∧ ∀ i, i < P.length → (rowE P i).length = (rowE O i).length ∧ ∀ k, k < (rowE P i).length → 0 ≤ Ex P i k ∧ Ex P i k ≤ Ex O i k
theorem within_l1 (P O : Mt) (hs : Small P 0) (hl : P.length = O.length) {i : Nat} (hi : i < P.length) (hr : (rowE P i).length = (rowE O i).length) : ∀ (r j k : Nat), j + r = (rowE P i).length →
    merinolaw07_within.l1 (r + 1 + k) P O (i : Int) (j : Int) = some false ∨ ((∀ j', j ≤ j' → j' < (rowE P i).length → 0 ≤ Ex P i j' ∧ Ex P i j' ≤ Ex O i j') ∧ merinolaw07_within.l1 (r + 1 + k) P O (i : Int) (j : Int) = merinolaw07_within.l0 k P O ((i + 1 : Nat) : Int))
  | 0, j, k, hj => by
    have h1 := hs.1
    rw [show 0 + 1 + k = k + 1 by omega]
    unfold merinolaw07_within.l1
    rw [rdL, rdL, if_pos (by omega), if_pos (by omega), if_neg (by omega), w64k (by omega), show (i : Int) + 1 = ((i + 1 : Nat) : Int) by omega]
    exact .inr ⟨fun j' h1 h2 => by omega, rfl⟩
  | r + 1, j, k, hj => by
    have h1 := hs.1
    have h2 := hs.2 i (Nat.zero_le _) hi
    rw [show r + 1 + 1 + k = (r + 1 + k) + 1 by omega]
    unfold merinolaw07_within.l1
    rw [rdL, rdL, if_pos (by omega), if_pos (by omega), if_pos (by omega), if_pos (by omega), rdE, rdE]
    by_cases h3 : Ex P i j < 0
    · rw [if_pos h3]; exact .inl rfl
    · rw [if_neg h3, if_pos (by omega), if_pos (by omega)]
      by_cases h4 : Ex P i j > Ex O i j
      · rw [if_pos h4]; exact .inl rfl
      · rw [if_neg h4, w64k (by omega), show (j : Int) + 1 = ((j + 1 : Nat) : Int) by omega]
        rcases within_l1 P O hs hl hi hr r (j + 1) k (by omega) with h5 | ⟨h5, h6⟩
        · exact .inl h5
        · refine .inr ⟨fun j' h7 h8 => ?_, h6⟩
          rcases Nat.lt_or_ge j j' with h9 | h9
          · exact h5 j' h9 h8
          · rw [show j' = j by omega]; omega
theorem within_l0 (P O : Mt) (hs : Small P 0) (hl : P.length = O.length) : ∀ (r i k : Nat), i + r = P.length → r * 110 + 1 ≤ k →
    merinolaw07_within.l0 k P O (i : Int) = some false ∨ ((∀ i', i ≤ i' → i' < P.length → (rowE P i').length = (rowE O i').length ∧ ∀ j, j < (rowE P i').length → 0 ≤ Ex P i' j ∧ Ex P i' j ≤ Ex O i' j) ∧ merinolaw07_within.l0 k P O (i : Int) = some true)
  | 0, i, k + 1, hi, _ => by
    unfold merinolaw07_within.l0
    rw [if_neg (by omega)]
    exact .inr ⟨fun i' h1 h2 => by omega, rfl⟩
  | r + 1, i, k + 1, hi, hk => by
    have h1 := hs.1
    have h2 := hs.2 i (Nat.zero_le _) (by omega)
    unfold merinolaw07_within.l0
    rw [if_pos (by omega), if_pos (by omega), if_pos (by omega), rdL, rdL]
    by_cases h3 : ((rowE P i).length : Int) = (rowE O i).length
    · rw [if_pos h3]
      obtain ⟨k', rfl⟩ : ∃ k', k = (rowE P i).length + 1 + k' := ⟨k - ((rowE P i).length + 1), by omega⟩
      rcases within_l1 P O hs hl (show i < P.length by omega) (by omega) (rowE P i).length 0 k' (by omega) with h4 | ⟨h4, h5⟩
      · exact .inl h4
      · rw [show ((0 : Nat) : Int) = 0 from rfl] at h5
        rw [h5]
        rcases within_l0 P O hs hl r (i + 1) k' (by omega) (by omega) with h6 | ⟨h6, h7⟩
        · exact .inl h6
        · refine .inr ⟨fun i' h8 h9 => ?_, h7⟩
          rcases Nat.lt_or_ge i i' with ha | ha
          · exact h6 i' ha h9
          · rw [show i' = i by omega]; exact ⟨by omega, fun j hj => h4 j (Nat.zero_le _) hj⟩
    · rw [if_neg h3]; exact .inl rfl
theorem within_f (P O : Mt) (hs : Small P 0) : ∃ b, merinolaw07_within.f 5000 P O = some b ∧ (b = true → WithinP P O) := by
  unfold merinolaw07_within.f
  by_cases h : (P.length : Int) = O.length
  · rw [if_pos h]
    have h1 := hs.1
    rcases within_l0 P O hs (by omega) P.length 0 5000 (by omega) (by omega) with h2 | ⟨h2, h3⟩
    · exact ⟨false, h2, fun h => by simp at h⟩
    · exact ⟨true, h3, fun _ => ⟨by omega, fun i hi => h2 i (Nat.zero_le _) hi⟩⟩
  · rw [if_neg h]; exact ⟨false, rfl, fun h => by simp at h⟩
end Go.Proofs.Ytcobihdjcdefmaa
