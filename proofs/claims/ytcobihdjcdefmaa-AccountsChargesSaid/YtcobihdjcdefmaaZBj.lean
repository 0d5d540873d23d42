/-
  What the kit's printed forms of the reference's functions on digits answer, in plain Lean.
-/
import Derived.Test.YtcobihdjcdefmaaZBi
import Derived.Test.YtcobihdjcdefmaaZYx7
namespace Go.Proofs.Ytcobihdjcdefmaa
open PAccountsCharges
open Go.RowKit Go.Proofs.YtcobihdjcdefmaaW.PrintWords
attribute [local irreducible] merinoref01_trim.l0 merinoref01_trim.l1 merinoref01_trim.j1 merinoref01_addD.l0 merinoref01_addD.j1 merinoref01_cmpD.l0 merinoref01_subD.l0
/-- With fuel enough, it answers so. -/
def Ends {α : Type} (f : Nat → Option α) (r : α) : Prop := ∃ K, ∀ k, K ≤ k → f k = some r
section
variable {α β : Type} {f g : Nat → Option α} {r : α}
theorem Ends.step (h : Ends g r) (e : ∀ k, f (k + 1) = g k) : Ends f r := by
  obtain ⟨K, hK⟩ := h
  refine ⟨K + 1, fun k hk => ?_⟩
  obtain ⟨k', rfl⟩ : ∃ k', k = k' + 1 := ⟨k - 1, by omega⟩
  rw [e]; exact hK k' (by omega)
theorem Ends.same (h : Ends g r) (e : ∀ k, f k = g k) : Ends f r := by
  obtain ⟨K, hK⟩ := h
  exact ⟨K, fun k hk => by rw [e]; exact hK k hk⟩
theorem Ends.pure {r : α} : Ends (fun _ => some r) r := ⟨0, fun _ _ => rfl⟩
theorem Ends.bind {b : β} {h : α → Nat → Option β} (h1 : Ends f r) (h2 : Ends (h r) b) : Ends (fun k => (f k).bind fun t => h t k) b := by
  obtain ⟨K, hK⟩ := h1
  obtain ⟨L, hL⟩ := h2
  refine ⟨max K L, fun k hk => ?_⟩
  show (f k).bind _ = _
  rw [hK k (by omega)]
  exact hL k (by omega)
end
theorem w64 {x : Int} (h : -9223372036854775808 ≤ x ∧ x ≤ 9223372036854775807) : wrap64 x = x := IntWalk.wrap64_in x h
theorem rd_nat (l : List Int) (i : Nat) : rd l (i : Int) = dF l i := by unfold rd; rw [Int.toNat_natCast]
/-! trim -/
theorem trim_l1 (l : List Int) (hl : l.length ≤ 1000) {n : Nat} (hn : n ≤ l.length) : ∀ m i : Nat, i + m = n → Ends (fun k => merinoref01_trim.l1 k l (n : Int) (l.take i) (i : Int)) (l.take n) := fun m => by
  induction m with
  | zero =>
    intro i hi
    obtain rfl : i = n := by omega
    refine Ends.step (g := fun _ => some (l.take i)) Ends.pure fun k => ?_
    show merinoref01_trim.l1 (k + 1) l (i : Int) (l.take i) (i : Int) = _
    rw [merinoref01_trim.l1, if_neg (by omega)]
  | succ m ih =>
    intro i hi
    refine Ends.step (ih (i + 1) (by omega)) fun k => ?_
    show merinoref01_trim.l1 (k + 1) l (n : Int) (l.take i) (i : Int) = merinoref01_trim.l1 k l (n : Int) (l.take (i + 1)) ((i + 1 : Nat) : Int)
    have e1 : l.take i ++ [rd l (i : Int)] = l.take (i + 1) := by
      rw [rd_nat, List.take_add_one, List.getElem?_eq_getElem (by omega)]
      show l.take i ++ [l.getD i 0] = _
      rw [List.getD_eq_getElem?_getD, List.getElem?_eq_getElem (by omega)]; rfl
    rw [merinoref01_trim.l1, if_pos (by omega), if_pos (by omega), if_pos (by omega), if_pos (by rw [List.length_take]; omega), e1, w64 (by omega)]; rfl
theorem trim_l0 (l : List Int) (hl : l.length ≤ 1000) (hg : gL l) : ∀ n : Nat, n ≤ l.length → (∀ j, n ≤ j → j < l.length → dF l j = 0) → Ends (fun k => merinoref01_trim.l0 k l (n : Int)) (dg (vL l).toNat) := fun n => by
  have stop : ∀ n : Nat, n ≤ l.length → (∀ j, n ≤ j → j < l.length → dF l j = 0) → (0 < n → dF l (n - 1) ≠ 0) → Ends (fun k => merinoref01_trim.j1 k l (n : Int)) (dg (vL l).toNat) := fun n hn h0 ht => by
    rw [← take_dg hg hn h0 ht]
    refine Ends.step (trim_l1 l hl hn n 0 (by omega)) fun k => ?_
    show merinoref01_trim.j1 (k + 1) l (n : Int) = _
    rw [merinoref01_trim.j1]; rfl
  induction n with
  | zero =>
    intro hn h0
    refine Ends.step (stop 0 hn h0 (fun h => absurd h (Nat.lt_irrefl 0))) fun k => ?_
    show merinoref01_trim.l0 (k + 1) l ((0 : Nat) : Int) = _
    rw [merinoref01_trim.l0, if_neg (by omega)]
  | succ n ih =>
    intro hn h0
    have ew : wrap64 (((n + 1 : Nat) : Int) - 1) = (n : Int) := by rw [w64 (by omega)]; omega
    by_cases e : dF l n = 0
    · refine Ends.step (ih (by omega) fun j hj hjl => ?_) fun k => ?_
      · by_cases e2 : j = n
        · rw [e2]; exact e
        · exact h0 j (by omega) hjl
      · show merinoref01_trim.l0 (k + 1) l ((n + 1 : Nat) : Int) = merinoref01_trim.l0 k l (n : Int)
        rw [merinoref01_trim.l0, if_pos (by omega), ew, if_pos (by omega), if_pos (by omega), if_pos (by rw [rd_nat]; exact e)]
    · refine Ends.step (stop (n + 1) hn h0 (fun _ => e)) fun k => ?_
      show merinoref01_trim.l0 (k + 1) l ((n + 1 : Nat) : Int) = merinoref01_trim.j1 k l ((n + 1 : Nat) : Int)
      rw [merinoref01_trim.l0, if_pos (by omega), ew, if_pos (by omega), if_pos (by omega), if_neg (by rw [rd_nat]; exact e)]
theorem trim_e {l : List Int} (hl : l.length ≤ 1000) (hg : gL l) : Ends (fun k => merinoref01_trim.f k l) (dg (vL l).toNat) := trim_l0 l hl hg l.length (Nat.le_refl _) fun j h1 h2 => absurd h2 (by omega)
/-! whole -/
def sg (neg : Bool) (v : Int) : Int := if neg = true then -v else v
theorem dg_nil_iff {n : Nat} : (dg n).length = 0 ↔ n = 0 := by
  constructor
  · intro h
    have h1 := dg_val n
    have h2 : dg n = [] := List.length_eq_zero_iff.1 h
    rw [h2] at h1
    have h3 : (0 : Int) = n := h1
    omega
  · rintro rfl; rw [dg_zero]; rfl
theorem whole_e {l : List Int} (neg : Bool) (hl : l.length ≤ 1000) (hg : gL l) : Ends (fun k => merinoref01_whole.f k neg l) (decide (sg neg (vL l) < 0), dg (sg neg (vL l)).natAbs) := by
  have h0 : 0 ≤ vL l := vF_nonneg hg
  have e : (sg neg (vL l)).natAbs = (vL l).toNat := by unfold sg; split <;> omega
  rw [e]
  refine Ends.same (Ends.bind (trim_e hl hg) (h := fun t _ => if neg = true then some (decide ((t.length : Int) > 0), t) else some (false, t)) ?_) fun k => rfl
  cases neg with
  | false =>
    refine ⟨0, fun _ _ => ?_⟩
    have e2 : sg false (vL l) = vL l := rfl
    rw [if_neg (by simp), e2, decide_eq_false (show ¬ vL l < 0 by omega)]
  | true =>
    refine ⟨0, fun _ _ => ?_⟩
    have e2 : sg true (vL l) = -vL l := rfl
    rw [if_pos rfl, e2]
    have h1 := dg_nil_iff (n := (vL l).toNat)
    by_cases h2 : vL l = 0
    · have h3 := h1.2 (by omega)
      rw [decide_eq_false (by omega), decide_eq_false (by omega)]
    · have h3 : ¬ (dg (vL l).toNat).length = 0 := fun h => by have := h1.1 h; omega
      rw [decide_eq_true (by omega), decide_eq_true (by omega)]
/-! addD -/
theorem w64s {i : Nat} (h : i ≤ 100000) : wrap64 ((i : Int) + 1) = ((i + 1 : Nat) : Int) := by rw [w64 (by omega)]; rfl
theorem w64d {x : Int} (h : -1000000000 ≤ x ∧ x ≤ 1000000000) : wrap64 x = x := w64 (by omega)
section
variable {a b out : List Int} {c : Int} {i : Nat}
theorem add_un (hc : 0 ≤ c ∧ c ≤ 1) (ba : 0 ≤ dF a i ∧ dF a i < 10000) (bb : 0 ≤ dF b i ∧ dF b i < 10000) (hi : i ≤ 1000) (ho : out.length < 17592186044416) (k : Nat) :
    merinoref01_addD.j1 (k + 1) a b out c (i : Int) true = merinoref01_addD.l0 k a b (out ++ [(c + dF a i + dF b i) % 10000]) ((c + dF a i + dF b i) / 10000) ((i + 1 : Nat) : Int) := by
  have p1 : i < a.length → (i : Int) < a.length := fun h => by omega
  have p1' : ¬ i < a.length → ¬ (i : Int) < a.length := fun h => by omega
  have p2 : (0 : Int) ≤ i := by omega
  have p3 : i < b.length → (i : Int) < b.length := fun h => by omega
  have p4 : ¬ i < b.length → ¬ (i : Int) < b.length := fun h => by omega
  have z0 : ¬ i < b.length → dF b i = 0 := fun h => dF_over (by omega)
  have z1 : ¬ i < a.length → dF a i = 0 := fun h => dF_over (by omega)
  have ew := w64s (i := i) (by omega)
  have q1 : wrap64 (c + dF a i) = c + dF a i := w64d (by omega)
  have q2 : wrap64 (c + dF b i) = c + dF b i := w64d (by omega)
  have q3 : wrap64 (c + dF a i + dF b i) = c + dF a i + dF b i := w64d (by omega)
  have tt : ∀ s : Int, 0 ≤ s → s ≤ 100000 → Int.tmod s 10000 = s % 10000 ∧ Int.tdiv s 10000 = s / 10000 ∧ wrap64 (s / 10000) = s / 10000 := fun s h1 h2 => ⟨Int.tmod_eq_emod_of_nonneg h1, Int.tdiv_eq_ediv_of_nonneg h1, w64d (by omega)⟩
  rw [merinoref01_addD.j1, if_pos rfl]
  by_cases e1 : i < a.length
  · rw [if_pos (p1 e1), if_pos p2]
    by_cases e2 : i < b.length
    · obtain ⟨t1, t2, t3⟩ := tt (c + dF a i + dF b i) (by omega) (by omega)
      rw [if_pos (p3 e2), if_pos ho, rd_nat, rd_nat, q1, q3, t1, t2, t3, ew]
    · have z := z0 e2
      obtain ⟨t1, t2, t3⟩ := tt (c + dF a i) (by omega) (by omega)
      rw [if_neg (p4 e2), if_pos ho, rd_nat, q1, z, Int.add_zero, t1, t2, t3, ew]
  · have z := z1 e1
    rw [if_neg (p1' e1)]
    by_cases e2 : i < b.length
    · obtain ⟨t1, t2, t3⟩ := tt (c + dF b i) (by omega) (by omega)
      rw [if_pos (p3 e2), if_pos p2, if_pos ho, rd_nat, q2, z, Int.add_zero, t1, t2, t3, ew]
    · have z2 := z0 e2
      obtain ⟨t1, t2, t3⟩ := tt c (by omega) (by omega)
      rw [if_neg (p4 e2), if_pos ho, z, z2, Int.add_zero, Int.add_zero, t1, t2, t3, ew]
theorem add_go (h : i < a.length ∨ i < b.length ∨ c = 1) (k : Nat) : merinoref01_addD.l0 (k + 1) a b out c (i : Int) = merinoref01_addD.j1 k a b out c (i : Int) true := by
  rw [merinoref01_addD.l0]
  by_cases e1 : i < a.length
  · rw [if_pos (by omega)]
  · rw [if_neg (by omega)]
    by_cases e2 : i < b.length
    · rw [if_pos (by omega)]
    · rw [if_neg (by omega), decide_eq_true (show c > 0 by omega)]
theorem add_stop (h1 : a.length ≤ i) (h2 : b.length ≤ i) (k : Nat) : merinoref01_addD.l0 (k + 1) a b out 0 (i : Int) = merinoref01_addD.j1 k a b out 0 (i : Int) false := by
  rw [merinoref01_addD.l0, if_neg (by omega), if_neg (by omega)]; rfl
theorem add_end (k : Nat) : merinoref01_addD.j1 (k + 1) a b out 0 (i : Int) false = some out := by
  rw [merinoref01_addD.j1, if_neg (by simp)]
end
theorem add_l0 {a b : List Int} (ha : gL a) (hb : gL b) {M : Nat} (hM : M ≤ 400) (hla : a.length ≤ M) (hlb : b.length ≤ M) : ∀ (m : Nat) (out : List Int) (c : Int), out.length + m = M + 2 → (c = 0 ∨ c = 1) → (out.length ≤ M ∨ c = 0 ∧ out.length ≤ M + 1) → gL out →
    vL out + c * 10000 ^ out.length = vF out.length (dF a) + vF out.length (dF b) →
    ∃ r, Ends (fun k => merinoref01_addD.l0 k a b out c (out.length : Int)) r ∧ gL r ∧ vL r = vL a + vL b ∧ r.length ≤ M + 1 := fun m => by
  induction m with
  | zero =>
    intro out c hm hc hor hg hv
    omega
  | succ m ih =>
    intro out c hm hc hor hg hv
    have ba := gL_dF ha out.length
    have bb := gL_dF hb out.length
    by_cases hgo : out.length < a.length ∨ out.length < b.length ∨ c = 1
    · obtain ⟨s, hs⟩ : ∃ s, s = c + dF a out.length + dF b out.length := ⟨_, rfl⟩
      have h1 := add_step (a := a) (b := b) (c := c) (out := out) hv (s := s) hs
      have hl' : (out ++ [s % 10000]).length = out.length + 1 := by rw [List.length_append]; rfl
      have hs2 : (s / 10000 = 0 ∨ s / 10000 = 1) ∧ 0 ≤ s % 10000 ∧ s % 10000 < 10000 := by
        clear h1 hv
        omega
      have hor' : out.length + 1 ≤ M ∨ s / 10000 = 0 ∧ out.length + 1 ≤ M + 1 := by
        clear h1 hv
        by_cases e1 : out.length < a.length
        · exact .inl (by omega)
        · by_cases e2 : out.length < b.length
          · exact .inl (by omega)
          · rw [dF_over (l := a) (by omega), dF_over (l := b) (by omega)] at hs
            exact .inr ⟨by omega, by omega⟩
      obtain ⟨r, hr, h2⟩ := ih (out ++ [s % 10000]) (s / 10000) (by rw [hl']; omega) hs2.1 (by rw [hl']; exact hor') (gL_snoc hg hs2.2.1 hs2.2.2) (by rw [hl']; exact h1)
      rw [hl'] at hr
      have hun := add_un (a := a) (b := b) (out := out) (c := c) (i := out.length) (by omega) ba bb (by omega) (by omega)
      rw [← hs] at hun
      exact ⟨r, Ends.step (g := fun k => merinoref01_addD.j1 k a b out c (out.length : Int) true) (Ends.step hr hun) (add_go hgo), h2⟩
    · have hc0 : c = 0 := by omega
      subst hc0
      have e1 : vL out = vL a + vL b := by
        rw [Int.zero_mul, Int.add_zero, vF_over (by omega), vF_over (by omega)] at hv; exact hv
      exact ⟨out, Ends.step (g := fun k => merinoref01_addD.j1 k a b out 0 (out.length : Int) false) (Ends.step Ends.pure (fun k => add_end k)) (add_stop (by omega) (by omega)), hg, e1, by omega⟩
theorem add_e {a b : List Int} (ha : gL a) (hb : gL b) (hla : a.length ≤ 400) (hlb : b.length ≤ 400) : ∃ r, Ends (fun k => merinoref01_addD.f k a b) r ∧ gL r ∧ vL r = vL a + vL b ∧ r.length ≤ max a.length b.length + 1 :=
  add_l0 ha hb (M := max a.length b.length) (by omega) (by omega) (by omega) (max a.length b.length + 2) [] 0 (by simp) (.inl rfl) (.inl (by simp)) gL_nil (by simp [vL, vF])
/-! cmpD -/
def cmpI (x y : Int) : Int := if x < y then -1 else if y < x then 1 else 0
theorem cmp_l0 {a b : List Int} (ha : gL a) (hb : gL b) (hl : a.length = b.length) (hla : a.length ≤ 400) : ∀ n : Nat, n ≤ a.length → (∀ j, n ≤ j → j < a.length → dF a j = dF b j) → Ends (fun k => merinoref01_cmpD.l0 k a b ((n : Int) - 1)) (cmpI (vL a) (vL b)) := fun n => by
  induction n with
  | zero =>
    intro hn h
    have e : vL a = vL b := by unfold vL; rw [← hl]; exact vF_congr fun i hi => h i (by omega) hi
    refine Ends.step (g := fun _ => some 0) ?_ fun k => ?_
    · rw [e]; unfold cmpI; rw [if_neg (by omega), if_neg (by omega)]; exact Ends.pure
    · show merinoref01_cmpD.l0 (k + 1) a b (((0 : Nat) : Int) - 1) = _
      rw [merinoref01_cmpD.l0, if_neg (by omega)]
  | succ n ih =>
    intro hn h
    have ex : (((n + 1 : Nat) : Int) - 1) = (n : Int) := by omega
    rw [ex]
    have hu : ∀ k, merinoref01_cmpD.l0 (k + 1) a b (n : Int) = if dF a n < dF b n then some (-1) else if dF a n > dF b n then some 1 else merinoref01_cmpD.l0 k a b ((n : Int) - 1) := fun k => by
      rw [merinoref01_cmpD.l0, if_pos (by omega), if_pos (by omega), if_pos (by omega), if_pos (by omega), rd_nat, rd_nat, w64 (by omega)]
    by_cases e1 : dF a n < dF b n
    · have h1 : vL a < vL b := by
        unfold vL; rw [← hl]
        exact vF_lt_of (i := n) (by omega) ha (by intro i hi; exact hb i (by omega)) (fun j h2 h3 => h j (by omega) h3) e1
      refine Ends.step (g := fun _ => some (-1)) (by unfold cmpI; rw [if_pos h1]; exact Ends.pure) fun k => ?_
      show merinoref01_cmpD.l0 (k + 1) a b (n : Int) = _
      rw [hu, if_pos e1]
    · by_cases e2 : dF b n < dF a n
      · have h1 : vL b < vL a := by
          unfold vL; rw [← hl]
          exact vF_lt_of (i := n) (by omega) (by intro i hi; exact hb i (by omega)) ha (fun j h2 h3 => (h j (by omega) h3).symm) e2
        refine Ends.step (g := fun _ => some 1) (by unfold cmpI; rw [if_neg (by omega), if_pos h1]; exact Ends.pure) fun k => ?_
        show merinoref01_cmpD.l0 (k + 1) a b (n : Int) = _
        rw [hu, if_neg e1, if_pos e2]
      · refine Ends.step (ih (by omega) fun j h1 h2 => ?_) fun k => ?_
        · by_cases e3 : j = n
          · rw [e3]; omega
          · exact h j (by omega) h2
        · show merinoref01_cmpD.l0 (k + 1) a b (n : Int) = _
          rw [hu, if_neg e1, if_neg e2]
theorem cmp_e {x y : Nat} (hx : (dg x).length ≤ 400) : Ends (fun k => merinoref01_cmpD.f k (dg x) (dg y)) (cmpI x y) := by
  by_cases e1 : (dg x).length < (dg y).length
  · have := dg_lt_of_len e1
    refine Ends.same (g := fun _ => some (-1)) (by unfold cmpI; rw [if_pos (by omega)]; exact Ends.pure) fun k => ?_
    unfold merinoref01_cmpD.f
    rw [if_pos (by omega)]
  · by_cases e2 : (dg y).length < (dg x).length
    · have := dg_lt_of_len e2
      refine Ends.same (g := fun _ => some 1) (by unfold cmpI; rw [if_neg (by omega), if_pos (by omega)]; exact Ends.pure) fun k => ?_
      unfold merinoref01_cmpD.f
      rw [if_neg (by omega), if_pos (by omega)]
    · have h := cmp_l0 (dg_good x) (dg_good y) (by omega) hx (dg x).length (Nat.le_refl _) fun j h1 h2 => absurd h2 (by omega)
      rw [dg_val, dg_val] at h
      refine Ends.same h fun k => ?_
      unfold merinoref01_cmpD.f
      rw [if_neg (by omega), if_neg (by omega), w64 (by omega)]
/-! subD -/
theorem sub_un {a b out : List Int} {c : Int} {i : Nat} (hc : 0 ≤ c ∧ c ≤ 1) (ba : 0 ≤ dF a i ∧ dF a i < 10000) (bb : 0 ≤ dF b i ∧ dF b i < 10000) (hi : i ≤ 1000) (hia : i < a.length) (ho : out.length < 17592186044416) (k : Nat) :
    merinoref01_subD.l0 (k + 1) a b out c (i : Int) = if dF a i - c - dF b i < 0 then merinoref01_subD.l0 k a b (out ++ [dF a i - c - dF b i + 10000]) 1 ((i + 1 : Nat) : Int) else merinoref01_subD.l0 k a b (out ++ [dF a i - c - dF b i]) 0 ((i + 1 : Nat) : Int) := by
  have p1 : (i : Int) < a.length := by omega
  have p2 : (0 : Int) ≤ i := by omega
  have p3 : i < b.length → (i : Int) < b.length := fun h => by omega
  have p4 : ¬ i < b.length → ¬ (i : Int) < b.length := fun h => by omega
  have z0 : ¬ i < b.length → dF b i = 0 := fun h => dF_over (by omega)
  have ew := w64s (i := i) (by omega)
  have q1 : wrap64 (dF a i - c) = dF a i - c := w64d (by omega)
  have q2 : wrap64 (dF a i - c - dF b i) = dF a i - c - dF b i := w64d (by omega)
  have q3 : wrap64 (dF a i - c - dF b i + 10000) = dF a i - c - dF b i + 10000 := w64d (by omega)
  have q4 : wrap64 (dF a i - c + 10000) = dF a i - c + 10000 := w64d (by omega)
  rw [merinoref01_subD.l0, if_pos p1, if_pos p2]
  by_cases e2 : i < b.length
  · rw [if_pos (p3 e2), rd_nat, rd_nat, q1, q2, q3, ew, if_pos ho, if_pos ho]
  · have z := z0 e2
    rw [if_neg (p4 e2), rd_nat, q1, q4, z, Int.sub_zero, ew, if_pos ho, if_pos ho]
theorem sub_l0 {a b : List Int} (ha : gL a) (hb : gL b) (hla : a.length ≤ 400) (hlb : b.length ≤ a.length) (hle : vL b ≤ vL a) : ∀ (m : Nat) (out : List Int) (c : Int), out.length + m = a.length → (c = 0 ∨ c = 1) → gL out →
    vL out - c * 10000 ^ out.length = vF out.length (dF a) - vF out.length (dF b) →
    Ends (fun k => merinoref01_subD.l0 k a b out c (out.length : Int)) (dg (vL a - vL b).toNat) := fun m => by
  induction m with
  | zero =>
    intro out c hm hc hg hv
    have hi : out.length = a.length := by omega
    rw [hi, vF_over (Nat.le_refl _), vF_over hlb] at hv
    have h1 : vL out < 10000 ^ a.length := by rw [← hi]; exact vF_lt hg
    have hc0 : c = 0 := by
      rcases hc with h | h
      · exact h
      · rw [h, Int.one_mul] at hv; omega
    have e : vL a - vL b = vL out := by rw [hc0, Int.zero_mul] at hv; omega
    rw [e]
    refine Ends.step (Ends.bind (trim_e (l := out) (by omega) hg) (h := fun t _ => some t) Ends.pure) fun k => ?_
    show merinoref01_subD.l0 (k + 1) a b out c (out.length : Int) = _
    rw [merinoref01_subD.l0, if_neg (by omega)]
  | succ m ih =>
    intro out c hm hc hg hv
    obtain ⟨i, hi⟩ : ∃ i, i = out.length := ⟨_, rfl⟩
    rw [← hi] at hm hv ⊢
    have ba := gL_dF ha i
    have bb := gL_dF hb i
    have hia : i < a.length := by omega
    have ho : out.length < 17592186044416 := by omega
    obtain ⟨d, hd⟩ : ∃ d, d = dF a i - c - dF b i := ⟨_, rfl⟩
    have hu := sub_un (a := a) (b := b) (out := out) (c := c) (i := i) (by omega) ba bb (by omega) hia ho
    rw [← hd] at hu
    by_cases hneg : d < 0
    · have h1 := sub_step (a := a) (b := b) (c := c) (out := out) (by rw [← hi]; exact hv) (s := d + 10000) (c' := 1) (by rw [← hi]; omega)
      have hl' : (out ++ [d + 10000]).length = i + 1 := by rw [List.length_append, hi]; rfl
      have h2 := ih (out ++ [d + 10000]) 1 (by rw [hl']; omega) (.inr rfl) (gL_snoc hg (by omega) (by omega)) (by rw [hl', hi]; exact h1)
      rw [hl'] at h2
      refine Ends.step h2 fun k => ?_
      show merinoref01_subD.l0 (k + 1) a b out c (i : Int) = _
      rw [hu, if_pos hneg]
    · have h1 := sub_step (a := a) (b := b) (c := c) (out := out) (by rw [← hi]; exact hv) (s := d) (c' := 0) (by rw [← hi]; omega)
      have hl' : (out ++ [d]).length = i + 1 := by rw [List.length_append, hi]; rfl
      have h2 := ih (out ++ [d]) 0 (by rw [hl']; omega) (.inl rfl) (gL_snoc hg (by omega) (by omega)) (by rw [hl', hi]; exact h1)
      rw [hl'] at h2
      refine Ends.step h2 fun k => ?_
      show merinoref01_subD.l0 (k + 1) a b out c (i : Int) = _
      rw [hu, if_neg hneg]
theorem sub_e {x y : Nat} (h : y ≤ x) (hx : (dg x).length ≤ 400) : Ends (fun k => merinoref01_subD.f k (dg x) (dg y)) (dg (x - y)) := by
  have hlb : (dg y).length ≤ (dg x).length := by
    by_cases e : (dg x).length < (dg y).length
    · have := dg_lt_of_len e; omega
    · omega
  have h1 := sub_l0 (dg_good x) (dg_good y) hx hlb (by rw [dg_val, dg_val]; omega) (dg x).length [] 0 (by simp) (.inl rfl) gL_nil (by simp [vL, vF])
  rw [dg_val, dg_val, show ((x : Int) - y).toNat = x - y by omega] at h1
  exact h1
end Go.Proofs.Ytcobihdjcdefmaa
