/-
  The plain law of the reference's Block: a matrix of what there is room for, ways that are pushed along until there is none, and the set that is still reached.
-/
import Derived.Test.YtpbndcmmclkdpaaQe
namespace Go.Proofs.Ytpbndcmmclkdpaa
open PFlowSolves
open Go.RowKit Go.Proofs.YtpbndcmmclkdpaaW.PrintWords
abbrev Mx := Nat → Nat → Int
def putM (R : Mx) (a b : Nat) (c : Int) : Mx := fun i j => if i = a ∧ j = b then c else R i j
theorem putM_eq (R : Mx) (a b : Nat) (c : Int) : putM R a b c a b = c := if_pos ⟨rfl, rfl⟩
theorem putM_ne {R : Mx} {a b : Nat} {c : Int} {i j : Nat} (h : ¬ (i = a ∧ j = b)) : putM R a b c i j = R i j := if_neg h
/-- What leaves a set. -/
def cutM (N : Nat) (R : Mx) (T : Nat → Bool) : Int := sumN N (fun i => sumN N (fun j => if T i && !T j then R i j else 0))
theorem cutM_put {N : Nat} (R : Mx) (T : Nat → Bool) {a b : Nat} (ha : a < N) (hb : b < N) (c : Int) :
    cutM N (putM R a b c) T = cutM N R T + (if T a && !T b then c - R a b else 0) := by
  have e : ∀ i j, (if T i && !T j then putM R a b c i j else 0) = (if T i && !T j then R i j else 0) + (if i = a then (if j = b then (if T a && !T b then c - R a b else 0) else 0) else 0) := fun i j => by
    unfold putM
    by_cases h1 : i = a
    · by_cases h2 : j = b
      · subst h1 h2; simp only [and_self, if_true]; split <;> omega
      · simp only [h1, h2, and_false, if_false, if_true]; omega
    · simp only [h1, false_and, if_false]; omega
  unfold cutM
  rw [sumN_congr fun i _ => (sumN_congr fun j _ => e i j).trans (sumN_add N _ _), sumN_add]
  refine congrArg (sumN N (fun i => sumN N (fun j => if T i && !T j then R i j else 0)) + ·) ((sumN_congr fun i _ => ?_).trans (sumN_single ha (if T a && !T b then c - R a b else 0)))
  by_cases h1 : i = a
  · simp only [h1, if_true]; exact sumN_single hb _
  · simp only [h1, if_false]; exact sumN_zero fun _ _ => rfl
theorem term_nn {x : Int} (b : Bool) (h : 0 ≤ x) : 0 ≤ (if b then x else 0) := by cases b <;> simp [h]
theorem cutM_nonneg {N : Nat} {R : Mx} (h : ∀ i j, i < N → j < N → 0 ≤ R i j) (T : Nat → Bool) : 0 ≤ cutM N R T :=
  sumN_nonneg fun i hi => sumN_nonneg fun j hj => term_nn _ (h i j hi hj)
theorem cutM_zero {N : Nat} {R : Mx} (h : ∀ i j, i < N → j < N → 0 ≤ R i j) {T : Nat → Bool} (hz : cutM N R T ≤ 0) : ∀ i j, i < N → j < N → T i = true → 0 < R i j → T j = true := fun i j hi hj ht hp => by
  have h1 := sumN_eq_zero (n := N) (f := fun i => sumN N (fun j => if T i && !T j then R i j else 0)) (fun i hi => sumN_nonneg fun j hj => term_nn _ (h i j hi hj)) hz i hi
  have h2 := sumN_eq_zero (n := N) (f := fun j => if T i && !T j then R i j else 0) (fun j hj => term_nn _ (h i j hi hj)) (Int.le_of_eq h1) j hj
  cases hT : T j with
  | true => rfl
  | false =>
    have h3 : (if T i && !T j then R i j else 0) = 0 := h2
    rw [ht, hT] at h3
    simp only [Bool.not_false, Bool.and_self, if_true] at h3
    omega
theorem cutM_shut {N : Nat} {R : Mx} (h : ∀ i j, i < N → j < N → 0 ≤ R i j) {T : Nat → Bool} (hT : ∀ i j, i < N → j < N → T i = true → 0 < R i j → T j = true) : cutM N R T = 0 :=
  sumN_zero fun i hi => sumN_zero fun j hj => by
    by_cases hc : (T i && !T j) = true
    · rw [if_pos hc]
      rw [Bool.and_eq_true] at hc
      have := h i j hi hj
      by_cases hp : 0 < R i j
      · have := hT i j hi hj hc.1 hp; rw [this] at hc; simp at hc
      · omega
    · rw [if_neg hc]
/-- One step of a way carries more. -/
def stepM (m : Int) (R : Mx) (u v : Nat) : Mx := putM (putM R u v (R u v - m)) v u (R v u + m)
theorem stepM_cut {N : Nat} (m : Int) (R : Mx) (T : Nat → Bool) {u v : Nat} (hu : u < N) (hv : v < N) (hne : u ≠ v) :
    cutM N (stepM m R u v) T = cutM N R T - m * ((if T u then 1 else 0) - (if T v then 1 else 0)) := by
  unfold stepM
  rw [cutM_put _ T hv hu, cutM_put _ T hu hv, putM_ne (by intro h; exact hne h.2)]
  cases T u <;> cases T v <;> simp <;> omega
theorem stepM_pair (m : Int) (R : Mx) {u v : Nat} (hne : u ≠ v) (i j : Nat) : stepM m R u v i j + stepM m R u v j i = R i j + R j i := by
  unfold stepM putM
  by_cases h1 : i = u
  · by_cases h2 : j = v
    · subst h1 h2
      have h3 : ¬ (j = i) := fun h => hne h.symm
      simp [hne, h3]; omega
    · by_cases h3 : i = v
      · exact absurd (h1.symm.trans h3) hne
      · simp [h2, h3]
  · by_cases h2 : i = v
    · by_cases h3 : j = u
      · subst h2 h3; simp [h1]; omega
      · simp [h1, h3]
    · simp [h1, h2]
theorem stepM_ge (m : Int) (hm : 0 ≤ m) (R : Mx) {u v : Nat} {i j : Nat} (h : ¬ (i = u ∧ j = v)) : R i j ≤ stepM m R u v i j := by
  unfold stepM
  by_cases h1 : i = v ∧ j = u
  · rw [h1.1, h1.2, putM_eq]; omega
  · rw [putM_ne h1, putM_ne h]; exact Int.le_refl _
theorem stepM_at (m : Int) (R : Mx) {u v : Nat} (hne : u ≠ v) : stepM m R u v u v = R u v - m := by
  unfold stepM
  rw [putM_ne (fun h => hne h.1), putM_eq]
/-- A way back to the source. -/
inductive Pth (b : Nat → Int) (s : Nat) : Nat → List Nat → Prop
  | nil : Pth b s s []
  | cons {k : Nat} {l : List Nat} : k ≠ s → Pth b s (b k).toNat l → Pth b s k (k :: l)
def pushM (m : Int) (b : Nat → Int) (R : Mx) (l : List Nat) : Mx := l.foldl (fun R k => stepM m R (b k).toNat k) R
theorem pushM_snoc (m : Int) (b : Nat → Int) (R : Mx) (l : List Nat) (k : Nat) : pushM m b R (l ++ [k]) = stepM m (pushM m b R l) (b k).toNat k := by
  unfold pushM; rw [List.foldl_append]; rfl
structure WayM (N : Nat) (R : Mx) (b : Nat → Int) (m : Int) (l : List Nat) : Prop where
  rng : ∀ k ∈ l, k < N ∧ (b k).toNat < N ∧ (b k).toNat ≠ k
  room : ∀ k ∈ l, m ≤ R (b k).toNat k
  nd : l.Nodup
theorem WayM.tail {N : Nat} {R : Mx} {b : Nat → Int} {m : Int} {k : Nat} {l : List Nat} (h : WayM N R b m (k :: l)) (hm : 0 ≤ m) : WayM N (stepM m R (b k).toNat k) b m l :=
  ⟨fun j hj => h.rng j (List.mem_cons_of_mem _ hj), fun j hj => Int.le_trans (h.room j (List.mem_cons_of_mem _ hj)) (stepM_ge m hm R fun e => (List.nodup_cons.1 h.nd).1 (e.2 ▸ hj)), (List.nodup_cons.1 h.nd).2⟩
theorem pushM_nonneg {N : Nat} {b : Nat → Int} {m : Int} (hm : 0 ≤ m) : ∀ {l : List Nat} {R : Mx}, (∀ i j, i < N → j < N → 0 ≤ R i j) → WayM N R b m l → ∀ i j, i < N → j < N → 0 ≤ pushM m b R l i j
  | [], _, h, _ => h
  | k :: l, R, h, hw => pushM_nonneg (l := l) hm (fun i j hi hj => by
      by_cases he : i = (b k).toNat ∧ j = k
      · show 0 ≤ stepM m R (b k).toNat k i j
        rw [he.1, he.2, stepM_at m R (hw.rng k (List.mem_cons_self ..)).2.2]
        have := hw.room k (List.mem_cons_self ..); omega
      · exact Int.le_trans (h i j hi hj) (stepM_ge m hm R he)) (hw.tail hm)
theorem pushM_pair {N : Nat} {b : Nat → Int} {m : Int} : ∀ {l : List Nat} {R : Mx}, (∀ k ∈ l, k < N ∧ (b k).toNat < N ∧ (b k).toNat ≠ k) → ∀ i j, pushM m b R l i j + pushM m b R l j i = R i j + R j i
  | [], _, _, _, _ => rfl
  | k :: l, R, h, i, j => (pushM_pair (l := l) (R := stepM m R (b k).toNat k) (fun x hx => h x (List.mem_cons_of_mem _ hx)) i j).trans (stepM_pair m R (h k (List.mem_cons_self ..)).2.2 i j)
theorem pushM_cut {N : Nat} {b : Nat → Int} {m : Int} {s : Nat} (T : Nat → Bool) : ∀ {l : List Nat} {R : Mx} {k : Nat}, Pth b s k l → (∀ k ∈ l, k < N ∧ (b k).toNat < N ∧ (b k).toNat ≠ k) →
    cutM N (pushM m b R l) T = cutM N R T - m * ((if T s then 1 else 0) - (if T k then 1 else 0))
  | [], R, k, hp, _ => by
    cases hp
    show cutM N R T = _
    rw [Int.sub_self, Int.mul_zero, Int.sub_zero]
  | k :: l, R, k', hp, h => by
    cases hp with
    | cons hne hp =>
      have h0 := h k (List.mem_cons_self ..)
      have := pushM_cut (m := m) T (R := stepM m R (b k).toNat k) hp (fun x hx => h x (List.mem_cons_of_mem _ hx))
      rw [show pushM m b R (k :: l) = pushM m b (stepM m R (b k).toNat k) l from rfl, this, stepM_cut m R T h0.2.1 h0.1 h0.2.2]
      generalize (if T s then (1 : Int) else 0) = x, (if T (b k).toNat then (1 : Int) else 0) = y, (if T k then (1 : Int) else 0) = z
      rw [Int.mul_sub, Int.mul_sub, Int.mul_sub]
      omega
/-- The state of the matrix between pushes. -/
structure MF (N s t : Nat) (C R : Mx) : Prop where
  nn : ∀ i j, i < N → j < N → 0 ≤ R i j
  pair : ∀ i j, R i j + R j i = C i j + C j i
  cut : ∃ F, ∀ T : Nat → Bool, T s = true → T t = false → cutM N R T = cutM N C T - F
theorem MF.start {N s t : Nat} {C : Mx} (h : ∀ i j, i < N → j < N → 0 ≤ C i j) : MF N s t C C := ⟨h, fun _ _ => rfl, 0, fun T _ _ => (Int.sub_zero _).symm⟩
theorem MF.push {N s t : Nat} {C R : Mx} (h : MF N s t C R) {b : Nat → Int} {m : Int} (hm : 0 ≤ m) {l : List Nat} (hp : Pth b s t l) (hw : WayM N R b m l) : MF N s t C (pushM m b R l) := by
  refine ⟨pushM_nonneg hm h.nn hw, fun i j => (pushM_pair hw.rng i j).trans (h.pair i j), ?_⟩
  obtain ⟨F, hF⟩ := h.cut
  exact ⟨F + m, fun T h1 h2 => by rw [pushM_cut T hp hw.rng, hF T h1 h2, h1, h2]; simp; omega⟩
/-- What is left to carry gets less with each push. -/
def leftM (N s : Nat) (R : Mx) : Int := cutM N R (fun i => i == s)
theorem leftM_push {N s t : Nat} {R : Mx} {b : Nat → Int} {m : Int} {l : List Nat} (hst : s ≠ t) (hp : Pth b s t l) (hr : ∀ k ∈ l, k < N ∧ (b k).toNat < N ∧ (b k).toNat ≠ k) : leftM N s (pushM m b R l) = leftM N s R - m := by
  have h1 : (s == s) = true := beq_self_eq_true s
  have h2 : (t == s) = false := by simp; exact fun e => hst e.symm
  unfold leftM
  rw [pushM_cut (fun i => i == s) hp hr]
  simp only [h1, h2]
  simp
/-- The search for a way: who was reached from whom, and how deep. -/
structure BF (N s : Nat) (R : Mx) (b : Nat → Int) (r : Nat → Nat) (Q : List Nat) : Prop where
  root : b s = s
  mem : ∀ v, v < N → (0 ≤ b v ↔ v ∈ Q)
  nd : Q.Nodup
  lt : ∀ v ∈ Q, v < N
  rng : ∀ v, v < N → -1 ≤ b v ∧ b v < N
  par : ∀ v, v < N → v ≠ s → 0 ≤ b v → 0 ≤ b (b v).toNat ∧ r (b v).toNat < r v ∧ 0 < R (b v).toNat v
def setB (b : Nat → Int) (k : Nat) (c : Int) : Nat → Int := fun i => if i = k then c else b i
def setR (r : Nat → Nat) (k : Nat) (c : Nat) : Nat → Nat := fun i => if i = k then c else r i
theorem BF.start {N s : Nat} {R : Mx} (hs : s < N) : BF N s R (setB (fun _ => -1) s s) (fun _ => 0) [s] where
  root := if_pos rfl
  mem v hv := by
    unfold setB
    by_cases h : v = s
    · simp [h]
    · simp [h]
  nd := by simp
  lt v hv := by simp at hv; omega
  rng v hv := by show -1 ≤ (if v = s then (s : Int) else -1) ∧ (if v = s then (s : Int) else -1) < N; split <;> omega
  par v hv hne h := by have e : setB (fun _ => -1) s s v = -1 := if_neg hne
                       omega
theorem BF.add {N s : Nat} {R : Mx} {b : Nat → Int} {r : Nat → Nat} {Q : List Nat} (h : BF N s R b r Q) {u k : Nat} (hu : u ∈ Q) (hk : k < N) (hn : b k < 0) (hR : 0 < R u k) :
    BF N s R (setB b k u) (setR r k (r u + 1)) (Q ++ [k]) := by
  have hkQ : k ∉ Q := fun e => by have := (h.mem k hk).2 e; omega
  have huN := h.lt u hu
  have huk : u ≠ k := fun e => hkQ (e ▸ hu)
  have hub := (h.mem u huN).2 hu
  constructor
  · unfold setB
    by_cases e : s = k
    · have := h.root; rw [e] at this; omega
    · rw [if_neg e]; exact h.root
  · intro v hv
    unfold setB
    by_cases e : v = k
    · simp [e]
    · simp only [e, if_false, List.mem_append, List.mem_singleton, or_false]; exact h.mem v hv
  · rw [List.nodup_append]
    exact ⟨h.nd, by simp, fun a ha c hc => by simp at hc; subst hc; exact fun e => hkQ (e ▸ ha)⟩
  · intro v hv
    rw [List.mem_append, List.mem_singleton] at hv
    rcases hv with hv | hv
    · exact h.lt v hv
    · omega
  · intro v hv; unfold setB; split
    · omega
    · exact h.rng v hv
  · intro v hv hne hb
    by_cases e : v = k
    · subst e
      simp only [setB, setR, if_true, Int.toNat_natCast, if_neg huk]
      exact ⟨hub, Nat.lt_succ_self _, hR⟩
    · have e1 : setB b k u v = b v := if_neg e
      rw [e1] at hb ⊢
      obtain ⟨p1, p2, p3⟩ := h.par v hv hne hb
      have e2 : (b v).toNat ≠ k := fun e3 => by rw [e3] at p1; omega
      have e3 : setR r k (r u + 1) v = r v := if_neg e
      have e4 : setR r k (r u + 1) (b v).toNat = r (b v).toNat := if_neg e2
      have e5 : setB b k u (b v).toNat = b (b v).toNat := if_neg e2
      rw [e3, e4, e5]
      exact ⟨p1, p2, p3⟩
theorem BF.len {N s : Nat} {R : Mx} {b : Nat → Int} {r : Nat → Nat} {Q : List Nat} (h : BF N s R b r Q) : Q.length ≤ N := by
  have := nodup_len (n := N) (l := Q.map (fun v : Nat => (v : Int))) (List.pairwise_map.2 (h.nd.imp fun e e' => e (by omega))) (fun e he => by
    obtain ⟨v, hv, rfl⟩ := List.mem_map.1 he
    have := h.lt v hv; omega)
  simpa using this
/-- The way that the search has found. -/
theorem BF.way {N s : Nat} {R : Mx} {b : Nat → Int} {r : Nat → Nat} {Q : List Nat} (h : BF N s R b r Q) : ∀ (n k : Nat), r k < n → k < N → 0 ≤ b k →
    ∃ l, Pth b s k l ∧ (∀ v ∈ l, v < N ∧ v ≠ s ∧ 0 ≤ b v ∧ r v ≤ r k) ∧ l.Nodup
  | 0, _, h, _, _ => absurd h (Nat.not_lt_zero _)
  | n + 1, k, hr, hk, hb => by
    by_cases e : k = s
    · subst e; exact ⟨[], .nil, fun _ h => absurd h (List.not_mem_nil), List.nodup_nil⟩
    · obtain ⟨p1, p2, p3⟩ := h.par k hk e hb
      have hlt : (b k).toNat < N := by have := h.rng k hk; omega
      obtain ⟨l, l1, l2, l3⟩ := h.way n (b k).toNat (by omega) hlt p1
      refine ⟨k :: l, .cons e l1, fun v hv => ?_, List.nodup_cons.2 ⟨fun hk => ?_, l3⟩⟩
      · rcases List.mem_cons.1 hv with rfl | hv
        · exact ⟨hk, e, hb, Nat.le_refl _⟩
        · obtain ⟨q1, q2, q3, q4⟩ := l2 v hv; exact ⟨q1, q2, q3, by omega⟩
      · have := (l2 k hk).2.2.2; omega
theorem BF.wayM {N s : Nat} {R : Mx} {b : Nat → Int} {r : Nat → Nat} {Q : List Nat} (h : BF N s R b r Q) {k : Nat} (hk : k < N) (hb : 0 ≤ b k) :
    ∃ l, Pth b s k l ∧ l.Nodup ∧ ∀ v ∈ l, v < N ∧ v ≠ s ∧ (b v).toNat < N ∧ (b v).toNat ≠ v ∧ 0 ≤ b v ∧ 0 < R (b v).toNat v := by
  obtain ⟨l, l1, l2, l3⟩ := h.way (r k + 1) k (Nat.lt_succ_self _) hk hb
  refine ⟨l, l1, l3, fun v hv => ?_⟩
  obtain ⟨q1, q2, q3, _⟩ := l2 v hv
  obtain ⟨p1, p2, p3⟩ := h.par v q1 q2 q3
  have := h.rng v q1
  exact ⟨q1, q2, by omega, fun e => by rw [e] at p2; exact absurd p2 (Nat.lt_irrefl _), q3, p3⟩
/-- The sets that a set of nodes stands for. -/
def ofS (n : Nat) (S : Int → Bool) : Nat → Bool := fun i => if i = n then true else if i < n then S (i : Int) else false
/-- The matrix of a network: what its cuts let through. -/
structure MatOf (n m : Nat) (A : Nat → Ar) (need : Nat → Int) (C : Mx) : Prop where
  nn : ∀ i j, i < n + 2 → j < n + 2 → 0 ≤ C i j
  cut : ∀ S : Int → Bool, cutM (n + 2) C (ofS n S) = sumN n (fun v => max 0 (need v)) - excF n m A need S
theorem block_of {n m : Nat} {A : Nat → Ar} {need : Nat → Int} {C R : Mx} (hC : MatOf n m A need C) (h : MF (n + 2) n (n + 1) C R) {seen : Nat → Bool} (h0 : seen n = true) (h1 : seen (n + 1) = false)
    (hs : ∀ i j, i < n + 2 → j < n + 2 → seen i = true → 0 < R i j → seen j = true)
    (hl : ∀ T : Nat → Bool, T n = true → (∀ i j, i < n + 2 → j < n + 2 → T i = true → 0 < R i j → T j = true) → ∀ i, i < n + 2 → seen i = true → T i = true) :
    IsBlock n m A need (fun v => seen v.toNat) := by
  obtain ⟨F, hF⟩ := h.cut
  have a0 : ∀ S, ofS n S n = true := fun S => if_pos rfl
  have a1 : ∀ S, ofS n S (n + 1) = false := fun S => by unfold ofS; rw [if_neg (by omega), if_neg (by omega)]
  have e : ∀ S, cutM (n + 2) R (ofS n S) = sumN n (fun v => max 0 (need v)) - excF n m A need S - F := fun S => by rw [hF _ (a0 S) (a1 S), hC.cut]
  have hn : ∀ S, 0 ≤ cutM (n + 2) R (ofS n S) := fun S => cutM_nonneg h.nn _
  have hsame : ∀ i, i < n + 2 → ofS n (fun v => seen v.toNat) i = seen i := fun i hi => by
    unfold ofS
    by_cases e1 : i = n
    · rw [if_pos e1, e1, h0]
    · by_cases e2 : i < n
      · rw [if_neg e1, if_pos e2]; rfl
      · rw [if_neg e1, if_neg e2, show i = n + 1 by omega, h1]
  have hz : cutM (n + 2) R (ofS n (fun v => seen v.toNat)) = 0 := cutM_shut h.nn fun i j hi hj => by
    rw [hsame i hi, hsame j hj]; exact hs i j hi hj
  have hz' := e (fun v => seen v.toNat)
  constructor
  · intro S
    have := e S; have := hn S; omega
  · intro S hS v hv hsv
    have h2 := e S
    have h3 : cutM (n + 2) R (ofS n S) ≤ 0 := by omega
    have h4 := hl (ofS n S) (a0 S) (cutM_zero h.nn h3) v (by omega) (by simpa using hsv)
    unfold ofS at h4
    rw [if_neg (by omega), if_pos hv] at h4
    exact h4
/-- The matrix as it is laid: arcs first. -/
structure Lay1 (n i : Nat) (A : Nat → Ar) (C : Mx) : Prop where
  nn : ∀ a b, 0 ≤ C a b ∧ C a b ≤ i * 1099511627776
  out : ∀ a b, C a b ≠ 0 → a < n ∧ b < n
  cut : ∀ S : Int → Bool, cutM (n + 2) C (ofS n S) = capOut i A S
theorem Lay1.zero (n : Nat) (A : Nat → Ar) : Lay1 n 0 A (fun _ _ => 0) where
  nn _ _ := by simp
  out _ _ h := absurd rfl h
  cut S := by
    unfold cutM
    rw [sumN_zero fun i _ => sumN_zero fun j _ => by simp]; rfl
theorem ofS_at {n : Nat} {S : Int → Bool} {x : Int} (h0 : 0 ≤ x) (h1 : x < n) : ofS n S x.toNat = S x := by
  unfold ofS; rw [if_neg (by omega), if_pos (by omega), Int.toNat_of_nonneg h0]
theorem Lay1.add {n i : Nat} {A : Nat → Ar} {C : Mx} (h : Lay1 n i A C) (hA : 0 ≤ (A i).f0 ∧ (A i).f0 < n ∧ 0 ≤ (A i).f1 ∧ (A i).f1 < n) (hc : 0 ≤ (A i).f2 ∧ (A i).f2 ≤ 1099511627776) :
    Lay1 n (i + 1) A (putM C (A i).f0.toNat (A i).f1.toNat (C (A i).f0.toNat (A i).f1.toNat + (A i).f2)) where
  nn a b := by
    have h1 := h.nn a b
    have h2 := h.nn (A i).f0.toNat (A i).f1.toNat
    unfold putM; split
    · omega
    · omega
  out a b hne := by
    unfold putM at hne
    by_cases e : a = (A i).f0.toNat ∧ b = (A i).f1.toNat
    · omega
    · rw [if_neg e] at hne; exact h.out a b hne
  cut S := by
    rw [cutM_put C _ (by omega) (by omega), h.cut S, ofS_at hA.1 hA.2.1, ofS_at hA.2.2.1 hA.2.2.2]
    show _ = capOut i A S + (if S (A i).f0 && !S (A i).f1 then (A i).f2 else 0)
    refine congrArg (capOut i A S + ·) ?_
    split
    · omega
    · rfl
/-- … then the needs. -/
structure Lay2 (n m i : Nat) (A : Nat → Ar) (need : Nat → Int) (C : Mx) : Prop where
  nn : ∀ a b, 0 ≤ C a b ∧ C a b ≤ 1125899906842624
  row : ∀ b, i ≤ b → C n b = 0
  col : ∀ a, i ≤ a → C a (n + 1) = 0
  cut : ∀ S : Int → Bool, cutM (n + 2) C (ofS n S) = capOut m A S + sumN i (fun v => max 0 (need v)) - sumN i (fun v => (if S v then 1 else 0) * need v)
theorem Lay1.next {n m : Nat} {A : Nat → Ar} {C : Mx} {need : Nat → Int} (h : Lay1 n m A C) (hm : m ≤ 140) : Lay2 n m 0 A need C where
  nn a b := by have := h.nn a b; omega
  row b _ := by
    by_cases e : C n b = 0
    · exact e
    · exact absurd (h.out n b e).1 (Nat.lt_irrefl _)
  col a _ := by
    by_cases e : C a (n + 1) = 0
    · exact e
    · have := (h.out a (n + 1) e).2; omega
  cut S := by rw [h.cut S]; simp [sumN]
theorem Lay2.add {n m i : Nat} {A : Nat → Ar} {C : Mx} {need : Nat → Int} (h : Lay2 n m i A need C) (hi : i < n) (hx : -140737488355328 ≤ need i ∧ need i ≤ 140737488355328) :
    Lay2 n m (i + 1) A need (putM (putM C n i (max 0 (need i))) i (n + 1) (max 0 (-need i))) where
  nn a b := by
    have := h.nn a b
    unfold putM; split
    · omega
    · split <;> omega
  row b hb := by
    unfold putM
    rw [if_neg (by omega), if_neg (by omega)]; exact h.row b (by omega)
  col a ha := by
    unfold putM
    rw [if_neg (by omega), if_neg (by omega)]; exact h.col a (by omega)
  cut S := by
    have e0 : ofS n S n = true := if_pos rfl
    have e1 : ofS n S (n + 1) = false := by unfold ofS; rw [if_neg (by omega), if_neg (by omega)]
    have e2 : ofS n S i = S (i : Int) := by unfold ofS; rw [if_neg (by omega), if_pos hi]
    rw [cutM_put _ _ (by omega) (by omega), cutM_put _ _ (by omega) (by omega), putM_ne (by omega), h.row i (Nat.le_refl _), h.col i (Nat.le_refl _), h.cut S, e0, e1, e2]
    show _ = capOut m A S + (sumN i (fun v => max 0 (need v)) + max 0 (need i)) - (sumN i (fun v => (if S v then 1 else 0) * need v) + (if S (i : Int) then 1 else 0) * need i)
    generalize sumN i (fun v => max 0 (need v)) = x, sumN i (fun v => (if S v then 1 else 0) * need v) = y
    cases S (i : Int) with
    | true => simp; omega
    | false => simp; omega
theorem Lay2.done {n m : Nat} {A : Nat → Ar} {C : Mx} {need : Nat → Int} (h : Lay2 n m n A need C) : MatOf n m A need C where
  nn i j _ _ := (h.nn i j).1
  cut S := by rw [h.cut S]; unfold excF; omega
end Go.Proofs.Ytpbndcmmclkdpaa
