/-
  FlowBlends: the search for a blend, in plain Lean.
-/
import Derived.Test.YtpbndcmmclkdpaaKp
namespace Go.Proofs.Ytpbndcmmclkdpaa
/-- The numbers from t down to 0. -/
def downTo : Nat → List Nat
  | 0 => [0]
  | t + 1 => (t + 1) :: downTo t
theorem mem_downTo {t u : Nat} : u ∈ downTo t ↔ u ≤ t := by
  induction t with
  | zero => simp [downTo]
  | succ t ih => simp [downTo, ih]; omega
theorem downTo_sort (t : Nat) : (downTo t).Pairwise (· > ·) := by
  induction t with
  | zero => simp [downTo]
  | succ t ih => exact List.pairwise_cons.2 ⟨fun u hu => by have := mem_downTo.1 hu; omega, ih⟩
/-- The mixes of at most n bales, in the order of the search. -/
def mixes : List S49 → Nat → List (List Int)
  | [], _ => [[]]
  | p :: ps, n => (downTo (min n p.f0.toNat)).flatMap fun t => (mixes ps (n - t)).map ((t : Int) :: ·)
def gr : List S49 → List Int → Int
  | p :: ps, t :: c => t * p.f2 + gr ps c
  | _, _ => 0
def co : List S49 → List Int → Int
  | p :: ps, t :: c => t * p.f1 + co ps c
  | _, _ => 0
def stepB (lo hi : Int) (ps : List S49) (pre : List Int) (n : Nat) (g s : Int) (st : Int × List Int) (c : List Int) : Int × List Int :=
  if (c.sum = (n : Int) ∧ lo ≤ g + gr ps c ∧ g + gr ps c ≤ hi) ∧ s + co ps c < st.1 then (s + co ps c, pre ++ c) else st
def runB (lo hi : Int) (ps : List S49) (pre : List Int) (n : Nat) (g s : Int) (st : Int × List Int) : Int × List Int := (mixes ps n).foldl (stepB lo hi ps pre n g s) st
/-- What the search finds in the mixes that begin with at most t of the next parcel. -/
def turnB (lo hi : Int) (p : S49) (ps : List S49) (pre : List Int) (n : Nat) (g s : Int) : Nat → (Int × List Int) → Int × List Int
  | 0, st => runB lo hi ps (pre ++ [0]) n g s st
  | t + 1, st => turnB lo hi p ps pre n g s t (runB lo hi ps (pre ++ [((t + 1 : Nat) : Int)]) (n - (t + 1)) (g + ((t + 1 : Nat) : Int) * p.f2) (s + ((t + 1 : Nat) : Int) * p.f1) st)
theorem runB_nil (lo hi : Int) (pre : List Int) (n : Nat) (g s : Int) (st : Int × List Int) : runB lo hi [] pre n g s st = if ((n : Int) = 0 ∧ lo ≤ g ∧ g ≤ hi) ∧ s < st.1 then (s, pre) else st := by
  unfold runB mixes stepB
  simp [gr, co, eq_comm]
theorem foldl_same {α β : Type} {f g : β → α → β} {l : List α} (h : ∀ b, ∀ a ∈ l, f b a = g b a) (b : β) : l.foldl f b = l.foldl g b := by
  induction l generalizing b with
  | nil => rfl
  | cons a l ih =>
    simp only [List.foldl_cons]
    rw [h b a (List.mem_cons_self ..), ih fun b a ha => h b a (List.mem_cons_of_mem _ ha)]
theorem stepB_cons {lo hi : Int} {p : S49} {ps : List S49} {pre : List Int} {n t : Nat} {g s : Int} (ht : t ≤ n) (st : Int × List Int) (c : List Int) :
    stepB lo hi (p :: ps) pre n g s st ((t : Int) :: c) = stepB lo hi ps (pre ++ [(t : Int)]) (n - t) (g + t * p.f2) (s + t * p.f1) st c := by
  have e1 : ((t : Int) + c.sum = n) = (c.sum = ((n - t : Nat) : Int)) := by
    apply propext
    omega
  unfold stepB
  simp only [List.sum_cons, gr, co, List.append_assoc, List.cons_append, List.nil_append, Int.add_assoc, e1]
theorem turnB_fold (lo hi : Int) (p : S49) (ps : List S49) (pre : List Int) (n : Nat) (g s : Int) : ∀ (t : Nat) (st : Int × List Int), t ≤ n →
    turnB lo hi p ps pre n g s t st = ((downTo t).flatMap fun t => (mixes ps (n - t)).map ((t : Int) :: ·)).foldl (stepB lo hi (p :: ps) pre n g s) st
  | 0, st, _ => by
    simp only [turnB, downTo, List.flatMap_cons, List.flatMap_nil, List.append_nil, List.foldl_map]
    unfold runB
    refine (foldl_same (fun b a _ => ?_) st).symm
    rw [stepB_cons (Nat.zero_le _)]
    simp
  | t + 1, st, ht => by
    simp only [turnB, downTo, List.flatMap_cons, List.foldl_append, List.foldl_map]
    rw [turnB_fold lo hi p ps pre n g s t _ (by omega)]
    congr 1
    unfold runB
    exact (foldl_same (fun b a _ => stepB_cons ht b a) st).symm
theorem runB_cons (lo hi : Int) (p : S49) (ps : List S49) (pre : List Int) (n : Nat) (g s : Int) (st : Int × List Int) : runB lo hi (p :: ps) pre n g s st = turnB lo hi p ps pre n g s (min n p.f0.toNat) st := by
  rw [turnB_fold _ _ _ _ _ _ _ _ _ _ (Nat.min_le_left _ _)]
  rfl
/-- What a mix is. -/
def Fits : List S49 → List Int → Prop
  | [], [] => True
  | p :: ps, t :: c => (0 ≤ t ∧ t ≤ p.f0) ∧ Fits ps c
  | _, _ => False
theorem fits_sum {ps : List S49} : ∀ {c : List Int}, Fits ps c → 0 ≤ c.sum := by
  induction ps with
  | nil =>
    intro c h
    cases c with
    | nil => simp
    | cons => exact h.elim
  | cons q ps ih =>
    intro c h
    cases c with
    | nil => exact h.elim
    | cons u c =>
      rw [List.sum_cons]
      have := ih h.2
      have := h.1.1
      omega
theorem mem_mixes {ps : List S49} (hp : ∀ p ∈ ps, 0 ≤ p.f0) : ∀ {n : Nat} {c : List Int}, c ∈ mixes ps n ↔ Fits ps c ∧ c.sum ≤ n := by
  induction ps with
  | nil =>
    intro n c
    cases c with
    | nil => simp [mixes, Fits]
    | cons t c => simp [mixes, Fits]
  | cons p ps ih =>
    have ih := @ih (fun q hq => hp q (List.mem_cons_of_mem _ hq))
    have h0 := hp p (List.mem_cons_self ..)
    intro n c
    simp only [mixes, List.mem_flatMap, List.mem_map]
    constructor
    · rintro ⟨t, ht, d, hd, rfl⟩
      have ht := mem_downTo.1 ht
      obtain ⟨h1, h2⟩ := ih.1 hd
      refine ⟨⟨⟨by omega, by omega⟩, h1⟩, ?_⟩
      rw [List.sum_cons]
      omega
    · cases c with
      | nil => rintro ⟨h, _⟩; exact h.elim
      | cons t c =>
        rintro ⟨⟨⟨h1, h2⟩, h3⟩, h4⟩
        rw [List.sum_cons] at h4
        have hs : 0 ≤ c.sum := fits_sum h3
        exact ⟨t.toNat, mem_downTo.2 (by omega), c, ih.2 ⟨h3, by omega⟩, by rw [Int.toNat_of_nonneg h1]⟩
/-- Greater in the order of the search. -/
def Gt : List Int → List Int → Prop
  | a :: c, b :: d => b < a ∨ (a = b ∧ Gt c d)
  | _, _ => False
theorem mixes_sort (ps : List S49) : ∀ n, (mixes ps n).Pairwise Gt := by
  induction ps with
  | nil => intro n; simp [mixes]
  | cons p ps ih =>
    intro n
    unfold mixes
    rw [List.flatMap_def, List.pairwise_flatten]
    refine ⟨fun l hl => ?_, ?_⟩
    · obtain ⟨t, _, rfl⟩ := List.mem_map.1 hl
      rw [List.pairwise_map]
      exact (ih (n - t)).imp fun h => .inr ⟨rfl, h⟩
    · rw [List.pairwise_map]
      refine (downTo_sort _).imp fun {t u} h => ?_
      intro x hx y hy
      obtain ⟨c, _, rfl⟩ := List.mem_map.1 hx
      obtain ⟨d, _, rfl⟩ := List.mem_map.1 hy
      exact .inl (by omega)
/-- The first of the cheapest. -/
theorem pick_best {α : Type} {R : α → α → Prop} (ok : α → Prop) [DecidablePred ok] (cost : α → Int) : ∀ (l : List α) (st : Int × α), l.Pairwise R →
    let r := l.foldl (fun st c => if ok c ∧ cost c < st.1 then (cost c, c) else st) st
    (r = st ∧ ∀ c ∈ l, ok c → st.1 ≤ cost c) ∨ (r.2 ∈ l ∧ ok r.2 ∧ r.1 = cost r.2 ∧ r.1 < st.1 ∧ ∀ c ∈ l, ok c → r.1 < cost c ∨ (r.1 = cost c ∧ (c = r.2 ∨ R r.2 c)))
  | [], st, _ => .inl ⟨rfl, fun c h => absurd h (by simp)⟩
  | a :: l, st, hs => by
    obtain ⟨h1, h2⟩ := List.pairwise_cons.1 hs
    simp only [List.foldl_cons]
    by_cases hc : ok a ∧ cost a < st.1
    · rw [if_pos hc]
      rcases pick_best ok cost l (cost a, a) h2 with ⟨e, h⟩ | ⟨k1, k2, k3, k4, k5⟩
      · refine .inr ?_
        rw [e]
        refine ⟨List.mem_cons_self .., hc.1, rfl, hc.2, fun c hm ho => ?_⟩
        rcases List.mem_cons.1 hm with rfl | hm
        · exact .inr ⟨rfl, .inl rfl⟩
        · have := h c hm ho
          rcases Int.lt_or_eq_of_le this with g | g
          · exact .inl g
          · exact .inr ⟨g, .inr (h1 c hm)⟩
      · refine .inr ⟨List.mem_cons_of_mem _ k1, k2, k3, Int.lt_trans k4 hc.2, fun c hm ho => ?_⟩
        rcases List.mem_cons.1 hm with rfl | hm
        · exact .inl k4
        · exact k5 c hm ho
    · rw [if_neg hc]
      rcases pick_best ok cost l st h2 with ⟨e, h⟩ | ⟨k1, k2, k3, k4, k5⟩
      · refine .inl ⟨e, fun c hm ho => ?_⟩
        rcases List.mem_cons.1 hm with rfl | hm
        · exact Int.not_lt.1 fun g => hc ⟨ho, g⟩
        · exact h c hm ho
      · refine .inr ⟨List.mem_cons_of_mem _ k1, k2, k3, k4, fun c hm ho => ?_⟩
        rcases List.mem_cons.1 hm with rfl | hm
        · exact .inl (Int.lt_of_lt_of_le k4 (Int.not_lt.1 fun g => hc ⟨ho, g⟩))
        · exact k5 c hm ho
/-- What is dear already is not looked through. -/
theorem co_nonneg {ps : List S49} (hp : ∀ p ∈ ps, 0 ≤ p.f1) : ∀ {c : List Int}, Fits ps c → 0 ≤ co ps c := by
  induction ps with
  | nil => intro c h; simp [co]
  | cons p ps ih =>
    intro c h
    cases c with
    | nil => exact h.elim
    | cons t c =>
      have := ih (fun q hq => hp q (List.mem_cons_of_mem _ hq)) h.2
      have := Int.mul_nonneg h.1.1 (hp p (List.mem_cons_self ..))
      unfold co
      omega
theorem runB_dear {lo hi : Int} {ps : List S49} (hp0 : ∀ p ∈ ps, 0 ≤ p.f0) (hp : ∀ p ∈ ps, 0 ≤ p.f1) (pre : List Int) (n : Nat) (g s : Int) (st : Int × List Int) (h : st.1 ≤ s) : runB lo hi ps pre n g s st = st := by
  unfold runB
  have : ∀ l : List (List Int), (∀ c ∈ l, Fits ps c) → l.foldl (stepB lo hi ps pre n g s) st = st := by
    intro l
    induction l with
    | nil => intro _; rfl
    | cons c l ih =>
      intro hl
      have h1 := co_nonneg hp (hl c (List.mem_cons_self ..))
      rw [List.foldl_cons]
      have e : stepB lo hi ps pre n g s st c = st := by
        unfold stepB
        rw [if_neg fun h2 => by have := h2.2; omega]
      rw [e]
      exact ih fun d hd => hl d (List.mem_cons_of_mem _ hd)
  exact this _ fun c hc => ((mem_mixes hp0).1 hc).1
end Go.Proofs.Ytpbndcmmclkdpaa
