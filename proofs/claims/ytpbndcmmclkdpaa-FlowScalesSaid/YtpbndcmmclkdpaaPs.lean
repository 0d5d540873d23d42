/-
  Networks scaled and turned about, in plain Lean.
-/
import Derived.Test.YtpbndcmmclkdpaaLc
namespace Go.Proofs.Ytpbndcmmclkdpaa
open PFlowSolves
/-- All capacities times k. -/
def scaleA (k : Int) (a : Ar) : Ar := ⟨a.f0, a.f1, a.f2 * k, a.f3⟩
def turnA (a : Ar) : Ar := ⟨a.f1, a.f0, a.f2, a.f3⟩
theorem arcF_map {l : List Ar} (f : Ar → Ar) {i : Nat} (hi : i < l.length) : arcF (l.map f) i = f (arcF l i) := by
  unfold arcF
  rw [List.getD_eq_getElem?_getD, List.getD_eq_getElem?_getD, List.getElem?_map, List.getElem?_eq_getElem hi]
  rfl
section
variable {n m : Nat} {A B : Nat → Ar} {x : Nat → Int} {p : Int → Int} {k : Int}
theorem cost_mul (hB : ∀ i, i < m → B i = scaleA k (A i)) : costF m B (fun i => x i * k) = costF m A x * k := by
  unfold costF
  rw [Int.mul_comm (sumN m _) k, ← sumN_mul]
  exact sumN_congr fun i hi => by
    rw [hB i hi]
    show (A i).f3 * (x i * k) = k * ((A i).f3 * x i)
    rw [← Int.mul_assoc, Int.mul_comm]
theorem bal_mul (hB : ∀ i, i < m → B i = scaleA k (A i)) (v : Int) : balF m B (fun i => x i * k) v = balF m A x v * k := by
  unfold balF
  rw [Int.mul_comm (sumN m _) k, ← sumN_mul]
  exact sumN_congr fun i hi => by
    rw [hB i hi]
    show (if (A i).f0 = v then x i * k else 0) - (if (A i).f1 = v then x i * k else 0) = k * ((if (A i).f0 = v then x i else 0) - (if (A i).f1 = v then x i else 0))
    rw [Int.mul_sub]
    congr 1 <;> split <;> first | exact Int.mul_comm _ _ | simp
theorem valid_mul (hk : 0 < k) (hB : ∀ i, i < m → B i = scaleA k (A i)) (h : Valid m A x) : Valid m B (fun i => x i * k) := fun i hi => by
  obtain ⟨h0, h1⟩ := h i hi
  rw [hB i hi]
  exact ⟨Int.mul_nonneg h0 (by omega), Int.mul_le_mul_of_nonneg_right h1 (by omega)⟩
theorem feas_mul (hk : 0 < k) (hB : ∀ i, i < m → B i = scaleA k (A i)) (h : Feas m A x p) : Feas m B (fun i => x i * k) p := fun s hs => by
  obtain ⟨⟨h0, h1⟩, h2⟩ := hs
  have hi : s.f0.toNat < m := by omega
  have hr : Res m A x s := ⟨⟨h0, h1⟩, by
    unfold spr at h2 ⊢
    rw [hB _ hi] at h2
    cases hb : s.f1 with
    | true =>
      rw [hb] at h2
      simp only [if_true] at h2 ⊢
      rcases Int.lt_or_le 0 (x s.f0.toNat) with g | g
      · exact g
      · have := Int.mul_le_mul_of_nonneg_right g (show 0 ≤ k by omega)
        omega
    | false =>
      rw [hb] at h2
      simp only [Bool.false_eq_true, if_false] at h2 ⊢
      have h2 : 0 < (A s.f0.toNat).f2 * k - x s.f0.toNat * k := h2
      rcases Int.lt_or_le (x s.f0.toNat) (A s.f0.toNat).f2 with g | g
      · omega
      · have := Int.mul_le_mul_of_nonneg_right g (show 0 ≤ k by omega)
        omega⟩
  have := h s hr
  unfold tow frm cst at this ⊢
  rw [hB _ hi]
  exact this
theorem exc_mul (hB : ∀ i, i < m → B i = scaleA k (A i)) {need want : Nat → Int} (hw : ∀ v, v < n → want v = need v * k) (S : Int → Bool) : excF n m B want S = excF n m A need S * k := by
  unfold excF capOut
  rw [Int.sub_mul, Int.mul_comm (sumN n _) k, Int.mul_comm (sumN m _) k, ← sumN_mul, ← sumN_mul]
  congr 1
  · exact sumN_congr fun v hv => by
      rw [hw v hv, Int.mul_comm k, Int.mul_assoc]
  · exact sumN_congr fun i hi => by
      rw [hB i hi]
      show (if S (A i).f0 && !S (A i).f1 then (A i).f2 * k else 0) = k * (if S (A i).f0 && !S (A i).f1 then (A i).f2 else 0)
      split
      · exact Int.mul_comm _ _
      · simp
/-- What is turned about. -/
theorem turn_bal (hB : ∀ i, i < m → B i = turnA (A i)) (v : Int) : balF m B x v = - balF m A x v := by
  unfold balF
  have e : -(sumN m fun i => (if (A i).f0 = v then x i else 0) - (if (A i).f1 = v then x i else 0)) = sumN m fun i => (-1) * ((if (A i).f0 = v then x i else 0) - (if (A i).f1 = v then x i else 0)) := by
    rw [sumN_mul]; omega
  rw [e]
  exact sumN_congr fun i hi => by
    rw [hB i hi]
    show (if (A i).f1 = v then x i else 0) - (if (A i).f0 = v then x i else 0) = _
    omega
theorem turn_cost (hB : ∀ i, i < m → B i = turnA (A i)) : costF m B x = costF m A x := sumN_congr fun i hi => by rw [hB i hi]; rfl
theorem turn_valid (hB : ∀ i, i < m → B i = turnA (A i)) (h : Valid m A x) : Valid m B x := fun i hi => by rw [hB i hi]; exact h i hi
theorem turn_stp (hB : ∀ i, i < m → B i = turnA (A i)) {s : Stp} (h0 : 0 ≤ s.f0) (h1 : s.f0 < m) : frm B s = tow A s ∧ tow B s = frm A s ∧ cst B s = cst A s ∧ spr B x s = spr A x s := by
  have hi : s.f0.toNat < m := by omega
  unfold frm tow cst spr
  rw [hB _ hi]
  cases s.f1 <;> exact ⟨rfl, rfl, rfl, rfl⟩
theorem turn_res (hB : ∀ i, i < m → B i = turnA (A i)) {s : Stp} : Res m B x s → Res m A x s := fun ⟨⟨h0, h1⟩, h2⟩ => ⟨⟨h0, h1⟩, by rw [← (turn_stp (x := x) hB h0 h1).2.2.2]; exact h2⟩
theorem turn_feas (hB : ∀ i, i < m → B i = turnA (A i)) (h : Feas m A x p) : Feas m B x (fun v => - p v) := fun s hs => by
  have hr := turn_res hB hs
  obtain ⟨e1, e2, e3, _⟩ := turn_stp (x := x) hB hs.1.1 hs.1.2
  have := h s hr
  show - p (tow B s) ≤ - p (frm B s) + cst B s
  rw [e1, e2, e3]
  omega
theorem turn_rc (hB : ∀ i, i < m → B i = turnA (A i)) {i : Nat} (hi : i < m) : rc B (fun v => - p v) i = rc A p i := by
  unfold rc
  rw [hB i hi]
  show (A i).f3 + - p (A i).f1 - - p (A i).f0 = _
  omega
theorem turn_lex (hB : ∀ i, i < m → B i = turnA (A i)) (h : LexCert m A x p) : LexCert m B x (fun v => - p v) := fun i hi hr hx => by
  rw [turn_rc hB hi] at hr
  rw [hB i hi] at hx ⊢
  obtain ⟨R, g1, g2, g3⟩ := h i hi hr hx
  refine ⟨fun v => !R v, by show (!R (A i).f0) = true; rw [g2]; rfl, by show (!R (A i).f1) = false; rw [g1]; rfl, fun s hs hgt hrc hf => ?_⟩
  have hra := turn_res hB hs
  obtain ⟨e1, e2, _, _⟩ := turn_stp (x := x) hB hs.1.1 hs.1.2
  rw [turn_rc hB (by have := hs.1; omega)] at hrc
  rw [e1] at hf
  rw [e2]
  show (!R (frm A s)) = true
  have hf : (!R (tow A s)) = true := hf
  cases hz : R (frm A s) with
  | false => rfl
  | true =>
    rw [g3 s hra hgt hrc hz] at hf
    exact absurd hf (by simp)
/-- A certified flow is the only one. -/
theorem lex_unique {q : Int → Int} {y : Nat → Int} (hN : Net n m A) (hx : Valid m A x) (hy : Valid m A y) (hb : ∀ v : Nat, v < n → balF m A y v = balF m A x v) (hp : Feas m A x p) (hl : LexCert m A x p) (hq : Feas m A y q) (hm : LexCert m A y q) : ∀ i, i < m → y i = x i := by
  have c1 := opt_le hN hx hy hb hp
  have c2 := opt_le hN hy hx (fun v hv => (hb v hv).symm) hq
  intro i
  induction i using Nat.strongRecOn with
  | ind i ih =>
    intro hi
    have e : ∀ j, j < i → y j = x j := fun j hj => ih j hj (by omega)
    have h1 := lex_max hN hx hy hb hp hl c2 hi e
    have h2 := lex_max hN hy hx (fun v hv => (hb v hv).symm) hq hm c1 hi (fun j hj => (e j hj).symm)
    omega
end
end Go.Proofs.Ytpbndcmmclkdpaa
