/-
  Nets and sums of a good matrix, as both sides reckon them.
-/
import Derived.Test.YtcobihdjcdefmaaQCa
namespace Go.Proofs.Ytcobihdjcdefmaa
open PAccountsCompress
open Go.RowKit Go.Proofs.YtcobihdjcdefmaaW.PrintWords
def vecL (n : Nat) (f : Nat → Int) : List Int := (List.range n).map f
theorem vecL_len (n : Nat) (f : Nat → Int) : (vecL n f).length = n := by unfold vecL; simp
theorem vecL_at {n : Nat} {f : Nat → Int} {i : Nat} (h : i < n) : (vecL n f).getD i 0 = f i := by
  unfold vecL; rw [List.getD_eq_getElem?_getD, List.getElem?_map, List.getElem?_range h]; rfl
theorem vecL_rd {n : Nat} {f : Nat → Int} {i : Nat} (h : i < n) : rd (vecL n f) (i : Int) = f i := by unfold rd; rw [Int.toNat_natCast]; exact vecL_at h
theorem vecL_congr {n : Nat} {f g : Nat → Int} (h : ∀ i, i < n → f i = g i) : vecL n f = vecL n g := List.map_congr_left fun i hi => h i (List.mem_range.1 hi)
theorem vecL_set (n : Nat) (f : Nat → Int) (i : Nat) (c : Int) : (vecL n f).set i c = vecL n (fun v => if v = i then c else f v) := by
  apply List.ext_getElem?
  intro j
  unfold vecL
  rw [List.getElem?_set, List.getElem?_map, List.getElem?_map]
  by_cases hj : j < n
  · rw [List.getElem?_range hj]
    by_cases e : i = j
    · subst e; simp [hj]
    · rw [if_neg e]; simp [Ne.symm e]
  · rw [List.getElem?_eq_none (l := List.range n) (by simp; omega)]
    by_cases e : i = j
    · subst e; simp [hj]
    · rw [if_neg e]; rfl
theorem vecL_zero (n : Nat) : List.replicate n (0 : Int) = vecL n (fun _ => 0) := by
  unfold vecL
  apply List.ext_getElem?
  intro j
  rw [List.getElem?_replicate, List.getElem?_map]
  by_cases hj : j < n
  · rw [if_pos hj, List.getElem?_range hj]; rfl
  · rw [if_neg hj, List.getElem?_eq_none (l := List.range n) (by simp; omega)]; rfl
theorem sumN_box {n : Nat} {f : Nat → Int} {B : Int} (h : ∀ i, i < n → -B ≤ f i ∧ f i ≤ B) : -(n * B) ≤ sumN n f ∧ sumN n f ≤ n * B := by
  induction n with
  | zero => exact ⟨by simp [sumN], by simp [sumN]⟩
  | succ n ih =>
    have h1 := ih fun i hi => h i (by omega)
    have h2 := h n (Nat.lt_succ_self n)
    show _ ≤ sumN n f + f n ∧ sumN n f + f n ≤ _
    rw [Int.natCast_succ, Int.add_mul, Int.one_mul]
    omega
/-- What one debt brings to a member. -/
def trm (O : Mt) (i j v : Nat) : Int := (if j = v then Ex O i j else 0) - (if i = v then Ex O i j else 0)
/-- The nets after so many rows, and so many debts of the next one. -/
def netP (O : Mt) (i j v : Nat) : Int := sumN i (fun a => sumN O.length (fun b => trm O a b v)) + sumN j (fun b => trm O i b v)
def netF (O : Mt) (v : Nat) : Int := sumN O.length (fun a => sumN O.length (fun b => trm O a b v))
theorem netP_row (O : Mt) (i v : Nat) : netP O i O.length v = netP O (i + 1) 0 v := by
  show _ = (sumN i _ + sumN O.length _) + 0
  rw [Int.add_zero]; rfl
theorem netP_next (O : Mt) (i j v : Nat) : netP O i (j + 1) v = netP O i j v + trm O i j v := by
  show sumN i _ + (sumN j _ + trm O i j v) = _
  rw [← Int.add_assoc]; rfl
theorem netP_all (O : Mt) (v : Nat) : netP O O.length 0 v = netF O v := by
  show netF O v + 0 = _
  rw [Int.add_zero]
theorem Good.ex {O : Mt} (h : Good O) {i j : Nat} (hi : i < O.length) (hj : j < O.length) : 0 ≤ Ex O i j ∧ Ex O i j ≤ 1099511627776 ∧ (i = j → Ex O i j = 0) := by
  have h1 := (h i hi).2 j hj
  unfold BadE at h1
  refine ⟨by omega, by omega, fun e => ?_⟩
  rcases Int.lt_trichotomy (Ex O i j) 0 with h2 | h2 | h2
  · omega
  · exact h2
  · exact absurd (.inr (.inr ⟨e, by omega⟩)) h1
theorem netP_box {O : Mt} (h : Good O) (hn : O.length ≤ 10) {i j : Nat} (hi : i ≤ O.length) (hj : j ≤ O.length) (hij : j = 0 ∨ i < O.length) (v : Nat) : -281474976710656 ≤ netP O i j v ∧ netP O i j v ≤ 281474976710656 := by
  have ht : ∀ a b, a < O.length → b < O.length → -1099511627776 ≤ trm O a b v ∧ trm O a b v ≤ 1099511627776 := fun a b ha hb => by
    have := h.ex ha hb
    unfold trm
    split <;> split <;> omega
  have h1 := sumN_box (n := i) (f := fun a => sumN O.length (fun b => trm O a b v)) (B := 10 * 1099511627776) (fun a ha => by
    have h2 := sumN_box (n := O.length) (f := fun b => trm O a b v) (B := 1099511627776) (fun b hb => ht a b (by omega) hb)
    omega)
  have h3 : -(j * 1099511627776) ≤ sumN j (fun b => trm O i b v) ∧ sumN j (fun b => trm O i b v) ≤ j * 1099511627776 := sumN_box fun b hb => ht i b (by omega) (by omega)
  unfold netP
  omega
theorem nets_l1 {O : Mt} (h : Good O) (hn : O.length ≤ 10) {i : Nat} (hi : i < O.length) : ∀ (r j k : Nat), j + r = O.length →
    accounts_Nets.l1 (r + 1 + k) (vecL O.length (netP O i j)) (i : Int) O (O.length : Int) (i : Int) (rowE O i) ((rowE O i).length : Int) (j : Int) = accounts_Nets.l0 k (vecL O.length (netP O (i + 1) 0)) O (O.length : Int) ((i + 1 : Nat) : Int)
  | 0, j, k, hj => by
    have hr := (h i hi).1
    rw [show 0 + 1 + k = k + 1 by omega]
    unfold accounts_Nets.l1
    rw [if_neg (by omega), w64k (by omega), show ((i + 1 : Nat) : Int) = (i : Int) + 1 by omega, show j = O.length by omega, vecL_congr (fun v _ => netP_row O i v)]
  | r + 1, j, k, hj => by
    have hr := (h i hi).1
    have hb := netP_box h hn (i := i) (j := j) (by omega) (by omega) (.inr hi)
    have hb2 := netP_box h hn (i := i) (j := j + 1) (by omega) (by omega) (.inr hi)
    have he := h.ex hi (show j < O.length by omega)
    rw [show r + 1 + 1 + k = (r + 1 + k) + 1 by omega]
    unfold accounts_Nets.l1
    rw [if_pos (by omega), if_pos (by omega), if_pos (by omega), if_pos (by omega), if_pos (by rw [vecL_len]; omega), rdE, vecL_rd hi, Int.toNat_natCast, vecL_set, Option.bind_some, if_pos (by rw [vecL_len]; omega), vecL_rd (show j < O.length by omega), Int.toNat_natCast, vecL_set,
      w64k (x := netP O i j i - Ex O i j) (by have := hb i; omega), w64k (x := (j : Int) + 1) (by omega)]
    rw [show (j : Int) + 1 = ((j + 1 : Nat) : Int) by omega, ← nets_l1 h hn hi r (j + 1) k (by omega)]
    congr 1
    refine vecL_congr fun v hv => ?_
    rw [netP_next]
    unfold trm
    by_cases e1 : v = j
    · subst e1
      rw [if_pos rfl, if_pos rfl]
      by_cases e2 : v = i
      · subst e2; rw [if_pos rfl, if_pos rfl, w64k (by have := hb v; omega)]; omega
      · rw [if_neg e2, if_neg (Ne.symm e2), w64k (by have := hb v; omega)]; omega
    · rw [if_neg e1, if_neg (Ne.symm e1)]
      by_cases e2 : v = i
      · subst e2; rw [if_pos rfl, if_pos rfl]; omega
      · rw [if_neg e2, if_neg (Ne.symm e2)]; omega
theorem nets_l0 {O : Mt} (h : Good O) (hn : O.length ≤ 10) : ∀ (r i k : Nat), i + r = O.length → r * 20 + 1 ≤ k →
    accounts_Nets.l0 k (vecL O.length (netP O i 0)) O (O.length : Int) (i : Int) = some (vecL O.length (netF O), 0)
  | 0, i, k + 1, hi, _ => by
    unfold accounts_Nets.l0
    rw [if_neg (by omega), show i = O.length by omega, vecL_congr (fun v _ => netP_all O v)]
  | r + 1, i, k + 1, hi, hk => by
    have hr := (h i (by omega)).1
    unfold accounts_Nets.l0
    rw [if_pos (by omega), if_pos (by omega), if_pos (by omega), rdL]
    obtain ⟨k', rfl⟩ : ∃ k', k = O.length + 1 + k' := ⟨k - (O.length + 1), by omega⟩
    have := nets_l1 h hn (show i < O.length by omega) O.length 0 k' (by omega)
    rw [show ((0 : Nat) : Int) = 0 from rfl] at this
    rw [this, nets_l0 h hn r (i + 1) k' (by omega) (by omega)]
theorem nets_zero (O : Mt) : List.replicate O.length (0 : Int) = vecL O.length (netP O 0 0) := by
  rw [vecL_zero]
  exact vecL_congr fun v _ => by unfold netP; simp [sumN]
theorem nets_f (O : Mt) : ∃ e xs, accounts_Nets.f 300 O = some (xs, e) ∧ Deb O e ∧ (e = 0 → xs = vecL O.length (netF O)) ∧ (e ≠ 0 → xs = []) := by
  obtain ⟨e, he, hd⟩ := debts_f O
  unfold accounts_Nets.f
  rw [he, Option.bind_some]
  by_cases h0 : e = 0
  · subst h0
    obtain ⟨hn, hg⟩ := hd.good
    rw [if_pos rfl, if_pos (by omega), if_pos (by omega), Int.toNat_natCast, nets_zero]
    have := nets_l0 hg hn O.length 0 300 (by omega) (by omega)
    rw [show ((0 : Nat) : Int) = 0 from rfl] at this
    exact ⟨0, _, this, hd, fun _ => rfl, fun h => absurd rfl h⟩
  · rw [if_neg h0]
    exact ⟨e, [], rfl, hd, fun h => absurd h h0, fun _ => rfl⟩
def totP (O : Mt) (i j : Nat) : Int := sumN i (fun a => sumN O.length (fun b => Ex O a b)) + sumN j (fun b => Ex O i b)
def totF (O : Mt) : Int := sumN O.length (fun a => sumN O.length (fun b => Ex O a b))
theorem totP_box {O : Mt} (h : Good O) (hn : O.length ≤ 10) {i j : Nat} (hi : i ≤ O.length) (hj : j ≤ O.length) (hij : j = 0 ∨ i < O.length) : -281474976710656 ≤ totP O i j ∧ totP O i j ≤ 281474976710656 := by
  have h1 := sumN_box (n := i) (f := fun a => sumN O.length (fun b => Ex O a b)) (B := 10 * 1099511627776) (fun a ha => by
    have h2 := sumN_box (n := O.length) (f := fun b => Ex O a b) (B := 1099511627776) (fun b hb => by have := h.ex (show a < O.length by omega) hb; omega)
    omega)
  have h3 : -(j * 1099511627776) ≤ sumN j (fun b => Ex O i b) ∧ sumN j (fun b => Ex O i b) ≤ j * 1099511627776 := sumN_box fun b hb => by have := h.ex (show i < O.length by omega) (show b < O.length by omega); omega
  unfold totP
  omega
theorem sum_l1 {O : Mt} (h : Good O) (hn : O.length ≤ 10) {i : Nat} (hi : i < O.length) : ∀ (r j k : Nat), j + r = O.length →
    merinolaw07_sum.l1 (r + 1 + k) O (totP O i j) (i : Int) (j : Int) = merinolaw07_sum.l0 k O (totP O (i + 1) 0) ((i + 1 : Nat) : Int)
  | 0, j, k, hj => by
    have hr := (h i hi).1
    rw [show 0 + 1 + k = k + 1 by omega]
    unfold merinolaw07_sum.l1
    rw [rdL, if_pos (by omega), if_pos (by omega), if_neg (by omega), w64k (by omega), show ((i + 1 : Nat) : Int) = (i : Int) + 1 by omega, show j = O.length by omega]
    congr 1
    show _ = (sumN i _ + sumN O.length _) + 0
    rw [Int.add_zero]; rfl
  | r + 1, j, k, hj => by
    have hr := (h i hi).1
    have hb := totP_box h hn (i := i) (j := j + 1) (by omega) (by omega) (.inr hi)
    have e : totP O i (j + 1) = totP O i j + Ex O i j := by
      show sumN i _ + (sumN j _ + Ex O i j) = _
      rw [← Int.add_assoc]; rfl
    rw [show r + 1 + 1 + k = (r + 1 + k) + 1 by omega]
    unfold merinolaw07_sum.l1
    rw [rdL, if_pos (by omega), if_pos (by omega), if_pos (by omega), if_pos (by omega), rdE, ← e, w64k (by omega), w64k (by omega)]
    rw [show (j : Int) + 1 = ((j + 1 : Nat) : Int) by omega, sum_l1 h hn hi r (j + 1) k (by omega)]
theorem sum_l0 {O : Mt} (h : Good O) (hn : O.length ≤ 10) : ∀ (r i k : Nat), i + r = O.length → r * 20 + 1 ≤ k →
    merinolaw07_sum.l0 k O (totP O i 0) (i : Int) = some (totF O)
  | 0, i, k + 1, hi, _ => by
    unfold merinolaw07_sum.l0
    rw [if_neg (by omega), show i = O.length by omega]
    show some (totF O + 0) = _
    rw [Int.add_zero]
  | r + 1, i, k + 1, hi, hk => by
    unfold merinolaw07_sum.l0
    rw [if_pos (by omega)]
    obtain ⟨k', rfl⟩ : ∃ k', k = O.length + 1 + k' := ⟨k - (O.length + 1), by omega⟩
    have := sum_l1 h hn (show i < O.length by omega) O.length 0 k' (by omega)
    rw [show ((0 : Nat) : Int) = 0 from rfl] at this
    rw [this, sum_l0 h hn r (i + 1) k' (by omega) (by omega)]
theorem sum_f {O : Mt} (h : Good O) (hn : O.length ≤ 10) : merinolaw07_sum.f 300 O = some (totF O) := by
  have := sum_l0 h hn O.length 0 300 (by omega) (by omega)
  exact this
end Go.Proofs.Ytcobihdjcdefmaa
