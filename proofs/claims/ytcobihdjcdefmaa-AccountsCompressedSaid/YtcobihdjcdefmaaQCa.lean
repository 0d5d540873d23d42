/-
  Debts, nets and sums of a matrix, as both sides reckon them.
-/
import Derived.Test.YtcobihdjcdefmaaQUZ
import Derived.Test.YtcobihdjcdefmaaQPZ
import Derived.Test.YtcobihdjcdefmaaQFPa
namespace Go.Proofs.Ytcobihdjcdefmaa
open PAccountsCompress
open Go.RowKit Go.Proofs.YtcobihdjcdefmaaW.PrintWords
abbrev Mt := List (List Int)
def rowE (O : Mt) (i : Nat) : List Int := O.getD i []
def Ex (O : Mt) (i j : Nat) : Int := (rowE O i).getD j 0
theorem rdL (O : Mt) (i : Nat) : rd_L3 O (i : Int) = rowE O i := by unfold rd_L3 rowE; rw [Int.toNat_natCast]
theorem rdE (O : Mt) (i j : Nat) : rd (rowE O i) (j : Int) = Ex O i j := by unfold rd Ex; rw [Int.toNat_natCast]
theorem w64k {x : Int} (h : -9223372036854775808 ≤ x ∧ x ≤ 9223372036854775807) : wrap64 x = x := by unfold wrap64; omega
/-- A matrix whose rows are few enough to be looked at. -/
def Small (O : Mt) (i : Nat) : Prop := O.length ≤ 20 ∧ ∀ j, i ≤ j → j < O.length → (rowE O j).length ≤ 100
theorem small_l0 (O : Mt) : ∀ (r i k : Nat), i + r = 20 → r + 1 ≤ k → i ≤ O.length → ∃ b, merinolaw07_small.l0 k O (i : Int) = some b ∧ (b = true ↔ Small O i)
  | 0, i, k + 1, hi, _, hl => by
    unfold merinolaw07_small.l0
    by_cases h : (i : Int) < O.length
    · rw [if_pos h, if_pos (by omega)]
      exact ⟨false, rfl, fun h => by simp at h, fun h2 => by have := h2.1; omega⟩
    · rw [if_neg h]
      exact ⟨true, rfl, fun _ => ⟨by omega, fun j h1 h2 => by omega⟩, fun _ => rfl⟩
  | r + 1, i, k + 1, hi, hk, hl => by
    unfold merinolaw07_small.l0
    by_cases h : (i : Int) < O.length
    · rw [if_pos h, if_neg (by omega), if_pos (by omega), rdL]
      by_cases h2 : ((rowE O i).length : Int) > 100
      · rw [if_pos h2]
        exact ⟨false, rfl, fun h => by simp at h, fun h3 => by have := h3.2 i (Nat.le_refl _) (by omega); omega⟩
      · rw [if_neg h2, w64k (by omega)]
        obtain ⟨b, hb, hs⟩ := small_l0 O r (i + 1) k (by omega) (by omega) (by omega)
        rw [show ((i + 1 : Nat) : Int) = (i : Int) + 1 by omega] at hb
        refine ⟨b, hb, fun h3 => ?_, fun h3 => hs.2 ⟨h3.1, fun j h4 h5 => h3.2 j (by omega) h5⟩⟩
        have h4 := hs.1 h3
        refine ⟨h4.1, fun j h5 h6 => ?_⟩
        rcases Nat.lt_or_ge i j with h7 | h7
        · exact h4.2 j h7 h6
        · rw [show j = i by omega]; omega
    · rw [if_neg h]
      exact ⟨true, rfl, fun _ => ⟨by omega, fun j h1 h2 => by omega⟩, fun _ => rfl⟩
theorem small_f (O : Mt) : ∃ b, merinolaw07_small.f 300 O = some b ∧ (b = true ↔ Small O 0) := small_l0 O 20 0 300 (by omega) (by omega) (by omega)
def BadE (i j : Nat) (x : Int) : Prop := x < 0 ∨ x > 1099511627776 ∨ (i = j ∧ x ≠ 0)
def GoodRow (O : Mt) (i : Nat) : Prop := (rowE O i).length = O.length ∧ ∀ j, j < O.length → ¬ BadE i j (Ex O i j)
def Good (O : Mt) : Prop := ∀ i, i < O.length → GoodRow O i
theorem debts_l1 (O : Mt) (i : Nat) (hi : (rowE O i).length = O.length) (hn : O.length ≤ 10) (hio : i ≤ 10) : ∀ (r j k : Nat), j + r = O.length →
    ((∃ j', j ≤ j' ∧ j' < O.length ∧ BadE i j' (Ex O i j')) ∧ accounts_debts.l1 (r + 1 + k) O (i : Int) O (O.length : Int) (i : Int) (rowE O i) ((rowE O i).length : Int) (j : Int) = some 2) ∨
    ((∀ j', j ≤ j' → j' < O.length → ¬ BadE i j' (Ex O i j')) ∧ accounts_debts.l1 (r + 1 + k) O (i : Int) O (O.length : Int) (i : Int) (rowE O i) ((rowE O i).length : Int) (j : Int) = accounts_debts.l0 k O O (O.length : Int) ((i + 1 : Nat) : Int))
  | 0, j, k, hj => by
    rw [show 0 + 1 + k = k + 1 by omega]
    unfold accounts_debts.l1
    rw [if_neg (by omega), w64k (by omega), show ((i + 1 : Nat) : Int) = (i : Int) + 1 by omega]
    exact .inr ⟨fun j' h1 h2 => by omega, rfl⟩
  | r + 1, j, k, hj => by
    rw [show r + 1 + 1 + k = (r + 1 + k) + 1 by omega]
    unfold accounts_debts.l1
    rw [if_pos (by omega), if_pos (by omega), if_pos (by omega), rdE]
    have ih := debts_l1 O i hi hn hio r (j + 1) k (by omega)
    rw [show ((j + 1 : Nat) : Int) = (j : Int) + 1 by omega] at ih
    have step : ¬ BadE i j (Ex O i j) → ((∃ j', j ≤ j' ∧ j' < O.length ∧ BadE i j' (Ex O i j')) ∧ accounts_debts.l1 (r + 1 + k) O (i : Int) O (O.length : Int) (i : Int) (rowE O i) ((rowE O i).length : Int) ((j : Int) + 1) = some 2) ∨
        ((∀ j', j ≤ j' → j' < O.length → ¬ BadE i j' (Ex O i j')) ∧ accounts_debts.l1 (r + 1 + k) O (i : Int) O (O.length : Int) (i : Int) (rowE O i) ((rowE O i).length : Int) ((j : Int) + 1) = accounts_debts.l0 k O O (O.length : Int) ((i + 1 : Nat) : Int)) := fun hb => by
      rcases ih with ⟨⟨j', h1, h2, h3⟩, h4⟩ | ⟨h1, h2⟩
      · exact .inl ⟨⟨j', by omega, h2, h3⟩, h4⟩
      · refine .inr ⟨fun j' h3 h4 => ?_, h2⟩
        rcases Nat.lt_or_ge j j' with h5 | h5
        · exact h1 j' h5 h4
        · rw [show j' = j by omega]; exact hb
    have bad : BadE i j (Ex O i j) → ∃ j', j ≤ j' ∧ j' < O.length ∧ BadE i j' (Ex O i j') := fun hb => ⟨j, Nat.le_refl _, by omega, hb⟩
    by_cases h1 : Ex O i j < 0
    · rw [if_pos h1]; exact .inl ⟨bad (.inl h1), rfl⟩
    rw [if_neg h1]
    by_cases h2 : Ex O i j > 1099511627776
    · rw [if_pos h2]; exact .inl ⟨bad (.inr (.inl h2)), rfl⟩
    rw [if_neg h2, w64k (by omega)]
    by_cases h3 : (i : Int) = j
    · rw [if_pos h3]
      by_cases h4 : Ex O i j = 0
      · rw [if_pos h4]; exact step (fun hb => hb.elim h1 (fun hb => hb.elim h2 (fun hb => hb.2 h4)))
      · rw [if_neg h4]; exact .inl ⟨bad (.inr (.inr ⟨by omega, h4⟩)), rfl⟩
    · rw [if_neg h3]; exact step (fun hb => hb.elim h1 (fun hb => hb.elim h2 (fun hb => h3 (by omega))))
theorem debts_l0 (O : Mt) (hn : O.length ≤ 10) : ∀ (r i k : Nat), i + r = O.length → r * 20 + 1 ≤ k →
    ((∀ i', i ≤ i' → i' < O.length → GoodRow O i') ∧ accounts_debts.l0 k O O (O.length : Int) (i : Int) = some 0) ∨
    ((∃ i', i ≤ i' ∧ i' < O.length ∧ ¬ GoodRow O i') ∧ accounts_debts.l0 k O O (O.length : Int) (i : Int) = some 2)
  | 0, i, k + 1, hi, _ => by
    unfold accounts_debts.l0
    rw [if_neg (by omega)]
    exact .inl ⟨fun i' h1 h2 => by omega, rfl⟩
  | r + 1, i, k + 1, hi, hk => by
    unfold accounts_debts.l0
    rw [if_pos (by omega), if_pos (by omega), if_pos (by omega), rdL]
    by_cases h1 : ((rowE O i).length : Int) = O.length
    · rw [if_pos h1]
      obtain ⟨k', rfl⟩ : ∃ k', k = O.length + 1 + k' := ⟨k - (O.length + 1), by omega⟩
      rcases debts_l1 O i (by omega) hn (by omega) O.length 0 k' (by omega) with ⟨⟨j', _, h2, h3⟩, h4⟩ | ⟨h2, h3⟩
      · exact .inr ⟨⟨i, Nat.le_refl _, by omega, fun hg => hg.2 j' h2 h3⟩, h4⟩
      · rw [show ((0 : Nat) : Int) = 0 from rfl] at h3
        rw [h3]
        rcases debts_l0 O hn r (i + 1) k' (by omega) (by omega) with ⟨h4, h5⟩ | ⟨⟨i', h4, h5, h6⟩, h7⟩
        · refine .inl ⟨fun i' h6 h7 => ?_, h5⟩
          rcases Nat.lt_or_ge i i' with h8 | h8
          · exact h4 i' h8 h7
          · rw [show i' = i by omega]; exact ⟨by omega, fun j hj => h2 j (Nat.zero_le _) hj⟩
        · exact .inr ⟨⟨i', by omega, h5, h6⟩, h7⟩
    · rw [if_neg h1]
      exact .inr ⟨⟨i, Nat.le_refl _, by omega, fun hg => h1 (by have := hg.1; omega)⟩, rfl⟩
/-- What is answered to a matrix. -/
def Deb (O : Mt) (e : Int) : Prop := (10 < O.length ∧ e = 3) ∨ (O.length ≤ 10 ∧ Good O ∧ e = 0) ∨ (O.length ≤ 10 ∧ ¬ Good O ∧ e = 2)
theorem Deb.eq {O : Mt} {e f : Int} (h : Deb O e) (k : Deb O f) : e = f := by
  rcases h with ⟨h1, h2⟩ | ⟨h1, h2, h3⟩ | ⟨h1, h2, h3⟩ <;> rcases k with ⟨k1, k2⟩ | ⟨k1, k2, k3⟩ | ⟨k1, k2, k3⟩ <;> first | omega | exact absurd h2 k2 | exact absurd k2 h2
theorem Deb.good {O : Mt} (h : Deb O 0) : O.length ≤ 10 ∧ Good O := by
  rcases h with ⟨h1, h2⟩ | ⟨h1, h2, h3⟩ | ⟨h1, h2, h3⟩
  · omega
  · exact ⟨h1, h2⟩
  · omega
theorem Deb.of {O : Mt} {e : Int} (h : Deb O e) (h1 : O.length ≤ 10) (h2 : Good O) : e = 0 := h.eq (.inr (.inl ⟨h1, h2, rfl⟩))
theorem debts_f (O : Mt) : ∃ e, accounts_debts.f 300 O = some e ∧ Deb O e := by
  unfold accounts_debts.f
  by_cases h : (O.length : Int) > 10
  · rw [if_pos h]; exact ⟨3, rfl, .inl ⟨by omega, rfl⟩⟩
  · rw [if_neg h]
    rcases debts_l0 O (by omega) O.length 0 300 (by omega) (by omega) with ⟨h1, h2⟩ | ⟨⟨i', h1, h2, h3⟩, h4⟩
    · exact ⟨0, h2, .inr (.inl ⟨by omega, fun i hi => h1 i (Nat.zero_le _) hi, rfl⟩)⟩
    · exact ⟨2, h4, .inr (.inr ⟨by omega, fun hg => h3 (hg i' h2), rfl⟩)⟩
end Go.Proofs.Ytcobihdjcdefmaa
