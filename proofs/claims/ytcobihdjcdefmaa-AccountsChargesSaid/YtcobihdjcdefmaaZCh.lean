/-
  Charge, in plain Lean.
-/
import Derived.Test.YtcobihdjcdefmaaZYx1
namespace Go.Proofs.Ytcobihdjcdefmaa
open Go.RowKit Go.Proofs.YtcobihdjcdefmaaW.PrintWords
open PAccountsCharges
/-- Are the bands ascending, from 'last' on, and their rates in bounds? -/
def bandsOk : Int → List S44 → Bool
  | _, [] => true
  | last, b :: r => !(decide (b.f0 < 1) || decide (b.f0 > 1099511627776) || decide (b.f0 ≤ last) || decide (b.f1 < 0) || decide (b.f1 > 10000)) && bandsOk b.f0 r
def topOf : Int → List S44 → Int
  | last, [] => last
  | _, b :: r => topOf b.f0 r
/-- What amount a pays, in ten-thousandths, from 'last' on. -/
def pays (a : Int) : Int → List S44 → Int
  | _, [] => 0
  | last, b :: r => (if a < b.f0 then (if a < last then 0 else a - last) else b.f0 - last) * b.f1 + pays a b.f0 r
def chargeR (a : Int) (l : List S44) : Int × Int :=
  if a < 0 ∨ a > 1099511627776 then (0, 2) else if (l.length : Int) > 16 then (0, 3) else if bandsOk 0 l = false then (0, 2) else if a > topOf 0 l then (0, 4) else ((pays a 0 l + 5000) / 10000, 0)
theorem w64c {x : Int} (h : -9223372036854775808 ≤ x ∧ x ≤ 9223372036854775807) : wrap64 x = x := by
  unfold wrap64
  omega
theorem charge_l {a : Int} (h0 : 0 ≤ a) (h1 : a ≤ 1099511627776) (l : List S44) (hlen : (l.length : Int) ≤ 16) : ∀ (r : List S44) (i : Nat) (last tot : Int) (k : Nat), l.drop i = r → 0 ≤ last → last ≤ 1099511627776 → 0 ≤ tot → tot ≤ 10000 * last → 
    accounts_Charge.l0 (k + r.length + 1) a last tot l (l.length : Int) i = some (if bandsOk last r = false then (0, 2) else if a > topOf last r then (0, 4) else ((tot + pays a last r + 5000) / 10000, 0))
  | [], i, last, tot, k, hr, hl0, hl1, ht0, ht1 => by
    have hi : l.length ≤ i := by
      have := congrArg List.length hr
      simp at this
      omega
    unfold accounts_Charge.l0
    rw [if_neg (by omega)]
    by_cases hx : a > last
    · rw [if_pos hx]
      simp [bandsOk, topOf, show last < a from hx]
    · rw [if_neg hx, w64c (x := tot + 5000) (by omega), Int.tdiv_eq_ediv_of_nonneg (by omega), w64c (by omega)]
      simp [bandsOk, topOf, pays, show ¬ last < a from hx]
  | b :: r, i, last, tot, k, hr, hl0, hl1, ht0, ht1 => by
    have hi : i < l.length := by
      have := congrArg List.length hr
      simp at this
      omega
    have hb : rd_T44 l i = b := by
      unfold rd_T44
      rw [Int.toNat_natCast, List.getD_eq_getElem?_getD, List.getElem?_eq_getElem hi]
      rw [List.drop_eq_getElem_cons hi] at hr
      exact (List.cons.inj hr).1
    have hr' : l.drop (i + 1) = r := by
      rw [List.drop_eq_getElem_cons hi] at hr
      exact (List.cons.inj hr).2
    unfold accounts_Charge.l0
    rw [if_pos (by omega), if_pos (by omega), if_pos (by omega), hb]
    by_cases c1 : b.f0 < 1
    · rw [if_pos c1]; simp [bandsOk, c1]
    rw [if_neg c1]
    by_cases c2 : b.f0 > 1099511627776
    · rw [if_pos c2]; simp [bandsOk, c2]
    rw [if_neg c2]
    by_cases c3 : b.f0 ≤ last
    · rw [if_pos c3]; simp [bandsOk, c3]
    rw [if_neg c3]
    by_cases c4 : b.f1 < 0
    · rw [if_pos c4]; simp [bandsOk, c4]
    rw [if_neg c4]
    by_cases c5 : b.f1 > 10000
    · rw [if_pos c5]; simp [bandsOk, c5]
    rw [if_neg c5]
    have e : mx 0 (wrap64 (mn a b.f0 - last)) = (if a < b.f0 then (if a < last then 0 else a - last) else b.f0 - last) := by
      unfold mx mn
      by_cases d1 : b.f0 < a
      · rw [if_pos d1, w64c (by omega), if_pos (by omega), if_neg (by omega)]
      · rw [if_neg d1, w64c (by omega)]
        by_cases d2 : a < b.f0
        · rw [if_pos d2]
          by_cases d3 : a < last
          · rw [if_pos d3, if_neg (by omega)]
          · rw [if_neg d3]
            by_cases d4 : 0 < a - last
            · rw [if_pos d4]
            · rw [if_neg d4]; omega
        · rw [if_neg d2, if_pos (by omega)]; omega
    have hpays : pays a last (b :: r) = (if a < b.f0 then (if a < last then 0 else a - last) else b.f0 - last) * b.f1 + pays a b.f0 r := rfl
    have hbands : bandsOk last (b :: r) = bandsOk b.f0 r := by
      simp only [bandsOk]
      rw [show (!(decide (b.f0 < 1) || decide (b.f0 > 1099511627776) || decide (b.f0 ≤ last) || decide (b.f1 < 0) || decide (b.f1 > 10000))) = true by simp; omega, Bool.true_and]
    rw [hbands, hpays, show topOf last (b :: r) = topOf b.f0 r from rfl, e]
    generalize hg : (if a < b.f0 then (if a < last then 0 else a - last) else b.f0 - last) = c
    have hc : 0 ≤ c ∧ c ≤ b.f0 - last := by rw [← hg]; split <;> (try split) <;> omega
    have e1 : 0 ≤ c * b.f1 := Int.mul_nonneg hc.1 (by omega)
    have e2 : c * b.f1 ≤ c * 10000 := Int.mul_le_mul_of_nonneg_left (by omega) hc.1
    rw [w64c (x := c * b.f1) (by omega), w64c (x := tot + c * b.f1) (by omega), w64c (x := (i : Int) + 1) (by omega)]
    have ih := charge_l h0 h1 l hlen r (i + 1) b.f0 (tot + c * b.f1) k hr' (by omega) (by omega) (by omega) (by omega)
    rw [show k + (b :: r).length = k + r.length + 1 by simp; omega]
    rw [show tot + (c * b.f1 + pays a b.f0 r) = tot + c * b.f1 + pays a b.f0 r by omega]
    rw [show ((i + 1 : Nat) : Int) = (i : Int) + 1 from Int.natCast_succ i] at ih
    exact ih
theorem charge_f (a : Int) (l : List S44) : accounts_Charge.f (l.length + 10) a l = some (chargeR a l) := by
  obtain ⟨K, hK⟩ : ∃ K, K = l.length + 9 := ⟨_, rfl⟩
  rw [show l.length + 10 = K + 1 by omega]
  have j1 : accounts_Charge.j0 (K + 1) a l true = some (0, 2) := rfl
  unfold accounts_Charge.f chargeR
  by_cases h0 : a < 0
  · rw [if_pos h0, if_pos (.inl h0), j1]
  rw [if_neg h0]
  by_cases h1 : a > 1099511627776
  · rw [if_pos (.inr h1), decide_eq_true h1, j1]
  have j2 : accounts_Charge.j0 (K + 1) a l false = if (l.length : Int) > 16 then some (0, 3) else accounts_Charge.l0 K a 0 0 l (l.length : Int) 0 := rfl
  rw [if_neg (by omega), decide_eq_false h1, j2]
  by_cases h2 : (l.length : Int) > 16
  · rw [if_pos h2, if_pos h2]
  rw [if_neg h2, if_neg h2]
  have := charge_l (a := a) (by omega) (by omega) l (by omega) l 0 0 0 8 rfl (by omega) (by omega) (by omega) (by omega)
  rw [show 8 + l.length + 1 = K by omega, Int.zero_add] at this
  exact this
/-! ### What the law AccountsGrows says -/
end Go.Proofs.Ytcobihdjcdefmaa
