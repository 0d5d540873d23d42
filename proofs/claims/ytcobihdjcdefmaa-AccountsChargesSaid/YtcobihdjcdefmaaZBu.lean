/-
  Charge of the reference, in plain Lean: what is left to be told from a band on.
-/
import Derived.Test.YtcobihdjcdefmaaZCh
import Derived.Test.YtcobihdjcdefmaaZBt
namespace Go.Proofs.Ytcobihdjcdefmaa
open PAccountsCharges
/-- A band that is refused. -/
def badBand (last : Int) (b : S44) : Prop := b.f0 < 1 ∨ 1099511627776 < b.f0 ∨ b.f0 ≤ last ∨ b.f1 < 0 ∨ 10000 < b.f1
/-- What Charge answers, from a band on: last is the top of the band before, s the sum so far. -/
def chargeFrom (a last s : Int) (l : List S44) : Int × Int := if bandsOk last l = false then (0, 2) else if a > topOf last l then (0, 4) else ((s + pays a last l + 5000) / 10000, 0)
theorem chargeFrom_nil {a last s : Int} : chargeFrom a last s [] = if last < a then (0, 4) else ((s + 5000) / 10000, 0) := by
  unfold chargeFrom
  rw [if_neg (by simp [bandsOk])]
  simp only [topOf, pays, Int.add_zero, gt_iff_lt]
theorem bandsOk_cons {last : Int} {b : S44} {r : List S44} : bandsOk last (b :: r) = true ↔ ¬ badBand last b ∧ bandsOk b.f0 r = true := by
  unfold badBand
  simp only [bandsOk, Bool.and_eq_true, Bool.not_eq_true', Bool.or_eq_false_iff, decide_eq_false_iff_not]
  constructor
  · rintro ⟨h1, h2⟩; exact ⟨by omega, h2⟩
  · rintro ⟨h1, h2⟩; exact ⟨by omega, h2⟩
theorem chargeFrom_bad {a last s : Int} {b : S44} {r : List S44} (h : badBand last b) : chargeFrom a last s (b :: r) = (0, 2) := by
  unfold chargeFrom
  rw [if_pos]
  cases e : bandsOk last (b :: r) with
  | false => rfl
  | true => exact absurd h (bandsOk_cons.1 e).1
theorem chargeFrom_next {a last s : Int} {b : S44} {r : List S44} (h : ¬ badBand last b) : chargeFrom a last s (b :: r) = chargeFrom a b.f0 (s + max 0 (min a b.f0 - last) * b.f1) r := by
  have hin : (if a < b.f0 then (if a < last then 0 else a - last) else b.f0 - last) = max 0 (min a b.f0 - last) := by
    unfold badBand at h
    split
    · split <;> omega
    · omega
  have hp : pays a last (b :: r) = max 0 (min a b.f0 - last) * b.f1 + pays a b.f0 r := by
    show (if a < b.f0 then (if a < last then 0 else a - last) else b.f0 - last) * b.f1 + pays a b.f0 r = _
    rw [hin]
  unfold chargeFrom
  have hb : bandsOk last (b :: r) = bandsOk b.f0 r := by
    cases e : bandsOk b.f0 r with
    | true => exact bandsOk_cons.2 ⟨h, e⟩
    | false =>
      cases e2 : bandsOk last (b :: r) with
      | false => rfl
      | true => rw [(bandsOk_cons.1 e2).2] at e; cases e
  rw [hb, hp, ← Int.add_assoc s]
  rfl
theorem charge_start {a : Int} {l : List S44} (h1 : 0 ≤ a) (h2 : a ≤ 1099511627776) (h3 : l.length ≤ 16) : chargeR a l = chargeFrom a 0 0 l := by
  unfold chargeR chargeFrom
  rw [if_neg (by omega), if_neg (by omega), Int.zero_add]
end Go.Proofs.Ytcobihdjcdefmaa
