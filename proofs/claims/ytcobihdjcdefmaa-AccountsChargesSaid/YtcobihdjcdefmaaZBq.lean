/-
  Interest of the program: what it answers. Printed by wip/tools/gen_int.py.
  Whole numbers of the reference in memory: what its functions answer.
-/
import Derived.Test.YtcobihdjcdefmaaZBo
namespace Go.Proofs.Ytcobihdjcdefmaa
open PAccountsCharges
open Go.RowKit Go.Proofs.YtcobihdjcdefmaaW.PrintWords
/-- What Interest answers. -/
def interR (c r f t : Int) : Int × Int := if -1099511627776 ≤ c ∧ c ≤ 1099511627776 ∧ 0 ≤ r ∧ r ≤ 10000 ∧ dayB f = true ∧ dayB t = true ∧ f ≤ t then (rndEven (c * r * (t - f)) 3650000, 0) else (0, 2)
theorem interR_no {c r f t : Int} (h : ¬ (-1099511627776 ≤ c ∧ c ≤ 1099511627776 ∧ 0 ≤ r ∧ r ≤ 10000 ∧ dayB f = true ∧ dayB t = true ∧ f ≤ t)) : interR c r f t = (0, 2) := if_neg h
theorem dayB_iff {n : Int} : dayB n = true ↔ 0 ≤ n ∧ n ≤ 1000000 := by unfold dayB; simp
theorem in_lo {m p : Nat} (h1 : m ≤ 1099511627776) (h2 : p ≤ 10000000000) : m * p / 18446744073709551616 < 3650000 := by
  have h3 : m * p ≤ 1099511627776 * 10000000000 := Nat.mul_le_mul h1 h2
  omega
theorem in_q {m p : Nat} (h1 : m ≤ 1099511627776) (h2 : p ≤ 10000000000) : m * p / 3650000 < 4611686018427387904 := by
  have h3 : m * p ≤ 1099511627776 * 10000000000 := Nat.mul_le_mul h1 h2
  omega
theorem in_64 {m p : Nat} : m * p / 18446744073709551616 * 18446744073709551616 + m * p % 18446744073709551616 = m * p := Nat.div_add_mod' _ _
theorem in_p {r d : Int} (h1 : 0 ≤ r ∧ r ≤ 10000) (h2 : 0 ≤ d ∧ d ≤ 1000000) : 0 ≤ r * d ∧ r * d ≤ 10000000000 :=
  ⟨Int.mul_nonneg h1.1 h2.1, by have h3 : r * d ≤ 10000 * 1000000 := Int.mul_le_mul h1.2 h2.2 h2.1 (by decide)
                                omega⟩
theorem in_2 {R : Nat} (h : R < 3650000) : IntKind.u64.wrap (2 * (R : Int)) = 2 * R := dv_lt (by omega) (by omega)
theorem in_1 {Q : Nat} (h : Q < 4611686018427387904) : IntKind.u64.wrap ((Q : Int) + 1) = (Q : Int) + 1 := by
  have a : 0 ≤ (Q : Int) + 1 ∧ (Q : Int) + 1 < 18446744073709551616 := by omega
  exact dv_lt a.1 a.2
theorem in_abs {N : Nat} : rndAbs (N : Int) 3650000 = if 3650000 < 2 * (N % 3650000) ∨ 2 * (N % 3650000) = 3650000 ∧ N / 3650000 % 2 = 1 then ((N / 3650000 : Nat) : Int) + 1 else ((N / 3650000 : Nat) : Int) := by
  unfold rndAbs
  split <;> split <;> omega
set_option maxRecDepth 100000 in
set_option maxHeartbeats 4000000 in
theorem interest_any (c r f t : Int) (w : World) : Calls Try.prog 9 #[.int .i64 c, .int .i64 r, .int .i64 f, .int .i64 t] w fun e w' => e = .returned (.tuple #[.int .i64 (interR c r f t).1, .int .i64 (interR c r f t).2]) ∧ Below w.heap.size w w' := by
  have HD := Lib.hid (fun (n : Int) (W : World) => day_any n W)
  have HB := Lib.hid (Below.refl w.heap.size w)
  go_enter Try.func9, Try.ntmps9
  by_cases h0 : c < -1099511627776
  · have b0 : decide (c < -1099511627776) = true := decide_eq_true h0
    have HNO := Lib.hid (interR_no (c := c) (r := r) (f := f) (t := t) (fun h => by omega))
    clear h0
    rw [HNO.out]
    go_wp2_with (go_at_call 32; refine (HD.out _ _).mono ?_; rintro e w2 ⟨rfl, rfl⟩)
    go_ret2
    exact ⟨rfl, HB.out⟩
  have b0 : decide (c < -1099511627776) = false := decide_eq_false h0
  by_cases h1 : 1099511627776 < c
  · have b1 : decide (1099511627776 < c) = true := decide_eq_true h1
    have HNO := Lib.hid (interR_no (c := c) (r := r) (f := f) (t := t) (fun h => by omega))
    clear h0 h1
    rw [HNO.out]
    go_wp2_with (go_at_call 32; refine (HD.out _ _).mono ?_; rintro e w2 ⟨rfl, rfl⟩)
    go_ret2
    exact ⟨rfl, HB.out⟩
  have b1 : decide (1099511627776 < c) = false := decide_eq_false h1
  by_cases h2 : r < 0
  · have b2 : decide (r < 0) = true := decide_eq_true h2
    have HNO := Lib.hid (interR_no (c := c) (r := r) (f := f) (t := t) (fun h => by omega))
    clear h0 h1 h2
    rw [HNO.out]
    go_wp2_with (go_at_call 32; refine (HD.out _ _).mono ?_; rintro e w2 ⟨rfl, rfl⟩)
    go_ret2
    exact ⟨rfl, HB.out⟩
  have b2 : decide (r < 0) = false := decide_eq_false h2
  by_cases h3 : 10000 < r
  · have b3 : decide (10000 < r) = true := decide_eq_true h3
    have HNO := Lib.hid (interR_no (c := c) (r := r) (f := f) (t := t) (fun h => by omega))
    clear h0 h1 h2 h3
    rw [HNO.out]
    go_wp2_with (go_at_call 32; refine (HD.out _ _).mono ?_; rintro e w2 ⟨rfl, rfl⟩)
    go_ret2
    exact ⟨rfl, HB.out⟩
  have b3 : decide (10000 < r) = false := decide_eq_false h3
  cases b4 : dayB f with
  | false =>
    have HNO := Lib.hid (interR_no (c := c) (r := r) (f := f) (t := t) (fun h => by have := h.2.2.2.2.1; rw [b4] at this; cases this))
    clear h0 h1 h2 h3
    rw [HNO.out]
    go_wp2_with (go_at_call 32; refine (HD.out _ _).mono ?_; rintro e w2 ⟨rfl, rfl⟩)
    go_ret2
    exact ⟨rfl, HB.out⟩
  | true =>
    cases b5 : dayB t with
    | false =>
      have HNO := Lib.hid (interR_no (c := c) (r := r) (f := f) (t := t) (fun h => by have := h.2.2.2.2.2.1; rw [b5] at this; cases this))
      clear h0 h1 h2 h3
      rw [HNO.out]
      go_wp2_with (go_at_call 32; refine (HD.out _ _).mono ?_; rintro e w2 ⟨rfl, rfl⟩)
      go_ret2
      exact ⟨rfl, HB.out⟩
    | true =>
      by_cases h6 : t < f
      · have b6 : decide (t < f) = true := decide_eq_true h6
        have HNO := Lib.hid (interR_no (c := c) (r := r) (f := f) (t := t) (fun h => by omega))
        clear h0 h1 h2 h3 h6
        rw [HNO.out]
        go_wp2_with (go_at_call 32; refine (HD.out _ _).mono ?_; rintro e w2 ⟨rfl, rfl⟩)
        go_ret2
        exact ⟨rfl, HB.out⟩
      have b6 : decide (t < f) = false := decide_eq_false h6
      have hf := dayB_iff.1 b4
      have ht := dayB_iff.1 b5
      have HOK : Hid (interR c r f t = (rndEven (c * r * (t - f)) 3650000, 0)) := Lib.hid (if_pos ⟨by omega, by omega, by omega, by omega, b4, b5, by omega⟩)
      have hp := in_p (r := r) (d := t - f) ⟨by omega, by omega⟩ ⟨by omega, by omega⟩
      obtain ⟨p, hpp⟩ : ∃ p : Nat, (p : Int) = r * (t - f) := ⟨(r * (t - f)).toNat, by omega⟩
      obtain ⟨m, hm⟩ : ∃ m : Nat, (m : Int) = max c (-c) := ⟨(max c (-c)).toNat, by omega⟩
      have hmb : m ≤ 1099511627776 := by omega
      have hpb : p ≤ 10000000000 := by omega
      have HRS := Lib.hid (interest_same (c := c) (r := r) (d := t - f))
      rw [← hm, ← hpp] at HRS
      have g1 : IntKind.i64.wrap (-c) = -c := IntWalk.i64_in _ (by omega)
      have g2 : (if c < -c then -c else c) = (m : Int) := by rw [hm]; split <;> omega
      have g3 : IntKind.u64.wrap (m : Int) = m := mu_wrap m (by omega)
      have g4 : IntKind.i64.wrap (t - f) = t - f := IntWalk.i64_in _ (by omega)
      have g5 : IntKind.i64.wrap (r * (t - f)) = (p : Int) := by rw [← hpp]; exact IntWalk.i64_in _ (by omega)
      have g6 : IntKind.u64.wrap (p : Int) = p := mu_wrap p (by omega)
      have HM := Lib.hid (fun (W : World) => bits_Mul64.calls (m : Int) (p : Int) _ _ W (mul64_f m p (by omega) (by omega)))
      have HMB := Lib.hid (And.intro hmb hpb)
      have HSG : Hid (c = if c < 0 then -(m : Int) else (m : Int)) := Lib.hid (by split <;> omega)
      clear hm hmb hpb hpp hp hf ht h0 h1 h2 h3 h6
      go_upto_region 4 with (go_at_call 32; refine (HD.out _ _).mono ?_; rintro e w2 ⟨rfl, rfl⟩)
      go_wp2_with (go_at_call 33; refine (HM.out _).mono ?_; rintro e w2 ⟨rfl, hd⟩)
      have HB2 := Lib.hid hd.below
      have HV := Lib.hid (div64_any (m * p / 18446744073709551616) (m * p % 18446744073709551616) (in_lo HMB.out.1 HMB.out.2) (Nat.mod_lt _ (by decide)) w2)
      rw [in_64] at HV
      obtain ⟨Q, hQ⟩ : ∃ Q, Q = m * p / 3650000 := ⟨_, rfl⟩
      obtain ⟨R, hR⟩ : ∃ R, R = m * p % 3650000 := ⟨_, rfl⟩
      have hab := in_abs (N := m * p)
      rw [← hQ, ← hR] at HV hab
      have HQR : Hid (Q < 4611686018427387904 ∧ R < 3650000) := Lib.hid ⟨by rw [hQ]; exact in_q HMB.out.1 HMB.out.2, by rw [hR]; exact Nat.mod_lt _ (by decide)⟩
      rw [mu_mul, hab] at HRS
      have HR2 := Lib.hid HRS.out
      clear hd HM HRS hab hQ hR g1 g2 g3 g4 g5 g6
      go_upto_region 6 with (refine HV.out.mono ?_; rintro e w3 ⟨rfl, hb3⟩)
      have HB3 := Lib.hid (below_step HB2.out hb3)
      have k1 : IntKind.u64.wrap (2 * (R : Int)) = 2 * R := in_2 HQR.out.2
      clear hb3 HV HB2
      by_cases u1 : 3650000 < 2 * R
      · have d1 : decide ((3650000 : Int) < 2 * R) = true := decide_eq_true (by omega)
        have wq : IntKind.u64.wrap ((Q : Int) + 1) = (Q : Int) + 1 := in_1 HQR.out.1
        have HR3 : Hid (rndEven (c * r * (t - f)) 3650000 = if c < 0 then -((Q : Int) + 1) else ((Q : Int) + 1)) := Lib.hid (by rw [HR2.out, if_pos (c := 3650000 < 2 * R ∨ 2 * R = 3650000 ∧ Q % 2 = 1) (.inl u1)])
        have w1 : wrap64 ((Q : Int) + 1) = ((Q : Int) + 1) := IntWalk.wrap64_in _ (by have := HQR.out.1; omega)
        have w2 : wrap64 (-((Q : Int) + 1)) = -((Q : Int) + 1) := IntWalk.wrap64_in _ (by have := HQR.out.1; omega)
        have w3 : IntKind.i64.wrap ((Q : Int) + 1) = ((Q : Int) + 1) := (IntWalk.i64_left _).trans w1
        have w4 : IntKind.i64.wrap (-((Q : Int) + 1)) = -((Q : Int) + 1) := (IntWalk.i64_left _).trans w2
        by_cases hc : c < 0
        · have d5 : decide (c < 0) = true := decide_eq_true hc
          have HC := Lib.hid hc
          clear hc
          go_wp2_with fail
          go_ret2
          rw [HOK.out, HR3.out, if_pos HC.out]
          exact ⟨rfl, HB3.out⟩
        · have d5 : decide (c < 0) = false := decide_eq_false hc
          have HC := Lib.hid hc
          clear hc
          go_wp2_with fail
          go_ret2
          rw [HOK.out, HR3.out, if_neg (Int.not_lt.2 HC.out)]
          exact ⟨rfl, HB3.out⟩
      · have d1 : decide ((3650000 : Int) < 2 * R) = false := decide_eq_false (by omega)
        by_cases u2 : 2 * R = 3650000
        · have d2 : (2 * (R : Int) == 3650000) = true := beq_iff_eq.2 (by omega)
          by_cases u3 : Q % 2 = 1
          · have d3 : ((Q : Int) % 2 == 1) = true := beq_iff_eq.2 (by omega)
            have wq : IntKind.u64.wrap ((Q : Int) + 1) = (Q : Int) + 1 := in_1 HQR.out.1
            have HR3 : Hid (rndEven (c * r * (t - f)) 3650000 = if c < 0 then -((Q : Int) + 1) else ((Q : Int) + 1)) := Lib.hid (by rw [HR2.out, if_pos (c := 3650000 < 2 * R ∨ 2 * R = 3650000 ∧ Q % 2 = 1) (.inr ⟨u2, u3⟩)])
            have w1 : wrap64 ((Q : Int) + 1) = ((Q : Int) + 1) := IntWalk.wrap64_in _ (by have := HQR.out.1; omega)
            have w2 : wrap64 (-((Q : Int) + 1)) = -((Q : Int) + 1) := IntWalk.wrap64_in _ (by have := HQR.out.1; omega)
            have w3 : IntKind.i64.wrap ((Q : Int) + 1) = ((Q : Int) + 1) := (IntWalk.i64_left _).trans w1
            have w4 : IntKind.i64.wrap (-((Q : Int) + 1)) = -((Q : Int) + 1) := (IntWalk.i64_left _).trans w2
            by_cases hc : c < 0
            · have d5 : decide (c < 0) = true := decide_eq_true hc
              have HC := Lib.hid hc
              clear hc
              go_wp2_with fail
              go_ret2
              rw [HOK.out, HR3.out, if_pos HC.out]
              exact ⟨rfl, HB3.out⟩
            · have d5 : decide (c < 0) = false := decide_eq_false hc
              have HC := Lib.hid hc
              clear hc
              go_wp2_with fail
              go_ret2
              rw [HOK.out, HR3.out, if_neg (Int.not_lt.2 HC.out)]
              exact ⟨rfl, HB3.out⟩
          · have d3 : ((Q : Int) % 2 == 1) = false := beq_eq_false_iff_ne.2 (by omega)
            have HR3 : Hid (rndEven (c * r * (t - f)) 3650000 = if c < 0 then -(Q : Int) else (Q : Int)) := Lib.hid (by rw [HR2.out, if_neg (c := 3650000 < 2 * R ∨ 2 * R = 3650000 ∧ Q % 2 = 1) (fun h => h.elim u1 (fun h => u3 h.2))])
            have w1 : wrap64 (Q : Int) = (Q : Int) := IntWalk.wrap64_in _ (by have := HQR.out.1; omega)
            have w2 : wrap64 (-(Q : Int)) = -(Q : Int) := IntWalk.wrap64_in _ (by have := HQR.out.1; omega)
            have w3 : IntKind.i64.wrap (Q : Int) = (Q : Int) := (IntWalk.i64_left _).trans w1
            have w4 : IntKind.i64.wrap (-(Q : Int)) = -(Q : Int) := (IntWalk.i64_left _).trans w2
            by_cases hc : c < 0
            · have d5 : decide (c < 0) = true := decide_eq_true hc
              have HC := Lib.hid hc
              clear hc
              go_wp2_with fail
              go_ret2
              rw [HOK.out, HR3.out, if_pos HC.out]
              exact ⟨rfl, HB3.out⟩
            · have d5 : decide (c < 0) = false := decide_eq_false hc
              have HC := Lib.hid hc
              clear hc
              go_wp2_with fail
              go_ret2
              rw [HOK.out, HR3.out, if_neg (Int.not_lt.2 HC.out)]
              exact ⟨rfl, HB3.out⟩
        · have d2 : (2 * (R : Int) == 3650000) = false := beq_eq_false_iff_ne.2 (by omega)
          have HR3 : Hid (rndEven (c * r * (t - f)) 3650000 = if c < 0 then -(Q : Int) else (Q : Int)) := Lib.hid (by rw [HR2.out, if_neg (c := 3650000 < 2 * R ∨ 2 * R = 3650000 ∧ Q % 2 = 1) (fun h => h.elim u1 (fun h => u2 h.1))])
          have w1 : wrap64 (Q : Int) = (Q : Int) := IntWalk.wrap64_in _ (by have := HQR.out.1; omega)
          have w2 : wrap64 (-(Q : Int)) = -(Q : Int) := IntWalk.wrap64_in _ (by have := HQR.out.1; omega)
          have w3 : IntKind.i64.wrap (Q : Int) = (Q : Int) := (IntWalk.i64_left _).trans w1
          have w4 : IntKind.i64.wrap (-(Q : Int)) = -(Q : Int) := (IntWalk.i64_left _).trans w2
          by_cases hc : c < 0
          · have d5 : decide (c < 0) = true := decide_eq_true hc
            have HC := Lib.hid hc
            clear hc
            go_wp2_with fail
            go_ret2
            rw [HOK.out, HR3.out, if_pos HC.out]
            exact ⟨rfl, HB3.out⟩
          · have d5 : decide (c < 0) = false := decide_eq_false hc
            have HC := Lib.hid hc
            clear hc
            go_wp2_with fail
            go_ret2
            rw [HOK.out, HR3.out, if_neg (Int.not_lt.2 HC.out)]
            exact ⟨rfl, HB3.out⟩
end Go.Proofs.Ytcobihdjcdefmaa
namespace Go.Proofs.Ytcobihdjcdefmaa
open PAccountsCharges
open Go.RowKit Go.Proofs.YtcobihdjcdefmaaW.PrintWords
theorem ends_k {α : Type} {f : Nat → Option α} {r : α} (h : Ends f r) : ∃ k, f k = some r := by
  obtain ⟨K, hK⟩ := h
  exact ⟨K, hK K (Nat.le_refl _)⟩
/-- A whole number in memory. -/
def BG (w : World) (A : Option Addr) (c : Nat) (n : Int) : Prop := (dg n.natAbs).length ≤ c ∧ Kd.C (Kd.int .i64) w A (dg n.natAbs).length (dg n.natAbs)
theorem BG.below {w w' : World} {A : Option Addr} {c : Nat} {n : Int} (h : BG w A c n) (hb : Below w.heap.size w w') : BG w' A c n := ⟨h.1, Kd.C_below h.2 hb⟩
theorem BG.ofR {w : World} {base : Nat} {ok : Nat → Prop} {v : Value} {n : Int} (h : Kd.R (Kd.int .i64) 3 w base ok v (dg n.natAbs)) : ∃ A c, v = .slice A (dg n.natAbs).length c ∧ BG w A c n := by
  obtain ⟨A, c, rfl⟩ := Kd.R_slice h
  obtain ⟨_, h1, h2⟩ := Kd.R_reads' h
  exact ⟨A, c, rfl, h1, h2⟩
theorem of_any (n : Int) (h : n.natAbs ≤ 4611686018427387904) (w : World) : Calls Try.prog 29 #[.int .i64 n] w fun e w' => (∃ A c, e = .returned ((Value.agg #[.bool (decide (n < 0)), .slice A (dg n.natAbs).length c])) ∧ BG w' A c n) ∧ Below w.heap.size w w' := by
  obtain ⟨k, hk⟩ := ends_k (of_e h)
  refine (merinoref01_Of.calls k n _ _ w hk).mono ?_
  rintro e w' ⟨v, rfl, hR, hb⟩
  obtain ⟨A, c, rfl, hB⟩ := BG.ofR hR
  exact ⟨⟨A, c, rfl, hB⟩, hb⟩
section
variable {w : World} {A B : Option Addr} {c d : Nat} {x y : Int}
theorem plus_any (hx : BG w A c x) (hy : BG w B d y) (lx : (dg x.natAbs).length ≤ 300) (ly : (dg y.natAbs).length ≤ 300) : Calls Try.prog 27 #[(Value.agg #[.bool (decide (x < 0)), .slice A (dg x.natAbs).length c]), (Value.agg #[.bool (decide (y < 0)), .slice B (dg y.natAbs).length d])] w fun e w' => (∃ A c, e = .returned ((Value.agg #[.bool (decide (x + y < 0)), .slice A (dg (x + y).natAbs).length c])) ∧ BG w' A c (x + y)) ∧ Below w.heap.size w w' := by
  obtain ⟨k, hk⟩ := ends_k (plus_e lx ly)
  refine (merinoref01_Plus.calls k _ A c _ _ B d _ _ _ w hx.2 hx.1 hy.2 hy.1 hk).mono ?_
  rintro e w' ⟨v, rfl, hR, hb⟩
  obtain ⟨A, c, rfl, hB⟩ := BG.ofR hR
  exact ⟨⟨A, c, rfl, hB⟩, hb⟩
theorem times_any (hx : BG w A c x) (hy : BG w B d y) (lx : (dg x.natAbs).length ≤ 300) (ly : (dg y.natAbs).length ≤ 300) : Calls Try.prog 28 #[(Value.agg #[.bool (decide (x < 0)), .slice A (dg x.natAbs).length c]), (Value.agg #[.bool (decide (y < 0)), .slice B (dg y.natAbs).length d])] w fun e w' => (∃ A c, e = .returned ((Value.agg #[.bool (decide (x * y < 0)), .slice A (dg (x * y).natAbs).length c])) ∧ BG w' A c (x * y)) ∧ Below w.heap.size w w' := by
  obtain ⟨k, hk⟩ := ends_k (times_e lx ly)
  refine (merinoref01_Times.calls k _ A c _ _ B d _ _ _ w hx.2 hx.1 hy.2 hy.1 hk).mono ?_
  rintro e w' ⟨v, rfl, hR, hb⟩
  obtain ⟨A, c, rfl, hB⟩ := BG.ofR hR
  exact ⟨⟨A, c, rfl, hB⟩, hb⟩
theorem over_any {y : Nat} (hx : BG w A c x) (hy : BG w B d y) (lx : (dg x.natAbs).length ≤ 300) (h0 : 0 < y) (ly : (dg y).length ≤ 100) : Calls Try.prog 59 #[(Value.agg #[.bool (decide (x < 0)), .slice A (dg x.natAbs).length c]), (Value.agg #[.bool (decide ((y : Int) < 0)), .slice B (dg ((y : Int)).natAbs).length d])] w fun e w' => (∃ A1 c1 A2 c2, e = .returned (.tuple #[(Value.agg #[.bool (decide (x / y < 0)), .slice A1 (dg (x / y).natAbs).length c1]), (Value.agg #[.bool (decide (x % y < 0)), .slice A2 (dg (x % y).natAbs).length c2])]) ∧ BG w' A1 c1 (x / y) ∧ BG w' A2 c2 (x % y)) ∧ Below w.heap.size w w' := by
  obtain ⟨k, hk⟩ := ends_k (over_e (decide ((y : Int) < 0)) lx h0 ly)
  have hy2 : Kd.C (Kd.int .i64) w B (dg y).length (dg y) := hy.2
  refine (merinoref01_Over.calls k _ A c _ _ B d _ _ _ _ _ w hx.2 hx.1 hy2 hy.1 hk).mono ?_
  rintro e w' ⟨v1, v2, rfl, hR1, hR2, hb⟩
  obtain ⟨A1, c1, rfl, hB1⟩ := BG.ofR hR1
  obtain ⟨A2, c2, rfl, hB2⟩ := BG.ofR hR2
  exact ⟨⟨A1, c1, A2, c2, rfl, hB1, hB2⟩, hb⟩
theorem zero_any (hx : BG w A c x) : Calls Try.prog 60 #[(Value.agg #[.bool (decide (x < 0)), .slice A (dg x.natAbs).length c])] w fun e w' => e = .returned (.bool (x == 0)) ∧ Below w.heap.size w w' := by
  have e : merinoref01_Zero.f (decide (x < 0)) (dg x.natAbs) = some (x == 0) := by
    unfold merinoref01_Zero.f
    congr 1
    have h := dg_nil_iff (n := x.natAbs)
    by_cases h0 : x = 0
    · subst h0; show (((dg 0).length : Int) == 0) = true; rw [dg_zero]; rfl
    · rw [beq_eq_false_iff_ne.2 h0, beq_eq_false_iff_ne]; intro h1; have := h.1 (by omega); omega
  refine (merinoref01_Zero.calls _ A c _ _ w hx.2 hx.1 e).mono ?_
  rintro e w' ⟨rfl, hb⟩
  exact ⟨rfl, hb⟩
theorem compare_any (hx : BG w A c x) (hy : BG w B d y) (h0 : 0 ≤ x) (h1 : 0 ≤ y) (lx : (dg x.natAbs).length ≤ 300) : Calls Try.prog 61 #[(Value.agg #[.bool (decide (x < 0)), .slice A (dg x.natAbs).length c]), (Value.agg #[.bool (decide (y < 0)), .slice B (dg y.natAbs).length d])] w fun e w' => e = .returned (.int .i64 (cmpI x y)) ∧ Below w.heap.size w w' := by
  have e : Ends (fun k => merinoref01_Compare.f k (decide (x < 0)) (dg x.natAbs) (decide (y < 0)) (dg y.natAbs)) (cmpI x y) := by
    have h := cmp_e (x := x.natAbs) (y := y.natAbs) (by omega)
    rw [show ((x.natAbs : Nat) : Int) = x by omega, show ((y.natAbs : Nat) : Int) = y by omega] at h
    refine Ends.same (Ends.bind h (h := fun t _ => some t) Ends.pure) fun k => ?_
    unfold merinoref01_Compare.f
    rw [decide_eq_false (by omega), decide_eq_false (by omega)]
    rfl
  obtain ⟨k, hk⟩ := ends_k e
  refine (merinoref01_Compare.calls k _ A c _ _ B d _ _ w hx.2 hx.1 hy.2 hy.1 hk).mono ?_
  rintro e w' ⟨rfl, hb⟩
  exact ⟨rfl, hb⟩
end
end Go.Proofs.Ytcobihdjcdefmaa
