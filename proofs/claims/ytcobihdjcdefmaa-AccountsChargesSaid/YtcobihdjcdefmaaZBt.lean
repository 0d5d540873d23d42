/-
  Interest of the reference: what it answers. Printed by wip/tools/gen_rint.py.
-/
import Derived.Test.YtcobihdjcdefmaaZBs
namespace Go.Proofs.Ytcobihdjcdefmaa
open PAccountsCharges
open Go.RowKit Go.Proofs.YtcobihdjcdefmaaW.PrintWords
theorem rnd_bd {u : Int} (h : u.natAbs ≤ 10995116277760000000000) : (rndEven u 3650000).natAbs ≤ 1152921504606846976 := by
  unfold rndEven
  split
  · omega
  · split <;> omega
def centsB (n : Int) : Bool := decide (-1099511627776 ≤ n ∧ n ≤ 1099511627776)
theorem centsB_iff {n : Int} : centsB n = true ↔ -1099511627776 ≤ n ∧ n ≤ 1099511627776 := by unfold centsB; simp
set_option maxHeartbeats 400000 in
theorem rday_any (n : Int) (w : World) : Calls Try.prog 35 #[.int .i64 n] w fun e w' => e = .returned (.bool (dayB n)) ∧ w = w' := by
  by_cases h0 : 0 ≤ n
  · by_cases h1 : n ≤ 1000000
    · have hd : dayB n = true := by simp [dayB, h0, h1]
      go_enter Try.func35, Try.ntmps35
      go_wp2
      go_ret
      exact ⟨by first | rfl | (rw [hd]; rfl), rfl⟩
    · have hd : dayB n = false := by simp [dayB, h1]
      go_enter Try.func35, Try.ntmps35
      go_wp2
      go_ret
      exact ⟨by first | rfl | (rw [hd]; rfl), rfl⟩
  · have hd : dayB n = false := by simp [dayB, h0]
    go_enter Try.func35, Try.ntmps35
    go_wp2
    go_ret
    exact ⟨by first | rfl | (rw [hd]; rfl), rfl⟩
set_option maxHeartbeats 400000 in
theorem cents_any (n : Int) (w : World) : Calls Try.prog 26 #[.int .i64 n] w fun e w' => e = .returned (.bool (centsB n)) ∧ w = w' := by
  by_cases h0 : (-1099511627776) ≤ n
  · by_cases h1 : n ≤ 1099511627776
    · have hd : centsB n = true := by simp [centsB, h0, h1]
      go_enter Try.func26, Try.ntmps26
      go_wp2
      go_ret
      exact ⟨by first | rfl | (rw [hd]; rfl), rfl⟩
    · have hd : centsB n = false := by simp [centsB, h1]
      go_enter Try.func26, Try.ntmps26
      go_wp2
      go_ret
      exact ⟨by first | rfl | (rw [hd]; rfl), rfl⟩
  · have hd : centsB n = false := by simp [centsB, h0]
    go_enter Try.func26, Try.ntmps26
    go_wp2
    go_ret
    exact ⟨by first | rfl | (rw [hd]; rfl), rfl⟩
set_option maxRecDepth 100000 in
set_option maxHeartbeats 4000000 in
theorem rinterest_any (c r f t : Int) (w : World) : Calls Try.prog 10 #[.int .i64 c, .int .i64 r, .int .i64 f, .int .i64 t] w fun e w' => e = .returned (.tuple #[.int .i64 (interR c r f t).1, .int .i64 (interR c r f t).2]) ∧ Below w.heap.size w w' := by
  have HD := Lib.hid (fun (n : Int) (W : World) => rday_any n W)
  have HC := Lib.hid (fun (n : Int) (W : World) => cents_any n W)
  have HB := Lib.hid (Below.refl w.heap.size w)
  go_enter Try.func10, Try.ntmps10
  cases b0 : centsB c with
  | false =>
    have HNO := Lib.hid (interR_no (c := c) (r := r) (f := f) (t := t) (fun h => by have := centsB_iff.2 ⟨h.1, h.2.1⟩; rw [b0] at this; cases this))
    rw [HNO.out]
    go_wp2_with (first | (go_at_call 26; refine (HC.out _ _).mono ?_; rintro e w2 ⟨rfl, rfl⟩) | (go_at_call 35; refine (HD.out _ _).mono ?_; rintro e w2 ⟨rfl, rfl⟩))
    go_ret2
    exact ⟨rfl, HB.out⟩
  | true =>
    by_cases h1 : r < 0
    · have b1 : decide (r < 0) = true := decide_eq_true h1
      have HNO := Lib.hid (interR_no (c := c) (r := r) (f := f) (t := t) (fun h => by omega))
      clear h1
      rw [HNO.out]
      go_wp2_with (first | (go_at_call 26; refine (HC.out _ _).mono ?_; rintro e w2 ⟨rfl, rfl⟩) | (go_at_call 35; refine (HD.out _ _).mono ?_; rintro e w2 ⟨rfl, rfl⟩))
      go_ret2
      exact ⟨rfl, HB.out⟩
    have b1 : decide (r < 0) = false := decide_eq_false h1
    by_cases h2 : 10000 < r
    · have b2 : decide (10000 < r) = true := decide_eq_true h2
      have HNO := Lib.hid (interR_no (c := c) (r := r) (f := f) (t := t) (fun h => by omega))
      clear h1 h2
      rw [HNO.out]
      go_wp2_with (first | (go_at_call 26; refine (HC.out _ _).mono ?_; rintro e w2 ⟨rfl, rfl⟩) | (go_at_call 35; refine (HD.out _ _).mono ?_; rintro e w2 ⟨rfl, rfl⟩))
      go_ret2
      exact ⟨rfl, HB.out⟩
    have b2 : decide (10000 < r) = false := decide_eq_false h2
    cases b3 : dayB f with
    | false =>
      have HNO := Lib.hid (interR_no (c := c) (r := r) (f := f) (t := t) (fun h => by have := h.2.2.2.2.1; rw [b3] at this; cases this))
      clear h1 h2
      rw [HNO.out]
      go_wp2_with (first | (go_at_call 26; refine (HC.out _ _).mono ?_; rintro e w2 ⟨rfl, rfl⟩) | (go_at_call 35; refine (HD.out _ _).mono ?_; rintro e w2 ⟨rfl, rfl⟩))
      go_ret2
      exact ⟨rfl, HB.out⟩
    | true =>
      cases b4 : dayB t with
      | false =>
        have HNO := Lib.hid (interR_no (c := c) (r := r) (f := f) (t := t) (fun h => by have := h.2.2.2.2.2.1; rw [b4] at this; cases this))
        clear h1 h2
        rw [HNO.out]
        go_wp2_with (first | (go_at_call 26; refine (HC.out _ _).mono ?_; rintro e w2 ⟨rfl, rfl⟩) | (go_at_call 35; refine (HD.out _ _).mono ?_; rintro e w2 ⟨rfl, rfl⟩))
        go_ret2
        exact ⟨rfl, HB.out⟩
      | true =>
        by_cases h5 : t < f
        · have b5 : decide (t < f) = true := decide_eq_true h5
          have HNO := Lib.hid (interR_no (c := c) (r := r) (f := f) (t := t) (fun h => by omega))
          clear h1 h2 h5
          rw [HNO.out]
          go_wp2_with (first | (go_at_call 26; refine (HC.out _ _).mono ?_; rintro e w2 ⟨rfl, rfl⟩) | (go_at_call 35; refine (HD.out _ _).mono ?_; rintro e w2 ⟨rfl, rfl⟩))
          go_ret2
          exact ⟨rfl, HB.out⟩
        have b5 : decide (t < f) = false := decide_eq_false h5
        have hc := centsB_iff.1 b0
        have hf := dayB_iff.1 b3
        have ht := dayB_iff.1 b4
        have HOK : Hid (interR c r f t = (rndEven (c * r * (t - f)) 3650000, 0)) := Lib.hid (if_pos ⟨hc.1, hc.2, by omega, by omega, b3, b4, by omega⟩)
        go_upto_region 3 with (first | (go_at_call 26; refine (HC.out _ _).mono ?_; rintro e w2 ⟨rfl, rfl⟩) | (go_at_call 35; refine (HD.out _ _).mono ?_; rintro e w2 ⟨rfl, rfl⟩))
        obtain ⟨d, hd⟩ : ∃ d, d = t - f := ⟨_, rfl⟩
        have g1 : IntKind.i64.wrap (t - f) = d := by rw [hd]; exact IntWalk.i64_in _ (by omega)
        rw [← hd] at HOK
        have HR : Hid ((-1099511627776 ≤ c ∧ c ≤ 1099511627776) ∧ (0 ≤ r ∧ r ≤ 10000) ∧ (0 ≤ d ∧ d ≤ 1000000)) := Lib.hid ⟨hc, by omega, by omega⟩
        have pw6 : (10000 : Int) ^ 4 = 10000000000000000 := by decide
        have HL : Hid ((dg c.natAbs).length ≤ 4 ∧ (dg r.natAbs).length ≤ 4 ∧ (dg d.natAbs).length ≤ 4) := Lib.hid ⟨dg_len (by rw [pw6]; omega), dg_len (by rw [pw6]; omega), dg_len (by rw [pw6]; omega)⟩
        have HO1 := Lib.hid (of_any c (by omega) w)
        have HO2 := Lib.hid (fun W => of_any r (by omega) W)
        have HO3 := Lib.hid (fun W => of_any d (by omega) W)
        clear pw6 hd hc hf ht b0 b1 b2 b3 b4 b5 h1 h2 h5 HD HC
        go_wp2_with fail
        refine HO1.out.mono ?_
        rintro e w1 ⟨⟨A1, c1, rfl, hB1⟩, hb1⟩
        have HB1 := Lib.hid hb1
        have HX1 := Lib.hid hB1
        clear hb1 hB1 HO1
        go_wp2_with fail
        refine (HO2.out w1).mono ?_
        rintro e w2 ⟨⟨A2, c2, rfl, hB2⟩, hb2⟩
        have HB2 := Lib.hid (below_t HB1.out hb2)
        have HT1 := Lib.hid (times_any (HX1.out.below hb2) hB2 (by have := HL.out; omega) (by have := HL.out; omega))
        clear hb2 hB2 HO2 HB1 HX1
        go_wp2_with fail
        refine HT1.out.mono ?_
        rintro e w3 ⟨⟨A3, c3, rfl, hB3⟩, hb3⟩
        have HB3 := Lib.hid (below_t HB2.out hb3)
        have HX3 := Lib.hid hB3
        clear hb3 hB3 HT1 HB2
        obtain ⟨m, hm⟩ : ∃ m, m = c * r := ⟨_, rfl⟩
        have hml : (dg (c * r).natAbs).length ≤ 8 := by rw [Int.natAbs_mul]; have := dg_len_mul (x := c.natAbs) (y := r.natAbs); have := HL.out; omega
        have hmb : (c * r).natAbs ≤ 1099511627776 * 10000 := by rw [Int.natAbs_mul]; exact Nat.mul_le_mul (by have := HR.out; omega) (by have := HR.out; omega)
        rw [← hm] at HX3 HOK hml hmb ⊢
        have HMB := Lib.hid hmb
        have HML := Lib.hid hml
        clear hm hml hmb
        go_wp2_with fail
        refine (HO3.out w3).mono ?_
        rintro e w4 ⟨⟨A4, c4, rfl, hB4⟩, hb4⟩
        have HB4 := Lib.hid (below_t HB3.out hb4)
        have HT2 := Lib.hid (times_any (HX3.out.below hb4) hB4 (by have := HML.out; omega) (by have := HL.out; omega))
        clear hb4 hB4 HO3 HB3 HX3
        go_wp2_with fail
        refine HT2.out.mono ?_
        rintro e w5 ⟨⟨A5, c5, rfl, hB5⟩, hb5⟩
        obtain ⟨u, hu⟩ : ∃ u, u = m * d := ⟨_, rfl⟩
        have hul : (dg (m * d).natAbs).length ≤ 12 := by rw [Int.natAbs_mul]; have := dg_len_mul (x := m.natAbs) (y := d.natAbs); have := HML.out; have := HL.out; omega
        have hub : (m * d).natAbs ≤ 1099511627776 * 10000 * 1000000 := by rw [Int.natAbs_mul]; exact Nat.mul_le_mul HMB.out (by have := HR.out; omega)
        rw [← hu] at hB5 HOK hul hub ⊢
        have HUB := Lib.hid hub
        have HUL := Lib.hid hul
        have HU := Lib.hid hB5
        have HB5 := Lib.hid (below_t HB4.out hb5)
        obtain ⟨nu, hnu⟩ : ∃ nu, nu = decide (u < 0) := ⟨_, rfl⟩
        rw [← hnu]
        have HNU := Lib.hid hnu
        clear hu hul hub hB5 hb5 HT2 HB4 hnu g1
        have HK := Lib.hid (Blk.new w5 #[.bool nu, .slice A5 (dg u.natAbs).length c5] 55)
        have hal := below_alloc (Below.refl w5.heap.size w5) (.cells #[.bool nu, .slice A5 (dg u.natAbs).length c5] 55 (0, 0))
        have HB6 := Lib.hid (below_t HB5.out hal)
        have HU6 := Lib.hid (HU.out.below hal)
        clear hal HU
        go_upto_region 4 with (fail)
        generalize w5.alloc (.cells #[.bool nu, .slice A5 (dg u.natAbs).length c5] 55 (0, 0)) = w6 at *
        generalize w5.heap.size = g0 at *
        have HOY : Hid (∀ W : World, Calls Try.prog 29 #[.int .i64 3650000] W fun e w' => (∃ A c, e = .returned (.agg #[.bool false, .slice A (dg 3650000).length c]) ∧ BG w' A c 3650000) ∧ Below W.heap.size W w') := Lib.hid (fun W => of_any 3650000 (by decide) W)
        have hly : (dg 3650000).length ≤ 4 := dg_len (by rw [show (10000 : Int) ^ 4 = 10000000000000000 from by decide]; omega)
        have HRD : Hid (∀ (W : World) (B : Option Addr) (e : Nat), BG W B e 3650000 → Below w6.heap.size w6 W → Calls Try.prog 31 #[.agg #[.bool nu, .slice A5 (dg u.natAbs).length c5], .agg #[.bool false, .slice B (dg 3650000).length e], .int .i64 4] W fun e w' => (∃ A' c', e = .returned (.agg #[.bool (decide (rndEven u 3650000 < 0)), .slice A' (dg (rndEven u 3650000).natAbs).length c']) ∧ BG w' A' c' (rndEven u 3650000)) ∧ Below W.heap.size W w') := Lib.hid (fun W B e hB hW => by
          have h := rounded_any (y := 3650000) (.inr rfl) (HU6.out.below hW) hB (by have := HUL.out; omega) (by decide) (by omega)
          rw [← HNU.out] at h
          exact h)
        have HWI := Lib.hid (fun (W : World) (A : Option Addr) (e : Nat) (h : BG W A e (rndEven u 3650000)) => within_any h (most := 1152921504606846976) (by decide) (by decide) (rnd_bd HUB.out))
        generalize rndEven u 3650000 = R at *
        have HKA : Hid (∀ W, Below w6.heap.size w6 W → W.cell? ⟨g0, 0, none⟩ = some (.bool nu) ∧ W.cell? ⟨g0, 1, none⟩ = some (.slice A5 (dg u.natAbs).length c5) ∧ Below w6.heap.size w6 W) := Lib.hid (fun W hW =>
          ⟨Blk.cell (HK.out.fr (Fr.of_below hW (fun _ => False)) (fun a => a)) 0 rfl, Blk.cell (HK.out.fr (Fr.of_below hW (fun _ => False)) (fun a => a)) 1 rfl, hW⟩)
        generalize dg 3650000 = dy at *
        clear hly
        have S0 := HKA.out _ ((Fr.refl (fun _ => False) w6).drew.none_below)
        go_region_held3 (fun W => W.cell? ⟨g0, 0, none⟩ = some (.bool nu) ∧ W.cell? ⟨g0, 1, none⟩ = some (.slice A5 (dg u.natAbs).length c5) ∧ Below w6.heap.size w6 W)
          (first | (with_reducible exact S0) | (with_reducible exact S7) | (with_reducible exact S6) | (with_reducible exact S5) | (trace_state; fail))
          (first
            | (go_at_call 29; refine (HOY.out w6.drew).mono ?_; rintro e w7 ⟨⟨A7, c7, rfl, hB7⟩, hb7⟩; have S5 := HKA.out _ (below_t S0.2.2 hb7))
            | (go_at_call 31; refine (HRD.out w7 A7 c7 hB7 S5.2.2).mono ?_; rintro e w8 ⟨⟨A8, c8, rfl, hB8⟩, hb8⟩; have S6 := HKA.out _ (below_t S5.2.2 hb8))
            | (go_at_call 30; refine (HWI.out w8 A8 c8 hB8).mono ?_; rintro e w9 ⟨rfl, hb9⟩; have S7 := HKA.out _ (below_t S6.2.2 hb9)))
        all_goals
          have HB9 := Lib.hid (below_t HB6.out S7.2.2)
          clear S0 S5 S6 S7 hb7 hb8 hb9 hB7 hB8
          go_wp2_with fail
          go_ret2
          rw [HOK.out]
          exact ⟨rfl, HB9.out⟩
end Go.Proofs.Ytcobihdjcdefmaa
