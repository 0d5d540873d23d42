/-
  The walk of the law AccountsCalendar.
-/
import Derived.Test.YtpmopdgnnlhplaaDl
namespace Go.Proofs.Ytpmopdgnnlhplaa
open Go.RowKit Go.Proofs.YtpmopdgnnlhplaaW.PrintWords
theorem eq40_ne {a b c a' b' c' : Int} (h : a ≠ a' ∨ b ≠ b' ∨ c ≠ c') (w : World) : (binOp .eql 40 (.agg #[.int .i64 a, .int .i64 b, .int .i64 c]) (.agg #[.int .i64 a', .int .i64 b', .int .i64 c'])).run Try.prog w = .ok (.bool false) w := by
  have hu := Try.underlying40
  have hu3 := Try.underlying3
  by_cases h1 : a = a' <;> by_cases h2 : b = b' <;> by_cases h3 : c = c' <;> simp_all [go_sem]
theorem day_of_falls {n : Int} {Y p : Nat} (h : Falls n Y p) (h1 : n ≤ 1000000) : dayOf (2000 + Y) (p + 1) (n - ny Y - cum (2000 + Y) p + 1) = (n, 0) := by
  have hc : cum (2000 + (Y : Int)) (p + 1) = cum (2000 + Y) p + mlen (2000 + Y) (p + 1) := rfl
  have := h.p0
  have := h.p1
  have := h.yb
  have := h.pb
  unfold dayOf
  rw [if_neg (by rintro (h | h | h | h | h | h) <;> omega), show (2000 + (Y : Int) - 2000).toNat = Y by omega, show ((p : Int) + 1 - 1).toNat = p by omega, if_neg (by omega)]
  congr 1
  omega
theorem day_after {n : Int} {Y p : Nat} (_ : Falls n Y p) (h2 : ¬ n + 1 - ny Y < cum (2000 + Y) (p + 1)) : dayOf (2000 + Y) (p + 1) (n - ny Y - cum (2000 + Y) p + 1 + 1) = (0, 2) := by
  have hc : cum (2000 + (Y : Int)) (p + 1) = cum (2000 + Y) p + mlen (2000 + Y) (p + 1) := rfl
  unfold dayOf
  rw [if_pos (by right; right; right; right; right; omega)]
/-- What the law needs of two days. -/
structure Next (n y m d y' m' d' : Int) : Prop where
  P : ∀ w, Calls Try.prog 23 #[.int .i64 n] w fun en w' => en = .returned (.tuple #[.agg #[.int .i64 y, .int .i64 m, .int .i64 d], .int .i64 0]) ∧ Below w.heap.size w w'
  P1 : ∀ w, Calls Try.prog 23 #[.int .i64 (n + 1)] w fun en w' => en = .returned (.tuple #[.agg #[.int .i64 y', .int .i64 m', .int .i64 d'], .int .i64 0]) ∧ Below w.heap.size w w'
  D : dayOf y m d = (n, 0)
  D1 : dayOf y' m' d' = (n + 1, 0)
  by1 : 2000 ≤ y ∧ y ≤ 5000
  bm : 1 ≤ m ∧ m ≤ 12
  bd : 1 ≤ d ∧ d ≤ 400
theorem cum_le12 (y : Int) {k : Nat} (h : k ≤ 12) : cum y k ≤ ylen y := by rw [← cum12]; exact cum_mono y h
/-- The day after: in the month, or the first of the next, or of the next year. -/
theorem next_ex {n : Int} (h0 : 0 ≤ n) (h1 : n < 1000000) : ∃ y m d y' m' d', Next n y m d y' m' d' ∧
    ((y' = y ∧ m' = m ∧ d' = d + 1) ∨ (dayOf y m (d + 1) = (0, 2) ∧ d' = 1 ∧ (y' ≠ y ∨ m' ≠ m) ∧ ((m ≠ 12 ∧ y' = y ∧ m' = m + 1) ∨ (m = 12 ∧ y' = y + 1 ∧ m' = 1)))) := by
  obtain ⟨Y, p, hF⟩ := falls_ex h0 (show n ≤ 1000000 by omega)
  have hc : cum (2000 + (Y : Int)) (p + 1) = cum (2000 + Y) p + mlen (2000 + Y) (p + 1) := rfl
  have hny : ny (Y + 1) = ny Y + ylen (2000 + Y) := rfl
  have hml := mlen_bd (2000 + Y) (p + 1)
  have hcl := cum_le12 (2000 + Y) (show p + 1 ≤ 12 by have := hF.pb; omega)
  have g1 := hF.y0
  have g2 := hF.y1
  have g3 := hF.p0
  have g4 := hF.p1
  have g5 := hF.yb
  have g6 := hF.pb
  have hnb := ny_bd Y
  have hyl := ylen_bd (2000 + Y)
  have mk : ∀ (Y' p' : Nat), Falls (n + 1) Y' p' → Next n (2000 + Y) (p + 1) (n - ny Y - cum (2000 + Y) p + 1) (2000 + Y') (p' + 1) (n + 1 - ny Y' - cum (2000 + Y') p' + 1) := fun Y' p' hG =>
    ⟨fun w => DateOf_ok n h0 (by omega) Y p hF w, fun w => DateOf_ok (n + 1) (by omega) (by omega) Y' p' hG w, day_of_falls hF (by omega), day_of_falls hG (by omega), by omega, by omega, by omega⟩
  by_cases h2 : n + 1 - ny Y < cum (2000 + Y) (p + 1)
  · exact ⟨_, _, _, _, _, _, mk Y p ⟨by omega, by omega, by omega, h2, g5, g6⟩, .inl ⟨rfl, rfl, by omega⟩⟩
  · by_cases h3 : p = 11
    · subst h3
      have hcy : cum (2000 + (Y : Int)) (11 + 1) = ylen (2000 + Y) := cum12 _
      have he : n + 1 = ny (Y + 1) := by omega
      have hc1 : cum (2000 + ((Y + 1 : Nat) : Int)) (0 + 1) = 0 + mlen (2000 + ((Y + 1 : Nat) : Int)) (0 + 1) := rfl
      have hc0 : cum (2000 + ((Y + 1 : Nat) : Int)) 0 = 0 := rfl
      have hm2 := mlen_bd (2000 + ((Y + 1 : Nat) : Int)) (0 + 1)
      have hyl2 := ylen_bd (2000 + ((Y + 1 : Nat) : Int))
      have hny2 : ny (Y + 1 + 1) = ny (Y + 1) + ylen (2000 + ((Y + 1 : Nat) : Int)) := rfl
      refine ⟨_, _, _, _, _, _, mk (Y + 1) 0 ⟨by omega, by omega, by omega, by omega, by omega, by omega⟩, .inr ⟨day_after hF h2, by omega, by omega, .inr ⟨by rfl, by push_cast; omega, by rfl⟩⟩⟩
    · have hc1 : cum (2000 + (Y : Int)) (p + 1 + 1) = cum (2000 + Y) (p + 1) + mlen (2000 + Y) ((p + 1 : Nat) + 1) := rfl
      have hm2 := mlen_bd (2000 + Y) ((p + 1 : Nat) + 1)
      have hcl2 := cum_le12 (2000 + Y) (show p + 1 + 1 ≤ 12 by omega)
      refine ⟨_, _, _, _, _, _, mk Y (p + 1) ⟨by omega, by omega, by omega, by omega, g5, by omega⟩, .inr ⟨day_after hF h2, by omega, by omega, .inl ⟨by omega, rfl, by push_cast; rfl⟩⟩⟩
theorem DayOf_is {y m d a b : Int} (h : dayOf y m d = (a, b)) (w : World) : Calls Try.prog 21 #[.agg #[.int .i64 y, .int .i64 m, .int .i64 d]] w fun e w' => e = .returned (.tuple #[.int .i64 a, .int .i64 b]) ∧ Below w.heap.size w w' := by
  have := DayOf_any y m d w
  rw [h] at this
  exact this
set_option maxRecDepth 100000 in
set_option maxHeartbeats 4000000 in
theorem calendar_walk (n : Int) (w : World) : Calls Try.prog 6 #[.int .i64 n] w fun e w' => e = .returned (.bool true) ∧ Below w.heap.size w w' := by
  have hu := Try.underlying40
  by_cases hlt : n < 0
  · go_enter Try.func6, Try.ntmps6
    go_wp2_with fail
    refine (alive_any _).mono ?_
    rintro e w6 ⟨rfl, hb⟩
    go_wp2_with fail
    go_ret
    exact ⟨rfl, hb⟩
  by_cases hge : 1000000 ≤ n
  · go_enter Try.func6, Try.ntmps6
    go_wp2_with fail
    refine (alive_any _).mono ?_
    rintro e w6 ⟨rfl, hb⟩
    go_wp2_with fail
    go_ret
    exact ⟨rfl, hb⟩
  obtain ⟨y, m, d, y', m', d', ⟨P, P1, D, D1, by1, bm, bd⟩, hcase⟩ := next_ex (n := n) (by omega) (by omega)
  have P := Lib.hid P
  have P1 := Lib.hid P1
  have D := Lib.hid (DayOf_is D)
  have D1 := Lib.hid (DayOf_is D1)
  have HC := Lib.hid hcase
  clear hcase
  rename_i P0 P10 D0 D10
  clear P0 P10 D0 D10
  go_enter Try.func6, Try.ntmps6
  go_wp2_with fail
  refine (P.out _).mono ?_
  rintro e w1 ⟨rfl, hb1⟩
  go_wp2_with fail
  have hB3 := Blk.new w1 #[.int .i64 y, .int .i64 m, .int .i64 d] 40
  have hb2 := hb1.alloc hb1.size (.cells #[.int .i64 y, .int .i64 m, .int .i64 d] 40)
  have hg3 := hb1.size
  generalize w1.alloc (.cells #[.int .i64 y, .int .i64 m, .int .i64 d] 40) = w2 at *
  generalize w1.heap.size = g3 at *
  refine (P1.out _).mono ?_
  rintro e w3 ⟨rfl, hb3⟩
  have hB4 : Blk w3 g3 #[.int .i64 y, .int .i64 m, .int .i64 d] 40 := (hb3.block _ hB3.lt).trans hB3
  have hb4 := below_t hb2 hb3
  clear hb1 hb2 hb3 hB3 P P1
  have c0 := hB4.cell 0 (v := .int .i64 y) rfl
  have c1 := hB4.cell 1 (v := .int .i64 m) rfl
  have c2 := hB4.cell 2 (v := .int .i64 d) rfl
  have hl4 := hB4.lt
  go_wp2_with fail
  have hB5 := Blk.new w3 #[.int .i64 y', .int .i64 m', .int .i64 d'] 40
  have hb5 := hb4.alloc hb4.size (.cells #[.int .i64 y', .int .i64 m', .int .i64 d'] 40)
  have hB6 := hB4.alloc (.cells #[.int .i64 y', .int .i64 m', .int .i64 d'] 40)
  have hg5 := hb4.size
  clear c0 c1 c2
  generalize w3.alloc (.cells #[.int .i64 y', .int .i64 m', .int .i64 d'] 40) = w4 at *
  generalize w3.heap.size = g5 at *
  refine (D.out w4).mono ?_
  rintro e w5 ⟨rfl, hb6⟩
  have hB7 : Blk w5 g5 #[.int .i64 y', .int .i64 m', .int .i64 d'] 40 := (hb6.block _ hB5.lt).trans hB5
  have hB8 : Blk w5 g3 #[.int .i64 y, .int .i64 m, .int .i64 d] 40 := (hb6.block _ hB6.lt).trans hB6
  have hb7 := below_t hb5 hb6
  clear hB4 hb4 hB5 hB6 hb5 hb6 D
  have c0 := hB7.cell 0 (v := .int .i64 y') rfl
  have c1 := hB7.cell 1 (v := .int .i64 m') rfl
  have c2 := hB7.cell 2 (v := .int .i64 d') rfl
  go_wp2_with fail
  refine (D1.out w5).mono ?_
  rintro e w6 ⟨rfl, hb8⟩
  have hB9 : Blk w6 g5 #[.int .i64 y', .int .i64 m', .int .i64 d'] 40 := (hb8.block _ hB7.lt).trans hB7
  have hB10 : Blk w6 g3 #[.int .i64 y, .int .i64 m, .int .i64 d] 40 := (hb8.block _ hB8.lt).trans hB8
  have hb9 := below_t hb7 hb8
  clear c0 c1 c2 hb7 hb8 hB7 hB8 D1
  have c0 := hB9.cell 0 (v := .int .i64 y') rfl
  have c1 := hB9.cell 1 (v := .int .i64 m') rfl
  have c2 := hB9.cell 2 (v := .int .i64 d') rfl
  have b0 := hB10.cell 0 (v := .int .i64 y) rfl
  have b1 := hB10.cell 1 (v := .int .i64 m) rfl
  have b2 := hB10.cell 2 (v := .int .i64 d) rfl
  have hl9 := hB9.lt
  have hl10 := hB10.lt
  have hw1 : IntKind.i64.wrap (d + 1) = d + 1 := IntWalk.i64_in _ (by omega)
  have hw2 : IntKind.i64.wrap (m + 1) = m + 1 := IntWalk.i64_in _ (by omega)
  have hw3 : IntKind.i64.wrap (y + 1) = y + 1 := IntWalk.i64_in _ (by omega)
  rcases HC.out with ⟨rfl, rfl, rfl⟩ | ⟨hD2, rfl, hne, hm⟩
  · have heq := eq40 y' m' (d + 1)
    go_wp2_with fail
    have hb10 := hb9.alloc hb9.size (.cells #[.int .i64 y', .int .i64 m', .int .i64 (d + 1)] 40)
    refine (alive_any _).mono ?_
    rintro e w7 ⟨rfl, hb⟩
    have hb11 := below_t hb10 hb
    go_wp2_with fail
    go_ret
    exact ⟨rfl, hb11⟩
  · have hne1 := eq40_ne (a := y) (b := m) (c := d + 1) (a' := y') (b' := m') (c' := 1) (by omega)
    have heq := eq40 y' m' 1
    have HD2 := Lib.hid (DayOf_is hD2)
    clear hD2 hne
    go_wp2_with fail
    have hB11 := Blk.new w6 #[.int .i64 y, .int .i64 m, .int .i64 (d + 1)] 40
    have hb10 := hb9.alloc hb9.size (.cells #[.int .i64 y, .int .i64 m, .int .i64 (d + 1)] 40)
    have hB12 := hB9.alloc (.cells #[.int .i64 y, .int .i64 m, .int .i64 (d + 1)] 40)
    have hB13 := hB10.alloc (.cells #[.int .i64 y, .int .i64 m, .int .i64 (d + 1)] 40)
    have hg7 := hb9.size
    clear b0 b1 b2 c0 c1 c2 hb9 hB9 hB10
    generalize w6.alloc (.cells #[.int .i64 y, .int .i64 m, .int .i64 (d + 1)] 40) = w7 at *
    generalize w6.heap.size = g7 at *
    refine (HD2.out w7).mono ?_
    rintro e w8 ⟨rfl, hb⟩
    have hB14 : Blk w8 g7 #[.int .i64 y, .int .i64 m, .int .i64 (d + 1)] 40 := (hb.block _ hB11.lt).trans hB11
    have hB15 : Blk w8 g5 #[.int .i64 y', .int .i64 m', .int .i64 1] 40 := (hb.block _ hB12.lt).trans hB12
    have hB16 : Blk w8 g3 #[.int .i64 y, .int .i64 m, .int .i64 d] 40 := (hb.block _ hB13.lt).trans hB13
    have hb11 := below_t hb10 hb
    clear hB11 hB12 hB13 hb10 hb HD2
    have a0 := hB14.cell 0 (v := .int .i64 y) rfl
    have a1 := hB14.cell 1 (v := .int .i64 m) rfl
    have a2 := hB14.cell 2 (v := .int .i64 (d + 1)) rfl
    have f0 := hB14.free 0
    have f1 := hB14.free 1
    have f2 := hB14.free 2
    have b1 := hB16.cell 1 (v := .int .i64 m) rfl
    have c0 := hB15.cell 0 (v := .int .i64 y') rfl
    have c1 := hB15.cell 1 (v := .int .i64 m') rfl
    have c2 := hB15.cell 2 (v := .int .i64 1) rfl
    have n57 : g5 ≠ g7 := by omega
    have n37 : g3 ≠ g7 := by omega
    rcases hm with ⟨m12, rfl, rfl⟩ | ⟨m12, rfl, rfl⟩
    · have hmb : (m == 12) = false := by simpa using m12
      clear m12
      go_wp2_with fail
      refine (alive_any _).mono ?_
      rintro e w9 ⟨rfl, hb⟩
      have hb12 := below_t ((hb11.setCell hg7 _).setCell hg7 _) hb
      go_wp2_with fail
      go_ret
      exact ⟨rfl, hb12⟩
    · have hmb : (m == 12) = true := by simpa using m12
      clear m12
      have hQ : Blk ((((w8.setCell ⟨g7, 2, none⟩ (.int .i64 1)).setCell ⟨g7, 1, none⟩ (.int .i64 (m + 1))).setCell ⟨g7, 1, none⟩ (.int .i64 1)).setCell ⟨g7, 0, none⟩ (.int .i64 (y + 1))) g7 #[.int .i64 (y + 1), .int .i64 1, .int .i64 1] 40 := by
        simpa using (((hB14.set 2 (.int .i64 1)).set 1 (.int .i64 (m + 1))).set 1 (.int .i64 1)).set 0 (.int .i64 (y + 1))
      have q0 := hQ.cell 0 (v := .int .i64 (y + 1)) rfl
      have q1 := hQ.cell 1 (v := .int .i64 1) rfl
      have q2 := hQ.cell 2 (v := .int .i64 1) rfl
      go_wp2_with fail
      refine (alive_any _).mono ?_
      rintro e w9 ⟨rfl, hb⟩
      have hb12 := below_t ((((hb11.setCell hg7 _).setCell hg7 _).setCell hg7 _).setCell hg7 _) hb
      go_wp2_with fail
      go_ret
      exact ⟨rfl, hb12⟩
theorem calendar_law {n : Int} (_ : (Lit.int .i64 n).wf = true) (w : World) : Calls Try.prog 6 #[.int .i64 n] w fun e w' => e = .returned (.bool true) ∧ Below w.heap.size w w' := calendar_walk n w
end Go.Proofs.Ytpmopdgnnlhplaa
