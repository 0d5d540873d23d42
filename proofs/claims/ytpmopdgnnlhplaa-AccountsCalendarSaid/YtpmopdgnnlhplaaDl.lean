/-
  The walk of the law AccountsDates.
-/
import Derived.Test.YtpmopdgnnlhplaaDw
import Derived.Test.YtpmopdgnnlhplaaAl
import Derived.Test.YtpmopdgnnlhplaaKj
namespace Go.Proofs.Ytpmopdgnnlhplaa
open Go.RowKit Go.Proofs.YtpmopdgnnlhplaaW.PrintWords
theorem between {f : Nat → Int} {n : Int} (h0 : f 0 ≤ n) : ∀ k, n < f k → ∃ j, j < k ∧ f j ≤ n ∧ n < f (j + 1)
  | 0, h => by omega
  | k + 1, h => by
    by_cases hk : n < f k
    · obtain ⟨j, h1, h2⟩ := between h0 k hk
      exact ⟨j, by omega, h2⟩
    · exact ⟨k, by omega, by omega, h⟩
theorem falls_ex {n : Int} (h0 : 0 ≤ n) (h1 : n ≤ 1000000) : ∃ Y p, Falls n Y p := by
  have h3 := ny_bd 3000
  obtain ⟨Y, hY, y0, y1⟩ := between (f := ny) (n := n) h0 3000 (by omega)
  have hc : cum (2000 + Y) 12 = ylen (2000 + Y) := cum12 _
  have hs : ny (Y + 1) = ny Y + ylen (2000 + Y) := rfl
  obtain ⟨p, hp, p0, p1⟩ := between (f := cum (2000 + Y)) (n := n - ny Y) (by show (0 : Int) ≤ _; omega) 12 (by omega)
  exact ⟨Y, p, y0, y1, p0, p1, by omega, by omega⟩
theorem DayOf_any (y m d : Int) (w : World) : Calls Try.prog 21 #[.agg #[.int .i64 y, .int .i64 m, .int .i64 d]] w fun e w' => e = .returned (.tuple #[.int .i64 (dayOf y m d).1, .int .i64 (dayOf y m d).2]) ∧ Below w.heap.size w w' :=
  PAccountsDates.accounts_DayOf.calls _ _ _ _ _ _ w (acc_dayOf y m d 0)
theorem RDayOf_any (y m d : Int) (w : World) : Calls Try.prog 22 #[.agg #[.int .i64 y, .int .i64 m, .int .i64 d]] w fun e w' => e = .returned (.tuple #[.int .i64 (dayOf y m d).1, .int .i64 (dayOf y m d).2]) ∧ Below w.heap.size w w' :=
  PAccountsDates.merinoref07_DayOf.calls _ _ _ _ _ _ w (ref_dayOf y m d 0)
/-- What both DateOf answer: three numbers, an error. -/
def dateNums (n : Int) (Y p : Nat) : Int × Int × Int × Int := if 0 ≤ n ∧ n ≤ 1000000 then (2000 + Y, p + 1, n - ny Y - cum (2000 + Y) p + 1, 0) else (0, 0, 0, 2)
theorem dateOf_ex (n : Int) : ∃ a b c e : Int, (∀ w, Calls Try.prog 23 #[.int .i64 n] w fun en w' => en = .returned (.tuple #[.agg #[.int .i64 a, .int .i64 b, .int .i64 c], .int .i64 e]) ∧ Below w.heap.size w w') ∧
    (∀ w, Calls Try.prog 24 #[.int .i64 n] w fun en w' => en = .returned (.tuple #[.agg #[.int .i64 a, .int .i64 b, .int .i64 c], .int .i64 e]) ∧ Below w.heap.size w w') := by
  by_cases h : 0 ≤ n ∧ n ≤ 1000000
  · obtain ⟨Y, p, hF⟩ := falls_ex h.1 h.2
    exact ⟨_, _, _, 0, fun w => DateOf_ok n h.1 h.2 Y p hF w, fun w => RDateOf_ok n h.1 h.2 Y p hF w⟩
  · exact ⟨0, 0, 0, 2, fun w => DateOf_bad n h w, fun w => RDateOf_bad n h w⟩
theorem eq40 (a b c : Int) (w : World) : (binOp .eql 40 (.agg #[.int .i64 a, .int .i64 b, .int .i64 c]) (.agg #[.int .i64 a, .int .i64 b, .int .i64 c])).run Try.prog w = .ok (.bool true) w := by
  have hu := Try.underlying40
  have hu3 := Try.underlying3
  simp [go_sem, hu, hu3]
set_option maxRecDepth 100000 in
set_option maxHeartbeats 4000000 in
theorem dates_walk (y m d n : Int) (w : World) : Calls Try.prog 5 #[.agg #[.int .i64 y, .int .i64 m, .int .i64 d], .int .i64 n] w fun e w' => e = .returned (.bool true) ∧ Below w.heap.size w w' := by
  have hu := Try.underlying40
  obtain ⟨a, b, c, er, kP, kR⟩ := dateOf_ex n
  have hP := Lib.hid kP
  have hR := Lib.hid kR
  clear kP kR
  go_enter Try.func5, Try.ntmps5
  go_wp2_with fail
  have hB := Blk.new w #[.int .i64 y, .int .i64 m, .int .i64 d] 40
  have hb := (Below.refl w.heap.size w).alloc (Nat.le_refl _) (.cells #[.int .i64 y, .int .i64 m, .int .i64 d] 40)
  generalize w.alloc (.cells #[.int .i64 y, .int .i64 m, .int .i64 d] 40) = w0 at *
  have hD := Lib.hid (DayOf_any y m d)
  have hRD := Lib.hid (RDayOf_any y m d)
  generalize dayOf y m d = dd at *
  obtain ⟨d1, d2⟩ := dd
  refine (hD.out w0).mono ?_
  rintro e w1 ⟨rfl, hb1⟩
  have hB1 : Blk w1 w.heap.size #[.int .i64 y, .int .i64 m, .int .i64 d] 40 := (hb1.block _ hB.lt).trans hB
  have hb2 := below_t hb hb1
  have c0 := hB1.cell 0 (v := .int .i64 y) rfl
  have c1 := hB1.cell 1 (v := .int .i64 m) rfl
  have c2 := hB1.cell 2 (v := .int .i64 d) rfl
  clear hB hb hb1 hD
  go_wp2_with fail
  refine (hRD.out w1).mono ?_
  rintro e w2 ⟨rfl, hb3⟩
  have hb4 := below_t hb2 hb3
  clear hb2 hb3 c0 c1 c2 hB1 hRD
  go_wp2_with fail
  refine (hP.out w2).mono ?_
  rintro e w3 ⟨rfl, hb5⟩
  have hb6 := below_t hb4 hb5
  clear hb4 hb5 hP
  go_wp2_with fail
  have hB3 := Blk.new w3 #[.int .i64 a, .int .i64 b, .int .i64 c] 40
  have hb7 := hb6.alloc hb6.size (.cells #[.int .i64 a, .int .i64 b, .int .i64 c] 40)
  have hle := hb6.size
  clear hb6
  generalize w3.alloc (.cells #[.int .i64 a, .int .i64 b, .int .i64 c] 40) = w4 at *
  generalize w3.heap.size = g3 at *
  refine (hR.out w4).mono ?_
  rintro e w5 ⟨rfl, hb8⟩
  have hB5 : Blk w5 g3 #[.int .i64 a, .int .i64 b, .int .i64 c] 40 := (hb8.block _ hB3.lt).trans hB3
  have hb9 := below_t hb7 hb8
  have c0 := hB5.cell 0 (v := .int .i64 a) rfl
  have c1 := hB5.cell 1 (v := .int .i64 b) rfl
  have c2 := hB5.cell 2 (v := .int .i64 c) rfl
  have hg3 := hB5.lt
  clear hb7 hb8 hR hB3 hB5
  have heq : ∀ w : World, (binOp .eql 40 (.agg #[.int .i64 a, .int .i64 b, .int .i64 c]) (.agg #[.int .i64 a, .int .i64 b, .int .i64 c])).run Try.prog w = .ok (.bool true) w := eq40 a b c
  go_wp2_with fail
  have hb10 := hb9.alloc hb9.size (.cells #[.int .i64 a, .int .i64 b, .int .i64 c] 40)
  refine (alive_any _).mono ?_
  rintro e w6 ⟨rfl, hb11⟩
  have hb12 := below_t hb10 hb11
  clear hb9 hb10 hb11
  go_wp2_with fail
  go_ret
  exact ⟨rfl, hb12⟩
theorem dates_law (x : Dt) (_ : (Lit.int .i64 x.y).wf = true ∧ (Lit.int .i64 x.m).wf = true ∧ (Lit.int .i64 x.d).wf = true) {n : Int} (_ : (Lit.int .i64 n).wf = true) (w : World) :
    Calls Try.prog 5 #[.agg #[.int .i64 x.y, .int .i64 x.m, .int .i64 x.d], .int .i64 n] w fun e w' => e = .returned (.bool true) ∧ Below w.heap.size w w' := dates_walk x.y x.m x.d n w
end Go.Proofs.Ytpmopdgnnlhplaa
