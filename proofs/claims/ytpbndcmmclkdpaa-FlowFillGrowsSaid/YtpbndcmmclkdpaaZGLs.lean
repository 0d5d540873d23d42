/-
  FlowSuits.
-/
import Derived.Test.YtpbndcmmclkdpaaZGQf
import Derived.Test.YtpbndcmmclkdpaaZKp
namespace Go.Proofs.Ytpbndcmmclkdpaa
open PFlowSolves
open Go.RowKit Go.Proofs.YtpbndcmmclkdpaaW.PrintWords
def suitB (p : S49) (q : S51) : Bool := decide (q.f2 ≤ p.f2) && (decide (p.f2 ≤ q.f3) && (decide (p.f3 ≤ q.f4) && decide (p.f1 ≤ q.f1)))
abbrev vP (p : S49) : Value := .agg #[.int .i64 p.f0, .int .i64 p.f1, .int .i64 p.f2, .int .i64 p.f3, .int .i64 p.f4]
abbrev vW (q : S51) : Value := .agg #[.int .i64 q.f0, .int .i64 q.f1, .int .i64 q.f2, .int .i64 q.f3, .int .i64 q.f4, .int .i64 q.f5]
set_option maxRecDepth 100000 in
set_option maxHeartbeats 2000000 in
theorem suits_any (p : S49) (q : S51) (w : World) : Calls Try.prog 32 #[vP p, vW q] w fun e w' => e = .returned (.bool (suitB p q)) ∧ Below w.heap.size w w' := by
  have HB := Lib.hid (below_al (below_alloc (Below.refl w.heap.size w) (.cells #[.int .i64 p.f0, .int .i64 p.f1, .int .i64 p.f2, .int .i64 p.f3, .int .i64 p.f4] 49 (0, 0))) (.cells #[.int .i64 q.f0, .int .i64 q.f1, .int .i64 q.f2, .int .i64 q.f3, .int .i64 q.f4, .int .i64 q.f5] 51 (0, 0)))
  have HS : Hid (suitB p q = (decide (q.f2 ≤ p.f2) && (decide (p.f2 ≤ q.f3) && (decide (p.f3 ≤ q.f4) && decide (p.f1 ≤ q.f1))))) := Lib.hid rfl
  generalize suitB p q = r at *
  obtain ⟨p0, p1, p2, p3, p4⟩ := p
  obtain ⟨q0, q1, q2, q3, q4, q5⟩ := q
  simp only at *
  generalize e1 : decide (q2 ≤ p2) = b1 at *
  generalize e2 : decide (p2 ≤ q3) = b2 at *
  generalize e3 : decide (p3 ≤ q4) = b3 at *
  generalize e4 : decide (p1 ≤ q1) = b4 at *
  cases b1 <;> cases b2 <;> cases b3 <;> cases b4 <;>
  · go_enter Try.func32, Try.ntmps32
    go_wp2_with fail
    go_ret
    exact ⟨by rw [HS.out]; rfl, HB.out⟩
set_option maxRecDepth 100000 in
set_option maxHeartbeats 2000000 in
theorem rsuits_any (p : S49) (q : S51) (w : World) : Calls Try.prog 33 #[vP p, vW q] w fun e w' => e = .returned (.bool (suitB p q)) ∧ Below w.heap.size w w' := by
  have HB := Lib.hid (below_al (below_alloc (Below.refl w.heap.size w) (.cells #[.int .i64 p.f0, .int .i64 p.f1, .int .i64 p.f2, .int .i64 p.f3, .int .i64 p.f4] 49 (0, 0))) (.cells #[.int .i64 q.f0, .int .i64 q.f1, .int .i64 q.f2, .int .i64 q.f3, .int .i64 q.f4, .int .i64 q.f5] 51 (0, 0)))
  have HS : Hid (suitB p q = (decide (q.f2 ≤ p.f2) && (decide (p.f2 ≤ q.f3) && (decide (p.f3 ≤ q.f4) && decide (p.f1 ≤ q.f1))))) := Lib.hid rfl
  generalize suitB p q = r at *
  obtain ⟨p0, p1, p2, p3, p4⟩ := p
  obtain ⟨q0, q1, q2, q3, q4, q5⟩ := q
  simp only at *
  generalize e1 : decide (q2 ≤ p2) = b1 at *
  generalize e2 : decide (p2 ≤ q3) = b2 at *
  generalize e3 : decide (p3 ≤ q4) = b3 at *
  generalize e4 : decide (p1 ≤ q1) = b4 at *
  cases b1 <;> cases b2 <;> cases b3 <;> cases b4 <;>
  · go_enter Try.func33, Try.ntmps33
    go_wp2_with fail
    go_ret
    exact ⟨by rw [HS.out]; rfl, HB.out⟩
end Go.Proofs.Ytpbndcmmclkdpaa
