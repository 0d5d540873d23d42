/-
  FlowSuits.
-/
import Derived.Test.YtpbndcmmclkdpaaQf
import Derived.Test.YtpbndcmmclkdpaaKp
namespace Go.Proofs.Ytpbndcmmclkdpaa
open PFlowSolves
open Go.RowKit Go.Proofs.YtpbndcmmclkdpaaW.PrintWords
def suitB (p : S49) (q : S51) : Bool := decide (q.f2 ≤ p.f2) && (decide (p.f2 ≤ q.f3) && (decide (p.f3 ≤ q.f4) && decide (p.f1 ≤ q.f1)))
abbrev vP (p : S49) : Value := .agg #[.int .i64 p.f0, .int .i64 p.f1, .int .i64 p.f2, .int .i64 p.f3, .int .i64 p.f4]
abbrev vW (q : S51) : Value := .agg #[.int .i64 q.f0, .int .i64 q.f1, .int .i64 q.f2, .int .i64 q.f3, .int .i64 q.f4, .int .i64 q.f5]
set_option maxRecDepth 100000 in
set_option maxHeartbeats 2000000 in
theorem suits_any (p : S49) (q : S51) (w : World) : Calls Try.prog 32 #[vP p, vW q] w fun e w' => e = .returned (.bool (suitB p q)) ∧ Below w.heap.size w w' := by
  have HB := Lib.hid (below_al (below_alloc (Below.refl w.heap.size w) (.cells #[.int .i64 p.f0, .int .i64 p.f1, .int .i64 p.f2, .int .i64 p.f3, .int .i64 p.f4] 49 (0, 0))) (.cells #[.int .i64 q.f0, .int .i64 q.f1, .int .i64 q.f2, .int .i64 q.f3, .int .i64 q.f4, .int .i64 q.f5] 51 (0, 0)))
  have HS : Hid (suitB p q = (decide (q.f2 ≤ p.f2) && (decide (p.f2 ≤ q.f3) && (decide (p.f3 ≤ q.f4) && decide (p.f1 ≤ q.f1))))) := Lib.hid rfl
  generalize suitB p q = r at *
  obtain ⟨p0, p1, p2, p3, p4⟩ := p
  obtain ⟨q0, q1, q2, q3, q4, q5⟩ := q
  simp only at *
  generalize e1 : decide (q2 ≤ p2) = b1 at *
  generalize e2 : decide (p2 ≤ q3) = b2 at *
  generalize e3 : decide (p3 ≤ q4) = b3 at *
  generalize e4 : decide (p1 ≤ q1) = b4 at *
  cases b1 <;> cases b2 <;> cases b3 <;> cases b4 <;>
  · go_enter Try.func32, Try.ntmps32
    go_wp2_with fail
    go_ret
    exact ⟨by rw [HS.out]; rfl, HB.out⟩
set_option maxRecDepth 100000 in
set_option maxHeartbeats 2000000 in
theorem rsuits_any (p : S49) (q : S51) (w : World) : Calls Try.prog 33 #[vP p, vW q] w fun e w' => e = .returned (.bool (suitB p q)) ∧ Below w.heap.size w w' := by
  have HB := Lib.hid (below_al (below_alloc (Below.refl w.heap.size w) (.cells #[.int .i64 p.f0, .int .i64 p.f1, .int .i64 p.f2, .int .i64 p.f3, .int .i64 p.f4] 49 (0, 0))) (.cells #[.int .i64 q.f0, .int .i64 q.f1, .int .i64 q.f2, .int .i64 q.f3, .int .i64 q.f4, .int .i64 q.f5] 51 (0, 0)))
  have HS : Hid (suitB p q = (decide (q.f2 ≤ p.f2) && (decide (p.f2 ≤ q.f3) && (decide (p.f3 ≤ q.f4) && decide (p.f1 ≤ q.f1))))) := Lib.hid rfl
  generalize suitB p q = r at *
  obtain ⟨p0, p1, p2, p3, p4⟩ := p
  obtain ⟨q0, q1, q2, q3, q4, q5⟩ := q
  simp only at *
  generalize e1 : decide (q2 ≤ p2) = b1 at *
  generalize e2 : decide (p2 ≤ q3) = b2 at *
  generalize e3 : decide (p3 ≤ q4) = b3 at *
  generalize e4 : decide (p1 ≤ q1) = b4 at *
  cases b1 <;> cases b2 <;> cases b3 <;> cases b4 <;>
  · go_enter Try.func33, Try.ntmps33
    go_wp2_with fail
    go_ret
    exact ⟨by rw [HS.out]; rfl, HB.out⟩
theorem keepS {wb W : World} {b1 b2 : Nat} {p : S49} {q : S51} (h1 : Blk wb b1 #[.int .i64 p.f0, .int .i64 p.f1, .int .i64 p.f2, .int .i64 p.f3, .int .i64 p.f4] 49) (h2 : Blk wb b2 #[.int .i64 q.f0, .int .i64 q.f1, .int .i64 q.f2, .int .i64 q.f3, .int .i64 q.f4, .int .i64 q.f5] 51) (hb : Below wb.heap.size wb W) :
    W.cell? ⟨b1, 0, none⟩ = some (.int .i64 p.f0) ∧ W.cell? ⟨b1, 1, none⟩ = some (.int .i64 p.f1) ∧ W.cell? ⟨b1, 2, none⟩ = some (.int .i64 p.f2) ∧ W.cell? ⟨b1, 3, none⟩ = some (.int .i64 p.f3) ∧ W.cell? ⟨b1, 4, none⟩ = some (.int .i64 p.f4) ∧
    W.cell? ⟨b2, 0, none⟩ = some (.int .i64 q.f0) ∧ W.cell? ⟨b2, 1, none⟩ = some (.int .i64 q.f1) ∧ W.cell? ⟨b2, 2, none⟩ = some (.int .i64 q.f2) ∧ W.cell? ⟨b2, 3, none⟩ = some (.int .i64 q.f3) ∧ W.cell? ⟨b2, 4, none⟩ = some (.int .i64 q.f4) ∧ W.cell? ⟨b2, 5, none⟩ = some (.int .i64 q.f5) ∧ Below wb.heap.size wb W :=
  have f := Fr.of_below hb (fun _ => False)
  have a := h1.fr f (fun a => a)
  have b := h2.fr f (fun a => a)
  ⟨a.cell 0 rfl, a.cell 1 rfl, a.cell 2 rfl, a.cell 3 rfl, a.cell 4 rfl, b.cell 0 rfl, b.cell 1 rfl, b.cell 2 rfl, b.cell 3 rfl, b.cell 4 rfl, b.cell 5 rfl, hb⟩
set_option maxRecDepth 100000 in
set_option maxHeartbeats 4000000 in
theorem suits_law (p : S49) (_ : (Lit.int .i64 p.f0).wf = true ∧ (Lit.int .i64 p.f1).wf = true ∧ (Lit.int .i64 p.f2).wf = true ∧ (Lit.int .i64 p.f3).wf = true ∧ (Lit.int .i64 p.f4).wf = true)
    (q : S51) (_ : (Lit.int .i64 q.f0).wf = true ∧ (Lit.int .i64 q.f1).wf = true ∧ (Lit.int .i64 q.f2).wf = true ∧ (Lit.int .i64 q.f3).wf = true ∧ (Lit.int .i64 q.f4).wf = true ∧ (Lit.int .i64 q.f5).wf = true) {w : World} :
    Calls Try.prog 8 #[vP p, vW q] w fun e w' => e = .returned (.bool true) ∧ Below w.heap.size w w' := by
  have hb := below_al (below_alloc (Below.refl w.heap.size w) (.cells #[.int .i64 p.f0, .int .i64 p.f1, .int .i64 p.f2, .int .i64 p.f3, .int .i64 p.f4] 49 (0, 0))) (.cells #[.int .i64 q.f0, .int .i64 q.f1, .int .i64 q.f2, .int .i64 q.f3, .int .i64 q.f4, .int .i64 q.f5] 51 (0, 0))
  have hp := (Blk.new w #[.int .i64 p.f0, .int .i64 p.f1, .int .i64 p.f2, .int .i64 p.f3, .int .i64 p.f4] 49).alloc (.cells #[.int .i64 q.f0, .int .i64 q.f1, .int .i64 q.f2, .int .i64 q.f3, .int .i64 q.f4, .int .i64 q.f5] 51 (0, 0))
  have hq := Blk.new1 w (.cells #[.int .i64 p.f0, .int .i64 p.f1, .int .i64 p.f2, .int .i64 p.f3, .int .i64 p.f4] 49 (0, 0)) #[.int .i64 q.f0, .int .i64 q.f1, .int .i64 q.f2, .int .i64 q.f3, .int .i64 q.f4, .int .i64 q.f5] 51
  have HB := Lib.hid hb
  have HP := Lib.hid hp
  have HQ := Lib.hid hq
  clear hb hp hq
  go_enter Try.func8, Try.ntmps8
  go_upto_region 1 with (fail)
  generalize (w.alloc (.cells #[.int .i64 p.f0, .int .i64 p.f1, .int .i64 p.f2, .int .i64 p.f3, .int .i64 p.f4] 49 (0, 0))).alloc (.cells #[.int .i64 q.f0, .int .i64 q.f1, .int .i64 q.f2, .int .i64 q.f3, .int .i64 q.f4, .int .i64 q.f5] 51 (0, 0)) = wb at *
  have S0 := keepS HP.out HQ.out ((Below.refl _ wb).drew)
  go_region_held3 (fun W => W.cell? ⟨w.heap.size, 0, none⟩ = some (.int .i64 p.f0) ∧ W.cell? ⟨w.heap.size, 1, none⟩ = some (.int .i64 p.f1) ∧ W.cell? ⟨w.heap.size, 2, none⟩ = some (.int .i64 p.f2) ∧ W.cell? ⟨w.heap.size, 3, none⟩ = some (.int .i64 p.f3) ∧ W.cell? ⟨w.heap.size, 4, none⟩ = some (.int .i64 p.f4) ∧
      W.cell? ⟨w.heap.size + 1, 0, none⟩ = some (.int .i64 q.f0) ∧ W.cell? ⟨w.heap.size + 1, 1, none⟩ = some (.int .i64 q.f1) ∧ W.cell? ⟨w.heap.size + 1, 2, none⟩ = some (.int .i64 q.f2) ∧ W.cell? ⟨w.heap.size + 1, 3, none⟩ = some (.int .i64 q.f3) ∧ W.cell? ⟨w.heap.size + 1, 4, none⟩ = some (.int .i64 q.f4) ∧ W.cell? ⟨w.heap.size + 1, 5, none⟩ = some (.int .i64 q.f5) ∧ Below wb.heap.size wb W)
    (first | (with_reducible exact S0) | (with_reducible exact S5) | (with_reducible exact S6) | (with_reducible exact S7) | (trace_state; fail))
    (first
      | (go_at_call 32; refine (suits_any p q wb.drew).mono ?_; rintro e w5 ⟨rfl, hb5⟩; have S5 := keepS HP.out HQ.out (S0.2.2.2.2.2.2.2.2.2.2.2.trans hb5))
      | (go_at_call 33; refine (rsuits_any p q w5).mono ?_; rintro e w6 ⟨rfl, hb6⟩; have S6 := keepS HP.out HQ.out (S5.2.2.2.2.2.2.2.2.2.2.2.trans (hb6.mono S5.2.2.2.2.2.2.2.2.2.2.2.size)))
      | (go_at_call 18; refine (alive_any w6).mono ?_; rintro e w7 ⟨rfl, hb7⟩; have S7 := keepS HP.out HQ.out (S6.2.2.2.2.2.2.2.2.2.2.2.trans (hb7.mono S6.2.2.2.2.2.2.2.2.2.2.2.size))))
  all_goals
    go_wp2_with fail
    go_ret
    exact ⟨rfl, below_t HB.out S7.2.2.2.2.2.2.2.2.2.2.2⟩
end Go.Proofs.Ytpbndcmmclkdpaa
