/-
  The law AccountsCharges.
-/
import Derived.Test.YtcobihdjcdefmaaZBv
namespace Go.Proofs.Ytcobihdjcdefmaa
open PAccountsCharges
open Go.RowKit Go.Proofs.YtcobihdjcdefmaaW.PrintWords
set_option maxRecDepth 100000 in
set_option maxHeartbeats 4000000 in
theorem charges_law {c : Int} (_ : (Lit.int .i64 c).wf = true) (A : Option Addr) (k : Nat) (l : List S44) (hle : l.length ≤ k) (_ : k ≤ 9223372036854775807) {w : World} (hC : Kd.C k44 w A l.length l) {G : S44 → Prop} (_ : ∀ x ∈ l, G x)
    {r : Int} (_ : (Lit.int .i64 r).wf = true) {f : Int} (_ : (Lit.int .i64 f).wf = true) {t : Int} (_ : (Lit.int .i64 t).wf = true) :
    Calls Try.prog 3 #[.int .i64 c, .slice A l.length k, .int .i64 r, .int .i64 f, .int .i64 t] w fun e w' => e = .returned (.bool true) ∧ Below w.heap.size w w' := by
  have HAL := Lib.hid (fun W => alive_any W)
  have HCC := Lib.hid (And.intro hC hle)
  clear hC hle
  go_enter Try.func3, Try.ntmps3
  by_cases hl : 30 < l.length
  · have e1 : decide ((30 : Int) < l.length) = true := decide_eq_true (by omega)
    clear hl
    go_wp2_with fail
    refine (HAL.out w).mono ?_
    rintro e w1 ⟨rfl, hb⟩
    have HB := Lib.hid hb
    clear hb
    go_wp2_with fail
    go_ret
    exact ⟨rfl, HB.out⟩
  · have e1 : decide ((30 : Int) < l.length) = false := decide_eq_false (by omega)
    have H1 := Lib.hid (Charge_any c A k l w HCC.out.1 HCC.out.2)
    have H2 := Lib.hid (fun (W : World) (hW : Below w.heap.size w W) => rcharge_any c A k l W (Kd.C_below HCC.out.1 hW) HCC.out.2)
    have H3 := Lib.hid (fun (W : World) => interest_any c r f t W)
    have H4 := Lib.hid (fun (W : World) => rinterest_any c r f t W)
    generalize (chargeR c l).1 = x1 at *
    generalize (chargeR c l).2 = x2 at *
    generalize (interR c r f t).1 = y1 at *
    generalize (interR c r f t).2 = y2 at *
    have q1 : (x1 == x1) = true := by simp
    have q2 : (x2 == x2) = true := by simp
    have q3 : (y1 == y1) = true := by simp
    have q4 : (y2 == y2) = true := by simp
    clear hl
    go_wp2_with fail
    refine H1.out.mono ?_
    rintro e w1 ⟨rfl, hb1⟩
    have HB1 := Lib.hid hb1
    clear hb1 H1 e1
    go_wp2_with fail
    refine (H2.out w1 HB1.out).mono ?_
    rintro e w2 ⟨rfl, hb2⟩
    have HB2 := Lib.hid (below_t HB1.out hb2)
    clear hb2 H2 HB1
    go_wp2_with fail
    refine (H3.out w2).mono ?_
    rintro e w3 ⟨rfl, hb3⟩
    have HB3 := Lib.hid (below_t HB2.out hb3)
    clear hb3 H3 HB2
    go_wp2_with fail
    refine (H4.out w3).mono ?_
    rintro e w4 ⟨rfl, hb4⟩
    have HB4 := Lib.hid (below_t HB3.out hb4)
    clear hb4 H4 HB3
    go_wp2_with fail
    refine (HAL.out w4).mono ?_
    rintro e w5 ⟨rfl, hb5⟩
    have HB5 := Lib.hid (below_t HB4.out hb5)
    clear hb5
    go_wp2_with fail
    go_ret
    exact ⟨rfl, HB5.out⟩
end Go.Proofs.Ytcobihdjcdefmaa
