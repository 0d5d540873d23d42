/-
  FlowBlends: which parcels are let in. The walks of parcel are printed by wip/tools/gen_parcel.py.
-/
import Derived.Test.YtpbndcmmclkdpaaZNa
import Derived.Test.YtpbndcmmclkdpaaZGLs
namespace Go.Proofs.Ytpbndcmmclkdpaa
open PFlowSolves
open Go.RowKit Go.Proofs.YtpbndcmmclkdpaaW.PrintWords
def inB (x y : Int) : Bool := decide (0 ≤ x) && decide (x ≤ y)
def okP (p : S49) : Bool := inB p.f0 4096 && (inB p.f1 16384 && (inB p.f2 10000 && (inB p.f3 10000 && inB p.f4 7)))
set_option maxRecDepth 100000 in
theorem within_any (x y : Int) (w : World) : Calls Try.prog 62 #[.int .i64 x, .int .i64 y] w fun e w' => e = .returned (.bool (inB x y)) ∧ Below w.heap.size w w' := by
  have HS : Hid (inB x y = (decide (0 ≤ x) && decide (x ≤ y))) := Lib.hid rfl
  generalize inB x y = r at *
  generalize e1 : decide (0 ≤ x) = b1 at *
  generalize e2 : decide (x ≤ y) = b2 at *
  cases b1 <;> cases b2 <;>
  · go_enter Try.func62, Try.ntmps62
    go_wp2_with fail
    go_ret
    exact ⟨by rw [HS.out]; rfl, Below.refl _ _⟩
set_option maxRecDepth 100000 in
theorem between_any (x y : Int) (w : World) : Calls Try.prog 65 #[.int .i64 x, .int .i64 y] w fun e w' => e = .returned (.bool (inB x y)) ∧ Below w.heap.size w w' := by
  have HS : Hid (inB x y = (decide (0 ≤ x) && decide (x ≤ y))) := Lib.hid rfl
  generalize inB x y = r at *
  generalize e1 : decide (0 ≤ x) = b1 at *
  generalize e2 : decide (x ≤ y) = b2 at *
  cases b1 <;> cases b2 <;>
  · go_enter Try.func65, Try.ntmps65
    go_wp2_with fail
    go_ret
    exact ⟨by rw [HS.out]; rfl, Below.refl _ _⟩
set_option maxRecDepth 100000 in
set_option maxHeartbeats 4000000 in
theorem parcel_any (p : S49) (w : World) : Calls Try.prog 63 #[vP p] w fun e w' => e = .returned (.bool (okP p)) ∧ Below w.heap.size w w' := by
  obtain ⟨p0, p1, p2, p3, p4⟩ := p
  have HS : Hid (okP ⟨p0, p1, p2, p3, p4⟩ = (inB p0 4096 && (inB p1 16384 && (inB p2 10000 && (inB p3 10000 && inB p4 7))))) := Lib.hid rfl
  have HK1 := Lib.hid (Blk.new w #[.int .i64 p0, .int .i64 p1, .int .i64 p2, .int .i64 p3, .int .i64 p4] 49)
  have HB1 := Lib.hid (below_alloc (Below.refl w.heap.size w) (.cells #[.int .i64 p0, .int .i64 p1, .int .i64 p2, .int .i64 p3, .int .i64 p4] 49 (0, 0)))
  generalize okP ⟨p0, p1, p2, p3, p4⟩ = r at *
  go_enter Try.func63, Try.ntmps63
  go_upto_region 1 with (fail)
  generalize w.alloc (.cells #[.int .i64 p0, .int .i64 p1, .int .i64 p2, .int .i64 p3, .int .i64 p4] 49 (0, 0)) = w1 at *
  have c0 := Blk.cell HK1.out 0 (v := .int .i64 p0) rfl
  have HC := Lib.hid (within_any p0 4096 w1)
  go_wp2_with fail
  refine HC.out.mono ?_
  rintro e w2 ⟨rfl, hb⟩
  have HB2 := Lib.hid (below_t HB1.out hb)
  have HK2 := Lib.hid (HK1.out.fr (Fr.of_below hb (fun _ => False)) (fun a => a))
  clear hb HC c0
  cases h0 : inB p0 4096 with
  | false =>
    have HR : Hid (r = false) := Lib.hid (by rw [HS.out, h0, Bool.false_and])
    clear h0
    go_wp2_with fail
    go_ret
    exact ⟨by rw [HR.out]; rfl, HB2.out⟩
  | true =>
    have c1 := Blk.cell HK2.out 1 (v := .int .i64 p1) rfl
    have HC := Lib.hid (within_any p1 16384 w2)
    go_wp2_with fail
    refine HC.out.mono ?_
    rintro e w3 ⟨rfl, hb⟩
    have HB3 := Lib.hid (below_t HB2.out hb)
    have HK3 := Lib.hid (HK2.out.fr (Fr.of_below hb (fun _ => False)) (fun a => a))
    clear hb HC c1
    cases h1 : inB p1 16384 with
    | false =>
      have HR : Hid (r = false) := Lib.hid (by rw [HS.out, h0, h1, Bool.true_and, Bool.false_and])
      clear h0 h1
      go_wp2_with fail
      go_ret
      exact ⟨by rw [HR.out]; rfl, HB3.out⟩
    | true =>
      have c2 := Blk.cell HK3.out 2 (v := .int .i64 p2) rfl
      have HC := Lib.hid (within_any p2 10000 w3)
      go_wp2_with fail
      refine HC.out.mono ?_
      rintro e w4 ⟨rfl, hb⟩
      have HB4 := Lib.hid (below_t HB3.out hb)
      have HK4 := Lib.hid (HK3.out.fr (Fr.of_below hb (fun _ => False)) (fun a => a))
      clear hb HC c2
      cases h2 : inB p2 10000 with
      | false =>
        have HR : Hid (r = false) := Lib.hid (by rw [HS.out, h0, h1, h2, Bool.true_and, Bool.true_and, Bool.false_and])
        clear h0 h1 h2
        go_wp2_with fail
        go_ret
        exact ⟨by rw [HR.out]; rfl, HB4.out⟩
      | true =>
        have c3 := Blk.cell HK4.out 3 (v := .int .i64 p3) rfl
        have HC := Lib.hid (within_any p3 10000 w4)
        go_wp2_with fail
        refine HC.out.mono ?_
        rintro e w5 ⟨rfl, hb⟩
        have HB5 := Lib.hid (below_t HB4.out hb)
        have HK5 := Lib.hid (HK4.out.fr (Fr.of_below hb (fun _ => False)) (fun a => a))
        clear hb HC c3
        cases h3 : inB p3 10000 with
        | false =>
          have HR : Hid (r = false) := Lib.hid (by rw [HS.out, h0, h1, h2, h3, Bool.true_and, Bool.true_and, Bool.true_and, Bool.false_and])
          clear h0 h1 h2 h3
          go_wp2_with fail
          go_ret
          exact ⟨by rw [HR.out]; rfl, HB5.out⟩
        | true =>
          have c4 := Blk.cell HK5.out 4 (v := .int .i64 p4) rfl
          have HC := Lib.hid (within_any p4 7 w5)
          go_wp2_with fail
          refine HC.out.mono ?_
          rintro e w6 ⟨rfl, hb⟩
          have HB6 := Lib.hid (below_t HB5.out hb)
          have HK6 := Lib.hid (HK5.out.fr (Fr.of_below hb (fun _ => False)) (fun a => a))
          clear hb HC c4
          have HR : Hid (r = inB p4 7) := Lib.hid (by rw [HS.out, h0, h1, h2, h3, Bool.true_and, Bool.true_and, Bool.true_and, Bool.true_and])
          clear h0 h1 h2 h3
          generalize inB p4 7 = z at *
          go_wp2_with fail
          go_ret
          exact ⟨by rw [HR.out]; rfl, HB6.out⟩
set_option maxRecDepth 100000 in
set_option maxHeartbeats 4000000 in
theorem rparcel_any (p : S49) (w : World) : Calls Try.prog 66 #[vP p] w fun e w' => e = .returned (.bool (okP p)) ∧ Below w.heap.size w w' := by
  obtain ⟨p0, p1, p2, p3, p4⟩ := p
  have HS : Hid (okP ⟨p0, p1, p2, p3, p4⟩ = (inB p0 4096 && (inB p1 16384 && (inB p2 10000 && (inB p3 10000 && inB p4 7))))) := Lib.hid rfl
  have HK1 := Lib.hid (Blk.new w #[.int .i64 p0, .int .i64 p1, .int .i64 p2, .int .i64 p3, .int .i64 p4] 49)
  have HB1 := Lib.hid (below_alloc (Below.refl w.heap.size w) (.cells #[.int .i64 p0, .int .i64 p1, .int .i64 p2, .int .i64 p3, .int .i64 p4] 49 (0, 0)))
  generalize okP ⟨p0, p1, p2, p3, p4⟩ = r at *
  go_enter Try.func66, Try.ntmps66
  go_upto_region 1 with (fail)
  generalize w.alloc (.cells #[.int .i64 p0, .int .i64 p1, .int .i64 p2, .int .i64 p3, .int .i64 p4] 49 (0, 0)) = w1 at *
  have c0 := Blk.cell HK1.out 0 (v := .int .i64 p0) rfl
  have HC := Lib.hid (between_any p0 4096 w1)
  go_wp2_with fail
  refine HC.out.mono ?_
  rintro e w2 ⟨rfl, hb⟩
  have HB2 := Lib.hid (below_t HB1.out hb)
  have HK2 := Lib.hid (HK1.out.fr (Fr.of_below hb (fun _ => False)) (fun a => a))
  clear hb HC c0
  cases h0 : inB p0 4096 with
  | false =>
    have HR : Hid (r = false) := Lib.hid (by rw [HS.out, h0, Bool.false_and])
    clear h0
    go_wp2_with fail
    go_ret
    exact ⟨by rw [HR.out]; rfl, HB2.out⟩
  | true =>
    have c1 := Blk.cell HK2.out 1 (v := .int .i64 p1) rfl
    have HC := Lib.hid (between_any p1 16384 w2)
    go_wp2_with fail
    refine HC.out.mono ?_
    rintro e w3 ⟨rfl, hb⟩
    have HB3 := Lib.hid (below_t HB2.out hb)
    have HK3 := Lib.hid (HK2.out.fr (Fr.of_below hb (fun _ => False)) (fun a => a))
    clear hb HC c1
    cases h1 : inB p1 16384 with
    | false =>
      have HR : Hid (r = false) := Lib.hid (by rw [HS.out, h0, h1, Bool.true_and, Bool.false_and])
      clear h0 h1
      go_wp2_with fail
      go_ret
      exact ⟨by rw [HR.out]; rfl, HB3.out⟩
    | true =>
      have c2 := Blk.cell HK3.out 2 (v := .int .i64 p2) rfl
      have HC := Lib.hid (between_any p2 10000 w3)
      go_wp2_with fail
      refine HC.out.mono ?_
      rintro e w4 ⟨rfl, hb⟩
      have HB4 := Lib.hid (below_t HB3.out hb)
      have HK4 := Lib.hid (HK3.out.fr (Fr.of_below hb (fun _ => False)) (fun a => a))
      clear hb HC c2
      cases h2 : inB p2 10000 with
      | false =>
        have HR : Hid (r = false) := Lib.hid (by rw [HS.out, h0, h1, h2, Bool.true_and, Bool.true_and, Bool.false_and])
        clear h0 h1 h2
        go_wp2_with fail
        go_ret
        exact ⟨by rw [HR.out]; rfl, HB4.out⟩
      | true =>
        have c3 := Blk.cell HK4.out 3 (v := .int .i64 p3) rfl
        have HC := Lib.hid (between_any p3 10000 w4)
        go_wp2_with fail
        refine HC.out.mono ?_
        rintro e w5 ⟨rfl, hb⟩
        have HB5 := Lib.hid (below_t HB4.out hb)
        have HK5 := Lib.hid (HK4.out.fr (Fr.of_below hb (fun _ => False)) (fun a => a))
        clear hb HC c3
        cases h3 : inB p3 10000 with
        | false =>
          have HR : Hid (r = false) := Lib.hid (by rw [HS.out, h0, h1, h2, h3, Bool.true_and, Bool.true_and, Bool.true_and, Bool.false_and])
          clear h0 h1 h2 h3
          go_wp2_with fail
          go_ret
          exact ⟨by rw [HR.out]; rfl, HB5.out⟩
        | true =>
          have c4 := Blk.cell HK5.out 4 (v := .int .i64 p4) rfl
          have HC := Lib.hid (between_any p4 7 w5)
          go_wp2_with fail
          refine HC.out.mono ?_
          rintro e w6 ⟨rfl, hb⟩
          have HB6 := Lib.hid (below_t HB5.out hb)
          have HK6 := Lib.hid (HK5.out.fr (Fr.of_below hb (fun _ => False)) (fun a => a))
          clear hb HC c4
          have HR : Hid (r = inB p4 7) := Lib.hid (by rw [HS.out, h0, h1, h2, h3, Bool.true_and, Bool.true_and, Bool.true_and, Bool.true_and])
          clear h0 h1 h2 h3
          generalize inB p4 7 = z at *
          go_wp2_with fail
          go_ret
          exact ⟨by rw [HR.out]; rfl, HB6.out⟩
end Go.Proofs.Ytpbndcmmclkdpaa
