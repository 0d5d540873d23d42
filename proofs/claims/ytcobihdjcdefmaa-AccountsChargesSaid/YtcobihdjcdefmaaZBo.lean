/-
  The quotient of 128 bits by 3650000.
  The quotient of 128 bits by 3650000, walked.
  Interest of the program, walked.
-/
import Derived.Test.YtcobihdjcdefmaaZBl
import Derived.Test.YtcobihdjcdefmaaZYx8
import Derived.Laws.Bits64b
import Derived.Test.YtcobihdjcdefmaaZLg
import Derived.Lib.Mul64
namespace Go.Proofs.Ytcobihdjcdefmaa
open PAccountsCharges
open Go.RowKit Go.Proofs.YtcobihdjcdefmaaW.PrintWords
set_option maxRecDepth 100000 in
set_option maxHeartbeats 2000000 in
theorem len64_any (w : World) : Calls Try.prog 76 #[.int .u64 3650000] w fun e w' => e = .returned (.int .i64 22) ∧ Below w.heap.size w w' := by
  have HB := Lib.hid (Below.refl w.heap.size w)
  go_enter Try.func76, Try.ntmps76
  go_wp2_with fail
  go_ret
  exact ⟨by kernel_rfl, HB.out⟩
theorem and_mask (a : Nat) (h : a < 18446744073709551616) : bits BinOp.and IntKind.u64 (a : Int) 4294967295 = ((a % 4294967296 : Nat) : Int) := by
  have h := bits_and_u64_nat a 4294967295 h (by omega)
  have e : a &&& 4294967295 = a % 4294967296 := Nat.and_two_pow_sub_one_eq_mod a 32
  rw [e] at h
  exact h
theorem and_const : bits BinOp.and IntKind.u64 16052869765529600000 4294967295 = 0 := by
  have h := and_mask 16052869765529600000 (by decide)
  exact h
theorem or_parts {hi lo : Nat} (h1 : hi < 3650000) (h2 : lo < 18446744073709551616) : bits BinOp.or IntKind.u64 ((hi : Int) * 4398046511104) ((lo : Int) / 4194304) = ((hi * 4398046511104 + lo / 4194304 : Nat) : Int) := by
  have h := bits_or_u64_nat (hi * 4398046511104) (lo / 4194304) (by omega) (by omega)
  have e : 2 ^ 42 * hi + lo / 4194304 = 2 ^ 42 * hi ||| lo / 4194304 := Nat.two_pow_add_eq_or_of_lt (by omega) hi
  have e2 : hi * 4398046511104 ||| lo / 4194304 = hi * 4398046511104 + lo / 4194304 := by
    rw [Nat.mul_comm hi 4398046511104]; exact e.symm
  rw [e2] at h
  rw [← h]
  congr 1
theorem dv_lt {n : Int} (h0 : 0 ≤ n) (h1 : n < 18446744073709551616) : IntKind.u64.wrap n = n := by rw [IntKind.wrap_u64]; exact Int.emod_eq_of_lt h0 h1
theorem dv_sub {a b c n : Int} (h0 : 0 ≤ n) (h1 : n < 18446744073709551616) (e : a + b - c = n) : IntKind.u64.wrap (IntKind.u64.wrap (IntKind.u64.wrap a + b) - IntKind.u64.wrap c) = n := by
  rw [IntKind.wrap_u64, IntKind.wrap_u64, IntKind.wrap_u64, IntKind.wrap_u64, Int.emod_add_emod, Int.emod_sub_emod, Int.sub_emod_emod, e]
  exact Int.emod_eq_of_lt h0 h1
theorem dv_a {hi lo U V q1 r1 : Nat} (h1 : hi < 3650000) (h2 : lo < 18446744073709551616) (hU : U = hi * 4398046511104 + lo / 4194304) (hV : V = lo % 4194304 * 1024) (hq1 : q1 = U / 3737600000) (hr1 : r1 = U % 3737600000) : q1 < 4294967296 ∧ r1 < 3737600000 ∧ U = q1 * 3737600000 + r1 ∧ V < 4294967296 := by omega
theorem dv_b {r1 V W2 q0 r0 : Nat} (h1 : r1 < 3737600000) (h2 : V < 4294967296) (hW : W2 = r1 * 4294967296 + V) (hq0 : q0 = W2 / 3737600000) (hr0 : r0 = W2 % 3737600000) : q0 < 4294967296 ∧ r0 < 3737600000 ∧ W2 = q0 * 3737600000 + r0 ∧ W2 < 16052869765529600000 := by omega
theorem dv_c {U V q1 r1 W2 : Nat} (h1 : U = q1 * 3737600000 + r1) (hW : W2 = r1 * 4294967296 + V) : (U : Int) * 4294967296 + (V : Int) - (q1 : Int) * 16052869765529600000 = (W2 : Int) := by omega
theorem dv_d {q r n : Nat} (h : n = q * 3737600000 + r) : (n : Int) - (q : Int) * 3737600000 = r := by omega
theorem dv_q {q r n : Nat} (h : n = q * 3737600000 + r) (hr : r < 3737600000) : (n : Int) / 3737600000 = q := by omega
theorem dv_m {q : Nat} (h : q < 4294967296) : 0 ≤ (q : Int) * 3737600000 ∧ (q : Int) * 3737600000 < 18446744073709551616 := by omega
theorem dv_n {r V : Nat} (h : r < 3737600000) (hV : V < 4294967296) : (0 ≤ 4294967296 * (r : Int) ∧ 4294967296 * (r : Int) < 18446744073709551616) ∧ (0 ≤ 4294967296 * (r : Int) + (V : Int) ∧ 4294967296 * (r : Int) + (V : Int) < 18446744073709551616) := by omega
theorem dv_e {q0 r0 W2 : Nat} (h : W2 = q0 * 3737600000 + r0) : (W2 : Int) * 4294967296 - (q0 : Int) * 16052869765529600000 = ((r0 * 4294967296 : Nat) : Int) := by omega
theorem dv_w {n : Nat} (h : n < 16052869765529600000) : (n : Int) < 18446744073709551616 := by omega
theorem dv_r {n : Nat} (h : n < 3737600000) : (n : Int) < 18446744073709551616 := by omega
theorem dv_no {n : Nat} (h : n < 4294967296) : ¬ (4294967296 : Int) ≤ n := by omega
theorem dv_s {n : Nat} (h : n < 4294967296) : IntKind.u64.wrap (n : Int) = n := dv_lt (Int.natCast_nonneg _) (by omega)
theorem dv_g {N Q r : Nat} (h : N * 1024 = Q * 3737600000 + r) (hr : r < 3737600000) : N / 3650000 = Q ∧ N % 3650000 = r / 1024 := by omega
theorem dv_f {hi lo U V q1 r1 W2 q0 r0 : Nat} (hU : U = hi * 4398046511104 + lo / 4194304) (hV : V = lo % 4194304 * 1024) (h1 : U = q1 * 3737600000 + r1) (hW : W2 = r1 * 4294967296 + V) (h2 : W2 = q0 * 3737600000 + r0) (hr : r0 < 3737600000) :
    (hi * 18446744073709551616 + lo) / 3650000 = q1 * 4294967296 + q0 ∧ (hi * 18446744073709551616 + lo) % 3650000 = r0 / 1024 := by
  have e0 : lo = lo / 4194304 * 4194304 + lo % 4194304 := by omega
  have e1 : (hi * 18446744073709551616 + lo) * 1024 = (q1 * 4294967296 + q0) * 3737600000 + r0 := by omega
  exact dv_g (N := hi * 18446744073709551616 + lo) (Q := q1 * 4294967296 + q0) e1 hr
theorem dv_k1 {q1 q0 : Nat} (h1 : q1 < 4294967296) (h0 : q0 < 4294967296) : IntKind.u64.wrap (IntKind.u64.wrap ((q1 : Int) * 4294967296) + (q0 : Int)) = ((q1 * 4294967296 + q0 : Nat) : Int) := by
  have a : 0 ≤ (q1 : Int) * 4294967296 ∧ (q1 : Int) * 4294967296 < 18446744073709551616 := by omega
  rw [dv_lt a.1 a.2]
  have b : 0 ≤ (q1 : Int) * 4294967296 + (q0 : Int) ∧ (q1 : Int) * 4294967296 + (q0 : Int) < 18446744073709551616 := by omega
  rw [dv_lt b.1 b.2]; omega
theorem dv_h {r : Nat} (hr : r < 3737600000) : ((r * 4294967296 : Nat) : Int) < 18446744073709551616 ∧ ((r * 4294967296 : Nat) : Int) / 4398046511104 = ((r / 1024 : Nat) : Int) := by omega
theorem dv_k2 {q0 r0 W2 : Nat} (h : W2 = q0 * 3737600000 + r0) (hr : r0 < 3737600000) : IntKind.u64.wrap (IntKind.u64.wrap (IntKind.u64.wrap ((W2 : Int) * 4294967296)) - IntKind.u64.wrap ((q0 : Int) * 16052869765529600000)) / 4398046511104 = ((r0 / 1024 : Nat) : Int) := by
  have e : IntKind.u64.wrap (IntKind.u64.wrap (IntKind.u64.wrap ((W2 : Int) * 4294967296)) - IntKind.u64.wrap ((q0 : Int) * 16052869765529600000)) = ((r0 * 4294967296 : Nat) : Int) := by
    rw [IntKind.wrap_u64, IntKind.wrap_u64, IntKind.wrap_u64, IntKind.wrap_u64, Int.emod_emod, Int.emod_sub_emod, Int.sub_emod_emod, dv_e h]
    exact Int.emod_eq_of_lt (Int.natCast_nonneg _) (dv_h hr).1
  rw [e, (dv_h hr).2]
theorem lead_any (w : World) : Calls Try.prog 62 #[.int .u64 3650000] w fun e w' => e = .returned (.int .i64 42) ∧ Below w.heap.size w w' := by
  have HL := Lib.hid (len64_any w)
  go_enter Try.func62, Try.ntmps62
  go_wp2_with fail
  refine HL.out.mono ?_
  rintro e w1 ⟨rfl, hb⟩
  have HB := Lib.hid hb
  clear hb
  go_wp2_with fail
  go_ret
  exact ⟨rfl, HB.out⟩
end Go.Proofs.Ytcobihdjcdefmaa
namespace Go.Proofs.Ytcobihdjcdefmaa
open PAccountsCharges
open Go.RowKit Go.Proofs.YtcobihdjcdefmaaW.PrintWords
set_option maxRecDepth 100000 in
set_option maxHeartbeats 4000000 in
theorem div64_any (hi lo : Nat) (h1 : hi < 3650000) (h2 : lo < 18446744073709551616) (w : World) :
    Calls Try.prog 34 #[.int .u64 hi, .int .u64 lo, .int .u64 3650000] w fun e w' => e = .returned (.tuple #[.int .u64 (((hi * 18446744073709551616 + lo) / 3650000 : Nat) : Int), .int .u64 (((hi * 18446744073709551616 + lo) % 3650000 : Nat) : Int)]) ∧ Below w.heap.size w w' := by
  have HL := Lib.hid (lead_any w)
  have HB := Lib.hid (Below.refl w.heap.size w)
  have c1 : decide ((3650000 : Int) ≤ hi) = false := decide_eq_false (by omega)
  go_enter Try.func34, Try.ntmps34
  by_cases h0 : hi = 0
  · subst h0
    have HBq : Hid (∀ n, Below w.heap.size w (w.drewN n)) := Lib.hid (fun n => by apply pw_below_drewN; exact HB.out)
    go_upto_region 6 with (fail)
    go_quiet (fail)
    go_wp2_with fail
    go_ret2
    rw [Nat.zero_mul, Nat.zero_add]
    exact ⟨rfl, HBq.out _⟩
  · have c2 : ((hi : Int) == 0) = false := beq_eq_false_iff_ne.2 (by omega)
    go_upto_region 7 with (fail)
    go_wp2_with fail
    refine HL.out.mono ?_
    rintro e w1 ⟨rfl, hb⟩
    have HB1 := Lib.hid hb
    clear hb HL
    go_upto_region 15 with (fail)
    obtain ⟨U, hU⟩ : ∃ U : Nat, U = hi * 4398046511104 + lo / 4194304 := ⟨_, rfl⟩
    obtain ⟨V, hV⟩ : ∃ V : Nat, V = lo % 4194304 * 1024 := ⟨_, rfl⟩
    have F10 : bits BinOp.and IntKind.u64 16052869765529600000 4294967295 = 0 := and_const
    have F11 : bits BinOp.or IntKind.u64 ((hi : Int) * 4398046511104) ((lo : Int) / 4194304) = (U : Int) := by rw [hU]; exact or_parts h1 h2
    have F12 : IntKind.u64.wrap ((lo : Int) * 4398046511104) = ((V * 4294967296 : Nat) : Int) := by rw [hV, IntKind.wrap_u64]; omega
    have F13 : ((V * 4294967296 : Nat) : Int) / 4294967296 = (V : Int) := by omega
    have F14 : bits BinOp.and IntKind.u64 ((V * 4294967296 : Nat) : Int) 4294967295 = 0 := by rw [and_mask _ (by omega)]; omega
    rw [F10, F11, F12, F13, F14]
    clear F10 F11 F12 F13 F14
    obtain ⟨q1, hq1⟩ : ∃ q : Nat, q = U / 3737600000 := ⟨_, rfl⟩
    obtain ⟨r1, hr1⟩ : ∃ r : Nat, r = U % 3737600000 := ⟨_, rfl⟩
    have hb1 := dv_a h1 h2 hU hV hq1 hr1
    have G0 : IntKind.u64.wrap (q1 : Int) = q1 := dv_s hb1.1
    have G1 : (U : Int) / 3737600000 = (q1 : Int) := dv_q hb1.2.2.1 hb1.2.1
    have G2 : IntKind.u64.wrap ((q1 : Int) * 3737600000) = (q1 : Int) * 3737600000 := dv_lt (dv_m hb1.1).1 (dv_m hb1.1).2
    have G3 : IntKind.u64.wrap ((U : Int) - (q1 : Int) * 3737600000) = (r1 : Int) := by rw [dv_d hb1.2.2.1]; exact dv_lt (Int.natCast_nonneg _) (dv_r hb1.2.1)
    have HH := Lib.hid (And.intro hU (And.intro hV hb1))
    clear hU hV hq1 hr1 hb1
    go_upto_region 17 with (fail)
    have hdn := dv_n HH.out.2.2.2.1 HH.out.2.2.2.2.2
    have c3 : decide ((4294967296 : Int) ≤ q1) = false := decide_eq_false (dv_no HH.out.2.2.1)
    have G4 : IntKind.u64.wrap (4294967296 * (r1 : Int)) = 4294967296 * (r1 : Int) := dv_lt hdn.1.1 hdn.1.2
    have G5 : IntKind.u64.wrap (4294967296 * (r1 : Int) + (V : Int)) = 4294967296 * (r1 : Int) + (V : Int) := dv_lt hdn.2.1 hdn.2.2
    have c4 : decide (4294967296 * (r1 : Int) + (V : Int) < 0) = false := decide_eq_false (Int.not_lt.2 hdn.2.1)
    clear hdn
    clear c1 c2 h0
    go_loopg [15, 16] 1 (fun kk v15 v16 wr => v15 = .int .u64 q1 ∧ v16 = .int .u64 r1 ∧ Hid (wr = w1))
    case atStart => exact ⟨rfl, rfl, Lib.hid rfl⟩
    case round =>
      obtain ⟨rfl, rfl, HW⟩ := hrel
      obtain rfl := HW.out
      clear HW
      obtain ⟨w1, rfl⟩ : ∃ w1 : World, w1 = wr := ⟨_, rfl⟩
      obtain ⟨W2, hW2⟩ : ∃ W2 : Nat, W2 = r1 * 4294967296 + V := ⟨_, rfl⟩
      obtain ⟨q0, hq0⟩ : ∃ q : Nat, q = W2 / 3737600000 := ⟨_, rfl⟩
      obtain ⟨r0, hr0⟩ : ∃ r : Nat, r = W2 % 3737600000 := ⟨_, rfl⟩
      have hb2 := dv_b HH.out.2.2.2.1 HH.out.2.2.2.2.2 hW2 hq0 hr0
      have G6 : IntKind.u64.wrap (IntKind.u64.wrap (IntKind.u64.wrap ((U : Int) * 4294967296) + (V : Int)) - IntKind.u64.wrap ((q1 : Int) * 16052869765529600000)) = (W2 : Int) := dv_sub (Int.natCast_nonneg _) (dv_w hb2.2.2.2) (dv_c HH.out.2.2.2.2.1 hW2)
      have G0' : IntKind.u64.wrap (q0 : Int) = q0 := dv_s hb2.1
      have G7 : (W2 : Int) / 3737600000 = (q0 : Int) := dv_q hb2.2.2.1 hb2.2.1
      have G8 : IntKind.u64.wrap ((q0 : Int) * 3737600000) = (q0 : Int) * 3737600000 := dv_lt (dv_m hb2.1).1 (dv_m hb2.1).2
      have G9 : IntKind.u64.wrap ((W2 : Int) - (q0 : Int) * 3737600000) = (r0 : Int) := by rw [dv_d hb2.2.2.1]; exact dv_lt (Int.natCast_nonneg _) (dv_r hb2.2.1)
      have HH2 := Lib.hid (And.intro hW2 hb2)
      clear hW2 hb2 hq0 hr0
      go_upto_region 24 with (fail)
      have hdn := dv_n (V := 0) HH2.out.2.2.1 (by decide)
      have c5 : decide ((4294967296 : Int) ≤ q0) = false := decide_eq_false (dv_no HH2.out.2.1)
      have G10 : IntKind.u64.wrap (4294967296 * (r0 : Int)) = 4294967296 * (r0 : Int) := dv_lt hdn.1.1 hdn.1.2
      have c6 : decide (4294967296 * (r0 : Int) < 0) = false := decide_eq_false (Int.not_lt.2 hdn.1.1)
      clear hdn
      clear G0 G0' G1 G2 G3 G4 G5 G6 G7 G8 G9 c3 c4
      go_loopg [16, 18] 1 (fun kk v16 v18 wr => v18 = .int .u64 q0 ∧ v16 = .int .u64 r0 ∧ Hid (wr = w1))
      case atStart => exact ⟨rfl, rfl, Lib.hid rfl⟩
      case round =>
        obtain ⟨rfl, rfl, HW⟩ := hrel
        obtain rfl := HW.out
        clear HW
        obtain ⟨w1, rfl⟩ : ∃ w1 : World, w1 = wr := ⟨_, rfl⟩
        go_wp2_with fail
        have hdv := dv_f HH.out.1 HH.out.2.1 HH.out.2.2.2.2.1 HH2.out.1 HH2.out.2.2.2.1 HH2.out.2.2.1
        rw [dv_k1 HH.out.2.2.1 HH2.out.2.1, dv_k2 HH2.out.2.2.2.1 HH2.out.2.2.1]
        go_ret2
        rw [hdv.1, hdv.2]
        exact ⟨rfl, HB1.out⟩
end Go.Proofs.Ytcobihdjcdefmaa
namespace Go.Proofs.Ytcobihdjcdefmaa
open PAccountsCharges
open Go.RowKit Go.Proofs.YtcobihdjcdefmaaW.PrintWords
theorem mu_div (a : Nat) : (a : Int) / 4294967296 = ((a / 4294967296 : Nat) : Int) := by omega
theorem mu_mul (a b : Nat) : (a : Int) * (b : Int) = ((a * b : Nat) : Int) := (Int.natCast_mul a b).symm
theorem mu_add (a b : Nat) : (a : Int) + (b : Int) = ((a + b : Nat) : Int) := (Int.natCast_add a b).symm
theorem mu_wrap (a : Nat) (ha : a < 18446744073709551616) : IntKind.u64.wrap (a : Int) = (a : Int) := dv_lt (Int.natCast_nonneg _) (by omega)
theorem mu_mod (a : Nat) : IntKind.u64.wrap (a : Int) = ((a % 18446744073709551616 : Nat) : Int) := by rw [IntKind.wrap_u64]; omega
theorem mul64_f (x y : Nat) (hx : x < 18446744073709551616) (hy : y < 18446744073709551616) : bits_Mul64.f (x : Int) (y : Int) = some (((x * y / 18446744073709551616 : Nat) : Int), ((x * y % 18446744073709551616 : Nat) : Int)) := by
  obtain ⟨bd, bt, bw, hhi⟩ := Lib.mul64_hi x y hx hy
  have ba := Lib.half_mul_le (a := x / 4294967296) (b := y / 4294967296) (by omega) (by omega)
  have bb := Lib.half_mul_le (a := x / 4294967296) (b := y % 4294967296) (by omega) (by omega)
  have bc := Lib.half_mul_le (a := x % 4294967296) (b := y / 4294967296) (by omega) (by omega)
  have ba' : x / 4294967296 * (y / 4294967296) < 18446744073709551616 := by omega
  have bb' : x / 4294967296 * (y % 4294967296) < 18446744073709551616 := by omega
  have bc' : x % 4294967296 * (y / 4294967296) < 18446744073709551616 := by omega
  have bh1 : x / 4294967296 * (y / 4294967296) + (x / 4294967296 * (y % 4294967296) + x % 4294967296 * (y % 4294967296) / 4294967296) / 4294967296 < 18446744073709551616 := by omega
  have bh : x / 4294967296 * (y / 4294967296) + (x / 4294967296 * (y % 4294967296) + x % 4294967296 * (y % 4294967296) / 4294967296) / 4294967296 + ((x / 4294967296 * (y % 4294967296) + x % 4294967296 * (y % 4294967296) / 4294967296) % 4294967296 + x % 4294967296 * (y / 4294967296)) / 4294967296 < 18446744073709551616 := by omega
  unfold bits_Mul64.f
  simp only [and_mask x hx, and_mask y hy, mu_div, mu_mul, mu_add, mu_wrap _ bd, mu_wrap _ bb', mu_wrap _ bt, and_mask _ bt, mu_wrap _ bc', mu_wrap _ bw, mu_wrap _ ba', mu_wrap _ bh1, mu_wrap _ bh, mu_mod (x * y)]
  rw [hhi]
end Go.Proofs.Ytcobihdjcdefmaa
