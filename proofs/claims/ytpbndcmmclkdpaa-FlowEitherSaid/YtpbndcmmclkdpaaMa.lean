/-
  FlowEither: what a set of nodes asks beyond what can leave it.
-/
import Derived.Test.YtpbndcmmclkdpaaLr
namespace Go.Proofs.Ytpbndcmmclkdpaa
open PFlowSolves
open Go.RowKit Go.Proofs.YtpbndcmmclkdpaaW.PrintWords
def ndS (R : Int → Bool) (xs : List Int) (i : Nat) : Int := sumN i (fun v => (if R v then 1 else 0) * xs.getD v 0)
theorem ndS_yes {R : Int → Bool} {xs : List Int} {i : Nat} (h : R i = true) : ndS R xs (i + 1) = ndS R xs i + xs.getD i 0 := by
  have e : ndS R xs (i + 1) = ndS R xs i + (if R i then 1 else 0) * xs.getD i 0 := rfl
  rw [e, h, if_pos rfl, Int.one_mul]
theorem ndS_no {R : Int → Bool} {xs : List Int} {i : Nat} (h : R i = false) : ndS R xs (i + 1) = ndS R xs i := by
  have e : ndS R xs (i + 1) = ndS R xs i + (if R i then 1 else 0) * xs.getD i 0 := rfl
  rw [e, h, if_neg (by simp), Int.zero_mul, Int.add_zero]
theorem ndS_abs {R : Int → Bool} {xs : List Int} (hx : ∀ v, v < xs.length → -140737488355328 ≤ xs.getD v 0 ∧ xs.getD v 0 ≤ 140737488355328) : ∀ i, i ≤ xs.length → -((i : Int) * 140737488355328) ≤ ndS R xs i ∧ ndS R xs i ≤ (i : Int) * 140737488355328
  | 0, _ => by simp [ndS, sumN]
  | i + 1, hi => by
    have ih := ndS_abs (R := R) hx i (by omega)
    have h := hx i (by omega)
    cases hr : R i with
    | true => rw [ndS_yes hr]; omega
    | false => rw [ndS_no hr]; omega
theorem capOut_yes {A : Nat → Ar} {R : Int → Bool} {i : Nat} (h : R (A i).f0 = true) (h2 : R (A i).f1 = false) : capOut (i + 1) A R = capOut i A R + (A i).f2 := by
  have e : capOut (i + 1) A R = capOut i A R + (if R (A i).f0 && !R (A i).f1 then (A i).f2 else 0) := rfl
  rw [e, h, h2]; rfl
theorem capOut_no {A : Nat → Ar} {R : Int → Bool} {i : Nat} (h : (R (A i).f0 && !R (A i).f1) = false) : capOut (i + 1) A R = capOut i A R := by
  have e : capOut (i + 1) A R = capOut i A R + (if R (A i).f0 && !R (A i).f1 then (A i).f2 else 0) := rfl
  rw [e, h]; simp
theorem capOut_abs {m : Nat} {A : Nat → Ar} {R : Int → Bool} (hc : ∀ i, i < m → 0 ≤ (A i).f2 ∧ (A i).f2 ≤ 1099511627776) : ∀ i, i ≤ m → 0 ≤ capOut i A R ∧ capOut i A R ≤ (i : Int) * 1099511627776
  | 0, _ => by simp [capOut, sumN]
  | i + 1, hi => by
    have ih := capOut_abs (R := R) hc i (by omega)
    have h := hc i (by omega)
    cases h1 : R (A i).f0 && !R (A i).f1 with
    | true => 
      have e : capOut (i + 1) A R = capOut i A R + (if R (A i).f0 && !R (A i).f1 then (A i).f2 else 0) := rfl
      rw [e, h1, if_pos rfl]; omega
    | false => rw [capOut_no h1]; omega
set_option maxRecDepth 100000 in
set_option maxHeartbeats 8000000 in
theorem exc_any (w : World) (A1 : Option Addr) (c1 : Nat) (l : List Ar) (h1 : Kd.C k44 w A1 l.length l) (hc1 : l.length ≤ c1) (A2 : Option Addr) (c2 : Nat) (xs : List Int) (h2 : Kd.C (Kd.int .i64) w A2 xs.length xs) (hc2 : xs.length ≤ c2)
    (N gb : Nat) (R : Int → Bool) (hT : TB w gb N (fun v => R v)) (hlen : xs.length = N) (hok : NetOk N l.length (arcF l)) (hx : ∀ v, v < xs.length → -140737488355328 ≤ xs.getD v 0 ∧ xs.getD v 0 ≤ 140737488355328) :
    Calls Try.prog 31 #[.slice A1 l.length c1, .slice A2 xs.length c2, .slice (some ⟨gb, 0, none⟩) N N] w fun e w' => e = .returned (.int .i64 (excF N l.length (arcF l) (fun v => xs.getD v 0) R)) ∧ Below w.heap.size w w' := by
  have H1 := Lib.hid h1
  have H2 := Lib.hid h2
  have HT := Lib.hid hT
  have HXL := Lib.hid hlen
  have HOK := Lib.hid hok
  have HA := Lib.hid (ndS_abs (R := R) hx)
  have HC := Lib.hid (capOut_abs (R := R) hok.cap)
  have HE : Hid (excF N l.length (arcF l) (fun v => xs.getD v 0) R = ndS R xs N - capOut l.length (arcF l) R) := Lib.hid rfl
  have HB0 := Lib.hid (Below.refl w.heap.size w)
  clear h1 h2 hT hlen hok hx
  go_enter Try.func31, Try.ntmps31
  go_wp2_with fail
  go_loopg [7, 8] N (fun k v7 v8 wr => ∃ i : Nat, v8 = .int .i64 i ∧ v7 = .int .i64 (ndS R xs i) ∧ Hid (i + k = N) ∧ Hid (Below w.heap.size w wr))
  case atStart => exact ⟨0, rfl, rfl, Lib.hid (by omega), HB0⟩
  case round =>
    clear HB0
    obtain ⟨i, rfl, rfl, HI, HB⟩ := hrel
    obtain ⟨wv, rfl⟩ : ∃ wv : World, wv = wr := ⟨_, rfl⟩
    by_cases hlt : i < N
    · have hi0 : (i : Int) < N := by omega
      have hiz : (0 : Int) ≤ i := by omega
      have hix : (i : Int) < xs.length := by have := HXL.out; omega
      have b0 : wv.cell? ⟨gb, i, none⟩ = some (.bool (R i)) := TV.cell (TV.below HT.out HB.out) hlt
      obtain ⟨bd, rfl, q0⟩ := Kd.at_int (Kd.C_below H2.out HB.out) (i : Int) (by omega) hix
      have ex : rd xs (i : Int) = xs.getD i 0 := by unfold rd; rw [Int.toNat_natCast]
      rw [ex, Int.toNat_natCast] at q0
      have hw : IntKind.i64.wrap ((i : Int) + 1) = i + 1 := IntWalk.i64_in _ (by have := HOK.out.n2; omega)
      have hab := HA.out (i + 1) (by have := HXL.out; omega)
      have HLT := Lib.hid hlt
      cases hr : R i with
      | true =>
        rw [ndS_yes hr] at hab
        have hw1 : IntKind.i64.wrap (ndS R xs i + xs.getD i 0) = ndS R xs i + xs.getD i 0 := IntWalk.i64_in _ (by have := HOK.out.n2; omega)
        have HN := Lib.hid (ndS_yes (R := R) (xs := xs) hr)
        rw [hr] at b0
        clear hlt ex hab hr
        generalize xs.getD i 0 = xi at *
        go_wp2_with fail
        go_roundg (N - (i + 1))
        case measure => have := HI.out; have := HLT.out; omega
        case rel => exact ⟨i + 1, by go_num, by rw [HN.out], Lib.hid (by have := HI.out; have := HLT.out; omega), HB⟩
      | false =>
        have HN := Lib.hid (ndS_no (R := R) (xs := xs) hr)
        rw [hr] at b0
        clear hlt ex hab hr q0
        go_wp2_with fail
        go_roundg (N - (i + 1))
        case measure => have := HI.out; have := HLT.out; omega
        case rel => exact ⟨i + 1, by go_num, by rw [HN.out], Lib.hid (by have := HI.out; have := HLT.out; omega), HB⟩
    · have him : i = N := by have := HI.out; omega
      have hnl : ¬ (i : Int) < xs.length := by have := HXL.out; omega
      subst him
      have HB1 := HB
      clear hlt HI HB
      go_wp2_with fail
      go_loopg [7, 9] l.length (fun k v7 v9 wr => ∃ j : Nat, v9 = .int .i64 j ∧ v7 = .int .i64 (ndS R xs i - capOut j (arcF l) R) ∧ Hid (j + k = l.length) ∧ Hid (Below w.heap.size w wr))
      case atStart => exact ⟨0, rfl, by rw [show capOut 0 (arcF l) R = 0 from rfl, Int.sub_zero], Lib.hid (by omega), HB1⟩
      case round =>
        clear HB1
        obtain ⟨j, rfl, rfl, HJ, HB⟩ := hrel
        obtain ⟨wv2, rfl⟩ : ∃ wv2 : World, wv2 = wr := ⟨_, rfl⟩
        by_cases hlt : j < l.length
        · have hj0 : (j : Int) < l.length := by omega
          have hjz : (0 : Int) ≤ j := by omega
          obtain ⟨e1, e2, e3, e4, e5⟩ := HOK.out.net j hlt
          obtain ⟨ad, rfl, k0, k1, k2, k3⟩ := arcs_of (Kd.C_below H1.out HB.out) (j : Int) (by omega) hj0
          rw [Int.toNat_natCast] at k0 k1 k2 k3
          have n1 : ((arcF l j).f0.toNat : Int) = (arcF l j).f0 := by omega
          have n2 : ((arcF l j).f1.toNat : Int) = (arcF l j).f1 := by omega
          have q0 : wv2.cell? ⟨gb, (arcF l j).f0.toNat, none⟩ = some (.bool (R (arcF l j).f0)) := by have := TV.cell (TV.below HT.out HB.out) (i := (arcF l j).f0.toNat) (by omega); simp only [n1] at this; exact this
          have q1 : wv2.cell? ⟨gb, (arcF l j).f1.toNat, none⟩ = some (.bool (R (arcF l j).f1)) := by have := TV.cell (TV.below HT.out HB.out) (i := (arcF l j).f1.toNat) (by omega); simp only [n2] at this; exact this
          have hw : IntKind.i64.wrap ((j : Int) + 1) = j + 1 := IntWalk.i64_in _ (by have := HOK.out.m1; omega)
          have hab := HA.out i (by have := HXL.out; omega)
          have hcb := HC.out (j + 1) (by omega)
          have HLT := Lib.hid hlt
          cases hr : R (arcF l j).f0 with
          | true =>
            rw [hr] at q0
            cases hr2 : R (arcF l j).f1 with
            | true =>
              rw [hr2] at q1
              have HN := Lib.hid (capOut_no (A := arcF l) (R := R) (i := j) (by rw [hr, hr2]; rfl))
              clear hab hcb hr hr2 hlt k2 k3 n1 n2 e5
              go_wp2_with fail
              go_roundg (l.length - (j + 1))
              case measure => have := HJ.out; have := HLT.out; omega
              case rel => exact ⟨j + 1, by go_num, by rw [HN.out], Lib.hid (by have := HJ.out; have := HLT.out; omega), HB⟩
            | false =>
              rw [hr2] at q1
              rw [capOut_yes hr hr2] at hcb
              have hw1 : IntKind.i64.wrap (ndS R xs i - capOut j (arcF l) R - (arcF l j).f2) = ndS R xs i - capOut j (arcF l) R - (arcF l j).f2 := IntWalk.i64_in _ (by have := HOK.out.n2; have := HOK.out.m1; omega)
              have HN := Lib.hid (capOut_yes (A := arcF l) (R := R) (i := j) hr hr2)
              clear hab hcb hr hr2 hlt k3 n1 n2 e5
              go_wp2_with fail
              go_roundg (l.length - (j + 1))
              case measure => have := HJ.out; have := HLT.out; omega
              case rel => exact ⟨j + 1, by go_num, by rw [HN.out]; congr 1; omega, Lib.hid (by have := HJ.out; have := HLT.out; omega), HB⟩
          | false =>
            rw [hr] at q0
            have HN := Lib.hid (capOut_no (A := arcF l) (R := R) (i := j) (by rw [hr]; rfl))
            clear hab hcb hr hlt k1 k2 k3 n1 n2 q1 e5
            go_wp2_with fail
            go_roundg (l.length - (j + 1))
            case measure => have := HJ.out; have := HLT.out; omega
            case rel => exact ⟨j + 1, by go_num, by rw [HN.out], Lib.hid (by have := HJ.out; have := HLT.out; omega), HB⟩
        · have hjm : j = l.length := by have := HJ.out; omega
          have hnl2 : ¬ (j : Int) < l.length := by omega
          have HE2 : Hid (excF i l.length (arcF l) (fun v => xs.getD v 0) R = ndS R xs i - capOut j (arcF l) R) := Lib.hid (by rw [hjm]; exact HE.out)
          clear hlt HJ hjm HE
          go_wp2_with fail
          go_ret
          exact ⟨congrArg (fun z => Ending.returned (.int .i64 z)) HE2.out.symm, HB.out⟩
end Go.Proofs.Ytpbndcmmclkdpaa
