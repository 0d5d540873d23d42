/-
  The walks of carried, Balance and Potentials.
  The reference's amounts, balance and steps.
  The reference's steps and potentials.
  The reference's potentials.
  What the reference's Cost answers, and what Solve finds, told shortly (for FlowSolves and the Fill statements).
-/
import Derived.Test.YtcobihdjcdefmaaZFQf
namespace Go.Proofs.Ytcobihdjcdefmaa
open PAccountsCompress
open Go.RowKit Go.Proofs.YtcobihdjcdefmaaW.PrintWords
abbrev xsF (xs : List Int) : Nat → Int := fun i => xs.getD i 0
theorem amtE_ok {n : Int} {l : List Ar} {xs : List Int} (h : amtE n l xs = 0) : netE n l = 0 ∧ xs.length = l.length ∧ Valid l.length (arcF l) (xsF xs) := by
  unfold amtE at h
  by_cases h1 : netE n l = 0
  · rw [if_neg (fun g => g h1)] at h
    by_cases h2 : xs.length = l.length
    · rw [if_neg (fun g => g h2)] at h
      cases h3 : (List.range l.length).any (amtB l xs) with
      | true => rw [h3, if_pos rfl] at h; exact absurd h (by decide)
      | false =>
        refine ⟨h1, h2, fun i hi => ?_⟩
        rw [List.any_eq_false] at h3
        have := h3 i (List.mem_range.2 hi)
        unfold amtB at this
        rw [decide_eq_true_eq] at this
        show 0 ≤ xs.getD i 0 ∧ xs.getD i 0 ≤ (arcF l i).f2
        omega
    · rw [if_pos h2] at h; exact absurd h (by decide)
  · rw [if_pos h1] at h; exact absurd h h1
theorem amtE_of {n : Int} {l : List Ar} {xs : List Int} (h1 : netE n l = 0) (h2 : xs.length = l.length) (h3 : Valid l.length (arcF l) (xsF xs)) : amtE n l xs = 0 := by
  unfold amtE
  rw [if_neg (fun g => g h1), if_neg (fun g => g h2), if_neg]
  intro h
  rw [List.any_eq_true] at h
  obtain ⟨i, hi, hb⟩ := h
  have hi := List.mem_range.1 hi
  have hv := h3 i hi
  have hv : 0 ≤ xs.getD i 0 ∧ xs.getD i 0 ≤ (arcF l i).f2 := hv
  have hb : xs.getD i 0 < 0 ∨ xs.getD i 0 > (arcF l i).f2 := of_decide_eq_true hb
  omega
def BalPost (n : Int) (l : List Ar) (xs : List Int) (w : World) (e : Ending) (w' : World) : Prop :=
  ((amtE n l xs ≠ 0 ∧ e = .returned (.tuple #[.slice none 0 0, .int .i64 (amtE n l xs)])) ∨
   (amtE n l xs = 0 ∧ ∃ b, e = .returned (.tuple #[.slice (some ⟨b, 0, none⟩) n.toNat n.toNat, .int .i64 0]) ∧ TI w' b n.toNat (fun v => balF l.length (arcF l) (xsF xs) v))) ∧ Below w.heap.size w w'
end Go.Proofs.Ytcobihdjcdefmaa
namespace Go.Proofs.Ytcobihdjcdefmaa
open PAccountsCompress
open Go.RowKit Go.Proofs.YtcobihdjcdefmaaW.PrintWords
theorem arcF_at {l : List Ar} {i : Nat} {a : Ar} (h : l[i]? = some a) : arcF l i = a := by unfold arcF; rw [List.getD_eq_getElem?_getD, h]; rfl
theorem ramt_l0 (l : List Ar) (xs : List Int) (hxl : xs.length = l.length) (hl : l.length ≤ 1000) : ∀ (r i k : Nat), i + r = l.length → r + 1 ≤ k → merinoref05_Amounts.l0 k l xs (i : Int) = some (if ((List.range l.length).drop i).any (amtB l xs) then 2 else 0)
  | 0, i, k + 1, hi, _ => by
    unfold merinoref05_Amounts.l0
    rw [if_neg (by omega), List.drop_eq_nil_of_le (by rw [List.length_range]; omega)]
    rfl
  | r + 1, i, k + 1, hi, hk => by
    obtain ⟨a, ha⟩ : ∃ a, l[i]? = some a := ⟨_, List.getElem?_eq_getElem (by omega)⟩
    obtain ⟨x, hx⟩ : ∃ x, xs[i]? = some x := ⟨_, List.getElem?_eq_getElem (by omega)⟩
    have hr : (List.range l.length)[i]? = some i := List.getElem?_range (by omega)
    unfold merinoref05_Amounts.l0
    rw [if_pos (by omega), if_pos (by omega), if_pos (by omega), rd44 ha, rdI hx, drop_any hr, wr64 (by omega)]
    have ih := ramt_l0 l xs hxl hl r (i + 1) k (by omega) (by omega)
    rw [show ((i + 1 : Nat) : Int) = (i : Int) + 1 by omega] at ih
    have e : amtB l xs i = decide (x < 0 ∨ x > a.f2) := by unfold amtB; rw [getD_of hx, arcF_at ha]
    rw [e, ih]
    by_cases h1 : x < 0
    · rw [if_pos h1, decide_eq_true (.inl h1), Bool.true_or]; rfl
    · rw [if_neg h1]
      by_cases h2 : x > a.f2
      · rw [if_pos h2, decide_eq_true (.inr h2), Bool.true_or]; rfl
      · rw [if_neg h2, decide_eq_false (by omega), Bool.false_or]
theorem ramt_f (n : Int) (l : List Ar) (xs : List Int) {K : Nat} (hK : 300 ≤ K) : merinoref05_Amounts.f K n l xs = some (amtE n l xs) := by
  unfold merinoref05_Amounts.f amtE
  rw [rnet_f n l hK, Option.bind_some]
  by_cases h : netE n l = 0
  · obtain ⟨_, _, h3, _⟩ := netE_range h
    rw [if_pos h, if_neg (show ¬ (netE n l ≠ 0) from fun g => g h)]
    by_cases h5 : xs.length = l.length
    · rw [if_pos (by omega), if_neg (show ¬ (xs.length ≠ l.length) from fun g => g h5)]
      have := ramt_l0 l xs h5 (by omega) l.length 0 K (by omega) (by omega)
      rw [List.drop_zero] at this
      exact this
    · rw [if_neg (by omega), if_pos h5]
  · rw [if_neg h, if_pos h]
theorem ramt_any (w : World) (n : Int) (A1 : Option Addr) (c1 : Nat) (l : List Ar) (h1 : Kd.C k69 w A1 l.length l) (hc1 : l.length ≤ c1) (A2 : Option Addr) (c2 : Nat) (xs : List Int) (h2 : Kd.C (Kd.int .i64) w A2 xs.length xs) (hc2 : xs.length ≤ c2) :
    Calls Try.prog 66 #[.int .i64 n, .slice A1 l.length c1, .slice A2 xs.length c2] w fun e w' => e = .returned (.int .i64 (amtE n l xs)) ∧ Below w.heap.size w w' :=
  merinoref05_Amounts.calls 300 n A1 c1 l A2 c2 xs _ w h1 hc1 h2 hc2 (ramt_f n l xs (Nat.le_refl _))
set_option maxRecDepth 100000 in
set_option maxHeartbeats 8000000 in
theorem rbal_any (w : World) (n : Int) (A1 : Option Addr) (c1 : Nat) (l : List Ar) (h1 : Kd.C k69 w A1 l.length l) (hc1 : l.length ≤ c1) (A2 : Option Addr) (c2 : Nat) (xs : List Int) (h2 : Kd.C (Kd.int .i64) w A2 xs.length xs) (hc2 : xs.length ≤ c2) :
    Calls Try.prog 40 #[.int .i64 n, .slice A1 l.length c1, .slice A2 xs.length c2] w (BalPost n l xs w) := by
  have HC := Lib.hid (ramt_any w n A1 c1 l h1 hc1 A2 c2 xs h2 hc2)
  have H1 := Lib.hid h1
  have H2 := Lib.hid h2
  clear h1 h2
  go_enter Try.func40, Try.ntmps40
  go_wp2_with fail
  refine HC.out.mono ?_
  rintro e w1 ⟨rfl, hb1⟩
  have HB1 := Lib.hid hb1
  clear HC hb1
  by_cases h0 : amtE n l xs = 0
  · obtain ⟨g1, g2, g3⟩ := amtE_ok h0
    obtain ⟨k1, k2, k3, _⟩ := netE_range g1
    have hok := netE_ok g1
    obtain ⟨N, rfl⟩ : ∃ N : Nat, n = N := ⟨n.toNat, by omega⟩
    rw [Int.toNat_natCast] at hok
    rw [h0]
    have H0 := Lib.hid h0
    have HOK := Lib.hid hok
    have HX : Hid (∀ i, i < l.length → 0 ≤ xsF xs i ∧ xsF xs i ≤ 1099511627776) := Lib.hid (fun i hi => ⟨(g3 i hi).1, Int.le_trans (g3 i hi).2 (hok.cap i hi).2⟩)
    have HLE := Lib.hid g2
    have hmk := make_int w1 (n := N) (by omega)
    have hB3 := below_am HB1.out (.cells (madeCells #[.int .i64 0] N) 3 (0, 0))
    have hT1 : TI (w1.alloc (.cells (madeCells #[.int .i64 0] N) 3 (0, 0))) w1.heap.size N (fun v => balF 0 (arcF l) (xsF xs) v) := (TV.made w1 (.int .i64 0) 3 N).congr fun i _ => rfl
    have HT := Lib.hid hT1
    have HB := Lib.hid hB3
    clear h0 g1 g2 g3 k1 k2 k3 hok hB3 hT1
    go_wp2_with fail
    generalize w1.alloc (.cells (madeCells #[.int .i64 0] N) 3 (0, 0)) = w2 at *
    have HG1 : Hid (w.heap.size ≤ w1.heap.size) := Lib.hid HB1.out.size
    generalize w1.heap.size = gb at *
    go_loopg [10] l.length (fun k v10 wr => ∃ i : Nat, v10 = .int .i64 i ∧ Hid (i + k = l.length) ∧ Hid (TI wr gb N (fun v => balF i (arcF l) (xsF xs) v)) ∧ Hid (Below w.heap.size w wr))
    case atStart => exact ⟨0, rfl, Lib.hid (by omega), HT, HB⟩
    case round =>
      clear HT HB hmk
      obtain ⟨i, rfl, HI, HT, HB⟩ := hrel
      obtain ⟨wv, rfl⟩ : ∃ wv : World, wv = wr := ⟨_, rfl⟩
      by_cases hlt : i < l.length
      · have hi0 : (i : Int) < l.length := by omega
        have hix : (i : Int) < xs.length := by have := HLE.out; omega
        have hiz : (0 : Int) ≤ i := by omega
        obtain ⟨e1, e2, e3, e4, e5⟩ := HOK.out.net i hlt
        have hxi := HX.out i hlt
        have b1 := balF_abs (A := arcF l) HX.out (arcF l i).f0 i (by omega)
        have b2 := balF_abs (A := arcF l) HX.out (arcF l i).f1 i (by omega)
        have hmm := HOK.out.m1
        have n1 : ((arcF l i).f0.toNat : Int) = (arcF l i).f0 := by omega
        have n2 : ((arcF l i).f1.toNat : Int) = (arcF l i).f1 := by omega
        have hw : IntKind.i64.wrap ((i : Int) + 1) = i + 1 := IntWalk.i64_in _ (by omega)
        have hw1 : IntKind.i64.wrap (balF i (arcF l) (xsF xs) (arcF l i).f0 + xs.getD i 0) = balF i (arcF l) (xsF xs) (arcF l i).f0 + xs.getD i 0 := IntWalk.i64_in _ (by have : xsF xs i = xs.getD i 0 := rfl; omega)
        have hw2 : IntKind.i64.wrap (balF i (arcF l) (xsF xs) (arcF l i).f1 - xs.getD i 0) = balF i (arcF l) (xsF xs) (arcF l i).f1 - xs.getD i 0 := IntWalk.i64_in _ (by have : xsF xs i = xs.getD i 0 := rfl; omega)
        have HS := Lib.hid (balF_step (x := xsF xs) (i := i) e1 e3 e5)
        rw [n1, n2] at HS
        have g1 : (arcF l i).f0.toNat < N := by omega
        have g2 : (arcF l i).f1.toNat < N := by omega
        have HNE := Lib.hid (show (arcF l i).f1.toNat ≠ (arcF l i).f0.toNat by omega)
        have HG2 := Lib.hid (And.intro g1 g2)
        have HLT := Lib.hid hlt
        obtain ⟨ad, rfl, k0, k1, k2, k3⟩ := arcs_of (Kd.C_below H1.out HB.out) (i : Int) (by omega) hi0
        obtain ⟨bd, rfl, q⟩ := Kd.at_int (Kd.C_below H2.out HB.out) (i : Int) (by omega) hix
        have ex : rd xs (i : Int) = xs.getD i 0 := by unfold rd; rw [Int.toNat_natCast]
        rw [ex, Int.toNat_natCast] at q
        rw [Int.toNat_natCast] at k0 k1 k2 k3
        have q0 : wv.cell? ⟨gb, (arcF l i).f0.toNat, none⟩ = some (.int .i64 (balF i (arcF l) (xsF xs) (arcF l i).f0)) := by have := TV.cell HT.out g1; simp only [n1] at this; exact this
        have q1 := TV.free HT.out (arcF l i).f0.toNat
        have HXI : Hid (xsF xs i = xs.getD i 0) := Lib.hid rfl
        clear b1 b2 hmm hxi e5 ex hlt k2 k3
        generalize xs.getD i 0 = xi at *
        go_upto_region 8 with (fail)
        go_cut [] (fun wx => wx = (wv.setCell ⟨gb, (arcF l i).f0.toNat, none⟩ (.int .i64 (balF i (arcF l) (xsF xs) (arcF l i).f0 + xi))).drew)
        case first =>
          refine calm ?_
          go_region_law (first | fail)
          all_goals
            simp only [Calm]
            go_wp2_with fail
            go_meet
            rfl
        case rest =>
          have hT5 : TI ((wv.setCell ⟨gb, (arcF l i).f0.toNat, none⟩ (.int .i64 (balF i (arcF l) (xsF xs) (arcF l i).f0 + xi))).drew) gb N (setN (fun v : Nat => balF i (arcF l) (xsF xs) v) (arcF l i).f0.toNat (balF i (arcF l) (xsF xs) (arcF l i).f0 + xi)) := (TI.set HT.out (arcF l i).f0.toNat (balF i (arcF l) (xsF xs) (arcF l i).f0 + xi)).fr (F := fun _ => False) ((Fr.refl _ _).drew) (fun a => a)
          have hF5 : Fr (fun k => k = gb) wv ((wv.setCell ⟨gb, (arcF l i).f0.toNat, none⟩ (.int .i64 (balF i (arcF l) (xsF xs) (arcF l i).f0 + xi))).drew) := ((Fr.refl (fun k => k = gb) wv).setCell (p := ⟨gb, (arcF l i).f0.toNat, none⟩) (.inl rfl) _).drew
          have hwc := hcut
          generalize (wv.setCell ⟨gb, (arcF l i).f0.toNat, none⟩ (.int .i64 (balF i (arcF l) (xsF xs) (arcF l i).f0 + xi))).drew = w5 at *
          subst hwc
          have hB5 : Below w.heap.size w wc := ((Fr.of_below HB.out (fun k => k = gb)).trans hF5 (fun _ h => .inl h)).to_below (Nat.le_refl _) (fun _ h => by subst h; exact HG1.out)
          obtain ⟨ad2, e2', k0, k1, _⟩ := arcs_of (Kd.C_below H1.out hB5) (i : Int) (by omega) hi0
          obtain rfl := Option.some.inj e2'
          obtain ⟨bd2, e3', q⟩ := Kd.at_int (Kd.C_below H2.out hB5) (i : Int) (by omega) hix
          obtain rfl := Option.some.inj e3'
          have ex : rd xs (i : Int) = xi := HXI.out
          rw [ex, Int.toNat_natCast] at q
          rw [Int.toNat_natCast] at k0 k1
          have q0 : wc.cell? ⟨gb, (arcF l i).f1.toNat, none⟩ = some (.int .i64 (balF i (arcF l) (xsF xs) (arcF l i).f1)) := by
            have := TV.cell hT5 HG2.out.2
            simp only [setN, if_neg HNE.out, n2] at this
            exact this
          have q1 := TV.free hT5 (arcF l i).f1.toNat
          have hT6 := TI.set hT5 (arcF l i).f1.toNat (balF i (arcF l) (xsF xs) (arcF l i).f1 - xi)
          have HT6 : Hid (TI ((wc.setCell ⟨gb, (arcF l i).f1.toNat, none⟩ (.int .i64 (balF i (arcF l) (xsF xs) (arcF l i).f1 - xi))).drew) gb N (fun v => balF (i + 1) (arcF l) (xsF xs) v)) := Lib.hid (by
            have e := HS.out
            rw [HXI.out] at e
            rw [e]
            exact hT6.fr (F := fun _ => False) ((Fr.refl _ _).drew) (fun a => a))
          have HB6 : Hid (Below w.heap.size w ((wc.setCell ⟨gb, (arcF l i).f1.toNat, none⟩ (.int .i64 (balF i (arcF l) (xsF xs) (arcF l i).f1 - xi))).drew)) := Lib.hid ((((Fr.of_below hB5 (fun k => k = gb)).setCell (p := ⟨gb, (arcF l i).f1.toNat, none⟩) (.inl rfl) _).drew).to_below (Nat.le_refl _) (fun _ h => by subst h; exact HG1.out))
          clear hT5 hT6 hF5 hB5 ex e2' e3'
          go_upto_region 9 with (fail)
          refine calm ?_
          go_region_law (first | fail)
          all_goals
            simp only [Calm]
            go_wp2_with fail
            go_roundg (l.length - (i + 1))
            case measure => have := HI.out; have := HLT.out; omega
            case rel => exact ⟨i + 1, by go_num, Lib.hid (by have := HI.out; have := HLT.out; omega), HT6, HB6⟩
      · have HE : Hid (i = l.length) := Lib.hid (by have := HI.out; omega)
        have hnl : ¬ (i : Int) < l.length := by omega
        clear hlt
        go_wp2_with fail
        go_ret2
        exact ⟨.inr ⟨H0.out, gb, by rw [Int.toNat_natCast]; rfl, by rw [Int.toNat_natCast]; have := HT.out; rw [HE.out] at this; exact this⟩, HB.out⟩
  · have e1 : (amtE n l xs != 0) = true := by simp [h0]
    have HAE0 := Lib.hid h0
    clear h0
    generalize hae : amtE n l xs = ae at *
    have HAE := Lib.hid hae
    clear hae
    go_wp2_with fail
    go_ret2
    exact ⟨.inl ⟨by rw [HAE.out]; exact HAE0.out, by rw [HAE.out]; rfl⟩, HB1.out⟩
end Go.Proofs.Ytcobihdjcdefmaa
namespace Go.Proofs.Ytcobihdjcdefmaa
open PAccountsCompress
open Go.RowKit Go.Proofs.YtcobihdjcdefmaaW.PrintWords
/-- A step as the reference has it. -/
def toR (A : Nat → Ar) (s : Stp) : S123 := ⟨frm A s, tow A s, cst A s, s.f0, !s.f1⟩
theorem stepsR_next (A : Nat → Ar) (x : Nat → Int) (i : Nat) : (stepsF A x (i + 1)).map (toR A) = ((stepsF A x i).map (toR A) ++ (if x i < (A i).f2 then [⟨(A i).f0, (A i).f1, (A i).f3, i, true⟩] else [])) ++ (if 0 < x i then [⟨(A i).f1, (A i).f0, -(A i).f3, i, false⟩] else []) := by
  have e1 : spr A x ⟨i, false⟩ = (A i).f2 - x i := by show (A ((i : Int)).toNat).f2 - x ((i : Int)).toNat = _; rw [Int.toNat_natCast]
  have e2 : spr A x ⟨i, true⟩ = x i := by show x ((i : Int)).toNat = _; rw [Int.toNat_natCast]
  have e3 : toR A ⟨i, false⟩ = ⟨(A i).f0, (A i).f1, (A i).f3, i, true⟩ := by
    show (⟨(A ((i : Int)).toNat).f0, (A ((i : Int)).toNat).f1, (A ((i : Int)).toNat).f3, i, true⟩ : S123) = _
    rw [Int.toNat_natCast]
  have e4 : toR A ⟨i, true⟩ = ⟨(A i).f1, (A i).f0, -(A i).f3, i, false⟩ := by
    show (⟨(A ((i : Int)).toNat).f1, (A ((i : Int)).toNat).f0, -(A ((i : Int)).toNat).f3, i, false⟩ : S123) = _
    rw [Int.toNat_natCast]
  show ((stepsF A x i) ++ ((if 0 < spr A x ⟨i, false⟩ then [(⟨i, false⟩ : Stp)] else []) ++ (if 0 < spr A x ⟨i, true⟩ then [(⟨i, true⟩ : Stp)] else []))).map (toR A) = _
  rw [e1, e2, List.map_append, List.map_append, List.append_assoc]
  congr 1
  congr 1
  · by_cases h : x i < (A i).f2
    · rw [if_pos h, if_pos (by omega), List.map_cons, e3, List.map_nil]
    · rw [if_neg h, if_neg (by omega)]; rfl
  · by_cases h : 0 < x i
    · rw [if_pos h, if_pos h, List.map_cons, e4, List.map_nil]
    · rw [if_neg h, if_neg h]; rfl
def RStepsPost (l : List Ar) (xs : List Int) (w : World) (e : Ending) (w' : World) : Prop :=
  (∃ v, e = .returned v ∧ Kd.R k123 123 w' w.heap.size (fun _ => True) v ((stepsF (arcF l) (xsF xs) l.length).map (toR (arcF l)))) ∧ Below w.heap.size w w'
set_option maxRecDepth 100000 in
set_option maxHeartbeats 8000000 in
theorem rsteps_any (w : World) (A1 : Option Addr) (c1 : Nat) (l : List Ar) (h1 : Kd.C k69 w A1 l.length l) (A2 : Option Addr) (c2 : Nat) (xs : List Int) (h2 : Kd.C (Kd.int .i64) w A2 xs.length xs) (hxl : l.length ≤ xs.length) {n : Nat} (hok : NetOk n l.length (arcF l)) :
    Calls Try.prog 67 #[.slice A1 l.length c1, .slice A2 xs.length c2] w (RStepsPost l xs w) := by
  have H1 := Lib.hid h1
  have H2 := Lib.hid h2
  have HLE := Lib.hid hxl
  have HOK := Lib.hid hok
  clear h1 h2 hxl hok
  go_enter Try.func67, Try.ntmps67
  go_wp2_with fail
  go_loopg [5, 6, 7] l.length (fun k v5 v6 v7 wr => ∃ i : Nat, v6 = .int .i64 i ∧ Hid (i + k = l.length) ∧ Hid (Kd.R k123 123 wr w.heap.size (fun b => w.heap.size ≤ b) v5 ((stepsF (arcF l) (xsF xs) i).map (toR (arcF l)))) ∧ Hid (Below w.heap.size w wr))
  case atStart => exact ⟨0, rfl, Lib.hid (by omega), Lib.hid (Kd.R_nil _ _ _ _ _), Lib.hid (Below.refl _ _)⟩
  case round =>
    obtain ⟨i, rfl, HI, HR, HB⟩ := hrel
    obtain ⟨wv, rfl⟩ : ∃ wv : World, wv = wr := ⟨_, rfl⟩
    by_cases hlt : i < l.length
    · have hi0 : (i : Int) < l.length := by omega
      have hix : (i : Int) < xs.length := by have := HLE.out; omega
      have hiz : (0 : Int) ≤ i := by omega
      obtain ⟨ad, rfl, k0, k1, k2, k3⟩ := arcs_of (Kd.C_below H1.out HB.out) (i : Int) (by omega) hi0
      rw [Int.toNat_natCast] at k0 k1 k2 k3
      have hw : IntKind.i64.wrap ((i : Int) + 1) = i + 1 := IntWalk.i64_in _ (by have := HOK.out.m1; omega)
      have hal := below_alloc (Below.refl wv.heap.size wv) (.cells #[.int .i64 (arcF l i).f0, .int .i64 (arcF l i).f1, .int .i64 (arcF l i).f2, .int .i64 (arcF l i).f3] 69 (0, 0))
      have hA4 := Blk.new wv #[.int .i64 (arcF l i).f0, .int .i64 (arcF l i).f1, .int .i64 (arcF l i).f2, .int .i64 (arcF l i).f3] 69
      have HLT := Lib.hid hlt
      have HNX := Lib.hid (stepsR_next (arcF l) (xsF xs) i)
      have HLEN : Hid ((stepsF (arcF l) (xsF xs) i).length ≤ 256) := Lib.hid (by have := stepsF_len (arcF l) (xsF xs) i; have := HOK.out.m1; omega)
      have hcc := HOK.out.cost i hlt
      have hwn : IntKind.i64.wrap (-(arcF l i).f3) = -(arcF l i).f3 := IntWalk.i64_in _ (by omega)
      clear hlt hcc
      go_upto_region 6 with (fail)
      generalize wv.alloc (.cells #[.int .i64 (arcF l i).f0, .int .i64 (arcF l i).f1, .int .i64 (arcF l i).f2, .int .i64 (arcF l i).f3] 69 (0, 0)) = w3 at *
      have b2 := Blk.cell hA4 2 (v := .int .i64 (arcF l i).f2) rfl
      have hB3 := below_u HB.out hal
      obtain ⟨bd, rfl, q0⟩ := Kd.at_int (Kd.C_below H2.out hB3) (i : Int) (by omega) hix
      have ex : rd xs (i : Int) = xs.getD i 0 := by unfold rd; rw [Int.toNat_natCast]
      rw [ex, Int.toNat_natCast] at q0
      have HXI : Hid (xsF xs i = xs.getD i 0) := Lib.hid rfl
      have HB3 := Lib.hid hB3
      have HA4 := Lib.hid hA4
      have HR3 := Lib.hid (Kd.R_below HR.out hal)
      clear k0 k1 k2 k3 hal hA4 hB3 ex
      generalize xs.getD i 0 = xi at *
      have HOWN : Hid (∀ k, u5.ownBlock = some k → k < wv.heap.size) := Lib.hid (fun k hk => ((Kd.R_bound HR.out).1 k hk).2.2.1)
      generalize (stepsF (arcF l) (xsF xs) i) = L0 at *
      rw [HXI.out] at HNX
      generalize hc1 : decide (xi < (arcF l i).f2) = z1 at *
      generalize hc2 : decide (0 < xi) = z2 at *
      have HC1 := Lib.hid hc1
      have HC2 := Lib.hid hc2
      go_quiet (fail)
      have hbq : Below wv.heap.size wv (w3.drewN nq) → True := fun _ => trivial
      have hbn : Below w.heap.size w (w3.drewN nq) := by first | exact pw_below_drewN HB3.out _ | (apply pw_below_drewN; exact HB3.out)
      have hA5 := HA4.out.fr (F := fun _ => False) ((Fr.refl _ w3).drewN nq) (fun a => a)
      have hR5 : Kd.R k123 123 (w3.drewN nq) w.heap.size (fun b => w.heap.size ≤ b) u5 (L0.map (toR (arcF l))) := Kd.R_drewN HR3.out nq
      have hC2 := Kd.C_below H2.out hbn
      generalize w3.drewN nq = w4 at *
      have HB4 := Lib.hid hbn
      have HR4 := Lib.hid hR5
      have HA5 := Lib.hid hA5
      clear hbq hbn hA5 hR5 b2 q0 HB3 HR3 HA4 hC2
      go_upto_if 24 with fail
      go_cut [5] (fun s5 wx => Kd.R k123 123 wx w.heap.size (fun b => w.heap.size ≤ b) s5 (L0.map (toR (arcF l)) ++ (if xi < (arcF l i).f2 then [⟨(arcF l i).f0, (arcF l i).f1, (arcF l i).f3, i, true⟩] else [])) ∧ Blk wx wv.heap.size #[.int .i64 (arcF l i).f0, .int .i64 (arcF l i).f1, .int .i64 (arcF l i).f2, .int .i64 (arcF l i).f3] 69 ∧ Below w.heap.size w wx)
      case first =>
        cases z1 with
        | true =>
          have b0 := Blk.cell HA5.out 0 (v := .int .i64 (arcF l i).f0) rfl
          have b1 := Blk.cell HA5.out 1 (v := .int .i64 (arcF l i).f1) rfl
          have b3 := Blk.cell HA5.out 3 (v := .int .i64 (arcF l i).f3) rfl
          go_wp2_with (at_builtin; refine Kd.R_append k123 (w0 := w) w.heap.size rfl _ _ 118 123 (.agg #[.int .i64 0, .int .i64 0, .int .i64 0, .int .i64 0, .bool false]) 40 rfl Try.underlying118 info123 rfl (by decide) (by omega) u5 (L0.map (toR (arcF l))) ⟨(arcF l i).f0, (arcF l i).f1, (arcF l i).f3, i, true⟩ [.int .i64 (arcF l i).f0, .int .i64 (arcF l i).f1, .int .i64 (arcF l i).f3, .int .i64 i, .bool true] (fun b => w.heap.size ≤ b) (fun _ => False) rfl rfl (k123_mkM _ _ _ ⟨(arcF l i).f0, (arcF l i).f1, (arcF l i).f3, i, true⟩) (fun _ hk => hk.elim) (fun b hb => Nat.le_trans HB4.out.size hb) HR4.out HB4.out HB4.out.size (by rw [List.length_map]; have := HLEN.out; omega) ?_; intro v7 w7 hR7 hb7 hg7 hat7)
          have HR7 := Lib.hid hR7
          have HB7 := Lib.hid hb7
          have HA7 := Lib.hid (HA5.out.fr ((Fr.refl (fun k => some k = u5.ownBlock) w4).grown hg7 (fun k hk => .inl hk.symm)) (fun h => by have := HOWN.out _ h.symm; omega))
          clear hR7 hb7 hg7 hat7
          go_wp2_with fail
          go_meet
          exact ⟨by rw [if_pos (of_decide_eq_true HC1.out)]; exact HR7.out, HA7.out, HB7.out⟩
        | false =>
          go_wp2_with fail
          go_meet
          exact ⟨by rw [if_neg (of_decide_eq_false HC1.out), List.append_nil]; exact HR4.out, HA5.out, HB4.out⟩
      case rest =>
        obtain ⟨hR5, hA5, hB5⟩ := hcut
        obtain ⟨w5, rfl⟩ : ∃ w5 : World, w5 = wc := ⟨_, rfl⟩
        obtain ⟨bd2, e2', q0⟩ := Kd.at_int (Kd.C_below H2.out hB5) (i : Int) (by omega) hix
        obtain rfl := Option.some.inj e2'
        have ex : rd xs (i : Int) = xi := HXI.out
        rw [ex, Int.toNat_natCast] at q0
        have HR5 := Lib.hid hR5
        have HB5 := Lib.hid hB5
        have b0 := Blk.cell hA5 0 (v := .int .i64 (arcF l i).f0) rfl
        have b1 := Blk.cell hA5 1 (v := .int .i64 (arcF l i).f1) rfl
        have b3 := Blk.cell hA5 3 (v := .int .i64 (arcF l i).f3) rfl
        have HLX : Hid ((L0.map (toR (arcF l)) ++ (if xi < (arcF l i).f2 then [(⟨(arcF l i).f0, (arcF l i).f1, (arcF l i).f3, (i : Int), true⟩ : S123)] else [])).length ≤ 257) := Lib.hid (by
          rw [List.length_append, List.length_map]
          have := HLEN.out
          split <;> simp <;> omega)
        clear hR5 hA5 hB5 ex e2' HR4 HB4 HA5
        generalize L0.map (toR (arcF l)) ++ (if xi < (arcF l i).f2 then [(⟨(arcF l i).f0, (arcF l i).f1, (arcF l i).f3, (i : Int), true⟩ : S123)] else []) = L1 at *
        cases z2 with
        | true =>
          go_wp2_with (at_builtin; refine Kd.R_append k123 (w0 := w) w.heap.size rfl _ _ 118 123 (.agg #[.int .i64 0, .int .i64 0, .int .i64 0, .int .i64 0, .bool false]) 40 rfl Try.underlying118 info123 rfl (by decide) (by omega) u5 L1 ⟨(arcF l i).f1, (arcF l i).f0, -(arcF l i).f3, i, false⟩ [.int .i64 (arcF l i).f1, .int .i64 (arcF l i).f0, .int .i64 (-(arcF l i).f3), .int .i64 i, .bool false] (fun b => w.heap.size ≤ b) (fun _ => False) rfl rfl (k123_mkM _ _ _ ⟨(arcF l i).f1, (arcF l i).f0, -(arcF l i).f3, i, false⟩) (fun _ hk => hk.elim) (fun b hb => Nat.le_trans HB5.out.size hb) HR5.out HB5.out HB5.out.size (by have := HLX.out; omega) ?_; intro v7 w7 hR7 hb7 hg7 hat7)
          have HR7 := Lib.hid hR7
          have HB7 := Lib.hid hb7
          clear hR7 hb7 hg7 hat7
          go_wp2_with fail
          go_roundg (l.length - (i + 1))
          case measure => have := HI.out; have := HLT.out; omega
          case rel => exact ⟨i + 1, by go_num, Lib.hid (by have := HI.out; have := HLT.out; omega), Lib.hid (by rw [HNX.out, if_pos (of_decide_eq_true HC2.out)]; exact HR7.out), HB7⟩
        | false =>
          go_wp2_with fail
          go_roundg (l.length - (i + 1))
          case measure => have := HI.out; have := HLT.out; omega
          case rel => exact ⟨i + 1, by go_num, Lib.hid (by have := HI.out; have := HLT.out; omega), Lib.hid (by rw [HNX.out, if_neg (of_decide_eq_false HC2.out), List.append_nil]; exact HR5.out), HB5⟩
    · have HE : Hid (i = l.length) := Lib.hid (by have := HI.out; omega)
      have hnl : ¬ (i : Int) < l.length := by omega
      clear hlt
      go_wp2_with fail
      go_ret
      exact ⟨⟨_, rfl, by have := HR.out; rw [HE.out] at this; exact Kd.R_mono this (fun _ _ => trivial)⟩, HB.out⟩
end Go.Proofs.Ytcobihdjcdefmaa
namespace Go.Proofs.Ytcobihdjcdefmaa
open PAccountsCompress
open Go.RowKit Go.Proofs.YtcobihdjcdefmaaW.PrintWords
theorem rstp_at {w : World} {A : Nat → Ar} {all : List Stp} {AS : Option Addr} (h : Kd.C k123 w AS all.length (all.map (toR A))) {t : Nat} {s : Stp} (hs : all[t]? = some s) :
    ∃ ad, AS = some ad ∧ w.cell? (ad.add (t * 5)) = some (.int .i64 (frm A s)) ∧ w.cell? ⟨(ad.add (t * 5)).block, (ad.add (t * 5)).off + 1, none⟩ = some (.int .i64 (tow A s)) ∧ w.cell? ⟨(ad.add (t * 5)).block, (ad.add (t * 5)).off + 2, none⟩ = some (.int .i64 (cst A s)) ∧
      w.cell? ⟨(ad.add (t * 5)).block, (ad.add (t * 5)).off + 3, none⟩ = some (.int .i64 s.f0) ∧ w.cell? ⟨(ad.add (t * 5)).block, (ad.add (t * 5)).off + 4, none⟩ = some (.bool (!s.f1)) := by
  have hlt := (List.getElem?_eq_some_iff.1 hs).1
  obtain ⟨ad, e, k0, k1, k2, k3, k4⟩ := at_T123 h (t : Int) (by omega) (by omega)
  have es : rd_T123 (all.map (toR A)) (t : Int) = toR A s := by
    unfold rd_T123
    rw [Int.toNat_natCast, List.getD_eq_getElem?_getD, List.getElem?_map, hs]; rfl
  rw [es, Int.toNat_natCast] at k0 k1 k2 k3 k4
  exact ⟨ad, e, k0, k1, k2, k3, k4⟩
set_option maxRecDepth 100000 in
set_option maxHeartbeats 8000000 in
theorem rpot_any (w : World) {n : Nat} {A : Nat → Ar} {all : List Stp} (AS : Option Addr) (cS : Nat) (hC : Kd.C k123 w AS all.length (all.map (toR A))) (hS : StpsOk n A 32768 all) (hn1 : 1 ≤ n) (hn2 : n ≤ 32) (hlen : all.length ≤ 256) :
    Calls Try.prog 68 #[.int .i64 n, .slice AS all.length cS] w fun e w' => PotPost n A all w e w' ∧ Below w.heap.size w w' := by
  have hmk := make_int w (n := n) (by omega)
  have hB1 := below_alloc (Below.refl w.heap.size w) (.cells (madeCells #[.int .i64 0] n) 3 (0, 0))
  have HT2 : Hid (TI (w.alloc (.cells (madeCells #[.int .i64 0] n) 3 (0, 0))) w.heap.size n (fun v => swpPs A all 0 v)) := Lib.hid (TV.made w (.int .i64 0) 3 n)
  have HCS : Hid (∀ W, Fr (fun b => b = w.heap.size) w W → Kd.C k123 W AS all.length (all.map (toR A))) := Lib.hid (fun W hW => by
    refine Kd.C_below hC (hW.to_below (Nat.le_refl _) (fun b hb => by omega)))
  have HSt := Lib.hid hS
  have HN2 := Lib.hid hn2
  have HLEN := Lib.hid hlen
  have HPB : Hid (PB n (swpPs A all 0) 0) := Lib.hid (PB.zero n)
  have HF0 : Hid (Fr (fun b => b = w.heap.size) w (w.alloc (.cells (madeCells #[.int .i64 0] n) 3 (0, 0)))) := Lib.hid ((Fr.refl _ w).alloc _)
  clear hC hS hn1 hn2 hlen hB1
  go_enter Try.func68, Try.ntmps68
  go_wp2_with fail
  generalize w.alloc (.cells (madeCells #[.int .i64 0] n) 3 (0, 0)) = w2 at *
  go_loopg [7, 8, 9] (n + 1) (fun k v7 v8 v9 wq => ∃ j : Nat, v7 = .int .i64 j ∧ Hid (j + k = n + 1) ∧ Hid (∀ i, i < j → ¬ FeasL A all (swpPs A all i)) ∧ Hid (PB n (swpPs A all j) (j * all.length)) ∧ Hid (TI wq w.heap.size n (fun v => swpPs A all j v)) ∧ Hid (Fr (fun b => b = w.heap.size) w wq))
  case atStart => exact ⟨0, rfl, Lib.hid (by omega), Lib.hid (fun i hi => absurd hi (Nat.not_lt_zero _)), Lib.hid (by rw [Nat.zero_mul]; exact HPB.out), HT2, HF0⟩
  case round =>
    clear HT2 HPB HF0 hmk
    obtain ⟨j, rfl, HJ, HNO, HPJ, HTJ, HFJ⟩ := hrel
    by_cases hj : j ≤ n
    · have hj0 : (j : Int) ≤ n := by omega
      have hwj : IntKind.i64.wrap ((j : Int) + 1) = j + 1 := IntWalk.i64_in _ (by have := HN2.out; omega)
      have HJL := Lib.hid hj
      clear hj
      generalize hp : swpPs A all j = P0 at *
      have HP0 := Lib.hid hp
      clear hp
      go_wp2_with fail
      go_loopg [8, 9] all.length (fun k v8 v9 wv => ∃ t : Nat, v9 = .int .i64 t ∧ v8 = .bool (swpQ A P0 false (all.take t)).2 ∧ Hid (t + k = all.length) ∧ Hid (PB n (swpQ A P0 false (all.take t)).1 (j * all.length + t)) ∧ Hid (TI wv w.heap.size n (fun v => (swpQ A P0 false (all.take t)).1 v)) ∧ Hid (Fr (fun b => b = w.heap.size) w wv))
      case atStart => exact ⟨0, rfl, rfl, Lib.hid (by omega), HPJ, HTJ, HFJ⟩
      case round =>
        clear HTJ HFJ HPJ
        obtain ⟨t, rfl, rfl, HTK, HPT, HTT, HFT⟩ := hrel
        obtain ⟨wv, rfl⟩ : ∃ wv : World, wv = wr := ⟨_, rfl⟩
        by_cases hlt : t < all.length
        · obtain ⟨s, hs⟩ : ∃ s, all[t]? = some s := ⟨_, List.getElem?_eq_getElem hlt⟩
          have ht0 : (t : Int) < all.length := by omega
          have htz : (0 : Int) ≤ t := by omega
          obtain ⟨ad, rfl, k0, k1, k2, _, _⟩ := rstp_at (HCS.out wv HFT.out) hs
          have hm := List.mem_of_getElem? hs
          have hSW : swpQ A P0 false (all.take (t + 1)) = (relP A (swpQ A P0 false (all.take t)).1 s, (swpQ A P0 false (all.take t)).2 || hitP A (swpQ A P0 false (all.take t)).1 s) := by
            rw [← swpQ_snoc, List.take_succ_eq_append_getElem hlt, (List.getElem?_eq_some_iff.1 hs).2]
          have HNX := Lib.hid hSW
          have HM := Lib.hid hm
          have HSX := Lib.hid hs
          have hw : IntKind.i64.wrap ((t : Int) + 1) = t + 1 := IntWalk.i64_in _ (by have := HLEN.out; omega)
          clear hs hSW hm
          generalize (swpQ A P0 false (all.take t)).1 = Pt at *
          generalize (swpQ A P0 false (all.take t)).2 = bt at *
          obtain ⟨a1, a2, a3, a4, a5, a6, a7⟩ := HSt.out s HM.out
          have HA := Lib.hid (show (frm A s).toNat < n ∧ (tow A s).toNat < n ∧ ((frm A s).toNat : Int) = frm A s ∧ ((tow A s).toNat : Int) = tow A s by omega)
          have HLT2 := Lib.hid hlt
          have hbd := HPT.out _ a1 a2
          have hkk : j * all.length + t ≤ 33 * 256 + 256 := by
            have h1 := HLEN.out
            have h3 := HJL.out
            have h4 := HN2.out
            have h5 : j * all.length ≤ 33 * 256 := Nat.mul_le_mul (by omega) (by omega)
            omega
          have hw3 : IntKind.i64.wrap (Pt (frm A s) + cst A s) = Pt (frm A s) + cst A s := IntWalk.i64_in _ (by omega)
          have HPR := Lib.hid (HPT.out.rel HSt.out HM.out)
          have q0 : wv.cell? ⟨w.heap.size, (frm A s).toNat, none⟩ = some (.int .i64 (Pt (frm A s))) := by have := TV.cell HTT.out HA.out.1; simp only [HA.out.2.2.1] at this; exact this
          have q1 : wv.cell? ⟨w.heap.size, (tow A s).toNat, none⟩ = some (.int .i64 (Pt (tow A s))) := by have := TV.cell HTT.out HA.out.2.1; simp only [HA.out.2.2.2] at this; exact this
          have q2 := TV.free HTT.out (tow A s).toNat
          clear a5 a6 a7 hlt hbd hkk
          by_cases hh : Pt (frm A s) + cst A s < Pt (tow A s)
          · have e1 : decide (Pt (frm A s) + cst A s < Pt (tow A s)) = true := decide_eq_true hh
            have HNX2 : Hid (swpQ A P0 false (all.take (t + 1)) = (upd Pt (tow A s) (Pt (frm A s) + cst A s), true)) := Lib.hid (by
              have h1 : hitP A Pt s = true := decide_eq_true hh
              have h2 : relP A Pt s = upd Pt (tow A s) (Pt (frm A s) + cst A s) := if_pos hh
              rw [HNX.out, h1, h2, Bool.or_true])
            have HRE : Hid (relP A Pt s = upd Pt (tow A s) (Pt (frm A s) + cst A s)) := Lib.hid (if_pos hh)
            clear hh
            go_upto_region 9 with (fail)
            go_quiet (fail)
            have hf : Fr (fun _ => False) wv (wv.drewN nq) := (Fr.refl _ wv).drewN nq
            have hf2 := HFT.out.trans hf (fun _ h => h.elim)
            have hT4 := HTT.out.fr hf (fun a => a)
            generalize wv.drewN nq = w4 at *
            obtain ⟨ad2, e2', k0, k1, k2, _, _⟩ := rstp_at (HCS.out w4 hf2) HSX.out
            obtain rfl := Option.some.inj e2'
            have q0 : w4.cell? ⟨w.heap.size, (frm A s).toNat, none⟩ = some (.int .i64 (Pt (frm A s))) := by have := TV.cell hT4 HA.out.1; simp only [HA.out.2.2.1] at this; exact this
            have q1 : w4.cell? ⟨w.heap.size, (tow A s).toNat, none⟩ = some (.int .i64 (Pt (tow A s))) := by have := TV.cell hT4 HA.out.2.1; simp only [HA.out.2.2.2] at this; exact this
            have q2 := TV.free hT4 (tow A s).toNat
            have HF5 := Lib.hid ((hf2.setCell (p := ⟨w.heap.size, (tow A s).toNat, none⟩) (.inl rfl) (.int .i64 (Pt (frm A s) + cst A s))).drew)
            have HT6 : Hid (TI ((w4.setCell ⟨w.heap.size, (tow A s).toNat, none⟩ (.int .i64 (Pt (frm A s) + cst A s))).drew) w.heap.size n (fun v => upd Pt (tow A s) (Pt (frm A s) + cst A s) v)) := Lib.hid (((TI.set hT4 (tow A s).toNat (Pt (frm A s) + cst A s)).congr fun v hv => by
              simp only [setN, upd]
              have := HA.out.2.2.2
              by_cases e : v = (tow A s).toNat
              · rw [if_pos e, if_pos (show (v : Int) = tow A s by omega)]
              · rw [if_neg e, if_neg (show ¬ (v : Int) = tow A s by omega)]).fr (F := fun _ => False) ((Fr.refl _ _).drew) (fun a => a))
            clear hf hf2 hT4 e2'
            go_upto_region 10 with (fail)
            refine calm ?_
            go_region_law (first | fail)
            all_goals
              simp only [Calm]
              go_wp2_with fail
              go_roundg (all.length - (t + 1))
              case measure => have := HTK.out; have := HLT2.out; omega
              case rel => exact ⟨t + 1, by go_num, by rw [HNX2.out], Lib.hid (by have := HTK.out; have := HLT2.out; omega), Lib.hid (by rw [HNX2.out, ← HRE.out]; exact HPR.out), Lib.hid (by rw [HNX2.out]; exact HT6.out), HF5⟩
          · have e1 : decide (Pt (frm A s) + cst A s < Pt (tow A s)) = false := decide_eq_false hh
            have HRE : Hid (relP A Pt s = Pt) := Lib.hid (if_neg hh)
            have HNX2 : Hid (swpQ A P0 false (all.take (t + 1)) = (Pt, bt)) := Lib.hid (by
              have h1 : hitP A Pt s = false := decide_eq_false hh
              rw [HNX.out, h1, HRE.out, Bool.or_false])
            clear hh
            go_upto_region 9 with (fail)
            go_quiet (fail)
            go_wp2_with fail
            go_roundg (all.length - (t + 1))
            case measure => have := HTK.out; have := HLT2.out; omega
            case rel => exact ⟨t + 1, by go_num, by rw [HNX2.out], Lib.hid (by have := HTK.out; have := HLT2.out; omega), Lib.hid (by rw [HNX2.out, ← HRE.out]; exact HPR.out), Lib.hid (by rw [HNX2.out]; exact HTT.out.fr (F := fun _ => False) ((Fr.refl _ _).drewN _) (fun a => a)), Lib.hid (HFT.out.drewN _)⟩
        · have hE : all.take t = all := List.take_of_length_le (by omega)
          have ht : t = all.length := by have := HTK.out; omega
          have hnl : ¬ (t : Int) < all.length := by omega
          rw [hE] at HPT HTT ⊢
          have HX1 : Hid ((swpQ A P0 false all).1 = swpPs A all (j + 1)) := Lib.hid (by rw [swpQ_fst]; show swpP A all P0 = swpP A all (swpPs A all j); rw [HP0.out])
          have HX2 := Lib.hid (swpQ_false A all P0 false)
          have HTE := Lib.hid ht
          clear hE ht hlt
          cases hb : (swpQ A P0 false all).2 with
          | true =>
            have HNF : Hid (¬ FeasL A all P0) := Lib.hid (fun h => by
              have := HX2.out.2 ⟨rfl, h⟩
              rw [hb] at this; exact absurd this (by simp))
            clear hb
            go_wp2_with fail
            go_roundg (n + 1 - (j + 1))
            case measure => have := HJ.out; have := HJL.out; omega
            case rel =>
              refine ⟨j + 1, by go_num, Lib.hid (by have := HJL.out; omega), Lib.hid (fun i hi => ?_), Lib.hid ?_, Lib.hid (by rw [← HX1.out]; exact HTT.out), HFT⟩
              · rcases Nat.lt_or_ge i j with h | h
                · exact HNO.out i h
                · have e : i = j := by omega
                  rw [e, HP0.out]; exact HNF.out
              · rw [← HX1.out, Nat.add_mul, Nat.one_mul]
                have := HPT.out
                rw [HTE.out] at this
                exact this
          | false =>
            have HFE := Lib.hid (HX2.out.1 hb)
            have HXP : Hid ((swpQ A P0 false all).1 = P0) := Lib.hid (by rw [swpQ_fst]; exact swpP_fix HFE.out.2)
            clear hb
            go_wp2_with fail
            go_ret2
            exact ⟨.inl ⟨j, HJL.out, by rw [HP0.out]; exact HFE.out.2, fun i hi => HNO.out i hi, rfl, by rw [HP0.out, ← HXP.out]; exact HTT.out⟩, HFT.out.to_below (Nat.le_refl _) (fun _ h => by omega)⟩
    · have hnl : ¬ (j : Int) ≤ n := by omega
      have HNO2 : Hid (∀ i, i ≤ n → ¬ FeasL A all (swpPs A all i)) := Lib.hid (fun i hi => HNO.out i (by omega))
      clear hj
      go_wp2_with fail
      go_ret2
      exact ⟨.inr ⟨HNO2.out, rfl⟩, HFJ.out.to_below (Nat.le_refl _) (fun _ h => by omega)⟩
end Go.Proofs.Ytcobihdjcdefmaa
namespace Go.Proofs.Ytcobihdjcdefmaa
open PAccountsCompress
open Go.RowKit Go.Proofs.YtcobihdjcdefmaaW.PrintWords
theorem rsteps_C {w w' : World} {A : Nat → Ar} {L : List Stp} {v : Value} (hR : Kd.R k123 123 w' w.heap.size (fun _ => True) v (L.map (toR A))) : ∃ AS c, v = .slice AS L.length c ∧ Kd.C k123 w' AS L.length (L.map (toR A)) := by
  obtain ⟨AS, c, e, _, hC⟩ := Kd.R_reads hR
  rw [List.length_map] at e hC
  exact ⟨AS, c, e, hC⟩
def Refused (n : Int) (l : List Ar) (xs : List Int) (er : Int) : Prop := er ≠ 0 ∧ ((needE n l xs ≠ 0 ∧ er = needE n l xs) ∨ (needE n l xs = 0 ∧ er = 13 ∧ ∃ x, Carried n.toNat l.length (arcF l) (fun v => xs.getD v 0) false x))
/-- What Solve finds. -/
def Solved (n : Int) (l : List Ar) (xs : List Int) (x : Nat → Int) : Prop := needE n l xs = 0 ∧ Valid l.length (arcF l) x ∧ (∃ p, Feas l.length (arcF l) x p ∧ LexCert l.length (arcF l) x p) ∧ ∀ v : Nat, v < n.toNat → balF l.length (arcF l) x v = xs.getD v 0
def SolveTwo (n : Int) (l : List Ar) (xs : List Int) (w : World) (e : Ending) (w' : World) : Prop :=
  ((∃ er, e = .returned (.tuple #[.agg #[.slice none 0 0, .int .i64 0], .int .i64 er]) ∧ Refused n l xs er) ∨
   (∃ ga x, e = .returned (.tuple #[.agg #[.slice (some ⟨ga, 0, none⟩) l.length l.length, .int .i64 (costF l.length (arcF l) x)], .int .i64 0]) ∧ TI w' ga l.length x ∧ w.heap.size ≤ ga ∧ Solved n l xs x)) ∧ Below w.heap.size w w'
end Go.Proofs.Ytcobihdjcdefmaa
