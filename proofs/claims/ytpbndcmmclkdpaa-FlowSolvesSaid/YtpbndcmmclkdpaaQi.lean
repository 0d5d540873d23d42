/-
  The reference's amounts, balance and steps.
-/
import Derived.Test.YtpbndcmmclkdpaaQg
namespace Go.Proofs.Ytpbndcmmclkdpaa
open PFlowSolves
open Go.RowKit Go.Proofs.YtpbndcmmclkdpaaW.PrintWords
theorem arcF_at {l : List Ar} {i : Nat} {a : Ar} (h : l[i]? = some a) : arcF l i = a := by unfold arcF; rw [List.getD_eq_getElem?_getD, h]; rfl
theorem range_drop (n i : Nat) (f : Nat → Bool) : ((List.range n).drop i).any f = true ↔ ∃ j, i ≤ j ∧ j < n ∧ f j = true := by
  rw [List.any_eq_true]
  constructor
  · rintro ⟨j, hj, hf⟩
    obtain ⟨k, hk⟩ := List.getElem?_of_mem hj
    rw [List.getElem?_drop] at hk
    have h1 := (List.getElem?_eq_some_iff.1 hk).1
    have h2 := (List.getElem?_eq_some_iff.1 hk).2
    rw [List.getElem_range] at h2
    rw [List.length_range] at h1
    exact ⟨j, by omega, by omega, hf⟩
  · rintro ⟨j, h1, h2, hf⟩
    refine ⟨j, ?_, hf⟩
    refine List.mem_of_getElem? (i := j - i) ?_
    rw [List.getElem?_drop, List.getElem?_range (by omega)]
    congr 1
    omega
theorem ramt_l0 (l : List Ar) (xs : List Int) (hxl : xs.length = l.length) (hl : l.length ≤ 1000) : ∀ (r i k : Nat), i + r = l.length → r + 1 ≤ k → merinoref05_Amounts.l0 k l xs (i : Int) = some (if ((List.range l.length).drop i).any (amtB l xs) then 2 else 0)
  | 0, i, k + 1, hi, _ => by
    unfold merinoref05_Amounts.l0
    rw [if_neg (by omega), List.drop_eq_nil_of_le (by rw [List.length_range]; omega)]
    rfl
  | r + 1, i, k + 1, hi, hk => by
    obtain ⟨a, ha⟩ : ∃ a, l[i]? = some a := ⟨_, List.getElem?_eq_getElem (by omega)⟩
    obtain ⟨x, hx⟩ : ∃ x, xs[i]? = some x := ⟨_, List.getElem?_eq_getElem (by omega)⟩
    have hr : (List.range l.length)[i]? = some i := List.getElem?_range (by omega)
    unfold merinoref05_Amounts.l0
    rw [if_pos (by omega), if_pos (by omega), if_pos (by omega), rd44 ha, rdI hx, drop_any hr, wr64 (by omega)]
    have ih := ramt_l0 l xs hxl hl r (i + 1) k (by omega) (by omega)
    rw [show ((i + 1 : Nat) : Int) = (i : Int) + 1 by omega] at ih
    have e : amtB l xs i = decide (x < 0 ∨ x > a.f2) := by unfold amtB; rw [getD_of hx, arcF_at ha]
    rw [e, ih]
    by_cases h1 : x < 0
    · rw [if_pos h1, decide_eq_true (.inl h1), Bool.true_or]; rfl
    · rw [if_neg h1]
      by_cases h2 : x > a.f2
      · rw [if_pos h2, decide_eq_true (.inr h2), Bool.true_or]; rfl
      · rw [if_neg h2, decide_eq_false (by omega), Bool.false_or]
theorem ramt_f (n : Int) (l : List Ar) (xs : List Int) {K : Nat} (hK : 300 ≤ K) : merinoref05_Amounts.f K n l xs = some (amtE n l xs) := by
  unfold merinoref05_Amounts.f amtE
  rw [rnet_f n l hK, Option.bind_some]
  by_cases h : netE n l = 0
  · obtain ⟨_, _, h3, _⟩ := netE_range h
    rw [if_pos h, if_neg (show ¬ (netE n l ≠ 0) from fun g => g h)]
    by_cases h5 : xs.length = l.length
    · rw [if_pos (by omega), if_neg (show ¬ (xs.length ≠ l.length) from fun g => g h5)]
      have := ramt_l0 l xs h5 (by omega) l.length 0 K (by omega) (by omega)
      rw [List.drop_zero] at this
      exact this
    · rw [if_neg (by omega), if_pos h5]
  · rw [if_neg h, if_pos h]
theorem ramt_any (w : World) (n : Int) (A1 : Option Addr) (c1 : Nat) (l : List Ar) (h1 : Kd.C k44 w A1 l.length l) (hc1 : l.length ≤ c1) (A2 : Option Addr) (c2 : Nat) (xs : List Int) (h2 : Kd.C (Kd.int .i64) w A2 xs.length xs) (hc2 : xs.length ≤ c2) :
    Calls Try.prog 26 #[.int .i64 n, .slice A1 l.length c1, .slice A2 xs.length c2] w fun e w' => e = .returned (.int .i64 (amtE n l xs)) ∧ Below w.heap.size w w' :=
  merinoref05_Amounts.calls 300 n A1 c1 l A2 c2 xs _ w h1 hc1 h2 hc2 (ramt_f n l xs (Nat.le_refl _))
set_option maxRecDepth 100000 in
set_option maxHeartbeats 8000000 in
theorem rbal_any (w : World) (n : Int) (A1 : Option Addr) (c1 : Nat) (l : List Ar) (h1 : Kd.C k44 w A1 l.length l) (hc1 : l.length ≤ c1) (A2 : Option Addr) (c2 : Nat) (xs : List Int) (h2 : Kd.C (Kd.int .i64) w A2 xs.length xs) (hc2 : xs.length ≤ c2) :
    Calls Try.prog 28 #[.int .i64 n, .slice A1 l.length c1, .slice A2 xs.length c2] w (BalPost n l xs w) := by
  have HC := Lib.hid (ramt_any w n A1 c1 l h1 hc1 A2 c2 xs h2 hc2)
  have H1 := Lib.hid h1
  have H2 := Lib.hid h2
  clear h1 h2
  go_enter Try.func28, Try.ntmps28
  go_wp2_with fail
  refine HC.out.mono ?_
  rintro e w1 ⟨rfl, hb1⟩
  have HB1 := Lib.hid hb1
  clear HC hb1
  by_cases h0 : amtE n l xs = 0
  · obtain ⟨g1, g2, g3⟩ := amtE_ok h0
    obtain ⟨k1, k2, k3, _⟩ := netE_range g1
    have hok := netE_ok g1
    obtain ⟨N, rfl⟩ : ∃ N : Nat, n = N := ⟨n.toNat, by omega⟩
    rw [Int.toNat_natCast] at hok
    rw [h0]
    have H0 := Lib.hid h0
    have HOK := Lib.hid hok
    have HX : Hid (∀ i, i < l.length → 0 ≤ xsF xs i ∧ xsF xs i ≤ 1099511627776) := Lib.hid (fun i hi => ⟨(g3 i hi).1, Int.le_trans (g3 i hi).2 (hok.cap i hi).2⟩)
    have HLE := Lib.hid g2
    have hmk := make_int w1 (n := N) (by omega)
    have hB3 := below_al HB1.out (.cells (madeCells #[.int .i64 0] N) 3 (0, 0))
    have hT1 : TI (w1.alloc (.cells (madeCells #[.int .i64 0] N) 3 (0, 0))) w1.heap.size N (fun v => balF 0 (arcF l) (xsF xs) v) := (TV.made w1 (.int .i64 0) 3 N).congr fun i _ => rfl
    have HT := Lib.hid hT1
    have HB := Lib.hid hB3
    clear h0 g1 g2 g3 k1 k2 k3 hok hB3 hT1
    go_wp2_with fail
    generalize w1.alloc (.cells (madeCells #[.int .i64 0] N) 3 (0, 0)) = w2 at *
    have HG1 : Hid (w.heap.size ≤ w1.heap.size) := Lib.hid HB1.out.size
    generalize w1.heap.size = gb at *
    go_loopg [10] l.length (fun k v10 wr => ∃ i : Nat, v10 = .int .i64 i ∧ Hid (i + k = l.length) ∧ Hid (TI wr gb N (fun v => balF i (arcF l) (xsF xs) v)) ∧ Hid (Below w.heap.size w wr))
    case atStart => exact ⟨0, rfl, Lib.hid (by omega), HT, HB⟩
    case round =>
      clear HT HB hmk
      obtain ⟨i, rfl, HI, HT, HB⟩ := hrel
      obtain ⟨wv, rfl⟩ : ∃ wv : World, wv = wr := ⟨_, rfl⟩
      by_cases hlt : i < l.length
      · have hi0 : (i : Int) < l.length := by omega
        have hix : (i : Int) < xs.length := by have := HLE.out; omega
        have hiz : (0 : Int) ≤ i := by omega
        obtain ⟨e1, e2, e3, e4, e5⟩ := HOK.out.net i hlt
        have hxi := HX.out i hlt
        have b1 := balF_abs (A := arcF l) HX.out (arcF l i).f0 i (by omega)
        have b2 := balF_abs (A := arcF l) HX.out (arcF l i).f1 i (by omega)
        have hmm := HOK.out.m1
        have n1 : ((arcF l i).f0.toNat : Int) = (arcF l i).f0 := by omega
        have n2 : ((arcF l i).f1.toNat : Int) = (arcF l i).f1 := by omega
        have hw : IntKind.i64.wrap ((i : Int) + 1) = i + 1 := IntWalk.i64_in _ (by omega)
        have hw1 : IntKind.i64.wrap (balF i (arcF l) (xsF xs) (arcF l i).f0 + xs.getD i 0) = balF i (arcF l) (xsF xs) (arcF l i).f0 + xs.getD i 0 := IntWalk.i64_in _ (by have : xsF xs i = xs.getD i 0 := rfl; omega)
        have hw2 : IntKind.i64.wrap (balF i (arcF l) (xsF xs) (arcF l i).f1 - xs.getD i 0) = balF i (arcF l) (xsF xs) (arcF l i).f1 - xs.getD i 0 := IntWalk.i64_in _ (by have : xsF xs i = xs.getD i 0 := rfl; omega)
        have HS := Lib.hid (balF_step (x := xsF xs) (i := i) e1 e3 e5)
        rw [n1, n2] at HS
        have g1 : (arcF l i).f0.toNat < N := by omega
        have g2 : (arcF l i).f1.toNat < N := by omega
        have HNE := Lib.hid (show (arcF l i).f1.toNat ≠ (arcF l i).f0.toNat by omega)
        have HG2 := Lib.hid (And.intro g1 g2)
        have HLT := Lib.hid hlt
        obtain ⟨ad, rfl, k0, k1, k2, k3⟩ := arcs_of (Kd.C_below H1.out HB.out) (i : Int) (by omega) hi0
        obtain ⟨bd, rfl, q⟩ := Kd.at_int (Kd.C_below H2.out HB.out) (i : Int) (by omega) hix
        have ex : rd xs (i : Int) = xs.getD i 0 := by unfold rd; rw [Int.toNat_natCast]
        rw [ex, Int.toNat_natCast] at q
        rw [Int.toNat_natCast] at k0 k1 k2 k3
        have q0 : wv.cell? ⟨gb, (arcF l i).f0.toNat, none⟩ = some (.int .i64 (balF i (arcF l) (xsF xs) (arcF l i).f0)) := by have := TV.cell HT.out g1; simp only [n1] at this; exact this
        have q1 := TV.free HT.out (arcF l i).f0.toNat
        have HXI : Hid (xsF xs i = xs.getD i 0) := Lib.hid rfl
        clear b1 b2 hmm hxi e5 ex hlt k2 k3
        generalize xs.getD i 0 = xi at *
        go_upto_region 8 with (fail)
        go_cut [] (fun wx => wx = (wv.setCell ⟨gb, (arcF l i).f0.toNat, none⟩ (.int .i64 (balF i (arcF l) (xsF xs) (arcF l i).f0 + xi))).drew)
        case first =>
          refine calm ?_
          go_region_law (first | fail)
          all_goals
            simp only [Calm]
            go_wp2_with fail
            go_meet
            rfl
        case rest =>
          have hT5 : TI ((wv.setCell ⟨gb, (arcF l i).f0.toNat, none⟩ (.int .i64 (balF i (arcF l) (xsF xs) (arcF l i).f0 + xi))).drew) gb N (setN (fun v : Nat => balF i (arcF l) (xsF xs) v) (arcF l i).f0.toNat (balF i (arcF l) (xsF xs) (arcF l i).f0 + xi)) := (TI.set HT.out (arcF l i).f0.toNat (balF i (arcF l) (xsF xs) (arcF l i).f0 + xi)).fr (F := fun _ => False) ((Fr.refl _ _).drew) (fun a => a)
          have hF5 : Fr (fun k => k = gb) wv ((wv.setCell ⟨gb, (arcF l i).f0.toNat, none⟩ (.int .i64 (balF i (arcF l) (xsF xs) (arcF l i).f0 + xi))).drew) := ((Fr.refl (fun k => k = gb) wv).setCell (p := ⟨gb, (arcF l i).f0.toNat, none⟩) (.inl rfl) _).drew
          have hwc := hcut
          generalize (wv.setCell ⟨gb, (arcF l i).f0.toNat, none⟩ (.int .i64 (balF i (arcF l) (xsF xs) (arcF l i).f0 + xi))).drew = w5 at *
          subst hwc
          have hB5 : Below w.heap.size w wc := ((Fr.of_below HB.out (fun k => k = gb)).trans hF5 (fun _ h => .inl h)).to_below (Nat.le_refl _) (fun _ h => by subst h; exact HG1.out)
          obtain ⟨ad2, e2', k0, k1, _⟩ := arcs_of (Kd.C_below H1.out hB5) (i : Int) (by omega) hi0
          obtain rfl := Option.some.inj e2'
          obtain ⟨bd2, e3', q⟩ := Kd.at_int (Kd.C_below H2.out hB5) (i : Int) (by omega) hix
          obtain rfl := Option.some.inj e3'
          have ex : rd xs (i : Int) = xi := HXI.out
          rw [ex, Int.toNat_natCast] at q
          rw [Int.toNat_natCast] at k0 k1
          have q0 : wc.cell? ⟨gb, (arcF l i).f1.toNat, none⟩ = some (.int .i64 (balF i (arcF l) (xsF xs) (arcF l i).f1)) := by
            have := TV.cell hT5 HG2.out.2
            simp only [setN, if_neg HNE.out, n2] at this
            exact this
          have q1 := TV.free hT5 (arcF l i).f1.toNat
          have hT6 := TI.set hT5 (arcF l i).f1.toNat (balF i (arcF l) (xsF xs) (arcF l i).f1 - xi)
          have HT6 : Hid (TI ((wc.setCell ⟨gb, (arcF l i).f1.toNat, none⟩ (.int .i64 (balF i (arcF l) (xsF xs) (arcF l i).f1 - xi))).drew) gb N (fun v => balF (i + 1) (arcF l) (xsF xs) v)) := Lib.hid (by
            have e := HS.out
            rw [HXI.out] at e
            rw [e]
            exact hT6.fr (F := fun _ => False) ((Fr.refl _ _).drew) (fun a => a))
          have HB6 : Hid (Below w.heap.size w ((wc.setCell ⟨gb, (arcF l i).f1.toNat, none⟩ (.int .i64 (balF i (arcF l) (xsF xs) (arcF l i).f1 - xi))).drew)) := Lib.hid ((((Fr.of_below hB5 (fun k => k = gb)).setCell (p := ⟨gb, (arcF l i).f1.toNat, none⟩) (.inl rfl) _).drew).to_below (Nat.le_refl _) (fun _ h => by subst h; exact HG1.out))
          clear hT5 hT6 hF5 hB5 ex e2' e3'
          go_upto_region 9 with (fail)
          refine calm ?_
          go_region_law (first | fail)
          all_goals
            simp only [Calm]
            go_wp2_with fail
            go_roundg (l.length - (i + 1))
            case measure => have := HI.out; have := HLT.out; omega
            case rel => exact ⟨i + 1, by go_num, Lib.hid (by have := HI.out; have := HLT.out; omega), HT6, HB6⟩
      · have HE : Hid (i = l.length) := Lib.hid (by have := HI.out; omega)
        have hnl : ¬ (i : Int) < l.length := by omega
        clear hlt
        go_wp2_with fail
        go_ret2
        exact ⟨.inr ⟨H0.out, gb, by rw [Int.toNat_natCast]; rfl, by rw [Int.toNat_natCast]; have := HT.out; rw [HE.out] at this; exact this⟩, HB.out⟩
  · have e1 : (amtE n l xs != 0) = true := by simp [h0]
    have HAE0 := Lib.hid h0
    clear h0
    generalize hae : amtE n l xs = ae at *
    have HAE := Lib.hid hae
    clear hae
    go_wp2_with fail
    go_ret2
    exact ⟨.inl ⟨by rw [HAE.out]; exact HAE0.out, by rw [HAE.out]; rfl⟩, HB1.out⟩
end Go.Proofs.Ytpbndcmmclkdpaa
