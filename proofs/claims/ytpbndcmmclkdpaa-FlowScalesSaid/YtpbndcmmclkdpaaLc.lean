/-
  FlowCheap.
-/
import Derived.Test.YtpbndcmmclkdpaaQg
import Derived.Test.YtpbndcmmclkdpaaLr
namespace Go.Proofs.Ytpbndcmmclkdpaa
open PFlowSolves
open Go.RowKit Go.Proofs.YtpbndcmmclkdpaaW.PrintWords
theorem cost_l0 (l : List Ar) (xs : List Int) (hlen : l.length ≤ xs.length) (hl : l.length ≤ 1000) (hb : ∀ i, i ≤ l.length → -(i * 36028797018963968) ≤ costF i (arcF l) (xsF xs) ∧ costF i (arcF l) (xsF xs) ≤ i * 36028797018963968) (hl2 : l.length ≤ 128) :
    ∀ (r i k : Nat), i + r = l.length → r + 1 ≤ k → merinoref05_Cost.l0 k l xs (costF i (arcF l) (xsF xs)) (i : Int) = some (costF l.length (arcF l) (xsF xs))
  | 0, i, k + 1, hi, _ => by
    unfold merinoref05_Cost.l0
    have e : i = l.length := by omega
    rw [if_neg (by omega), e]
  | r + 1, i, k + 1, hi, hk => by
    obtain ⟨a, ha⟩ : ∃ a, l[i]? = some a := ⟨_, List.getElem?_eq_getElem (by omega)⟩
    obtain ⟨b, hb'⟩ : ∃ b, xs[i]? = some b := ⟨_, List.getElem?_eq_getElem (by omega)⟩
    unfold merinoref05_Cost.l0
    rw [if_pos (by omega), if_pos (by omega), if_pos (by omega), rd44 ha, rdI hb', wr64 (x := (i : Int) + 1) (by omega)]
    have ih := cost_l0 l xs hlen hl hb hl2 r (i + 1) k (by omega) (by omega)
    have e1 : arcF l i = a := by unfold arcF; rw [List.getD_eq_getElem?_getD, ha]; rfl
    have e : costF (i + 1) (arcF l) (xsF xs) = costF i (arcF l) (xsF xs) + a.f3 * b := by
      show costF i (arcF l) (xsF xs) + (arcF l i).f3 * xs.getD i 0 = _
      rw [e1, getD_of hb']
    have b0 := hb i (by omega)
    have b1 := hb (i + 1) (by omega)
    rw [e] at b1
    rw [wr64 (x := a.f3 * b) (by omega), wr64 (by omega), ← e]
    rw [show ((i + 1 : Nat) : Int) = (i : Int) + 1 by omega] at ih
    exact ih
theorem rcost_any (w : World) (A1 : Option Addr) (c1 : Nat) (l : List Ar) (h1 : Kd.C k44 w A1 l.length l) (hc1 : l.length ≤ c1) (A2 : Option Addr) (c2 : Nat) (xs : List Int) (h2 : Kd.C (Kd.int .i64) w A2 xs.length xs) (hc2 : xs.length ≤ c2) {n : Nat} (hok : NetOk n l.length (arcF l)) (hx : Valid l.length (arcF l) (xsF xs)) (hlen : l.length ≤ xs.length) :
    Calls Try.prog 27 #[.slice A1 l.length c1, .slice A2 xs.length c2] w fun e w' => e = .returned (.int .i64 (costF l.length (arcF l) (xsF xs))) ∧ Below w.heap.size w w' := by
  have h : merinoref05_Cost.f 300 l xs = some (costF l.length (arcF l) (xsF xs)) := by
    unfold merinoref05_Cost.f
    exact cost_l0 l xs hlen (by have := hok.m1; omega) (costF_abs (fun i hi => ⟨(hx i hi).1, Int.le_trans (hx i hi).2 (hok.cap i hi).2⟩) hok.cost) hok.m1 l.length 0 300 (by omega) (by have := hok.m1; omega)
  exact (merinoref05_Cost.calls 300 A1 c1 l A2 c2 xs _ w h1 hc1 h2 hc2 h).mono fun e w' ⟨he, hb⟩ => ⟨he, by first | exact hb | exact hb.below⟩
/-- The balance of amounts is a need that is let in. -/
theorem bal_need {n : Nat} {l : List Ar} {xs bs : List Int} (h : amtE n l xs = 0) (hbl : bs.length = n) (hb : ∀ v : Nat, v < n → bs.getD v 0 = balF l.length (arcF l) (xsF xs) v) : needE n l bs = 0 := by
  obtain ⟨g1, g2, g3⟩ := amtE_ok h
  have hok := netE_ok g1
  rw [Int.toNat_natCast] at hok
  refine needE_of g1 (by omega) (fun v hv => ?_) ?_
  · rw [hb v (by omega)]
    have := balF_abs (A := arcF l) (fun i hi => ⟨(g3 i hi).1, Int.le_trans (g3 i hi).2 (hok.cap i hi).2⟩) v l.length (Nat.le_refl _)
    have := hok.m1
    omega
  · rw [hbl, sumN_congr (g := fun v => balF l.length (arcF l) (xsF xs) v) (fun v hv => hb v hv)]
    exact bal_sum hok.net _
theorem TI_list {w : World} {b n : Nat} {f : Nat → Int} (h : TI w b n f) (hn : n ≤ 100000) : ∃ xs : List Int, xs.length = n ∧ (∀ i, i < n → xs.getD i 0 = f i) ∧ Kd.C (Kd.int .i64) w (some ⟨b, 0, none⟩) xs.length xs := by
  have hg : ∀ i, i < n → ((List.range n).map f).getD i 0 = f i := fun i hi => by
    rw [List.getD_eq_getElem?_getD, List.getElem?_map, List.getElem?_range hi]; rfl
  exact ⟨(List.range n).map f, by simp, hg, TI_C h _ (by simp) hn (fun i hi => (hg i hi).symm)⟩
/-- Solve of the balance of some amounts. -/
def CheapPost (n : Nat) (l : List Ar) (xs : List Int) (w : World) (e : Ending) (w' : World) : Prop :=
  (∃ ga x, e = .returned (.tuple #[.agg #[.slice (some ⟨ga, 0, none⟩) l.length l.length, .int .i64 (costF l.length (arcF l) x)], .int .i64 0]) ∧ TI w' ga l.length x ∧ Valid l.length (arcF l) x ∧ costF l.length (arcF l) x ≤ costF l.length (arcF l) (xsF xs) ∧
    (costF l.length (arcF l) (xsF xs) ≤ costF l.length (arcF l) x → ∀ i, i < l.length → (∀ j, j < i → xs.getD j 0 = x j) → xs.getD i 0 ≤ x i) ∧ (costF l.length (arcF l) x < costF l.length (arcF l) (xsF xs) → ¬ ∃ q, Feas l.length (arcF l) (xsF xs) q)) ∧ Below w.heap.size w w'
theorem solve_bal (w : World) (n : Nat) (A1 : Option Addr) (c1 : Nat) (l : List Ar) (h1 : Kd.C k44 w A1 l.length l) (hc1 : l.length ≤ c1) (xs : List Int) (h : amtE n l xs = 0) (A2 : Option Addr) (c2 : Nat) (bs : List Int) (h2 : Kd.C (Kd.int .i64) w A2 bs.length bs) (hc2 : bs.length ≤ c2)
    (hbl : bs.length = n) (hb : ∀ v : Nat, v < n → bs.getD v 0 = balF l.length (arcF l) (xsF xs) v) :
    Calls Try.prog 21 #[.int .i64 n, .slice A1 l.length c1, .slice A2 bs.length c2] w (CheapPost n l xs w) := by
  obtain ⟨g1, g2, g3⟩ := amtE_ok h
  have hok := netE_ok g1
  rw [Int.toNat_natCast] at hok
  have hE := bal_need h hbl hb
  refine (solve_two w n A1 c1 l h1 hc1 A2 c2 bs h2 hc2).mono ?_
  rintro e w' ⟨hpost, hbl'⟩
  refine ⟨?_, hbl'⟩
  rcases hpost with ⟨er, rfl, h0, hr⟩ | ⟨ga, x, rfl, ht, _, _, hv, ⟨p, hf, hlx⟩, hbal⟩
  · rcases hr with ⟨hr, _⟩ | ⟨_, _, y, hc⟩
    · exact absurd hE hr
    · rw [Int.toNat_natCast] at hc
      exact (no_flow hok hc g3 (fun v hv => (hb v hv).symm)).elim
  · rw [Int.toNat_natCast] at hbal
    have hbb : ∀ v : Nat, v < n → balF l.length (arcF l) (xsF xs) v = balF l.length (arcF l) x v := fun v hv => by rw [hbal v hv, hb v hv]
    refine ⟨ga, x, rfl, ht, hv, opt_le hok.net hv g3 hbb hf, fun hc i hi hj => lex_max hok.net hv g3 hbb hf hlx hc hi hj, fun hlt => ?_⟩
    rintro ⟨q, hq⟩
    have := opt_le hok.net g3 hv (fun v hv => (hbb v hv).symm) hq
    omega
set_option maxRecDepth 100000 in
set_option maxHeartbeats 8000000 in
theorem cheap_law {n : Int} (_ : (Lit.int .i64 n).wf = true) (A1 : Option Addr) (c1 : Nat) (l : List Ar) (hc1 : l.length ≤ c1) (_ : c1 ≤ 9223372036854775807) {w : World} (h1 : Kd.C k44 w A1 l.length l) (_ : ∀ a ∈ l, (Lit.int .i64 a.f0).wf = true ∧ (Lit.int .i64 a.f1).wf = true ∧ (Lit.int .i64 a.f2).wf = true ∧ (Lit.int .i64 a.f3).wf = true)
    (A2 : Option Addr) (c2 : Nat) (xs : List Int) (hc2 : xs.length ≤ c2) (_ : c2 ≤ 9223372036854775807) (h2 : Kd.C (Kd.int .i64) w A2 xs.length xs) (_ : ∀ a ∈ xs, (Lit.int .i64 a).wf = true) :
    Calls Try.prog 9 #[.int .i64 n, .slice A1 l.length c1, .slice A2 xs.length c2] w fun e w' => e = .returned (.bool true) ∧ Below w.heap.size w w' := by
  have HFEW := Lib.hid (few_any w A1 c1 l h1 hc1 A2 c2 xs h2 hc2)
  have H1 := Lib.hid h1
  have H2 := Lib.hid h2
  clear h1 h2
  go_enter Try.func9, Try.ntmps9
  go_wp2_with fail
  refine HFEW.out.mono ?_
  rintro e w1 ⟨rfl, hb1⟩
  have HB1 := Lib.hid hb1
  clear hb1 HFEW
  cases hf : fewB l xs with
  | false =>
    have HAL := Lib.hid (alive_any w1)
    clear hf
    go_wp2_with fail
    refine HAL.out.mono ?_
    rintro e w2 ⟨rfl, hb2⟩
    have HB2 := Lib.hid (below_t HB1.out hb2)
    clear hb2
    go_wp2_with fail
    go_ret
    exact ⟨rfl, HB2.out⟩
  | true =>
    have HFE := Lib.hid (fewB_iff.1 hf)
    have HBA := Lib.hid (balance2_any w1 n A1 c1 l (Kd.C_below H1.out HB1.out) hc1 A2 c2 xs (Kd.C_below H2.out HB1.out))
    clear hf
    go_wp2_with fail
    refine HBA.out.mono ?_
    rintro e w2 ⟨hpost, hb2⟩
    have HB2 := Lib.hid (below_t HB1.out hb2)
    clear hb2 HBA
    rcases hpost with ⟨h0, rfl⟩ | ⟨h0, b, rfl, ht⟩
    · have e1 : (amtE n l xs != 0) = true := by simp [h0]
      have HAL := Lib.hid (alive_any w2)
      clear h0
      go_wp2_with fail
      refine HAL.out.mono ?_
      rintro e w3 ⟨rfl, hb3⟩
      have HB3 := Lib.hid (below_t HB2.out hb3)
      clear hb3
      go_wp2_with fail
      go_ret
      exact ⟨rfl, HB3.out⟩
    · obtain ⟨g1, g2, g3⟩ := amtE_ok h0
      obtain ⟨k1, k2, k3, _⟩ := netE_range g1
      have hok := netE_ok g1
      obtain ⟨N, rfl⟩ : ∃ N : Nat, n = N := ⟨n.toNat, by omega⟩
      rw [Int.toNat_natCast] at hok ht ⊢
      obtain ⟨bs, hbl, hbe, hbc⟩ := TI_list ht (by omega)
      have hS := solve_bal w2 N A1 c1 l (Kd.C_below H1.out HB2.out) hc1 xs h0 (some ⟨b, 0, none⟩) N bs hbc (by omega) hbl hbe
      rw [hbl] at hS
      have HSV := Lib.hid hS
      have HOK := Lib.hid hok
      have HVX := Lib.hid g3
      have HLE := Lib.hid g2
      have H0 := Lib.hid h0
      clear hS hbl hbe hbc ht g1 g2 g3 k1 k2 k3 hok h0
      go_wp2_with fail
      refine HSV.out.mono ?_
      rintro e w3 ⟨⟨ga, x, rfl, ht, hv, hle, hlex, hlt⟩, hb3⟩
      have HB3 := Lib.hid (below_al (below_t HB2.out hb3) (.cells #[.slice (some ⟨ga, 0, none⟩) l.length l.length, .int .i64 (costF l.length (arcF l) x)] 29 (0, 0)))
      have HF3 := Lib.hid (Blk.new w3 #[.slice (some ⟨ga, 0, none⟩) l.length l.length, .int .i64 (costF l.length (arcF l) x)] 29)
      have HT3 := Lib.hid (TV.alloc ht (.cells #[.slice (some ⟨ga, 0, none⟩) l.length l.length, .int .i64 (costF l.length (arcF l) x)] 29 (0, 0)))
      have HCS : Hid (_ ∧ _ ∧ _) := Lib.hid ⟨hle, hlex, hlt⟩
      clear hb3 ht hv hle hlex hlt HSV
      go_upto_region 7 with (fail)
      generalize w3.alloc (.cells #[.slice (some ⟨ga, 0, none⟩) l.length l.length, .int .i64 (costF l.length (arcF l) x)] 29 (0, 0)) = w4 at *
      generalize w3.heap.size = bf at *
      have hne : ((l.length : Int) != (xs.length : Int)) = false := by have := HLE.out; simp; omega
      have hgt : decide (costF l.length (arcF l) (xsF xs) < costF l.length (arcF l) x) = false := decide_eq_false (by have := HCS.out.1; omega)
      have f0 := Blk.cell HF3.out 0 (v := .slice (some ⟨ga, 0, none⟩) l.length l.length) rfl
      have f1 := Blk.cell HF3.out 1 (v := .int .i64 (costF l.length (arcF l) x)) rfl
      have HCO := Lib.hid (fun (W : World) (hW : Below w4.heap.size w4 W) => rcost_any W A1 c1 l (Kd.C_below H1.out (below_t HB3.out hW)) hc1 A2 c2 xs (Kd.C_below H2.out (below_t HB3.out hW)) hc2 HOK.out HVX.out (by have := HLE.out; omega))
      have KP : ∀ W, Below w4.heap.size w4 W → W.cell? ⟨bf, 0, none⟩ = some (.slice (some ⟨ga, 0, none⟩) l.length l.length) ∧ W.cell? ⟨bf, 1, none⟩ = some (.int .i64 (costF l.length (arcF l) x)) ∧ Below w4.heap.size w4 W := fun W hW =>
        ⟨(Fr.of_below hW (fun _ => False)).cell f0 (fun a => a), (Fr.of_below hW (fun _ => False)).cell f1 (fun a => a), hW⟩
      have HKP := Lib.hid KP
      clear KP
      generalize hcx : costF l.length (arcF l) x = cx at *
      have HCX := Lib.hid hcx
      clear hcx
      generalize hca : costF l.length (arcF l) (xsF xs) = ca at *
      have HCA := Lib.hid hca
      clear hca
      go_cut [58] (fun s58 wx => s58 = .bool false ∧ Below w4.heap.size w4 wx)
      case first =>
        have S0 := HKP.out _ ((Below.refl _ w4).drew)
        go_region_held3 (fun W => W.cell? ⟨bf, 0, none⟩ = some (.slice (some ⟨ga, 0, none⟩) l.length l.length) ∧ W.cell? ⟨bf, 1, none⟩ = some (.int .i64 cx) ∧ Below w4.heap.size w4 W)
          (first | (with_reducible exact S0) | (with_reducible exact S5) | (trace_state; fail))
          (first
            | (go_at_call 27; refine (HCO.out w4.drew S0.2.2).mono ?_; rintro e w5 ⟨rfl, hb5⟩; have S5 := HKP.out _ (S0.2.2.trans hb5)))
        all_goals
          go_wp2_with fail
          go_meet
          exact ⟨rfl, S5.2.2⟩
      case rest =>
        obtain ⟨rfl, hbx⟩ := hcut
        obtain ⟨w5, rfl⟩ : ∃ w5 : World, w5 = wc := ⟨_, rfl⟩
        have HBX := Lib.hid hbx
        clear hbx f0 f1 hne hgt
        have S0 := HKP.out _ ((HBX.out).drew)
        have f1 := (HKP.out _ HBX.out).2.1
        go_upto_region 9 with (fail)
        by_cases hlt : cx < ca
        · have e2 : decide (cx < ca) = true := decide_eq_true hlt
          have HNF := Lib.hid (HCS.out.2.2 hlt)
          clear hlt
          go_cut [64] (fun s64 wx => s64 = .bool true ∧ Below w4.heap.size w4 wx)
          case first =>
            go_region_held3 (fun W => W.cell? ⟨bf, 0, none⟩ = some (.slice (some ⟨ga, 0, none⟩) l.length l.length) ∧ W.cell? ⟨bf, 1, none⟩ = some (.int .i64 cx) ∧ Below w4.heap.size w4 W)
              (first | (with_reducible exact S0) | (with_reducible exact S5) | (trace_state; fail))
              (first
                | (go_at_call 27; refine (HCO.out w5.drew S0.2.2).mono ?_; rintro e w6 ⟨rfl, hb6⟩; have S5 := HKP.out _ (S0.2.2.trans (hb6.mono S0.2.2.size))))
            all_goals
              go_wp2_with fail
              go_meet
              exact ⟨rfl, S5.2.2⟩
          case rest =>
            obtain ⟨rfl, hbx⟩ := hcut
            obtain ⟨w6, rfl⟩ : ∃ w6 : World, w6 = wc := ⟨_, rfl⟩
            have HB6 := Lib.hid (below_t HB3.out hbx)
            have HPO := Lib.hid (pots_any w6 N A1 c1 l (Kd.C_below H1.out HB6.out) hc1 A2 c2 xs (Kd.C_below H2.out HB6.out))
            clear hbx S0 f1
            go_wp2_with fail
            refine HPO.out.mono ?_
            rintro e w7 ⟨hpost, hb7⟩
            have HB7 := Lib.hid (below_t HB6.out hb7)
            have HAL := Lib.hid (alive_any w7)
            clear hb7 HPO
            rcases hpost with ⟨h, _⟩ | ⟨_, ⟨j, b, _, hfe, _⟩ | ⟨_, rfl⟩⟩
            · exact absurd H0.out h
            · exact absurd ⟨_, feasL_iff.1 hfe⟩ HNF.out
            · go_wp2_with fail
              refine HAL.out.mono ?_
              rintro e w8 ⟨rfl, hb8⟩
              have HB8 := Lib.hid (below_t HB7.out hb8)
              clear hb8
              go_wp2_with fail
              go_ret
              exact ⟨rfl, HB8.out⟩
        · have e2 : decide (cx < ca) = false := decide_eq_false hlt
          have HLX := Lib.hid (HCS.out.2.1 (by omega))
          clear hlt
          go_cut [64] (fun s64 wx => s64 = .bool false ∧ Below w4.heap.size w4 wx)
          case first =>
            go_region_held3 (fun W => W.cell? ⟨bf, 0, none⟩ = some (.slice (some ⟨ga, 0, none⟩) l.length l.length) ∧ W.cell? ⟨bf, 1, none⟩ = some (.int .i64 cx) ∧ Below w4.heap.size w4 W)
              (first | (with_reducible exact S0) | (with_reducible exact S5) | (trace_state; fail))
              (first
                | (go_at_call 27; refine (HCO.out w5.drew S0.2.2).mono ?_; rintro e w6 ⟨rfl, hb6⟩; have S5 := HKP.out _ (S0.2.2.trans (hb6.mono S0.2.2.size))))
            all_goals
              go_wp2_with fail
              go_meet
              exact ⟨rfl, S5.2.2⟩
          case rest =>
            obtain ⟨rfl, hbx⟩ := hcut
            obtain ⟨w6, rfl⟩ : ∃ w6 : World, w6 = wc := ⟨_, rfl⟩
            have HBX6 := Lib.hid hbx
            clear hbx S0 f1
            go_wp2_with fail
            go_loopg [13] l.length (fun k v13 wr => ∃ i : Nat, v13 = .int .i64 i ∧ Hid (i + k = l.length) ∧ Hid (∀ j, j < i → xs.getD j 0 = x j) ∧ Hid (Below w4.heap.size w4 wr))
            case atStart => exact ⟨0, rfl, Lib.hid (by omega), Lib.hid (fun j hj => absurd hj (Nat.not_lt_zero _)), HBX6⟩
            case round =>
              obtain ⟨i, rfl, HI, HEQ, HBR⟩ := hrel
              obtain ⟨wv, rfl⟩ : ∃ wv : World, wv = wr := ⟨_, rfl⟩
              by_cases hlt : i < l.length
              · have hi0 : (i : Int) < l.length := by omega
                have hix : (i : Int) < xs.length := by have := HLE.out; omega
                have hiz : (0 : Int) ≤ i := by omega
                have q0 := TV.cell (TV.below HT3.out HBR.out) hlt
                obtain ⟨bd, rfl, q1⟩ := Kd.at_int (Kd.C_below H2.out (below_t HB3.out HBR.out)) (i : Int) (by omega) hix
                have ex : rd xs (i : Int) = xs.getD i 0 := by unfold rd; rw [Int.toNat_natCast]
                rw [ex, Int.toNat_natCast] at q1
                have f0 := (HKP.out _ HBR.out).1
                have hw : IntKind.i64.wrap ((i : Int) + 1) = i + 1 := IntWalk.i64_in _ (by have := HOK.out.m1; omega)
                have HLT := Lib.hid hlt
                have HLI := Lib.hid (HLX.out i hlt)
                have HXI : Hid (xs.getD i 0 = xs.getD i 0) := Lib.hid rfl
                clear ex hlt
                generalize hxi : xs.getD i 0 = xi at *
                have HXI := Lib.hid hxi
                clear hxi
                generalize hyi : x i = yi at *
                have HYI := Lib.hid hyi
                clear hyi
                by_cases hne : yi = xi
                · have e3 : (yi != xi) = false := by simp [hne]
                  have HNE := Lib.hid hne
                  clear hne
                  go_upto_region 15 with (fail)
                  go_quiet (fail)
                  go_wp2_with fail
                  go_roundg (l.length - (i + 1))
                  case measure => have := HI.out; have := HLT.out; omega
                  case rel => exact ⟨i + 1, by go_num, Lib.hid (by have := HI.out; have := HLT.out; omega), Lib.hid (fun j hj => by
                    by_cases e : j = i
                    · subst e; rw [HXI.out, HYI.out, HNE.out]
                    · exact HEQ.out j (by omega)), Lib.hid (by first | exact pw_below_drewN HBR.out _ | (apply pw_below_drewN; exact HBR.out))⟩
                · have e3 : (yi != xi) = true := by simp [hne]
                  have e4 : decide (xi < yi) = true := decide_eq_true (by
                    have := HLI.out HEQ.out
                    omega)
                  have KQ : ∀ W, Below wv.heap.size wv W → W.cell? ⟨bf, 0, none⟩ = some (.slice (some ⟨ga, 0, none⟩) l.length l.length) ∧ W.cell? ⟨ga, i, none⟩ = some (.int .i64 yi) ∧ W.cell? (bd.add i) = some (.int .i64 xi) ∧ Below wv.heap.size wv W := fun W hW =>
                    ⟨(Fr.of_below hW (fun _ => False)).cell f0 (fun a => a), (Fr.of_below hW (fun _ => False)).cell q0 (fun a => a), (Fr.of_below hW (fun _ => False)).cell q1 (fun a => a), hW⟩
                  have HKQ := Lib.hid KQ
                  clear KQ hne
                  go_upto_region 15 with (fail)
                  go_quiet (fail)
                  have hbq : Below wv.heap.size wv (wv.drewN nq) := by first | exact pw_below_drewN (Below.refl _ wv) _ | (apply pw_below_drewN; exact Below.refl _ wv)
                  have HBQ := Lib.hid hbq
                  clear hbq
                  generalize wv.drewN nq = wq at *
                  go_upto_region 16 with (fail)
                  have S0 := HKQ.out _ (HBQ.out.drew)
                  go_region_held3 (fun W => W.cell? ⟨bf, 0, none⟩ = some (.slice (some ⟨ga, 0, none⟩) l.length l.length) ∧ W.cell? ⟨ga, i, none⟩ = some (.int .i64 yi) ∧ W.cell? (bd.add i) = some (.int .i64 xi) ∧ Below wv.heap.size wv W)
                    (first | (with_reducible exact S0) | (with_reducible exact S5) | (trace_state; fail))
                    (first
                      | (go_at_call 18; refine (alive_any wq.drew).mono ?_; rintro e w7 ⟨rfl, hb7⟩; have S5 := HKQ.out _ (S0.2.2.2.trans (hb7.mono S0.2.2.2.size))))
                  all_goals
                    go_wp2_with fail
                    go_ret
                    exact ⟨rfl, below_t HB3.out (below_t HBR.out S5.2.2.2)⟩
              · have hnl : ¬ (i : Int) < xs.length := by have := HLE.out; have := HI.out; omega
                have HAL := Lib.hid (alive_any wv)
                clear hlt
                go_wp2_with fail
                refine HAL.out.mono ?_
                rintro e w8 ⟨rfl, hb8⟩
                have HB8 := Lib.hid (below_t HB3.out (below_t HBR.out hb8))
                clear hb8
                go_wp2_with fail
                go_ret
                exact ⟨rfl, HB8.out⟩
end Go.Proofs.Ytpbndcmmclkdpaa
