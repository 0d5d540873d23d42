/-
  The reference's Potentials and Check.
-/
import Derived.Test.YtpbndcmmclkdpaaQk
namespace Go.Proofs.Ytpbndcmmclkdpaa
open PFlowSolves
open Go.RowKit Go.Proofs.YtpbndcmmclkdpaaW.PrintWords
/-- The reference's steps as a slice that is read. -/
theorem rsteps_C {w w' : World} {A : Nat → Ar} {L : List Stp} {v : Value} (hR : Kd.R k96 96 w' w.heap.size (fun _ => True) v (L.map (toR A))) : ∃ AS c, v = .slice AS L.length c ∧ Kd.C k96 w' AS L.length (L.map (toR A)) := by
  obtain ⟨AS, c, e, _, hC⟩ := Kd.R_reads hR
  rw [List.length_map] at e hC
  exact ⟨AS, c, e, hC⟩
set_option maxRecDepth 100000 in
set_option maxHeartbeats 4000000 in
theorem rpots_any (w : World) (n : Int) (A1 : Option Addr) (c1 : Nat) (l : List Ar) (h1 : Kd.C k44 w A1 l.length l) (hc1 : l.length ≤ c1) (A2 : Option Addr) (c2 : Nat) (xs : List Int) (h2 : Kd.C (Kd.int .i64) w A2 xs.length xs) (hc2 : xs.length ≤ c2) :
    Calls Try.prog 39 #[.int .i64 n, .slice A1 l.length c1, .slice A2 xs.length c2] w (PotsPost n l xs w) := by
  have HC := Lib.hid (ramt_any w n A1 c1 l h1 hc1 A2 c2 xs h2 hc2)
  have H1 := Lib.hid h1
  have H2 := Lib.hid h2
  clear h1 h2
  go_enter Try.func39, Try.ntmps39
  go_wp2_with fail
  refine HC.out.mono ?_
  rintro e w1 ⟨rfl, hb1⟩
  have HB1 := Lib.hid hb1
  clear HC hb1
  by_cases h0 : amtE n l xs = 0
  · obtain ⟨g1, g2, g3⟩ := amtE_ok h0
    obtain ⟨k1, k2, k3, _⟩ := netE_range g1
    have hok := netE_ok g1
    obtain ⟨N, rfl⟩ : ∃ N : Nat, n = N := ⟨n.toNat, by omega⟩
    rw [Int.toNat_natCast] at hok
    rw [h0]
    have H0 := Lib.hid h0
    have HOK := Lib.hid hok
    have HST := Lib.hid (rsteps_any w1 A1 c1 l (Kd.C_below H1.out HB1.out) A2 c2 xs (Kd.C_below H2.out HB1.out) (by omega) hok)
    clear h0 g1 g2 g3 k1 k2 k3 hok
    go_wp2_with fail
    refine HST.out.mono ?_
    rintro e w2 ⟨⟨v, rfl, hR⟩, hb2⟩
    obtain ⟨AS, cS, rfl, hCS⟩ := rsteps_C hR
    have HB2 := Lib.hid (below_t HB1.out hb2)
    have HPO := Lib.hid (rpot_any w2 AS cS hCS (HOK.out.steps (xsF xs)) HOK.out.n1 HOK.out.n2 (by have := stepsF_len (arcF l) (xsF xs) l.length; have := HOK.out.m1; omega))
    clear hR hCS hb2 HST
    go_wp2_with fail
    refine HPO.out.mono ?_
    rintro e w3 ⟨hpost, hb3⟩
    have HB3 := Lib.hid (below_t HB2.out hb3)
    clear hb3 HPO
    rcases hpost with ⟨j, hj, hfe, hno, rfl, ht⟩ | ⟨hno, rfl⟩
    · have HFIN : Hid (_ ∧ _ ∧ _ ∧ _) := Lib.hid ⟨hj, hfe, hno, ht⟩
      clear hj hfe hno ht
      go_wp2_with fail
      go_ret2
      exact ⟨.inr ⟨H0.out, .inl ⟨j, w2.heap.size, by rw [Int.toNat_natCast]; exact HFIN.out.1, HFIN.out.2.1, HFIN.out.2.2.1, by rw [Int.toNat_natCast]; rfl, by rw [Int.toNat_natCast]; exact HFIN.out.2.2.2⟩⟩, HB3.out⟩
    · have HNO := Lib.hid hno
      clear hno
      go_wp2_with fail
      go_ret2
      exact ⟨.inr ⟨H0.out, .inr ⟨by rw [Int.toNat_natCast]; exact HNO.out, rfl⟩⟩, HB3.out⟩
  · have e1 : (amtE n l xs != 0) = true := by simp [h0]
    have HAE0 := Lib.hid h0
    clear h0
    generalize hae : amtE n l xs = ae at *
    have HAE := Lib.hid hae
    clear hae
    go_wp2_with fail
    go_ret2
    exact ⟨.inl ⟨by rw [HAE.out]; exact HAE0.out, by rw [HAE.out]; rfl⟩, HB1.out⟩
set_option maxRecDepth 100000 in
set_option maxHeartbeats 8000000 in
theorem rcheck_any (w : World) (n : Int) (A1 : Option Addr) (c1 : Nat) (l : List Ar) (h1 : Kd.C k44 w A1 l.length l) (hc1 : l.length ≤ c1) (A2 : Option Addr) (c2 : Nat) (xs : List Int) (h2 : Kd.C (Kd.int .i64) w A2 xs.length xs) (hc2 : xs.length ≤ c2) (A3 : Option Addr) (c3 : Nat) (ps : List Int) (h3 : Kd.C (Kd.int .i64) w A3 ps.length ps) :
    Calls Try.prog 41 #[.int .i64 n, .slice A1 l.length c1, .slice A2 xs.length c2, .slice A3 ps.length c3] w (CheckPost n l xs ps w) := by
  have HC := Lib.hid (ramt_any w n A1 c1 l h1 hc1 A2 c2 xs h2 hc2)
  have H1 := Lib.hid h1
  have H2 := Lib.hid h2
  have H3 := Lib.hid h3
  clear h1 h2 h3
  go_enter Try.func41, Try.ntmps41
  go_wp2_with fail
  refine HC.out.mono ?_
  rintro e w1 ⟨rfl, hb1⟩
  have HB1 := Lib.hid hb1
  clear HC hb1
  by_cases h0 : amtE n l xs = 0
  · obtain ⟨g1, g2, g3⟩ := amtE_ok h0
    obtain ⟨k1, k2, k3, _⟩ := netE_range g1
    have hok := netE_ok g1
    obtain ⟨N, rfl⟩ : ∃ N : Nat, n = N := ⟨n.toNat, by omega⟩
    rw [Int.toNat_natCast] at hok
    rw [h0]
    have H0 := Lib.hid h0
    have HOK := Lib.hid hok
    have HLE := Lib.hid g2
    clear h0 g1 g2 g3 hok
    by_cases hpl : (ps.length : Int) = N
    · have e1 : ((ps.length : Int) != (N : Int)) = false := by simp [hpl]
      have HPL := Lib.hid hpl
      clear hpl
      go_wp2_with fail
      go_loopg [11] ps.length (fun k v11 wr => ∃ i : Nat, v11 = .int .i64 i ∧ Hid (i + k = ps.length) ∧ Hid (∀ j, j < i → farB (ps.getD j 0) = false) ∧ Hid (Below w1.heap.size w1 wr))
      case atStart => exact ⟨0, rfl, Lib.hid (by omega), Lib.hid (fun j hj => absurd hj (Nat.not_lt_zero _)), Lib.hid (Below.refl _ _)⟩
      case round =>
        obtain ⟨i, rfl, HI, HA, HB⟩ := hrel
        obtain ⟨wv, rfl⟩ : ∃ wv : World, wv = wr := ⟨_, rfl⟩
        by_cases hlt : i < ps.length
        · have hi0 : (i : Int) < ps.length := by omega
          have hiN : (i : Int) < N := by have := HPL.out; omega
          obtain ⟨pd, rfl, q0⟩ := Kd.at_int (Kd.C_below H3.out (below_t HB1.out HB.out)) (i : Int) (by omega) hi0
          have ex : rd ps (i : Int) = ps.getD i 0 := by unfold rd; rw [Int.toNat_natCast]
          rw [ex, Int.toNat_natCast] at q0
          have hw : IntKind.i64.wrap ((i : Int) + 1) = i + 1 := IntWalk.i64_in _ (by have := HPL.out; omega)
          have HLT := Lib.hid hlt
          have HFB : Hid (farB (ps.getD i 0) = (decide (ps.getD i 0 < -1125899906842624) || decide (1125899906842624 < ps.getD i 0))) := Lib.hid rfl
          clear hlt ex
          generalize hpi : ps.getD i 0 = pi at *
          have HPI := Lib.hid hpi
          clear hpi
          by_cases hx1 : pi < -1125899906842624
          · have e2 : decide (pi < -1125899906842624) = true := decide_eq_true hx1
            have HE : Hid (chkE N l xs ps = 2) := Lib.hid (chkE_bad H0.out HPL.out HLT.out (by rw [HPI.out, HFB.out, e2]; rfl))
            clear hx1 HFB
            go_wp2_with fail
            go_ret2
            exact ⟨.inl ⟨by rw [HE.out]; decide, by rw [HE.out]; rfl⟩, below_t HB1.out HB.out⟩
          · have e2 : decide (pi < -1125899906842624) = false := decide_eq_false hx1
            by_cases hx2 : 1125899906842624 < pi
            · have e3 : decide (1125899906842624 < pi) = true := decide_eq_true hx2
              have HE : Hid (chkE N l xs ps = 2) := Lib.hid (chkE_bad H0.out HPL.out HLT.out (by rw [HPI.out, HFB.out, e3, Bool.or_true]))
              clear hx1 hx2 HFB
              go_wp2_with fail
              go_ret2
              exact ⟨.inl ⟨by rw [HE.out]; decide, by rw [HE.out]; rfl⟩, below_t HB1.out HB.out⟩
            · have e3 : decide (1125899906842624 < pi) = false := decide_eq_false hx2
              have HGD : Hid (farB pi = false) := Lib.hid (by rw [HFB.out, e2, e3]; rfl)
              clear hx1 hx2 HFB
              go_wp2_with fail
              go_roundg (ps.length - (i + 1))
              case measure => have := HI.out; have := HLT.out; omega
              case rel => exact ⟨i + 1, by go_num, Lib.hid (by have := HI.out; have := HLT.out; omega), Lib.hid (fun j hj => by
                by_cases e : j = i
                · subst e; rw [HPI.out]; exact HGD.out
                · exact HA.out j (by omega)), HB⟩
        · have HALL : Hid (∀ j, j < ps.length → farB (ps.getD j 0) = false) := Lib.hid (fun j hj => HA.out j (by omega))
          have HE : Hid (chkE N l xs ps = 0) := Lib.hid (chkE_of H0.out HPL.out HALL.out)
          have HST := Lib.hid (rsteps_any wv A1 c1 l (Kd.C_below H1.out (below_t HB1.out HB.out)) A2 c2 xs (Kd.C_below H2.out (below_t HB1.out HB.out)) (by have := HLE.out; omega) HOK.out)
          have hnl : ¬ (i : Int) < N := by have := HPL.out; omega
          clear hlt
          go_wp2_with fail
          refine HST.out.mono ?_
          rintro e w2 ⟨⟨v, rfl, hR⟩, hb2⟩
          obtain ⟨AS, cS, rfl, hCS⟩ := rsteps_C hR
          have HCS := Lib.hid hCS
          have HB2 := Lib.hid (below_t HB.out hb2)
          have HSt := Lib.hid (HOK.out.steps (xsF xs))
          have HLEN := Lib.hid (stepsF_len (arcF l) (xsF xs) l.length)
          have HRES : Hid (∀ s, s ∈ stepsF (arcF l) (xsF xs) l.length ↔ Res l.length (arcF l) (xsF xs) s) := Lib.hid (fun s => mem_stepsF)
          clear hR hCS hb2 HST
          generalize hall : stepsF (arcF l) (xsF xs) l.length = all at *
          clear hall
          go_wp2_with fail
          go_loopg [13] all.length (fun k v13 wr => ∃ t : Nat, v13 = .int .i64 t ∧ Hid (t + k = all.length) ∧ Hid (∀ s ∈ all.take t, psF ps (tow (arcF l) s) ≤ psF ps (frm (arcF l) s) + cst (arcF l) s) ∧ Hid (Below w2.heap.size w2 wr))
          case atStart => exact ⟨0, rfl, Lib.hid (by omega), Lib.hid (fun s hs => by simp at hs), Lib.hid (Below.refl _ _)⟩
          case round =>
            obtain ⟨t, rfl, HT, HFE, HBR⟩ := hrel
            obtain ⟨wx, rfl⟩ : ∃ wx : World, wx = wr := ⟨_, rfl⟩
            by_cases hlt : t < all.length
            · obtain ⟨s, hs⟩ : ∃ s, all[t]? = some s := ⟨_, List.getElem?_eq_getElem hlt⟩
              have ht0 : (t : Int) < all.length := by omega
              have htz : (0 : Int) ≤ t := by omega
              obtain ⟨ad, rfl, k0, k1, k2, _, _⟩ := rstp_at (Kd.C_below HCS.out HBR.out) hs
              have hm := List.mem_of_getElem? hs
              obtain ⟨a1, a2, a3, a4, a5, a6, a7⟩ := HSt.out s hm
              have hw : IntKind.i64.wrap ((t : Int) + 1) = t + 1 := IntWalk.i64_in _ (by have := HLEN.out; have := HOK.out.m1; omega)
              have HTK : Hid (all.take (t + 1) = all.take t ++ [s]) := Lib.hid (by rw [List.take_add_one, hs]; rfl)
              have HLT := Lib.hid hlt
              clear hm hs hlt a5
              have hb11 := below_t HB1.out (below_t HB2.out HBR.out)
              obtain ⟨pd, rfl, q0⟩ := Kd.at_int (Kd.C_below H3.out hb11) (tow (arcF l) s) a3 (by have := HPL.out; omega)
              obtain ⟨pd', e', q1⟩ := Kd.at_int (Kd.C_below H3.out hb11) (frm (arcF l) s) a1 (by have := HPL.out; omega)
              obtain rfl := Option.some.inj e'
              have et : rd ps (tow (arcF l) s) = psF ps (tow (arcF l) s) := rfl
              have ef : rd ps (frm (arcF l) s) = psF ps (frm (arcF l) s) := rfl
              rw [et] at q0
              rw [ef] at q1
              have pt := farB_bd (HALL_at HALL.out a3 (by have := HPL.out; omega) : farB (psF ps (tow (arcF l) s)) = false)
              have pf := farB_bd (HALL_at HALL.out a1 (by have := HPL.out; omega) : farB (psF ps (frm (arcF l) s)) = false)
              have hw2 : IntKind.i64.wrap (psF ps (frm (arcF l) s) + cst (arcF l) s) = psF ps (frm (arcF l) s) + cst (arcF l) s := IntWalk.i64_in _ (by omega)
              have t0 : tow (arcF l) s < ps.length := by have := HPL.out; omega
              have f0 : frm (arcF l) s < ps.length := by have := HPL.out; omega
              clear hb11 e' et ef pt pf a6 a7
              generalize hpT : psF ps (tow (arcF l) s) = pT at *
              generalize hpF : psF ps (frm (arcF l) s) = pF at *
              have HPT := Lib.hid hpT
              have HPF := Lib.hid hpF
              clear hpT hpF
              by_cases hgt : pF + cst (arcF l) s < pT
              · have e6 : decide (pF + cst (arcF l) s < pT) = true := decide_eq_true hgt
                have HNF : Hid (¬ Feas l.length (arcF l) (xsF xs) (psF ps)) := Lib.hid (fun h => by
                  have hm : s ∈ all := by
                    have := HTK.out
                    exact List.mem_of_mem_take (by rw [this]; exact List.mem_append_right _ (List.mem_singleton.2 rfl) : s ∈ all.take (t + 1))
                  have h2 := h s ((HRES.out s).1 hm)
                  rw [HPT.out, HPF.out] at h2
                  omega)
                clear hgt
                go_upto_region 15 with (fail)
                go_quiet (fail)
                go_wp2_with fail
                go_ret2
                exact ⟨.inr ⟨HE.out, false, rfl, ⟨fun h => absurd h (by simp), fun h => absurd h HNF.out⟩⟩, below_t HB1.out (below_t HB2.out (by first | exact pw_below_drewN HBR.out _ | (apply pw_below_drewN; exact HBR.out)))⟩
              · have e6 : decide (pF + cst (arcF l) s < pT) = false := decide_eq_false hgt
                have HLEQ := Lib.hid hgt
                clear hgt
                go_upto_region 15 with (fail)
                go_quiet (fail)
                go_wp2_with fail
                go_roundg (all.length - (t + 1))
                case measure => have := HT.out; have := HLT.out; omega
                case rel => exact ⟨t + 1, by go_num, Lib.hid (by have := HT.out; have := HLT.out; omega), Lib.hid (fun r hr => by
                  rw [HTK.out] at hr
                  rcases List.mem_append.1 hr with h | h
                  · exact HFE.out r h
                  · rw [List.mem_singleton] at h
                    subst h
                    rw [HPT.out, HPF.out]
                    have := HLEQ.out
                    omega), Lib.hid (by first | exact pw_below_drewN HBR.out _ | (apply pw_below_drewN; exact HBR.out))⟩
            · have hnl2 : ¬ (t : Int) < all.length := by omega
              have HYES : Hid (Feas l.length (arcF l) (xsF xs) (psF ps)) := Lib.hid (fun s hs => HFE.out s (by rw [List.take_of_length_le (by omega)]; exact (HRES.out s).2 hs))
              clear hlt
              go_wp2_with fail
              go_ret2
              exact ⟨.inr ⟨HE.out, true, rfl, ⟨fun _ => HYES.out, fun _ => rfl⟩⟩, below_t HB1.out (below_t HB2.out HBR.out)⟩
    · have e1 : ((ps.length : Int) != (N : Int)) = true := by simp; omega
      have HE : Hid (chkE N l xs ps = 2) := Lib.hid (chkE_len H0.out hpl)
      clear hpl
      go_wp2_with fail
      go_ret2
      exact ⟨.inl ⟨by rw [HE.out]; decide, by rw [HE.out]; rfl⟩, HB1.out⟩
  · have e1 : (amtE n l xs != 0) = true := by simp [h0]
    have HE : Hid (chkE n l xs ps = amtE n l xs ∧ amtE n l xs ≠ 0) := Lib.hid ⟨chkE_amt h0, h0⟩
    clear h0
    generalize amtE n l xs = ae at *
    go_wp2_with fail
    go_ret2
    exact ⟨.inl ⟨by rw [HE.out.1]; exact HE.out.2, by rw [HE.out.1]; rfl⟩, HB1.out⟩
end Go.Proofs.Ytpbndcmmclkdpaa
