/-
  The walk of Check.
-/
import Derived.Test.YtpbndcmmclkdpaaQg
namespace Go.Proofs.Ytpbndcmmclkdpaa
open PFlowSolves
open Go.RowKit Go.Proofs.YtpbndcmmclkdpaaW.PrintWords
abbrev psF (ps : List Int) : Int → Int := fun v => ps.getD v.toNat 0
def farB (x : Int) : Bool := decide (x < -1125899906842624) || decide (1125899906842624 < x)
def chkE (n : Int) (l : List Ar) (xs ps : List Int) : Int := if amtE n l xs ≠ 0 then amtE n l xs else if (ps.length : Int) ≠ n then 2 else if (List.range ps.length).any (fun i => farB (ps.getD i 0)) then 2 else 0
theorem chkE_ok {n : Int} {l : List Ar} {xs ps : List Int} (h : chkE n l xs ps = 0) : amtE n l xs = 0 ∧ (ps.length : Int) = n ∧ ∀ i, i < ps.length → farB (ps.getD i 0) = false := by
  unfold chkE at h
  by_cases h1 : amtE n l xs = 0
  · rw [if_neg (fun g => g h1)] at h
    by_cases h2 : (ps.length : Int) = n
    · rw [if_neg (fun g => g h2)] at h
      cases h3 : (List.range ps.length).any (fun i => farB (ps.getD i 0)) with
      | true => rw [h3, if_pos rfl] at h; exact absurd h (by decide)
      | false =>
        refine ⟨h1, h2, fun i hi => ?_⟩
        rw [List.any_eq_false] at h3
        have := h3 i (List.mem_range.2 hi)
        simpa using this
    · rw [if_pos h2] at h; exact absurd h (by decide)
  · rw [if_pos h1] at h; exact absurd h h1
theorem chkE_of {n : Int} {l : List Ar} {xs ps : List Int} (h1 : amtE n l xs = 0) (h2 : (ps.length : Int) = n) (h3 : ∀ i, i < ps.length → farB (ps.getD i 0) = false) : chkE n l xs ps = 0 := by
  unfold chkE
  rw [if_neg (fun g => g h1), if_neg (fun g => g h2), if_neg]
  intro h
  rw [List.any_eq_true] at h
  obtain ⟨i, hi, hb⟩ := h
  rw [h3 i (List.mem_range.1 hi)] at hb
  exact absurd hb (by simp)
theorem chkE_bad {n : Int} {l : List Ar} {xs ps : List Int} (h1 : amtE n l xs = 0) (h2 : (ps.length : Int) = n) {i : Nat} (hi : i < ps.length) (h3 : farB (ps.getD i 0) = true) : chkE n l xs ps = 2 := by
  unfold chkE
  rw [if_neg (fun g => g h1), if_neg (fun g => g h2), if_pos (List.any_eq_true.2 ⟨i, List.mem_range.2 hi, h3⟩)]
theorem chkE_amt {n : Int} {l : List Ar} {xs ps : List Int} (h1 : amtE n l xs ≠ 0) : chkE n l xs ps = amtE n l xs := if_pos h1
theorem chkE_len {n : Int} {l : List Ar} {xs ps : List Int} (h1 : amtE n l xs = 0) (h2 : (ps.length : Int) ≠ n) : chkE n l xs ps = 2 := by unfold chkE; rw [if_neg (fun g => g h1), if_pos h2]
theorem farB_bd {x : Int} (h : farB x = false) : -1125899906842624 ≤ x ∧ x ≤ 1125899906842624 := by
  unfold farB at h
  rw [Bool.or_eq_false_iff, decide_eq_false_iff_not, decide_eq_false_iff_not] at h
  omega
theorem HALL_at {ps : List Int} (h : ∀ j, j < ps.length → farB (ps.getD j 0) = false) {v : Int} (h0 : 0 ≤ v) (h1 : v < ps.length) : farB (psF ps v) = false := h v.toNat (by omega)
def CheckPost (n : Int) (l : List Ar) (xs ps : List Int) (w : World) (e : Ending) (w' : World) : Prop :=
  ((chkE n l xs ps ≠ 0 ∧ e = .returned (.tuple #[.bool false, .int .i64 (chkE n l xs ps)])) ∨
   (chkE n l xs ps = 0 ∧ ∃ r : Bool, e = .returned (.tuple #[.bool r, .int .i64 0]) ∧ (r = true ↔ Feas l.length (arcF l) (xsF xs) (psF ps)))) ∧ Below w.heap.size w w'
theorem keepC {wb W : World} {bs : Nat} {s : Stp} {p q : Addr} {c d : Int} (h0 : wb.cell? ⟨bs, 0, none⟩ = some (.int .i64 s.f0)) (h1 : wb.cell? ⟨bs, 1, none⟩ = some (.bool s.f1)) (k0 : wb.cell? p = some (.int .i64 c)) (k1 : wb.cell? q = some (.int .i64 d)) (hb : Below wb.heap.size wb W) :
    W.cell? ⟨bs, 0, none⟩ = some (.int .i64 s.f0) ∧ W.cell? ⟨bs, 1, none⟩ = some (.bool s.f1) ∧ W.cell? p = some (.int .i64 c) ∧ W.cell? q = some (.int .i64 d) ∧ Below wb.heap.size wb W :=
  have hf := Fr.of_below hb (fun _ => False)
  ⟨hf.cell h0 (fun a => a), hf.cell h1 (fun a => a), hf.cell k0 (fun a => a), hf.cell k1 (fun a => a), hb⟩
set_option maxRecDepth 100000 in
set_option maxHeartbeats 8000000 in
theorem check_any (w : World) (n : Int) (A1 : Option Addr) (c1 : Nat) (l : List Ar) (h1 : Kd.C k44 w A1 l.length l) (hc1 : l.length ≤ c1) (A2 : Option Addr) (c2 : Nat) (xs : List Int) (h2 : Kd.C (Kd.int .i64) w A2 xs.length xs) (A3 : Option Addr) (c3 : Nat) (ps : List Int) (h3 : Kd.C (Kd.int .i64) w A3 ps.length ps) :
    Calls Try.prog 40 #[.int .i64 n, .slice A1 l.length c1, .slice A2 xs.length c2, .slice A3 ps.length c3] w (CheckPost n l xs ps w) := by
  have hu := Try.underlying103
  have HC := Lib.hid (carried_any w n A1 c1 l h1 hc1 A2 c2 xs h2)
  have H3 := Lib.hid h3
  clear h1 h2 h3
  go_enter Try.func40, Try.ntmps40
  go_wp2_with fail
  refine HC.out.mono ?_
  rintro e w1 ⟨hpost, hb1⟩
  have HB1 := Lib.hid hb1
  clear HC hb1
  rcases hpost with ⟨h0, rfl⟩ | ⟨h0, g, rfl, hn⟩
  · have e1 : (amtE n l xs != 0) = true := by simp [h0]
    have HE : Hid (chkE n l xs ps = amtE n l xs ∧ amtE n l xs ≠ 0) := Lib.hid ⟨chkE_amt h0, h0⟩
    clear h0
    generalize amtE n l xs = ae at *
    go_wp2_with fail
    go_ret2
    exact ⟨.inl ⟨by rw [HE.out.1]; exact HE.out.2, by rw [HE.out.1]; rfl⟩, HB1.out⟩
  · obtain ⟨g1, g2, g3⟩ := amtE_ok h0
    obtain ⟨k1, k2, k3, _⟩ := netE_range g1
    have hok := netE_ok g1
    obtain ⟨N, rfl⟩ : ∃ N : Nat, n = N := ⟨n.toNat, by omega⟩
    rw [Int.toNat_natCast] at hok
    have H0 := Lib.hid h0
    have HOK := Lib.hid hok
    have HV := Lib.hid g3
    have HN := Lib.hid hn
    clear h0 g1 g2 g3 hn hok
    by_cases hpl : (ps.length : Int) = N
    · have e1 : ((ps.length : Int) != (N : Int)) = false := by simp [hpl]
      have HPL := Lib.hid hpl
      clear hpl
      go_wp2_with fail
      go_loopg [13, 32] ps.length (fun k v13 v32 wr => ∃ i : Nat, v32 = .int .i64 i ∧ Hid (i + k = ps.length) ∧ Hid (∀ j, j < i → farB (ps.getD j 0) = false) ∧ Hid (Below w1.heap.size w1 wr))
      case atStart => exact ⟨0, rfl, Lib.hid (by omega), Lib.hid (fun j hj => absurd hj (Nat.not_lt_zero _)), Lib.hid (Below.refl _ _)⟩
      case round =>
        obtain ⟨i, rfl, HI, HA, HB⟩ := hrel
        obtain ⟨wv, rfl⟩ : ∃ wv : World, wv = wr := ⟨_, rfl⟩
        by_cases hlt : i < ps.length
        · have hi0 : (i : Int) < ps.length := by omega
          obtain ⟨pd, rfl, q0⟩ := Kd.at_int (Kd.C_below H3.out (below_t HB1.out HB.out)) (i : Int) (by omega) hi0
          have ex : rd ps (i : Int) = ps.getD i 0 := by unfold rd; rw [Int.toNat_natCast]
          rw [ex, Int.toNat_natCast] at q0
          have hw : IntKind.i64.wrap ((i : Int) + 1) = i + 1 := IntWalk.i64_in _ (by have := HPL.out; omega)
          have HLT := Lib.hid hlt
          have HFB : Hid (farB (ps.getD i 0) = (decide (ps.getD i 0 < -1125899906842624) || decide (1125899906842624 < ps.getD i 0))) := Lib.hid rfl
          clear hlt ex
          generalize hpi : ps.getD i 0 = pi at *
          have HPI := Lib.hid hpi
          clear hpi
          by_cases hx1 : pi < -1125899906842624
          · have e2 : decide (pi < -1125899906842624) = true := decide_eq_true hx1
            have HE : Hid (chkE N l xs ps = 2) := Lib.hid (chkE_bad H0.out HPL.out HLT.out (by rw [HPI.out, HFB.out, e2]; rfl))
            clear hx1 HFB
            go_wp2_with fail
            go_ret2
            exact ⟨.inl ⟨by rw [HE.out]; decide, by rw [HE.out]; rfl⟩, below_t HB1.out HB.out⟩
          · have e2 : decide (pi < -1125899906842624) = false := decide_eq_false hx1
            by_cases hx2 : 1125899906842624 < pi
            · have e3 : decide (1125899906842624 < pi) = true := decide_eq_true hx2
              have HE : Hid (chkE N l xs ps = 2) := Lib.hid (chkE_bad H0.out HPL.out HLT.out (by rw [HPI.out, HFB.out, e3, Bool.or_true]))
              clear hx1 hx2 HFB
              go_wp2_with fail
              go_ret2
              exact ⟨.inl ⟨by rw [HE.out]; decide, by rw [HE.out]; rfl⟩, below_t HB1.out HB.out⟩
            · have e3 : decide (1125899906842624 < pi) = false := decide_eq_false hx2
              have HGD : Hid (farB pi = false) := Lib.hid (by rw [HFB.out, e2, e3]; rfl)
              clear hx1 hx2 HFB
              go_wp2_with fail
              go_roundg (ps.length - (i + 1))
              case measure => have := HI.out; have := HLT.out; omega
              case rel => exact ⟨i + 1, by go_num, Lib.hid (by have := HI.out; have := HLT.out; omega), Lib.hid (fun j hj => by
                by_cases e : j = i
                · subst e; rw [HPI.out]; exact HGD.out
                · exact HA.out j (by omega)), HB⟩
        · have HALL : Hid (∀ j, j < ps.length → farB (ps.getD j 0) = false) := Lib.hid (fun j hj => HA.out j (by omega))
          have HE : Hid (chkE N l xs ps = 0) := Lib.hid (chkE_of H0.out HPL.out HALL.out)
          have HST := Lib.hid (steps_any wv (HN.out.below HB.out) (by have := HOK.out.m1; omega) HOK.out.cap HV.out)
          have hnl : ¬ (i : Int) < ps.length := by omega
          clear hlt
          go_wp2_with fail
          refine HST.out.mono ?_
          rintro e w2 ⟨v, rfl, hR, hb2⟩
          obtain ⟨AS, cS, rfl, hlS, hCS⟩ := Kd.R_reads hR
          have HCS : Hid (∀ W, Below w2.heap.size w2 W → Kd.C k103 W AS (stepsF (arcF l) (xsF xs) l.length).length (stepsF (arcF l) (xsF xs) l.length)) := Lib.hid (fun W hW => Kd.C_below hCS hW)
          have HB2 := Lib.hid (below_t HB.out hb2)
          have HSt := Lib.hid (HOK.out.steps (xsF xs))
          have HLEN := Lib.hid (stepsF_len (arcF l) (xsF xs) l.length)
          have HRES : Hid (∀ s, s ∈ stepsF (arcF l) (xsF xs) l.length ↔ Res l.length (arcF l) (xsF xs) s) := Lib.hid (fun s => mem_stepsF)
          clear hR hlS hCS hb2 HST
          generalize hall : stepsF (arcF l) (xsF xs) l.length = all at *
          clear hall
          go_wp2_with fail
          go_loopg [15, 46] all.length (fun k v15 v46 wr => ∃ t : Nat, v46 = .int .i64 t ∧ Hid (t + k = all.length) ∧ Hid (∀ s ∈ all.take t, psF ps (tow (arcF l) s) ≤ psF ps (frm (arcF l) s) + cst (arcF l) s) ∧ Hid (Below w2.heap.size w2 wr))
          case atStart => exact ⟨0, rfl, Lib.hid (by omega), Lib.hid (fun s hs => by simp at hs), Lib.hid (Below.refl _ _)⟩
          case round =>
            obtain ⟨t, rfl, HT, HFE, HBR⟩ := hrel
            obtain ⟨wx, rfl⟩ : ∃ wx : World, wx = wr := ⟨_, rfl⟩
            by_cases hlt : t < all.length
            · obtain ⟨s, hs⟩ : ∃ s, all[t]? = some s := ⟨_, List.getElem?_eq_getElem hlt⟩
              have ht0 : (t : Int) < all.length := by omega
              obtain ⟨ad, rfl, k0, k1⟩ := at_T103 (HCS.out wx HBR.out) (t : Int) (by omega) ht0
              have es : rd_T103 all (t : Int) = s := by unfold rd_T103; rw [Int.toNat_natCast, List.getD_eq_getElem?_getD, hs]; rfl
              rw [es, Int.toNat_natCast] at k0 k1
              have hm := List.mem_of_getElem? hs
              obtain ⟨a1, a2, a3, a4, a5, a6, a7⟩ := HSt.out s hm
              have hrs := ((HRES.out s).1 hm).1
              have HRS := Lib.hid hrs
              have hw : IntKind.i64.wrap ((t : Int) + 1) = t + 1 := IntWalk.i64_in _ (by have := HLEN.out; have := HOK.out.m1; omega)
              have HTK : Hid (all.take (t + 1) = all.take t ++ [s]) := Lib.hid (by rw [List.take_add_one, hs]; rfl)
              have HLT := Lib.hid hlt
              have HCO := Lib.hid (HOK.out.cost s.f0.toNat (by omega))
              have hal := below_alloc (Below.refl wx.heap.size wx) (.cells #[.int .i64 s.f0, .bool s.f1] 103 (0, 0))
              have hA4 := Blk.new wx #[.int .i64 s.f0, .bool s.f1] 103
              clear es hm hrs hs hlt a5
              go_upto_region 15 with (fail)
              generalize wx.alloc (.cells #[.int .i64 s.f0, .bool s.f1] 103 (0, 0)) = wb at *
              have hb21 := below_t HBR.out hal
              have hb11 := below_t HB1.out (below_t HB2.out hb21)
              have c0 := Blk.cell hA4 0 (v := .int .i64 s.f0) rfl
              have c1' := Blk.cell hA4 1 (v := .bool s.f1) rfl
              obtain ⟨pd, rfl, q0⟩ := Kd.at_int (Kd.C_below H3.out hb11) (tow (arcF l) s) a3 (by have := HPL.out; omega)
              obtain ⟨pd', e', q1⟩ := Kd.at_int (Kd.C_below H3.out hb11) (frm (arcF l) s) a1 (by have := HPL.out; omega)
              obtain rfl := Option.some.inj e'
              have et : rd ps (tow (arcF l) s) = psF ps (tow (arcF l) s) := rfl
              have ef : rd ps (frm (arcF l) s) = psF ps (frm (arcF l) s) := rfl
              rw [et] at q0
              rw [ef] at q1
              have pt := farB_bd (HALL_at HALL.out a3 (by have := HPL.out; omega) : farB (psF ps (tow (arcF l) s)) = false)
              have pf := farB_bd (HALL_at HALL.out a1 (by have := HPL.out; omega) : farB (psF ps (frm (arcF l) s)) = false)
              have hw2 : IntKind.i64.wrap (psF ps (frm (arcF l) s) + cst (arcF l) s) = psF ps (frm (arcF l) s) + cst (arcF l) s := IntWalk.i64_in _ (by omega)
              have HN5 := Lib.hid (HN.out.below (below_t HB2.out hb21))
              have HB21 := Lib.hid hb21
              have t0 : tow (arcF l) s < ps.length := by have := HPL.out; omega
              have f0 : frm (arcF l) s < ps.length := by have := HPL.out; omega
              clear hal hA4 hb21 hb11 e' et ef pt pf k0 k1 a6 a7
              generalize hpT : psF ps (tow (arcF l) s) = pT at *
              generalize hpF : psF ps (frm (arcF l) s) = pF at *
              have HPT := Lib.hid hpT
              have HPF := Lib.hid hpF
              clear hpT hpF
              have S0 := keepC c0 c1' q0 q1 ((Below.refl _ wb).drew)
              have r0 := HRS.out.1
              have r1 := HRS.out.2
              generalize hgt : decide (pF + cst (arcF l) s < pT) = gt at *
              have HGT := Lib.hid hgt
              go_cut [66] (fun s66 wy => s66 = .bool gt ∧ Below wb.heap.size wb wy)
              case first =>
                go_region_held3 (fun w' => w'.cell? ⟨wx.heap.size, 0, none⟩ = some (.int .i64 s.f0) ∧ w'.cell? ⟨wx.heap.size, 1, none⟩ = some (.bool s.f1) ∧ w'.cell? (pd.add (tow (arcF l) s).toNat) = some (.int .i64 pT) ∧ w'.cell? (pd.add (frm (arcF l) s).toNat) = some (.int .i64 pF) ∧ Below wb.heap.size wb w')
                  (first | (with_reducible exact S0) | (with_reducible exact S7) | (with_reducible exact S6) | (with_reducible exact S5) | (trace_state; fail))
                  (first
                    | (go_at_call 69; refine (to_any wb.drew (HN5.out.below S0.2.2.2.2) s r0 r1).mono ?_; rintro e w5 ⟨rfl, hb5⟩; have S5 := keepC c0 c1' q0 q1 (S0.2.2.2.2.trans hb5))
                    | (go_at_call 70; refine (from_any w5 (HN5.out.below S5.2.2.2.2) s r0 r1).mono ?_; rintro e w6 ⟨rfl, hb6⟩; have S6 := keepC c0 c1' q0 q1 (S5.2.2.2.2.trans (hb6.mono S5.2.2.2.2.size)))
                    | (go_at_call 71; refine (cost_any w6 (HN5.out.below S6.2.2.2.2) s r0 r1 HCO.out).mono ?_; rintro e w7 ⟨rfl, hb7⟩; have S7 := keepC c0 c1' q0 q1 (S6.2.2.2.2.trans (hb7.mono S6.2.2.2.2.size))))
                all_goals
                  go_wp2_with fail
                  go_meet
                  exact ⟨by rw [← hgt], S7.2.2.2.2⟩
              case rest =>
                obtain ⟨rfl, hbx⟩ := hcut
                obtain ⟨w5, rfl⟩ : ∃ w5 : World, w5 = wc := ⟨_, rfl⟩
                have HB5 := Lib.hid (below_t HB21.out hbx)
                clear hbx S0 hgt c0 c1' q0 q1 hw2
                cases gt with
                | true =>
                  have HNF : Hid (¬ Feas l.length (arcF l) (xsF xs) (psF ps)) := Lib.hid (fun h => by
                    have h1 := of_decide_eq_true HGT.out
                    have hm : s ∈ all := by
                      have := HTK.out
                      exact List.mem_of_mem_take (by rw [this]; exact List.mem_append_right _ (List.mem_singleton.2 rfl) : s ∈ all.take (t + 1))
                    have h2 := h s ((HRES.out s).1 hm)
                    rw [HPT.out, HPF.out] at h2
                    omega)
                  go_wp2_with fail
                  go_ret2
                  exact ⟨.inr ⟨HE.out, false, rfl, ⟨fun h => absurd h (by simp), fun h => absurd h HNF.out⟩⟩, below_t HB1.out (below_t HB2.out HB5.out)⟩
                | false =>
                  go_wp2_with fail
                  go_roundg (all.length - (t + 1))
                  case measure => have := HT.out; have := HLT.out; omega
                  case rel => exact ⟨t + 1, by go_num, Lib.hid (by have := HT.out; have := HLT.out; omega), Lib.hid (fun r hr => by
                    rw [HTK.out] at hr
                    rcases List.mem_append.1 hr with h | h
                    · exact HFE.out r h
                    · rw [List.mem_singleton] at h
                      subst h
                      rw [HPT.out, HPF.out]
                      have := of_decide_eq_false HGT.out
                      omega), HB5⟩
            · have hnl2 : ¬ (t : Int) < all.length := by omega
              have HYES : Hid (Feas l.length (arcF l) (xsF xs) (psF ps)) := Lib.hid (fun s hs => HFE.out s (by rw [List.take_of_length_le (by omega)]; exact (HRES.out s).2 hs))
              clear hlt
              go_wp2_with fail
              go_ret2
              exact ⟨.inr ⟨HE.out, true, rfl, ⟨fun _ => HYES.out, fun _ => rfl⟩⟩, below_t HB1.out (below_t HB2.out HBR.out)⟩
    · have e1 : ((ps.length : Int) != (N : Int)) = true := by simp; omega
      have HE : Hid (chkE N l xs ps = 2) := Lib.hid (chkE_len H0.out hpl)
      clear hpl
      go_wp2_with fail
      go_ret2
      exact ⟨.inl ⟨by rw [HE.out]; decide, by rw [HE.out]; rfl⟩, HB1.out⟩
end Go.Proofs.Ytpbndcmmclkdpaa
