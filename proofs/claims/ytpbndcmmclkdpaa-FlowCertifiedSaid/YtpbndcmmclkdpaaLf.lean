/-
  FlowCertified.
-/
import Derived.Test.YtpbndcmmclkdpaaQh
import Derived.Test.YtpbndcmmclkdpaaLc
namespace Go.Proofs.Ytpbndcmmclkdpaa
open PFlowSolves
open Go.RowKit Go.Proofs.YtpbndcmmclkdpaaW.PrintWords
/-- Potentials where there are some. -/
theorem pots_ok (w : World) (n : Int) (A1 : Option Addr) (c1 : Nat) (l : List Ar) (h1 : Kd.C k44 w A1 l.length l) (hc1 : l.length ≤ c1) (A2 : Option Addr) (c2 : Nat) (xs : List Int) (h2 : Kd.C (Kd.int .i64) w A2 xs.length xs) (h0 : amtE n l xs = 0) (hq : ∃ q, Feas l.length (arcF l) (xsF xs) q) :
    Calls Try.prog 35 #[.int .i64 n, .slice A1 l.length c1, .slice A2 xs.length c2] w fun e w' => ∃ b ps, (e = .returned (.tuple #[.slice (some ⟨b, 0, none⟩) ps.length ps.length, .int .i64 0]) ∧ Kd.C (Kd.int .i64) w' (some ⟨b, 0, none⟩) ps.length ps ∧ chkE n l xs ps = 0 ∧ Feas l.length (arcF l) (xsF xs) (psF ps)) ∧ Below w.heap.size w w' := by
  obtain ⟨g1, g2, g3⟩ := amtE_ok h0
  obtain ⟨k1, k2, k3, _⟩ := netE_range g1
  have hok := netE_ok g1
  have hS := hok.steps (xsF xs)
  have hqL : ∃ q, FeasL (arcF l) (stepsF (arcF l) (xsF xs) l.length) q := by obtain ⟨q, h⟩ := hq; exact ⟨q, feasL_iff.2 h⟩
  refine (pots_any w n A1 c1 l h1 hc1 A2 c2 xs h2).mono ?_
  rintro e w' ⟨hpost, hb⟩
  rcases hpost with ⟨h, _⟩ | ⟨_, ⟨j, b, hj, hfe, _, rfl, ht⟩ | ⟨hno, _⟩⟩
  · exact absurd h0 h
  · obtain ⟨ps, hpl, hpv, hpC⟩ := TI_list ht (by omega)
    refine ⟨b, ps, ⟨by rw [hpl], hpC, chkE_of h0 (by omega) fun i hi => ?_, fun s hs => ?_⟩, hb⟩
    · rw [hpv i (by omega)]
      have h2 := swpPs_ge hS (by omega) hqL j i (by omega) (by omega)
      have h3 := swpPs_le (arcF l) (stepsF (arcF l) (xsF xs) l.length) j i
      unfold farB
      rw [decide_eq_false (by omega), decide_eq_false (by omega)]
      rfl
    · obtain ⟨a1, a2, a3, a4, _⟩ := hS s (mem_stepsF.2 hs)
      have e1 : psF ps (tow (arcF l) s) = swpPs (arcF l) (stepsF (arcF l) (xsF xs) l.length) j (tow (arcF l) s) := by
        have := hpv (tow (arcF l) s).toNat (by omega)
        rw [Int.toNat_of_nonneg a3] at this
        exact this
      have e2 : psF ps (frm (arcF l) s) = swpPs (arcF l) (stepsF (arcF l) (xsF xs) l.length) j (frm (arcF l) s) := by
        have := hpv (frm (arcF l) s).toNat (by omega)
        rw [Int.toNat_of_nonneg a1] at this
        exact this
      rw [e1, e2]
      exact hfe s (mem_stepsF.2 hs)
  · exact absurd (swpPs_fix hS hqL) (hno n.toNat (Nat.le_refl _))
theorem check_yes (w : World) (n : Int) (A1 : Option Addr) (c1 : Nat) (l : List Ar) (h1 : Kd.C k44 w A1 l.length l) (hc1 : l.length ≤ c1) (A2 : Option Addr) (c2 : Nat) (xs : List Int) (h2 : Kd.C (Kd.int .i64) w A2 xs.length xs) (A3 : Option Addr) (c3 : Nat) (ps : List Int) (h3 : Kd.C (Kd.int .i64) w A3 ps.length ps)
    (h0 : chkE n l xs ps = 0) (hf : Feas l.length (arcF l) (xsF xs) (psF ps)) :
    Calls Try.prog 40 #[.int .i64 n, .slice A1 l.length c1, .slice A2 xs.length c2, .slice A3 ps.length c3] w fun e w' => e = .returned (.tuple #[.bool true, .int .i64 0]) ∧ Below w.heap.size w w' := by
  refine (check_any w n A1 c1 l h1 hc1 A2 c2 xs h2 A3 c3 ps h3).mono ?_
  rintro e w' ⟨hpost, hb⟩
  rcases hpost with ⟨h, _⟩ | ⟨_, r, rfl, hr⟩
  · exact absurd h0 h
  · exact ⟨by rw [hr.2 hf], hb⟩
set_option maxRecDepth 100000 in
set_option maxHeartbeats 8000000 in
theorem certified_law {n : Int} (_ : (Lit.int .i64 n).wf = true) (A1 : Option Addr) (c1 : Nat) (l : List Ar) (hc1 : l.length ≤ c1) (_ : c1 ≤ 9223372036854775807) {w : World} (h1 : Kd.C k44 w A1 l.length l) (_ : ∀ a ∈ l, (Lit.int .i64 a.f0).wf = true ∧ (Lit.int .i64 a.f1).wf = true ∧ (Lit.int .i64 a.f2).wf = true ∧ (Lit.int .i64 a.f3).wf = true)
    (A2 : Option Addr) (c2 : Nat) (xs : List Int) (hc2 : xs.length ≤ c2) (_ : c2 ≤ 9223372036854775807) (h2 : Kd.C (Kd.int .i64) w A2 xs.length xs) (_ : ∀ a ∈ xs, (Lit.int .i64 a).wf = true)
    (A3 : Option Addr) (c3 : Nat) (ys : List Int) (hc3 : ys.length ≤ c3) (_ : c3 ≤ 9223372036854775807) (h3 : Kd.C (Kd.int .i64) w A3 ys.length ys) (_ : ∀ a ∈ ys, (Lit.int .i64 a).wf = true)
    (A4 : Option Addr) (c4 : Nat) (ps : List Int) (hc4 : ps.length ≤ c4) (_ : c4 ≤ 9223372036854775807) (h4 : Kd.C (Kd.int .i64) w A4 ps.length ps) (_ : ∀ a ∈ ps, (Lit.int .i64 a).wf = true) :
    Calls Try.prog 13 #[.int .i64 n, .slice A1 l.length c1, .slice A2 xs.length c2, .slice A3 ys.length c3, .slice A4 ps.length c4] w fun e w' => e = .returned (.bool true) ∧ Below w.heap.size w w' := by
  have HFEW := Lib.hid (few_any w A1 c1 l h1 hc1 A2 c2 xs h2 hc2)
  have H1 := Lib.hid h1
  have H2 := Lib.hid h2
  have H3 := Lib.hid h3
  have H4 := Lib.hid h4
  clear h1 h2 h3 h4
  go_enter Try.func13, Try.ntmps13
  go_wp2_with fail
  refine HFEW.out.mono ?_
  rintro e w1 ⟨rfl, hb1⟩
  have HB1 := Lib.hid hb1
  have HAL := Lib.hid (alive_any w1)
  clear hb1 HFEW
  cases hf : fewB l xs with
  | false =>
    clear hf
    go_wp2_with fail
    refine HAL.out.mono ?_
    rintro e w2 ⟨rfl, hb2⟩
    have HB2 := Lib.hid (below_t HB1.out hb2)
    clear hb2
    go_wp2_with fail
    go_ret
    exact ⟨rfl, HB2.out⟩
  | true =>
    have HFE := Lib.hid (fewB_iff.1 hf)
    clear hf
    by_cases hl1 : 140 < ys.length
    · have e1 : decide ((140 : Int) < ys.length) = true := decide_eq_true (by omega)
      clear hl1
      go_wp2_with fail
      refine HAL.out.mono ?_
      rintro e w2 ⟨rfl, hb2⟩
      have HB2 := Lib.hid (below_t HB1.out hb2)
      clear hb2
      go_wp2_with fail
      go_ret
      exact ⟨rfl, HB2.out⟩
    have e1 : decide ((140 : Int) < ys.length) = false := decide_eq_false (by omega)
    have HYL := Lib.hid hl1
    clear hl1
    by_cases hl2 : 140 < ps.length
    · have e2 : decide ((140 : Int) < ps.length) = true := decide_eq_true (by omega)
      clear hl2
      go_wp2_with fail
      refine HAL.out.mono ?_
      rintro e w2 ⟨rfl, hb2⟩
      have HB2 := Lib.hid (below_t HB1.out hb2)
      clear hb2
      go_wp2_with fail
      go_ret
      exact ⟨rfl, HB2.out⟩
    have e2 : decide ((140 : Int) < ps.length) = false := decide_eq_false (by omega)
    have HSV := Lib.hid (solve_two w1 n A1 c1 l (Kd.C_below H1.out HB1.out) hc1 A2 c2 xs (Kd.C_below H2.out HB1.out) hc2)
    clear hl2 HAL
    go_wp2_with fail
    refine HSV.out.mono ?_
    rintro e w2 ⟨hpost, hb2⟩
    have HB2 := Lib.hid (below_t HB1.out hb2)
    clear hb2 HSV
    rcases hpost with ⟨er, rfl, href⟩ | ⟨ga, x, rfl, ht, _, hso⟩
    case' inl =>
      have e3 : (er == 0) = false := by simp [href.1]
      have HBX := Lib.hid (below_al HB2.out (.cells #[.slice none 0 0, .int .i64 0] 29 (0, 0)))
      clear href HB2
      go_upto_region 9 with (fail)
      generalize w2.alloc (.cells #[.slice none 0 0, .int .i64 0] 29 (0, 0)) = wk at *
    case' inr =>
      obtain ⟨hE, hv, ⟨p, hfe, _⟩, _⟩ := hso
      obtain ⟨g1, _⟩ := needE_ok hE
      have hlen := (netE_range g1).2.2.1
      obtain ⟨zs, hzl, hzv, hzC⟩ := TI_list ht (by omega)
      have hz0 : amtE n l zs = 0 := amtE_of g1 hzl (fun i hi => by show 0 ≤ zs.getD i 0 ∧ zs.getD i 0 ≤ _; rw [hzv i hi]; exact hv i hi)
      have hzf : ∃ q, Feas l.length (arcF l) (xsF zs) q := ⟨p, fun s hs => hfe s (by
        obtain ⟨⟨h0, h1⟩, h2⟩ := hs
        refine ⟨⟨h0, h1⟩, ?_⟩
        have e : xsF zs s.f0.toNat = x s.f0.toNat := hzv s.f0.toNat (by omega)
        unfold spr at h2 ⊢
        rw [e] at h2
        exact h2)⟩
      have hBa := below_al HB2.out (.cells #[.slice (some ⟨ga, 0, none⟩) l.length l.length, .int .i64 (costF l.length (arcF l) x)] 29 (0, 0))
      have hala := below_alloc (Below.refl w2.heap.size w2) (.cells #[.slice (some ⟨ga, 0, none⟩) l.length l.length, .int .i64 (costF l.length (arcF l) x)] 29 (0, 0))
      have hF3 := Blk.new w2 #[.slice (some ⟨ga, 0, none⟩) l.length l.length, .int .i64 (costF l.length (arcF l) x)] 29
      have hP := pots_ok (w2.alloc (.cells #[.slice (some ⟨ga, 0, none⟩) l.length l.length, .int .i64 (costF l.length (arcF l) x)] 29 (0, 0))) n A1 c1 l (Kd.C_below H1.out hBa) hc1 (some ⟨ga, 0, none⟩) l.length zs (Kd.C_below hzC hala) hz0 hzf
      rw [hzl] at hP
      have HP := Lib.hid hP
      have f0 := Blk.cell hF3 0 (v := .slice (some ⟨ga, 0, none⟩) l.length l.length) rfl
      have HF3 := Lib.hid hF3
      have HZC := Lib.hid (Kd.C_below hzC hala)
      have HZL := Lib.hid hzl
      have HBA := Lib.hid hBa
      clear hE hv hfe g1 hlen hzl hzv hzC hz0 hzf hBa hala hF3 hP ht
      go_wp2_with fail
      refine HP.out.mono ?_
      rintro e w3 ⟨b, qs, ⟨rfl, hqC, hq0, hqf⟩, hb3⟩
      have hB3 := below_t HBA.out hb3
      have hK := check_yes w3 n A1 c1 l (Kd.C_below H1.out hB3) hc1 (some ⟨ga, 0, none⟩) l.length zs (Kd.C_below HZC.out hb3) (some ⟨b, 0, none⟩) qs.length qs hqC hq0 hqf
      rw [HZL.out] at hK
      have HK := Lib.hid hK
      have f0 := Blk.cell (HF3.out.fr (Fr.of_below hb3 (fun _ => False)) (fun a => a)) 0 (v := .slice (some ⟨ga, 0, none⟩) l.length l.length) rfl
      have HB3 := Lib.hid hB3
      clear HP hqC hq0 hqf hb3 hB3 hK HF3 HZC HZL
      go_wp2_with fail
      refine HK.out.mono ?_
      rintro e w4 ⟨rfl, hb4⟩
      have HBX := Lib.hid (below_t HB3.out hb4)
      clear HK hb4 f0 HB3 HBA HB2
      go_upto_region 9 with (fail)
      obtain ⟨wk, rfl⟩ : ∃ wk : World, wk = w4 := ⟨_, rfl⟩
    all_goals
      have HCK := Lib.hid (check_any wk n A1 c1 l (Kd.C_below H1.out HBX.out) hc1 A3 c3 ys (Kd.C_below H3.out HBX.out) A4 c4 ps (Kd.C_below H4.out HBX.out))
      go_wp2_with fail
      refine HCK.out.mono ?_
      rintro e w5 ⟨hpost, hb5⟩
      have HB5 := Lib.hid (below_t HBX.out hb5)
      have HAL := Lib.hid (alive_any w5)
      clear HCK hb5
      rcases hpost with ⟨h0, rfl⟩ | ⟨h0, r, rfl, hr⟩
      · have e5 : (chkE n l ys ps != 0) = true := by simp [h0]
        clear h0
        go_wp2_with fail
        refine HAL.out.mono ?_
        rintro e w6 ⟨rfl, hb6⟩
        have HB6 := Lib.hid (below_t HB5.out hb6)
        clear hb6
        go_wp2_with fail
        go_ret
        exact ⟨rfl, HB6.out⟩
      · cases r with
        | false =>
          clear hr h0
          go_wp2_with fail
          refine HAL.out.mono ?_
          rintro e w6 ⟨rfl, hb6⟩
          have HB6 := Lib.hid (below_t HB5.out hb6)
          clear hb6
          go_wp2_with fail
          go_ret
          exact ⟨rfl, HB6.out⟩
        | true =>
          have HFEA := Lib.hid (hr.1 rfl)
          obtain ⟨g0, _, _⟩ := chkE_ok h0
          obtain ⟨g1, g2, g3⟩ := amtE_ok g0
          obtain ⟨k1, k2, k3, _⟩ := netE_range g1
          have hok := netE_ok g1
          obtain ⟨N, hN⟩ : ∃ N : Nat, n = N := ⟨n.toNat, by omega⟩
          subst hN
          rw [Int.toNat_natCast] at hok
          have HBA := Lib.hid (balance2_any w5 N A1 c1 l (Kd.C_below H1.out HB5.out) hc1 A3 c3 ys (Kd.C_below H3.out HB5.out))
          have HOK := Lib.hid hok
          have HVY := Lib.hid g3
          have HLE := Lib.hid g2
          have H0 := Lib.hid g0
          clear hr h0 g0 g1 g2 g3 k1 k2 k3 hok HAL
          go_wp2_with fail
          refine HBA.out.mono ?_
          rintro e w6 ⟨hpost, hb6⟩
          have HB6 := Lib.hid (below_t HB5.out hb6)
          clear hb6 HBA
          rcases hpost with ⟨h, _⟩ | ⟨_, b, rfl, ht⟩
          · exact absurd H0.out h
          · rw [Int.toNat_natCast] at ht ⊢
            obtain ⟨bs, hbl, hbe, hbc⟩ := TI_list ht (by have := HOK.out.n2; omega)
            have hS := solve_bal w6 N A1 c1 l (Kd.C_below H1.out HB6.out) hc1 ys H0.out (some ⟨b, 0, none⟩) N bs hbc (by omega) hbl hbe
            rw [hbl] at hS
            have HSV := Lib.hid hS
            clear hS hbl hbe hbc ht
            go_wp2_with fail
            refine HSV.out.mono ?_
            rintro e w7 ⟨⟨gb, z, rfl, _, _, hle, _, hlt⟩, hb7⟩
            have HCE : Hid (costF l.length (arcF l) z = costF l.length (arcF l) (xsF ys)) := Lib.hid (by
              rcases Int.lt_or_eq_of_le hle with h | h
              · exact absurd ⟨_, HFEA.out⟩ (hlt h)
              · exact h)
            have hB7 := below_al (below_t HB6.out hb7) (.cells #[.slice (some ⟨gb, 0, none⟩) l.length l.length, .int .i64 (costF l.length (arcF l) z)] 29 (0, 0))
            have hF7 := Blk.new w7 #[.slice (some ⟨gb, 0, none⟩) l.length l.length, .int .i64 (costF l.length (arcF l) z)] 29
            have HB7 := Lib.hid hB7
            clear hb7 hle hlt HSV hB7
            go_upto_region 14 with (fail)
            generalize w7.alloc (.cells #[.slice (some ⟨gb, 0, none⟩) l.length l.length, .int .i64 (costF l.length (arcF l) z)] 29 (0, 0)) = w8 at *
            generalize w7.heap.size = bf at *
            have f1 := Blk.cell hF7 1 (v := .int .i64 (costF l.length (arcF l) z)) rfl
            have HCO := Lib.hid (fun (W : World) (hW : Below w8.heap.size w8 W) => rcost_any W A1 c1 l (Kd.C_below H1.out (below_t HB7.out hW)) hc1 A3 c3 ys (Kd.C_below H3.out (below_t HB7.out hW)) hc3 HOK.out HVY.out (by have := HLE.out; omega))
            have HKP := Lib.hid (show ∀ W, Below w8.heap.size w8 W → W.cell? ⟨bf, 1, none⟩ = some (.int .i64 (costF l.length (arcF l) z)) ∧ Below w8.heap.size w8 W from fun W hW =>
              ⟨(Fr.of_below hW (fun _ => False)).cell f1 (fun a => a), hW⟩)
            have e6 : (costF l.length (arcF l) z == costF l.length (arcF l) (xsF ys)) = true := beq_iff_eq.2 HCE.out
            generalize costF l.length (arcF l) z = cz at *
            generalize costF l.length (arcF l) (xsF ys) = cy at *
            have S0 := HKP.out _ ((Below.refl _ w8).drew)
            clear hF7 f1
            go_region_held3 (fun W => W.cell? ⟨bf, 1, none⟩ = some (.int .i64 cz) ∧ Below w8.heap.size w8 W)
              (first | (with_reducible exact S0) | (with_reducible exact S5) | (with_reducible exact S6) | (trace_state; fail))
              (first
                | (go_at_call 27; refine (HCO.out w8.drew S0.2).mono ?_; rintro e w9 ⟨rfl, hb9⟩; have S5 := HKP.out _ (S0.2.trans hb9))
                | (go_at_call 18; refine (alive_any w9).mono ?_; rintro e w10 ⟨rfl, hb10⟩; have S6 := HKP.out _ (S5.2.trans (hb10.mono S5.2.size))))
            all_goals
              go_wp2_with fail
              go_ret
              exact ⟨rfl, below_t HB7.out S6.2⟩
end Go.Proofs.Ytpbndcmmclkdpaa
