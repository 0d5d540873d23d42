/-
  The law FlowFills.
-/
import Derived.Test.YtpbndcmmclkdpaaZXl
namespace Go.Proofs.Ytpbndcmmclkdpaa
open PFlowSolves
open Go.RowKit Go.Proofs.YtpbndcmmclkdpaaW.PrintWords
set_option maxRecDepth 100000 in
set_option maxHeartbeats 8000000 in
theorem fills_law (A1 : Option Addr) (c1 : Nat) (ps : List S49) (_ : ps.length ≤ c1) (_ : c1 ≤ 9223372036854775807) {w : World} (h1 : Kd.C k49 w A1 ps.length ps) (_ : ∀ x ∈ ps, (Lit.int .i64 x.f0).wf = true ∧ (Lit.int .i64 x.f1).wf = true ∧ (Lit.int .i64 x.f2).wf = true ∧ (Lit.int .i64 x.f3).wf = true ∧ (Lit.int .i64 x.f4).wf = true)
    (A2 : Option Addr) (c2 : Nat) (ws : List S51) (_ : ws.length ≤ c2) (_ : c2 ≤ 9223372036854775807) (h2 : Kd.C k51 w A2 ws.length ws) (_ : ∀ x ∈ ws, (Lit.int .i64 x.f0).wf = true ∧ (Lit.int .i64 x.f1).wf = true ∧ (Lit.int .i64 x.f2).wf = true ∧ (Lit.int .i64 x.f3).wf = true ∧ (Lit.int .i64 x.f4).wf = true ∧ (Lit.int .i64 x.f5).wf = true) (T : Nat → Int) :
    Calls Try.prog 14 #[.slice A1 ps.length c1, .slice A2 ws.length c2, vTar T] w fun e w' => e = .returned (.bool true) ∧ Below w.heap.size w w' := by
  have HAL := Lib.hid (fun W => alive_any W)
  have H1 := Lib.hid h1
  have H2 := Lib.hid h2
  have HBX := Lib.hid (Blk.new w (tarL T).toArray 67)
  have HB0 := Lib.hid (below_alloc (Below.refl w.heap.size w) (.cells (tarL T).toArray 67 (0, 0)))
  clear h1 h2
  go_enter Try.func14, Try.ntmps14
  go_upto_region 1 with (fail)
  generalize w.alloc (.cells (tarL T).toArray 67 (0, 0)) = w1 at *
  by_cases h0 : 20 < ps.length ∨ 20 < ws.length
  · have e3 : Hid True := Lib.hid trivial
    by_cases g : 20 < ps.length
    · have e1 : decide ((20 : Int) < ps.length) = true := decide_eq_true (by omega)
      clear h0 g
      go_wp2_with fail
      refine (HAL.out w1).mono ?_
      rintro e w2 ⟨rfl, hb⟩
      have HB2 := Lib.hid (below_t HB0.out hb)
      clear hb
      go_wp2_with fail
      go_ret
      exact ⟨rfl, HB2.out⟩
    · have e1 : decide ((20 : Int) < ps.length) = false := decide_eq_false (by omega)
      have e2 : decide ((20 : Int) < ws.length) = true := decide_eq_true (by omega)
      clear h0 g
      go_wp2_with fail
      refine (HAL.out w1).mono ?_
      rintro e w2 ⟨rfl, hb⟩
      have HB2 := Lib.hid (below_t HB0.out hb)
      clear hb
      go_wp2_with fail
      go_ret
      exact ⟨rfl, HB2.out⟩
  · have e1 : decide ((20 : Int) < ps.length) = false := decide_eq_false (by omega)
    have e2 : decide ((20 : Int) < ws.length) = false := decide_eq_false (by omega)
    have HLM : Hid (ps.length ≤ 20 ∧ ws.length ≤ 20 ∧ ps.length * ws.length ≤ 400) := Lib.hid ⟨by omega, by omega, Nat.mul_le_mul (show ps.length ≤ 20 by omega) (show ws.length ≤ 20 by omega)⟩
    clear h0
    have HRG := Lib.hid (range67 HBX.out)
    have HF := Lib.hid (fill_any w1 A1 c1 ps (Kd.C_below H1.out HB0.out) A2 c2 ws (Kd.C_below H2.out HB0.out) T)
    go_upto_region 3 with (fail)
    clear e1 e2
    go_wp2_with (refine wpList_load_mid rfl 67 _ rfl w.heap.size 0 rfl (tarL T) _ HRG.out Try.underlying67 rfl info67 ?_)
    go_wp2_with fail
    refine HF.out.mono ?_
    rintro e w2 ⟨hpost, hb⟩
    have HB2 := Lib.hid hb
    clear hb HF
    rcases hpost with ⟨hE, rfl⟩ | ⟨hE, hb, r, x, p, rfl, hRM, hRO, hFE, hLE⟩
    · have hal := below_alloc (Below.refl w2.heap.size w2) (.cells #[.slice none 0 0, .int .i64 0, .int .i64 0] 70 (0, 0))
      have HK := Lib.hid (Blk.new w2 #[.slice none 0 0, .int .i64 0, .int .i64 0] 70)
      have HE := Lib.hid hE
      go_upto_region 4 with (fail)
      generalize w2.alloc (.cells #[.slice none 0 0, .int .i64 0, .int .i64 0] 70 (0, 0)) = w3 at *
      have HB3 := Lib.hid (below_t HB2.out hal)
      generalize w2.heap.size = bf at *
      clear hal
      have HB13 := Lib.hid (below_t HB0.out HB3.out)
      have HRG3 := Lib.hid (range67 (HBX.out.fr (Fr.of_below HB3.out (fun _ => False)) (fun a => a)))
      have HRF := Lib.hid (rfills_any w3 A1 c1 ps (Kd.C_below H1.out HB13.out) A2 c2 ws (Kd.C_below H2.out HB13.out) T)
      generalize fillE ps ws T = er at *
      go_wp2_with (refine wpList_load_mid rfl 67 _ rfl w.heap.size 0 rfl (tarL T) _ HRG3.out Try.underlying67 rfl info67 ?_)
      go_wp2_with fail
      refine HRF.out.mono ?_
      rintro e w4 ⟨rfl, hb⟩
      have HB4 := Lib.hid (below_t HB13.out hb)
      have HK4 := Lib.hid (HK.out.fr (Fr.of_below hb (fun _ => False)) (fun a => a))
      have c0 := Blk.cell HK4.out 0 (v := .slice none 0 0) rfl
      have c1' := Blk.cell HK4.out 1 (v := .int .i64 0) rfl
      have c2' := Blk.cell HK4.out 2 (v := .int .i64 0) rfl
      have e1 : (er != er) = false := by simp
      have e2 : (er != 0) = true := by simpa using hE
      clear hE hb HRF
      go_wp2_with fail
      refine (HAL.out w4).mono ?_
      rintro e w5 ⟨rfl, hb⟩
      have HB5 := Lib.hid (below_t HB4.out hb)
      clear hb
      go_wp2_with fail
      go_ret
      exact ⟨rfl, HB5.out⟩
    · have HOK := Lib.hid (fillE_ok hE)
      have HOO := Lib.hid (ord_ok hE)
      have HE := Lib.hid hE
      obtain ⟨o, ho⟩ : ∃ o, o = ordOf ps ws T := ⟨_, rfl⟩
      rw [← ho] at hRM hRO hFE hLE HOO ⊢
      have hP : o.P = ps.length := by rw [ho]; rfl
      have hW : o.W = ws.length := by rw [ho]; rfl
      have HO := Lib.hid ho
      have HPW := Lib.hid (And.intro hP hW)
      have hAD := hRO.adm
      obtain ⟨S, Q, hSH⟩ := (hRO.pot hFE).shut HOO.out hAD
      have hBO := hRO.best HOO.out hFE hLE
      rw [hP, hW] at hRM hBO
      obtain ⟨X, hX⟩ : ∃ X, X = o.plan x := ⟨_, rfl⟩
      rw [← hX] at hAD hSH hBO hRM ⊢
      have HAD := Lib.hid hAD
      have HSH := Lib.hid hSH
      have HBO := Lib.hid hBO
      have hrows := hRM.rows (by have := HLM.out; omega) (by have := HLM.out; omega)
      rw [hP]
      clear ho hE hRM hRO hFE hLE hP hW hAD hSH hBO hX
      have HTS : Hid (sumN (o.P * o.W) (o.lift X) = o.tot X) := Lib.hid Ord.sum_lift
      generalize o.tot X = tt at *
      obtain ⟨cc, hcc⟩ : ∃ cc, cc = o.sum X := ⟨_, rfl⟩
      rw [← hcc]
      have HCC := Lib.hid hcc
      clear hcc
      have hal := below_alloc (Below.refl w2.heap.size w2) (.cells #[.slice (some ⟨hb, 0, none⟩) ps.length ps.length, .int .i64 tt, .int .i64 cc] 70 (0, 0))
      have HK := Lib.hid (Blk.new w2 #[.slice (some ⟨hb, 0, none⟩) ps.length ps.length, .int .i64 tt, .int .i64 cc] 70)
      go_upto_region 4 with (fail)
      generalize w2.alloc (.cells #[.slice (some ⟨hb, 0, none⟩) ps.length ps.length, .int .i64 tt, .int .i64 cc] 70 (0, 0)) = w3 at *
      have HB3 := Lib.hid (below_t HB2.out hal)
      have HRW := Lib.hid (Kd.C_below hrows hal)
      generalize w2.heap.size = bf at *
      clear hal hrows
      have HB13 := Lib.hid (below_t HB0.out HB3.out)
      have HRG3 := Lib.hid (range67 (HBX.out.fr (Fr.of_below HB3.out (fun _ => False)) (fun a => a)))
      have HRF := Lib.hid (rfills_any w3 A1 c1 ps (Kd.C_below H1.out HB13.out) A2 c2 ws (Kd.C_below H2.out HB13.out) T)
      rw [HE.out] at HRF
      go_wp2_with (refine wpList_load_mid rfl 67 _ rfl w.heap.size 0 rfl (tarL T) _ HRG3.out Try.underlying67 rfl info67 ?_)
      go_wp2_with fail
      refine HRF.out.mono ?_
      rintro e w4 ⟨rfl, hb4⟩
      have HBk4 := Lib.hid hb4
      have HB14 := Lib.hid (below_t HB13.out hb4)
      have HRG4 := Lib.hid (range67 (HBX.out.fr (Fr.of_below (below_t HB3.out hb4) (fun _ => False)) (fun a => a)))
      have HNT := Lib.hid (net_any w4 A1 c1 ps (Kd.C_below H1.out HB14.out) A2 c2 ws (Kd.C_below H2.out HB14.out) T HE.out)
      rw [← HO.out] at HNT
      clear hb4 HRF HRG3
      go_upto_region 9 with (fail)
      go_wp2_with (refine wpList_load_mid rfl 67 _ rfl w.heap.size 0 rfl (tarL T) _ HRG4.out Try.underlying67 rfl info67 ?_)
      go_wp2_with fail
      refine HNT.out.mono ?_
      rintro e w5 ⟨⟨v, rfl, hR⟩, hb5⟩
      obtain ⟨A3, c3, rfl, hc3, hC3⟩ := R_C2 hR
      rw [netB_len] at hC3 hc3 ⊢
      have HBk5 := Lib.hid (below_t HBk4.out hb5)
      have HC3 := Lib.hid (And.intro hc3 hC3)
      have c0 := Blk.cell (HK.out.fr (Fr.of_below HBk5.out (fun _ => False)) (fun a => a)) 0 (v := .slice (some ⟨hb, 0, none⟩) ps.length ps.length) rfl
      have HCR := Lib.hid (car_plan w5 HOO.out HAD.out HPW.out.1 HPW.out.2 A1 c1 A2 c2 A3 c3 hC3 (some ⟨hb, 0, none⟩) ps.length (Kd.C_below HRW.out HBk5.out))
      clear hb5 HNT HRG4 hR hc3 hC3
      go_wp2_with fail
      refine HCR.out.mono ?_
      rintro e w6 ⟨⟨b, rfl, hT⟩, hb6⟩
      have HBk6 := Lib.hid (below_t HBk5.out hb6)
      have HC6 := Lib.hid (And.intro HC3.out.1 (Kd.C_below HC3.out.2 hb6))
      have HT6 := Lib.hid hT
      clear hb6 HCR hT c0 HC3
      have HB16 := Lib.hid (below_t HB13.out HBk6.out)
      obtain ⟨M, hM⟩ : ∃ M : Nat, M = ps.length * ws.length := ⟨_, rfl⟩
      have hwm : IntKind.i64.wrap ((ps.length : Int) * ws.length) = M := by
        rw [show (ps.length : Int) * ws.length = (M : Int) by rw [hM, Int.natCast_mul]]
        exact IntWalk.i64_in _ (by have := HLM.out; omega)
      have HM : Hid (M = ps.length * ws.length ∧ M ≤ 400 ∧ M ≤ o.mB) := Lib.hid ⟨hM, by have := HLM.out; omega, by rw [hM]; unfold Ord.mB; rw [HPW.out.1, HPW.out.2]; omega⟩
      clear hM
      go_wp2_with fail
      go_loopg [15, 16] M (fun kk v15 v16 wr => ∃ j : Nat, v16 = .int .i64 j ∧ v15 = .int .i64 (sumN j (o.lift X)) ∧ Hid (j + kk = M) ∧ Hid (wr = w6))
      case atStart => exact ⟨0, rfl, rfl, Lib.hid (by omega), Lib.hid rfl⟩
      case round =>
        obtain ⟨j, rfl, rfl, HJ, HW⟩ := hrel
        obtain rfl := HW.out
        clear HW
        by_cases hlt : j < M
        · have hj0 : (j : Int) < M := by omega
          have hjz : (0 : Int) ≤ j := by omega
          have hjm : j < o.mB := by have := HM.out; omega
          have hj1 : (j : Int) < o.mB := by omega
          have x0 := TV.cell HT6.out hjm
          have hw : IntKind.i64.wrap ((j : Int) + 1) = j + 1 := IntWalk.i64_in _ (by have := HM.out; omega)
          have hcap := (Ord.ok_B HOO.out).cap
          have hbd := sumN_box2 (n := j + 1) (f := o.lift X) (B := 1099511627776) (fun t ht => by
            have h1 := HAD.out.valid t (by have := HM.out; omega)
            have h2 := hcap t (by have := HM.out; omega)
            omega)
          have hsn : sumN (j + 1) (o.lift X) = sumN j (o.lift X) + o.lift X j := rfl
          rw [hsn] at hbd
          have hws : IntKind.i64.wrap (sumN j (o.lift X) + o.lift X j) = sumN (j + 1) (o.lift X) := by
            rw [hsn]; exact IntWalk.i64_in _ (by have := HM.out; omega)
          have HLT := Lib.hid hlt
          clear hlt hjm hcap hbd hsn
          go_wp2_with fail
          go_roundg (M - (j + 1))
          case measure => have := HJ.out; have := HLT.out; omega
          case rel => exact ⟨j + 1, by go_num, rfl, Lib.hid (by have := HJ.out; have := HLT.out; omega), Lib.hid rfl⟩
        · have hnl : ¬ (j : Int) < M := by omega
          have hjM : j = M := by have := HJ.out; omega
          have hts := HTS.out
          rw [HPW.out.1, HPW.out.2, ← HM.out.1, ← hjM] at hts
          rw [hts]
          subst hjM
          clear hts hlt HJ hnl
          obtain ⟨w7, rfl⟩ : ∃ w7 : World, w7 = wr := ⟨_, rfl⟩
          have HCO := Lib.hid (fun (W : World) (hW : Below w7.heap.size w7 W) => by
            have h := cost_plan W HOO.out HAD.out A3 c3 (Kd.C_below HC6.out.2 hW) HC6.out.1 b (TV.below HT6.out hW)
            rw [← HCC.out] at h; exact h)
          have HMO := Lib.hid (fun (W : World) (hW : Below w7.heap.size w7 W) => most_plan W HOO.out HAD.out HSH.out HPW.out.1 HPW.out.2 A3 c3 (Kd.C_below HC6.out.2 hW) b (TV.below HT6.out hW))
          have HBS := Lib.hid (fun (W : World) (hW : Below w7.heap.size w7 W) => by
            have h := best_plan W HOO.out HBO.out A3 c3 (Kd.C_below HC6.out.2 hW) b (TV.below HT6.out hW)
            rw [← HM.out.1] at h; exact h)
          have HK7 := Lib.hid (HK.out.fr (Fr.of_below HBk6.out (fun _ => False)) (fun a => a))
          have HKQ : Hid (∀ W, Below w7.heap.size w7 W → W.cell? ⟨bf, 1, none⟩ = some (.int .i64 tt) ∧ W.cell? ⟨bf, 2, none⟩ = some (.int .i64 cc) ∧ Below w7.heap.size w7 W) := Lib.hid (fun W hW =>
            ⟨Blk.cell (HK7.out.fr (Fr.of_below hW (fun _ => False)) (fun a => a)) 1 rfl, Blk.cell (HK7.out.fr (Fr.of_below hW (fun _ => False)) (fun a => a)) 2 rfl, hW⟩)
          have q1 : (tt == tt) = true := by simp
          have q2 : (cc == cc) = true := by simp
          clear HK7 HK HTS HRW
          go_upto_region 19 with (fail)
          go_cut [6] (fun s6 wx => s6 = .bool true ∧ Hid (Below w7.heap.size w7 wx))
          case first =>
            have S0 := HKQ.out _ ((Below.refl _ w7).drew)
            go_region_held3 (fun W => W.cell? ⟨bf, 1, none⟩ = some (.int .i64 tt) ∧ W.cell? ⟨bf, 2, none⟩ = some (.int .i64 cc) ∧ Below w7.heap.size w7 W)
              (first | (with_reducible exact S0) | (with_reducible exact S8) | (with_reducible exact S7) | (with_reducible exact S6) | (with_reducible exact S5) | (trace_state; fail))
              (first
                | (go_at_call 27; refine (HCO.out w7.drew S0.2.2).mono ?_; rintro e w8 ⟨rfl, hb8⟩; have S5 := HKQ.out _ (below_t S0.2.2 hb8))
                | (go_at_call 46; refine (HMO.out w8 S5.2.2).mono ?_; rintro e w9 ⟨rfl, hb9⟩; have S6 := HKQ.out _ (below_t S5.2.2 hb9))
                | (go_at_call 29; refine (HBS.out w9 S6.2.2).mono ?_; rintro e w10 ⟨rfl, hb10⟩; have S7 := HKQ.out _ (below_t S6.2.2 hb10))
                | (go_at_call 18; refine (HAL.out w10).mono ?_; rintro e w11 ⟨rfl, hb11⟩; have S8 := HKQ.out _ (below_t S7.2.2 hb11)))
            all_goals
              go_wp2_with fail
              go_meet
              exact ⟨rfl, Lib.hid S8.2.2⟩
          case rest =>
            obtain ⟨rfl, HBZ⟩ := hcut
            have HBF := Lib.hid (below_t HB16.out HBZ.out)
            go_wp2_with fail
            go_ret
            exact ⟨rfl, HBF.out⟩
end Go.Proofs.Ytpbndcmmclkdpaa
