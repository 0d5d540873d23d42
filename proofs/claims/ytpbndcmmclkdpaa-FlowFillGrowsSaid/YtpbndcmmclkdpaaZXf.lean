/-
  Fill: the reference's Fills (43). Printed by wip/tools/gen_fill2.py.
-/
import Derived.Test.YtpbndcmmclkdpaaZXe
namespace Go.Proofs.Ytpbndcmmclkdpaa
open PFlowSolves
open Go.RowKit Go.Proofs.YtpbndcmmclkdpaaW.PrintWords
set_option maxRecDepth 100000 in
set_option maxHeartbeats 4000000 in
theorem rfills_any (w : World) (A1 : Option Addr) (c1 : Nat) (ps : List S49) (h1 : Kd.C k49 w A1 ps.length ps) (A2 : Option Addr) (c2 : Nat) (ws : List S51) (h2 : Kd.C k51 w A2 ws.length ws) (T : Nat → Int) :
    Calls Try.prog 43 #[.slice A1 ps.length c1, .slice A2 ws.length c2, vTar T] w fun e w' => e = .returned (.int .i64 (fillE ps ws T)) ∧ Below w.heap.size w w' := by
  have HBX := Lib.hid (Blk.new w (tarL T).toArray 67)
  have HB0 := Lib.hid (below_alloc (Below.refl w.heap.size w) (.cells (tarL T).toArray 67 (0, 0)))
  have H1 := Lib.hid h1
  have H2 := Lib.hid h2
  clear h1 h2
  go_enter Try.func43, Try.ntmps43
  go_upto_region 1 with (fail)
  generalize w.alloc (.cells (tarL T).toArray 67 (0, 0)) = w1 at *
  by_cases h0 : 12 < ps.length ∨ 12 < ws.length
  · have HE : Hid (fillE ps ws T = 3) := Lib.hid (if_pos h0)
    by_cases g : 12 < ps.length
    · have e1 : decide ((12 : Int) < ps.length) = true := decide_eq_true (by omega)
      clear h0 g
      go_wp2_with fail
      go_ret
      exact ⟨by rw [HE.out]; rfl, HB0.out⟩
    · have e1 : decide ((12 : Int) < ps.length) = false := decide_eq_false (by omega)
      have e2 : decide ((12 : Int) < ws.length) = true := decide_eq_true (by omega)
      clear h0 g
      go_wp2_with fail
      go_ret
      exact ⟨by rw [HE.out]; rfl, HB0.out⟩
  · have e1 : decide ((12 : Int) < ps.length) = false := decide_eq_false (by omega)
    have e2 : decide ((12 : Int) < ws.length) = false := decide_eq_false (by omega)
    have H0 := Lib.hid h0
    have HLP : Hid (ps.length ≤ 12 ∧ ws.length ≤ 12) := Lib.hid ⟨by omega, by omega⟩
    have HB10 := Lib.hid (Below.refl w1.heap.size w1)
    clear h0
    go_wp2_with fail
    go_loopg [7] ps.length (fun kk v25 wr => ∃ i : Nat, v25 = .int .i64 i ∧ Hid (i + kk = ps.length) ∧ Hid (∀ j p, j < i → ps[j]? = some p → okP p = true) ∧ Hid (Below w1.heap.size w1 wr))
    case atStart => exact ⟨0, rfl, Lib.hid (by omega), Lib.hid (fun j p hj => absurd hj (Nat.not_lt_zero _)), HB10⟩
    case round =>
      clear HB10
      obtain ⟨i, rfl, HI, HOKS, HB⟩ := hrel
      obtain ⟨wv, rfl⟩ : ∃ wv : World, wv = wr := ⟨_, rfl⟩
      by_cases hlt : i < ps.length
      · have hi0 : (i : Int) < ps.length := by omega
        have hiz : (0 : Int) ≤ i := by omega
        obtain ⟨p, hp⟩ : ∃ p, ps[i]? = some p := ⟨_, List.getElem?_eq_getElem hlt⟩
        obtain ⟨pd, rfl, q0, q1, q2, q3, q4⟩ := at_T49 (Kd.C_below H1.out (below_t HB0.out HB.out)) (i : Int) hiz hi0
        rw [rdP hp, Int.toNat_natCast] at q0 q1 q2 q3 q4
        have hw : IntKind.i64.wrap ((i : Int) + 1) = i + 1 := IntWalk.i64_in _ (by have := HLP.out; omega)
        have HLT := Lib.hid hlt
        have HPI := Lib.hid hp
        have HC := Lib.hid (rparcel_any p wv)
        have HBA := HB
        clear hlt hp
        go_wp2_with fail
        refine HC.out.mono ?_
        rintro e wb ⟨rfl, hb⟩
        have HBB := Lib.hid (below_t HBA.out hb)
        clear hb HC q0 q1 q2 q3 q4
        cases hok : okP p with
        | false =>
          have HE : Hid (fillE ps ws T = 2) := Lib.hid (fillE_p H0.out HPI.out hok)
          have HBC := Lib.hid (below_t HB0.out HBB.out)
          clear hok
          go_wp2_with fail
          go_ret
          exact ⟨by rw [HE.out]; rfl, HBC.out⟩
        | true =>
          have HOK2 : Hid (∀ j q, j < i + 1 → ps[j]? = some q → okP q = true) := Lib.hid (fun j q hj hq => by
            by_cases e : j = i
            · subst e; rw [HPI.out] at hq; rw [← Option.some.inj hq]; exact hok
            · exact HOKS.out j q (by omega) hq)
          clear hok
          go_wp2_with fail
          go_roundg (ps.length - (i + 1))
          case measure => have := HI.out; have := HLT.out; omega
          case rel => exact ⟨i + 1, by go_num, Lib.hid (by have := HI.out; have := HLT.out; omega), HOK2, HBB⟩
      · have hnl : ¬ (i : Int) < ps.length := by omega
        have HPS : Hid (∀ (j : Nat) (p : S49), ps[j]? = some p → okP p = true) := Lib.hid (fun j p hj => HOKS.out j p (by have := (List.getElem?_eq_some_iff.1 hj).1; omega) hj)
        clear hlt HI HOKS
        go_wp2_with fail
        go_loopg [8, 9] ws.length (fun kk v35 v9 wr => ∃ i : Nat, v35 = .int .i64 i ∧ Hid (i + kk = ws.length) ∧ Hid (∀ j p, j < i → ws[j]? = some p → okW p = true) ∧ Hid (Below w1.heap.size w1 wr))
        case atStart => exact ⟨0, rfl, Lib.hid (by omega), Lib.hid (fun j p hj => absurd hj (Nat.not_lt_zero _)), HB⟩
        case round =>
          clear HB hnl
          obtain ⟨i, rfl, HI, HOKS, HB⟩ := hrel
          obtain ⟨wv, rfl⟩ : ∃ wv : World, wv = wr := ⟨_, rfl⟩
          by_cases hlt : i < ws.length
          · have hi0 : (i : Int) < ws.length := by omega
            have hiz : (0 : Int) ≤ i := by omega
            obtain ⟨p, hp⟩ : ∃ p, ws[i]? = some p := ⟨_, List.getElem?_eq_getElem hlt⟩
            obtain ⟨pd, rfl, q0, q1, q2, q3, q4, q5⟩ := at_T51 (Kd.C_below H2.out (below_t HB0.out HB.out)) (i : Int) hiz hi0
            rw [rdW hp, Int.toNat_natCast] at q0 q1 q2 q3 q4 q5
            have hw : IntKind.i64.wrap ((i : Int) + 1) = i + 1 := IntWalk.i64_in _ (by have := HLP.out; omega)
            have hal := below_alloc (Below.refl wv.heap.size wv) (.cells #[.int .i64 p.f0, .int .i64 p.f1, .int .i64 p.f2, .int .i64 p.f3, .int .i64 p.f4, .int .i64 p.f5] 51 (0, 0))
            have hA4 := Blk.new wv #[.int .i64 p.f0, .int .i64 p.f1, .int .i64 p.f2, .int .i64 p.f3, .int .i64 p.f4, .int .i64 p.f5] 51
            have HLT := Lib.hid hlt
            have HPI := Lib.hid hp
            clear hlt hp
            go_upto_region 12 with (fail)
            generalize wv.alloc (.cells #[.int .i64 p.f0, .int .i64 p.f1, .int .i64 p.f2, .int .i64 p.f3, .int .i64 p.f4, .int .i64 p.f5] 51 (0, 0)) = wa at *
            have b0 := Blk.cell hA4 0 (v := .int .i64 p.f0) rfl
            have b1 := Blk.cell hA4 1 (v := .int .i64 p.f1) rfl
            have b2 := Blk.cell hA4 2 (v := .int .i64 p.f2) rfl
            have b3 := Blk.cell hA4 3 (v := .int .i64 p.f3) rfl
            have b4 := Blk.cell hA4 4 (v := .int .i64 p.f4) rfl
            have b5 := Blk.cell hA4 5 (v := .int .i64 p.f5) rfl
            have HBA := Lib.hid (below_t HB.out hal)
            have HKA0 := Lib.hid hA4
            have HS : Hid (okW p = (inB p.f0 4096 && (inB p.f1 16384 && (inB p.f2 10000 && (inB p.f3 10000 && (inB p.f4 10000 && inB p.f5 7)))))) := Lib.hid rfl
            clear hal hA4 q0 q1 q2 q3 q4 q5
            have HY0 := Lib.hid (Below.refl wa.heap.size wa)
            have HC := Lib.hid (between_any p.f0 4096 wa)
            go_wp2_with fail
            refine HC.out.mono ?_
            rintro e wb0 ⟨rfl, hb⟩
            have HY1 := Lib.hid (below_t HY0.out hb)
            clear hb HC b0 b1 b2 b3 b4 b5
            cases h0 : inB p.f0 4096 with
            | false =>
              have HE : Hid (fillE ps ws T = 2) := Lib.hid (fillE_w H0.out HPI.out (by rw [HS.out, h0]; simp))
              have HBC := Lib.hid (below_t HB0.out (below_t HBA.out HY1.out))
              clear h0
              go_wp2_with fail
              go_ret
              exact ⟨by rw [HE.out]; rfl, HBC.out⟩
            | true =>
              have c1 := Blk.cell (HKA0.out.fr (Fr.of_below HY1.out (fun _ => False)) (fun a => a)) 1 (v := .int .i64 p.f1) rfl
              have HC := Lib.hid (between_any p.f1 16384 wb0)
              go_wp2_with fail
              refine HC.out.mono ?_
              rintro e wb1 ⟨rfl, hb⟩
              have HY2 := Lib.hid (below_t HY1.out hb)
              clear hb HC c1
              cases h1 : inB p.f1 16384 with
              | false =>
                have HE : Hid (fillE ps ws T = 2) := Lib.hid (fillE_w H0.out HPI.out (by rw [HS.out, h0, h1]; simp))
                have HBC := Lib.hid (below_t HB0.out (below_t HBA.out HY2.out))
                clear h0 h1
                go_wp2_with fail
                go_ret
                exact ⟨by rw [HE.out]; rfl, HBC.out⟩
              | true =>
                have c2 := Blk.cell (HKA0.out.fr (Fr.of_below HY2.out (fun _ => False)) (fun a => a)) 2 (v := .int .i64 p.f2) rfl
                have HC := Lib.hid (between_any p.f2 10000 wb1)
                go_wp2_with fail
                refine HC.out.mono ?_
                rintro e wb2 ⟨rfl, hb⟩
                have HY3 := Lib.hid (below_t HY2.out hb)
                clear hb HC c2
                cases h2 : inB p.f2 10000 with
                | false =>
                  have HE : Hid (fillE ps ws T = 2) := Lib.hid (fillE_w H0.out HPI.out (by rw [HS.out, h0, h1, h2]; simp))
                  have HBC := Lib.hid (below_t HB0.out (below_t HBA.out HY3.out))
                  clear h0 h1 h2
                  go_wp2_with fail
                  go_ret
                  exact ⟨by rw [HE.out]; rfl, HBC.out⟩
                | true =>
                  have c3 := Blk.cell (HKA0.out.fr (Fr.of_below HY3.out (fun _ => False)) (fun a => a)) 3 (v := .int .i64 p.f3) rfl
                  have HC := Lib.hid (between_any p.f3 10000 wb2)
                  go_wp2_with fail
                  refine HC.out.mono ?_
                  rintro e wb3 ⟨rfl, hb⟩
                  have HY4 := Lib.hid (below_t HY3.out hb)
                  clear hb HC c3
                  cases h3 : inB p.f3 10000 with
                  | false =>
                    have HE : Hid (fillE ps ws T = 2) := Lib.hid (fillE_w H0.out HPI.out (by rw [HS.out, h0, h1, h2, h3]; simp))
                    have HBC := Lib.hid (below_t HB0.out (below_t HBA.out HY4.out))
                    clear h0 h1 h2 h3
                    go_wp2_with fail
                    go_ret
                    exact ⟨by rw [HE.out]; rfl, HBC.out⟩
                  | true =>
                    have c4 := Blk.cell (HKA0.out.fr (Fr.of_below HY4.out (fun _ => False)) (fun a => a)) 4 (v := .int .i64 p.f4) rfl
                    have HC := Lib.hid (between_any p.f4 10000 wb3)
                    go_wp2_with fail
                    refine HC.out.mono ?_
                    rintro e wb4 ⟨rfl, hb⟩
                    have HY5 := Lib.hid (below_t HY4.out hb)
                    clear hb HC c4
                    cases h4 : inB p.f4 10000 with
                    | false =>
                      have HE : Hid (fillE ps ws T = 2) := Lib.hid (fillE_w H0.out HPI.out (by rw [HS.out, h0, h1, h2, h3, h4]; simp))
                      have HBC := Lib.hid (below_t HB0.out (below_t HBA.out HY5.out))
                      clear h0 h1 h2 h3 h4
                      go_wp2_with fail
                      go_ret
                      exact ⟨by rw [HE.out]; rfl, HBC.out⟩
                    | true =>
                      have c5 := Blk.cell (HKA0.out.fr (Fr.of_below HY5.out (fun _ => False)) (fun a => a)) 5 (v := .int .i64 p.f5) rfl
                      have HC := Lib.hid (between_any p.f5 7 wb4)
                      go_wp2_with fail
                      refine HC.out.mono ?_
                      rintro e wb5 ⟨rfl, hb⟩
                      have HY6 := Lib.hid (below_t HY5.out hb)
                      clear hb HC c5
                      cases h5 : inB p.f5 7 with
                      | false =>
                        have HE : Hid (fillE ps ws T = 2) := Lib.hid (fillE_w H0.out HPI.out (by rw [HS.out, h0, h1, h2, h3, h4, h5]; simp))
                        have HBC := Lib.hid (below_t HB0.out (below_t HBA.out HY6.out))
                        clear h0 h1 h2 h3 h4 h5
                        go_wp2_with fail
                        go_ret
                        exact ⟨by rw [HE.out]; rfl, HBC.out⟩
                      | true =>
                        have HBB := Lib.hid (below_t HBA.out HY6.out)
                        have HOK2 : Hid (∀ j q, j < i + 1 → ws[j]? = some q → okW q = true) := Lib.hid (fun j q hj hq => by
                          by_cases e : j = i
                          · subst e; rw [HPI.out] at hq; rw [← Option.some.inj hq, HS.out, h0, h1, h2, h3, h4, h5]; rfl
                          · exact HOKS.out j q (by omega) hq)
                        clear h0 h1 h2 h3 h4 h5
                        go_wp2_with fail
                        go_roundg (ws.length - (i + 1))
                        case measure => have := HI.out; have := HLT.out; omega
                        case rel => exact ⟨i + 1, by go_num, Lib.hid (by have := HI.out; have := HLT.out; omega), HOK2, HBB⟩
          · have hnl : ¬ (i : Int) < ws.length := by omega
            have HWS : Hid (∀ (j : Nat) (p : S51), ws[j]? = some p → okW p = true) := Lib.hid (fun j p hj => HOKS.out j p (by have := (List.getElem?_eq_some_iff.1 hj).1; omega) hj)
            clear hlt HI HOKS
            go_wp2_with fail
            go_loopg [10, 11] 8 (fun kk v10 v11 wr => ∃ i : Nat, v10 = .int .i64 i ∧ Hid (i + kk = 8) ∧ Hid (∀ j, j < i * 8 → inB (T j) 16384 = true) ∧ Hid (Below w1.heap.size w1 wr))
            case atStart => exact ⟨0, rfl, Lib.hid (by omega), Lib.hid (fun j hj => absurd hj (by omega)), HB⟩
            case round =>
              clear HB hnl
              obtain ⟨i, rfl, HI, HT, HB⟩ := hrel
              obtain ⟨wv, rfl⟩ : ∃ wv : World, wv = wr := ⟨_, rfl⟩
              by_cases hlt : i < 8
              · have hi0 : (i : Int) < 8 := by omega
                have hiz : (0 : Int) ≤ i := by omega
                have hw : IntKind.i64.wrap ((i : Int) + 1) = i + 1 := IntWalk.i64_in _ (by omega)
                have HLT := Lib.hid hlt
                clear hlt
                go_wp2_with fail
                go_loopg [11] 8 (fun kk v11 wr => ∃ k : Nat, v11 = .int .i64 k ∧ Hid (k + kk = 8) ∧ Hid (∀ j, j < k → inB (T (i * 8 + j)) 16384 = true) ∧ Hid (Below w1.heap.size w1 wr))
                case atStart => exact ⟨0, rfl, Lib.hid (by omega), Lib.hid (fun j hj => absurd hj (Nat.not_lt_zero _)), HB⟩
                case round =>
                  clear HB
                  obtain ⟨k, rfl, HK, HTR, HBK⟩ := hrel
                  obtain ⟨wy, rfl⟩ : ∃ wy : World, wy = wr := ⟨_, rfl⟩
                  by_cases hk : k < 8
                  · have hk0 : (k : Int) < 8 := by omega
                    have hkz : (0 : Int) ≤ k := by omega
                    have hwk : IntKind.i64.wrap ((k : Int) + 1) = k + 1 := IntWalk.i64_in _ (by omega)
                    have x0 := tar_cell (HBX.out.fr (Fr.of_below HBK.out (fun _ => False)) (fun a => a)) (j := i * 8 + k) (by have := HLT.out; omega)
                    have HKL := Lib.hid hk
                    have HC := Lib.hid (between_any (T (i * 8 + k)) 16384 wy)
                    clear hk
                    go_wp2_with fail
                    refine HC.out.mono ?_
                    rintro e wb ⟨rfl, hb⟩
                    have HBB := Lib.hid (below_t HBK.out hb)
                    clear hb HC x0
                    cases hok : inB (T (i * 8 + k)) 16384 with
                    | false =>
                      have HE : Hid (fillE ps ws T = 2) := Lib.hid (fillE_t H0.out (j := i * 8 + k) (by have := HLT.out; have := HKL.out; omega) hok)
                      have HBC := Lib.hid (below_t HB0.out HBB.out)
                      clear hok
                      go_wp2_with fail
                      go_ret
                      exact ⟨by rw [HE.out]; rfl, HBC.out⟩
                    | true =>
                      have HT2 : Hid (∀ j, j < k + 1 → inB (T (i * 8 + j)) 16384 = true) := Lib.hid (fun j hj => by
                        by_cases e : j = k
                        · subst e; exact hok
                        · exact HTR.out j (by omega))
                      clear hok
                      go_wp2_with fail
                      go_roundg (8 - (k + 1))
                      case measure => have := HK.out; have := HKL.out; omega
                      case rel => exact ⟨k + 1, by go_num, Lib.hid (by have := HK.out; have := HKL.out; omega), HT2, HBB⟩
                  · have hnk : ¬ (k : Int) < 8 := by omega
                    have HTN : Hid (∀ j, j < (i + 1) * 8 → inB (T j) 16384 = true) := Lib.hid (fun j hj => by
                      by_cases e : j < i * 8
                      · exact HT.out j e
                      · have := HTR.out (j - i * 8) (by have := HK.out; omega)
                        rw [show i * 8 + (j - i * 8) = j by omega] at this
                        exact this)
                    clear hk
                    go_wp2_with fail
                    go_roundg (8 - (i + 1))
                    case measure => have := HI.out; have := HLT.out; omega
                    case rel => exact ⟨i + 1, by go_num, Lib.hid (by have := HI.out; have := HLT.out; omega), HTN, HBK⟩
              · have hnl : ¬ (i : Int) < 8 := by omega
                have HE : Hid (fillE ps ws T = 0) := Lib.hid (fillE_0 H0.out HPS.out HWS.out (fun j hj => HT.out j (by have := HI.out; omega)))
                have HBC := Lib.hid (below_t HB0.out HB.out)
                clear hlt
                go_wp2_with fail
                go_ret
                exact ⟨by rw [HE.out]; rfl, HBC.out⟩
end Go.Proofs.Ytpbndcmmclkdpaa

