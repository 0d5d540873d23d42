/-
  FlowBlends: Blend answers as the reference's search does.
-/
import Derived.Test.YtpbndcmmclkdpaaOb
namespace Go.Proofs.Ytpbndcmmclkdpaa
open PFlowSolves
open Go.RowKit Go.Proofs.YtpbndcmmclkdpaaW.PrintWords
set_option maxRecDepth 100000 in
set_option maxHeartbeats 8000000 in
theorem rblend_any (w : World) (PA : Option Addr) (pc : Nat) (ps : List S49) (h1 : Kd.C k49 w PA ps.length ps) (k lo hi : Int) :
    Calls Try.prog 37 #[.slice PA ps.length pc, .int .i64 k, .int .i64 lo, .int .i64 hi] w (BlendPost ps k lo hi w) := by
  have H1 := Lib.hid h1
  clear h1
  go_enter Try.func37, Try.ntmps37
  by_cases hlen : 6 < ps.length
  · have HE : Hid (blendE ps k lo hi = 3) := Lib.hid (by unfold blendE; rw [if_pos hlen])
    have e1 : decide ((6 : Int) < ps.length) = true := decide_eq_true (by omega)
    clear hlen
    go_wp2_with fail
    go_ret3
    exact ⟨.inl ⟨by rw [HE.out]; decide, by rw [HE.out]; rfl⟩, Below.refl _ _⟩
  · have e1 : decide ((6 : Int) < ps.length) = false := decide_eq_false (by omega)
    by_cases ka : k < 1
    · have HE : Hid (blendE ps k lo hi = 2) := Lib.hid (by unfold blendE; rw [if_neg hlen, if_pos (.inl ka)])
      have e2 : decide (k < 1) = true := decide_eq_true ka
      clear hlen ka
      go_wp2_with fail
      go_ret3
      exact ⟨.inl ⟨by rw [HE.out]; decide, by rw [HE.out]; rfl⟩, Below.refl _ _⟩
    · have e2 : decide (k < 1) = false := decide_eq_false ka
      by_cases kb : 24 < k
      · have HE : Hid (blendE ps k lo hi = 2) := Lib.hid (by unfold blendE; rw [if_neg hlen, if_pos (.inr (.inl kb))])
        have e3 : decide (24 < k) = true := decide_eq_true kb
        clear hlen ka kb
        go_wp2_with fail
        go_ret3
        exact ⟨.inl ⟨by rw [HE.out]; decide, by rw [HE.out]; rfl⟩, Below.refl _ _⟩
      · have e3 : decide (24 < k) = false := decide_eq_false kb
        have HLEN := Lib.hid hlen
        have HKK : Hid (1 ≤ k ∧ k ≤ 24) := Lib.hid ⟨by omega, by omega⟩
        have HC := Lib.hid (between_any lo 10000 w)
        clear ka kb
        go_wp2_with fail
        refine HC.out.mono ?_
        rintro e w2 ⟨rfl, hb⟩
        have HB2 := Lib.hid hb
        clear hb HC
        cases hlo : inB lo 10000 with
        | false =>
          have HE : Hid (blendE ps k lo hi = 2) := Lib.hid (by unfold blendE; rw [if_neg hlen, if_pos (.inr (.inr (.inl hlo)))])
          clear hlo hlen
          go_wp2_with fail
          go_ret3
          exact ⟨.inl ⟨by rw [HE.out]; decide, by rw [HE.out]; rfl⟩, HB2.out⟩
        | true =>
          have HLO := Lib.hid hlo
          have HC := Lib.hid (between_any hi 10000 w2)
          clear hlo
          go_wp2_with fail
          refine HC.out.mono ?_
          rintro e w3 ⟨rfl, hb⟩
          have HB3 := Lib.hid (below_t HB2.out hb)
          clear hb HC
          cases hhi : inB hi 10000 with
          | false =>
            have HE : Hid (blendE ps k lo hi = 2) := Lib.hid (by unfold blendE; rw [if_neg hlen, if_pos (.inr (.inr (.inr (.inl hhi))))])
            clear hhi hlen
            go_wp2_with fail
            go_ret3
            exact ⟨.inl ⟨by rw [HE.out]; decide, by rw [HE.out]; rfl⟩, HB3.out⟩
          | true =>
            have HHI := Lib.hid hhi
            clear hhi hlen
            have HB30 := Lib.hid (Below.refl w3.heap.size w3)
            go_wp2_with fail
            go_loopg [11] ps.length (fun kk v11 wr => ∃ i : Nat, v11 = .int .i64 i ∧ Hid (i + kk = ps.length) ∧ Hid (∀ j p, j < i → ps[j]? = some p → okP p = true) ∧ Hid (Below w3.heap.size w3 wr))
            case atStart => exact ⟨0, rfl, Lib.hid (by omega), Lib.hid (fun j p hj => absurd hj (Nat.not_lt_zero _)), HB30⟩
            case round =>
              clear HB30
              obtain ⟨i, rfl, HI, HOKS, HB⟩ := hrel
              obtain ⟨wv, rfl⟩ : ∃ wv : World, wv = wr := ⟨_, rfl⟩
              by_cases hlt : i < ps.length
              · have hi0 : (i : Int) < ps.length := by omega
                have hiz : (0 : Int) ≤ i := by omega
                obtain ⟨p, hp⟩ : ∃ p, ps[i]? = some p := ⟨_, List.getElem?_eq_getElem hlt⟩
                obtain ⟨pd, rfl, q0, q1, q2, q3, q4⟩ := at_T49 (Kd.C_below H1.out (below_t HB3.out HB.out)) (i : Int) hiz hi0
                rw [rd49 hp, Int.toNat_natCast] at q0 q1 q2 q3 q4
                have hw : IntKind.i64.wrap ((i : Int) + 1) = i + 1 := IntWalk.i64_in _ (by have := HLEN.out; omega)
                have HLT := Lib.hid hlt
                have HPI := Lib.hid hp
                have HC := Lib.hid (rparcel_any p wv)
                clear hlt hp
                go_wp2_with fail
                refine HC.out.mono ?_
                rintro e wb ⟨rfl, hb⟩
                have HBB := Lib.hid (below_t HB.out hb)
                clear hb HC q0 q1 q2 q3 q4
                cases hok : okP p with
                | false =>
                  have HE : Hid (blendE ps k lo hi = 2) := Lib.hid (by
                    unfold blendE
                    rw [if_neg HLEN.out, if_pos (.inr (.inr (.inr (.inr (List.any_eq_true.2 ⟨p, List.mem_of_getElem? HPI.out, by rw [hok]; rfl⟩)))))])
                  have HBC := Lib.hid (below_t HB3.out HBB.out)
                  clear hok
                  go_wp2_with fail
                  go_ret3
                  exact ⟨.inl ⟨by rw [HE.out]; decide, by rw [HE.out]; rfl⟩, HBC.out⟩
                | true =>
                  have HOK2 : Hid (∀ j q, j < i + 1 → ps[j]? = some q → okP q = true) := Lib.hid (fun j q hj hq => by
                    by_cases e : j = i
                    · subst e; rw [HPI.out] at hq; rw [← Option.some.inj hq]; exact hok
                    · exact HOKS.out j q (by omega) hq)
                  clear hok
                  go_wp2_with fail
                  go_roundg (ps.length - (i + 1))
                  case measure => have := HI.out; have := HLT.out; omega
                  case rel => exact ⟨i + 1, by go_num, Lib.hid (by have := HI.out; have := HLT.out; omega), HOK2, HBB⟩
              · have hnl : ¬ (i : Int) < ps.length := by omega
                have HPS : Hid (∀ p ∈ ps, okP p = true) := Lib.hid (fun p hp => by
                  obtain ⟨j, hj⟩ := List.getElem?_of_mem hp
                  exact HOKS.out j p (by have := (List.getElem?_eq_some_iff.1 hj).1; omega) hj)
                clear hlt HI HOKS
                have hmk := make_int (wv.alloc (.cells #[.slice none 0 0, .int .i64 (-1)] 113 (0, 0))) (n := ps.length) (by have := HLEN.out; omega)
                obtain ⟨K, rfl⟩ : ∃ K : Nat, k = K := ⟨k.toNat, by have := HKK.out; omega⟩
                have hk := HKK.out
                have hlo := inB_out HLO.out
                have hhi := inB_out HHI.out
                have l1 : 0 ≤ lo * (K : Int) ∧ lo * (K : Int) ≤ 10000 * 24 := ⟨Int.mul_nonneg hlo.1 (by omega), Int.mul_le_mul hlo.2 hk.2 (by omega) (by omega)⟩
                have l2 : 0 ≤ hi * (K : Int) ∧ hi * (K : Int) ≤ 10000 * 24 := ⟨Int.mul_nonneg hhi.1 (by omega), Int.mul_le_mul hhi.2 hk.2 (by omega) (by omega)⟩
                have hw1 : IntKind.i64.wrap (lo * (K : Int)) = lo * K := IntWalk.i64_in _ (by omega)
                have hw2 : IntKind.i64.wrap (hi * (K : Int)) = hi * K := IntWalk.i64_in _ (by omega)
                clear l1 l2 hlo hhi hk
                have hB1 : Blk ((wv.alloc (.cells #[.slice none 0 0, .int .i64 (-1)] 113 (0, 0))).alloc (.cells (madeCells #[.int .i64 0] ps.length) 3 (0, 0))) wv.heap.size #[.slice none 0 0, .int .i64 (-1)] 113 := (Blk.new wv #[.slice none 0 0, .int .i64 (-1)] 113).alloc _
                have hz1 : (wv.alloc (.cells #[.slice none 0 0, .int .i64 (-1)] 113 (0, 0))).heap.size = wv.heap.size + 1 := by simp
                have hG1 : TI ((wv.alloc (.cells #[.slice none 0 0, .int .i64 (-1)] 113 (0, 0))).alloc (.cells (madeCells #[.int .i64 0] ps.length) 3 (0, 0))) (wv.heap.size + 1) ps.length (fun _ => 0) := by
                  rw [← hz1]; exact TV.made _ (.int .i64 0) 3 ps.length
                have hb5 := below_al (below_alloc (Below.refl wv.heap.size wv) (.cells #[.slice none 0 0, .int .i64 (-1)] 113 (0, 0))) (.cells (madeCells #[.int .i64 0] ps.length) 3 (0, 0))
                have HX := Lib.hid (And.intro hB1 (And.intro hG1 hb5))
                clear hB1 hz1 hG1 hb5
                go_wp2_with fail
                generalize (wv.alloc (.cells #[.slice none 0 0, .int .i64 (-1)] 113 (0, 0))).alloc (.cells (madeCells #[.int .i64 0] ps.length) 3 (0, 0)) = w5 at *
                have HB5 := Lib.hid (below_t HB3.out (below_t HB.out HX.out.2.2))
                have hsz : w.heap.size ≤ wv.heap.size := (below_t HB3.out HB.out).size
                generalize wv.heap.size = sb at *
                have hT : SR w5 sb (sb + 1) ps.length w.heap.size (big, []) (fun _ => 0) := ⟨⟨_, HX.out.1, .inl ⟨rfl, rfl⟩⟩, HX.out.2.1⟩
                have hC : ∀ W, Fr (GW sb (sb + 1)) w5 W → Kd.C k49 W PA ps.length ps := fun W hW => Kd.C_below H1.out ((((Fr.of_below HB5.out (GW sb (sb + 1))).trans hW (fun x h => .inl h))).to_below (Nat.le_refl _) (fun x h => by rcases h with h | h <;> omega))
                have hc := goOn_any (sb := sb) (gb := sb + 1) (PA := PA) (pc := pc) (lo := lo * K) (hi := hi * K) (base := w.heap.size) (by have := HLEN.out; omega) HPS.out (by omega) ps [] rfl w5 [] K (big, []) (fun _ => 0) (by have := HKK.out; omega) (fun _ => by have := HKK.out; omega) rfl (fun j hj => absurd hj (Nat.not_lt_zero _)) trivial (hC w5 (Fr.refl _ _)) hT HB5.out.size hC
                rw [show (([] : List S49).length : Int) = 0 from rfl, show gr [] [] = 0 from rfl, show co [] [] = 0 from rfl] at hc
                refine hc.mono ?_
                rintro e w7 ⟨⟨rv, rfl⟩, ⟨f', ⟨⟨v, s1, s2⟩, _⟩, _⟩, hF7⟩
                have HE0 : Hid (blendE ps K lo hi = 0) := Lib.hid (by
                  unfold blendE
                  rw [if_neg HLEN.out, if_neg]
                  rintro (h | h | h | h | h)
                  · have := HKK.out; omega
                  · have := HKK.out; omega
                  · rw [HLO.out] at h; exact absurd h (by simp)
                  · rw [HHI.out] at h; exact absurd h (by simp)
                  · obtain ⟨q, hq, hb⟩ := List.any_eq_true.1 h
                    rw [HPS.out q hq] at hb
                    exact absurd hb (by simp))
                have HB7 : Hid (Below w.heap.size w w7) := Lib.hid (((Fr.of_below HB5.out (GW sb (sb + 1))).trans hF7 (fun x h => .inl h)).to_below (Nat.le_refl _) (fun x h => by rcases h with h | h <;> omega))
                have HBE : Hid (bestB ps K lo hi = runB (lo * K) (hi * K) ps [] K 0 0 (big, [])) := Lib.hid (by unfold bestB; rw [Int.toNat_natCast])
                clear hc hC hT HX
                generalize runB (lo * K) (hi * K) ps [] K 0 0 (big, []) = rr at *
                have r0 := Blk.cell s1 0 (v := v) rfl
                have r1 := Blk.cell s1 1 (v := .int .i64 (encC rr.1)) rfl
                clear hF7 s1 hmk hsz
                rcases s2 with ⟨rfl, hbig⟩ | ⟨nb, c, rfl, hl, ht, hnb, _, h0, hlt⟩
                · have hen : encC rr.1 = -1 := if_pos hbig
                  have HBIG := Lib.hid hbig
                  rw [hen] at r1
                  clear hbig hen
                  go_wp2_with fail
                  go_ret3
                  exact ⟨.inr (.inl ⟨HE0.out, by rw [HBE.out]; exact HBIG.out, rfl⟩), HB7.out⟩
                · have hen : encC rr.1 = rr.1 := if_neg (by omega)
                  rw [hen] at r1
                  have e9 : decide (rr.1 < 0) = false := decide_eq_false (by omega)
                  have HFO : Hid (_ ∧ _ ∧ _ ∧ _) := Lib.hid ⟨hl, ht, hnb, hlt⟩
                  clear hl ht hnb hlt h0 hen
                  go_upto_region 14 with (fail)
                  go_quiet (fail)
                  go_wp2_with fail
                  go_ret3
                  exact ⟨.inr (.inr ⟨HE0.out, by rw [HBE.out]; exact HFO.out.2.2.2, nb, c, by rw [HBE.out]; rfl, by rw [HBE.out]; exact HFO.out.1, by rw [HBE.out]; exact TV.fr HFO.out.2.1 (F := fun _ => False) (by first | exact (Fr.refl _ _).drew | exact Fr.of_below (pw_below_drewN (Below.refl _ _) _) _) (fun a => a), HFO.out.2.2.1⟩), by first | exact HB7.out | exact HB7.out.drew | exact pw_below_drewN HB7.out _ | (apply pw_below_drewN; exact HB7.out)⟩
theorem sames_any (w : World) (A : Option Addr) (n c : Nat) (xs : List Int) (B : Option Addr) (d : Nat) (hA : Kd.C (Kd.int .i64) w A n xs) (hB : Kd.C (Kd.int .i64) w B n xs) (hn : xs.length = n) (hl : n ≤ 100000) :
    Calls Try.prog 24 #[.slice A n c, .slice B n d] w fun e w' => e = .returned (.bool true) ∧ Below w.heap.size w w' := by
  subst hn
  refine (same_any w A c xs B d xs hA hB hl).mono ?_
  rintro e w' ⟨rfl, hb⟩
  exact ⟨by simp, hb⟩
set_option maxRecDepth 100000 in
set_option maxHeartbeats 8000000 in
theorem blends_law (A1 : Option Addr) (c1 : Nat) (ps : List S49) (hc1 : ps.length ≤ c1) (_ : c1 ≤ 9223372036854775807) {w : World} (h1 : Kd.C k49 w A1 ps.length ps) (_ : ∀ x ∈ ps, (Lit.int .i64 x.f0).wf = true ∧ (Lit.int .i64 x.f1).wf = true ∧ (Lit.int .i64 x.f2).wf = true ∧ (Lit.int .i64 x.f3).wf = true ∧ (Lit.int .i64 x.f4).wf = true)
    {k : Int} (_ : (Lit.int .i64 k).wf = true) {lo : Int} (_ : (Lit.int .i64 lo).wf = true) {hi : Int} (_ : (Lit.int .i64 hi).wf = true) :
    Calls Try.prog 10 #[.slice A1 ps.length c1, .int .i64 k, .int .i64 lo, .int .i64 hi] w fun e w' => e = .returned (.bool true) ∧ Below w.heap.size w w' := by
  have H1 := Lib.hid h1
  clear h1
  have HAL := Lib.hid (fun W => alive_any W)
  go_enter Try.func10, Try.ntmps10
  by_cases hlen : 20 < ps.length
  · have e1 : decide ((20 : Int) < ps.length) = true := decide_eq_true (by omega)
    clear hlen
    go_wp2_with fail
    refine (HAL.out w).mono ?_
    rintro e w2 ⟨rfl, hb2⟩
    have HB2 := Lib.hid hb2
    clear hb2
    go_wp2_with fail
    go_ret
    exact ⟨rfl, HB2.out⟩
  · have e1 : decide ((20 : Int) < ps.length) = false := decide_eq_false (by omega)
    have HBL := Lib.hid (blend_any w A1 c1 ps H1.out hc1 k lo hi)
    have HLN : Hid (ps.length ≤ 20) := Lib.hid (by omega)
    clear hlen
    go_wp2_with fail
    refine HBL.out.mono ?_
    rintro e w1 ⟨hpost, hb1⟩
    have HB1 := Lib.hid hb1
    have HRB := Lib.hid (rblend_any w1 A1 c1 ps (Kd.C_below H1.out hb1) k lo hi)
    clear hb1 HBL
    rcases hpost with ⟨h0, rfl⟩ | ⟨h0, hbig, rfl⟩ | ⟨h0, hlt, b, cc, rfl, hl, ht, hb⟩
    · have H0 := Lib.hid h0
      clear h0
      go_wp2_with fail
      refine HRB.out.mono ?_
      rintro e w2 ⟨hpost, hb2⟩
      have HB2 := Lib.hid (below_t HB1.out hb2)
      clear hb2
      rcases hpost with ⟨_, rfl⟩ | ⟨h0, _⟩ | ⟨h0, _⟩
      · have HSM := Lib.hid (sames_any w2 none 0 0 [] none 0 (Kd.C_nil _ _) (Kd.C_nil _ _) rfl (by decide))
        generalize blendE ps k lo hi = be at *
        go_wp2_with fail
        refine HSM.out.mono ?_
        rintro e w3 ⟨rfl, hb3⟩
        have HB3 := Lib.hid (below_t HB2.out hb3)
        clear hb3
        go_wp2_with fail
        refine (HAL.out w3).mono ?_
        rintro e w4 ⟨rfl, hb4⟩
        have HB4 := Lib.hid (below_t HB3.out hb4)
        clear hb4
        go_wp2_with fail
        go_ret
        exact ⟨rfl, HB4.out⟩
      · exact absurd h0 H0.out
      · exact absurd h0 H0.out
    · have H0 := Lib.hid h0
      have HBIG := Lib.hid hbig
      clear h0 hbig
      go_wp2_with fail
      refine HRB.out.mono ?_
      rintro e w2 ⟨hpost, hb2⟩
      have HB2 := Lib.hid (below_t HB1.out hb2)
      clear hb2
      rcases hpost with ⟨h, _⟩ | ⟨_, _, rfl⟩ | ⟨_, h, _⟩
      · exact absurd H0.out h
      · have HSM := Lib.hid (sames_any w2 none 0 0 [] none 0 (Kd.C_nil _ _) (Kd.C_nil _ _) rfl (by decide))
        go_wp2_with fail
        refine HSM.out.mono ?_
        rintro e w3 ⟨rfl, hb3⟩
        have HB3 := Lib.hid (below_t HB2.out hb3)
        clear hb3
        go_wp2_with fail
        refine (HAL.out w3).mono ?_
        rintro e w4 ⟨rfl, hb4⟩
        have HB4 := Lib.hid (below_t HB3.out hb4)
        clear hb4
        go_wp2_with fail
        go_ret
        exact ⟨rfl, HB4.out⟩
      · rw [HBIG.out] at h; exact absurd h (Int.lt_irrefl _)
    · have H0 := Lib.hid h0
      have HLT := Lib.hid hlt
      have HT := Lib.hid (And.intro hl ht)
      clear h0 hlt hl ht hb
      go_wp2_with fail
      refine HRB.out.mono ?_
      rintro e w2 ⟨hpost, hb2⟩
      have HB2 := Lib.hid (below_t HB1.out hb2)
      rcases hpost with ⟨h, _⟩ | ⟨_, h, _⟩ | ⟨_, _, b2, cc2, rfl, hl2, ht2, _⟩
      · exact absurd H0.out h
      · have := HLT.out; rw [h] at this; exact absurd this (Int.lt_irrefl _)
      · have k1 := TI_C (TV.below HT.out.2 hb2) (bestB ps k lo hi).2 hl2 (by have := HLN.out; omega) (fun _ _ => rfl)
        have k2 := TI_C ht2 (bestB ps k lo hi).2 hl2 (by have := HLN.out; omega) (fun _ _ => rfl)
        rw [hl2] at k1 k2
        have HSM := Lib.hid (sames_any w2 (some ⟨b, 0, none⟩) ps.length cc (bestB ps k lo hi).2 (some ⟨b2, 0, none⟩) cc2 k1 k2 hl2 (by have := HLN.out; omega))
        clear k1 k2 hb2 ht2 hl2
        generalize (bestB ps k lo hi).1 = bc at *
        go_wp2_with fail
        refine HSM.out.mono ?_
        rintro e w3 ⟨rfl, hb3⟩
        have HB3 := Lib.hid (below_t HB2.out hb3)
        clear hb3
        go_wp2_with fail
        refine (HAL.out w3).mono ?_
        rintro e w4 ⟨rfl, hb4⟩
        have HB4 := Lib.hid (below_t HB3.out hb4)
        clear hb4
        go_wp2_with fail
        go_ret
        exact ⟨rfl, HB4.out⟩
end Go.Proofs.Ytpbndcmmclkdpaa
