/-
  FlowBlendCheap: no other admissible blend is cheaper, or equally cheap and lexicographically greater.
-/
import Derived.Test.YtpbndcmmclkdpaaNf
namespace Go.Proofs.Ytpbndcmmclkdpaa
open PFlowSolves
open Go.RowKit Go.Proofs.YtpbndcmmclkdpaaW.PrintWords
theorem gt_first : ∀ {a b : List Int} {i : Nat}, Gt a b → (∀ j, j < i → a.getD j 0 = b.getD j 0) → a.getD i 0 ≠ b.getD i 0 → b.getD i 0 < a.getD i 0
  | [], _, _, h, _, _ => h.elim
  | _ :: _, [], _, h, _, _ => h.elim
  | x :: a, y :: b, 0, h, _, hne => by
    simp at hne ⊢
    rcases h with h | h
    · exact h
    · exact absurd h.1 hne
  | x :: a, y :: b, i + 1, h, he, hne => by
    have e0 := he 0 (Nat.succ_pos _)
    simp at e0 hne ⊢
    rcases h with h | h
    · omega
    · exact gt_first h.2 (fun j hj => by simpa using he (j + 1) (by omega)) hne
theorem blendE_ok {ps : List S49} {k lo hi : Int} (h : blendE ps k lo hi = 0) : ps.length ≤ 6 ∧ (1 ≤ k ∧ k ≤ 24) ∧ (0 ≤ lo ∧ lo ≤ 10000) ∧ (0 ≤ hi ∧ hi ≤ 10000) ∧ ∀ p ∈ ps, okP p = true := by
  unfold blendE at h
  by_cases h1 : 6 < ps.length
  · rw [if_pos h1] at h; exact absurd h (by decide)
  · rw [if_neg h1] at h
    split at h
    · exact absurd h (by decide)
    · rename_i h2
      have h2' : ¬ k < 1 ∧ ¬ 24 < k ∧ ¬ inB lo 10000 = false ∧ ¬ inB hi 10000 = false ∧ ¬ ps.any (fun p => !okP p) = true := ⟨fun e => h2 (.inl e), fun e => h2 (.inr (.inl e)), fun e => h2 (.inr (.inr (.inl e))), fun e => h2 (.inr (.inr (.inr (.inl e)))), fun e => h2 (.inr (.inr (.inr (.inr e))))⟩
      obtain ⟨a1, a2, a3, a4, a5⟩ := h2'
      refine ⟨by omega, by omega, inB_out (by simpa using a3), inB_out (by simpa using a4), fun p hp => ?_⟩
      cases e : okP p with
      | true => rfl
      | false => exact absurd (List.any_eq_true.2 ⟨p, hp, by rw [e]; rfl⟩) a5
theorem blendE_val (ps : List S49) (k lo hi : Int) : blendE ps k lo hi = 0 ∨ blendE ps k lo hi = 2 ∨ blendE ps k lo hi = 3 := by
  unfold blendE
  split
  · simp
  · split <;> simp
set_option maxRecDepth 100000 in
set_option maxHeartbeats 8000000 in
theorem blendcheap_law (A1 : Option Addr) (c1 : Nat) (ps : List S49) (hc1 : ps.length ≤ c1) (_ : c1 ≤ 9223372036854775807) {w : World} (h1 : Kd.C k49 w A1 ps.length ps) (_ : ∀ x ∈ ps, (Lit.int .i64 x.f0).wf = true ∧ (Lit.int .i64 x.f1).wf = true ∧ (Lit.int .i64 x.f2).wf = true ∧ (Lit.int .i64 x.f3).wf = true ∧ (Lit.int .i64 x.f4).wf = true)
    {k : Int} (_ : (Lit.int .i64 k).wf = true) {lo : Int} (_ : (Lit.int .i64 lo).wf = true) {hi : Int} (_ : (Lit.int .i64 hi).wf = true)
    (A2 : Option Addr) (c2 : Nat) (xs : List Int) (_ : xs.length ≤ c2) (_ : c2 ≤ 9223372036854775807) (h2 : Kd.C (Kd.int .i64) w A2 xs.length xs) (_ : ∀ a ∈ xs, (Lit.int .i64 a).wf = true) :
    Calls Try.prog 11 #[.slice A1 ps.length c1, .int .i64 k, .int .i64 lo, .int .i64 hi, .slice A2 xs.length c2] w fun e w' => e = .returned (.bool true) ∧ Below w.heap.size w w' := by
  have HBL := Lib.hid (blend_any w A1 c1 ps h1 hc1 k lo hi)
  have H1 := Lib.hid h1
  have H2 := Lib.hid h2
  clear h1 h2
  go_enter Try.func11, Try.ntmps11
  go_wp2_with fail
  refine HBL.out.mono ?_
  rintro e w1 ⟨hpost, hb1⟩
  have HB1 := Lib.hid hb1
  clear hb1 HBL
  rcases hpost with ⟨h0, rfl⟩ | ⟨h0, hbig, rfl⟩ | ⟨h0, hlt, b, cc, rfl, hl, ht, hb⟩
  · have hv := blendE_val ps k lo hi
    have e1 : (blendE ps k lo hi != 0) = true := by simp [h0]
    have e2 : (blendE ps k lo hi != 13) = true := by simp; omega
    have HAL := Lib.hid (alive_any w1)
    clear h0 hv
    generalize blendE ps k lo hi = be at *
    go_wp2_with fail
    refine HAL.out.mono ?_
    rintro e w2 ⟨rfl, hb2⟩
    have HB2 := Lib.hid (below_t HB1.out hb2)
    clear hb2 HAL
    go_wp2_with fail
    go_ret
    exact ⟨rfl, HB2.out⟩
  · obtain ⟨hn, hk, hlo, hhi, hok⟩ := blendE_ok h0
    have hno : ∀ c, ¬ AdmB ps k lo hi c := by
      rcases best_spec hok (lo := lo) (hi := hi) hk with h | h
      · exact h.2
      · rw [hbig] at h; exact absurd h.1 (Int.lt_irrefl _)
    have e3 : decide ((6 : Int) < ps.length) = false := decide_eq_false (by omega)
    have HS1 := Lib.hid (blendS_any w1 A1 c1 ps (Kd.C_below H1.out HB1.out) k lo hi hok hn hk hlo hhi none 0 [] (Kd.C_nil _ _))
    have HS2 := Lib.hid (fun W hW => blendS_any W A1 c1 ps (Kd.C_below H1.out (below_t HB1.out hW)) k lo hi hok hn hk hlo hhi A2 c2 xs (Kd.C_below H2.out (below_t HB1.out hW)))
    have HNO := Lib.hid hno
    clear h0 hbig hn hk hlo hhi hok hno
    go_wp2_with fail
    refine HS1.out.mono ?_
    rintro e w2 ⟨⟨x1, o1, rfl, _, _⟩, hb2⟩
    have HB2 := Lib.hid hb2
    clear hb2 HS1
    go_wp2_with fail
    refine (HS2.out _ HB2.out).mono ?_
    rintro e w3 ⟨⟨x2, o2, rfl, ho2, _⟩, hb3⟩
    have HB3 := Lib.hid (below_t HB1.out (below_t HB2.out hb3))
    obtain rfl : o2 = false := by cases o2 with
      | false => rfl
      | true => exact absurd (ho2.1 rfl) (HNO.out _)
    have HAL := Lib.hid (alive_any w3)
    clear hb3 HS2 ho2 HB2
    go_wp2_with fail
    refine HAL.out.mono ?_
    rintro e w4 ⟨rfl, hb4⟩
    have HB4 := Lib.hid (below_t HB3.out hb4)
    clear hb4 HAL
    go_wp2_with fail
    go_ret
    exact ⟨rfl, HB4.out⟩
  · obtain ⟨hn, hk, hlo, hhi, hok⟩ := blendE_ok h0
    obtain ⟨ha, hco, hle⟩ : AdmB ps k lo hi (bestB ps k lo hi).2 ∧ (bestB ps k lo hi).1 = co ps (bestB ps k lo hi).2 ∧
        ∀ c, AdmB ps k lo hi c → (bestB ps k lo hi).1 < co ps c ∨ ((bestB ps k lo hi).1 = co ps c ∧ (c = (bestB ps k lo hi).2 ∨ Gt (bestB ps k lo hi).2 c)) := by
      rcases best_spec hok (lo := lo) (hi := hi) hk with h | h
      · rw [h.1] at hlt; exact absurd hlt (Int.lt_irrefl _)
      · exact h.2
    generalize (bestB ps k lo hi).1 = bc at *
    generalize (bestB ps k lo hi).2 = bs at *
    have e3 : decide ((6 : Int) < ps.length) = false := decide_eq_false (by omega)
    have hC1 := TI_C ht bs hl (by omega) (fun _ _ => rfl)
    rw [hl] at hC1
    have hS1 := blendS_any w1 A1 c1 ps (Kd.C_below H1.out HB1.out) k lo hi hok hn hk hlo hhi (some ⟨b, 0, none⟩) cc bs (by rw [hl]; exact hC1)
    rw [hl] at hS1
    have HS1 := Lib.hid hS1
    have HS2 := Lib.hid (fun W hW => blendS_any W A1 c1 ps (Kd.C_below H1.out (below_t HB1.out hW)) k lo hi hok hn hk hlo hhi A2 c2 xs (Kd.C_below H2.out (below_t HB1.out hW)))
    have HA := Lib.hid ha
    have HCO := Lib.hid hco
    have HLE := Lib.hid hle
    have HT := Lib.hid ht
    have HN := Lib.hid hn
    have HL := Lib.hid hl
    clear h0 hlt hl ht hb hC1 hS1 hn hk hlo hhi hok ha hco hle
    go_wp2_with fail
    refine HS1.out.mono ?_
    rintro e w2 ⟨⟨x1, o1, rfl, ho1, hx1⟩, hb2⟩
    have HB2 := Lib.hid hb2
    obtain rfl : o1 = true := ho1.2 HA.out
    obtain rfl : x1 = bc := (hx1 HA.out).trans HCO.out.symm
    clear hb2 HS1 ho1 hx1
    go_wp2_with fail
    refine (HS2.out _ HB2.out).mono ?_
    rintro e w3 ⟨⟨x2, o2, rfl, ho2, hx2⟩, hb3⟩
    have HB13 := Lib.hid (below_t HB2.out hb3)
    have HB3 := Lib.hid (below_t HB1.out (below_t HB2.out hb3))
    have HO2 := Lib.hid ho2
    have HX2 := Lib.hid hx2
    clear hb3 HS2 ho2 hx2 HB2
    have hfin : (o2 = true → x2 < x1 → False) := fun e h => by
      have ad := HO2.out.1 e
      have := HX2.out ad
      rcases HLE.out _ ad with h2 | h2 <;> omega
    have e5 : (o2 && decide (x2 < x1)) = false := by
      cases o2 with
      | false => rfl
      | true => simp; exact Int.not_lt.1 (hfin rfl)
    have HB30 := Lib.hid (Below.refl w3.heap.size w3)
    have HST : Hid (o2 = true → x2 = x1 → xs = bs ∨ Gt bs xs) := Lib.hid (fun e h => by
      have ad := HO2.out.1 e
      have := HX2.out ad
      rcases HLE.out _ ad with h2 | h2
      · omega
      · exact h2.2)
    have HXL : Hid (o2 = true → xs.length = ps.length) := Lib.hid (fun e => fits_len (HO2.out.1 e).1)
    clear hfin HO2 HX2 HLE HA
    have e6 : (x1 != x1) = false := by simp
    have hal := fun (W : World) => alive_any W
    have HAL := Lib.hid hal
    clear hal
    by_cases hq : o2 = true ∧ x2 = x1
    · obtain ⟨rfl, rfl⟩ := hq
      have e7 : decide (x2 < x2) = false := by simp
      have e8 : (x2 == x2) = true := by simp
      have HST' := Lib.hid (HST.out rfl rfl)
      have HXL' := Lib.hid (HXL.out rfl)
      clear HST HXL e5
      go_wp2_with fail
      go_loopg [18] ps.length (fun kk v18 wr => ∃ i : Nat, v18 = .int .i64 i ∧ Hid (i + kk = ps.length) ∧ Hid (∀ j, j < i → bs.getD j 0 = xs.getD j 0) ∧ Hid (Below w3.heap.size w3 wr))
      case atStart => exact ⟨0, rfl, Lib.hid (by omega), Lib.hid (fun j hj => absurd hj (Nat.not_lt_zero _)), HB30⟩
      case round =>
        obtain ⟨i, rfl, HI, HEQ, HBR⟩ := hrel
        obtain ⟨wv, rfl⟩ : ∃ wv : World, wv = wr := ⟨_, rfl⟩
        by_cases hlt : i < ps.length
        · have hi0 : (i : Int) < ps.length := by omega
          have hix : (i : Int) < xs.length := by have := HXL'.out; omega
          have hiz : (0 : Int) ≤ i := by omega
          have q0 : wv.cell? ⟨b, i, none⟩ = some (.int .i64 (bs.getD i 0)) := TV.cell (TV.below HT.out (below_t HB13.out HBR.out)) hlt
          obtain ⟨bd, rfl, q1⟩ := Kd.at_int (Kd.C_below H2.out (below_t HB3.out HBR.out)) (i : Int) (by omega) hix
          have ex : rd xs (i : Int) = xs.getD i 0 := by unfold rd; rw [Int.toNat_natCast]
          rw [ex, Int.toNat_natCast] at q1
          have hw : IntKind.i64.wrap ((i : Int) + 1) = i + 1 := IntWalk.i64_in _ (by have := HN.out; omega)
          have HLT := Lib.hid hlt
          clear ex hlt
          generalize hxi : xs.getD i 0 = xi at *
          have HXI := Lib.hid hxi
          clear hxi
          generalize hyi : bs.getD i 0 = yi at *
          have HYI := Lib.hid hyi
          clear hyi
          by_cases hne : yi = xi
          · have e3 : (yi != xi) = false := by simp [hne]
            have HNE := Lib.hid hne
            clear hne
            go_upto_region 13 with (fail)
            go_quiet (fail)
            go_wp2_with fail
            go_roundg (ps.length - (i + 1))
            case measure => have := HI.out; have := HLT.out; omega
            case rel => exact ⟨i + 1, by go_num, Lib.hid (by have := HI.out; have := HLT.out; omega), Lib.hid (fun j hj => by
              by_cases e : j = i
              · subst e; rw [HXI.out, HYI.out, HNE.out]
              · exact HEQ.out j (by omega)), Lib.hid (by first | exact pw_below_drewN HBR.out _ | (apply pw_below_drewN; exact HBR.out))⟩
          · have e3 : (yi != xi) = true := by simp [hne]
            have e4 : decide (xi < yi) = true := decide_eq_true (by
              rcases HST'.out with h | h
              · exact absurd (by rw [← HXI.out, ← HYI.out, h]) hne
              · have := gt_first (i := i) h HEQ.out (by rw [HXI.out, HYI.out]; exact hne)
                rw [HXI.out, HYI.out] at this; exact this)
            have KQ : ∀ W, Below wv.heap.size wv W → W.cell? ⟨b, i, none⟩ = some (.int .i64 yi) ∧ W.cell? (bd.add i) = some (.int .i64 xi) ∧ Below wv.heap.size wv W := fun W hW =>
              ⟨(Fr.of_below hW (fun _ => False)).cell q0 (fun a => a), (Fr.of_below hW (fun _ => False)).cell q1 (fun a => a), hW⟩
            have HKQ := Lib.hid KQ
            clear KQ hne
            go_upto_region 13 with (fail)
            go_quiet (fail)
            have hbq : Below wv.heap.size wv (wv.drewN nq) := by first | exact pw_below_drewN (Below.refl _ wv) _ | (apply pw_below_drewN; exact Below.refl _ wv)
            have HBQ := Lib.hid hbq
            clear hbq
            generalize wv.drewN nq = wq at *
            go_upto_region 14 with (fail)
            have S0 := HKQ.out _ (HBQ.out.drew)
            go_region_held3 (fun W => W.cell? ⟨b, i, none⟩ = some (.int .i64 yi) ∧ W.cell? (bd.add i) = some (.int .i64 xi) ∧ Below wv.heap.size wv W)
              (first | (with_reducible exact S0) | (with_reducible exact S5) | (trace_state; fail))
              (first
                | (go_at_call 18; refine (HAL.out wq.drew).mono ?_; rintro e w7 ⟨rfl, hb7⟩; have S5 := HKQ.out _ (S0.2.2.trans (hb7.mono S0.2.2.size))))
            all_goals
              go_wp2_with fail
              go_ret
              exact ⟨rfl, below_t HB3.out (below_t HBR.out S5.2.2)⟩
        · have hnl : ¬ (i : Int) < ps.length := by have := HI.out; omega
          clear hlt
          go_wp2_with fail
          refine (HAL.out wv).mono ?_
          rintro e w8 ⟨rfl, hb8⟩
          have HB8 := Lib.hid (below_t HB3.out (below_t HBR.out hb8))
          clear hb8
          go_wp2_with fail
          go_ret
          exact ⟨rfl, HB8.out⟩
    · have e8 : (o2 && (x2 == x1)) = false := by
        cases o2 with
        | false => rfl
        | true => simp; intro e; exact hq ⟨rfl, e⟩
      have HE5 := Lib.hid e5
      have HE8 := Lib.hid e8
      clear hq HST HXL e5 e8
      cases o2 with
      | false =>
        clear HE5 HE8
        go_wp2_with fail
        go_loopg [18] 0 (fun kk v18 wr => v18 = .int .i64 0 ∧ Hid (Below w3.heap.size w3 wr))
        case atStart => exact ⟨rfl, HB30⟩
        case round =>
          obtain ⟨rfl, HBR⟩ := hrel
          obtain ⟨wv, rfl⟩ : ∃ wv : World, wv = wr := ⟨_, rfl⟩
          go_wp2_with fail
          refine (HAL.out wv).mono ?_
          rintro e w8 ⟨rfl, hb8⟩
          have HB8 := Lib.hid (below_t HB3.out (below_t HBR.out hb8))
          clear hb8
          go_wp2_with fail
          go_ret
          exact ⟨rfl, HB8.out⟩
      | true =>
        have e7 : decide (x2 < x1) = false := by simpa using HE5.out
        have e8 : (x2 == x1) = false := by simpa using HE8.out
        clear HE5 HE8
        go_wp2_with fail
        go_loopg [18] 0 (fun kk v18 wr => v18 = .int .i64 0 ∧ Hid (Below w3.heap.size w3 wr))
        case atStart => exact ⟨rfl, HB30⟩
        case round =>
          obtain ⟨rfl, HBR⟩ := hrel
          obtain ⟨wv, rfl⟩ : ∃ wv : World, wv = wr := ⟨_, rfl⟩
          go_wp2_with fail
          refine (HAL.out wv).mono ?_
          rintro e w8 ⟨rfl, hb8⟩
          have HB8 := Lib.hid (below_t HB3.out (below_t HBR.out hb8))
          clear hb8
          go_wp2_with fail
          go_ret
          exact ⟨rfl, HB8.out⟩
end Go.Proofs.Ytpbndcmmclkdpaa
