/-
  The law AccountsCompressed.
-/
import Derived.Test.YtcobihdjcdefmaaQCZ
import Derived.Test.YtcobihdjcdefmaaQCj
namespace Go.Proofs.Ytcobihdjcdefmaa
open PAccountsCompress
open Go.RowKit Go.Proofs.YtcobihdjcdefmaaW.PrintWords
theorem again_any {O : Mt} {x : Nat → Int} (hn : O.length ≤ 10) (hg : Good O) (hs : Sol O x) (w : World) (B : Option Addr) (d : Nat) (hC : Kd.C kRow w B O.length (leftL O x)) (hd : O.length ≤ d) :
    Calls Try.prog 15 #[.slice B O.length d] w fun e' w' => (∃ B2 d2, e' = .returned (.tuple #[.slice B2 O.length d2, .int .i64 0, .int .i64 0]) ∧ Kd.C kRow w' B2 O.length (leftL O x) ∧ O.length ≤ d2) ∧ Below w.heap.size w w' := by
  have hl := rowsM_len O.length (leftF O x)
  have hD : Deb (leftL O x) 0 := .inr (.inl ⟨by rw [hl]; exact hn, left_good hg hs.1, rfl⟩)
  have h := compress_is hD w B d (by rw [hl]; exact hC) (by rw [hl]; exact hd)
  rw [hl] at h
  refine h.mono ?_
  rintro e' w' ⟨⟨V, g, rfl, hcp⟩, hb⟩
  refine ⟨?_, hb⟩
  rcases hcp with ⟨h0, _⟩ | ⟨_, B2, d2, y, rfl, rfl, hC2, hd2, hy⟩
  · exact absurd rfl h0
  · obtain ⟨h1, h2⟩ := sol_again hn hg hs hy
    rw [h1]
    rw [h2, hl] at hC2
    rw [hl] at hd2 ⊢
    exact ⟨B2, d2, rfl, hC2, hd2⟩
theorem nets_ok {M : Mt} {n : Nat} (hl : M.length = n) (hn : n ≤ 10) (hg : Good M) (w : World) (A : Option Addr) (c : Nat) (hC : Kd.C kRow w A n M) (hc : n ≤ c) :
    Calls Try.prog 13 #[.slice A n c] w fun e' w' => (∃ B d, e' = .returned (.tuple #[.slice B n d, .int .i64 0]) ∧ Kd.C (Kd.int .i64) w' B n (vecL n (netF M))) ∧ Below w.heap.size w w' := by
  subst hl
  obtain ⟨e, xs, hf, hd, h0, _⟩ := nets_f M
  have he := hd.of hn hg
  subst he
  have hx := h0 rfl
  subst hx
  refine (nets_any hf w A c hC hc).mono ?_
  rintro e' w' ⟨⟨B, d, rfl, hC2⟩, hb⟩
  rw [vecL_len] at hC2
  exact ⟨⟨B, d, by rw [vecL_len], hC2⟩, hb⟩
theorem same_n {n : Nat} (xs ys : List Int) (hx : xs.length = n) (hy : ys.length = n) (hn : n ≤ 100000) (w : World) (A : Option Addr) (c : Nat) (hA : Kd.C (Kd.int .i64) w A n xs) (B : Option Addr) (d : Nat) (hB : Kd.C (Kd.int .i64) w B n ys) :
    Calls Try.prog 16 #[.slice A n c, .slice B n d] w fun e w' => e = .returned (.bool (decide (xs = ys))) ∧ Below w.heap.size w w' := by
  have h := same_any w A c xs B d ys (by rw [hx]; exact hA) (by rw [hy]; exact hB) (by omega)
  rw [hx, hy] at h
  exact h
theorem rounds_not {O : Mt} {x : Nat → Int} (hn : O.length ≤ 10) (hg : Good O) (hs : Sol O x) (w : World) (B : Option Addr) (d : Nat) (hC : Kd.C kRow w B O.length (leftL O x)) (hd : O.length ≤ d) :
    Calls Try.prog 19 #[.slice B O.length d] w fun e w' => e = .returned (.bool false) ∧ Below w.heap.size w w' := by
  have hl := rowsM_len O.length (leftF O x)
  obtain ⟨p, hp⟩ := left_down hg hs
  have h := merinolaw07_round.calls 5000 B d (leftL O x) false w (by rw [hl]; exact hC) (by rw [hl]; exact hd) (round_f (left_good hg hs.1) (by rw [hl]; exact hn) (fun i k hi hk h => hp i k (by rwa [hl] at hi) (by rwa [hl] at hk) h))
  rw [hl] at h
  exact h
set_option maxRecDepth 100000 in
set_option maxHeartbeats 8000000 in
theorem compressed_law (A : Option Addr) (c : Nat) (O : Mt) (hle : O.length ≤ c) (_ : c ≤ 9223372036854775807) {w : World} (hC : Kd.C kRow w A O.length O) {G : List Int → Prop} (_ : ∀ x ∈ O, G x)
    (A2 : Option Addr) (c2 : Nat) (P : Mt) (hle2 : P.length ≤ c2) (_ : c2 ≤ 9223372036854775807) (hC2 : Kd.C kRow w A2 P.length P) {G2 : List Int → Prop} (_ : ∀ x ∈ P, G2 x) :
    Calls Try.prog 5 #[.slice A O.length c, .slice A2 P.length c2] w fun e w' => e = .returned (.bool true) ∧ Below w.heap.size w w' := by
  have HAL := Lib.hid (fun W => alive_any W)
  have HC := Lib.hid hC
  have HLE := Lib.hid hle
  have HP := Lib.hid hC2
  have HLP := Lib.hid hle2
  obtain ⟨b, hb, hbs⟩ := small_f O
  obtain ⟨b', hb', hbs'⟩ := small_f P
  have HS1 := Lib.hid (drawn0_below (merinolaw07_small.calls 300 A c O b w hC hle hb))
  have HS2 := Lib.hid (fun (W : World) (hW : Below w.heap.size w W) => drawn0_below (merinolaw07_small.calls 300 A2 c2 P b' W (Kd.C_below hC2 hW) hle2 hb'))
  have HBS := Lib.hid hbs'
  clear hC hle hC2 hle2 hb hbs hb' hbs'
  go_enter Try.func5, Try.ntmps5
  cases b with
  | false =>
    go_wp2_with fail
    refine HS1.out.mono ?_
    rintro e w1 ⟨rfl, hb1⟩
    go_wp2_with fail
    refine (HAL.out _).mono ?_
    rintro e w2 ⟨rfl, hb2⟩
    have HB := Lib.hid (below_t hb1 hb2)
    clear hb1 hb2
    go_wp2_with fail
    go_ret
    exact ⟨rfl, HB.out⟩
  | true =>
    go_wp2_with fail
    refine HS1.out.mono ?_
    rintro e w1 ⟨rfl, hb1⟩
    have HB1 := Lib.hid hb1
    clear hb1 HS1
    go_wp2_with fail
    refine (HS2.out _ HB1.out).mono ?_
    rintro e w2 ⟨rfl, hb2⟩
    have HB2 := Lib.hid (below_t HB1.out hb2)
    clear hb2 HB1 HS2
    cases b' with
    | false =>
      go_wp2_with fail
      refine (HAL.out _).mono ?_
      rintro e w3 ⟨rfl, hb3⟩
      have HB := Lib.hid (below_t HB2.out hb3)
      clear hb3
      go_wp2_with fail
      go_ret
      exact ⟨rfl, HB.out⟩
    | true =>
      have HSP := Lib.hid (HBS.out.1 rfl)
      obtain ⟨f, _, hd⟩ := debts_f O
      have HD := Lib.hid hd
      have HCO := Lib.hid (compress_is hd w2 A c (Kd.C_below HC.out HB2.out) HLE.out)
      clear hd HBS
      go_wp2_with fail
      refine HCO.out.mono ?_
      rintro e w3 ⟨⟨V, g, rfl, hcp⟩, hb3⟩
      have HB3 := Lib.hid (below_t HB2.out hb3)
      have HCP := Lib.hid hcp
      clear hcp hb3 HCO HB2
      rcases HCP.out with ⟨h0, rfl, rfl⟩ | ⟨h0, BL, dl, x, rfl, rfl, hCL, hdl, hsol⟩
      · have h1 : (f != 0) = true := by simp [h0]
        clear h0 HCP
        go_wp2_with fail
        refine (HAL.out _).mono ?_
        rintro e w4 ⟨rfl, hb4⟩
        have HB := Lib.hid (below_t HB3.out hb4)
        clear hb4
        go_wp2_with fail
        go_ret
        exact ⟨rfl, HB.out⟩
      · subst h0
        have HGD := Lib.hid HD.out.good
        have HSOL := Lib.hid hsol
        have HCL := Lib.hid hCL
        have HDL := Lib.hid hdl
        have HAG := Lib.hid (again_any HGD.out.1 HGD.out.2 hsol w3 BL dl hCL hdl)
        clear hCL hdl hsol HCP HD
        generalize hsx : sumN (LL O).length x = sx at *
        have HSX := Lib.hid hsx
        clear hsx
        go_wp2_with fail
        refine HAG.out.mono ?_
        rintro e w4 ⟨⟨B2, d2, rfl, hCG, hd2⟩, hb4⟩
        have HCG := Lib.hid hCG
        have HB4 := Lib.hid hb4
        have HN1 := Lib.hid (nets_ok rfl HGD.out.1 HGD.out.2 w4 A c (Kd.C_below HC.out (below_t HB3.out hb4)) HLE.out)
        clear hCG hb4 HAG hd2
        go_wp2_with fail
        refine HN1.out.mono ?_
        rintro e w5 ⟨⟨B5, d5, rfl, hC5⟩, hb5⟩
        have HC5 := Lib.hid hC5
        have HB5 := Lib.hid hb5
        have HN2 := Lib.hid (nets_ok (rowsM_len _ _) HGD.out.1 (left_good HGD.out.2 HSOL.out.1) w5 BL dl (Kd.C_below HCL.out (below_t HB4.out hb5)) HDL.out)
        clear hC5 hb5 HN1
        go_wp2_with fail
        refine HN2.out.mono ?_
        rintro e w6 ⟨⟨B6, d6, rfl, hC6⟩, hb6⟩
        rw [vecL_congr (fun v hv => net_same HSOL.out hv)] at hC6
        have HC56 := Lib.hid (Kd.C_below HC5.out hb6)
        have HB6 := Lib.hid (below_t HB4.out (below_t HB5.out hb6))
        have HBW6 := Lib.hid (below_t HB3.out (below_t HB4.out (below_t HB5.out hb6)))
        have HCG6 := Lib.hid (Kd.C_below HCG.out (below_t HB5.out hb6))
        have HSA := Lib.hid (same_n (vecL O.length (netF O)) (vecL O.length (netF O)) (vecL_len _ _) (vecL_len _ _) (by have := HGD.out.1; omega) w6 B5 d5 HC56.out B6 d6 hC6)
        have q0 : decide (vecL O.length (netF O) = vecL O.length (netF O)) = true := decide_eq_true rfl
        rw [q0] at HSA
        clear hC6 hb6 HN2 q0 HC5 HB5 HB4 HCG
        have q1 : ((O.length : Int) != O.length) = false := by simp
        go_wp2_with fail
        refine HSA.out.mono ?_
        rintro e w7 ⟨rfl, hb7⟩
        have HB7 := Lib.hid hb7
        have HSU := Lib.hid (sum_any rfl HGD.out.2 HGD.out.1 w7 A c (Kd.C_below HC.out (below_t HBW6.out hb7)) HLE.out)
        clear hb7 HSA
        have hbox := sum_box HGD.out.1 HGD.out.2 HSOL.out.1
        have htot := tot_left (O := O) x
        rw [HSX.out] at hbox htot
        obtain ⟨tO, htO⟩ : ∃ tO, tO = totF O := ⟨_, rfl⟩
        obtain ⟨tl, htl⟩ : ∃ tl, tl = totF (leftL O x) := ⟨_, rfl⟩
        rw [← htO, ← htl] at htot
        rw [← htO] at HSU
        have hws : IntKind.i64.wrap (tO - tl) = sx := by rw [htot, show tO - (tO - sx) = sx by omega]; exact IntWalk.i64_in _ (by omega)
        have HTL := Lib.hid htl
        have q2 : (sx != sx) = false := by simp
        clear hbox htot htO htl
        go_wp2_with fail
        refine HSU.out.mono ?_
        rintro e w8 ⟨rfl, hb8⟩
        have HB8 := Lib.hid (below_t HB7.out hb8)
        have HSL := Lib.hid (sum_any (rowsM_len _ _) (left_good HGD.out.2 HSOL.out.1) HGD.out.1 w8 BL dl (Kd.C_below HCL.out (below_t HB6.out (below_t HB7.out hb8))) HDL.out)
        rw [← HTL.out] at HSL
        clear hb8 HSU HB7
        go_wp2_with fail
        refine HSL.out.mono ?_
        rintro e w9 ⟨rfl, hb9⟩
        have HB9 := Lib.hid (below_t HB8.out hb9)
        have HRD := Lib.hid (rounds_not HGD.out.1 HGD.out.2 HSOL.out w9 BL dl (Kd.C_below HCL.out (below_t HB6.out (below_t HB8.out hb9))) HDL.out)
        clear hb9 HSL HB8
        go_wp2_with fail
        refine HRD.out.mono ?_
        rintro e wa ⟨rfl, hba⟩
        have HBA := Lib.hid (below_t HBW6.out (below_t HB9.out hba))
        have HCLA := Lib.hid (Kd.C_below HCL.out (below_t HB6.out (below_t HB9.out hba)))
        have HCGA := Lib.hid (Kd.C_below HCG6.out (below_t HB9.out hba))
        have HC5A := Lib.hid (Kd.C_below HC56.out (below_t HB9.out hba))
        clear hba HRD HB9 HB6 HBW6 HCG6 HC56 hws q1 q2
        go_wp2_with fail
        go_loopg [15] O.length (fun k v15 wr => ∃ i : Nat, v15 = .int .i64 i ∧ Hid (i + k = O.length) ∧ Hid (Below wa.heap.size wa wr))
        case atStart => exact ⟨0, rfl, Lib.hid (by omega), Lib.hid (Below.refl _ _)⟩
        case round =>
          obtain ⟨i, rfl, HI, HB⟩ := hrel
          obtain ⟨wv, rfl⟩ : ∃ wv : World, wv = wr := ⟨_, rfl⟩
          by_cases hlt : i < O.length
          · have hi0 : (i : Int) < O.length := by omega
            have hiz : (0 : Int) ≤ i := by omega
            have hw : IntKind.i64.wrap ((i : Int) + 1) = i + 1 := IntWalk.i64_in _ (by have := HGD.out.1; omega)
            obtain ⟨ad, Ai, ci, rfl, k0w, hci, hCi⟩ := at_L3 HCLA.out (i : Int) hiz hi0
            obtain ⟨bd, Bi, di, rfl, l0w, hdi, hDi⟩ := at_L3 HCGA.out (i : Int) hiz hi0
            rw [rdL] at k0w hci hCi l0w hdi hDi
            rw [Int.toNat_natCast] at k0w l0w
            have HK : Hid (∀ W, Below wa.heap.size wa W → W.cell? (ad.add i) = some (.slice Ai (rowE (leftL O x) i).length ci) ∧ W.cell? (bd.add i) = some (.slice Bi (rowE (leftL O x) i).length di)) := Lib.hid (fun W hW => ⟨(hW.cell (World.block_lt_of_cell? wa _ k0w)).trans k0w, (hW.cell (World.block_lt_of_cell? wa _ l0w)).trans l0w⟩)
            have HSA := Lib.hid (fun (W : World) (hW : Below wa.heap.size wa W) => same_yes W Bi di Ai ci (rowE (leftL O x) i) (Kd.C_below hDi hW) (Kd.C_below hCi hW) (by rw [rowsM_row hlt, vecL_len]; have := HGD.out.1; omega))
            have HLT := Lib.hid hlt
            clear hlt k0w l0w hci hdi hCi hDi
            generalize (rowE (leftL O x) i).length = rl at *
            go_upto_region 14 with fail
            have S0 := HK.out _ HB.out.drew
            go_region_held3 (fun W => W.cell? (ad.add i) = some (.slice Ai rl ci) ∧ W.cell? (bd.add i) = some (.slice Bi rl di)) (first | (with_reducible exact S0) | (with_reducible exact S1))
              ((go_at_call 16; refine (HSA.out _ HB.out.drew).mono ?_; rintro e w8 ⟨rfl, hb8⟩; have S1 := HK.out _ (below_t HB.out.drew hb8)))
            all_goals
              have HB8 := Lib.hid (below_t HB.out.drew hb8)
              clear S0 S1 hb8 HB
              go_wp2_with fail
              go_roundg (O.length - (i + 1))
              case measure => have := HI.out; have := HLT.out; omega
              case rel => exact ⟨i + 1, by go_num, Lib.hid (by have := HLT.out; omega), HB8⟩
          · have hnl : ¬ (i : Int) < O.length := by omega
            obtain ⟨b, hwf, hwp⟩ := within_f P O HSP.out
            have HWP := Lib.hid hwp
            have HBV := Lib.hid (below_t HBA.out HB.out)
            have HWI := Lib.hid (drawn0_below (merinolaw07_within.calls 5000 A2 c2 P A c O b wv (Kd.C_below HP.out HBV.out) HLP.out (Kd.C_below HC.out HBV.out) HLE.out hwf))
            have HC5V := Lib.hid (Kd.C_below HC5A.out HB.out)
            have HCLV := Lib.hid (Kd.C_below HCLA.out HB.out)
            clear hlt HI hwf hwp HB HBA HC5A HCLA HCGA
            go_wp2_with fail
            refine HWI.out.mono ?_
            rintro e wb ⟨rfl, hbb⟩
            have HBB := Lib.hid hbb
            clear hbb HWI
            cases b with
            | false =>
              go_wp2_with fail
              refine (HAL.out _).mono ?_
              rintro e wc ⟨rfl, hbc⟩
              have HBC := Lib.hid (below_t HBV.out (below_t HBB.out hbc))
              clear hbc
              go_wp2_with fail
              go_ret
              exact ⟨rfl, HBC.out⟩
            | true =>
              obtain ⟨k, zs, hf, hdk, hz0, hz1⟩ := nets_f P
              have HNP := Lib.hid (nets_any hf wb A2 c2 (Kd.C_below (Kd.C_below HP.out HBV.out) HBB.out) HLP.out)
              have HDK := Lib.hid hdk
              have HZ0 := Lib.hid hz0
              clear hf hdk hz0 hz1
              go_wp2_with fail
              refine HNP.out.mono ?_
              rintro e wc ⟨⟨BC, dc, rfl, hCC⟩, hbc⟩
              have HCC := Lib.hid hCC
              have HBC := Lib.hid hbc
              clear hCC hbc HNP
              by_cases h0 : k = 0
              · subst h0
                obtain ⟨hP10, hPg⟩ := HDK.out.good
                obtain ⟨hPl, hPw⟩ := HWP.out (by trivial)
                have hzs := HZ0.out rfl
                have hzl : zs.length = O.length := by rw [hzs, vecL_len, hPl]
                have hC1 : Kd.C (Kd.int .i64) wc BC O.length zs := by have h := HCC.out; rw [hzl] at h; exact h
                have HSN := Lib.hid (same_n zs (vecL O.length (netF O)) hzl (vecL_len _ _) (by omega) wc BC dc hC1 B5 d5 (Kd.C_below HC5V.out (below_t HBB.out HBC.out)))
                have HSP1 := Lib.hid (fun (W : World) (hW : Below wc.heap.size wc W) => sum_any rfl hPg hP10 W A2 c2 (Kd.C_below (Kd.C_below HP.out (below_t HBV.out (below_t HBB.out HBC.out))) hW) HLP.out)
                have HSL1 := Lib.hid (fun (W : World) (hW : Below wc.heap.size wc W) => sum_any (rowsM_len _ _) (left_good HGD.out.2 HSOL.out.1) HGD.out.1 W BL dl (Kd.C_below (Kd.C_below HCLV.out (below_t HBB.out HBC.out)) hW) HDL.out)
                have HSLE : Hid (zs = vecL O.length (netF O) → totF (leftL O x) ≤ totF P) := Lib.hid (fun he => sol_least HGD.out.1 HGD.out.2 HSOL.out hPg hPl (fun i k hi hk => ((hPw i (by omega)).2 k (by rw [(hPg i (by omega)).1]; omega)).2) (fun v hv => by
                  have h1 : (vecL P.length (netF P)).getD v 0 = (vecL O.length (netF O)).getD v 0 := by rw [← hzs, he]
                  rw [vecL_at (by omega), vecL_at hv] at h1
                  exact h1))
                clear hP10 hPg hPl hPw hzs hC1 HZ0 HDK
                rw [hzl]
                generalize totF P = tP at *
                generalize totF (leftL O x) = tL at *
                by_cases hq : zs = vecL O.length (netF O)
                · have hde : decide (zs = vecL O.length (netF O)) = true := decide_eq_true hq
                  have hge : decide (tL ≤ tP) = true := decide_eq_true (HSLE.out hq)
                  rw [hde] at HSN
                  clear hq hde hzl
                  go_wp2_with fail
                  refine HSN.out.mono ?_
                  rintro e wd ⟨rfl, hbd⟩
                  have HBD := Lib.hid hbd
                  clear hbd HSN
                  go_wp2_with fail
                  refine (HSP1.out _ HBD.out).mono ?_
                  rintro e we ⟨rfl, hbe⟩
                  have HBE := Lib.hid (below_t HBD.out hbe)
                  clear hbe HBD HSP1
                  go_wp2_with fail
                  refine (HSL1.out _ HBE.out).mono ?_
                  rintro e wf ⟨rfl, hbf⟩
                  have HBF := Lib.hid (below_t HBE.out hbf)
                  clear hbf HBE HSL1
                  go_wp2_with fail
                  refine (HAL.out _).mono ?_
                  rintro e wg ⟨rfl, hbg⟩
                  have HBG := Lib.hid (below_t HBV.out (below_t HBB.out (below_t HBC.out (below_t HBF.out hbg))))
                  clear hbg
                  go_wp2_with fail
                  go_ret
                  exact ⟨rfl, HBG.out⟩
                · have hde : decide (zs = vecL O.length (netF O)) = false := decide_eq_false hq
                  rw [hde] at HSN
                  clear hq hde hzl
                  go_wp2_with fail
                  refine HSN.out.mono ?_
                  rintro e wd ⟨rfl, hbd⟩
                  have HBD := Lib.hid hbd
                  clear hbd HSN
                  go_wp2_with fail
                  refine (HAL.out _).mono ?_
                  rintro e wg ⟨rfl, hbg⟩
                  have HBG := Lib.hid (below_t HBV.out (below_t HBB.out (below_t HBC.out (below_t HBD.out hbg))))
                  clear hbg
                  go_wp2_with fail
                  go_ret
                  exact ⟨rfl, HBG.out⟩
              · have h1 : (k != 0) = true := by simp [h0]
                clear h0
                go_wp2_with fail
                refine (HAL.out _).mono ?_
                rintro e wg ⟨rfl, hbg⟩
                have HBG := Lib.hid (below_t HBV.out (below_t HBB.out (below_t HBC.out hbg)))
                clear hbg
                go_wp2_with fail
                go_ret
                exact ⟨rfl, HBG.out⟩
end Go.Proofs.Ytcobihdjcdefmaa
