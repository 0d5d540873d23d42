/-
  The law AccountsCompress.
-/
import Derived.Test.YtcobihdjcdefmaaZCg
import Derived.Test.YtcobihdjcdefmaaZAl
namespace Go.Proofs.Ytcobihdjcdefmaa
open PAccountsCompress
open Go.RowKit Go.Proofs.YtcobihdjcdefmaaW.PrintWords
theorem nets_any {O : Mt} {e : Int} {xs : List Int} (hf : accounts_Nets.f 300 O = some (xs, e)) (w : World) (A : Option Addr) (c : Nat) (hC : Kd.C kRow w A O.length O) (hc : O.length ≤ c) :
    Calls Try.prog 13 #[.slice A O.length c] w fun e' w' => (∃ B d, e' = .returned (.tuple #[.slice B xs.length d, .int .i64 e]) ∧ Kd.C (Kd.int .i64) w' B xs.length xs) ∧ Below w.heap.size w w' := by
  refine (accounts_Nets.calls 300 A c O xs e w hC hc hf).mono ?_
  rintro e' w' ⟨v, rfl, hR, hb⟩
  obtain ⟨B, d, rfl, hC2, _⟩ := R_C hR
  exact ⟨⟨B, d, rfl, hC2⟩, hb⟩
theorem rnets_any {O : Mt} {e : Int} {xs : List Int} (hf : merinoref07_Nets.f 300 O = some (xs, e)) (w : World) (A : Option Addr) (c : Nat) (hC : Kd.C kRow w A O.length O) (hc : O.length ≤ c) :
    Calls Try.prog 14 #[.slice A O.length c] w fun e' w' => (∃ B d, e' = .returned (.tuple #[.slice B xs.length d, .int .i64 e]) ∧ Kd.C (Kd.int .i64) w' B xs.length xs) ∧ Below w.heap.size w w' := by
  refine (merinoref07_Nets.calls 300 A c O xs e w hC hc hf).mono ?_
  rintro e' w' ⟨v, rfl, hR, hb⟩
  obtain ⟨B, d, rfl, hC2, _⟩ := R_C hR
  exact ⟨⟨B, d, rfl, hC2⟩, hb⟩
theorem sum_any {O : Mt} {n : Nat} (hnn : O.length = n) (hg : Good O) (hn : n ≤ 10) (w : World) (A : Option Addr) (c : Nat) (hC : Kd.C kRow w A n O) (hc : n ≤ c) :
    Calls Try.prog 18 #[.slice A n c] w fun e w' => e = .returned (.int .i64 (totF O)) ∧ Below w.heap.size w w' := by
  subst hnn
  exact drawn0_below (merinolaw07_sum.calls 300 A c O (totF O) w hC hc (sum_f hg hn))
/-- What Compress answers. -/
def CompIs (O : Mt) (w : World) (e : Int) (V : Value) (g : Int) : Prop :=
  (e ≠ 0 ∧ V = .slice none 0 0 ∧ g = 0) ∨ (e = 0 ∧ ∃ B d x, V = .slice B O.length d ∧ g = sumN (LL O).length x ∧ Kd.C kRow w B O.length (leftL O x) ∧ O.length ≤ d ∧ Sol O x)
theorem CompIs.below {O : Mt} {w w' : World} {e : Int} {V : Value} {g : Int} (h : CompIs O w e V g) (hb : Below w.heap.size w w') : CompIs O w' e V g := by
  rcases h with h | ⟨h, B, d, x, h1, h2, h3, h4⟩
  · exact .inl h
  · exact .inr ⟨h, B, d, x, h1, h2, Kd.C_below h3 hb, h4⟩
theorem compress_is {O : Mt} {e : Int} (hd : Deb O e) (w : World) (A : Option Addr) (c : Nat) (hC : Kd.C kRow w A O.length O) (hc : O.length ≤ c) :
    Calls Try.prog 15 #[.slice A O.length c] w fun e' w' => (∃ V g, e' = .returned (.tuple #[V, .int .i64 g, .int .i64 e]) ∧ CompIs O w' e V g) ∧ Below w.heap.size w w' := by
  refine (compress_any w A c O hC hc).mono ?_
  rintro e' w' ⟨h, hb⟩
  refine ⟨?_, hb⟩
  rcases h with ⟨er, h0, hd2, rfl⟩ | ⟨hd2, B, d, x, rfl, h2, h3, h4⟩
  · rw [hd.eq hd2]
    exact ⟨_, _, rfl, .inl ⟨h0, rfl, rfl⟩⟩
  · rw [hd.eq hd2]
    exact ⟨_, _, rfl, .inr ⟨rfl, B, d, x, rfl, rfl, h2, h3, h4⟩⟩
set_option maxRecDepth 100000 in
set_option maxHeartbeats 8000000 in
theorem compress_law (A : Option Addr) (c : Nat) (O : Mt) (hle : O.length ≤ c) (_ : c ≤ 9223372036854775807) {w : World} (hC : Kd.C kRow w A O.length O) {G : List Int → Prop} (_ : ∀ x ∈ O, G x) :
    Calls Try.prog 4 #[.slice A O.length c] w fun e w' => e = .returned (.bool true) ∧ Below w.heap.size w w' := by
  have HAL := Lib.hid (fun W => alive_any W)
  have HC := Lib.hid hC
  have HLE := Lib.hid hle
  obtain ⟨b, hb, hbs⟩ := small_f O
  have HSM := Lib.hid (drawn0_below (merinolaw07_small.calls 300 A c O b w hC hle hb))
  have HBS := Lib.hid hbs
  clear hC hle hb hbs
  go_enter Try.func4, Try.ntmps4
  cases b with
  | false =>
    go_wp2_with fail
    refine HSM.out.mono ?_
    rintro e w1 ⟨rfl, hb1⟩
    go_wp2_with fail
    refine (HAL.out _).mono ?_
    rintro e w2 ⟨rfl, hb2⟩
    have HB := Lib.hid (below_t hb1 hb2)
    clear hb1 hb2
    go_wp2_with fail
    go_ret
    exact ⟨rfl, HB.out⟩
  | true =>
    have HS := Lib.hid (HBS.out.1 rfl)
    go_wp2_with fail
    refine HSM.out.mono ?_
    rintro e w1 ⟨rfl, hb1⟩
    have HRW := Lib.hid (rows_any w1 A c O (Kd.C_below HC.out hb1) HLE.out HS.out)
    have HB1 := Lib.hid hb1
    clear hb1 HSM HBS
    go_wp2_with fail
    refine HRW.out.mono ?_
    rintro e w2 ⟨⟨B, d, rfl, hCB, hld⟩, hb2⟩
    have HCB := Lib.hid hCB
    have HLD := Lib.hid hld
    have HB2 := Lib.hid (below_t HB1.out hb2)
    obtain ⟨e, xs, hf, hd, hx0, hx1⟩ := nets_f O
    obtain ⟨f, ys, hrf, hrd, hy0, hy1⟩ := rnets_f O
    obtain rfl : f = e := hrd.eq hd
    obtain rfl : ys = xs := by
      by_cases h0 : f = 0
      · rw [hx0 h0, hy0 h0]
      · rw [hx1 h0, hy1 h0]
    have HXL : Hid (ys.length ≤ 100000) := Lib.hid (by
      by_cases h0 : f = 0
      · subst h0; rw [hx0 rfl, vecL_len]; have := hd.good.1; omega
      · rw [hx1 h0]; decide)
    have HD := Lib.hid hd
    have H3 := Lib.hid (nets_any hf w2 B d hCB hld)
    have H4 := Lib.hid (fun W (hW : Below w2.heap.size w2 W) => rnets_any hrf W A c (Kd.C_below (Kd.C_below HC.out HB2.out) hW) HLE.out)
    clear hCB hld hb2 HRW HB1 hf hd hx0 hx1 hrf hrd hy0 hy1
    go_wp2_with fail
    refine H3.out.mono ?_
    rintro e w3 ⟨⟨B3, d3, rfl, hC3⟩, hb3⟩
    have HC3 := Lib.hid hC3
    have HB3 := Lib.hid hb3
    clear hC3 hb3 H3
    go_wp2_with fail
    refine (H4.out w3 HB3.out).mono ?_
    rintro e w4 ⟨⟨B4, d4, rfl, hC4⟩, hb4⟩
    have HC4 := Lib.hid hC4
    have HC34 := Lib.hid (Kd.C_below HC3.out hb4)
    have HB4 := Lib.hid (below_t HB3.out hb4)
    clear hC4 hb4 H4 HC3 HB3
    have q1 : (f != f) = false := by simp
    have HCO := Lib.hid (compress_is HD.out w4 B d (Kd.C_below HCB.out HB4.out) HLD.out)
    go_wp2_with fail
    refine HCO.out.mono ?_
    rintro e w5 ⟨⟨V, g, rfl, hcp⟩, hb5⟩
    have HCP := Lib.hid hcp
    have HBO5 := Lib.hid (below_t HB2.out (below_t HB4.out hb5))
    have HCB5 := Lib.hid (Kd.C_below (Kd.C_below HCB.out HB4.out) hb5)
    have HC5 := Lib.hid (Kd.C_below HC4.out hb5)
    have HC35 := Lib.hid (Kd.C_below HC34.out hb5)
    clear hb5 hcp HCO HB4 HC4 HC34 HCB HB2
    go_wp2_with fail
    go_loopg [11] O.length (fun k v11 wr => ∃ i : Nat, v11 = .int .i64 i ∧ Hid (i + k = O.length) ∧ Hid (Below w5.heap.size w5 wr))
    case atStart => exact ⟨0, rfl, Lib.hid (by omega), Lib.hid (Below.refl _ _)⟩
    case round =>
      obtain ⟨i, rfl, HI, HB⟩ := hrel
      obtain ⟨wv, rfl⟩ : ∃ wv : World, wv = wr := ⟨_, rfl⟩
      by_cases hlt : i < O.length
      · have hi0 : (i : Int) < O.length := by omega
        have hiz : (0 : Int) ≤ i := by omega
        have hw : IntKind.i64.wrap ((i : Int) + 1) = i + 1 := IntWalk.i64_in _ (by have := HS.out.1; omega)
        obtain ⟨ad, Ai, ci, rfl, k0w, hci, hCi⟩ := at_L3 (Kd.C_below HC.out HBO5.out) (i : Int) hiz hi0
        obtain ⟨bd, Bi, di, rfl, l0w, hdi, hDi⟩ := at_L3 HCB5.out (i : Int) hiz hi0
        rw [rdL] at k0w hci hCi l0w hdi hDi
        rw [Int.toNat_natCast] at k0w l0w
        have HK : Hid (∀ W, Below w5.heap.size w5 W → W.cell? (ad.add i) = some (.slice Ai (rowE O i).length ci) ∧ W.cell? (bd.add i) = some (.slice Bi (rowE O i).length di)) := Lib.hid (fun W hW => ⟨(hW.cell (World.block_lt_of_cell? w5 _ k0w)).trans k0w, (hW.cell (World.block_lt_of_cell? w5 _ l0w)).trans l0w⟩)
        have HSA := Lib.hid (fun (W : World) (hW : Below w5.heap.size w5 W) => same_yes W Bi di Ai ci (rowE O i) (Kd.C_below hDi hW) (Kd.C_below hCi hW) (by have := HS.out.2 i (Nat.zero_le _) hlt; omega))
        have HLT := Lib.hid hlt
        clear hlt k0w l0w hci hdi hCi hDi
        generalize (rowE O i).length = rl at *
        go_upto_region 10 with fail
        have S0 := HK.out _ HB.out.drew
        go_region_held3 (fun W => W.cell? (ad.add i) = some (.slice Ai rl ci) ∧ W.cell? (bd.add i) = some (.slice Bi rl di)) (first | (with_reducible exact S0) | (with_reducible exact S1))
          ((go_at_call 16; refine (HSA.out _ HB.out.drew).mono ?_; rintro e w8 ⟨rfl, hb8⟩; have S1 := HK.out _ (below_t HB.out.drew hb8)))
        all_goals
          have HB8 := Lib.hid (below_t HB.out.drew hb8)
          clear S0 S1 hb8 HB
          go_wp2_with fail
          go_roundg (O.length - (i + 1))
          case measure => have := HI.out; have := HLT.out; omega
          case rel => exact ⟨i + 1, by go_num, Lib.hid (by have := HLT.out; omega), HB8⟩
      · have hnl : ¬ (i : Int) < O.length := by omega
        have HSA := Lib.hid (same_yes wv B3 d3 B4 d4 ys (Kd.C_below HC35.out HB.out) (Kd.C_below HC5.out HB.out) HXL.out)
        clear hlt HI HC35 HC5
        go_wp2_with fail
        refine HSA.out.mono ?_
        rintro e w6 ⟨rfl, hb6⟩
        have HB6 := Lib.hid (below_t HB.out hb6)
        have HCP6 := Lib.hid (HCP.out.below (below_t HB.out hb6))
        clear hb6 HSA HB HCP
        go_upto_region 14 with fail
        rcases HCP6.out with ⟨h0, rfl, rfl⟩ | ⟨h0, BL, dl, x, rfl, rfl, hCL, hdl, hsol⟩
        · have h1 : (f != 0) = true := by simp [h0]
          clear h0
          go_wp2_with fail
          refine (HAL.out _).mono ?_
          rintro e w7 ⟨rfl, hb7⟩
          have HB7 := Lib.hid (below_t HBO5.out (below_t HB6.out hb7))
          clear hb7
          go_wp2_with fail
          go_ret
          exact ⟨rfl, HB7.out⟩
        · subst h0
          have HGD := Lib.hid HD.out.good
          have HRC := Lib.hid (rcompressed_any w6 A c O (Kd.C_below (Kd.C_below HC.out HBO5.out) HB6.out) BL dl x hCL HGD.out.1 HGD.out.2 hsol)
          have HSU := Lib.hid (fun (W : World) (hW : Below w6.heap.size w6 W) => sum_any rfl HGD.out.2 HGD.out.1 W A c (Kd.C_below (Kd.C_below (Kd.C_below HC.out HBO5.out) HB6.out) hW) HLE.out)
          have HSL := Lib.hid (fun (W : World) (hW : Below w6.heap.size w6 W) => sum_any (rowsM_len _ _) (left_good HGD.out.2 hsol.1) HGD.out.1 W BL dl (Kd.C_below hCL hW) hdl)
          have hbox := sum_box HGD.out.1 HGD.out.2 hsol.1
          have htot := tot_left (O := O) x
          have hws : IntKind.i64.wrap (totF O - totF (leftL O x)) = sumN (LL O).length x := by rw [htot, show totF O - (totF O - sumN (LL O).length x) = sumN (LL O).length x by omega]; exact IntWalk.i64_in _ (by omega)
          clear hbox htot hCL hdl hsol HCP6
          generalize totF (leftL O x) = tl at *
          generalize totF O = tO at *
          generalize sumN (LL O).length x = sx at *
          have q2 : (sx == sx) = true := by simp
          go_wp2_with fail
          refine HRC.out.mono ?_
          rintro e w7 ⟨rfl, hb7⟩
          have HB7 := Lib.hid hb7
          clear hb7 HRC
          go_wp2_with fail
          refine (HSU.out _ HB7.out).mono ?_
          rintro e w8 ⟨rfl, hb8⟩
          have HB8 := Lib.hid (below_t HB7.out hb8)
          clear hb8 HSU HB7
          go_wp2_with fail
          refine (HSL.out _ HB8.out).mono ?_
          rintro e w9 ⟨rfl, hb9⟩
          have HB9 := Lib.hid (below_t HB8.out hb9)
          clear hb9 HSL HB8
          go_wp2_with fail
          refine (HAL.out _).mono ?_
          rintro e wa ⟨rfl, hba⟩
          have HBA := Lib.hid (below_t HBO5.out (below_t HB6.out (below_t HB9.out hba)))
          clear hba HB9
          go_wp2_with fail
          go_ret
          exact ⟨rfl, HBA.out⟩
end Go.Proofs.Ytcobihdjcdefmaa
