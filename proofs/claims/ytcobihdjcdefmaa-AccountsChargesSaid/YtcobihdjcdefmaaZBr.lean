/-
  Within of the reference, walked.
-/
import Derived.Test.YtcobihdjcdefmaaZBq
import Derived.Test.YtcobihdjcdefmaaZEt
namespace Go.Proofs.Ytcobihdjcdefmaa
open PAccountsCharges
open Go.RowKit Go.Proofs.YtcobihdjcdefmaaW.PrintWords
theorem fld55_1 (b : Bool) (A : Option Addr) (n c : Nat) (w : World) : (Instr.field 55 (.agg #[.bool b, .slice A n c]) 1).run Try.prog w = .ok (.slice A n c) w := by kernel_rfl
/-- The number that the digits from n on make. -/
def topF (l : List Int) (n : Nat) : Int := hF l.length (dF l) (l.length - n)
theorem topF_all (l : List Int) : topF l 0 = vL l := by unfold topF; rw [Nat.sub_zero, hF_all]; rfl
theorem topF_end (l : List Int) : topF l l.length = 0 := by unfold topF; rw [Nat.sub_self]; rfl
theorem topF_next {l : List Int} {n : Nat} (hn : n < l.length) : topF l n = dF l n + 10000 * topF l (n + 1) := by
  unfold topF
  rw [show l.length - n = (l.length - (n + 1)) + 1 by omega]
  show dF l (l.length - (l.length - (n + 1) + 1)) + _ = _
  rw [show l.length - (l.length - (n + 1) + 1) = n by omega]
theorem topF_bd {l : List Int} (hg : gL l) (hb : vL l ≤ 1152921504606846976) {n : Nat} (hn : n ≤ l.length) : 0 ≤ topF l n ∧ topF l n ≤ 1152921504606846976 := by
  have h1 := hF_split (n := l.length) (f := dF l) (k := l.length - n) (by omega)
  rw [show l.length - (l.length - n) = n by omega] at h1
  have h2 : vF l.length (dF l) = vL l := rfl
  have h3 := vF_nonneg (n := n) (f := dF l) fun i hi => gL_dF hg i
  have h5 : ∀ k, k ≤ l.length → 0 ≤ hF l.length (dF l) k := fun k => by
    induction k with
    | zero => exact fun _ => Int.le_refl _
    | succ k ih =>
      intro hk
      have h6 := ih (by omega)
      have h7 := gL_dF hg (l.length - (k + 1))
      show 0 ≤ dF l (l.length - (k + 1)) + 10000 * hF l.length (dF l) k
      omega
  have h4 := h5 (l.length - n) (by omega)
  have h6 : hF l.length (dF l) (l.length - n) ≤ hF l.length (dF l) (l.length - n) * 10000 ^ n := by
    have := Int.mul_le_mul_of_nonneg_left (show (1 : Int) ≤ 10000 ^ n by have := pw_pos n; omega) h4
    omega
  exact ⟨h4, by show hF l.length (dF l) (l.length - n) ≤ _; omega⟩
theorem topF_wrap {l : List Int} (hg : gL l) (hb : vL l ≤ 1152921504606846976) {n : Nat} (hn : n < l.length) : IntKind.i64.wrap (topF l (n + 1) * 10000) = topF l (n + 1) * 10000 ∧ IntKind.i64.wrap (topF l (n + 1) * 10000 + dF l n) = topF l n := by
  have h1 := topF_bd hg hb (n := n) (by omega)
  have h2 := topF_bd hg hb (n := n + 1) (by omega)
  have h3 := gL_dF hg n
  have h4 := topF_next hn
  constructor
  · exact IntWalk.i64_in _ (by omega)
  · rw [show topF l (n + 1) * 10000 + dF l n = topF l n by omega]
    exact IntWalk.i64_in _ (by omega)
set_option maxRecDepth 100000 in
set_option maxHeartbeats 4000000 in
theorem within_any {w : World} {A : Option Addr} {c : Nat} {x most : Int} (hx : BG w A c x) (h0 : 0 ≤ most) (hm : most ≤ 1152921504606846976) (hxm : x.natAbs ≤ most.natAbs) :
    Calls Try.prog 30 #[.agg #[.bool (decide (x < 0)), .slice A (dg x.natAbs).length c], .int .i64 most] w fun e w' => e = .returned (.tuple #[.int .i64 x, .bool true]) ∧ Below w.heap.size w w' := by
  have hlm : (dg most.natAbs).length ≤ 8 := dg_len (by have : (10000 : Int) ^ 8 = 100000000000000000000000000000000 := by decide
                                                       omega)
  have hlx := dg_len_le hxm
  obtain ⟨kq, hkq⟩ := ends_k (cmp_e (x := x.natAbs) (y := most.natAbs) (by omega))
  have hcm : ¬ 0 < cmpI (x.natAbs : Int) (most.natAbs : Int) := fun h => by
    have := cmpI_le.2 (show (x.natAbs : Int) ≤ (most.natAbs : Int) by omega)
    omega
  have e1 : decide (0 < cmpI (x.natAbs : Int) (most.natAbs : Int)) = false := decide_eq_false hcm
  have HOF := Lib.hid (fun (W : World) => of_any most (by omega) W)
  obtain ⟨l, hl⟩ : ∃ l, l = dg x.natAbs := ⟨_, rfl⟩
  have hvl : vL l = x.natAbs := by rw [hl, dg_val]
  have hgl : gL l := by rw [hl]; exact dg_good _
  have HG : Hid (gL l ∧ vL l ≤ 1152921504606846976 ∧ l.length ≤ 8) := Lib.hid ⟨hgl, by omega, by rw [hl]; omega⟩
  have HXC := Lib.hid hx
  have HX : Hid (x = if x < 0 then -(vL l) else vL l) := Lib.hid (by rw [hvl]; split <;> omega)
  have HXB : Hid (-1152921504606846976 ≤ x ∧ x ≤ 1152921504606846976) := Lib.hid (by omega)
  unfold BG at HXC
  have HKQ := Lib.hid hkq
  show Calls Try.prog 30 #[.agg #[.bool (decide (x < 0)), .slice A (dg x.natAbs).length c], .int .i64 most] w _
  rw [← hl] at HXC HKQ ⊢
  clear hlm hlx hkq hcm hl hvl hgl hx h0 hm hxm
  generalize cmpI (x.natAbs : Int) (most.natAbs : Int) = cm at *
  have hal := below_alloc (Below.refl w.heap.size w) (.cells #[.bool (decide (x < 0)), .slice A l.length c] 55 (0, 0))
  have HK := Lib.hid (Blk.new w #[.bool (decide (x < 0)), .slice A l.length c] 55)
  have HB1 := Lib.hid hal
  have HC1 := Lib.hid (Kd.C_below HXC.out.2 hal)
  clear hal
  generalize hsg : decide (x < 0) = neg at *
  have HSG := Lib.hid hsg
  clear hsg
  have hf55 := fld55_1
  go_enter Try.func30, Try.ntmps30
  go_upto_region 1 with (fail)
  generalize w.alloc (.cells #[.bool neg, .slice A l.length c] 55 (0, 0)) = w1 at *
  have HKQ1 : Hid (∀ W, Below w1.heap.size w1 W → W.cell? ⟨w.heap.size, 0, none⟩ = some (.bool neg) ∧ W.cell? ⟨w.heap.size, 1, none⟩ = some (.slice A l.length c) ∧ Below w1.heap.size w1 W) := Lib.hid (fun W hW =>
    ⟨Blk.cell (HK.out.fr (Fr.of_below hW (fun _ => False)) (fun a => a)) 0 rfl, Blk.cell (HK.out.fr (Fr.of_below hW (fun _ => False)) (fun a => a)) 1 rfl, hW⟩)
  have S0 := HKQ1.out _ ((Fr.refl (fun _ => False) w1).drew.none_below)
  go_region_held3 (fun W => W.cell? ⟨w.heap.size, 0, none⟩ = some (.bool neg) ∧ W.cell? ⟨w.heap.size, 1, none⟩ = some (.slice A l.length c) ∧ Below w1.heap.size w1 W)
    (first | (with_reducible exact S0) | (with_reducible exact S6) | (with_reducible exact S5) | (trace_state; fail))
    (first
      | (go_at_call 29; refine (HOF.out w1.drew).mono ?_; rintro e w8 ⟨⟨A2, c2, rfl, hB2⟩, hb8⟩; have S5 := HKQ1.out _ (below_t S0.2.2 hb8))
      | (go_at_call 55; refine (merinoref01_cmpD.calls kq A c l A2 c2 _ _ w8 (Kd.C_below HC1.out S5.2.2) HXC.out.1 hB2.2 hB2.1 HKQ.out).mono ?_; rintro e w9 ⟨rfl, hd9⟩; have S6 := HKQ1.out _ (below_t S5.2.2 hd9.below)))
  all_goals
    have HB9 := Lib.hid (below_t HB1.out S6.2.2)
    have HC9 := Lib.hid (Kd.C_below HC1.out S6.2.2)
    have HKW : Hid (∀ W, Below w9.heap.size w9 W → W.cell? ⟨w.heap.size, 0, none⟩ = some (.bool neg) ∧ W.cell? ⟨w.heap.size, 1, none⟩ = some (.slice A l.length c)) := Lib.hid (fun W hW => by
      have h := HKQ1.out W (below_t S6.2.2 hW)
      exact ⟨h.1, h.2.1⟩)
    clear S0 S5 S6 hb8 hd9 hB2 HKQ1 HK HC1 HB1 HKQ HXC HOF hf55 e1
    have x1 := (HKW.out w9 (Below.refl _ _)).2
    have hwl : IntKind.i64.wrap ((l.length : Int) - 1) = (l.length : Int) - 1 := IntWalk.i64_in _ (by have := HG.out.2.2; omega)
    go_upto_region 5 with (fail)
    go_loopg [6, 7] l.length (fun kk v6 v7 wr => v7 = .int .i64 ((kk : Int) - 1) ∧ v6 = .int .i64 (topF l kk) ∧ Hid (kk ≤ l.length) ∧ Hid (wr = w9))
    case atStart => exact ⟨rfl, by rw [topF_end], Lib.hid (Nat.le_refl _), Lib.hid rfl⟩
    case round =>
      obtain ⟨rfl, rfl, HLE, HW⟩ := hrel
      obtain rfl := HW.out
      clear HW
      obtain ⟨w9, rfl⟩ : ∃ w9 : World, w9 = wr := ⟨_, rfl⟩
      cases gk with
      | zero =>
        have x0 := (HKW.out w9 (Below.refl _ _)).1
        have HT : Hid (topF l 0 = vL l) := Lib.hid (topF_all l)
        have d0 : decide ((0 : Int) ≤ ((0 : Nat) : Int) - 1) = false := by decide
        cases neg with
        | false =>
          have HV : Hid (topF l 0 = x) := Lib.hid (by
            have h1 := of_decide_eq_false HSG.out
            have h2 := HX.out
            rw [if_neg h1] at h2
            rw [HT.out, ← h2])
          go_wp2_with fail
          go_ret2
          rw [HV.out]
          exact ⟨rfl, HB9.out⟩
        | true =>
          have HV : Hid (-(topF l 0) = x) := Lib.hid (by
            have h1 := of_decide_eq_true HSG.out
            have h2 := HX.out
            rw [if_pos h1] at h2
            rw [HT.out, ← h2])
          have hwn : IntKind.i64.wrap (-(topF l 0)) = x := by rw [HV.out]; exact IntWalk.i64_in _ (by have := HXB.out; omega)
          go_wp2_with fail
          go_ret2
          exact ⟨rfl, HB9.out⟩
      | succ n =>
        have hn1 : (((n + 1 : Nat) : Int) - 1) = (n : Int) := by omega
        rw [hn1]
        have hlt : n < l.length := HLE.out
        have hz : (0 : Int) ≤ n := by omega
        have hl0 : (n : Int) < l.length := by omega
        obtain ⟨ad, rfl, y0⟩ := Kd.at_int HC9.out (n : Int) hz hl0
        rw [rd_nat, Int.toNat_natCast] at y0
        obtain ⟨hw1, hw2⟩ := topF_wrap HG.out.1 HG.out.2.1 hlt
        have hw3 : IntKind.i64.wrap ((n : Int) - 1) = (n : Int) - 1 := IntWalk.i64_in _ (by have := HG.out.2.2; omega)
        have HN : Hid (n ≤ l.length) := Lib.hid (by omega)
        generalize dF l n = dn at *
        clear hlt hn1
        go_wp2_with fail
        go_roundg n
        case measure => omega
        case rel => exact ⟨rfl, rfl, HN, Lib.hid rfl⟩
end Go.Proofs.Ytcobihdjcdefmaa
