/-
  Charge of the reference, walked.
-/
import Derived.Test.YtcobihdjcdefmaaZBu
import Derived.Test.YtcobihdjcdefmaaZGl
namespace Go.Proofs.Ytcobihdjcdefmaa
open PAccountsCharges
open Go.RowKit Go.Proofs.YtcobihdjcdefmaaW.PrintWords
theorem chargeR_arg {a : Int} {l : List S44} (h : ¬ (0 ≤ a ∧ a ≤ 1099511627776)) : chargeR a l = (0, 2) := by unfold chargeR; rw [if_pos (by omega)]
theorem chargeR_lim {a : Int} {l : List S44} (h1 : 0 ≤ a) (h2 : a ≤ 1099511627776) (h : 16 < l.length) : chargeR a l = (0, 3) := by unfold chargeR; rw [if_neg (by omega), if_pos (by omega)]
set_option maxRecDepth 100000 in
set_option maxHeartbeats 8000000 in
theorem rcharge_any (a : Int) (A : Option Addr) (c : Nat) (l : List S44) (w : World) (hC : Kd.C k44 w A l.length l) (_ : l.length ≤ c) :
    Calls Try.prog 8 #[.int .i64 a, .slice A l.length c] w fun e w' => e = .returned (.tuple #[.int .i64 (chargeR a l).1, .int .i64 (chargeR a l).2]) ∧ Below w.heap.size w w' := by
  have HC := Lib.hid (fun (n : Int) (W : World) => cents_any n W)
  have HL := Lib.hid hC
  have HB := Lib.hid (Below.refl w.heap.size w)
  clear hC
  go_enter Try.func8, Try.ntmps8
  by_cases h0 : a < 0
  · have b0 : decide (a < 0) = true := decide_eq_true h0
    have HV := Lib.hid (chargeR_arg (l := l) (show ¬ (0 ≤ a ∧ a ≤ 1099511627776) from fun h => by omega))
    clear h0
    rw [HV.out]
    go_wp2_with fail
    go_ret2
    exact ⟨rfl, HB.out⟩
  have b0 : decide (a < 0) = false := decide_eq_false h0
  cases b1 : centsB a with
  | false =>
    have HV := Lib.hid (chargeR_arg (l := l) (show ¬ (0 ≤ a ∧ a ≤ 1099511627776) from fun h => absurd (centsB_iff.2 ⟨by omega, h.2⟩) (by rw [b1]; simp)))
    clear h0
    rw [HV.out]
    go_wp2_with (go_at_call 26; refine (HC.out _ _).mono ?_; rintro e w2 ⟨rfl, rfl⟩)
    go_ret2
    exact ⟨rfl, HB.out⟩
  | true =>
    have hab := centsB_iff.1 b1
    by_cases h2 : 16 < l.length
    · have b2 : decide ((16 : Int) < l.length) = true := decide_eq_true (by omega)
      have HV := Lib.hid (chargeR_lim (l := l) (a := a) (by omega) hab.2 h2)
      clear h0 h2 hab
      rw [HV.out]
      go_wp2_with (go_at_call 26; refine (HC.out _ _).mono ?_; rintro e w2 ⟨rfl, rfl⟩)
      go_ret2
      exact ⟨rfl, HB.out⟩
    · have b2 : decide ((16 : Int) < l.length) = false := decide_eq_false (by omega)
      have HST := Lib.hid (charge_start (a := a) (l := l) (by omega) hab.2 (by omega))
      have HA : Hid (0 ≤ a ∧ a ≤ 1099511627776 ∧ l.length ≤ 16) := Lib.hid ⟨by omega, hab.2, by omega⟩
      clear h0 h2 hab
      have HK := Lib.hid (Blk.new w #[.bool false, .slice none 0 0] 55)
      have HB1 := Lib.hid (below_alloc (Below.refl w.heap.size w) (.cells #[.bool false, .slice none 0 0] 55 (0, 0)))
      go_upto_region 7 with (go_at_call 26; refine (HC.out _ _).mono ?_; rintro e w2 ⟨rfl, rfl⟩)
      clear b0 b1 b2 HC
      generalize w.alloc (.cells #[.bool false, .slice none 0 0] 55 (0, 0)) = w1 at *
      go_loopg [6, 8, 9, 10] l.length (fun kk v6 v8 v9 v10 wr => ∃ (i : Nat) (last s : Int) (A7 : Option Addr) (c7 : Nat), v8 = .int .i64 i ∧ v6 = .int .i64 last ∧ Hid (i + kk = l.length) ∧ Hid (0 ≤ last ∧ last ≤ 1099511627776) ∧ Hid (0 ≤ s ∧ s ≤ i * 10995116277760000) ∧ Hid (chargeR a l = chargeFrom a last s (l.drop i)) ∧ Hid (Blk wr w.heap.size #[.bool (decide (s < 0)), .slice A7 (dg s.natAbs).length c7] 55) ∧ Hid (BG wr A7 c7 s) ∧ Hid (Below w.heap.size w wr))
      case atStart =>
        exact ⟨0, 0, 0, none, 0, rfl, rfl, Lib.hid (by omega), Lib.hid ⟨by decide, by decide⟩, Lib.hid ⟨by decide, by decide⟩, Lib.hid (by rw [List.drop_zero]; exact HST.out), Lib.hid (by rw [show dg (0 : Int).natAbs = [] from dg_zero]; exact HK.out), Lib.hid (by unfold BG; rw [show dg (0 : Int).natAbs = [] from dg_zero]; exact ⟨Nat.le_refl _, rfl, by decide, fun h => absurd h (Nat.lt_irrefl _)⟩), HB1⟩
      case round =>
        clear HK HB1 HST
        obtain ⟨i, last, s, A7, c7, rfl, rfl, HI, HLA, HSB, HV, HK7, HBG, HBW⟩ := hrel
        obtain ⟨wv, rfl⟩ : ∃ wv : World, wv = wr := ⟨_, rfl⟩
        by_cases hlt : i < l.length
        · have hi0 : (i : Int) < l.length := by omega
          have hiz : (0 : Int) ≤ i := by omega
          obtain ⟨b, hb⟩ : ∃ b, l[i]? = some b := ⟨_, List.getElem?_eq_getElem hlt⟩
          obtain ⟨ad, rfl, z0, z1⟩ := at_T44 (Kd.C_below HL.out HBW.out) (i : Int) hiz hi0
          have e3 : rd_T44 l (i : Int) = b := by unfold rd_T44; rw [Int.toNat_natCast, List.getD_eq_getElem?_getD, hb]; rfl
          rw [e3, Int.toNat_natCast] at z0 z1
          have hdr : l.drop i = b :: l.drop (i + 1) := by
            rw [List.drop_eq_getElem_cons hlt]
            congr 1
            rw [List.getElem?_eq_getElem hlt] at hb
            exact Option.some.inj hb
          have hv := HV.out
          rw [hdr] at hv
          have HV2 := Lib.hid hv
          have HLT := Lib.hid hlt
          have HKB := Lib.hid (Blk.new wv #[.int .i64 b.f0, .int .i64 b.f1] 44)
          have hal := below_alloc (Below.refl wv.heap.size wv) (.cells #[.int .i64 b.f0, .int .i64 b.f1] 44 (0, 0))
          have HBW2 := Lib.hid (below_t HBW.out hal)
          have HBG2 := Lib.hid (HBG.out.below hal)
          have HK72 := Lib.hid (HK7.out.fr (Fr.of_below hal (fun _ => False)) (fun a => a))
          have HSZ := Lib.hid (Blk.lt HK7.out)
          clear hv hdr hb e3 hlt HV HBW HBG HK7 hal
          go_upto_region 10 with (fail)
          generalize wv.alloc (.cells #[.int .i64 b.f0, .int .i64 b.f1] 44 (0, 0)) = w2 at *
          have k0 := Blk.cell HKB.out 0 (v := .int .i64 b.f0) rfl
          have k1 := Blk.cell HKB.out 1 (v := .int .i64 b.f1) rfl
          by_cases g0 : b.f0 < 1
          · have u0 : decide (b.f0 < 1) = true := decide_eq_true g0
            have HE := Lib.hid (HV2.out.trans (chargeFrom_bad (show badBand last b from (fun h => .inl h) g0)))
            clear g0
            go_wp2_with fail
            go_ret2
            rw [HE.out]
            exact ⟨rfl, HBW2.out⟩
          have u0 : decide (b.f0 < 1) = false := decide_eq_false g0
          by_cases g1 : 1099511627776 < b.f0
          · have u1 : decide (1099511627776 < b.f0) = true := decide_eq_true g1
            have HE := Lib.hid (HV2.out.trans (chargeFrom_bad (show badBand last b from (fun h => .inr (.inl h)) g1)))
            clear g0 g1
            go_wp2_with fail
            go_ret2
            rw [HE.out]
            exact ⟨rfl, HBW2.out⟩
          have u1 : decide (1099511627776 < b.f0) = false := decide_eq_false g1
          by_cases g2 : b.f0 ≤ last
          · have u2 : decide (b.f0 ≤ last) = true := decide_eq_true g2
            have HE := Lib.hid (HV2.out.trans (chargeFrom_bad (show badBand last b from (fun h => .inr (.inr (.inl h))) g2)))
            clear g0 g1 g2
            go_wp2_with fail
            go_ret2
            rw [HE.out]
            exact ⟨rfl, HBW2.out⟩
          have u2 : decide (b.f0 ≤ last) = false := decide_eq_false g2
          by_cases g3 : b.f1 < 0
          · have u3 : decide (b.f1 < 0) = true := decide_eq_true g3
            have HE := Lib.hid (HV2.out.trans (chargeFrom_bad (show badBand last b from (fun h => .inr (.inr (.inr (.inl h)))) g3)))
            clear g0 g1 g2 g3
            go_wp2_with fail
            go_ret2
            rw [HE.out]
            exact ⟨rfl, HBW2.out⟩
          have u3 : decide (b.f1 < 0) = false := decide_eq_false g3
          by_cases g4 : 10000 < b.f1
          · have u4 : decide (10000 < b.f1) = true := decide_eq_true g4
            have HE := Lib.hid (HV2.out.trans (chargeFrom_bad (show badBand last b from (fun h => .inr (.inr (.inr (.inr h)))) g4)))
            clear g0 g1 g2 g3 g4
            go_wp2_with fail
            go_ret2
            rw [HE.out]
            exact ⟨rfl, HBW2.out⟩
          have u4 : decide (10000 < b.f1) = false := decide_eq_false g4
          have hnb : ¬ badBand last b := fun h => h.elim g0 (fun h => h.elim g1 (fun h => h.elim g2 (fun h => h.elim g3 g4)))
          have HV3 := Lib.hid (HV2.out.trans (chargeFrom_next hnb))
          have hgb : (1 ≤ b.f0 ∧ b.f0 ≤ 1099511627776) ∧ last < b.f0 ∧ (0 ≤ b.f1 ∧ b.f1 ≤ 10000) := by omega
          obtain ⟨mn, hmn⟩ : ∃ mn, mn = min a b.f0 := ⟨_, rfl⟩
          obtain ⟨inn, hinn⟩ : ∃ inn, inn = max 0 (mn - last) := ⟨_, rfl⟩
          have HINN : Hid (0 ≤ inn ∧ inn ≤ 1099511627776) := Lib.hid (by have := HA.out; have := HLA.out; omega)
          have v1 : (if b.f0 < a then b.f0 else a) = mn := by rw [hmn]; split <;> omega
          have v2 : wrap64 (mn - last) = mn - last := w64c (by have := HA.out; have := HLA.out; omega)
          have v3 : (if last < mn then mn - last else 0) = inn := by rw [hinn]; split <;> omega
          have HGB := Lib.hid hgb
          rw [← hmn, ← hinn] at HV3
          clear g0 g1 g2 g3 g4 hnb hgb hmn hinn
          go_upto_region 13 with (fail)
          have pw5 : (10000 : Int) ^ 5 = 100000000000000000000 := by decide
          have hsb : 0 ≤ s ∧ s ≤ 175921860444160000 := by have h1 := HSB.out; have h2 := HA.out; have h3 := HI.out; have h4 := HLT.out; omega
          have hmb : 0 ≤ inn * b.f1 ∧ inn * b.f1 ≤ 10995116277760000 := ⟨Int.mul_nonneg HINN.out.1 HGB.out.2.2.1, by
            have h : inn * b.f1 ≤ 1099511627776 * 10000 := Int.mul_le_mul HINN.out.2 HGB.out.2.2.2 HGB.out.2.2.1 (by decide)
            omega⟩
          have HLE : Hid ((dg s.natAbs).length ≤ 5 ∧ (dg inn.natAbs).length ≤ 5 ∧ (dg b.f1.natAbs).length ≤ 5 ∧ (dg (inn * b.f1).natAbs).length ≤ 5) := Lib.hid ⟨dg_len (by rw [pw5]; omega), dg_len (by rw [pw5]; have := HINN.out; omega), dg_len (by rw [pw5]; have := HGB.out; omega), dg_len (by rw [pw5]; omega)⟩
          have HSM : Hid (0 ≤ s + inn * b.f1 ∧ s + inn * b.f1 ≤ ((i + 1 : Nat) : Int) * 10995116277760000) := Lib.hid (by have h1 := HSB.out; rw [Int.natCast_add, Int.add_mul]; omega)
          have HO1 := Lib.hid (of_any inn (by have := HINN.out; omega) w2.drew)
          have HO2 := Lib.hid (fun (W : World) => of_any b.f1 (by have := HGB.out; omega) W)
          have HTM := Lib.hid (fun (W : World) (X Y : Option Addr) (e f : Nat) (hx : BG W X e inn) (hy : BG W Y f b.f1) => times_any hx hy (by have := HLE.out; omega) (by have := HLE.out; omega))
          have HPL := Lib.hid (fun (W : World) (Y : Option Addr) (f : Nat) (hy : BG W Y f (inn * b.f1)) (hW : Below w2.heap.size w2 W) => plus_any (HBG2.out.below hW) hy (by have := HLE.out; omega) (by have := HLE.out; omega))
          have HK : Hid (∀ W, Below w2.heap.size w2 W → Blk W w.heap.size #[.bool (decide (s < 0)), .slice A7 (dg s.natAbs).length c7] 55 ∧ W.cell? ⟨wv.heap.size, 1, none⟩ = some (.int .i64 b.f1) ∧ Below w2.heap.size w2 W) := Lib.hid (fun W hW => ⟨HK72.out.fr (Fr.of_below hW (fun _ => False)) (fun a => a), Blk.cell (HKB.out.fr (Fr.of_below hW (fun _ => False)) (fun a => a)) 1 rfl, hW⟩)
          clear pw5 hsb hmb v1 v2 v3 u0 u1 u2 u3 u4 k0 k1 z0 z1
          obtain ⟨hk0, s1, s4⟩ := HK.out _ ((Fr.refl (fun _ => False) w2).drew.none_below)
          have c0 := Blk.cell hk0 0 (v := .bool (decide (s < 0))) rfl
          have c1 := Blk.cell hk0 1 (v := .slice A7 (dg s.natAbs).length c7) rfl
          refine calm ?_
          go_region_law (first
            | (go_simp; go_at_call_of 29 inn; refine HO1.out.mono ?_; rintro e w3 ⟨⟨X, cx, rfl, hX⟩, hb3⟩; have hB3 := below_t s4 hb3; have r1 := (HK.out _ hB3).2.1; have hk3 := (HK.out _ hB3).1; have a0 := Blk.cell hk3 0 (v := .bool (decide (s < 0))) rfl; have a1 := Blk.cell hk3 1 (v := .slice A7 (dg s.natAbs).length c7) rfl; clear hk3)
            | (go_simp; go_at_call_of 29 b.f1; refine (HO2.out w3).mono ?_; rintro e w4 ⟨⟨Y, cy, rfl, hY⟩, hb4⟩; have hB4 := below_t hB3 hb4; have hk4 := (HK.out _ hB4).1; have b0 := Blk.cell hk4 0 (v := .bool (decide (s < 0))) rfl; have b1 := Blk.cell hk4 1 (v := .slice A7 (dg s.natAbs).length c7) rfl; clear hk4)
            | (go_simp; go_at_call 28; refine (HTM.out w4 X Y cx cy (hX.below hb4) hY).mono ?_; rintro e w5 ⟨⟨Z, cz, rfl, hZ⟩, hb5⟩; have hB5 := below_t hB4 hb5; have hk5 := (HK.out _ hB5).1; have d0 := Blk.cell hk5 0 (v := .bool (decide (s < 0))) rfl; have d1 := Blk.cell hk5 1 (v := .slice A7 (dg s.natAbs).length c7) rfl; clear hk5)
            | (go_simp; go_at_call 27; refine (HPL.out w5 Z cz hZ hB5).mono ?_; rintro e w6 ⟨⟨V, cv, rfl, hVV⟩, hb6⟩; have hB6 := below_t hB5 hb6; have hk6 := (HK.out _ hB6).1; have f0 := Blk.free hk6 0; have f1 := Blk.free hk6 1; have e0 := Blk.cell hk6 0 (v := .bool (decide (s < 0))) rfl; have e1 := Blk.cell hk6 1 (v := .slice A7 (dg s.natAbs).length c7) rfl)
            | fail)
          all_goals
            simp only [Calm]
            clear a0 a1 b0 b1 d0 d1 e0 e1 f0 f1 c0 c1 r1 s1
            obtain ⟨hk9, hf9⟩ := put55 (b := decide (s + inn * b.f1 < 0)) (X := V) (l := (dg (s + inn * b.f1).natAbs).length) (k := cv) hk6
            have HBQ9 := Lib.hid (hVV.fr hk6 hf9)
            have HK9 := Lib.hid hk9
            have HB9 := Lib.hid (((Fr.of_below (below_t HBW2.out hB6) (fun b => b = w.heap.size)).trans hf9 (fun _ h => .inl h)).to_below (Nat.le_refl _) (fun b hb => by omega))
            have k0 := Blk.cell ((HKB.out.fr (Fr.of_below hB6 (fun _ => False)) (fun a => a)).fr hf9 (by have := HSZ.out; omega)) 0 (v := .int .i64 b.f0) rfl
            generalize (w6.setCell ⟨w.heap.size, 0, none⟩ (.bool (decide (s + inn * b.f1 < 0)))).setCell ⟨w.heap.size, 1, none⟩ (.slice V (dg (s + inn * b.f1).natAbs).length cv) = w9 at *
            clear hk0 hk9 hf9 hk6 hVV hB6 hB5 hB4 hB3 hb6 hb5 hb4 hb3 s4 hX hY hZ HK HPL HTM HO1 HO2
            have vi : IntKind.i64.wrap ((i : Int) + 1) = i + 1 := IntWalk.i64_in _ (by have := HLT.out; have := HA.out; omega)
            go_wp2_with fail
            go_roundg (l.length - (i + 1))
            case measure => have := HI.out; have := HLT.out; omega
            case rel => exact ⟨i + 1, b.f0, s + inn * b.f1, V, cv, by rw [Int.natCast_add]; rfl, rfl, Lib.hid (by have := HLT.out; omega), Lib.hid (by have := HGB.out; omega), HSM, HV3, HK9, HBQ9, HB9⟩
        · have hnl : ¬ (i : Int) < l.length := by omega
          have hd : l.drop i = [] := List.drop_eq_nil_iff.2 (by omega)
          have hv := HV.out
          rw [hd, chargeFrom_nil] at hv
          by_cases hla : last < a
          · have b3 : decide (last < a) = true := decide_eq_true hla
            rw [if_pos hla] at hv
            have HV2 := Lib.hid hv
            clear hlt hd hla hv HV
            go_wp2_with fail
            go_ret2
            rw [HV2.out]
            exact ⟨rfl, HBW.out⟩
          · have b3 : decide (last < a) = false := decide_eq_false hla
            rw [if_neg hla] at hv
            have HV2 := Lib.hid hv
            have hsb : 0 ≤ s ∧ s ≤ 175921860444160000 := by have h1 := HSB.out; have h2 := HA.out; have h3 := HI.out; omega
            have pw5 : (10000 : Int) ^ 5 = 100000000000000000000 := by decide
            have hsl : (dg s.natAbs).length ≤ 5 := dg_len (by rw [pw5]; omega)
            have hrb : ((s + 5000) / 10000).natAbs ≤ (1125899906842624 : Int).natAbs := by omega
            have HOY : Hid (∀ W : World, Calls Try.prog 29 #[.int .i64 10000] W fun e w' => (∃ A c, e = .returned (.agg #[.bool false, .slice A (dg 10000).length c]) ∧ BG w' A c 10000) ∧ Below W.heap.size W w') := Lib.hid (fun W => of_any 10000 (by decide) W)
            have hly : (dg 10000).length ≤ 5 := dg_len (by rw [pw5]; omega)
            have HRD : Hid (∀ (W : World) (B : Option Addr) (e : Nat), BG W B e 10000 → Below wv.heap.size wv W → Calls Try.prog 31 #[.agg #[.bool (decide (s < 0)), .slice A7 (dg s.natAbs).length c7], .agg #[.bool false, .slice B (dg 10000).length e], .int .i64 3] W fun e w' => (∃ A' c', e = .returned (.agg #[.bool (decide ((s + 5000) / 10000 < 0)), .slice A' (dg ((s + 5000) / 10000).natAbs).length c']) ∧ BG w' A' c' ((s + 5000) / 10000)) ∧ Below W.heap.size W w') := Lib.hid (fun W B e hB hW => by
              have h := rounded_any (y := 10000) (.inl rfl) (HBG.out.below hW) hB (by omega) (by decide) (by omega)
              rw [show rnd 3 s ((10000 : Nat) : Int) = (s + 5000) / 10000 from rndUp_same] at h
              exact h)
            have HWI := Lib.hid (fun (W : World) (A : Option Addr) (e : Nat) (h : BG W A e ((s + 5000) / 10000)) => within_any h (most := 1125899906842624) (by decide) (by decide) hrb)
            generalize (s + 5000) / 10000 = R at *
            generalize hns : decide (s < 0) = ns at *
            have HKA : Hid (∀ W, Below wv.heap.size wv W → W.cell? ⟨w.heap.size, 0, none⟩ = some (.bool ns) ∧ W.cell? ⟨w.heap.size, 1, none⟩ = some (.slice A7 (dg s.natAbs).length c7) ∧ Below wv.heap.size wv W) := Lib.hid (fun W hW =>
              ⟨Blk.cell (HK7.out.fr (Fr.of_below hW (fun _ => False)) (fun a => a)) 0 rfl, Blk.cell (HK7.out.fr (Fr.of_below hW (fun _ => False)) (fun a => a)) 1 rfl, hW⟩)
            generalize dg 10000 = dy at *
            clear hly hsl hsb hrb hns pw5 hlt hd hla hv HV
            go_upto_region 17 with (fail)
            have S0 := HKA.out _ ((Fr.refl (fun _ => False) wv).drew.none_below)
            go_region_held3 (fun W => W.cell? ⟨w.heap.size, 0, none⟩ = some (.bool ns) ∧ W.cell? ⟨w.heap.size, 1, none⟩ = some (.slice A7 (dg s.natAbs).length c7) ∧ Below wv.heap.size wv W)
              (first | (with_reducible exact S0) | (with_reducible exact S7) | (with_reducible exact S6) | (with_reducible exact S5) | (trace_state; fail))
              (first
                | (go_at_call 29; refine (HOY.out wv.drew).mono ?_; rintro e w7 ⟨⟨A8, c8, rfl, hB7⟩, hb7⟩; have S5 := HKA.out _ (below_t S0.2.2 hb7))
                | (go_at_call 31; refine (HRD.out w7 A8 c8 hB7 S5.2.2).mono ?_; rintro e w8 ⟨⟨A9, c9, rfl, hB8⟩, hb8⟩; have S6 := HKA.out _ (below_t S5.2.2 hb8))
                | (go_at_call 30; refine (HWI.out w8 A9 c9 hB8).mono ?_; rintro e w9 ⟨rfl, hb9⟩; have S7 := HKA.out _ (below_t S6.2.2 hb9)))
            all_goals
              have HB9 := Lib.hid (below_t HBW.out S7.2.2)
              clear S0 S5 S6 S7 hb7 hb8 hb9 hB7 hB8
              go_wp2_with fail
              go_ret2
              rw [HV2.out]
              exact ⟨rfl, HB9.out⟩
end Go.Proofs.Ytcobihdjcdefmaa
