/-
  The law FlowFillCheap.
-/
import Derived.Test.YtpbndcmmclkdpaaZXl
namespace Go.Proofs.Ytpbndcmmclkdpaa
open PFlowSolves
open Go.RowKit Go.Proofs.YtpbndcmmclkdpaaW.PrintWords
set_option maxRecDepth 100000 in
set_option maxHeartbeats 8000000 in
theorem sum_any (w : World) (o : Ord) (ho : o.Ok) (A4 : Option Addr) (c4 : Nat) (rows : List (List Int)) (h4 : Kd.C kRow w A4 rows.length rows) (hc : CarOk o rows) :
    Calls Try.prog 47 #[.slice A4 rows.length c4] w fun e w' => e = .returned (.int .i64 (o.tot (planR rows))) ∧ Below w.heap.size w w' := by
  have HP : Hid (o.P ≤ 12 ∧ o.W ≤ 12) := Lib.hid ⟨ho.p1, ho.w1⟩
  have HX : Hid (∀ i k, i < o.P → k < o.W → 0 ≤ planR rows i k ∧ planR rows i k ≤ 4096) := Lib.hid (fun i k hi hk => ⟨hc.2.2.nn i k hi hk, by have := (hc.2.2.le hi hk).1; have := ho.b1 i hi; omega⟩)
  have HL := Lib.hid hc.1
  have HRL := Lib.hid hc.2.1
  have H4 := Lib.hid h4
  have HWB := Lib.hid (Below.refl w.heap.size w)
  clear h4 hc ho
  go_enter Try.func47, Try.ntmps47
  go_wp2_with fail
  go_loopg [3, 4, 5] rows.length (fun kk v3 v4 v5 wr => ∃ i : Nat, v4 = .int .i64 i ∧ v3 = .int .i64 (sumN i (fun j => o.row (planR rows) j)) ∧ Hid (i + kk = rows.length) ∧ Hid (wr = w))
  case atStart => exact ⟨0, rfl, rfl, Lib.hid (by omega), Lib.hid rfl⟩
  case round =>
    obtain ⟨i, rfl, rfl, HI, HW⟩ := hrel
    obtain rfl := HW.out
    clear HW
    obtain ⟨w, rfl⟩ : ∃ w : World, w = wr := ⟨_, rfl⟩
    by_cases hlt : i < rows.length
    · have hi0 : (i : Int) < rows.length := by omega
      have hiz : (0 : Int) ≤ i := by omega
      obtain ⟨r, hr⟩ : ∃ r, rows[i]? = some r := ⟨_, List.getElem?_eq_getElem hlt⟩
      obtain ⟨ad, B, cB, rfl, x0, hle, hCw⟩ := row_at H4.out hr
      have HCW := Lib.hid hCw
      have hw : IntKind.i64.wrap ((i : Int) + 1) = i + 1 := IntWalk.i64_in _ (by have := HL.out; have := HP.out; omega)
      have HLT := Lib.hid hlt
      have HPL : Hid (∀ k, planR rows i k = r.getD k 0) := Lib.hid (fun k => by unfold planR; rw [List.getD_eq_getElem?_getD (l := rows), hr]; rfl)
      have HRW := Lib.hid (HRL.out r (List.mem_of_getElem? hr))
      have HSB := Lib.hid (sumN_box2 (n := i) (f := fun j => o.row (planR rows) j) (B := 49152) (fun t ht => by
        have h1 := sumN_box2 (n := o.W) (f := fun k => planR rows t k) (B := 4096) (fun k hk => HX.out t k (by have := HL.out; omega) hk)
        have := HP.out
        show 0 ≤ sumN o.W (fun k => planR rows t k) ∧ sumN o.W (fun k => planR rows t k) ≤ 49152
        omega))
      have HNX : Hid (sumN (i + 1) (fun j => o.row (planR rows) j) = sumN i (fun j => o.row (planR rows) j) + sumN r.length (fun k => planR rows i k)) := Lib.hid (by rw [HRW.out]; rfl)
      generalize sumN i (fun j => o.row (planR rows) j) = si at *
      clear hlt hr hle hCw
      go_wp2_with fail
      go_loopg [3, 5] r.length (fun kk v3 v5 wr => ∃ k : Nat, v5 = .int .i64 k ∧ v3 = .int .i64 (si + sumN k (fun j => planR rows i j)) ∧ Hid (k + kk = r.length) ∧ Hid (wr = w))
      case atStart => exact ⟨0, rfl, by show _ = Value.int .i64 (si + 0); rw [Int.add_zero], Lib.hid (by omega), Lib.hid rfl⟩
      case round =>
        obtain ⟨k, rfl, rfl, HK, HW⟩ := hrel
        obtain rfl := HW.out
        clear HW
        obtain ⟨w, rfl⟩ : ∃ w : World, w = wr := ⟨_, rfl⟩
        by_cases hlk : k < r.length
        · have hk0 : (k : Int) < r.length := by omega
          have hkz : (0 : Int) ≤ k := by omega
          have hwk : IntKind.i64.wrap ((k : Int) + 1) = k + 1 := IntWalk.i64_in _ (by have := HRW.out; have := HP.out; omega)
          obtain ⟨bd, rfl, y0⟩ := Kd.at_int HCW.out (k : Int) hkz hk0
          have ey : rd r (k : Int) = r.getD k 0 := by unfold rd; rw [Int.toNat_natCast]
          rw [ey, Int.toNat_natCast, ← HPL.out k] at y0
          have hsn : sumN (k + 1) (fun j => planR rows i j) = sumN k (fun j => planR rows i j) + planR rows i k := rfl
          have hb2 := sumN_box2 (n := k + 1) (f := fun j => planR rows i j) (B := 4096) (fun t ht => HX.out i t (by have := HLT.out; have := HL.out; omega) (by have := HRW.out; omega))
          rw [hsn] at hb2
          have HNK : Hid (si + sumN (k + 1) (fun j => planR rows i j) = si + sumN k (fun j => planR rows i j) + planR rows i k) := Lib.hid (by rw [hsn]; omega)
          have hws : IntKind.i64.wrap (si + sumN k (fun j => planR rows i j) + planR rows i k) = si + sumN (k + 1) (fun j => planR rows i j) := by
            rw [HNK.out]
            exact IntWalk.i64_in _ (by have := HSB.out; have := HRW.out; have := HP.out; have := HLT.out; have := HL.out; omega)
          have HLK := Lib.hid hlk
          clear ey hsn hb2 hlk
          go_wp2_with fail
          go_roundg (r.length - (k + 1))
          case measure => have := HK.out; have := HLK.out; omega
          case rel => exact ⟨k + 1, by go_num, rfl, Lib.hid (by have := HK.out; have := HLK.out; omega), Lib.hid rfl⟩
        · have hnl : ¬ (k : Int) < r.length := by omega
          have hk : k = r.length := by have := HK.out; omega
          have HKE := Lib.hid hk
          clear hlk hk
          go_wp2_with fail
          go_roundg (rows.length - (i + 1))
          case measure => have := HI.out; have := HLT.out; omega
          case rel => exact ⟨i + 1, by go_num, by rw [HNX.out, HKE.out], Lib.hid (by have := HI.out; have := HLT.out; omega), Lib.hid rfl⟩
    · have hnl : ¬ (i : Int) < rows.length := by omega
      have HIE : Hid (sumN i (fun j => o.row (planR rows) j) = o.tot (planR rows)) := Lib.hid (by
        have : i = o.P := by have := HI.out; have := HL.out; omega
        rw [this]; rfl)
      clear hlt
      rw [HIE.out]
      go_wp2_with fail
      go_ret
      exact ⟨rfl, HWB.out⟩
section
variable {o : Ord} {X : Plan}
theorem car_rows (w : World) (ho : o.Ok) {P W : Nat} (hP : o.P = P) (hW : o.W = W) (A1 : Option Addr) (c1 : Nat) (A2 : Option Addr) (c2 : Nat) (A3 : Option Addr) (c3 : Nat) (h3 : Kd.C k44 w A3 o.mB (netB o o.mB)) (A4 : Option Addr) (c4 : Nat) (rows : List (List Int)) (h4 : Kd.C kRow w A4 rows.length rows) :
    Calls Try.prog 45 #[.slice A1 P c1, .slice A2 W c2, .slice A3 o.mB c3, .slice A4 rows.length c4] w fun e w' => ((∃ b, e = .returned (.tuple #[.slice (some ⟨b, 0, none⟩) o.mB o.mB, .bool true]) ∧ CarOk o rows ∧ TI w' b o.mB (o.lift (planR rows))) ∨ (e = .returned (.tuple #[.slice none 0 0, .bool false]) ∧ ¬ CarOk o rows)) ∧ Below w.heap.size w w' := by
  subst hP hW
  refine (carried_any w o ho A1 c1 A2 c2 A3 c3 h3 A4 c4 rows h4).mono ?_
  rintro e w' ⟨h1 | h1, hb⟩
  · obtain ⟨b, he, hc, ht, _⟩ := h1
    exact ⟨.inl ⟨b, he, hc, ht⟩, hb⟩
  · exact ⟨.inr h1, hb⟩
theorem sum_plan (w : World) (ho : o.Ok) (hX : o.Adm X) {P W : Nat} (hP : o.P = P) (hW : o.W = W) (A4 : Option Addr) (c4 : Nat) (h4 : Kd.C kRow w A4 P (rowsL P W X)) :
    Calls Try.prog 47 #[.slice A4 P c4] w fun e w' => e = .returned (.int .i64 (o.tot X)) ∧ Below w.heap.size w w' := by
  subst hP hW
  have h := sum_any w o ho A4 c4 (rowsL o.P o.W X) (by rw [rowsL_len]; exact h4) (CarOk.plan hX)
  rw [rowsL_len, Ord.tot_congr (X' := X) (fun i k hi hk => planR_rowsL hi hk)] at h
  exact h
end
set_option maxRecDepth 100000 in
set_option maxHeartbeats 8000000 in
theorem fillcheap_law (A1 : Option Addr) (c1 : Nat) (ps : List S49) (_ : ps.length ≤ c1) (_ : c1 ≤ 9223372036854775807) {w : World} (h1 : Kd.C k49 w A1 ps.length ps) (_ : ∀ x ∈ ps, (Lit.int .i64 x.f0).wf = true ∧ (Lit.int .i64 x.f1).wf = true ∧ (Lit.int .i64 x.f2).wf = true ∧ (Lit.int .i64 x.f3).wf = true ∧ (Lit.int .i64 x.f4).wf = true)
    (A2 : Option Addr) (c2 : Nat) (ws : List S51) (_ : ws.length ≤ c2) (_ : c2 ≤ 9223372036854775807) (h2 : Kd.C k51 w A2 ws.length ws) (_ : ∀ x ∈ ws, (Lit.int .i64 x.f0).wf = true ∧ (Lit.int .i64 x.f1).wf = true ∧ (Lit.int .i64 x.f2).wf = true ∧ (Lit.int .i64 x.f3).wf = true ∧ (Lit.int .i64 x.f4).wf = true ∧ (Lit.int .i64 x.f5).wf = true) (T : Nat → Int)
    (A4 : Option Addr) (c4 : Nat) (rows : List (List Int)) (_ : rows.length ≤ c4) (_ : c4 ≤ 9223372036854775807) (h4 : Kd.C kRow w A4 rows.length rows) {G : List Int → Prop} (_ : ∀ x ∈ rows, G x) :
    Calls Try.prog 15 #[.slice A1 ps.length c1, .slice A2 ws.length c2, vTar T, .slice A4 rows.length c4] w fun e w' => e = .returned (.bool true) ∧ Below w.heap.size w w' := by
  have HAL := Lib.hid (fun W => alive_any W)
  have H1 := Lib.hid h1
  have H2 := Lib.hid h2
  have H4 := Lib.hid h4
  have HBX := Lib.hid (Blk.new w (tarL T).toArray 67)
  have HB0 := Lib.hid (below_alloc (Below.refl w.heap.size w) (.cells (tarL T).toArray 67 (0, 0)))
  clear h1 h2 h4
  go_enter Try.func15, Try.ntmps15
  go_upto_region 1 with (fail)
  generalize w.alloc (.cells (tarL T).toArray 67 (0, 0)) = w1 at *
  have HRG := Lib.hid (range67 HBX.out)
  have HF := Lib.hid (fill_any w1 A1 c1 ps (Kd.C_below H1.out HB0.out) A2 c2 ws (Kd.C_below H2.out HB0.out) T)
  go_wp2_with (refine wpList_load_mid rfl 67 _ rfl w.heap.size 0 rfl (tarL T) _ HRG.out Try.underlying67 rfl info67 ?_)
  go_wp2_with fail
  refine HF.out.mono ?_
  rintro e w2 ⟨hpost, hb⟩
  have HB2 := Lib.hid hb
  have HB02 := Lib.hid (below_t HB0.out HB2.out)
  clear hb HF
  rcases hpost with ⟨hE, rfl⟩ | ⟨hE, hb, r, x, p, rfl, hRM, hRO, hFE, hLE⟩
  · have hal := below_alloc (Below.refl w2.heap.size w2) (.cells #[.slice none 0 0, .int .i64 0, .int .i64 0] 70 (0, 0))
    have HB3 := Lib.hid (below_t HB02.out hal)
    have e2 : (fillE ps ws T != 0) = true := by simpa using hE
    clear hal hE
    generalize fillE ps ws T = er at *
    go_upto_region 2 with (fail)
    generalize w2.alloc (.cells #[.slice none 0 0, .int .i64 0, .int .i64 0] 70 (0, 0)) = w3 at *
    go_wp2_with fail
    refine (HAL.out w3).mono ?_
    rintro e w5 ⟨rfl, hb⟩
    have HB5 := Lib.hid (below_t HB3.out hb)
    clear hb
    go_wp2_with fail
    go_ret
    exact ⟨rfl, HB5.out⟩
  · have HOK := Lib.hid (fillE_ok hE)
    have HOO := Lib.hid (ord_ok hE)
    have HE := Lib.hid hE
    obtain ⟨o, ho⟩ : ∃ o, o = ordOf ps ws T := ⟨_, rfl⟩
    rw [← ho] at hRM hRO hFE hLE HOO ⊢
    have hP : o.P = ps.length := by rw [ho]; rfl
    have hW : o.W = ws.length := by rw [ho]; rfl
    have HO := Lib.hid ho
    have HPW := Lib.hid (And.intro hP hW)
    have hAD := hRO.adm
    have HBP : Hid (∀ Y, o.Adm Y → o.tot Y ≤ o.tot (o.plan x) ∧ (o.tot Y = o.tot (o.plan x) → o.sum (o.plan x) ≤ o.sum Y)) := Lib.hid (fun Y hY => hRO.best_plan HOO.out hFE hY)
    rw [hP, hW] at hRM
    obtain ⟨X, hX⟩ : ∃ X, X = o.plan x := ⟨_, rfl⟩
    rw [← hX] at hAD HBP hRM ⊢
    have HAD := Lib.hid hAD
    have HLM : Hid (ps.length ≤ 12 ∧ ws.length ≤ 12) := Lib.hid ⟨by rw [← hP]; exact HOO.out.p1, by rw [← hW]; exact HOO.out.w1⟩
    have hrows := hRM.rows (by have := HLM.out; omega) (by have := HLM.out; omega)
    rw [hP]
    clear ho hE hRM hRO hFE hLE hP hW hAD hX
    obtain ⟨tt, htt⟩ : ∃ tt, tt = o.tot X := ⟨_, rfl⟩
    obtain ⟨cc, hcc⟩ : ∃ cc, cc = o.sum X := ⟨_, rfl⟩
    rw [← hcc, ← htt]
    have HCC := Lib.hid hcc
    have HTT := Lib.hid htt
    clear hcc htt
    have hal := below_alloc (Below.refl w2.heap.size w2) (.cells #[.slice (some ⟨hb, 0, none⟩) ps.length ps.length, .int .i64 tt, .int .i64 cc] 70 (0, 0))
    have HK := Lib.hid (Blk.new w2 #[.slice (some ⟨hb, 0, none⟩) ps.length ps.length, .int .i64 tt, .int .i64 cc] 70)
    go_upto_region 2 with (fail)
    generalize w2.alloc (.cells #[.slice (some ⟨hb, 0, none⟩) ps.length ps.length, .int .i64 tt, .int .i64 cc] 70 (0, 0)) = w3 at *
    have HB3 := Lib.hid (below_t HB02.out hal)
    have HRW := Lib.hid (Kd.C_below hrows hal)
    have HBX3 := Lib.hid (below_t HB2.out hal)
    generalize w2.heap.size = bf at *
    clear hal hrows
    by_cases hlen : 12 < rows.length
    · have e3 : decide ((12 : Int) < rows.length) = true := decide_eq_true (by omega)
      clear hlen
      go_wp2_with fail
      refine (HAL.out w3).mono ?_
      rintro e w5 ⟨rfl, hb⟩
      have HB5 := Lib.hid (below_t HB3.out hb)
      clear hb
      go_wp2_with fail
      go_ret
      exact ⟨rfl, HB5.out⟩
    · have e3 : decide ((12 : Int) < rows.length) = false := decide_eq_false (by omega)
      clear hlen
      have HRG3 := Lib.hid (range67 (HBX.out.fr (Fr.of_below HBX3.out (fun _ => False)) (fun a => a)))
      have HNT := Lib.hid (net_any w3 A1 c1 ps (Kd.C_below H1.out HB3.out) A2 c2 ws (Kd.C_below H2.out HB3.out) T HE.out)
      rw [← HO.out] at HNT
      go_upto_region 4 with (fail)
      clear e3
      go_wp2_with (refine wpList_load_mid rfl 67 _ rfl w.heap.size 0 rfl (tarL T) _ HRG3.out Try.underlying67 rfl info67 ?_)
      go_wp2_with fail
      refine HNT.out.mono ?_
      rintro e w5 ⟨⟨v, rfl, hR⟩, hb5⟩
      obtain ⟨A3, c3, rfl, hc3, hC3⟩ := R_C2 hR
      rw [netB_len] at hC3 hc3 ⊢
      have HBk5 := Lib.hid hb5
      have HC3 := Lib.hid (And.intro hc3 hC3)
      have c0 := Blk.cell (HK.out.fr (Fr.of_below HBk5.out (fun _ => False)) (fun a => a)) 0 (v := .slice (some ⟨hb, 0, none⟩) ps.length ps.length) rfl
      have HCR := Lib.hid (car_plan w5 HOO.out HAD.out HPW.out.1 HPW.out.2 A1 c1 A2 c2 A3 c3 hC3 (some ⟨hb, 0, none⟩) ps.length (Kd.C_below HRW.out HBk5.out))
      clear hb5 HNT HRG3 hR hc3 hC3
      go_wp2_with fail
      refine HCR.out.mono ?_
      rintro e w6 ⟨⟨b, rfl, hT⟩, hb6⟩
      have HBk6 := Lib.hid (below_t HBk5.out hb6)
      have HC6 := Lib.hid (And.intro HC3.out.1 (Kd.C_below HC3.out.2 hb6))
      have HT6 := Lib.hid hT
      have HRW6 := Lib.hid (Kd.C_below HRW.out HBk6.out)
      clear hb6 HCR hT c0 HC3
      have HB16 := Lib.hid (below_t HB3.out HBk6.out)
      have HSM := Lib.hid (fun (W : World) (hW : Below w6.heap.size w6 W) => by
        have h := sum_plan W HOO.out HAD.out HPW.out.1 HPW.out.2 (some ⟨hb, 0, none⟩) ps.length (Kd.C_below HRW6.out hW)
        rw [← HTT.out] at h; exact h)
      have HCO := Lib.hid (fun (W : World) (hW : Below w6.heap.size w6 W) => by
        have h := cost_plan W HOO.out HAD.out A3 c3 (Kd.C_below HC6.out.2 hW) HC6.out.1 b (TV.below HT6.out hW)
        rw [← HCC.out] at h; exact h)
      have HK7 := Lib.hid (HK.out.fr (Fr.of_below HBk6.out (fun _ => False)) (fun a => a))
      have HKQ : Hid (∀ W, Below w6.heap.size w6 W → W.cell? ⟨bf, 0, none⟩ = some (.slice (some ⟨hb, 0, none⟩) ps.length ps.length) ∧ W.cell? ⟨bf, 1, none⟩ = some (.int .i64 tt) ∧ W.cell? ⟨bf, 2, none⟩ = some (.int .i64 cc) ∧ Below w6.heap.size w6 W) := Lib.hid (fun W hW =>
        ⟨Blk.cell (HK7.out.fr (Fr.of_below hW (fun _ => False)) (fun a => a)) 0 rfl, Blk.cell (HK7.out.fr (Fr.of_below hW (fun _ => False)) (fun a => a)) 1 rfl, Blk.cell (HK7.out.fr (Fr.of_below hW (fun _ => False)) (fun a => a)) 2 rfl, hW⟩)
      have q1 : (tt != tt) = false := by simp
      have q2 : (cc != cc) = false := by simp
      clear HK7 HK HRW HRW6
      go_upto_region 6 with (fail)
      have S0 := HKQ.out _ ((Below.refl _ w6).drew)
      go_region_held3 (fun W => W.cell? ⟨bf, 0, none⟩ = some (.slice (some ⟨hb, 0, none⟩) ps.length ps.length) ∧ W.cell? ⟨bf, 1, none⟩ = some (.int .i64 tt) ∧ W.cell? ⟨bf, 2, none⟩ = some (.int .i64 cc) ∧ Below w6.heap.size w6 W)
        (first | (with_reducible exact S0) | (with_reducible exact S6) | (with_reducible exact S5) | (trace_state; fail))
        (first
          | (go_at_call 47; refine (HSM.out w6.drew S0.2.2.2).mono ?_; rintro e w8 ⟨rfl, hb8⟩; have S5 := HKQ.out _ (below_t S0.2.2.2 hb8))
          | (go_at_call 27; refine (HCO.out w8 S5.2.2.2).mono ?_; rintro e w9 ⟨rfl, hb9⟩; have S6 := HKQ.out _ (below_t S5.2.2.2 hb9)))
      all_goals
        have HS6 := Lib.hid S6
        have HKQ9 : Hid (∀ W, Below w9.heap.size w9 W → W.cell? ⟨bf, 1, none⟩ = some (.int .i64 tt) ∧ W.cell? ⟨bf, 2, none⟩ = some (.int .i64 cc) ∧ Below w.heap.size w W) := Lib.hid (fun W hW => by
          have h := HKQ.out W (below_t S6.2.2.2 hW)
          exact ⟨h.2.1, h.2.2.1, below_t HB16.out h.2.2.2⟩)
        clear S0 S5 S6 hb8 hb9 q1 q2
        have HC9 := Lib.hid (Kd.C_below HC6.out.2 HS6.out.2.2.2)
        have HCT := Lib.hid (car_rows w9 HOO.out HPW.out.1 HPW.out.2 A1 c1 A2 c2 A3 c3 HC9.out A4 c4 rows (Kd.C_below H4.out (below_t HB16.out HS6.out.2.2.2)))
        go_upto_region 8 with (fail)
        go_wp2_with fail
        refine HCT.out.mono ?_
        rintro e w10 ⟨⟨b2, rfl, hcar, hT2⟩ | ⟨rfl, hnc⟩, hb10⟩
        · have HB10 := Lib.hid (HKQ9.out _ hb10)
          have HS2 := Lib.hid (sum_any w10 o HOO.out A4 c4 rows (Kd.C_below H4.out HB10.out.2.2) hcar)
          have hbe := HBP.out _ hcar.2.2
          rw [← HTT.out, ← HCC.out] at hbe
          have HCO2 := Lib.hid (fun (W : World) (hW : Below w10.heap.size w10 W) => cost_plan W HOO.out hcar.2.2 A3 c3 (Kd.C_below HC9.out (below_t hb10 hW)) HC6.out.1 b2 (TV.below hT2 hW))
          have HKQ10 : Hid (∀ W, Below w10.heap.size w10 W → W.cell? ⟨bf, 1, none⟩ = some (.int .i64 tt) ∧ W.cell? ⟨bf, 2, none⟩ = some (.int .i64 cc) ∧ Below w.heap.size w W) := Lib.hid (fun W hW => HKQ9.out W (below_t hb10 hW))
          clear hcar hT2 hb10 HCT
          generalize o.tot (planR rows) = n at *
          generalize o.sum (planR rows) = c at *
          have HBE := Lib.hid hbe
          clear hbe
          go_wp2_with fail
          refine HS2.out.mono ?_
          rintro e w11 ⟨rfl, hb11⟩
          have HB11 := Lib.hid hb11
          clear hb11 HS2
          go_wp2_with fail
          refine (HCO2.out w11 HB11.out).mono ?_
          rintro e w12 ⟨rfl, hb12⟩
          obtain ⟨x1, x2, x3⟩ := HKQ10.out _ (below_t HB11.out hb12)
          have HX3 := Lib.hid x3
          clear hb12 HCO2 x3
          have e1 : decide (n ≤ tt) = true := decide_eq_true HBE.out.1
          by_cases hlt : n < tt
          · have e2 : decide (n < tt) = true := decide_eq_true hlt
            clear hlt
            go_wp2_with fail
            refine (HAL.out w12).mono ?_
            rintro e w13 ⟨rfl, hb13⟩
            have HB13 := Lib.hid (below_t HX3.out hb13)
            clear hb13
            go_wp2_with fail
            go_ret
            exact ⟨rfl, HB13.out⟩
          · have e2 : decide (n < tt) = false := decide_eq_false hlt
            have e3 : decide (cc ≤ c) = true := decide_eq_true (HBE.out.2 (by have := HBE.out.1; omega))
            clear hlt
            go_wp2_with fail
            refine (HAL.out w12).mono ?_
            rintro e w13 ⟨rfl, hb13⟩
            have HB13 := Lib.hid (below_t HX3.out hb13)
            clear hb13
            go_wp2_with fail
            go_ret
            exact ⟨rfl, HB13.out⟩
        · have HB10 := Lib.hid (HKQ9.out _ hb10).2.2
          clear hnc hb10 HCT
          go_wp2_with fail
          refine (HAL.out w10).mono ?_
          rintro e w11 ⟨rfl, hb11⟩
          have HB11 := Lib.hid (below_t HB10.out hb11)
          clear hb11
          go_wp2_with fail
          go_ret
          exact ⟨rfl, HB11.out⟩
end Go.Proofs.Ytpbndcmmclkdpaa
