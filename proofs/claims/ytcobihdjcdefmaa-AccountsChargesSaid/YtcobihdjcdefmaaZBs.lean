/-
  Rounded of the reference, walked.
-/
import Derived.Test.YtcobihdjcdefmaaZBr
namespace Go.Proofs.Ytcobihdjcdefmaa
open PAccountsCharges
open Go.RowKit Go.Proofs.YtcobihdjcdefmaaW.PrintWords
def Calm (Q : Exit → Act → World → Prop) : Exit → Act → World → Prop
  | .normal, a, w => Q .normal a w
  | _, _, _ => False
theorem calm {P : Program} {c : Code} {Q : Exit → Act → World → Prop} {a : Act} {w : World} (h : c.wp P (Calm Q) a w) : c.wp P Q a w := fun b k cs => by
  obtain ⟨e, a', w', hq, hs⟩ := h b k cs
  cases e with
  | normal => exact ⟨.normal, a', w', hq, hs⟩
  | _ => exact hq.elim
/-- x over y rounded: mode 3 half up, else half to even. -/
def rnd (m x y : Int) : Int := if m = 3 then rndUp x y else rndEven x y
/-- Is the quotient raised? -/
def rndB (m q r y : Int) : Bool := if m = 3 then decide (y ≤ 2 * r) else decide (y < 2 * r ∨ 2 * r = y ∧ q % 2 ≠ 0)
theorem rnd_zero {m x y : Int} (h : x % y = 0) : rnd m x y = x / y := by
  unfold rnd rndUp rndEven
  rw [if_pos h, if_pos h]; split <;> rfl
theorem rnd_yes {m x y : Int} (h : x % y ≠ 0) (hb : rndB m (x / y) (x % y) y = true) : rnd m x y = x / y + 1 := by
  unfold rnd rndUp rndEven
  unfold rndB at hb
  rw [if_neg h, if_neg h]
  by_cases e : m = 3
  · rw [if_pos e] at hb ⊢; rw [if_pos (of_decide_eq_true hb)]
  · rw [if_neg e] at hb ⊢; rw [if_pos (of_decide_eq_true hb)]
theorem rnd_no {m x y : Int} (h : x % y ≠ 0) (hb : rndB m (x / y) (x % y) y = false) : rnd m x y = x / y := by
  unfold rnd rndUp rndEven
  unfold rndB at hb
  rw [if_neg h, if_neg h]
  by_cases e : m = 3
  · rw [if_pos e] at hb ⊢; rw [if_neg (of_decide_eq_false hb)]
  · rw [if_neg e] at hb ⊢; rw [if_neg (of_decide_eq_false hb)]
theorem cmpI_ge {x y : Int} : decide (0 ≤ cmpI x y) = decide (y ≤ x) := by
  unfold cmpI
  by_cases h1 : x < y
  · rw [if_pos h1, decide_eq_false (by omega), decide_eq_false (by omega)]
  · rw [if_neg h1]
    by_cases h2 : y < x
    · rw [if_pos h2, decide_eq_true (by omega), decide_eq_true (by omega)]
    · rw [if_neg h2, decide_eq_true (by omega), decide_eq_true (by omega)]
theorem cmpI_gt {x y : Int} : decide (0 < cmpI x y) = decide (y < x) := by
  unfold cmpI
  by_cases h1 : x < y
  · rw [if_pos h1, decide_eq_false (by omega), decide_eq_false (by omega)]
  · rw [if_neg h1]
    by_cases h2 : y < x
    · rw [if_pos h2, decide_eq_true (by omega), decide_eq_true (by omega)]
    · rw [if_neg h2, decide_eq_false (by omega), decide_eq_false (by omega)]
/-- The parity of a number by its lowest digit. -/
theorem dg_par {n : Nat} (h : n ≠ 0) : dF (dg n) 0 % 2 = ((n % 2 : Nat) : Int) := by
  rw [dg_pos h]
  show ((n % 10000 : Nat) : Int) % 2 = _
  omega
theorem cell_no_int {w : World} {g : Nat} {b : Bool} {X : Option Addr} {l k : Nat} (hk : Blk w g #[.bool b, .slice X l k] 55) {p : Addr} {a : Int} (hc : w.cell? p = some (.int .i64 a)) : p.block ≠ g := fun e => by
  unfold Blk at hk
  subst e
  simp only [World.cell?, hk] at hc
  have h2 : p.off = 0 ∨ p.off = 1 ∨ 2 ≤ p.off := by omega
  rcases h2 with h2 | h2 | h2
  · rw [h2] at hc; simp at hc
  · rw [h2] at hc; simp at hc
  · rw [Array.getElem?_eq_none (by simpa using h2)] at hc; simp at hc
theorem BG.fr {w w' : World} {A : Option Addr} {c g : Nat} {n : Int} {b : Bool} {X : Option Addr} {l k : Nat} (h : BG w A c n) (hk : Blk w g #[.bool b, .slice X l k] 55) (hf : Fr (fun x => x = g) w w') : BG w' A c n := by
  refine ⟨h.1, h.2.1, h.2.2.1, fun hp => ?_⟩
  obtain ⟨ad, e, hc⟩ := h.2.2.2 hp
  refine ⟨ad, e, fun j p hj => ?_⟩
  obtain ⟨cs, hl, hK, hcell⟩ := hc j p hj
  refine ⟨cs, hl, hK, fun i u hu => ?_⟩
  have h1 := hcell i u hu
  have e1 : cs = [.int .i64 p] := hK
  have e2 : u = .int .i64 p := by
    rw [e1] at hu
    have hi : i = 0 := by have := (List.getElem?_eq_some_iff.1 hu).1; simp at this; exact this
    subst hi
    exact (Option.some.inj hu).symm
  rw [e2] at h1 ⊢
  exact hf.cell h1 (cell_no_int hk h1)
theorem put55 {w : World} {g : Nat} {v0 v1 : Value} {b : Bool} {X : Option Addr} {l k : Nat} (hk : Blk w g #[v0, v1] 55) : Blk ((w.setCell ⟨g, 0, none⟩ (.bool b)).setCell ⟨g, 1, none⟩ (.slice X l k)) g #[.bool b, .slice X l k] 55 ∧ Fr (fun x => x = g) w ((w.setCell ⟨g, 0, none⟩ (.bool b)).setCell ⟨g, 1, none⟩ (.slice X l k)) :=
  ⟨Blk.set (Blk.set hk 0 _) 1 _, ((Fr.refl (fun x => x = g) w).setCell (p := ⟨g, 0, none⟩) (.inl rfl) _).setCell (p := ⟨g, 1, none⟩) (.inl rfl) _⟩
theorem cmpI_pos {x y : Int} : 0 < cmpI x y ↔ y < x := by
  have h := cmpI_gt (x := x) (y := y)
  exact decide_eq_decide.1 h
theorem cmpI_nn {x y : Int} : 0 ≤ cmpI x y ↔ y ≤ x := by
  have h := cmpI_ge (x := x) (y := y)
  exact decide_eq_decide.1 h
theorem cmpI_z {x y : Int} : cmpI x y = 0 ↔ x = y := by
  have h1 := cmpI_pos (x := x) (y := y)
  have h2 := cmpI_nn (x := x) (y := y)
  omega
set_option maxRecDepth 100000 in
set_option maxHeartbeats 8000000 in
theorem rounded_any {w : World} {A B : Option Addr} {c d : Nat} {x : Int} {y : Nat} {m : Int} (hm : m = 3 ∨ m = 4) (hx : BG w A c x) (hy : BG w B d (y : Int)) (lx : (dg x.natAbs).length ≤ 100) (h0 : 0 < y) (ly : (dg y).length ≤ 100) :
    Calls Try.prog 31 #[.agg #[.bool (decide (x < 0)), .slice A (dg x.natAbs).length c], .agg #[.bool (decide ((y : Int) < 0)), .slice B (dg (y : Int).natAbs).length d], .int .i64 m] w fun e w' =>
      (∃ A' c', e = .returned (.agg #[.bool (decide (rnd m x y < 0)), .slice A' (dg (rnd m x y).natAbs).length c']) ∧ BG w' A' c' (rnd m x y)) ∧ Below w.heap.size w w' := by
  have hny : decide ((y : Int) < 0) = false := decide_eq_false (by omega)
  have HX := Lib.hid hx
  have HY := Lib.hid hy
  have HL := Lib.hid (And.intro lx (And.intro h0 ly))
  have HM := Lib.hid hm
  have HK3 : Hid (Blk (((w.alloc (.cells #[.bool (decide (x < 0)), .slice A (dg x.natAbs).length c] 55 (0, 0))).alloc (.cells #[.bool false, .slice B (dg y).length d] 55 (0, 0))).alloc (.cells #[.bool false, .slice none 0 0] 55 (0, 0))) w.heap.size #[.bool (decide (x < 0)), .slice A (dg x.natAbs).length c] 55) := Lib.hid (((Blk.new w _ 55).alloc _).alloc _)
  have HK4 : Hid (Blk (((w.alloc (.cells #[.bool (decide (x < 0)), .slice A (dg x.natAbs).length c] 55 (0, 0))).alloc (.cells #[.bool false, .slice B (dg y).length d] 55 (0, 0))).alloc (.cells #[.bool false, .slice none 0 0] 55 (0, 0))) (w.heap.size + 1) #[.bool false, .slice B (dg y).length d] 55) := Lib.hid (by
    have h := (Blk.new (w.alloc (.cells #[.bool (decide (x < 0)), .slice A (dg x.natAbs).length c] 55 (0, 0))) #[.bool false, .slice B (dg y).length d] 55).alloc (.cells #[.bool false, .slice none 0 0] 55 (0, 0))
    rw [show (w.alloc (.cells #[.bool (decide (x < 0)), .slice A (dg x.natAbs).length c] 55 (0, 0))).heap.size = w.heap.size + 1 by simp] at h
    exact h)
  have HK6 : Hid (Blk (((w.alloc (.cells #[.bool (decide (x < 0)), .slice A (dg x.natAbs).length c] 55 (0, 0))).alloc (.cells #[.bool false, .slice B (dg y).length d] 55 (0, 0))).alloc (.cells #[.bool false, .slice none 0 0] 55 (0, 0))) (w.heap.size + 1 + 1) #[.bool false, .slice none 0 0] 55) := Lib.hid (by
    have h := Blk.new ((w.alloc (.cells #[.bool (decide (x < 0)), .slice A (dg x.natAbs).length c] 55 (0, 0))).alloc (.cells #[.bool false, .slice B (dg y).length d] 55 (0, 0))) #[.bool false, .slice none 0 0] 55
    rw [show ((w.alloc (.cells #[.bool (decide (x < 0)), .slice A (dg x.natAbs).length c] 55 (0, 0))).alloc (.cells #[.bool false, .slice B (dg y).length d] 55 (0, 0))).heap.size = w.heap.size + 1 + 1 by simp] at h
    exact h)
  have HB1 := Lib.hid (below_al (below_al (below_alloc (Below.refl w.heap.size w) (.cells #[.bool (decide (x < 0)), .slice A (dg x.natAbs).length c] 55 (0, 0))) (.cells #[.bool false, .slice B (dg y).length d] 55 (0, 0))) (.cells #[.bool false, .slice none 0 0] 55 (0, 0)))
  rw [hny, Int.natAbs_natCast]
  clear hx hy lx h0 ly hm
  go_enter Try.func31, Try.ntmps31
  go_upto_region 1 with (fail)
  generalize ((w.alloc (.cells #[.bool (decide (x < 0)), .slice A (dg x.natAbs).length c] 55 (0, 0))).alloc (.cells #[.bool false, .slice B (dg y).length d] 55 (0, 0))).alloc (.cells #[.bool false, .slice none 0 0] 55 (0, 0)) = w1 at *
  have k0 := Blk.cell HK3.out 0 (v := .bool (decide (x < 0))) rfl
  have k1 := Blk.cell HK3.out 1 (v := .slice A (dg x.natAbs).length c) rfl
  have k2 := Blk.cell HK4.out 0 (v := .bool false) rfl
  have k3 := Blk.cell HK4.out 1 (v := .slice B (dg y).length d) rfl
  have HOV := Lib.hid (over_any (HX.out.below HB1.out) (HY.out.below HB1.out) (by have := HL.out; omega) HL.out.2.1 HL.out.2.2)
  rw [hny, Int.natAbs_natCast] at HOV
  go_upto_region 3 with (fail)
  go_wp2_with fail
  refine HOV.out.mono ?_
  rintro e w2 ⟨⟨A1, c1, A2, c2, rfl, hq, hr⟩, hb2⟩
  obtain ⟨q, hqe⟩ : ∃ q, q = x / (y : Int) := ⟨_, rfl⟩
  obtain ⟨r, hre⟩ : ∃ r, r = x % (y : Int) := ⟨_, rfl⟩
  have hy0 := HL.out.2.1
  have hr0 : 0 ≤ r := by rw [hre]; exact Int.emod_nonneg _ (by omega)
  have hr1 : r < y := by rw [hre]; exact Int.emod_lt_of_pos _ (by omega)
  have hql : q.natAbs ≤ x.natAbs := by rw [hqe]; exact Int.natAbs_ediv_le_natAbs _ _
  have HQ : Hid ((dg q.natAbs).length ≤ 100 ∧ (dg r.natAbs).length ≤ 100 ∧ 0 ≤ r ∧ r < y) := Lib.hid ⟨by have := dg_len_le hql; have := HL.out; omega, by have := dg_len_le (show r.natAbs ≤ y by omega); have := HL.out; omega, hr0, hr1⟩
  have HRZ : Hid (r = 0 → rnd m x y = q) := Lib.hid (fun h => by rw [hqe]; exact rnd_zero (by rw [← hre]; exact h))
  have HRY : Hid (r ≠ 0 → rndB m q r y = true → rnd m x y = q + 1) := Lib.hid (fun h1 h2 => by rw [hqe] at h2 ⊢; rw [hre] at h1 h2; exact rnd_yes h1 h2)
  have HRN : Hid (r ≠ 0 → rndB m q r y = false → rnd m x y = q) := Lib.hid (fun h1 h2 => by rw [hqe] at h2 ⊢; rw [hre] at h1 h2; exact rnd_no h1 h2)
  have hnr : decide (r < 0) = false := decide_eq_false (by omega)
  rw [← hqe] at hq
  rw [← hre] at hr
  rw [← hqe, ← hre, hnr]
  have HB2 := Lib.hid hb2
  have HBQ := Lib.hid hq
  have HBR := Lib.hid hr
  clear hqe hre hr0 hr1 hql hy0 hb2 hq hr HOV k0 k1 k2 k3
  obtain ⟨nq, hnq⟩ : ∃ nq, nq = decide (q < 0) := ⟨_, rfl⟩
  rw [← hnq]
  have HNQ := Lib.hid hnq
  clear hnq
  have HK7 : Hid (Blk ((w2.alloc (.cells #[.bool nq, .slice A1 (dg q.natAbs).length c1] 55 (0, 0))).alloc (.cells #[.bool false, .slice A2 (dg r.natAbs).length c2] 55 (0, 0))) w2.heap.size #[.bool nq, .slice A1 (dg q.natAbs).length c1] 55) := Lib.hid ((Blk.new w2 _ 55).alloc _)
  have HK8 : Hid (Blk ((w2.alloc (.cells #[.bool nq, .slice A1 (dg q.natAbs).length c1] 55 (0, 0))).alloc (.cells #[.bool false, .slice A2 (dg r.natAbs).length c2] 55 (0, 0))) (w2.heap.size + 1) #[.bool false, .slice A2 (dg r.natAbs).length c2] 55) := Lib.hid (by
    have h := Blk.new (w2.alloc (.cells #[.bool nq, .slice A1 (dg q.natAbs).length c1] 55 (0, 0))) #[.bool false, .slice A2 (dg r.natAbs).length c2] 55
    rw [show (w2.alloc (.cells #[.bool nq, .slice A1 (dg q.natAbs).length c1] 55 (0, 0))).heap.size = w2.heap.size + 1 by simp] at h
    exact h)
  have HB3 := Lib.hid (below_al (below_al HB2.out (.cells #[.bool nq, .slice A1 (dg q.natAbs).length c1] 55 (0, 0))) (.cells #[.bool false, .slice A2 (dg r.natAbs).length c2] 55 (0, 0)))
  have HB23 := Lib.hid (below_al (below_alloc (Below.refl w2.heap.size w2) (.cells #[.bool nq, .slice A1 (dg q.natAbs).length c1] 55 (0, 0))) (.cells #[.bool false, .slice A2 (dg r.natAbs).length c2] 55 (0, 0)))
  go_upto_region 4 with (fail)
  generalize (w2.alloc (.cells #[.bool nq, .slice A1 (dg q.natAbs).length c1] 55 (0, 0))).alloc (.cells #[.bool false, .slice A2 (dg r.natAbs).length c2] 55 (0, 0)) = w3 at *
  have HS : Hid (w.heap.size + 1 + 1 < w2.heap.size) := Lib.hid (by have h1 := Blk.lt HK6.out; have h2 := HB2.out.size; omega)
  have HBQ3 := Lib.hid (HBQ.out.below HB23.out)
  have HBR3 := Lib.hid (HBR.out.below HB23.out)
  generalize w2.heap.size = g7 at *
  have HY3 := Lib.hid (HY.out.below (below_t HB1.out HB3.out))
  have HK43 := Lib.hid (HK4.out.fr (Fr.of_below HB3.out (fun _ => False)) (fun a => a))
  have HK63 := Lib.hid (HK6.out.fr (Fr.of_below HB3.out (fun _ => False)) (fun a => a))
  have HB03 := Lib.hid (below_t HB1.out HB3.out)
  have HZ := Lib.hid (zero_any HBR3.out)
  rw [hnr] at HZ
  clear HK4 HK6 HK3 HBQ HBR HB23 HB2 HX
  have k0 := Blk.cell HK8.out 0 (v := .bool false) rfl
  have k1 := Blk.cell HK8.out 1 (v := .slice A2 (dg r.natAbs).length c2) rfl
  go_wp2_with fail
  refine HZ.out.mono ?_
  rintro e w4 ⟨rfl, hb4⟩
  have HB4 := Lib.hid hb4
  have HB04 := Lib.hid (below_t HB03.out HB4.out)
  have HK74 := Lib.hid (HK7.out.fr (Fr.of_below HB4.out (fun _ => False)) (fun a => a))
  have HK84 := Lib.hid (HK8.out.fr (Fr.of_below HB4.out (fun _ => False)) (fun a => a))
  have HK44 := Lib.hid (HK43.out.fr (Fr.of_below HB4.out (fun _ => False)) (fun a => a))
  have HK64 := Lib.hid (HK63.out.fr (Fr.of_below HB4.out (fun _ => False)) (fun a => a))
  have HBQ4 := Lib.hid (HBQ3.out.below HB4.out)
  have HBR4 := Lib.hid (HBR3.out.below HB4.out)
  have HY4 := Lib.hid (HY3.out.below HB4.out)
  clear hb4 HZ HK7 HK8 HK43 HK63 HBQ3 HBR3 HY3 HB3 HB03 HB4 k0 k1
  by_cases h0 : r = 0
  · have e1 : (r == 0) = true := by simp [h0]
    have HV := Lib.hid (HRZ.out h0)
    clear h0
    have k0 := Blk.cell HK74.out 0 (v := .bool nq) rfl
    have k1 := Blk.cell HK74.out 1 (v := .slice A1 (dg q.natAbs).length c1) rfl
    have f0 := Blk.free HK64.out 0
    have f1 := Blk.free HK64.out 1
    have p0 := Blk.cell HK64.out 0 (v := .bool false) rfl
    have p1 := Blk.cell HK64.out 1 (v := .slice none 0 0) rfl
    go_wp2_with fail
    obtain ⟨hkz, hfz⟩ := put55 (b := nq) (X := A1) (l := (dg q.natAbs).length) (k := c1) HK64.out
    have hbq := HBQ4.out.fr HK64.out hfz
    have hbz := ((Fr.of_below HB04.out (fun b => b = w.heap.size + 1 + 1)).trans hfz (fun _ h => .inl h)).to_below (Nat.le_refl _) (fun b hb => by omega)
    refine bodyPost_ret (results_cell_row rfl _ _ (w.heap.size + 1 + 1) 55 #[.bool nq, .slice A1 (dg q.natAbs).length c1] (0, 0) _ rfl hkz Try.underlying55 rfl (by kernel_rfl)) rfl ?_
    rw [HV.out]
    exact ⟨⟨A1, c1, by rw [HNQ.out], hbq⟩, hbz⟩
  · have e1 : (r == 0) = false := beq_eq_false_iff_ne.2 h0
    have HN0 := Lib.hid h0
    clear h0
    have hr2 : decide (r + r < 0) = false := decide_eq_false (by have := HQ.out; omega)
    have hl2 : (dg (r + r).natAbs).length ≤ 101 := by
      have h1 := dg_len_up (x := (r + r).natAbs) (y := y) (by have := HQ.out; omega)
      have := HL.out; omega
    have HPL := Lib.hid (fun (W : World) (hW : Below w4.heap.size w4 W) => by
      have h := plus_any (HBR4.out.below hW) (HBR4.out.below hW) (by have := HQ.out; omega) (by have := HQ.out; omega)
      rw [hnr, hr2] at h; exact h)
    have HCP := Lib.hid (fun (W : World) (A3 : Option Addr) (c3 : Nat) (h3 : BG W A3 c3 (r + r)) (hW : Below w4.heap.size w4 W) => by
      have h := compare_any h3 (HY4.out.below hW) (by have := HQ.out; omega) (by omega) (by omega)
      rw [hny, hr2, Int.natAbs_natCast] at h; exact h)
    generalize hcv : cmpI (r + r) (y : Int) = hv at *
    have HCV := Lib.hid hcv
    generalize (r + r).natAbs = r2 at *
    clear hcv hr2 hl2
    have HKA : Hid (∀ W, Below w4.heap.size w4 W → W.cell? ⟨g7 + 1, 0, none⟩ = some (.bool false) ∧ W.cell? ⟨g7 + 1, 1, none⟩ = some (.slice A2 (dg r.natAbs).length c2) ∧ W.cell? ⟨w.heap.size + 1, 0, none⟩ = some (.bool false) ∧ W.cell? ⟨w.heap.size + 1, 1, none⟩ = some (.slice B (dg y).length d) ∧ Below w4.heap.size w4 W) := Lib.hid (fun W hW =>
      ⟨Blk.cell (HK84.out.fr (Fr.of_below hW (fun _ => False)) (fun a => a)) 0 rfl, Blk.cell (HK84.out.fr (Fr.of_below hW (fun _ => False)) (fun a => a)) 1 rfl, Blk.cell (HK44.out.fr (Fr.of_below hW (fun _ => False)) (fun a => a)) 0 rfl, Blk.cell (HK44.out.fr (Fr.of_below hW (fun _ => False)) (fun a => a)) 1 rfl, hW⟩)
    go_upto_region 6 with (fail)
    have S0 := HKA.out _ ((Fr.refl (fun _ => False) w4).drew.none_below)
    go_region_held3 (fun W => W.cell? ⟨g7 + 1, 0, none⟩ = some (.bool false) ∧ W.cell? ⟨g7 + 1, 1, none⟩ = some (.slice A2 (dg r.natAbs).length c2) ∧ W.cell? ⟨w.heap.size + 1, 0, none⟩ = some (.bool false) ∧ W.cell? ⟨w.heap.size + 1, 1, none⟩ = some (.slice B (dg y).length d) ∧ Below w4.heap.size w4 W)
      (first | (with_reducible exact S0) | (with_reducible exact S6) | (with_reducible exact S5) | (trace_state; fail))
      (first
        | (go_at_call 27; refine (HPL.out w4.drew S0.2.2.2.2).mono ?_; rintro e w5 ⟨⟨A3, c3, rfl, hB3⟩, hb5⟩; have S5 := HKA.out _ (below_t S0.2.2.2.2 hb5))
        | (go_at_call 61; refine (HCP.out w5 A3 c3 hB3 S5.2.2.2.2).mono ?_; rintro e w6 ⟨rfl, hb6⟩; have S6 := HKA.out _ (below_t S5.2.2.2.2 hb6)))
    all_goals
      have HK76 := Lib.hid (HK74.out.fr (Fr.of_below S6.2.2.2.2 (fun _ => False)) (fun a => a))
      have HK66 := Lib.hid (HK64.out.fr (Fr.of_below S6.2.2.2.2 (fun _ => False)) (fun a => a))
      have HBQ6 := Lib.hid (HBQ4.out.below S6.2.2.2.2)
      have HB06 := Lib.hid (below_t HB04.out S6.2.2.2.2)
      clear S0 S5 S6 hb5 hb6 hB3 HKA HPL HCP HK74 HK84 HK44 HK64 HBQ4 HBR4 HY4 HB04 e1 hnr hny
      rcases HM.out with hm | hm
      · subst hm
        by_cases g1 : 0 ≤ hv
        · have u1 : decide (0 ≤ hv) = true := decide_eq_true g1
          have HG := Lib.hid (cmpI_nn.1 (HCV.out ▸ g1))
          clear g1
          go_upto_region 17 with (fail)
          have HV := Lib.hid (HRY.out HN0.out (by unfold rndB; rw [if_pos rfl]; exact decide_eq_true (by have := HG.out; omega)))
          go_upto_region 18 with (fail)
          have HO1 : Hid (∀ W : World, Calls Try.prog 29 #[.int .i64 1] W fun e w' => (∃ A c, e = .returned (.agg #[.bool false, .slice A (dg 1).length c]) ∧ BG w' A c 1) ∧ Below W.heap.size W w') := Lib.hid (fun W => of_any 1 (by decide) W)
          have HP1 : Hid (∀ (W : World) (A4 : Option Addr) (c4 : Nat), BG W A4 c4 1 → Below w6.heap.size w6 W → Calls Try.prog 27 #[.agg #[.bool nq, .slice A1 (dg q.natAbs).length c1], .agg #[.bool false, .slice A4 (dg 1).length c4]] W fun e w' => (∃ A c, e = .returned (.agg #[.bool (decide (q + 1 < 0)), .slice A (dg (q + 1).natAbs).length c]) ∧ BG w' A c (q + 1)) ∧ Below W.heap.size W w') := Lib.hid (fun W A4 c4 h4 hW => by
            have h := plus_any (HBQ6.out.below hW) h4 (by have := HQ.out; omega) (show (dg 1).length ≤ 300 by rw [dg_one]; decide)
            rw [← HNQ.out] at h
            exact h)
          obtain ⟨n1, hn1⟩ : ∃ n1, n1 = decide (q + 1 < 0) := ⟨_, rfl⟩
          rw [← hn1] at HP1
          have HN1 := Lib.hid hn1
          clear hn1
          generalize hd1 : dg 1 = d1 at *
          have HKB : Hid (∀ W, Below w6.heap.size w6 W → W.cell? ⟨g7, 0, none⟩ = some (.bool nq) ∧ W.cell? ⟨g7, 1, none⟩ = some (.slice A1 (dg q.natAbs).length c1) ∧ W.frozen? ⟨g7, 0, none⟩ = false ∧ W.frozen? ⟨g7, 1, none⟩ = false ∧ Below w6.heap.size w6 W) := Lib.hid (fun W hW => by
            have hk := HK76.out.fr (Fr.of_below hW (fun _ => False)) (fun a => a)
            exact ⟨Blk.cell hk 0 rfl, Blk.cell hk 1 rfl, Blk.free hk 0, Blk.free hk 1, hW⟩)
          clear hd1
          have S0 := HKB.out _ ((Fr.refl (fun _ => False) w6).drew.none_below)
          refine calm ?_
          obtain ⟨s0, s1, s2, s3, s4⟩ := S0
          go_region_law (first
              | (go_simp; go_at_call 29; refine (HO1.out w6.drew).mono ?_; rintro e w7 ⟨⟨A4, c4, rfl, hB4⟩, hb7⟩; obtain ⟨r0, r1, r2, r3, r4⟩ := HKB.out _ (below_t s4 hb7))
              | (go_simp; go_at_call 27; refine (HP1.out w7 A4 c4 hB4 r4).mono ?_; rintro e w8 ⟨⟨A5, c5, rfl, hB5⟩, hb8⟩; obtain ⟨t0, t1, t2, t3, t4⟩ := HKB.out _ (below_t r4 hb8))
              | fail)
          all_goals
            simp only [Calm]
            have hk8 := HK76.out.fr (Fr.of_below t4 (fun _ => False)) (fun a => a)
            obtain ⟨hk9, hf9⟩ := put55 (b := n1) (X := A5) (l := (dg (q + 1).natAbs).length) (k := c5) hk8
            have HBQ9 := Lib.hid (hB5.fr hk8 hf9)
            have HK69 := Lib.hid ((HK66.out.fr (Fr.of_below t4 (fun _ => False)) (fun a => a)).fr hf9 (by have := HS.out; omega))
            have HB09 := Lib.hid (((Fr.of_below (below_t HB06.out t4) (fun b => b = g7)).trans hf9 (fun _ h => .inl h)).to_below (Nat.le_refl _) (fun b hb => by have := HS.out; omega))
            have HK7z := Lib.hid hk9
            generalize (w8.setCell ⟨g7, 0, none⟩ (.bool n1)).setCell ⟨g7, 1, none⟩ (.slice A5 (dg (q + 1).natAbs).length c5) = w9 at *
            clear hk8 hk9 hf9 hB4 hB5 hb7 hb8 r0 r1 r2 r3 r4 t0 t1 t2 t3 t4 s0 s1 s2 s3 s4
            have k0 := Blk.cell HK7z.out 0 (v := .bool n1) rfl
            have k1 := Blk.cell HK7z.out 1 (v := .slice A5 (dg (q + 1).natAbs).length c5) rfl
            have f0 := Blk.free HK69.out 0
            have f1 := Blk.free HK69.out 1
            have p0 := Blk.cell HK69.out 0 (v := .bool false) rfl
            have p1 := Blk.cell HK69.out 1 (v := .slice none 0 0) rfl
            go_wp2_with fail
            obtain ⟨hkz, hfz⟩ := put55 (b := n1) (X := A5) (l := (dg (q + 1).natAbs).length) (k := c5) HK69.out
            have hbq := HBQ9.out.fr HK69.out hfz
            have hbz := ((Fr.of_below HB09.out (fun b => b = w.heap.size + 1 + 1)).trans hfz (fun _ h => .inl h)).to_below (Nat.le_refl _) (fun b hb => by omega)
            refine bodyPost_ret (results_cell_row rfl _ _ (w.heap.size + 1 + 1) 55 #[.bool n1, .slice A5 (dg (q + 1).natAbs).length c5] (0, 0) _ rfl hkz Try.underlying55 rfl (by kernel_rfl)) rfl ?_
            rw [HV.out]
            exact ⟨⟨A5, c5, by rw [HN1.out], hbq⟩, hbz⟩
        · have u1 : decide (0 ≤ hv) = false := decide_eq_false g1
          have HG : Hid (¬ (y : Int) ≤ r + r) := Lib.hid (fun h => g1 (HCV.out ▸ cmpI_nn.2 h))
          clear g1
          go_upto_region 17 with (fail)
          have HV := Lib.hid (HRN.out HN0.out (by unfold rndB; rw [if_pos rfl]; exact decide_eq_false (by have := HG.out; omega)))
          have HK7z := HK76
          have k0 := Blk.cell HK7z.out 0 (v := .bool nq) rfl
          have k1 := Blk.cell HK7z.out 1 (v := .slice A1 (dg (q).natAbs).length c1) rfl
          have f0 := Blk.free HK66.out 0
          have f1 := Blk.free HK66.out 1
          have p0 := Blk.cell HK66.out 0 (v := .bool false) rfl
          have p1 := Blk.cell HK66.out 1 (v := .slice none 0 0) rfl
          go_wp2_with fail
          obtain ⟨hkz, hfz⟩ := put55 (b := nq) (X := A1) (l := (dg (q).natAbs).length) (k := c1) HK66.out
          have hbq := HBQ6.out.fr HK66.out hfz
          have hbz := ((Fr.of_below HB06.out (fun b => b = w.heap.size + 1 + 1)).trans hfz (fun _ h => .inl h)).to_below (Nat.le_refl _) (fun b hb => by omega)
          refine bodyPost_ret (results_cell_row rfl _ _ (w.heap.size + 1 + 1) 55 #[.bool nq, .slice A1 (dg (q).natAbs).length c1] (0, 0) _ rfl hkz Try.underlying55 rfl (by kernel_rfl)) rfl ?_
          rw [HV.out]
          exact ⟨⟨A1, c1, by rw [HNQ.out], hbq⟩, hbz⟩
      · subst hm
        have d43 : ¬ (4 : Int) = 3 := by decide
        have HD43 := Lib.hid d43
        clear d43
        by_cases g1 : 0 < hv
        · have u1 : decide (0 < hv) = true := decide_eq_true g1
          have HG := Lib.hid (cmpI_pos.1 (HCV.out ▸ g1))
          clear g1
          go_upto_region 17 with (fail)
          have HV := Lib.hid (HRY.out HN0.out (by unfold rndB; rw [if_neg HD43.out]; exact decide_eq_true (.inl (by have := HG.out; omega))))
          go_upto_region 18 with (fail)
          have HO1 : Hid (∀ W : World, Calls Try.prog 29 #[.int .i64 1] W fun e w' => (∃ A c, e = .returned (.agg #[.bool false, .slice A (dg 1).length c]) ∧ BG w' A c 1) ∧ Below W.heap.size W w') := Lib.hid (fun W => of_any 1 (by decide) W)
          have HP1 : Hid (∀ (W : World) (A4 : Option Addr) (c4 : Nat), BG W A4 c4 1 → Below w6.heap.size w6 W → Calls Try.prog 27 #[.agg #[.bool nq, .slice A1 (dg q.natAbs).length c1], .agg #[.bool false, .slice A4 (dg 1).length c4]] W fun e w' => (∃ A c, e = .returned (.agg #[.bool (decide (q + 1 < 0)), .slice A (dg (q + 1).natAbs).length c]) ∧ BG w' A c (q + 1)) ∧ Below W.heap.size W w') := Lib.hid (fun W A4 c4 h4 hW => by
            have h := plus_any (HBQ6.out.below hW) h4 (by have := HQ.out; omega) (show (dg 1).length ≤ 300 by rw [dg_one]; decide)
            rw [← HNQ.out] at h
            exact h)
          obtain ⟨n1, hn1⟩ : ∃ n1, n1 = decide (q + 1 < 0) := ⟨_, rfl⟩
          rw [← hn1] at HP1
          have HN1 := Lib.hid hn1
          clear hn1
          generalize hd1 : dg 1 = d1 at *
          have HKB : Hid (∀ W, Below w6.heap.size w6 W → W.cell? ⟨g7, 0, none⟩ = some (.bool nq) ∧ W.cell? ⟨g7, 1, none⟩ = some (.slice A1 (dg q.natAbs).length c1) ∧ W.frozen? ⟨g7, 0, none⟩ = false ∧ W.frozen? ⟨g7, 1, none⟩ = false ∧ Below w6.heap.size w6 W) := Lib.hid (fun W hW => by
            have hk := HK76.out.fr (Fr.of_below hW (fun _ => False)) (fun a => a)
            exact ⟨Blk.cell hk 0 rfl, Blk.cell hk 1 rfl, Blk.free hk 0, Blk.free hk 1, hW⟩)
          clear hd1
          have S0 := HKB.out _ ((Fr.refl (fun _ => False) w6).drew.none_below)
          refine calm ?_
          obtain ⟨s0, s1, s2, s3, s4⟩ := S0
          go_region_law (first
              | (go_simp; go_at_call 29; refine (HO1.out w6.drew).mono ?_; rintro e w7 ⟨⟨A4, c4, rfl, hB4⟩, hb7⟩; obtain ⟨r0, r1, r2, r3, r4⟩ := HKB.out _ (below_t s4 hb7))
              | (go_simp; go_at_call 27; refine (HP1.out w7 A4 c4 hB4 r4).mono ?_; rintro e w8 ⟨⟨A5, c5, rfl, hB5⟩, hb8⟩; obtain ⟨t0, t1, t2, t3, t4⟩ := HKB.out _ (below_t r4 hb8))
              | fail)
          all_goals
            simp only [Calm]
            have hk8 := HK76.out.fr (Fr.of_below t4 (fun _ => False)) (fun a => a)
            obtain ⟨hk9, hf9⟩ := put55 (b := n1) (X := A5) (l := (dg (q + 1).natAbs).length) (k := c5) hk8
            have HBQ9 := Lib.hid (hB5.fr hk8 hf9)
            have HK69 := Lib.hid ((HK66.out.fr (Fr.of_below t4 (fun _ => False)) (fun a => a)).fr hf9 (by have := HS.out; omega))
            have HB09 := Lib.hid (((Fr.of_below (below_t HB06.out t4) (fun b => b = g7)).trans hf9 (fun _ h => .inl h)).to_below (Nat.le_refl _) (fun b hb => by have := HS.out; omega))
            have HK7z := Lib.hid hk9
            generalize (w8.setCell ⟨g7, 0, none⟩ (.bool n1)).setCell ⟨g7, 1, none⟩ (.slice A5 (dg (q + 1).natAbs).length c5) = w9 at *
            clear hk8 hk9 hf9 hB4 hB5 hb7 hb8 r0 r1 r2 r3 r4 t0 t1 t2 t3 t4 s0 s1 s2 s3 s4
            have k0 := Blk.cell HK7z.out 0 (v := .bool n1) rfl
            have k1 := Blk.cell HK7z.out 1 (v := .slice A5 (dg (q + 1).natAbs).length c5) rfl
            have f0 := Blk.free HK69.out 0
            have f1 := Blk.free HK69.out 1
            have p0 := Blk.cell HK69.out 0 (v := .bool false) rfl
            have p1 := Blk.cell HK69.out 1 (v := .slice none 0 0) rfl
            go_wp2_with fail
            obtain ⟨hkz, hfz⟩ := put55 (b := n1) (X := A5) (l := (dg (q + 1).natAbs).length) (k := c5) HK69.out
            have hbq := HBQ9.out.fr HK69.out hfz
            have hbz := ((Fr.of_below HB09.out (fun b => b = w.heap.size + 1 + 1)).trans hfz (fun _ h => .inl h)).to_below (Nat.le_refl _) (fun b hb => by omega)
            refine bodyPost_ret (results_cell_row rfl _ _ (w.heap.size + 1 + 1) 55 #[.bool n1, .slice A5 (dg (q + 1).natAbs).length c5] (0, 0) _ rfl hkz Try.underlying55 rfl (by kernel_rfl)) rfl ?_
            rw [HV.out]
            exact ⟨⟨A5, c5, by rw [HN1.out], hbq⟩, hbz⟩
        · have u1 : decide (0 < hv) = false := decide_eq_false g1
          by_cases g2 : hv = 0
          · have u2 : (hv == 0) = true := by simp [g2]
            have HG : Hid (r + r = y) := Lib.hid (cmpI_z.1 (HCV.out.trans g2))
            have k1 := Blk.cell HK76.out 1 (v := .slice A1 (dg q.natAbs).length c1) rfl
            clear g1 g2
            by_cases g3 : q = 0
            · have HQ0 := Lib.hid g3
              have hz : (dg q.natAbs).length = 0 := by rw [g3]; exact dg_nil_iff.2 rfl
              have u3 : decide ((0 : Int) < (dg q.natAbs).length) = false := decide_eq_false (by omega)
              have u3' : decide (0 < (dg q.natAbs).length) = false := decide_eq_false (by omega)
              clear g3 hz
              go_upto_region 17 with (fail)
              clear k1
              have HV := Lib.hid (HRN.out HN0.out (by unfold rndB; rw [if_neg HD43.out]; exact decide_eq_false (by have := HG.out; have := HQ0.out; omega)))
              have HK7z := HK76
              have k0 := Blk.cell HK7z.out 0 (v := .bool nq) rfl
              have k1 := Blk.cell HK7z.out 1 (v := .slice A1 (dg (q).natAbs).length c1) rfl
              have f0 := Blk.free HK66.out 0
              have f1 := Blk.free HK66.out 1
              have p0 := Blk.cell HK66.out 0 (v := .bool false) rfl
              have p1 := Blk.cell HK66.out 1 (v := .slice none 0 0) rfl
              go_wp2_with fail
              obtain ⟨hkz, hfz⟩ := put55 (b := nq) (X := A1) (l := (dg (q).natAbs).length) (k := c1) HK66.out
              have hbq := HBQ6.out.fr HK66.out hfz
              have hbz := ((Fr.of_below HB06.out (fun b => b = w.heap.size + 1 + 1)).trans hfz (fun _ h => .inl h)).to_below (Nat.le_refl _) (fun b hb => by omega)
              refine bodyPost_ret (results_cell_row rfl _ _ (w.heap.size + 1 + 1) 55 #[.bool nq, .slice A1 (dg (q).natAbs).length c1] (0, 0) _ rfl hkz Try.underlying55 rfl (by kernel_rfl)) rfl ?_
              rw [HV.out]
              exact ⟨⟨A1, c1, by rw [HNQ.out], hbq⟩, hbz⟩
            · have hz : ¬ (dg q.natAbs).length = 0 := fun h => by have := dg_nil_iff.1 h; omega
              have u3 : decide ((0 : Int) < (dg q.natAbs).length) = true := decide_eq_true (by omega)
              have i1 : ((0 : Nat) : Int) < (dg q.natAbs).length := by omega
              obtain ⟨ad, hA1, y0⟩ := Kd.at_int HBQ6.out.2 ((0 : Nat) : Int) (by omega) i1
              rw [hA1] at k1
              clear hA1
              rw [rd_nat, Int.toNat_natCast] at y0
              have hpar := dg_par (n := q.natAbs) (by omega)
              have hdv := gL_dF (dg_good q.natAbs) 0
              generalize dF (dg q.natAbs) 0 = dv at *
              have y1 : w6.cell? ad = some (.int .i64 dv) := by have h := y0; simpa [Addr.add] using h
              clear y0
              have i2 : (0 : Int) < (dg q.natAbs).length := by omega
              by_cases g4 : dv % 2 = 1
              · have u4 : (dv.tmod 2 == 1) = true := by rw [Int.tmod_eq_emod_of_nonneg hdv.1]; simp [g4]
                have HPAR : Hid (q % 2 ≠ 0) := Lib.hid (by omega)
                clear g3 hz hpar hdv g4 i1
                go_upto_region 17 with (fail)
                clear k1 y1
                have HV := Lib.hid (HRY.out HN0.out (by unfold rndB; rw [if_neg HD43.out]; exact decide_eq_true (.inr ⟨by have := HG.out; omega, HPAR.out⟩)))
                go_upto_region 18 with (fail)
                have HO1 : Hid (∀ W : World, Calls Try.prog 29 #[.int .i64 1] W fun e w' => (∃ A c, e = .returned (.agg #[.bool false, .slice A (dg 1).length c]) ∧ BG w' A c 1) ∧ Below W.heap.size W w') := Lib.hid (fun W => of_any 1 (by decide) W)
                have HP1 : Hid (∀ (W : World) (A4 : Option Addr) (c4 : Nat), BG W A4 c4 1 → Below w6.heap.size w6 W → Calls Try.prog 27 #[.agg #[.bool nq, .slice A1 (dg q.natAbs).length c1], .agg #[.bool false, .slice A4 (dg 1).length c4]] W fun e w' => (∃ A c, e = .returned (.agg #[.bool (decide (q + 1 < 0)), .slice A (dg (q + 1).natAbs).length c]) ∧ BG w' A c (q + 1)) ∧ Below W.heap.size W w') := Lib.hid (fun W A4 c4 h4 hW => by
                  have h := plus_any (HBQ6.out.below hW) h4 (by have := HQ.out; omega) (show (dg 1).length ≤ 300 by rw [dg_one]; decide)
                  rw [← HNQ.out] at h
                  exact h)
                obtain ⟨n1, hn1⟩ : ∃ n1, n1 = decide (q + 1 < 0) := ⟨_, rfl⟩
                rw [← hn1] at HP1
                have HN1 := Lib.hid hn1
                clear hn1
                generalize hd1 : dg 1 = d1 at *
                have HKB : Hid (∀ W, Below w6.heap.size w6 W → W.cell? ⟨g7, 0, none⟩ = some (.bool nq) ∧ W.cell? ⟨g7, 1, none⟩ = some (.slice A1 (dg q.natAbs).length c1) ∧ W.frozen? ⟨g7, 0, none⟩ = false ∧ W.frozen? ⟨g7, 1, none⟩ = false ∧ Below w6.heap.size w6 W) := Lib.hid (fun W hW => by
                  have hk := HK76.out.fr (Fr.of_below hW (fun _ => False)) (fun a => a)
                  exact ⟨Blk.cell hk 0 rfl, Blk.cell hk 1 rfl, Blk.free hk 0, Blk.free hk 1, hW⟩)
                clear hd1
                have S0 := HKB.out _ ((Fr.refl (fun _ => False) w6).drew.none_below)
                refine calm ?_
                obtain ⟨s0, s1, s2, s3, s4⟩ := S0
                go_region_law (first
                    | (go_simp; go_at_call 29; refine (HO1.out w6.drew).mono ?_; rintro e w7 ⟨⟨A4, c4, rfl, hB4⟩, hb7⟩; obtain ⟨r0, r1, r2, r3, r4⟩ := HKB.out _ (below_t s4 hb7))
                    | (go_simp; go_at_call 27; refine (HP1.out w7 A4 c4 hB4 r4).mono ?_; rintro e w8 ⟨⟨A5, c5, rfl, hB5⟩, hb8⟩; obtain ⟨t0, t1, t2, t3, t4⟩ := HKB.out _ (below_t r4 hb8))
                    | fail)
                all_goals
                  simp only [Calm]
                  have hk8 := HK76.out.fr (Fr.of_below t4 (fun _ => False)) (fun a => a)
                  obtain ⟨hk9, hf9⟩ := put55 (b := n1) (X := A5) (l := (dg (q + 1).natAbs).length) (k := c5) hk8
                  have HBQ9 := Lib.hid (hB5.fr hk8 hf9)
                  have HK69 := Lib.hid ((HK66.out.fr (Fr.of_below t4 (fun _ => False)) (fun a => a)).fr hf9 (by have := HS.out; omega))
                  have HB09 := Lib.hid (((Fr.of_below (below_t HB06.out t4) (fun b => b = g7)).trans hf9 (fun _ h => .inl h)).to_below (Nat.le_refl _) (fun b hb => by have := HS.out; omega))
                  have HK7z := Lib.hid hk9
                  generalize (w8.setCell ⟨g7, 0, none⟩ (.bool n1)).setCell ⟨g7, 1, none⟩ (.slice A5 (dg (q + 1).natAbs).length c5) = w9 at *
                  clear hk8 hk9 hf9 hB4 hB5 hb7 hb8 r0 r1 r2 r3 r4 t0 t1 t2 t3 t4 s0 s1 s2 s3 s4
                  have k0 := Blk.cell HK7z.out 0 (v := .bool n1) rfl
                  have k1 := Blk.cell HK7z.out 1 (v := .slice A5 (dg (q + 1).natAbs).length c5) rfl
                  have f0 := Blk.free HK69.out 0
                  have f1 := Blk.free HK69.out 1
                  have p0 := Blk.cell HK69.out 0 (v := .bool false) rfl
                  have p1 := Blk.cell HK69.out 1 (v := .slice none 0 0) rfl
                  go_wp2_with fail
                  obtain ⟨hkz, hfz⟩ := put55 (b := n1) (X := A5) (l := (dg (q + 1).natAbs).length) (k := c5) HK69.out
                  have hbq := HBQ9.out.fr HK69.out hfz
                  have hbz := ((Fr.of_below HB09.out (fun b => b = w.heap.size + 1 + 1)).trans hfz (fun _ h => .inl h)).to_below (Nat.le_refl _) (fun b hb => by omega)
                  refine bodyPost_ret (results_cell_row rfl _ _ (w.heap.size + 1 + 1) 55 #[.bool n1, .slice A5 (dg (q + 1).natAbs).length c5] (0, 0) _ rfl hkz Try.underlying55 rfl (by kernel_rfl)) rfl ?_
                  rw [HV.out]
                  exact ⟨⟨A5, c5, by rw [HN1.out], hbq⟩, hbz⟩
              · have u4 : (dv.tmod 2 == 1) = false := by rw [Int.tmod_eq_emod_of_nonneg hdv.1]; simp [g4]
                have HPAR : Hid (q % 2 = 0) := Lib.hid (by omega)
                clear g3 hz hpar hdv g4 i1
                go_upto_region 17 with (fail)
                clear k1 y1
                have HV := Lib.hid (HRN.out HN0.out (by unfold rndB; rw [if_neg HD43.out]; exact decide_eq_false (by have := HG.out; have := HPAR.out; omega)))
                have HK7z := HK76
                have k0 := Blk.cell HK7z.out 0 (v := .bool nq) rfl
                have k1 := Blk.cell HK7z.out 1 (v := .slice A1 (dg (q).natAbs).length c1) rfl
                have f0 := Blk.free HK66.out 0
                have f1 := Blk.free HK66.out 1
                have p0 := Blk.cell HK66.out 0 (v := .bool false) rfl
                have p1 := Blk.cell HK66.out 1 (v := .slice none 0 0) rfl
                go_wp2_with fail
                obtain ⟨hkz, hfz⟩ := put55 (b := nq) (X := A1) (l := (dg (q).natAbs).length) (k := c1) HK66.out
                have hbq := HBQ6.out.fr HK66.out hfz
                have hbz := ((Fr.of_below HB06.out (fun b => b = w.heap.size + 1 + 1)).trans hfz (fun _ h => .inl h)).to_below (Nat.le_refl _) (fun b hb => by omega)
                refine bodyPost_ret (results_cell_row rfl _ _ (w.heap.size + 1 + 1) 55 #[.bool nq, .slice A1 (dg (q).natAbs).length c1] (0, 0) _ rfl hkz Try.underlying55 rfl (by kernel_rfl)) rfl ?_
                rw [HV.out]
                exact ⟨⟨A1, c1, by rw [HNQ.out], hbq⟩, hbz⟩
          · have u2 : (hv == 0) = false := beq_eq_false_iff_ne.2 g2
            have HG : Hid (r + r < y) := Lib.hid (by
              have h1 : ¬ (y : Int) < r + r := fun h => g1 (HCV.out ▸ cmpI_pos.2 h)
              have h2 : ¬ r + r = (y : Int) := fun h => g2 (HCV.out ▸ cmpI_z.2 h)
              omega)
            clear g1 g2
            go_upto_region 17 with (fail)
            have HV := Lib.hid (HRN.out HN0.out (by unfold rndB; rw [if_neg HD43.out]; exact decide_eq_false (by have := HG.out; omega)))
            have HK7z := HK76
            have k0 := Blk.cell HK7z.out 0 (v := .bool nq) rfl
            have k1 := Blk.cell HK7z.out 1 (v := .slice A1 (dg (q).natAbs).length c1) rfl
            have f0 := Blk.free HK66.out 0
            have f1 := Blk.free HK66.out 1
            have p0 := Blk.cell HK66.out 0 (v := .bool false) rfl
            have p1 := Blk.cell HK66.out 1 (v := .slice none 0 0) rfl
            go_wp2_with fail
            obtain ⟨hkz, hfz⟩ := put55 (b := nq) (X := A1) (l := (dg (q).natAbs).length) (k := c1) HK66.out
            have hbq := HBQ6.out.fr HK66.out hfz
            have hbz := ((Fr.of_below HB06.out (fun b => b = w.heap.size + 1 + 1)).trans hfz (fun _ h => .inl h)).to_below (Nat.le_refl _) (fun b hb => by omega)
            refine bodyPost_ret (results_cell_row rfl _ _ (w.heap.size + 1 + 1) 55 #[.bool nq, .slice A1 (dg (q).natAbs).length c1] (0, 0) _ rfl hkz Try.underlying55 rfl (by kernel_rfl)) rfl ?_
            rw [HV.out]
            exact ⟨⟨A1, c1, by rw [HNQ.out], hbq⟩, hbz⟩
end Go.Proofs.Ytcobihdjcdefmaa
