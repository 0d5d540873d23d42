/-
  FlowEither: the walk.
-/
import Derived.Test.YtpbndcmmclkdpaaMa
namespace Go.Proofs.Ytpbndcmmclkdpaa
open PFlowSolves
open Go.RowKit Go.Proofs.YtpbndcmmclkdpaaW.PrintWords
theorem SolveTwo.uni' {n : Int} {l : List Ar} {xs : List Int} {w w' : World} {e : Ending} (h0 : needE n l xs = 0) (h : SolveTwo n l xs w e w') :
    ∃ A len c cst er, e = .returned (.tuple #[.agg #[.slice A len c, .int .i64 cst], .int .i64 er]) ∧ ((er = 13 ∧ cst = 0 ∧ A = none ∧ len = 0 ∧ c = 0 ∧ ∃ x, Carried n.toNat l.length (arcF l) (fun v => xs.getD v 0) false x) ∨
      (er = 0 ∧ ∃ x, Solved n l xs x)) ∧ Below w.heap.size w w' := by
  obtain ⟨h, hb⟩ := h
  rcases h with ⟨er, rfl, _, ⟨hr, _⟩ | ⟨_, hr, hx⟩⟩ | ⟨ga, x, rfl, ht, _, hs⟩
  · exact absurd h0 hr
  · exact ⟨_, _, _, _, _, rfl, .inl ⟨hr, rfl, rfl, rfl, rfl, hx⟩, hb⟩
  · exact ⟨_, _, _, _, _, rfl, .inr ⟨rfl, x, hs⟩, hb⟩
theorem mem_setL {R : Int → Bool} {n : Nat} {x : Int} : x ∈ setL R n ↔ ∃ v : Nat, v < n ∧ x = v ∧ R v = true := by
  unfold setL
  rw [List.mem_map]
  constructor
  · rintro ⟨v, hv, rfl⟩
    rw [List.mem_filter, List.mem_range] at hv
    exact ⟨v, hv.1, rfl, hv.2⟩
  · rintro ⟨v, hv, rfl, hr⟩
    exact ⟨v, List.mem_filter.2 ⟨List.mem_range.2 hv, hr⟩, rfl⟩
theorem setL_sort (R : Int → Bool) (n : Nat) : (setL R n).Pairwise (· < ·) := by
  unfold setL
  rw [List.pairwise_map]
  refine List.Pairwise.imp (fun {a b} h => Int.ofNat_lt.2 h) (List.Pairwise.filter _ List.pairwise_lt_range)
theorem setL_at {R : Int → Bool} {n i : Nat} (h : i < (setL R n).length) : 0 ≤ (setL R n).getD i 0 ∧ (setL R n).getD i 0 < n := by
  have hm : (setL R n).getD i 0 ∈ setL R n := by rw [List.getD_eq_getElem?_getD, List.getElem?_eq_getElem h]; exact List.getElem_mem h
  obtain ⟨v, hv, e, _⟩ := mem_setL.1 hm
  omega
theorem setL_lt {R : Int → Bool} {n i j : Nat} (hij : i < j) (h : j < (setL R n).length) : (setL R n).getD i 0 < (setL R n).getD j 0 := by
  have := List.pairwise_iff_getElem.1 (setL_sort R n) i j (by omega) h hij
  rw [List.getD_eq_getElem?_getD, List.getD_eq_getElem?_getD, List.getElem?_eq_getElem h, List.getElem?_eq_getElem (by omega)]
  exact this
theorem excF_congr {n m : Nat} {A : Nat → Ar} (hN : Net n m A) {need : Nat → Int} {R R' : Int → Bool} (h : ∀ v : Nat, v < n → R v = R' v) : excF n m A need R = excF n m A need R' := by
  unfold excF capOut
  congr 1
  · exact sumN_congr fun i hi => by rw [h i hi]
  · refine sumN_congr fun i hi => ?_
    obtain ⟨e1, e2, e3, e4, _⟩ := hN i hi
    have a1 := h (A i).f0.toNat (by omega)
    have a2 := h (A i).f1.toNat (by omega)
    rw [show ((A i).f0.toNat : Int) = (A i).f0 by omega] at a1
    rw [show ((A i).f1.toNat : Int) = (A i).f1 by omega] at a2
    rw [a1, a2]
/-- Either a flow, or a set that asks too much. -/
theorem either_two {N : Nat} {l : List Ar} {xs : List Int} {R : Int → Bool} {er : Int} (hok : NetOk N l.length (arcF l)) (hbk : IsBlock N l.length (arcF l) (fun v => xs.getD v 0) R)
    (h : (er = 13 ∧ ∃ x, Carried N l.length (arcF l) (fun v => xs.getD v 0) false x) ∨ (er = 0 ∧ ∃ x, Solved N l xs x)) :
    (er = 13 ∧ 0 < (setL R N).length ∧ 0 < excF N l.length (arcF l) (fun v => xs.getD v 0) R) ∨ (er = 0 ∧ (setL R N).length = 0 ∧ excF N l.length (arcF l) (fun v => xs.getD v 0) R = 0) := by
  rcases h with ⟨rfl, x, hc⟩ | ⟨rfl, x, _, hv, _, hb⟩
  · obtain ⟨S, hS⟩ := stuck_exc hok hc
    have hm := hbk.most S
    refine .inl ⟨rfl, ?_, by omega⟩
    rcases Nat.eq_zero_or_pos (setL R N).length with hz | hp
    · have e : excF N l.length (arcF l) (fun v => xs.getD v 0) R = 0 := by
        have hno : ∀ v : Nat, v < N → R v = false := fun v hv => by
          cases hr : R v with
          | false => rfl
          | true =>
            have : (v : Int) ∈ setL R N := mem_setL.2 ⟨v, hv, rfl, hr⟩
            rw [List.length_eq_zero_iff.1 hz] at this
            exact absurd this (by simp)
        rw [excF_congr (R' := fun _ => false) hok.net hno, exc_none]
      omega
    · exact hp
  · have h1 := flow_exc hok.net hv (need := fun v => xs.getD v 0) (fun v hv => hb v (by omega)) R
    have h2 := hbk.most (fun _ => false)
    have h3 := exc_none N l.length (arcF l) (fun v => xs.getD v 0)
    refine .inr ⟨rfl, ?_, by omega⟩
    rw [List.length_eq_zero_iff, List.eq_nil_iff_forall_not_mem]
    intro z hz
    obtain ⟨v, hv, rfl, hr⟩ := mem_setL.1 hz
    exact absurd (hbk.least (fun _ => false) (by omega) v hv hr) (by simp)
theorem below_set {w0 w : World} {g b : Nat} (hg : w0.heap.size = g) (h : Below g w0 w) (hb : g ≤ b) (i : Nat) (v : Value) : Below g w0 (w.setCell ⟨b, i, none⟩ v) := by
  subst hg
  exact ((Fr.of_below h (fun k => k = b)).setCell (p := ⟨b, i, none⟩) (.inl rfl) v).to_below (Nat.le_refl _) (fun _ h => by subst h; exact hb)
theorem below_tg {w0 w w' : World} {g : Nat} (hg : w0.heap.size = g) (h : Below g w0 w) (h' : Below w.heap.size w w') : Below g w0 w' := by
  subst hg
  exact below_t h h'
theorem two_pow {N : Nat} (h : N ≤ 8) : ∃ K : Nat, K ≤ 256 ∧ IntKind.i64.wrap ((2 : Int) ^ N) = (K : Int) := by
  have h1 : 2 ^ N ≤ 256 := Nat.pow_le_pow_right (n := 2) (by omega) h
  have e : ((2 ^ N : Nat) : Int) = (2 : Int) ^ N := by simp
  have h2 : ((2 ^ N : Nat) : Int) ≤ 256 := Int.ofNat_le.2 h1
  have h3 : (0 : Int) ≤ ((2 ^ N : Nat) : Int) := Int.natCast_nonneg _
  exact ⟨2 ^ N, h1, by rw [← e]; exact IntWalk.i64_in _ ⟨Int.le_trans (by decide) h3, Int.le_trans h2 (by decide)⟩⟩
def bitB (m : Nat) (v : Int) : Bool := ((m : Int) / 2 ^ v.toNat).tmod 2 == 1
def lessB (R : Int → Bool) (m j : Nat) : Bool := (List.range j).any (fun v => R v && !bitB m v)
theorem lessB_next (R : Int → Bool) (m j : Nat) : lessB R m (j + 1) = (lessB R m j || (R j && !bitB m j)) := by
  unfold lessB
  rw [List.range_succ, List.any_append]
  simp
theorem lessB_no {R : Int → Bool} {m n : Nat} (h : ∀ v : Nat, v < n → R v = true → bitB m v = true) : lessB R m n = false := by
  unfold lessB
  rw [List.any_eq_false]
  intro v hv
  rw [List.mem_range] at hv
  cases hr : R v with
  | false => simp
  | true => simp [h v hv hr]
set_option maxRecDepth 100000 in
set_option maxHeartbeats 8000000 in
theorem either_law {n : Int} (_ : (Lit.int .i64 n).wf = true) (A1 : Option Addr) (c1 : Nat) (l : List Ar) (hc1 : l.length ≤ c1) (_ : c1 ≤ 9223372036854775807) {w : World} (h1 : Kd.C k44 w A1 l.length l) (_ : ∀ a ∈ l, (Lit.int .i64 a.f0).wf = true ∧ (Lit.int .i64 a.f1).wf = true ∧ (Lit.int .i64 a.f2).wf = true ∧ (Lit.int .i64 a.f3).wf = true)
    (A2 : Option Addr) (c2 : Nat) (xs : List Int) (hc2 : xs.length ≤ c2) (_ : c2 ≤ 9223372036854775807) (h2 : Kd.C (Kd.int .i64) w A2 xs.length xs) (_ : ∀ a ∈ xs, (Lit.int .i64 a).wf = true) :
    Calls Try.prog 5 #[.int .i64 n, .slice A1 l.length c1, .slice A2 xs.length c2] w fun e w' => e = .returned (.bool true) ∧ Below w.heap.size w w' := by
  have HFEW := Lib.hid (few_any w A1 c1 l h1 hc1 A2 c2 xs h2 hc2)
  have H1 := Lib.hid h1
  have H2 := Lib.hid h2
  clear h1 h2
  go_enter Try.func5, Try.ntmps5
  go_wp2_with fail
  refine HFEW.out.mono ?_
  rintro e w1 ⟨rfl, hb1⟩
  have HB1 := Lib.hid hb1
  clear hb1 HFEW
  cases hf : fewB l xs with
  | false =>
    have HAL := Lib.hid (alive_any w1)
    clear hf
    go_wp2_with fail
    refine HAL.out.mono ?_
    rintro e w2 ⟨rfl, hb2⟩
    have HB2 := Lib.hid (below_t HB1.out hb2)
    clear hb2
    go_wp2_with fail
    go_ret
    exact ⟨rfl, HB2.out⟩
  | true =>
    have HSV := Lib.hid (solve_two w1 n A1 c1 l (Kd.C_below H1.out HB1.out) hc1 A2 c2 xs (Kd.C_below H2.out HB1.out) hc2)
    clear hf
    go_wp2_with fail
    refine HSV.out.mono ?_
    rintro e w2 hpost
    clear HSV
    by_cases h0 : needE n l xs = 0
    · have HE0 := Lib.hid h0
      obtain ⟨g1, g2, g3, g4⟩ := needE_ok h0
      obtain ⟨k1, k2, k3, _⟩ := netE_range g1
      obtain ⟨N, hN⟩ : ∃ N : Nat, n = N := ⟨n.toNat, by omega⟩
      subst hN
      have hok := netE_ok g1
      rw [Int.toNat_natCast] at hok
      have HOK := Lib.hid hok
      have HXL : Hid (xs.length = N) := Lib.hid (by omega)
      have HXB := Lib.hid g3
      obtain ⟨fA, flen, fc, fcst, fer, rfl, hf1, hb2⟩ := SolveTwo.uni' HE0.out hpost
      rw [Int.toNat_natCast] at hf1
      have HF1 := Lib.hid hf1
      have HKF := Lib.hid (Blk.new w2 #[.slice fA flen fc, .int .i64 fcst] 29)
      have HB2 := Lib.hid (below_al (below_t HB1.out hb2) (.cells #[.slice fA flen fc, .int .i64 fcst] 29 (0, 0)))
      clear h0 g1 g2 g3 g4 k1 k2 k3 hok hpost hf1 hb2
      go_upto_region 4 with (fail)
      generalize w2.alloc (.cells #[.slice fA flen fc, .int .i64 fcst] 29 (0, 0)) = w3 at *
      generalize w2.heap.size = fb at *
      have HBL := Lib.hid (block_any w3 N A1 c1 l (Kd.C_below H1.out HB2.out) hc1 A2 c2 xs (Kd.C_below H2.out HB2.out) hc2)
      go_wp2_with fail
      refine HBL.out.mono ?_
      rintro e w4 ⟨hpost, hb4⟩
      clear HBL
      rcases hpost with ⟨hr, _⟩ | ⟨_, vS, R, rfl, hR, hbk⟩
      · exact absurd HE0.out hr
      rw [Int.toNat_natCast] at hR hbk
      obtain ⟨sA, sc, rfl, hsc, hSC⟩ := Kd.R_reads hR
      have HBK := Lib.hid hbk
      have HSC := Lib.hid hSC
      have HB4 := Lib.hid (below_t HB2.out hb4)
      have f0 := Blk.cell (HKF.out.fr (Fr.of_below hb4 (fun _ => False)) (fun a => a)) 0 (v := .slice fA flen fc) rfl
      have HTW := Lib.hid (either_two HOK.out hbk (er := fer) (HF1.out.imp (fun h => ⟨h.1, h.2.2.2.2.2⟩) id))
      have HFL : Hid (fer = 13 → flen = 0) := Lib.hid (fun e => HF1.out.elim (fun h => h.2.2.2.1) (fun h => by have := h.1; omega))
      have HN1 : Hid (1 ≤ N ∧ N ≤ 32) := Lib.hid ⟨HOK.out.n1, HOK.out.n2⟩
      have hmk := make_bool w4 (n := N) (by have := HN1.out; omega)
      have hT0 : TB (w4.alloc (.cells (madeCells #[.bool false] N) 4 (0, 0))) w4.heap.size N (fun v => decide ((v : Int) ∈ (setL R N).take 0)) := (TV.made w4 (.bool false) 4 N).congr fun i _ => by simp
      have HT0 := Lib.hid hT0
      have hal := below_alloc (Below.refl w4.heap.size w4) (.cells (madeCells #[.bool false] N) 4 (0, 0))
      have HBA := Lib.hid (below_t HB4.out hal)
      have HSC1 := Lib.hid (Kd.C_below hSC hal)
      have hF0 := (Fr.of_below hal (fun _ => False)).cell f0 (fun a => a)
      have HSL : Hid ((setL R N).length ≤ N) := Lib.hid (setL_len R N)
      have HAT : Hid (∀ i, i < (setL R N).length → 0 ≤ (setL R N).getD i 0 ∧ (setL R N).getD i 0 < N) := Lib.hid fun i hi => setL_at hi
      have HLTS : Hid (∀ i j, i < j → j < (setL R N).length → (setL R N).getD i 0 < (setL R N).getD j 0) := Lib.hid fun i j h1 h2 => setL_lt h1 h2
      have HKP := Lib.hid (fun (W : World) (hW : Below w4.heap.size w4 W) => And.intro (Kd.C_below H1.out (below_t HB4.out hW)) (And.intro (Kd.C_below H2.out (below_t HB4.out hW)) (And.intro (Kd.C_below hSC hW) (And.intro ((Fr.of_below hW (fun _ => False)).cell f0 (fun a => a)) (below_t HB4.out hW)))))
      have HAL0 := Lib.hid hal
      have HMEM : Hid (∀ v : Nat, v < N → decide ((v : Int) ∈ setL R N) = R v) := Lib.hid (fun v hv => by
        cases hr : R v with
        | true => exact decide_eq_true (mem_setL.2 ⟨v, hv, rfl, hr⟩)
        | false => exact decide_eq_false (fun hm => by
            obtain ⟨u, _, e, h⟩ := mem_setL.1 hm
            rw [← e, hr] at h
            exact absurd h (by simp)))
      clear hbk hSC hb4 hT0 hal f0 hR HF1
      have HF0 := Lib.hid hF0
      clear hF0
      go_upto_region 9 with (fail)
      generalize w4.alloc (.cells (madeCells #[.bool false] N) 4 (0, 0)) = w5 at *
      generalize hgb : w4.heap.size = gb at *
      have HGE := Lib.hid hgb
      clear hgb
      go_wp2_with fail
      go_loopg [12, 13] (setL R N).length (fun k v12 v13 wr => ∃ (i : Nat) (la : Int), v13 = .int .i64 i ∧ v12 = .int .i64 la ∧ Hid (i + k = (setL R N).length) ∧ Hid (-1 ≤ la ∧ ∀ j, i ≤ j → j < (setL R N).length → la < (setL R N).getD j 0) ∧ Hid (TB wr gb N (fun v => decide ((v : Int) ∈ (setL R N).take i))) ∧ Hid (Below gb w4 wr))
      case atStart => exact ⟨0, -1, rfl, rfl, Lib.hid (by omega), Lib.hid ⟨by omega, fun j _ hj => by have := HAT.out j hj; omega⟩, HT0, HAL0⟩
      case round =>
        clear HT0 HAL0 HBA HSC1 HF0 hmk
        obtain ⟨i, la, rfl, rfl, HI, HLA, HT, HB⟩ := hrel
        obtain ⟨wv, rfl⟩ : ∃ wv : World, wv = wr := ⟨_, rfl⟩
        by_cases hlt : i < (setL R N).length
        · have hi0 : (i : Int) < (setL R N).length := by omega
          have hiz : (0 : Int) ≤ i := by omega
          obtain ⟨sd, rfl, q0⟩ := Kd.at_int (HKP.out wv HB.out).2.2.1 (i : Int) (by omega) hi0
          have ex : rd (setL R N) (i : Int) = (setL R N).getD i 0 := by unfold rd; rw [Int.toNat_natCast]
          rw [ex, Int.toNat_natCast] at q0
          have hat := HAT.out i hlt
          have hla := HLA.out.2 i (Nat.le_refl _) hlt
          have HNX : Hid (∀ j, i + 1 ≤ j → j < (setL R N).length → (setL R N).getD i 0 < (setL R N).getD j 0) := Lib.hid (fun j h1 h2 => HLTS.out i j (by omega) h2)
          have HTK : Hid ((setL R N).take (i + 1) = (setL R N).take i ++ [(setL R N).getD i 0]) := Lib.hid (by rw [List.take_add_one, List.getElem?_eq_getElem hlt, List.getD_eq_getElem?_getD, List.getElem?_eq_getElem hlt]; rfl)
          have hw : IntKind.i64.wrap ((i : Int) + 1) = i + 1 := IntWalk.i64_in _ (by have := HSL.out; have := HN1.out; omega)
          have HLT := Lib.hid hlt
          have HQ := Lib.hid (fun W (hW : Below gb w4 W) => Kd.at_int (HKP.out W hW).2.2.1 (i : Int) (by omega) hi0)
          rw [ex, Int.toNat_natCast] at HQ
          clear hlt ex
          generalize (setL R N).getD i 0 = s at *
          have e1 : decide (s ≤ la) = false := decide_eq_false (by omega)
          have e3 : decide ((N : Int) ≤ s) = false := decide_eq_false (by omega)
          have q1 := TV.free HT.out s.toNat
          have hst : s.toNat < N := by omega
          have q2 := TV.cell HT.out hst
          have hb14 : Below gb w4 (wv.setCell ⟨gb, s.toNat, none⟩ (.bool true)) := below_set HGE.out HB.out (Nat.le_refl _) _ _
          have HT14 : Hid (TB (wv.setCell ⟨gb, s.toNat, none⟩ (.bool true)) gb N (fun v => decide ((v : Int) ∈ (setL R N).take (i + 1)))) := Lib.hid ((TB.set HT.out s.toNat true).congr fun j hj => by
            rw [HTK.out]
            refine congrArg Value.bool ?_
            by_cases e : j = s.toNat
            · have : (j : Int) = s := by omega
              show (if j = s.toNat then true else _) = _
              rw [if_pos e]
              exact (decide_eq_true (List.mem_append.2 (.inr (by simp [this])))).symm
            · have : ¬ (j : Int) = s := by omega
              show (if j = s.toNat then true else _) = _
              rw [if_neg e]
              exact decide_eq_decide.2 (by simp [this]))
          clear hst
          go_upto_region 15 with (fail)
          generalize wv.setCell ⟨gb, s.toNat, none⟩ (.bool true) = w6 at *
          obtain ⟨sd2, e2, q3⟩ := HQ.out w6 hb14
          obtain rfl := Option.some.inj e2
          have HB14 := Lib.hid hb14
          clear q0 q1 q2 hb14 e2
          go_wp2_with fail
          go_roundg ((setL R N).length - (i + 1))
          case measure => have := HI.out; have := HLT.out; omega
          case rel => exact ⟨i + 1, s, by go_num, rfl, Lib.hid (by have := HI.out; have := HLT.out; omega), Lib.hid ⟨by omega, HNX.out⟩, HT14, HB14⟩
        · have him : i = (setL R N).length := by have := HI.out; omega
          have hnl : ¬ (i : Int) < (setL R N).length := by omega
          have HTR : Hid (TB wv gb N (fun v => R v)) := Lib.hid (HT.out.congr fun j hj => by rw [him, List.take_length]; exact congrArg Value.bool (HMEM.out j hj))
          have HEX := Lib.hid (exc_any wv A1 c1 l (HKP.out wv HB.out).1 hc1 A2 c2 xs (HKP.out wv HB.out).2.1 hc2 N gb R HTR.out HXL.out HOK.out HXB.out)
          clear hlt HT HI HLA HMEM HAT HLTS HSL him HSC HKF
          go_wp2_with fail
          refine HEX.out.mono ?_
          rintro e w7 ⟨he, hb7⟩
          obtain ⟨best, hbest⟩ : ∃ best, best = excF N l.length (arcF l) (fun v => xs.getD v 0) R := ⟨_, rfl⟩
          rw [← hbest] at he
          subst he
          have HB7 := Lib.hid (below_tg HGE.out HB.out hb7)
          have HT7 := Lib.hid (TV.below HTR.out hb7)
          have HTW2 := HTW.out
          rw [← hbest] at HTW2
          have HBE := Lib.hid hbest
          have f0 := (HKP.out w7 HB7.out).2.2.2.1
          clear hb7 HEX HTR HB hbest HTW hnl
          generalize hL : (setL R N).length = L at *
          clear hL
          rcases HTW2 with ⟨rfl, t1, t2⟩ | ⟨rfl, t1, t2⟩
          case' inl =>
            have hf0 := HFL.out rfl
            subst hf0
            have e4 : ((L : Int) == 0) = false := beq_eq_false_iff_ne.2 (by omega)
            have e5 : decide (0 < best) = true := decide_eq_true t2
            have e6 : decide ((0 : Int) < L) = true := decide_eq_true (by omega)
            have e7 : ¬ L = 0 := by omega
            clear t1 t2
            go_upto_region 19 with (fail)
          case' inr =>
            subst t1
            have e5 : decide (0 < best) = false := decide_eq_false (by omega)
            clear t2
            go_upto_region 19 with (fail)
          all_goals
            clear f0 e5
            have HBW := Lib.hid (fun W (hW : Below gb w4 W) => (HKP.out W hW).2.2.2.2)
            by_cases h8 : N ≤ 8
            · obtain ⟨K, hK8, hsh⟩ := two_pow h8
              have HK8 := Lib.hid hK8
              clear hK8
              go_wp2_with fail
              go_loopg [15] K (fun k v15 wr => ∃ m : Nat, v15 = .int .i64 m ∧ Hid (m + k = K) ∧ Hid (TB wr gb N (fun v => R v)) ∧ Hid (Below gb w4 wr))
              case atStart => exact ⟨0, rfl, Lib.hid (by omega), HT7, HB7⟩
              case round =>
                clear HT7 HB7
                obtain ⟨m, rfl, HM, HT, HB⟩ := hrel
                obtain ⟨wv2, rfl⟩ : ∃ wv2 : World, wv2 = wr := ⟨_, rfl⟩
                by_cases hlt : m < K
                · have hm0 : (m : Int) < K := by omega
                  have hmk2 := make_bool wv2 (n := N) (by omega)
                  have hal2 := below_alloc (Below.refl wv2.heap.size wv2) (.cells (madeCells #[.bool false] N) 4 (0, 0))
                  have HOT : Hid (TB (wv2.alloc (.cells (madeCells #[.bool false] N) 4 (0, 0))) wv2.heap.size N (fun v => decide (v < 0) && bitB m v)) := Lib.hid ((TV.made wv2 (.bool false) 4 N).congr fun i _ => by simp)
                  have HTI := Lib.hid (TV.below HT.out hal2)
                  have HBI := Lib.hid (below_tg HGE.out HB.out hal2)
                  have HOG : Hid (gb < wv2.heap.size) := Lib.hid (TV.lt HT.out)
                  clear hal2 HT HB
                  have HLT := Lib.hid hlt
                  clear hlt
                  go_upto_region 23 with (fail)
                  generalize wv2.alloc (.cells (madeCells #[.bool false] N) 4 (0, 0)) = wi at *
                  generalize wv2.heap.size = ob at *
                  go_wp2_with fail
                  go_loopg [17, 18] N (fun k v17 v18 wr => ∃ j : Nat, v18 = .int .i64 j ∧ v17 = .bool (lessB R m j) ∧ Hid (j + k = N) ∧ Hid (TB wr ob N (fun v => decide (v < j) && bitB m v)) ∧ Hid (TB wr gb N (fun v => R v)) ∧ Hid (Below gb w4 wr))
                  case atStart => exact ⟨0, rfl, rfl, Lib.hid (by omega), HOT, HTI, HBI⟩
                  case round =>
                    clear HOT HTI HBI hmk2
                    obtain ⟨j, rfl, rfl, HJ, HO, HT, HB⟩ := hrel
                    obtain ⟨wv3, rfl⟩ : ∃ wv3 : World, wv3 = wr := ⟨_, rfl⟩
                    by_cases hlt : j < N
                    · have hj0 : (j : Int) < N := by omega
                      have hjz : (0 : Int) ≤ j := by omega
                      have q1 := TV.free HO.out j
                      have q2 := TV.cell HO.out hlt
                      have hwj : IntKind.i64.wrap ((j : Int) + 1) = j + 1 := IntWalk.i64_in _ (by omega)
                      have hbit : bitB m j = (((m : Int) / 2 ^ j).tmod 2 == 1) := by unfold bitB; rw [Int.toNat_natCast]
                      have HO8 := Lib.hid (TB.set HO.out j (((m : Int) / 2 ^ j).tmod 2 == 1))
                      have HT8 := Lib.hid (HT.out.fr ((Fr.refl (fun k => k = ob) wv3).setCell (p := ⟨ob, j, none⟩) (.inl rfl) (.bool (((m : Int) / 2 ^ j).tmod 2 == 1))) (by have := HOG.out; omega))
                      have HB8 := Lib.hid (below_set HGE.out HB.out (Nat.le_of_lt HOG.out) j (.bool (((m : Int) / 2 ^ j).tmod 2 == 1)))
                      have HLT2 := Lib.hid hlt
                      go_upto_region 28 with (fail)
                      rw [← hbit] at *
                      clear hbit
                      generalize wv3.setCell ⟨ob, j, none⟩ (.bool (bitB m j)) = w8 at *
                      have HLN := Lib.hid (lessB_next R m j)
                      have q3 : w8.cell? ⟨gb, j, none⟩ = some (.bool (R j)) := TV.cell HT8.out hlt
                      have q4 : w8.cell? ⟨ob, j, none⟩ = some (.bool (bitB m j)) := by have := TV.cell HO8.out hlt; simp only [if_pos] at this; exact this
                      have HO9 : Hid (TB w8 ob N (fun v => decide (v < j + 1) && bitB m v)) := Lib.hid (HO8.out.congr fun v hv => by
                        refine congrArg Value.bool ?_
                        show (if v = j then bitB m j else _) = _
                        by_cases e : v = j
                        · subst e; simp
                        · rw [if_neg e]
                          have : decide (v < j) = decide (v < j + 1) := decide_eq_decide.2 (by omega)
                          rw [this])
                      clear q1 q2 hlt HO8 HO HT HB
                      generalize bitB m j = bt at *
                      cases hls : lessB R m j with
                      | true =>
                        rw [hls, Bool.true_or] at HLN
                        clear hls q3 q4
                        go_wp2_with fail
                        go_roundg (N - (j + 1))
                        case measure => have := HJ.out; have := HLT2.out; omega
                        case rel => exact ⟨j + 1, by go_num, by rw [HLN.out], Lib.hid (by have := HJ.out; have := HLT2.out; omega), HO9, HT8, HB8⟩
                      | false =>
                        rw [hls, Bool.false_or] at HLN
                        clear hls
                        cases hr : R j with
                        | false =>
                          rw [hr] at q3
                          rw [hr, Bool.false_and] at HLN
                          clear hr q4
                          go_wp2_with fail
                          go_roundg (N - (j + 1))
                          case measure => have := HJ.out; have := HLT2.out; omega
                          case rel => exact ⟨j + 1, by go_num, by rw [HLN.out], Lib.hid (by have := HJ.out; have := HLT2.out; omega), HO9, HT8, HB8⟩
                        | true =>
                          rw [hr] at q3
                          rw [hr, Bool.true_and] at HLN
                          clear hr
                          go_wp2_with fail
                          go_roundg (N - (j + 1))
                          case measure => have := HJ.out; have := HLT2.out; omega
                          case rel => exact ⟨j + 1, by go_num, by rw [HLN.out], Lib.hid (by have := HJ.out; have := HLT2.out; omega), HO9, HT8, HB8⟩
                    · have hjN : j = N := by have := HJ.out; omega
                      subst hjN
                      have hnl : ¬ (j : Int) < j := by omega
                      have HOF : Hid (TB wv3 ob j (fun v => bitB m v)) := Lib.hid (HO.out.congr fun v hv => by
                        refine congrArg Value.bool ?_
                        show (decide (v < j) && bitB m v) = bitB m v
                        rw [decide_eq_true hv, Bool.true_and])
                      have HEX := Lib.hid (exc_any wv3 A1 c1 l (HKP.out wv3 HB.out).1 hc1 A2 c2 xs (HKP.out wv3 HB.out).2.1 hc2 j ob (bitB m) HOF.out HXL.out HOK.out HXB.out)
                      clear hlt HJ HO
                      go_wp2_with fail
                      refine HEX.out.mono ?_
                      rintro e w9 ⟨he, hb9⟩
                      have hmost := HBK.out.most (bitB m)
                      have hleast := HBK.out.least (bitB m)
                      rw [← HBE.out] at hmost hleast
                      have HT9 := Lib.hid (TV.below HT.out hb9)
                      have HB9 := Lib.hid (below_tg HGE.out HB.out hb9)
                      clear hb9 HEX HOF HT HB
                      generalize excF j l.length (arcF l) (fun v => xs.getD v 0) (bitB m) = got at *
                      subst he
                      have e8 : decide (best < got) = false := decide_eq_false (by omega)
                      have hwm : IntKind.i64.wrap ((m : Int) + 1) = m + 1 := IntWalk.i64_in _ (by have := HK8.out; omega)
                      by_cases heq : got = best
                      · have hl0 := lessB_no (hleast heq)
                        subst heq
                        rw [hl0]
                        clear hmost hleast e8
                        go_wp2_with fail
                        go_roundg (K - (m + 1))
                        case measure => have := HM.out; have := HLT.out; omega
                        case rel => exact ⟨m + 1, by go_num, Lib.hid (by have := HM.out; have := HLT.out; omega), HT9, HB9⟩
                      · have e9 : (got == best) = false := beq_eq_false_iff_ne.2 heq
                        clear hmost hleast
                        go_wp2_with fail
                        go_roundg (K - (m + 1))
                        case measure => have := HM.out; have := HLT.out; omega
                        case rel => exact ⟨m + 1, by go_num, Lib.hid (by have := HM.out; have := HLT.out; omega), HT9, HB9⟩
                · have hnl : ¬ (m : Int) < K := by omega
                  have HAL := Lib.hid (alive_any wv2)
                  have HBQ := Lib.hid (HBW.out wv2 HB.out)
                  clear hlt HT HB HM
                  go_wp2_with fail
                  refine HAL.out.mono ?_
                  rintro e w9 ⟨rfl, hb9⟩
                  have HB9 := Lib.hid (below_t HBQ.out hb9)
                  clear hb9
                  go_wp2_with fail
                  go_ret
                  exact ⟨rfl, HB9.out⟩
            · have h9 : decide ((N : Int) ≤ 8) = false := decide_eq_false (by omega)
              clear h8
              go_wp2_with fail
              go_loopg [15] 0 (fun k v15 wr => v15 = .int .i64 0 ∧ Hid (Below gb w4 wr))
              case atStart => exact ⟨rfl, HB7⟩
              case round =>
                clear HT7 HB7
                obtain ⟨rfl, HB⟩ := hrel
                obtain ⟨wv2, rfl⟩ : ∃ wv2 : World, wv2 = wr := ⟨_, rfl⟩
                have HAL := Lib.hid (alive_any wv2)
                have HBQ := Lib.hid (HBW.out wv2 HB.out)
                clear HB
                go_wp2_with fail
                refine HAL.out.mono ?_
                rintro e w9 ⟨rfl, hb9⟩
                have HB9 := Lib.hid (below_t HBQ.out hb9)
                clear hb9
                go_wp2_with fail
                go_ret
                exact ⟨rfl, HB9.out⟩
    · have e2 : (needE n l xs != 0) = true := by simp [h0]
      have hpp : ∃ er, e = .returned (.tuple #[.agg #[.slice none 0 0, .int .i64 0], .int .i64 er]) ∧ er = needE n l xs := by
        rcases hpost.1 with ⟨er, rfl, _, ⟨_, hr⟩ | ⟨hr, _⟩⟩ | ⟨_, _, rfl, _, _, hs⟩
        · exact ⟨er, rfl, hr⟩
        · exact absurd hr h0
        · exact absurd hs.1 h0
      have hb2 := hpost.2
      obtain ⟨er, rfl, hre⟩ := hpp
      subst hre
      have hb3 := below_al (below_t HB1.out hb2) (.cells #[.slice none 0 0, .int .i64 0] 29 (0, 0))
      clear hpost hb2
      go_upto_region 4 with (fail)
      generalize w2.alloc (.cells #[.slice none 0 0, .int .i64 0] 29 (0, 0)) = w3 at *
      have HB3 := Lib.hid hb3
      have HBL := Lib.hid (block_any w3 n A1 c1 l (Kd.C_below H1.out hb3) hc1 A2 c2 xs (Kd.C_below H2.out hb3) hc2)
      have HN0 := Lib.hid h0
      clear hb3 h0
      go_wp2_with fail
      refine HBL.out.mono ?_
      rintro e w4 ⟨hpost, hb4⟩
      rcases hpost with ⟨_, rfl⟩ | ⟨hr, _⟩
      · have HB4 := Lib.hid (below_t HB3.out hb4)
        have HAL := Lib.hid (alive_any w4)
        clear hb4 HBL
        go_wp2_with fail
        refine HAL.out.mono ?_
        rintro e w5 ⟨rfl, hb5⟩
        have HB5 := Lib.hid (below_t HB4.out hb5)
        clear hb5
        go_wp2_with fail
        go_ret
        exact ⟨rfl, HB5.out⟩
      · exact absurd hr HN0.out
end Go.Proofs.Ytpbndcmmclkdpaa
