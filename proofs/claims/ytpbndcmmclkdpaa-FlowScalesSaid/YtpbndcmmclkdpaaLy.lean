/-
  The walk of FlowScales.
-/
import Derived.Test.YtpbndcmmclkdpaaLx
import Derived.Test.YtpbndcmmclkdpaaLb
namespace Go.Proofs.Ytpbndcmmclkdpaa
open PFlowSolves
open Go.RowKit Go.Proofs.YtpbndcmmclkdpaaW.PrintWords
theorem take_map {α β : Type} {l : List α} {i : Nat} {a : α} (h : l[i]? = some a) (f : α → β) : (l.take (i + 1)).map f = (l.take i).map f ++ [f a] := by
  rw [List.take_add_one, h, List.map_append]; rfl
theorem rneed_any (w : World) (n : Int) (A1 : Option Addr) (c1 : Nat) (l : List Ar) (h1 : Kd.C k44 w A1 l.length l) (hc1 : l.length ≤ c1) (A2 : Option Addr) (c2 : Nat) (xs : List Int) (h2 : Kd.C (Kd.int .i64) w A2 xs.length xs) (hc2 : xs.length ≤ c2) :
    Calls Try.prog 22 #[.int .i64 n, .slice A1 l.length c1, .slice A2 xs.length c2] w fun e w' => e = .returned (.int .i64 (needE n l xs)) ∧ Below w.heap.size w w' :=
  merinoref05_Needs.calls 300 n A1 c1 l A2 c2 xs _ w h1 hc1 h2 hc2 (rneed_f n l xs (Nat.le_refl _))
theorem SolveTwo.uni {n : Int} {l : List Ar} {xs : List Int} {w w' : World} {e : Ending} (h0 : needE n l xs = 0) (h : SolveTwo n l xs w e w') :
    ∃ A len c cst er, e = .returned (.tuple #[.agg #[.slice A len c, .int .i64 cst], .int .i64 er]) ∧ ((er = 13 ∧ cst = 0 ∧ A = none ∧ len = 0 ∧ c = 0 ∧ ∃ x, Carried n.toNat l.length (arcF l) (fun v => xs.getD v 0) false x) ∨
      (er = 0 ∧ ∃ x, cst = costF l.length (arcF l) x ∧ Solved n l xs x ∧ ∃ ga, A = some ⟨ga, 0, none⟩ ∧ len = l.length ∧ c = l.length ∧ TI w' ga l.length x)) ∧ Below w.heap.size w w' := by
  obtain ⟨h, hb⟩ := h
  rcases h with ⟨er, rfl, _, ⟨hr, _⟩ | ⟨_, hr, hx⟩⟩ | ⟨ga, x, rfl, ht, _, hs⟩
  · exact absurd h0 hr
  · exact ⟨_, _, _, _, _, rfl, .inl ⟨hr, rfl, rfl, rfl, rfl, hx⟩, hb⟩
  · exact ⟨_, _, _, _, _, rfl, .inr ⟨rfl, x, rfl, hs, ga, rfl, rfl, rfl, ht⟩, hb⟩
theorem cost_nine {n m : Nat} {A : Nat → Ar} {x : Nat → Int} {k : Int} (hok : NetOk n m A) (hx : Valid m A x) (hc : ∀ i, i < m → (A i).f2 ≤ 122167958641) (hk : 1 ≤ k ∧ k ≤ 9) : -4611686018427387904 ≤ costF m A x * k ∧ costF m A x * k ≤ 4611686018427387904 := by
  rw [← cost_mul (B := fun i => scaleA k (A i)) (fun _ _ => rfl)]
  have := costF_abs (m := m) (A := fun i => scaleA k (A i)) (x := fun i => x i * k) (fun i hi => by
    obtain ⟨h1, h2⟩ := hx i hi
    have h3 := hc i hi
    have a1 : x i * k ≤ 122167958641 * 9 := Int.mul_le_mul (by omega) hk.2 (by omega) (by omega)
    exact ⟨Int.mul_nonneg h1 (by omega), by omega⟩) hok.cost m (Nat.le_refl _)
  have := hok.m1
  omega
theorem scales_end {N : Nat} {l : List Ar} {xs : List Int} {k : Int} {w10 w14 w15 : World} {fA tA : Option Addr} {flen fc tlen tc : Nat} {fcst fer scst ser tcst ter : Int}
    (hok : NetOk (N : Int).toNat l.length (arcF l)) (hcl : ∀ a ∈ l, a.f2 ≤ 122167958641) (hk : 1 ≤ k ∧ k ≤ 9)
    (hf : (fer = 13 ∧ fcst = 0 ∧ fA = none ∧ flen = 0 ∧ fc = 0 ∧ ∃ x, Carried (N : Int).toNat l.length (arcF l) (fun v => xs.getD v 0) false x) ∨
      (fer = 0 ∧ ∃ x, fcst = costF l.length (arcF l) x ∧ Solved N l xs x ∧ ∃ ga, fA = some ⟨ga, 0, none⟩ ∧ flen = l.length ∧ fc = l.length ∧ TI w10 ga l.length x))
    (hs : ((∃ x, Carried (N : Int).toNat l.length (arcF l) (fun v => xs.getD v 0) false x) → ser = 13 ∧ scst = 0) ∧ (∀ x, Solved N l xs x → ser = 0 ∧ scst = costF l.length (arcF l) x * k))
    (ht : ((∃ x, Carried (N : Int).toNat l.length (arcF l) (fun v => xs.getD v 0) false x) → ter = 13 ∧ tcst = 0 ∧ tA = none ∧ tlen = 0 ∧ tc = 0) ∧ (∀ x, Solved N l xs x → ter = 0 ∧ tcst = costF l.length (arcF l) x ∧ ∃ gb, tA = some ⟨gb, 0, none⟩ ∧ tlen = l.length ∧ tc = l.length ∧ TI w14 gb l.length x))
    (h10 : ∀ ga x, TI w10 ga l.length x → TI w15 ga l.length x) (h14 : ∀ ga x, TI w14 ga l.length x → TI w15 ga l.length x) :
    ser = fer ∧ ter = fer ∧ scst = fcst * k ∧ fcst = tcst ∧ IntKind.i64.wrap (tcst * k) = tcst * k ∧ Twin w15 (.slice tA tlen tc) (.slice fA flen fc) := by
  rcases hf with ⟨rfl, rfl, rfl, rfl, rfl, hx⟩ | ⟨rfl, x, rfl, hso, ga, rfl, rfl, rfl, hti⟩
  · obtain ⟨rfl, rfl⟩ := hs.1 hx
    obtain ⟨rfl, rfl, rfl, rfl, rfl⟩ := ht.1 hx
    exact ⟨rfl, rfl, by omega, rfl, IntWalk.i64_in _ (by omega), fun W _ => same_nil W⟩
  · obtain ⟨rfl, rfl⟩ := hs.2 x hso
    obtain ⟨rfl, rfl, gb, rfl, rfl, rfl, htb⟩ := ht.2 x hso
    have hb := cost_nine hok hso.2.1 (fun i hi => by unfold arcF; rw [List.getD_eq_getElem?_getD, List.getElem?_eq_getElem hi]; exact hcl _ (List.getElem_mem hi)) hk
    exact ⟨rfl, rfl, rfl, rfl, IntWalk.i64_in _ (by omega), fun W hW => same_TI W gb ga l.length x (TV.below (h14 gb x htb) hW) (TV.below (h10 ga x hti) hW) (by have := hok.m1; omega)⟩
set_option maxRecDepth 100000 in
set_option maxHeartbeats 8000000 in
theorem scales_law {n : Int} (_ : (Lit.int .i64 n).wf = true) (A1 : Option Addr) (c1 : Nat) (l : List Ar) (hc1 : l.length ≤ c1) (_ : c1 ≤ 9223372036854775807) {w : World} (h1 : Kd.C k44 w A1 l.length l) (_ : ∀ a ∈ l, (Lit.int .i64 a.f0).wf = true ∧ (Lit.int .i64 a.f1).wf = true ∧ (Lit.int .i64 a.f2).wf = true ∧ (Lit.int .i64 a.f3).wf = true)
    (A2 : Option Addr) (c2 : Nat) (xs : List Int) (hc2 : xs.length ≤ c2) (_ : c2 ≤ 9223372036854775807) (h2 : Kd.C (Kd.int .i64) w A2 xs.length xs) (_ : ∀ a ∈ xs, (Lit.int .i64 a).wf = true)
    {by_ : Int} (hby : (Lit.int .u8 by_).wf = true) :
    Calls Try.prog 6 #[.int .i64 n, .slice A1 l.length c1, .slice A2 xs.length c2, .int .u8 by_] w fun e w' => e = .returned (.bool true) ∧ Below w.heap.size w w' := by
  have hby := wf_u8 hby
  have hu := Try.underlying44
  have HFEW := Lib.hid (few_any w A1 c1 l h1 hc1 A2 c2 xs h2 hc2)
  have H1 := Lib.hid h1
  have H2 := Lib.hid h2
  clear h1 h2
  go_enter Try.func6, Try.ntmps6
  go_wp2_with fail
  refine HFEW.out.mono ?_
  rintro e w1 ⟨rfl, hb1⟩
  have HB1 := Lib.hid hb1
  clear hb1 HFEW
  cases hf : fewB l xs with
  | false =>
    have HAL := Lib.hid (alive_any w1)
    clear hf
    go_wp2_with fail
    refine HAL.out.mono ?_
    rintro e w2 ⟨rfl, hb2⟩
    have HB2 := Lib.hid (below_t HB1.out hb2)
    clear hb2
    go_wp2_with fail
    go_ret
    exact ⟨rfl, HB2.out⟩
  | true =>
    have HFE := Lib.hid (fewB_iff.1 hf)
    have HND := Lib.hid (rneed_any w1 n A1 c1 l (Kd.C_below H1.out HB1.out) hc1 A2 c2 xs (Kd.C_below H2.out HB1.out) hc2)
    clear hf
    go_wp2_with fail
    refine HND.out.mono ?_
    rintro e w2 ⟨rfl, hb2⟩
    have HB2 := Lib.hid (below_t HB1.out hb2)
    clear hb2 HND
    by_cases h0 : needE n l xs = 0
    · have HE0 := Lib.hid h0
      obtain ⟨g1, g2, g3, g4⟩ := needE_ok h0
      obtain ⟨k1, k2, k3, _⟩ := netE_range g1
      obtain ⟨N, hN⟩ : ∃ N : Nat, n = N := ⟨n.toNat, by omega⟩
      subst hN
      have hk0 : 0 ≤ by_ % 9 ∧ by_ % 9 < 9 := ⟨Int.emod_nonneg _ (by omega), Int.emod_lt_of_pos _ (by omega)⟩
      obtain ⟨k, hk⟩ : ∃ k, 1 + by_ % 9 = k := ⟨_, rfl⟩
      have HK : Hid (1 ≤ k ∧ k ≤ 9) := Lib.hid (by omega)
      have HOK := Lib.hid (netE_ok g1)
      have HXL : Hid (xs.length = N) := Lib.hid (by omega)
      have HS := Lib.hid (show 1 ≤ N ∧ N ≤ 32 ∧ l.length ≤ 128 by omega)
      have HXB := Lib.hid g3
      rw [h0]
      clear h0 g1 g2 g3 g4 k1 k2 k3
      go_wp2_with fail
      go_loopg [10, 11, 12, 13] l.length (fun kk v10 v11 v12 v13 wr => ∃ i : Nat, v12 = .int .i64 i ∧ Hid (i + kk = l.length) ∧ Hid (Two k44 44 w wr v10 v11 ((l.take i).map (scaleA k)) ((l.take i).map turnA)) ∧ Hid (∀ j, j < i → (arcF l j).f2 ≤ 122167958641) ∧ Hid (Below w.heap.size w wr))
      case atStart => exact ⟨0, rfl, Lib.hid (by omega), Lib.hid (Two.nil _ _ _ _), Lib.hid (fun j hj => absurd hj (Nat.not_lt_zero _)), HB2⟩
      case round =>
        obtain ⟨i, rfl, HI, HTW, HCA, HB⟩ := hrel
        obtain ⟨wv, rfl⟩ : ∃ wv : World, wv = wr := ⟨_, rfl⟩
        by_cases hlt : i < l.length
        · have hi0 : (i : Int) < l.length := by omega
          have hiz : (0 : Int) ≤ i := by omega
          obtain ⟨a, ha⟩ : ∃ a, l[i]? = some a := ⟨_, List.getElem?_eq_getElem hlt⟩
          obtain ⟨ad, rfl, q0, q1, q2, q3⟩ := arcs_of (Kd.C_below H1.out HB.out) (i : Int) (by omega) hi0
          rw [Int.toNat_natCast, arcF_at ha] at q0 q1 q2 q3
          have hw : IntKind.i64.wrap ((i : Int) + 1) = i + 1 := IntWalk.i64_in _ (by have := HS.out; omega)
          have hcp := HOK.out.cap i hlt
          rw [arcF_at ha] at hcp
          have HAR := Lib.hid (arcF_at ha)
          have HT1 := Lib.hid (take_map ha (scaleA k))
          have HT2 := Lib.hid (take_map ha turnA)
          have hal := below_alloc (Below.refl wv.heap.size wv) (.cells #[.int .i64 a.f0, .int .i64 a.f1, .int .i64 a.f2, .int .i64 a.f3] 44 (0, 0))
          have hA4 := Blk.new wv #[.int .i64 a.f0, .int .i64 a.f1, .int .i64 a.f2, .int .i64 a.f3] 44
          have HLT := Lib.hid hlt
          have HL1 : Hid (((l.take i).map (scaleA k)).length ≤ 128 ∧ ((l.take i).map turnA).length ≤ 128) := Lib.hid (by rw [List.length_map, List.length_map, List.length_take]; have := HS.out; omega)
          clear hlt ha
          go_upto_region 9 with (fail)
          generalize wv.alloc (.cells #[.int .i64 a.f0, .int .i64 a.f1, .int .i64 a.f2, .int .i64 a.f3] 44 (0, 0)) = w3 at *
          have b0 := Blk.cell hA4 0 (v := .int .i64 a.f0) rfl
          have b1 := Blk.cell hA4 1 (v := .int .i64 a.f1) rfl
          have b2 := Blk.cell hA4 2 (v := .int .i64 a.f2) rfl
          have b3 := Blk.cell hA4 3 (v := .int .i64 a.f3) rfl
          have HB3 := Lib.hid (below_t HB.out hal)
          have HTW3 := Lib.hid (HTW.out.below hal)
          have HA4 := Lib.hid hA4
          have HLA := Lib.hid (HTW.out.lta)
          clear hal hA4 q0 q1 q2 q3
          by_cases hbig : 122167958641 < a.f2
          · have e2 : decide (122167958641 < a.f2) = true := decide_eq_true hbig
            have HAL := Lib.hid (alive_any w3)
            clear hbig
            go_wp2_with fail
            refine HAL.out.mono ?_
            rintro e w4 ⟨rfl, hb4⟩
            have HB4 := Lib.hid (below_t HB3.out hb4)
            clear hb4
            go_wp2_with fail
            go_ret
            exact ⟨rfl, HB4.out⟩
          · have e2 : decide (122167958641 < a.f2) = false := decide_eq_false hbig
            have hm : 0 ≤ a.f2 * k ∧ a.f2 * k ≤ 122167958641 * 9 := ⟨Int.mul_nonneg hcp.1 (by have := HK.out; omega), Int.mul_le_mul (by omega) HK.out.2 (by have := HK.out; omega) (by omega)⟩
            have hwm : IntKind.i64.wrap (a.f2 * k) = a.f2 * k := IntWalk.i64_in _ (by omega)
            have HBG := Lib.hid hbig
            clear hbig hm hcp
            go_upto_region 12 with (at_builtin; refine Kd.R_append k44 (w0 := w) w.heap.size rfl _ _ 22 44 (.agg #[.int .i64 0, .int .i64 0, .int .i64 0, .int .i64 0]) 32 rfl Try.underlying22 info44 rfl (by decide) (by omega) u10 ((l.take i).map (scaleA k)) (scaleA k a) [.int .i64 a.f0, .int .i64 a.f1, .int .i64 (a.f2 * k), .int .i64 a.f3] (fun _ => True) (fun _ => False) rfl rfl (k44_mkM _ _ _ (scaleA k a)) (fun _ hk => hk.elim) (fun _ _ => trivial) HTW3.out.a HB3.out HB3.out.size (by have := HL1.out; omega) ?_; intro v7 w7 hR7 hb7 hg7 hat7)
            have HTW7 := Lib.hid (Two.left rfl HTW3.out hR7 hg7 hat7)
            have hA7 := HA4.out.fr ((Fr.refl (fun k => some k = u10.ownBlock) w3).grown hg7 (fun k hk => .inl hk.symm)) (fun h => by have := HLA.out _ h.symm; omega)
            have b0 := Blk.cell hA7 0 (v := .int .i64 a.f0) rfl
            have b1 := Blk.cell hA7 1 (v := .int .i64 a.f1) rfl
            have b2 := Blk.cell hA7 2 (v := .int .i64 a.f2) rfl
            have b3 := Blk.cell hA7 3 (v := .int .i64 a.f3) rfl
            have HB7 := Lib.hid hb7
            clear hR7 hb7 hg7 hat7 hA7
            go_wp2_with (at_builtin; refine Kd.R_append k44 (w0 := w) w.heap.size rfl _ _ 22 44 (.agg #[.int .i64 0, .int .i64 0, .int .i64 0, .int .i64 0]) 32 rfl Try.underlying22 info44 rfl (by decide) (by omega) u11 ((l.take i).map turnA) (turnA a) [.int .i64 a.f1, .int .i64 a.f0, .int .i64 a.f2, .int .i64 a.f3] (fun _ => True) (fun _ => False) rfl rfl (k44_mkM _ _ _ (turnA a)) (fun _ hk => hk.elim) (fun _ _ => trivial) HTW7.out.b HB7.out HB7.out.size (by have := HL1.out; omega) ?_; intro v8 w8 hR8 hb8 hg8 hat8)
            have HTW8 := Lib.hid (Two.right rfl HTW7.out hR8 hg8 hat8)
            have HB8 := Lib.hid hb8
            clear hR8 hb8 hg8 hat8
            go_wp2_with fail
            go_roundg (l.length - (i + 1))
            case measure => have := HI.out; have := HLT.out; omega
            case rel => exact ⟨i + 1, by go_num, Lib.hid (by have := HI.out; have := HLT.out; omega), Lib.hid (by rw [HT1.out, HT2.out]; exact HTW8.out), Lib.hid (fun j hj => by
              by_cases e : j = i
              · subst e; rw [HAR.out]; have := HBG.out; omega
              · exact HCA.out j (by omega)), HB8⟩
        · have him : i = l.length := by have := HI.out; omega
          have hnl : ¬ (i : Int) < l.length := by omega
          have HCL : Hid (∀ a ∈ l, a.f2 ≤ 122167958641) := Lib.hid (fun a ha => by
            obtain ⟨j, hj⟩ := List.getElem?_of_mem ha
            have := HCA.out j (by have := (List.getElem?_eq_some_iff.1 hj).1; omega)
            rwa [arcF_at hj] at this)
          have HTL : Hid (Two k44 44 w wv u10 u11 (l.map (scaleA k)) (l.map turnA)) := Lib.hid (by have := HTW.out; rw [him, List.take_length] at this; exact this)
          clear hlt him HTW HI HCA
          have HBX := HB
          clear HB
          obtain ⟨w9, hw9⟩ : ∃ w9 : World, w9 = wv := ⟨_, rfl⟩
          rw [← hw9] at HTL HBX
          have HB0 := Lib.hid (show Below w9.heap.size w9 wv from hw9 ▸ Below.refl _ _)
          have HT0 := Lib.hid (Two.nil (Kd.int .i64) 3 w9 wv)
          clear hw9
          go_wp2_with fail
          go_loopg [14, 15, 16] N (fun kk v14 v15 v16 wr => ∃ i : Nat, v16 = .int .i64 i ∧ Hid (i + kk = N) ∧ Hid (Two (Kd.int .i64) 3 w9 wr v14 v15 ((xs.take i).map (· * k)) ((xs.take i).map (- ·))) ∧ Hid (∀ j, j < i → -15637498706147 ≤ xs.getD j 0 ∧ xs.getD j 0 ≤ 15637498706147) ∧ Hid (Below w9.heap.size w9 wr))
          case atStart => exact ⟨0, rfl, Lib.hid (by omega), HT0, Lib.hid (fun j hj => absurd hj (Nat.not_lt_zero _)), HB0⟩
          case round =>
            clear HB0 HT0
            obtain ⟨i, rfl, HI, HTW, HXA, HB⟩ := hrel
            obtain ⟨wv2, rfl⟩ : ∃ wv2 : World, wv2 = wr := ⟨_, rfl⟩
            by_cases hlt : i < N
            · have hi0 : (i : Int) < N := by omega
              have hiz : (0 : Int) ≤ i := by omega
              have hix : (i : Int) < xs.length := by have := HXL.out; omega
              obtain ⟨a, ha⟩ : ∃ a, xs[i]? = some a := ⟨_, List.getElem?_eq_getElem (by omega)⟩
              have hga : xs.getD i 0 = a := by rw [List.getD_eq_getElem?_getD, ha]; rfl
              have hab := HXB.out i (by omega)
              obtain ⟨ad, rfl, q0⟩ := Kd.at_int (Kd.C_below H2.out (below_t HBX.out HB.out)) (i : Int) (by omega) hix
              rw [rdI ha, Int.toNat_natCast] at q0
              rw [hga] at hab
              have hw : IntKind.i64.wrap ((i : Int) + 1) = i + 1 := IntWalk.i64_in _ (by have := HS.out; omega)
              have HT1 := Lib.hid (take_map ha (· * k))
              have HT2 := Lib.hid (take_map ha (- ·))
              have HLT := Lib.hid hlt
              have HGA := Lib.hid hga
              have HIA := Lib.hid ha
              have HL1 : Hid (((xs.take i).map (· * k)).length ≤ 32 ∧ ((xs.take i).map (- ·)).length ≤ 32) := Lib.hid (by rw [List.length_map, List.length_map, List.length_take]; have := HS.out; omega)
              clear hlt ha hga
              by_cases hbig : 15637498706147 < a
              · have e2 : decide (15637498706147 < a) = true := decide_eq_true hbig
                have HAL := Lib.hid (alive_any wv2)
                clear hbig hab
                go_wp2_with fail
                refine HAL.out.mono ?_
                rintro e w4 ⟨rfl, hb4⟩
                have HB4 := Lib.hid (below_t HBX.out (below_t HB.out hb4))
                clear hb4
                go_wp2_with fail
                go_ret
                exact ⟨rfl, HB4.out⟩
              · by_cases hsm : a < -15637498706147
                · have e2 : decide (15637498706147 < a) = false := decide_eq_false hbig
                  have e3 : decide (a < -15637498706147) = true := decide_eq_true hsm
                  have HAL := Lib.hid (alive_any wv2)
                  clear hbig hab hsm
                  go_wp2_with fail
                  refine HAL.out.mono ?_
                  rintro e w4 ⟨rfl, hb4⟩
                  have HB4 := Lib.hid (below_t HBX.out (below_t HB.out hb4))
                  clear hb4
                  go_wp2_with fail
                  go_ret
                  exact ⟨rfl, HB4.out⟩
                · have e2 : decide (15637498706147 < a) = false := decide_eq_false hbig
                  have e3 : decide (a < -15637498706147) = false := decide_eq_false hsm
                  have hm1 : a * k ≤ 15637498706147 * k := Int.mul_le_mul_of_nonneg_right (by omega) (by have := HK.out; omega)
                  have hm2 : -15637498706147 * k ≤ a * k := Int.mul_le_mul_of_nonneg_right (by omega) (by have := HK.out; omega)
                  have hwm : IntKind.i64.wrap (a * k) = a * k := IntWalk.i64_in _ (by have := HK.out; omega)
                  have hwn : IntKind.i64.wrap (-a) = -a := IntWalk.i64_in _ (by omega)
                  have HBG : Hid (-15637498706147 ≤ a ∧ a ≤ 15637498706147) := Lib.hid ⟨by omega, by omega⟩
                  clear hbig hsm hm1 hm2 hab
                  go_upto_region 20 with (at_builtin; refine Kd.R_append (Kd.int .i64) (w0 := w9) w9.heap.size rfl _ _ 23 3 (.int .i64 0) 8 rfl Try.underlying23 info3 rfl (by decide) (by decide) u14 ((xs.take i).map (· * k)) (a * k) [.int .i64 (a * k)] (fun _ => True) (fun _ => False) rfl rfl rfl (fun _ hk => hk.elim) (fun _ _ => trivial) HTW.out.a HB.out HB.out.size (by have := HL1.out; omega) ?_; intro v7 w7 hR7 hb7 hg7 hat7)
                  have HTW7 := Lib.hid (Two.left rfl HTW.out hR7 hg7 hat7)
                  have HB7 := Lib.hid hb7
                  obtain ⟨ad7, e7, q7⟩ := Kd.at_int (Kd.C_below H2.out (below_t HBX.out hb7)) (i : Int) (by omega) hix
                  clear hR7 hb7 hg7 hat7
                  rw [rdI HIA.out, Int.toNat_natCast] at q7
                  cases e7
                  go_wp2_with (at_builtin; refine Kd.R_append (Kd.int .i64) (w0 := w9) w9.heap.size rfl _ _ 23 3 (.int .i64 0) 8 rfl Try.underlying23 info3 rfl (by decide) (by decide) u15 ((xs.take i).map (- ·)) (-a) [.int .i64 (-a)] (fun _ => True) (fun _ => False) rfl rfl rfl (fun _ hk => hk.elim) (fun _ _ => trivial) HTW7.out.b HB7.out HB7.out.size (by have := HL1.out; omega) ?_; intro v8 w8 hR8 hb8 hg8 hat8)
                  have HTW8 := Lib.hid (Two.right rfl HTW7.out hR8 hg8 hat8)
                  have HB8 := Lib.hid hb8
                  clear hR8 hb8 hg8 hat8
                  go_wp2_with fail
                  go_roundg (N - (i + 1))
                  case measure => have := HI.out; have := HLT.out; omega
                  case rel => exact ⟨i + 1, by go_num, Lib.hid (by have := HI.out; have := HLT.out; omega), Lib.hid (by rw [HT1.out, HT2.out]; exact HTW8.out), Lib.hid (fun j hj => by
                    by_cases e : j = i
                    · subst e; rw [HGA.out]; exact HBG.out
                    · exact HXA.out j (by omega)), HB8⟩
            · have him : i = xs.length := by have := HI.out; have := HXL.out; omega
              have hnl : ¬ (i : Int) < N := by have := HXL.out; omega
              have HXC : Hid (∀ v ∈ xs, -15637498706147 ≤ v ∧ v ≤ 15637498706147) := Lib.hid (fun v hv => by
                obtain ⟨j, hj⟩ := List.getElem?_of_mem hv
                have := HXA.out j (by have := (List.getElem?_eq_some_iff.1 hj).1; omega)
                rwa [List.getD_eq_getElem?_getD, hj] at this)
              have HTX : Hid (Two (Kd.int .i64) 3 w9 wv2 u14 u15 (xs.map (· * k)) (xs.map (- ·))) := Lib.hid (by have := HTW.out; rw [him, List.take_length] at this; exact this)
              clear hlt him HTW HI HXA
              obtain ⟨ca, eu10, hca, h10, h10C⟩ := Kd.R_reads HTL.out.a
              obtain ⟨cb, eu11, hcb, h11, h11C⟩ := Kd.R_reads HTL.out.b
              obtain ⟨cc, eu14, hcc, h14, h14C⟩ := Kd.R_reads HTX.out.a
              obtain ⟨cd, eu15, hcd, h15, h15C⟩ := Kd.R_reads HTX.out.b
              subst hca hcb hcc hcd
              have hbv := below_t HBX.out HB.out
              have HSV := Lib.hid (solve_two wv2 N A1 c1 l (Kd.C_below H1.out hbv) hc1 A2 c2 xs (Kd.C_below H2.out hbv) hc2)
              have HC := Lib.hid (And.intro h10C (And.intro h11C (And.intro h14C h15C)))
              have HLN := Lib.hid (And.intro h10 (And.intro h11 (And.intro h14 h15)))
              have HBV := Lib.hid hbv
              clear h10 h11 h14 h15 h10C h11C h14C h15C HTL HTX hbv
              go_wp2_with fail
              refine HSV.out.mono ?_
              rintro e w10 hpost
              obtain ⟨fA, flen, fc, fcst, fer, rfl, hf1, hb10⟩ := SolveTwo.uni HE0.out hpost
              have HF1 := Lib.hid hf1
              have hba := below_alloc (Below.refl w10.heap.size w10) (.cells #[.slice fA flen fc, .int .i64 fcst] 29 (0, 0))
              have HTF := Lib.hid (fun ga x (h : TI w10 ga l.length x) => TV.alloc h (.cells #[.slice fA flen fc, .int .i64 fcst] 29 (0, 0)))
              have HKF := Lib.hid (Blk.new w10 #[.slice fA flen fc, .int .i64 fcst] 29)
              have hb11 := below_al hb10 (.cells #[.slice fA flen fc, .int .i64 fcst] 29 (0, 0))
              clear hf1 hpost hb10 HSV hba
              go_upto_region 22 with (fail)
              generalize w10.alloc (.cells #[.slice fA flen fc, .int .i64 fcst] 29 (0, 0)) = w11 at *
              generalize w10.heap.size = fb at *
              have HB11 := Lib.hid hb11
              have hs2 := (solve_scaled w11 N l xs k HE0.out (by have := HK.out; omega) HK.out.2 HCL.out HXC.out ca eu10 (Kd.C_below HC.out.1 (below_t HB.out hb11)) HLN.out.1 cc eu14 (Kd.C_below HC.out.2.2.1 hb11) HLN.out.2.2.1)
              simp only [List.length_map] at hs2
              have HS2 := Lib.hid hs2
              clear hb11 hs2
              go_wp2_with fail
              refine HS2.out.mono ?_
              rintro e w12 ⟨sA, slen, sc, scst, ser, ⟨rfl, hs1⟩, hb12⟩
              have HS1 := Lib.hid hs1
              have HKS := Lib.hid (Blk.new w12 #[.slice sA slen sc, .int .i64 scst] 29)
              have hb13 := below_al hb12 (.cells #[.slice sA slen sc, .int .i64 scst] 29 (0, 0))
              clear hs1 hb12 HS2
              go_upto_region 23 with (fail)
              generalize w12.alloc (.cells #[.slice sA slen sc, .int .i64 scst] 29 (0, 0)) = w13 at *
              generalize w12.heap.size = sb at *
              have HB13 := Lib.hid hb13
              have hbw := below_t HB11.out hb13
              have hs3 := (solve_turned w13 N l xs HE0.out cb eu11 (Kd.C_below HC.out.2.1 (below_t HB.out hbw)) HLN.out.2.1 cd eu15 (Kd.C_below HC.out.2.2.2 hbw) HLN.out.2.2.2)
              simp only [List.length_map] at hs3
              have HS3 := Lib.hid hs3
              clear hb13 hbw hs3
              go_wp2_with fail
              refine HS3.out.mono ?_
              rintro e w14 ⟨tA, tlen, tc, tcst, ter, ⟨rfl, ht1⟩, hb14⟩
              have hkt := Blk.new w14 #[.slice tA tlen tc, .int .i64 tcst] 29
              have hb15 := below_al hb14 (.cells #[.slice tA tlen tc, .int .i64 tcst] 29 (0, 0))
              have hend := scales_end HOK.out HCL.out HK.out HF1.out HS1.out ht1 (fun ga x h => TV.below (HTF.out ga x h) (below_t HB13.out hb15)) (fun ga x h => TV.alloc h (.cells #[.slice tA tlen tc, .int .i64 tcst] 29 (0, 0)))
              obtain ⟨rfl, rfl, rfl, rfl, hwk, hcl⟩ := hend
              clear ht1 hb14 HS3 HF1 HS1 HTF
              go_upto_region 24 with (fail)
              generalize w14.alloc (.cells #[.slice tA tlen tc, .int .i64 fcst] 29 (0, 0)) = w15 at *
              generalize w14.heap.size = tb at *
              have HB15 := Lib.hid (below_t HBV.out (below_t HB11.out (below_t HB13.out hb15)))
              have hks := HKS.out.fr (Fr.of_below hb15 (fun _ => False)) (fun a => a)
              have hkf := HKF.out.fr (Fr.of_below (below_t HB13.out hb15) (fun _ => False)) (fun a => a)
              have f0 := Blk.cell hkf 0 (v := .slice fA flen fc) rfl
              have f1 := Blk.cell hkf 1 (v := .int .i64 fcst) rfl
              have s0 := Blk.cell hks 0 (v := .slice sA slen sc) rfl
              have s1 := Blk.cell hks 1 (v := .int .i64 (fcst * k)) rfl
              have t0 := Blk.cell hkt 0 (v := .slice tA tlen tc) rfl
              have t1 := Blk.cell hkt 1 (v := .int .i64 fcst) rfl
              have HSM := Lib.hid (hcl w15 (Below.refl _ _))
              clear hks hkf hkt hcl hb15
              go_wp2_with fail
              refine HSM.out.mono ?_
              rintro e w16 ⟨rfl, hb16⟩
              have HAL := Lib.hid (alive_any w16)
              have HB16 := Lib.hid (below_t HB15.out hb16)
              clear hb16 HSM
              go_wp2_with fail
              refine HAL.out.mono ?_
              rintro e w17 ⟨rfl, hb17⟩
              have HB17 := Lib.hid (below_t HB16.out hb17)
              clear hb17
              go_wp2_with fail
              go_ret
              exact ⟨rfl, HB17.out⟩
    · have e1 : (needE n l xs != 0) = true := by simp [h0]
      have HAL := Lib.hid (alive_any w2)
      clear h0
      go_wp2_with fail
      refine HAL.out.mono ?_
      rintro e w3 ⟨rfl, hb3⟩
      have HB3 := Lib.hid (below_t HB2.out hb3)
      clear hb3
      go_wp2_with fail
      go_ret
      exact ⟨rfl, HB3.out⟩
end Go.Proofs.Ytpbndcmmclkdpaa
