/-
  The walk of carry.
  The walk of the closure that greatest hands to round: is a step behind the arc, and tight?
  A queue of numbers in memory: a slice that is shortened at its head and appended to; arrays of steps.
-/
import Derived.Test.YtcobihdjcdefmaaQFQb
import Derived.ArgAppend
namespace Go.Proofs.Ytcobihdjcdefmaa
open PAccountsCompress
open Go.RowKit Go.Proofs.YtcobihdjcdefmaaW.PrintWords
/-- What carry leaves. -/
structure Carried (n m : Nat) (A : Nat → Ar) (need : Nat → Int) (ok : Bool) (x : Nat → Int) : Prop where
  valid : Valid m A x
  feas : ∃ p, Feas m A x p
  all : ok = true → ∀ v : Nat, v < n → need v - balF m A x v ≤ 0
  stuck : ok = false → ∃ R : Int → Bool, (∀ s, Res m A x s → R (frm A s) = true → R (tow A s) = true) ∧ (∀ v : Nat, v < n → 0 < need v - balF m A x v → R v = true) ∧
    (∀ v : Nat, v < n → R v = true → 0 ≤ need v - balF m A x v) ∧ ∃ v : Nat, v < n ∧ 0 < need v - balF m A x v
/-- How carry ends. -/
def CarryPost (ga n m : Nat) (A : Nat → Ar) (need : Nat → Int) (w : World) (e : Ending) (w' : World) : Prop :=
  ∃ b x', e = .returned (.bool b) ∧ TI w' ga m x' ∧ Fr (fun k => k = ga) w w' ∧ Carried n m A need b x'
theorem min_facts {x y D : Int} (h : (if y < x then y else x) = D) : D ≤ x ∧ D ≤ y ∧ (0 < x → 0 < y → 0 < D) := by
  subst h; split <;> omega
/-- A round of carry, by its numbers. -/
theorem carry_next {n m : Nat} {A : Nat → Ar} {x : Nat → Int} {q : Int → Int} {S : Int → Bool} {L : Int → Lb} (hN : NetOk n m A) (hx : Valid m A x) (hq : Feas m A x q) (hq1 : ∀ v : Int, 0 ≤ v → v < n → -(n * 32768) ≤ q v)
    (h : LI n A 32768 (stepsF A x m) S q L) (hr : RestL A (stepsF A x m) L) {b : Int} (b0 : 0 ≤ b) (b1 : b < n) (bf : (L b).f0 ≠ far) (bs : S b = false) :
    ∃ (k f : Nat) (s : Stp) (P : List Stp), (L b).f1 = k ∧ 0 < k ∧ k ≤ 128 ∧ (wayB A L k b).reverse = s :: P ∧ (s :: P).length = k ∧ PathOk m (s :: P) ∧ (∀ t ∈ s :: P, Res m A x t) ∧ frm A s = f ∧ f < n ∧ S f = true ∧
      ∀ d : Int, 0 ≤ d → (∀ t ∈ s :: P, d ≤ spr A x t) → Valid m A (putP d x (s :: P)) ∧ (∃ p, Feas m A (putP d x (s :: P)) p) ∧
        ∀ y, balF m A (putP d x (s :: P)) y = balF m A x y + d * ((if (f : Int) = y then 1 else 0) - (if b = y then 1 else 0)) := by
  obtain ⟨s, P, e, hP, hres, ⟨f0, f1⟩, hS, _, hput⟩ := carry_round hN hx hq hq1 h hr b0 b1 bf bs
  have h1 := h.pos b b0 b1
  have hlen : (wayB A L (L b).f1.toNat b).length = (L b).f1.toNat := wayB_len A L _ _
  have hl2 : (s :: P).length = (L b).f1.toNat := by rw [← e, List.length_reverse, hlen]
  have hk : (s :: P).length ≤ m := by
    have := nodup_len (n := m) hP.dif (fun e he => by
      obtain ⟨t, ht, rfl⟩ := List.mem_map.1 he
      exact hP.rng t ht)
    rwa [List.length_map] at this
  have hm := hN.m1
  refine ⟨(L b).f1.toNat, (frm A s).toNat, s, P, by omega, by rw [← hl2]; simp, by omega, e, hl2, hP, hres, by omega, by omega, by rw [Int.toNat_of_nonneg f0]; exact hS, fun d hd ht => ?_⟩
  obtain ⟨c1, c2, c3⟩ := hput d hd ht
  exact ⟨c1, c2, fun y => by rw [Int.toNat_of_nonneg f0]; exact c3 y⟩
section
variable {g : Nat} {A1 : Option Addr} {c1 : Nat} {ga c2 : Nat} {n m : Nat} {A : Nat → Ar} {x : Nat → Int}
set_option maxRecDepth 100000 in
set_option maxHeartbeats 8000000 in
theorem carry_any (w : World) (hN : NM w g A1 c1 (some ⟨ga, 0, none⟩) c2 (n : Int) m A x) (hT : TI w ga m x) (hg : g ≠ ga) (hA1 : 0 < m → ∀ ad, A1 = some ad → ad.block ≠ ga) (hok : NetOk n m A) (hx : Valid m A x) (hq : ∃ q, Feas m A x q)
    (nd : Addr) (c : Nat) (xs : List Int) (hl : xs.length = n) (hC : Kd.C (Kd.int .i64) w (some nd) xs.length xs) (hb : ∀ v : Nat, v < n → -140737488355328 ≤ xs.getD v 0 ∧ xs.getD v 0 ≤ 140737488355328) :
    Calls Try.prog 78 #[.pointer (some ⟨g, 0, none⟩), .slice (some nd) xs.length c] w (CarryPost ga n m A (fun v => xs.getD v 0) w) := by
  have hu := Try.underlying145
  have hn1 := hok.n1
  have hn2 := hok.n2
  have hm1 := hok.m1
  have H1 := Lib.hid (cloneI_any w nd c xs hC (by omega) (by omega))
  have hxb : ∀ i, i < m → 0 ≤ x i ∧ x i ≤ 1099511627776 := fun i hi => ⟨(hx i hi).1, Int.le_trans (hx i hi).2 (hok.cap i hi).2⟩
  have HN := Lib.hid hN
  have HT := Lib.hid hT
  have HG := Lib.hid hg
  have HA1 := Lib.hid hA1
  have HO := Lib.hid hok
  have HX := Lib.hid hx
  have HQ := Lib.hid hq
  have HL := Lib.hid hl
  have HBD := Lib.hid hb
  have HXB := Lib.hid hxb
  have HS := Lib.hid (And.intro hn1 (And.intro hn2 hm1))
  clear hN hT hg hA1 hok hx hq hl hC hb hxb hn1 hn2 hm1
  go_enter Try.func78, Try.ntmps78
  go_wp2_with fail
  refine H1.out.mono ?_
  rintro e w1 ⟨⟨b, cb, rfl, hb0, ht1⟩, hb1⟩
  have H2 := Lib.hid (balance_net w1 (HN.out.below hb1) HO.out.net (by have := HS.out; omega) (by have := HS.out; omega) HXB.out)
  have HB1 := Lib.hid hb1
  have HT1 := Lib.hid ht1
  have HB0 := Lib.hid hb0
  clear H1 hb0 ht1 hb1
  go_wp2_with fail
  refine H2.out.mono ?_
  rintro e w2 ⟨⟨rfl, ht2⟩, hb2⟩
  have hbl : b < w1.heap.size := TV.lt HT1.out
  have HT2 := Lib.hid ht2
  have HL2 : Hid (TI w2 b n (fun v => xs.getD v 0)) := Lib.hid (by have := TV.below HT1.out hb2; rw [HL.out] at this; exact this)
  have HB2 := Lib.hid (below_u HB1.out hb2)
  have HBL := Lib.hid hbl
  rw [HL.out]
  clear H2 ht2 hb2 hbl HT1
  go_wp2_with fail
  go_loopg [6, 7, 26] n (fun k v6 v7 v26 wr => ∃ i : Nat, v26 = .int .i64 i ∧ Hid (i + k = n) ∧ Hid (TI wr b n (fun v => if v < i then xs.getD v 0 - balF m A x v else xs.getD v 0)) ∧ Hid (Fr (fun k => k = b) w2 wr))
  case atStart => exact ⟨0, rfl, Lib.hid (by omega), Lib.hid (HL2.out.congr fun i _ => by simp), Lib.hid (Fr.refl _ _)⟩
  case round =>
    clear HL2
    obtain ⟨i, rfl, HI, HTI, HF⟩ := hrel
    obtain ⟨wv, rfl⟩ : ∃ wv : World, wv = wr := ⟨_, rfl⟩
    by_cases hlt : i < n
    · have hi0 : (i : Int) < n := by omega
      have q0 := TV.cell (HT2.out.fr HF.out (by have := HBL.out; omega)) hlt
      have q1 := TV.cell HTI.out hlt
      have q2 := TV.free HTI.out i
      simp only [Nat.lt_irrefl, if_false] at q1
      simp only at q0
      have hbb := HBD.out i hlt
      have hba := balF_abs (A := A) HXB.out i m (Nat.le_refl _)
      have hss := HS.out
      have hw : IntKind.i64.wrap ((i : Int) + 1) = i + 1 := IntWalk.i64_in _ (by omega)
      have hw2 : IntKind.i64.wrap (xs.getD i 0 - balF m A x i) = xs.getD i 0 - balF m A x i := IntWalk.i64_in _ (by omega)
      have HT6 := Lib.hid ((TI.set HTI.out i (xs.getD i 0 - balF m A x i)).congr (f' := fun v => .int .i64 (if v < i + 1 then xs.getD v 0 - balF m A x v else xs.getD v 0)) fun v hv => by
        simp only [setN]
        by_cases e : v = i
        · subst e; rw [if_pos rfl, if_pos (by omega)]
        · rw [if_neg e]
          by_cases h : v < i
          · rw [if_pos h, if_pos (by omega)]
          · rw [if_neg h, if_neg (by omega)])
      have HF6 := Lib.hid (HF.out.setCell (p := ⟨b, i, none⟩) (.inl rfl) (.int .i64 (xs.getD i 0 - balF m A x i)))
      have HLT := Lib.hid hlt
      clear hbb hba hss hlt
      generalize xs.getD i 0 = xi at *
      generalize balF m A x i = bi at *
      go_wp2_with fail
      go_roundg (n - (i + 1))
      case measure => have := HI.out; have := HLT.out; omega
      case rel => exact ⟨i + 1, by go_num, Lib.hid (by have := HI.out; have := HLT.out; omega), HT6, HF6⟩
    · have hin : i = n := by have := HI.out; omega
      have HLF : Hid (TI wv b n (fun v => xs.getD v 0 - balF m A x v)) := Lib.hid (HTI.out.congr fun v hv => by simp only; rw [if_pos (by omega)])
      have hbl := HBL.out
      have hga : ga < w.heap.size := TV.lt HT.out
      have hgl : g < w.heap.size := Blk.lt HN.out.blk
      have hwb := HB0.out
      have HGA : Hid (TI wv ga m x) := Lib.hid ((TV.below HT.out HB2.out).fr HF.out (by omega))
      have HORD := Lib.hid (show ga < w.heap.size ∧ g < w.heap.size ∧ w.heap.size ≤ b ∧ b < w1.heap.size from ⟨hga, hgl, hwb, hbl⟩)
      have HF0 : Hid (Fr (fun k => k = b ∨ k = ga) w2 wv) := Lib.hid (HF.out.mono fun k hk => .inl (.inl hk))
      clear hbl hga hgl hwb HTI HI HF
      have hnlt : ¬ i < n := by omega
      clear hin
      go_wp2_with fail
      go_loopg [8] ((posSum n (fun v => xs.getD v 0 - balF m A x v)).toNat + 1) (fun k v8 wr => ∃ x' : Nat → Int, Hid ((posSum n (fun v => xs.getD v 0 - balF m A x' v)).toNat + 1 = k) ∧ Hid (Valid m A x') ∧ Hid (∃ q, Feas m A x' q) ∧ Hid (TI wr b n (fun v => xs.getD v 0 - balF m A x' v)) ∧ Hid (TI wr ga m x') ∧ Hid (Fr (fun k => k = b ∨ k = ga) w2 wr))
      case atStart => exact ⟨x, Lib.hid rfl, HX, HQ, HLF, HGA, HF0⟩
      case round =>
        clear HLF HGA HF0
        obtain ⟨x', HK, HV, HQ2, HLF, HGA, HFR⟩ := hrel
        obtain ⟨wv, rfl⟩ : ∃ wv : World, wv = wr := ⟨_, rfl⟩
        have HFW : Hid (Fr (fun k => k = ga) w wv) := Lib.hid (Fr.trans (Fr.of_below HB2.out (fun k => k = ga)) HFR.out (fun z hz => by have := HORD.out; rcases hz with h | h; exact .inr (by omega); exact .inl h))
        have HNR : Hid (NM wv g A1 c1 (some ⟨ga, 0, none⟩) c2 (n : Int) m A x') := Lib.hid (HN.out.owned HFW.out HG.out HA1.out HGA.out)
        have p0 := Blk.cell HNR.out.blk 0 rfl
        have hmk := make_bool wv (n := n) (by have := HS.out; omega)
        have hal := below_alloc (Below.refl wv.heap.size wv) (.cells (madeCells #[.bool false] n) 4 (0, 0))
        have HTB : Hid (TB (wv.alloc (.cells (madeCells #[.bool false] n) 4 (0, 0))) wv.heap.size n (fun _ => false)) := Lib.hid (TV.made wv (.bool false) 4 n)
        have HAL := Lib.hid hal
        clear hal
        go_upto_region 8 with (fail)
        generalize wv.alloc (.cells (madeCells #[.bool false] n) 4 (0, 0)) = wa at *
        clear p0 hmk
        have HLA : Hid (TI wa b n (fun v => xs.getD v 0 - balF m A x' v)) := Lib.hid (TV.below HLF.out HAL.out)
        have hbv : b < wv.heap.size := TV.lt HLF.out
        have HBV := Lib.hid hbv
        generalize hlf : (fun v : Nat => xs.getD v 0 - balF m A x' v) = lf at *
        have HLFE := Lib.hid hlf
        clear hlf hbv
        go_wp2_with fail
        go_loopg [9, 10, 11, 46] n (fun k v9 v10 v11 v46 wr => ∃ i : Nat, v46 = .int .i64 i ∧ v9 = .bool ((List.range i).any (fun j => decide (0 < lf j))) ∧ Hid (i + k = n) ∧ Hid (TB wr wv.heap.size n (fun v => decide (v < i) && decide (0 < lf v))) ∧ Hid (Fr (fun k => k = wv.heap.size) wa wr))
        case atStart => exact ⟨0, rfl, rfl, Lib.hid (by omega), Lib.hid (HTB.out.congr fun i _ => by simp), Lib.hid (Fr.refl _ _)⟩
        case round =>
          clear HTB HLF
          obtain ⟨i, rfl, rfl, HI, HTB, HF3⟩ := hrel
          obtain ⟨wx, rfl⟩ : ∃ wx : World, wx = wr := ⟨_, rfl⟩
          by_cases hlt : i < n
          · have hi0 : (i : Int) < n := by omega
            have q0 := TV.cell (HLA.out.fr HF3.out (by have := HBV.out; omega)) hlt
            have q1 := TV.cell HTB.out hlt
            have q2 := TV.free HTB.out i
            have hw : IntKind.i64.wrap ((i : Int) + 1) = i + 1 := IntWalk.i64_in _ (by have := HS.out; omega)
            have HT6 := Lib.hid ((TB.set HTB.out i (decide (0 < lf i))).congr (f' := fun v => .bool (decide (v < i + 1) && decide (0 < lf v))) fun v hv => by
              by_cases e : v = i
              · subst e; simp
              · simp only [if_neg e]
                congr 2
                simp only [decide_eq_decide]
                omega)
            have HF6 := Lib.hid (HF3.out.setCell (p := ⟨wv.heap.size, i, none⟩) (.inl rfl) (.bool (decide (0 < lf i))))
            have HAN : Hid ((List.range (i + 1)).any (fun j => decide (0 < lf j)) = ((List.range i).any (fun j => decide (0 < lf j)) || decide (0 < lf i))) := Lib.hid (by rw [List.range_succ, List.any_append]; simp)
            have HLT := Lib.hid hlt
            clear hlt
            generalize (List.range i).any (fun j => decide (0 < lf j)) = so at *
            generalize hz : decide (0 < lf i) = z at *
            cases so <;>
            · go_wp2_with fail
              go_roundg (n - (i + 1))
              case measure => have := HI.out; have := HLT.out; omega
              case rel => exact ⟨i + 1, by go_num, by rw [HAN.out]; rfl, Lib.hid (by have := HI.out; have := HLT.out; omega), HT6, HF6⟩
          · have hin : i = n := by have := HI.out; omega
            subst hin
            have hnl : ¬ i < i := by omega
            have HSO := Lib.hid (show (List.range i).any (fun j => decide (0 < lf j)) = (List.range i).any (fun j => decide (0 < lf j)) from rfl)
            generalize hso : (List.range i).any (fun j => decide (0 < lf j)) = so at *
            have HSE := Lib.hid hso
            clear hso HSO hlt HI
            cases so with
            | false =>
              go_wp2_with fail
              go_ret
              refine ⟨true, x', rfl, (TV.below HGA.out HAL.out).fr HF3.out (by have := TV.lt HGA.out; omega), (HFW.out.below HAL.out).trans HF3.out (fun z hz => .inr (by have := HFW.out.size; omega)), HV.out, HQ2.out, fun _ v hv => ?_, fun h => absurd h (by simp)⟩
              have h1 := HSE.out
              rw [List.any_eq_false] at h1
              have h2 := h1 v (List.mem_range.2 hv)
              rw [decide_eq_true_eq] at h2
              have h3 := congrFun HLFE.out v
              omega
            | true =>
              obtain ⟨d, hd1, hd2, hd3⟩ := HO.out.pot HQ2.out
              have hBV := HBV.out
              have HFX : Hid (Fr (fun k => k = ga) w wx) := Lib.hid ((HFW.out.below HAL.out).trans HF3.out (fun z hz => .inr (by have := HFW.out.size; omega)))
              have HLX : Hid (TI wx b i lf) := Lib.hid (HLA.out.fr HF3.out (by omega))
              have HGX : Hid (TI wx ga m x') := Lib.hid ((TV.below HGA.out HAL.out).fr HF3.out (by have := TV.lt HGA.out; omega))
              have HNX : Hid (NM wx g A1 c1 (some ⟨ga, 0, none⟩) c2 (i : Int) m A x') := Lib.hid (HN.out.owned HFX.out HG.out HA1.out HGX.out)
              obtain ⟨S, hSS⟩ : ∃ S : Int → Bool, ∀ u, S u = decide (0 < lf u.toNat) := ⟨_, fun _ => rfl⟩
              have HSX : Hid (TB wx wv.heap.size i (fun v => S v)) := Lib.hid (HTB.out.congr fun v hv => by simp [hv, hSS])
              have HFB : Hid (Fr (fun k => k = b ∨ k = ga) w2 wx) := Lib.hid ((HFR.out.below HAL.out).trans HF3.out (fun z hz => .inr (by have := HFR.out.size; omega)))
              have HBX : Hid (b < wx.heap.size ∧ ga < wx.heap.size) := Lib.hid ⟨TV.lt HLX.out, TV.lt HGX.out⟩
              have HPOT := Lib.hid hd3
              have HFE := Lib.hid hd1
              have H5 := Lib.hid (cheapest_any wx HNX.out HO.out HV.out hd1 hd2 hd3 wv.heap.size i HSX.out)
              clear hd1 hd2 hd3 HFW HNR HAL HF3 HLA HTB HGA HFR HSX hBV HBV
              clear hnl
              have HSS := Lib.hid hSS
              clear hSS
              go_wp2_with fail
              refine H5.out.mono ?_
              rintro e w5 ⟨⟨bl, rfl, hbl, L, hL, hLI, hR⟩, hb5⟩
              have HB5 := Lib.hid hb5
              have HL5 := Lib.hid hL
              have HLI := Lib.hid hLI
              have HR := Lib.hid hR
              have HBL5 := Lib.hid hbl
              have HLF5 : Hid (TI w5 b i lf) := Lib.hid (TV.below HLX.out hb5)
              clear H5 hbl hL hLI hR hb5
              have HIN : Hid (∀ u : Nat, u < i → L u = L u) := Lib.hid (fun _ _ => rfl)
              go_wp2_with fail
              go_loopg [13, 14, 15, 69] i (fun k v13 v14 v15 v69 wr => ∃ (j : Nat) (bst : Int), v69 = .int .i64 j ∧ v13 = .int .i64 bst ∧ Hid (j + k = i) ∧ Hid (bst = -1 ∨ ∃ u : Nat, bst = u ∧ u < i ∧ lf u < 0 ∧ (L u).f0 < far) ∧ Hid (bst = -1 → ∀ v : Nat, v < j → lf v < 0 → ¬ (L v).f0 < far) ∧ Hid (Fr (fun _ => False) w5 wr))
              case atStart => exact ⟨0, -1, rfl, rfl, Lib.hid (by omega), Lib.hid (.inl rfl), Lib.hid (fun _ v hv => by omega), Lib.hid (Fr.refl _ _)⟩
              case round =>
                obtain ⟨j, bst, rfl, rfl, HJ, HBS, HNO, HFQ⟩ := hrel
                obtain ⟨wy, rfl⟩ : ∃ wy : World, wy = wr := ⟨_, rfl⟩
                by_cases hlt : j < i
                · have hj0 : (j : Int) < i := by omega
                  have q0 := TV.cell (HLF5.out.fr HFQ.out (by simp)) hlt
                  have HTL := Lib.hid (HL5.out.fr HFQ.out (by simp))
                  obtain ⟨k0, k1, k2, k3⟩ := TL.cells HTL.out hlt
                  have hw : IntKind.i64.wrap ((j : Int) + 1) = j + 1 := IntWalk.i64_in _ (by have := HS.out; omega)
                  have HLT := Lib.hid hlt
                  have HD : Hid (∀ nq, Fr (fun _ => False) w5 (wy.drewN nq)) := Lib.hid (fun nq => HFQ.out.drewN nq)
                  clear hlt k1 k2 k3
                  by_cases ha : lf j < 0
                  · have e1 : decide (lf j < 0) = true := decide_eq_true ha
                    by_cases hb : (L j).f0 < 1152921504606846976
                    · have e2 : decide ((L j).f0 < 1152921504606846976) = true := decide_eq_true hb
                      have HAB : Hid (lf j < 0 ∧ (L j).f0 < far) := Lib.hid ⟨ha, hb⟩
                      clear ha hb
                      by_cases hc : bst = -1
                      · subst hc
                        go_upto_region 20 with (fail)
                        go_quiet (fail)
                        go_wp2_with fail
                        go_roundg (i - (j + 1))
                        case measure => have := HJ.out; have := HLT.out; omega
                        case rel => exact ⟨j + 1, j, by go_num, rfl, Lib.hid (by have := HJ.out; have := HLT.out; omega), Lib.hid (.inr ⟨j, rfl, HLT.out, HAB.out.1, HAB.out.2⟩), Lib.hid (fun h => by omega), Lib.hid (HD.out _)⟩
                      · obtain ⟨u, rfl, hu, -⟩ : ∃ u : Nat, bst = u ∧ u < i ∧ lf u < 0 ∧ (L u).f0 < far := by
                          rcases HBS.out with h | h
                          · exact absurd h hc
                          · exact h
                        obtain ⟨l0, l1, l2, l3⟩ := TL.cells HTL.out hu
                        have hu0 : (u : Int) < i := by omega
                        have e3 : decide ((u : Int) < 0) = false := decide_eq_false (by omega)
                        have HU := Lib.hid hu
                        clear l1 l2 l3 hc hu
                        by_cases hd : (L j).f0 < (L u).f0
                        · have e4 : decide ((L j).f0 < (L u).f0) = true := decide_eq_true hd
                          clear hd
                          go_upto_region 20 with (fail)
                          go_quiet (fail)
                          go_wp2_with fail
                          go_roundg (i - (j + 1))
                          case measure => have := HJ.out; have := HLT.out; omega
                          case rel => exact ⟨j + 1, j, by go_num, rfl, Lib.hid (by have := HJ.out; have := HLT.out; omega), Lib.hid (.inr ⟨j, rfl, HLT.out, HAB.out.1, HAB.out.2⟩), Lib.hid (fun h => by omega), Lib.hid (HD.out _)⟩
                        · have e4 : decide ((L j).f0 < (L u).f0) = false := decide_eq_false hd
                          clear hd
                          go_upto_region 20 with (fail)
                          go_quiet (fail)
                          go_wp2_with fail
                          go_roundg (i - (j + 1))
                          case measure => have := HJ.out; have := HLT.out; omega
                          case rel => exact ⟨j + 1, u, by go_num, rfl, Lib.hid (by have := HJ.out; have := HLT.out; omega), HBS, Lib.hid (fun h => by omega), Lib.hid (HD.out _)⟩
                    · have e2 : decide ((L j).f0 < 1152921504606846976) = false := decide_eq_false hb
                      have HB : Hid (¬ (L j).f0 < far) := Lib.hid hb
                      clear ha hb
                      go_upto_region 20 with (fail)
                      go_quiet (fail)
                      go_wp2_with fail
                      go_roundg (i - (j + 1))
                      case measure => have := HJ.out; have := HLT.out; omega
                      case rel => exact ⟨j + 1, bst, by go_num, rfl, Lib.hid (by have := HJ.out; have := HLT.out; omega), HBS, Lib.hid (fun h v hv hl => by
                        by_cases e : v = j
                        · subst e; exact HB.out
                        · exact HNO.out h v (by omega) hl), Lib.hid (HD.out _)⟩
                  · have e1 : decide (lf j < 0) = false := decide_eq_false ha
                    have HA : Hid (¬ lf j < 0) := Lib.hid ha
                    clear ha k0
                    go_upto_region 20 with (fail)
                    go_quiet (fail)
                    go_wp2_with fail
                    go_roundg (i - (j + 1))
                    case measure => have := HJ.out; have := HLT.out; omega
                    case rel => exact ⟨j + 1, bst, by go_num, rfl, Lib.hid (by have := HJ.out; have := HLT.out; omega), HBS, Lib.hid (fun h v hv hl => by
                      by_cases e : v = j
                      · subst e; have := HA.out; omega
                      · exact HNO.out h v (by omega) hl), Lib.hid (HD.out _)⟩
                · have hji : j = i := by have := HJ.out; omega
                  subst hji
                  have hnl : ¬ j < j := by omega
                  have HFY : Hid (Fr (fun k => k = ga) w wy) := Lib.hid ((HFX.out.below HB5.out).trans HFQ.out (fun _ h => h.elim))
                  have HGY : Hid (TI wy ga m x') := Lib.hid ((TV.below HGX.out HB5.out).fr HFQ.out (by simp))
                  by_cases hc : bst = -1
                  · subst hc
                    go_wp2_with fail
                    go_ret
                    refine ⟨false, x', rfl, HGY.out, HFY.out, HV.out, HQ2.out, fun h => absurd h (by simp), fun _ => ⟨fun v => decide ((L v).f0 ≠ Go.Proofs.Ytcobihdjcdefmaa.far), fun s hs hf => ?_, fun v hv hp => ?_, fun v hv hp => ?_, ?_⟩⟩
                    · rw [decide_eq_true_eq] at hf ⊢
                      exact HR.out.set HLI.out (HO.out.steps x') (by omega) HO.out.far HPOT.out (mem_stepsF.2 hs) hf
                    · refine decide_eq_true (HLI.out.set v (by omega) (by omega) ?_)
                      rw [HSS.out v]
                      have h3 := congrFun HLFE.out v
                      simp only [List.getD_eq_getElem?_getD] at h3 hp
                      exact decide_eq_true (by rw [Int.toNat_natCast]; omega)
                    · rw [decide_eq_true_eq] at hp
                      have h3 := congrFun HLFE.out v
                      have h4 := HLI.out.bound (by omega) HPOT.out (v := v) (by omega) (by omega) hp
                      have h5 := HNO.out (by trivial) v hv
                      simp only [List.getD_eq_getElem?_getD] at h3 ⊢
                      have h6 := HO.out.far
                      apply Int.not_lt.1
                      intro hneg
                      have h7 := h5 (by omega)
                      have : (j : Int) * 32768 = j * 32768 := rfl
                      omega
                    · have h1 := HSE.out
                      rw [List.any_eq_true] at h1
                      obtain ⟨v, hv, h2⟩ := h1
                      rw [decide_eq_true_eq] at h2
                      have h3 := congrFun HLFE.out v
                      simp only [List.getD_eq_getElem?_getD] at h3 ⊢
                      exact ⟨v, List.mem_range.1 hv, by omega⟩
                  · obtain ⟨u, rfl, hu, hul, huf⟩ : ∃ u : Nat, bst = u ∧ u < j ∧ lf u < 0 ∧ (L u).f0 < Go.Proofs.Ytcobihdjcdefmaa.far := by
                      rcases HBS.out with h | h
                      · exact absurd h hc
                      · exact h
                    have hSu : S u = false := by rw [HSS.out]; exact decide_eq_false (by rw [Int.toNat_natCast]; omega)
                    obtain ⟨k, f, s, P, hk, hk0, hk1, hw, hwl, hP, hres, hf, hfn, hSf, hput⟩ := carry_next HO.out HV.out HFE.out HPOT.out HLI.out HR.out (b := u) (by omega) (by omega) (by omega) hSu
                    have hlf : 0 < lf f := by rw [HSS.out, decide_eq_true_eq, Int.toNat_natCast] at hSf; exact hSf
                    have HNY : Hid (NM wy g A1 c1 (some ⟨ga, 0, none⟩) c2 (j : Int) m A x') := Lib.hid (HN.out.owned HFY.out HG.out HA1.out HGY.out)
                    have HLY : Hid (TL wy bl j L) := Lib.hid (HL5.out.fr HFQ.out (by simp))
                    have HLFY : Hid (TI wy b j lf) := Lib.hid (HLF5.out.fr HFQ.out (by simp))
                    have HFBY : Hid (Fr (fun k => k = b ∨ k = ga) w2 wy) := Lib.hid ((HFB.out.below HB5.out).trans HFQ.out (fun _ h => h.elim))
                    have HWAY := Lib.hid (way_any wy HNY.out HO.out bl j HLY.out HLI.out HR.out (v := u) (by omega) (by omega) (by omega) k hk hk0 (by omega))
                    rw [hw] at HWAY
                    have HLFB : Hid (∀ v : Nat, v < j → -563499709235200 ≤ lf v ∧ lf v ≤ 563499709235200) := Lib.hid (fun v hv => by
                      have h3 := congrFun HLFE.out v
                      have h4 := HBD.out v hv
                      have h5 := balF_abs (A := A) (fun i hi => ⟨(HV.out i hi).1, Int.le_trans (HV.out i hi).2 (HO.out.cap i hi).2⟩) v m (Nat.le_refl _)
                      have h6 := HO.out.m1
                      simp only [List.getD_eq_getElem?_getD] at h3 h4
                      omega)
                    have HUF : Hid (u < j ∧ lf u < 0 ∧ 0 < lf f ∧ f < j ∧ 0 < k ∧ k ≤ 128 ∧ (s :: P).length = k) := Lib.hid ⟨hu, hul, hlf, hfn, hk0, hk1, hwl⟩
                    have HP := Lib.hid hP
                    have HRES := Lib.hid hres
                    have HFRM := Lib.hid hf
                    have HPUT := Lib.hid hput
                    have hneg : decide ((u : Int) < 0) = false := decide_eq_false (by omega)
                    clear hSu hk hk0 hk1 hw hwl hP hres hf hfn hSf hput hlf hu hul huf hc HN HT HX HQ HB0 HBS HNO HIN HL5 HLF5 HFQ HFB HNX HLX HGX HFX HLY HSS HLI HR HFE HPOT
                    go_wp2_with fail
                    refine HWAY.out.mono ?_
                    rintro e w6 ⟨⟨bp, cp, rfl, hbp, hTS⟩, hb6⟩
                    have hk0 : 0 < k := HUF.out.2.2.2.2.1
                    obtain ⟨t0, t1⟩ := TS.cells hTS hk0
                    have e0 : (s :: P).getD 0 z145 = s := rfl
                    rw [e0, Nat.zero_mul] at t0 t1
                    have hsr := HP.out.rng s (List.mem_cons_self ..)
                    have HFM := Lib.hid (from_any w6 (HNY.out.below hb6) s hsr.1 hsr.2)
                    rw [HFRM.out] at HFM
                    have HB6 := Lib.hid hb6
                    have HTS := Lib.hid hTS
                    have HBP := Lib.hid hbp
                    clear HWAY hTS hb6 hbp e0 hsr
                    go_wp2_with fail
                    refine HFM.out.mono ?_
                    rintro e w7 ⟨rfl, hb7⟩
                    have hb67 := below_u HB6.out hb7
                    have hB7 := TV.below HLFY.out hb67
                    have q0 := TV.cell hB7 HUF.out.2.2.2.1
                    have q1 := TV.cell hB7 HUF.out.1
                    have HT7 : Hid (TS w7 bp k (fun i => (s :: P).getD i z145)) := Lib.hid (TS.below HTS.out hb7)
                    have HB7 := Lib.hid hb67
                    have fi0 : (f : Int) < j := by have := HUF.out.2.2.2.1; omega
                    have ui0 : (u : Int) < j := by have := HUF.out.1; omega
                    have hbu := HLFB.out u HUF.out.1
                    have hwn : IntKind.i64.wrap (-lf u) = -lf u := IntWalk.i64_in _ (by omega)
                    obtain ⟨D, hD⟩ : ∃ D, (if -lf u < lf f then -lf u else lf f) = D := ⟨_, rfl⟩
                    have HDF := Lib.hid (min_facts hD)
                    clear HFM hb7 hb67 hB7 t0 t1 hbu HB6 HTS hk0
                    go_wp2_with fail
                    go_quiet (fail)
                    have HT8 : Hid (TS (w7.drewN nq) bp k (fun i => (s :: P).getD i z145)) := Lib.hid (TS.fr HT7.out ((Fr.refl (fun _ => False) w7).drewN nq) (by simp))
                    have HB8 : Hid (Below wy.heap.size wy (w7.drewN nq)) := Lib.hid (by first | exact pw_below_drewN HB7.out _ | (apply pw_below_drewN; exact HB7.out))
                    generalize w7.drewN nq = w8 at *
                    have HDP : Hid (0 < D) := Lib.hid (HDF.out.2.2 HUF.out.2.2.1 (by have := HUF.out.2.1; omega))
                    clear q0 q1 HT7 HB7 hwn hD
                    go_wp2_with fail
                    go_loopg [18, 20, 126] k (fun kk v18 v20 v126 wr => ∃ (t : Nat) (mn : Int), v126 = .int .i64 t ∧ v18 = .int .i64 mn ∧ Hid (t + kk = k) ∧ Hid (0 < mn ∧ mn ≤ D ∧ ∀ r ∈ (s :: P).take t, mn ≤ spr A x' r) ∧ Hid (Below w8.heap.size w8 wr))
                    case atStart => exact ⟨0, D, rfl, rfl, Lib.hid (by omega), Lib.hid ⟨HDP.out, Int.le_refl _, fun r hr => by simp at hr⟩, Lib.hid (Below.refl _ _)⟩
                    case round =>
                      obtain ⟨t, mn, rfl, rfl, HT, HMN, HBT⟩ := hrel
                      obtain ⟨wz, rfl⟩ : ∃ wz : World, wz = wr := ⟨_, rfl⟩
                      by_cases hlt : t < k
                      · obtain ⟨r, hr⟩ : ∃ r, (s :: P)[t]? = some r := ⟨_, List.getElem?_eq_getElem (by have := HUF.out; omega)⟩
                        have hrm := List.mem_of_getElem? hr
                        have hrs := HP.out.rng r hrm
                        have hsp := (HRES.out r hrm).2
                        obtain ⟨k0, k1⟩ := TS.cells (HT8.out.below HBT.out) hlt
                        have er : (s :: P).getD t z145 = r := by rw [List.getD_eq_getElem?_getD, hr]; rfl
                        rw [er] at k0 k1
                        have ht0 : (t : Int) < k := by omega
                        have hw : IntKind.i64.wrap ((t : Int) + 1) = t + 1 := IntWalk.i64_in _ (by have := HUF.out; omega)
                        have hal := below_alloc (Below.refl wz.heap.size wz) (.cells #[.int .i64 r.f0, .bool r.f1] 145 (0, 0))
                        have HBA := Lib.hid (below_u HBT.out hal)
                        have hA4 := Blk.new wz #[.int .i64 r.f0, .bool r.f1] 145
                        have r0 := Blk.cell hA4 0 (v := .int .i64 r.f0) rfl
                        have r1 := Blk.cell hA4 1 (v := .bool r.f1) rfl
                        have HSP := Lib.hid (spare_any (wz.alloc (.cells #[.int .i64 r.f0, .bool r.f1] 145 (0, 0))) (HNY.out.below (below_u HB8.out HBA.out)) r hrs.1 hrs.2 (HO.out.cap _ (by omega)) (HV.out _ (by omega)))
                        obtain ⟨D2, hD2⟩ : ∃ D2, (if spr A x' r < mn then spr A x' r else mn) = D2 := ⟨_, rfl⟩
                        have HD2 := Lib.hid (min_facts hD2)
                        have HSPP := Lib.hid hsp
                        have HTK : Hid ((s :: P).take (t + 1) = (s :: P).take t ++ [r]) := Lib.hid (by rw [List.take_add_one, hr]; rfl)
                        have HLT := Lib.hid hlt
                        clear hr hrm hrs hsp er hal hA4 hlt
                        go_wp2_with fail
                        refine HSP.out.mono ?_
                        rintro e w9 ⟨rfl, hb9⟩
                        have HB9 := Lib.hid (below_u HBA.out hb9)
                        clear HSP HBA hb9 r0 r1 k0 k1
                        go_wp2_with fail
                        go_roundg (k - (t + 1))
                        case measure => have := HT.out; have := HLT.out; omega
                        case rel => exact ⟨t + 1, D2, by go_num, rfl, Lib.hid (by have := HT.out; have := HLT.out; omega), Lib.hid ⟨HD2.out.2.2 HMN.out.1 HSPP.out, Int.le_trans HD2.out.1 HMN.out.2.1, fun q hq => by
                          rw [HTK.out] at hq
                          rcases List.mem_append.1 hq with h | h
                          · exact Int.le_trans HD2.out.1 (HMN.out.2.2 q h)
                          · rw [List.mem_singleton] at h; subst h; exact HD2.out.2.1⟩, HB9⟩
                      · have htk : t = k := by have := HT.out; omega
                        subst htk
                        have hnl2 : ¬ t < t := by omega
                        have hke : (s :: P).take t = s :: P := List.take_of_length_le (by have := HUF.out; omega)
                        have hmn := HMN.out
                        rw [hke] at hmn
                        have hms := hmn.2.2 s (List.mem_cons_self ..)
                        have hss := HP.out.rng s (List.mem_cons_self ..)
                        have hcc := HO.out.cap s.f0.toNat (by omega)
                        have hvv := HV.out s.f0.toNat (by omega)
                        have hmb : mn ≤ 1099511627776 := by unfold spr at hms; split at hms <;> omega
                        have hbz := below_u HB8.out HBT.out
                        have hbg : bp ≠ ga ∧ bp ≠ b := by
                          have h1 := HBX.out
                          have h2 := HB5.out.size
                          have h3 := HBP.out
                          have h4 := HFY.out.size
                          have h5 := HFBY.out.size
                          have h6 : ga < wy.heap.size := TV.lt HGY.out
                          have h7 : b < wy.heap.size := TV.lt HLFY.out
                          omega
                        have HPU := push_any wz (HNY.out.below hbz) (TV.below HGY.out hbz) HG.out (s :: P) (some ⟨bp, 0, none⟩) cp (fun w' hf => TS_C ((TS.below HT8.out HBT.out).fr hf hbg.1) (s :: P) (HUF.out.2.2.2.2.2.2) (by have := HUF.out; omega) (fun _ _ => rfl)) HP.out mn ⟨by omega, hmb⟩ (fun i hi => ⟨(HV.out i hi).1, Int.le_trans (HV.out i hi).2 (HO.out.cap i hi).2⟩) (by have := HUF.out; omega)
                        rw [HUF.out.2.2.2.2.2.2] at HPU
                        have HPU := Lib.hid HPU
                        obtain ⟨c1, c2, c3⟩ := HPUT.out mn (by omega) hmn.2.2
                        have HC1 := Lib.hid c1
                        have HC2 := Lib.hid c2
                        have HC3 := Lib.hid c3
                        have HMB : Hid (0 < mn ∧ mn ≤ D ∧ mn ≤ 1099511627776) := Lib.hid ⟨hmn.1, hmn.2.1, hmb⟩
                        have HBZ := Lib.hid hbz
                        have HBG := Lib.hid hbg
                        have HLE : Hid (∀ v : Nat, lf v = xs.getD v 0 - balF m A x' v) := Lib.hid (fun v => (congrFun HLFE.out v).symm)
                        clear hke hmn hms hss hcc hvv hmb hbz hbg c1 c2 c3 HMN hlt HT HRES HPUT HBP
                        clear HLFE
                        go_wp2_with fail
                        refine HPU.out.mono ?_
                        rintro e w10 ⟨⟨vv, rfl⟩, hT10, hF10⟩
                        have hbga : b ≠ ga := by have := HORD.out; omega
                        have hL10 : TI w10 b j lf := (TV.below HLFY.out HBZ.out).fr hF10 hbga
                        have HF10 := Lib.hid hF10
                        have HT10 := Lib.hid hT10
                        have q0 := TV.cell hL10 HUF.out.2.2.2.1
                        have q1 := TV.free hL10 f
                        have hfu : f ≠ u := by intro h; subst h; have := HUF.out; omega
                        have hL11 := TI.set hL10 f (lf f - mn)
                        have q2 := TV.cell hL11 HUF.out.1
                        have q3 := TV.free hL11 u
                        simp only [setN_ne hfu.symm] at q2
                        have hL12 := TI.set hL11 u (lf u + mn)
                        have e12 : ∀ v : Nat, setN (setN lf f (lf f - mn)) u (lf u + mn) v = xs.getD v 0 - balF m A (putP mn x' (s :: P)) v := fun v => by
                          have h1 := HLE.out v
                          have h2 := HC3.out v
                          simp only [List.getD_eq_getElem?_getD] at h1 ⊢
                          simp only [setN]
                          by_cases e1 : v = u
                          · subst e1
                            rw [if_pos rfl]
                            rw [if_neg (by omega), if_pos rfl] at h2
                            omega
                          · rw [if_neg e1]
                            by_cases e2 : v = f
                            · subst e2
                              rw [if_pos rfl]
                              rw [if_pos rfl, if_neg (by omega)] at h2
                              omega
                            · rw [if_neg e2]
                              rw [if_neg (by omega), if_neg (by omega)] at h2
                              omega
                        have HT12 := Lib.hid (TV.congr hL12 (f' := fun v => .int .i64 (xs.getD v 0 - balF m A (putP mn x' (s :: P)) v)) fun v _ => by rw [e12 v])
                        have HF12 := Lib.hid ((HF10.out.mono (fun k hk => show (k = b ∨ k = ga) ∨ _ from .inl (.inr hk))).setCell (p := ⟨b, f, none⟩) (.inl (.inl rfl)) (.int .i64 (lf f - mn)) |>.setCell (p := ⟨b, u, none⟩) (.inl (.inl rfl)) (.int .i64 (lf u + mn)))
                        have HG12 : Hid (TI ((w10.setCell ⟨b, f, none⟩ (.int .i64 (lf f - mn))).setCell ⟨b, u, none⟩ (.int .i64 (lf u + mn))) ga m (putP mn x' (s :: P))) := Lib.hid (TV.fr HT10.out ((Fr.refl (fun k => k = b) w10).setCell (p := ⟨b, f, none⟩) (.inl rfl) (.int .i64 (lf f - mn)) |>.setCell (p := ⟨b, u, none⟩) (.inl rfl) (.int .i64 (lf u + mn))) hbga.symm)
                        have HM12 : Hid (posSum j (fun v => xs.getD v 0 - balF m A (putP mn x' (s :: P)) v) < posSum j lf) := Lib.hid (by
                          refine posSum_move (u := f) (b := u) (d := mn) HUF.out.2.2.2.1 hfu HMB.out.1 (by have := HMB.out; have := HDF.out; omega) (by have := HMB.out; have := HDF.out; omega) fun v hv => ?_
                          have h1 := HLE.out v
                          have h2 := HC3.out v
                          simp only [List.getD_eq_getElem?_getD] at h1 ⊢
                          rw [h2, h1]
                          by_cases e1 : f = v
                          · subst e1
                            rw [if_pos rfl, if_pos rfl]
                            rw [if_neg (by omega), if_neg (by omega)]
                            omega
                          · rw [if_neg (by omega), if_neg e1]
                            by_cases e2 : u = v
                            · subst e2
                              rw [if_pos rfl, if_pos rfl]; omega
                            · rw [if_neg (by omega), if_neg e2]; omega)
                        have hbf := HLFB.out f HUF.out.2.2.2.1
                        have hbu := HLFB.out u HUF.out.1
                        have hw1 : IntKind.i64.wrap (lf f - mn) = lf f - mn := IntWalk.i64_in _ (by have := HMB.out; omega)
                        have hw2 : IntKind.i64.wrap (lf u + mn) = lf u + mn := IntWalk.i64_in _ (by have := HMB.out; omega)
                        clear hbf hbu e12 hL10 hL11 hL12 hT10 hF10
                        go_wp2_with fail
                        go_roundg ((posSum j (fun v => xs.getD v 0 - balF m A (putP mn x' (s :: P)) v)).toNat + 1)
                        case measure =>
                          have h1 := HM12.out
                          have h2 := HK.out
                          have h3 := posSum_nonneg j (fun v => xs.getD v 0 - balF m A (putP mn x' (s :: P)) v)
                          omega
                        case rel => exact ⟨putP mn x' (s :: P), Lib.hid rfl, HC1, HC2, HT12, HG12, Lib.hid (Fr.trans (HFBY.out.below HBZ.out) HF12.out (fun _ h => .inl h))⟩
end
end Go.Proofs.Ytcobihdjcdefmaa
namespace Go.Proofs.Ytcobihdjcdefmaa
open PAccountsCompress
open Go.RowKit Go.Proofs.YtcobihdjcdefmaaW.PrintWords
/-- Is a step of an arc behind i, and tight? -/
def letB (A : Nat → Ar) (p : Int → Int) (i : Nat) (s : Stp) : Bool := decide ((i : Int) < s.f0) && (cst A s + p (frm A s) - p (tow A s) == 0)
theorem letB_iff {A : Nat → Ar} {p : Int → Int} {i : Nat} {s : Stp} : letB A p i s = true ↔ (i : Int) < s.f0 ∧ rc A p s.f0.toNat = 0 := by
  unfold letB
  rw [Bool.and_eq_true, decide_eq_true_eq, beq_iff_eq, rc_stp]
/-- What the closure has captured. -/
structure Cap (w : World) (g bi bg bp pb : Nat) (n i : Nat) (p : Int → Int) : Prop where
  ci : w.cell? ⟨bi, 0, none⟩ = some (.int .i64 i)
  cg : w.cell? ⟨bg, 0, none⟩ = some (.pointer (some ⟨g, 0, none⟩))
  cp : w.cell? ⟨bp, 0, none⟩ = some (.slice (some ⟨pb, 0, none⟩) n n)
  pv : ∀ v : Int, 0 ≤ v → v < n → w.cell? ⟨pb, v.toNat, none⟩ = some (.int .i64 (p v))
theorem Cap.below {w w' : World} {g bi bg bp pb n i : Nat} {p : Int → Int} (h : Cap w g bi bg bp pb n i p) (hb : Below w.heap.size w w') : Cap w' g bi bg bp pb n i p :=
  have f := Fr.of_below hb (fun _ => False)
  ⟨f.cell h.ci (fun a => a), f.cell h.cg (fun a => a), f.cell h.cp (fun a => a), fun v a b => f.cell (h.pv v a b) (fun a => a)⟩
theorem Cap.fr {F : Nat → Prop} {w w' : World} {g bi bg bp pb n i : Nat} {p : Int → Int} (h : Cap w g bi bg bp pb n i p) (hf : Fr F w w') (h1 : ¬ F bi) (h2 : ¬ F bg) (h3 : ¬ F bp) (h4 : ¬ F pb) : Cap w' g bi bg bp pb n i p :=
  ⟨hf.cell h.ci h1, hf.cell h.cg h2, hf.cell h.cp h3, fun v a b => hf.cell (h.pv v a b) h4⟩
theorem keepL {wb W : World} {x0 g bi bg bp pb n i : Nat} {p : Int → Int} {s : Stp} {u v : Int} (h : Cap wb g bi bg bp pb n i p) (h0 : wb.cell? ⟨x0, 0, none⟩ = some (.int .i64 s.f0)) (h1 : wb.cell? ⟨x0, 1, none⟩ = some (.bool s.f1))
    (u0 : 0 ≤ u) (u1 : u < n) (v0 : 0 ≤ v) (v1 : v < n) (hb : Below wb.heap.size wb W) :
    W.cell? ⟨x0, 0, none⟩ = some (.int .i64 s.f0) ∧ W.cell? ⟨x0, 1, none⟩ = some (.bool s.f1) ∧ W.cell? ⟨bi, 0, none⟩ = some (.int .i64 i) ∧ W.cell? ⟨bg, 0, none⟩ = some (.pointer (some ⟨g, 0, none⟩)) ∧
      W.cell? ⟨bp, 0, none⟩ = some (.slice (some ⟨pb, 0, none⟩) n n) ∧ W.cell? ⟨pb, u.toNat, none⟩ = some (.int .i64 (p u)) ∧ W.cell? ⟨pb, v.toNat, none⟩ = some (.int .i64 (p v)) ∧ Below wb.heap.size wb W :=
  have f := Fr.of_below hb (fun _ => False)
  have c := h.below hb
  ⟨f.cell h0 (fun a => a), f.cell h1 (fun a => a), c.ci, c.cg, c.cp, c.pv u u0 u1, c.pv v v0 v1, hb⟩
section
variable {g : Nat} {A1 : Option Addr} {c1 : Nat} {A2 : Option Addr} {c2 : Nat} {n m : Nat} {A : Nat → Ar} {x : Nat → Int}
set_option maxRecDepth 100000 in
set_option maxHeartbeats 4000000 in
theorem let_any (w : World) (hN : NM w g A1 c1 A2 c2 (n : Int) m A x) (hok : NetOk n m A) (bi bg bp pb i : Nat) (p : Int → Int) (hC : Cap w g bi bg bp pb n i p) (hp : ∀ v : Int, 0 ≤ v → v < n → -1099511627776 ≤ p v ∧ p v ≤ 1099511627776)
    (s : Stp) (hs0 : 0 ≤ s.f0) (hs1 : s.f0 < m) :
    Calls Try.prog 92 #[.agg #[.int .i64 s.f0, .bool s.f1], .pointer (some ⟨bi, 0, none⟩), .pointer (some ⟨bg, 0, none⟩), .pointer (some ⟨bp, 0, none⟩)] w fun e w' => e = .returned (.bool (letB A p i s)) ∧ Below w.heap.size w w' := by
  have hst := hok.stps (l := [s]) (fun t ht => by rw [List.mem_singleton] at ht; subst ht; exact ⟨hs0, hs1⟩) s (List.mem_singleton.2 rfl)
  obtain ⟨a1, a2, a3, a4, a5, a6, a7⟩ := hst
  have hpf := hp _ a1 a2
  have hpt := hp _ a3 a4
  have hal := below_alloc (Below.refl w.heap.size w) (.cells #[.int .i64 s.f0, .bool s.f1] 145)
  have hA4 := Blk.new w #[.int .i64 s.f0, .bool s.f1] 145
  have HC := Lib.hid (hC.below hal)
  have HN := Lib.hid (hN.below hal)
  have HCO := Lib.hid (hok.cost s.f0.toNat (by omega))
  have HAL := Lib.hid hal
  have HA := Lib.hid (show 0 ≤ frm A s ∧ frm A s < n ∧ 0 ≤ tow A s ∧ tow A s < n from ⟨a1, a2, a3, a4⟩)
  have HRS := Lib.hid (And.intro hs0 hs1)
  clear a5 hN hok hC hp hal
  go_enter Try.func92, Try.ntmps92
  go_upto_region 1 with (fail)
  generalize w.alloc (.cells #[.int .i64 s.f0, .bool s.f1] 145) = wb at *
  have c0 := Blk.cell hA4 0 (v := .int .i64 s.f0) rfl
  have c1 := Blk.cell hA4 1 (v := .bool s.f1) rfl
  clear hA4
  by_cases hi : (i : Int) < s.f0
  · have e1 : decide ((i : Int) < s.f0) = true := decide_eq_true hi
    have HLB : Hid (letB A p i s = (cst A s + p (frm A s) - p (tow A s) == 0)) := Lib.hid (by unfold letB; rw [e1, Bool.true_and])
    clear hi
    have r0 := HRS.out.1
    have r1 := HRS.out.2
    have S0 := keepL HC.out c0 c1 a1 a2 a3 a4 ((Below.refl _ wb).drew)
    have hw1 : IntKind.i64.wrap (cst A s + p (frm A s)) = cst A s + p (frm A s) := IntWalk.i64_in _ (by omega)
    have hw2 : IntKind.i64.wrap (cst A s + p (frm A s) - p (tow A s)) = cst A s + p (frm A s) - p (tow A s) := IntWalk.i64_in _ (by omega)
    have e2 : (cst A s + p (frm A s) - p (tow A s) == 0) = letB A p i s := HLB.out.symm
    clear hpf hpt a6 a7
    go_region_held3 (fun w' => w'.cell? ⟨w.heap.size, 0, none⟩ = some (.int .i64 s.f0) ∧ w'.cell? ⟨w.heap.size, 1, none⟩ = some (.bool s.f1) ∧ w'.cell? ⟨bi, 0, none⟩ = some (.int .i64 i) ∧ w'.cell? ⟨bg, 0, none⟩ = some (.pointer (some ⟨g, 0, none⟩)) ∧
        w'.cell? ⟨bp, 0, none⟩ = some (.slice (some ⟨pb, 0, none⟩) n n) ∧ w'.cell? ⟨pb, (frm A s).toNat, none⟩ = some (.int .i64 (p (frm A s))) ∧ w'.cell? ⟨pb, (tow A s).toNat, none⟩ = some (.int .i64 (p (tow A s))) ∧ Below wb.heap.size wb w')
      (first | (with_reducible exact S0) | (with_reducible exact S7) | (with_reducible exact S6) | (with_reducible exact S5) | (trace_state; fail))
      (first
        | (go_at_call 93; refine (cost_any wb.drew (HN.out.below S0.2.2.2.2.2.2.2) s r0 r1 HCO.out).mono ?_; rintro e w5 ⟨rfl, hb5⟩; have S5 := keepL HC.out c0 c1 a1 a2 a3 a4 (S0.2.2.2.2.2.2.2.trans hb5))
        | (go_at_call 87; refine (from_any w5 (HN.out.below S5.2.2.2.2.2.2.2) s r0 r1).mono ?_; rintro e w6 ⟨rfl, hb6⟩; have S6 := keepL HC.out c0 c1 a1 a2 a3 a4 (S5.2.2.2.2.2.2.2.trans (hb6.mono S5.2.2.2.2.2.2.2.size)))
        | (go_at_call 94; refine (to_any w6 (HN.out.below S6.2.2.2.2.2.2.2) s r0 r1).mono ?_; rintro e w7 ⟨rfl, hb7⟩; have S7 := keepL HC.out c0 c1 a1 a2 a3 a4 (S6.2.2.2.2.2.2.2.trans (hb7.mono S6.2.2.2.2.2.2.2.size))))
    all_goals
      go_wp2_with fail
      go_ret
      exact ⟨by first | rfl | (rw [← e2]; rfl), below_u HAL.out S7.2.2.2.2.2.2.2⟩
  · have e1 : decide ((i : Int) < s.f0) = false := decide_eq_false hi
    have HLB : Hid (letB A p i s = false) := Lib.hid (by unfold letB; rw [e1, Bool.false_and])
    have q0 := HC.out.ci
    clear hi
    go_quiet (fail)
    go_wp2_with fail
    go_ret
    exact ⟨by rw [HLB.out]; rfl, by first | exact pw_below_drewN HAL.out _ | (apply pw_below_drewN; exact HAL.out)⟩
end
end Go.Proofs.Ytcobihdjcdefmaa
namespace Go.Proofs.Ytcobihdjcdefmaa
open PAccountsCompress
open Go.RowKit Go.Proofs.YtcobihdjcdefmaaW.PrintWords
/-- A slice of numbers in a block that may be written. -/
def QI (ok : Nat → Prop) (w : World) (v : Value) (xs : List Int) : Prop :=
  ∃ b off cap cs, v = .slice (some ⟨b, off, none⟩) xs.length cap ∧ ok b ∧ Blk w b cs 3 ∧ xs.length ≤ cap ∧ cap ≤ 9223372036854775807 ∧ off + cap ≤ cs.size ∧ ∀ (i : Nat) (x : Int), xs[i]? = some x → cs[off + i]? = some (.int .i64 x)
variable {ok : Nat → Prop} {w : World} {v : Value} {xs : List Int}
theorem QI.fr {F : Nat → Prop} {w' : World} (h : QI ok w v xs) (hf : Fr F w w') (hn : ∀ k, ok k → ¬ F k) : QI ok w' v xs := by
  obtain ⟨b, off, cap, cs, e, h1, h2, h3⟩ := h
  exact ⟨b, off, cap, cs, e, h1, h2.fr hf (hn b h1), h3⟩
theorem QI.below {w' : World} (h : QI ok w v xs) (hb : Below w.heap.size w w') : QI ok w' v xs := h.fr (Fr.of_below hb (fun _ => False)) (fun _ _ a => a)
theorem QI.alloc (h : QI ok w v xs) (o : Obj) : QI ok (w.alloc o) v xs := h.fr (F := fun _ => False) ((Fr.refl _ w).alloc o) (fun _ _ a => a)
theorem QI.mk {w : World} {x : Int} {b : Nat} (h : Blk w b #[.int .i64 x] 3) (ho : ok b) : QI ok w (.slice (some ⟨b, 0, none⟩) 1 1) [x] :=
  ⟨b, 0, 1, _, rfl, ho, h, Nat.le_refl _, by omega, by simp, fun i y hy => by
    match i, hy with
    | 0, hy =>
      have hy : some x = some y := hy
      rw [← Option.some.inj hy]; rfl
    | i + 1, hy => simp at hy⟩
theorem QI.shape (h : QI ok w v xs) : ∃ a c, v = .slice (some a) xs.length c := by
  obtain ⟨b, off, cap, cs, e, _⟩ := h
  exact ⟨_, _, e⟩
theorem QI.weaken {ok' : Nat → Prop} (h : QI ok w v xs) (hi : ∀ k, k < w.heap.size → ok k → ok' k) : QI ok' w v xs := by
  obtain ⟨b, off, cap, cs, e, h1, h2, h3⟩ := h
  exact ⟨b, off, cap, cs, e, hi b (Blk.lt h2) h1, h2, h3⟩
/-- The head of a queue, and what is left behind it. -/
theorem QI.pop {x : Int} (h : QI ok w v (x :: xs)) : ∃ b off c c' a', v = .slice (some ⟨b, off, none⟩) (xs.length + 1) c ∧ w.cell? ⟨b, off, none⟩ = some (.int .i64 x) ∧
    (∀ W, (Instr.slice 32 v (some (.int .i64 1)) none none).run Try.prog W = .ok (.slice (some a') xs.length c') W) ∧ QI ok w (.slice (some a') xs.length c') xs := by
  obtain ⟨b, off, cap, cs, e, h1, h2, h3, h4, h5, h6⟩ := h
  have hl : (x :: xs).length = xs.length + 1 := rfl
  rw [hl] at e h3
  have hel : Try.prog.elem 32 = 3 := by kernel_rfl
  have hu : Try.prog.underlying 32 = some (.slice (Try.prog.elem 32)) := by rw [hel]; exact Try.underlying32
  have hsz : ∀ W, (sizeOf (Try.prog.elem 32)).run Try.prog W = .ok 1 W := fun W => by
    rw [hel]
    obtain ⟨i0, hi, hz⟩ := Option.map_eq_some_iff.1 info3
    have z1 : i0.size = 1 := by simp at hz; exact hz.2.1
    simp [sizeOf, typeInfo, hi, z1]
  have hrun : ∀ W, (Instr.slice 32 v (some (.int .i64 1)) none none).run Try.prog W = .ok (sliced (some ⟨b, off, none⟩) 1 (xs.length + 1) cap 1) W := fun W => by
    rw [e, run_slice_l W 32 (some ⟨b, off, none⟩) (xs.length + 1) cap hu .i64 1 (by omega) (by omega), hsz]
    rfl
  refine ⟨b, off, cap, cap - 1, if cap = 1 then ⟨b, off, none⟩ else ⟨b, off + 1, none⟩, e, ?_, fun W => ?_, ?_⟩
  · have := h6 0 x rfl
    exact Blk.cell h2 off this
  · rw [hrun]
    unfold sliced
    by_cases hc : cap = 1
    · rw [if_pos hc, if_pos hc]; rfl
    · rw [if_neg hc, if_neg hc]; rfl
  · by_cases hc : cap = 1
    · rw [if_pos hc]
      have : xs = [] := List.eq_nil_of_length_eq_zero (by omega)
      subst this
      exact ⟨b, off, cap - 1, cs, rfl, h1, h2, by simp, by omega, by omega, fun i y hy => by simp at hy⟩
    · rw [if_neg hc]
      refine ⟨b, off + 1, cap - 1, cs, rfl, h1, h2, by omega, by omega, by omega, fun i y hy => ?_⟩
      have := h6 (i + 1) y (by simpa using hy)
      rw [show off + 1 + i = off + (i + 1) by omega]; exact this
/-- One number more, for the walk. -/
theorem wpList_append_q {ops : Array Oper} {rest : List Oper} {o : Oper} {a : Act} {Q : Exit → Act → World → Prop} (hgd : o.guard = none) (s x : Operand)
    (ho : o.op = Op.call { callee := Callee.builtin Builtin.append, args := #[s, x], argTypes := #[32, 32] })
    (hs : a.eval s = v) (h : QI ok w v xs) (ad : Addr) (c : Nat) (y : Int) (hx : a.eval x = .slice (some ad) 1 c) (hy : w.cell? ad = some (.int .i64 y)) (hlen : xs.length ≤ 100000) (hnew : ∀ k, w.heap.size ≤ k → ok k)
    (hK : ∀ v' w', QI ok w' v' (xs ++ [y]) → Fr ok w w' → wpList Try.prog ops Q rest (a.put o.dst v') w') : wpList Try.prog ops Q (o :: rest) a w := by
  obtain ⟨b, off, cap, cs, rfl, h1, h2, h3, h4, h5, h6⟩ := h
  obtain ⟨i0, hi, hz⟩ := Option.map_eq_some_iff.1 info3
  obtain ⟨z0, z1, z2⟩ : i0.zero = some (.int .i64 0) ∧ i0.size = 1 ∧ i0.bytes = 8 := by simpa using hz
  have hz1 : (Value.int .i64 0).cells.size = 1 := rfl
  have hol : (xs.map (Value.int .i64)).length = xs.length * 1 := by simp
  have holds : ∀ j u, (xs.map (Value.int .i64))[j]? = some u → w.cell? ⟨b, off + j, none⟩ = some u := fun j u hu => by
    rw [List.getElem?_map, Option.map_eq_some_iff] at hu
    obtain ⟨z, hz, rfl⟩ := hu
    exact Blk.cell h2 (off + j) (h6 j z hz)
  refine wpList_append_arg w hgd s x 32 ho 3 i0 (.int .i64 0) 1 8 Try.underlying32 hi z0 z1 z2 hz1 (by omega) b off xs.length cap (xs.map (Value.int .i64)) hs hol holds ad 1 c [.int .i64 y] hx rfl
    (fun j u hu => ?_) (fun u hu => ?_) (fun hr j hj => ?_) (by unfold maxLen; omega) (by omega) (fun hr => ?_) (fun hg v' w' hown hgr => ?_)
  · match j, hu with
    | 0, hu =>
      have hu : some (Value.int .i64 y) = some u := hu
      rw [← hu]; exact hy
    | j + 1, hu => simp at hu
  · rw [List.mem_singleton] at hu; subst hu; rfl
  · have hj0 : j = 0 := by simp at hj; omega
    subst hj0
    have : off + xs.length < cs.size := by omega
    refine ⟨?_, ?_⟩
    · rw [Nat.mul_one, Nat.add_zero, Blk.cell h2 (off + xs.length) (Array.getElem?_eq_getElem this)]; rfl
    · exact Blk.free h2 _
  · have hsc : w.setCells b (off + xs.length * 1) [.int .i64 y] = w.setCell ⟨b, off + xs.length, none⟩ (.int .i64 y) := by rw [Nat.mul_one]; rfl
    rw [hsc]
    refine hK _ _ ⟨b, off, cap, _, by rw [List.length_append]; rfl, h1, Blk.set h2 (off + xs.length) (.int .i64 y), by simpa using hr, h4, by simpa using h5, fun i z hz => ?_⟩ ((Fr.refl ok w).setCell (p := ⟨b, off + xs.length, none⟩) (.inl h1) _)
    rw [Array.getElem?_setIfInBounds]
    by_cases e : i = xs.length
    · subst e
      rw [if_pos rfl, if_pos (by omega)]
      rw [List.getElem?_append_right (Nat.le_refl _), Nat.sub_self] at hz
      have hz : some y = some z := hz
      rw [Option.some.inj hz]
    · rw [if_neg (by omega)]
      have hl := (List.getElem?_eq_some_iff.1 hz).1
      rw [List.length_append] at hl
      have hl : i < xs.length + 1 := hl
      rw [List.getElem?_append_left (by omega)] at hz
      exact h6 i z hz
  · obtain ⟨hl, hor⟩ := hown
    rcases hor with ⟨_, he⟩ | ⟨gb, cap', cur, rfl, hgb, hcur, hcap, hmax, hsz, htk⟩
    · omega
    · refine hK _ _ ⟨gb, 0, cap', cur, by rw [List.length_append]; rfl, hnew gb hgb, hcur, by rw [List.length_append]; exact hcap, by unfold maxLen at hmax; omega, by omega, fun i z hz => ?_⟩ ((Fr.refl ok w).grown hgr (fun k hk => by simp at hk))
      have hlt := (List.getElem?_eq_some_iff.1 hz).1
      have e2 : (xs.map (Value.int .i64) ++ [Value.int .i64 y])[i]? = some (.int .i64 z) := by
        rw [show xs.map (Value.int .i64) ++ [Value.int .i64 y] = (xs ++ [y]).map (Value.int .i64) by simp, List.getElem?_map, hz]; rfl
      rw [Nat.zero_add, ← Array.getElem?_toList]
      rw [← htk, List.getElem?_take] at e2
      split at e2
      · exact e2
      · simp at e2
theorem make_stps (W : World) {n : Nat} (hn : n ≤ 100000) : (Instr.makeSlice 148 (.int .i64 n) (.int .i64 n)).run Try.prog W = .ok (.slice (some ⟨W.heap.size, 0, none⟩) n n) (W.alloc (.cells (madeCells #[.int .i64 0, .bool false] (n * 2)) 145 (0, 0))) := by
  obtain ⟨i0, hi, hz⟩ := Option.map_eq_some_iff.1 info145
  obtain ⟨z0, z1, z2⟩ : i0.zero = some (.agg #[(.int .i64 0), (.bool false)]) ∧ i0.size = 2 ∧ i0.bytes = 16 := by simpa using hz
  have h := run_make W 148 145 i0 _ Try.underlying148 hi z0 .i64 .i64 (n : Int) (n : Int) (by omega) (Int.le_refl _) (by rw [z2]; omega) (by omega)
  rw [z1, Int.toNat_natCast] at h
  exact h
theorem TS.made (w : World) (n : Nat) : TS (w.alloc (.cells (madeCells #[.int .i64 0, .bool false] (n * 2)) 145 (0, 0))) w.heap.size n (fun _ => z145) := by
  refine ⟨_, Blk.new _ _ _, fun v hv => ⟨?_, ?_⟩⟩
  · simp [madeCells, show v * 2 < n * 2 by omega, z145]
  · simp [madeCells, show v * 2 + 1 < n * 2 by omega, show (v * 2 + 1) % 2 = 1 by omega, z145]
end Go.Proofs.Ytcobihdjcdefmaa
