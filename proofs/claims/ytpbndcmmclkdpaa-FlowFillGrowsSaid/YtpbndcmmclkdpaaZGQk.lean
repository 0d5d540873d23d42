/-
  The reference's potentials.
-/
import Derived.Test.YtpbndcmmclkdpaaZGQj
namespace Go.Proofs.Ytpbndcmmclkdpaa
open PFlowSolves
open Go.RowKit Go.Proofs.YtpbndcmmclkdpaaW.PrintWords
theorem rstp_at {w : World} {A : Nat → Ar} {all : List Stp} {AS : Option Addr} (h : Kd.C k96 w AS all.length (all.map (toR A))) {t : Nat} {s : Stp} (hs : all[t]? = some s) :
    ∃ ad, AS = some ad ∧ w.cell? (ad.add (t * 5)) = some (.int .i64 (frm A s)) ∧ w.cell? ⟨(ad.add (t * 5)).block, (ad.add (t * 5)).off + 1, none⟩ = some (.int .i64 (tow A s)) ∧ w.cell? ⟨(ad.add (t * 5)).block, (ad.add (t * 5)).off + 2, none⟩ = some (.int .i64 (cst A s)) ∧
      w.cell? ⟨(ad.add (t * 5)).block, (ad.add (t * 5)).off + 3, none⟩ = some (.int .i64 s.f0) ∧ w.cell? ⟨(ad.add (t * 5)).block, (ad.add (t * 5)).off + 4, none⟩ = some (.bool (!s.f1)) := by
  have hlt := (List.getElem?_eq_some_iff.1 hs).1
  obtain ⟨ad, e, k0, k1, k2, k3, k4⟩ := at_T96 h (t : Int) (by omega) (by omega)
  have es : rd_T96 (all.map (toR A)) (t : Int) = toR A s := by
    unfold rd_T96
    rw [Int.toNat_natCast, List.getD_eq_getElem?_getD, List.getElem?_map, hs]; rfl
  rw [es, Int.toNat_natCast] at k0 k1 k2 k3 k4
  exact ⟨ad, e, k0, k1, k2, k3, k4⟩
set_option maxRecDepth 100000 in
set_option maxHeartbeats 8000000 in
theorem rpot_any (w : World) {n : Nat} {A : Nat → Ar} {all : List Stp} (AS : Option Addr) (cS : Nat) (hC : Kd.C k96 w AS all.length (all.map (toR A))) (hS : StpsOk n A 1048576 all) (hn1 : 1 ≤ n) (hn2 : n ≤ 32) (hlen : all.length ≤ 512) :
    Calls Try.prog 54 #[.int .i64 n, .slice AS all.length cS] w fun e w' => PotPost n A all w e w' ∧ Below w.heap.size w w' := by
  have hmk := make_int w (n := n) (by omega)
  have hB1 := below_alloc (Below.refl w.heap.size w) (.cells (madeCells #[.int .i64 0] n) 3 (0, 0))
  have HT2 : Hid (TI (w.alloc (.cells (madeCells #[.int .i64 0] n) 3 (0, 0))) w.heap.size n (fun v => swpPs A all 0 v)) := Lib.hid (TV.made w (.int .i64 0) 3 n)
  have HCS : Hid (∀ W, Fr (fun b => b = w.heap.size) w W → Kd.C k96 W AS all.length (all.map (toR A))) := Lib.hid (fun W hW => by
    refine Kd.C_below hC (hW.to_below (Nat.le_refl _) (fun b hb => by omega)))
  have HSt := Lib.hid hS
  have HN2 := Lib.hid hn2
  have HLEN := Lib.hid hlen
  have HPB : Hid (PB n (swpPs A all 0) 0) := Lib.hid (PB.zero n)
  have HF0 : Hid (Fr (fun b => b = w.heap.size) w (w.alloc (.cells (madeCells #[.int .i64 0] n) 3 (0, 0)))) := Lib.hid ((Fr.refl _ w).alloc _)
  clear hC hS hn1 hn2 hlen hB1
  go_enter Try.func54, Try.ntmps54
  go_wp2_with fail
  generalize w.alloc (.cells (madeCells #[.int .i64 0] n) 3 (0, 0)) = w2 at *
  go_loopg [7, 8, 9] (n + 1) (fun k v7 v8 v9 wq => ∃ j : Nat, v7 = .int .i64 j ∧ Hid (j + k = n + 1) ∧ Hid (∀ i, i < j → ¬ FeasL A all (swpPs A all i)) ∧ Hid (PB n (swpPs A all j) (j * all.length)) ∧ Hid (TI wq w.heap.size n (fun v => swpPs A all j v)) ∧ Hid (Fr (fun b => b = w.heap.size) w wq))
  case atStart => exact ⟨0, rfl, Lib.hid (by omega), Lib.hid (fun i hi => absurd hi (Nat.not_lt_zero _)), Lib.hid (by rw [Nat.zero_mul]; exact HPB.out), HT2, HF0⟩
  case round =>
    clear HT2 HPB HF0 hmk
    obtain ⟨j, rfl, HJ, HNO, HPJ, HTJ, HFJ⟩ := hrel
    by_cases hj : j ≤ n
    · have hj0 : (j : Int) ≤ n := by omega
      have hwj : IntKind.i64.wrap ((j : Int) + 1) = j + 1 := IntWalk.i64_in _ (by have := HN2.out; omega)
      have HJL := Lib.hid hj
      clear hj
      generalize hp : swpPs A all j = P0 at *
      have HP0 := Lib.hid hp
      clear hp
      go_wp2_with fail
      go_loopg [8, 9] all.length (fun k v8 v9 wv => ∃ t : Nat, v9 = .int .i64 t ∧ v8 = .bool (swpQ A P0 false (all.take t)).2 ∧ Hid (t + k = all.length) ∧ Hid (PB n (swpQ A P0 false (all.take t)).1 (j * all.length + t)) ∧ Hid (TI wv w.heap.size n (fun v => (swpQ A P0 false (all.take t)).1 v)) ∧ Hid (Fr (fun b => b = w.heap.size) w wv))
      case atStart => exact ⟨0, rfl, rfl, Lib.hid (by omega), HPJ, HTJ, HFJ⟩
      case round =>
        clear HTJ HFJ HPJ
        obtain ⟨t, rfl, rfl, HTK, HPT, HTT, HFT⟩ := hrel
        obtain ⟨wv, rfl⟩ : ∃ wv : World, wv = wr := ⟨_, rfl⟩
        by_cases hlt : t < all.length
        · obtain ⟨s, hs⟩ : ∃ s, all[t]? = some s := ⟨_, List.getElem?_eq_getElem hlt⟩
          have ht0 : (t : Int) < all.length := by omega
          have htz : (0 : Int) ≤ t := by omega
          obtain ⟨ad, rfl, k0, k1, k2, _, _⟩ := rstp_at (HCS.out wv HFT.out) hs
          have hm := List.mem_of_getElem? hs
          have hSW : swpQ A P0 false (all.take (t + 1)) = (relP A (swpQ A P0 false (all.take t)).1 s, (swpQ A P0 false (all.take t)).2 || hitP A (swpQ A P0 false (all.take t)).1 s) := by
            rw [← swpQ_snoc, List.take_succ_eq_append_getElem hlt, (List.getElem?_eq_some_iff.1 hs).2]
          have HNX := Lib.hid hSW
          have HM := Lib.hid hm
          have HSX := Lib.hid hs
          have hw : IntKind.i64.wrap ((t : Int) + 1) = t + 1 := IntWalk.i64_in _ (by have := HLEN.out; omega)
          clear hs hSW hm
          generalize (swpQ A P0 false (all.take t)).1 = Pt at *
          generalize (swpQ A P0 false (all.take t)).2 = bt at *
          obtain ⟨a1, a2, a3, a4, a5, a6, a7⟩ := HSt.out s HM.out
          have HA := Lib.hid (show (frm A s).toNat < n ∧ (tow A s).toNat < n ∧ ((frm A s).toNat : Int) = frm A s ∧ ((tow A s).toNat : Int) = tow A s by omega)
          have HLT2 := Lib.hid hlt
          have hbd := HPT.out _ a1 a2
          have hkk : j * all.length + t ≤ 33 * 512 + 512 := by
            have h1 := HLEN.out
            have h3 := HJL.out
            have h4 := HN2.out
            have h5 : j * all.length ≤ 33 * 512 := Nat.mul_le_mul (by omega) (by omega)
            omega
          have hw3 : IntKind.i64.wrap (Pt (frm A s) + cst A s) = Pt (frm A s) + cst A s := IntWalk.i64_in _ (by omega)
          have HPR := Lib.hid (HPT.out.rel HSt.out HM.out)
          have q0 : wv.cell? ⟨w.heap.size, (frm A s).toNat, none⟩ = some (.int .i64 (Pt (frm A s))) := by have := TV.cell HTT.out HA.out.1; simp only [HA.out.2.2.1] at this; exact this
          have q1 : wv.cell? ⟨w.heap.size, (tow A s).toNat, none⟩ = some (.int .i64 (Pt (tow A s))) := by have := TV.cell HTT.out HA.out.2.1; simp only [HA.out.2.2.2] at this; exact this
          have q2 := TV.free HTT.out (tow A s).toNat
          clear a5 a6 a7 hlt hbd hkk
          by_cases hh : Pt (frm A s) + cst A s < Pt (tow A s)
          · have e1 : decide (Pt (frm A s) + cst A s < Pt (tow A s)) = true := decide_eq_true hh
            have HNX2 : Hid (swpQ A P0 false (all.take (t + 1)) = (upd Pt (tow A s) (Pt (frm A s) + cst A s), true)) := Lib.hid (by
              have h1 : hitP A Pt s = true := decide_eq_true hh
              have h2 : relP A Pt s = upd Pt (tow A s) (Pt (frm A s) + cst A s) := if_pos hh
              rw [HNX.out, h1, h2, Bool.or_true])
            have HRE : Hid (relP A Pt s = upd Pt (tow A s) (Pt (frm A s) + cst A s)) := Lib.hid (if_pos hh)
            clear hh
            go_upto_region 9 with (fail)
            go_quiet (fail)
            have hf : Fr (fun _ => False) wv (wv.drewN nq) := (Fr.refl _ wv).drewN nq
            have hf2 := HFT.out.trans hf (fun _ h => h.elim)
            have hT4 := HTT.out.fr hf (fun a => a)
            generalize wv.drewN nq = w4 at *
            obtain ⟨ad2, e2', k0, k1, k2, _, _⟩ := rstp_at (HCS.out w4 hf2) HSX.out
            obtain rfl := Option.some.inj e2'
            have q0 : w4.cell? ⟨w.heap.size, (frm A s).toNat, none⟩ = some (.int .i64 (Pt (frm A s))) := by have := TV.cell hT4 HA.out.1; simp only [HA.out.2.2.1] at this; exact this
            have q1 : w4.cell? ⟨w.heap.size, (tow A s).toNat, none⟩ = some (.int .i64 (Pt (tow A s))) := by have := TV.cell hT4 HA.out.2.1; simp only [HA.out.2.2.2] at this; exact this
            have q2 := TV.free hT4 (tow A s).toNat
            have HF5 := Lib.hid ((hf2.setCell (p := ⟨w.heap.size, (tow A s).toNat, none⟩) (.inl rfl) (.int .i64 (Pt (frm A s) + cst A s))).drew)
            have HT6 : Hid (TI ((w4.setCell ⟨w.heap.size, (tow A s).toNat, none⟩ (.int .i64 (Pt (frm A s) + cst A s))).drew) w.heap.size n (fun v => upd Pt (tow A s) (Pt (frm A s) + cst A s) v)) := Lib.hid (((TI.set hT4 (tow A s).toNat (Pt (frm A s) + cst A s)).congr fun v hv => by
              simp only [setN, upd]
              have := HA.out.2.2.2
              by_cases e : v = (tow A s).toNat
              · rw [if_pos e, if_pos (show (v : Int) = tow A s by omega)]
              · rw [if_neg e, if_neg (show ¬ (v : Int) = tow A s by omega)]).fr (F := fun _ => False) ((Fr.refl _ _).drew) (fun a => a))
            clear hf hf2 hT4 e2'
            go_upto_region 10 with (fail)
            refine calm ?_
            go_region_law (first | fail)
            all_goals
              simp only [Calm]
              go_wp2_with fail
              go_roundg (all.length - (t + 1))
              case measure => have := HTK.out; have := HLT2.out; omega
              case rel => exact ⟨t + 1, by go_num, by rw [HNX2.out], Lib.hid (by have := HTK.out; have := HLT2.out; omega), Lib.hid (by rw [HNX2.out, ← HRE.out]; exact HPR.out), Lib.hid (by rw [HNX2.out]; exact HT6.out), HF5⟩
          · have e1 : decide (Pt (frm A s) + cst A s < Pt (tow A s)) = false := decide_eq_false hh
            have HRE : Hid (relP A Pt s = Pt) := Lib.hid (if_neg hh)
            have HNX2 : Hid (swpQ A P0 false (all.take (t + 1)) = (Pt, bt)) := Lib.hid (by
              have h1 : hitP A Pt s = false := decide_eq_false hh
              rw [HNX.out, h1, HRE.out, Bool.or_false])
            clear hh
            go_upto_region 9 with (fail)
            go_quiet (fail)
            go_wp2_with fail
            go_roundg (all.length - (t + 1))
            case measure => have := HTK.out; have := HLT2.out; omega
            case rel => exact ⟨t + 1, by go_num, by rw [HNX2.out], Lib.hid (by have := HTK.out; have := HLT2.out; omega), Lib.hid (by rw [HNX2.out, ← HRE.out]; exact HPR.out), Lib.hid (by rw [HNX2.out]; exact HTT.out.fr (F := fun _ => False) ((Fr.refl _ _).drewN _) (fun a => a)), Lib.hid (HFT.out.drewN _)⟩
        · have hE : all.take t = all := List.take_of_length_le (by omega)
          have ht : t = all.length := by have := HTK.out; omega
          have hnl : ¬ (t : Int) < all.length := by omega
          rw [hE] at HPT HTT ⊢
          have HX1 : Hid ((swpQ A P0 false all).1 = swpPs A all (j + 1)) := Lib.hid (by rw [swpQ_fst]; show swpP A all P0 = swpP A all (swpPs A all j); rw [HP0.out])
          have HX2 := Lib.hid (swpQ_false A all P0 false)
          have HTE := Lib.hid ht
          clear hE ht hlt
          cases hb : (swpQ A P0 false all).2 with
          | true =>
            have HNF : Hid (¬ FeasL A all P0) := Lib.hid (fun h => by
              have := HX2.out.2 ⟨rfl, h⟩
              rw [hb] at this; exact absurd this (by simp))
            clear hb
            go_wp2_with fail
            go_roundg (n + 1 - (j + 1))
            case measure => have := HJ.out; have := HJL.out; omega
            case rel =>
              refine ⟨j + 1, by go_num, Lib.hid (by have := HJL.out; omega), Lib.hid (fun i hi => ?_), Lib.hid ?_, Lib.hid (by rw [← HX1.out]; exact HTT.out), HFT⟩
              · rcases Nat.lt_or_ge i j with h | h
                · exact HNO.out i h
                · have e : i = j := by omega
                  rw [e, HP0.out]; exact HNF.out
              · rw [← HX1.out, Nat.add_mul, Nat.one_mul]
                have := HPT.out
                rw [HTE.out] at this
                exact this
          | false =>
            have HFE := Lib.hid (HX2.out.1 hb)
            have HXP : Hid ((swpQ A P0 false all).1 = P0) := Lib.hid (by rw [swpQ_fst]; exact swpP_fix HFE.out.2)
            clear hb
            go_wp2_with fail
            go_ret2
            exact ⟨.inl ⟨j, HJL.out, by rw [HP0.out]; exact HFE.out.2, fun i hi => HNO.out i hi, rfl, by rw [HP0.out, ← HXP.out]; exact HTT.out⟩, HFT.out.to_below (Nat.le_refl _) (fun _ h => by omega)⟩
    · have hnl : ¬ (j : Int) ≤ n := by omega
      have HNO2 : Hid (∀ i, i ≤ n → ¬ FeasL A all (swpPs A all i)) := Lib.hid (fun i hi => HNO.out i (by omega))
      clear hj
      go_wp2_with fail
      go_ret2
      exact ⟨.inr ⟨HNO2.out, rfl⟩, HFJ.out.to_below (Nat.le_refl _) (fun _ h => by omega)⟩
end Go.Proofs.Ytpbndcmmclkdpaa
