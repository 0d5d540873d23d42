/-
  The walk of potentials.
  The walk of total.
  The walk of Clone (of arcs).
  Arrays of steps in memory.
  The walk of way.
  Towards carry: rows of steps read as lists.
  The walk of same.
  Carry: what is left, and its measure.
-/
import Derived.Test.YtcobihdjcdefmaaQFQa
import Derived.Test.YtcobihdjcdefmaaQFPa
namespace Go.Proofs.Ytcobihdjcdefmaa
open PAccountsCompress
open Go.RowKit Go.Proofs.YtcobihdjcdefmaaW.PrintWords
theorem keepW {wb W : World} {bs gb u : Nat} {s : Stp} {c : Int} (h0 : wb.cell? ⟨bs, 0, none⟩ = some (.int .i64 s.f0)) (h1 : wb.cell? ⟨bs, 1, none⟩ = some (.bool s.f1)) (k0 : wb.cell? ⟨gb, u, none⟩ = some (.int .i64 c)) (hb : Below wb.heap.size wb W) :
    W.cell? ⟨bs, 0, none⟩ = some (.int .i64 s.f0) ∧ W.cell? ⟨bs, 1, none⟩ = some (.bool s.f1) ∧ W.cell? ⟨gb, u, none⟩ = some (.int .i64 c) ∧ Below wb.heap.size wb W :=
  have hf := Fr.of_below hb (fun _ => False)
  ⟨hf.cell h0 (fun a => a), hf.cell h1 (fun a => a), hf.cell k0 (fun a => a), hb⟩
/-- The first turn whose sweep turns nothing. -/
def PotPost (n : Nat) (A : Nat → Ar) (all : List Stp) (w : World) (e : Ending) (w' : World) : Prop :=
  (∃ j, j ≤ n ∧ FeasL A all (swpPs A all j) ∧ (∀ i, i < j → ¬ FeasL A all (swpPs A all i)) ∧ e = .returned (.tuple #[.slice (some ⟨w.heap.size, 0, none⟩) n n, .bool true]) ∧ TI w' w.heap.size n (fun v => swpPs A all j v)) ∨
  ((∀ i, i ≤ n → ¬ FeasL A all (swpPs A all i)) ∧ e = .returned (.tuple #[.slice none 0 0, .bool false]))
section
variable {g : Nat} {A1 : Option Addr} {c1 : Nat} {A2 : Option Addr} {c2 : Nat} {n m : Nat} {A : Nat → Ar} {x : Nat → Int}
set_option maxRecDepth 100000 in
set_option maxHeartbeats 8000000 in
theorem potentials_any (w : World) (hN : NM w g A1 c1 A2 c2 (n : Int) m A x) (hok : NetOk n m A) (hx : Valid m A x) :
    Calls Try.prog 90 #[.pointer (some ⟨g, 0, none⟩)] w fun e w' => PotPost n A (stepsF A x m) w e w' ∧ Below w.heap.size w w' := by
  have hu := Try.underlying145
  have hn1 := hok.n1
  have hn2 := hok.n2
  have hmk := make_int w (n := n) (by omega)
  have hB1 := below_alloc (Below.refl w.heap.size w) (.cells (madeCells #[.int .i64 0] n) 3 (0, 0))
  have hT1 : TI (w.alloc (.cells (madeCells #[.int .i64 0] n) 3 (0, 0))) w.heap.size n (fun v => swpPs A (stepsF A x m) 0 v) := TV.made w (.int .i64 0) 3 n
  have p0 := Blk.cell hN.blk 0 rfl
  have HST := Lib.hid (steps_any _ (hN.below hB1) (by have := hok.m1; omega) hok.cap hx)
  have HN := Lib.hid hN
  have HT := Lib.hid hT1
  have HB := Lib.hid hB1
  have HO := Lib.hid hok
  have HN2 := Lib.hid hn2
  have HX := Lib.hid hx
  clear hN hT1 hB1 hok hx hn1 hn2
  go_enter Try.func90, Try.ntmps90
  go_wp2_with fail
  refine HST.out.mono ?_
  rintro e w2 ⟨v, rfl, hR, hb2⟩
  obtain ⟨AS, cS, rfl, hlS, hCS⟩ := Kd.R_reads hR
  have HCS : Hid (∀ W, Fr (fun b => b = w.heap.size) w2 W → Kd.C k145 W AS (stepsF A x m).length (stepsF A x m)) := Lib.hid (fun W hW => by
    have hR9 := Kd.R_move (w1 := W) (Kd.R_bound hR) (fun k hk => hW.block k hk.2.2.1 (fun hf => by have := hk.2.1; simp at this; omega))
    obtain ⟨A', c', he, _, hC⟩ := Kd.R_reads hR9
    simp only [Value.slice.injEq] at he
    obtain ⟨rfl, _, _⟩ := he
    exact hC)
  have HT2 := Lib.hid (TV.below HT.out hb2)
  have hB2 := below_u HB.out hb2
  have p1 := Blk.cell (HN.out.below hB2).blk 0 rfl
  have HB2 := Lib.hid hB2
  have HSt := Lib.hid (HO.out.steps x)
  have HLEN := Lib.hid (stepsF_len A x m)
  have hw0 : IntKind.i64.wrap ((n : Int) + 1) = n + 1 := IntWalk.i64_in _ (by have := HN2.out; omega)
  have HPB : Hid (PB n (swpPs A (stepsF A x m) 0) 0) := Lib.hid (PB.zero n)
  clear hR hlS hCS hb2 hB2 HST p0 hmk HT HB
  generalize hall : stepsF A x m = all at *
  have HALL := Lib.hid hall
  clear hall
  go_wp2_with fail
  go_loopg [6, 22] (n + 1) (fun k v6 v22 wq => ∃ j : Nat, v22 = .int .i64 j ∧ Hid (j + k = n + 1) ∧ Hid (∀ i, i < j → ¬ FeasL A all (swpPs A all i)) ∧ Hid (PB n (swpPs A all j) (j * all.length)) ∧ Hid (TI wq w.heap.size n (fun v => swpPs A all j v)) ∧ Hid (Fr (fun b => b = w.heap.size) w2 wq))
  case atStart => exact ⟨0, rfl, Lib.hid (by omega), Lib.hid (fun i hi => absurd hi (by omega)), Lib.hid (by rw [Nat.zero_mul]; exact HPB.out), HT2, Lib.hid (Fr.refl _ _)⟩
  case round =>
    clear HT2 HPB p1 hw0
    obtain ⟨j, rfl, HJ, HNO, HPJ, HTJ, HFJ⟩ := hrel
    by_cases hj : j < n + 1
    · have hj0 : (j : Int) < (n : Int) + 1 := by omega
      have hwj : IntKind.i64.wrap ((j : Int) + 1) = j + 1 := IntWalk.i64_in _ (by have := HN2.out; omega)
      have HJL := Lib.hid hj
      clear hj
      generalize hp : swpPs A all j = P0 at *
      have HP0 := Lib.hid hp
      clear hp
      go_wp2_with fail
      go_loopg [6, 26] all.length (fun k v6 v26 wv => ∃ t : Nat, v26 = .int .i64 t ∧ v6 = .bool (swpQ A P0 false (all.take t)).2 ∧ Hid (t + k = all.length) ∧ Hid (PB n (swpQ A P0 false (all.take t)).1 (j * all.length + t)) ∧ Hid (TI wv w.heap.size n (fun v => (swpQ A P0 false (all.take t)).1 v)) ∧ Hid (Fr (fun b => b = w.heap.size) w2 wv))
      case atStart => exact ⟨0, rfl, rfl, Lib.hid (by omega), HPJ, HTJ, HFJ⟩
      case round =>
        clear HTJ HFJ HPJ
        obtain ⟨t, rfl, rfl, HTK, HPT, HTT, HFT⟩ := hrel
        obtain ⟨wv, rfl⟩ : ∃ wv : World, wv = wr := ⟨_, rfl⟩
        by_cases hlt : t < all.length
        · obtain ⟨s, hs⟩ : ∃ s, all[t]? = some s := ⟨_, List.getElem?_eq_getElem hlt⟩
          have ht0 : (t : Int) < all.length := by omega
          have hC := HCS.out wv HFT.out
          obtain ⟨ad, rfl, k0, k1⟩ := at_T145 hC (t : Int) (by omega) ht0
          have es : rd_T145 all (t : Int) = s := by unfold rd_T145; rw [Int.toNat_natCast, List.getD_eq_getElem?_getD, hs]; rfl
          rw [es, Int.toNat_natCast] at k0 k1
          have hm := List.mem_of_getElem? hs
          have hSW : swpQ A P0 false (all.take (t + 1)) = (relP A (swpQ A P0 false (all.take t)).1 s, (swpQ A P0 false (all.take t)).2 || hitP A (swpQ A P0 false (all.take t)).1 s) := by
            rw [← swpQ_snoc, List.take_succ_eq_append_getElem hlt, (List.getElem?_eq_some_iff.1 hs).2]
          have HNX := Lib.hid hSW
          have HM := Lib.hid hm
          have hw : IntKind.i64.wrap ((t : Int) + 1) = t + 1 := IntWalk.i64_in _ (by have := HLEN.out; have := HO.out.m1; omega)
          clear hs hC es hSW hm
          generalize (swpQ A P0 false (all.take t)).1 = Pt at *
          generalize (swpQ A P0 false (all.take t)).2 = bt at *
          obtain ⟨a1, a2, a3, a4, a5, a6, a7⟩ := HSt.out s HM.out
          have hrs := (mem_stepsF.1 (by rw [HALL.out]; exact HM.out : s ∈ stepsF A x m)).1
          have HRS := Lib.hid hrs
          have HA := Lib.hid (show (frm A s).toNat < n ∧ (tow A s).toNat < n ∧ ((frm A s).toNat : Int) = frm A s ∧ ((tow A s).toNat : Int) = tow A s by omega)
          have HLT2 := Lib.hid hlt
          have HCO := Lib.hid (HO.out.cost s.f0.toNat (by omega))
          have hbd := HPT.out _ a1 a2
          have hkk : j * all.length + t ≤ 33 * 256 + 256 := by
            have h1 := HLEN.out
            have h2 := HO.out.m1
            have h3 := HJL.out
            have h4 := HN2.out
            have h5 : j * all.length ≤ 33 * 256 := Nat.mul_le_mul (by omega) (by omega)
            omega
          have hw3 : IntKind.i64.wrap (Pt (frm A s) + cst A s) = Pt (frm A s) + cst A s := IntWalk.i64_in _ (by omega)
          have HPR := Lib.hid (HPT.out.rel HSt.out HM.out)
          clear a5 a6 a7 hrs hlt hbd hkk
          go_upto_region 9 with (fail)
          have hal := below_alloc (Below.refl wv.heap.size wv) (.cells #[.int .i64 s.f0, .bool s.f1] 145)
          have hA4 := Blk.new wv #[.int .i64 s.f0, .bool s.f1] 145
          generalize wv.alloc (.cells #[.int .i64 s.f0, .bool s.f1] 145) = wb at *
          have HF4 := Lib.hid (HFT.out.below hal)
          have hT4 := TV.below HTT.out hal
          have HN4 := Lib.hid ((HN.out.below ((Fr.trans (Fr.of_below HB2.out (fun _ => False)) HFT.out (fun z hz => .inr (by omega))).none_below)).below hal)
          have l0 : wb.cell? ⟨w.heap.size, (frm A s).toNat, none⟩ = some (.int .i64 (Pt (frm A s))) := by have := TV.cell hT4 HA.out.1; simp only [HA.out.2.2.1] at this; exact this
          have c0 := Blk.cell hA4 0 (v := .int .i64 s.f0) rfl
          have c1 := Blk.cell hA4 1 (v := .bool s.f1) rfl
          have HA4 := Lib.hid hA4
          have HT4 := Lib.hid hT4
          clear hal hA4 hT4 k0 k1
          go_cut [9] (fun s9 wx => s9 = .int .i64 (Pt (frm A s) + cst A s) ∧ Below wb.heap.size wb wx)
          case first =>
            have S0 := keepW c0 c1 l0 ((Below.refl _ wb).drew)
            have r0 := HRS.out.1
            have r1 := HRS.out.2
            go_region_held3 (fun w' => w'.cell? ⟨wv.heap.size, 0, none⟩ = some (.int .i64 s.f0) ∧ w'.cell? ⟨wv.heap.size, 1, none⟩ = some (.bool s.f1) ∧ w'.cell? ⟨w.heap.size, (frm A s).toNat, none⟩ = some (.int .i64 (Pt (frm A s))) ∧ Below wb.heap.size wb w')
              (first | (with_reducible exact S0) | (with_reducible exact S8) | (with_reducible exact S5) | (trace_state; fail))
              (first
                | (go_at_call 87; refine (from_any wb.drew (HN4.out.below S0.2.2.2) s r0 r1).mono ?_; rintro e w7 ⟨rfl, hb7⟩; have S5 := keepW c0 c1 l0 (S0.2.2.2.trans hb7))
                | (go_at_call 93; refine (cost_any w7 (HN4.out.below S5.2.2.2) s r0 r1 HCO.out).mono ?_; rintro e w8 ⟨rfl, hb8⟩; have S8 := keepW c0 c1 l0 (S5.2.2.2.trans (hb8.mono S5.2.2.2.size))))
            all_goals
              go_wp2_with fail
              go_meet
              exact ⟨rfl, S8.2.2.2⟩
          case rest =>
            obtain ⟨rfl, hbw⟩ := hcut
            obtain ⟨wd, rfl⟩ : ∃ wd : World, wd = wc := ⟨_, rfl⟩
            have HFW := Lib.hid (HF4.out.below hbw)
            have hTW := TV.below HT4.out hbw
            have HTW := Lib.hid hTW
            have hA5 := HA4.out.fr (Fr.of_below hbw (fun _ => False)) (fun a => a)
            have d0 := Blk.cell hA5 0 (v := .int .i64 s.f0) rfl
            have d1 := Blk.cell hA5 1 (v := .bool s.f1) rfl
            have HA5 := Lib.hid hA5
            have HN5 := Lib.hid (HN4.out.below hbw)
            have HTO := Lib.hid (to_any wd HN5.out s HRS.out.1 HRS.out.2)
            clear hA5 hTW hbw HN4 HA4 HF4 HT4 l0 c0 c1
            have g2 := HA.out.2.1
            by_cases hh : Pt (frm A s) + cst A s < Pt (tow A s)
            · have e1 : decide (Pt (frm A s) + cst A s < Pt (tow A s)) = true := decide_eq_true hh
              have HNX2 : Hid (swpQ A P0 false (all.take (t + 1)) = (upd Pt (tow A s) (Pt (frm A s) + cst A s), true)) := Lib.hid (by
                have h1 : hitP A Pt s = true := decide_eq_true hh
                have h2 : relP A Pt s = upd Pt (tow A s) (Pt (frm A s) + cst A s) := if_pos hh
                rw [HNX.out, h1, h2, Bool.or_true])
              have HRE : Hid (relP A Pt s = upd Pt (tow A s) (Pt (frm A s) + cst A s)) := Lib.hid (if_pos hh)
              clear hh
              go_wp2_with fail
              refine HTO.out.mono ?_
              rintro e w3 ⟨rfl, hb3⟩
              have q0 : w3.cell? ⟨w.heap.size, (tow A s).toNat, none⟩ = some (.int .i64 (Pt (tow A s))) := by have := TV.cell (TV.below HTW.out hb3) HA.out.2.1; simp only [HA.out.2.2.2] at this; exact this
              have hA6 := HA5.out.fr (Fr.of_below hb3 (fun _ => False)) (fun a => a)
              have d0 := Blk.cell hA6 0 (v := .int .i64 s.f0) rfl
              have d1 := Blk.cell hA6 1 (v := .bool s.f1) rfl
              have HTO2 := Lib.hid (to_any w3 (HN5.out.below hb3) s HRS.out.1 HRS.out.2)
              have HB3 := Lib.hid hb3
              clear hA6 hb3 HTO
              go_wp2_with fail
              refine HTO2.out.mono ?_
              rintro e w4 ⟨rfl, hb4⟩
              have hb5 := below_u HB3.out hb4
              have hT5 := TV.below HTW.out hb5
              have q1 : w4.cell? ⟨w.heap.size, (tow A s).toNat, none⟩ = some (.int .i64 (Pt (tow A s))) := by have := TV.cell hT5 HA.out.2.1; simp only [HA.out.2.2.2] at this; exact this
              have q2 := TV.free hT5 (tow A s).toNat
              have HF5 := Lib.hid ((HFW.out.below hb5).setCell (p := ⟨w.heap.size, (tow A s).toNat, none⟩) (.inl rfl) (.int .i64 (Pt (frm A s) + cst A s)))
              have HT6 : Hid (TI (w4.setCell ⟨w.heap.size, (tow A s).toNat, none⟩ (.int .i64 (Pt (frm A s) + cst A s))) w.heap.size n (fun v => upd Pt (tow A s) (Pt (frm A s) + cst A s) v)) := Lib.hid ((TI.set hT5 (tow A s).toNat (Pt (frm A s) + cst A s)).congr fun v hv => by
                simp only [setN, upd]
                have := HA.out.2.2.2
                by_cases e : v = (tow A s).toNat
                · rw [if_pos e, if_pos (show (v : Int) = tow A s by omega)]
                · rw [if_neg e, if_neg (show ¬ (v : Int) = tow A s by omega)])
              clear hT5 hb5 hb4 HTO2
              go_wp2_with fail
              go_roundg (all.length - (t + 1))
              case measure => have := HTK.out; have := HLT2.out; omega
              case rel => exact ⟨t + 1, by go_num, by rw [HNX2.out], Lib.hid (by have := HTK.out; have := HLT2.out; omega), Lib.hid (by rw [HNX2.out, ← HRE.out]; exact HPR.out), Lib.hid (by rw [HNX2.out]; exact HT6.out), HF5⟩
            · have e1 : decide (Pt (frm A s) + cst A s < Pt (tow A s)) = false := decide_eq_false hh
              have HRE : Hid (relP A Pt s = Pt) := Lib.hid (if_neg hh)
              have HNX2 : Hid (swpQ A P0 false (all.take (t + 1)) = (Pt, bt)) := Lib.hid (by
                have h1 : hitP A Pt s = false := decide_eq_false hh
                rw [HNX.out, h1, HRE.out, Bool.or_false])
              clear hh
              go_wp2_with fail
              refine HTO.out.mono ?_
              rintro e w3 ⟨rfl, hb3⟩
              have q0 : w3.cell? ⟨w.heap.size, (tow A s).toNat, none⟩ = some (.int .i64 (Pt (tow A s))) := by have := TV.cell (TV.below HTW.out hb3) HA.out.2.1; simp only [HA.out.2.2.2] at this; exact this
              have HB3 := Lib.hid hb3
              clear hb3 HTO
              go_wp2_with fail
              go_roundg (all.length - (t + 1))
              case measure => have := HTK.out; have := HLT2.out; omega
              case rel => exact ⟨t + 1, by go_num, by rw [HNX2.out], Lib.hid (by have := HTK.out; have := HLT2.out; omega), Lib.hid (by rw [HNX2.out, ← HRE.out]; exact HPR.out), Lib.hid (by rw [HNX2.out]; exact TV.below HTW.out HB3.out), Lib.hid (HFW.out.below HB3.out)⟩
        · have hE : all.take t = all := List.take_of_length_le (by omega)
          have ht : t = all.length := by have := HTK.out; omega
          rw [hE] at HPT HTT ⊢
          have HX1 : Hid ((swpQ A P0 false all).1 = swpPs A all (j + 1)) := Lib.hid (by rw [swpQ_fst]; show swpP A all P0 = swpP A all (swpPs A all j); rw [HP0.out])
          have HX2 := Lib.hid (swpQ_false A all P0 false)
          have HTE := Lib.hid ht
          clear hE ht
          cases hb : (swpQ A P0 false all).2 with
          | true =>
            have HNF : Hid (¬ FeasL A all P0) := Lib.hid (fun h => by
              have := HX2.out.2 ⟨rfl, h⟩
              rw [hb] at this; exact absurd this (by simp))
            clear hb
            go_wp2_with fail
            go_roundg (n + 1 - (j + 1))
            case measure => have := HJ.out; have := HJL.out; omega
            case rel =>
              refine ⟨j + 1, by go_num, Lib.hid (by have := HJL.out; omega), Lib.hid (fun i hi => ?_), Lib.hid ?_, Lib.hid (by rw [← HX1.out]; exact HTT.out), HFT⟩
              · rcases Nat.lt_or_ge i j with h | h
                · exact HNO.out i h
                · have e : i = j := by omega
                  rw [e, HP0.out]; exact HNF.out
              · rw [← HX1.out, Nat.add_mul, Nat.one_mul]
                have := HPT.out
                rw [HTE.out] at this
                exact this
          | false =>
            have HFE := Lib.hid (HX2.out.1 hb)
            have HXP : Hid ((swpQ A P0 false all).1 = P0) := Lib.hid (by rw [swpQ_fst]; exact swpP_fix HFE.out.2)
            clear hb
            go_wp2_with fail
            refine bodyPost_ret (v := .tuple #[.slice (some ⟨w.heap.size, 0, none⟩) n n, .bool true]) (by simp [results, Try.results90, go_sem]) rfl ⟨.inl ⟨j, by have := HJL.out; omega, ?_, fun i hi => ?_, rfl, ?_⟩, ?_⟩
            · rw [HALL.out, HP0.out]; exact HFE.out.2
            · rw [HALL.out]; exact HNO.out i hi
            · rw [HALL.out, HP0.out, ← HXP.out]; exact HTT.out
            · exact (Fr.trans (Fr.of_below HB2.out (fun _ => False)) HFT.out (fun z hz => .inr (by omega))).none_below
    · have HE : Hid (j = n + 1) := Lib.hid (by have := HJ.out; omega)
      have hj0 : ¬ (j : Int) < (n : Int) + 1 := by omega
      go_wp2_with fail
      refine bodyPost_ret (v := .tuple #[.slice none 0 0, .bool false]) (by simp [results, Try.results90, go_sem]) rfl ⟨.inr ⟨fun i hi => by rw [HALL.out]; exact HNO.out i (by have := HE.out; omega), rfl⟩, ?_⟩
      exact (Fr.trans (Fr.of_below HB2.out (fun _ => False)) HFJ.out (fun z hz => .inr (by omega))).none_below
end
end Go.Proofs.Ytcobihdjcdefmaa
namespace Go.Proofs.Ytcobihdjcdefmaa
open PAccountsCompress
open Go.RowKit Go.Proofs.YtcobihdjcdefmaaW.PrintWords
theorem costF_abs {m : Nat} {A : Nat → Ar} {x : Nat → Int} (hx : ∀ i, i < m → 0 ≤ x i ∧ x i ≤ 1099511627776) (hc : ∀ i, i < m → -32768 ≤ (A i).f3 ∧ (A i).f3 ≤ 32768) : ∀ i, i ≤ m → -(i * 36028797018963968) ≤ costF i A x ∧ costF i A x ≤ i * 36028797018963968
  | 0, _ => by simp [costF, sumN]
  | i + 1, hi => by
    have ih := costF_abs (A := A) hx hc i (by omega)
    obtain ⟨h1, h2⟩ := hx i (by omega)
    obtain ⟨h3, h4⟩ := hc i (by omega)
    have e : costF (i + 1) A x = costF i A x + (A i).f3 * x i := rfl
    have a1 : (A i).f3 * x i ≤ 32768 * x i := Int.mul_le_mul_of_nonneg_right h4 h1
    have a2 : -32768 * x i ≤ (A i).f3 * x i := Int.mul_le_mul_of_nonneg_right h3 h1
    rw [e]
    omega
section
variable {g : Nat} {A1 : Option Addr} {c1 : Nat} {A2 : Option Addr} {c2 : Nat} {n : Int} {m : Nat} {A : Nat → Ar} {x : Nat → Int}
set_option maxRecDepth 100000 in
set_option maxHeartbeats 4000000 in
theorem total_any (w : World) (hN : NM w g A1 c1 A2 c2 n m A x) (hm : m ≤ 128) (hx : ∀ i, i < m → 0 ≤ x i ∧ x i ≤ 1099511627776) (hc : ∀ i, i < m → -32768 ≤ (A i).f3 ∧ (A i).f3 ≤ 32768) :
    Calls Try.prog 65 #[.pointer (some ⟨g, 0, none⟩)] w fun e w' => e = .returned (.int .i64 (costF m A x)) ∧ Below w.heap.size w w' := by
  have hu := Try.underlying69
  have p0 := Blk.cell hN.blk 1 rfl
  have HN := Lib.hid hN
  have HX := Lib.hid hx
  have HC := Lib.hid hc
  have HM := Lib.hid hm
  clear hN hx hc hm
  go_enter Try.func65, Try.ntmps65
  go_wp2_with fail
  go_loopg [3, 11] m (fun k v3 v11 wr => ∃ i : Nat, v11 = .int .i64 i ∧ v3 = .int .i64 (costF i A x) ∧ Hid (i + k = m) ∧ Hid (Below w.heap.size w wr))
  case atStart => exact ⟨0, rfl, rfl, Lib.hid (by omega), Lib.hid (Below.refl _ _)⟩
  case round =>
    clear p0
    obtain ⟨i, rfl, rfl, HI, HB⟩ := hrel
    obtain ⟨wv, rfl⟩ : ∃ wv : World, wv = wr := ⟨_, rfl⟩
    by_cases hlt : i < m
    · have hi0 : (i : Int) < m := by omega
      have hNr := HN.out.below HB.out
      obtain ⟨ad, rfl, k0, k1, k2, k3⟩ := hNr.arc (i : Int) (by omega) hi0
      rw [Int.toNat_natCast] at k0 k1 k2 k3
      have hb0 := costF_abs (A := A) HX.out HC.out i (by omega)
      have hb1 := costF_abs (A := A) HX.out HC.out (i + 1) (by omega)
      have hmm := HM.out
      have e : costF (i + 1) A x = costF i A x + (A i).f3 * x i := rfl
      have ec : x i * (A i).f3 = (A i).f3 * x i := Int.mul_comm _ _
      have hw : IntKind.i64.wrap ((i : Int) + 1) = i + 1 := IntWalk.i64_in _ (by omega)
      have hw1 : IntKind.i64.wrap (x i * (A i).f3) = x i * (A i).f3 := IntWalk.i64_in _ (by rw [ec]; omega)
      have hw2 : IntKind.i64.wrap (costF i A x + x i * (A i).f3) = costF i A x + x i * (A i).f3 := IntWalk.i64_in _ (by rw [ec]; omega)
      have HE := Lib.hid (show costF i A x + x i * (A i).f3 = costF (i + 1) A x by rw [e, ec])
      have HL := Lib.hid hi0
      clear hb0 hb1 hmm e ec hNr
      go_upto_region 5 with (fail)
      have hal := below_alloc (Below.refl wv.heap.size wv) (.cells #[.int .i64 (A i).f0, .int .i64 (A i).f1, .int .i64 (A i).f2, .int .i64 (A i).f3] 69)
      have hA4 := Blk.new wv #[.int .i64 (A i).f0, .int .i64 (A i).f1, .int .i64 (A i).f2, .int .i64 (A i).f3] 69
      generalize wv.alloc (.cells #[.int .i64 (A i).f0, .int .i64 (A i).f1, .int .i64 (A i).f2, .int .i64 (A i).f3] 69) = wa at *
      have hB4 := below_u HB.out hal
      have hN4 := HN.out.below hB4
      obtain ⟨ad2, rfl, k4⟩ := hN4.amt (i : Int) (by omega) HL.out
      rw [Int.toNat_natCast] at k4
      have p2 := Blk.cell hN4.blk 2 rfl
      have r3 := Blk.cell hA4 3 (v := .int .i64 (A i).f3) rfl
      have HB4 := Lib.hid hB4
      clear hN4 hA4 hal hB4 k0 k1 k2 k3
      go_quiet (fail)
      go_wp2_with fail
      go_roundg (m - (i + 1))
      case measure => have := HI.out; omega
      case rel => exact ⟨i + 1, by go_num, by rw [HE.out], Lib.hid (by have := HI.out; have := HL.out; omega), Lib.hid (by first | exact pw_below_drewN HB4.out _ | (apply pw_below_drewN; exact HB4.out))⟩
    · have HE : Hid (i = m) := Lib.hid (by have := HI.out; omega)
      go_wp2_with fail
      go_ret
      exact ⟨by rw [← HE.out]; rfl, HB.out⟩
end
end Go.Proofs.Ytcobihdjcdefmaa
namespace Go.Proofs.Ytcobihdjcdefmaa
open PAccountsCompress
open Go.RowKit Go.Proofs.YtcobihdjcdefmaaW.PrintWords
end Go.Proofs.Ytcobihdjcdefmaa
namespace Go.Proofs.Ytcobihdjcdefmaa
open PAccountsCompress
open Go.RowKit Go.Proofs.YtcobihdjcdefmaaW.PrintWords
/-- An array of steps in a block of its own (which may have more cells). -/
def TS (w : World) (g n : Nat) (f : Nat → Stp) : Prop := ∃ cs, Blk w g cs 145 ∧ ∀ i, i < n → cs[i * 2]? = some (.int .i64 (f i).f0) ∧ cs[i * 2 + 1]? = some (.bool (f i).f1)
def setS (f : Nat → Stp) (i : Nat) (s : Stp) : Nat → Stp := fun j => if j = i then s else f j
section
variable {w : World} {g n : Nat} {f : Nat → Stp}
theorem TS.cells (h : TS w g n f) {i : Nat} (hi : i < n) : w.cell? ⟨g, i * 2, none⟩ = some (.int .i64 (f i).f0) ∧ w.cell? ⟨g, i * 2 + 1, none⟩ = some (.bool (f i).f1) := by
  obtain ⟨cs, h1, h2⟩ := h
  exact ⟨Blk.cell h1 _ (h2 i hi).1, Blk.cell h1 _ (h2 i hi).2⟩
theorem TS.free (h : TS w g n f) (i : Nat) : w.frozen? ⟨g, i, none⟩ = false := by
  obtain ⟨cs, h1, h2⟩ := h
  exact Blk.free h1 i
theorem TS.fr {F : Nat → Prop} {w' : World} (h : TS w g n f) (hf : Fr F w w') (hn : ¬ F g) : TS w' g n f := by
  obtain ⟨cs, h1, h2⟩ := h
  exact ⟨cs, Blk.fr h1 hf hn, h2⟩
theorem TS.below {w' : World} (h : TS w g n f) (hb : Below w.heap.size w w') : TS w' g n f := h.fr (Fr.of_below hb (fun _ => False)) (fun a => a)
theorem TS.lt (h : TS w g n f) : g < w.heap.size := by
  obtain ⟨cs, h1, h2⟩ := h
  exact Blk.lt h1
theorem TS.congr {f' : Nat → Stp} (h : TS w g n f) (e : ∀ i, i < n → f i = f' i) : TS w g n f' := by
  obtain ⟨cs, h1, h2⟩ := h
  exact ⟨cs, h1, fun i hi => by rw [← e i hi]; exact h2 i hi⟩
theorem TS.set (h : TS w g n f) (i : Nat) (s : Stp) : TS ((w.setCell ⟨g, i * 2, none⟩ (.int .i64 s.f0)).setCell ⟨g, i * 2 + 1, none⟩ (.bool s.f1)) g n (setS f i s) := by
  obtain ⟨cs, h1, h2⟩ := h
  refine ⟨_, Blk.set (Blk.set h1 _ _) _ _, fun u hu => ?_⟩
  obtain ⟨a0, a1⟩ := h2 u hu
  unfold setS
  by_cases e : u = i
  · subst e
    rw [if_pos rfl]
    exact ⟨by rw [set_get _ _ _ _ (.int .i64 s.f0) (by rw [set_get _ _ _ _ _ a0, if_pos rfl]), if_neg (by omega)], by rw [set_get _ _ _ _ _ (by rw [set_get _ _ _ _ _ a1, if_neg (by omega)]), if_pos rfl]⟩
  · rw [if_neg e]
    exact ⟨by rw [set_get _ _ _ _ _ (by rw [set_get _ _ _ _ _ a0, if_neg (by omega)]), if_neg (by omega)], by rw [set_get _ _ _ _ _ (by rw [set_get _ _ _ _ _ a1, if_neg (by omega)]), if_neg (by omega)]⟩
end
theorem R_TS {w : World} {base : Nat} {ok : Nat → Prop} {v : Value} {xs : List Stp} (h : Kd.R k145 145 w base ok v xs) (hp : 0 < xs.length) : ∃ b c, v = .slice (some ⟨b, 0, none⟩) xs.length c ∧ ok b ∧ TS w b xs.length (fun i => xs.getD i z145) := by
  obtain ⟨b, c, e, h1, h2, cells, hc⟩ := Kd.R_form h hp
  subst e
  refine ⟨b, c, rfl, h.1 b (by simp [Value.ownBlock]), cells, hc, fun i hi => ?_⟩
  obtain ⟨_, _, hC⟩ := Kd.R_reads' h
  obtain ⟨ad, e, k0, k1⟩ := at_T145 hC (i : Int) (by omega) (by omega)
  obtain rfl : (⟨b, 0, none⟩ : Addr) = ad := by injection e
  rw [Int.toNat_natCast] at k0 k1
  have ea : (⟨b, 0, none⟩ : Addr).add (i * 2) = ⟨b, i * 2, none⟩ := by
    unfold Addr.add
    split
    · next h => rw [h]
    · simp
  rw [ea] at k0 k1
  have e3 : rd_T145 xs (i : Int) = xs.getD i z145 := by unfold rd_T145; rw [Int.toNat_natCast]
  rw [e3] at k0 k1
  simp only [World.cell?, hc] at k0 k1
  exact ⟨by simpa using k0, by simpa using k1⟩
/-- The first k and the last k of n turned about. -/
def revK (f : Nat → Stp) (n k : Nat) : Nat → Stp := fun i => if i < k ∨ n - k ≤ i then f (n - 1 - i) else f i
theorem revK_next (f : Nat → Stp) {n k : Nat} (h : 2 * k + 1 < n) : ∀ i, i < n → setS (setS (revK f n k) k (revK f n k (n - 1 - k))) (n - 1 - k) (revK f n k k) i = revK f n (k + 1) i := fun i hi => by
  have e1 : revK f n k (n - 1 - k) = f (n - 1 - k) := if_neg (by omega)
  have e2 : revK f n k k = f k := if_neg (by omega)
  rw [e1, e2]
  unfold setS
  by_cases c1 : i = n - 1 - k
  · rw [if_pos c1]
    unfold revK
    rw [if_pos (by omega), c1]
    congr 1
    omega
  · rw [if_neg c1]
    by_cases c2 : i = k
    · rw [if_pos c2]
      unfold revK
      rw [if_pos (by omega), c2]
    · rw [if_neg c2]
      unfold revK
      by_cases c3 : i < k ∨ n - k ≤ i
      · rw [if_pos c3, if_pos (by omega)]
      · rw [if_neg c3, if_neg (by omega)]
theorem revK_end (f : Nat → Stp) {n k : Nat} (h : n ≤ 2 * k + 1) : ∀ i, i < n → revK f n k i = f (n - 1 - i) := fun i hi => by
  unfold revK
  by_cases c : i < k ∨ n - k ≤ i
  · rw [if_pos c]
  · rw [if_neg c]; congr 1; omega
set_option maxRecDepth 100000 in
set_option maxHeartbeats 4000000 in
theorem reverse_any (w : World) (b n c : Nat) (f : Nat → Stp) (hT : TS w b n f) (hn : n ≤ 100000) (h1 : 1 ≤ n) :
    Calls Try.prog 96 #[.slice (some ⟨b, 0, none⟩) n c] w fun e w' => (∃ v, e = .returned v) ∧ TS w' b n (fun i => f (n - 1 - i)) ∧ Fr (fun k => k = b) w w' := by
  have hu := Try.underlying145
  have HT := Lib.hid hT
  have HN := Lib.hid hn
  have H1 := Lib.hid h1
  have hw0 : IntKind.i64.wrap ((n : Int) - 1) = n - 1 := IntWalk.i64_in _ (by omega)
  clear hT hn h1
  go_enter Try.func96, Try.ntmps96
  go_wp2_with fail
  go_loopg [2, 3] n (fun k v2 v3 wr => ∃ i : Nat, v2 = .int .i64 i ∧ v3 = .int .i64 ((n : Int) - 1 - i) ∧ Hid (i + k = n) ∧ Hid (TS wr b n (revK f n i)) ∧ Hid (Fr (fun k => k = b) w wr))
  case atStart => exact ⟨0, rfl, by go_num, Lib.hid (by omega), Lib.hid (HT.out.congr fun i hi => (if_neg (by omega)).symm), Lib.hid (Fr.refl _ _)⟩
  case round =>
    clear HT hw0
    obtain ⟨i, rfl, rfl, HI, HT, HF⟩ := hrel
    obtain ⟨wv, rfl⟩ : ∃ wv : World, wv = wr := ⟨_, rfl⟩
    by_cases hlt : (i : Int) < (n : Int) - 1 - i
    · have hk : 2 * i + 1 < n := by omega
      have HK := Lib.hid hk
      obtain ⟨j, hj⟩ : ∃ j : Nat, j = n - 1 - i := ⟨_, rfl⟩
      have ej : (n : Int) - 1 - i = j := by omega
      obtain ⟨a0, a1⟩ := TS.cells HT.out (i := i) (by omega)
      obtain ⟨b0, b1⟩ := TS.cells HT.out (i := j) (by omega)
      have f0 := TS.free HT.out (i * 2)
      have f1 := TS.free HT.out (i * 2 + 1)
      have f2 := TS.free HT.out (j * 2)
      have f3 := TS.free HT.out (j * 2 + 1)
      have hi0 : (i : Int) < n := by omega
      have hj0 : (j : Int) < n := by omega
      have hw1 : IntKind.i64.wrap ((i : Int) + 1) = i + 1 := IntWalk.i64_in _ (by have := HN.out; omega)
      have hw2 : IntKind.i64.wrap ((j : Int) - 1) = j - 1 := IntWalk.i64_in _ (by have := HN.out; omega)
      rw [ej] at hlt ⊢
      have HJ := Lib.hid hj
      have hne : i ≠ j := by omega
      have HT5 : Hid (TS ((((wv.setCell ⟨b, i * 2, none⟩ (.int .i64 (revK f n i j).f0)).setCell ⟨b, i * 2 + 1, none⟩ (.bool (revK f n i j).f1)).setCell ⟨b, j * 2, none⟩ (.int .i64 (revK f n i i).f0)).setCell ⟨b, j * 2 + 1, none⟩ (.bool (revK f n i i).f1)) b n (revK f n (i + 1))) := Lib.hid ((TS.set (TS.set HT.out i (revK f n i j)) j (revK f n i i)).congr fun u hu => by rw [hj]; exact revK_next f hk u hu)
      have HF5 := Lib.hid ((((HF.out.setCell (p := ⟨b, i * 2, none⟩) (.inl rfl) (.int .i64 (revK f n i j).f0)).setCell (p := ⟨b, i * 2 + 1, none⟩) (.inl rfl) (.bool (revK f n i j).f1)).setCell (p := ⟨b, j * 2, none⟩) (.inl rfl) (.int .i64 (revK f n i i).f0)).setCell (p := ⟨b, j * 2 + 1, none⟩) (.inl rfl) (.bool (revK f n i i).f1)).drew
      clear hk hj ej
      go_wp2_with fail
      refine calm ?_
      go_region_law (first | fail)
      all_goals
        simp only [Calm]
        go_wp2_with fail
        go_roundg (n - (i + 1))
        case measure => have := HI.out; omega
        case rel => exact ⟨i + 1, by go_num, (by (try rw [hw2]); exact congrArg (Value.int .i64) (by have := HJ.out; have := HK.out; omega)), Lib.hid (by have := HI.out; omega), HT5, HF5⟩
    · have HE : Hid (n ≤ 2 * i + 1) := Lib.hid (by omega)
      go_wp2_with fail
      first | go_end0 | ((try simp only [Exit.inBlock, Exit.then]); refine bodyPost_ret (results_none rfl _ _ _) rfl ?_)
      exact ⟨⟨_, rfl⟩, HT.out.congr (revK_end f HE.out), HF.out⟩
end Go.Proofs.Ytcobihdjcdefmaa
namespace Go.Proofs.Ytcobihdjcdefmaa
open PAccountsCompress
open Go.RowKit Go.Proofs.YtcobihdjcdefmaaW.PrintWords
theorem wayB_len (A : Nat → Ar) (L : Int → Lb) : ∀ (k : Nat) (v : Int), (wayB A L k v).length = k
  | 0, _ => rfl
  | k + 1, v => by show (wayB A L k (frm A (L v).f2)).length + 1 = k + 1; rw [wayB_len A L k]
section
variable {g : Nat} {A1 : Option Addr} {c1 : Nat} {A2 : Option Addr} {c2 : Nat} {n m : Nat} {A : Nat → Ar} {x : Nat → Int} {S : Int → Bool} {q : Int → Int} {L : Int → Lb}
set_option maxRecDepth 100000 in
set_option maxHeartbeats 4000000 in
theorem way_any (w : World) (hN : NM w g A1 c1 A2 c2 (n : Int) m A x) (hok : NetOk n m A) (bl cl : Nat) (hT : TL w bl n L) (hLI : LI n A 32768 (stepsF A x m) S q L) (hr : RestL A (stepsF A x m) L) {v : Int} (v0 : 0 ≤ v) (v1 : v < n) (vf : (L v).f0 ≠ far) (k : Nat) (hk : (L v).f1 = k) (hkp : 0 < k) (hk2 : k ≤ 1000) :
    Calls Try.prog 86 #[.pointer (some ⟨g, 0, none⟩), .int .i64 v, .slice (some ⟨bl, 0, none⟩) n cl] w fun e w' => (∃ bp cp, e = .returned (.slice (some ⟨bp, 0, none⟩) k cp) ∧ w.heap.size ≤ bp ∧ TS w' bp k (fun i => (wayB A L k v).reverse.getD i z145)) ∧ Below w.heap.size w w' := by
  have hu := Try.underlying145
  have hu5 := Try.underlying147
  have HN := Lib.hid hN
  have HO := Lib.hid hok
  have HT := Lib.hid hT
  have HLI := Lib.hid hLI
  have HR := Lib.hid hr
  have HKP := Lib.hid (And.intro hkp hk2)
  have H0 : Hid (0 ≤ v ∧ v < n ∧ (L v).f0 ≠ far ∧ (L v).f1 = (k : Int)) := Lib.hid ⟨v0, v1, vf, hk⟩
  have HP : Hid (([] : List Stp) ++ wayB A L k v = wayB A L k v) := Lib.hid rfl
  clear hN hok hT hLI hr hkp hk2 v0 v1 vf hk
  have hlen : (wayB A L k v).length = k := wayB_len A L k v
  have HL := Lib.hid hlen
  clear hlen
  have HP2 : Hid (wayB A L k v = wayB A L k v) := Lib.hid rfl
  generalize hPP : wayB A L k v = PP at *
  have HPP := Lib.hid hPP
  clear hPP
  go_enter Try.func86, Try.ntmps86
  go_wp2_with fail
  go_loopg [1, 7] (k + 1) (fun kk v1 v7 wr => ∃ (u : Int) (j : Nat) (P : List Stp), v1 = .int .i64 u ∧ Hid (kk = j + 1) ∧ Hid (0 ≤ u ∧ u < n ∧ (L u).f0 ≠ far ∧ (L u).f1 = (j : Int)) ∧ Hid (P ++ wayB A L j u = PP) ∧ Hid (Kd.R k145 145 wr w.heap.size (fun b => w.heap.size ≤ b) v7 P) ∧ Hid (Below w.heap.size w wr))
  case atStart => exact ⟨v, k, [], rfl, Lib.hid rfl, H0, Lib.hid (by rw [List.nil_append]; exact HPP.out), Lib.hid (Kd.R_nil _ _ _ _ _), Lib.hid (Below.refl _ _)⟩
  case round =>
    clear H0 HP HP2
    obtain ⟨u, j, P, rfl, HJ, HU, HP, HR7, HB⟩ := hrel
    obtain ⟨wv, rfl⟩ : ∃ wv : World, wv = wr := ⟨_, rfl⟩
    obtain ⟨a1, a2, a3, a4⟩ := HU.out
    have hTv := TL.below HT.out HB.out
    have eu : ((u.toNat : Nat) : Int) = u := by omega
    obtain ⟨k0, k1, k2, k3⟩ := TL.cells hTv (v := u.toNat) (by omega)
    rw [eu] at k0 k1 k2 k3
    rw [a4] at k1
    clear hTv eu a3 a4 k0
    cases j with
    | zero =>
      have HPE : Hid (P = PP) := Lib.hid (by have := HP.out; simpa [wayB] using this)
      have hl : 0 < P.length := by rw [HPE.out, HL.out]; exact HKP.out.1
      obtain ⟨b, c, rfl, hb0, hts⟩ := R_TS HR7.out hl
      have hPl : P.length = k := by rw [HPE.out, HL.out]
      rw [hPl] at hts ⊢
      have HRV := Lib.hid (reverse_any wv b k c _ hts (by have := HKP.out; omega) HKP.out.1)
      have HB0 := Lib.hid hb0
      clear hl hts hPl hb0
      go_wp2_with fail
      refine HRV.out.mono ?_
      rintro e w3 ⟨⟨v3, rfl⟩, ht3, hf3⟩
      have HT3 := Lib.hid ht3
      have HF3 := Lib.hid hf3
      clear ht3 hf3
      go_wp2_with fail
      go_ret
      refine ⟨⟨b, c, rfl, HB0.out, HT3.out.congr fun i hi => ?_⟩, ?_⟩
      · rw [HPE.out]
        have hl := HL.out
        rw [List.getD_eq_getElem?_getD, List.getD_eq_getElem?_getD, List.getElem?_reverse (by omega), hl]
      · exact (Fr.trans (Fr.of_below HB.out (fun _ => False)) HF3.out (fun z hz => .inr (by have := HB0.out; omega))).none_below
    | succ j =>
      obtain ⟨b1, b2, b3, b4, b5⟩ := HR.out.last HLI.out a1 a2 (by have := HU.out.2.2.2; omega)
      have hrs := (mem_stepsF.1 b1).1
      obtain ⟨d1, d2, _⟩ := HO.out.steps x _ b1
      have HNEXT : Hid (0 ≤ frm A (L u).f2 ∧ frm A (L u).f2 < n ∧ (L (frm A (L u).f2)).f0 ≠ far ∧ (L (frm A (L u).f2)).f1 = (j : Int)) := Lib.hid ⟨d1, d2, b3, by have := HU.out.2.2.2; omega⟩
      have HP3 : Hid ((P ++ [(L u).f2]) ++ wayB A L j (frm A (L u).f2) = PP) := Lib.hid (by rw [← HP.out, List.append_assoc]; rfl)
      have hpl : P.length ≤ k := by have h1 := congrArg List.length HP.out; rw [List.length_append, HL.out] at h1; omega
      have HPL := Lib.hid hpl
      have HRS := Lib.hid hrs
      have hpos : decide (0 < ((j + 1 : Nat) : Int)) = true := decide_eq_true (by omega)
      clear b1 b2 b3 b4 b5 hrs d1 d2 hpl
      go_upto_region 4 with (at_builtin; refine Kd.R_append k145 (w0 := w) w.heap.size rfl _ _ 148 145 (.agg #[.int .i64 0, .bool false]) 16 rfl Try.underlying148 info145 rfl (by decide) (by omega) u7 P (L u).f2 [.int .i64 (L u).f2.f0, .bool (L u).f2.f1] (fun b => w.heap.size ≤ b) (fun _ => False) rfl rfl (k145_mkM _ _ _ (L u).f2) (fun _ hk => hk.elim) (fun b hb => Nat.le_trans HB.out.size hb) HR7.out HB.out HB.out.size (by have := HPL.out; have := HKP.out; omega) ?_; intro v5 w5 hR5 hb5 hg5 hat5)
      have hT5 := TL.below HT.out hb5
      have eu : ((u.toNat : Nat) : Int) = u := by omega
      obtain ⟨l0, l1, l2, l3⟩ := TL.cells hT5 (v := u.toNat) (by omega)
      rw [eu] at l2 l3
      have HFR := Lib.hid (from_any w5 (HN.out.below hb5) (L u).f2 HRS.out.1 HRS.out.2)
      have HB5 := Lib.hid hb5
      have HR5 := Lib.hid hR5
      clear hT5 eu l0 l1 hb5 hR5 hg5 hat5
      try clear k0
      try clear k1
      try clear k2
      try clear k3
      go_wp2_with fail
      refine HFR.out.mono ?_
      rintro e w6 ⟨rfl, hb6⟩
      have HB6 := Lib.hid (below_u HB5.out hb6)
      have HR6 := Lib.hid (Kd.R_below HR5.out hb6)
      clear hb6
      go_wp2_with fail
      go_roundg (j + 1)
      case measure => have := HJ.out; omega
      case rel => exact ⟨frm A (L u).f2, j, P ++ [(L u).f2], rfl, Lib.hid rfl, HNEXT, HP3, HR6, HB6⟩
end
end Go.Proofs.Ytcobihdjcdefmaa
namespace Go.Proofs.Ytcobihdjcdefmaa
open PAccountsCompress
open Go.RowKit Go.Proofs.YtcobihdjcdefmaaW.PrintWords
theorem add_own (b k : Nat) : (⟨b, 0, none⟩ : Addr).add k = ⟨b, k, none⟩ := by
  unfold Addr.add
  split
  · next h => rw [h]
  · simp
theorem TS_C {w : World} {b n : Nat} {f : Nat → Stp} (h : TS w b n f) (xs : List Stp) (hl : xs.length = n) (hn : n ≤ 100000) (hf : ∀ i, i < n → f i = xs.getD i z145) : Kd.C k145 w (some ⟨b, 0, none⟩) xs.length xs := by
  refine ⟨rfl, by omega, fun _ => ⟨_, rfl, fun j p hp => ?_⟩⟩
  have hj := (List.getElem?_eq_some_iff.1 hp).1
  obtain ⟨c0, c1⟩ := TS.cells h (i := j) (by omega)
  have e : f j = p := by rw [hf j (by omega), List.getD_eq_getElem?_getD, hp]; rfl
  rw [e] at c0 c1
  refine ⟨[.int .i64 p.f0, .bool p.f1], rfl, k145_mk w p, fun i u hu => ?_⟩
  have hs : k145.sz = 2 := rfl
  rw [hs, add_own]
  match i, hu with
  | 0, hu =>
    have hu : some (Value.int .i64 p.f0) = some u := hu
    rw [← hu]; exact c0
  | 1, hu =>
    have hu : some (Value.bool p.f1) = some u := hu
    rw [← hu]; exact c1
  | i + 2, hu => simp at hu
end Go.Proofs.Ytcobihdjcdefmaa
namespace Go.Proofs.Ytcobihdjcdefmaa
open PAccountsCompress
open Go.RowKit Go.Proofs.YtcobihdjcdefmaaW.PrintWords
set_option maxRecDepth 100000 in
set_option maxHeartbeats 4000000 in
theorem same_any (w : World) (A : Option Addr) (c : Nat) (xs : List Int) (B : Option Addr) (d : Nat) (ys : List Int) (hA : Kd.C (Kd.int .i64) w A xs.length xs) (hB : Kd.C (Kd.int .i64) w B ys.length ys) (hl : xs.length ≤ 100000) :
    Calls Try.prog 16 #[.slice A xs.length c, .slice B ys.length d] w fun e w' => e = .returned (.bool (decide (xs = ys))) ∧ Below w.heap.size w w' := by
  by_cases hle : xs.length = ys.length
  · have hne : ((xs.length : Int) != (ys.length : Int)) = false := by simp [hle]
    have HA := Lib.hid hA
    have HB := Lib.hid hB
    have HL := Lib.hid hl
    have HE := Lib.hid hle
    clear hA hB hl hle
    go_enter Try.func16, Try.ntmps16
    go_wp2_with fail
    go_loopg [5] xs.length (fun k v5 wr => ∃ i : Nat, v5 = .int .i64 i ∧ Hid (i + k = xs.length) ∧ Hid (xs.take i = ys.take i) ∧ Hid (Below w.heap.size w wr))
    case atStart => exact ⟨0, rfl, Lib.hid (by omega), Lib.hid rfl, Lib.hid (Below.refl _ _)⟩
    case round =>
      obtain ⟨i, rfl, HI, HT, HW⟩ := hrel
      obtain ⟨wv, rfl⟩ : ∃ wv : World, wv = wr := ⟨_, rfl⟩
      by_cases hlt : i < xs.length
      · have h2 : i < ys.length := by have := HE.out; omega
        obtain ⟨ad, rfl, k0⟩ := Kd.at_int (Kd.C_below HA.out HW.out) (i : Int) (by omega) (by omega)
        obtain ⟨bd, rfl, k1⟩ := Kd.at_int (Kd.C_below HB.out HW.out) (i : Int) (by omega) (by omega)
        have ex : rd xs (i : Int) = xs[i] := by unfold rd; rw [Int.toNat_natCast, List.getD_eq_getElem?_getD, List.getElem?_eq_getElem hlt]; rfl
        have ey : rd ys (i : Int) = ys[i] := by unfold rd; rw [Int.toNat_natCast, List.getD_eq_getElem?_getD, List.getElem?_eq_getElem h2]; rfl
        rw [ex, Int.toNat_natCast] at k0
        rw [ey, Int.toNat_natCast] at k1
        have hi0 : (i : Int) < xs.length := by omega
        have hi1 : (i : Int) < ys.length := by omega
        have hw : IntKind.i64.wrap ((i : Int) + 1) = i + 1 := IntWalk.i64_in _ (by have := HL.out; omega)
        have HX := Lib.hid (List.take_succ_eq_append_getElem hlt)
        have HY := Lib.hid (List.take_succ_eq_append_getElem h2)
        have HXI := Lib.hid (List.getElem?_eq_getElem hlt)
        have HYI := Lib.hid (List.getElem?_eq_getElem h2)
        have HLT := Lib.hid hlt
        clear ex ey
        generalize xs[i] = a at *
        generalize ys[i] = b at *
        clear hlt h2
        by_cases he : a = b
        · subst he
          have hb : (a != a) = false := by simp
          go_wp2_with fail
          go_quiet (fail)
          go_wp2_with fail
          go_roundg (xs.length - (i + 1))
          case measure => have := HI.out; have := HLT.out; omega
          case rel => exact ⟨i + 1, by go_num, Lib.hid (by have := HI.out; have := HLT.out; omega), Lib.hid (by rw [HX.out, HY.out, HT.out]), Lib.hid (by apply pw_below_drewN; exact HW.out)⟩
        · have hb : (a != b) = true := by simpa using he
          have HN : Hid (decide (xs = ys) = false) := Lib.hid (decide_eq_false fun g => he (by
            have h1 := HXI.out
            rw [g, HYI.out] at h1
            exact (Option.some.inj h1).symm))
          clear he
          go_wp2_with fail
          go_quiet (fail)
          go_wp2_with fail
          go_ret
          exact ⟨by rw [HN.out]; rfl, by apply pw_below_drewN; exact HW.out⟩
      · have HQ : Hid (decide (xs = ys) = true) := Lib.hid (decide_eq_true (by
          have h1 := HT.out
          rwa [List.take_of_length_le (by omega), List.take_of_length_le (by have := HE.out; omega)] at h1))
        go_wp2_with fail
        go_ret
        exact ⟨by rw [HQ.out]; rfl, HW.out⟩
  · have hne : ((xs.length : Int) != (ys.length : Int)) = true := by simpa using fun g => hle (by omega)
    have HQ : Hid (decide (xs = ys) = false) := Lib.hid (decide_eq_false fun g => hle (by rw [g]))
    clear hle
    go_enter Try.func16, Try.ntmps16
    go_wp2_with fail
    go_ret
    exact ⟨by rw [HQ.out]; rfl, Below.refl _ _⟩
end Go.Proofs.Ytcobihdjcdefmaa
namespace Go.Proofs.Ytcobihdjcdefmaa
open PAccountsCompress
def posSum (n : Nat) (l : Nat → Int) : Int := sumN n fun v => if 0 < l v then l v else 0
theorem posSum_nonneg (n : Nat) (l : Nat → Int) : 0 ≤ posSum n l := sumN_nonneg fun i _ => by split <;> omega
theorem posSum_zero {n : Nat} {l : Nat → Int} (h : ∀ i, i < n → l i ≤ 0) : posSum n l = 0 := sumN_zero fun i hi => if_neg (by have := h i hi; omega)
/-- Carrying d from u to b. -/
theorem posSum_move {n : Nat} {l l' : Nat → Int} {u b : Nat} {d : Int} (hu : u < n) (hub : u ≠ b) (h1 : 0 < d) (h2 : d ≤ l u) (h3 : d ≤ -l b)
    (e : ∀ v, v < n → l' v = l v - d * ((if u = v then 1 else 0) - (if b = v then 1 else 0))) : posSum n l' < posSum n l := by
  refine sumN_lt (fun i hi => ?_) hu ?_
  · have := e i hi
    by_cases c1 : u = i
    · subst c1
      rw [if_pos rfl, if_neg (fun g => hub g.symm)] at this
      split <;> split <;> omega
    · rw [if_neg c1] at this
      by_cases c2 : b = i
      · subst c2
        rw [if_pos rfl] at this
        split <;> split <;> omega
      · rw [if_neg c2] at this
        split <;> split <;> omega
  · have := e u hu
    rw [if_pos rfl, if_neg (fun g => hub g.symm)] at this
    split <;> split <;> omega
theorem make_bool (W : World) {n : Nat} (hn : n ≤ 100000) : (Instr.makeSlice 76 (.int .i64 n) (.int .i64 n)).run Try.prog W = .ok (.slice (some ⟨W.heap.size, 0, none⟩) n n) (W.alloc (.cells (madeCells #[.bool false] n) 4 (0, 0))) := by
  obtain ⟨i0, hi, hz⟩ := Option.map_eq_some_iff.1 info4
  obtain ⟨z0, z1, z2⟩ : i0.zero = some (.bool false) ∧ i0.size = 1 ∧ i0.bytes = 1 := by simpa using hz
  have h := run_make W 76 4 i0 (.bool false) Try.underlying76 hi z0 .i64 .i64 (n : Int) (n : Int) (by omega) (Int.le_refl _) (by rw [z2]; omega) (by omega)
  rw [z1, Int.toNat_natCast, Nat.mul_one] at h
  exact h
theorem TB.set {w : World} {g n : Nat} {f : Nat → Bool} (h : TB w g n f) (i : Nat) (c : Bool) : TB (w.setCell ⟨g, i, none⟩ (.bool c)) g n (fun j => if j = i then c else f j) :=
  (TV.set h i (.bool c)).congr fun j _ => by
    by_cases e : j = i
    · simp [e]
    · simp [e]
end Go.Proofs.Ytcobihdjcdefmaa
