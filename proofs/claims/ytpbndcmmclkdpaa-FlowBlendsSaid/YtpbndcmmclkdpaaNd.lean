/-
  FlowBlends: Blend walked.
-/
import Derived.Test.YtpbndcmmclkdpaaNc
namespace Go.Proofs.Ytpbndcmmclkdpaa
open PFlowSolves
open Go.RowKit Go.Proofs.YtpbndcmmclkdpaaW.PrintWords
/-- What Blend refuses. -/
def blendE (ps : List S49) (k lo hi : Int) : Int :=
  if 6 < ps.length then 3 else if k < 1 ∨ 24 < k ∨ inB lo 10000 = false ∨ inB hi 10000 = false ∨ ps.any (fun p => !okP p) = true then 2 else 0
def bestB (ps : List S49) (k lo hi : Int) : Int × List Int := runB (lo * k) (hi * k) ps [] k.toNat 0 0 (big, [])
def BlendPost (ps : List S49) (k lo hi : Int) (w : World) (e : Ending) (w' : World) : Prop :=
  ((blendE ps k lo hi ≠ 0 ∧ e = .returned (.tuple #[.slice none 0 0, .int .i64 0, .int .i64 (blendE ps k lo hi)])) ∨
   (blendE ps k lo hi = 0 ∧ (bestB ps k lo hi).1 = big ∧ e = .returned (.tuple #[.slice none 0 0, .int .i64 0, .int .i64 13])) ∨
   (blendE ps k lo hi = 0 ∧ (bestB ps k lo hi).1 < big ∧ ∃ b c, e = .returned (.tuple #[.slice (some ⟨b, 0, none⟩) ps.length c, .int .i64 (bestB ps k lo hi).1, .int .i64 0]) ∧ (bestB ps k lo hi).2.length = ps.length ∧ TI w' b ps.length (fun j => (bestB ps k lo hi).2.getD j 0) ∧ w.heap.size ≤ b)) ∧ Below w.heap.size w w'
theorem box4 (w : World) (a b c d : Value) (ta tb tc td : TypeId) :
    let W := (((w.alloc (.cells #[a] ta (0, 0))).alloc (.cells #[b] tb (0, 0))).alloc (.cells #[c] tc (0, 0))).alloc (.cells #[d] td (0, 0))
    Blk W w.heap.size #[a] ta ∧ Blk W (w.heap.size + 1) #[b] tb ∧ Blk W (w.heap.size + 1 + 1) #[c] tc ∧ Blk W (w.heap.size + 1 + 1 + 1) #[d] td ∧ Below w.heap.size w W ∧ W.heap.size = w.heap.size + 4 := by
  have z1 : (w.alloc (.cells #[a] ta (0, 0))).heap.size = w.heap.size + 1 := by simp
  have z2 : ((w.alloc (.cells #[a] ta (0, 0))).alloc (.cells #[b] tb (0, 0))).heap.size = w.heap.size + 2 := by simp
  have z3 : (((w.alloc (.cells #[a] ta (0, 0))).alloc (.cells #[b] tb (0, 0))).alloc (.cells #[c] tc (0, 0))).heap.size = w.heap.size + 3 := by simp
  refine ⟨(((Blk.new w #[a] ta).alloc _).alloc _).alloc _, ?_, ?_, ?_, below_al (below_al (below_al (below_alloc (Below.refl _ _) _) _) _) _, by simp⟩
  · rw [← z1]; exact ((Blk.new _ #[b] tb).alloc _).alloc _
  · show Blk _ (w.heap.size + 2) _ _; rw [← z2]; exact (Blk.new _ #[c] tc).alloc _
  · show Blk _ (w.heap.size + 3) _ _; rw [← z3]; exact Blk.new _ #[d] td
theorem inB_out {x y : Int} (h : inB x y = true) : 0 ≤ x ∧ x ≤ y := by
  unfold inB at h
  simp only [Bool.and_eq_true, decide_eq_true_eq] at h
  exact h
/-- The blocks of the search. -/
theorem box5 (w : World) (n : Nat) (a b c d : Value) (tb tc td te : TypeId) :
    let W := ((((w.alloc (.cells (madeCells #[.int .i64 0] n) 3 (0, 0))).alloc (.cells #[a] tb (0, 0))).alloc (.cells #[b] tc (0, 0))).alloc (.cells #[c] td (0, 0))).alloc (.cells #[d] te (0, 0))
    TI W w.heap.size n (fun _ => 0) ∧ Blk W (w.heap.size + 1) #[a] tb ∧ Blk W (w.heap.size + 1 + 1) #[b] tc ∧ Blk W (w.heap.size + 1 + 1 + 1) #[c] td ∧ Blk W (w.heap.size + 1 + 1 + 1 + 1) #[d] te ∧ Below w.heap.size w W ∧ W.heap.size = w.heap.size + 5 := by
  have z1 : (w.alloc (.cells (madeCells #[.int .i64 0] n) 3 (0, 0))).heap.size = w.heap.size + 1 := by simp
  have z2 : ((w.alloc (.cells (madeCells #[.int .i64 0] n) 3 (0, 0))).alloc (.cells #[a] tb (0, 0))).heap.size = w.heap.size + 2 := by simp
  have z3 : (((w.alloc (.cells (madeCells #[.int .i64 0] n) 3 (0, 0))).alloc (.cells #[a] tb (0, 0))).alloc (.cells #[b] tc (0, 0))).heap.size = w.heap.size + 3 := by simp
  have z4 : ((((w.alloc (.cells (madeCells #[.int .i64 0] n) 3 (0, 0))).alloc (.cells #[a] tb (0, 0))).alloc (.cells #[b] tc (0, 0))).alloc (.cells #[c] td (0, 0))).heap.size = w.heap.size + 4 := by simp
  refine ⟨((((TV.made w (.int .i64 0) 3 n).alloc _).alloc _).alloc _).alloc _, ?_, ?_, ?_, ?_, below_al (below_al (below_al (below_al (below_alloc (Below.refl _ _) _) _) _) _) _, by simp⟩
  · rw [← z1]; exact (((Blk.new _ #[a] tb).alloc _).alloc _).alloc _
  · show Blk _ (w.heap.size + 2) _ _; rw [← z2]; exact ((Blk.new _ #[b] tc).alloc _).alloc _
  · show Blk _ (w.heap.size + 3) _ _; rw [← z3]; exact (Blk.new _ #[c] td).alloc _
  · show Blk _ (w.heap.size + 4) _ _; rw [← z4]; exact Blk.new _ #[d] te
set_option maxRecDepth 100000 in
set_option maxHeartbeats 8000000 in
theorem blend_any (w : World) (PA : Option Addr) (pc : Nat) (ps : List S49) (h1 : Kd.C k49 w PA ps.length ps) (hc1 : ps.length ≤ pc) (k lo hi : Int) :
    Calls Try.prog 36 #[.slice PA ps.length pc, .int .i64 k, .int .i64 lo, .int .i64 hi] w (BlendPost ps k lo hi w) := by
  obtain ⟨u1, u2, u3, u4, hb0, hsz⟩ := box4 w (.slice PA ps.length pc) (.int .i64 k) (.int .i64 lo) (.int .i64 hi) 53 3 3 3
  have HU := Lib.hid (And.intro u1 (And.intro u2 (And.intro u3 u4)))
  have HB0 := Lib.hid hb0
  have HSZ := Lib.hid hsz
  have H1 := Lib.hid h1
  clear u1 u2 u3 u4 hb0 hsz h1
  go_enter Try.func36, Try.ntmps36
  go_upto_region 1 with (fail)
  generalize (((w.alloc (.cells #[.slice PA ps.length pc] 53 (0, 0))).alloc (.cells #[.int .i64 k] 3 (0, 0))).alloc (.cells #[.int .i64 lo] 3 (0, 0))).alloc (.cells #[.int .i64 hi] 3 (0, 0)) = w1 at *
  have c4 := Blk.cell HU.out.1 0 (v := .slice PA ps.length pc) rfl
  by_cases hlen : 6 < ps.length
  · have HE : Hid (blendE ps k lo hi = 3) := Lib.hid (by unfold blendE; rw [if_pos hlen])
    have e1 : decide ((6 : Int) < ps.length) = true := decide_eq_true (by omega)
    clear hlen
    go_wp2_with fail
    go_ret3
    exact ⟨.inl ⟨by rw [HE.out]; decide, by rw [HE.out]; rfl⟩, HB0.out⟩
  · have e1 : decide ((6 : Int) < ps.length) = false := decide_eq_false (by omega)
    have c5 := Blk.cell HU.out.2.1 0 (v := .int .i64 k) rfl
    have c6 := Blk.cell HU.out.2.2.1 0 (v := .int .i64 lo) rfl
    have c7 := Blk.cell HU.out.2.2.2 0 (v := .int .i64 hi) rfl
    by_cases ka : k < 1
    · have HE : Hid (blendE ps k lo hi = 2) := Lib.hid (by unfold blendE; rw [if_neg hlen, if_pos (.inl ka)])
      have e2 : decide (k < 1) = true := decide_eq_true ka
      clear hlen ka
      go_wp2_with fail
      go_ret3
      exact ⟨.inl ⟨by rw [HE.out]; decide, by rw [HE.out]; rfl⟩, HB0.out⟩
    · have e2 : decide (k < 1) = false := decide_eq_false ka
      by_cases kb : 24 < k
      · have HE : Hid (blendE ps k lo hi = 2) := Lib.hid (by unfold blendE; rw [if_neg hlen, if_pos (.inr (.inl kb))])
        have e3 : decide (24 < k) = true := decide_eq_true kb
        clear hlen ka kb
        go_wp2_with fail
        go_ret3
        exact ⟨.inl ⟨by rw [HE.out]; decide, by rw [HE.out]; rfl⟩, HB0.out⟩
      · have e3 : decide (24 < k) = false := decide_eq_false kb
        have HLEN := Lib.hid hlen
        have HKK : Hid (1 ≤ k ∧ k ≤ 24) := Lib.hid ⟨by omega, by omega⟩
        have HC := Lib.hid (within_any lo 10000 w1)
        clear ka kb
        go_wp2_with fail
        refine HC.out.mono ?_
        rintro e w2 ⟨rfl, hb⟩
        have HB2 := Lib.hid (below_t HB0.out hb)
        have HU2 := Lib.hid (And.intro (HU.out.1.fr (Fr.of_below hb (fun _ => False)) (fun a => a)) (And.intro (HU.out.2.1.fr (Fr.of_below hb (fun _ => False)) (fun a => a)) (And.intro (HU.out.2.2.1.fr (Fr.of_below hb (fun _ => False)) (fun a => a)) (HU.out.2.2.2.fr (Fr.of_below hb (fun _ => False)) (fun a => a)))))
        have HSZ2 : Hid (w.heap.size + 4 ≤ w2.heap.size) := Lib.hid (by have := hb.size; have := HSZ.out; omega)
        clear hb HC c4 c5 c6 c7
        cases hlo : inB lo 10000 with
        | false =>
          have HE : Hid (blendE ps k lo hi = 2) := Lib.hid (by unfold blendE; rw [if_neg hlen, if_pos (.inr (.inr (.inl hlo)))])
          clear hlo hlen
          go_wp2_with fail
          go_ret3
          exact ⟨.inl ⟨by rw [HE.out]; decide, by rw [HE.out]; rfl⟩, HB2.out⟩
        | true =>
          have HLO := Lib.hid hlo
          have c7 := Blk.cell HU2.out.2.2.2 0 (v := .int .i64 hi) rfl
          have HC := Lib.hid (within_any hi 10000 w2)
          clear hlo
          go_wp2_with fail
          refine HC.out.mono ?_
          rintro e w3 ⟨rfl, hb⟩
          have HB3 := Lib.hid (below_t HB2.out hb)
          have HU3 := Lib.hid (And.intro (HU2.out.1.fr (Fr.of_below hb (fun _ => False)) (fun a => a)) (And.intro (HU2.out.2.1.fr (Fr.of_below hb (fun _ => False)) (fun a => a)) (And.intro (HU2.out.2.2.1.fr (Fr.of_below hb (fun _ => False)) (fun a => a)) (HU2.out.2.2.2.fr (Fr.of_below hb (fun _ => False)) (fun a => a)))))
          have HSZ3 : Hid (w.heap.size + 4 ≤ w3.heap.size) := Lib.hid (by have := hb.size; have := HSZ2.out; omega)
          clear hb HC c7
          cases hhi : inB hi 10000 with
          | false =>
            have HE : Hid (blendE ps k lo hi = 2) := Lib.hid (by unfold blendE; rw [if_neg hlen, if_pos (.inr (.inr (.inr (.inl hhi))))])
            clear hhi hlen
            go_wp2_with fail
            go_ret3
            exact ⟨.inl ⟨by rw [HE.out]; decide, by rw [HE.out]; rfl⟩, HB3.out⟩
          | true =>
            have HHI := Lib.hid hhi
            have c4 := Blk.cell HU3.out.1 0 (v := .slice PA ps.length pc) rfl
            clear hhi HU HU2 HB0 HB2 HSZ HSZ2 hlen
            have HB30 := Lib.hid (Below.refl w3.heap.size w3)
            go_upto_region 6 with (fail)
            go_loopg [38] ps.length (fun kk v38 wr => ∃ i : Nat, v38 = .int .i64 i ∧ Hid (i + kk = ps.length) ∧ Hid (∀ j p, j < i → ps[j]? = some p → okP p = true) ∧ Hid (Below w3.heap.size w3 wr))
            case atStart => exact ⟨0, rfl, Lib.hid (by omega), Lib.hid (fun j p hj => absurd hj (Nat.not_lt_zero _)), HB30⟩
            case round =>
              clear HB30
              obtain ⟨i, rfl, HI, HOKS, HB⟩ := hrel
              obtain ⟨wv, rfl⟩ : ∃ wv : World, wv = wr := ⟨_, rfl⟩
              by_cases hlt : i < ps.length
              · have hi0 : (i : Int) < ps.length := by omega
                have hiz : (0 : Int) ≤ i := by omega
                obtain ⟨p, hp⟩ : ∃ p, ps[i]? = some p := ⟨_, List.getElem?_eq_getElem hlt⟩
                obtain ⟨pd, rfl, q0, q1, q2, q3, q4⟩ := at_T49 (Kd.C_below H1.out (below_t HB3.out HB.out)) (i : Int) hiz hi0
                rw [rd49 hp, Int.toNat_natCast] at q0 q1 q2 q3 q4
                have hw : IntKind.i64.wrap ((i : Int) + 1) = i + 1 := IntWalk.i64_in _ (by have := HLEN.out; omega)
                have hal := below_alloc (Below.refl wv.heap.size wv) (.cells #[.int .i64 p.f0, .int .i64 p.f1, .int .i64 p.f2, .int .i64 p.f3, .int .i64 p.f4] 49 (0, 0))
                have hA4 := Blk.new wv #[.int .i64 p.f0, .int .i64 p.f1, .int .i64 p.f2, .int .i64 p.f3, .int .i64 p.f4] 49
                have HLT := Lib.hid hlt
                have HPI := Lib.hid hp
                clear hlt hp
                go_upto_region 8 with (fail)
                generalize wv.alloc (.cells #[.int .i64 p.f0, .int .i64 p.f1, .int .i64 p.f2, .int .i64 p.f3, .int .i64 p.f4] 49 (0, 0)) = wa at *
                have b0 := Blk.cell hA4 0 (v := .int .i64 p.f0) rfl
                have b1 := Blk.cell hA4 1 (v := .int .i64 p.f1) rfl
                have b2 := Blk.cell hA4 2 (v := .int .i64 p.f2) rfl
                have b3 := Blk.cell hA4 3 (v := .int .i64 p.f3) rfl
                have b4 := Blk.cell hA4 4 (v := .int .i64 p.f4) rfl
                have HC := Lib.hid (parcel_any p wa)
                have HBA := Lib.hid (below_t HB.out hal)
                clear hal hA4 q0 q1 q2 q3 q4
                go_wp2_with fail
                refine HC.out.mono ?_
                rintro e wb ⟨rfl, hb⟩
                have HBB := Lib.hid (below_t HBA.out hb)
                clear hb HC b0 b1 b2 b3 b4
                cases hok : okP p with
                | false =>
                  have HE : Hid (blendE ps k lo hi = 2) := Lib.hid (by
                    unfold blendE
                    rw [if_neg HLEN.out, if_pos (.inr (.inr (.inr (.inr (List.any_eq_true.2 ⟨p, List.mem_of_getElem? HPI.out, by rw [hok]; rfl⟩)))))])
                  have HBC := Lib.hid (below_t HB3.out HBB.out)
                  clear hok
                  go_wp2_with fail
                  go_ret3
                  exact ⟨.inl ⟨by rw [HE.out]; decide, by rw [HE.out]; rfl⟩, HBC.out⟩
                | true =>
                  have HOK2 : Hid (∀ j q, j < i + 1 → ps[j]? = some q → okP q = true) := Lib.hid (fun j q hj hq => by
                    by_cases e : j = i
                    · subst e; rw [HPI.out] at hq; rw [← Option.some.inj hq]; exact hok
                    · exact HOKS.out j q (by omega) hq)
                  clear hok
                  go_wp2_with fail
                  go_roundg (ps.length - (i + 1))
                  case measure => have := HI.out; have := HLT.out; omega
                  case rel => exact ⟨i + 1, by go_num, Lib.hid (by have := HI.out; have := HLT.out; omega), HOK2, HBB⟩
              · have hnl : ¬ (i : Int) < ps.length := by omega
                have HPS : Hid (∀ p ∈ ps, okP p = true) := Lib.hid (fun p hp => by
                  obtain ⟨j, hj⟩ := List.getElem?_of_mem hp
                  exact HOKS.out j p (by have := (List.getElem?_eq_some_iff.1 hj).1; omega) hj)
                clear hlt HI HOKS
                have c4 := Blk.cell (HU3.out.1.fr (Fr.of_below HB.out (fun _ => False)) (fun a => a)) 0 (v := .slice PA ps.length pc) rfl
                have hmk := make_int wv (n := ps.length) (by have := HLEN.out; omega)
                have hmf : ∀ (fn : Fn) (first cap : Array Value) (w : World), (Instr.makeFunc fn first cap).run Try.prog w = .ok (.func fn first cap) w := fun _ _ _ _ => rfl
                have hsf := fun (a : Addr) (c : Array Value) (w : World) => run_store Try.prog w a (.func (.func 64) #[] c) .plain rfl
                obtain ⟨x1, x2, x3, x4, x5, hb5, hz5⟩ := box5 wv ps.length (.slice (some ⟨wv.heap.size, 0, none⟩) ps.length ps.length) (.slice none 0 0) (.int .i64 1152921504606846976) .nilFunc 23 23 3 111
                have p1 := Blk.cell x5 0 (v := .nilFunc) rfl
                have p2 := Blk.free x5 0
                have HX := Lib.hid (And.intro x1 (And.intro x2 (And.intro x3 (And.intro x4 x5))))
                have HB5 := Lib.hid hb5
                have HZ5 := Lib.hid hz5
                clear x1 x2 x3 x4 x5 hb5 hz5
                go_upto_region 14 with (fail)
                generalize ((((wv.alloc (.cells (madeCells #[.int .i64 0] ps.length) 3 (0, 0))).alloc (.cells #[.slice (some ⟨wv.heap.size, 0, none⟩) ps.length ps.length] 23 (0, 0))).alloc (.cells #[.slice none 0 0] 23 (0, 0))).alloc (.cells #[.int .i64 1152921504606846976] 3 (0, 0))).alloc (.cells #[.nilFunc] 111 (0, 0)) = w5 at *
                obtain ⟨gb, hgb⟩ : ∃ gb, gb = wv.heap.size := ⟨_, rfl⟩
                have HGB := Lib.hid hgb
                have HDD : Hid (w.heap.size + 4 ≤ gb) := Lib.hid (by have := HB.out.size; have := HSZ3.out; omega)
                generalize hbf : wv.heap.size + 1 + 1 + 1 + 1 = bf at *
                generalize hbc : wv.heap.size + 1 + 1 + 1 = bc at *
                generalize hbl : wv.heap.size + 1 + 1 = bl at *
                generalize hbu : wv.heap.size + 1 = bcur at *
                have HDS : Hid (bf = gb + 4 ∧ bc = gb + 3 ∧ bl = gb + 2 ∧ bcur = gb + 1) := Lib.hid ⟨by omega, by omega, by omega, by omega⟩
                clear hbf hbc hbl hbu hgb
                go_upto_region 15 with (fail)
                have hF6 := (Fr.refl (fun b => b = bf) w5).setCell (p := ⟨bf, 0, none⟩) (.inl rfl) (.func (.func 64) #[] #[.pointer (some ⟨bc, 0, none⟩), .pointer (some ⟨w.heap.size, 0, none⟩), .pointer (some ⟨w.heap.size + 1 + 1, 0, none⟩), .pointer (some ⟨w.heap.size + 1, 0, none⟩), .pointer (some ⟨w.heap.size + 1 + 1 + 1, 0, none⟩), .pointer (some ⟨bcur, 0, none⟩), .pointer (some ⟨bl, 0, none⟩), .pointer (some ⟨bf, 0, none⟩)])
                have hx6 := Blk.set HX.out.2.2.2.2 0 (.func (.func 64) #[] #[.pointer (some ⟨bc, 0, none⟩), .pointer (some ⟨w.heap.size, 0, none⟩), .pointer (some ⟨w.heap.size + 1 + 1, 0, none⟩), .pointer (some ⟨w.heap.size + 1, 0, none⟩), .pointer (some ⟨w.heap.size + 1 + 1 + 1, 0, none⟩), .pointer (some ⟨bcur, 0, none⟩), .pointer (some ⟨bl, 0, none⟩), .pointer (some ⟨bf, 0, none⟩)])
                generalize w5.setCell ⟨bf, 0, none⟩ (.func (.func 64) #[] #[.pointer (some ⟨bc, 0, none⟩), .pointer (some ⟨w.heap.size, 0, none⟩), .pointer (some ⟨w.heap.size + 1 + 1, 0, none⟩), .pointer (some ⟨w.heap.size + 1, 0, none⟩), .pointer (some ⟨w.heap.size + 1 + 1 + 1, 0, none⟩), .pointer (some ⟨bcur, 0, none⟩), .pointer (some ⟨bl, 0, none⟩), .pointer (some ⟨bf, 0, none⟩)]) = w6 at *
                have hb35 := below_t HB.out HB5.out
                have hds := HDS.out
                have hdd := HDD.out
                obtain ⟨K, rfl⟩ : ∃ K : Nat, k = K := ⟨k.toNat, by have := HKK.out; omega⟩
                have hn : ∀ x, x < gb → ¬ (x = bf ∨ FW bc bl gb x) := fun x hx h => by rcases h with h | h | h | h <;> omega
                have hS : ∀ W, Fr (FW bc bl gb) w6 W → SM W bc w.heap.size (w.heap.size + 1 + 1) (w.heap.size + 1) (w.heap.size + 1 + 1 + 1) bcur bl bf gb PA pc ps lo K hi := fun W hW => by
                  have h5W : Fr (fun b => b = bf ∨ FW bc bl gb b) w5 W := (hF6.mono (fun x h => .inl (.inl h))).trans (hW.mono (G := fun b => b = bf ∨ FW bc bl gb b) (fun x h => .inl (.inr h))) (fun x h => .inl h)
                  have h3W := (Fr.of_below hb35 (fun b => b = bf ∨ FW bc bl gb b)).trans h5W (fun x h => .inl h)
                  have h0W := ((Fr.of_below HB3.out (fun b => b = bf ∨ FW bc bl gb b)).trans h3W (fun x h => .inl h)).to_below (Nat.le_refl _) (fun x h => by rcases h with h | h | h | h <;> omega)
                  exact ⟨(HU3.out.1.fr h3W (hn _ (by omega))).cell 0 rfl, Kd.C_below H1.out h0W, (HU3.out.2.2.1.fr h3W (hn _ (by omega))).cell 0 rfl, (HU3.out.2.1.fr h3W (hn _ (by omega))).cell 0 rfl,
                    (HU3.out.2.2.2.fr h3W (hn _ (by omega))).cell 0 rfl, (by have := (HX.out.2.1.fr h5W (fun h => by rcases h with h | h | h | h <;> omega)).cell 0 (v := .slice (some ⟨wv.heap.size, 0, none⟩) ps.length ps.length) rfl; rw [← HGB.out] at this; exact this), (hx6.fr hW (fun h => by rcases h with h | h | h <;> omega)).cell 0 rfl⟩
                have hT : SS w6 bc bl gb ps.length w.heap.size (big, []) (fun _ => 0) := ⟨HX.out.2.2.2.1.fr hF6 (by omega), ⟨_, HX.out.2.2.1.fr hF6 (by omega), .inl ⟨rfl, rfl⟩⟩, by have := HX.out.1.fr hF6 (by have := HGB.out; omega); rw [← HGB.out] at this; exact this⟩
                have hc := find_any (base := w.heap.size) (inB_out HLO.out) (inB_out HHI.out) HKK.out (by have := HLEN.out; omega) (by omega) HPS.out ps [] rfl w6 [] K 0 0 (big, []) (fun _ => 0) (by have := HKK.out; omega) (fun _ => by have := HKK.out; omega) rfl (fun j hj => absurd hj (Nat.not_lt_zero _))
                  ⟨by omega, by have := HKK.out; omega⟩ ⟨by omega, by have := HKK.out; omega⟩ hS hT (by have := hb35.size; have := hF6.size; have := HB3.out.size; omega)
                rw [show (([] : List S49).length : Int) = 0 from rfl] at hc
                have HC := Lib.hid hc
                have k1 := (hS w6 (Fr.refl _ _)).ff
                have k2 := (hS w6 (Fr.refl _ _)).fk
                have HB6 : Hid (Below w.heap.size w w6) := Lib.hid (((Fr.of_below (below_t HB3.out hb35) (fun b => b = bf)).trans hF6 (fun x h => .inl h)).to_below (Nat.le_refl _) (fun x h => by subst h; omega))
                clear hc hS hT hn hF6 hx6 hb35 p1 p2 c4 hds hdd
                simp only [argsB] at HC
                simp only [ptrsB] at k1
                clear hsf
                go_wp2_with fail
                refine HC.out.mono ?_
                rintro e w7 ⟨⟨rv, rfl⟩, ⟨f', ⟨s1, ⟨v, s2, s3⟩, _⟩, _⟩, hF7⟩
                have HE0 : Hid (blendE ps K lo hi = 0) := Lib.hid (by
                  unfold blendE
                  rw [if_neg HLEN.out, if_neg]
                  rintro (h | h | h | h | h)
                  · have := HKK.out; omega
                  · have := HKK.out; omega
                  · rw [HLO.out] at h; exact absurd h (by simp)
                  · rw [HHI.out] at h; exact absurd h (by simp)
                  · obtain ⟨q, hq, hb⟩ := List.any_eq_true.1 h
                    rw [HPS.out q hq] at hb
                    exact absurd hb (by simp))
                have HB7 : Hid (Below w.heap.size w w7) := Lib.hid (((Fr.of_below HB6.out (FW bc bl gb)).trans hF7 (fun x h => .inl h)).to_below (Nat.le_refl _) (fun x h => by have := HDS.out; have := HDD.out; rcases h with h | h | h <;> omega))
                have HBE : Hid (bestB ps K lo hi = runB (lo * K) (hi * K) ps [] K 0 0 (big, [])) := Lib.hid (by unfold bestB; rw [Int.toNat_natCast])
                generalize runB (lo * K) (hi * K) ps [] K 0 0 (big, []) = rr at *
                have r1 := Blk.cell s2 0 (v := v) rfl
                have r2 := Blk.cell s1 0 (v := .int .i64 rr.1) rfl
                clear hF7 s1 s2 HC k1 k2
                rcases s3 with ⟨rfl, hbig⟩ | ⟨nb, c, rfl, hl, ht, hnb, _, hlt⟩
                · have he := Lib.run_eql_slice_nil (P := Try.prog) w7 23 3 none 0 0 0 0 Try.underlying23
                  have HBIG := Lib.hid hbig
                  clear hbig
                  go_wp2_with fail
                  go_ret3
                  exact ⟨.inr (.inl ⟨HE0.out, by rw [HBE.out]; exact HBIG.out, rfl⟩), HB7.out⟩
                · have he := Lib.run_eql_slice_nil (P := Try.prog) w7 23 3 (some ⟨nb, 0, none⟩) ps.length c 0 0 Try.underlying23
                  have HFO : Hid (_ ∧ _ ∧ _ ∧ _) := Lib.hid ⟨hl, ht, hnb, hlt⟩
                  clear hl ht hnb hlt
                  go_wp2_with fail
                  refine calm ?_
                  go_region_law (first | fail)
                  all_goals
                    simp only [Calm]
                    go_wp2_with fail
                    go_ret3
                    exact ⟨.inr (.inr ⟨HE0.out, by rw [HBE.out]; exact HFO.out.2.2.2, nb, c, by rw [HBE.out]; rfl, by rw [HBE.out]; exact HFO.out.1, by rw [HBE.out]; exact TV.fr HFO.out.2.1 (F := fun _ => False) ((Fr.refl _ _).drew) (fun a => a), HFO.out.2.2.1⟩), by first | exact HB7.out | exact HB7.out.drew | exact pw_below_drewN HB7.out _ | (apply pw_below_drewN; exact HB7.out)⟩
end Go.Proofs.Ytpbndcmmclkdpaa
