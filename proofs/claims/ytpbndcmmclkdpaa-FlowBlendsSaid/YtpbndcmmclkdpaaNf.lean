/-
  FlowBlendCheap: the law's own sums of a blend (38).
-/
import Derived.Test.YtpbndcmmclkdpaaNe
namespace Go.Proofs.Ytpbndcmmclkdpaa
open PFlowSolves
open Go.RowKit Go.Proofs.YtpbndcmmclkdpaaW.PrintWords
theorem fits_len {ps : List S49} : ∀ {c : List Int}, Fits ps c → c.length = ps.length := by
  induction ps with
  | nil => intro c h; cases c with
    | nil => rfl
    | cons => exact h.elim
  | cons p ps ih => intro c h; cases c with
    | nil => exact h.elim
    | cons t c => rw [List.length_cons, List.length_cons, ih h.2]
theorem fits_at {ps : List S49} : ∀ {c : List Int} {i : Nat} {p : S49}, Fits ps c → ps[i]? = some p → 0 ≤ c.getD i 0 ∧ c.getD i 0 ≤ p.f0 := by
  induction ps with
  | nil => intro c i p _ h; simp at h
  | cons q ps ih =>
    intro c i p h hp
    cases c with
    | nil => exact h.elim
    | cons t c =>
      cases i with
      | zero => simp at hp; subst hp; exact h.1
      | succ i => exact (ih (c := c) (i := i) (p := p) h.2 (by simpa using hp) :)
theorem fits_of {ps : List S49} : ∀ {c : List Int}, c.length = ps.length → (∀ i p, ps[i]? = some p → 0 ≤ c.getD i 0 ∧ c.getD i 0 ≤ p.f0) → Fits ps c := by
  induction ps with
  | nil => intro c h _; cases c with
    | nil => trivial
    | cons => simp at h
  | cons q ps ih =>
    intro c h hp
    cases c with
    | nil => simp at h
    | cons t c => exact ⟨hp 0 q rfl, ih (by simpa using h) fun i p hi => hp (i + 1) p (by simpa using hi)⟩
theorem gr_take {ps : List S49} : ∀ {c : List Int} {i : Nat} {p : S49}, ps[i]? = some p → i < c.length → gr (ps.take (i + 1)) (c.take (i + 1)) = gr (ps.take i) (c.take i) + c.getD i 0 * p.f2 := by
  induction ps with
  | nil => intro c i p h; simp at h
  | cons q ps ih =>
    intro c i p hp hi
    cases c with
    | nil => simp at hi
    | cons t c =>
      cases i with
      | zero => simp at hp; subst hp; simp [gr]
      | succ i =>
        have := ih (c := c) (i := i) (p := p) (by simpa using hp) (by simpa using hi)
        simp only [List.take_succ_cons, gr, this, List.getD_cons_succ]
        omega
theorem co_take {ps : List S49} : ∀ {c : List Int} {i : Nat} {p : S49}, ps[i]? = some p → i < c.length → co (ps.take (i + 1)) (c.take (i + 1)) = co (ps.take i) (c.take i) + c.getD i 0 * p.f1 := by
  induction ps with
  | nil => intro c i p h; simp at h
  | cons q ps ih =>
    intro c i p hp hi
    cases c with
    | nil => simp at hi
    | cons t c =>
      cases i with
      | zero => simp at hp; subst hp; simp [co]
      | succ i =>
        have := ih (c := c) (i := i) (p := p) (by simpa using hp) (by simpa using hi)
        simp only [List.take_succ_cons, co, this, List.getD_cons_succ]
        omega
def BlendSum (ps : List S49) (k lo hi : Int) (c : List Int) (w : World) (e : Ending) (w' : World) : Prop :=
  (∃ cst ok, e = .returned (.tuple #[.int .i64 cst, .bool ok]) ∧ (ok = true ↔ AdmB ps k lo hi c) ∧ (AdmB ps k lo hi c → cst = co ps c)) ∧ Below w.heap.size w w'
set_option maxRecDepth 100000 in
set_option maxHeartbeats 8000000 in
theorem blendS_any (w : World) (PA : Option Addr) (pc : Nat) (ps : List S49) (h1 : Kd.C k49 w PA ps.length ps) (k lo hi : Int) (hps : ∀ p ∈ ps, okP p = true) (hn : ps.length ≤ 6) (hk : 1 ≤ k ∧ k ≤ 24) (hlo : 0 ≤ lo ∧ lo ≤ 10000) (hhi : 0 ≤ hi ∧ hi ≤ 10000)
    (CA : Option Addr) (cc : Nat) (c : List Int) (h2 : Kd.C (Kd.int .i64) w CA c.length c) :
    Calls Try.prog 38 #[.slice PA ps.length pc, .int .i64 k, .int .i64 lo, .int .i64 hi, .slice CA c.length cc] w (BlendSum ps k lo hi c w) := by
  have H1 := Lib.hid h1
  have H2 := Lib.hid h2
  clear h1 h2
  by_cases hl : c.length = ps.length
  · have e1 : ((c.length : Int) != (ps.length : Int)) = false := by simp [hl]
    have HCL := Lib.hid hl
    clear hl
    go_enter Try.func38, Try.ntmps38
    go_upto_region 5 with (fail)
    go_loopg [12, 13, 14, 15] c.length (fun kk v12 v13 v14 v15 wr => ∃ i : Nat, v15 = .int .i64 i ∧ v12 = .int .i64 (c.take i).sum ∧ v13 = .int .i64 (gr (ps.take i) (c.take i)) ∧ v14 = .int .i64 (co (ps.take i) (c.take i)) ∧ Hid (i + kk = c.length) ∧
      Hid ((0 ≤ (c.take i).sum ∧ (c.take i).sum ≤ i * 4096) ∧ (0 ≤ gr (ps.take i) (c.take i) ∧ gr (ps.take i) (c.take i) ≤ i * 40960000) ∧ (0 ≤ co (ps.take i) (c.take i) ∧ co (ps.take i) (c.take i) ≤ i * 67108864)) ∧
      Hid (∀ j p, j < i → ps[j]? = some p → 0 ≤ c.getD j 0 ∧ c.getD j 0 ≤ p.f0) ∧ Hid (Below w.heap.size w wr))
    case atStart => exact ⟨0, rfl, rfl, by simp [gr], by simp [co], Lib.hid (by omega), Lib.hid (by simp [gr, co]), Lib.hid (fun j p hj => absurd hj (Nat.not_lt_zero _)), Lib.hid (Below.refl _ _)⟩
    case round =>
      obtain ⟨i, rfl, rfl, rfl, rfl, HI, HBD, HFI, HB⟩ := hrel
      obtain ⟨wv, rfl⟩ : ∃ wv : World, wv = wr := ⟨_, rfl⟩
      by_cases hlt : i < c.length
      · have hi0 : (i : Int) < c.length := by omega
        have hip : (i : Int) < ps.length := by have := HCL.out; omega
        have hiz : (0 : Int) ≤ i := by omega
        obtain ⟨p, hp⟩ : ∃ p, ps[i]? = some p := ⟨_, List.getElem?_eq_getElem (by omega)⟩
        obtain ⟨t, ht⟩ : ∃ t, c[i]? = some t := ⟨_, List.getElem?_eq_getElem hlt⟩
        have hgt : c.getD i 0 = t := by rw [List.getD_eq_getElem?_getD, ht]; rfl
        obtain ⟨pd, rfl, q0, q1, q2, q3, q4⟩ := at_T49 (Kd.C_below H1.out HB.out) (i : Int) hiz hip
        obtain ⟨cd, rfl, r0⟩ := Kd.at_int (Kd.C_below H2.out HB.out) (i : Int) (by omega) hi0
        rw [rd49 hp, Int.toNat_natCast] at q0 q1 q2
        rw [rdI ht, Int.toNat_natCast] at r0
        have HPI := Lib.hid hp
        have HGT := Lib.hid hgt
        clear q3 q4 hp ht hgt
        by_cases hneg : t < 0
        · have e2 : decide (t < 0) = true := decide_eq_true hneg
          have HNO : Hid (¬ AdmB ps k lo hi c) := Lib.hid (fun h => by have := fits_at h.1 HPI.out; rw [HGT.out] at this; omega)
          clear hneg
          go_upto_region 7 with (fail)
          go_quiet (fail)
          go_wp2_with fail
          go_ret2
          exact ⟨⟨0, false, rfl, ⟨fun h => absurd h (by simp), fun h => absurd h HNO.out⟩, fun h => absurd h HNO.out⟩, by first | exact HB.out | exact HB.out.drew | (apply pw_below_drewN; exact HB.out)⟩
        · have e2 : decide (t < 0) = false := decide_eq_false hneg
          by_cases hbig : p.f0 < t
          · have e3 : decide (p.f0 < t) = true := decide_eq_true hbig
            have HNO : Hid (¬ AdmB ps k lo hi c) := Lib.hid (fun h => by have := fits_at h.1 HPI.out; rw [HGT.out] at this; omega)
            clear hneg hbig
            go_upto_region 7 with (fail)
            go_quiet (fail)
            go_wp2_with fail
            go_ret2
            exact ⟨⟨0, false, rfl, ⟨fun h => absurd h (by simp), fun h => absurd h HNO.out⟩, fun h => absurd h HNO.out⟩, by first | exact HB.out | exact HB.out.drew | (apply pw_below_drewN; exact HB.out)⟩
          · have e3 : decide (p.f0 < t) = false := decide_eq_false hbig
            have hpo : okP p = true := hps p (List.mem_of_getElem? HPI.out)
            obtain ⟨b0, b1, b2⟩ := okP_out hpo
            have hmul : 0 ≤ t * p.f2 ∧ t * p.f2 ≤ 4096 * 10000 := ⟨Int.mul_nonneg (by omega) (by omega), Int.mul_le_mul (by omega) (by omega) (by omega) (by omega)⟩
            have hmul1 : 0 ≤ t * p.f1 ∧ t * p.f1 ≤ 4096 * 16384 := ⟨Int.mul_nonneg (by omega) (by omega), Int.mul_le_mul (by omega) (by omega) (by omega) (by omega)⟩
            obtain ⟨d0, d1, d2⟩ := HBD.out
            have hi6 : (i : Int) ≤ 5 := by have := HCL.out; omega
            have sN : (c.take (i + 1)).sum = (c.take i).sum + t := by rw [List.take_add_one, List.sum_append, List.getElem?_eq_getElem hlt, Option.toList_some, List.sum_singleton, ← HGT.out, List.getD_eq_getElem?_getD, List.getElem?_eq_getElem hlt]; rfl
            have gN := gr_take HPI.out hlt
            have cN := co_take HPI.out hlt
            rw [HGT.out] at gN cN
            have HNX : Hid ((0 ≤ (c.take (i + 1)).sum ∧ (c.take (i + 1)).sum ≤ (i + 1 : Nat) * 4096) ∧ (0 ≤ gr (ps.take (i + 1)) (c.take (i + 1)) ∧ gr (ps.take (i + 1)) (c.take (i + 1)) ≤ (i + 1 : Nat) * 40960000) ∧ (0 ≤ co (ps.take (i + 1)) (c.take (i + 1)) ∧ co (ps.take (i + 1)) (c.take (i + 1)) ≤ (i + 1 : Nat) * 67108864)) := Lib.hid ⟨by omega, by omega, by omega⟩
            have HFN : Hid (∀ j q, j < i + 1 → ps[j]? = some q → 0 ≤ c.getD j 0 ∧ c.getD j 0 ≤ q.f0) := Lib.hid (fun j q hj hq => by
              by_cases e : j = i
              · subst e; rw [HPI.out] at hq; rw [← Option.some.inj hq, HGT.out]; omega
              · exact HFI.out j q (by omega) hq)
            have hw1 : IntKind.i64.wrap ((c.take i).sum + t) = (c.take i).sum + t := IntWalk.i64_in _ (by omega)
            have hw2 : IntKind.i64.wrap (t * p.f2) = t * p.f2 := IntWalk.i64_in _ (by omega)
            have hw3 : IntKind.i64.wrap (gr (ps.take i) (c.take i) + t * p.f2) = gr (ps.take i) (c.take i) + t * p.f2 := IntWalk.i64_in _ (by omega)
            have hw4 : IntKind.i64.wrap (t * p.f1) = t * p.f1 := IntWalk.i64_in _ (by omega)
            have hw5 : IntKind.i64.wrap (co (ps.take i) (c.take i) + t * p.f1) = co (ps.take i) (c.take i) + t * p.f1 := IntWalk.i64_in _ (by omega)
            have hw6 : IntKind.i64.wrap ((i : Int) + 1) = i + 1 := IntWalk.i64_in _ (by omega)
            have HSN := Lib.hid sN
            have HGN := Lib.hid gN
            have HCN := Lib.hid cN
            have HLT := Lib.hid hlt
            clear hneg hbig hpo b0 b1 b2 hmul hmul1 d0 d1 d2 hi6 sN gN cN hlt HBD HFI
            generalize (c.take i).sum = x1 at *
            generalize gr (ps.take i) (c.take i) = x2 at *
            generalize co (ps.take i) (c.take i) = x3 at *
            go_upto_region 7 with (fail)
            go_quiet (fail)
            go_upto_region 10 with (fail)
            go_quiet (fail)
            go_upto_region 11 with (fail)
            go_quiet (fail)
            go_wp2_with fail
            go_roundg (c.length - (i + 1))
            case measure => have := HI.out; have := HLT.out; omega
            case rel => exact ⟨i + 1, by go_num, by rw [HSN.out], by rw [HGN.out], by rw [HCN.out], Lib.hid (by have := HI.out; have := HLT.out; omega), HNX, HFN, by first | exact HB | exact Lib.hid HB.out.drew | (refine Lib.hid ?_; apply pw_below_drewN; exact HB.out)⟩
      · have him : i = c.length := by have := HI.out; omega
        have hnl : ¬ (i : Int) < c.length := by omega
        have l1 : 0 ≤ lo * k ∧ lo * k ≤ 10000 * 24 := ⟨Int.mul_nonneg hlo.1 (by omega), Int.mul_le_mul hlo.2 hk.2 (by omega) (by omega)⟩
        have l2 : 0 ≤ hi * k ∧ hi * k ≤ 10000 * 24 := ⟨Int.mul_nonneg hhi.1 (by omega), Int.mul_le_mul hhi.2 hk.2 (by omega) (by omega)⟩
        have hw1 : IntKind.i64.wrap (lo * k) = lo * k := IntWalk.i64_in _ (by omega)
        have hw2 : IntKind.i64.wrap (hi * k) = hi * k := IntWalk.i64_in _ (by omega)
        have HAD : Hid (AdmB ps k lo hi c ↔ (((c.take i).sum == k) = true ∧ decide (lo * k ≤ gr (ps.take i) (c.take i)) = true ∧ decide (gr (ps.take i) (c.take i) ≤ hi * k) = true)) := Lib.hid (by
          rw [beq_iff_eq, decide_eq_true_eq, decide_eq_true_eq, him, List.take_length, HCL.out, List.take_length]
          exact ⟨fun h => h.2, fun h => ⟨fits_of HCL.out fun j p hj => HFI.out j p (by have := (List.getElem?_eq_some_iff.1 hj).1; have := HCL.out; omega) hj, h⟩⟩)
        have HCO : Hid (co (ps.take i) (c.take i) = co ps c) := Lib.hid (by rw [him, List.take_length, HCL.out, List.take_length])
        clear hlt him l1 l2 HBD HFI HI
        generalize e2 : ((c.take i).sum == k) = b1 at *
        generalize e3 : decide (lo * k ≤ gr (ps.take i) (c.take i)) = b2 at *
        generalize e4 : decide (gr (ps.take i) (c.take i) ≤ hi * k) = b3 at *
        cases b1 <;> cases b2 <;> cases b3 <;>
        · go_wp2_with fail
          go_ret2
          exact ⟨⟨_, _, rfl, by rw [HAD.out]; simp, fun _ => HCO.out⟩, HB.out⟩
  · have e1 : ((c.length : Int) != (ps.length : Int)) = true := by simp; omega
    have HNO : Hid (¬ AdmB ps k lo hi c) := Lib.hid (fun h => hl (fits_len h.1))
    clear hl
    go_enter Try.func38, Try.ntmps38
    go_wp2_with fail
    go_ret2
    exact ⟨⟨0, false, rfl, ⟨fun h => absurd h (by simp), fun h => absurd h HNO.out⟩, fun h => absurd h HNO.out⟩, Below.refl _ _⟩
end Go.Proofs.Ytpbndcmmclkdpaa
