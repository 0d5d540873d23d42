/-
  FlowRoom: more room never makes a flow dearer.
-/
import Derived.Test.YtpbndcmmclkdpaaQf
namespace Go.Proofs.Ytpbndcmmclkdpaa
open PFlowSolves
open Go.RowKit Go.Proofs.YtpbndcmmclkdpaaW.PrintWords
theorem TA.set2 {w : World} {g n : Nat} {A : Nat → Ar} (h : TA w g n A) (i : Nat) (c : Int) : TA (w.setCell ⟨g, i * 4 + 2, none⟩ (.int .i64 c)) g n (fun j => if j = i then ⟨(A j).f0, (A j).f1, c, (A j).f3⟩ else A j) := by
  obtain ⟨cs, hb, hc⟩ := h
  refine ⟨_, hb.set (i * 4 + 2) (.int .i64 c), fun j hj => ?_⟩
  obtain ⟨c0, c1, c2, c3⟩ := hc j hj
  rw [set_get _ _ _ _ _ c0, set_get _ _ _ _ _ c1, set_get _ _ _ _ _ c2, set_get _ _ _ _ _ c3]
  by_cases e : j = i
  · subst e
    rw [if_neg (by omega), if_neg (by omega), if_pos rfl, if_neg (by omega)]
    simp
  · rw [if_neg (by omega), if_neg (by omega), if_neg (by omega), if_neg (by omega)]
    simp [e]
theorem netE_of {n : Int} {l : List Ar} (h1 : 1 ≤ n) (h2 : n ≤ 32) (h3 : l.length ≤ 128) (h4 : ∀ a ∈ l, ¬ BadP n a) : netE n l = 0 := by
  unfold netE
  rw [if_neg (by omega), if_neg (by omega), if_neg]
  intro h
  rw [List.any_eq_true] at h
  obtain ⟨a, ha, hb⟩ := h
  exact h4 a ha (of_decide_eq_true hb)
theorem netE_not {n : Int} {l : List Ar} (h : netE n l = 0) : ∀ a ∈ l, ¬ BadP n a := fun a ha hb => by
  have h4 := (netE_range h).2.2.2
  rw [List.any_eq_false] at h4
  exact h4 a ha (decide_eq_true hb)
theorem needE_of {n : Int} {l : List Ar} {xs : List Int} (h0 : netE n l = 0) (h1 : (xs.length : Int) = n) (h2 : ∀ v : Nat, v < xs.length → -140737488355328 ≤ xs.getD v 0 ∧ xs.getD v 0 ≤ 140737488355328) (h3 : sumN xs.length (fun v => xs.getD v 0) = 0) : needE n l xs = 0 := by
  unfold needE
  rw [if_neg (fun g => g h0), if_neg (fun g => g h1), if_neg, if_pos h3]
  intro h
  rw [List.any_eq_true] at h
  obtain ⟨a, ha, hb⟩ := h
  obtain ⟨i, hi⟩ := List.getElem?_of_mem ha
  have hlt := (List.getElem?_eq_some_iff.1 hi).1
  have := h2 i hlt
  rw [getD_of hi] at this
  have hb : a < -140737488355328 ∨ a > 140737488355328 := of_decide_eq_true hb
  omega
/-- An arc with more room. -/
def wideL (l : List Ar) (k : Nat) (more : Int) : List Ar := l.set k ⟨(arcF l k).f0, (arcF l k).f1, (arcF l k).f2 + more, (arcF l k).f3⟩
section
variable {l : List Ar} {k : Nat} {more : Int}
theorem wide_len : (wideL l k more).length = l.length := List.length_set ..
theorem wide_at (hk : k < l.length) (i : Nat) : arcF (wideL l k more) i = if i = k then ⟨(arcF l i).f0, (arcF l i).f1, (arcF l i).f2 + more, (arcF l i).f3⟩ else arcF l i := by
  have e : ∀ j, arcF (wideL l k more) j = ((wideL l k more)[j]?).getD z44 := fun j => by unfold arcF; rw [List.getD_eq_getElem?_getD]
  rw [e]
  unfold wideL
  by_cases h : i = k
  · subst h; rw [List.getElem?_set_self hk, if_pos rfl]; rfl
  · rw [List.getElem?_set_ne (fun g => h g.symm), if_neg h]; unfold arcF; rw [List.getD_eq_getElem?_getD]
theorem wide_sum {M : Type} (hk : k < l.length) (f : Int → Int → Int → M) (i : Nat) : f (arcF (wideL l k more) i).f0 (arcF (wideL l k more) i).f1 (arcF (wideL l k more) i).f3 = f (arcF l i).f0 (arcF l i).f1 (arcF l i).f3 := by
  rw [wide_at hk]; split <;> rfl
theorem wide_bal (hk : k < l.length) (m : Nat) (x : Nat → Int) (v : Int) : balF m (arcF (wideL l k more)) x v = balF m (arcF l) x v :=
  sumN_congr fun i _ => wide_sum hk (fun a b _ => (if a = v then x i else 0) - (if b = v then x i else 0)) i
theorem wide_cost (hk : k < l.length) (m : Nat) (x : Nat → Int) : costF m (arcF (wideL l k more)) x = costF m (arcF l) x :=
  sumN_congr fun i _ => wide_sum hk (fun _ _ c => c * x i) i
theorem wide_valid (hk : k < l.length) (h0 : 0 ≤ more) {m : Nat} {x : Nat → Int} (h : Valid m (arcF l) x) : Valid m (arcF (wideL l k more)) x := fun i hi => by
  have := h i hi
  rw [wide_at hk]
  split
  · exact ⟨this.1, by show x i ≤ (arcF l i).f2 + more; omega⟩
  · exact this
theorem wide_need {n : Int} {xs : List Int} (hk : k < l.length) (h0 : 0 ≤ more) (hm : (arcF l k).f2 + more ≤ 1099511627776) (h : needE n l xs = 0) : needE n (wideL l k more) xs = 0 := by
  obtain ⟨g1, g2, g3, g4⟩ := needE_ok h
  obtain ⟨k1, k2, k3, k4⟩ := netE_range g1
  refine needE_of (netE_of k1 k2 (by rw [wide_len]; exact k3) fun a ha => ?_) g2 g3 g4
  unfold wideL at ha
  rcases List.mem_or_eq_of_mem_set ha with h | h
  · exact netE_not g1 a h
  · have e : arcF l k = l[k] := by unfold arcF; rw [List.getD_eq_getElem?_getD, List.getElem?_eq_getElem hk]; rfl
    have := netE_not g1 _ (List.getElem_mem hk)
    rw [← e] at this
    subst h
    unfold BadP at this ⊢
    simp only at *
    omega
end
/-- Solve where an arc has more room. -/
theorem solve_wide (w : World) (n : Int) (l : List Ar) (xs : List Int) (k : Nat) (more : Int) (hk : k < l.length) (h0 : 0 ≤ more) (hm : (arcF l k).f2 + more ≤ 1099511627776) (hE : needE n l xs = 0)
    {x : Nat → Int} (hx : Valid l.length (arcF l) x) (hb : ∀ v : Nat, v < n.toNat → balF l.length (arcF l) x v = xs.getD v 0)
    (b c1 : Nat) (h1 : TA w b l.length (arcF (wideL l k more))) (hc1 : l.length ≤ c1) (A2 : Option Addr) (c2 : Nat) (h2 : Kd.C (Kd.int .i64) w A2 xs.length xs) (hc2 : xs.length ≤ c2) :
    Calls Try.prog 21 #[.int .i64 n, .slice (some ⟨b, 0, none⟩) l.length c1, .slice A2 xs.length c2] w fun e w' => ∃ ga cst, (e = .returned (.tuple #[.agg #[.slice (some ⟨ga, 0, none⟩) l.length l.length, .int .i64 cst], .int .i64 0]) ∧ cst ≤ costF l.length (arcF l) x) ∧ Below w.heap.size w w' := by
  have hE2 := wide_need hk h0 hm hE
  have hok := netE_ok (needE_ok hE2).1
  have hl := (netE_range (needE_ok hE).1).2.2.1
  have hC : Kd.C k44 w (some ⟨b, 0, none⟩) (wideL l k more).length (wideL l k more) := TA_C (by rw [wide_len]; exact h1) (by rw [wide_len]; omega)
  have hS := solve_any w n (some ⟨b, 0, none⟩) c1 (wideL l k more) hC (by rw [wide_len]; exact hc1) A2 c2 xs h2 hc2
  rw [wide_len] at hS hok
  refine hS.mono ?_
  rintro e w' ⟨hpost, hbl⟩
  unfold SolvePost at *
  rw [wide_len] at hpost
  have hvw := wide_valid (k := k) (more := more) hk h0 hx
  have hbw : ∀ v : Nat, v < n.toNat → balF l.length (arcF (wideL l k more)) x v = xs.getD v 0 := fun v hv => by rw [wide_bal hk]; exact hb v hv
  rcases hpost with ⟨h, _⟩ | ⟨_, _, y, hc⟩ | ⟨_, ga, y, p, rfl, ht, _, hv, hf, _, hbal⟩
  · exact absurd hE2 h
  · exact (no_flow hok hc hvw hbw).elim
  · refine ⟨ga, _, ⟨rfl, ?_⟩, hbl⟩
    have := opt_le hok.net hv hvw (fun v hv => by rw [hbw v hv, hbal v hv]) hf
    rwa [wide_cost hk l.length x] at this
/-- Why Solve refuses. -/
def Refused (n : Int) (l : List Ar) (xs : List Int) (er : Int) : Prop := er ≠ 0 ∧ ((needE n l xs ≠ 0 ∧ er = needE n l xs) ∨ (needE n l xs = 0 ∧ er = 13 ∧ ∃ x, Carried n.toNat l.length (arcF l) (fun v => xs.getD v 0) false x))
/-- What Solve finds. -/
def Solved (n : Int) (l : List Ar) (xs : List Int) (x : Nat → Int) : Prop := needE n l xs = 0 ∧ Valid l.length (arcF l) x ∧ (∃ p, Feas l.length (arcF l) x p ∧ LexCert l.length (arcF l) x p) ∧ ∀ v : Nat, v < n.toNat → balF l.length (arcF l) x v = xs.getD v 0
def SolveTwo (n : Int) (l : List Ar) (xs : List Int) (w : World) (e : Ending) (w' : World) : Prop :=
  ((∃ er, e = .returned (.tuple #[.agg #[.slice none 0 0, .int .i64 0], .int .i64 er]) ∧ Refused n l xs er) ∨
   (∃ ga x, e = .returned (.tuple #[.agg #[.slice (some ⟨ga, 0, none⟩) l.length l.length, .int .i64 (costF l.length (arcF l) x)], .int .i64 0]) ∧ TI w' ga l.length x ∧ w.heap.size ≤ ga ∧ Solved n l xs x)) ∧ Below w.heap.size w w'
theorem solve_two (w : World) (n : Int) (A1 : Option Addr) (c1 : Nat) (l : List Ar) (h1 : Kd.C k44 w A1 l.length l) (hc1 : l.length ≤ c1) (A2 : Option Addr) (c2 : Nat) (xs : List Int) (h2 : Kd.C (Kd.int .i64) w A2 xs.length xs) (hc2 : xs.length ≤ c2) :
    Calls Try.prog 21 #[.int .i64 n, .slice A1 l.length c1, .slice A2 xs.length c2] w (SolveTwo n l xs w) := by
  refine (solve_any w n A1 c1 l h1 hc1 A2 c2 xs h2 hc2).mono ?_
  rintro e w' ⟨hpost, hbl⟩
  refine ⟨?_, hbl⟩
  rcases hpost with ⟨h, rfl⟩ | ⟨h, rfl, y, hc⟩ | ⟨h, ga, y, p, rfl, ht, hga, hv, hf, hlx, hbal⟩
  · exact .inl ⟨_, rfl, h, .inl ⟨h, rfl⟩⟩
  · exact .inl ⟨_, rfl, by decide, .inr ⟨h, rfl, y, hc⟩⟩
  · exact .inr ⟨ga, y, rfl, ht, hga, h, hv, ⟨p, hf, hlx⟩, hbal⟩
theorem wf_u8 {n : Int} (h : (Lit.int .u8 n).wf = true) : 0 ≤ n ∧ n ≤ 255 := by
  have h6 : IntKind.u8.min ≤ n ∧ n ≤ IntKind.u8.max := by simpa [Lit.wf] using h
  have e1 : IntKind.u8.min = 0 := by decide
  have e2 : IntKind.u8.max = 255 := by decide
  omega
theorem wf_u16 {n : Int} (h : (Lit.int .u16 n).wf = true) : 0 ≤ n ∧ n ≤ 65535 := by
  have h6 : IntKind.u16.min ≤ n ∧ n ≤ IntKind.u16.max := by simpa [Lit.wf] using h
  have e1 : IntKind.u16.min = 0 := by decide
  have e2 : IntKind.u16.max = 65535 := by decide
  omega
set_option maxRecDepth 100000 in
set_option maxHeartbeats 4000000 in
theorem room_law {n : Int} (_ : (Lit.int .i64 n).wf = true) (A1 : Option Addr) (c1 : Nat) (l : List Ar) (hc1 : l.length ≤ c1) (_ : c1 ≤ 9223372036854775807) {w : World} (h1 : Kd.C k44 w A1 l.length l) (_ : ∀ a ∈ l, (Lit.int .i64 a.f0).wf = true ∧ (Lit.int .i64 a.f1).wf = true ∧ (Lit.int .i64 a.f2).wf = true ∧ (Lit.int .i64 a.f3).wf = true)
    (A2 : Option Addr) (c2 : Nat) (xs : List Int) (hc2 : xs.length ≤ c2) (_ : c2 ≤ 9223372036854775807) (h2 : Kd.C (Kd.int .i64) w A2 xs.length xs) (_ : ∀ a ∈ xs, (Lit.int .i64 a).wf = true)
    {at_ : Int} (ha : (Lit.int .u8 at_).wf = true) {more : Int} (hmo : (Lit.int .u16 more).wf = true) :
    Calls Try.prog 7 #[.int .i64 n, .slice A1 l.length c1, .slice A2 xs.length c2, .int .u8 at_, .int .u16 more] w fun e w' => e = .returned (.bool true) ∧ Below w.heap.size w w' := by
  have ha := wf_u8 ha
  have hmo := wf_u16 hmo
  have HFEW := Lib.hid (few_any w A1 c1 l h1 hc1 A2 c2 xs h2 hc2)
  have H1 := Lib.hid h1
  have H2 := Lib.hid h2
  clear h1 h2
  go_enter Try.func7, Try.ntmps7
  go_wp2_with fail
  refine HFEW.out.mono ?_
  rintro e w1 ⟨rfl, hb1⟩
  have HB1 := Lib.hid hb1
  clear hb1 HFEW
  cases hf : fewB l xs with
  | false =>
    have HAL := Lib.hid (alive_any w1)
    clear hf
    go_wp2_with fail
    refine HAL.out.mono ?_
    rintro e w2 ⟨rfl, hb2⟩
    have HB2 := Lib.hid (below_t HB1.out hb2)
    clear hb2
    go_wp2_with fail
    go_ret
    exact ⟨rfl, HB2.out⟩
  | true =>
    have HFE := Lib.hid (fewB_iff.1 hf)
    clear hf
    by_cases hl0 : l.length = 0
    · have e1 : ((l.length : Int) == 0) = true := by simp [hl0]
      have HAL := Lib.hid (alive_any w1)
      clear hl0
      go_wp2_with fail
      refine HAL.out.mono ?_
      rintro e w2 ⟨rfl, hb2⟩
      have HB2 := Lib.hid (below_t HB1.out hb2)
      clear hb2
      go_wp2_with fail
      go_ret
      exact ⟨rfl, HB2.out⟩
    · have e1 : ((l.length : Int) == 0) = false := beq_eq_false_iff_ne.2 (by omega)
      have hlp : (0 : Int) < l.length := by omega
      have HSV := Lib.hid (solve_two w1 n A1 c1 l (Kd.C_below H1.out HB1.out) hc1 A2 c2 xs (Kd.C_below H2.out HB1.out) hc2)
      clear hl0
      go_wp2_with fail
      refine HSV.out.mono ?_
      rintro e w2 ⟨hpost, hb2⟩
      have HB2 := Lib.hid (below_t HB1.out hb2)
      clear hb2 HSV
      rcases hpost with ⟨er, rfl, href⟩ | ⟨ga, x, rfl, _, _, hso⟩
      · have e2 : (er != 0) = true := by simp [href.1]
        have hal := below_alloc (Below.refl w2.heap.size w2) (.cells #[.slice none 0 0, .int .i64 er] 29 (0, 0))
        have HPA := Lib.hid (paths_any (w2.alloc (.cells #[.slice none 0 0, .int .i64 0] 29 (0, 0))) A1 c1 l (Kd.C_below (Kd.C_below H1.out HB2.out) (below_alloc (Below.refl w2.heap.size w2) _)) hc1 HFE.out.1)
        have HB3 := Lib.hid (below_al HB2.out (.cells #[.slice none 0 0, .int .i64 0] 29 (0, 0)))
        clear href hal
        go_wp2_with fail
        refine HPA.out.mono ?_
        rintro e w4 ⟨⟨A, c, b, rfl, _, _, _⟩, hb4⟩
        have HB4 := Lib.hid (below_t HB3.out hb4)
        have HAL := Lib.hid (alive_any w4)
        clear hb4 HPA
        go_wp2_with fail
        refine HAL.out.mono ?_
        rintro e w5 ⟨rfl, hb5⟩
        have HB5 := Lib.hid (below_t HB4.out hb5)
        clear hb5
        go_wp2_with fail
        go_ret
        exact ⟨rfl, HB5.out⟩
      · have HSO := Lib.hid hso
        have HPA := Lib.hid (paths_any (w2.alloc (.cells #[.slice (some ⟨ga, 0, none⟩) l.length l.length, .int .i64 (costF l.length (arcF l) x)] 29 (0, 0))) A1 c1 l (Kd.C_below (Kd.C_below H1.out HB2.out) (below_alloc (Below.refl w2.heap.size w2) _)) hc1 HFE.out.1)
        have HB3 := Lib.hid (below_al HB2.out (.cells #[.slice (some ⟨ga, 0, none⟩) l.length l.length, .int .i64 (costF l.length (arcF l) x)] 29 (0, 0)))
        have HF3 := Lib.hid (Blk.new w2 #[.slice (some ⟨ga, 0, none⟩) l.length l.length, .int .i64 (costF l.length (arcF l) x)] 29)
        clear hso
        go_wp2_with fail
        refine HPA.out.mono ?_
        rintro e w4 ⟨⟨A, c, b, rfl, hcc, _, hta⟩, hb4⟩
        obtain ⟨rfl, hb0, hta⟩ := hta (by omega)
        have HB4 := Lib.hid (below_t HB3.out hb4)
        have HF4 := Lib.hid (HF3.out.fr (Fr.of_below hb4 (fun _ => False)) (fun a => a))
        obtain ⟨k, hk⟩ : ∃ k : Nat, at_ % (l.length : Int) = k := ⟨(at_ % (l.length : Int)).toNat, by have := Int.emod_nonneg at_ (show (l.length : Int) ≠ 0 by omega); omega⟩
        have hkl : k < l.length := by have := Int.emod_lt_of_pos at_ hlp; omega
        have hk0 : (k : Int) < l.length := by omega
        obtain ⟨k0, k1, k2, k3⟩ := TA.cells hta hkl
        have f2 := TA.free hta (k * 4 + 2)
        have HTA := Lib.hid hta
        have HBB := Lib.hid hb0
        have HKL := Lib.hid hkl
        clear hb4 HPA hta hb0 hkl HB3 HF3 k0 k1 k3
        by_cases hcap : 1099511627776 - more < (arcF l k).f2
        · have e3 : decide (1099511627776 - more < (arcF l k).f2) = true := decide_eq_true hcap
          have HAL := Lib.hid (alive_any w4)
          clear hcap
          go_wp2_with fail
          refine HAL.out.mono ?_
          rintro e w5 ⟨rfl, hb5⟩
          have HB5 := Lib.hid (below_t HB4.out hb5)
          clear hb5
          go_wp2_with fail
          go_ret
          exact ⟨rfl, HB5.out⟩
        · have e3 : decide (1099511627776 - more < (arcF l k).f2) = false := decide_eq_false hcap
          have hcp := (netE_ok (needE_ok HSO.out.1).1).cap k HKL.out
          have hw : IntKind.i64.wrap ((arcF l k).f2 + more) = (arcF l k).f2 + more := IntWalk.i64_in _ (by omega)
          have hta5 : TA (w4.setCell ⟨b, k * 4 + 2, none⟩ (.int .i64 ((arcF l k).f2 + more))) b l.length (arcF (wideL l k more)) := (TA.set2 HTA.out k ((arcF l k).f2 + more)).congr fun i _ => by
            rw [wide_at HKL.out]
            by_cases e : i = k
            · subst e; rw [if_pos rfl]
            · rw [if_neg e, if_neg e]
          have HB5 := Lib.hid (((Fr.of_below HB4.out (fun k => k = b)).setCell (p := ⟨b, k * 4 + 2, none⟩) (.inl rfl) (.int .i64 ((arcF l k).f2 + more))).to_below (Nat.le_refl _) (fun _ h => by
            subst h
            have h1 := HB2.out.size
            have h2 := HBB.out
            simp at h2
            omega))
          have HF5 := Lib.hid (HF4.out.fr ((Fr.refl (fun k => k = b) w4).setCell (p := ⟨b, k * 4 + 2, none⟩) (.inl rfl) (.int .i64 ((arcF l k).f2 + more))) (by
            have h2 := HBB.out
            simp at h2
            omega))
          have HSW := Lib.hid (solve_wide (w4.setCell ⟨b, k * 4 + 2, none⟩ (.int .i64 ((arcF l k).f2 + more))) n l xs k more HKL.out (by omega) (by omega) HSO.out.1 HSO.out.2.1 HSO.out.2.2.2 b c hta5 hcc A2 c2 (Kd.C_below H2.out HB5.out) hc2)
          clear hta5 hcap hcp
          go_wp2_with fail
          refine HSW.out.mono ?_
          rintro e w6 ⟨gb, cst, ⟨rfl, hle⟩, hb6⟩
          have HB6 := Lib.hid (below_al (below_t HB5.out hb6) (.cells #[.slice (some ⟨gb, 0, none⟩) l.length l.length, .int .i64 cst] 29 (0, 0)))
          have hF6 := (HF5.out.fr (Fr.of_below hb6 (fun _ => False)) (fun a => a)).alloc (.cells #[.slice (some ⟨gb, 0, none⟩) l.length l.length, .int .i64 cst] 29 (0, 0))
          have hG6 := Blk.new w6 #[.slice (some ⟨gb, 0, none⟩) l.length l.length, .int .i64 cst] 29
          have c1' := Blk.cell hF6 1 (v := .int .i64 (costF l.length (arcF l) x)) rfl
          have c2' := Blk.cell hG6 1 (v := .int .i64 cst) rfl
          have e4 : decide (cst ≤ costF l.length (arcF l) x) = true := decide_eq_true hle
          have HAL := Lib.hid (alive_any (w6.alloc (.cells #[.slice (some ⟨gb, 0, none⟩) l.length l.length, .int .i64 cst] 29 (0, 0))))
          clear hle hb6 hF6 hG6 k2 f2 HSW
          go_wp2_with fail
          refine HAL.out.mono ?_
          rintro e w7 ⟨rfl, hb7⟩
          have HB7 := Lib.hid (below_t HB6.out hb7)
          clear hb7
          go_wp2_with fail
          go_ret
          exact ⟨rfl, HB7.out⟩
end Go.Proofs.Ytpbndcmmclkdpaa
