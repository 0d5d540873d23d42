/-
  FlowScales.
-/
import Derived.Test.YtpbndcmmclkdpaaPs
namespace Go.Proofs.Ytpbndcmmclkdpaa
open PFlowSolves
open Go.RowKit Go.Proofs.YtpbndcmmclkdpaaW.PrintWords
/-- Two lists in memory of their own. -/
structure Two {α : Type} (d : Kd α) (e : Nat) (w0 W : World) (v u : Value) (xs ys : List α) : Prop where
  a : d.R e W w0.heap.size (fun _ => True) v xs
  b : d.R e W w0.heap.size (fun _ => True) u ys
  ne : ∀ k, v.ownBlock = some k → u.ownBlock ≠ some k
section
variable {α : Type} {d : Kd α} {e : Nat} {w0 W W' : World} {v u v1 : Value} {xs ys xs1 : List α}
theorem Two.nil (d : Kd α) (e : Nat) (w0 W : World) : Two d e w0 W (.slice none 0 0) (.slice none 0 0) [] [] := ⟨Kd.R_nil _ _ _ _ _, Kd.R_nil _ _ _ _ _, fun k h => by simp [Value.ownBlock] at h⟩
theorem Two.below (h : Two d e w0 W v u xs ys) (hb : Below W.heap.size W W') : Two d e w0 W' v u xs ys := ⟨Kd.R_below h.a hb, Kd.R_below h.b hb, h.ne⟩
theorem Two.lta (h : Two d e w0 W v u xs ys) : ∀ k, v.ownBlock = some k → k < W.heap.size := fun k hk => ((Kd.R_bound h.a).1 k hk).2.2.1
theorem Two.ltb (h : Two d e w0 W v u xs ys) : ∀ k, u.ownBlock = some k → k < W.heap.size := fun k hk => ((Kd.R_bound h.b).1 k hk).2.2.1
theorem Two.left (hE : d.E = []) (h : Two d e w0 W v u xs ys) (hR : d.R e W' w0.heap.size (fun _ => True) v1 xs1) (hg : W.grownBy W' v.ownBlock) (hat : v1.ownBlock = v.ownBlock ∨ ∃ b, v1.ownBlock = some b ∧ W.heap.size ≤ b) : Two d e w0 W' v1 u xs1 ys :=
  ⟨hR, Kd.R_grown2 h.b hE hg (fun k hk hu => h.ne k hk hu.symm), fun k hk hu => by
    rcases hat with g | ⟨b, g, hb⟩
    · exact h.ne k (by rw [← g]; exact hk) hu
    · have := h.ltb k hu
      rw [g] at hk
      have := Option.some.inj hk
      omega⟩
theorem Two.right (hE : d.E = []) (h : Two d e w0 W v u xs ys) (hR : d.R e W' w0.heap.size (fun _ => True) v1 xs1) (hg : W.grownBy W' u.ownBlock) (hat : v1.ownBlock = u.ownBlock ∨ ∃ b, v1.ownBlock = some b ∧ W.heap.size ≤ b) : Two d e w0 W' v v1 xs xs1 :=
  ⟨Kd.R_grown2 h.a hE hg (fun k hk hu => h.ne k hu.symm hk), hR, fun k hk hu => by
    rcases hat with g | ⟨b, g, hb⟩
    · exact h.ne k hk (by rw [← g]; exact hu)
    · have := h.lta k hk
      rw [g] at hu
      have := Option.some.inj hu
      omega⟩
end
/-- Solve of what is scaled. -/
theorem solve_scaled (w : World) (n : Int) (l : List Ar) (xs : List Int) (k : Int) (h0 : needE n l xs = 0) (hk0 : 0 < k) (hk9 : k ≤ 9) (hcap : ∀ a ∈ l, a.f2 ≤ 122167958641) (hnd : ∀ v ∈ xs, -15637498706147 ≤ v ∧ v ≤ 15637498706147)
    (A1 : Option Addr) (c1 : Nat) (h1 : Kd.C k44 w A1 (l.map (scaleA k)).length (l.map (scaleA k))) (hc1 : (l.map (scaleA k)).length ≤ c1) (A2 : Option Addr) (c2 : Nat) (h2 : Kd.C (Kd.int .i64) w A2 (xs.map (· * k)).length (xs.map (· * k))) (hc2 : (xs.map (· * k)).length ≤ c2) :
    Calls Try.prog 21 #[.int .i64 n, .slice A1 (l.map (scaleA k)).length c1, .slice A2 (xs.map (· * k)).length c2] w fun e w' => ∃ A len c cst er, (e = .returned (.tuple #[.agg #[.slice A len c, .int .i64 cst], .int .i64 er]) ∧
      ((∃ x, Carried n.toNat l.length (arcF l) (fun v => xs.getD v 0) false x) → er = 13 ∧ cst = 0) ∧ (∀ x, Solved n l xs x → er = 0 ∧ cst = costF l.length (arcF l) x * k)) ∧ Below w.heap.size w w' := by
  obtain ⟨g1, g2, g3, g4⟩ := needE_ok h0
  obtain ⟨k1, k2, k3, _⟩ := netE_range g1
  have hok := netE_ok g1
  have hlen : (l.map (scaleA k)).length = l.length := List.length_map _
  have hB : ∀ i, i < l.length → arcF (l.map (scaleA k)) i = scaleA k (arcF l i) := fun i hi => arcF_map _ hi
  have hxv : ∀ v : Nat, v < xs.length → (xs.map (· * k)).getD v 0 = xs.getD v 0 * k := fun v hv => by
    rw [List.getD_eq_getElem?_getD, List.getElem?_map, List.getD_eq_getElem?_getD, List.getElem?_eq_getElem hv]; rfl
  have hE2 : needE n (l.map (scaleA k)) (xs.map (· * k)) = 0 := by
    refine needE_of (netE_of k1 k2 (by rw [hlen]; exact k3) fun a ha => ?_) (by rw [List.length_map]; exact g2) (fun v hv => ?_) ?_
    · obtain ⟨b, hb, rfl⟩ := List.mem_map.1 ha
      have := netE_not g1 b hb
      have hc := hcap b hb
      have hm : b.f2 * k ≤ 122167958641 * 9 := by
        rcases Int.lt_or_le b.f2 0 with g | g
        · have := Int.mul_nonneg (show 0 ≤ -b.f2 by omega) (show 0 ≤ k by omega)
          rw [Int.neg_mul] at this
          omega
        · exact Int.mul_le_mul hc hk9 (by omega) (by omega)
      have hm0 : ¬ b.f2 < 0 → 0 ≤ b.f2 * k := fun g => Int.mul_nonneg (by omega) (by omega)
      unfold BadP at this ⊢
      unfold scaleA
      simp only
      omega
    · rw [List.length_map] at hv
      rw [hxv v hv]
      have hm : xs.getD v 0 ∈ xs := by rw [List.getD_eq_getElem?_getD, List.getElem?_eq_getElem hv]; exact List.getElem_mem hv
      have := hnd _ hm
      have a1 : xs.getD v 0 * k ≤ 15637498706147 * k := Int.mul_le_mul_of_nonneg_right this.2 (by omega)
      have a2 : -15637498706147 * k ≤ xs.getD v 0 * k := Int.mul_le_mul_of_nonneg_right this.1 (by omega)
      omega
    · rw [List.length_map, sumN_congr (g := fun v => k * xs.getD v 0) (fun v hv => by rw [hxv v hv, Int.mul_comm]), sumN_mul, g4, Int.mul_zero]
  have hok2 := netE_ok (needE_ok hE2).1
  rw [hlen] at hok2
  have hwant : ∀ v, v < n.toNat → (fun v => (xs.map (· * k)).getD v 0) v = (fun v => xs.getD v 0) v * k := fun v hv => hxv v (by omega)
  refine (solve_two w n A1 c1 _ h1 hc1 A2 c2 _ h2 hc2).mono ?_
  rintro e w' ⟨hpost, hb⟩
  rcases hpost with ⟨er, rfl, h0', hr⟩ | ⟨ga, y, rfl, ht, _, hE', hv, ⟨q, hq, _⟩, hbal⟩
  · refine ⟨_, _, _, _, _, ⟨rfl, fun _ => ?_, fun x hx => ?_⟩, hb⟩
    · rcases hr with ⟨hr, _⟩ | ⟨_, hr, _⟩
      · exact absurd hE2 hr
      · exact ⟨hr, rfl⟩
    · rcases hr with ⟨hr, _⟩ | ⟨_, _, z, hc⟩
      · exact absurd hE2 hr
      · rw [hlen] at hc
        obtain ⟨_, hvx, _, hbx⟩ := hx
        exact (no_flow hok2 hc (valid_mul hk0 hB hvx) (fun v hv => by rw [bal_mul hB, hbx v hv]; exact (hwant v hv).symm)).elim
  · refine ⟨_, _, _, _, _, ⟨rfl, fun ⟨x, hc⟩ => ?_, fun x hx => ⟨rfl, ?_⟩⟩, hb⟩
    · obtain ⟨S, hS⟩ := stuck_exc hok hc
      rw [hlen] at hv hbal
      have h2 := flow_exc hok2.net hv hbal S
      rw [exc_mul hB hwant S] at h2
      have := Int.mul_pos hS hk0
      omega
    · obtain ⟨_, hvx, ⟨p, hp, _⟩, hbx⟩ := hx
      rw [hlen] at hv hbal hq ⊢
      have hbb : ∀ v : Nat, v < n.toNat → balF l.length (arcF (l.map (scaleA k))) (fun i => x i * k) v = balF l.length (arcF (l.map (scaleA k))) y v := fun v hv => by rw [bal_mul hB, hbx v hv, hbal v hv]; exact (hwant v hv).symm
      have c1 := opt_le hok2.net hv (valid_mul hk0 hB hvx) hbb hq
      have c2 := opt_le hok2.net (valid_mul hk0 hB hvx) hv (fun v hv => (hbb v hv).symm) (feas_mul hk0 hB hp)
      rw [cost_mul hB] at c1 c2
      omega
/-- Solve of what is turned about. -/
theorem solve_turned (w : World) (n : Int) (l : List Ar) (xs : List Int) (h0 : needE n l xs = 0)
    (A1 : Option Addr) (c1 : Nat) (h1 : Kd.C k44 w A1 (l.map turnA).length (l.map turnA)) (hc1 : (l.map turnA).length ≤ c1) (A2 : Option Addr) (c2 : Nat) (h2 : Kd.C (Kd.int .i64) w A2 (xs.map (- ·)).length (xs.map (- ·))) (hc2 : (xs.map (- ·)).length ≤ c2) :
    Calls Try.prog 21 #[.int .i64 n, .slice A1 (l.map turnA).length c1, .slice A2 (xs.map (- ·)).length c2] w fun e w' => ∃ A len c cst er, (e = .returned (.tuple #[.agg #[.slice A len c, .int .i64 cst], .int .i64 er]) ∧
      ((∃ x, Carried n.toNat l.length (arcF l) (fun v => xs.getD v 0) false x) → er = 13 ∧ cst = 0 ∧ A = none ∧ len = 0 ∧ c = 0) ∧ (∀ x, Solved n l xs x → er = 0 ∧ cst = costF l.length (arcF l) x ∧ ∃ gb, A = some ⟨gb, 0, none⟩ ∧ len = l.length ∧ c = l.length ∧ TI w' gb l.length x)) ∧ Below w.heap.size w w' := by
  obtain ⟨g1, g2, g3, g4⟩ := needE_ok h0
  obtain ⟨k1, k2, k3, _⟩ := netE_range g1
  have hok := netE_ok g1
  have hlen : (l.map turnA).length = l.length := List.length_map _
  have hB : ∀ i, i < l.length → arcF (l.map turnA) i = turnA (arcF l i) := fun i hi => arcF_map _ hi
  have hxv : ∀ v : Nat, v < xs.length → (xs.map (- ·)).getD v 0 = - xs.getD v 0 := fun v hv => by
    rw [List.getD_eq_getElem?_getD, List.getElem?_map, List.getD_eq_getElem?_getD, List.getElem?_eq_getElem hv]; rfl
  have hE2 : needE n (l.map turnA) (xs.map (- ·)) = 0 := by
    refine needE_of (netE_of k1 k2 (by rw [hlen]; exact k3) fun a ha => ?_) (by rw [List.length_map]; exact g2) (fun v hv => ?_) ?_
    · obtain ⟨b, hb, rfl⟩ := List.mem_map.1 ha
      have := netE_not g1 b hb
      unfold BadP at this ⊢
      unfold turnA
      simp only
      omega
    · rw [List.length_map] at hv
      rw [hxv v hv]
      have := g3 v hv
      omega
    · rw [List.length_map, sumN_congr (g := fun v => (-1) * xs.getD v 0) (fun v hv => by rw [hxv v hv]; omega), sumN_mul, g4]; rfl
  have hok2 := netE_ok (needE_ok hE2).1
  rw [hlen] at hok2
  have hBi : ∀ i, i < l.length → arcF l i = turnA (arcF (l.map turnA) i) := fun i hi => by rw [hB i hi]; rfl
  refine (solve_two w n A1 c1 _ h1 hc1 A2 c2 _ h2 hc2).mono ?_
  rintro e w' ⟨hpost, hb⟩
  rcases hpost with ⟨er, rfl, h0', hr⟩ | ⟨ga, y, rfl, ht, _, hE', hv, ⟨q, hq, hlq⟩, hbal⟩
  · refine ⟨_, _, _, _, _, ⟨rfl, fun _ => ?_, fun x hx => ?_⟩, hb⟩
    · rcases hr with ⟨hr, _⟩ | ⟨_, hr, _⟩
      · exact absurd hE2 hr
      · exact ⟨hr, rfl, rfl, rfl, rfl⟩
    · rcases hr with ⟨hr, _⟩ | ⟨_, _, z, hc⟩
      · exact absurd hE2 hr
      · rw [hlen] at hc
        obtain ⟨_, hvx, _, hbx⟩ := hx
        exact (no_flow hok2 hc (turn_valid hB hvx) (fun v hv => by rw [turn_bal hB, hbx v hv]; exact (hxv v (by omega)).symm)).elim
  · rw [hlen] at ht hv hq hlq hbal
    refine ⟨_, _, _, _, _, ⟨rfl, fun ⟨x, hc⟩ => ?_, fun x hx => ⟨rfl, ?_⟩⟩, hb⟩
    · exact (no_flow hok hc (turn_valid hBi hv) (fun v hv => by rw [turn_bal hBi, hbal v hv, hxv v (by omega)]; omega)).elim
    · obtain ⟨_, hvx, ⟨p, hp, hlp⟩, hbx⟩ := hx
      have hbb : ∀ v : Nat, v < n.toNat → balF l.length (arcF (l.map turnA)) y v = balF l.length (arcF (l.map turnA)) x v := fun v hv => by rw [turn_bal (x := x) hB, hbx v hv, hbal v hv]; exact hxv v (by omega)
      have hu := lex_unique hok2.net (turn_valid hB hvx) hv hbb (turn_feas hB hp) (turn_lex hB hlp) hq hlq
      refine ⟨?_, ga, rfl, hlen, hlen, ht.congr fun i hi => by rw [hu i hi]⟩
      rw [hlen, ← turn_cost (x := x) hB]
      exact sumN_congr fun i hi => by rw [hu i hi]
end Go.Proofs.Ytpbndcmmclkdpaa
