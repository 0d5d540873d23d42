/-
  What the reference's Cost answers, and what Solve finds, told shortly (for FlowSolves and the Fill statements).
-/
import Derived.Test.YtpbndcmmclkdpaaZGQk
namespace Go.Proofs.Ytpbndcmmclkdpaa
open PFlowSolves
open Go.RowKit Go.Proofs.YtpbndcmmclkdpaaW.PrintWords
theorem rsteps_C {w w' : World} {A : Nat → Ar} {L : List Stp} {v : Value} (hR : Kd.R k96 96 w' w.heap.size (fun _ => True) v (L.map (toR A))) : ∃ AS c, v = .slice AS L.length c ∧ Kd.C k96 w' AS L.length (L.map (toR A)) := by
  obtain ⟨AS, c, e, _, hC⟩ := Kd.R_reads hR
  rw [List.length_map] at e hC
  exact ⟨AS, c, e, hC⟩
theorem costF_abs2 {m : Nat} {A : Nat → Ar} {x : Nat → Int} (hx : ∀ i, i < m → 0 ≤ x i ∧ x i ≤ 65536) (hc : ∀ i, i < m → -32768 ≤ (A i).f3 ∧ (A i).f3 ≤ 32768) : ∀ i, i ≤ m → -(i * 2147483648) ≤ costF i A x ∧ costF i A x ≤ i * 2147483648
  | 0, _ => by simp [costF, sumN]
  | i + 1, hi => by
    have ih := costF_abs2 (A := A) hx hc i (by omega)
    obtain ⟨h1, h2⟩ := hx i (by omega)
    obtain ⟨h3, h4⟩ := hc i (by omega)
    have e : costF (i + 1) A x = costF i A x + (A i).f3 * x i := rfl
    have a1 : (A i).f3 * x i ≤ 32768 * x i := Int.mul_le_mul_of_nonneg_right h4 h1
    have a2 : -32768 * x i ≤ (A i).f3 * x i := Int.mul_le_mul_of_nonneg_right h3 h1
    rw [e]
    omega
theorem cost_l0 (l : List Ar) (xs : List Int) (hlen : l.length ≤ xs.length) (hl : l.length ≤ 1000) (hb : ∀ i, i ≤ l.length → -(i * 2147483648) ≤ costF i (arcF l) (xsF xs) ∧ costF i (arcF l) (xsF xs) ≤ i * 2147483648) (hl2 : l.length ≤ 200) :
    ∀ (r i k : Nat), i + r = l.length → r + 1 ≤ k → merinoref05_Cost.l0 k l xs (costF i (arcF l) (xsF xs)) (i : Int) = some (costF l.length (arcF l) (xsF xs))
  | 0, i, k + 1, hi, _ => by
    unfold merinoref05_Cost.l0
    have e : i = l.length := by omega
    rw [if_neg (by omega), e]
  | r + 1, i, k + 1, hi, hk => by
    obtain ⟨a, ha⟩ : ∃ a, l[i]? = some a := ⟨_, List.getElem?_eq_getElem (by omega)⟩
    obtain ⟨b, hb'⟩ : ∃ b, xs[i]? = some b := ⟨_, List.getElem?_eq_getElem (by omega)⟩
    unfold merinoref05_Cost.l0
    rw [if_pos (by omega), if_pos (by omega), if_pos (by omega), rd44 ha, rdI hb', wr64 (x := (i : Int) + 1) (by omega)]
    have ih := cost_l0 l xs hlen hl hb hl2 r (i + 1) k (by omega) (by omega)
    have e1 : arcF l i = a := by unfold arcF; rw [List.getD_eq_getElem?_getD, ha]; rfl
    have e : costF (i + 1) (arcF l) (xsF xs) = costF i (arcF l) (xsF xs) + a.f3 * b := by
      show costF i (arcF l) (xsF xs) + (arcF l i).f3 * xs.getD i 0 = _
      rw [e1, getD_of hb']
    have b0 := hb i (by omega)
    have b1 := hb (i + 1) (by omega)
    rw [e] at b1
    rw [wr64 (x := a.f3 * b) (by omega), wr64 (by omega), ← e]
    rw [show ((i + 1 : Nat) : Int) = (i : Int) + 1 by omega] at ih
    exact ih
theorem rcost_any (w : World) (A1 : Option Addr) (c1 : Nat) (l : List Ar) (h1 : Kd.C k44 w A1 l.length l) (hc1 : l.length ≤ c1) (A2 : Option Addr) (c2 : Nat) (xs : List Int) (h2 : Kd.C (Kd.int .i64) w A2 xs.length xs) (hc2 : xs.length ≤ c2) (hl2 : l.length ≤ 200) (hcap : ∀ i, i < l.length → (arcF l i).f2 ≤ 65536) (hcst : ∀ i, i < l.length → -32768 ≤ (arcF l i).f3 ∧ (arcF l i).f3 ≤ 32768) (hx : Valid l.length (arcF l) (xsF xs)) (hlen : l.length ≤ xs.length) :
    Calls Try.prog 27 #[.slice A1 l.length c1, .slice A2 xs.length c2] w fun e w' => e = .returned (.int .i64 (costF l.length (arcF l) (xsF xs))) ∧ Below w.heap.size w w' := by
  have h : merinoref05_Cost.f 300 l xs = some (costF l.length (arcF l) (xsF xs)) := by
    unfold merinoref05_Cost.f
    exact cost_l0 l xs hlen (by omega) (costF_abs2 (fun i hi => ⟨(hx i hi).1, Int.le_trans (hx i hi).2 (hcap i hi)⟩) hcst) hl2 l.length 0 300 (by omega) (by omega)
  exact (merinoref05_Cost.calls 300 A1 c1 l A2 c2 xs _ w h1 hc1 h2 hc2 h).mono fun e w' ⟨he, hb⟩ => ⟨he, by first | exact hb | exact hb.below⟩
theorem TI_list {w : World} {b n : Nat} {f : Nat → Int} (h : TI w b n f) (hn : n ≤ 100000) : ∃ xs : List Int, xs.length = n ∧ (∀ i, i < n → xs.getD i 0 = f i) ∧ Kd.C (Kd.int .i64) w (some ⟨b, 0, none⟩) xs.length xs := by
  have hg : ∀ i, i < n → ((List.range n).map f).getD i 0 = f i := fun i hi => by
    rw [List.getD_eq_getElem?_getD, List.getElem?_map, List.getElem?_range hi]; rfl
  exact ⟨(List.range n).map f, by simp, hg, TI_C h _ (by simp) hn (fun i hi => (hg i hi).symm)⟩
end Go.Proofs.Ytpbndcmmclkdpaa
