/-
  What the reference's Cost answers, and what Solve finds, told shortly (for FlowSolves and the Fill statements).
-/
import Derived.Test.YtpbndcmmclkdpaaQk
namespace Go.Proofs.Ytpbndcmmclkdpaa
open PFlowSolves
open Go.RowKit Go.Proofs.YtpbndcmmclkdpaaW.PrintWords
theorem rsteps_C {w w' : World} {A : Nat → Ar} {L : List Stp} {v : Value} (hR : Kd.R k96 96 w' w.heap.size (fun _ => True) v (L.map (toR A))) : ∃ AS c, v = .slice AS L.length c ∧ Kd.C k96 w' AS L.length (L.map (toR A)) := by
  obtain ⟨AS, c, e, _, hC⟩ := Kd.R_reads hR
  rw [List.length_map] at e hC
  exact ⟨AS, c, e, hC⟩
theorem cost_l0 (l : List Ar) (xs : List Int) (hlen : l.length ≤ xs.length) (hl : l.length ≤ 1000) (hb : ∀ i, i ≤ l.length → -(i * 36028797018963968) ≤ costF i (arcF l) (xsF xs) ∧ costF i (arcF l) (xsF xs) ≤ i * 36028797018963968) (hl2 : l.length ≤ 128) :
    ∀ (r i k : Nat), i + r = l.length → r + 1 ≤ k → merinoref05_Cost.l0 k l xs (costF i (arcF l) (xsF xs)) (i : Int) = some (costF l.length (arcF l) (xsF xs))
  | 0, i, k + 1, hi, _ => by
    unfold merinoref05_Cost.l0
    have e : i = l.length := by omega
    rw [if_neg (by omega), e]
  | r + 1, i, k + 1, hi, hk => by
    obtain ⟨a, ha⟩ : ∃ a, l[i]? = some a := ⟨_, List.getElem?_eq_getElem (by omega)⟩
    obtain ⟨b, hb'⟩ : ∃ b, xs[i]? = some b := ⟨_, List.getElem?_eq_getElem (by omega)⟩
    unfold merinoref05_Cost.l0
    rw [if_pos (by omega), if_pos (by omega), if_pos (by omega), rd44 ha, rdI hb', wr64 (x := (i : Int) + 1) (by omega)]
    have ih := cost_l0 l xs hlen hl hb hl2 r (i + 1) k (by omega) (by omega)
    have e1 : arcF l i = a := by unfold arcF; rw [List.getD_eq_getElem?_getD, ha]; rfl
    have e : costF (i + 1) (arcF l) (xsF xs) = costF i (arcF l) (xsF xs) + a.f3 * b := by
      show costF i (arcF l) (xsF xs) + (arcF l i).f3 * xs.getD i 0 = _
      rw [e1, getD_of hb']
    have b0 := hb i (by omega)
    have b1 := hb (i + 1) (by omega)
    rw [e] at b1
    rw [wr64 (x := a.f3 * b) (by omega), wr64 (by omega), ← e]
    rw [show ((i + 1 : Nat) : Int) = (i : Int) + 1 by omega] at ih
    exact ih
theorem rcost_any (w : World) (A1 : Option Addr) (c1 : Nat) (l : List Ar) (h1 : Kd.C k44 w A1 l.length l) (hc1 : l.length ≤ c1) (A2 : Option Addr) (c2 : Nat) (xs : List Int) (h2 : Kd.C (Kd.int .i64) w A2 xs.length xs) (hc2 : xs.length ≤ c2) {n : Nat} (hok : NetOk n l.length (arcF l)) (hx : Valid l.length (arcF l) (xsF xs)) (hlen : l.length ≤ xs.length) :
    Calls Try.prog 27 #[.slice A1 l.length c1, .slice A2 xs.length c2] w fun e w' => e = .returned (.int .i64 (costF l.length (arcF l) (xsF xs))) ∧ Below w.heap.size w w' := by
  have h : merinoref05_Cost.f 300 l xs = some (costF l.length (arcF l) (xsF xs)) := by
    unfold merinoref05_Cost.f
    exact cost_l0 l xs hlen (by have := hok.m1; omega) (costF_abs (fun i hi => ⟨(hx i hi).1, Int.le_trans (hx i hi).2 (hok.cap i hi).2⟩) hok.cost) hok.m1 l.length 0 300 (by omega) (by have := hok.m1; omega)
  exact (merinoref05_Cost.calls 300 A1 c1 l A2 c2 xs _ w h1 hc1 h2 hc2 h).mono fun e w' ⟨he, hb⟩ => ⟨he, by first | exact hb | exact hb.below⟩
theorem TI_list {w : World} {b n : Nat} {f : Nat → Int} (h : TI w b n f) (hn : n ≤ 100000) : ∃ xs : List Int, xs.length = n ∧ (∀ i, i < n → xs.getD i 0 = f i) ∧ Kd.C (Kd.int .i64) w (some ⟨b, 0, none⟩) xs.length xs := by
  have hg : ∀ i, i < n → ((List.range n).map f).getD i 0 = f i := fun i hi => by
    rw [List.getD_eq_getElem?_getD, List.getElem?_map, List.getElem?_range hi]; rfl
  exact ⟨(List.range n).map f, by simp, hg, TI_C h _ (by simp) hn (fun i hi => (hg i hi).symm)⟩
def Refused (n : Int) (l : List Ar) (xs : List Int) (er : Int) : Prop := er ≠ 0 ∧ ((needE n l xs ≠ 0 ∧ er = needE n l xs) ∨ (needE n l xs = 0 ∧ er = 13 ∧ ∃ x, Carried n.toNat l.length (arcF l) (fun v => xs.getD v 0) false x))
/-- What Solve finds. -/
def Solved (n : Int) (l : List Ar) (xs : List Int) (x : Nat → Int) : Prop := needE n l xs = 0 ∧ Valid l.length (arcF l) x ∧ (∃ p, Feas l.length (arcF l) x p ∧ LexCert l.length (arcF l) x p) ∧ ∀ v : Nat, v < n.toNat → balF l.length (arcF l) x v = xs.getD v 0
def SolveTwo (n : Int) (l : List Ar) (xs : List Int) (w : World) (e : Ending) (w' : World) : Prop :=
  ((∃ er, e = .returned (.tuple #[.agg #[.slice none 0 0, .int .i64 0], .int .i64 er]) ∧ Refused n l xs er) ∨
   (∃ ga x, e = .returned (.tuple #[.agg #[.slice (some ⟨ga, 0, none⟩) l.length l.length, .int .i64 (costF l.length (arcF l) x)], .int .i64 0]) ∧ TI w' ga l.length x ∧ w.heap.size ≤ ga ∧ Solved n l xs x)) ∧ Below w.heap.size w w'
theorem solve_two (w : World) (n : Int) (A1 : Option Addr) (c1 : Nat) (l : List Ar) (h1 : Kd.C k44 w A1 l.length l) (hc1 : l.length ≤ c1) (A2 : Option Addr) (c2 : Nat) (xs : List Int) (h2 : Kd.C (Kd.int .i64) w A2 xs.length xs) (hc2 : xs.length ≤ c2) :
    Calls Try.prog 21 #[.int .i64 n, .slice A1 l.length c1, .slice A2 xs.length c2] w (SolveTwo n l xs w) := by
  refine (solve_any w n A1 c1 l h1 hc1 A2 c2 xs h2 hc2).mono ?_
  rintro e w' ⟨hpost, hbl⟩
  refine ⟨?_, hbl⟩
  rcases hpost with ⟨h, rfl⟩ | ⟨h, rfl, y, hc⟩ | ⟨h, ga, y, p, rfl, ht, hga, hv, hf, hlx, hbal⟩
  · exact .inl ⟨_, rfl, h, .inl ⟨h, rfl⟩⟩
  · exact .inl ⟨_, rfl, by decide, .inr ⟨h, rfl, y, hc⟩⟩
  · exact .inr ⟨ga, y, rfl, ht, hga, h, hv, ⟨p, hf, hlx⟩, hbal⟩
end Go.Proofs.Ytpbndcmmclkdpaa
