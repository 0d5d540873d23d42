/-
  FlowBlendCheap: what the search finds is the first of the cheapest.
-/
import Derived.Test.YtpbndcmmclkdpaaNd
namespace Go.Proofs.Ytpbndcmmclkdpaa
def AdmB (ps : List S49) (k lo hi : Int) (c : List Int) : Prop := Fits ps c ∧ c.sum = k ∧ lo * k ≤ gr ps c ∧ gr ps c ≤ hi * k
theorem co_small {ps : List S49} (hp : ∀ p ∈ ps, okP p = true) : ∀ {c : List Int}, Fits ps c → co ps c ≤ c.sum * 16384 := by
  induction ps with
  | nil => intro c h; cases c with
    | nil => simp [co]
    | cons => exact h.elim
  | cons p ps ih =>
    intro c h
    cases c with
    | nil => exact h.elim
    | cons t c =>
      have h1 := ih (fun q hq => hp q (List.mem_cons_of_mem _ hq)) h.2
      have h2 : t * p.f1 ≤ t * 16384 := Int.mul_le_mul_of_nonneg_left (okP_out (hp p (List.mem_cons_self ..))).2.1.2 h.1.1
      rw [List.sum_cons]
      unfold co
      omega
theorem best_spec {ps : List S49} (hp : ∀ p ∈ ps, okP p = true) {k lo hi : Int} (hk : 1 ≤ k ∧ k ≤ 24) :
    ((bestB ps k lo hi).1 = big ∧ ∀ c, ¬ AdmB ps k lo hi c) ∨
    ((bestB ps k lo hi).1 < big ∧ AdmB ps k lo hi (bestB ps k lo hi).2 ∧ (bestB ps k lo hi).1 = co ps (bestB ps k lo hi).2 ∧
      ∀ c, AdmB ps k lo hi c → (bestB ps k lo hi).1 < co ps c ∨ ((bestB ps k lo hi).1 = co ps c ∧ (c = (bestB ps k lo hi).2 ∨ Gt (bestB ps k lo hi).2 c))) := by
  have hp0 : ∀ p ∈ ps, 0 ≤ p.f0 := fun p h => (okP_out (hp p h)).1.1
  have hkn : ((k.toNat : Nat) : Int) = k := by omega
  have e : bestB ps k lo hi = (mixes ps k.toNat).foldl (fun st c => if (c.sum = k ∧ lo * k ≤ gr ps c ∧ gr ps c ≤ hi * k) ∧ co ps c < st.1 then (co ps c, c) else st) (big, []) := by
    unfold bestB runB
    refine foldl_same (fun b a _ => ?_) _
    unfold stepB
    simp only [Int.zero_add, List.nil_append, hkn]
  have hb := pick_best (fun c => c.sum = k ∧ lo * k ≤ gr ps c ∧ gr ps c ≤ hi * k) (co ps) (mixes ps k.toNat) (big, []) (mixes_sort ps _)
  simp only at hb
  rw [← e] at hb
  have hin : ∀ {c}, AdmB ps k lo hi c → c ∈ mixes ps k.toNat := fun h => (mem_mixes hp0).2 ⟨h.1, by rw [h.2.1]; omega⟩
  rcases hb with ⟨h1, h2⟩ | ⟨h1, h2, h3, h4, h5⟩
  · refine .inl ⟨by rw [h1], fun c hc => ?_⟩
    have := h2 c (hin hc) hc.2
    have h3 := co_small hp hc.1
    rw [hc.2.1] at h3
    have : (1152921504606846976 : Int) ≤ co ps c := this
    omega
  · exact .inr ⟨h4, ⟨((mem_mixes hp0).1 h1).1, h2⟩, h3, fun c hc => h5 c (hin hc) hc.2⟩
end Go.Proofs.Ytpbndcmmclkdpaa
