/-
  Whole numbers of the reference: what the kit's printed forms of Of, Plus, Times, Over and Within answer.
-/
import Derived.Test.YtcobihdjcdefmaaZBk
import Derived.Test.YtcobihdjcdefmaaZYx6
namespace Go.Proofs.Ytcobihdjcdefmaa
open PAccountsCharges
open Go.RowKit Go.Proofs.YtcobihdjcdefmaaW.PrintWords
attribute [local irreducible] merinoref01_Of.l0 merinoref01_Within.l0
theorem sg_nat {n : Int} : sg (decide (n < 0)) (n.natAbs : Int) = n := by
  unfold sg
  by_cases h : n < 0
  · rw [decide_eq_true h, if_pos rfl]; omega
  · rw [decide_eq_false h, if_neg (by simp)]; omega
/-- Whole of the digits of a number, with a sign: the number. -/
theorem whole_dg {neg : Bool} {m : Nat} {n : Int} (hm : (dg m).length ≤ 1000) (e : sg neg (m : Int) = n) : Ends (fun k => merinoref01_whole.f k neg (dg m)) (decide (n < 0), dg n.natAbs) := by
  have h := whole_e neg hm (dg_good m)
  rw [dg_val, e] at h
  exact h
theorem of_l0 {n0 : Int} : ∀ (m : Nat) (x : Int) (out : List Int), (x.natAbs : Int) < 10000 ^ m → out.length + m ≤ 8 → gL out → x.natAbs ≤ 4611686018427387904 → vL out + x.natAbs * 10000 ^ out.length = n0.natAbs →
    Ends (fun k => merinoref01_Of.l0 k x out (decide (n0 < 0))) (decide (n0 < 0), dg n0.natAbs) := fun m => by
  have fin : ∀ (out : List Int), out.length ≤ 8 → gL out → vL out + ((0 : Int).natAbs : Int) * 10000 ^ out.length = n0.natAbs → Ends (fun k => merinoref01_Of.l0 k 0 out (decide (n0 < 0))) (decide (n0 < 0), dg n0.natAbs) := fun out hl hg hv => by
    have e : vL out = n0.natAbs := by rw [← hv]; simp
    have h := whole_e (l := out) (decide (n0 < 0)) (by omega) hg
    rw [e, sg_nat] at h
    refine Ends.step (Ends.bind h (h := fun t _ => some (t.1, t.2)) Ends.pure) fun k => ?_
    show merinoref01_Of.l0 (k + 1) 0 out (decide (n0 < 0)) = _
    rw [merinoref01_Of.l0, if_pos rfl]
  induction m with
  | zero =>
    intro x out hx hl hg hb hv
    have h0 : x = 0 := by
      have : (x.natAbs : Int) < 1 := hx
      omega
    subst h0
    exact fin out (by omega) hg hv
  | succ m ih =>
    intro x out hx hl hg hb hv
    by_cases h0 : x = 0
    · subst h0; exact fin out (by omega) hg hv
    · rw [pw_succ] at hx
      obtain ⟨d, hd⟩ : ∃ d : Int, d = ((x.natAbs % 10000 : Nat) : Int) := ⟨_, rfl⟩
      obtain ⟨x', hx'⟩ : ∃ x' : Int, x' = Int.tdiv x 10000 := ⟨_, rfl⟩
      have habs : x'.natAbs = x.natAbs / 10000 := by rw [hx', Int.natAbs_tdiv]; rfl
      have hl' : (out ++ [d]).length = out.length + 1 := by rw [List.length_append]; rfl
      have h1 := ih x' (out ++ [d]) (by rw [habs]; omega) (by rw [hl']; omega) (gL_snoc hg (by omega) (by omega)) (by omega) (by
        rw [hl', vL_snoc, habs, pw_succ, ← hv]
        have e : (x.natAbs : Int) = d + 10000 * ((x.natAbs / 10000 : Nat) : Int) := by omega
        conv => rhs; rw [e]
        rw [Int.add_mul, Int.mul_comm 10000, Int.mul_assoc, Int.mul_comm 10000 (10000 ^ out.length)]; omega)
      refine Ends.step h1 fun k => ?_
      show merinoref01_Of.l0 (k + 1) x out (decide (n0 < 0)) = _
      have ew : wrap64 (Int.tdiv x 10000) = x' := by rw [← hx', w64 (by omega)]
      have ht : Int.tmod x 10000 = if x < 0 then -d else d := by
        by_cases hn : x < 0
        · rw [if_pos hn, hd]
          obtain ⟨p, hp⟩ : ∃ p : Nat, x = -(p : Int) := ⟨x.natAbs, by omega⟩
          subst hp
          rw [Int.neg_tmod, Int.tmod_eq_emod_of_nonneg (by omega)]; omega
        · rw [if_neg hn, hd, Int.tmod_eq_emod_of_nonneg (by omega)]; omega
      rw [merinoref01_Of.l0, if_neg h0, ew]
      by_cases hn : Int.tmod x 10000 < 0
      · rw [if_pos hn, if_pos (by omega)]
        have e : wrap64 (-(Int.tmod x 10000)) = d := by
          rw [ht] at hn ⊢
          split at hn
          · rename_i h; rw [if_pos h, w64 (by omega)]; omega
          · omega
        rw [e]
      · rw [if_neg hn, if_pos (by omega)]
        have e : Int.tmod x 10000 = d := by
          rw [ht] at hn ⊢
          split at hn
          · rename_i h; rw [if_pos h]; omega
          · rename_i h; rw [if_neg h]
        rw [e]
theorem of_e {n : Int} (h : n.natAbs ≤ 4611686018427387904) : Ends (fun k => merinoref01_Of.f k n) (decide (n < 0), dg n.natAbs) :=
  of_l0 (n0 := n) 8 n [] (by have : (10000 : Int) ^ 8 = 100000000000000000000000000000000 := by decide
                             omega) (by simp) gL_nil h (by simp [vL, vF])
theorem decide_beq {p q : Prop} [Decidable p] [Decidable q] : ((decide p == decide q) = true) ↔ (p ↔ q) := by
  by_cases hp : p <;> by_cases hq : q <;> simp [hp, hq]
theorem plus_e {x y : Int} (hx : (dg x.natAbs).length ≤ 300) (hy : (dg y.natAbs).length ≤ 300) : Ends (fun k => merinoref01_Plus.f k (decide (x < 0)) (dg x.natAbs) (decide (y < 0)) (dg y.natAbs)) (decide (x + y < 0), dg (x + y).natAbs) := by
  by_cases hs : (x < 0 ↔ y < 0)
  · have he : (decide (x < 0) == decide (y < 0)) = true := decide_beq.2 hs
    obtain ⟨r, hr, hg, hv, hl⟩ := add_e (dg_good x.natAbs) (dg_good y.natAbs) (by omega) (by omega)
    rw [dg_val, dg_val] at hv
    have hw := whole_e (l := r) (decide (x < 0)) (by omega) hg
    have e : sg (decide (x < 0)) (vL r) = x + y := by
      rw [hv]; unfold sg
      by_cases h : x < 0
      · rw [decide_eq_true h, if_pos rfl]; have := hs.1 h; omega
      · rw [decide_eq_false h, if_neg (by simp)]; have : ¬ y < 0 := fun h2 => h (hs.2 h2); omega
    rw [e] at hw
    refine Ends.same (Ends.bind hr (h := fun t k => (merinoref01_whole.f k (decide (x < 0)) t).bind fun bt => some (bt.1, bt.2)) (Ends.bind hw (h := fun bt _ => some (bt.1, bt.2)) Ends.pure)) fun k => ?_
    unfold merinoref01_Plus.f
    rw [if_pos he]
  · have he : ¬ (decide (x < 0) == decide (y < 0)) = true := fun h => hs (decide_beq.1 h)
    have hcmp := cmp_e (x := x.natAbs) (y := y.natAbs) (by omega)
    by_cases hge : y.natAbs ≤ x.natAbs
    · have hsub := sub_e hge (by omega)
      have hw : Ends (fun k => merinoref01_whole.f k (decide (x < 0)) (dg (x.natAbs - y.natAbs))) (decide (x + y < 0), dg (x + y).natAbs) := by
        refine whole_dg (Nat.le_trans (dg_len (k := (dg x.natAbs).length) ?_) (by omega)) ?_
        · have h1 : vL (dg x.natAbs) < 10000 ^ (dg x.natAbs).length := vF_lt (dg_good _)
          rw [dg_val] at h1; omega
        · unfold sg
          by_cases h : x < 0
          · rw [decide_eq_true h, if_pos rfl]; have : ¬ y < 0 := fun h2 => hs ⟨fun _ => h2, fun _ => h⟩; omega
          · rw [decide_eq_false h, if_neg (by simp)]; have : y < 0 := Decidable.byContradiction fun h2 => hs ⟨fun h3 => absurd h3 h, fun h3 => absurd h3 h2⟩; omega
      have hc : cmpI (x.natAbs : Int) (y.natAbs : Int) ≥ 0 := by unfold cmpI; rw [if_neg (by omega)]; split <;> omega
      refine Ends.same (Ends.bind hcmp (h := fun t k => if t ≥ 0 then ((merinoref01_subD.f k (dg x.natAbs) (dg y.natAbs)).bind fun t175 => ((merinoref01_whole.f k (decide (x < 0)) t175).bind fun bt178 => (some (bt178.1, bt178.2)))) else ((merinoref01_subD.f k (dg y.natAbs) (dg x.natAbs)).bind fun t182 => ((merinoref01_whole.f k (decide (y < 0)) t182).bind fun bt185 => (some (bt185.1, bt185.2)))))
        (Ends.same (Ends.bind hsub (h := fun t k => (merinoref01_whole.f k (decide (x < 0)) t).bind fun bt => some (bt.1, bt.2)) (Ends.bind hw (h := fun bt _ => some (bt.1, bt.2)) Ends.pure)) fun k => by rw [if_pos hc])) fun k => ?_
      unfold merinoref01_Plus.f
      rw [if_neg he]
    · have hsub := sub_e (x := y.natAbs) (y := x.natAbs) (by omega) (by omega)
      have hw : Ends (fun k => merinoref01_whole.f k (decide (y < 0)) (dg (y.natAbs - x.natAbs))) (decide (x + y < 0), dg (x + y).natAbs) := by
        refine whole_dg (Nat.le_trans (dg_len (k := (dg y.natAbs).length) ?_) (by omega)) ?_
        · have h1 : vL (dg y.natAbs) < 10000 ^ (dg y.natAbs).length := vF_lt (dg_good _)
          rw [dg_val] at h1; omega
        · unfold sg
          by_cases h : y < 0
          · rw [decide_eq_true h, if_pos rfl]; have : ¬ x < 0 := fun h2 => hs ⟨fun _ => h, fun _ => h2⟩; omega
          · rw [decide_eq_false h, if_neg (by simp)]; have : x < 0 := Decidable.byContradiction fun h2 => hs ⟨fun h3 => absurd h3 h2, fun h3 => absurd h3 h⟩; omega
      have hc : ¬ cmpI (x.natAbs : Int) (y.natAbs : Int) ≥ 0 := by unfold cmpI; rw [if_pos (by omega)]; omega
      refine Ends.same (Ends.bind hcmp (h := fun t k => if t ≥ 0 then ((merinoref01_subD.f k (dg x.natAbs) (dg y.natAbs)).bind fun t175 => ((merinoref01_whole.f k (decide (x < 0)) t175).bind fun bt178 => (some (bt178.1, bt178.2)))) else ((merinoref01_subD.f k (dg y.natAbs) (dg x.natAbs)).bind fun t182 => ((merinoref01_whole.f k (decide (y < 0)) t182).bind fun bt185 => (some (bt185.1, bt185.2)))))
        (Ends.same (Ends.bind hsub (h := fun t k => (merinoref01_whole.f k (decide (y < 0)) t).bind fun bt => some (bt.1, bt.2)) (Ends.bind hw (h := fun bt _ => some (bt.1, bt.2)) Ends.pure)) fun k => by rw [if_neg hc])) fun k => ?_
      unfold merinoref01_Plus.f
      rw [if_neg he]
theorem dg_len_mul {x y : Nat} : (dg (x * y)).length ≤ (dg x).length + (dg y).length := by
  refine dg_len ?_
  have h1 : vL (dg x) < 10000 ^ (dg x).length := vF_lt (dg_good _)
  have h2 : vL (dg y) < 10000 ^ (dg y).length := vF_lt (dg_good _)
  rw [dg_val] at h1 h2
  rw [Int.pow_add, Int.natCast_mul]
  have h3 : (x : Int) * y ≤ (10000 ^ (dg x).length - 1) * 10000 ^ (dg y).length := Int.mul_le_mul (by omega) (by omega) (by omega) (by have := pw_pos (dg x).length; omega)
  rw [Int.sub_mul, Int.one_mul] at h3
  have := pw_pos (dg y).length
  omega
theorem times_e {x y : Int} (hx : (dg x.natAbs).length ≤ 300) (hy : (dg y.natAbs).length ≤ 300) : Ends (fun k => merinoref01_Times.f k (decide (x < 0)) (dg x.natAbs) (decide (y < 0)) (dg y.natAbs)) (decide (x * y < 0), dg (x * y).natAbs) := by
  have hm := mul_dg (x := x.natAbs) (y := y.natAbs) (by omega) (by omega)
  have hw : Ends (fun k => merinoref01_whole.f k (decide (x < 0) != decide (y < 0)) (dg (x.natAbs * y.natAbs))) (decide (x * y < 0), dg (x * y).natAbs) := by
    refine whole_dg (by have := dg_len_mul (x := x.natAbs) (y := y.natAbs); omega) ?_
    rw [Int.natCast_mul]
    unfold sg
    by_cases h1 : x < 0
    · by_cases h2 : y < 0
      · rw [decide_eq_true h1, decide_eq_true h2, if_neg (by simp), show (x.natAbs : Int) = -x by omega, show (y.natAbs : Int) = -y by omega, Int.neg_mul_neg]
      · rw [decide_eq_true h1, decide_eq_false h2, if_pos (by simp), show (x.natAbs : Int) = -x by omega, show (y.natAbs : Int) = y by omega, Int.neg_mul, Int.neg_neg]
    · by_cases h2 : y < 0
      · rw [decide_eq_false h1, decide_eq_true h2, if_pos (by simp), show (x.natAbs : Int) = x by omega, show (y.natAbs : Int) = -y by omega, Int.mul_neg, Int.neg_neg]
      · rw [decide_eq_false h1, decide_eq_false h2, if_neg (by simp), show (x.natAbs : Int) = x by omega, show (y.natAbs : Int) = y by omega]
  exact Ends.bind hm (h := fun t k => (merinoref01_whole.f k (decide (x < 0) != decide (y < 0)) t).bind fun bt => some (bt.1, bt.2)) (Ends.bind hw (h := fun bt _ => some (bt.1, bt.2)) Ends.pure)
theorem dg_len_le {x y : Nat} (h : x ≤ y) : (dg x).length ≤ (dg y).length := by
  refine dg_len ?_
  have h1 : vL (dg y) < 10000 ^ (dg y).length := vF_lt (dg_good _)
  rw [dg_val] at h1; omega
theorem dg_one : dg 1 = [1] := by rw [dg_pos (by decide), show 1 / 10000 = 0 from rfl, dg_zero]; rfl
/-- The floor of x / y and what is left, in digits. -/
theorem over_e {x : Int} {y : Nat} (s : Bool) (hx : (dg x.natAbs).length ≤ 300) (hy : 0 < y) (hly : (dg y).length ≤ 100) : Ends (fun k => merinoref01_Over.f k (decide (x < 0)) (dg x.natAbs) s (dg y)) (decide (x / y < 0), dg (x / y).natAbs, decide (x % y < 0), dg (x % y).natAbs) := by
  have hd := div_e (x := x.natAbs) (y := y) (by omega) hy hly
  obtain ⟨q, hq⟩ : ∃ q, q = x.natAbs / y := ⟨_, rfl⟩
  obtain ⟨r, hr⟩ : ∃ r, r = x.natAbs % y := ⟨_, rfl⟩
  rw [← hq, ← hr] at hd
  have hqx : q ≤ x.natAbs := by rw [hq]; exact Nat.div_le_self _ _
  have hry : r < y := by rw [hr]; exact Nat.mod_lt _ hy
  have hqr : x.natAbs = y * q + r := by rw [hq, hr, Nat.div_add_mod]
  have lq := dg_len_le hqx
  have lr := dg_len_le (Nat.le_of_lt hry)
  have hyq : (y : Int) * q + r = x.natAbs := by rw [hqr, Int.natCast_add, Int.natCast_mul]
  have key : ∀ (Q R : Int), x = y * Q + R → 0 ≤ R → R < y → x / y = Q ∧ x % y = R := fun Q R h1 h2 h3 => by
    rw [h1, Int.mul_comm]
    constructor
    · rw [Int.mul_comm, Int.add_comm, Int.add_mul_ediv_left _ _ (by omega), Int.ediv_eq_zero_of_lt h2 h3, Int.zero_add]
    · rw [Int.mul_comm, Int.add_comm, Int.add_mul_emod_self_left, Int.emod_eq_of_lt h2 h3]
  have goal : ∀ {res : Bool × List Int × Bool × List Int}, Ends (fun k => (if decide (x < 0) = true then (if ((dg r).length : Int) = 0 then ((merinoref01_whole.f k true (dg q)).bind fun bt291 => (some (bt291.1, bt291.2, false, ([] : List Int)))) else ((merinoref01_addD.f k (dg q) (([1] : List Int))).bind fun t298 => ((merinoref01_whole.f k true t298).bind fun bt301 => ((merinoref01_subD.f k (dg y) (dg r)).bind fun t305 => ((merinoref01_whole.f k false t305).bind fun bt308 => (some (bt301.1, bt301.2, bt308.1, bt308.2))))))) else ((merinoref01_whole.f k false (dg q)).bind fun bt283 => ((merinoref01_whole.f k false (dg r)).bind fun bt287 => (some (bt283.1, bt283.2, bt287.1, bt287.2)))))) res →
      Ends (fun k => merinoref01_Over.f k (decide (x < 0)) (dg x.natAbs) s (dg y)) res := fun h =>
    Ends.same (Ends.bind hd (h := fun (bt277 : List Int × List Int) k => (if decide (x < 0) = true then (if (bt277.2.length : Int) = 0 then ((merinoref01_whole.f k true bt277.1).bind fun bt291 => (some (bt291.1, bt291.2, false, ([] : List Int)))) else ((merinoref01_addD.f k bt277.1 (([1] : List Int))).bind fun t298 => ((merinoref01_whole.f k true t298).bind fun bt301 => ((merinoref01_subD.f k (dg y) bt277.2).bind fun t305 => ((merinoref01_whole.f k false t305).bind fun bt308 => (some (bt301.1, bt301.2, bt308.1, bt308.2))))))) else ((merinoref01_whole.f k false bt277.1).bind fun bt283 => ((merinoref01_whole.f k false bt277.2).bind fun bt287 => (some (bt283.1, bt283.2, bt287.1, bt287.2)))))) h) fun k => rfl
  refine goal ?_
  by_cases hneg : x < 0
  · by_cases hr0 : r = 0
    · obtain ⟨e1, e2⟩ := key (-(q : Int)) 0 (by rw [Int.mul_neg]; omega) (Int.le_refl _) (by omega)
      have hw : Ends (fun k => merinoref01_whole.f k true (dg q)) (decide (x / y < 0), dg (x / y).natAbs) := whole_dg (by omega) (by rw [e1]; rfl)
      rw [e2]
      refine Ends.same (Ends.bind hw (h := fun bt _ => some (bt.1, bt.2, false, ([] : List Int))) ?_) fun k => ?_
      · show Ends (fun _ => some (decide (x / y < 0), dg (x / y).natAbs, false, ([] : List Int))) _
        rw [show dg (0 : Int).natAbs = [] from dg_zero, decide_eq_false (show ¬ (0 : Int) < 0 by omega)]; exact Ends.pure
      · rw [if_pos (decide_eq_true hneg), if_pos (by rw [hr0, dg_zero]; rfl)]
    · obtain ⟨e1, e2⟩ := key (-(q : Int) - 1) (y - r) (by rw [Int.mul_sub, Int.mul_neg]; omega) (by omega) (by omega)
      obtain ⟨t, ht, hg, hv, hl⟩ := add_e (dg_good q) (b := [1]) (gL_cons (by decide) (by decide) gL_nil) (by omega) (by decide)
      rw [dg_val, vL_one] at hv
      have hw : Ends (fun k => merinoref01_whole.f k true t) (decide (x / y < 0), dg (x / y).natAbs) := by
        have h := whole_e (l := t) true (by have : ([1] : List Int).length = 1 := rfl; omega) hg
        rw [hv, show sg true ((q : Int) + 1) = x / y by rw [e1]; show -((q : Int) + 1) = _; omega] at h
        exact h
      have hsub := sub_e (x := y) (y := r) (by omega) (by omega)
      have hw2 : Ends (fun k => merinoref01_whole.f k false (dg (y - r))) (decide (x % y < 0), dg (x % y).natAbs) := whole_dg (by have := dg_len_le (show y - r ≤ y by omega); omega) (by rw [e2]; show ((y - r : Nat) : Int) = _; omega)
      have hrl : ¬ ((dg r).length : Int) = 0 := fun h => hr0 (dg_nil_iff.1 (by omega))
      refine Ends.same (Ends.bind ht (h := fun t298 k => ((merinoref01_whole.f k true t298).bind fun bt301 => ((merinoref01_subD.f k (dg y) (dg r)).bind fun t305 => ((merinoref01_whole.f k false t305).bind fun bt308 => (some (bt301.1, bt301.2, bt308.1, bt308.2))))))
        (Ends.bind hw (h := fun bt301 k => ((merinoref01_subD.f k (dg y) (dg r)).bind fun t305 => ((merinoref01_whole.f k false t305).bind fun bt308 => (some (bt301.1, bt301.2, bt308.1, bt308.2)))))
          (Ends.bind hsub (h := fun t305 k => ((merinoref01_whole.f k false t305).bind fun bt308 => (some (decide (x / y < 0), dg (x / y).natAbs, bt308.1, bt308.2))))
            (Ends.bind hw2 (h := fun bt308 _ => some (decide (x / y < 0), dg (x / y).natAbs, bt308.1, bt308.2)) Ends.pure)))) fun k => ?_
      rw [if_pos (decide_eq_true hneg), if_neg hrl]
  · obtain ⟨e1, e2⟩ := key q r (by omega) (by omega) (by omega)
    have hw : Ends (fun k => merinoref01_whole.f k false (dg q)) (decide (x / y < 0), dg (x / y).natAbs) := whole_dg (by omega) (by rw [e1]; rfl)
    have hw2 : Ends (fun k => merinoref01_whole.f k false (dg r)) (decide (x % y < 0), dg (x % y).natAbs) := whole_dg (by omega) (by rw [e2]; rfl)
    refine Ends.same (Ends.bind hw (h := fun bt283 k => ((merinoref01_whole.f k false (dg r)).bind fun bt287 => (some (bt283.1, bt283.2, bt287.1, bt287.2)))) (Ends.bind hw2 (h := fun bt287 _ => some (decide (x / y < 0), dg (x / y).natAbs, bt287.1, bt287.2)) Ends.pure)) fun k => ?_
    rw [if_neg (by simp [hneg])]
end Go.Proofs.Ytcobihdjcdefmaa
