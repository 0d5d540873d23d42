/-
  Products and quotients of digits: what the kit's printed forms answer.
-/
import Derived.Test.YtcobihdjcdefmaaZBj
namespace Go.Proofs.Ytcobihdjcdefmaa
open PAccountsCharges
open Go.RowKit Go.Proofs.YtcobihdjcdefmaaW.PrintWords
attribute [local irreducible] merinoref01_mulD.l0 merinoref01_mulD.l1 merinoref01_divD.l0 merinoref01_divD.l1
theorem cmpI_le {x y : Int} : cmpI x y ≤ 0 ↔ x ≤ y := by
  unfold cmpI
  by_cases h1 : x < y
  · rw [if_pos h1]; omega
  · rw [if_neg h1]
    by_cases h2 : y < x
    · rw [if_pos h2]; omega
    · rw [if_neg h2]; omega
theorem dF_set {l : List Int} {p : Nat} (hp : p < l.length) (v : Int) (j : Nat) : dF (l.set p v) j = if j = p then v else dF l j := by
  show (l.set p v).getD j 0 = if j = p then v else l.getD j 0
  rw [List.getD_eq_getElem?_getD, List.getElem?_set]
  by_cases e : p = j
  · rw [if_pos e, if_pos hp, if_pos e.symm]; rfl
  · rw [if_neg e, if_neg (fun h => e h.symm), ← List.getD_eq_getElem?_getD]
theorem gL_set {l : List Int} {p : Nat} (hp : p < l.length) {v : Int} (h : gL l) (h0 : 0 ≤ v ∧ v < 10000) : gL (l.set p v) := fun j hj => by
  rw [List.length_set] at hj
  rw [dF_set hp]
  split
  · exact h0
  · exact h j hj
theorem vF_eq_set {l : List Int} {p : Nat} (hp : p < l.length) (v : Int) (n : Nat) : vF n (dF (l.set p v)) = vF n (fun j => if j = p then v else dF l j) := vF_congr fun j _ => dF_set hp v j
section
variable {a b : List Int}
theorem mul_un {o : List Int} {i kk : Nat} {c : Int} (hi : i < a.length) (hkk : kk < b.length) (hp : i + kk < o.length) (hol : o.length ≤ 1000) (bf : 0 ≤ dF o (i + kk) ∧ dF o (i + kk) < 10000) (bx : 0 ≤ dF a i * dF b kk ∧ dF a i * dF b kk ≤ 99980001) (hc : 0 ≤ c ∧ c < 10000) {s : Int} (hs : s = dF o (i + kk) + dF a i * dF b kk + c) (k : Nat) :
    merinoref01_mulD.l1 (k + 1) a b o (i : Int) c (kk : Int) = merinoref01_mulD.l1 k a b (o.set (i + kk) (s % 10000)) (i : Int) (s / 10000) ((kk + 1 : Nat) : Int) := by
  have p1 : (i : Int) < a.length := by omega
  have p2 : (0 : Int) ≤ i := by omega
  have p3 : (kk : Int) < b.length := by omega
  have p4 : (0 : Int) ≤ kk := by omega
  have p5 : (0 : Int) ≤ ((i + kk : Nat) : Int) := by omega
  have p6 : ((i + kk : Nat) : Int) < o.length := by omega
  have hb : 0 ≤ s ∧ s ≤ 200000000 := by omega
  have e1 : wrap64 ((i : Int) + kk) = ((i + kk : Nat) : Int) := by rw [← Int.natCast_add]; exact w64d (by omega)
  have e5 := w64s (i := kk) (by omega)
  have t1 : Int.tmod s 10000 = s % 10000 := Int.tmod_eq_emod_of_nonneg hb.1
  have t2 : Int.tdiv s 10000 = s / 10000 := Int.tdiv_eq_ediv_of_nonneg hb.1
  have e4 : wrap64 (s / 10000) = s / 10000 := w64d (by omega)
  have e2 : wrap64 (dF a i * dF b kk) = dF a i * dF b kk := w64d (by omega)
  have e3 : wrap64 (dF o (i + kk) + dF a i * dF b kk) = dF o (i + kk) + dF a i * dF b kk := w64d (by omega)
  have e6 : wrap64 (dF o (i + kk) + dF a i * dF b kk + c) = s := by rw [← hs]; exact w64d (by omega)
  rw [merinoref01_mulD.l1, if_pos p3, e1, if_pos p5, if_pos p6, if_pos p2, if_pos p1, if_pos p4, rd_nat, rd_nat, rd_nat, e2, e3, e6, t1, t2, e4, e5, Int.toNat_natCast]
theorem mul_un2 {o : List Int} {i : Nat} {c : Int} (hp : i + b.length < o.length) (hol : o.length ≤ 1000) (k : Nat) :
    merinoref01_mulD.l1 (k + 1) a b o (i : Int) c (b.length : Int) = merinoref01_mulD.l0 k a b (o.set (i + b.length) c) ((i + 1 : Nat) : Int) := by
  have p3 : ¬ (b.length : Int) < b.length := by omega
  have p5 : (0 : Int) ≤ ((i + b.length : Nat) : Int) := by omega
  have p6 : ((i + b.length : Nat) : Int) < o.length := by omega
  have e1 : wrap64 ((i : Int) + b.length) = ((i + b.length : Nat) : Int) := by rw [← Int.natCast_add]; exact w64d (by omega)
  have e5 := w64s (i := i) (by omega)
  rw [merinoref01_mulD.l1, if_neg p3, e1, if_pos p5, if_pos p6, e5, Int.toNat_natCast]
theorem mul_l1 (ha : gL a) (hb : gL b) (hla : a.length ≤ 400) (hlb : b.length ≤ 400) {R : List Int} {i : Nat} (hi : i < a.length)
    (hnext : ∀ o : List Int, o.length = a.length + b.length → gL o → (∀ j, i + 1 + b.length ≤ j → dF o j = 0) → vL o = vF (i + 1) (dF a) * vL b → Ends (fun k => merinoref01_mulD.l0 k a b o ((i + 1 : Nat) : Int)) R) :
    ∀ (m kk : Nat) (o : List Int) (c : Int), kk + m = b.length → o.length = a.length + b.length → gL o → (∀ j, i + b.length ≤ j → dF o j = 0) → 0 ≤ c ∧ c < 10000 →
      vF (a.length + b.length) (dF o) + c * 10000 ^ (i + kk) = vF i (dF a) * vL b + dF a i * vF kk (dF b) * 10000 ^ i →
      Ends (fun k => merinoref01_mulD.l1 k a b o (i : Int) c (kk : Int)) R := fun m => by
  induction m with
  | zero =>
    intro kk o c hm hol hg hz hc hv
    have hkk : kk = b.length := by omega
    subst hkk
    have hp : i + b.length < o.length := by omega
    have h1 := mul_row (n := a.length + b.length) (by omega) (hz _ (Nat.le_refl _)) hv
    have h2 := hnext (o.set (i + b.length) c) (by rw [List.length_set]; exact hol) (gL_set hp hg hc) (fun j hj => by rw [dF_set hp, if_neg (by omega)]; exact hz j (by omega)) (by
      show vF (o.set (i + b.length) c).length _ = _
      rw [List.length_set, hol, vF_eq_set hp, h1]; exact mul_next (vL b))
    exact Ends.step h2 (mul_un2 hp (by omega))
  | succ m ih =>
    intro kk o c hm hol hg hz hc hv
    have hp : i + kk < o.length := by omega
    have bf := gL_dF hg (i + kk)
    have bx := gL_dF ha i
    have bb := gL_dF hb kk
    have hbd := mul_bound bf bx bb hc
    obtain ⟨s, hs⟩ : ∃ s, s = dF o (i + kk) + dF a i * dF b kk + c := ⟨_, rfl⟩
    have h1 := mul_step (n := a.length + b.length) (by omega) hv hs
    rw [← hs] at hbd
    have h2 := ih (kk + 1) (o.set (i + kk) (s % 10000)) (s / 10000) (by omega) (by rw [List.length_set]; exact hol) (gL_set hp hg ⟨hbd.2.2.1, hbd.2.2.2.1⟩) (fun j hj => by rw [dF_set hp, if_neg (by omega)]; exact hz j hj) ⟨hbd.2.2.2.2.1, hbd.2.2.2.2.2⟩ (by rw [vF_eq_set hp]; exact h1)
    exact Ends.step h2 (mul_un hi (by omega) hp (by omega) bf ⟨hbd.1, hbd.2.1⟩ hc hs)
theorem mul_l0 (ha : gL a) (hb : gL b) (hla : a.length ≤ 400) (hlb : b.length ≤ 400) : ∀ (m i : Nat) (o : List Int), i + m = a.length → o.length = a.length + b.length → gL o → (∀ j, i + b.length ≤ j → dF o j = 0) → vL o = vF i (dF a) * vL b →
    Ends (fun k => merinoref01_mulD.l0 k a b o (i : Int)) (dg (vL a * vL b).toNat) := fun m => by
  induction m with
  | zero =>
    intro i o hm hol hg hz hv
    have hi : i = a.length := by omega
    subst hi
    have e : vL a * vL b = vL o := by rw [hv]; rfl
    rw [e]
    refine Ends.step (Ends.bind (trim_e (l := o) (by omega) hg) (h := fun t _ => some t) Ends.pure) fun k => ?_
    show merinoref01_mulD.l0 (k + 1) a b o (a.length : Int) = _
    rw [merinoref01_mulD.l0, if_neg (by omega)]
  | succ m ih =>
    intro i o hm hol hg hz hv
    have h1 := mul_l1 ha hb hla hlb (i := i) (by omega) (R := dg (vL a * vL b).toNat) (fun o' h2 h3 h4 h5 => ih (i + 1) o' (by omega) h2 h3 h4 h5) b.length 0 o 0 (by omega) hol hg hz ⟨Int.le_refl _, by decide⟩ (by
      rw [Int.zero_mul, Int.add_zero, show vF 0 (dF b) = 0 from rfl, Int.mul_zero, Int.zero_mul, Int.add_zero, ← hv]
      unfold vL; rw [hol])
    refine Ends.step h1 fun k => ?_
    show merinoref01_mulD.l0 (k + 1) a b o (i : Int) = _
    rw [merinoref01_mulD.l0, if_pos (by omega)]; rfl
theorem dF_zeros (n j : Nat) : dF (List.replicate n 0) j = 0 := by
  show (List.replicate n (0 : Int)).getD j 0 = 0
  rw [List.getD_eq_getElem?_getD, List.getElem?_replicate]
  split <;> rfl
theorem gL_zeros (n : Nat) : gL (List.replicate n 0) := fun j _ => by rw [dF_zeros]; decide
theorem mul_e (ha : gL a) (hb : gL b) (hla : a.length ≤ 400) (hlb : b.length ≤ 400) : Ends (fun k => merinoref01_mulD.f k a b) (dg (vL a * vL b).toNat) := by
  have h := mul_l0 ha hb hla hlb a.length 0 (List.replicate (a.length + b.length) 0) (by omega) (by simp) (gL_zeros _) (fun j _ => dF_zeros _ j) (by
    show _ = 0 * vL b
    rw [Int.zero_mul]
    exact vF_zero fun i _ => dF_zeros _ i)
  refine Ends.same h fun k => ?_
  unfold merinoref01_mulD.f
  have e : (wrap64 ((a.length : Int) + (b.length : Int))).toNat = a.length + b.length := by rw [w64 (by omega)]; omega
  rw [e, w64 (by omega), if_pos (by omega), if_pos (by omega)]; rfl
end
theorem mul_dg {x y : Nat} (hx : (dg x).length ≤ 400) (hy : (dg y).length ≤ 400) : Ends (fun k => merinoref01_mulD.f k (dg x) (dg y)) (dg (x * y)) := by
  have h := mul_e (dg_good x) (dg_good y) hx hy
  rw [dg_val, dg_val, show ((x : Int) * y).toNat = x * y by rw [← Int.natCast_mul]; omega] at h
  exact h
theorem vL_one (d : Int) : vL [d] = d := by rw [vL_cons]; show d + 10000 * 0 = d; omega
theorem trim_one {d : Nat} (h : d < 10000) : Ends (fun k => merinoref01_trim.f k [(d : Int)]) (dg d) := by
  have h1 := trim_e (l := [(d : Int)]) (by simp) (gL_cons (by omega) (by omega) gL_nil)
  rw [vL_one, Int.toNat_natCast] at h1
  exact h1
/-! divD -/
theorem dg_len_up {x y : Nat} (h : x < 10000 * y) : (dg x).length ≤ (dg y).length + 1 := by
  refine dg_len ?_
  have h1 : vL (dg y) < 10000 ^ (dg y).length := vF_lt (dg_good y)
  rw [dg_val] at h1
  rw [pw_succ]; omega
theorem mid_wrap {lo hi : Nat} (h1 : lo ≤ 9999) (h2 : hi ≤ 9999) : wrap64 (Int.tdiv (wrap64 (wrap64 ((lo : Int) + hi) + 1)) 2) = (((lo + hi + 1) / 2 : Nat) : Int) := by
  have e1 : wrap64 ((lo : Int) + hi) = (lo : Int) + hi := w64d (by omega)
  have e2 : wrap64 ((lo : Int) + hi + 1) = (lo : Int) + hi + 1 := w64d (by omega)
  have e3 : Int.tdiv ((lo : Int) + hi + 1) 2 = ((lo : Int) + hi + 1) / 2 := Int.tdiv_eq_ediv_of_nonneg (by omega)
  have e4 : wrap64 (((lo : Int) + hi + 1) / 2) = ((lo : Int) + hi + 1) / 2 := w64d (by omega)
  rw [e1, e2, e3, e4]; omega
section
variable {a b q R : List Int} {i lo hi : Nat}
theorem div_un1 (h : lo < hi) (h9 : hi ≤ 9999) {mid : Nat} (hm : mid = (lo + hi + 1) / 2) (k : Nat) :
    merinoref01_divD.l1 (k + 1) a b q R (i : Int) (lo : Int) (hi : Int) = (merinoref01_trim.f k [(mid : Int)]).bind fun t => (merinoref01_mulD.f k b t).bind fun t269 => (merinoref01_cmpD.f k t269 R).bind fun t272 => if t272 ≤ 0 then merinoref01_divD.l1 k a b q R (i : Int) (mid : Int) (hi : Int) else merinoref01_divD.l1 k a b q R (i : Int) (lo : Int) ((mid - 1 : Nat) : Int) := by
  have p1 : (lo : Int) < hi := by omega
  have e2 : ((mid : Int) - 1) = ((mid - 1 : Nat) : Int) := by omega
  have e3 : wrap64 (((mid - 1 : Nat) : Int)) = ((mid - 1 : Nat) : Int) := w64d (by omega)
  have e1 := mid_wrap (lo := lo) (hi := hi) (by omega) h9
  rw [← hm] at e1
  rw [merinoref01_divD.l1, if_pos p1, e1, e2, e3]
theorem div_un2 (hi : i < q.length) (hq : q.length ≤ 400) (k : Nat) :
    merinoref01_divD.l1 (k + 1) a b q R (i : Int) (lo : Int) (lo : Int) = (merinoref01_trim.f k [(lo : Int)]).bind fun t => (merinoref01_mulD.f k b t).bind fun t257 => (merinoref01_subD.f k R t257).bind fun t260 => merinoref01_divD.l0 k a b (q.set i lo) t260 ((i : Int) - 1) := by
  have p1 : ¬ (lo : Int) < lo := by omega
  have p2 : (0 : Int) ≤ i := by omega
  have p3 : (i : Int) < q.length := by omega
  have e1 : wrap64 ((i : Int) - 1) = (i : Int) - 1 := w64d (by omega)
  rw [merinoref01_divD.l1, if_neg p1, if_pos p2, if_pos p3, Int.toNat_natCast, e1]
end
section
variable {a : List Int} {y : Nat}
theorem div_l1 (hy : 0 < y) (hly : (dg y).length ≤ 100) {R0 : Nat} (hR : R0 < 10000 * y) {q : List Int} {i : Nat} (hi : i < q.length) (hq : q.length ≤ 400) {res : List Int × List Int}
    (hnext : Ends (fun k => merinoref01_divD.l0 k a (dg y) (q.set i ((R0 / y : Nat) : Int)) (dg (R0 % y)) ((i : Int) - 1)) res) :
    ∀ (m lo hi' : Nat), hi' - lo ≤ m → lo ≤ hi' → hi' ≤ 9999 → y * lo ≤ R0 → R0 < y * (hi' + 1) → Ends (fun k => merinoref01_divD.l1 k a (dg y) q (dg R0) (i : Int) (lo : Int) (hi' : Int)) res := fun m => by
  have hlR : (dg R0).length ≤ 400 := by have := dg_len_up hR; omega
  have hly4 : (dg y).length ≤ 400 := by omega
  have hlm : ∀ d : Nat, d ≤ 9999 → (dg (y * d)).length ≤ 400 := fun d hd => by
    have h1 : y * d ≤ y * 9999 := Nat.mul_le_mul_left y hd
    have := dg_len_up (x := y * d) (y := y) (by omega)
    omega
  have hld : ∀ d : Nat, d ≤ 9999 → (dg d).length ≤ 400 := fun d hd => Nat.le_trans (dg_len (k := 1) (by omega)) (by decide)
  have stop : ∀ lo hi' : Nat, lo = hi' → hi' ≤ 9999 → y * lo ≤ R0 → R0 < y * (hi' + 1) → Ends (fun k => merinoref01_divD.l1 k a (dg y) q (dg R0) (i : Int) (lo : Int) (hi' : Int)) res := fun lo hi' he h9 h1 h2 => by
    subst he
    obtain ⟨e1, e2⟩ := div_digit hy h1 h2
    rw [← e1, ← e2] at hnext
    have h10 : lo < 10000 := by omega
    exact Ends.step (Ends.bind (trim_one h10) (h := fun t k => (merinoref01_mulD.f k (dg y) t).bind fun t257 => (merinoref01_subD.f k (dg R0) t257).bind fun t260 => merinoref01_divD.l0 k a (dg y) (q.set i lo) t260 ((i : Int) - 1))
      (Ends.bind (mul_dg hly4 (hld lo h9)) (h := fun t257 k => (merinoref01_subD.f k (dg R0) t257).bind fun t260 => merinoref01_divD.l0 k a (dg y) (q.set i lo) t260 ((i : Int) - 1))
        (Ends.bind (sub_e h1 hlR) (h := fun t260 k => merinoref01_divD.l0 k a (dg y) (q.set i lo) t260 ((i : Int) - 1)) hnext))) (div_un2 hi hq)
  induction m with
  | zero =>
    intro lo hi' hm hle h9 h1 h2
    exact stop lo hi' (by omega) h9 h1 h2
  | succ m ih =>
    intro lo hi' hm hle h9 h1 h2
    by_cases he : lo = hi'
    · exact stop lo hi' he h9 h1 h2
    · obtain ⟨mid, hmid⟩ : ∃ mid, mid = (lo + hi' + 1) / 2 := ⟨_, rfl⟩
      have hmb : lo < mid ∧ mid ≤ hi' ∧ mid < 10000 ∧ mid ≤ 9999 ∧ hi' - mid ≤ m ∧ mid - 1 - lo ≤ m := by clear h1 h2; omega
      have hgo : Ends (fun k => if cmpI ((y * mid : Nat) : Int) (R0 : Int) ≤ 0 then merinoref01_divD.l1 k a (dg y) q (dg R0) (i : Int) (mid : Int) (hi' : Int) else merinoref01_divD.l1 k a (dg y) q (dg R0) (i : Int) (lo : Int) ((mid - 1 : Nat) : Int)) res := by
        by_cases hc : y * mid ≤ R0
        · have e : cmpI ((y * mid : Nat) : Int) (R0 : Int) ≤ 0 := cmpI_le.2 (Int.ofNat_le.2 hc)
          refine Ends.same (ih mid hi' hmb.2.2.2.2.1 hmb.2.1 h9 hc h2) fun k => ?_
          show (if _ then _ else _) = _
          rw [if_pos e]
        · have e : ¬ cmpI ((y * mid : Nat) : Int) (R0 : Int) ≤ 0 := fun h => hc (Int.ofNat_le.1 (cmpI_le.1 h))
          have h3 : R0 < y * (mid - 1 + 1) := by rw [show mid - 1 + 1 = mid by omega]; exact Nat.lt_of_not_le hc
          refine Ends.same (ih lo (mid - 1) hmb.2.2.2.2.2 (by omega) (by omega) h1 h3) fun k => ?_
          show (if _ then _ else _) = _
          rw [if_neg e]
      exact Ends.step (Ends.bind (trim_one hmb.2.2.1) (h := fun t k => (merinoref01_mulD.f k (dg y) t).bind fun t269 => (merinoref01_cmpD.f k t269 (dg R0)).bind fun t272 => if t272 ≤ 0 then merinoref01_divD.l1 k a (dg y) q (dg R0) (i : Int) (mid : Int) (hi' : Int) else merinoref01_divD.l1 k a (dg y) q (dg R0) (i : Int) (lo : Int) ((mid - 1 : Nat) : Int))
        (Ends.bind (mul_dg hly4 (hld mid hmb.2.2.2.1)) (h := fun t269 k => (merinoref01_cmpD.f k t269 (dg R0)).bind fun t272 => if t272 ≤ 0 then merinoref01_divD.l1 k a (dg y) q (dg R0) (i : Int) (mid : Int) (hi' : Int) else merinoref01_divD.l1 k a (dg y) q (dg R0) (i : Int) (lo : Int) ((mid - 1 : Nat) : Int))
          (Ends.bind (cmp_e (hlm mid hmb.2.2.2.1)) (h := fun t272 k => if t272 ≤ 0 then merinoref01_divD.l1 k a (dg y) q (dg R0) (i : Int) (mid : Int) (hi' : Int) else merinoref01_divD.l1 k a (dg y) q (dg R0) (i : Int) (lo : Int) ((mid - 1 : Nat) : Int)) hgo))) (div_un1 (by omega) h9 hmid)
theorem div_l0 (ha : gL a) (hla : a.length ≤ 400) (hy : 0 < y) (hly : (dg y).length ≤ 100) : ∀ (n : Nat) (q : List Int) (r : Nat), n ≤ a.length → q.length = a.length → gL q → r < y →
    hF a.length (dF a) (a.length - n) = hF a.length (dF q) (a.length - n) * y + r → (∀ j, j < n → dF q j = 0) →
    Ends (fun k => merinoref01_divD.l0 k a (dg y) q (dg r) ((n : Int) - 1)) (dg ((vL a).toNat / y), dg ((vL a).toNat % y)) := fun n => by
  induction n with
  | zero =>
    intro q r hn hql hg hr hv hz
    have h0 : 0 ≤ vL a := vF_nonneg ha
    have hq0 : 0 ≤ vL q := vF_nonneg hg
    rw [Nat.sub_zero, hF_all, ← hql, hF_all] at hv
    rw [hql] at hv
    have hv' : vL a = vL q * y + r := by show vF _ _ = vF _ _ * _ + _; rw [hql]; exact hv
    have e1 : (vL a).toNat = (vL q).toNat * y + r := by
      have h3 : (((vL q).toNat * y + r : Nat) : Int) = vL a := by rw [Int.natCast_add, Int.natCast_mul, Int.toNat_of_nonneg hq0, hv']
      omega
    have e2 : (vL a).toNat / y = (vL q).toNat := by rw [e1, Nat.mul_comm, Nat.mul_add_div hy, Nat.div_eq_of_lt hr, Nat.add_zero]
    have e3 : (vL a).toNat % y = r := by rw [e1, Nat.mul_comm, Nat.mul_add_mod, Nat.mod_eq_of_lt hr]
    rw [e2, e3]
    refine Ends.step (Ends.bind (trim_e (l := q) (by omega) hg) (h := fun t _ => some (t, dg r)) Ends.pure) fun k => ?_
    show merinoref01_divD.l0 (k + 1) a (dg y) q (dg r) (((0 : Nat) : Int) - 1) = _
    rw [merinoref01_divD.l0, if_neg (by omega)]
  | succ n ih =>
    intro q r hn hql hg hr hv hz
    have ba := gL_dF ha n
    obtain ⟨R0, hR0⟩ : ∃ R0 : Nat, (R0 : Int) = dF a n + 10000 * r := ⟨(dF a n + 10000 * r).toNat, by omega⟩
    have hR : R0 < 10000 * y := by omega
    have hlo : R0 / y < 10000 := (Nat.div_lt_iff_lt_mul hy).2 (by rw [Nat.mul_comm] at hR; rw [Nat.mul_comm]; omega)
    have hin : n < q.length := by omega
    have hdm := Nat.div_add_mod R0 y
    have hml := Nat.mod_lt R0 hy
    have h1 : Ends (fun k => merinoref01_divD.l0 k a (dg y) (q.set n ((R0 / y : Nat) : Int)) (dg (R0 % y)) ((n : Int) - 1)) (dg ((vL a).toNat / y), dg ((vL a).toNat % y)) := by
      obtain ⟨lo, hlo'⟩ : ∃ lo, lo = R0 / y := ⟨_, rfl⟩
      obtain ⟨r', hr'⟩ : ∃ r', r' = R0 % y := ⟨_, rfl⟩
      rw [← hlo'] at hlo hdm ⊢
      rw [← hr'] at hdm hml ⊢
      refine ih (q.set n (lo : Int)) r' (by omega) (by rw [List.length_set]; exact hql) (gL_set hin hg ⟨by omega, by omega⟩) hml ?_ (fun j hj => by rw [dF_set hin, if_neg (by omega)]; exact hz j (by omega))
      have e : a.length - n = (a.length - (n + 1)) + 1 := by omega
      have e2 : a.length - (a.length - (n + 1) + 1) = n := by omega
      rw [e]
      show dF a (a.length - (a.length - (n + 1) + 1)) + 10000 * hF a.length (dF a) (a.length - (n + 1)) = (dF (q.set n (lo : Int)) (a.length - (a.length - (n + 1) + 1)) + 10000 * hF a.length (dF (q.set n (lo : Int))) (a.length - (n + 1))) * y + r'
      rw [e2, dF_set hin, if_pos rfl, hv, hF_congr (f := dF (q.set n (lo : Int))) (g := dF q) (by omega) fun j h2 h3 => by rw [dF_set hin, if_neg (by omega)]]
      generalize hF a.length (dF q) (a.length - (n + 1)) = Q
      have hdm' : (y : Int) * (lo : Int) + (r' : Int) = R0 := by rw [← Int.natCast_mul, ← Int.natCast_add, hdm]
      rw [Int.add_mul, Int.mul_comm (lo : Int) y, Int.mul_assoc 10000 Q, Int.mul_add]
      clear hlo' hr' hdm hz ih hlo hml hv
      omega
    have h2 := div_l1 (a := a) hy hly hR hin (by omega) h1 9999 0 9999 (by omega) (by omega) (by omega) (by omega) (by omega)
    have hlr : (dg r).length ≤ 101 := by have := dg_len_up (x := r) (y := y) (by omega); omega
    have h3 : Ends (fun k => merinoref01_trim.f k ([dF a n] ++ dg r)) (dg R0) := by
      have h4 := trim_e (l := [dF a n] ++ dg r) (by simp; omega) (gL_cons ba.1 ba.2 (dg_good r))
      rw [show vL ([dF a n] ++ dg r) = (R0 : Int) by rw [hR0]; show vL (dF a n :: dg r) = _; rw [vL_cons, dg_val], Int.toNat_natCast] at h4
      exact h4
    refine Ends.step (Ends.bind h3 (h := fun t k => merinoref01_divD.l1 k a (dg y) q t (n : Int) ((0 : Nat) : Int) ((9999 : Nat) : Int)) h2) fun k => ?_
    show merinoref01_divD.l0 (k + 1) a (dg y) q (dg r) (((n + 1 : Nat) : Int) - 1) = _
    rw [merinoref01_divD.l0, show (((n + 1 : Nat) : Int) - 1) = (n : Int) by omega, if_pos (by omega), if_pos (by omega), if_pos (by omega), rd_nat]
    show (if [dF a n].length + (dg r).length < 17592186044416 then _ else _) = _
    rw [if_pos (by simp; omega)]; rfl
end
theorem div_e {x y : Nat} (hx : (dg x).length ≤ 400) (hy : 0 < y) (hly : (dg y).length ≤ 100) : Ends (fun k => merinoref01_divD.f k (dg x) (dg y)) (dg (x / y), dg (x % y)) := by
  have h := div_l0 (dg_good x) hx hy hly (dg x).length (List.replicate (dg x).length 0) 0 (Nat.le_refl _) (by simp) (gL_zeros _) hy (by
    rw [Nat.sub_self]; show (0 : Int) = 0 * y + ((0 : Nat) : Int); simp) (fun j _ => dF_zeros _ j)
  rw [dg_val, Int.toNat_natCast, dg_zero] at h
  refine Ends.same h fun k => ?_
  unfold merinoref01_divD.f
  have hne : ¬ (dg y).length = 0 := fun h => by have := dg_nil_iff.1 h; omega
  rw [if_neg (by omega), if_pos (by omega), if_pos (by omega), w64 (by omega), Int.toNat_natCast]
end Go.Proofs.Ytcobihdjcdefmaa
