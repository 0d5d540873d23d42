/-
  The errors of networks, needs and amounts in plain Lean, and the small functions that the print covers.
  The walk of Solve.
  Arrays of arcs in memory; the copy of a list of arcs, nil or not; sets of greatest excess in plain Lean.
  The block in plain Lean: what a flow as far as it goes tells of it.
  The walk of Block.
-/
import Derived.Test.YtcobihdjcdefmaaQFQd
import Derived.Test.YtcobihdjcdefmaaQPZ
namespace Go.Proofs.Ytcobihdjcdefmaa
open PAccountsCompress
open Go.RowKit Go.Proofs.YtcobihdjcdefmaaW.PrintWords
theorem wr64 {x : Int} (h : -9223372036854775808 ≤ x ∧ x ≤ 9223372036854775807) : wrap64 x = x := by unfold wrap64; omega
def BadP (n : Int) (a : Ar) : Prop := a.f0 < 0 ∨ a.f0 ≥ n ∨ a.f1 < 0 ∨ a.f1 ≥ n ∨ a.f0 = a.f1 ∨ a.f2 < 0 ∨ a.f2 > 1099511627776 ∨ a.f3 < -32768 ∨ a.f3 > 32768
instance (n : Int) (a : Ar) : Decidable (BadP n a) := by unfold BadP; infer_instance
def arcBad (n : Int) (a : Ar) : Bool := decide (BadP n a)
def netE (n : Int) (l : List Ar) : Int := if n < 1 ∨ n > 32 then 2 else if l.length > 128 then 3 else if l.any (arcBad n) then 2 else 0
def outB (x : Int) : Bool := decide (x < -140737488355328 ∨ x > 140737488355328)
def needE (n : Int) (l : List Ar) (xs : List Int) : Int :=
  if netE n l ≠ 0 then netE n l else if (xs.length : Int) ≠ n then 2 else if xs.any outB then 2 else if sumN xs.length (fun v => xs.getD v 0) = 0 then 0 else 17
def amtB (l : List Ar) (xs : List Int) (i : Nat) : Bool := decide (xs.getD i 0 < 0 ∨ xs.getD i 0 > (arcF l i).f2)
def amtE (n : Int) (l : List Ar) (xs : List Int) : Int :=
  if netE n l ≠ 0 then netE n l else if xs.length ≠ l.length then 2 else if (List.range l.length).any (amtB l xs) then 2 else 0
theorem drop_any {α : Type} {l : List α} {i : Nat} {a : α} (h : l[i]? = some a) (f : α → Bool) : (l.drop i).any f = (f a || (l.drop (i + 1)).any f) := by
  obtain ⟨hi, he⟩ := List.getElem?_eq_some_iff.1 h
  rw [List.drop_eq_getElem_cons hi, List.any_cons, he]
theorem rd44 {l : List Ar} {i : Nat} {a : Ar} (h : l[i]? = some a) : rd_T69 l (i : Int) = a := by
  unfold rd_T69; rw [Int.toNat_natCast, List.getD_eq_getElem?_getD, h]; rfl
theorem rdI {l : List Int} {i : Nat} {a : Int} (h : l[i]? = some a) : rd l (i : Int) = a := by
  unfold rd; rw [Int.toNat_natCast, List.getD_eq_getElem?_getD, h]; rfl
theorem net_l0 (n : Int) (l : List Ar) (hl : l.length ≤ 1000) : ∀ (r i k : Nat), i + r = l.length → r + 1 ≤ k → flow_network.l0 k n l (l.length : Int) (i : Int) = some (if (l.drop i).any (arcBad n) then 2 else 0)
  | 0, i, k + 1, hi, _ => by
    unfold flow_network.l0
    rw [if_neg (by omega), List.drop_eq_nil_of_le (by omega)]
    rfl
  | r + 1, i, k + 1, hi, hk => by
    obtain ⟨a, ha⟩ : ∃ a, l[i]? = some a := ⟨_, List.getElem?_eq_getElem (by omega)⟩
    unfold flow_network.l0
    rw [if_pos (by omega), if_pos (by omega), if_pos (by omega), rd44 ha, drop_any ha, wr64 (by omega)]
    have ih := net_l0 n l hl r (i + 1) k (by omega) (by omega)
    rw [show ((i + 1 : Nat) : Int) = (i : Int) + 1 by omega] at ih
    rw [ih]
    by_cases hb : BadP n a
    · have e : arcBad n a = true := decide_eq_true hb
      rw [e, Bool.true_or, if_pos rfl]
      unfold BadP at hb
      repeat (split; · rfl)
      omega
    · have e : arcBad n a = false := decide_eq_false hb
      rw [e, Bool.false_or]
      unfold BadP at hb
      rw [if_neg (by omega), if_neg (by omega), if_neg (by omega), if_neg (by omega), if_neg (by omega), if_neg (by omega), if_neg (by omega), if_neg (by omega), if_neg (by omega)]
theorem net_f (n : Int) (l : List Ar) {K : Nat} (hK : 300 ≤ K) : flow_network.f K n l = some (netE n l) := by
  obtain ⟨k, rfl⟩ : ∃ k, K = k + 1 := ⟨K - 1, by omega⟩
  have hj : flow_network.j0 (k + 1) n l false = some (if l.length > 128 then 3 else if l.any (arcBad n) then 2 else 0) := by
    show (if false = true then some 2 else (if (l.length : Int) > 128 then some 3 else flow_network.l0 k n l (l.length : Int) 0)) = _
    rw [if_neg (by simp)]
    by_cases h : l.length > 128
    · rw [if_pos (by omega), if_pos h]
    · rw [if_neg (by omega), if_neg h]
      have := net_l0 n l (by omega) l.length 0 k (by omega) (by omega)
      rw [List.drop_zero] at this
      exact this
  have ht : flow_network.j0 (k + 1) n l true = some 2 := by
    show (if true = true then some 2 else (if (l.length : Int) > 128 then some 3 else flow_network.l0 k n l (l.length : Int) 0)) = _
    rw [if_pos rfl]
  unfold flow_network.f netE
  by_cases h1 : n < 1
  · rw [if_pos h1, if_pos (.inl h1), ht]
  · rw [if_neg h1]
    by_cases h2 : n > 32
    · rw [decide_eq_true h2, if_pos (.inr h2), ht]
    · rw [decide_eq_false h2, if_neg (by omega), hj]
theorem netE_range {n : Int} {l : List Ar} (h : netE n l = 0) : 1 ≤ n ∧ n ≤ 32 ∧ l.length ≤ 128 ∧ l.any (arcBad n) = false := by
  unfold netE at h
  by_cases h1 : n < 1 ∨ n > 32
  · rw [if_pos h1] at h; exact absurd h (by decide)
  · rw [if_neg h1] at h
    by_cases h2 : l.length > 128
    · rw [if_pos h2] at h; exact absurd h (by decide)
    · rw [if_neg h2] at h
      cases h3 : l.any (arcBad n) with
      | true => rw [h3] at h; exact absurd h (by decide)
      | false => exact ⟨by omega, by omega, by omega, rfl⟩
theorem netE_ok {n : Int} {l : List Ar} (h : netE n l = 0) : NetOk n.toNat l.length (arcF l) := by
  obtain ⟨h1, h2, h3, h4⟩ := netE_range h
  rw [List.any_eq_false] at h4
  have hg : ∀ i, i < l.length → ¬ BadP n (arcF l i) := fun i hi hb => by
    have e : arcF l i = l[i] := by unfold arcF; rw [List.getD_eq_getElem?_getD, List.getElem?_eq_getElem hi]; rfl
    refine h4 l[i] (List.getElem_mem hi) ?_
    rw [← e]
    exact decide_eq_true hb
  refine ⟨by omega, by omega, h3, fun i hi => ?_, fun i hi => ?_, fun i hi => ?_⟩
  all_goals
    have := hg i hi
    unfold BadP at this
    omega
theorem sum_bd {f : Nat → Int} {i : Nat} (h : ∀ j, j < i → -140737488355328 ≤ f j ∧ f j ≤ 140737488355328) : -(i * 140737488355328) ≤ sumN i f ∧ sumN i f ≤ i * 140737488355328 := by
  induction i with
  | zero => simp [sumN]
  | succ i ih =>
    have h1 := ih (fun j hj => h j (by omega))
    have h2 := h i (by omega)
    show -(((i + 1 : Nat) : Int) * 140737488355328) ≤ sumN i f + f i ∧ sumN i f + f i ≤ ((i + 1 : Nat) : Int) * 140737488355328
    omega
theorem getD_of {l : List Int} {i : Nat} {a : Int} (h : l[i]? = some a) : l.getD i 0 = a := by rw [List.getD_eq_getElem?_getD, h]; rfl
theorem need_l0 (xs : List Int) (hl : xs.length ≤ 32) : ∀ (r i k : Nat), i + r = xs.length → r + 1 ≤ k → (∀ j, j < i → -140737488355328 ≤ xs.getD j 0 ∧ xs.getD j 0 ≤ 140737488355328) →
    flow_needed.l0 k (sumN i (fun v => xs.getD v 0)) xs (xs.length : Int) (i : Int) = some (if (xs.drop i).any outB then 2 else if sumN xs.length (fun v => xs.getD v 0) = 0 then 0 else 17)
  | 0, i, k + 1, hi, _, _ => by
    unfold flow_needed.l0
    have e : i = xs.length := by omega
    subst e
    rw [if_neg (by omega), List.drop_eq_nil_of_le (Nat.le_refl _)]
    by_cases h : sumN xs.length (fun v => xs.getD v 0) = 0
    · rw [if_pos h]; simp only [List.any_nil, Bool.false_eq_true, if_false]; rw [if_pos h]
    · rw [if_neg h]; simp only [List.any_nil, Bool.false_eq_true, if_false]; rw [if_neg h]
  | r + 1, i, k + 1, hi, hk, hb => by
    obtain ⟨a, ha⟩ : ∃ a, xs[i]? = some a := ⟨_, List.getElem?_eq_getElem (by omega)⟩
    have hs := sum_bd hb
    unfold flow_needed.l0
    rw [if_pos (by omega), if_pos (by omega), if_pos (by omega), rdI ha, drop_any ha]
    by_cases h1 : a < -140737488355328
    · rw [if_pos h1, show outB a = true from decide_eq_true (.inl h1)]; rfl
    · rw [if_neg h1]
      by_cases h2 : a > 140737488355328
      · rw [if_pos h2, show outB a = true from decide_eq_true (.inr h2)]; rfl
      · rw [if_neg h2, wr64 (by omega), wr64 (by omega), show outB a = false from decide_eq_false (by omega), Bool.false_or]
        have ih := need_l0 xs hl r (i + 1) k (by omega) (by omega) (fun j hj => by
          by_cases e : j = i
          · subst e; rw [getD_of ha]; omega
          · exact hb j (by omega))
        rw [show ((i + 1 : Nat) : Int) = (i : Int) + 1 by omega, show sumN (i + 1) (fun v => xs.getD v 0) = sumN i (fun v => xs.getD v 0) + a by show _ + xs.getD i 0 = _; rw [getD_of ha]] at ih
        exact ih
theorem need_f (n : Int) (l : List Ar) (xs : List Int) {K : Nat} (hK : 300 ≤ K) : flow_needed.f K n l xs = some (needE n l xs) := by
  unfold flow_needed.f needE
  rw [net_f n l hK, Option.bind_some]
  by_cases h : netE n l = 0
  · obtain ⟨h1, h2, h3, h4⟩ := netE_range h
    rw [if_pos h, if_neg (show ¬ (netE n l ≠ 0) from fun g => g h)]
    by_cases h5 : (xs.length : Int) = n
    · rw [if_pos h5, if_neg (show ¬ ((xs.length : Int) ≠ n) from fun g => g h5)]
      exact need_l0 xs (by omega) xs.length 0 K (by omega) (by omega) (fun j hj => absurd hj (Nat.not_lt_zero _))
    · rw [if_neg h5, if_pos h5]
  · rw [if_neg h, if_pos h]
/-- What a need that is let in says. -/
theorem needE_ok {n : Int} {l : List Ar} {xs : List Int} (h : needE n l xs = 0) : netE n l = 0 ∧ (xs.length : Int) = n ∧ (∀ v : Nat, v < xs.length → -140737488355328 ≤ xs.getD v 0 ∧ xs.getD v 0 ≤ 140737488355328) ∧ sumN xs.length (fun v => xs.getD v 0) = 0 := by
  unfold needE at h
  by_cases h1 : netE n l = 0
  · rw [if_neg (by omega)] at h
    by_cases h2 : (xs.length : Int) = n
    · rw [if_neg (by omega)] at h
      cases h3 : xs.any outB with
      | true => rw [h3, if_pos rfl] at h; exact absurd h (by decide)
      | false =>
        rw [h3, if_neg (by simp)] at h
        by_cases h4 : sumN xs.length (fun v => xs.getD v 0) = 0
        · refine ⟨h1, h2, fun v hv => ?_, h4⟩
          rw [List.any_eq_false] at h3
          have e : xs.getD v 0 = xs[v] := by rw [List.getD_eq_getElem?_getD, List.getElem?_eq_getElem hv]; rfl
          have := h3 xs[v] (List.getElem_mem hv)
          rw [← e] at this
          unfold outB at this
          rw [decide_eq_true_eq] at this
          omega
        · rw [if_neg h4] at h; exact absurd h (by decide)
    · rw [if_pos h2] at h; exact absurd h (by decide)
  · rw [if_pos h1] at h; exact absurd h h1
end Go.Proofs.Ytcobihdjcdefmaa
namespace Go.Proofs.Ytcobihdjcdefmaa
open PAccountsCompress
open Go.RowKit Go.Proofs.YtcobihdjcdefmaaW.PrintWords
/-- How Solve ends. -/
def SolvePost (n : Int) (l : List Ar) (xs : List Int) (w : World) (e : Ending) (w' : World) : Prop :=
  ((needE n l xs ≠ 0 ∧ e = .returned (.tuple #[.agg #[.slice none 0 0, .int .i64 0], .int .i64 (needE n l xs)])) ∨
   (needE n l xs = 0 ∧ e = .returned (.tuple #[.agg #[.slice none 0 0, .int .i64 0], .int .i64 13]) ∧ ∃ x, Carried n.toNat l.length (arcF l) (fun v => xs.getD v 0) false x) ∨
   (needE n l xs = 0 ∧ ∃ ga x p, e = .returned (.tuple #[.agg #[.slice (some ⟨ga, 0, none⟩) l.length l.length, .int .i64 (costF l.length (arcF l) x)], .int .i64 0]) ∧ TI w' ga l.length x ∧ w.heap.size ≤ ga ∧
     Valid l.length (arcF l) x ∧ Feas l.length (arcF l) x p ∧ LexCert l.length (arcF l) x p ∧ ∀ v : Nat, v < n.toNat → balF l.length (arcF l) x v = xs.getD v 0)) ∧ Below w.heap.size w w'
theorem ret21 {tmps : Array Value} {b : Nat} {x y : Value} {c : Int} {W : World} {R : Ending → World → Prop} (h2 : tmps[6]?.getD undef = .pointer (some ⟨b, 0, none⟩)) (h3 : tmps[7]?.getD undef = .int .i64 c) (hB : Blk W b #[x, y] 71)
    (hR : R (.returned (.tuple #[.agg #[x, y], .int .i64 c])) W) : bodyPost Try.prog Try.f39 R Exit.ret ⟨tmps, []⟩ W := by
  have hu := Try.underlying71
  have c0 := hB.cell 0 (v := x) rfl
  have c1 := hB.cell 1 (v := y) rfl
  exact bodyPost_ret (v := .tuple #[.agg #[x, y], .int .i64 c]) (by simp [results, Try.results39, go_sem, h2, h3, c0, c1]) rfl hR
theorem flow_set {w : World} {b : Nat} {x y x' y' : Value} (h : Blk w b #[x, y] 71) : Blk ((w.setCell ⟨b, 0, none⟩ x').setCell ⟨b, 1, none⟩ y') b #[x', y'] 71 := by
  simpa using (h.set 0 x').set 1 y'
theorem flow_below {w0 w : World} {b : Nat} {x' y' : Value} (h : Below w0.heap.size w0 w) (hb : w0.heap.size ≤ b) : Below w0.heap.size w0 ((w.setCell ⟨b, 0, none⟩ x').setCell ⟨b, 1, none⟩ y') :=
  (((Fr.of_below h (fun k => k = b)).setCell (p := ⟨b, 0, none⟩) (.inl rfl) x').setCell (p := ⟨b, 1, none⟩) (.inl rfl) y').to_below (Nat.le_refl _) (fun _ h => by subst h; exact hb)
set_option maxRecDepth 100000 in
set_option maxHeartbeats 4000000 in
theorem solve_any (w : World) (n : Int) (A1 : Option Addr) (c1 : Nat) (l : List Ar) (h1 : Kd.C k69 w A1 l.length l) (hc1 : l.length ≤ c1) (A2 : Option Addr) (c2 : Nat) (xs : List Int) (h2 : Kd.C (Kd.int .i64) w A2 xs.length xs) (hc2 : xs.length ≤ c2) :
    Calls Try.prog 39 #[.int .i64 n, .slice A1 l.length c1, .slice A2 xs.length c2] w (SolvePost n l xs w) := by
  have hal := below_alloc (Below.refl w.heap.size w) (.cells #[.slice none 0 0, .int .i64 0] 71 (0, 0))
  have hA4 := Blk.new w #[.slice none 0 0, .int .i64 0] 71
  have HND := Lib.hid (flow_needed.calls 300 n A1 c1 l A2 c2 xs _ (w.alloc (.cells #[.slice none 0 0, .int .i64 0] 71 (0, 0))) (Kd.C_below h1 hal) hc1 (Kd.C_below h2 hal) hc2 (need_f n l xs (Nat.le_refl _)))
  have HAL := Lib.hid hal
  have HA4 := Lib.hid hA4
  have H1 := Lib.hid h1
  have H2 := Lib.hid h2
  clear h1 h2 hal hA4
  go_enter Try.func39, Try.ntmps39
  go_wp2_with fail
  refine HND.out.mono ?_
  rintro e w1 ⟨rfl, hb1⟩
  have hA5 := HA4.out.fr (Fr.of_below hb1 (fun _ => False)) (fun a => a)
  have c0 := Blk.cell hA5 0 (v := .slice none 0 0) rfl
  have c1' := Blk.cell hA5 1 (v := .int .i64 0) rfl
  have f0 := Blk.free hA5 0
  have f1 := Blk.free hA5 1
  have HB1 := Lib.hid (below_u HAL.out hb1)
  have HA5 := Lib.hid hA5
  clear HND hb1 HA4 hA5
  generalize her : needE n l xs = er at *
  have HER := Lib.hid her
  clear her
  by_cases h0 : er = 0
  · subst h0
    obtain ⟨g1, g2, g3, g4⟩ := needE_ok HER.out
    obtain ⟨k1, k2, k3, k4⟩ := netE_range g1
    have hok := netE_ok g1
    obtain ⟨N, rfl⟩ : ∃ N : Nat, n = N := ⟨n.toNat, by omega⟩
    rw [Int.toNat_natCast] at hok
    have hxl : xs.length = N := by omega
    obtain ⟨nd, rfl, _⟩ : ∃ nd, A2 = some nd ∧ True := by
      obtain ⟨ad, c, e, _⟩ := Kd.C_get H2.out 0 0 (by omega) (by omega)
      exact ⟨ad, e, trivial⟩
    have HSV := Lib.hid (solved_any w1 N A1 c1 l (Kd.C_below H1.out HB1.out) hok nd c2 xs hxl (Kd.C_below H2.out HB1.out) (by rw [← hxl]; exact g3) (by rw [← hxl]; exact g4))
    have HO := Lib.hid hok
    clear g1 g2 g3 g4 k1 k2 k3 k4 hok hxl c0 c1' f0 f1
    go_wp2_with fail
    refine HSV.out.mono ?_
    rintro e w2 ⟨hpost, hb2⟩
    have hA6 := HA5.out.fr (Fr.of_below hb2 (fun _ => False)) (fun a => a)
    have c0 := Blk.cell hA6 0 (v := .slice none 0 0) rfl
    have c1' := Blk.cell hA6 1 (v := .int .i64 0) rfl
    have f0 := Blk.free hA6 0
    have f1 := Blk.free hA6 1
    have HB2 := Lib.hid (below_u HB1.out hb2)
    have HA6 := Lib.hid hA6
    have HGE : Hid (w.heap.size < w1.heap.size) := Lib.hid (Blk.lt HA5.out)
    clear hb2 hA6 HSV
    rcases hpost with ⟨rfl, x, hcar⟩ | ⟨g, ga, x, p, rfl, hn, ht, hga, hv, hfe, hlex, hbal⟩
    · have HCAR := Lib.hid hcar
      clear hcar
      go_wp2_with fail
      exact ret21 rfl rfl (flow_set HA6.out) ⟨.inr (.inl ⟨HER.out, rfl, by rw [Int.toNat_natCast]; exact ⟨x, HCAR.out⟩⟩), flow_below HB2.out (Nat.le_refl _)⟩
    · have q2 := Blk.cell hn.blk 2 (v := .slice (some ⟨ga, 0, none⟩) l.length l.length) rfl
      have HN2 := Lib.hid hn
      have HFIN : Hid (Valid l.length (arcF l) x ∧ Feas l.length (arcF l) x p ∧ LexCert l.length (arcF l) x p ∧ ∀ v : Nat, v < N → balF l.length (arcF l) x v = xs.getD v 0) := Lib.hid ⟨hv, hfe, hlex, hbal⟩
      have HT2 := Lib.hid ht
      have HGA := Lib.hid (show w1.heap.size ≤ ga from hga)
      clear hn ht hga hv hfe hlex hbal
      have hgn : ¬ w.heap.size = g := fun h => by
        have h1 := HA6.out
        have h2 := HN2.out.blk
        rw [h] at h1
        unfold Blk at h1 h2
        rw [h1] at h2
        simp at h2
      have HGN := Lib.hid hgn
      clear hgn
      have S0 : w2.drew.cell? ⟨g, 2, none⟩ = some (.slice (some ⟨ga, 0, none⟩) l.length l.length) ∧ Fr (fun k => k = w.heap.size) w2 w2.drew := ⟨q2, (Fr.refl _ w2).drew⟩
      go_upto_region 7 with (fail)
      go_region_held3 (fun w' => w'.cell? ⟨g, 2, none⟩ = some (.slice (some ⟨ga, 0, none⟩) l.length l.length) ∧ Fr (fun k => k = w.heap.size) w2 w')
        (first | (with_reducible exact S0) | (with_reducible exact S5) | (with_reducible exact S6 _ _) | (trace_state; fail))
        (first
          | (go_at_call 65; refine (total_any w2.drew (HN2.out.below ((Below.refl _ w2).drew)) HO.out.m1 (fun i hi => ⟨(HFIN.out.1 i hi).1, Int.le_trans (HFIN.out.1 i hi).2 (HO.out.cap i hi).2⟩) HO.out.cost).mono ?_; rintro e w7 ⟨rfl, hb7⟩; have S5 : w7.cell? ⟨g, 2, none⟩ = some (.slice (some ⟨ga, 0, none⟩) l.length l.length) ∧ Fr (fun k => k = w.heap.size) w2 w7 := ⟨(Fr.of_below hb7 (fun _ => False)).cell S0.1 (fun a => a), S0.2.below hb7⟩; have S6 : ∀ a b, ((w7.setCell ⟨w.heap.size, 0, none⟩ a).setCell ⟨w.heap.size, 1, none⟩ b).cell? ⟨g, 2, none⟩ = some (.slice (some ⟨ga, 0, none⟩) l.length l.length) ∧ Fr (fun k => k = w.heap.size) w2 ((w7.setCell ⟨w.heap.size, 0, none⟩ a).setCell ⟨w.heap.size, 1, none⟩ b) := fun a b => ⟨(((Fr.refl (fun k => k = w.heap.size) w7).setCell (p := ⟨w.heap.size, 0, none⟩) (.inl rfl) a).setCell (p := ⟨w.heap.size, 1, none⟩) (.inl rfl) b).cell S5.1 (fun h => HGN.out h.symm), (S5.2.setCell (p := ⟨w.heap.size, 0, none⟩) (.inl rfl) a).setCell (p := ⟨w.heap.size, 1, none⟩) (.inl rfl) b⟩; have hA7 := HA6.out.fr (Fr.of_below (((Below.refl _ w2).drew).trans hb7) (fun _ => False)) (fun a => a); have c0 := Blk.cell hA7 0 (v := .slice none 0 0) rfl; have c1' := Blk.cell hA7 1 (v := .int .i64 0) rfl; have f0 := Blk.free hA7 0; have f1 := Blk.free hA7 1))
      all_goals
        go_wp2_with fail
        exact ret21 rfl rfl (flow_set hA7) ⟨.inr (.inr ⟨HER.out, ga, x, p, rfl, HT2.out.fr (S6 _ _).2 (by have := HGA.out; have := HGE.out; omega), by have := HGA.out; have := HGE.out; omega, HFIN.out.1, HFIN.out.2.1, HFIN.out.2.2.1, by rw [Int.toNat_natCast]; exact HFIN.out.2.2.2⟩), ((Fr.of_below HB2.out (fun k => k = w.heap.size)).trans (S6 _ _).2 (fun _ h => .inl h)).to_below (Nat.le_refl _) (fun _ h => by omega)⟩
  · have e1 : (er != 0) = true := by simp [h0]
    have H0 := Lib.hid h0
    clear h0
    go_wp2_with fail
    exact ret21 rfl rfl (flow_set HA5.out) ⟨.inl ⟨by rw [HER.out]; exact H0.out, by rw [HER.out]⟩, flow_below HB1.out (Nat.le_refl _)⟩
end Go.Proofs.Ytcobihdjcdefmaa
namespace Go.Proofs.Ytcobihdjcdefmaa
open PAccountsCompress
open Go.RowKit Go.Proofs.YtcobihdjcdefmaaW.PrintWords
def TA (w : World) (g n : Nat) (A : Nat → Ar) : Prop := ∃ cs, Blk w g cs 69 ∧ ∀ v : Nat, v < n → cs[v * 4]? = some (.int .i64 (A v).f0) ∧ cs[v * 4 + 1]? = some (.int .i64 (A v).f1) ∧ cs[v * 4 + 2]? = some (.int .i64 (A v).f2) ∧ cs[v * 4 + 3]? = some (.int .i64 (A v).f3)
section
variable {w : World} {g n : Nat} {A : Nat → Ar}
theorem TA.cells (h : TA w g n A) {v : Nat} (hv : v < n) : w.cell? ⟨g, v * 4, none⟩ = some (.int .i64 (A v).f0) ∧ w.cell? ⟨g, v * 4 + 1, none⟩ = some (.int .i64 (A v).f1) ∧ w.cell? ⟨g, v * 4 + 2, none⟩ = some (.int .i64 (A v).f2) ∧ w.cell? ⟨g, v * 4 + 3, none⟩ = some (.int .i64 (A v).f3) := by
  obtain ⟨cs, hb, hc⟩ := h
  obtain ⟨c0, c1, c2, c3⟩ := hc v hv
  exact ⟨hb.cell _ c0, hb.cell _ c1, hb.cell _ c2, hb.cell _ c3⟩
theorem TA.free (h : TA w g n A) (i : Nat) : w.frozen? ⟨g, i, none⟩ = false := by
  obtain ⟨cs, hb, _⟩ := h
  exact hb.free i
theorem TA.fr {F : Nat → Prop} {w' : World} (h : TA w g n A) (hf : Fr F w w') (hn : ¬ F g) : TA w' g n A := by
  obtain ⟨cs, hb, hc⟩ := h
  exact ⟨cs, hb.fr hf hn, hc⟩
theorem TA.below {w' : World} (h : TA w g n A) (hb : Below w.heap.size w w') : TA w' g n A := h.fr (Fr.of_below hb (fun _ => False)) (fun a => a)
theorem TA.lt (h : TA w g n A) : g < w.heap.size := by
  obtain ⟨cs, hb, _⟩ := h
  exact hb.lt
theorem TA.congr {A' : Nat → Ar} (h : TA w g n A) (e : ∀ i, i < n → A i = A' i) : TA w g n A' := by
  obtain ⟨cs, hb, hc⟩ := h
  exact ⟨cs, hb, fun i hi => by rw [← e i hi]; exact hc i hi⟩
end
/-- An arc that costs nothing. -/
def free0 (A : Nat → Ar) (k : Nat) : Nat → Ar := fun i => if i < k then ⟨(A i).f0, (A i).f1, (A i).f2, 0⟩ else A i
section
variable {n m : Nat} {A : Nat → Ar} {x : Nat → Int}
end
/-- The excess of a set. -/
def excF (n m : Nat) (A : Nat → Ar) (need : Nat → Int) (R : Int → Bool) : Int := sumN n (fun v => (if R v then 1 else 0) * need v) - capOut m A R
/-- The least of the sets of greatest excess. -/
structure IsBlock (n m : Nat) (A : Nat → Ar) (need : Nat → Int) (R : Int → Bool) : Prop where
  most : ∀ S : Int → Bool, excF n m A need S ≤ excF n m A need R
  least : ∀ S : Int → Bool, excF n m A need S = excF n m A need R → ∀ v : Nat, v < n → R v = true → S v = true
/-- What a flow as far as it goes tells: a closed set of nodes with what is left. -/
structure Left (n m : Nat) (A : Nat → Ar) (need : Nat → Int) (x : Nat → Int) (R : Int → Bool) : Prop where
  valid : Valid m A x
  shut : ∀ s, Res m A x s → R (frm A s) = true → R (tow A s) = true
  src : ∀ v : Nat, v < n → 0 < need v - balF m A x v → R v = true
  pos : ∀ v : Nat, v < n → R v = true → 0 ≤ need v - balF m A x v
  least : ∀ S : Int → Bool, (∀ s, Res m A x s → S (frm A s) = true → S (tow A s) = true) → (∀ v : Nat, v < n → 0 < need v - balF m A x v → S v = true) → ∀ v : Nat, v < n → R v = true → S v = true
theorem ind_mul (b : Bool) (a c : Int) : (if b then (1 : Int) else 0) * (a - c) = (if b then (1 : Int) else 0) * a - (if b then (1 : Int) else 0) * c := Int.mul_sub ..
section
variable {n m : Nat} {A : Nat → Ar} {x : Nat → Int} {need : Nat → Int} {R : Int → Bool}
theorem exc_split (need : Nat → Int) (x : Nat → Int) (S : Int → Bool) : sumN n (fun v => (if S v then 1 else 0) * need v) = sumN n (fun v => (if S v then 1 else 0) * (need v - balF m A x v)) + sumN n (fun v => (if S v then 1 else 0) * balF m A x v) := by
  rw [← sumN_add]
  exact sumN_congr fun i _ => by rw [ind_mul]; omega
theorem left_le (need : Nat → Int) (x : Nat → Int) (S : Int → Bool) : sumN n (fun v => (if S v then 1 else 0) * (need v - balF m A x v)) ≤ posSum n (fun v => need v - balF m A x v) := by
  unfold posSum
  refine sumN_le fun v _ => ?_
  show (if S v = true then (1 : Int) else 0) * (need v - balF m A x v) ≤ if 0 < need v - balF m A x v then need v - balF m A x v else 0
  by_cases hs : S v = true
  · rw [if_pos hs, Int.one_mul]; split <;> omega
  · rw [if_neg hs, Int.zero_mul]; split <;> omega
theorem exc_le (hN : Net n m A) (hx : Valid m A x) (S : Int → Bool) : excF n m A need S ≤ posSum n (fun v => need v - balF m A x v) := by
  have h1 := cut_le hN hx S
  have h2 := exc_split (n := n) (m := m) (A := A) need x S
  have h3 := left_le (n := n) (m := m) (A := A) need x S
  unfold excF
  omega
theorem Left.exc (h : Left n m A need x R) (hN : Net n m A) : excF n m A need R = posSum n (fun v => need v - balF m A x v) := by
  have h1 := cut_out hN h.valid h.shut
  have h2 := exc_split (n := n) (m := m) (A := A) need x R
  have h3 : sumN n (fun v => (if R v then 1 else 0) * (need v - balF m A x v)) = posSum n (fun v => need v - balF m A x v) := by
    unfold posSum
    refine sumN_congr fun v hv => ?_
    show (if R v = true then (1 : Int) else 0) * (need v - balF m A x v) = if 0 < need v - balF m A x v then need v - balF m A x v else 0
    by_cases hs : R v = true
    · have := h.pos v hv hs
      rw [if_pos hs, Int.one_mul]; split <;> omega
    · have : ¬ 0 < need v - balF m A x v := fun g => hs (h.src v hv g)
      rw [if_neg hs, Int.zero_mul, if_neg this]
  unfold excF
  omega
end
end Go.Proofs.Ytcobihdjcdefmaa
namespace Go.Proofs.Ytcobihdjcdefmaa
open PAccountsCompress
section
variable {n m : Nat} {A : Nat → Ar} {x : Nat → Int} {need : Nat → Int} {R : Int → Bool}
theorem cut_eq (hN : Net n m A) (hx : Valid m A x) (R : Int → Bool) (h : capOut m A R ≤ sumN n (fun v => (if R v then 1 else 0) * balF m A x v)) : ∀ s, Res m A x s → R (frm A s) = true → R (tow A s) = true := by
  have hp := pot_sum hN x (fun v => if R v then (1 : Int) else 0)
  have hp : sumN m (fun i => ((if R (A i).f0 then (1 : Int) else 0) - (if R (A i).f1 then (1 : Int) else 0)) * x i) = sumN n (fun v => (if R v then 1 else 0) * balF m A x v) := hp
  have ht : ∀ i, i < m → 0 ≤ (if R (A i).f0 && !R (A i).f1 then (A i).f2 else 0) - ((if R (A i).f0 then (1 : Int) else 0) - (if R (A i).f1 then (1 : Int) else 0)) * x i := fun i hi => by
    have := hx i hi
    cases h0 : R (A i).f0 <;> cases h1 : R (A i).f1 <;> simp <;> omega
  have hz := sumN_eq_zero ht (by rw [sumN_sub, hp]; unfold capOut at h; omega)
  intro s hs hf
  obtain ⟨⟨h0, h1⟩, h2⟩ := hs
  have hz := hz s.f0.toNat (by omega)
  have hv := hx s.f0.toNat (by omega)
  unfold frm at hf
  unfold tow
  unfold spr at h2
  cases hb : s.f1 with
  | true =>
    rw [hb] at hf h2
    simp only [if_true] at hf h2 ⊢
    cases h4 : R (A s.f0.toNat).f0 with
    | true => rfl
    | false => rw [h4, hf] at hz; simp at hz; omega
  | false =>
    rw [hb] at hf h2
    simp only [Bool.false_eq_true, if_false] at hf h2 ⊢
    cases h4 : R (A s.f0.toNat).f1 with
    | true => rfl
    | false => rw [h4, hf] at hz; simp at hz; omega
theorem Left.block (h : Left n m A need x R) (hN : Net n m A) : IsBlock n m A need R := by
  have he := h.exc hN
  refine ⟨fun S => by rw [he]; exact exc_le hN h.valid S, fun S hS => ?_⟩
  rw [he] at hS
  have h1 := cut_le hN h.valid S
  have h2 := exc_split (n := n) (m := m) (A := A) need x S
  have h3 := left_le (n := n) (m := m) (A := A) need x S
  unfold excF at hS
  refine h.least S (cut_eq hN h.valid S (by omega)) fun v hv hp => ?_
  have hz := sumN_eq_zero (n := n) (f := fun v => (if 0 < need v - balF m A x v then need v - balF m A x v else 0) - (if S v then 1 else 0) * (need v - balF m A x v)) (fun v _ => by
    show 0 ≤ (if 0 < need v - balF m A x v then need v - balF m A x v else 0) - (if S v = true then (1 : Int) else 0) * (need v - balF m A x v)
    by_cases hs : S v = true
    · rw [if_pos hs, Int.one_mul]; split <;> omega
    · rw [if_neg hs, Int.zero_mul]; split <;> omega) (by
    rw [sumN_sub]
    have hpos : posSum n (fun v => need v - balF m A x v) = sumN n (fun v => if 0 < need v - balF m A x v then need v - balF m A x v else 0) := rfl
    rw [hpos] at h3 hS
    omega) v hv
  have hz : (if 0 < need v - balF m A x v then need v - balF m A x v else 0) - (if S v = true then (1 : Int) else 0) * (need v - balF m A x v) = 0 := hz
  by_cases hs : S v = true
  · exact hs
  · rw [if_pos hp, if_neg hs, Int.zero_mul] at hz; omega
/-- Where carry fails some set has an excess. -/
theorem stuck_exc (hN : NetOk n m A) (hc : Carried n m A need false x) : ∃ S : Int → Bool, 0 < excF n m A need S := by
  obtain ⟨R0, g1, g2, g3, v, hv, hp⟩ := hc.stuck rfl
  refine ⟨R0, ?_⟩
  have h1 := cut_out hN.net hc.valid g1
  have h2 := exc_split (n := n) (m := m) (A := A) need x R0
  have h3 : 0 < sumN n (fun v => (if R0 v then 1 else 0) * (need v - balF m A x v)) := by
    have hz : sumN n (fun _ => (0 : Int)) = 0 := sumN_zero fun _ _ => rfl
    suffices hlt : sumN n (fun _ => (0 : Int)) < sumN n (fun v => (if R0 v then 1 else 0) * (need v - balF m A x v)) by rw [hz] at hlt; exact hlt
    refine sumN_lt (j := v) (fun i hi => ?_) hv ?_
    · show 0 ≤ (if R0 i = true then (1 : Int) else 0) * (need i - balF m A x i)
      by_cases hs : R0 i = true
      · rw [if_pos hs, Int.one_mul]; exact g3 i hi hs
      · rw [if_neg hs, Int.zero_mul]; exact Int.le_refl _
    · show 0 < (if R0 v = true then (1 : Int) else 0) * (need v - balF m A x v)
      rw [if_pos (g2 v hv hp), Int.one_mul]; exact hp
  unfold excF
  omega
/-- Where there is a flow no set has an excess. -/
theorem flow_exc (hN : Net n m A) (hx : Valid m A x) (hb : ∀ v : Nat, v < n → balF m A x v = need v) (S : Int → Bool) : excF n m A need S ≤ 0 := by
  have h := exc_le (need := need) hN hx S
  rw [posSum_zero (fun i hi => by have := hb i hi; omega)] at h
  exact h
theorem no_flow (hN : NetOk n m A) (hc : Carried n m A need false x) {y : Nat → Int} (hy : Valid m A y) (hb : ∀ v : Nat, v < n → balF m A y v = need v) : False := by
  obtain ⟨S, h⟩ := stuck_exc hN hc
  have := flow_exc hN.net hy hb S
  omega
end
end Go.Proofs.Ytcobihdjcdefmaa
namespace Go.Proofs.Ytcobihdjcdefmaa
open PAccountsCompress
open Go.RowKit Go.Proofs.YtcobihdjcdefmaaW.PrintWords
/-- The nodes of a set, in order. -/
def setL (R : Int → Bool) (n : Nat) : List Int := ((List.range n).filter (fun v : Nat => R (v : Int))).map (fun v : Nat => (v : Int))
end Go.Proofs.Ytcobihdjcdefmaa
