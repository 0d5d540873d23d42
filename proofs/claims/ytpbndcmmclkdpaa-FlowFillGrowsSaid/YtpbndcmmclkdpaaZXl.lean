/-
  Fill: rows in memory as lists, and what the laws compare.
  Fill: the reference's functions on the amounts of a plan, and the array that comes in.
-/
import Derived.Test.YtpbndcmmclkdpaaZXi
import Derived.Test.YtpbndcmmclkdpaaZXj
namespace Go.Proofs.Ytpbndcmmclkdpaa
open PFlowSolves
open Go.RowKit Go.Proofs.YtpbndcmmclkdpaaW.PrintWords
/-- A plan as rows. -/
def rowsL (P W : Nat) (X : Plan) : List (List Int) := (List.range P).map (fun i => (List.range W).map (X i))
theorem rowsL_len (P W : Nat) (X : Plan) : (rowsL P W X).length = P := by unfold rowsL; simp
theorem rowsL_at {P W : Nat} {X : Plan} {i : Nat} (hi : i < P) : (rowsL P W X)[i]? = some ((List.range W).map (X i)) := by
  unfold rowsL; rw [List.getElem?_map, List.getElem?_range hi]; rfl
theorem planR_rowsL {P W : Nat} {X : Plan} {i k : Nat} (hi : i < P) (hk : k < W) : planR (rowsL P W X) i k = X i k := by
  unfold planR
  rw [List.getD_eq_getElem?_getD (l := rowsL P W X), rowsL_at hi]
  show ((List.range W).map (X i)).getD k 0 = X i k
  rw [List.getD_eq_getElem?_getD, List.getElem?_map, List.getElem?_range hk]; rfl
theorem RM.rows {w : World} {hb P W : Nat} {r : Nat → Nat} {X : Plan} (h : RM w hb P W P r X) (hP : P ≤ 100000) (hW : W ≤ 100000) : Kd.C kRow w (some ⟨hb, 0, none⟩) P (rowsL P W X) := by
  refine ⟨rowsL_len P W X, by omega, fun _ => ⟨_, rfl, fun i row hrow => ?_⟩⟩
  have hi : i < P := by have := (List.getElem?_eq_some_iff.1 hrow).1; rwa [rowsL_len] at this
  rw [rowsL_at hi] at hrow
  obtain rfl := Option.some.inj hrow
  have hln : ((List.range W).map (X i)).length = W := by simp
  refine ⟨[.slice (some ⟨r i, 0, none⟩) W W], rfl, ⟨some ⟨r i, 0, none⟩, W, by rw [hln], by rw [hln]; exact Nat.le_refl _, ?_⟩, fun j u hu => ?_⟩
  · refine ⟨rfl, by rw [hln]; omega, fun _ => ⟨_, rfl, fun k y hy => ?_⟩⟩
    have hk : k < W := by have := (List.getElem?_eq_some_iff.1 hy).1; rwa [hln] at this
    rw [List.getElem?_map, List.getElem?_range hk] at hy
    obtain rfl := Option.some.inj hy
    refine ⟨[.int .i64 (X i k)], rfl, rfl, fun j u hu => ?_⟩
    have hj : j = 0 := by have := (List.getElem?_eq_some_iff.1 hu).1; simp at this; exact this
    subst hj
    obtain rfl := Option.some.inj hu
    have hc := RM.cell h hi hk
    have e : (⟨r i, 0, none⟩ : Addr).add (k * (Kd.int .i64).sz + 0) = ⟨r i, k, none⟩ := by
      rw [show k * (Kd.int .i64).sz + 0 = k from by show k * 1 + 0 = k; omega]; simp [Addr.add]; omega
    rw [e]; exact hc
  · have hj : j = 0 := by have := (List.getElem?_eq_some_iff.1 hu).1; simp at this; exact this
    subst hj
    obtain rfl := Option.some.inj hu
    have hc := RM.hcell h hi
    have e : (⟨hb, 0, none⟩ : Addr).add (i * kRow.sz + 0) = ⟨hb, i, none⟩ := by
      rw [show i * kRow.sz + 0 = i from by show i * 1 + 0 = i; omega]; simp [Addr.add]; omega
    rw [e]; exact hc
namespace Ord
variable {o : Ord} {X Y : Plan}
theorem Adm.congr (h : o.Adm X) (e : ∀ i k, i < o.P → k < o.W → X i k = Y i k) : o.Adm Y where
  nn i k hi hk := by rw [← e i k hi hk]; exact h.nn i k hi hk
  un i k hi hk hs := by rw [← e i k hi hk]; exact h.un i k hi hk hs
  row i hi := by rw [← row_congr e hi]; exact h.row i hi
  col k hk := by rw [← col_congr e hk]; exact h.col k hk
theorem lift_congr (e : ∀ i k, i < o.P → k < o.W → X i k = Y i k) {j : Nat} (hj : j < o.mB) : o.lift X j = o.lift Y j := by
  unfold mB at hj
  by_cases h1 : j < o.P * o.W
  · obtain ⟨g1, g2, _⟩ := of_grid h1
    rw [lift_pair h1, lift_pair h1, e _ _ g1 g2]
  · by_cases h2 : j < o.P * o.W + o.P
    · obtain ⟨i', rfl⟩ : ∃ i', j = o.P * o.W + i' := ⟨j - o.P * o.W, by omega⟩
      rw [lift_src (by omega), lift_src (by omega), row_congr e (by omega)]
    · obtain ⟨k', rfl⟩ : ∃ k', j = o.P * o.W + o.P + k' := ⟨j - o.P * o.W - o.P, by omega⟩
      rw [lift_snk, lift_snk, col_congr e (by omega)]
theorem sum_lift : sumN (o.P * o.W) (o.lift X) = o.tot X := by
  show _ = sumN o.P (fun i => sumN o.W (fun k => X i k))
  rw [← sumN_grid o.P o.W (fun i k => X i k)]
  exact sumN_congr fun b hb => lift_pair hb
theorem cost_lift (hX : o.Adm X) : costF o.mB o.arcB (o.lift X) = o.sum X := by
  unfold costF mB
  rw [sumN_split, sumN_split, sumN_zero (n := o.P) (fun i hi => by rw [arcB_src hi]; exact Int.zero_mul _), sumN_zero (n := o.W) (fun k _ => by rw [arcB_snk]; exact Int.zero_mul _), Int.add_zero, Int.add_zero]
  show _ = sumN o.P (fun i => sumN o.W (fun k => o.cost i k * X i k))
  rw [← sumN_grid o.P o.W (fun i k => o.cost i k * X i k)]
  refine sumN_congr fun b hb => ?_
  obtain ⟨g1, g2, g3⟩ := of_grid hb
  rw [arcB_pair hb, lift_pair hb]
  show (if o.g b then o.cost (b / o.W) (b % o.W) else 0) * X (b / o.W) (b % o.W) = o.cost (b / o.W) (b % o.W) * X (b / o.W) (b % o.W)
  cases hg : o.g b with
  | true => rfl
  | false => rw [hX.un _ _ g1 g2 hg]; simp
theorem Adm.valid (h : o.Adm X) : Valid o.mB o.arcB (o.lift X) := fun j hj => by
  refine ⟨?_, h.lift_le hj⟩
  unfold mB at hj
  by_cases h1 : j < o.P * o.W
  · obtain ⟨g1, g2, _⟩ := of_grid h1
    rw [lift_pair h1]; exact h.nn _ _ g1 g2
  · by_cases h2 : j < o.P * o.W + o.P
    · obtain ⟨i', rfl⟩ : ∃ i', j = o.P * o.W + i' := ⟨j - o.P * o.W, by omega⟩
      rw [lift_src (by omega)]; exact sumN_nonneg fun k hk => h.nn _ _ (by omega) hk
    · obtain ⟨k', rfl⟩ : ∃ k', j = o.P * o.W + o.P + k' := ⟨j - o.P * o.W - o.P, by omega⟩
      rw [lift_snk]; exact sumN_nonneg fun i hi => h.nn _ _ hi (by omega)
/-- Arcs of the reference's network are no dearer and no wider than so. -/
theorem arcB_small (ho : o.Ok) {j : Nat} (hj : j < o.mB) : (o.arcB j).f2 ≤ 65536 ∧ -32768 ≤ (o.arcB j).f3 ∧ (o.arcB j).f3 ≤ 32768 := by
  unfold mB at hj
  by_cases h1 : j < o.P * o.W
  · obtain ⟨g1, g2, _⟩ := of_grid h1
    have a := ho.b1 _ g1
    have b := ho.cost1 _ _ g1 g2
    rw [arcB_pair h1]
    show (if o.g j then min (o.b (j / o.W)) (o.c (j % o.W)) else 0) ≤ 65536 ∧ -32768 ≤ (if o.g j then o.cost (j / o.W) (j % o.W) else 0) ∧ (if o.g j then o.cost (j / o.W) (j % o.W) else 0) ≤ 32768
    split <;> omega
  · by_cases h2 : j < o.P * o.W + o.P
    · obtain ⟨i', rfl⟩ : ∃ i', j = o.P * o.W + i' := ⟨j - o.P * o.W, by omega⟩
      have a := ho.b1 i' (by omega)
      rw [arcB_src (by omega)]
      show o.b i' ≤ 65536 ∧ (-32768 : Int) ≤ 0 ∧ (0 : Int) ≤ 32768
      omega
    · obtain ⟨k', rfl⟩ : ∃ k', j = o.P * o.W + o.P + k' := ⟨j - o.P * o.W - o.P, by omega⟩
      have a := ho.c1 k' (by omega)
      rw [arcB_snk]
      show o.c k' ≤ 65536 ∧ (-32768 : Int) ≤ 0 ∧ (0 : Int) ≤ 32768
      omega
end Ord
theorem CarOk.plan {o : Ord} {X : Plan} (h : o.Adm X) : CarOk o (rowsL o.P o.W X) :=
  ⟨rowsL_len _ _ _, fun r hr => by
    obtain ⟨i, _, rfl⟩ := List.mem_map.1 hr
    simp, h.congr fun i k hi hk => (planR_rowsL hi hk).symm⟩
end Go.Proofs.Ytpbndcmmclkdpaa
namespace Go.Proofs.Ytpbndcmmclkdpaa
open PFlowSolves
open Go.RowKit Go.Proofs.YtpbndcmmclkdpaaW.PrintWords
theorem rch_sw {A B : Nat → Ar} {P Q : Stp → Prop} (h : ∀ s, P s → Q s ∧ frm A s = frm B s ∧ tow A s = tow B s) {a b : Int} (hr : Rch A P a b) : Rch B Q a b := by
  induction hr with
  | refl => exact .refl _
  | step _ hp ih =>
    obtain ⟨h1, h2, h3⟩ := h _ hp
    rw [h3]
    rw [h2] at ih
    exact .step ih h1
theorem best_sw {m : Nat} {A B : Nat → Ar} {x y : Nat → Int} {first : Int} (hA : ∀ i, i < m → A i = B i) (hx : ∀ i, i < m → x i = y i) (h : BestOk m A x first) : BestOk m B y first := by
  have hA' : ∀ i, i < m → B i = A i := fun i hi => (hA i hi).symm
  have hx' : ∀ i, i < m → y i = x i := fun i hi => (hx i hi).symm
  have key : ∀ p : Int → Int, Feas m A x p → Feas m B y p := fun p hp s hs => by
    have h1 := res_eq hA' hx' hs
    obtain ⟨_, h2, h3, h4⟩ := stp_sw hA' hs
    rw [h2, h3, h4]; exact hp s h1
  have key' : ∀ p : Int → Int, Feas m B y p → Feas m A x p := fun p hp s hs => by
    have h1 := res_eq hA hx hs
    obtain ⟨_, h2, h3, h4⟩ := stp_sw hA hs
    rw [h2, h3, h4]; exact hp s h1
  obtain ⟨⟨q, hq⟩, hb⟩ := h
  refine ⟨⟨q, key q hq⟩, fun p hp i hi hf hxi ht hr => ?_⟩
  rw [← hA i hi] at hxi ht hr
  rw [← hx i hi] at hxi
  refine hb p (key' p hp) i hi hf hxi ht (rch_sw (fun s hs => ?_) hr)
  obtain ⟨h1, h2, h3⟩ := hs
  obtain ⟨_, g2, g3, g4⟩ := stp_sw hA' h1
  exact ⟨⟨res_eq hA' hx' h1, h2, by rw [← g2, ← g3, ← g4]; exact h3⟩, g2, g3⟩
theorem R_C2 {α : Type} {d : Kd α} {e base : Nat} {ok : Nat → Prop} {w : World} {v : Value} {xs : List α} (h : Kd.R d e w base ok v xs) : ∃ A c, v = .slice A xs.length c ∧ xs.length ≤ c ∧ Kd.C d w A xs.length xs := Kd.R_reads h
section
variable {o : Ord} {X : Plan}
theorem car_plan (w : World) (ho : o.Ok) (hX : o.Adm X) {P W : Nat} (hP : o.P = P) (hW : o.W = W) (A1 : Option Addr) (c1 : Nat) (A2 : Option Addr) (c2 : Nat) (A3 : Option Addr) (c3 : Nat) (h3 : Kd.C k44 w A3 o.mB (netB o o.mB)) (A4 : Option Addr) (c4 : Nat) (h4 : Kd.C kRow w A4 P (rowsL P W X)) :
    Calls Try.prog 45 #[.slice A1 P c1, .slice A2 W c2, .slice A3 o.mB c3, .slice A4 P c4] w fun e w' => (∃ b, e = .returned (.tuple #[.slice (some ⟨b, 0, none⟩) o.mB o.mB, .bool true]) ∧ TI w' b o.mB (o.lift X)) ∧ Below w.heap.size w w' := by
  subst hP hW
  have h := carried_any w o ho A1 c1 A2 c2 A3 c3 h3 A4 c4 (rowsL o.P o.W X) (by rw [rowsL_len]; exact h4)
  rw [rowsL_len] at h
  refine h.mono ?_
  rintro e w' ⟨h1 | h1, hb⟩
  · obtain ⟨b, he, _, ht, _⟩ := h1
    exact ⟨⟨b, he, ht.congr fun j hj => by rw [Ord.lift_congr (fun i k hi hk => planR_rowsL hi hk) hj]⟩, hb⟩
  · exact absurd (CarOk.plan hX) h1.2
theorem cost_plan (w : World) (ho : o.Ok) (hX : o.Adm X) (A3 : Option Addr) (c3 : Nat) (h3 : Kd.C k44 w A3 o.mB (netB o o.mB)) (hc3 : o.mB ≤ c3) (b : Nat) (hT : TI w b o.mB (o.lift X)) :
    Calls Try.prog 27 #[.slice A3 o.mB c3, .slice (some ⟨b, 0, none⟩) o.mB o.mB] w fun e w' => e = .returned (.int .i64 (o.sum X)) ∧ Below w.heap.size w w' := by
  have hm : o.mB ≤ 168 := by
    have h1 := ho.p1
    have h2 := ho.w1
    have h3 : o.P * o.W ≤ 144 := Nat.mul_le_mul h1 h2
    unfold Ord.mB; omega
  obtain ⟨ys, hyl, hyx, hyC⟩ := TI_list hT (by omega)
  have hln := netB_len o o.mB
  have h := rcost_any w A3 c3 (netB o o.mB) (by rw [hln]; exact h3) (by rw [hln]; exact hc3) (some ⟨b, 0, none⟩) o.mB ys hyC (by omega) (by rw [hln]; omega) (fun i hi => by rw [hln] at hi; rw [netB_at o hi]; exact (Ord.arcB_small ho hi).1) (fun i hi => by rw [hln] at hi; rw [netB_at o hi]; exact (Ord.arcB_small ho hi).2)
    (fun i hi => by rw [hln] at hi; rw [netB_at o hi]; show 0 ≤ ys.getD i 0 ∧ ys.getD i 0 ≤ _; rw [hyx i hi]; exact hX.valid i hi) (by rw [hln]; omega)
  have he : costF o.mB (arcF (netB o o.mB)) (xsF ys) = o.sum X := by
    rw [← Ord.cost_lift hX]
    refine sumN_congr fun i hi => ?_
    rw [netB_at o hi]
    show _ * ys.getD i 0 = _
    rw [hyx i hi]
  rw [hln, he, hyl] at h
  exact h
theorem most_plan (w : World) (ho : o.Ok) (hX : o.Adm X) {S Q : Nat → Bool} (hS : o.Shut X S Q) {P W : Nat} (hP : o.P = P) (hW : o.W = W) (A3 : Option Addr) (c3 : Nat) (h3 : Kd.C k44 w A3 o.mB (netB o o.mB)) (b : Nat) (hT : TI w b o.mB (o.lift X)) :
    Calls Try.prog 46 #[.int .i64 P, .int .i64 W, .slice A3 o.mB c3, .slice (some ⟨b, 0, none⟩) o.mB o.mB] w fun e w' => e = .returned (.bool true) ∧ Below w.heap.size w w' := by
  subst hP hW
  have hm : o.mB ≤ 168 := by
    have h1 := ho.p1
    have h2 := ho.w1
    have h3 : o.P * o.W ≤ 144 := Nat.mul_le_mul h1 h2
    unfold Ord.mB; omega
  obtain ⟨ys, hyl, hyx, hyC⟩ := TI_list hT (by omega)
  rw [hyl] at hyC
  exact most_any w o ho hX hS A3 c3 h3 (some ⟨b, 0, none⟩) o.mB ys hyl hyC hyx
theorem best_plan (w : World) (ho : o.Ok) {first : Int} (hB : BestOk o.mB o.arcB (o.lift X) first) (A3 : Option Addr) (c3 : Nat) (h3 : Kd.C k44 w A3 o.mB (netB o o.mB)) (b : Nat) (hT : TI w b o.mB (o.lift X)) :
    Calls Try.prog 29 #[.int .i64 (o.nA : Nat), .slice A3 o.mB c3, .slice (some ⟨b, 0, none⟩) o.mB o.mB, .int .i64 first] w fun e w' => e = .returned (.bool true) ∧ Below w.heap.size w w' := by
  have hm : o.mB ≤ 168 := by
    have h1 := ho.p1
    have h2 := ho.w1
    have h3 : o.P * o.W ≤ 144 := Nat.mul_le_mul h1 h2
    unfold Ord.mB; omega
  obtain ⟨ys, hyl, hyx, hyC⟩ := TI_list hT (by omega)
  have hln := netB_len o o.mB
  have hok := Ord.ok_B ho
  have h := best_any w o.nA A3 c3 (netB o o.mB) (by rw [hln]; exact h3) (some ⟨b, 0, none⟩) o.mB ys hyC (by omega)
    (by rw [hln]; exact ⟨hok.n1, hok.n2, hok.m1, fun i hi => by rw [netB_at o hi]; exact hok.net i hi, fun i hi => by rw [netB_at o hi]; exact hok.cap i hi, fun i hi => by rw [netB_at o hi]; exact hok.cost i hi⟩)
    first (by rw [hln]; exact best_sw (fun i hi => (netB_at o hi).symm) (fun i hi => (hyx i hi).symm) hB)
  rw [hln, hyl] at h
  exact h
end
/-- What reads at an array's type. -/
theorem trod_arr {H : Type} {enc : TypeId × Value → H} {w : World} {base : Nat} {spare : Nat → Bool} {held : Bool} {t e : TypeId} {n fuel : Nat} {cs : List Value} {x : DataW H × List MemPlace} (ht : Try.prog.underlying t = some (.array n e)) (h : DataW.trod enc Try.prog w base spare held fuel t cs = some x) :
    ∃ m, cs.length = Try.prog.cellsOf t ∧ ∀ i, i < n → ∃ y, DataW.trod enc Try.prog w base spare held m e ((cs.drop (i * Try.prog.cellsOf e)).take (Try.prog.cellsOf e)) = some y := by
  cases fuel with
  | zero => simp [DataW.trod] at h
  | succ m =>
    rw [DataW.trod_step] at h
    unfold DataW.trodStep at h
    simp only [ht] at h
    split at h
    · next hl =>
      obtain ⟨ys, hy, _⟩ := Option.map_eq_some_iff.1 h
      refine ⟨m, hl, fun i hi => ?_⟩
      have hlen := mapM_some_length hy
      rw [List.length_range] at hlen
      have := mapM_some_get hy i i (by rw [List.getElem?_range hi])
      rw [List.getElem?_eq_getElem (show i < ys.length by omega)] at this
      exact ⟨_, this⟩
    · cases h
theorem opn67 {H : Type} {enc : TypeId × Value → H} {w : World} {base : Nat} {spare : Nat → Bool} {held : Bool} {fuel : Nat} {cs : List Value} {x : DataW H × List MemPlace} (h : DataW.trod enc Try.prog w base spare held fuel 67 cs = some x) :
    ∃ T : Nat → Int, cs = tarL T := by
  obtain ⟨m, hl, hr⟩ := trod_arr Try.underlying67 h
  rw [show Try.prog.cellsOf 67 = 64 by kernel_rfl] at hl
  have key : ∀ j, j < 64 → ∃ a, cs[j]? = some (.int .i64 a) := fun j hj => by
    obtain ⟨y, hy⟩ := hr (j / 8) (by omega)
    rw [show Try.prog.cellsOf 65 = 8 by kernel_rfl] at hy
    obtain ⟨m2, hl2, hr2⟩ := trod_arr Try.underlying65 hy
    obtain ⟨z, hz⟩ := hr2 (j % 8) (by omega)
    rw [show Try.prog.cellsOf 3 = 1 by kernel_rfl] at hz
    obtain ⟨a, ka, _⟩ := (Opn.int Try.underlying3) enc w base spare held m2 _ _ hz
    refine ⟨a, ?_⟩
    have ka' : List.take 1 (List.drop (j % 8 * 1) (List.take 8 (List.drop (j / 8 * 8) cs))) = [.int .i64 a] := ka
    have h0 : (List.take 1 (List.drop (j % 8 * 1) (List.take 8 (List.drop (j / 8 * 8) cs))))[0]? = some (.int .i64 a) := by rw [ka']; rfl
    rw [List.getElem?_take, if_pos (by decide), List.getElem?_drop, List.getElem?_take, if_pos (by omega), List.getElem?_drop] at h0
    rw [show j / 8 * 8 + (j % 8 * 1 + 0) = j by omega] at h0
    exact h0
  refine ⟨fun j => match cs[j]? with | some (.int _ a) => a | _ => 0, List.ext_getElem? fun j => ?_⟩
  by_cases hj : j < 64
  · obtain ⟨a, ha⟩ := key j hj
    rw [tarL_at _ hj, ha]
  · rw [List.getElem?_eq_none (by omega)]
    unfold tarL
    rw [List.getElem?_eq_none (by simp; omega)]
end Go.Proofs.Ytpbndcmmclkdpaa
