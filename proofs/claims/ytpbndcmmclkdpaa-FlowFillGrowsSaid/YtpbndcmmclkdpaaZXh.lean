/-
  Fill: the reference's Carried (45).
-/
import Derived.Test.YtpbndcmmclkdpaaZXg
namespace Go.Proofs.Ytpbndcmmclkdpaa
open PFlowSolves
open Go.RowKit Go.Proofs.YtpbndcmmclkdpaaW.PrintWords
/-- A plan as far as the first pairs. -/
def Ord.upto (o : Ord) (X : Plan) (a : Nat) : Plan := fun i k => if i * o.W + k < a then X i k else 0
namespace Ord
variable {o : Ord} {X : Plan}
theorem grid_inj {W i k i' k' : Nat} (hk : k < W) (hk' : k' < W) (h : i * W + k = i' * W + k') : i = i' ∧ k = k' := by
  have h1 := (at_grid (P := i + 1) (Nat.lt_succ_self i) hk)
  have h2 := (at_grid (P := i' + 1) (Nat.lt_succ_self i') hk')
  rw [h] at h1
  exact ⟨h1.2.1.symm.trans h2.2.1, h1.2.2.symm.trans h2.2.2⟩
theorem upto_next {i k i' k' : Nat} (hk : k < o.W) (hk' : k' < o.W) : o.upto X (i * o.W + k + 1) i' k' = o.upto X (i * o.W + k) i' k' + (if i' = i ∧ k' = k then X i k else 0) := by
  unfold upto
  by_cases e : i' = i ∧ k' = k
  · obtain ⟨rfl, rfl⟩ := e
    rw [if_pos (by omega), if_neg (by omega), if_pos ⟨rfl, rfl⟩]; omega
  · rw [if_neg e]
    have hne : i' * o.W + k' ≠ i * o.W + k := fun h => e (grid_inj hk' hk h)
    by_cases h : i' * o.W + k' < i * o.W + k
    · rw [if_pos h, if_pos (by omega)]; omega
    · rw [if_neg h, if_neg (by omega)]; omega
theorem row_next {i k i' : Nat} (hk : k < o.W) : o.row (o.upto X (i * o.W + k + 1)) i' = o.row (o.upto X (i * o.W + k)) i' + (if i' = i then X i k else 0) := by
  unfold row
  rw [sumN_congr fun k' hk' => upto_next (X := X) (i := i) (i' := i') hk hk', sumN_add]
  congr 1
  by_cases e : i' = i
  · rw [if_pos e]
    exact (sumN_congr fun k' _ => by simp [e]).trans (sumN_single hk (X i k))
  · rw [if_neg e]; exact sumN_zero fun k' _ => by simp [e]
theorem col_next {i k k' : Nat} (hi : i < o.P) (hk : k < o.W) (hk' : k' < o.W) : o.col (o.upto X (i * o.W + k + 1)) k' = o.col (o.upto X (i * o.W + k)) k' + (if k' = k then X i k else 0) := by
  unfold col
  rw [sumN_congr fun i' _ => upto_next (X := X) (i := i) (i' := i') hk hk', sumN_add]
  congr 1
  by_cases e : k' = k
  · rw [if_pos e]
    exact (sumN_congr fun i' _ => by simp [e]).trans (sumN_single hi (X i k))
  · rw [if_neg e]; exact sumN_zero fun i' _ => by simp [e]
theorem lift_next {i k : Nat} (hi : i < o.P) (hk : k < o.W) {j : Nat} (hj : j < o.mB) :
    setN (setN (setN (o.lift (o.upto X (i * o.W + k))) (i * o.W + k) (X i k)) (o.P * o.W + i) (o.row (o.upto X (i * o.W + k)) i + X i k)) (o.P * o.W + o.P + k) (o.col (o.upto X (i * o.W + k)) k + X i k) j = o.lift (o.upto X (i * o.W + k + 1)) j := by
  have hat := (at_grid hi hk).1
  unfold mB at hj
  by_cases h1 : j < o.P * o.W
  · obtain ⟨g1, g2, g3⟩ := of_grid h1
    rw [setN_ne (by omega), setN_ne (by omega), lift_pair h1, upto_next hk g2]
    by_cases e : j = i * o.W + k
    · subst e
      rw [setN_eq, (at_grid hi hk).2.1, (at_grid hi hk).2.2, if_pos ⟨rfl, rfl⟩]
      unfold upto; rw [if_neg (by omega)]; omega
    · rw [setN_ne e, lift_pair h1, if_neg (fun h => e (by rw [← g3, h.1, h.2]))]; omega
  · by_cases h2 : j < o.P * o.W + o.P
    · obtain ⟨i', rfl⟩ : ∃ i', j = o.P * o.W + i' := ⟨j - o.P * o.W, by omega⟩
      rw [setN_ne (by omega), lift_src (by omega), row_next hk]
      by_cases e : i' = i
      · subst e; rw [setN_eq, if_pos rfl]
      · rw [setN_ne (by omega), setN_ne (by omega), lift_src (by omega), if_neg e]; omega
    · obtain ⟨k', rfl⟩ : ∃ k', j = o.P * o.W + o.P + k' := ⟨j - o.P * o.W - o.P, by omega⟩
      rw [lift_snk, col_next hi hk (by omega)]
      by_cases e : k' = k
      · subst e; rw [setN_eq, if_pos rfl]
      · rw [setN_ne (by omega), setN_ne (by omega), setN_ne (by omega), lift_snk, if_neg e]; omega
theorem lift_zero {j : Nat} : o.lift (o.upto X 0) j = 0 := by
  have h : ∀ i k, o.upto X 0 i k = 0 := fun i k => by unfold upto; rw [if_neg (Nat.not_lt_zero _)]
  unfold lift
  split
  · exact h _ _
  · split
    · exact sumN_zero fun k _ => h _ k
    · exact sumN_zero fun i _ => h i _
theorem upto_all {i k : Nat} (hi : i < o.P) (hk : k < o.W) : o.upto X (o.P * o.W) i k = X i k := if_pos (at_grid hi hk).1
theorem lift_all {j : Nat} (hj : j < o.mB) : o.lift (o.upto X (o.P * o.W)) j = o.lift X j := by
  unfold mB at hj
  by_cases h1 : j < o.P * o.W
  · obtain ⟨g1, g2, _⟩ := of_grid h1
    rw [lift_pair h1, lift_pair h1, upto_all g1 g2]
  · by_cases h2 : j < o.P * o.W + o.P
    · obtain ⟨i', rfl⟩ : ∃ i', j = o.P * o.W + i' := ⟨j - o.P * o.W, by omega⟩
      rw [lift_src (by omega), lift_src (by omega), row_congr (fun i k hi hk => upto_all hi hk) (show i' < o.P by omega)]
    · obtain ⟨k', rfl⟩ : ∃ k', j = o.P * o.W + o.P + k' := ⟨j - o.P * o.W - o.P, by omega⟩
      rw [lift_snk, lift_snk, col_congr (fun i k hi hk => upto_all hi hk) (show k' < o.W by omega)]
/-- The checks of Carried are those of a plan that is let in. -/
theorem adm_of (h1 : ∀ i k, i < o.P → k < o.W → 0 ≤ X i k ∧ X i k ≤ (o.arcB (i * o.W + k)).f2) (h2 : ∀ j, j < o.mB → o.lift X j ≤ (o.arcB j).f2) : o.Adm X where
  nn i k hi hk := (h1 i k hi hk).1
  un i k hi hk hs := by
    have := h1 i k hi hk
    rw [arcB_at hi hk, hs] at this
    simp at this; omega
  row i hi := by have := h2 (o.P * o.W + i) (by unfold mB; omega); rw [lift_src hi, arcB_src hi] at this; exact this
  col k hk := by have := h2 (o.P * o.W + o.P + k) (by unfold mB; omega); rw [lift_snk, arcB_snk] at this; exact this
theorem Adm.cap (h : o.Adm X) {i k : Nat} (hi : i < o.P) (hk : k < o.W) : 0 ≤ X i k ∧ X i k ≤ (o.arcB (i * o.W + k)).f2 := by
  refine ⟨h.nn i k hi hk, ?_⟩
  rw [arcB_at hi hk]
  cases hs : o.suit i k with
  | false => rw [h.un i k hi hk hs]; simp
  | true => have := h.le hi hk; simp only [if_true]; omega
theorem Adm.lift_le (h : o.Adm X) {j : Nat} (hj : j < o.mB) : o.lift X j ≤ (o.arcB j).f2 := by
  unfold mB at hj
  by_cases h1 : j < o.P * o.W
  · obtain ⟨g1, g2, g3⟩ := of_grid h1
    have := (h.cap g1 g2).2
    rw [g3] at this
    rw [lift_pair h1]; exact this
  · by_cases h2 : j < o.P * o.W + o.P
    · obtain ⟨i', rfl⟩ : ∃ i', j = o.P * o.W + i' := ⟨j - o.P * o.W, by omega⟩
      rw [lift_src (by omega), arcB_src (by omega)]; exact h.row i' (by omega)
    · obtain ⟨k', rfl⟩ : ∃ k', j = o.P * o.W + o.P + k' := ⟨j - o.P * o.W - o.P, by omega⟩
      rw [lift_snk, arcB_snk]; exact h.col k' (by omega)
end Ord
theorem sumN_box {n : Nat} {f : Nat → Int} {B : Int} (h : ∀ i, i < n → 0 ≤ f i ∧ f i ≤ B) : 0 ≤ sumN n f ∧ sumN n f ≤ n * B := by
  refine ⟨sumN_nonneg fun i hi => (h i hi).1, ?_⟩
  have h2 : sumN n (fun _ => B) = n * B := by
    clear h
    induction n with
    | zero => simp [sumN]
    | succ n ih =>
      show sumN n (fun _ => B) + B = _
      rw [ih, Int.natCast_succ, Int.add_mul, Int.one_mul]
  rw [← h2]
  exact sumN_le fun i hi => (h i hi).2
/-- Rows as a plan. -/
def planR (rows : List (List Int)) : Plan := fun i k => (rows.getD i []).getD k 0
abbrev kRow : Kd (List Int) := Kd.slice 3 (Kd.int .i64)
theorem row_at {w : World} {A : Option Addr} {rows : List (List Int)} {n : Nat} (h : Kd.C kRow w A n rows) {i : Nat} {r : List Int} (hr : rows[i]? = some r) :
    ∃ ad B c, A = some ad ∧ w.cell? (ad.add i) = some (.slice B r.length c) ∧ r.length ≤ c ∧ Kd.C (Kd.int .i64) w B r.length r := by
  have hi := (List.getElem?_eq_some_iff.1 hr).1
  obtain ⟨ad, e, hc⟩ := h.2.2 (by have := h.1; omega)
  obtain ⟨cs, hl, ⟨B, c, rfl, hle, hC⟩, hcell⟩ := hc i r hr
  have := hcell 0 _ rfl
  rw [show i * kRow.sz + 0 = i from by show i * 1 + 0 = i; omega] at this
  exact ⟨ad, B, c, e, this, hle, hC⟩
/-- What Carried lets in. -/
def CarOk (o : Ord) (rows : List (List Int)) : Prop := rows.length = o.P ∧ (∀ r ∈ rows, r.length = o.W) ∧ o.Adm (planR rows)
def CarPost (o : Ord) (rows : List (List Int)) (w : World) (e : Ending) (w' : World) : Prop :=
  ((∃ b, e = .returned (.tuple #[.slice (some ⟨b, 0, none⟩) o.mB o.mB, .bool true]) ∧ CarOk o rows ∧ TI w' b o.mB (o.lift (planR rows)) ∧ w.heap.size ≤ b) ∨
   (e = .returned (.tuple #[.slice none 0 0, .bool false]) ∧ ¬ CarOk o rows)) ∧ Below w.heap.size w w'
set_option maxRecDepth 100000 in
set_option maxHeartbeats 8000000 in
theorem carried_any (w : World) (o : Ord) (ho : o.Ok) (A1 : Option Addr) (c1 : Nat) (A2 : Option Addr) (c2 : Nat) (A3 : Option Addr) (c3 : Nat) (h3 : Kd.C k44 w A3 o.mB (netB o o.mB)) (A4 : Option Addr) (c4 : Nat) (rows : List (List Int)) (h4 : Kd.C kRow w A4 rows.length rows) :
    Calls Try.prog 45 #[.slice A1 o.P c1, .slice A2 o.W c2, .slice A3 o.mB c3, .slice A4 rows.length c4] w (CarPost o rows w) := by
  have HO := Lib.hid ho
  have HP : Hid (o.P ≤ 12 ∧ o.W ≤ 12 ∧ o.P * o.W ≤ 144 ∧ o.mB = o.P * o.W + o.P + o.W ∧ o.mB ≤ 168) := Lib.hid (by
    have h1 := ho.p1
    have h2 := ho.w1
    have h3 : o.P * o.W ≤ 144 := Nat.mul_le_mul h1 h2
    exact ⟨h1, h2, h3, rfl, by unfold Ord.mB; omega⟩)
  have H3 := Lib.hid h3
  have H4 := Lib.hid h4
  clear ho h3 h4
  go_enter Try.func45, Try.ntmps45
  by_cases hl : rows.length = o.P
  · have e1 : ((rows.length : Int) != (o.P : Int)) = false := by simp [hl]
    have HL := Lib.hid hl
    have hmk := make_int w (n := o.mB) (by have := HP.out; omega)
    have HT1 : Hid (TI (w.alloc (.cells (madeCells #[.int .i64 0] o.mB) 3 (0, 0))) w.heap.size o.mB (o.lift (o.upto (planR rows) 0))) := Lib.hid ((TV.made w (.int .i64 0) 3 o.mB).congr fun i _ => by rw [Ord.lift_zero])
    have HF1 : Hid (Fr (fun b => b = w.heap.size) w (w.alloc (.cells (madeCells #[.int .i64 0] o.mB) 3 (0, 0)))) := Lib.hid ((Fr.refl _ w).alloc _)
    clear hl
    go_wp2_with fail
    generalize w.alloc (.cells (madeCells #[.int .i64 0] o.mB) 3 (0, 0)) = w1 at *
    obtain ⟨ob, hob⟩ : ∃ ob, ob = w.heap.size := ⟨_, rfl⟩
    have HOB := Lib.hid hob
    rw [← hob] at HT1 HF1 ⊢
    clear hob hmk
    have HBW : Hid (∀ W, Fr (fun b => b = ob) w W → Below w.heap.size w W) := Lib.hid (fun W hW => hW.to_below (Nat.le_refl _) (fun b hb => by have := HOB.out; omega))
    go_loopg [11, 12, 13] o.P (fun kk v11 v12 v13 wr => ∃ i a : Nat, v12 = .int .i64 i ∧ v11 = .int .i64 a ∧ Hid (a = i * o.W) ∧ Hid (i + kk = o.P) ∧ Hid (TI wr ob o.mB (o.lift (o.upto (planR rows) (i * o.W)))) ∧ Hid (∀ j r, j < i → rows[j]? = some r → r.length = o.W) ∧ Hid (∀ j k, j < i → k < o.W → 0 ≤ planR rows j k ∧ planR rows j k ≤ (o.arcB (j * o.W + k)).f2) ∧ Hid (Fr (fun b => b = ob) w wr))
    case atStart => exact ⟨0, 0, rfl, rfl, Lib.hid (by rw [Nat.zero_mul]), Lib.hid (by omega), Lib.hid (by rw [Nat.zero_mul]; exact HT1.out), Lib.hid (fun j r hj => absurd hj (Nat.not_lt_zero _)), Lib.hid (fun j k hj => absurd hj (Nat.not_lt_zero _)), HF1⟩
    case round =>
      clear HT1 HF1
      obtain ⟨i, a, rfl, rfl, HA, HI, HT, HRL, HAD, HF⟩ := hrel
      obtain ⟨wv, rfl⟩ : ∃ wv : World, wv = wr := ⟨_, rfl⟩
      by_cases hlt : i < rows.length
      · have hi0 : (i : Int) < rows.length := by omega
        have hiz : (0 : Int) ≤ i := by omega
        obtain ⟨r, hr⟩ : ∃ r, rows[i]? = some r := ⟨_, List.getElem?_eq_getElem hlt⟩
        obtain ⟨ad, B, cB, rfl, x0w, hle, hCw⟩ := row_at H4.out hr
        have x0 := (Fr.of_below (HBW.out wv HF.out) (fun _ => False)).cell x0w (fun a => a)
        have HX0 := Lib.hid x0w
        have HCW := Lib.hid hCw
        clear x0w hCw hle
        have hw : IntKind.i64.wrap ((i : Int) + 1) = i + 1 := IntWalk.i64_in _ (by have := HL.out; have := HP.out; omega)
        have HLT := Lib.hid hlt
        have HRI := Lib.hid hr
        by_cases hrw : r.length = o.W
        · have e2 : ((r.length : Int) != (o.W : Int)) = false := by simp [hrw]
          have HRW := Lib.hid hrw
          have HPL : Hid (∀ k, k < o.W → planR rows i k = r.getD k 0) := Lib.hid (fun k _ => by unfold planR; rw [List.getD_eq_getElem?_getD (l := rows), HRI.out]; rfl)
          obtain ⟨M, hM⟩ : ∃ M, M = o.P * o.W := ⟨_, rfl⟩
          have HM := Lib.hid hM
          have hwm : IntKind.i64.wrap ((o.P : Int) * (o.W : Int)) = (M : Int) := by
            rw [show (o.P : Int) * (o.W : Int) = (M : Int) by rw [hM, Int.natCast_mul]]
            exact IntWalk.i64_in _ (by have := HP.out; omega)
          obtain ⟨mi, hmi⟩ : ∃ mi, mi = M + i := ⟨_, rfl⟩
          obtain ⟨mp, hmp⟩ : ∃ mp, mp = M + o.P := ⟨_, rfl⟩
          have hwmi : IntKind.i64.wrap ((M : Int) + i) = (mi : Int) := by
            rw [show (M : Int) + i = (mi : Int) by omega]
            exact IntWalk.i64_in _ (by have := HP.out; have := HL.out; omega)
          have hwmp : IntKind.i64.wrap ((M : Int) + o.P) = (mp : Int) := by
            rw [show (M : Int) + o.P = (mp : Int) by omega]
            exact IntWalk.i64_in _ (by have := HP.out; omega)
          have HMI := Lib.hid (And.intro hmi hmp)
          have mi0 : (0 : Int) ≤ mi := by omega
          have mi1 : (mi : Int) < o.mB := by have := HP.out; have := HL.out; omega
          clear hrw hlt hr hM hmi hmp
          go_wp2_with fail
          clear x0
          go_loopg [11, 13] o.W (fun kk v11 v13 wr => ∃ k a : Nat, v13 = .int .i64 k ∧ v11 = .int .i64 a ∧ Hid (a = i * o.W + k) ∧ Hid (k + kk = o.W) ∧ Hid (TI wr ob o.mB (o.lift (o.upto (planR rows) (i * o.W + k)))) ∧ Hid (∀ j, j < k → 0 ≤ planR rows i j ∧ planR rows i j ≤ (o.arcB (i * o.W + j)).f2) ∧ Hid (Fr (fun b => b = ob) w wr))
          case atStart => exact ⟨0, a, rfl, rfl, HA, Lib.hid (by omega), HT, Lib.hid (fun j hj => absurd hj (Nat.not_lt_zero _)), HF⟩
          case round =>
            clear HT HF HA
            obtain ⟨k, a, rfl, rfl, HA, HK, HT, HAK, HF⟩ := hrel
            obtain ⟨wv, rfl⟩ : ∃ wv : World, wv = wr := ⟨_, rfl⟩
            have x0 := (Fr.of_below (HBW.out wv HF.out) (fun _ => False)).cell HX0.out (fun a => a)
            by_cases hlk : k < o.W
            · have hkr : (k : Int) < r.length := by have := HRW.out; omega
              have hkz : (0 : Int) ≤ k := by omega
              have hwk : IntKind.i64.wrap ((k : Int) + 1) = k + 1 := IntWalk.i64_in _ (by have := HP.out; omega)
              obtain ⟨bd, rfl, y0w⟩ := Kd.at_int HCW.out (k : Int) hkz hkr
              have ey : rd r (k : Int) = r.getD k 0 := by unfold rd; rw [Int.toNat_natCast]
              rw [ey, Int.toNat_natCast] at y0w
              have hga := Ord.at_grid (P := o.P) (W := o.W) (i := i) (by have := HLT.out; have := HL.out; omega) hlk
              have ha1 : a < o.mB := by have := HA.out; have := HP.out; omega
              have hai : (a : Int) < o.mB := by omega
              have haz : (0 : Int) ≤ a := by omega
              obtain ⟨cd, rfl, z0, z1, z2w, z3⟩ := at_T44 H3.out (a : Int) haz hai
              have hnb : (netB o o.mB)[a]? = some (o.arcB a) := by unfold netB; rw [List.getElem?_map, List.getElem?_range ha1]; rfl
              rw [rd44 hnb, Int.toNat_natCast] at z2w
              have HPK := Lib.hid (HPL.out k hlk)
              have HLK := Lib.hid hlk
              have HGA := Lib.hid hga
              have hwa : IntKind.i64.wrap ((a : Int) + 1) = a + 1 := IntWalk.i64_in _ (by have := HP.out; omega)
              clear ey hga hnb z0 z1 z3 hlk
              generalize hx : r.getD k 0 = x at *
              have HX := Lib.hid hx
              clear hx
              have hcp : (o.arcB a).f2 = (o.arcB (i * o.W + k)).f2 := by rw [HA.out]
              generalize hcap : (o.arcB a).f2 = cap at *
              have HCP := Lib.hid hcp
              clear hcp hcap
              have HROW : Hid (∀ W, Fr (fun b => b = ob) w W → W.cell? (ad.add i) = some (.slice (some bd) r.length cB) ∧ W.cell? (bd.add k) = some (.int .i64 x) ∧ W.cell? ⟨(cd.add (a * 4)).block, (cd.add (a * 4)).off + 2, none⟩ = some (.int .i64 cap)) := Lib.hid (fun W hW => by
                have f := Fr.of_below (HBW.out W hW) (fun _ => False)
                exact ⟨f.cell HX0.out (fun a => a), f.cell y0w (fun a => a), f.cell z2w (fun a => a)⟩)
              clear y0w z2w x0
              obtain ⟨x0, y0, z2⟩ := HROW.out wv HF.out
              by_cases hneg : x < 0
              · have e3 : decide (x < 0) = true := decide_eq_true hneg
                have HNO : Hid (¬ CarOk o rows) := Lib.hid (fun h => by
                  have := (h.2.2.cap (i := i) (k := k) (by have := HLT.out; have := HL.out; omega) HLK.out).1
                  rw [HPK.out] at this; omega)
                clear hneg
                go_upto_region 13 with (fail)
                go_quiet (fail)
                go_wp2_with fail
                go_ret2
                exact ⟨.inr ⟨rfl, HNO.out⟩, HBW.out _ (HF.out.drewN nq)⟩
              · have e3 : decide (x < 0) = false := decide_eq_false hneg
                by_cases hbig : cap < x
                · have e4 : decide (cap < x) = true := decide_eq_true hbig
                  have HNO : Hid (¬ CarOk o rows) := Lib.hid (fun h => by
                    have := (h.2.2.cap (i := i) (k := k) (by have := HLT.out; have := HL.out; omega) HLK.out).2
                    rw [HPK.out, ← HCP.out] at this; omega)
                  clear hneg hbig
                  go_upto_region 13 with (fail)
                  go_quiet (fail)
                  go_wp2_with fail
                  go_ret2
                  exact ⟨.inr ⟨rfl, HNO.out⟩, HBW.out _ (HF.out.drewN nq)⟩
                · have e4 : decide (cap < x) = false := decide_eq_false hbig
                  have HXB : Hid (0 ≤ x ∧ x ≤ cap) := Lib.hid ⟨by omega, by omega⟩
                  clear hneg hbig
                  go_upto_region 13 with (fail)
                  go_quiet (fail)
                  have HFq : Hid (Fr (fun b => b = ob) w (wv.drewN nq)) := Lib.hid (HF.out.drewN nq)
                  have HTq : Hid (TI (wv.drewN nq) ob o.mB (o.lift (o.upto (planR rows) (i * o.W + k)))) := Lib.hid HT.out
                  generalize wv.drewN nq = wq at *
                  clear x0 y0 z2
                  obtain ⟨x0, y0, z2⟩ := HROW.out wq HFq.out
                  have q0 := TV.cell HTq.out ha1
                  have q1 := TV.free HTq.out a
                  clear z2
                  go_upto_region 16 with (fail)
                  have ha5 : a ≠ mi := by have := HA.out; have := HGA.out.1; have := HMI.out; have := HM.out; omega
                  obtain ⟨mk, hmk⟩ : ∃ mk, mk = mp + k := ⟨_, rfl⟩
                  have HMK := Lib.hid hmk
                  have hwmk : IntKind.i64.wrap ((mp : Int) + k) = (mk : Int) := by
                    rw [show (mp : Int) + k = (mk : Int) by omega]
                    exact IntWalk.i64_in _ (by have := HP.out; have := HMI.out; have := HM.out; have := HLK.out; omega)
                  have mk0 : (0 : Int) ≤ mk := by omega
                  have mk1 : (mk : Int) < o.mB := by have := HP.out; have := HMI.out; have := HM.out; have := HLK.out; omega
                  have hcapB := (Ord.ok_B HO.out).cap
                  have hXB : ∀ j k', j < i ∨ (j = i ∧ k' < k) → j < o.P → k' < o.W → 0 ≤ planR rows j k' ∧ planR rows j k' ≤ 1099511627776 := fun j k' hjk hj hk' => by
                    have h5 : j * o.W + k' < o.mB := by have := (Ord.at_grid hj hk').1; have := HP.out; omega
                    have h6 := hcapB _ h5
                    rcases hjk with h | ⟨rfl, h⟩
                    · have := HAD.out j k' h hk'; omega
                    · have := HAK.out k' h; omega
                  have hiP : i < o.P := by have := HLT.out; have := HL.out; omega
                  have hr0 : 0 ≤ o.row (o.upto (planR rows) (i * o.W + k)) i ∧ o.row (o.upto (planR rows) (i * o.W + k)) i ≤ o.W * 1099511627776 := sumN_box fun k' hk' => by
                    unfold Ord.upto
                    split
                    · exact hXB i k' (.inr ⟨rfl, by omega⟩) hiP hk'
                    · exact ⟨Int.le_refl _, by decide⟩
                  have hc0 : 0 ≤ o.col (o.upto (planR rows) (i * o.W + k)) k ∧ o.col (o.upto (planR rows) (i * o.W + k)) k ≤ o.P * 1099511627776 := sumN_box fun j hj => by
                    unfold Ord.upto
                    split
                    · rename_i hlt2
                      by_cases hji : j < i
                      · exact hXB j k (.inl hji) hj HLK.out
                      · exfalso
                        have : i * o.W ≤ j * o.W := Nat.mul_le_mul_right _ (by omega)
                        omega
                    · exact ⟨Int.le_refl _, by decide⟩
                  have hxb := hcapB a ha1
                  have hx6 : x ≤ 1099511627776 := by have h7 := HXB.out; have h8 := HCP.out; rw [HA.out] at hxb; omega
                  have HLN : Hid (∀ j, j < o.mB → setN (setN (setN (o.lift (o.upto (planR rows) (i * o.W + k))) a x) mi (o.row (o.upto (planR rows) (i * o.W + k)) i + x)) mk (o.col (o.upto (planR rows) (i * o.W + k)) k + x) j = o.lift (o.upto (planR rows) (i * o.W + (k + 1))) j) := Lib.hid (fun j hj => by
                    have h9 := Ord.lift_next (o := o) (X := planR rows) hiP HLK.out hj
                    rw [HPK.out] at h9
                    rw [HA.out, HMK.out, HMI.out.1, HMI.out.2, HM.out, ← Nat.add_assoc]
                    exact h9)
                  have hl1 : o.lift (o.upto (planR rows) (i * o.W + k)) mi = o.row (o.upto (planR rows) (i * o.W + k)) i := by rw [HMI.out.1, HM.out]; exact Ord.lift_src hiP
                  have hl2 : o.lift (o.upto (planR rows) (i * o.W + k)) mk = o.col (o.upto (planR rows) (i * o.W + k)) k := by rw [HMK.out, HMI.out.2, HM.out]; exact Ord.lift_snk k
                  have hmk5 : mk ≠ a ∧ mk ≠ mi := by have := HA.out; have := HGA.out.1; have := HMI.out; have := HM.out; omega
                  generalize o.lift (o.upto (planR rows) (i * o.W + k)) = L at *
                  generalize o.row (o.upto (planR rows) (i * o.W + k)) i = r0 at *
                  generalize o.col (o.upto (planR rows) (i * o.W + k)) k = c0 at *
                  have hP12 := HP.out
                  have hwr : IntKind.i64.wrap (r0 + x) = r0 + x := IntWalk.i64_in _ (by have := HXB.out; omega)
                  have hwc : IntKind.i64.wrap (c0 + x) = c0 + x := IntWalk.i64_in _ (by have := HXB.out; omega)
                  have hT5 := TI.set HTq.out a x
                  have HF5 : Hid (Fr (fun b => b = ob) w (wq.setCell ⟨ob, a, none⟩ (.int .i64 x))) := Lib.hid (HFq.out.setCell (p := ⟨ob, a, none⟩) (.inl rfl) _)
                  have HT5 := Lib.hid hT5
                  have HHL := Lib.hid (And.intro hl1 (And.intro hl2 (And.intro ha5 hmk5)))
                  clear hr0 hc0 hxb hx6 hcapB hXB hl1 hl2 hmk5 ha5 hP12 hT5 hmk x0 y0 q0 q1 HTq HFq
                  generalize wq.setCell ⟨ob, a, none⟩ (.int .i64 x) = w5 at *
                  obtain ⟨x0, y0, _⟩ := HROW.out w5 HF5.out
                  have q0 : w5.cell? ⟨ob, mi, none⟩ = some (.int .i64 r0) := by
                    have h := TV.cell HT5.out (i := mi) (by omega)
                    rw [setN_ne (fun e => HHL.out.2.2.1 e.symm), HHL.out.1] at h
                    exact h
                  have q1 := TV.free HT5.out mi
                  go_cut [] (fun wx => wx = (w5.setCell ⟨ob, mi, none⟩ (.int .i64 (r0 + x))).drew)
                  case first =>
                    refine calm ?_
                    go_region_law (first | fail)
                    all_goals
                      simp only [Calm]
                      go_wp2_with fail
                      go_meet
                      rfl
                  case rest =>
                    have hwx := hcut.symm
                    have HT6 : Hid (TI ((w5.setCell ⟨ob, mi, none⟩ (.int .i64 (r0 + x))).drew) ob o.mB (setN (setN L a x) mi (r0 + x))) := Lib.hid (TI.set HT5.out mi (r0 + x))
                    have HF6 : Hid (Fr (fun b => b = ob) w ((w5.setCell ⟨ob, mi, none⟩ (.int .i64 (r0 + x))).drew)) := Lib.hid (HF5.out.setCell (p := ⟨ob, mi, none⟩) (.inl rfl) _).drew
                    clear q0 q1 x0 y0
                    generalize (w5.setCell ⟨ob, mi, none⟩ (.int .i64 (r0 + x))).drew = w6 at *
                    subst hwx
                    obtain ⟨x0, y0, _⟩ := HROW.out w6 HF6.out
                    have q0 : w6.cell? ⟨ob, mk, none⟩ = some (.int .i64 c0) := by
                      have h := TV.cell HT6.out (i := mk) (by omega)
                      rw [setN_ne HHL.out.2.2.2.2, setN_ne HHL.out.2.2.2.1, HHL.out.2.1] at h
                      exact h
                    have q1 := TV.free HT6.out mk
                    go_upto_region 17 with (fail)
                    go_cut [] (fun wx => wx = (w6.setCell ⟨ob, mk, none⟩ (.int .i64 (c0 + x))).drew)
                    case first =>
                      refine calm ?_
                      go_region_law (first | fail)
                      all_goals
                        simp only [Calm]
                        go_wp2_with fail
                        go_meet
                        rfl
                    case rest =>
                      have hwy := hcut.symm
                      have HT7 : Hid (TI ((w6.setCell ⟨ob, mk, none⟩ (.int .i64 (c0 + x))).drew) ob o.mB (o.lift (o.upto (planR rows) (i * o.W + (k + 1))))) := Lib.hid ((TI.set HT6.out mk (c0 + x)).congr fun j hj => by rw [HLN.out j hj])
                      have HF7 : Hid (Fr (fun b => b = ob) w ((w6.setCell ⟨ob, mk, none⟩ (.int .i64 (c0 + x))).drew)) := Lib.hid (HF6.out.setCell (p := ⟨ob, mk, none⟩) (.inl rfl) _).drew
                      clear q0 q1 x0 y0
                      generalize (w6.setCell ⟨ob, mk, none⟩ (.int .i64 (c0 + x))).drew = w7 at *
                      subst hwy
                      go_wp2_with fail
                      go_roundg (o.W - (k + 1))
                      case measure => have := HK.out; have := HLK.out; omega
                      case rel => exact ⟨k + 1, a + 1, by go_num, by go_num, Lib.hid (by have := HA.out; omega), Lib.hid (by have := HK.out; have := HLK.out; omega), HT7, Lib.hid (fun j hj => by
                        by_cases e : j = k
                        · subst e; rw [HPK.out, ← HCP.out]; exact HXB.out
                        · exact HAK.out j (by omega)), HF7⟩
            · have hnk : ¬ (k : Int) < r.length := by have := HRW.out; omega
              obtain rfl : k = o.W := by have := HK.out; omega
              clear hlk
              go_wp2_with fail
              go_roundg (o.P - (i + 1))
              case measure => have := HI.out; have := HLT.out; have := HL.out; omega
              case rel => exact ⟨i + 1, a, by go_num, rfl, Lib.hid (by rw [Nat.succ_mul]; exact HA.out), Lib.hid (by have := HI.out; have := HLT.out; have := HL.out; omega), Lib.hid (by rw [Nat.succ_mul]; exact HT.out), Lib.hid (fun j r' hj hr' => by
                by_cases e : j = i
                · subst e; rw [HRI.out] at hr'; rw [← Option.some.inj hr']; exact HRW.out
                · exact HRL.out j r' (by omega) hr'), Lib.hid (fun j k' hj hk' => by
                by_cases e : j = i
                · subst e; exact HAK.out k' hk'
                · exact HAD.out j k' (by omega) hk'), HF⟩
        · have e2 : ((r.length : Int) != (o.W : Int)) = true := by simp; omega
          have HNO : Hid (¬ CarOk o rows) := Lib.hid (fun h => hrw (h.2.1 r (List.mem_of_getElem? HRI.out)))
          have HB : Hid (Below w.heap.size w wv) := Lib.hid (HF.out.to_below (Nat.le_refl _) (fun b hb => by have := HOB.out; omega))
          clear hrw hlt hr
          go_wp2_with fail
          go_ret2
          exact ⟨.inr ⟨rfl, HNO.out⟩, HB.out⟩
      · have hni : ¬ (i : Int) < rows.length := by omega
        obtain rfl : i = o.P := by have := HI.out; have := HL.out; omega
        have HTA : Hid (TI wv ob o.mB (o.lift (planR rows))) := Lib.hid (HT.out.congr fun j hj => by rw [Ord.lift_all hj])
        have HMB : Hid (o.mB ≤ 168) := Lib.hid HP.out.2.2.2.2
        clear hlt HI HT
        go_wp2_with fail
        go_loopg [14] o.mB (fun kk v14 wr => ∃ j : Nat, v14 = .int .i64 j ∧ Hid (j + kk = o.mB) ∧ Hid (∀ j', j' < j → o.lift (planR rows) j' ≤ (o.arcB j').f2) ∧ Hid (TI wr ob o.mB (o.lift (planR rows))) ∧ Hid (Fr (fun b => b = ob) w wr))
        case atStart => exact ⟨0, rfl, Lib.hid (by omega), Lib.hid (fun j hj => absurd hj (Nat.not_lt_zero _)), HTA, HF⟩
        case round =>
          clear HTA HF hni
          obtain ⟨j, rfl, HJ, HLE, HT, HF⟩ := hrel
          obtain ⟨wv, rfl⟩ : ∃ wv : World, wv = wr := ⟨_, rfl⟩
          by_cases hlj : j < o.mB
          · have hj0 : (j : Int) < o.mB := by omega
            have hjz : (0 : Int) ≤ j := by omega
            have hw : IntKind.i64.wrap ((j : Int) + 1) = j + 1 := IntWalk.i64_in _ (by have := HMB.out; omega)
            obtain ⟨cd, rfl, z0, z1, z2w, z3⟩ := at_T44 H3.out (j : Int) hjz hj0
            have hnb : (netB o o.mB)[j]? = some (o.arcB j) := by unfold netB; rw [List.getElem?_map, List.getElem?_range hlj]; rfl
            rw [rd44 hnb, Int.toNat_natCast] at z2w
            have z2 := (Fr.of_below (HBW.out wv HF.out) (fun _ => False)).cell z2w (fun a => a)
            have q0 := TV.cell HT.out hlj
            have HLJ := Lib.hid hlj
            clear z0 z1 z3 z2w hnb hlj
            generalize hx : o.lift (planR rows) j = x at *
            have HX := Lib.hid hx
            clear hx
            generalize hc : (o.arcB j).f2 = cap at *
            have HC := Lib.hid hc
            clear hc
            by_cases hbig : cap < x
            · have e4 : decide (cap < x) = true := decide_eq_true hbig
              have HNO : Hid (¬ CarOk o rows) := Lib.hid (fun h => by
                have := h.2.2.lift_le HLJ.out
                rw [HX.out, HC.out] at this; omega)
              clear hbig
              go_upto_region 22 with (fail)
              go_quiet (fail)
              go_wp2_with fail
              go_ret2
              exact ⟨.inr ⟨rfl, HNO.out⟩, HBW.out _ (HF.out.drewN nq)⟩
            · have e4 : decide (cap < x) = false := decide_eq_false hbig
              have HLE2 : Hid (∀ j', j' < j + 1 → o.lift (planR rows) j' ≤ (o.arcB j').f2) := Lib.hid (fun j' hj' => by
                by_cases e : j' = j
                · subst e; rw [HX.out, HC.out]; omega
                · exact HLE.out j' (by omega))
              clear hbig
              go_upto_region 22 with (fail)
              go_quiet (fail)
              go_wp2_with fail
              go_roundg (o.mB - (j + 1))
              case measure => have := HJ.out; have := HLJ.out; omega
              case rel => exact ⟨j + 1, by go_num, Lib.hid (by have := HJ.out; have := HLJ.out; omega), HLE2, Lib.hid (show TI (wv.drewN nq) ob o.mB (o.lift (planR rows)) from HT.out), Lib.hid (HF.out.drewN nq)⟩
          · have hnj : ¬ (j : Int) < o.mB := by omega
            have HCO : Hid (CarOk o rows) := Lib.hid ⟨HL.out, fun r hr => by
              obtain ⟨i, hi⟩ := List.getElem?_of_mem hr
              exact HRL.out i r (by have := (List.getElem?_eq_some_iff.1 hi).1; have := HL.out; omega) hi, Ord.adm_of (fun i k hi hk => HAD.out i k hi hk) (fun j' hj' => HLE.out j' (by have := HJ.out; omega))⟩
            clear hlj
            go_wp2_with fail
            go_ret2
            exact ⟨.inl ⟨ob, rfl, HCO.out, HT.out, by rw [HOB.out]; exact Nat.le_refl _⟩, HBW.out _ HF.out⟩
  · have e1 : ((rows.length : Int) != (o.P : Int)) = true := by simp; omega
    have HNO : Hid (¬ CarOk o rows) := Lib.hid (fun h => hl h.1)
    clear hl
    go_wp2_with fail
    go_ret2
    exact ⟨.inr ⟨rfl, HNO.out⟩, Below.refl _ _⟩
end Go.Proofs.Ytpbndcmmclkdpaa
