/-
  The walk of alive.
  The small functions of the laws: few, paths, copied, kept.
-/
import Derived.Test.YtpbndcmmclkdpaaZGQe
import Derived.Test.YtpbndcmmclkdpaaZGQb
namespace Go.Proofs.Ytpbndcmmclkdpaa
open PFlowSolves
open Go.RowKit Go.Proofs.YtpbndcmmclkdpaaW.PrintWords
theorem TI_C {w : World} {b n : Nat} {f : Nat → Int} (h : TI w b n f) (xs : List Int) (hl : xs.length = n) (hn : n ≤ 100000) (hf : ∀ i, i < n → f i = xs.getD i 0) : Kd.C (Kd.int .i64) w (some ⟨b, 0, none⟩) xs.length xs := by
  refine ⟨rfl, by omega, fun _ => ⟨_, rfl, fun j p hp => ?_⟩⟩
  have hj := (List.getElem?_eq_some_iff.1 hp).1
  have c0 := TV.cell h (i := j) (by omega)
  have e : f j = p := by rw [hf j (by omega), List.getD_eq_getElem?_getD, hp]; rfl
  rw [e] at c0
  refine ⟨[.int .i64 p], rfl, rfl, fun i u hu => ?_⟩
  have hs : (Kd.int .i64).sz = 1 := rfl
  rw [hs, add_own]
  match i, hu with
  | 0, hu =>
    have hu : some (Value.int .i64 p) = some u := hu
    rw [← hu, Nat.mul_one, Nat.add_zero]; exact c0
  | i + 1, hu => simp at hu
theorem TA_C {w : World} {b : Nat} {l : List Ar} (h : TA w b l.length (arcF l)) (hn : l.length ≤ 100000) : Kd.C k44 w (some ⟨b, 0, none⟩) l.length l := by
  refine ⟨rfl, by omega, fun _ => ⟨_, rfl, fun j p hp => ?_⟩⟩
  have hj := (List.getElem?_eq_some_iff.1 hp).1
  obtain ⟨c0, c1, c2, c3⟩ := TA.cells h hj
  have e : arcF l j = p := by unfold arcF; rw [List.getD_eq_getElem?_getD, hp]; rfl
  rw [e] at c0 c1 c2 c3
  refine ⟨[.int .i64 p.f0, .int .i64 p.f1, .int .i64 p.f2, .int .i64 p.f3], rfl, k44_mk w p, fun i u hu => ?_⟩
  have hs : k44.sz = 4 := rfl
  rw [hs, add_own]
  match i, hu with
  | 0, hu =>
    have hu : some (Value.int .i64 p.f0) = some u := hu
    rw [← hu]; exact c0
  | 1, hu =>
    have hu : some (Value.int .i64 p.f1) = some u := hu
    rw [← hu]; exact c1
  | 2, hu =>
    have hu : some (Value.int .i64 p.f2) = some u := hu
    rw [← hu]; exact c2
  | 3, hu =>
    have hu : some (Value.int .i64 p.f3) = some u := hu
    rw [← hu]; exact c3
  | i + 4, hu => simp at hu
def l3 : List Ar := [⟨0, 1, 4, 1⟩, ⟨1, 2, 3, 1⟩, ⟨0, 2, 5, 3⟩]
theorem alive_need : needE 3 l3 [6, 0, -6] = 0 := by decide
theorem alive_need2 : needE 3 l3 [9, 0, -9] = 0 := by decide
theorem alive_ok : NetOk 3 3 (arcF l3) := netE_ok (n := 3) (l := l3) (by decide)
theorem alive_bal (x : Nat → Int) : balF 3 (arcF l3) x 0 = x 0 + x 2 ∧ balF 3 (arcF l3) x 1 = x 1 - x 0 ∧ balF 3 (arcF l3) x 2 = - x 1 - x 2 := by
  refine ⟨?_, ?_, ?_⟩ <;> simp [balF, sumN, arcF, l3] <;> omega
theorem alive_cost (x : Nat → Int) : costF 3 (arcF l3) x = x 0 + x 1 + 3 * x 2 := by simp [costF, sumN, arcF, l3]
theorem alive_y : Valid 3 (arcF l3) (fun _ => 3) ∧ ∀ v : Nat, v < 3 → balF 3 (arcF l3) (fun _ => 3) v = [(6 : Int), 0, -6].getD v 0 := by
  refine ⟨fun i hi => ?_, fun v hv => ?_⟩
  · match i, hi with
    | 0, _ => decide
    | 1, _ => decide
    | 2, _ => decide
  · match v, hv with
    | 0, _ => decide
    | 1, _ => decide
    | 2, _ => decide
theorem alive_x {x : Nat → Int} {p : Int → Int} (hx : Valid 3 (arcF l3) x) (hp : Feas 3 (arcF l3) x p) (hb : ∀ v : Nat, v < 3 → balF 3 (arcF l3) x v = [(6 : Int), 0, -6].getD v 0) : costF 3 (arcF l3) x = 15 ∧ ∀ i, i < 3 → x i = [(3 : Int), 3, 3].getD i 0 := by
  have h0 := opt_le alive_ok.net hx alive_y.1 (fun v hv => by rw [alive_y.2 v hv, hb v hv]) hp
  obtain ⟨b0, b1, b2⟩ := alive_bal x
  have e0 := hb 0 (by omega)
  have e1 := hb 1 (by omega)
  have e2 := hb 2 (by omega)
  have e0 : balF 3 (arcF l3) x 0 = 6 := e0
  have e1 : balF 3 (arcF l3) x 1 = 0 := e1
  have e2 : balF 3 (arcF l3) x 2 = -6 := e2
  rw [alive_cost, alive_cost] at h0
  have v1 : 0 ≤ x 1 ∧ x 1 ≤ 3 := hx 1 (by omega)
  rw [alive_cost]
  refine ⟨by omega, fun i hi => ?_⟩
  match i, hi with
  | 0, _ => show x 0 = 3; omega
  | 1, _ => show x 1 = 3; omega
  | 2, _ => show x 2 = 3; omega
theorem alive_exc (R : Int → Bool) : excF 3 3 (arcF l3) (fun v => [(9 : Int), 0, -9].getD v 0) R = (if R 0 then 9 else 0) - (if R 2 then 9 else 0) - (if R 0 && !R 1 then 4 else 0) - (if R 1 && !R 2 then 3 else 0) - (if R 0 && !R 2 then 5 else 0) := by
  unfold excF capOut
  simp [sumN, arcF, l3]
  cases R 0 <;> cases R 1 <;> cases R 2 <;> rfl
theorem alive_R {R : Int → Bool} (h : IsBlock 3 3 (arcF l3) (fun v => [(9 : Int), 0, -9].getD v 0) R) : setL R 3 = [0, 1] := by
  have h1 := h.most (fun v => decide (v < 2))
  rw [alive_exc, alive_exc] at h1
  have e : R 0 = true ∧ R 1 = true ∧ R 2 = false := by
    revert h1
    cases R 0 <;> cases R 1 <;> cases R 2 <;> decide
  obtain ⟨e0, e1, e2⟩ := e
  have e0' : R ((0 : Nat) : Int) = true := e0
  have e1' : R ((1 : Nat) : Int) = true := e1
  have e2' : R ((2 : Nat) : Int) = false := e2
  rw [setL_next, setL_next, setL_next, e0', e1', e2']
  rfl
theorem alive_solve (w : World) (ad bd : Addr) (h1 : Kd.C k44 w (some ad) l3.length l3) (h2 : Kd.C (Kd.int .i64) w (some bd) [(6 : Int), 0, -6].length [6, 0, -6]) :
    Calls Try.prog 21 #[.int .i64 3, .slice (some ad) 3 3, .slice (some bd) 3 3] w fun e w' => ∃ ga, (e = .returned (.tuple #[.agg #[.slice (some ⟨ga, 0, none⟩) 3 3, .int .i64 15], .int .i64 0]) ∧ Kd.C (Kd.int .i64) w' (some ⟨ga, 0, none⟩) [(3 : Int), 3, 3].length [3, 3, 3]) ∧ Below w.heap.size w w' := by
  refine (solve_any w 3 (some ad) 3 l3 h1 (Nat.le_refl _) (some bd) 3 [6, 0, -6] h2 (Nat.le_refl _)).mono ?_
  rintro e w' ⟨hpost, hb⟩
  rcases hpost with ⟨h, _⟩ | ⟨_, _, x, hc⟩ | ⟨_, ga, x, p, rfl, ht, _, hv, hf, _, hbal⟩
  · exact absurd alive_need h
  · exact (no_flow alive_ok hc alive_y.1 alive_y.2).elim
  · obtain ⟨e1, e2⟩ := alive_x hv hf hbal
    refine ⟨ga, ⟨?_, TI_C ht [3, 3, 3] rfl (show (3 : Nat) ≤ 100000 by omega) e2⟩, hb⟩
    show Ending.returned (.tuple #[.agg #[.slice (some ⟨ga, 0, none⟩) 3 3, .int .i64 (costF 3 (arcF l3) x)], .int .i64 0]) = _
    rw [e1]
theorem alive_block (w : World) (ad bd : Addr) (h1 : Kd.C k44 w (some ad) l3.length l3) (h2 : Kd.C (Kd.int .i64) w (some bd) [(9 : Int), 0, -9].length [9, 0, -9]) :
    Calls Try.prog 30 #[.int .i64 3, .slice (some ad) 3 3, .slice (some bd) 3 3] w fun e w' => ∃ A c, (e = .returned (.tuple #[.slice A 2 c, .int .i64 0]) ∧ Kd.C (Kd.int .i64) w' A [(0 : Int), 1].length [0, 1]) ∧ Below w.heap.size w w' := by
  refine (block_any w 3 (some ad) 3 l3 h1 (Nat.le_refl _) (some bd) 3 [9, 0, -9] h2 (Nat.le_refl _)).mono ?_
  rintro e w' ⟨hpost, hb⟩
  rcases hpost with ⟨h, _⟩ | ⟨_, v, R, rfl, hR, hI⟩
  · exact absurd alive_need2 h
  · have hI : IsBlock 3 3 (arcF l3) (fun v => [(9 : Int), 0, -9].getD v 0) R := hI
    have hs : setL R (3 : Int).toNat = [0, 1] := alive_R hI
    rw [hs] at hR
    obtain ⟨A, c, rfl, _, hC⟩ := Kd.R_reads hR
    exact ⟨A, c, ⟨rfl, hC⟩, hb⟩
theorem same_yes (w : World) (A : Option Addr) (c : Nat) (B : Option Addr) (d : Nat) (xs : List Int) (hA : Kd.C (Kd.int .i64) w A xs.length xs) (hB : Kd.C (Kd.int .i64) w B xs.length xs) (hl : xs.length ≤ 100000) :
    Calls Try.prog 24 #[.slice A xs.length c, .slice B xs.length d] w fun e w' => e = .returned (.bool true) ∧ Below w.heap.size w w' := by
  refine (same_any w A c xs B d xs hA hB hl).mono ?_
  rintro e w' ⟨rfl, hb⟩
  exact ⟨by rw [decide_eq_true rfl], hb⟩
theorem ints_C {w : World} {b : Nat} {xs : List Int} (h : Blk w b (xs.map (Value.int .i64)).toArray 3) (hn : xs.length ≤ 100000) : Kd.C (Kd.int .i64) w (some ⟨b, 0, none⟩) xs.length xs :=
  TI_C (f := fun i => xs.getD i 0) ⟨_, h, fun i hi => by
    rw [List.getElem?_toArray, List.getElem?_map, List.getElem?_eq_getElem hi]
    show some (Value.int .i64 xs[i]) = some (.int .i64 (xs.getD i 0))
    rw [List.getD_eq_getElem?_getD, List.getElem?_eq_getElem hi]
    rfl⟩ xs rfl hn (fun _ _ => rfl)
theorem l3_C {w : World} {b : Nat} (h : Blk w b #[.int .i64 0, .int .i64 1, .int .i64 4, .int .i64 1, .int .i64 1, .int .i64 2, .int .i64 3, .int .i64 1, .int .i64 0, .int .i64 2, .int .i64 5, .int .i64 3] 44) : Kd.C k44 w (some ⟨b, 0, none⟩) l3.length l3 :=
  TA_C ⟨_, h, fun v hv => by
    match v, hv with
    | 0, _ => exact ⟨rfl, rfl, rfl, rfl⟩
    | 1, _ => exact ⟨rfl, rfl, rfl, rfl⟩
    | 2, _ => exact ⟨rfl, rfl, rfl, rfl⟩⟩ (by decide)
set_option maxRecDepth 100000 in
set_option maxHeartbeats 4000000 in
theorem alive_any (w : World) : Calls Try.prog 18 #[] w fun e w' => e = .returned (.bool true) ∧ Below w.heap.size w w' := by
  have hal := below_alloc (Below.refl w.heap.size w) (.cells #[.int .i64 0, .int .i64 1, .int .i64 4, .int .i64 1, .int .i64 1, .int .i64 2, .int .i64 3, .int .i64 1, .int .i64 0, .int .i64 2, .int .i64 5, .int .i64 3] 44 (0, 0))
  have hA := Blk.new w #[.int .i64 0, .int .i64 1, .int .i64 4, .int .i64 1, .int .i64 1, .int .i64 2, .int .i64 3, .int .i64 1, .int .i64 0, .int .i64 2, .int .i64 5, .int .i64 3] 44
  go_enter Try.func18, Try.ntmps18
  go_upto_region 2 with (fail)
  generalize w.alloc (.cells #[.int .i64 0, .int .i64 1, .int .i64 4, .int .i64 1, .int .i64 1, .int .i64 2, .int .i64 3, .int .i64 1, .int .i64 0, .int .i64 2, .int .i64 5, .int .i64 3] 44 (0, 0)) = wa at *
  have HA := Lib.hid hA
  have HAL := Lib.hid hal
  have hC := Blk.new wa #[.int .i64 6, .int .i64 0, .int .i64 (-6)] 3
  have H1 := Lib.hid (alive_solve (wa.alloc (.cells #[.int .i64 6, .int .i64 0, .int .i64 (-6)] 3 (0, 0))) ⟨w.heap.size, 0, none⟩ ⟨wa.heap.size, 0, none⟩ (l3_C (hA.alloc _)) (ints_C hC (by decide)))
  have HB1 := Lib.hid (below_al hal (.cells #[.int .i64 6, .int .i64 0, .int .i64 (-6)] 3 (0, 0)))
  have HA1 := Lib.hid (hA.alloc (.cells #[.int .i64 6, .int .i64 0, .int .i64 (-6)] 3 (0, 0)))
  clear hal hA hC
  go_wp2_with fail
  refine H1.out.mono ?_
  rintro e w1 ⟨ga, ⟨rfl, hf⟩, hb1⟩
  have hA1 := HA1.out.fr (Fr.of_below hb1 (fun _ => False)) (fun a => a)
  have HB2 := Lib.hid (below_t HB1.out hb1)
  have HF := Lib.hid hf
  have HA2 := Lib.hid hA1
  clear hf hb1 hA1 H1 HB1 HA1 HA HAL
  go_upto_region 3 with (fail)
  have hF := Blk.new w1 #[.slice (some ⟨ga, 0, none⟩) 3 3, .int .i64 15] 29
  have HB3 := Lib.hid (below_al HB2.out (.cells #[.slice (some ⟨ga, 0, none⟩) 3 3, .int .i64 15] 29 (0, 0)))
  have HA3 := Lib.hid (HA2.out.alloc (.cells #[.slice (some ⟨ga, 0, none⟩) 3 3, .int .i64 15] 29 (0, 0)))
  have HF3 := Lib.hid (Kd.C_below HF.out (below_alloc (Below.refl w1.heap.size w1) (.cells #[.slice (some ⟨ga, 0, none⟩) 3 3, .int .i64 15] 29 (0, 0))))
  clear HB2 HA2 HF
  generalize w1.heap.size = bf at *
  generalize w1.alloc (.cells #[.slice (some ⟨ga, 0, none⟩) 3 3, .int .i64 15] 29 (0, 0)) = w2 at *
  have hD := Blk.new w2 #[.int .i64 9, .int .i64 0, .int .i64 (-9)] 3
  have H2 := Lib.hid (alive_block (w2.alloc (.cells #[.int .i64 9, .int .i64 0, .int .i64 (-9)] 3 (0, 0))) ⟨w.heap.size, 0, none⟩ ⟨w2.heap.size, 0, none⟩ (l3_C (HA3.out.alloc _)) (ints_C hD (by decide)))
  have hal2 := below_alloc (Below.refl w2.heap.size w2) (.cells #[.int .i64 9, .int .i64 0, .int .i64 (-9)] 3 (0, 0))
  have HAL2 := Lib.hid hal2
  have HFB := Lib.hid hF
  clear hD hal2 hF
  go_wp2_with fail
  refine H2.out.mono ?_
  rintro e w3 ⟨A, c, ⟨rfl, hg⟩, hb3⟩
  have hb23 := below_t HAL2.out hb3
  have hF3 := HFB.out.fr (Fr.of_below hb23 (fun _ => False)) (fun a => a)
  have f0 := Blk.cell hF3 0 (v := .slice (some ⟨ga, 0, none⟩) 3 3) rfl
  have f1 := Blk.cell hF3 1 (v := .int .i64 15) rfl
  have HG := Lib.hid hg
  have hC3 := Kd.C_below HF3.out hb23
  have hal3 := below_alloc (Below.refl w3.heap.size w3) (.cells #[.int .i64 3, .int .i64 3, .int .i64 3] 3 (0, 0))
  have H3 := Lib.hid (same_yes (w3.alloc (.cells #[.int .i64 3, .int .i64 3, .int .i64 3] 3 (0, 0))) (some ⟨ga, 0, none⟩) 3 (some ⟨w3.heap.size, 0, none⟩) 3 [3, 3, 3] (Kd.C_below hC3 hal3) (ints_C (Blk.new w3 _ 3) (by decide)) (by decide))
  have HAL3 := Lib.hid hal3
  have HB3 := Lib.hid (below_t HB3.out hb23)
  have HF4 := Lib.hid (hF3.alloc (.cells #[.int .i64 3, .int .i64 3, .int .i64 3] 3 (0, 0)))
  clear hg hb3 hb23 hF3 hC3 hal3 H2 HFB HAL2
  go_wp2_with fail
  refine H3.out.mono ?_
  rintro e w4 ⟨rfl, hb4⟩
  have hb34 := below_t HAL3.out hb4
  have hal4 := below_alloc (Below.refl w4.heap.size w4) (.cells #[.int .i64 0, .int .i64 1] 3 (0, 0))
  have H4 := Lib.hid (same_yes (w4.alloc (.cells #[.int .i64 0, .int .i64 1] 3 (0, 0))) A c (some ⟨w4.heap.size, 0, none⟩) 2 [0, 1] (Kd.C_below (Kd.C_below HG.out hb34) hal4) (ints_C (Blk.new w4 _ 3) (by decide)) (by decide))
  have HB4 := Lib.hid (below_t HB3.out (below_t hb34 hal4))
  clear hb4 hb34 hal4 H3 f0 f1
  go_wp2_with fail
  refine H4.out.mono ?_
  rintro e w5 ⟨rfl, hb5⟩
  have HB5 := Lib.hid (below_t HB4.out hb5)
  clear hb5 H4
  go_wp2_with fail
  go_ret
  exact ⟨rfl, HB5.out⟩
end Go.Proofs.Ytpbndcmmclkdpaa
namespace Go.Proofs.Ytpbndcmmclkdpaa
open PFlowSolves
open Go.RowKit Go.Proofs.YtpbndcmmclkdpaaW.PrintWords
def fewB (l : List Ar) (xs : List Int) : Bool := decide (l.length ≤ 140) && decide (xs.length ≤ 140)
/-- A copy of arcs. -/
def PathsPost (l : List Ar) (w : World) (e : Ending) (w' : World) : Prop :=
  (∃ A c b, e = .returned (.slice A l.length c) ∧ l.length ≤ c ∧ Kd.C k44 w' A l.length l ∧ (0 < l.length → A = some ⟨b, 0, none⟩ ∧ w.heap.size ≤ b ∧ TA w' b l.length (arcF l))) ∧ Below w.heap.size w w'
end Go.Proofs.Ytpbndcmmclkdpaa
