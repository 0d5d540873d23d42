/-
  The walks of DateOf, the program's and the reference's.
-/
import Derived.Test.YtpmopdgnnlhplaaDa
import Derived.Test.YtpmopdgnnlhplaaBa
import Derived.Lib.Hide
namespace Go.Proofs.Ytpmopdgnnlhplaa
open Go.RowKit Go.Proofs.YtpmopdgnnlhplaaW.PrintWords
theorem newYear_any (q : Nat) (h : q ≤ 6000) (w : World) : Calls Try.prog 53 #[.int .i64 (2000 + q)] w fun e w' => e = .returned (.int .i64 (ny q)) ∧ ∃ n, w' = w.drewN n :=
  (PAccountsDates.accounts_newYear.calls _ _ w (newYear_f q h)).mono fun _ _ h => ⟨h.1, h.2.out⟩
theorem month_any {y : Int} (h : 0 ≤ y) (m : Int) (w : World) : Calls Try.prog 52 #[.int .i64 y, .int .i64 m] w fun e w' => e = .returned (.int .i64 (mlen y m)) ∧ ∃ n, w' = w.drewN n :=
  (PAccountsDates.accounts_month.calls 1 _ _ _ w (month_f h m 0)).mono fun _ _ h => ⟨h.1, h.2.out⟩
theorem years_any {y : Int} (h : 0 ≤ y) (w : World) : Calls Try.prog 55 #[.int .i64 y] w fun e w' => e = .returned (.int .i64 (ylen y)) ∧ ∃ n, w' = w.drewN n :=
  (PAccountsDates.merinoref07_years.calls 13 _ _ w (years_f h 0)).mono fun _ _ h => ⟨h.1, h.2.out⟩
theorem months_any {y : Int} (h : 0 ≤ y) (m : Int) (w : World) : Calls Try.prog 54 #[.int .i64 y, .int .i64 m] w fun e w' => e = .returned (.int .i64 (mlen y m)) ∧ ∃ n, w' = w.drewN n :=
  (PAccountsDates.merinoref07_months.calls _ _ _ w (months_f h m)).mono fun _ _ h => ⟨h.1, h.2.out⟩
theorem day_f (n : Int) : PAccountsDates.accounts_day.f n = some (decide (0 ≤ n ∧ n ≤ 1000000)) := by
  unfold PAccountsDates.accounts_day.f
  by_cases h : n ≥ 0
  · rw [if_pos h]; simp [show 0 ≤ n from h]
  · rw [if_neg h]; simp [show ¬ 0 ≤ n from h]
theorem Day_f (n : Int) : PAccountsDates.merinoref07_Day.f n = some (decide (0 ≤ n ∧ n ≤ 1000000)) := by
  unfold PAccountsDates.merinoref07_Day.f
  by_cases h : n ≥ 0
  · rw [if_pos h]; simp [show 0 ≤ n from h]
  · rw [if_neg h]; simp [show ¬ 0 ≤ n from h]
theorem ny_mono {a b : Nat} (h : a ≤ b) : ny a ≤ ny b := by
  induction h with
  | refl => exact Int.le_refl _
  | @step m _ ih => have := ylen_bd (2000 + m); rw [show ny (m + 1) = ny m + ylen (2000 + m) from rfl]; omega
theorem cum_mono (y : Int) {a b : Nat} (h : a ≤ b) : cum y a ≤ cum y b := by
  induction h with
  | refl => exact Int.le_refl _
  | @step m _ ih => have := mlen_bd y (m + 1); rw [show cum y (m + 1) = cum y m + mlen y (m + 1) from rfl]; omega
/-- The day n falls on day 'n - .. + 1' of month p + 1 of year 2000 + Y. -/
structure Falls (n : Int) (Y p : Nat) : Prop where
  y0 : ny Y ≤ n
  y1 : n < ny (Y + 1)
  p0 : cum (2000 + Y) p ≤ n - ny Y
  p1 : n - ny Y < cum (2000 + Y) (p + 1)
  yb : Y ≤ 3000
  pb : p ≤ 11
def fall (n : Int) (Y p : Nat) : Value := .agg #[.int .i64 (2000 + Y), .int .i64 (p + 1), .int .i64 (n - ny Y - cum (2000 + Y) p + 1)]
def yearM (w : World) (g Y : Nat) : Nat := match w.cell? ⟨g, 0, none⟩ with | some (.int _ n) => (2000 + Y - n).toNat | _ => 0
theorem yearM_of {w : World} {g Y : Nat} {k : IntKind} {n : Int} (h : w.cell? ⟨g, 0, none⟩ = some (.int k n)) : yearM w g Y = (2000 + Y - n).toNat := by unfold yearM; rw [h]
def monthM (w : World) (g p : Nat) : Nat := match w.cell? ⟨g, 1, none⟩ with | some (.int _ n) => (1 + p - n).toNat | _ => 0
theorem ret_date23 {tmps : Array Value} {b : Nat} {x y z : Value} {c : Int} {W : World} {R : Ending → World → Prop} (h2 : tmps[2]?.getD undef = .pointer (some ⟨b, 0, none⟩)) (h3 : tmps[3]?.getD undef = .int .i64 c) (hB : Blk W b #[x, y, z] 40)
    (hR : R (.returned (.tuple #[.agg #[x, y, z], .int .i64 c])) W) : bodyPost Try.prog Try.f23 R Exit.ret ⟨tmps, []⟩ W := by
  have hu := Try.underlying40
  have c0 := hB.cell 0 (v := x) rfl
  have c1 := hB.cell 1 (v := y) rfl
  have c2 := hB.cell 2 (v := z) rfl
  exact bodyPost_ret (v := .tuple #[.agg #[x, y, z], .int .i64 c]) (by simp [results, Try.results23, go_sem, h2, h3, c0, c1, c2]) rfl hR
theorem date_set {w : World} {b : Nat} {x y z x' y' z' : Value} (h : Blk w b #[x, y, z] 40) : Blk (((w.setCell ⟨b, 0, none⟩ x').setCell ⟨b, 1, none⟩ y').setCell ⟨b, 2, none⟩ z') b #[x', y', z'] 40 := by
  simpa using ((h.set 0 x').set 1 y').set 2 z'
set_option maxRecDepth 100000 in
set_option maxHeartbeats 1000000 in
theorem DateOf_bad (n : Int) (h : ¬ (0 ≤ n ∧ n ≤ 1000000)) (w : World) : Calls Try.prog 23 #[.int .i64 n] w fun e w' => e = .returned (.tuple #[.agg #[.int .i64 0, .int .i64 0, .int .i64 0], .int .i64 2]) ∧ Below w.heap.size w w' := by
  have hu := Try.underlying40
  go_enter Try.func23, Try.ntmps23
  go_wp2_with fail
  have hB := Blk.new w #[.int .i64 0, .int .i64 0, .int .i64 0] 40
  have hb := (Below.refl w.heap.size w).alloc (Nat.le_refl _) (.cells #[.int .i64 0, .int .i64 0, .int .i64 0] 40)
  generalize w.alloc (.cells #[.int .i64 0, .int .i64 0, .int .i64 0] 40) = w0 at *
  refine (PAccountsDates.accounts_day.calls n false _ (by rw [day_f]; simp [h])).mono ?_
  rintro e w1 ⟨rfl, ⟨⟨k, rfl⟩⟩⟩
  have f0 := hB.free 0
  have f1 := hB.free 1
  have f2 := hB.free 2
  have c0 := hB.cell 0 (v := .int .i64 0) rfl
  have c1 := hB.cell 1 (v := .int .i64 0) rfl
  have c2 := hB.cell 2 (v := .int .i64 0) rfl
  go_wp2_with fail
  refine @ret_date23 _ w.heap.size _ _ _ 2 _ _ ?_ ?_ (date_set (hB.drewN k)) ?_
  · rfl
  · rfl
  refine ⟨rfl, ?_⟩
  exact (((pw_below_drewN hb k).setCell (Nat.le_refl _) _).setCell (Nat.le_refl _) _).setCell (Nat.le_refl _) _
theorem ret_date24 {tmps : Array Value} {b : Nat} {x y z : Value} {c : Int} {W : World} {R : Ending → World → Prop} (h2 : tmps[2]?.getD undef = .pointer (some ⟨b, 0, none⟩)) (h3 : tmps[3]?.getD undef = .int .i64 c) (hB : Blk W b #[x, y, z] 40)
    (hR : R (.returned (.tuple #[.agg #[x, y, z], .int .i64 c])) W) : bodyPost Try.prog Try.f24 R Exit.ret ⟨tmps, []⟩ W := by
  have hu := Try.underlying40
  have c0 := hB.cell 0 (v := x) rfl
  have c1 := hB.cell 1 (v := y) rfl
  have c2 := hB.cell 2 (v := z) rfl
  exact bodyPost_ret (v := .tuple #[.agg #[x, y, z], .int .i64 c]) (by simp [results, Try.results24, go_sem, h2, h3, c0, c1, c2]) rfl hR
set_option maxRecDepth 100000 in
set_option maxHeartbeats 1000000 in
theorem RDateOf_bad (n : Int) (h : ¬ (0 ≤ n ∧ n ≤ 1000000)) (w : World) : Calls Try.prog 24 #[.int .i64 n] w fun e w' => e = .returned (.tuple #[.agg #[.int .i64 0, .int .i64 0, .int .i64 0], .int .i64 2]) ∧ Below w.heap.size w w' := by
  have hu := Try.underlying40
  go_enter Try.func24, Try.ntmps24
  go_wp2_with fail
  have hB := Blk.new w #[.int .i64 0, .int .i64 0, .int .i64 0] 40
  have hb := (Below.refl w.heap.size w).alloc (Nat.le_refl _) (.cells #[.int .i64 0, .int .i64 0, .int .i64 0] 40)
  generalize w.alloc (.cells #[.int .i64 0, .int .i64 0, .int .i64 0] 40) = w0 at *
  refine (PAccountsDates.merinoref07_Day.calls n false _ (by rw [Day_f]; simp [h])).mono ?_
  rintro e w1 ⟨rfl, ⟨⟨k, rfl⟩⟩⟩
  have f0 := hB.free 0
  have f1 := hB.free 1
  have f2 := hB.free 2
  have c0 := hB.cell 0 (v := .int .i64 0) rfl
  have c1 := hB.cell 1 (v := .int .i64 0) rfl
  have c2 := hB.cell 2 (v := .int .i64 0) rfl
  go_wp2_with fail
  refine @ret_date24 _ w.heap.size _ _ _ 2 _ _ ?_ ?_ (date_set (hB.drewN k)) ?_
  · rfl
  · rfl
  refine ⟨rfl, ?_⟩
  exact (((pw_below_drewN hb k).setCell (Nat.le_refl _) _).setCell (Nat.le_refl _) _).setCell (Nat.le_refl _) _
theorem monthM_of {w : World} {g p : Nat} {k : IntKind} {n : Int} (h : w.cell? ⟨g, 1, none⟩ = some (.int k n)) : monthM w g p = (1 + p - n).toNat := by unfold monthM; rw [h]
set_option maxRecDepth 100000 in
set_option maxHeartbeats 4000000 in
theorem DateOf_ok (n : Int) (h0 : 0 ≤ n) (h1 : n ≤ 1000000) (Y p : Nat) (hF : Falls n Y p) (w : World) : Calls Try.prog 23 #[.int .i64 n] w fun e w' => e = .returned (.tuple #[fall n Y p, .int .i64 0]) ∧ Below w.heap.size w w' := by
  have hu := Try.underlying40
  obtain ⟨y0, y1, p0, p1, yb, pb⟩ := hF
  have hny := ny_bd Y
  have hny1 := ny_bd (Y + 1)
  have hcp := cum_bd (2000 + Y) p
  go_enter Try.func23, Try.ntmps23
  go_wp2_with fail
  have hB := Blk.new w #[.int .i64 0, .int .i64 0, .int .i64 0] 40
  have hb := (Below.refl w.heap.size w).alloc (Nat.le_refl _) (.cells #[.int .i64 0, .int .i64 0, .int .i64 0] 40)
  generalize w.alloc (.cells #[.int .i64 0, .int .i64 0, .int .i64 0] 40) = w0 at *
  refine (PAccountsDates.accounts_day.calls n true _ (by rw [day_f]; simp [h0, h1])).mono ?_
  rintro e w1 ⟨rfl, hd1⟩
  have hb1 := hb.trans (hd1.below.mono hb.size)
  have hB1 : Blk w1 w.heap.size #[.int .i64 0, .int .i64 0, .int .i64 0] 40 := (hd1.below.block _ hB.lt).trans hB
  clear hd1 hb hB
  go_wp2_with fail
  have hB4 := Blk.new w1 #[.int .i64 (2000 + n / 366), .int .i64 1, .int .i64 0] 40
  have hb4 := hb1.alloc hb1.size (.cells #[.int .i64 (2000 + n / 366), .int .i64 1, .int .i64 0] 40)
  have hB2 := hB1.alloc (.cells #[.int .i64 (2000 + n / 366), .int .i64 1, .int .i64 0] 40)
  have hgg : w.heap.size ≠ w1.heap.size := by have := hB1.lt; omega
  have hgl : w.heap.size ≤ w1.heap.size := hb1.size
  generalize w1.alloc (.cells #[.int .i64 (2000 + n / 366), .int .i64 1, .int .i64 0] 40) = w2 at *
  obtain ⟨q0, hq0⟩ : ∃ q0 : Nat, n / 366 = (q0 : Int) := ⟨(n / 366).toNat, by omega⟩
  have hq0Y : q0 ≤ Y := by omega
  rw [hq0] at hB4 ⊢
  clear hB1 hb1
  generalize w1.heap.size = g4 at *
  go_loopw [] (fun wr => ∃ q : Nat, q ≤ Y ∧ Blk wr g4 #[.int .i64 (2000 + q), .int .i64 1, .int .i64 0] 40 ∧ Blk wr w.heap.size #[.int .i64 0, .int .i64 0, .int .i64 0] 40 ∧ Below w.heap.size w wr) (fun wr => yearM wr g4 Y)
  case atStart => exact ⟨q0, hq0Y, hB4, hB2, hb4⟩
  case round =>
    obtain ⟨q, hq, hG, hZ, hb⟩ := hrel
    have c0 := hG.cell 0 (v := .int .i64 (2000 + q)) rfl
    have hw1 : IntKind.i64.wrap (2000 + (q : Int) + 1) = 2000 + ((q + 1 : Nat) : Int) := by rw [IntWalk.i64_in _ (by omega)]; push_cast; omega
    by_cases hlt : q < Y
    · have hle : ny (q + 1) ≤ n := Int.le_trans (ny_mono hlt) y0
      go_wp2_with fail
      refine (newYear_any (q + 1) (by omega) _).mono ?_
      rintro e w5 ⟨rfl, ⟨k, rfl⟩⟩
      have f0 := hG.free 0
      go_wp2_with fail
      have hG' : Blk ((wr.drewN k).setCell ⟨g4, 0, none⟩ (.int .i64 (2000 + ((q + 1 : Nat) : Int)))) g4 #[.int .i64 (2000 + ((q + 1 : Nat) : Int)), .int .i64 1, .int .i64 0] 40 := by simpa using (hG.drewN k).set 0 (.int .i64 (2000 + ((q + 1 : Nat) : Int)))
      go_roundw
      case rel => exact ⟨q + 1, by omega, hG', Blk.other (hZ.drewN k) hgg _, (pw_below_drewN hb k).setCell hgl _⟩
      case measure =>
        rw [yearM_of c0]
        have hc' := hG'.cell 0 (v := .int .i64 (2000 + ((q + 1 : Nat) : Int))) rfl
        push_cast at hc'
        rw [yearM_of hc']
        omega
    · obtain rfl : q = Y := by omega
      go_wp2_with fail
      refine (newYear_any (q + 1) (by omega) _).mono ?_
      rintro e w5 ⟨rfl, ⟨k, rfl⟩⟩
      go_wp2_with fail
      refine (newYear_any q (by omega) _).mono ?_
      rintro e w5 ⟨rfl, ⟨k2, rfl⟩⟩
      go_wp2_with fail
      have hG2 := hG.drewN (k + k2)
      have hZ2 := hZ.drewN (k + k2)
      have hb2 := pw_below_drewN hb (k + k2)
      generalize wr.drewN (k + k2) = w9 at *
      obtain ⟨Y, rfl⟩ : ∃ Y, Y = q := ⟨_, rfl⟩
      clear hG hZ hb c0 hw1 hB4 hB2 hb4 y1 hny1 hq0Y hq hlt
      go_loopw [0] (fun s wr => ∃ m : Nat, m ≤ p ∧ s = .int .i64 (n - ny Y - cum (2000 + Y) m) ∧ Blk wr g4 #[.int .i64 (2000 + Y), .int .i64 (m + 1), .int .i64 0] 40 ∧ Blk wr w.heap.size #[.int .i64 0, .int .i64 0, .int .i64 0] 40 ∧ Below w.heap.size w wr) (fun _ wr => monthM wr g4 p)
      case atStart => exact ⟨0, Nat.zero_le _, by simp [cum], hG2, hZ2, hb2⟩
      case round =>
        obtain ⟨m, hm, rfl, hG, hZ, hb⟩ := hrel
        have c0 := hG.cell 0 (v := .int .i64 (2000 + Y)) rfl
        have c1 := hG.cell 1 (v := .int .i64 (m + 1)) rfl
        have hcm := cum_bd (2000 + Y) m
        have hml := mlen_bd (2000 + Y) (m + 1)
        have hc1 : cum (2000 + (Y : Int)) (m + 1) = cum (2000 + Y) m + mlen (2000 + Y) (m + 1) := rfl
        have hw1 : IntKind.i64.wrap ((m : Int) + 1 + 1) = (m : Int) + 1 + 1 := IntWalk.i64_in _ (by omega)
        have hw2 : IntKind.i64.wrap (n - ny Y - cum (2000 + Y) m - mlen (2000 + Y) (m + 1)) = n - ny Y - cum (2000 + Y) m - mlen (2000 + Y) (m + 1) := IntWalk.i64_in _ (by omega)
        by_cases hlt : m < p
        · have hle : mlen (2000 + (Y : Int)) (m + 1) ≤ n - ny Y - cum (2000 + Y) m := by have := cum_mono (2000 + (Y : Int)) (show m + 1 ≤ p from hlt); omega
          go_wp2_with fail
          refine (month_any (by omega) _ _).mono ?_
          rintro e w5 ⟨rfl, ⟨k, rfl⟩⟩
          go_wp2_with fail
          refine (month_any (by omega) _ _).mono ?_
          rintro e w5 ⟨rfl, ⟨k2, rfl⟩⟩
          have f1 := hG.free 1
          go_wp2_with fail
          have hG' : Blk ((wr.drewN (k + k2)).setCell ⟨g4, 1, none⟩ (.int .i64 ((m : Int) + 1 + 1))) g4 #[.int .i64 (2000 + Y), .int .i64 ((m : Int) + 1 + 1), .int .i64 0] 40 := by simpa using (hG.drewN (k + k2)).set 1 (.int .i64 ((m : Int) + 1 + 1))
          go_roundw
          case rel => exact ⟨m + 1, by omega, by rw [hc1]; congr 1; omega, by exact_mod_cast hG', Blk.other (hZ.drewN (k + k2)) hgg _, (pw_below_drewN hb (k + k2)).setCell hgl _⟩
          case measure =>
            rw [monthM_of c1, monthM_of (hG'.cell 1 (v := .int .i64 ((m : Int) + 1 + 1)) rfl)]
            omega
        · obtain rfl : m = p := by omega
          have hgt : n - ny Y - cum (2000 + Y) m < mlen (2000 + Y) (m + 1) := by omega
          go_wp2_with fail
          refine (month_any (by omega) _ _).mono ?_
          rintro e w5 ⟨rfl, ⟨k, rfl⟩⟩
          have f2 := hG.free 2
          have c2 := hG.cell 2 (v := .int .i64 0) rfl
          have z0 := hZ.cell 0 (v := .int .i64 0) rfl
          have z1 := hZ.cell 1 (v := .int .i64 0) rfl
          have z2 := hZ.cell 2 (v := .int .i64 0) rfl
          have e0 := hZ.free 0
          have e1 := hZ.free 1
          have e2 := hZ.free 2
          go_wp2_with fail
          refine @ret_date23 _ w.heap.size _ _ _ 0 _ _ ?_ ?_ (date_set (Blk.other (p := ⟨g4, 2, none⟩) (hZ.drewN k) hgg _)) ?_
          · rfl
          · rfl
          refine ⟨rfl, ?_⟩
          exact ((((pw_below_drewN hb k).setCell hgl _).setCell (Nat.le_refl _) _).setCell (Nat.le_refl _) _).setCell (Nat.le_refl _) _
set_option maxRecDepth 100000 in
set_option maxHeartbeats 4000000 in
theorem RDateOf_ok (n : Int) (h0 : 0 ≤ n) (h1 : n ≤ 1000000) (Y p : Nat) (hF : Falls n Y p) (w : World) : Calls Try.prog 24 #[.int .i64 n] w fun e w' => e = .returned (.tuple #[fall n Y p, .int .i64 0]) ∧ Below w.heap.size w w' := by
  have hu := Try.underlying40
  obtain ⟨y0, y1, p0, p1, yb, pb⟩ := hF
  have hny := ny_bd Y
  have hny1 := ny_bd (Y + 1)
  have hcp := cum_bd (2000 + Y) p
  go_enter Try.func24, Try.ntmps24
  go_wp2_with fail
  have hB := Blk.new w #[.int .i64 0, .int .i64 0, .int .i64 0] 40
  have hb := (Below.refl w.heap.size w).alloc (Nat.le_refl _) (.cells #[.int .i64 0, .int .i64 0, .int .i64 0] 40)
  generalize w.alloc (.cells #[.int .i64 0, .int .i64 0, .int .i64 0] 40) = w0 at *
  refine (PAccountsDates.merinoref07_Day.calls n true _ (by rw [Day_f]; simp [h0, h1])).mono ?_
  rintro e w1 ⟨rfl, hd1⟩
  have hb1 := hb.trans (hd1.below.mono hb.size)
  have hB1 : Blk w1 w.heap.size #[.int .i64 0, .int .i64 0, .int .i64 0] 40 := (hd1.below.block _ hB.lt).trans hB
  clear hd1 hb hB
  go_wp2_with fail
  have hB4 := Blk.new w1 #[.int .i64 2000, .int .i64 1, .int .i64 0] 40
  have hb4 := hb1.alloc hb1.size (.cells #[.int .i64 2000, .int .i64 1, .int .i64 0] 40)
  have hB2 := hB1.alloc (.cells #[.int .i64 2000, .int .i64 1, .int .i64 0] 40)
  have hgg : w.heap.size ≠ w1.heap.size := by have := hB1.lt; omega
  have hgl : w.heap.size ≤ w1.heap.size := hb1.size
  generalize w1.alloc (.cells #[.int .i64 2000, .int .i64 1, .int .i64 0] 40) = w2 at *
  clear hB1 hb1
  generalize w1.heap.size = g4 at *
  go_loopw [0] (fun s wr => ∃ q : Nat, q ≤ Y ∧ s = .int .i64 (n - ny q) ∧ Blk wr g4 #[.int .i64 (2000 + q), .int .i64 1, .int .i64 0] 40 ∧ Blk wr w.heap.size #[.int .i64 0, .int .i64 0, .int .i64 0] 40 ∧ Below w.heap.size w wr) (fun _ wr => yearM wr g4 Y)
  case atStart => exact ⟨0, Nat.zero_le _, by simp [ny], hB4, hB2, hb4⟩
  case round =>
    obtain ⟨q, hq, rfl, hG, hZ, hb⟩ := hrel
    have c0 := hG.cell 0 (v := .int .i64 (2000 + q)) rfl
    have hnq := ny_bd q
    have hyl := ylen_bd (2000 + q)
    have hn1 : ny (q + 1) = ny q + ylen (2000 + q) := rfl
    have hw1 : IntKind.i64.wrap (2000 + (q : Int) + 1) = 2000 + ((q : Int) + 1) := by rw [IntWalk.i64_in _ (by omega)]; omega
    have hw2 : IntKind.i64.wrap (n - ny q - ylen (2000 + q)) = n - ny q - ylen (2000 + q) := IntWalk.i64_in _ (by omega)
    by_cases hlt : q < Y
    · have hle : ylen (2000 + (q : Int)) ≤ n - ny q := by have := ny_mono (show q + 1 ≤ Y from hlt); omega
      go_wp2_with fail
      refine (years_any (by omega) _).mono ?_
      rintro e w5 ⟨rfl, ⟨k, rfl⟩⟩
      go_wp2_with fail
      refine (years_any (by omega) _).mono ?_
      rintro e w5 ⟨rfl, ⟨k2, rfl⟩⟩
      have f0 := hG.free 0
      go_wp2_with fail
      have hG' : Blk ((wr.drewN (k + k2)).setCell ⟨g4, 0, none⟩ (.int .i64 (2000 + ((q : Int) + 1)))) g4 #[.int .i64 (2000 + ((q : Int) + 1)), .int .i64 1, .int .i64 0] 40 := by simpa using (hG.drewN (k + k2)).set 0 (.int .i64 (2000 + ((q : Int) + 1)))
      go_roundw
      case rel => exact ⟨q + 1, by omega, by rw [hn1]; congr 1; omega, by exact_mod_cast hG', Blk.other (hZ.drewN (k + k2)) hgg _, (pw_below_drewN hb (k + k2)).setCell hgl _⟩
      case measure =>
        rw [yearM_of c0, yearM_of (hG'.cell 0 (v := .int .i64 (2000 + ((q : Int) + 1))) rfl)]
        omega
    · obtain rfl : q = Y := by omega
      have hgt : n - ny q < ylen (2000 + (q : Int)) := by omega
      go_wp2_with fail
      refine (years_any (by omega) _).mono ?_
      rintro e w5 ⟨rfl, ⟨k, rfl⟩⟩
      go_wp2_with fail
      have hG2 := hG.drewN k
      have hZ2 := hZ.drewN k
      have hb2 := pw_below_drewN hb k
      generalize wr.drewN k = w9 at *
      obtain ⟨Y, rfl⟩ : ∃ Y, Y = q := ⟨_, rfl⟩
      clear hG hZ hb c0 hw1 hw2 hB4 hB2 hb4 y1 hny1 hq hlt hgt hnq hyl hn1
      go_loopw [0] (fun s wr => ∃ m : Nat, m ≤ p ∧ s = .int .i64 (n - ny Y - cum (2000 + Y) m) ∧ Blk wr g4 #[.int .i64 (2000 + Y), .int .i64 (m + 1), .int .i64 0] 40 ∧ Blk wr w.heap.size #[.int .i64 0, .int .i64 0, .int .i64 0] 40 ∧ Below w.heap.size w wr) (fun _ wr => monthM wr g4 p)
      case atStart => exact ⟨0, Nat.zero_le _, by simp [cum], hG2, hZ2, hb2⟩
      case round =>
        obtain ⟨m, hm, rfl, hG, hZ, hb⟩ := hrel
        have c0 := hG.cell 0 (v := .int .i64 (2000 + Y)) rfl
        have c1 := hG.cell 1 (v := .int .i64 (m + 1)) rfl
        have hcm := cum_bd (2000 + Y) m
        have hml := mlen_bd (2000 + Y) (m + 1)
        have hc1 : cum (2000 + (Y : Int)) (m + 1) = cum (2000 + Y) m + mlen (2000 + Y) (m + 1) := rfl
        have hw1 : IntKind.i64.wrap ((m : Int) + 1 + 1) = (m : Int) + 1 + 1 := IntWalk.i64_in _ (by omega)
        have hw2 : IntKind.i64.wrap (n - ny Y - cum (2000 + Y) m - mlen (2000 + Y) (m + 1)) = n - ny Y - cum (2000 + Y) m - mlen (2000 + Y) (m + 1) := IntWalk.i64_in _ (by omega)
        by_cases hlt : m < p
        · have hle : mlen (2000 + (Y : Int)) (m + 1) ≤ n - ny Y - cum (2000 + Y) m := by have := cum_mono (2000 + (Y : Int)) (show m + 1 ≤ p from hlt); omega
          go_wp2_with fail
          refine (months_any (by omega) _ _).mono ?_
          rintro e w5 ⟨rfl, ⟨k, rfl⟩⟩
          go_wp2_with fail
          refine (months_any (by omega) _ _).mono ?_
          rintro e w5 ⟨rfl, ⟨k2, rfl⟩⟩
          have f1 := hG.free 1
          go_wp2_with fail
          have hG' : Blk ((wr.drewN (k + k2)).setCell ⟨g4, 1, none⟩ (.int .i64 ((m : Int) + 1 + 1))) g4 #[.int .i64 (2000 + Y), .int .i64 ((m : Int) + 1 + 1), .int .i64 0] 40 := by simpa using (hG.drewN (k + k2)).set 1 (.int .i64 ((m : Int) + 1 + 1))
          go_roundw
          case rel => exact ⟨m + 1, by omega, by rw [hc1]; congr 1; omega, by exact_mod_cast hG', Blk.other (hZ.drewN (k + k2)) hgg _, (pw_below_drewN hb (k + k2)).setCell hgl _⟩
          case measure =>
            rw [monthM_of c1, monthM_of (hG'.cell 1 (v := .int .i64 ((m : Int) + 1 + 1)) rfl)]
            omega
        · obtain rfl : m = p := by omega
          have hgt : n - ny Y - cum (2000 + Y) m < mlen (2000 + Y) (m + 1) := by omega
          go_wp2_with fail
          refine (months_any (by omega) _ _).mono ?_
          rintro e w5 ⟨rfl, ⟨k, rfl⟩⟩
          have f2 := hG.free 2
          have c2 := hG.cell 2 (v := .int .i64 0) rfl
          have z0 := hZ.cell 0 (v := .int .i64 0) rfl
          have z1 := hZ.cell 1 (v := .int .i64 0) rfl
          have z2 := hZ.cell 2 (v := .int .i64 0) rfl
          have e0 := hZ.free 0
          have e1 := hZ.free 1
          have e2 := hZ.free 2
          go_wp2_with fail
          refine @ret_date24 _ w.heap.size _ _ _ 0 _ _ ?_ ?_ (date_set (Blk.other (p := ⟨g4, 2, none⟩) (hZ.drewN k) hgg _)) ?_
          · rfl
          · rfl
          refine ⟨rfl, ?_⟩
          exact ((((pw_below_drewN hb k).setCell hgl _).setCell (Nat.le_refl _) _).setCell (Nat.le_refl _) _).setCell (Nat.le_refl _) _
end Go.Proofs.Ytpmopdgnnlhplaa
