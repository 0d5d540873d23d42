/-
  The walk of alive.
-/
import Derived.Test.YtcobihdjcdefmaaQPo
import Derived.Test.YtcobihdjcdefmaaQYx2
namespace Go.Proofs.Ytcobihdjcdefmaa
open Go.RowKit Go.Proofs.YtcobihdjcdefmaaW.PrintWords
theorem C_blk {α : Type} {d : Kd α} {w : World} {b : Nat} {cs : Array Value} {t : TypeId} {xs : List α} (h : Blk w b cs t) (hm : xs.length ≤ 9223372036854775807)
    (hr : ∀ j p, xs[j]? = some p → ∃ c, c.length = d.sz ∧ d.K w p c ∧ ∀ i u, c[i]? = some u → cs[j * d.sz + i]? = some u) : Kd.C d w (some ⟨b, 0, none⟩) xs.length xs := by
  refine ⟨rfl, hm, fun _ => ⟨⟨b, 0, none⟩, rfl, fun j p hp => ?_⟩⟩
  obtain ⟨c, h1, h2, h3⟩ := hr j p hp
  refine ⟨c, h1, h2, fun i u hu => ?_⟩
  have := h.cell (j * d.sz + i) (h3 i u hu)
  simp only [Addr.add, Nat.zero_add]
  split
  · rename_i h0
    rw [h0] at this
    exact this
  · exact this
theorem C_two {α : Type} {d : Kd α} {w : World} {b : Nat} {t : TypeId} {x y : α} {u0 u1 v0 v1 : Value} (h : Blk w b #[u0, u1, v0, v1] t) (hd : d.sz = 2) (hx : d.K w x [u0, u1]) (hy : d.K w y [v0, v1]) :
    Kd.C d w (some ⟨b, 0, none⟩) 2 [x, y] := by
  refine C_blk (xs := [x, y]) h (by simp) (fun j p hp => ?_)
  rcases j with _ | _ | j
  · simp only [List.getElem?_cons_zero, Option.some.injEq] at hp
    subst hp
    refine ⟨[u0, u1], hd.symm, hx, fun i u hu => ?_⟩
    rcases i with _ | _ | i <;> simp at hu ⊢ <;> exact hu
  · simp only [List.getElem?_cons_succ, List.getElem?_cons_zero, Option.some.injEq] at hp
    subst hp
    refine ⟨[v0, v1], hd.symm, hy, fun i u hu => ?_⟩
    rw [hd]
    rcases i with _ | _ | i <;> simp at hu ⊢ <;> exact hu
  · simp at hp
/-- From a frame to a bound: what lies above w.size may turn. -/
theorem upd_below {w a b : World} {F F' : Nat → Prop} (h : Below w.heap.size w a) (hF : ∀ x, F x → w.heap.size ≤ x) (hU : Upd a F b F') : Below w.heap.size w b ∧ ∀ x, F' x → w.heap.size ≤ x :=
  ⟨h.trans (hU.1.to_below h.size hF), fun x hx => (hU.2 x hx).elim (hF x) (fun h1 => Nat.le_trans h.size h1)⟩
theorem balErr_names {accs bccs : List AccE} (h : accs.map (·.name) = bccs.map (·.name)) (a : ByteArray) (d : Int) : balErr accs a d = balErr bccs a d := by unfold balErr; rw [h]
theorem balVal_names {accs bccs : List AccE} (h : accs.map (·.name) = bccs.map (·.name)) (rows : ByteArray → List Rw) (a : ByteArray) (d : Int) : balVal accs rows a d = balVal bccs rows a d := by unfold balVal; rw [balErr_names h]
theorem alive_post : postErr [⟨#[97]⟩, ⟨#[98]⟩] [] 3 [⟨⟨#[97]⟩, 5⟩, ⟨⟨#[98]⟩, -5⟩] = 0 := by decide
theorem alive_bal (x y : AccE) (hx : x.name = ⟨#[97]⟩) (hy : y.name = ⟨#[98]⟩) : balErr [x, y] ⟨#[98]⟩ 3 = 0 ∧ balVal [x, y] (fun a => rowsOf a ([] ++ [newRec [] 3 0 [⟨⟨#[97]⟩, 5⟩, ⟨⟨#[98]⟩, -5⟩]]) 0) ⟨#[98]⟩ 3 = -5 := by
  have h1 : balErr [x, y] ⟨#[98]⟩ 3 = 0 := by
    unfold balErr
    rw [List.map_cons, List.map_cons, hx, hy]
    decide
  refine ⟨h1, ?_⟩
  unfold balVal
  rw [if_pos h1]
  rfl
theorem alive_day : PAccountsCharges.accounts_DayOf.f 20 2000 2 29 = some (59, 0) := by kernel_rfl
theorem alive_charge : PAccountsCharges.accounts_Charge.f 20 1000 [⟨500, 200⟩, ⟨2000, 100⟩] = some (15, 0) := by kernel_rfl
theorem new_led (w : World) : Calls Try.prog 22 #[] w fun e w' => ∃ F g rm am, e = .returned (.pointer (some ⟨g, 0, none⟩)) ∧ Below w.heap.size w w' ∧
    LedH w' F g (.slice none 0 0) rm am [] [] (fun a => rowsOf a [] 0) [] ∧ ∀ x, F x → w.heap.size ≤ x :=
  (new_any w).mono fun _ _ ⟨h1, h2, h3⟩ => ⟨_, _, _, _, h1, h2, h3 _, fun _ hx => hx.1⟩
theorem eq47 (g : Nat) (w : World) : (binOp .eql 45 (.pointer (some ⟨g, 0, none⟩)) (.pointer none)).run Try.prog w = .ok (.bool false) w := by kernel_rfl
set_option maxRecDepth 100000 in
set_option maxHeartbeats 4000000 in
theorem alive_any (w : World) : Calls Try.prog 6 #[] w fun e w' => e = .returned (.bool true) ∧ Below w.heap.size w w' := by
  go_enter Try.func6, Try.ntmps6
  go_wp2_with fail
  refine (PAccountsCharges.accounts_DayOf.calls 20 2000 2 29 59 0 w alive_day).mono ?_
  rintro e w1 ⟨rfl, hb1⟩
  go_wp2_with fail
  have hC1 := Blk.new w1 #[.int .i64 500, .int .i64 200, .int .i64 2000, .int .i64 100] 44
  have hb2 := hb1.alloc hb1.size (.cells #[.int .i64 500, .int .i64 200, .int .i64 2000, .int .i64 100] 44)
  generalize w1.alloc (.cells #[.int .i64 500, .int .i64 200, .int .i64 2000, .int .i64 100] 44) = w2 at *
  refine (PAccountsCharges.accounts_Charge.calls 20 1000 (some ⟨w1.heap.size, 0, none⟩) 2 [⟨500, 200⟩, ⟨2000, 100⟩] 15 0 w2 (C_two hC1 rfl (PAccountsCharges.k44_mk w2 ⟨500, 200⟩) (PAccountsCharges.k44_mk w2 ⟨2000, 100⟩)) (by decide) alive_charge).mono ?_
  rintro e w3 ⟨rfl, hb3⟩
  have hb4 := below_t hb2 hb3
  clear hC1 hb1 hb2 hb3
  go_wp2_with fail
  refine (new_led w3).mono ?_
  rintro e w4 ⟨F4, g, rm, am, rfl, hb5, h4, hF4⟩
  have hF4 : ∀ x, F4 x → w.heap.size ≤ x := fun x hx => Nat.le_trans hb4.size (hF4 x hx)
  have hb6 := below_t hb4 hb5
  clear hb4 hb5
  have heq := eq47 g
  have hne : ∀ (w : World), (binOp .neq 24 (.int .i64 0) (.int .i64 0)).run Try.prog w = .ok (.bool false) w := fun w => rfl
  go_wp2_with fail
  have o1 : openErr [] ⟨#[97]⟩ = 0 := by decide
  refine (open_any h4 ⟨#[97]⟩ (fun _ => rfl)).mono ?_
  rw [o1]
  rintro e w5 ⟨rfl, _, k5⟩
  obtain ⟨F5, nb5, h5, hU5⟩ := k5 rfl
  clear k5
  obtain ⟨hb7, hF5⟩ := upd_below hb6 hF4 hU5
  clear hb6 hF4 hU5 h4 o1
  go_wp2_with fail
  have o2 : openErr [⟨⟨#[97]⟩, nb5, .slice none 0 0⟩] ⟨#[98]⟩ = 0 := rfl
  refine (open_any h5 ⟨#[98]⟩ (fun _ => rfl)).mono ?_
  rw [show ([] : List AccE) ++ [⟨⟨#[97]⟩, nb5, .slice none 0 0⟩] = [⟨⟨#[97]⟩, nb5, .slice none 0 0⟩] from rfl, o2]
  rintro e w6 ⟨rfl, _, k6⟩
  obtain ⟨F6, nb6, h6, hU6⟩ := k6 rfl
  clear k6
  obtain ⟨hb8, hF6⟩ := upd_below hb7 hF5 hU6
  clear hb7 hF5 hU6 h5 o2
  go_wp2_with fail
  have hB0 := Blk.new w6 #[.string ⟨#[97]⟩, .int .i64 5, .string ⟨#[98]⟩, .int .i64 (-5)] 50
  have hb9 := hb8.alloc hb8.size (.cells #[.string ⟨#[97]⟩, .int .i64 5, .string ⟨#[98]⟩, .int .i64 (-5)] 50)
  have h7 := h6.below ((Below.refl _ _).alloc (Nat.le_refl _) (.cells #[.string ⟨#[97]⟩, .int .i64 5, .string ⟨#[98]⟩, .int .i64 (-5)] 50))
  have hnF : ¬ F6 w6.heap.size := fun hf => by have := h6.fin _ hf; omega
  generalize w6.alloc (.cells #[.string ⟨#[97]⟩, .int .i64 5, .string ⟨#[98]⟩, .int .i64 (-5)] 50) = w7 at *
  have hpost := Post_any h7 3 [⟨⟨#[97]⟩, 5⟩, ⟨⟨#[98]⟩, -5⟩] (some ⟨w6.heap.size, 0, none⟩) 2
    (fun W hW => C_two (x := (⟨⟨#[97]⟩, 5⟩ : Pst)) (y := ⟨⟨#[98]⟩, -5⟩) (hB0.fr hW hnF) rfl (kPst_mk W ⟨⟨#[97]⟩, 5⟩) (kPst_mk W ⟨⟨#[98]⟩, -5⟩)) (by simp; decide) ⟨by simp, by simp [bal], by decide, by decide⟩
  refine hpost.mono ?_
  rintro e w8 ⟨hP, _⟩
  obtain ⟨rfl, F8, v8, accs8, h8, hn8, hU8⟩ := hP alive_post
  clear hpost hP
  obtain ⟨hb10, hF8⟩ := upd_below hb9 hF6 hU8
  clear hb8 hb9 hF6 hU8 h6 h7 hB0 hnF
  go_wp2_with fail
  refine (Balance_any h8 ⟨#[98]⟩ 3).mono ?_
  rw [balVal_names hn8, balErr_names hn8]
  obtain ⟨q1, q2⟩ := alive_bal ⟨⟨#[97]⟩, nb5, .slice none 0 0⟩ ⟨⟨#[98]⟩, nb6, .slice none 0 0⟩ rfl rfl
  rw [show ([⟨⟨#[97]⟩, nb5, .slice none 0 0⟩] : List AccE) ++ [⟨⟨#[98]⟩, nb6, .slice none 0 0⟩] = [⟨⟨#[97]⟩, nb5, .slice none 0 0⟩, ⟨⟨#[98]⟩, nb6, .slice none 0 0⟩] from rfl, q1, q2]
  rintro e w9 ⟨rfl, hb11⟩
  have hb12 := below_t hb10 hb11
  clear hb10 hb11 h8 q1 q2
  go_wp2_with fail
  go_ret
  exact ⟨rfl, hb12⟩
end Go.Proofs.Ytcobihdjcdefmaa
