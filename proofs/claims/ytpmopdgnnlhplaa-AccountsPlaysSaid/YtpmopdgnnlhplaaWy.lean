/-
  The walks of why, and of the deferred closures that recover.
-/
import Derived.Test.YtpmopdgnnlhplaaFi
import Derived.Recover
namespace Go.Proofs.Ytpmopdgnnlhplaa
open Go.RowKit Go.Proofs.YtpmopdgnnlhplaaW.PrintWords
set_option maxHeartbeats 400000 in
theorem why_nil (n : Int) (w : World) : Calls Try.prog 61 #[.nilIface, .int .i64 n] w fun e w' => e = .returned (.int .i64 n) ∧ w = w' := by
  go_enter Try.func61, Try.ntmps61
  go_wp2
  go_ret
  exact ⟨rfl, rfl⟩
set_option maxHeartbeats 400000 in
theorem why_ref (m n : Int) (w : World) : Calls Try.prog 61 #[.iface 135 (.agg #[.int .i64 m]), .int .i64 n] w fun e w' => e = .returned (.int .i64 m) ∧ w.alloc (.cells #[.int .i64 m] 135) = w' := by
  have h1 : ∀ w, (binOp .eql 20 (.iface 135 (.agg #[.int .i64 m])) .nilIface).run Try.prog w = .ok (.bool false) w := fun w => by kernel_rfl
  have h2 : ∀ w, (Instr.typeAssert (.iface 135 (.agg #[.int .i64 m])) 20 135 true).run Try.prog w = .ok (.tuple #[.agg #[.int .i64 m], .bool true]) w := fun w => by kernel_rfl
  go_enter Try.func61, Try.ntmps61
  go_wp2
  go_ret
  exact ⟨rfl, rfl⟩
/-! ### A region with recover that draws its order -/
theorem wpS_region_draw {P : Program} {id : Nat} {ops : Array Oper} {Q : Exit → Act → List Frame → World → Prop} {a : Act} {cs : List Frame} {w : World}
    (h : ∀ t, wpOpsS P ops Q (Region.schedule (P.follows .mixedOrders) ops t) a cs w.drew) : (Code.region id ops true).wpS P Q a cs w :=
  fun b k hb hr => let ⟨e, a', cs', w', q, r⟩ := wp_opsS _ a cs _ (h (w.tape w.drawn (.order b.fn id))) b k hb hr; ⟨e, a', cs', w', q, .of_steps (.one step_region_draw) r⟩
theorem go_step (md : Region.Mode) (ops : Array Oper) (fuel t : Nat) (listed : Array Bool) (acc : List Nat) :
    Region.linearise.go md ops (fuel + 1) t listed acc = match (Region.ready md ops listed)[t % (Region.ready md ops listed).length]? with
      | some i => Region.linearise.go md ops fuel (t / (Region.ready md ops listed).length) (listed.setIfInBounds i true) (i :: acc)
      | none => acc.reverse := rfl
theorem sched2 (ops : Array Oper) (h0 : Region.ready .any ops #[false, false, false, false] = [0, 1]) (h1 : Region.ready .any ops #[true, false, false, false] = [1])
    (h2 : Region.ready .any ops #[false, true, false, false] = [0]) (h3 : Region.ready .any ops #[true, true, false, false] = [2]) (h4 : Region.ready .any ops #[true, true, true, false] = [3]) (t : Nat) :
    Region.linearise.go .any ops 4 t #[false, false, false, false] [] = [0, 1, 2, 3] ∨ Region.linearise.go .any ops 4 t #[false, false, false, false] [] = [1, 0, 2, 3] := by
  rcases Nat.mod_two_eq_zero_or_one t with h | h
  · left
    rw [go_step, h0]
    simp only [List.length_cons, List.length_nil, Nat.zero_add, Nat.reduceAdd, h]
    show Region.linearise.go .any ops 3 _ #[true, false, false, false] [0] = _
    rw [go_step, h1]
    simp only [List.length_cons, List.length_nil, Nat.zero_add, Nat.mod_one, Nat.div_one]
    show Region.linearise.go .any ops 2 _ #[true, true, false, false] [1, 0] = _
    rw [go_step, h3]
    simp only [List.length_cons, List.length_nil, Nat.zero_add, Nat.mod_one, Nat.div_one]
    show Region.linearise.go .any ops 1 _ #[true, true, true, false] [2, 1, 0] = _
    rw [go_step, h4]
    simp only [List.length_cons, List.length_nil, Nat.zero_add, Nat.mod_one, Nat.div_one]
    rfl
  · right
    rw [go_step, h0]
    simp only [List.length_cons, List.length_nil, Nat.zero_add, Nat.reduceAdd, h]
    show Region.linearise.go .any ops 3 _ #[false, true, false, false] [1] = _
    rw [go_step, h2]
    simp only [List.length_cons, List.length_nil, Nat.zero_add, Nat.mod_one, Nat.div_one]
    show Region.linearise.go .any ops 2 _ #[true, true, false, false] [0, 1] = _
    rw [go_step, h3]
    simp only [List.length_cons, List.length_nil, Nat.zero_add, Nat.mod_one, Nat.div_one]
    show Region.linearise.go .any ops 1 _ #[true, true, true, false] [2, 0, 1] = _
    rw [go_step, h4]
    simp only [List.length_cons, List.length_nil, Nat.zero_add, Nat.mod_one, Nat.div_one]
    rfl
theorem follows_mixed : Try.prog.follows .mixedOrders = true := by kernel_rfl
theorem sched_rec (ops : Array Oper) (hs : ops.size = 4) (h0 : Region.ready .any ops #[false, false, false, false] = [0, 1]) (h1 : Region.ready .any ops #[true, false, false, false] = [1])
    (h2 : Region.ready .any ops #[false, true, false, false] = [0]) (h3 : Region.ready .any ops #[true, true, false, false] = [2]) (h4 : Region.ready .any ops #[true, true, true, false] = [3]) (t : Nat) :
    Region.schedule true ops t = [0, 1, 2, 3] ∨ Region.schedule true ops t = [1, 0, 2, 3] := by
  have e : Region.schedule true ops t = Region.linearise.go .any ops ops.size t (Array.replicate ops.size false) [] := rfl
  rw [e, hs]
  exact sched2 ops h0 h1 h2 h3 h4 t
theorem wpOpsS_rec {P : Program} {ops : Array Oper} {Q : Exit → Act → List Frame → World → Prop} {a : Act} {cs : List Frame} {w : World} (hs : ops.size = 4) (h0 : Region.ready .any ops #[false, false, false, false] = [0, 1])
    (h1 : Region.ready .any ops #[true, false, false, false] = [1]) (h2 : Region.ready .any ops #[false, true, false, false] = [0]) (h3 : Region.ready .any ops #[true, true, false, false] = [2]) (h4 : Region.ready .any ops #[true, true, true, false] = [3])
    (hA : wpOpsS P ops Q [0, 1, 2, 3] a cs w) (hB : wpOpsS P ops Q [1, 0, 2, 3] a cs w) (t : Nat) : wpOpsS P ops Q (Region.schedule true ops t) a cs w := by
  rcases sched_rec ops hs h0 h1 h2 h3 h4 t with h | h <;> rw [h]
  · exact hA
  · exact hB
set_option maxHeartbeats 800000 in
theorem rec60_idle (b : Nat) (n : Int) (w : World) (hc : Blk w b #[.int .i64 n] 24) :
    CallsD Try.prog 60 #[.pointer (some ⟨b, 0, none⟩)] .returning w fun e u' w' => e = .returned (.tuple #[]) ∧ u' = .returning ∧ Blk w' b #[.int .i64 n] 24 ∧ Fr (· = b) w w' := by
  have c0 := hc.cell 0 (v := .int .i64 n) rfl
  have f0 := hc.free 0
  have hs := hc.set 0 (.int .i64 n)
  have hfr := ((Fr.refl (· = b) w).drew).setCell (p := ⟨b, 0, none⟩) (.inl rfl) (.int .i64 n)
  have HS := Lib.hid hs
  have HF := Lib.hid hfr
  clear hc hs hfr
  refine callsD_of_wpS Try.func60 rfl fun c₀ cs hu => ?_
  apply wpS_region_draw
  intro t
  rw [follows_mixed]
  refine wpOpsS_rec rfl (by kernel_rfl) (by kernel_rfl) (by kernel_rfl) (by kernel_rfl) (by kernel_rfl) ?_ ?_ t
  all_goals
    simp [wpOpsS, go_sem, recoverD, hu, Try.ntmps60, c0]
    refine (why_nil n _).mono ?_
    rintro e w1 ⟨rfl, rfl⟩
    simp [go_sem, c0, f0, bodyPostS, results, Try.results60]
    exact ⟨c₀.mode, rfl, hu, HS.out, HF.out⟩
set_option maxHeartbeats 800000 in
theorem rec60_caught (b : Nat) (m n : Int) (w : World) (hc : Blk w b #[.int .i64 n] 24) :
    CallsD Try.prog 60 #[.pointer (some ⟨b, 0, none⟩)] (.panicking (refusal m)) w fun e u' w' => e = .returned (.tuple #[]) ∧ u' = .panicking [{ v := .iface 135 (.agg #[.int .i64 m]), recovered := true }] ∧ Blk w' b #[.int .i64 m] 24 ∧ Fr (· = b) w w' := by
  have c0 := hc.cell 0 (v := .int .i64 n) rfl
  have f0 := hc.free 0
  have hlt := hc.lt
  have hs := (hc.set 0 (.int .i64 m)).alloc (.cells #[.int .i64 m] 135)
  have hfr := (((Fr.refl (· = b) w).setCell (p := ⟨b, 0, none⟩) (.inl rfl) (.int .i64 m)).alloc (.cells #[.int .i64 m] 135)).drew
  have HS := Lib.hid hs
  have HF := Lib.hid hfr
  clear hc hs hfr
  unfold refusal
  refine callsD_of_wpS Try.func60 rfl fun c₀ cs hu => ?_
  apply wpS_region_draw
  intro t
  rw [follows_mixed]
  refine wpOpsS_rec rfl (by kernel_rfl) (by kernel_rfl) (by kernel_rfl) (by kernel_rfl) (by kernel_rfl) ?_ ?_ t
  all_goals
    simp [wpOpsS, go_sem, recoverD, hu, Try.ntmps60, c0]
    refine (why_ref m n _).mono ?_
    rintro e w1 ⟨rfl, rfl⟩
    simp [go_sem, c0, f0, hlt, bodyPostS, results, Try.results60]
    exact ⟨HS.out, HF.out⟩
set_option maxHeartbeats 800000 in
theorem rec75_idle (b : Nat) (n : Int) (w : World) (hc : Blk w b #[.int .i64 n] 24) :
    CallsD Try.prog 75 #[.pointer (some ⟨b, 0, none⟩)] .returning w fun e u' w' => e = .returned (.tuple #[]) ∧ u' = .returning ∧ Blk w' b #[.int .i64 n] 24 ∧ Fr (· = b) w w' := by
  have c0 := hc.cell 0 (v := .int .i64 n) rfl
  have f0 := hc.free 0
  have hs := hc.set 0 (.int .i64 n)
  have hfr := ((Fr.refl (· = b) w).drew).setCell (p := ⟨b, 0, none⟩) (.inl rfl) (.int .i64 n)
  have HS := Lib.hid hs
  have HF := Lib.hid hfr
  clear hc hs hfr
  refine callsD_of_wpS Try.func75 rfl fun c₀ cs hu => ?_
  apply wpS_region_draw
  intro t
  rw [follows_mixed]
  refine wpOpsS_rec rfl (by kernel_rfl) (by kernel_rfl) (by kernel_rfl) (by kernel_rfl) (by kernel_rfl) ?_ ?_ t
  all_goals
    simp [wpOpsS, go_sem, recoverD, hu, Try.ntmps75, c0]
    refine (why_nil n _).mono ?_
    rintro e w1 ⟨rfl, rfl⟩
    simp [go_sem, c0, f0, bodyPostS, results, Try.results75]
    exact ⟨c₀.mode, rfl, hu, HS.out, HF.out⟩
set_option maxHeartbeats 800000 in
theorem rec75_caught (b : Nat) (m n : Int) (w : World) (hc : Blk w b #[.int .i64 n] 24) :
    CallsD Try.prog 75 #[.pointer (some ⟨b, 0, none⟩)] (.panicking (refusal m)) w fun e u' w' => e = .returned (.tuple #[]) ∧ u' = .panicking [{ v := .iface 135 (.agg #[.int .i64 m]), recovered := true }] ∧ Blk w' b #[.int .i64 m] 24 ∧ Fr (· = b) w w' := by
  have c0 := hc.cell 0 (v := .int .i64 n) rfl
  have f0 := hc.free 0
  have hlt := hc.lt
  have hs := (hc.set 0 (.int .i64 m)).alloc (.cells #[.int .i64 m] 135)
  have hfr := (((Fr.refl (· = b) w).setCell (p := ⟨b, 0, none⟩) (.inl rfl) (.int .i64 m)).alloc (.cells #[.int .i64 m] 135)).drew
  have HS := Lib.hid hs
  have HF := Lib.hid hfr
  clear hc hs hfr
  unfold refusal
  refine callsD_of_wpS Try.func75 rfl fun c₀ cs hu => ?_
  apply wpS_region_draw
  intro t
  rw [follows_mixed]
  refine wpOpsS_rec rfl (by kernel_rfl) (by kernel_rfl) (by kernel_rfl) (by kernel_rfl) (by kernel_rfl) ?_ ?_ t
  all_goals
    simp [wpOpsS, go_sem, recoverD, hu, Try.ntmps75, c0]
    refine (why_ref m n _).mono ?_
    rintro e w1 ⟨rfl, rfl⟩
    simp [go_sem, c0, f0, hlt, bodyPostS, results, Try.results75]
    exact ⟨HS.out, HF.out⟩
end Go.Proofs.Ytpmopdgnnlhplaa
