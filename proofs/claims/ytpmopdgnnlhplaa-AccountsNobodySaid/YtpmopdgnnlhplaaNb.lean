/-
  The walk of the law AccountsNobody: a nil ledger, and the type's zero value.
-/
import Derived.Test.YtpmopdgnnlhplaaRv
import Derived.Test.YtpmopdgnnlhplaaAl
import Derived.Test.YtpmopdgnnlhplaaRk
namespace Go.Proofs.Ytpmopdgnnlhplaa
open Go.RowKit Go.Proofs.YtpmopdgnnlhplaaW.PrintWords
/-- A pointer behind which there is no ledger. -/
def NoLed (w : World) (p : Option Addr) : Prop := p = none ∨ ∃ g, p = some ⟨g, 0, none⟩ ∧ Blk w g #[.slice none 0 0, .map none, .map none] 97
theorem NoLed.below {w w' : World} {p : Option Addr} (h : NoLed w p) (hb : Below w.heap.size w w') : NoLed w' p := by
  rcases h with rfl | ⟨g, rfl, h⟩
  · exact .inl rfl
  · exact .inr ⟨g, rfl, (hb.block g h.lt).trans h⟩
theorem made_no {w : World} {p : Option Addr} (h : NoLed w p) : Calls Try.prog 58 #[.pointer p] w fun e w' => e = .returned (.bool false) ∧ w = w' := by
  rcases h with rfl | ⟨g, rfl, h⟩
  · exact made_nil w
  · exact made_zero w g (h.cell 2 rfl)
section
variable {w : World} {p : Option Addr}
theorem Open_no (h : NoLed w p) (n : ByteArray) : Calls Try.prog 26 #[.pointer p, .string n] w fun e w' => e = .returned (.int .i64 1) ∧ w = w' := by
  go_enter Try.func26, Try.ntmps26
  go_wp2_with (go_at_call 58; refine (made_no h).mono ?_; rintro e w1 ⟨rfl, rfl⟩)
  go_ret
  exact ⟨rfl, rfl⟩
theorem Records_no (h : NoLed w p) : Calls Try.prog 30 #[.pointer p] w fun e w' => e = .returned (.slice none 0 0) ∧ w = w' := by
  go_enter Try.func30, Try.ntmps30
  go_wp2_with (go_at_call 58; refine (made_no h).mono ?_; rintro e w1 ⟨rfl, rfl⟩)
  go_ret
  exact ⟨rfl, rfl⟩
theorem Copy_no (h : NoLed w p) : Calls Try.prog 35 #[.pointer p] w fun e w' => e = .returned (.pointer none) ∧ w = w' := by
  go_enter Try.func35, Try.ntmps35
  go_wp2_with (go_at_call 58; refine (made_no h).mono ?_; rintro e w1 ⟨rfl, rfl⟩)
  go_ret
  exact ⟨rfl, rfl⟩
theorem Trial_no (h : NoLed w p) (d : Int) : Calls Try.prog 46 #[.pointer p, .int .i64 d] w fun e w' => e = .returned (.tuple #[.slice none 0 0, .int .i64 1]) ∧ w = w' := by
  go_enter Try.func46, Try.ntmps46
  go_wp2_with (go_at_call 58; refine (made_no h).mono ?_; rintro e w1 ⟨rfl, rfl⟩)
  go_ret2
  exact ⟨rfl, rfl⟩
theorem find_no (h : NoLed w p) (a : ByteArray) : Calls Try.prog 65 #[.pointer p, .string a] w fun e w' => e = .returned (.tuple #[.pointer none, .int .i64 1]) ∧ w = w' := by
  go_enter Try.func65, Try.ntmps65
  go_wp2_with (go_at_call 58; refine (made_no h).mono ?_; rintro e w1 ⟨rfl, rfl⟩)
  go_ret2
  exact ⟨rfl, rfl⟩
theorem Balance_no (h : NoLed w p) (a : ByteArray) (d : Int) : Calls Try.prog 29 #[.pointer p, .string a, .int .i64 d] w fun e w' => e = .returned (.tuple #[.int .i64 0, .int .i64 1]) ∧ w = w' := by
  go_enter Try.func29, Try.ntmps29
  go_wp2_with (go_at_call 65; refine (find_no h a).mono ?_; rintro e w1 ⟨rfl, rfl⟩)
  go_ret2
  exact ⟨rfl, rfl⟩
theorem Statement_no (h : NoLed w p) (a : ByteArray) (d f : Int) : Calls Try.prog 49 #[.pointer p, .string a, .int .i64 d, .int .i64 f] w fun e w' => e = .returned (.tuple #[.int .i64 0, .slice none 0 0, .int .i64 1]) ∧ w = w' := by
  go_enter Try.func49, Try.ntmps49
  go_wp2_with (go_at_call 65; refine (find_no h a).mono ?_; rintro e w1 ⟨rfl, rfl⟩)
  refine bodyPost_ret (v := .tuple #[.int .i64 0, .slice none 0 0, .int .i64 1]) (by simp [results, Try.results49, go_sem]) rfl ⟨rfl, rfl⟩
theorem Post_no (h : NoLed w p) (d : Int) (v : Value) : Calls Try.prog 28 #[.pointer p, .int .i64 d, v] w fun e w' => e = .returned (.tuple #[.int .i64 0, .int .i64 1]) ∧ Below w.heap.size w w' := by
  have hmf : ∀ (fn : Fn) (first cap : Array Value) (w : World), (Instr.makeFunc fn first cap).run Try.prog w = .ok (.func fn first cap) w := fun _ _ _ _ => rfl
  go_enter_defers Try.func28, Try.ntmps28
  go_wp2_with fail
  have hB0 := Blk.new w #[.int .i64 0] 24
  have hb0 := (Below.refl w.heap.size w).alloc (Nat.le_refl _) (.cells #[.int .i64 0] 24)
  have h0 := h.below hb0
  refine (made_no h0).mono ?_
  rintro e w1 ⟨rfl, rfl⟩
  go_wp2_with fail
  refine (refuse_yes' 1 _ (by first | rfl | (simp; done))).mono ?_
  rintro e w4 ⟨rfl, rfl⟩
  exact post_die rfl rfl hB0 (fun w' hF => ⟨rfl, hb0.trans (hF.to_below hb0.size (by intro x hx; omega))⟩)
theorem Reverse_no (h : NoLed w p) (n d : Int) : Calls Try.prog 36 #[.pointer p, .int .i64 n, .int .i64 d] w fun e w' => e = .returned (.tuple #[.int .i64 0, .int .i64 1]) ∧ Below w.heap.size w w' := by
  have hmf : ∀ (fn : Fn) (first cap : Array Value) (w : World), (Instr.makeFunc fn first cap).run Try.prog w = .ok (.func fn first cap) w := fun _ _ _ _ => rfl
  go_enter_defers Try.func36, Try.ntmps36
  go_wp2_with fail
  have hB0 := Blk.new w #[.int .i64 0] 24
  have hb0 := (Below.refl w.heap.size w).alloc (Nat.le_refl _) (.cells #[.int .i64 0] 24)
  have h0 := h.below hb0
  refine (made_no h0).mono ?_
  rintro e w1 ⟨rfl, rfl⟩
  go_wp2_with fail
  refine (refuse_yes' 1 _ (by first | rfl | (simp; done))).mono ?_
  rintro e w4 ⟨rfl, rfl⟩
  exact rev_die rfl rfl hB0 (fun w' hF => ⟨rfl, hb0.trans (hF.to_below hb0.size (by intro x hx; omega))⟩)
end
theorem eqnil (w : World) : (binOp .eql 47 (.pointer none) (.pointer none)).run Try.prog w = .ok (.bool true) w := by kernel_rfl
set_option maxRecDepth 100000 in
set_option maxHeartbeats 4000000 in
theorem nobody_walk (x : Ac) (A : Option Addr) (c : Nat) (q : Bool) (w : World) :
    Calls Try.prog 16 #[.agg #[.int .u8 x.kind, .string x.name, .int .i64 x.day, .int .i64 x.no, .slice A x.ps.length c], .bool q] w fun e w' => e = .returned (.bool true) ∧ Below w.heap.size w w' := by
  have hen := eqnil
  have hB := Blk.new w #[.int .u8 x.kind, .string x.name, .int .i64 x.day, .int .i64 x.no, .slice A x.ps.length c] 63
  have hb1 := (Below.refl w.heap.size w).alloc (Nat.le_refl _) (.cells #[.int .u8 x.kind, .string x.name, .int .i64 x.day, .int .i64 x.no, .slice A x.ps.length c] 63)
  go_enter Try.func16, Try.ntmps16
  go_upto_region 2 with fail
  generalize w.alloc (.cells #[.int .u8 x.kind, .string x.name, .int .i64 x.day, .int .i64 x.no, .slice A x.ps.length c] 63) = w1 at *
  cases q with
  | false =>
    have hN : NoLed w1 none := .inl rfl
    have hB2 := hB
    have hb2 := hb1
    have a12 := hB2.cell 1 (v := .string x.name) rfl
    have a22 := hB2.cell 2 (v := .int .i64 x.day) rfl
    have a32 := hB2.cell 3 (v := .int .i64 x.no) rfl
    have a42 := hB2.cell 4 (v := .slice A x.ps.length c) rfl
    go_wp2_with fail
    refine (Post_no hN x.day _).mono ?_
    rintro e w3 ⟨rfl, hb3⟩
    have hB3 : Blk w3 w.heap.size #[.int .u8 x.kind, .string x.name, .int .i64 x.day, .int .i64 x.no, .slice A x.ps.length c] 63 := (hb3.block _ hB2.lt).trans hB2
    have hb4 := below_t hb2 hb3
    have hN3 := hN.below hb3
    clear a12 a22 a32 a42
    have a13 := hB3.cell 1 (v := .string x.name) rfl
    have a23 := hB3.cell 2 (v := .int .i64 x.day) rfl
    have a33 := hB3.cell 3 (v := .int .i64 x.no) rfl
    have a43 := hB3.cell 4 (v := .slice A x.ps.length c) rfl
    go_wp2_with fail
    refine (Reverse_no hN3 x.no x.day).mono ?_
    rintro e w5 ⟨rfl, hb5⟩
    have hB5 : Blk w5 w.heap.size #[.int .u8 x.kind, .string x.name, .int .i64 x.day, .int .i64 x.no, .slice A x.ps.length c] 63 := (hb5.block _ hB3.lt).trans hB3
    have hb6 := below_t hb4 hb5
    have hN5 := hN3.below hb5
    clear a13 a23 a33 a43
    have a15 := hB5.cell 1 (v := .string x.name) rfl
    have a25 := hB5.cell 2 (v := .int .i64 x.day) rfl
    have a35 := hB5.cell 3 (v := .int .i64 x.no) rfl
    have a45 := hB5.cell 4 (v := .slice A x.ps.length c) rfl
    go_wp2_with fail
    refine (Balance_no hN5 x.name x.day).mono ?_
    rintro e w6 ⟨rfl, rfl⟩
    go_wp2_with fail
    refine (Statement_no hN5 x.name x.day x.day).mono ?_
    rintro e w6 ⟨rfl, rfl⟩
    go_wp2_with fail
    refine (Trial_no hN5 x.day).mono ?_
    rintro e w6 ⟨rfl, rfl⟩
    go_wp2_with fail
    refine (Open_no hN5 x.name).mono ?_
    rintro e w6 ⟨rfl, rfl⟩
    go_wp2_with fail
    refine (Records_no hN5).mono ?_
    rintro e w6 ⟨rfl, rfl⟩
    go_wp2_with fail
    refine (Copy_no hN5).mono ?_
    rintro e w6 ⟨rfl, rfl⟩
    go_wp2_with fail
    refine (alive_any _).mono ?_
    rintro e w8 ⟨rfl, hb8⟩
    have hb9 := below_t hb6 hb8
    go_wp2_with fail
    go_ret
    exact ⟨rfl, hb9⟩
  | true =>
    have hN : NoLed (w1.alloc (.cells #[.slice none 0 0, .map none, .map none] 97)) (some ⟨w1.heap.size, 0, none⟩) := .inr ⟨_, rfl, Blk.new w1 _ _⟩
    have hB2 := hB.alloc (.cells #[.slice none 0 0, .map none, .map none] 97)
    have hb2 := hb1.alloc hb1.size (.cells #[.slice none 0 0, .map none, .map none] 97)
    go_upto_region 4 with fail
    generalize w1.alloc (.cells #[.slice none 0 0, .map none, .map none] 97) = w2 at *
    have a12 := hB2.cell 1 (v := .string x.name) rfl
    have a22 := hB2.cell 2 (v := .int .i64 x.day) rfl
    have a32 := hB2.cell 3 (v := .int .i64 x.no) rfl
    have a42 := hB2.cell 4 (v := .slice A x.ps.length c) rfl
    go_wp2_with fail
    refine (Post_no hN x.day _).mono ?_
    rintro e w3 ⟨rfl, hb3⟩
    have hB3 : Blk w3 w.heap.size #[.int .u8 x.kind, .string x.name, .int .i64 x.day, .int .i64 x.no, .slice A x.ps.length c] 63 := (hb3.block _ hB2.lt).trans hB2
    have hb4 := below_t hb2 hb3
    have hN3 := hN.below hb3
    clear a12 a22 a32 a42
    have a13 := hB3.cell 1 (v := .string x.name) rfl
    have a23 := hB3.cell 2 (v := .int .i64 x.day) rfl
    have a33 := hB3.cell 3 (v := .int .i64 x.no) rfl
    have a43 := hB3.cell 4 (v := .slice A x.ps.length c) rfl
    go_wp2_with fail
    refine (Reverse_no hN3 x.no x.day).mono ?_
    rintro e w5 ⟨rfl, hb5⟩
    have hB5 : Blk w5 w.heap.size #[.int .u8 x.kind, .string x.name, .int .i64 x.day, .int .i64 x.no, .slice A x.ps.length c] 63 := (hb5.block _ hB3.lt).trans hB3
    have hb6 := below_t hb4 hb5
    have hN5 := hN3.below hb5
    clear a13 a23 a33 a43
    have a15 := hB5.cell 1 (v := .string x.name) rfl
    have a25 := hB5.cell 2 (v := .int .i64 x.day) rfl
    have a35 := hB5.cell 3 (v := .int .i64 x.no) rfl
    have a45 := hB5.cell 4 (v := .slice A x.ps.length c) rfl
    go_wp2_with fail
    refine (Balance_no hN5 x.name x.day).mono ?_
    rintro e w6 ⟨rfl, rfl⟩
    go_wp2_with fail
    refine (Statement_no hN5 x.name x.day x.day).mono ?_
    rintro e w6 ⟨rfl, rfl⟩
    go_wp2_with fail
    refine (Trial_no hN5 x.day).mono ?_
    rintro e w6 ⟨rfl, rfl⟩
    go_wp2_with fail
    refine (Open_no hN5 x.name).mono ?_
    rintro e w6 ⟨rfl, rfl⟩
    go_wp2_with fail
    refine (Records_no hN5).mono ?_
    rintro e w6 ⟨rfl, rfl⟩
    go_wp2_with fail
    refine (Copy_no hN5).mono ?_
    rintro e w6 ⟨rfl, rfl⟩
    go_wp2_with fail
    refine (alive_any _).mono ?_
    rintro e w8 ⟨rfl, hb8⟩
    have hb9 := below_t hb6 hb8
    go_wp2_with fail
    go_ret
    exact ⟨rfl, hb9⟩
theorem nobody_law {w : World} (x : Ac) (_ : (Lit.int .u8 x.kind).wf = true ∧ x.name.size ≤ 9223372036854775807 ∧ (Lit.int .i64 x.day).wf = true ∧ (Lit.int .i64 x.no).wf = true ∧ (x.ps.length ≤ 9223372036854775807 ∧ ∀ p ∈ x.ps, p.a.size ≤ 9223372036854775807 ∧ (Lit.int .i64 p.c).wf = true)) (A : Option Addr) (c : Nat) (_ : x.ps.length ≤ c) (_ : Kd.C kPst w A x.ps.length x.ps) (q : Bool) :
    Calls Try.prog 16 #[.agg #[.int .u8 x.kind, .string x.name, .int .i64 x.day, .int .i64 x.no, .slice A x.ps.length c], .bool q] w fun e w' => e = .returned (.bool true) ∧ Below w.heap.size w w' := nobody_walk x A c q w
end Go.Proofs.Ytpmopdgnnlhplaa
