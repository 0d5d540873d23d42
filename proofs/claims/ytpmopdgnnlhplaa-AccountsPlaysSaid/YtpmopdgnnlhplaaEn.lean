/-
  The walks of Clone and enter.
-/
import Derived.Test.YtpmopdgnnlhplaaWy
import Derived.Deep.LoopGhost
namespace Go.Proofs.Ytpmopdgnnlhplaa
open Go.RowKit Go.Proofs.YtpmopdgnnlhplaaW.PrintWords
theorem info36 : (Try.prog.info? 36).map (fun i => (i.zero, i.size, i.bytes)) = some (some (.agg #[.string ⟨#[]⟩, .int .i64 0]), 2, 24) := by kernel_rfl
theorem info34 : (Try.prog.info? 34).map (fun i => (i.zero, i.size, i.bytes)) = some (some (.agg #[.int .i64 0, .int .i64 0, .slice none 0 0, .int .i64 0, .int .u64 0]), 5, 56) := by kernel_rfl
theorem info90 : (Try.prog.info? 90).map (fun i => (i.zero, i.size, i.bytes)) = some (some (.agg #[.int .i64 0, .int .i64 0, .int .i64 0, .int .i64 0]), 4, 32) := by kernel_rfl
set_option maxHeartbeats 800000 in
theorem clone_any (w : World) (A : Option Addr) (c : Nat) (ps : List Pst) (hps : Kd.C kPst w A ps.length ps) (hl : ps.length * 24 ≤ 140737488355328) :
    Calls Try.prog 91 #[.slice A ps.length c] w fun e w' => (∃ v, e = .returned v ∧ Kd.R kPst 36 w' w.heap.size (fun k => w.heap.size ≤ k) v ps) ∧ Below w.heap.size w w' := by
  cases A with
  | none =>
    have h0 : ps = [] := by
      rcases Nat.eq_zero_or_pos ps.length with h | h
      · exact List.eq_nil_of_length_eq_zero h
      · obtain ⟨ad, h1, _⟩ := hps.2.2 h; cases h1
    subst h0
    have he := Lib.run_eql_slice_nil (P := Try.prog) w 31 36 none 0 c 0 0 Try.underlying31
    go_enter Try.func91, Try.ntmps91
    go_wp2
    go_ret
    exact ⟨⟨_, rfl, Kd.R_nil _ _ _ _ _⟩, Below.refl _ _⟩
  | some ad =>
    have he := Lib.run_eql_slice_nil (P := Try.prog) w 31 36 (some ad) ps.length c 0 0 Try.underlying31
    go_enter Try.func91, Try.ntmps91
    have hC := Kd.C_below hps ((Below.refl _ w).alloc (Nat.le_refl _) (.cells #[] 36))
    have hbelow := (Below.refl w.heap.size w).alloc (Nat.le_refl _) (.cells #[] 36)
    have hnew : Kd.R kPst 36 (w.alloc (.cells #[] 36)) w.heap.size (fun k => w.heap.size ≤ k) (.slice (some ⟨w.heap.size, 0, none⟩) 0 0) [] :=
      ⟨fun k hk => by have : w.heap.size = k := by simpa [Value.ownBlock] using hk
                      omega, [], ⟨by simp, .inr ⟨w.heap.size, 0, #[], rfl, Nat.le_refl _, (MapKept.heap_alloc w _).1, Nat.le_refl _, by decide, by simp, by simp⟩⟩, Reps.none _ _⟩
    have hKM : ∀ (x : Pst) (cs : List Value), kPst.K (w.alloc (.cells #[] 36)) x cs → kPst.M (w.alloc (.cells #[] 36)) w.heap.size (fun _ => False) x cs := fun x cs hK => by
      rw [kPst_open hK]; exact kPst_mkM x
    have hfresh : ∀ k, (w.alloc (.cells #[] 36)).heap.size ≤ k → w.heap.size ≤ k := fun k hk => by simp at hk; omega
    have hl' : (([] : List Pst).length + ps.length) * 24 ≤ 140737488355328 := by simp; omega
    go_wp2_with (at_builtin; refine Kd.R_append_rows kPst (Rr := kPst.K (w.alloc (.cells #[] 36))) (w0 := w) w.heap.size rfl _ _ 31 36 (.agg #[.string ⟨#[]⟩, .int .i64 0]) 24 rfl Try.underlying31 info36 rfl (by decide) (by decide) (.slice (some ⟨w.heap.size, 0, none⟩) 0 0) [] ps (some ad) ps.length c (fun k => w.heap.size ≤ k) (fun _ => False) rfl rfl hnew hC hKM (fun _ hk => hk.elim) hfresh hbelow (by simp) hl' ?_; intro v1 w1 hR1 hb1 hg1 hat1)
    go_ret
    exact ⟨⟨v1, rfl, hR1⟩, hb1⟩
theorem clone_sl (w : World) (A : Option Addr) (c : Nat) (ps : List Pst) (hps : Kd.C kPst w A ps.length ps) (hl : ps.length * 24 ≤ 140737488355328) :
    Calls Try.prog 91 #[.slice A ps.length c] w fun e w' => (∃ A5 c5, e = .returned (.slice A5 ps.length c5) ∧ Kd.R kPst 36 w' w.heap.size (fun k => w.heap.size ≤ k) (.slice A5 ps.length c5) ps) ∧ Below w.heap.size w w' :=
  (clone_any w A c ps hps hl).mono fun e w' h => by
    obtain ⟨⟨v, rfl, hR⟩, hb⟩ := h
    obtain ⟨A5, c5, rfl, _⟩ := Kd.R_reads hR
    exact ⟨⟨A5, c5, rfl, hR⟩, hb⟩
section
variable {P : Program} {ops : Array Oper} {o : Oper} {a : Act} {Q : Exit → Act → World → Prop} {Kc : Act → World → Prop} {α : Type}
/-- 'append(v, x)' inside a region that draws: the box behind the draw. -/
theorem R_append_step_d (d : Kd α) {W : World} (hw : Region.wanted o (yielded ops a.tmps) = true) (s x : Operand) (t e : TypeId) (z : Value) (bytes : Nat)
    (ho : o.op = .call { callee := .builtin .append, args := #[s, x], argTypes := #[t, t] })
    (ht : P.underlying t = some (.slice e)) (hinfo : (P.info? e).map (fun i => (i.zero, i.size, i.bytes)) = some (some z, d.sz, bytes)) (hz : z.cells.size = d.sz) (hs0 : 0 < d.sz) (hb0 : 0 < bytes)
    (v : Value) (xs : List α) (p : α) (cs : List Value) (ok okp : Nat → Prop) (hs : a.eval s = v) (hx : a.eval x = .slice (some ⟨W.heap.size, 0, none⟩) 1 1) (hp : d.M W 0 okp p cs) (hokp : ∀ k, okp k → ok k ∧ some k ≠ v.ownBlock) (hfresh : ∀ k, W.heap.size ≤ k → ok k)
    (HO : d.R e W 0 ok v xs) (hl : (xs.length + 1) * bytes ≤ 140737488355328)
    (h : ∀ A1 c1 w1, d.R e w1 0 ok (.slice A1 (xs.length + 1) c1) (xs ++ [p]) → W.grownBy w1 v.ownBlock → ((Value.slice A1 (xs.length + 1) c1).ownBlock = v.ownBlock ∨ ∃ b, (Value.slice A1 (xs.length + 1) c1).ownBlock = some b ∧ W.heap.size ≤ b) → Kc (a.put o.dst (.slice A1 (xs.length + 1) c1)) w1) :
    if Region.wanted o (yielded ops a.tmps) = true then Oper.wp P o a (W.alloc (.cells cs.toArray e)).drew Kc Q else Kc (a.put o.dst undef) (W.alloc (.cells cs.toArray e)).drew := by
  have hm : ∀ k, ok k → W.drew.heap[k]? = W.heap[k]? := fun _ _ => rfl
  refine Kd.R_append_step d (W := W.drew) (w0 := W.drew) 0 hw s x t e z bytes ho ht hinfo hz hs0 hb0 v xs p cs ok okp hs hx (d.M_move (w := W) (w1 := W.drew) (fun _ _ => rfl) hp) hokp hfresh (Kd.R_move (w := W) (w1 := W.drew) HO (fun _ _ => rfl)) (Below.refl _ _) (Nat.zero_le _) hl ?_
  intro v1 w1 hR hb hg hat
  obtain ⟨A1, c1, rfl, _⟩ := Kd.R_reads hR
  have e1 : (xs ++ [p]).length = xs.length + 1 := by simp
  rw [e1] at hR hat ⊢
  exact h A1 c1 w1 hR ⟨hg.os, hg.tape, hg.output, hg.size, hg.block⟩ hat
/-- 'append(v, x)', the new block behind the alloc of the one-element slice. -/
theorem R_append_step_0 (d : Kd α) {W : World} (hw : Region.wanted o (yielded ops a.tmps) = true) (s x : Operand) (t e : TypeId) (z : Value) (bytes : Nat)
    (ho : o.op = .call { callee := .builtin .append, args := #[s, x], argTypes := #[t, t] })
    (ht : P.underlying t = some (.slice e)) (hinfo : (P.info? e).map (fun i => (i.zero, i.size, i.bytes)) = some (some z, d.sz, bytes)) (hz : z.cells.size = d.sz) (hs0 : 0 < d.sz) (hb0 : 0 < bytes)
    (v : Value) (xs : List α) (p : α) (cs : List Value) (ok okp : Nat → Prop) (hs : a.eval s = v) (hx : a.eval x = .slice (some ⟨W.heap.size, 0, none⟩) 1 1) (hp : d.M W 0 okp p cs) (hokp : ∀ k, okp k → ok k ∧ some k ≠ v.ownBlock) (hfresh : ∀ k, W.heap.size ≤ k → ok k)
    (HO : d.R e W 0 ok v xs) (hl : (xs.length + 1) * bytes ≤ 140737488355328)
    (h : ∀ A1 c1 w1, d.R e w1 0 ok (.slice A1 (xs.length + 1) c1) (xs ++ [p]) → W.grownBy w1 v.ownBlock → ((Value.slice A1 (xs.length + 1) c1).ownBlock = v.ownBlock ∨ ∃ b, (Value.slice A1 (xs.length + 1) c1).ownBlock = some b ∧ W.heap.size ≤ b) → Kc (a.put o.dst (.slice A1 (xs.length + 1) c1)) w1) :
    if Region.wanted o (yielded ops a.tmps) = true then Oper.wp P o a (W.alloc (.cells cs.toArray e)) Kc Q else Kc (a.put o.dst undef) (W.alloc (.cells cs.toArray e)) := by
  refine Kd.R_append_step d (W := W) (w0 := W) 0 hw s x t e z bytes ho ht hinfo hz hs0 hb0 v xs p cs ok okp hs hx hp hokp hfresh HO (Below.refl _ _) (Nat.zero_le _) hl ?_
  intro v1 w1 hR hb hg hat
  obtain ⟨A1, c1, rfl, _⟩ := Kd.R_reads hR
  have e1 : (xs ++ [p]).length = xs.length + 1 := by simp
  rw [e1] at hR hat ⊢
  exact h A1 c1 w1 hR hg hat
end
section
variable {w w1 : World} {F : Nat → Prop} {g : Nat} {v : Value} {rm am : Nat} {accs : List AccE} {recs : List Rc} {rows : ByteArray → List Rw} {rl : List (Int × Value)}
theorem LedH.led_grown (h : LedH w F g v rm am accs recs rows rl) (hg : w.grownBy w1 v.ownBlock) : Blk w1 g #[v, .map (some rm), .map (some am)] 97 := by
  refine (hg.block g h.blk.lt (fun e => ?_)).trans h.blk
  obtain ⟨cells, hc⟩ := R_typed h.hrecs g e.symm
  have := h.blk
  unfold Blk at this
  rw [hc] at this; cases this
theorem LedH.acc_grown {x : AccE} (h : LedH w F g v rm am accs recs rows rl) (hx : x ∈ accs) (hg : w.grownBy w1 x.rv.ownBlock) : Blk w1 x.blk #[x.rv] 105 := by
  obtain ⟨hx1, hx2, hx3⟩ := h.haccs x hx
  refine (hg.block x.blk hx2.lt (fun e => ?_)).trans hx2
  obtain ⟨cells, hc⟩ := R_typed hx3 x.blk e.symm
  unfold Blk at hx2
  rw [hc] at hx2; cases hx2
end
def rowsAt (recs : List Rc) (r : Rc) (left : List (ByteArray × Value)) (a : ByteArray) : List Rw := if left.any (fun q => decide (q.1 = a)) then rowsOf a recs 0 else rowsOf a (recs ++ [r]) 0
theorem rowsAt_end (recs : List Rc) (r : Rc) : rowsAt recs r [] = fun a => rowsOf a (recs ++ [r]) 0 := rfl
theorem rowsAt_start {recs : List Rc} {r : Rc} {l : List (ByteArray × Value)} (h : ∀ a, mget l a = none → inn r.ps a = false) : rowsAt recs r l = fun a => rowsOf a recs 0 := by
  funext a
  unfold rowsAt
  by_cases ha : l.any (fun q => decide (q.1 = a)) = true
  · rw [if_pos ha]
  · rw [if_neg ha]
    have h1 : mget l a = none := mget_none.2 fun p hp e => ha (List.any_eq_true.2 ⟨p, hp, by simpa using e⟩)
    rw [rowsOf_append]
    simp [rowsOf, h a h1]
theorem rowsAt_mem {recs : List Rc} {r : Rc} {left : List (ByteArray × Value)} {p : ByteArray × Value} (hp : p ∈ left) : rowsAt recs r left p.1 = rowsOf p.1 recs 0 := by
  unfold rowsAt
  rw [if_pos (List.any_eq_true.2 ⟨p, hp, by simp⟩)]
theorem rowsAt_step {recs : List Rc} {r : Rc} {left : List (ByteArray × Value)} {p : ByteArray × Value} (hp : p ∈ left) (hi : inn r.ps p.1 = true) :
    (fun a => if a = p.1 then rowsAt recs r left a ++ [⟨r.no, r.day, part r.ps p.1, bal recs p.1 + part r.ps p.1⟩] else rowsAt recs r left a) = rowsAt recs r (left.filter (fun q => !decide (q.1 = p.1))) := by
  funext a
  by_cases ha : a = p.1
  · subst ha
    rw [if_pos rfl, rowsAt_mem hp]
    unfold rowsAt
    rw [if_neg, rowsOf_append]
    · simp [rowsOf, hi]
    · intro h
      obtain ⟨q, hq, hq2⟩ := List.any_eq_true.1 h
      have := (List.mem_filter.1 hq).2
      simp at this hq2
      exact this hq2
  · rw [if_neg ha]
    unfold rowsAt
    have : left.any (fun q => decide (q.1 = a)) = (left.filter (fun q => !decide (q.1 = p.1))).any (fun q => decide (q.1 = a)) := by
      rw [Bool.eq_iff_iff, List.any_eq_true, List.any_eq_true]
      constructor
      · rintro ⟨q, hq, hq2⟩
        have hq2 : q.1 = a := by simpa using hq2
        exact ⟨q, List.mem_filter.2 ⟨hq, by simp [hq2, ha]⟩, by simpa using hq2⟩
      · rintro ⟨q, hq, hq2⟩
        exact ⟨q, (List.mem_filter.1 hq).1, hq2⟩
    rw [this]
theorem rowsOf_len (a : ByteArray) (recs : List Rc) : ∀ b, (rowsOf a recs b).length ≤ recs.length := by
  induction recs with
  | nil => intro b; simp [rowsOf]
  | cons x r ih => intro b; unfold rowsOf; split <;> simp <;> have := ih b <;> have := ih (b + part x.ps a) <;> omega
end Go.Proofs.Ytpmopdgnnlhplaa
