/-
  Fill walked (42). Printed by wip/tools/gen_fill42.py.
-/
import Derived.Test.YtpbndcmmclkdpaaZXg
import Derived.Test.YtpbndcmmclkdpaaZGVs
namespace Go.Proofs.Ytpbndcmmclkdpaa
open PFlowSolves
open Go.RowKit Go.Proofs.YtpbndcmmclkdpaaW.PrintWords
structure S119 where
  f0 : Int
  f1 : Int
def z119 : S119 := ⟨(0 : Int), (0 : Int)⟩
def k119 : Kd S119 := Kd.iso (Kd.pair (Kd.int .i64) (Kd.int .i64)) (fun x : S119 => (x.f0, x.f1))
theorem k119_open {w : World} {x : S119} {cs : List Value} (h : k119.K w x cs) : cs = [.int .i64 x.f0, .int .i64 x.f1] := by
  obtain ⟨_, _, rfl, rfl, rfl⟩ := h
  exact rfl
theorem k119_mkM (w : World) (base : Nat) (ok : Nat → Prop) (x : S119) : k119.M w base ok x [.int .i64 x.f0, .int .i64 x.f1] := ⟨[.int .i64 x.f0], [.int .i64 x.f1], rfl, rfl, rfl⟩
def rd_T119 (xs : List S119) (i : Int) : S119 := xs.getD i.toNat z119
theorem at_T119 {w : World} {A : Option Addr} {n : Nat} {xs : List S119} (h : Kd.C k119 w A n xs) (i : Int) (h0 : 0 ≤ i) (h1 : i < n) : ∃ ad, A = some ad ∧ w.cell? (ad.add (i.toNat * 2)) = some (.int .i64 (rd_T119 xs i).f0) ∧ w.cell? ⟨(ad.add (i.toNat * 2)).block, (ad.add (i.toNat * 2)).off + 1, none⟩ = some (.int .i64 (rd_T119 xs i).f1) := by
  obtain ⟨ad, c, e, _, hK, hc0⟩ := Kd.C_get h z119 i h0 h1
  have hc : ∀ j u, c[j]? = some u → w.cell? (ad.add (i.toNat * 2 + j)) = some u := hc0
  obtain rfl := k119_open hK
  exact ⟨ad, e, hc 0 _ rfl, by rw [← add_field _ _ 1 (by omega)]; exact hc 1 _ rfl⟩

theorem info119 : (Try.prog.info? 119).map (fun i => (i.zero, i.size, i.bytes)) = some (some (.agg #[.int .i64 0, .int .i64 0]), 2, 16) := by kernel_rfl
theorem make_pairs (W : World) {m : Nat} (hm : m ≤ 100000) : (Instr.makeSlice 118 (.int .i64 0) (.int .i64 m)).run Try.prog W = .ok (.slice (some ⟨W.heap.size, 0, none⟩) 0 m) (W.alloc (.cells (madeCells #[.int .i64 0, .int .i64 0] (m * 2)) 119 (0, 0))) := by
  obtain ⟨i0, hi, hz⟩ := Option.map_eq_some_iff.1 info119
  obtain ⟨z0, z1, z2⟩ : i0.zero = some (.agg #[.int .i64 0, .int .i64 0]) ∧ i0.size = 2 ∧ i0.bytes = 16 := by simpa using hz
  have h := run_make W 118 119 i0 (.agg #[.int .i64 0, .int .i64 0]) Try.underlying118 hi z0 .i64 .i64 0 (m : Int) (Int.le_refl _) (by omega) (by rw [z2]; omega) (by omega)
  rw [z1, Int.toNat_natCast] at h
  exact h
theorem R_pairs (W : World) {m : Nat} (hm : m ≤ 100000) {base : Nat} (hb : base ≤ W.heap.size) : Kd.R k119 119 (W.alloc (.cells (madeCells #[.int .i64 0, .int .i64 0] (m * 2)) 119 (0, 0))) base (fun _ => True) (.slice (some ⟨W.heap.size, 0, none⟩) 0 m) [] :=
  ⟨fun _ _ => trivial, [], ⟨rfl, .inr ⟨W.heap.size, m, _, rfl, hb, heap_alloc_new W _, Nat.zero_le _, by simp [maxLen]; omega, size_madeCells _ _, rfl⟩⟩, Reps.none _ _⟩
theorem R_type {α : Type} {d : Kd α} {e base : Nat} {ok : Nat → Prop} {w : World} {v : Value} {xs : List α} (h : Kd.R d e w base ok v xs) {b : Nat} (hk : v.ownBlock = some b) : ∃ cs, Blk w b cs e := by
  obtain ⟨_, inner, ho, _⟩ := h
  exact own_typed ho b hk
theorem blk_ne {w : World} {a b : Nat} {cs ds : Array Value} {t u : TypeId} (h : Blk w a cs t) (k : Blk w b ds u) (hne : t ≠ u) : a ≠ b := fun e => by
  subst e
  have := h.symm.trans k
  simp at this
  exact hne this.2
/-- A row stays when another one of other numbers grows. -/
theorem R_apart {α β : Type} {d : Kd α} {d' : Kd β} {e e' base base' : Nat} {ok ok' : Nat → Prop} {w w' : World} {v u : Value} {xs : List α} {ys : List β} (h : Kd.R d e w base ok v xs) (hE : d.E = []) (k : Kd.R d' e' w base' ok' u ys) (hne : e ≠ e') (hg : w.grownBy w' u.ownBlock) : Kd.R d e w' base ok v xs :=
  Kd.R_grown2 h hE hg (fun b hb hv => by
    obtain ⟨cs, h1⟩ := R_type h hv.symm
    obtain ⟨ds, h2⟩ := R_type k hb
    exact blk_ne h1 h2 hne rfl)
/-- A block stays when a row of other numbers grows. -/
theorem blk_apart {β : Type} {d' : Kd β} {e e' base' : Nat} {ok' : Nat → Prop} {w w' : World} {u : Value} {ys : List β} {b : Nat} {cs : Array Value} (h : Blk w b cs e) (k : Kd.R d' e' w base' ok' u ys) (hne : e ≠ e') (hg : w.grownBy w' u.ownBlock) : Blk w' b cs e :=
  h.fr ((Fr.refl (fun x => u.ownBlock = some x) w).grown hg (fun x hx => .inl hx)) (fun hx => by
    obtain ⟨ds, h2⟩ := R_type k hx
    exact blk_ne h h2 hne rfl)
section
variable {P : Program} {ops : Array Oper} {o : Oper} {a : Act} {Q : Exit → Act → World → Prop} {Kc : Act → World → Prop} {α : Type}
/-- 'append(v, x)' inside a region that draws: the box behind the draw. -/
theorem R_append_step_d (d : Kd α) {w0 W : World} (base : Nat) (hw : Region.wanted o (yielded ops a.tmps) = true) (s x : Operand) (t e : TypeId) (z : Value) (bytes : Nat)
    (ho : o.op = .call { callee := .builtin .append, args := #[s, x], argTypes := #[t, t] })
    (ht : P.underlying t = some (.slice e)) (hinfo : (P.info? e).map (fun i => (i.zero, i.size, i.bytes)) = some (some z, d.sz, bytes)) (hz : z.cells.size = d.sz) (hs0 : 0 < d.sz) (hb0 : 0 < bytes)
    (v : Value) (xs : List α) (p : α) (cs : List Value) (ok okp : Nat → Prop) (hs : a.eval s = v) (hx : a.eval x = .slice (some ⟨W.heap.size, 0, none⟩) 1 1) (hp : d.M W base okp p cs) (hokp : ∀ k, okp k → ok k ∧ some k ≠ v.ownBlock) (hfresh : ∀ k, W.heap.size ≤ k → ok k)
    (HO : d.R e W base ok v xs) (HB : Below base w0 W) (hbase : base ≤ W.heap.size) (hl : (xs.length + 1) * bytes ≤ 140737488355328)
    (h : ∀ v1 w1, d.R e w1 base ok v1 (xs ++ [p]) → Below base w0 w1 → W.grownBy w1 v.ownBlock → Kc (a.put o.dst v1) w1) :
    if Region.wanted o (yielded ops a.tmps) = true then Oper.wp P o a (W.alloc (.cells cs.toArray e)).drew Kc Q else Kc (a.put o.dst undef) (W.alloc (.cells cs.toArray e)).drew := by
  refine Kd.R_append_step d (W := W.drew) (w0 := w0) base hw s x t e z bytes ho ht hinfo hz hs0 hb0 v xs p cs ok okp hs hx (d.M_move (w := W) (w1 := W.drew) (fun _ _ => rfl) hp) hokp hfresh (Kd.R_move (w := W) (w1 := W.drew) HO (fun _ _ => rfl)) HB.drew hbase hl ?_
  intro v1 w1 hR hb hg hat
  exact h v1 w1 hR hb ⟨hg.os, hg.tape, hg.output, hg.size, hg.block⟩
end
/-- The arc, and the pair, of a number of the grid. -/
def Ord.arcP (o : Ord) (b : Nat) : Ar := ⟨(1 + b / o.W : Nat), (1 + o.P + b % o.W : Nat), 4096, o.cost (b / o.W) (b % o.W)⟩
def Ord.prP (o : Ord) (b : Nat) : S119 := ⟨(b / o.W : Nat), (b % o.W : Nat)⟩
/-- The program's arcs. -/
def netA (o : Ord) (n : Nat) : List Ar := (List.range n).map o.arcA
theorem netA_next (o : Ord) (n : Nat) : netA o (n + 1) = netA o n ++ [o.arcA n] := by unfold netA; rw [List.range_succ, List.map_append]; rfl
theorem netA_len (o : Ord) (n : Nat) : (netA o n).length = n := by unfold netA; simp
theorem netA_at (o : Ord) {n i : Nat} (h : i < n) : arcF (netA o n) i = o.arcA i := by
  unfold arcF netA
  rw [List.getD_eq_getElem?_getD, List.getElem?_map, List.getElem?_range h]; rfl
/-- The arcs, and the pairs, of the first numbers of the grid. -/
def prsA (o : Ord) (a : Nat) : List Ar := (pairsL o.g a).map o.arcP
def prsP (o : Ord) (a : Nat) : List S119 := (pairsL o.g a).map o.prP
theorem prsA_all (o : Ord) : prsA o (o.P * o.W) = netA o o.s := by
  have hlen : o.s = (pairsL o.g (o.P * o.W)).length := rfl
  apply List.ext_getElem?
  intro j
  unfold prsA netA
  rw [List.getElem?_map, List.getElem?_map]
  by_cases hj : j < o.s
  · rw [Ord.pr_at hj, List.getElem?_range hj]
    show some (o.arcP (o.pr j)) = some (o.arcA j)
    rw [Ord.arcA_pair hj]; rfl
  · rw [List.getElem?_eq_none (by omega), List.getElem?_eq_none (by simp; omega)]; rfl
theorem prs_len (o : Ord) (a : Nat) : (prsA o a).length ≤ a ∧ (prsP o a).length ≤ a := by
  have h : (pairsL o.g a).length ≤ a := rank_le o.g a
  unfold prsA prsP
  rw [List.length_map, List.length_map]
  exact ⟨h, h⟩
theorem prs_next (o : Ord) {a : Nat} (hg : o.g a = true) : prsA o (a + 1) = prsA o a ++ [o.arcP a] ∧ prsP o (a + 1) = prsP o a ++ [o.prP a] := by
  unfold prsA prsP
  rw [pairsL_succ, if_pos hg, List.map_append, List.map_append]
  exact ⟨rfl, rfl⟩
theorem prs_skip (o : Ord) {a : Nat} (hg : o.g a = false) : prsA o (a + 1) = prsA o a ∧ prsP o (a + 1) = prsP o a := by
  unfold prsA prsP
  rw [pairsL_succ, if_neg (by rw [hg]; exact Bool.false_ne_true), List.append_nil]
  exact ⟨rfl, rfl⟩
section
variable {m : Nat} {A B : Nat → Ar} {x y : Nat → Int}
theorem stp_sw (h : ∀ i, i < m → A i = B i) {s : Stp} (hr : Res m A x s) : Res m B x s ∧ frm A s = frm B s ∧ tow A s = tow B s ∧ cst A s = cst B s := by
  obtain ⟨⟨h0, h1⟩, h2⟩ := hr
  have e := h s.f0.toNat (by omega)
  refine ⟨⟨⟨h0, h1⟩, ?_⟩, by unfold frm; rw [e], by unfold tow; rw [e], by unfold cst; rw [e]⟩
  unfold spr at h2 ⊢
  rw [← e]; exact h2
theorem valid_sw (h : ∀ i, i < m → A i = B i) (hv : Valid m A x) : Valid m B x := fun i hi => by rw [← h i hi]; exact hv i hi
theorem bal_sw (h : ∀ i, i < m → A i = B i) (v : Int) : balF m A x v = balF m B x v := sumN_congr fun i hi => by rw [h i hi]
theorem feas_sw (h : ∀ i, i < m → A i = B i) {p : Int → Int} (hf : Feas m A x p) : Feas m B x p := fun s hs => by
  obtain ⟨h1, h2, h3, h4⟩ := stp_sw (fun i hi => (h i hi).symm) hs
  rw [h2, h3, h4]; exact hf s h1
theorem rc_sw (h : ∀ i, i < m → A i = B i) {p : Int → Int} {i : Nat} (hi : i < m) : rc A p i = rc B p i := by unfold rc; rw [h i hi]
theorem lex_sw (h : ∀ i, i < m → A i = B i) {p : Int → Int} (hl : LexCert m A x p) : LexCert m B x p := fun i hi hr hx => by
  obtain ⟨R, r1, r2, r3⟩ := hl i hi (by rw [rc_sw h hi]; exact hr) (by rw [h i hi]; exact hx)
  refine ⟨R, by rw [← h i hi]; exact r1, by rw [← h i hi]; exact r2, fun s hs h0 h1 h2 => ?_⟩
  obtain ⟨g1, g2, g3, g4⟩ := stp_sw (fun i hi => (h i hi).symm) hs
  rw [g3]
  rw [g2] at h2
  refine r3 s g1 h0 ?_ h2
  have hlt := hs.1
  rw [rc_sw h (show s.f0.toNat < m by omega)]; exact h1
end
theorem no_need {n m : Nat} {A : Nat → Ar} {x need : Nat → Int} (hN : NetOk n m A) (h0 : ∀ v : Nat, v < n → need v = 0) (h : Carried n m A need false x) : False :=
  no_flow hN h (y := fun _ => 0) (fun i hi => ⟨Int.le_refl _, (hN.cap i hi).1⟩) (fun v hv => by
    rw [h0 v hv]
    exact sumN_zero fun i _ => by simp)
theorem info23 : (Try.prog.info? 23).map (fun i => (i.zero, i.size, i.bytes)) = some (some (.slice none 0 0), 1, 24) := by kernel_rfl
theorem make_hdr (W : World) {n : Nat} (hn : n ≤ 100000) : (Instr.makeSlice 68 (.int .i64 n) (.int .i64 n)).run Try.prog W = .ok (.slice (some ⟨W.heap.size, 0, none⟩) n n) (W.alloc (.cells (madeCells #[.slice none 0 0] n) 23 (0, 0))) := by
  obtain ⟨i0, hi, hz⟩ := Option.map_eq_some_iff.1 info23
  obtain ⟨z0, z1, z2⟩ : i0.zero = some (.slice none 0 0) ∧ i0.size = 1 ∧ i0.bytes = 24 := by simpa using hz
  have h := run_make W 68 23 i0 (.slice none 0 0) Try.underlying68 hi z0 .i64 .i64 (n : Int) (n : Int) (by omega) (Int.le_refl _) (by rw [z2]; omega) (by omega)
  rw [z1, Int.toNat_natCast, Nat.mul_one] at h
  exact h
theorem R_C {α : Type} {d : Kd α} {e base : Nat} {ok : Nat → Prop} {w : World} {v : Value} {xs : List α} (h : Kd.R d e w base ok v xs) : ∃ A c, v = .slice A xs.length c ∧ Kd.C d w A xs.length xs := by
  obtain ⟨A, c, e, _, hC⟩ := Kd.R_reads h
  exact ⟨A, c, e, hC⟩
/-- Rows of numbers in memory, the first of them made. -/
abbrev rowV (N : Nat) (r : Nat) : Value := .slice (some ⟨r, 0, none⟩) N N
structure RM (w : World) (hb P W n : Nat) (r : Nat → Nat) (X : Plan) : Prop where
  hd : TV w hb 23 P (fun i => if i < n then rowV W (r i) else .slice none 0 0)
  row : ∀ i, i < n → TI w (r i) W (X i)
  inj : ∀ i j, i < n → j < n → r i = r j → i = j
  out : ∀ i, i < n → r i ≠ hb
section
variable {w w' : World} {hb P W n : Nat} {r : Nat → Nat} {X : Plan}
theorem RM.fr {F : Nat → Prop} (h : RM w hb P W n r X) (hf : Fr F w w') (h1 : ¬ F hb) (h2 : ∀ i, i < n → ¬ F (r i)) : RM w' hb P W n r X :=
  ⟨h.hd.fr hf h1, fun i hi => (h.row i hi).fr hf (h2 i hi), h.inj, h.out⟩
theorem RM.below (h : RM w hb P W n r X) (hb' : Below w.heap.size w w') : RM w' hb P W n r X := h.fr (Fr.of_below hb' (fun _ => False)) (fun a => a) (fun _ _ a => a)
theorem RM.hcell (h : RM w hb P W P r X) {i : Nat} (hi : i < P) : w.cell? ⟨hb, i, none⟩ = some (.slice (some ⟨r i, 0, none⟩) W W) := by
  have := TV.cell h.hd hi
  rwa [if_pos hi] at this
theorem RM.cell (h : RM w hb P W n r X) {i k : Nat} (hi : i < n) (hk : k < W) : w.cell? ⟨r i, k, none⟩ = some (.int .i64 (X i k)) := TV.cell (h.row i hi) hk
theorem RM.free (h : RM w hb P W n r X) {i : Nat} (hi : i < n) (k : Nat) : w.frozen? ⟨r i, k, none⟩ = false := TV.free (h.row i hi) k
theorem RM.set (h : RM w hb P W n r X) {u : Nat} (hu : u < n) (v : Nat) (c : Int) : RM (w.setCell ⟨r u, v, none⟩ (.int .i64 c)) hb P W n r (fun i k => if i = u ∧ k = v then c else X i k) := by
  have hf : Fr (fun b => b = r u) w (w.setCell ⟨r u, v, none⟩ (.int .i64 c)) := (Fr.refl (fun b => b = r u) w).setCell (p := ⟨r u, v, none⟩) (.inl rfl) _
  refine ⟨h.hd.fr hf (fun e => h.out u hu e.symm), fun i hi => ?_, h.inj, h.out⟩
  by_cases e : i = u
  · subst e
    refine (TI.set (h.row i hi) v c).congr fun j _ => ?_
    unfold setN
    by_cases e2 : j = v
    · simp [e2]
    · simp [e2]
  · refine ((h.row i hi).fr hf (fun e2 => e (h.inj i u hi hu e2))).congr fun j _ => ?_
    simp only [if_neg (fun h : i = u ∧ j = v => e h.1)]
theorem RM.congr {Y : Plan} (h : RM w hb P W n r X) (e : ∀ i k, i < n → k < W → X i k = Y i k) : RM w hb P W n r Y :=
  ⟨h.hd, fun i hi => (h.row i hi).congr fun j hj => by rw [e i j hi hj], h.inj, h.out⟩
end
namespace Ord
variable {o : Ord} {x : Nat → Int}
/-- The plan of the first arcs. -/
def planN (o : Ord) (x : Nat → Int) (j : Nat) : Plan := fun i k => if o.suit i k = true ∧ rank o.g (i * o.W + k) < j then x (rank o.g (i * o.W + k)) else 0
theorem planN_zero (i k : Nat) : o.planN x 0 i k = 0 := if_neg (fun h => absurd h.2 (Nat.not_lt_zero _))
theorem planN_next {j : Nat} (hj : j < o.s) {i k : Nat} (hi : i < o.P) (hk : k < o.W) : o.planN x (j + 1) i k = if i = o.pr j / o.W ∧ k = o.pr j % o.W then x j else o.planN x j i k := by
  obtain ⟨h1, h2, h3⟩ := pr_ok hj
  have hat := at_grid hi hk
  unfold planN
  by_cases e : i = o.pr j / o.W ∧ k = o.pr j % o.W
  · rw [if_pos e]
    have hb : i * o.W + k = o.pr j := by rw [e.1, e.2]; exact (of_grid h1).2.2
    have hs : o.suit i k = true := by rw [← g_at hi hk, hb]; exact h2
    rw [hb, h3, if_pos ⟨hs, Nat.lt_succ_self j⟩]
  · rw [if_neg e]
    by_cases hs : o.suit i k = true
    · have hne : rank o.g (i * o.W + k) ≠ j := fun h => e (by
        have h5 := (pr_rank hat.1 (by rw [g_at hi hk]; exact hs)).2
        rw [h] at h5
        rw [h5]; exact ⟨hat.2.1.symm, hat.2.2.symm⟩)
      by_cases h6 : rank o.g (i * o.W + k) < j
      · rw [if_pos ⟨hs, by omega⟩, if_pos ⟨hs, h6⟩]
      · rw [if_neg (fun h => by omega), if_neg (fun h => h6 h.2)]
    · rw [if_neg (fun h => hs h.1), if_neg (fun h => hs h.1)]
theorem planN_all {i k : Nat} (hi : i < o.P) (hk : k < o.W) : o.planN x o.s i k = o.plan x i k := by
  unfold planN
  rw [plan_at]
  by_cases hs : o.suit i k = true
  · rw [if_pos ⟨hs, (pr_rank (at_grid hi hk).1 (by rw [g_at hi hk]; exact hs)).1⟩, if_pos hs]
  · rw [if_neg (fun h => hs h.1), if_neg hs]
theorem tot_plan : sumN o.s x = o.tot (o.plan x) := by
  have h := sumA_pairs (o := o) (fun b => x (rank o.g b))
  rw [← sumN_congr (n := o.s) (f := x) (fun j hj => by rw [(pr_ok hj).2.2])] at h
  exact h
theorem sum_plan : sumN o.s (fun j => x j * (o.arcA j).f3) = o.sum (o.plan x) := by
  have h := sumA_pairs (o := o) (fun b => x (rank o.g b) * o.cost (b / o.W) (b % o.W))
  rw [← sumN_congr (n := o.s) (f := fun j => x j * (o.arcA j).f3) (fun j hj => by rw [(pr_ok hj).2.2, arcA_pair hj])] at h
  rw [h]
  refine sumN_congr fun i hi => sumN_congr fun k hk => ?_
  rw [plan_at, (at_grid hi hk).2.1, (at_grid hi hk).2.2]
  by_cases hs : o.suit i k = true
  · rw [if_pos hs, if_pos hs, Int.mul_comm]
  · rw [if_neg hs, if_neg hs, Int.mul_zero]
end Ord
theorem sumN_box2 {n : Nat} {f : Nat → Int} {B : Int} (h : ∀ i, i < n → 0 ≤ f i ∧ f i ≤ B) : 0 ≤ sumN n f ∧ sumN n f ≤ n * B := by
  induction n with
  | zero => exact ⟨Int.le_refl _, by simp [sumN]⟩
  | succ n ih =>
    have h1 := ih fun i hi => h i (by omega)
    have h2 := h n (Nat.lt_succ_self n)
    show 0 ≤ sumN n f + f n ∧ sumN n f + f n ≤ _
    rw [Int.natCast_succ, Int.add_mul, Int.one_mul]
    omega
theorem prs_at {o : Ord} {j : Nat} (h : j < o.s) : (prsP o (o.P * o.W))[j]? = some ⟨(o.pr j / o.W : Nat), (o.pr j % o.W : Nat)⟩ := by
  unfold prsP
  rw [List.getElem?_map, Ord.pr_at h]; rfl
theorem prs_all (o : Ord) : (prsP o (o.P * o.W)).length = o.s := by unfold prsP; rw [List.length_map]; rfl
theorem RM.next {w : World} {hb P W n : Nat} {r : Nat → Nat} (h : RM w hb P W n r (fun _ _ => 0)) (hn : n < P) :
    RM ((w.alloc (.cells (madeCells #[.int .i64 0] W) 3 (0, 0))).setCell ⟨hb, n, none⟩ (rowV W w.heap.size)).drew hb P W (n + 1) (fun j => if j = n then w.heap.size else r j) (fun _ _ => 0) := by
  have hal := below_alloc (Below.refl w.heap.size w) (.cells (madeCells #[.int .i64 0] W) 3 (0, 0))
  have hlt := TV.lt h.hd
  have hf : Fr (fun b => b = hb) w ((w.alloc (.cells (madeCells #[.int .i64 0] W) 3 (0, 0))).setCell ⟨hb, n, none⟩ (rowV W w.heap.size)).drew := ((Fr.of_below hal (fun b => b = hb)).setCell (p := ⟨hb, n, none⟩) (.inl rfl) _).drew
  refine ⟨?_, fun i hi => ?_, fun i j hi hj e => ?_, fun i hi => ?_⟩
  · refine TV.congr (show TV _ hb 23 P _ from TV.set (TV.below h.hd hal) n (rowV W w.heap.size)) fun j _ => ?_
    by_cases e : j = n
    · subst e; simp
    · simp only [e, if_false]
      by_cases e2 : j < n
      · rw [if_pos e2, if_pos (by omega)]
      · rw [if_neg e2, if_neg (by omega)]
  · by_cases e : i = n
    · subst e
      simp only [if_true]
      have hT : TI (w.alloc (.cells (madeCells #[.int .i64 0] W) 3 (0, 0))) w.heap.size W (fun _ => 0) := TV.made w (.int .i64 0) 3 W
      exact hT.fr (((Fr.refl (fun b => b = hb) _).setCell (p := ⟨hb, i, none⟩) (.inl rfl) _).drew) (fun e => by omega)
    · simp only [if_neg e]
      exact (h.row i (by omega)).fr hf (h.out i (by omega))
  · by_cases e1 : i = n
    · by_cases e2 : j = n
      · omega
      · simp only [if_pos e1, if_neg e2] at e
        have := TV.lt (h.row j (by omega)); omega
    · by_cases e2 : j = n
      · simp only [if_neg e1, if_pos e2] at e
        have := TV.lt (h.row i (by omega)); omega
      · simp only [if_neg e1, if_neg e2] at e
        exact h.inj i j (by omega) (by omega) e
  · by_cases e1 : i = n
    · simp only [if_pos e1]; omega
    · simp only [if_neg e1]; exact h.out i (by omega)
/-- What Fill answers. -/
def FillPost (o : Ord) (E : Int) (w' : World) (e : Ending) : Prop :=
  (E ≠ 0 ∧ e = .returned (.tuple #[.agg #[.slice none 0 0, .int .i64 0, .int .i64 0], .int .i64 E])) ∨
  (E = 0 ∧ ∃ hb r x p, e = .returned (.tuple #[.agg #[.slice (some ⟨hb, 0, none⟩) o.P o.P, .int .i64 (o.tot (o.plan x)), .int .i64 (o.sum (o.plan x))], .int .i64 0]) ∧
    RM w' hb o.P o.W o.P r (o.plan x) ∧ o.Round x ∧ Feas o.mA o.arcA x p ∧ LexCert o.mA o.arcA x p)
set_option maxRecDepth 100000 in
set_option maxHeartbeats 16000000 in
theorem fill_any (w : World) (A1 : Option Addr) (c1 : Nat) (ps : List S49) (h1 : Kd.C k49 w A1 ps.length ps) (A2 : Option Addr) (c2 : Nat) (ws : List S51) (h2 : Kd.C k51 w A2 ws.length ws) (T : Nat → Int) :
    Calls Try.prog 42 #[.slice A1 ps.length c1, .slice A2 ws.length c2, vTar T] w fun e w' => FillPost (ordOf ps ws T) (fillE ps ws T) w' e ∧ Below w.heap.size w w' := by
  have HBX := Lib.hid (Blk.alloc (Blk.new w (tarL T).toArray 67) (.cells #[.slice none 0 0, .int .i64 0, .int .i64 0] 70 (0, 0)))
  have HRX : Hid (Blk ((w.alloc (.cells (tarL T).toArray 67 (0, 0))).alloc (.cells #[.slice none 0 0, .int .i64 0, .int .i64 0] 70 (0, 0))) (w.heap.size + 1) #[.slice none 0 0, .int .i64 0, .int .i64 0] 70) := Lib.hid (by
    have h := Blk.new (w.alloc (.cells (tarL T).toArray 67 (0, 0))) #[.slice none 0 0, .int .i64 0, .int .i64 0] 70
    rw [show (w.alloc (.cells (tarL T).toArray 67 (0, 0))).heap.size = w.heap.size + 1 by simp] at h
    exact h)
  have HB0 := Lib.hid (below_al (below_alloc (Below.refl w.heap.size w) (.cells (tarL T).toArray 67 (0, 0))) (.cells #[.slice none 0 0, .int .i64 0, .int .i64 0] 70 (0, 0)))
  have H1 := Lib.hid h1
  have H2 := Lib.hid h2
  clear h1 h2
  go_enter Try.func42, Try.ntmps42
  go_upto_region 1 with (fail)
  generalize (w.alloc (.cells (tarL T).toArray 67 (0, 0))).alloc (.cells #[.slice none 0 0, .int .i64 0, .int .i64 0] 70 (0, 0)) = w1 at *
  obtain ⟨rb, hrb⟩ : ∃ rb, rb = w.heap.size + 1 := ⟨_, rfl⟩
  have HRB := Lib.hid hrb
  rw [← hrb] at HRX ⊢
  clear hrb
  have HRG := Lib.hid (range67 HBX.out)
  have HC := Lib.hid (asked_any w1 A1 c1 ps (Kd.C_below H1.out HB0.out) A2 c2 ws (Kd.C_below H2.out HB0.out) T)
  go_wp2_with (refine wpList_load_mid rfl 67 _ rfl w.heap.size 0 rfl (tarL T) _ HRG.out Try.underlying67 rfl info67 ?_)
  go_wp2_with fail
  refine HC.out.mono ?_
  rintro e w2 ⟨rfl, hb⟩
  have HB2 := Lib.hid (below_t HB0.out hb)
  have HBX2 := Lib.hid (HBX.out.fr (Fr.of_below hb (fun _ => False)) (fun a => a))
  have HRX2 := Lib.hid (HRX.out.fr (Fr.of_below hb (fun _ => False)) (fun a => a))
  clear hb HC HRG HBX HRX HB0
  by_cases hE : fillE ps ws T = 0
  · have HOK := Lib.hid (fillE_ok hE)
    have HOO := Lib.hid (ord_ok hE)
    have hne : (fillE ps ws T != 0) = false := by rw [hE]; rfl
    obtain ⟨o, ho⟩ : ∃ o, o = ordOf ps ws T := ⟨_, rfl⟩
    have HO := Lib.hid ho
    rw [← ho] at HOO
    have HPW : Hid (o.P = ps.length ∧ o.W = ws.length) := Lib.hid (by rw [ho]; exact ⟨rfl, rfl⟩)
    have HLM : Hid (ps.length ≤ 12 ∧ ws.length ≤ 12 ∧ ps.length * ws.length ≤ 144) := Lib.hid ⟨HOK.out.1, HOK.out.2.1, Nat.mul_le_mul HOK.out.1 HOK.out.2.1⟩
    have hw0 : IntKind.i64.wrap (1 + (ps.length : Int)) = 1 + (ps.length : Int) := IntWalk.i64_in _ (by have := HLM.out; omega)
    have hw1 : IntKind.i64.wrap (1 + (ps.length : Int) + ws.length) = 1 + (ps.length : Int) + ws.length := IntWalk.i64_in _ (by have := HLM.out; omega)
    obtain ⟨M, hM⟩ : ∃ M : Nat, M = ps.length * ws.length := ⟨_, rfl⟩
    have hwm : IntKind.i64.wrap ((ps.length : Int) * ws.length) = M := by
      rw [show (ps.length : Int) * ws.length = (M : Int) by rw [hM, Int.natCast_mul]]
      exact IntWalk.i64_in _ (by have := HLM.out; omega)
    have HM := Lib.hid hM
    have hmk := make_pairs w2 (m := M) (by have := HLM.out; omega)
    have HRP := Lib.hid (R_pairs w2 (m := M) (by have := HLM.out; omega) (Nat.le_refl _))
    have HB3 := Lib.hid (below_alloc (Below.refl w2.heap.size w2) (.cells (madeCells #[.int .i64 0, .int .i64 0] (M * 2)) 119 (0, 0)))
    have HE0 := Lib.hid hE
    clear hE ho hM
    go_wp2_with fail
    generalize w2.alloc (.cells (madeCells #[.int .i64 0, .int .i64 0] (M * 2)) 119 (0, 0)) = w3 at *
    clear hmk hwm
    go_loopg [10, 11, 49] ps.length (fun kk v10 v11 v49 wr => ∃ i : Nat, v49 = .int .i64 i ∧ Hid (i + kk = ps.length) ∧ Hid (Kd.R k44 44 wr w2.heap.size (fun _ => True) v10 (prsA o (i * ws.length))) ∧ Hid (Kd.R k119 119 wr w2.heap.size (fun _ => True) v11 (prsP o (i * ws.length))) ∧ Hid (Below w2.heap.size w2 wr))
    case atStart => exact ⟨0, rfl, Lib.hid (by omega), Lib.hid (by rw [Nat.zero_mul]; exact Kd.R_nil _ _ _ _ _), Lib.hid (by rw [Nat.zero_mul]; exact HRP.out), HB3⟩
    case round =>
      clear HRP HB3
      obtain ⟨i, rfl, HI, HR, HP, HB⟩ := hrel
      obtain ⟨wv, rfl⟩ : ∃ wv : World, wv = wr := ⟨_, rfl⟩
      by_cases hlt : i < ps.length
      · have hi0 : (i : Int) < ps.length := by omega
        have hiz : (0 : Int) ≤ i := by omega
        obtain ⟨p, hp⟩ : ∃ p, ps[i]? = some p := ⟨_, List.getElem?_eq_getElem hlt⟩
        obtain ⟨pd, rfl, q0, q1, q2, q3, q4⟩ := at_T49 (Kd.C_below H1.out (below_t HB2.out HB.out)) (i : Int) hiz hi0
        rw [rdP hp, Int.toNat_natCast] at q0 q1 q2 q3 q4
        have hw : IntKind.i64.wrap ((i : Int) + 1) = i + 1 := IntWalk.i64_in _ (by have := HLM.out; omega)
        have hal := below_alloc (Below.refl wv.heap.size wv) (.cells #[.int .i64 p.f0, .int .i64 p.f1, .int .i64 p.f2, .int .i64 p.f3, .int .i64 p.f4] 49 (0, 0))
        have hA4 := Blk.new wv #[.int .i64 p.f0, .int .i64 p.f1, .int .i64 p.f2, .int .i64 p.f3, .int .i64 p.f4] 49
        have HLT := Lib.hid hlt
        have HPI := Lib.hid hp
        clear hlt hp
        go_upto_region 10 with (fail)
        generalize wv.alloc (.cells #[.int .i64 p.f0, .int .i64 p.f1, .int .i64 p.f2, .int .i64 p.f3, .int .i64 p.f4] 49 (0, 0)) = wa at *
        have HBA := Lib.hid (below_t HB.out hal)
        have HRA := Lib.hid (Kd.R_below HR.out hal)
        have HPA := Lib.hid (Kd.R_below HP.out hal)
        have HKA := Lib.hid hA4
        obtain ⟨bp, hbp⟩ : ∃ bp, bp = wv.heap.size := ⟨_, rfl⟩
        rw [← hbp] at HKA ⊢
        clear hbp hal hA4 HR HP HB q0 q1 q2 q3 q4
        go_wp2_with fail
        go_loopg [10, 11, 56] ws.length (fun kk v10 v11 v56 wr => ∃ k : Nat, v56 = .int .i64 k ∧ Hid (k + kk = ws.length) ∧ Hid (Kd.R k44 44 wr w2.heap.size (fun _ => True) v10 (prsA o (i * ws.length + k))) ∧ Hid (Kd.R k119 119 wr w2.heap.size (fun _ => True) v11 (prsP o (i * ws.length + k))) ∧ Hid (Blk wr bp #[.int .i64 p.f0, .int .i64 p.f1, .int .i64 p.f2, .int .i64 p.f3, .int .i64 p.f4] 49) ∧ Hid (Below w2.heap.size w2 wr))
        case atStart => exact ⟨0, rfl, Lib.hid (by omega), HRA, HPA, HKA, HBA⟩
        case round =>
          clear HRA HPA HKA HBA
          obtain ⟨k, rfl, HK, HR, HP, HKP, HB⟩ := hrel
          obtain ⟨wv, rfl⟩ : ∃ wv : World, wv = wr := ⟨_, rfl⟩
          by_cases hlk : k < ws.length
          · have hk0 : (k : Int) < ws.length := by omega
            have hkz : (0 : Int) ≤ k := by omega
            have hwk : IntKind.i64.wrap ((k : Int) + 1) = k + 1 := IntWalk.i64_in _ (by have := HLM.out; omega)
            obtain ⟨q, hq⟩ : ∃ q, ws[k]? = some q := ⟨_, List.getElem?_eq_getElem hlk⟩
            obtain ⟨qd, rfl, q0, q1, q2, q3, q4, q5⟩ := at_T51 (Kd.C_below H2.out (below_t HB2.out HB.out)) (k : Int) hkz hk0
            rw [rdW hq, Int.toNat_natCast] at q0 q1 q2 q3 q4 q5
            have hal := below_alloc (Below.refl wv.heap.size wv) (.cells #[.int .i64 q.f0, .int .i64 q.f1, .int .i64 q.f2, .int .i64 q.f3, .int .i64 q.f4, .int .i64 q.f5] 51 (0, 0))
            have hA4 := Blk.new wv #[.int .i64 q.f0, .int .i64 q.f1, .int .i64 q.f2, .int .i64 q.f3, .int .i64 q.f4, .int .i64 q.f5] 51
            have HLK := Lib.hid hlk
            have HQI := Lib.hid hq
            clear hlk hq
            go_upto_region 13 with (fail)
            generalize wv.alloc (.cells #[.int .i64 q.f0, .int .i64 q.f1, .int .i64 q.f2, .int .i64 q.f3, .int .i64 q.f4, .int .i64 q.f5] 51 (0, 0)) = wa at *
            have HBA := Lib.hid (below_t HB.out hal)
            have HRA := Lib.hid (Kd.R_below HR.out hal)
            have HPA := Lib.hid (Kd.R_below HP.out hal)
            have HKA := Lib.hid (HKP.out.fr (Fr.of_below hal (fun _ => False)) (fun a => a))
            have HQA := Lib.hid hA4
            obtain ⟨bq, hbq⟩ : ∃ bq, bq = wv.heap.size := ⟨_, rfl⟩
            rw [← hbq] at HQA ⊢
            clear hbq hal hA4 HR HP HKP HB q0 q1 q2 q3 q4 q5
            have b0 := Blk.cell HKA.out 0 (v := .int .i64 p.f0) rfl
            have b1 := Blk.cell HKA.out 1 (v := .int .i64 p.f1) rfl
            have b2 := Blk.cell HKA.out 2 (v := .int .i64 p.f2) rfl
            have b3 := Blk.cell HKA.out 3 (v := .int .i64 p.f3) rfl
            have b4 := Blk.cell HKA.out 4 (v := .int .i64 p.f4) rfl
            have d0 := Blk.cell HQA.out 0 (v := .int .i64 q.f0) rfl
            have d1 := Blk.cell HQA.out 1 (v := .int .i64 q.f1) rfl
            have d2 := Blk.cell HQA.out 2 (v := .int .i64 q.f2) rfl
            have d3 := Blk.cell HQA.out 3 (v := .int .i64 q.f3) rfl
            have d4 := Blk.cell HQA.out 4 (v := .int .i64 q.f4) rfl
            have d5 := Blk.cell HQA.out 5 (v := .int .i64 q.f5) rfl
            have HC := Lib.hid (suits_any p q wa)
            go_wp2_with fail
            refine HC.out.mono ?_
            rintro e wb ⟨rfl, hb⟩
            have HBB := Lib.hid (below_t HBA.out hb)
            have HRB2 := Lib.hid (Kd.R_below HRA.out hb)
            have HPB2 := Lib.hid (Kd.R_below HPA.out hb)
            have HKB := Lib.hid (HKA.out.fr (Fr.of_below hb (fun _ => False)) (fun a => a))
            have HQB := Lib.hid (HQA.out.fr (Fr.of_below hb (fun _ => False)) (fun a => a))
            clear hb HC HBA HRA HPA HKA HQA b0 b1 b2 b3 b4 d0 d1 d2 d3 d4 d5
            have HGA : Hid (o.g (i * ws.length + k) = suitB p q ∧ o.arcP (i * ws.length + k) = ⟨1 + (i : Int), 1 + (ps.length : Int) + k, 4096, p.f1 + T (p.f4.toNat * 8 + q.f5.toNat)⟩ ∧ o.prP (i * ws.length + k) = ⟨i, k⟩) := Lib.hid (by
              have hpI : ps.getD i z49 = p := by rw [List.getD_eq_getElem?_getD, HPI.out]; rfl
              have hqI : ws.getD k z51 = q := by rw [List.getD_eq_getElem?_getD, HQI.out]; rfl
              have hat := Ord.at_grid (P := ps.length) (W := ws.length) HLT.out HLK.out
              have hW : o.W = ws.length := HPW.out.2
              have hP : o.P = ps.length := HPW.out.1
              have hg := Ord.g_at (o := o) (i := i) (k := k) (by rw [hP]; exact HLT.out) (by rw [hW]; exact HLK.out)
              have hs : o.suit i k = suitB p q := by rw [HO.out]; simp only [ordOf, hpI, hqI]
              have hc : o.cost i k = p.f1 + T (p.f4.toNat * 8 + q.f5.toNat) := by rw [HO.out]; simp only [ordOf, hpI, hqI]
              rw [hW] at hg
              refine ⟨hg.trans hs, ?_, ?_⟩
              · unfold Ord.arcP
                rw [hW, hP, hat.2.1, hat.2.2, hc, Int.natCast_add, Int.natCast_add, Int.natCast_add]; rfl
              · unfold Ord.prP
                rw [hW, hat.2.1, hat.2.2])
            have HIL : Hid (i * ws.length + k < 144) := Lib.hid (by
              have h1 := HLM.out
              have h2 := (Ord.at_grid (P := ps.length) (W := ws.length) HLT.out HLK.out).1
              omega)
            have HLEN := Lib.hid (prs_len o (i * ws.length + k))
            cases hsu : suitB p q with
            | false =>
              have HSK := Lib.hid (prs_skip o (a := i * ws.length + k) (HGA.out.1.trans hsu))
              clear hsu
              go_wp2_with fail
              go_roundg (ws.length - (k + 1))
              case measure => have := HK.out; have := HLK.out; omega
              case rel => exact ⟨k + 1, by go_num, Lib.hid (by have := HK.out; have := HLK.out; omega), Lib.hid (by rw [← Nat.add_assoc, HSK.out.1]; exact HRB2.out), Lib.hid (by rw [← Nat.add_assoc, HSK.out.2]; exact HPB2.out), HKB, HBB⟩
            | true =>
              have HSN := Lib.hid (prs_next o (a := i * ws.length + k) (HGA.out.1.trans hsu))
              clear hsu
              go_upto_region 15 with (at_builtin; refine Kd.R_append k119 (w0 := w2) w2.heap.size rfl _ _ 118 119 (.agg #[.int .i64 0, .int .i64 0]) 16 rfl Try.underlying118 info119 rfl (by decide) (by decide) u11 (prsP o (i * ws.length + k)) ⟨i, k⟩ [.int .i64 i, .int .i64 k] (fun _ => True) (fun _ => False) rfl rfl (k119_mkM _ _ _ ⟨i, k⟩) (fun _ hk => hk.elim) (fun _ _ => trivial) HPB2.out HBB.out HBB.out.size (by have := HLEN.out; have := HIL.out; omega) ?_; intro v7 w7 hR7 hb7 hg7 hat7)
              have HP7 := Lib.hid (show Kd.R k119 119 w7 w2.heap.size (fun _ => True) v7 (prsP o (i * ws.length + k + 1)) by rw [HSN.out.2, HGA.out.2.2]; exact hR7)
              have HR7 := Lib.hid (R_apart HRB2.out rfl HPB2.out (by decide) hg7)
              have HK7 := Lib.hid (blk_apart HKB.out HPB2.out (by decide) hg7)
              have HQ7 := Lib.hid (blk_apart HQB.out HPB2.out (by decide) hg7)
              have HB7 := Lib.hid hb7
              clear hR7 hb7 hg7 hat7 HRB2 HPB2 HKB HQB HBB
              have hwi : IntKind.i64.wrap (1 + (i : Int)) = 1 + (i : Int) := IntWalk.i64_in _ (by have := HLM.out; have := HLT.out; omega)
              have hw5 : IntKind.i64.wrap (1 + (ps.length : Int) + k) = 1 + (ps.length : Int) + k := IntWalk.i64_in _ (by have := HLM.out; have := HLK.out; omega)
              have HPB : Hid ((0 ≤ p.f0 ∧ p.f0 ≤ 4096) ∧ (0 ≤ p.f1 ∧ p.f1 ≤ 16384) ∧ (0 ≤ p.f4 ∧ p.f4 ≤ 7) ∧ (0 ≤ q.f5 ∧ q.f5 ≤ 7)) := Lib.hid (by
                obtain ⟨a0, a1, a2⟩ := okP_all (HOK.out.2.2.1 p (List.mem_of_getElem? HPI.out))
                obtain ⟨_, b1⟩ := okW_all (HOK.out.2.2.2.1 q (List.mem_of_getElem? HQI.out))
                exact ⟨a0, a1, a2, b1⟩)
              have hw6 : IntKind.i64.wrap (p.f1 + T (p.f4.toNat * 8 + q.f5.toNat)) = p.f1 + T (p.f4.toNat * 8 + q.f5.toNat) := IntWalk.i64_in _ (by
                have := HPB.out
                have := inB_ok (HOK.out.2.2.2.2 (p.f4.toNat * 8 + q.f5.toNat) (by omega))
                omega)
              have b1 := Blk.cell HK7.out 1 (v := .int .i64 p.f1) rfl
              have b4 := Blk.cell HK7.out 4 (v := .int .i64 p.f4) rfl
              have d5 := Blk.cell HQ7.out 5 (v := .int .i64 q.f5) rfl
              have z0 := tar_cell (HBX2.out.fr (Fr.of_below HB7.out (fun _ => False)) (fun a => a)) (j := p.f4.toNat * 8 + q.f5.toNat) (by have := HPB.out; omega)
              have s0 : (0 : Int) ≤ p.f4 := HPB.out.2.2.1.1
              have s1 : p.f4 < 8 := by have := HPB.out; omega
              have t0 : (0 : Int) ≤ q.f5 := HPB.out.2.2.2.1
              have t1 : q.f5 < 8 := by have := HPB.out; omega
              have hl0 : ((prsA o (i * ws.length + k)).length + 1) * 32 ≤ 140737488355328 := by have := HLEN.out; have := HIL.out; omega
              refine calm ?_
              go_region_law (first
                | (refine R_append_step_d k44 (W := w7) (w0 := w2) w2.heap.size (by rfl) _ _ 22 44 (.agg #[.int .i64 0, .int .i64 0, .int .i64 0, .int .i64 0]) 32 (by rfl) Try.underlying22 info44 rfl (by decide) (by decide) u10 (prsA o (i * ws.length + k)) ⟨1 + (i : Int), 1 + (ps.length : Int) + k, 4096, p.f1 + T (p.f4.toNat * 8 + q.f5.toNat)⟩ _ (fun _ => True) (fun _ => False) (by rfl) (by rfl) (k44_mkM _ _ _ ⟨1 + (i : Int), 1 + (ps.length : Int) + k, 4096, p.f1 + T (p.f4.toNat * 8 + q.f5.toNat)⟩) (fun _ hk => hk.elim) (fun _ _ => trivial) HR7.out HB7.out HB7.out.size hl0 ?_; intro v8 w8 hR8 hb8 hg8))
              all_goals
                simp only [Calm]
                have HR8 := Lib.hid (show Kd.R k44 44 w8 w2.heap.size (fun _ => True) v8 (prsA o (i * ws.length + k + 1)) by rw [HSN.out.1, HGA.out.2.1]; exact hR8)
                have HP8 := Lib.hid (R_apart HP7.out rfl HR7.out (by decide) hg8)
                have HK8 := Lib.hid (blk_apart HK7.out HR7.out (by decide) hg8)
                have HB8 := Lib.hid hb8
                clear hR8 hg8 hb8 HR7 HP7 HK7 HQ7 HB7 b1 b4 d5 z0
                go_wp2_with fail
                go_roundg (ws.length - (k + 1))
                case measure => have := HK.out; have := HLK.out; omega
                case rel => exact ⟨k + 1, by go_num, Lib.hid (by have := HK.out; have := HLK.out; omega), Lib.hid (by rw [← Nat.add_assoc]; exact HR8.out), Lib.hid (by rw [← Nat.add_assoc]; exact HP8.out), HK8, HB8⟩
          · have hnk : ¬ (k : Int) < ws.length := by omega
            obtain rfl : k = ws.length := by have := HK.out; omega
            clear hlk HKP
            go_wp2_with fail
            go_roundg (ps.length - (i + 1))
            case measure => have := HI.out; have := HLT.out; omega
            case rel => exact ⟨i + 1, by go_num, Lib.hid (by have := HI.out; have := HLT.out; omega), Lib.hid (by rw [Nat.succ_mul]; exact HR.out), Lib.hid (by rw [Nat.succ_mul]; exact HP.out), HB⟩
      · have hni : ¬ (i : Int) < ps.length := by omega
        obtain rfl : i = ps.length := by have := HI.out; omega
        have HRS : Hid (Kd.R k44 44 wv w2.heap.size (fun _ => True) u10 (netA o (o.s + 0))) := Lib.hid (by
          have h := prsA_all o
          rw [HPW.out.1, HPW.out.2] at h
          rw [Nat.add_zero, ← h]; exact HR.out)
        have HSM : Hid (o.s ≤ 144) := Lib.hid (by
          have h : o.s ≤ o.P * o.W := rank_le _ _
          rw [HPW.out.1, HPW.out.2] at h
          have := HLM.out; omega)
        clear hlt HI HR
        go_wp2_with fail
        go_loopg [10, 95] ps.length (fun kk v10 v95 wr => ∃ i : Nat, v95 = .int .i64 i ∧ Hid (i + kk = ps.length) ∧ Hid (Kd.R k44 44 wr w2.heap.size (fun _ => True) v10 (netA o (o.s + i))) ∧ Hid (Kd.R k119 119 wr w2.heap.size (fun _ => True) u11 (prsP o (ps.length * ws.length))) ∧ Hid (Below w2.heap.size w2 wr))
        case atStart => exact ⟨0, rfl, Lib.hid (by omega), HRS, HP, HB⟩
        case round =>
          clear HRS HP HB hni
          obtain ⟨i, rfl, HI, HR, HP, HB⟩ := hrel
          obtain ⟨wv, rfl⟩ : ∃ wv : World, wv = wr := ⟨_, rfl⟩
          by_cases hlt : i < ps.length
          · have hi0 : (i : Int) < ps.length := by omega
            have hiz : (0 : Int) ≤ i := by omega
            obtain ⟨p, hp⟩ : ∃ p, ps[i]? = some p := ⟨_, List.getElem?_eq_getElem hlt⟩
            obtain ⟨pd, rfl, q0, q1, q2, q3, q4⟩ := at_T49 (Kd.C_below H1.out (below_t HB2.out HB.out)) (i : Int) hiz hi0
            rw [rdP hp, Int.toNat_natCast] at q0 q1 q2 q3 q4
            have hw : IntKind.i64.wrap ((i : Int) + 1) = i + 1 := IntWalk.i64_in _ (by have := HLM.out; omega)
            have hwi : IntKind.i64.wrap (1 + (i : Int)) = 1 + (i : Int) := IntWalk.i64_in _ (by have := HLM.out; omega)
            have hal := below_alloc (Below.refl wv.heap.size wv) (.cells #[.int .i64 p.f0, .int .i64 p.f1, .int .i64 p.f2, .int .i64 p.f3, .int .i64 p.f4] 49 (0, 0))
            have hA4 := Blk.new wv #[.int .i64 p.f0, .int .i64 p.f1, .int .i64 p.f2, .int .i64 p.f3, .int .i64 p.f4] 49
            have HAR : Hid (o.arcA (o.s + i) = ⟨0, 1 + (i : Int), p.f0, 0⟩) := Lib.hid (by
              rw [Ord.arcA_src (by rw [HPW.out.1]; exact hlt), HO.out]
              show (⟨0, ((1 + i : Nat) : Int), (ps.getD i z49).f0, 0⟩ : Ar) = _
              rw [List.getD_eq_getElem?_getD, hp, Int.natCast_add]; rfl)
            have HNX := Lib.hid (netA_next o (o.s + i))
            have HLT := Lib.hid hlt
            clear hlt hp
            go_upto_region 21 with (fail)
            generalize wv.alloc (.cells #[.int .i64 p.f0, .int .i64 p.f1, .int .i64 p.f2, .int .i64 p.f3, .int .i64 p.f4] 49 (0, 0)) = wa at *
            have HBA := Lib.hid (below_t HB.out hal)
            have HRA := Lib.hid (Kd.R_below HR.out hal)
            have HPA := Lib.hid (Kd.R_below HP.out hal)
            obtain ⟨bp, hbp⟩ : ∃ bp, bp = wv.heap.size := ⟨_, rfl⟩
            rw [← hbp] at hA4 ⊢
            have b0 := Blk.cell hA4 0 (v := .int .i64 p.f0) rfl
            clear hbp hal hA4 HR HP HB q0 q1 q2 q3 q4
            go_wp2_with (at_builtin; refine Kd.R_append k44 (w0 := w2) w2.heap.size rfl _ _ 22 44 (.agg #[.int .i64 0, .int .i64 0, .int .i64 0, .int .i64 0]) 32 rfl Try.underlying22 info44 rfl (by decide) (by decide) u10 (netA o (o.s + i)) ⟨0, 1 + (i : Int), p.f0, 0⟩ [.int .i64 0, .int .i64 (1 + (i : Int)), .int .i64 p.f0, .int .i64 0] (fun _ => True) (fun _ => False) rfl rfl (k44_mkM _ _ _ ⟨0, 1 + (i : Int), p.f0, 0⟩) (fun _ hk => hk.elim) (fun _ _ => trivial) HRA.out HBA.out HBA.out.size (by rw [netA_len]; have := HLM.out; have := HLT.out; have := HSM.out; omega) ?_; intro v7 w7 hR7 hb7 hg7 hat7)
            have HR7 := Lib.hid (show Kd.R k44 44 w7 w2.heap.size (fun _ => True) v7 (netA o (o.s + (i + 1))) by rw [← Nat.add_assoc, HNX.out, HAR.out]; exact hR7)
            have HP7 := Lib.hid (R_apart HPA.out rfl HRA.out (by decide) hg7)
            have HB7 := Lib.hid hb7
            clear hR7 hb7 hg7 hat7 b0 HRA HPA HBA
            go_wp2_with fail
            go_roundg (ps.length - (i + 1))
            case measure => have := HI.out; have := HLT.out; omega
            case rel => exact ⟨i + 1, by go_num, Lib.hid (by have := HI.out; have := HLT.out; omega), HR7, HP7, HB7⟩
          · have hni : ¬ (i : Int) < ps.length := by omega
            obtain rfl : i = ps.length := by have := HI.out; omega
            have HRS : Hid (Kd.R k44 44 wv w2.heap.size (fun _ => True) u10 (netA o (o.s + ps.length + 0))) := Lib.hid HR.out
            clear hlt HI HR
            go_wp2_with fail
            go_loopg [10, 111] ws.length (fun kk v10 v111 wr => ∃ k : Nat, v111 = .int .i64 k ∧ Hid (k + kk = ws.length) ∧ Hid (Kd.R k44 44 wr w2.heap.size (fun _ => True) v10 (netA o (o.s + ps.length + k))) ∧ Hid (Kd.R k119 119 wr w2.heap.size (fun _ => True) u11 (prsP o (ps.length * ws.length))) ∧ Hid (Below w2.heap.size w2 wr))
            case atStart => exact ⟨0, rfl, Lib.hid (by omega), HRS, HP, HB⟩
            case round =>
              clear HRS HP HB hni
              obtain ⟨k, rfl, HK, HR, HP, HB⟩ := hrel
              obtain ⟨wv, rfl⟩ : ∃ wv : World, wv = wr := ⟨_, rfl⟩
              by_cases hlk : k < ws.length
              · have hk0 : (k : Int) < ws.length := by omega
                have hkz : (0 : Int) ≤ k := by omega
                obtain ⟨q, hq⟩ : ∃ q, ws[k]? = some q := ⟨_, List.getElem?_eq_getElem hlk⟩
                obtain ⟨qd, rfl, q0, q1, q2, q3, q4, q5⟩ := at_T51 (Kd.C_below H2.out (below_t HB2.out HB.out)) (k : Int) hkz hk0
                rw [rdW hq, Int.toNat_natCast] at q0 q1 q2 q3 q4 q5
                have hw : IntKind.i64.wrap ((k : Int) + 1) = k + 1 := IntWalk.i64_in _ (by have := HLM.out; omega)
                have hw5 : IntKind.i64.wrap (1 + (ps.length : Int) + k) = 1 + (ps.length : Int) + k := IntWalk.i64_in _ (by have := HLM.out; omega)
                have hal := below_alloc (Below.refl wv.heap.size wv) (.cells #[.int .i64 q.f0, .int .i64 q.f1, .int .i64 q.f2, .int .i64 q.f3, .int .i64 q.f4, .int .i64 q.f5] 51 (0, 0))
                have hA4 := Blk.new wv #[.int .i64 q.f0, .int .i64 q.f1, .int .i64 q.f2, .int .i64 q.f3, .int .i64 q.f4, .int .i64 q.f5] 51
                have HAR : Hid (o.arcA (o.s + ps.length + k) = ⟨1 + (ps.length : Int) + k, 1 + (ps.length : Int) + ws.length, q.f0, 0⟩) := Lib.hid (by
                  have h := Ord.arcA_snk (o := o) (k := k) (by rw [HPW.out.2]; exact hlk)
                  rw [HPW.out.1, HPW.out.2] at h
                  rw [h, HO.out]
                  show (⟨((1 + ps.length + k : Nat) : Int), ((1 + ps.length + ws.length : Nat) : Int), (ws.getD k z51).f0, 0⟩ : Ar) = _
                  rw [List.getD_eq_getElem?_getD, hq, Int.natCast_add, Int.natCast_add, Int.natCast_add]; rfl)
                have HNX := Lib.hid (netA_next o (o.s + ps.length + k))
                have HLK := Lib.hid hlk
                clear hlk hq
                go_upto_region 26 with (fail)
                generalize wv.alloc (.cells #[.int .i64 q.f0, .int .i64 q.f1, .int .i64 q.f2, .int .i64 q.f3, .int .i64 q.f4, .int .i64 q.f5] 51 (0, 0)) = wa at *
                have HBA := Lib.hid (below_t HB.out hal)
                have HRA := Lib.hid (Kd.R_below HR.out hal)
                have HPA := Lib.hid (Kd.R_below HP.out hal)
                obtain ⟨bq, hbq⟩ : ∃ bq, bq = wv.heap.size := ⟨_, rfl⟩
                rw [← hbq] at hA4 ⊢
                have b0 := Blk.cell hA4 0 (v := .int .i64 q.f0) rfl
                clear hbq hal hA4 HR HP HB q0 q1 q2 q3 q4 q5
                go_wp2_with (at_builtin; refine Kd.R_append k44 (w0 := w2) w2.heap.size rfl _ _ 22 44 (.agg #[.int .i64 0, .int .i64 0, .int .i64 0, .int .i64 0]) 32 rfl Try.underlying22 info44 rfl (by decide) (by decide) u10 (netA o (o.s + ps.length + k)) ⟨1 + (ps.length : Int) + k, 1 + (ps.length : Int) + ws.length, q.f0, 0⟩ [.int .i64 (1 + (ps.length : Int) + k), .int .i64 (1 + (ps.length : Int) + ws.length), .int .i64 q.f0, .int .i64 0] (fun _ => True) (fun _ => False) rfl rfl (k44_mkM _ _ _ ⟨1 + (ps.length : Int) + k, 1 + (ps.length : Int) + ws.length, q.f0, 0⟩) (fun _ hk => hk.elim) (fun _ _ => trivial) HRA.out HBA.out HBA.out.size (by rw [netA_len]; have := HLM.out; have := HLK.out; have := HSM.out; omega) ?_; intro v7 w7 hR7 hb7 hg7 hat7)
                have HR7 := Lib.hid (show Kd.R k44 44 w7 w2.heap.size (fun _ => True) v7 (netA o (o.s + ps.length + (k + 1))) by rw [← Nat.add_assoc, HNX.out, HAR.out]; exact hR7)
                have HP7 := Lib.hid (R_apart HPA.out rfl HRA.out (by decide) hg7)
                have HB7 := Lib.hid hb7
                clear hR7 hb7 hg7 hat7 b0 HRA HPA HBA
                go_wp2_with fail
                go_roundg (ws.length - (k + 1))
                case measure => have := HK.out; have := HLK.out; omega
                case rel => exact ⟨k + 1, by go_num, Lib.hid (by have := HK.out; have := HLK.out; omega), HR7, HP7, HB7⟩
              · have hnk : ¬ (k : Int) < ws.length := by omega
                obtain rfl : k = ws.length := by have := HK.out; omega
                have HAR : Hid (o.arcA (o.s + ps.length + ws.length) = ⟨1 + (ps.length : Int) + ws.length, 0, 49152, -1048576⟩) := Lib.hid (by
                  have h := Ord.arcA_back (o := o)
                  rw [HPW.out.1, HPW.out.2] at h
                  rw [h, Int.natCast_add, Int.natCast_add]; rfl)
                have HNX := Lib.hid (netA_next o (o.s + ps.length + ws.length))
                have HMA : Hid (o.mA = o.s + ps.length + ws.length + 1) := Lib.hid (by unfold Ord.mA; rw [HPW.out.1, HPW.out.2])
                obtain ⟨N, hN⟩ : ∃ N : Nat, N = o.nA := ⟨_, rfl⟩
                have hN2 : N = ps.length + ws.length + 2 := by rw [hN]; unfold Ord.nA; rw [HPW.out.1, HPW.out.2]
                have hwN : IntKind.i64.wrap (1 + (ps.length : Int) + ws.length + 1) = (N : Int) := by
                  rw [show 1 + (ps.length : Int) + ws.length + 1 = (N : Int) by omega]
                  exact IntWalk.i64_in _ (by have := HLM.out; omega)
                have HN := Lib.hid hN
                have HN2 := Lib.hid hN2
                clear hlk HK hN hN2
                go_upto_region 29 with (at_builtin; refine Kd.R_append k44 (w0 := w2) w2.heap.size rfl _ _ 22 44 (.agg #[.int .i64 0, .int .i64 0, .int .i64 0, .int .i64 0]) 32 rfl Try.underlying22 info44 rfl (by decide) (by decide) u10 (netA o (o.s + ps.length + ws.length)) ⟨1 + (ps.length : Int) + ws.length, 0, 49152, -1048576⟩ [.int .i64 (1 + (ps.length : Int) + ws.length), .int .i64 0, .int .i64 49152, .int .i64 (-1048576)] (fun _ => True) (fun _ => False) rfl rfl (k44_mkM _ _ _ ⟨1 + (ps.length : Int) + ws.length, 0, 49152, -1048576⟩) (fun _ hk => hk.elim) (fun _ _ => trivial) HR.out HB.out HB.out.size (by rw [netA_len]; have := HLM.out; have := HSM.out; omega) ?_; intro v7 w7 hR7 hb7 hg7 hat7)
                have hRM : Kd.R k44 44 w7 w2.heap.size (fun _ => True) v7 (netA o o.mA) := by rw [HMA.out, HNX.out, HAR.out]; exact hR7
                obtain ⟨AA, cA, rfl, hCA⟩ := R_C hRM
                have HP7 := Lib.hid (R_apart HP.out rfl HR.out (by decide) hg7)
                have HB7 := Lib.hid hb7
                obtain ⟨AP, cP, hvP, hCP⟩ := R_C HP7.out
                subst hvP
                have hmk := make_int w7 (n := N) (by have := HLM.out; have := HN2.out; omega)
                have hal := below_alloc (Below.refl w7.heap.size w7) (.cells (madeCells #[.int .i64 0] N) 3 (0, 0))
                have hT : TI (w7.alloc (.cells (madeCells #[.int .i64 0] N) 3 (0, 0))) w7.heap.size N (fun _ => 0) := TV.made w7 (.int .i64 0) 3 N
                have HCA := Lib.hid (Kd.C_below hCA hal)
                have HCP := Lib.hid (Kd.C_below hCP hal)
                have HB8 := Lib.hid (below_t HB7.out hal)
                have HT := Lib.hid hT
                clear hR7 hb7 hg7 hat7 hRM hCA hCP HP7 HB7 hal hT HR HP HB
                have HOK2 : Hid (NetOk N (netA o o.mA).length (arcF (netA o o.mA))) := Lib.hid (by
                  have hok := Ord.ok_A HOO.out
                  rw [netA_len, HN.out]
                  exact ⟨hok.n1, hok.n2, hok.m1, fun i hi => by rw [netA_at o hi]; exact hok.net i hi, fun i hi => by rw [netA_at o hi]; exact hok.cap i hi, fun i hi => by rw [netA_at o hi]; exact hok.cost i hi⟩)
                go_wp2_with fail
                generalize w7.alloc (.cells (madeCells #[.int .i64 0] N) 3 (0, 0)) = w8 at *
                obtain ⟨xs, hxl, hx0, hxC⟩ := TI_list HT.out (by have := HLM.out; have := HN2.out; omega)
                have hsv := solved_any w8 N AA cA (netA o o.mA) HCA.out HOK2.out ⟨w7.heap.size, 0, none⟩ N xs hxl hxC (fun v hv => by rw [hx0 v hv]; exact ⟨by decide, by decide⟩) (sumN_zero fun v hv => hx0 v hv)
                rw [hxl] at hsv
                have HX0 := Lib.hid hx0
                have HSV := Lib.hid hsv
                clear hxl hx0 hxC hsv hmk HT
                refine HSV.out.mono ?_
                rintro e w9 ⟨hpost, hb⟩
                rcases hpost with ⟨_, x, hca⟩ | ⟨g, ga, x, p, rfl, hNM, hTI, _, hV, hF, hL, hbal⟩
                · exact absurd (no_need HOK2.out (fun v hv => HX0.out v hv) hca) (fun h => h)
                have HB9 := Lib.hid (below_t HB8.out hb)
                have HCA9 := Lib.hid (Kd.C_below HCA.out hb)
                have HCP9 := Lib.hid (Kd.C_below HCP.out hb)
                have hAT : ∀ i, i < (netA o o.mA).length → arcF (netA o o.mA) i = o.arcA i := fun i hi => netA_at o (by rwa [netA_len] at hi)
                have hRO : o.Round x := ⟨by have := valid_sw hAT hV; rwa [netA_len] at this, fun v hv => by
                  have h := hbal v (by rw [HN.out]; exact hv)
                  rw [bal_sw hAT, netA_len] at h
                  exact h.trans (HX0.out v (by rw [HN.out]; exact hv))⟩
                have HRO := Lib.hid hRO
                have HFE : Hid (Feas o.mA o.arcA x p) := Lib.hid (by have := feas_sw hAT hF; rwa [netA_len] at this)
                have HLE : Hid (LexCert o.mA o.arcA x p) := Lib.hid (by have := lex_sw hAT hL; rwa [netA_len] at this)
                have HNB := Lib.hid hNM.blk
                rw [netA_len] at HNB hTI
                have HTX := Lib.hid hTI
                clear hb HB8 HCA HCP HSV HX0 hNM hTI hV hF hL hbal hAT hRO HOK2
                have hmk := make_hdr w9 (n := ps.length) (by have := HLM.out; omega)
                go_upto_region 31 with fail
                have HB10 : Hid (Below w9.heap.size w9 ((w9.alloc (.cells (madeCells #[.slice none 0 0] ps.length) 23 (0, 0))).alloc (.cells #[.slice (some ⟨w9.heap.size, 0, none⟩) ps.length ps.length, .int .i64 0, .int .i64 0] 70 (0, 0)))) := Lib.hid (below_al (below_alloc (Below.refl w9.heap.size w9) _) _)
                have HHD : Hid (RM ((w9.alloc (.cells (madeCells #[.slice none 0 0] ps.length) 23 (0, 0))).alloc (.cells #[.slice (some ⟨w9.heap.size, 0, none⟩) ps.length ps.length, .int .i64 0, .int .i64 0] 70 (0, 0))) w9.heap.size ps.length ws.length 0 (fun _ => 0) (fun _ _ => 0)) := Lib.hid
                  ⟨(TV.alloc (TV.made w9 (.slice none 0 0) 23 ps.length) _).congr (fun i _ => by rw [if_neg (Nat.not_lt_zero _)]), fun i hi => absurd hi (Nat.not_lt_zero _), fun i j hi => absurd hi (Nat.not_lt_zero _), fun i hi => absurd hi (Nat.not_lt_zero _)⟩
                have HSB : Hid (Blk ((w9.alloc (.cells (madeCells #[.slice none 0 0] ps.length) 23 (0, 0))).alloc (.cells #[.slice (some ⟨w9.heap.size, 0, none⟩) ps.length ps.length, .int .i64 0, .int .i64 0] 70 (0, 0))) (w9.heap.size + 1) #[.slice (some ⟨w9.heap.size, 0, none⟩) ps.length ps.length, .int .i64 0, .int .i64 0] 70) := Lib.hid (by
                  have h := Blk.new (w9.alloc (.cells (madeCells #[.slice none 0 0] ps.length) 23 (0, 0))) #[.slice (some ⟨w9.heap.size, 0, none⟩) ps.length ps.length, .int .i64 0, .int .i64 0] 70
                  rw [show (w9.alloc (.cells (madeCells #[.slice none 0 0] ps.length) 23 (0, 0))).heap.size = w9.heap.size + 1 by simp] at h
                  exact h)
                generalize (w9.alloc (.cells (madeCells #[.slice none 0 0] ps.length) 23 (0, 0))).alloc (.cells #[.slice (some ⟨w9.heap.size, 0, none⟩) ps.length ps.length, .int .i64 0, .int .i64 0] 70 (0, 0)) = w10 at *
                obtain ⟨hb, hhb⟩ : ∃ hb, hb = w9.heap.size := ⟨_, rfl⟩
                obtain ⟨sb, hsb⟩ : ∃ sb, sb = w9.heap.size + 1 := ⟨_, rfl⟩
                have HHB := Lib.hid (And.intro hhb hsb)
                rw [← hhb] at HHD
                rw [← hsb, ← hhb] at HSB
                rw [← hsb]
                clear hhb hsb hmk
                have s0 := Blk.cell HSB.out 0 (v := .slice (some ⟨hb, 0, none⟩) ps.length ps.length) rfl
                go_wp2_with fail
                clear s0
                go_loopg [151] ps.length (fun kk v151 wr => ∃ (i : Nat) (r : Nat → Nat), v151 = .int .i64 i ∧ Hid (i + kk = ps.length) ∧ Hid (RM wr hb ps.length ws.length i r (fun _ _ => 0)) ∧ Hid (∀ j, j < i → hb ≤ r j) ∧ Hid (Blk wr sb #[.slice (some ⟨hb, 0, none⟩) ps.length ps.length, .int .i64 0, .int .i64 0] 70) ∧ Hid (Below w9.heap.size w9 wr))
                case atStart => exact ⟨0, _, rfl, Lib.hid (by omega), HHD, Lib.hid (fun j hj => absurd hj (Nat.not_lt_zero _)), HSB, HB10⟩
                case round =>
                  clear HHD HSB HB10
                  obtain ⟨i, r, rfl, HI, HRM, HRL, HSB, HB⟩ := hrel
                  obtain ⟨wv, rfl⟩ : ∃ wv : World, wv = wr := ⟨_, rfl⟩
                  by_cases hlt : i < ps.length
                  · have hi0 : (i : Int) < ps.length := by omega
                    have hiz : (0 : Int) ≤ i := by omega
                    have hw : IntKind.i64.wrap ((i : Int) + 1) = i + 1 := IntWalk.i64_in _ (by have := HLM.out; omega)
                    have s0 := Blk.cell HSB.out 0 (v := .slice (some ⟨hb, 0, none⟩) ps.length ps.length) rfl
                    have hal := below_alloc (Below.refl wv.heap.size wv) (.cells (madeCells #[.int .i64 0] ws.length) 3 (0, 0))
                    have HRN := Lib.hid (RM.next HRM.out hlt)
                    have x1 : (wv.alloc (.cells (madeCells #[.int .i64 0] ws.length) 3 (0, 0))).cell? ⟨hb, i, none⟩ = some (.slice none 0 0) := by have h := TV.cell (TV.below HRM.out.hd hal) hlt; rwa [if_neg (Nat.lt_irrefl _)] at h
                    have x2 := TV.free (TV.below HRM.out.hd hal) i
                    have s1 := Blk.cell (HSB.out.fr (Fr.of_below hal (fun _ => False)) (fun a => a)) 0 (v := .slice (some ⟨hb, 0, none⟩) ps.length ps.length) rfl
                    have hmk := fun W => make_int W (n := ws.length) (by have := HLM.out; omega)
                    have HLT := Lib.hid hlt
                    have HLOW : Hid (∀ j, j < i + 1 → hb ≤ (fun j => if j = i then wv.heap.size else r j) j) := Lib.hid (fun j hj => by
                      by_cases e : j = i
                      · simp only [if_pos e]; have := TV.lt HRM.out.hd; omega
                      · simp only [if_neg e]; exact HRL.out j (by omega))
                    have HFN : Hid (Fr (fun b => b = hb) wv ((wv.alloc (.cells (madeCells #[.int .i64 0] ws.length) 3 (0, 0))).setCell ⟨hb, i, none⟩ (rowV ws.length wv.heap.size)).drew) := Lib.hid (((Fr.of_below hal (fun b => b = hb)).setCell (p := ⟨hb, i, none⟩) (.inl rfl) _).drew)
                    have HSN := Lib.hid (HSB.out.fr HFN.out (fun e => by have := HHB.out; omega))
                    have HBN : Hid (Below w9.heap.size w9 ((wv.alloc (.cells (madeCells #[.int .i64 0] ws.length) 3 (0, 0))).setCell ⟨hb, i, none⟩ (rowV ws.length wv.heap.size)).drew) := Lib.hid (((Fr.of_below HB.out (fun b => b = hb)).trans HFN.out (fun x h => .inl h)).to_below (Nat.le_refl _) (fun b hb' => by have := HHB.out; omega))
                    clear hlt hal
                    go_upto_region 34 with (fail)
                    refine calm ?_
                    go_region_law (first | fail)
                    all_goals
                      simp only [Calm]
                      clear x1 x2 hmk s0 s1
                      generalize ((wv.alloc (.cells (madeCells #[.int .i64 0] ws.length) 3 (0, 0))).setCell ⟨hb, i, none⟩ (rowV ws.length wv.heap.size)).drew = w11 at *
                      go_wp2_with fail
                      go_roundg (ps.length - (i + 1))
                      case measure => have := HI.out; have := HLT.out; omega
                      case rel => exact ⟨i + 1, _, by go_num, Lib.hid (by have := HI.out; have := HLT.out; omega), HRN, HLOW, HSN, HBN⟩
                  · have hni : ¬ (i : Int) < ps.length := by omega
                    obtain rfl : i = ps.length := by have := HI.out; omega
                    have HPL : Hid ((prsP o (ps.length * ws.length)).length = o.s) := Lib.hid (by rw [← HPW.out.1, ← HPW.out.2]; exact prs_all o)
                    have HXB : Hid (∀ j, j < o.s → (0 ≤ x j ∧ x j ≤ 4096) ∧ 0 ≤ (o.arcA j).f3 ∧ (o.arcA j).f3 ≤ 32768) := Lib.hid (fun j hj => by
                      have h1 := HRO.out.valid j (by unfold Ord.mA; omega)
                      obtain ⟨g1, _, _⟩ := Ord.pr_ok hj
                      obtain ⟨g4, g5, _⟩ := Ord.of_grid g1
                      have h2 := HOO.out.cost1 _ _ g4 g5
                      rw [Ord.arcA_pair hj] at h1 ⊢
                      exact ⟨h1, h2⟩)
                    have HR0 : Hid (RM wv hb ps.length ws.length ps.length r (o.planN x 0)) := Lib.hid (HRM.out.congr fun i k _ _ => (Ord.planN_zero i k).symm)
                    clear hlt HI HRM
                    go_wp2_with fail
                    go_loopg [164] o.s (fun kk v164 wr => ∃ j : Nat, v164 = .int .i64 j ∧ Hid (j + kk = o.s) ∧ Hid (RM wr hb ps.length ws.length ps.length r (o.planN x j)) ∧ Hid (Blk wr sb #[.slice (some ⟨hb, 0, none⟩) ps.length ps.length, .int .i64 (sumN j x), .int .i64 (sumN j (fun t => x t * (o.arcA t).f3))] 70) ∧ Hid (Below w9.heap.size w9 wr))
                    case atStart => exact ⟨0, rfl, Lib.hid (by omega), HR0, HSB, HB⟩
                    case round =>
                      clear HR0 HSB HB hni
                      obtain ⟨j, rfl, HJ, HRM, HSB, HB⟩ := hrel
                      obtain ⟨wv, rfl⟩ : ∃ wv : World, wv = wr := ⟨_, rfl⟩
                      by_cases hlt : j < o.s
                      · have hj0 : (j : Int) < (prsP o (ps.length * ws.length)).length := by rw [HPL.out]; omega
                        have hjz : (0 : Int) ≤ j := by omega
                        have hpr := prs_at hlt
                        rw [HPW.out.1, HPW.out.2] at hpr
                        obtain ⟨g1, g2, g3⟩ := Ord.pr_ok hlt
                        obtain ⟨g4, g5, _⟩ := Ord.of_grid g1
                        rw [HPW.out.1, HPW.out.2] at g4
                        rw [HPW.out.2] at g5
                        have HNX : Hid (∀ i k, i < ps.length → k < ws.length → o.planN x (j + 1) i k = if i = o.pr j / ws.length ∧ k = o.pr j % ws.length then x j else o.planN x j i k) := Lib.hid (fun i k hi hk => by
                          have h := Ord.planN_next (x := x) hlt (i := i) (k := k) (by rw [HPW.out.1]; exact hi) (by rw [HPW.out.2]; exact hk)
                          rw [HPW.out.2] at h; exact h)
                        obtain ⟨pd, hpd, k0, k1⟩ := at_T119 (Kd.C_below HCP9.out HB.out) (j : Int) hjz hj0
                        subst hpd
                        have erd : rd_T119 (prsP o (ps.length * ws.length)) (j : Int) = ⟨(o.pr j / ws.length : Nat), (o.pr j % ws.length : Nat)⟩ := by
                          unfold rd_T119
                          rw [Int.toNat_natCast, List.getD_eq_getElem?_getD, hpr]; rfl
                        rw [erd, Int.toNat_natCast] at k0 k1
                        obtain ⟨i, hi⟩ : ∃ i, i = o.pr j / ws.length := ⟨_, rfl⟩
                        obtain ⟨k, hk⟩ : ∃ k, k = o.pr j % ws.length := ⟨_, rfl⟩
                        rw [← hi, ← hk] at HNX
                        rw [← hi] at k0 g4
                        rw [← hk] at k1 g5
                        have hi0 : (i : Int) < ps.length := by omega
                        have hiz : (0 : Int) ≤ i := by omega
                        have hk0 : (k : Int) < ws.length := by omega
                        have hkz : (0 : Int) ≤ k := by omega
                        have hmA : j < o.mA := by unfold Ord.mA; omega
                        have hj1 : (j : Int) < o.mA := by omega
                        have hw : IntKind.i64.wrap ((j : Int) + 1) = j + 1 := IntWalk.i64_in _ (by have := HSM.out; omega)
                        obtain ⟨⟨xb0, xb1⟩, cb0, cb1⟩ := HXB.out j hlt
                        have hBs := sumN_box2 (n := j) (f := x) (B := 4096) (fun t ht => (HXB.out t (by omega)).1)
                        have hSs := sumN_box2 (n := j) (f := fun t => x t * (o.arcA t).f3) (B := 134217728) (fun t ht => by
                          obtain ⟨⟨a0, a1⟩, b0, b1⟩ := HXB.out t (by omega)
                          exact ⟨Int.mul_nonneg a0 b0, Int.le_trans (Int.mul_le_mul a1 b1 b0 (by decide)) (by decide)⟩)
                        have hmul : 0 ≤ x j * (o.arcA j).f3 ∧ x j * (o.arcA j).f3 ≤ 134217728 := ⟨Int.mul_nonneg xb0 cb0, Int.le_trans (Int.mul_le_mul xb1 cb1 cb0 (by decide)) (by decide)⟩
                        have HBN : Hid (sumN (j + 1) x = sumN j x + x j) := Lib.hid rfl
                        have HSN : Hid (sumN (j + 1) (fun t => x t * (o.arcA t).f3) = sumN j (fun t => x t * (o.arcA t).f3) + x j * (o.arcA j).f3) := Lib.hid rfl
                        obtain ⟨ad, had, a0, a1, a2, a3⟩ := arcs_of (Kd.C_below HCA9.out HB.out) (j : Int) hjz (by rw [netA_len]; exact hj1)
                        subst had
                        rw [Int.toNat_natCast, netA_at o hmA] at a3
                        have HA3 : Hid (∀ W, Below w9.heap.size w9 W → W.cell? ⟨(ad.add (j * 4)).block, (ad.add (j * 4)).off + 3, none⟩ = some (.int .i64 (o.arcA j).f3)) := Lib.hid (fun W hW => by
                          obtain ⟨ad', had', _, _, _, a3'⟩ := arcs_of (Kd.C_below HCA9.out hW) (j : Int) hjz (by rw [netA_len]; exact hj1)
                          obtain rfl := Option.some.inj had'
                          rw [Int.toNat_natCast, netA_at o hmA] at a3'
                          exact a3')
                        generalize hxx : x j = xj at *
                        generalize hcc : (o.arcA j).f3 = cj at *
                        generalize sumN j x = Bj at *
                        generalize sumN j (fun t => x t * (o.arcA t).f3) = Sj at *
                        have HXX := Lib.hid hxx
                        have hSM := HSM.out
                        have hwB : IntKind.i64.wrap (Bj + xj) = Bj + xj := IntWalk.i64_in _ (by omega)
                        have hwM : IntKind.i64.wrap (xj * cj) = xj * cj := IntWalk.i64_in _ (by omega)
                        have hwS : IntKind.i64.wrap (Sj + xj * cj) = Sj + xj * cj := IntWalk.i64_in _ (by omega)
                        have HMA := Lib.hid hmA
                        have HG := Lib.hid (And.intro g4 g5)
                        have HLT := Lib.hid hlt
                        have hal := below_alloc (Below.refl wv.heap.size wv) (.cells #[.int .i64 i, .int .i64 k] 119 (0, 0))
                        have hA4 := Blk.new wv #[.int .i64 i, .int .i64 k] 119
                        have hj3 : (j : Int) < (netA o o.mA).length := by rw [netA_len]; exact hj1
                        clear hpr g1 g2 g3 erd hi hk hxx hcc hSM xb0 xb1 cb0 cb1 hBs hSs hmul a0 a1 a2 a3 hlt hmA g4 g5
                        go_upto_region 39 with fail
                        generalize wv.alloc (.cells #[.int .i64 i, .int .i64 k] 119 (0, 0)) = wa at *
                        have HBA := Lib.hid (below_t HB.out hal)
                        have HRA := Lib.hid (RM.below HRM.out hal)
                        have HSA := Lib.hid (HSB.out.fr (Fr.of_below hal (fun _ => False)) (fun a => a))
                        obtain ⟨bp, hbp⟩ : ∃ bp, bp = wv.heap.size := ⟨_, rfl⟩
                        rw [← hbp] at hA4 ⊢
                        have HKA := Lib.hid hA4
                        have b0 := Blk.cell hA4 0 (v := .int .i64 i) rfl
                        have b1 := Blk.cell hA4 1 (v := .int .i64 k) rfl
                        have n0 : wa.cell? ⟨g, 2, none⟩ = some (.slice (some ⟨ga, 0, none⟩) o.mA o.mA) := Blk.cell (HNB.out.fr (Fr.of_below HBA.out (fun _ => False)) (fun a => a)) 2 rfl
                        have n1 : wa.cell? ⟨ga, j, none⟩ = some (.int .i64 xj) := by
                          have h := TV.cell (TV.below HTX.out HBA.out) HMA.out
                          simp only [HXX.out] at h; exact h
                        have s0 := Blk.cell HSA.out 0 (v := .slice (some ⟨hb, 0, none⟩) ps.length ps.length) rfl
                        have hc0 := RM.hcell HRA.out HG.out.1
                        have rc0 := RM.cell HRA.out HG.out.1 HG.out.2
                        have rf0 := RM.free HRA.out HG.out.1 k
                        have HRIB := Lib.hid (HRL.out i HG.out.1)
                        have HRT := Lib.hid (HRA.out.row i HG.out.1)
                        have HNE : Hid (r i ≠ sb ∧ r i ≠ bp) := Lib.hid (by
                          obtain ⟨cs, hcs, _⟩ := HRT.out
                          exact ⟨blk_ne hcs HSA.out (by decide), blk_ne hcs HKA.out (by decide)⟩)
                        have HFB : Hid (Fr (fun b => b = r i) wa ((wa.setCell ⟨r i, k, none⟩ (.int .i64 xj)).drew)) := Lib.hid (((Fr.refl (fun b => b = r i) wa).setCell (p := ⟨r i, k, none⟩) (.inl rfl) _).drew)
                        have HRB2 : Hid (RM ((wa.setCell ⟨r i, k, none⟩ (.int .i64 xj)).drew) hb ps.length ws.length ps.length r (o.planN x (j + 1))) := Lib.hid (((RM.set HRA.out HG.out.1 k xj).fr (Fr.refl (fun _ => False) _).drew (fun a => a) (fun _ _ a => a)).congr fun i' k' hi' hk' => by rw [HNX.out i' k' hi' hk'])
                        have HSB2 := Lib.hid (HSA.out.fr HFB.out (fun e => HNE.out.1 e.symm))
                        have HBB2 : Hid (Below w9.heap.size w9 ((wa.setCell ⟨r i, k, none⟩ (.int .i64 xj)).drew)) := Lib.hid (((Fr.of_below HBA.out (fun b => b = r i)).trans HFB.out (fun x h => .inl h)).to_below (Nat.le_refl _) (fun b hb' => by have := HHB.out; have := HRIB.out; omega))
                        clear hbp hal hA4 HRM HSB HB k0 k1 HTX
                        go_upto_region 40 with fail
                        go_cut [] (fun wx => wx = (wa.setCell ⟨r i, k, none⟩ (.int .i64 xj)).drew)
                        case first =>
                          refine calm ?_
                          go_region_law (first | fail)
                          all_goals
                            simp only [Calm]
                            go_wp2_with fail
                            go_meet
                            rfl
                        case rest =>
                          have hwx := hcut.symm
                          clear b0 b1 n0 n1 s0 hc0 rc0 rf0 HRA HSA HFB HBA HRT
                          generalize (wa.setCell ⟨r i, k, none⟩ (.int .i64 xj)).drew = wb at *
                          subst hwx
                          have s1 := Blk.cell HSB2.out 1 (v := .int .i64 Bj) rfl
                          have t1 := Blk.free HSB2.out 1
                          have HSC : Hid (Blk (wb.setCell ⟨sb, 1, none⟩ (.int .i64 (Bj + xj))) sb #[.slice (some ⟨hb, 0, none⟩) ps.length ps.length, .int .i64 (Bj + xj), .int .i64 Sj] 70) := Lib.hid (Blk.set HSB2.out 1 (.int .i64 (Bj + xj)))
                          have HFC : Hid (Fr (fun b => b = sb) wb (wb.setCell ⟨sb, 1, none⟩ (.int .i64 (Bj + xj)))) := Lib.hid ((Fr.refl (fun b => b = sb) wb).setCell (p := ⟨sb, 1, none⟩) (.inl rfl) _)
                          clear s1 t1
                          have s1 := Blk.cell HSB2.out 1 (v := .int .i64 Bj) rfl
                          have t1 := Blk.free HSB2.out 1
                          go_upto_region 42 with fail
                          clear s1 t1
                          generalize wb.setCell ⟨sb, 1, none⟩ (.int .i64 (Bj + xj)) = wd at *
                          have s2 := Blk.cell HSC.out 2 (v := .int .i64 Sj) rfl
                          have t2 := Blk.free HSC.out 2
                          have HBD : Hid (Below w9.heap.size w9 wd) := Lib.hid (((Fr.of_below HBB2.out (fun b => b = sb)).trans HFC.out (fun x h => .inl h)).to_below (Nat.le_refl _) (fun b hb' => by have := HHB.out; omega))
                          have a3 := HA3.out wd HBD.out
                          have HFE2 : Hid (Fr (fun b => b = sb) wb ((wd.setCell ⟨sb, 2, none⟩ (.int .i64 (Sj + xj * cj))).drew)) := Lib.hid ((HFC.out.setCell (p := ⟨sb, 2, none⟩) (.inl rfl) _).drew)
                          have HSE : Hid (Blk ((wd.setCell ⟨sb, 2, none⟩ (.int .i64 (Sj + xj * cj))).drew) sb #[.slice (some ⟨hb, 0, none⟩) ps.length ps.length, .int .i64 (sumN (j + 1) x), .int .i64 (sumN (j + 1) (fun t => x t * (o.arcA t).f3))] 70) := Lib.hid (by
                            rw [HBN.out, HSN.out]
                            exact Blk.set HSC.out 2 (.int .i64 (Sj + xj * cj)))
                          have HRE : Hid (RM ((wd.setCell ⟨sb, 2, none⟩ (.int .i64 (Sj + xj * cj))).drew) hb ps.length ws.length ps.length r (o.planN x (j + 1))) := Lib.hid (HRB2.out.fr HFE2.out (fun e => by have := HHB.out; omega) (fun i' hi' e => by
                            obtain ⟨cs, hcs, _⟩ := HRB2.out.row i' hi'
                            exact blk_ne hcs HSB2.out (by decide) e))
                          have HBE : Hid (Below w9.heap.size w9 ((wd.setCell ⟨sb, 2, none⟩ (.int .i64 (Sj + xj * cj))).drew)) := Lib.hid (((Fr.of_below HBB2.out (fun b => b = sb)).trans HFE2.out (fun x h => .inl h)).to_below (Nat.le_refl _) (fun b hb' => by have := HHB.out; omega))
                          clear HSB2 HFC HSC HRB2 HBB2 HFE2 HBD
                          refine calm ?_
                          go_region_law (first | fail)
                          all_goals
                            simp only [Calm]
                            clear s2 t2 a3
                            generalize (wd.setCell ⟨sb, 2, none⟩ (.int .i64 (Sj + xj * cj))).drew = we at *
                            go_wp2_with fail
                            go_roundg (o.s - (j + 1))
                            case measure => have := HJ.out; have := HLT.out; omega
                            case rel => exact ⟨j + 1, by go_num, Lib.hid (by have := HJ.out; have := HLT.out; omega), HRE, HSE, HBE⟩
                      · have hnj : ¬ (j : Int) < (prsP o (ps.length * ws.length)).length := by rw [HPL.out]; omega
                        obtain rfl : j = o.s := by have := HJ.out; omega
                        clear hlt HJ
                        have s0 := Blk.cell HSB.out 0 (v := .slice (some ⟨hb, 0, none⟩) ps.length ps.length) rfl
                        have s1 := Blk.cell HSB.out 1 (v := .int .i64 (sumN o.s x)) rfl
                        have s2 := Blk.cell HSB.out 2 (v := .int .i64 (sumN o.s (fun t => x t * (o.arcA t).f3))) rfl
                        have HRX3 := Lib.hid (HRX2.out.fr (Fr.of_below (below_t HB9.out HB.out) (fun _ => False)) (fun a => a))
                        have c0 := Blk.cell HRX3.out 0 (v := .slice none 0 0) rfl
                        have c1' := Blk.cell HRX3.out 1 (v := .int .i64 0) rfl
                        have c2' := Blk.cell HRX3.out 2 (v := .int .i64 0) rfl
                        have f0 := Blk.free HRX3.out 0
                        have f1 := Blk.free HRX3.out 1
                        have f2 := Blk.free HRX3.out 2
                        have HZ : Hid (Blk (((wv.setCell ⟨rb, 0, none⟩ (.slice (some ⟨hb, 0, none⟩) ps.length ps.length)).setCell ⟨rb, 1, none⟩ (.int .i64 (sumN o.s x))).setCell ⟨rb, 2, none⟩ (.int .i64 (sumN o.s (fun t => x t * (o.arcA t).f3)))) rb #[.slice (some ⟨hb, 0, none⟩) ps.length ps.length, .int .i64 (sumN o.s x), .int .i64 (sumN o.s (fun t => x t * (o.arcA t).f3))] 70) := Lib.hid (Blk.set (Blk.set (Blk.set HRX3.out 0 (.slice (some ⟨hb, 0, none⟩) ps.length ps.length)) 1 (.int .i64 (sumN o.s x))) 2 (.int .i64 (sumN o.s (fun t => x t * (o.arcA t).f3))))
                        have HFZ : Hid (Fr (fun b => b = rb) wv (((wv.setCell ⟨rb, 0, none⟩ (.slice (some ⟨hb, 0, none⟩) ps.length ps.length)).setCell ⟨rb, 1, none⟩ (.int .i64 (sumN o.s x))).setCell ⟨rb, 2, none⟩ (.int .i64 (sumN o.s (fun t => x t * (o.arcA t).f3))))) := Lib.hid ((((Fr.refl (fun b => b = rb) wv).setCell (p := ⟨rb, 0, none⟩) (.inl rfl) _).setCell (p := ⟨rb, 1, none⟩) (.inl rfl) _).setCell (p := ⟨rb, 2, none⟩) (.inl rfl) _)
                        go_wp2_with fail
                        generalize ((wv.setCell ⟨rb, 0, none⟩ (.slice (some ⟨hb, 0, none⟩) ps.length ps.length)).setCell ⟨rb, 1, none⟩ (.int .i64 (sumN o.s x))).setCell ⟨rb, 2, none⟩ (.int .i64 (sumN o.s (fun t => x t * (o.arcA t).f3))) = wz at *
                        have hlow : rb < w9.heap.size := by have := Blk.lt HRX2.out; have := HB9.out.size; omega
                        refine bodyPost_ret (results_ct rfl _ _ rb 70 _ (0, 0) _ rfl HZ.out Try.underlying70 rfl (by kernel_rfl)) rfl ⟨?_, ?_⟩
                        · rw [← HO.out]
                          refine .inr ⟨HE0.out, hb, r, x, p, ?_, ?_, HRO.out, HFE.out, HLE.out⟩
                          · rw [← Ord.tot_plan, ← Ord.sum_plan, HPW.out.1]; rfl
                          · rw [HPW.out.1, HPW.out.2]
                            refine (HRM.out.fr HFZ.out (fun e => by have := HHB.out; omega) (fun i hi e => by have := HRL.out i hi; have := HHB.out; omega)).congr fun i k hi hk => Ord.planN_all (by rw [HPW.out.1]; exact hi) (by rw [HPW.out.2]; exact hk)
                        · exact ((Fr.of_below (below_t HB2.out (below_t HB9.out HB.out)) (fun b => b = rb)).trans HFZ.out (fun x h => .inl h)).to_below (Nat.le_refl _) (fun b hb' => by have := HRB.out; omega)
  · have hne : (fillE ps ws T != 0) = true := by simpa using hE
    have c0 := Blk.cell HRX2.out 0 (v := .slice none 0 0) rfl
    have c1' := Blk.cell HRX2.out 1 (v := .int .i64 0) rfl
    have c2' := Blk.cell HRX2.out 2 (v := .int .i64 0) rfl
    have f0 := Blk.free HRX2.out 0
    have f1 := Blk.free HRX2.out 1
    have f2 := Blk.free HRX2.out 2
    have HZ : Hid (Blk (((w2.setCell ⟨rb, 0, none⟩ (.slice none 0 0)).setCell ⟨rb, 1, none⟩ (.int .i64 0)).setCell ⟨rb, 2, none⟩ (.int .i64 0)) rb #[.slice none 0 0, .int .i64 0, .int .i64 0] 70) := Lib.hid (Blk.set (Blk.set (Blk.set HRX2.out 0 (.slice none 0 0)) 1 (.int .i64 0)) 2 (.int .i64 0))
    have HFZ : Hid (Fr (fun b => b = rb) w2 (((w2.setCell ⟨rb, 0, none⟩ (.slice none 0 0)).setCell ⟨rb, 1, none⟩ (.int .i64 0)).setCell ⟨rb, 2, none⟩ (.int .i64 0))) := Lib.hid ((((Fr.refl (fun b => b = rb) w2).setCell (p := ⟨rb, 0, none⟩) (.inl rfl) _).setCell (p := ⟨rb, 1, none⟩) (.inl rfl) _).setCell (p := ⟨rb, 2, none⟩) (.inl rfl) _)
    go_wp2_with fail
    generalize ((w2.setCell ⟨rb, 0, none⟩ (.slice none 0 0)).setCell ⟨rb, 1, none⟩ (.int .i64 0)).setCell ⟨rb, 2, none⟩ (.int .i64 0) = wz at *
    refine bodyPost_ret (results_ct rfl _ _ rb 70 _ (0, 0) _ rfl HZ.out Try.underlying70 rfl (by kernel_rfl)) rfl ⟨.inl ⟨hE, rfl⟩, ?_⟩
    exact ((Fr.of_below HB2.out (fun b => b = rb)).trans HFZ.out (fun x h => .inl h)).to_below (Nat.le_refl _) (fun b hb' => by have := HRB.out; omega)
end Go.Proofs.Ytpbndcmmclkdpaa
