/-
  The walk of Copy.
-/
import Derived.Test.YtpmopdgnnlhplaaLe
import Derived.Shelf.SlMaps.Clone
namespace Go.Proofs.Ytpmopdgnnlhplaa
open Go.RowKit Go.Proofs.YtpmopdgnnlhplaaW.PrintWords
set_option maxRecDepth 100000 in
set_option maxHeartbeats 2000000 in
theorem mapsClone (w : World) (r : Nat) (l : List (Int × Value)) (h : KMap (Value.int .i64) w r l) :
    Calls Try.prog 73 #[.map (some r)] w fun e w' => e = .returned (.map (some w.heap.size)) ∧ KMap (Value.int .i64) w' w.heap.size l ∧ Below w.heap.size w w' := by
  obtain ⟨es, clock, hb, hrest⟩ := h
  have hq := fun w => run_eql_map_nil_sl (P := Try.prog) w 92 _ _ (some r) Try.underlying92
  go_enter Try.func73, Try.ntmps73
  go_wp2
  rw [run_callFunc_extern Try.func97 (by kernel_rfl) (by kernel_rfl) (by kernel_rfl) (e := Extern.MapsClone.clone) (by kernel_rfl), run_maps_clone_sl w 92 hb]
  simp only [Result.andThen]
  rw [Oper.upon_value]
  go_wp2
  rw [run_typeAssert_map_sl _ 92 20 _ _ _ Try.underlying92]
  simp only [Result.andThen]
  rw [Oper.upon_value]
  go_wp2
  go_ret
  exact ⟨rfl, ⟨es, clock, (MapKept.heap_alloc w _).1, hrest⟩, (Below.refl _ w).alloc (Nat.le_refl _) _⟩
set_option maxRecDepth 100000 in
set_option maxHeartbeats 1600000 in
theorem cloneRc (w : World) (F : Nat → Prop) (v : Value) (recs : List Rc) (hR : Kd.R kRc 34 w 0 F v recs) (hF : ∀ b, F b → b < w.heap.size) (hl : recs.length ≤ 4096) :
    Calls Try.prog 72 #[v] w fun e w' => (∃ v1, e = .returned v1 ∧ Kd.R kRc 34 w' 0 (fun k => F k ∨ w.heap.size ≤ k) v1 recs ∧ ∀ k, v1.ownBlock = some k → w.heap.size ≤ k) ∧ Below w.heap.size w w' := by
  obtain ⟨A, c, rfl, hlc, hC⟩ := Kd.R_reads hR
  cases A with
  | none =>
    have h0 : recs = [] := by
      rcases Nat.eq_zero_or_pos recs.length with h | h
      · exact List.eq_nil_of_length_eq_zero h
      · obtain ⟨ad, h1, _⟩ := hC.2.2 h; cases h1
    subst h0
    have he := Lib.run_eql_slice_nil (P := Try.prog) w 30 34 none 0 c 0 0 Try.underlying30
    go_enter Try.func72, Try.ntmps72
    go_wp2
    go_ret
    exact ⟨⟨_, rfl, Kd.R_nil _ _ _ _ _, fun k hk => by simp [Value.ownBlock] at hk⟩, Below.refl _ _⟩
  | some ad =>
    have he := Lib.run_eql_slice_nil (P := Try.prog) w 30 34 (some ad) recs.length c 0 0 Try.underlying30
    have hR2 := Kd.R_alloc hR (.cells #[] 34)
    obtain ⟨hok, inner, hown, hreps⟩ := hR2
    have hrow := own_reads_row hown hreps rfl
    obtain ⟨A', hA', hrow⟩ : ∃ A', A' = some ad ∧ ReadsRow _ kRc.sz (w.alloc (.cells #[] 34)) A' recs.length recs := by
      obtain ⟨A', c', he', h'⟩ := hrow
      simp only [Value.slice.injEq] at he'
      obtain ⟨rfl, _, _⟩ := he'
      exact ⟨_, rfl, h'⟩
    subst hA'
    have hnew : Kd.R kRc 34 (w.alloc (.cells #[] 34)) 0 (fun k => F k ∨ w.heap.size ≤ k) (.slice (some ⟨w.heap.size, 0, none⟩) 0 0) [] :=
      ⟨fun k hk => by have : w.heap.size = k := by simpa [Value.ownBlock] using hk
                      exact .inr (by omega), [], ⟨by simp, .inr ⟨w.heap.size, 0, #[], rfl, Nat.zero_le _, (MapKept.heap_alloc w _).1, Nat.le_refl _, by decide, by simp, by simp⟩⟩, Reps.none _ _⟩
    have hfresh : ∀ k, (w.alloc (.cells #[] 34)).heap.size ≤ k → F k ∨ w.heap.size ≤ k := fun k hk => .inr (by simp at hk; omega)
    have hl' : (([] : List Rc).length + recs.length) * 56 ≤ 140737488355328 := by simp; omega
    have hokp : ∀ k, F k → (F k ∨ w.heap.size ≤ k) ∧ some k ≠ (Value.slice (some ⟨w.heap.size, 0, none⟩) 0 0).ownBlock := fun k hk => ⟨.inl hk, by
      have := hF k hk
      simp [Value.ownBlock]
      omega⟩
    go_enter Try.func72, Try.ntmps72
    go_wp2_with (at_builtin; refine Kd.R_append_rows kRc (Rr := kRc.M (w.alloc (.cells #[] 34)) 0 (fun k => F k ∧ some k ≠ (Value.slice (some ad) recs.length c).ownBlock)) (w0 := w.alloc (.cells #[] 34)) 0 rfl _ _ 30 34 (.agg #[.int .i64 0, .int .i64 0, .slice none 0 0, .int .i64 0, .int .u64 0]) 56 rfl Try.underlying30 info34 rfl (by decide) (by decide) (.slice (some ⟨w.heap.size, 0, none⟩) 0 0) [] recs (some ad) recs.length c (fun k => F k ∨ w.heap.size ≤ k) F rfl rfl hnew hrow (fun x cs hm => Kd.M_mono kRc (fun k hk => hk.1) hm) hokp hfresh (Below.refl _ _) (Nat.zero_le _) hl' ?_; intro v1 w1 hR1 hb1 hg1 hat1)
    have hown1 : ∀ k, v1.ownBlock = some k → w.heap.size ≤ k := fun k hk => by
      rcases hat1 with h9 | ⟨b, h9, h10⟩
      · rw [h9] at hk
        simp [Value.ownBlock] at hk
        omega
      · rw [h9] at hk
        injection hk with hk
        simp at h10
        omega
    have hbb : Below w.heap.size w w1 := ((Fr.of_below ((Below.refl w.heap.size w).alloc (Nat.le_refl _) (.cells #[] 34)) (fun _ => False)).grown hg1 (fun k hk => .inr (by simp [Value.ownBlock] at hk; omega))).none_below
    go_ret
    exact ⟨⟨v1, rfl, by simpa using hR1, hown1⟩, hbb⟩
theorem cloneRw (w : World) (F : Nat → Prop) (v : Value) (rs : List Rw) (hR : Kd.R kRw 90 w 0 F v rs) (hl : rs.length ≤ 4096) :
    Calls Try.prog 74 #[v] w fun e w' => (∃ v1, e = .returned v1 ∧ Kd.R kRw 90 w' 0 (fun k => w.heap.size ≤ k) v1 rs) ∧ Below w.heap.size w w' := by
  obtain ⟨A, c, rfl, hlc, hC⟩ := Kd.R_reads hR
  cases A with
  | none =>
    have h0 : rs = [] := by
      rcases Nat.eq_zero_or_pos rs.length with h | h
      · exact List.eq_nil_of_length_eq_zero h
      · obtain ⟨ad, h1, _⟩ := hC.2.2 h; cases h1
    subst h0
    have he := Lib.run_eql_slice_nil (P := Try.prog) w 86 90 none 0 c 0 0 Try.underlying86
    go_enter Try.func74, Try.ntmps74
    go_wp2
    go_ret
    exact ⟨⟨_, rfl, Kd.R_nil _ _ _ _ _⟩, Below.refl _ _⟩
  | some ad =>
    have he := Lib.run_eql_slice_nil (P := Try.prog) w 86 90 (some ad) rs.length c 0 0 Try.underlying86
    have hC2 := Kd.C_below hC ((Below.refl _ w).alloc (Nat.le_refl _) (.cells #[] 90))
    have hnew : Kd.R kRw 90 (w.alloc (.cells #[] 90)) 0 (fun k => w.heap.size ≤ k) (.slice (some ⟨w.heap.size, 0, none⟩) 0 0) [] :=
      ⟨fun k hk => by have : w.heap.size = k := by simpa [Value.ownBlock] using hk
                      omega, [], ⟨by simp, .inr ⟨w.heap.size, 0, #[], rfl, Nat.zero_le _, (MapKept.heap_alloc w _).1, Nat.le_refl _, by decide, by simp, by simp⟩⟩, Reps.none _ _⟩
    have hKM : ∀ (x : Rw) (cs : List Value), kRw.K (w.alloc (.cells #[] 90)) x cs → kRw.M (w.alloc (.cells #[] 90)) 0 (fun _ => False) x cs := fun x cs hK => by
      rw [kRw_open hK]; exact kRw_mkM x
    have hfresh : ∀ k, (w.alloc (.cells #[] 90)).heap.size ≤ k → w.heap.size ≤ k := fun k hk => by simp at hk; omega
    have hl' : (([] : List Rw).length + rs.length) * 32 ≤ 140737488355328 := by simp; omega
    go_enter Try.func74, Try.ntmps74
    go_wp2_with (at_builtin; refine Kd.R_append_rows kRw (Rr := kRw.K (w.alloc (.cells #[] 90))) (w0 := w.alloc (.cells #[] 90)) 0 rfl _ _ 86 90 (.agg #[.int .i64 0, .int .i64 0, .int .i64 0, .int .i64 0]) 32 rfl Try.underlying86 info90 rfl (by decide) (by decide) (.slice (some ⟨w.heap.size, 0, none⟩) 0 0) [] rs (some ad) rs.length c (fun k => w.heap.size ≤ k) (fun _ => False) rfl rfl hnew hC2 hKM (fun _ hk => hk.elim) hfresh (Below.refl _ _) (Nat.zero_le _) hl' ?_; intro v1 w1 hR1 hb1 hg1 hat1)
    have hbb : Below w.heap.size w w1 := ((Fr.of_below ((Below.refl w.heap.size w).alloc (Nat.le_refl _) (.cells #[] 90)) (fun _ => False)).grown hg1 (fun k hk => .inr (by simp [Value.ownBlock] at hk; omega))).none_below
    go_ret
    exact ⟨⟨v1, rfl, by simpa using hR1⟩, hbb⟩
section
variable {P : Program} {ops : Array Oper} {o : Oper} {a : Act} {Q : Exit → Act → World → Prop} {Kc : Act → World → Prop} {κ : Type} {d : TypeDesc} {enc : κ → Value} {w : World} {r : Nat} {l : List (κ × Value)}
theorem mapUpdate_step [DecidableEq κ] (hw : Region.wanted o (yielded ops a.tmps) = true) (m x y : Operand) (t : TypeId) (hop : o.op = Op.mapUpdate t m x y)
    (K : KE d enc) (h : KMap enc w r l) {kt et : TypeId} (ht : P.underlying t = some (.map kt et)) (hk : P.underlying kt = some d) (hm : a.eval m = .map (some r)) (k : κ) (hx : a.eval x = enc k) (v : Value) (hy : a.eval y = v)
    (hK : ∀ w', KMap enc w' r (mput l k v) → Fr (· = r) w w' → w'.heap.size = w.heap.size → Kc (a.put o.dst undef) w') :
    if Region.wanted o (yielded ops a.tmps) = true then Oper.wp P o a w Kc Q else Kc (a.put o.dst undef) w := by
  rw [if_pos hw]
  obtain ⟨w', hrun, h1, h2, h3⟩ := h.update K ht hk k v
  unfold Oper.wp
  simp [execOp, hop, hm, hx, hy, hrun, Result.andThen]
  exact hK w' h1 h2 h3
end
end Go.Proofs.Ytpmopdgnnlhplaa
