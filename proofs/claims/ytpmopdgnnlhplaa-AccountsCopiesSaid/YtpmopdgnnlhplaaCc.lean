/-
  The walk of Copy.
  The walk of Copy, continued.
  Copy, and balances of a copy, over states.
-/
import Derived.Test.YtpmopdgnnlhplaaLe
import Derived.Shelf.SlMaps.Clone
import Derived.Test.YtpmopdgnnlhplaaRq
namespace Go.Proofs.Ytpmopdgnnlhplaa
open Go.RowKit Go.Proofs.YtpmopdgnnlhplaaW.PrintWords
set_option maxRecDepth 100000 in
set_option maxHeartbeats 2000000 in
theorem mapsClone (w : World) (r : Nat) (l : List (Int × Value)) (h : KMap (Value.int .i64) w r l) :
    Calls Try.prog 73 #[.map (some r)] w fun e w' => e = .returned (.map (some w.heap.size)) ∧ KMap (Value.int .i64) w' w.heap.size l ∧ Below w.heap.size w w' := by
  obtain ⟨es, clock, hb, hrest⟩ := h
  have hq := fun w => run_eql_map_nil_sl (P := Try.prog) w 92 _ _ (some r) Try.underlying92
  go_enter Try.func73, Try.ntmps73
  go_wp2
  rw [run_callFunc_extern Try.func97 (by kernel_rfl) (by kernel_rfl) (by kernel_rfl) (e := Extern.MapsClone.clone) (by kernel_rfl), run_maps_clone_sl w 92 hb]
  simp only [Result.andThen]
  rw [Oper.upon_value]
  go_wp2
  rw [run_typeAssert_map_sl _ 92 20 _ _ _ Try.underlying92]
  simp only [Result.andThen]
  rw [Oper.upon_value]
  go_wp2
  go_ret
  exact ⟨rfl, ⟨es, clock, (MapKept.heap_alloc w _).1, hrest⟩, (Below.refl _ w).alloc (Nat.le_refl _) _⟩
set_option maxRecDepth 100000 in
set_option maxHeartbeats 1600000 in
theorem cloneRc (w : World) (F : Nat → Prop) (v : Value) (recs : List Rc) (hR : Kd.R kRc 34 w 0 F v recs) (hF : ∀ b, F b → b < w.heap.size) (hl : recs.length ≤ 4096) :
    Calls Try.prog 72 #[v] w fun e w' => (∃ v1, e = .returned v1 ∧ Kd.R kRc 34 w' 0 (fun k => F k ∨ w.heap.size ≤ k) v1 recs ∧ ∀ k, v1.ownBlock = some k → w.heap.size ≤ k) ∧ Below w.heap.size w w' := by
  obtain ⟨A, c, rfl, hlc, hC⟩ := Kd.R_reads hR
  cases A with
  | none =>
    have h0 : recs = [] := by
      rcases Nat.eq_zero_or_pos recs.length with h | h
      · exact List.eq_nil_of_length_eq_zero h
      · obtain ⟨ad, h1, _⟩ := hC.2.2 h; cases h1
    subst h0
    have he := Lib.run_eql_slice_nil (P := Try.prog) w 30 34 none 0 c 0 0 Try.underlying30
    go_enter Try.func72, Try.ntmps72
    go_wp2
    go_ret
    exact ⟨⟨_, rfl, Kd.R_nil _ _ _ _ _, fun k hk => by simp [Value.ownBlock] at hk⟩, Below.refl _ _⟩
  | some ad =>
    have he := Lib.run_eql_slice_nil (P := Try.prog) w 30 34 (some ad) recs.length c 0 0 Try.underlying30
    have hR2 := Kd.R_alloc hR (.cells #[] 34)
    obtain ⟨hok, inner, hown, hreps⟩ := hR2
    have hrow := own_reads_row hown hreps rfl
    obtain ⟨A', hA', hrow⟩ : ∃ A', A' = some ad ∧ ReadsRow _ kRc.sz (w.alloc (.cells #[] 34)) A' recs.length recs := by
      obtain ⟨A', c', he', h'⟩ := hrow
      simp only [Value.slice.injEq] at he'
      obtain ⟨rfl, _, _⟩ := he'
      exact ⟨_, rfl, h'⟩
    subst hA'
    have hnew : Kd.R kRc 34 (w.alloc (.cells #[] 34)) 0 (fun k => F k ∨ w.heap.size ≤ k) (.slice (some ⟨w.heap.size, 0, none⟩) 0 0) [] :=
      ⟨fun k hk => by have : w.heap.size = k := by simpa [Value.ownBlock] using hk
                      exact .inr (by omega), [], ⟨by simp, .inr ⟨w.heap.size, 0, #[], rfl, Nat.zero_le _, (MapKept.heap_alloc w _).1, Nat.le_refl _, by decide, by simp, by simp⟩⟩, Reps.none _ _⟩
    have hfresh : ∀ k, (w.alloc (.cells #[] 34)).heap.size ≤ k → F k ∨ w.heap.size ≤ k := fun k hk => .inr (by simp at hk; omega)
    have hl' : (([] : List Rc).length + recs.length) * 56 ≤ 140737488355328 := by simp; omega
    have hokp : ∀ k, F k → (F k ∨ w.heap.size ≤ k) ∧ some k ≠ (Value.slice (some ⟨w.heap.size, 0, none⟩) 0 0).ownBlock := fun k hk => ⟨.inl hk, by
      have := hF k hk
      simp [Value.ownBlock]
      omega⟩
    go_enter Try.func72, Try.ntmps72
    go_wp2_with (at_builtin; refine Kd.R_append_rows kRc (Rr := kRc.M (w.alloc (.cells #[] 34)) 0 (fun k => F k ∧ some k ≠ (Value.slice (some ad) recs.length c).ownBlock)) (w0 := w.alloc (.cells #[] 34)) 0 rfl _ _ 30 34 (.agg #[.int .i64 0, .int .i64 0, .slice none 0 0, .int .i64 0, .int .u64 0]) 56 rfl Try.underlying30 info34 rfl (by decide) (by decide) (.slice (some ⟨w.heap.size, 0, none⟩) 0 0) [] recs (some ad) recs.length c (fun k => F k ∨ w.heap.size ≤ k) F rfl rfl hnew hrow (fun x cs hm => Kd.M_mono kRc (fun k hk => hk.1) hm) hokp hfresh (Below.refl _ _) (Nat.zero_le _) hl' ?_; intro v1 w1 hR1 hb1 hg1 hat1)
    have hown1 : ∀ k, v1.ownBlock = some k → w.heap.size ≤ k := fun k hk => by
      rcases hat1 with h9 | ⟨b, h9, h10⟩
      · rw [h9] at hk
        simp [Value.ownBlock] at hk
        omega
      · rw [h9] at hk
        injection hk with hk
        simp at h10
        omega
    have hbb : Below w.heap.size w w1 := ((Fr.of_below ((Below.refl w.heap.size w).alloc (Nat.le_refl _) (.cells #[] 34)) (fun _ => False)).grown hg1 (fun k hk => .inr (by simp [Value.ownBlock] at hk; omega))).none_below
    go_ret
    exact ⟨⟨v1, rfl, by simpa using hR1, hown1⟩, hbb⟩
theorem cloneRw (w : World) (F : Nat → Prop) (v : Value) (rs : List Rw) (hR : Kd.R kRw 90 w 0 F v rs) (hl : rs.length ≤ 4096) :
    Calls Try.prog 74 #[v] w fun e w' => (∃ v1, e = .returned v1 ∧ Kd.R kRw 90 w' 0 (fun k => w.heap.size ≤ k) v1 rs) ∧ Below w.heap.size w w' := by
  obtain ⟨A, c, rfl, hlc, hC⟩ := Kd.R_reads hR
  cases A with
  | none =>
    have h0 : rs = [] := by
      rcases Nat.eq_zero_or_pos rs.length with h | h
      · exact List.eq_nil_of_length_eq_zero h
      · obtain ⟨ad, h1, _⟩ := hC.2.2 h; cases h1
    subst h0
    have he := Lib.run_eql_slice_nil (P := Try.prog) w 86 90 none 0 c 0 0 Try.underlying86
    go_enter Try.func74, Try.ntmps74
    go_wp2
    go_ret
    exact ⟨⟨_, rfl, Kd.R_nil _ _ _ _ _⟩, Below.refl _ _⟩
  | some ad =>
    have he := Lib.run_eql_slice_nil (P := Try.prog) w 86 90 (some ad) rs.length c 0 0 Try.underlying86
    have hC2 := Kd.C_below hC ((Below.refl _ w).alloc (Nat.le_refl _) (.cells #[] 90))
    have hnew : Kd.R kRw 90 (w.alloc (.cells #[] 90)) 0 (fun k => w.heap.size ≤ k) (.slice (some ⟨w.heap.size, 0, none⟩) 0 0) [] :=
      ⟨fun k hk => by have : w.heap.size = k := by simpa [Value.ownBlock] using hk
                      omega, [], ⟨by simp, .inr ⟨w.heap.size, 0, #[], rfl, Nat.zero_le _, (MapKept.heap_alloc w _).1, Nat.le_refl _, by decide, by simp, by simp⟩⟩, Reps.none _ _⟩
    have hKM : ∀ (x : Rw) (cs : List Value), kRw.K (w.alloc (.cells #[] 90)) x cs → kRw.M (w.alloc (.cells #[] 90)) 0 (fun _ => False) x cs := fun x cs hK => by
      rw [kRw_open hK]; exact kRw_mkM x
    have hfresh : ∀ k, (w.alloc (.cells #[] 90)).heap.size ≤ k → w.heap.size ≤ k := fun k hk => by simp at hk; omega
    have hl' : (([] : List Rw).length + rs.length) * 32 ≤ 140737488355328 := by simp; omega
    go_enter Try.func74, Try.ntmps74
    go_wp2_with (at_builtin; refine Kd.R_append_rows kRw (Rr := kRw.K (w.alloc (.cells #[] 90))) (w0 := w.alloc (.cells #[] 90)) 0 rfl _ _ 86 90 (.agg #[.int .i64 0, .int .i64 0, .int .i64 0, .int .i64 0]) 32 rfl Try.underlying86 info90 rfl (by decide) (by decide) (.slice (some ⟨w.heap.size, 0, none⟩) 0 0) [] rs (some ad) rs.length c (fun k => w.heap.size ≤ k) (fun _ => False) rfl rfl hnew hC2 hKM (fun _ hk => hk.elim) hfresh (Below.refl _ _) (Nat.zero_le _) hl' ?_; intro v1 w1 hR1 hb1 hg1 hat1)
    have hbb : Below w.heap.size w w1 := ((Fr.of_below ((Below.refl w.heap.size w).alloc (Nat.le_refl _) (.cells #[] 90)) (fun _ => False)).grown hg1 (fun k hk => .inr (by simp [Value.ownBlock] at hk; omega))).none_below
    go_ret
    exact ⟨⟨v1, rfl, by simpa using hR1⟩, hbb⟩
section
variable {P : Program} {ops : Array Oper} {o : Oper} {a : Act} {Q : Exit → Act → World → Prop} {Kc : Act → World → Prop} {κ : Type} {d : TypeDesc} {enc : κ → Value} {w : World} {r : Nat} {l : List (κ × Value)}
theorem mapUpdate_step [DecidableEq κ] (hw : Region.wanted o (yielded ops a.tmps) = true) (m x y : Operand) (t : TypeId) (hop : o.op = Op.mapUpdate t m x y)
    (K : KE d enc) (h : KMap enc w r l) {kt et : TypeId} (ht : P.underlying t = some (.map kt et)) (hk : P.underlying kt = some d) (hm : a.eval m = .map (some r)) (k : κ) (hx : a.eval x = enc k) (v : Value) (hy : a.eval y = v)
    (hK : ∀ w', KMap enc w' r (mput l k v) → Fr (· = r) w w' → w'.heap.size = w.heap.size → Kc (a.put o.dst undef) w') :
    if Region.wanted o (yielded ops a.tmps) = true then Oper.wp P o a w Kc Q else Kc (a.put o.dst undef) w := by
  rw [if_pos hw]
  obtain ⟨w', hrun, h1, h2, h3⟩ := h.update K ht hk k v
  unfold Oper.wp
  simp [execOp, hop, hm, hx, hy, hrun, Result.andThen]
  exact hK w' h1 h2 h3
end
end Go.Proofs.Ytpmopdgnnlhplaa
namespace Go.Proofs.Ytpmopdgnnlhplaa
open Go.RowKit Go.Proofs.YtpmopdgnnlhplaaW.PrintWords
/-- A ledger as far as balances go: its accounts and their rows. -/
structure LedB (w : World) (F : Nat → Prop) (g am : Nat) (accs : List AccE) (rows : ByteArray → List Rw) : Prop where
  blk : ∃ v rm, Blk w g #[v, .map (some rm), .map (some am)] 97
  fin : ∀ b, F b → b < w.heap.size
  fg : F g
  fam : F am
  amap : KMap Value.string w am (amapOf accs)
  haccs : ∀ x ∈ accs, AccOk w F rows x
section
variable {w w' : World} {F : Nat → Prop} {g am : Nat} {accs : List AccE} {rows : ByteArray → List Rw}
theorem LedB.move (h : LedB w F g am accs rows) (hm : ∀ k, F k → w'.heap[k]? = w.heap[k]?) (hs : w.heap.size ≤ w'.heap.size) : LedB w' F g am accs rows where
  blk := by obtain ⟨v, rm, hb⟩ := h.blk; exact ⟨v, rm, hb.move (hm g h.fg)⟩
  fin b hb := Nat.lt_of_lt_of_le (h.fin b hb) hs
  fg := h.fg
  fam := h.fam
  amap := h.amap.move (hm am h.fam)
  haccs x hx := ⟨(h.haccs x hx).1, (h.haccs x hx).2.1.move (hm _ (h.haccs x hx).1), Kd.R_move (h.haccs x hx).2.2 hm⟩
theorem LedB.fr {G : Nat → Prop} (h : LedB w F g am accs rows) (hf : Fr G w w') (hd : ∀ b, F b → ¬ G b) : LedB w' F g am accs rows :=
  h.move (fun k hk => hf.block k (h.fin k hk) (hd k hk)) hf.size
theorem LedB.below (h : LedB w F g am accs rows) (hb : Below w.heap.size w w') : LedB w' F g am accs rows :=
  h.move (fun k hk => hb.block k (h.fin k hk)) hb.size
end
/-- The accounts that were copied, and those that are left. -/
def Half (accs accsc : List AccE) (left : List (ByteArray × Value)) : Prop := (accsc.map (·.name) ++ left.map (·.1)).Perm (accs.map (·.name))
theorem half_step {accs accsc : List AccE} {left : List (ByteArray × Value)} {p : ByteArray × Value} {nb : Nat} {u : Value} (h : Half accs accsc left) (hp : p ∈ left) (hn : (left.map (·.1)).Nodup) :
    Half accs (accsc ++ [⟨p.1, nb, u⟩]) (left.filter (fun q => !decide (q.1 = p.1))) := by
  unfold Half at h ⊢
  refine List.Perm.trans ?_ h
  rw [List.map_append, List.append_assoc]
  refine List.Perm.append_left _ ?_
  show ([p.1] ++ _).Perm _
  have key : ∀ (l : List (ByteArray × Value)), (l.map (·.1)).Nodup → p ∈ l → ([p.1] ++ (l.filter (fun q => !decide (q.1 = p.1))).map (·.1)).Perm (l.map (·.1)) := by
    intro l
    induction l with
    | nil => intro _ h9; simp at h9
    | cons q r ih =>
      intro hn hq
      obtain ⟨h1, h2⟩ := List.nodup_cons.1 hn
      rcases List.mem_cons.1 hq with rfl | hq
      · have hf : r.filter (fun q => !decide (q.1 = p.1)) = r := by
          rw [List.filter_eq_self]
          intro z hz
          have : z.1 ≠ p.1 := fun e => h1 (List.mem_map.2 ⟨z, hz, e⟩)
          simp [this]
        simp [hf]
      · have hne : q.1 ≠ p.1 := fun e => h1 (List.mem_map.2 ⟨p, hq, e.symm⟩)
        have := ih h2 hq
        rw [List.filter_cons_of_pos (by simp [hne]), List.map_cons, List.map_cons]
        exact (List.Perm.swap q.1 p.1 _).trans (List.Perm.cons _ this)
  exact key left hn hp
theorem R_turn {α : Type} {d : Kd α} {e base : Nat} {ok : Nat → Prop} {w w' : World} {u : Value} {xs : List α} {G : Nat → Prop} (h : Kd.R d e w base ok u xs) (hf : Fr G w w') (hG : ∀ b cs t fz, w.heap[b]? = some (.cells cs t fz) → ¬ G b) : Kd.R d e w' base ok u xs :=
  Kd.R_mono (Kd.R_move (Kd.R_bound h) (fun k hk => by
    obtain ⟨_, _, hlt, q, _, cells, hc⟩ := hk
    exact hf.block k hlt (hG k _ _ _ hc))) (fun _ hk => hk.1)
theorem AccOk.turn {w w' : World} {F G : Nat → Prop} {rows : ByteArray → List Rw} {x : AccE} (h : AccOk w F rows x) (hf : Fr G w w') (hG : ∀ b cs t fz, w.heap[b]? = some (.cells cs t fz) → ¬ G b) : AccOk w' F rows x :=
  ⟨h.1, h.2.1.fr hf (hG _ _ _ _ h.2.1), R_turn h.2.2 hf hG⟩
theorem AccOk.below {w w' : World} {F : Nat → Prop} {rows : ByteArray → List Rw} {x : AccE} (h : AccOk w F rows x) (hb : Below w.heap.size w w') : AccOk w' F rows x :=
  ⟨h.1, (hb.block _ h.2.1.lt).trans h.2.1, Kd.R_below h.2.2 hb⟩
theorem AccOk.mono {w : World} {F G : Nat → Prop} {rows : ByteArray → List Rw} {x : AccE} (h : AccOk w F rows x) (hG : ∀ b, F b → b < w.heap.size → G b) : AccOk w G rows x :=
  ⟨hG _ h.1 h.2.1.lt, h.2.1, Kd.R_mono (Kd.R_bound h.2.2) (fun k hk => hG k hk.1 hk.2.2.1)⟩
set_option maxRecDepth 100000 in
set_option maxHeartbeats 4000000 in
theorem Copy_any {w : World} {F : Nat → Prop} {g : Nat} {v : Value} {rm am : Nat} {accs : List AccE} {recs : List Rc} {rows : ByteArray → List Rw} {rl : List (Int × Value)}
    (h : LedH w F g v rm am accs recs rows rl) (hrl : recs.length ≤ 4096) (hrw : ∀ a, (rows a).length ≤ 4096) :
    Calls Try.prog 35 #[.pointer (some ⟨g, 0, none⟩)] w fun e w' => ∃ gc Fb vc rmc amc accsc, e = .returned (.pointer (some ⟨gc, 0, none⟩)) ∧ Below w.heap.size w w' ∧ (∀ b, Fb b → w.heap.size ≤ b) ∧ LedB w' Fb gc amc accsc rows ∧
      (accsc.map (·.name)).Perm (accs.map (·.name)) ∧ LedH w' (fun b => F b ∨ Fb b) gc vc rmc amc accsc recs rows rl ∧ (∀ k, vc.ownBlock = some k → w.heap.size ≤ k) ∧ w.heap.size ≤ rmc := by
  have c0 := h.c0
  have c1 := h.c1
  have c2 := h.c2
  have hfin := h.fin
  have hmm := @run_makeMap Try.prog
  have gw := h.blk.lt
  go_enter Try.func35, Try.ntmps35
  go_upto_region 3 with (go_at_call 58; refine (made_yes _ _ _ c2).mono ?_; rintro e w1 ⟨rfl, rfl⟩)
  go_cut [3] (fun s3 wx => ∃ (gc : Nat) (vc : Value) (rmc amc : Nat), s3 = .pointer (some ⟨gc, 0, none⟩) ∧ Blk wx gc #[vc, .map (some rmc), .map (some amc)] 97 ∧ Kd.R kRc 34 wx 0 (fun k => F k ∨ w.heap.size ≤ k) vc recs ∧ KMap (Value.int .i64) wx rmc rl ∧ KMap Value.string wx amc ([] : List (ByteArray × Value)) ∧ w.heap.size ≤ gc ∧ w.heap.size ≤ rmc ∧ w.heap.size ≤ amc ∧ rmc ≠ amc ∧ Below w.heap.size w wx ∧ ∀ k, vc.ownBlock = some k → w.heap.size ≤ k)
  case first =>
    go_region_law (first
      | (go_simp; go_at_call 72; refine (cloneRc w.drew F v recs (Kd.R_move (w1 := w.drew) h.hrecs (fun _ _ => rfl)) hfin hrl).mono ?_; rintro e wA ⟨⟨vc, rfl, hRc, hoc⟩, hbA⟩; obtain ⟨Av, cv, rfl, -, -⟩ := Kd.R_reads hRc; have hbW : Below w.heap.size w wA := (Below.refl _ w).drew.trans hbA; have cA := (h.below hbW).c1; have gA := (h.below hbW).blk.lt)
      | (go_simp; go_at_call 72; refine (cloneRc (w.alloc (.map #[] 0)).drew F v recs (Kd.R_drew (Kd.R_alloc h.hrecs (.map #[] 0))) (fun b hb => Nat.lt_of_lt_of_le (hfin b hb) (by simp)) hrl).mono ?_; rintro e wA ⟨⟨vc, rfl, hRc, hoc⟩, hbA⟩; obtain ⟨Av, cv, rfl, -, -⟩ := Kd.R_reads hRc; have hbW : Below w.heap.size w wA := (((Below.refl _ w).alloc (Nat.le_refl _) (.map #[] 0)).drew).trans (hbA.mono (by simp)); have hM0 : KMap Value.string wA w.heap.size ([] : List (ByteArray × Value)) := (KMap.new Value.string w).move (hbA.block w.heap.size (by simp)); have cA := (h.below hbW).c1; have gA := (h.below hbW).blk.lt)
      | (go_simp; go_at_call 73; refine (mapsClone wA rm rl (h.below hbW).revd).mono ?_; rintro e wB ⟨rfl, hKc, hbB⟩; have hbX : Below w.heap.size w wB := hbW.trans (hbB.mono hbW.size))
      | (go_simp; go_at_call 73; refine (mapsClone (wA.alloc (.map #[] 0)) rm rl ((h.below hbW).revd.alloc (.map #[] 0))).mono ?_; rintro e wB ⟨rfl, hKc, hbB⟩; have hbX : Below w.heap.size w wB := (hbW.alloc hbW.size (.map #[] 0)).trans (hbB.mono (by simp; have := hbW.size; omega)); have hM1 : KMap Value.string wB wA.heap.size ([] : List (ByteArray × Value)) := (KMap.new Value.string wA).move (hbB.block wA.heap.size (by simp))))
    all_goals
      go_wp2_with fail
      go_meet
      have hR' : Kd.R kRc 34 wA 0 (fun k => F k ∨ w.heap.size ≤ k) (.slice Av recs.length cv) recs := Kd.R_mono hRc (fun k hk => hk.imp id (fun h9 => by simp at h9; omega))
      have hov : ∀ k, (Value.slice Av recs.length cv).ownBlock = some k → w.heap.size ≤ k := fun k hk => by have := hoc k hk; simp at this; omega
      have s1 := hbW.size
      have s2 := hbX.size
      have s3 := hKc.lt
      first
        | exact ⟨wB.heap.size + 1, _, wA.heap.size, wB.heap.size, rfl, Blk.new1 wB _ _ _, Kd.R_alloc (Kd.R_alloc (Kd.R_below hR' hbB) _) _, (hKc.alloc _).alloc _, (KMap.new _ wB).alloc _, by omega, by omega, by omega, by omega, (hbX.alloc hbX.size _).alloc (by simp; omega) _, hov⟩
        | exact ⟨wB.heap.size, _, wA.heap.size, w.heap.size, rfl, Blk.new wB _ _, Kd.R_alloc (Kd.R_below hR' hbB) _, hKc.alloc _, (hM0.move (hbB.block _ hM0.lt)).alloc _, by omega, by omega, by omega, (by have := hM0.lt; omega), hbX.alloc hbX.size _, hov⟩
        | exact ⟨wB.heap.size, _, wA.heap.size + 1, wA.heap.size, rfl, Blk.new wB _ _, Kd.R_alloc (Kd.R_below (Kd.R_alloc hR' _) hbB) _, (by simpa using hKc.alloc _), hM1.alloc _, by omega, by omega, by omega, by omega, hbX.alloc hbX.size _, hov⟩
  case rest =>
    obtain ⟨gc, vc, rmc, amc, rfl, hBc, hRc, hKr, hKa, g1, g2, g3, hne, hbx, hov⟩ := hcut
    have HOV := Lib.hid hov
    clear hov
    obtain ⟨wo, rfl⟩ : ∃ wo : World, wo = wc := ⟨_, rfl⟩
    clear c0 c1 c2
    have hx := h.below hbx
    have c2 := hx.c2
    obtain ⟨w1r, hrun, hit, hf, hs⟩ := hx.amap.range (P := Try.prog) (t := 95) Try.underlying95
    have hbr := hf.none_below
    have hbx1 := below_t hbx hbr
    have hB1 : Blk w1r gc #[vc, .map (some rmc), .map (some amc)] 97 := (hbr.block _ hBc.lt).trans hBc
    have hR1 := Kd.R_below hRc hbr
    have hK1 := hKr.move (hbr.block _ hKr.lt)
    have hK2 := hKa.move (hbr.block _ hKa.lt)
    have hnod := h.nodup
    have hge : w.heap.size ≤ wo.heap.size := hbx.size
    go_wp2_with fail
    clear hrun
    go_loopw [4, 5] (fun _ _ wr => ∃ (left : List (ByteArray × Value)) (accsc : List AccE), KIt Value.string wr wo.heap.size am (amapOf accs) left ∧ Half accs accsc left ∧ KMap Value.string wr amc (amapOf accsc) ∧ (∀ x ∈ accsc, AccOk wr (fun b => w.heap.size ≤ b) rows x) ∧ accsc.Pairwise ApartE ∧ Blk wr gc #[vc, .map (some rmc), .map (some amc)] 97 ∧ Kd.R kRc 34 wr 0 (fun k => F k ∨ w.heap.size ≤ k) vc recs ∧ KMap (Value.int .i64) wr rmc rl ∧ Below w.heap.size w wr ∧ wo.heap.size < wr.heap.size) (fun _ _ wr => wr.rangeLeft am wo.heap.size)
    case atStart => exact ⟨_, [], hit, by unfold Half; rw [amap_keys]; exact List.Perm.refl _, hK2, by simp, List.Pairwise.nil, hB1, hR1, hK1, hbx1, hit.lt⟩
    case round =>
      obtain ⟨left, accsc, hl, hH, hKm, hacc, hap, hBg, hRr, hKq, hbw, hgt⟩ := hrel
      clear hit hB1 hR1 hK1 hK2 hbx1 hx
      rcases hl.next (P := Try.prog) ke_string 0 with ⟨hnil, hnx⟩ | ⟨p, w2, hp, hnx, hit2, hf2, hs2, hen⟩
      · subst hnil
        go_wp2_with fail
        go_ret
        have hperm : (accsc.map (·.name)).Perm (accs.map (·.name)) := by simpa [Half] using hH
        refine ⟨gc, fun b => w.heap.size ≤ b ∧ b < wr.heap.size, vc, rmc, amc, accsc, rfl, hbw, fun b hb => hb.1, ⟨⟨vc, rmc, hBg⟩, fun b hb => hb.2, ⟨g1, hBg.lt⟩, ⟨g3, hKm.lt⟩, hKm, fun x hx => (hacc x hx).mono (fun b h1 h2 => ⟨h1, h2⟩)⟩, hperm,
          ⟨hBg, fun b hb => hb.elim (fun h1 => Nat.lt_of_lt_of_le (h.fin b h1) hbw.size) (fun h1 => h1.2), .inr ⟨g1, hBg.lt⟩, .inr ⟨g2, hKq.lt⟩, .inr ⟨g3, hKm.lt⟩, hne, Kd.R_mono (Kd.R_bound hRr) (fun k hk => hk.1.imp id (fun h1 => ⟨h1, hk.2.2.1⟩)), hKq, hKm, fun x hx => (hacc x hx).mono (fun b h1 h2 => .inr ⟨h1, h2⟩), hap⟩, HOV.out, g2⟩
      · have hpm := hl.sub.subset hp
        obtain ⟨x, hx, rfl⟩ := List.mem_map.1 hpm
        have hb2 : Below w.heap.size w w2 := hbw.trans (hf2.to_below hbw.size (by intro b hb; omega))
        have hL2 := h.below hb2
        obtain ⟨y1, y2, y3⟩ := hL2.haccs x hx
        obtain ⟨Ax, cx, hrv, _, _⟩ := Kd.R_reads y3
        have x0 := y2.cell 0 (v := x.rv) rfl
        have hgcl : gc < wo.heap.size := hBc.lt
        have hacl : amc < wo.heap.size := hKa.lt
        have hrcl : rmc < wo.heap.size := hKr.lt
        have hitc : ∀ b cs t fz, wr.heap[b]? = some (.cells cs t fz) → ¬ b = wo.heap.size := fun b cs t fz hb => hl.not_cells hb
        have hBg2 := hBg.fr hf2 (hitc _ _ _ _ hBg)
        have a2 := hBg2.cell 2 (v := .map (some amc)) rfl
        have hKm2 := hKm.fr hf2 (by omega)
        have hKq2 := hKq.fr hf2 (by omega)
        have hRr2 := R_turn hRr hf2 hitc
        have hacc2 : ∀ x ∈ accsc, AccOk w2 (fun b => w.heap.size ≤ b) rows x := fun x hx => (hacc x hx).turn hf2 hitc
        rw [hrv] at x0 y2 y3
        have hnew : x.name ∉ accsc.map (·.name) := fun hm => by
          have hnd : (accsc.map (·.name) ++ left.map (·.1)).Nodup := hH.nodup_iff.2 hnod
          exact (List.nodup_append.1 hnd).2.2 _ hm _ (List.mem_map.2 ⟨_, hp, rfl⟩) rfl
        have hleftn : (left.map (·.1)).Nodup := (List.nodup_append.1 (hH.nodup_iff.2 hnod)).2.1
        have hamap : ∀ (nb : Nat) (u : Value), mput (amapOf accsc) x.name (.pointer (some ⟨nb, 0, none⟩)) = amapOf (accsc ++ [⟨x.name, nb, u⟩]) := fun nb u => by
          rw [mput_new (amap_none hnew)]; simp [amapOf]
        have HA := Lib.hid hamap
        have hgw2 := hBg2.lt
        clear hKm hBg hacc hRr hKq hamap hrv
        go_wp2_with fail
        go_region_law (first
          | (go_simp; go_at_call 74; refine (cloneRw w2.drew F (.slice Ax (rows x.name).length cx) (rows x.name) (Kd.R_move (w1 := w2.drew) y3 (fun _ _ => rfl)) (hrw _)).mono ?_; rintro e w3 ⟨⟨v1, rfl, hRn⟩, hb3⟩; obtain ⟨A1, c1, rfl, -, -⟩ := Kd.R_reads hRn; have hb4 : Below w2.heap.size w2 w3 := (Below.refl _ w2).drew.trans hb3; have a3 := (hb4.cell hgw2).trans a2; have gw3 := Nat.lt_of_lt_of_le hgw2 hb4.size; obtain ⟨w5, hrun5, hm5, hf5, hs5⟩ := ((hKm2.move (hb4.block _ hKm2.lt)).alloc (.cells #[.slice A1 (rows x.name).length c1] 105)).update (P := Try.prog) (t := 95) ke_string Try.underlying95 Try.underlying9 x.name (.pointer (some ⟨w3.heap.size, 0, none⟩))))
        all_goals
          go_wp2_with fail
          have hbW := hb4.alloc hb4.size (.cells #[.slice A1 (rows x.name).length c1] 105)
          have hKW := (hKm2.move (hb4.block _ hKm2.lt)).alloc (.cells #[.slice A1 (rows x.name).length c1] 105)
          have hkc : ∀ b cs t fz, (w3.alloc (.cells #[.slice A1 (rows x.name).length c1] 105)).heap[b]? = some (.cells cs t fz) → ¬ b = amc := fun b cs t fz hb => hKW.not_cells hb
          have ham := h.fin am h.fam
          have hBW : Blk (w3.alloc (.cells #[.slice A1 (rows x.name).length c1] 105)) gc #[vc, .map (some rmc), .map (some amc)] 97 := (hbW.block _ hgw2).trans hBg2
          have z1 := hb2.size
          have z2 := hb4.size
          rw [HA.out w3.heap.size (.slice A1 (rows x.name).length c1)] at hm5
          have hit5 := (hit2.move (hbW.block _ hit2.lt) (hbW.block _ hit2.map.lt)).fr hf5 (by omega) (by omega)
          have hbE : Below w.heap.size w w5 := (hb2.trans (hbW.mono z1)).trans (hf5.to_below (by simp; omega) (by intro b hb; omega))
          go_roundw
          case rel =>
            refine ⟨_, _, hit5, half_step hH hp hleftn, hm5, ?_, ?_, hBW.fr hf5 (hkc _ _ _ _ hBW), R_turn (Kd.R_below hRr2 hbW) hf5 hkc, (hKq2.move (hbW.block _ hKq2.lt)).fr hf5 hne, hbE, by rw [hs5]; simp; omega⟩
            · intro x' hx'
              rcases List.mem_append.1 hx' with hx' | hx'
              · exact ((hacc2 x' hx').below hbW).turn hf5 hkc
              · simp only [List.mem_singleton] at hx'
                subst hx'
                refine ⟨by show w.heap.size ≤ w3.heap.size; omega, (Blk.new w3 _ 105).fr hf5 (hkc _ _ _ _ (Blk.new w3 _ 105)), R_turn (Kd.R_alloc (Kd.R_mono hRn (fun k hk => ?_)) _) hf5 hkc⟩
                have : w2.heap.size ≤ k := hk
                omega
            · rw [List.pairwise_append]
              refine ⟨hap, by simp, fun x' hx' y' hy' => ?_⟩
              simp only [List.mem_singleton] at hy'
              subst hy'
              have q1 := (hacc2 x' hx').2.1.lt
              refine ⟨by show x'.blk ≠ w3.heap.size; omega, ?_⟩
              cases ho : x'.rv.ownBlock with
              | none => exact .inl rfl
              | some k =>
                have q2 := Kd.R_lt (hacc2 x' hx').2.2 k ho
                refine .inr fun e => ?_
                have q3 : w2.heap.size ≤ k := hRn.1 k e.symm
                omega
          case measure =>
            rw [hit5.left_eq, hl.left_eq]
            exact left_filter_lt hp
end Go.Proofs.Ytpmopdgnnlhplaa
namespace Go.Proofs.Ytpmopdgnnlhplaa
open Go.RowKit Go.Proofs.YtpmopdgnnlhplaaW.PrintWords
def BalF (w : World) (F : Nat → Prop) (g : Nat) (s : St) : Prop :=
  ∃ am accs, LedB w F g am accs (fun a => rowsOf a s.r 0) ∧ (accs.map (·.name)).Perm s.n ∧ Sorted s.r
section
variable {w w' : World} {F G : Nat → Prop} {g : Nat} {s : St}
theorem BalF.below (h : BalF w F g s) (hb : Below w.heap.size w w') : BalF w' F g s := by
  obtain ⟨am, accs, h1, h2, h3⟩ := h
  exact ⟨am, accs, h1.below hb, h2, h3⟩
theorem BalF.fr (h : BalF w F g s) (hf : Fr G w w') (hd : ∀ b, F b → ¬ G b) : BalF w' F g s := by
  obtain ⟨am, accs, h1, h2, h3⟩ := h
  exact ⟨am, accs, h1.fr hf hd, h2, h3⟩
theorem Copy_led (h : LedF w F g s) : Calls Try.prog 35 #[.pointer (some ⟨g, 0, none⟩)] w fun e w' =>
    ∃ gc Fb, e = .returned (.pointer (some ⟨gc, 0, none⟩)) ∧ Below w.heap.size w w' ∧ (∀ b, Fb b → w.heap.size ≤ b) ∧ BalF w' Fb gc s ∧ LedF w' (fun b => F b ∨ Fb b) gc s := by
  obtain ⟨v, rm, am, accs, rl, h1, h2, h3⟩ := h
  refine (Copy_any h1 h3.len (fun a => Nat.le_trans (rowsOf_len _ _ _) h3.len)).mono ?_
  rintro e w' ⟨gc, Fb, vc, rmc, amc, accsc, rfl, hb, hF, hB, hp, hL, _, _⟩
  exact ⟨gc, Fb, rfl, hb, hF, ⟨amc, accsc, hB, hp.trans h2, h3.days⟩, ⟨vc, rmc, amc, accsc, rl, hL, hp.trans h2, h3⟩⟩
/-- Block k is a row of postings. -/
def Is36 (w : World) (k : Nat) : Prop := ∃ cells fz, w.heap[k]? = some (.cells cells 36 fz)
theorem refine36 {w : World} {base : Nat} {ok : Nat → Prop} {v : Value} {recs : List Rc} (h : Kd.R kRc 34 w base ok v recs) : Kd.R kRc 34 w base (fun k => ok k ∧ (v.ownBlock = some k ∨ Is36 w k)) v recs := by
  obtain ⟨h0, inner, ho, hr⟩ := h
  refine ⟨fun k hk => ⟨h0 k hk, .inl hk⟩, inner, ho, hr.imp_ fun x cs hM => ?_⟩
  obtain ⟨v2, rfl, h2⟩ := kRc_openM hM
  refine kRc_mkM x (Kd.R_mono (Kd.R_bound h2) fun k hk => ?_)
  obtain ⟨h3, _, _, q, hq, cells, hc⟩ := hk
  have hq : q = 36 := by simpa [kPst, Kd.iso, Kd.pair, Kd.string, Kd.int, Kd.scalar] using hq
  subst hq
  exact ⟨⟨h3.1, .inr ⟨cells, _, hc⟩⟩, h3.2⟩
theorem Copy_led36 (h : LedF w F g s) : Calls Try.prog 35 #[.pointer (some ⟨g, 0, none⟩)] w fun e w' =>
    ∃ (gc : Nat) (Fb : Nat → Prop), e = .returned (.pointer (some ⟨gc, 0, none⟩)) ∧ Below w.heap.size w w' ∧ (∀ b, Fb b → w.heap.size ≤ b) ∧ LedF w' (fun b => (F b ∧ Is36 w b) ∨ Fb b) gc s := by
  obtain ⟨v, rm, am, accs, rl, h1, h2, h3⟩ := h
  refine (Copy_any h1 h3.len (fun a => Nat.le_trans (rowsOf_len _ _ _) h3.len)).mono ?_
  rintro e w' ⟨gc, Fb, vc, rmc, amc, accsc, rfl, hb, hF, hB, hp, hL, hov, hrm⟩
  refine ⟨gc, Fb, rfl, hb, hF, ⟨vc, rmc, amc, accsc, rl, ⟨hL.blk, fun b hb9 => hL.fin b (hb9.imp (fun h9 => h9.1) id), .inr hB.fg, ?_, .inr hB.fam, hL.ne, ?_, hL.revd, hL.amap, fun x hx => (hB.haccs x hx).mono (fun b h9 _ => .inr h9), hL.apart⟩, hp.trans h2, h3⟩⟩
  · rcases hL.frm with h9 | h9
    · have := h1.fin _ h9; omega
    · exact .inr h9
  · refine Kd.R_mono (refine36 hL.hrecs) fun k hk => ?_
    obtain ⟨h9 | h9, h10 | h10⟩ := hk
    · have := hov k h10
      have := h1.fin k h9
      omega
    · obtain ⟨cells, fz, hc⟩ := h10
      exact .inl ⟨h9, cells, fz, (hb.block k (h1.fin k h9)).symm.trans hc⟩
    · exact .inr h9
    · exact .inr h9
theorem Reverse_led2 (h : LedF w F g s) (n d : Int) :
    Calls Try.prog 36 #[.pointer (some ⟨g, 0, none⟩), .int .i64 n, .int .i64 d] w fun e w' => e = .returned (.tuple #[.int .i64 (reV s n d), .int .i64 (revErr s.r n d)]) ∧
      (revErr s.r n d ≠ 0 → Below w.heap.size w w') ∧ ∃ F', LedF w' F' g (reS s n d) ∧ Upd w F w' F' := by
  obtain ⟨v, rm, am, accs, rl, h1, h2, h3⟩ := h
  refine (Reverse_any h1 n d (h3.perm h2.symm)).mono ?_
  rintro e w' ⟨ha, hb⟩
  unfold reS reV
  by_cases h0 : revErr s.r n d = 0
  · obtain ⟨rfl, F', v', accs', hL, hn, hU⟩ := ha h0
    rw [if_pos h0, if_pos h0, h0]
    exact ⟨rfl, fun h9 => absurd rfl h9, F', ⟨v', rm, am, accs', _, hL, by rw [hn]; exact h2, h3.reversed h0⟩, hU⟩
  · obtain ⟨rfl, hb'⟩ := hb h0
    rw [if_neg h0, if_neg h0]
    exact ⟨rfl, fun _ => hb', F, ⟨v, rm, am, accs, rl, h1.below hb', h2, h3⟩, Upd.of_below hb' F⟩
end
section
variable {w : World} {F : Nat → Prop} {g am : Nat} {accs : List AccE} {rows : ByteArray → List Rw}
theorem LedB.nodup (h : LedB w F g am accs rows) : (accs.map (·.name)).Nodup := by
  have := h.amap.nodup
  rwa [amap_keys] at this
theorem LedB.look_some (h : LedB w F g am accs rows) {x : AccE} (hx : x ∈ accs) : (Instr.lookup 95 (.map (some am)) (.string x.name) false).run Try.prog w = .ok (.pointer (some ⟨x.blk, 0, none⟩)) w := by
  have := h.amap.lookup (P := Try.prog) ke_string Try.underlying95 Try.underlying9 zero103 x.name
  rw [this, amap_get h.nodup hx]; rfl
theorem LedB.look_none (h : LedB w F g am accs rows) {a : ByteArray} (ha : a ∉ accs.map (·.name)) : (Instr.lookup 95 (.map (some am)) (.string a) false).run Try.prog w = .ok (.pointer none) w := by
  have := h.amap.lookup (P := Try.prog) ke_string Try.underlying95 Try.underlying9 zero103 a
  rw [this, amap_none ha]; rfl
set_option maxHeartbeats 400000 in
theorem findB_some (h : LedB w F g am accs rows) {x : AccE} (hx : x ∈ accs) :
    Calls Try.prog 65 #[.pointer (some ⟨g, 0, none⟩), .string x.name] w fun e w' => e = .returned (.tuple #[.pointer (some ⟨x.blk, 0, none⟩), .int .i64 0]) ∧ w = w' := by
  obtain ⟨v, rm, hblk⟩ := h.blk
  have c2 := hblk.cell 2 (v := .map (some am)) rfl
  have hl := h.look_some hx
  have he := eqp' w x.blk
  go_enter Try.func65, Try.ntmps65
  go_wp2_with (go_at_call 58; refine (made_yes _ _ _ c2).mono ?_; rintro e w1 ⟨rfl, rfl⟩)
  go_ret2
  exact ⟨rfl, rfl⟩
set_option maxHeartbeats 400000 in
theorem findB_none (h : LedB w F g am accs rows) {a : ByteArray} (ha : a ∉ accs.map (·.name)) :
    Calls Try.prog 65 #[.pointer (some ⟨g, 0, none⟩), .string a] w fun e w' => e = .returned (.tuple #[.pointer none, .int .i64 7]) ∧ w = w' := by
  obtain ⟨v, rm, hblk⟩ := h.blk
  have c2 := hblk.cell 2 (v := .map (some am)) rfl
  have hl := h.look_none ha
  go_enter Try.func65, Try.ntmps65
  go_wp2_with (go_at_call 58; refine (made_yes _ _ _ c2).mono ?_; rintro e w1 ⟨rfl, rfl⟩)
  go_ret2
  exact ⟨rfl, rfl⟩
set_option maxHeartbeats 800000 in
theorem BalanceB_any (h : LedB w F g am accs rows) (a : ByteArray) (d : Int) :
    Calls Try.prog 29 #[.pointer (some ⟨g, 0, none⟩), .string a, .int .i64 d] w fun e w' => e = .returned (.tuple #[.int .i64 (balVal accs rows a d), .int .i64 (balErr accs a d)]) ∧ Below w.heap.size w w' := by
  by_cases hm : a ∈ accs.map (·.name)
  · obtain ⟨x, hx, rfl⟩ := amap_of_mem hm
    obtain ⟨h1, h2, h3⟩ := h.haccs x hx
    cases hd : dayB d with
    | false =>
      have HE := Lib.hid (show balErr accs x.name d = 2 by simp [balErr, memB_iff.2 hm, hd])
      have HV := Lib.hid (show balVal accs rows x.name d = 0 by simp [balVal, HE.out])
      have HD := Lib.hid hd
      clear hd
      go_enter Try.func29, Try.ntmps29
      go_wp2_with (go_at_call 65; refine (findB_some h hx).mono ?_; rintro e w1 ⟨rfl, rfl⟩)
      refine (day_any d _).mono ?_
      rintro e w1 ⟨rfl, rfl⟩
      rw [HD.out]
      go_wp2_with fail
      go_ret2
      exact ⟨by rw [HE.out, HV.out]; rfl, Below.refl _ _⟩
    | true =>
      have HE := Lib.hid (show balErr accs x.name d = 0 by simp [balErr, memB_iff.2 hm, hd])
      have HV := Lib.hid (show balVal accs rows x.name d = uptoR d (rows x.name) 0 by simp [balVal, HE.out])
      have HD := Lib.hid hd
      clear hd
      go_enter Try.func29, Try.ntmps29
      go_wp2_with (go_at_call 65; refine (findB_some h hx).mono ?_; rintro e w1 ⟨rfl, rfl⟩)
      refine (day_any d _).mono ?_
      rintro e w1 ⟨rfl, rfl⟩
      rw [HD.out]
      go_wp2_with fail
      refine (upto_any _ _ 0 F _ _ d h2 h3).mono ?_
      rintro e w1 ⟨rfl, hb⟩
      go_wp2_with fail
      go_ret2
      exact ⟨by rw [HE.out, HV.out]; rfl, hb⟩
  · have HE := Lib.hid (show balErr accs a d = 7 by simp [balErr, memB_not.2 hm])
    have HV := Lib.hid (show balVal accs rows a d = 0 by simp [balVal, HE.out])
    go_enter Try.func29, Try.ntmps29
    go_wp2_with (go_at_call 65; refine (findB_none h hm).mono ?_; rintro e w1 ⟨rfl, rfl⟩)
    go_ret2
    exact ⟨by rw [HE.out, HV.out]; rfl, Below.refl _ _⟩
end
theorem Balance_bal {w : World} {F : Nat → Prop} {g : Nat} {s : St} (h : BalF w F g s) (a : ByteArray) (d : Int) :
    Calls Try.prog 29 #[.pointer (some ⟨g, 0, none⟩), .string a, .int .i64 d] w fun e w' => e = .returned (.tuple #[.int .i64 (baV s a d), .int .i64 (baE s a d)]) ∧ Below w.heap.size w w' := by
  obtain ⟨am, accs, h1, h2, h3⟩ := h
  refine (BalanceB_any h1 a d).mono ?_
  have he : balErr accs a d = baE s a d := by unfold balErr baE; rw [memB_perm h2]
  have hv : balVal accs (fun a => rowsOf a s.r 0) a d = baV s a d := by
    unfold balVal baV
    rw [he]
    by_cases h0 : baE s a d = 0
    · rw [if_pos h0, if_pos h0, uptoR_rows d a h3, Int.zero_add]
    · rw [if_neg h0, if_neg h0]
  rw [he, hv]
  exact fun e w' h => h
end Go.Proofs.Ytpmopdgnnlhplaa
