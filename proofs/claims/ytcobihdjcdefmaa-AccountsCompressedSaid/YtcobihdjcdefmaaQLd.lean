/-
  The ledger in memory: which blocks it owns, and what they say.
-/
import Derived.Test.YtcobihdjcdefmaaQLg
namespace Go.Proofs.Ytcobihdjcdefmaa
open Go.RowKit Go.Proofs.YtcobihdjcdefmaaW.PrintWords

/-! ### What a ledger is -/
def part : List Pst → ByteArray → Int
  | [], _ => 0
  | p :: r, a => (if p.a = a then p.c else 0) + part r a
def inn (ps : List Pst) (a : ByteArray) : Bool := ps.any fun p => decide (p.a = a)
def total : List Pst → Int
  | [] => 0
  | p :: r => p.c + total r
def bal : List Rc → ByteArray → Int
  | [], _ => 0
  | r :: rs, a => part r.ps a + bal rs a
def rowsOf (a : ByteArray) : List Rc → Int → List Rw
  | [], _ => []
  | r :: rs, b => if inn r.ps a then ⟨r.no, r.day, part r.ps a, b + part r.ps a⟩ :: rowsOf a rs (b + part r.ps a) else rowsOf a rs b
def lastDay (recs : List Rc) : Int := match recs.getLast? with | some r => r.day | none => 0
def lastSum (recs : List Rc) : Int := match recs.getLast? with | some r => r.sum | none => 0
theorem part_append (p q : List Pst) (a : ByteArray) : part (p ++ q) a = part p a + part q a := by
  induction p with
  | nil => simp [part]
  | cons x r ih => simp [part, ih, Int.add_assoc]
theorem total_append (p q : List Pst) : total (p ++ q) = total p + total q := by
  induction p with
  | nil => simp [total]
  | cons x r ih => simp [total, ih, Int.add_assoc]
theorem inn_append (p q : List Pst) (a : ByteArray) : inn (p ++ q) a = (inn p a || inn q a) := by simp [inn]
theorem part_not_inn {ps : List Pst} {a : ByteArray} (h : inn ps a = false) : part ps a = 0 := by
  induction ps with
  | nil => rfl
  | cons x r ih =>
    simp only [inn, List.any_cons, Bool.or_eq_false_iff, decide_eq_false_iff_not] at h
    simp [part, h.1, ih h.2]
theorem bal_append (r s : List Rc) (a : ByteArray) : bal (r ++ s) a = bal r a + bal s a := by
  induction r with
  | nil => simp [bal]
  | cons x r ih => simp [bal, ih, Int.add_assoc]
theorem rowsOf_append (a : ByteArray) (r s : List Rc) : ∀ b, rowsOf a (r ++ s) b = rowsOf a r b ++ rowsOf a s (b + bal r a) := by
  induction r with
  | nil => intro b; simp [rowsOf, bal]
  | cons x r ih =>
    intro b
    by_cases hx : inn x.ps a = true
    · simp [rowsOf, hx, ih, bal, Int.add_assoc]
    · have h0 := part_not_inn (by simpa using hx)
      simp [rowsOf, hx, ih, bal, h0]
theorem lastBal_append (l : List Rw) (r : Rw) : lastBal (l ++ [r]) = r.bal := by simp [lastBal]
theorem lastBal_rowsOf (a : ByteArray) (recs : List Rc) : lastBal (rowsOf a recs 0) = bal recs a := by
  suffices h : ∀ n (recs : List Rc), recs.length = n → lastBal (rowsOf a recs 0) = bal recs a from h _ recs rfl
  intro n
  induction n with
  | zero => intro recs h; rw [List.eq_nil_of_length_eq_zero h]; rfl
  | succ n ih =>
    intro recs h
    rcases List.eq_nil_or_concat recs with rfl | ⟨rs, r, rfl⟩
    · simp at h
    · have h1 : rs.length = n := by simpa using h
      rw [List.concat_eq_append, rowsOf_append, bal_append]
      by_cases hx : inn r.ps a = true
      · simp [rowsOf, hx, lastBal_append, bal]
      · have h0 := part_not_inn (by simpa using hx)
        simp [rowsOf, hx, bal, h0, ih rs h1]

/-! ### In memory -/
structure AccE where
  name : ByteArray
  blk : Nat
  rv : Value
def AccOk (w : World) (F : Nat → Prop) (rows : ByteArray → List Rw) (x : AccE) : Prop := F x.blk ∧ Blk w x.blk #[x.rv] 90 ∧ Kd.R kRw 133 w 0 F x.rv (rows x.name)
def ApartE (x y : AccE) : Prop := x.blk ≠ y.blk ∧ (x.rv.ownBlock = none ∨ x.rv.ownBlock ≠ y.rv.ownBlock)
def amapOf (accs : List AccE) : List (ByteArray × Value) := accs.map fun x => (x.name, .pointer (some ⟨x.blk, 0, none⟩))
structure LedH (w : World) (F : Nat → Prop) (g : Nat) (v : Value) (rm am : Nat) (accs : List AccE) (recs : List Rc) (rows : ByteArray → List Rw) (rl : List (Int × Value)) : Prop where
  blk : Blk w g #[v, .map (some rm), .map (some am)] 85
  fin : ∀ b, F b → b < w.heap.size
  fg : F g
  frm : F rm
  fam : F am
  ne : rm ≠ am
  hrecs : Kd.R kRc 94 w 0 F v recs
  revd : KMap (Value.int .i64) w rm rl
  amap : KMap Value.string w am (amapOf accs)
  haccs : ∀ x ∈ accs, AccOk w F rows x
  apart : accs.Pairwise ApartE
section
variable {w w' : World} {F F' : Nat → Prop} {g : Nat} {v : Value} {rm am : Nat} {accs : List AccE} {recs : List Rc} {rows : ByteArray → List Rw} {rl : List (Int × Value)}
theorem Blk.move {g : Nat} {cs : Array Value} {t : TypeId} (h : Blk w g cs t) (hm : w'.heap[g]? = w.heap[g]?) : Blk w' g cs t := hm.trans h
theorem LedH.move (h : LedH w F g v rm am accs recs rows rl) (hm : ∀ k, F k → w'.heap[k]? = w.heap[k]?) (hs : w.heap.size ≤ w'.heap.size) : LedH w' F g v rm am accs recs rows rl where
  blk := h.blk.move (hm g h.fg)
  fin b hb := Nat.lt_of_lt_of_le (h.fin b hb) hs
  fg := h.fg
  frm := h.frm
  fam := h.fam
  ne := h.ne
  hrecs := Kd.R_move h.hrecs hm
  revd := h.revd.move (hm rm h.frm)
  amap := h.amap.move (hm am h.fam)
  haccs x hx := ⟨(h.haccs x hx).1, (h.haccs x hx).2.1.move (hm _ (h.haccs x hx).1), Kd.R_move (h.haccs x hx).2.2 hm⟩
  apart := h.apart
theorem LedH.fr {G : Nat → Prop} (h : LedH w F g v rm am accs recs rows rl) (hf : Fr G w w') (hd : ∀ b, F b → ¬ G b) : LedH w' F g v rm am accs recs rows rl :=
  h.move (fun k hk => hf.block k (h.fin k hk) (hd k hk)) hf.size
theorem LedH.below (h : LedH w F g v rm am accs recs rows rl) (hb : Below w.heap.size w w') : LedH w' F g v rm am accs recs rows rl :=
  h.move (fun k hk => hb.block k (h.fin k hk)) hb.size
theorem LedH.weaken (h : LedH w F g v rm am accs recs rows rl) (hF : ∀ b, F b → F' b) (hfin : ∀ b, F' b → b < w.heap.size) : LedH w F' g v rm am accs recs rows rl where
  blk := h.blk
  fin := hfin
  fg := hF _ h.fg
  frm := hF _ h.frm
  fam := hF _ h.fam
  ne := h.ne
  hrecs := Kd.R_mono h.hrecs hF
  revd := h.revd
  amap := h.amap
  haccs x hx := ⟨hF _ (h.haccs x hx).1, (h.haccs x hx).2.1, Kd.R_mono (h.haccs x hx).2.2 hF⟩
  apart := h.apart
theorem LedH.c0 (h : LedH w F g v rm am accs recs rows rl) : w.cell? ⟨g, 0, none⟩ = some v := h.blk.cell 0 rfl
theorem LedH.c1 (h : LedH w F g v rm am accs recs rows rl) : w.cell? ⟨g, 1, none⟩ = some (.map (some rm)) := h.blk.cell 1 rfl
theorem LedH.c2 (h : LedH w F g v rm am accs recs rows rl) : w.cell? ⟨g, 2, none⟩ = some (.map (some am)) := h.blk.cell 2 rfl
theorem amap_keys (accs : List AccE) : (amapOf accs).map (·.1) = accs.map (·.name) := by unfold amapOf; rw [List.map_map]; rfl
theorem LedH.nodup (h : LedH w F g v rm am accs recs rows rl) : (accs.map (·.name)).Nodup := by
  have := h.amap.nodup
  rwa [amap_keys] at this
theorem amap_get {accs : List AccE} (hn : (accs.map (·.name)).Nodup) {x : AccE} (hx : x ∈ accs) : mget (amapOf accs) x.name = some (.pointer (some ⟨x.blk, 0, none⟩)) := by
  refine (mget_mem (by rw [amap_keys]; exact hn)).2 ?_
  exact List.mem_map.2 ⟨x, hx, rfl⟩
theorem amap_none {accs : List AccE} {a : ByteArray} (ha : a ∉ accs.map (·.name)) : mget (amapOf accs) a = none := by
  refine mget_none.2 fun p hp => ?_
  obtain ⟨x, hx, rfl⟩ := List.mem_map.1 hp
  exact fun e => ha (List.mem_map.2 ⟨x, hx, e⟩)
theorem amap_of_mem {accs : List AccE} {a : ByteArray} (ha : a ∈ accs.map (·.name)) : ∃ x ∈ accs, x.name = a := List.mem_map.1 ha
theorem typed_ne {w : World} {b c : Nat} {cs ds : Array Value} {s t : TypeId} {fz : Nat × Nat} (h : w.heap[b]? = some (.cells cs s fz)) (k : w.heap[c]? = some (.cells ds t (0, 0))) (hst : s ≠ t) : b ≠ c := by
  rintro rfl
  rw [h] at k
  injection k with k
  injection k with _ k
  exact hst k
theorem R_typed {α : Type} {d : Kd α} {e base : Nat} {ok : Nat → Prop} {xs : List α} (h : Kd.R d e w base ok v xs) (k : Nat) (hk : v.ownBlock = some k) : ∃ cells, w.heap[k]? = some (.cells cells e (0, 0)) := by
  obtain ⟨inner, ho⟩ := Kd.R_own h
  exact own_typed ho k hk
/-- A store or an append into a row of rows (type 133), or into an account (type 90), and new blocks: the records stay. -/
theorem recs_stay (h : Kd.R kRc 94 w 0 F v recs) {row : Option Nat} (hg : w.grownBy w' row) (ht : ∀ k, row = some k → ∃ cells t, w.heap[k]? = some (.cells cells t (0, 0)) ∧ t ≠ 94 ∧ t ≠ 50) : Kd.R kRc 94 w' 0 F v recs := by
  cases row with
  | none => exact Kd.R_grown h hg (by simp)
  | some k =>
    obtain ⟨cells, t, hc, h1, h2⟩ := ht k rfl
    have h3 := Kd.R_types h (g := k) (t := t) hc (fun q hq => by
      have : q = 94 ∨ q = 50 := by simpa [kRc, Kd.iso, Kd.pair, Kd.int, Kd.scalar, Kd.slice, kPst, Kd.string] using hq
      rcases this with rfl | rfl
      · exact Ne.symm h1
      · exact Ne.symm h2)
    exact Kd.R_mono (Kd.R_grown h3 hg (fun j hj => by rintro e; exact hj.2 (by injection e))) (fun _ hk => hk.1)
theorem rows_stay {xs : List Rw} {u : Value} (h : Kd.R kRw 133 w 0 F u xs) {row : Option Nat} (hg : w.grownBy w' row) (hne : u.ownBlock = none ∨ u.ownBlock ≠ row) : Kd.R kRw 133 w' 0 F u xs := by
  refine Kd.R_mono (Kd.R_grown (ok := fun k => F k ∧ u.ownBlock = some k) ?_ hg ?_) (fun _ hk => hk.1)
  · obtain ⟨h0, inner, ho, hr⟩ := h
    refine ⟨fun k hk => ⟨h0 k hk, hk⟩, inner, ho, hr.imp_ (fun x cs hp => ?_)⟩
    have := kRw_openM hp
    rw [this]
    exact kRw_mkM x
  · rintro k ⟨_, hk⟩ e
    rw [hk] at hne
    rcases hne with h1 | h1
    · cases h1
    · exact h1 e
/-- A new account. -/
theorem LedH.opened {nb : Nat} {n : ByteArray} (h : LedH w F g v rm am accs recs rows rl) (hf : Fr (· = am) w w') (hm : KMap Value.string w' am (amapOf (accs ++ [⟨n, nb, .slice none 0 0⟩])))
    (hnb : Blk w nb #[.slice none 0 0] 90) (hn : ¬ F nb) (hr : rows n = []) :
    LedH w' (fun b => F b ∨ b = nb) g v rm am (accs ++ [⟨n, nb, .slice none 0 0⟩]) recs rows rl := by
  have hst : ∀ k, k ≠ am → k < w.heap.size → w'.heap[k]? = w.heap[k]? := fun k hk hl => hf.block k hl hk
  obtain ⟨es, c, ham, _⟩ := h.amap
  have cells_ne : ∀ {k : Nat} {cs : Array Value} {t : TypeId} {fz : Nat × Nat}, w.heap[k]? = some (.cells cs t fz) → k ≠ am := fun hk e => by rw [e, ham] at hk; cases hk
  have hinner : ∀ {α : Type} {d : Kd α} {e : Nat} {u : Value} {xs : List α}, Kd.R d e w 0 F u xs → Kd.R d e w' 0 (fun b => F b ∨ b = nb) u xs := fun hR => by
    refine Kd.R_mono (Kd.R_move (Kd.R_bound hR) (fun k hk => ?_)) (fun _ hk => .inl hk.1)
    obtain ⟨_, _, hlt, q, _, cells, hc⟩ := hk
    exact hst k (cells_ne hc) hlt
  refine ⟨?_, ?_, .inl h.fg, .inl h.frm, .inl h.fam, h.ne, hinner h.hrecs, h.revd.fr hf h.ne, hm, ?_, ?_⟩
  · exact (hst g (cells_ne h.blk) h.blk.lt).trans h.blk
  · rintro b (hb | rfl)
    · exact Nat.lt_of_lt_of_le (h.fin b hb) hf.size
    · exact Nat.lt_of_lt_of_le hnb.lt hf.size
  · intro x hx
    rcases List.mem_append.1 hx with hx | hx
    · obtain ⟨h1, h2, h3⟩ := h.haccs x hx
      exact ⟨.inl h1, (hst _ (cells_ne h2) h2.lt).trans h2, hinner h3⟩
    · simp only [List.mem_singleton] at hx
      subst hx
      refine ⟨.inr rfl, (hst _ (cells_ne hnb) hnb.lt).trans hnb, ?_⟩
      show Kd.R kRw 133 w' 0 _ (.slice none 0 0) (rows n)
      rw [hr]
      exact Kd.R_nil _ _ _ _ _
  · rw [List.pairwise_append]
    refine ⟨h.apart, by simp, fun x hx y hy => ?_⟩
    simp only [List.mem_singleton] at hy
    subst hy
    refine ⟨fun e => hn (by have h9 := (h.haccs x hx).1; rw [e] at h9; exact h9), ?_⟩
    cases hb : x.rv.ownBlock with
    | none => exact .inl rfl
    | some k => exact .inr (by simp [Value.ownBlock])
/-- The records are another row. -/
theorem LedH.recorded {v1 : Value} {r : Rc} {w1 : World} (h : LedH w F g v rm am accs recs rows rl) (hg : w.grownBy w1 v.ownBlock)
    (hR : Kd.R kRc 94 w1 0 F' v1 (recs ++ [r])) (hF : ∀ b, F b → F' b) (hfin : ∀ b, F' b → b < w1.heap.size) (hw' : w1.setCell ⟨g, 0, none⟩ v1 = w') :
    LedH w' F' g v1 rm am accs (recs ++ [r]) rows rl := by
  subst hw'
  have hty : ∀ k, v.ownBlock = some k → ∃ cells, w.heap[k]? = some (.cells cells 94 (0, 0)) := R_typed h.hrecs
  have hst : ∀ k, k < w.heap.size → (∀ {cs : Array Value} {fz : Nat × Nat}, w.heap[k]? ≠ some (.cells cs 94 fz)) → w1.heap[k]? = w.heap[k]? := fun k hl hk => hg.block k hl (fun e => by
    obtain ⟨cells, hc⟩ := hty k e.symm
    exact hk hc)
  have hst2 : ∀ k, k < w.heap.size → k ≠ g → (∀ {cs : Array Value} {fz : Nat × Nat}, w.heap[k]? ≠ some (.cells cs 94 fz)) → (w1.setCell ⟨g, 0, none⟩ v1).heap[k]? = w.heap[k]? := fun k hl hkg hk =>
    (Below.heap_setCell w1 ⟨g, 0, none⟩ v1 k hkg).trans (hst k hl hk)
  have hg1 : Blk w1 g #[v, .map (some rm), .map (some am)] 85 := (hst g h.blk.lt (by intro cs fz e; have := h.blk; unfold Blk at this; rw [this] at e; cases e)).trans h.blk
  obtain ⟨es, c, hrm, hrest⟩ := h.revd
  obtain ⟨es', c', ham, hrest'⟩ := h.amap
  refine ⟨by simpa using hg1.set 0 v1, ?_, hF _ h.fg, hF _ h.frm, hF _ h.fam, h.ne, ?_, ?_, ?_, ?_, h.apart⟩
  · intro b hb; rw [size_setCell]; exact hfin b hb
  · exact Kd.R_set hR hg1 (by
      intro q hq
      have : q = 94 ∨ q = 50 := by simpa [kRc, Kd.iso, Kd.pair, Kd.int, Kd.scalar, Kd.slice, kPst, Kd.string] using hq
      rcases this with rfl | rfl <;> decide) 0 v1
  · exact h.revd.move (hst2 rm h.revd.lt (by rintro rfl; have := h.blk; unfold Blk at this; rw [this] at hrm; cases hrm) (by intro cs fz e; rw [hrm] at e; cases e))
  · exact h.amap.move (hst2 am h.amap.lt (by rintro rfl; have := h.blk; unfold Blk at this; rw [this] at ham; cases ham) (by intro cs fz e; rw [ham] at e; cases e))
  · intro x hx
    obtain ⟨h1, h2, h3⟩ := h.haccs x hx
    have hxg : x.blk ≠ g := typed_ne h2 h.blk (by decide)
    refine ⟨hF _ h1, (hst2 x.blk h2.lt hxg (by intro cs fz e; unfold Blk at h2; rw [h2] at e; cases e)).trans h2, ?_⟩
    have h4 : Kd.R kRw 133 w1 0 F x.rv (rows x.name) := rows_stay h3 hg (by
      cases hb : x.rv.ownBlock with
      | none => exact .inl rfl
      | some k =>
        refine .inr fun e => ?_
        obtain ⟨c1, hc1⟩ := R_typed h3 k hb
        obtain ⟨c2, hc2⟩ := hty k e.symm
        rw [hc1] at hc2; cases hc2)
    exact Kd.R_set (Kd.R_mono h4 hF) hg1 (by
      intro q hq
      have : q = 133 := by simpa [kRw, Kd.iso, Kd.pair, Kd.int, Kd.scalar] using hq
      subst this; decide) 0 v1
/-- An account gets a row more. -/
def setRv (n : ByteArray) (u : Value) (y : AccE) : AccE := if y.name = n then { y with rv := u } else y
theorem setRv_name (n : ByteArray) (u : Value) (y : AccE) : (setRv n u y).name = y.name := by unfold setRv; split <;> rfl
theorem setRv_blk (n : ByteArray) (u : Value) (y : AccE) : (setRv n u y).blk = y.blk := by unfold setRv; split <;> rfl
theorem amap_setRv (n : ByteArray) (u : Value) (accs : List AccE) : amapOf (accs.map (setRv n u)) = amapOf accs := by
  unfold amapOf
  rw [List.map_map]
  apply List.map_congr_left
  intro y _
  simp [setRv_name, setRv_blk]
theorem name_inj {accs : List AccE} (hn : (accs.map (·.name)).Nodup) {x y : AccE} (hx : x ∈ accs) (hy : y ∈ accs) (h : x.name = y.name) : x = y := by
  obtain ⟨i, hi⟩ := List.getElem?_of_mem hx
  obtain ⟨j, hj⟩ := List.getElem?_of_mem hy
  have h1 : (accs.map (·.name))[i]? = some x.name := by simp [hi]
  have h2 : (accs.map (·.name))[j]? = some x.name := by simp [hj, h]
  have : i = j := (List.getElem?_inj (by have := (List.getElem?_eq_some_iff.1 hi).1; simpa using this) hn).1 (h1.trans h2.symm)
  subst this
  rw [hi] at hj
  exact Option.some.inj hj
theorem ApartE.symm {x y : AccE} (h : ApartE x y) : ApartE y x := by
  refine ⟨Ne.symm h.1, ?_⟩
  rcases h.2 with h1 | h1
  · cases hy : y.rv.ownBlock with
    | none => exact .inl rfl
    | some k => exact .inr (by rw [h1]; simp)
  · exact .inr (Ne.symm h1)
theorem apart_any {accs : List AccE} (h : accs.Pairwise ApartE) {x y : AccE} (hx : x ∈ accs) (hy : y ∈ accs) : x = y ∨ ApartE x y := by
  induction accs with
  | nil => simp at hx
  | cons a r ih =>
    obtain ⟨h1, h2⟩ := List.pairwise_cons.1 h
    rcases List.mem_cons.1 hx with rfl | hx'
    · rcases List.mem_cons.1 hy with rfl | hy'
      · exact .inl rfl
      · exact .inr (h1 y hy')
    · rcases List.mem_cons.1 hy with rfl | hy'
      · exact .inr (h1 x hx').symm
      · exact ih h2 hx' hy'
theorem LedH.rowed {u1 : Value} {r : Rw} {w1 : World} {x : AccE} (h : LedH w F g v rm am accs recs rows rl) (hx : x ∈ accs) (hg : w.grownBy w1 x.rv.ownBlock)
    (hR : Kd.R kRw 133 w1 0 F' u1 (rows x.name ++ [r])) (hat : u1.ownBlock = x.rv.ownBlock ∨ ∃ b, u1.ownBlock = some b ∧ w.heap.size ≤ b)
    (hF : ∀ b, F b → F' b) (hfin : ∀ b, F' b → b < w1.heap.size) (hw' : w1.setCell ⟨x.blk, 0, none⟩ u1 = w') :
    LedH w' F' g v rm am (accs.map (setRv x.name u1)) recs (fun a => if a = x.name then rows a ++ [r] else rows a) rl := by
  subst hw'
  obtain ⟨hx1, hx2, hx3⟩ := h.haccs x hx
  have hty : ∀ k, x.rv.ownBlock = some k → ∃ cells, w.heap[k]? = some (.cells cells 133 (0, 0)) := R_typed hx3
  have hst : ∀ k, k < w.heap.size → (∀ {cs : Array Value} {fz : Nat × Nat}, w.heap[k]? ≠ some (.cells cs 133 fz)) → w1.heap[k]? = w.heap[k]? := fun k hl hk => hg.block k hl (fun e => by
    obtain ⟨cells, hc⟩ := hty k e.symm
    exact hk hc)
  have hst2 : ∀ k, k < w.heap.size → k ≠ x.blk → (∀ {cs : Array Value} {fz : Nat × Nat}, w.heap[k]? ≠ some (.cells cs 133 fz)) → (w1.setCell ⟨x.blk, 0, none⟩ u1).heap[k]? = w.heap[k]? := fun k hl hkg hk =>
    (Below.heap_setCell w1 ⟨x.blk, 0, none⟩ u1 k hkg).trans (hst k hl hk)
  have hb1 : Blk w1 x.blk #[x.rv] 90 := (hst x.blk hx2.lt (by intro cs fz e; unfold Blk at hx2; rw [hx2] at e; cases e)).trans hx2
  obtain ⟨es, c, hrm, hrest⟩ := h.revd
  obtain ⟨es', c', ham, hrest'⟩ := h.amap
  have hgx : g ≠ x.blk := typed_ne h.blk hx2 (by decide)
  have hnd := h.nodup
  refine ⟨?_, ?_, hF _ h.fg, hF _ h.frm, hF _ h.fam, h.ne, ?_, ?_, ?_, ?_, ?_⟩
  · exact (hst2 g h.blk.lt hgx (by intro cs fz e; have := h.blk; unfold Blk at this; rw [this] at e; cases e)).trans h.blk
  · intro b hb; rw [size_setCell]; exact hfin b hb
  · have h4 := recs_stay h.hrecs hg (fun k hk => by obtain ⟨cells, hc⟩ := hty k hk; exact ⟨cells, 133, hc, by decide, by decide⟩)
    exact Kd.R_set (Kd.R_mono h4 hF) hb1 (by
      intro q hq
      have : q = 94 ∨ q = 50 := by simpa [kRc, Kd.iso, Kd.pair, Kd.int, Kd.scalar, Kd.slice, kPst, Kd.string] using hq
      rcases this with rfl | rfl <;> decide) 0 u1
  · exact h.revd.move (hst2 rm h.revd.lt (by rintro rfl; unfold Blk at hx2; rw [hx2] at hrm; cases hrm) (by intro cs fz e; rw [hrm] at e; cases e))
  · rw [amap_setRv]
    exact h.amap.move (hst2 am h.amap.lt (by rintro rfl; unfold Blk at hx2; rw [hx2] at ham; cases ham) (by intro cs fz e; rw [ham] at e; cases e))
  · intro y' hy'
    obtain ⟨y, hy, rfl⟩ := List.mem_map.1 hy'
    obtain ⟨h1, h2, h3⟩ := h.haccs y hy
    have hq : ∀ q, q ∈ 133 :: kRw.E → q ≠ 90 := by
      intro q hq
      have : q = 133 := by simpa [kRw, Kd.iso, Kd.pair, Kd.int, Kd.scalar] using hq
      subst this; decide
    by_cases hyx : y.name = x.name
    · obtain rfl := name_inj hnd hy hx hyx
      refine ⟨by rw [setRv_blk]; exact hF _ h1, ?_, ?_⟩
      · have e : setRv y.name u1 y = { y with rv := u1 } := by simp [setRv]
        rw [e]
        simpa using hb1.set 0 u1
      · have e : setRv y.name u1 y = { y with rv := u1 } := by simp [setRv]
        rw [e]
        simp only [if_true]
        exact Kd.R_set hR hb1 hq 0 u1
    · have e : setRv x.name u1 y = y := by simp [setRv, hyx]
      rw [e]
      have hbne : y.blk ≠ x.blk := by
        intro e2
        rcases apart_any h.apart hy hx with h5 | h5
        · exact hyx (by rw [h5])
        · exact h5.1 e2
      have hrne : y.rv.ownBlock = none ∨ y.rv.ownBlock ≠ x.rv.ownBlock := by
        rcases apart_any h.apart hy hx with h5 | h5
        · exact absurd (by rw [h5]) hyx
        · exact h5.2
      refine ⟨hF _ h1, (hst2 y.blk h2.lt hbne (by intro cs fz e; unfold Blk at h2; rw [h2] at e; cases e)).trans h2, ?_⟩
      simp only [hyx, if_false]
      exact Kd.R_set (Kd.R_mono (rows_stay h3 hg hrne) hF) hb1 hq 0 u1
  · rw [List.pairwise_map]
    refine h.apart.imp_of_mem fun {a b} ha hb hab => ?_
    refine ⟨by rw [setRv_blk, setRv_blk]; exact hab.1, ?_⟩
    have old : ∀ z ∈ accs, ∀ k, z.rv.ownBlock = some k → k < w.heap.size := fun z hz k hk => by
      obtain ⟨cells, hc⟩ := R_typed (h.haccs z hz).2.2 k hk
      exact lt_heap hc
    by_cases hax : a.name = x.name
    · obtain rfl := name_inj hnd ha hx hax
      by_cases hbx : b.name = a.name
      · obtain rfl := name_inj hnd hb ha hbx
        exact absurd rfl hab.1
      · have e1 : (setRv a.name u1 a).rv = u1 := by simp [setRv]
        have e2 : setRv a.name u1 b = b := by simp [setRv, hbx]
        rw [e1, e2]
        rcases hat with h5 | ⟨nb, h5, h6⟩
        · rw [h5]; exact hab.2
        · refine .inr fun e => ?_
          have := old b hb nb (by rw [← e, h5])
          omega
    · have e1 : setRv x.name u1 a = a := by simp [setRv, hax]
      rw [e1]
      by_cases hbx : b.name = x.name
      · obtain rfl := name_inj hnd hb hx hbx
        have e2 : (setRv b.name u1 b).rv = u1 := by simp [setRv]
        rw [e2]
        rcases hat with h5 | ⟨nb, h5, h6⟩
        · rw [h5]; exact hab.2
        · cases hk : a.rv.ownBlock with
          | none => exact .inl rfl
          | some k =>
            refine .inr fun e => ?_
            rw [h5] at e
            injection e with e
            have := old a ha k hk
            omega
      · have e2 : setRv x.name u1 b = b := by simp [setRv, hbx]
        rw [e2]; exact hab.2
end
end Go.Proofs.Ytcobihdjcdefmaa
