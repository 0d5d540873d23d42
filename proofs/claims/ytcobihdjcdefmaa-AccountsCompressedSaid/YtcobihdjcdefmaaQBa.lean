/-
  Base laws, over any program: what a call may turn (Fr), a block of one cell (One), maps read as lists of keys and values (KMap), iterators over them (KIt).
-/
import Derived.WalkKit
import Derived.WalkSpells
import Derived.WalkLawsBesides
import Derived.Maps.RangeWalk
namespace Go.Proofs.Ytcobihdjcdefmaa
open Go.ChangeMaps (setBlock)
open Go.MapKept
open Go.RowKit

/-! ### What may have turned -/
/-- w' is w but for blocks in F and new blocks. -/
structure Fr (F : Nat → Prop) (w w' : World) : Prop where
  os : w'.os = w.os
  tape : w'.tape = w.tape
  output : w'.output = w.output
  size : w.heap.size ≤ w'.heap.size
  block : ∀ b, b < w.heap.size → ¬ F b → w'.heap[b]? = w.heap[b]?
theorem Fr.refl (F : Nat → Prop) (w : World) : Fr F w w := ⟨rfl, rfl, rfl, Nat.le_refl _, fun _ _ _ => rfl⟩
theorem Fr.trans {F G : Nat → Prop} {a b c : World} (h : Fr F a b) (k : Fr G b c) (hg : ∀ x, G x → F x ∨ a.heap.size ≤ x) : Fr F a c :=
  ⟨k.os.trans h.os, k.tape.trans h.tape, k.output.trans h.output, Nat.le_trans h.size k.size, fun x hx hn =>
    (k.block x (Nat.lt_of_lt_of_le hx h.size) (fun hgx => by rcases hg x hgx with h1 | h1; exact hn h1; omega)).trans (h.block x hx hn)⟩
theorem Fr.mono {F G : Nat → Prop} {a b : World} (h : Fr F a b) (hg : ∀ x, F x → G x ∨ a.heap.size ≤ x) : Fr G a b :=
  ⟨h.os, h.tape, h.output, h.size, fun x hx hn => h.block x hx (fun hf => by rcases hg x hf with h1 | h1; exact hn h1; omega)⟩
theorem Fr.alloc {F : Nat → Prop} {a b : World} (h : Fr F a b) (o : Obj) : Fr F a (b.alloc o) :=
  ⟨h.os, h.tape, h.output, by have := h.size; simp; omega, fun x hx hn => (Below.heap_alloc b o x (Nat.lt_of_lt_of_le hx h.size)).trans (h.block x hx hn)⟩
theorem Fr.drew {F : Nat → Prop} {a b : World} (h : Fr F a b) : Fr F a b.drew := ⟨h.os, h.tape, h.output, h.size, h.block⟩
theorem Fr.drewN {F : Nat → Prop} {a b : World} (h : Fr F a b) (n : Nat) : Fr F a (b.drewN n) := ⟨h.os, h.tape, h.output, h.size, h.block⟩
theorem Fr.setCell {F : Nat → Prop} {a b : World} (h : Fr F a b) {p : Addr} (hp : F p.block ∨ a.heap.size ≤ p.block) (u : Value) : Fr F a (b.setCell p u) :=
  ⟨h.os, h.tape, h.output, by have := h.size; simp [World.setCell]; exact this, fun x hx hn => (Below.heap_setCell b p u x (fun e => by subst e; rcases hp with h1 | h1; exact hn h1; omega)).trans (h.block x hx hn)⟩
theorem Fr.grown {F : Nat → Prop} {a b c : World} {row : Option Nat} (h : Fr F a b) (hg : b.grownBy c row) (hr : ∀ k, row = some k → F k ∨ a.heap.size ≤ k) : Fr F a c :=
  ⟨hg.os.trans h.os, hg.tape.trans h.tape, hg.output.trans h.output, Nat.le_trans h.size hg.size, fun x hx hn =>
    (hg.block x (Nat.lt_of_lt_of_le hx h.size) (fun e => by rcases hr x e.symm with h1 | h1; exact hn h1; omega)).trans (h.block x hx hn)⟩
theorem Fr.of_below {w w' : World} (h : Below w.heap.size w w') (F : Nat → Prop) : Fr F w w' := ⟨h.os, h.tape, h.output, h.size, fun b hb _ => h.block b hb⟩
theorem Fr.below {F : Nat → Prop} {a b c : World} (h : Fr F a b) (k : Below b.heap.size b c) : Fr F a c := h.trans (Fr.of_below k (fun _ => False)) (fun _ hx => hx.elim)
theorem Fr.to_below {F : Nat → Prop} {w w' : World} (h : Fr F w w') {B : Nat} (hB : B ≤ w.heap.size) (hF : ∀ b, F b → B ≤ b) : Below B w w' :=
  ⟨h.os, h.tape, h.output, h.size, fun b hb => h.block b (by omega) (fun hf => by have := hF b hf; omega)⟩
theorem Fr.none_below {w w' : World} (h : Fr (fun _ => False) w w') : Below w.heap.size w w' := h.to_below (Nat.le_refl _) (fun _ hf => hf.elim)
theorem Fr.cell {F : Nat → Prop} {w w' : World} (h : Fr F w w') {p : Addr} {v : Value} (hc : w.cell? p = some v) (hn : ¬ F p.block) : w'.cell? p = some v :=
  (World.cell?_of_block (w := w) (h.block p.block (World.block_lt_of_cell? w p hc) hn)).trans hc
theorem Fr.heap {F : Nat → Prop} {w w' : World} (h : Fr F w w') {b : Nat} {o : Obj} (hb : w.heap[b]? = some o) (hn : ¬ F b) : w'.heap[b]? = some o :=
  (h.block b (Array.getElem?_eq_some_iff.1 hb).1 hn).trans hb
theorem Fr.kept {F : Nat → Prop} {w w' : World} (h : Fr F w w') : ∀ i, i < w.heap.size → ¬ F i → w'.heap[i]? = w.heap[i]? := h.block
theorem lt_heap {w : World} {b : Nat} {o : Obj} (h : w.heap[b]? = some o) : b < w.heap.size := (Array.getElem?_eq_some_iff.1 h).1

/-! ### A block that is known whole -/
def Blk (w : World) (g : Nat) (cs : Array Value) (t : TypeId) : Prop := w.heap[g]? = some (.cells cs t (0, 0))
theorem Blk.cell {w : World} {g : Nat} {cs : Array Value} {t : TypeId} (h : Blk w g cs t) (j : Nat) {v : Value} (hv : cs[j]? = some v) : w.cell? ⟨g, j, none⟩ = some v := by
  unfold Blk at h; simp [World.cell?, h, hv]
theorem Blk.free {w : World} {g : Nat} {cs : Array Value} {t : TypeId} (h : Blk w g cs t) (j : Nat) : w.frozen? ⟨g, j, none⟩ = false := by
  unfold Blk at h; simp [World.frozen?, h]
theorem Blk.lt {w : World} {g : Nat} {cs : Array Value} {t : TypeId} (h : Blk w g cs t) : g < w.heap.size := lt_heap h
theorem Blk.set {w : World} {g : Nat} {cs : Array Value} {t : TypeId} (h : Blk w g cs t) (j : Nat) (u : Value) : Blk (w.setCell ⟨g, j, none⟩ u) g (cs.setIfInBounds j u) t := by
  have hlt := h.lt
  unfold Blk at *
  simp only [World.setCell, Array.getElem?_modify]
  simp [h]
theorem Blk.other {w : World} {g : Nat} {cs : Array Value} {t : TypeId} (h : Blk w g cs t) {p : Addr} (hp : g ≠ p.block) (u : Value) : Blk (w.setCell p u) g cs t :=
  (Below.heap_setCell w p u g hp).trans h
theorem Blk.fr {F : Nat → Prop} {w w' : World} {g : Nat} {cs : Array Value} {t : TypeId} (h : Blk w g cs t) (hf : Fr F w w') (hn : ¬ F g) : Blk w' g cs t := hf.heap h hn
theorem Blk.alloc {w : World} {g : Nat} {cs : Array Value} {t : TypeId} (h : Blk w g cs t) (o : Obj) : Blk (w.alloc o) g cs t := (Below.heap_alloc w o g h.lt).trans h
theorem Blk.new (w : World) (cs : Array Value) (t : TypeId) : Blk (w.alloc (.cells cs t (0, 0))) w.heap.size cs t := (MapKept.heap_alloc w _).1
theorem Blk.new1 (w : World) (o : Obj) (cs : Array Value) (t : TypeId) : Blk ((w.alloc o).alloc (.cells cs t (0, 0))) (w.heap.size + 1) cs t := by simpa using Blk.new (w.alloc o) cs t
theorem Blk.drewN {w : World} {g : Nat} {cs : Array Value} {t : TypeId} (h : Blk w g cs t) (n : Nat) : Blk (w.drewN n) g cs t := h
theorem size_setCell (w : World) (p : Addr) (u : Value) : (w.setCell p u).heap.size = w.heap.size := by simp [World.setCell]

/-! ### Maps as lists -/
structure KE {κ : Type} (d : TypeDesc) (enc : κ → Value) : Prop where
  key : ∀ x, IsKey d (enc x)
  inj : ∀ x y, enc x = enc y → x = y
theorem ke_string : KE .string Value.string := ⟨fun _ => trivial, fun _ _ h => by injection h⟩

section maps
variable {κ : Type}
def mget [DecidableEq κ] : List (κ × Value) → κ → Option Value
  | [], _ => none
  | p :: r, x => if p.1 = x then some p.2 else mget r x
def mput [DecidableEq κ] : List (κ × Value) → κ → Value → List (κ × Value)
  | [], x, v => [(x, v)]
  | p :: r, x, v => if p.1 = x then (p.1, v) :: r else p :: mput r x v
theorem mget_none [DecidableEq κ] {l : List (κ × Value)} {x : κ} : mget l x = none ↔ ∀ p ∈ l, p.1 ≠ x := by
  induction l with
  | nil => simp [mget]
  | cons p r ih =>
    unfold mget
    by_cases h : p.1 = x
    · simp [h]
    · simp [h, ih]
theorem mget_mem [DecidableEq κ] {l : List (κ × Value)} (hn : (l.map (·.1)).Nodup) {x : κ} {v : Value} : mget l x = some v ↔ (x, v) ∈ l := by
  induction l with
  | nil => simp [mget]
  | cons p r ih =>
    obtain ⟨h1, h2⟩ := List.nodup_cons.1 hn
    unfold mget
    by_cases h : p.1 = x
    · subst h
      simp only [if_true, Option.some.injEq, List.mem_cons]
      constructor
      · rintro rfl; exact .inl rfl
      · rintro (h3 | h3)
        · rw [← h3]
        · exact absurd (List.mem_map.2 ⟨_, h3, rfl⟩) h1
    · simp only [h, if_false, ih h2, List.mem_cons]
      constructor
      · exact .inr
      · rintro (h3 | h3)
        · exact absurd (by rw [← h3]) h
        · exact h3
theorem mput_new [DecidableEq κ] {l : List (κ × Value)} {x : κ} (h : mget l x = none) (v : Value) : mput l x v = l ++ [(x, v)] := by
  induction l with
  | nil => rfl
  | cons p r ih =>
    unfold mget at h
    by_cases hp : p.1 = x
    · simp [hp] at h
    · simp only [hp, if_false] at h
      simp [mput, hp, ih h]
theorem mput_keys [DecidableEq κ] {l : List (κ × Value)} {x : κ} (h : mget l x ≠ none) (v : Value) : (mput l x v).map (·.1) = l.map (·.1) := by
  induction l with
  | nil => simp [mget] at h
  | cons p r ih =>
    unfold mget at h
    by_cases hp : p.1 = x
    · simp [mput, hp]
    · simp only [hp, if_false] at h
      simp [mput, hp, ih h]
theorem mput_nodup [DecidableEq κ] {l : List (κ × Value)} (hn : (l.map (·.1)).Nodup) (x : κ) (v : Value) : ((mput l x v).map (·.1)).Nodup := by
  by_cases h : mget l x = none
  · rw [mput_new h, List.map_append, List.nodup_append]
    refine ⟨hn, by simp, ?_⟩
    intro a ha b hb
    simp only [List.map_cons, List.map_nil, List.mem_singleton] at hb
    subst hb
    obtain ⟨p, hp, rfl⟩ := List.mem_map.1 ha
    exact mget_none.1 h p hp
  · rw [mput_keys h]; exact hn
theorem mget_mput_same [DecidableEq κ] (l : List (κ × Value)) (x : κ) (v : Value) : mget (mput l x v) x = some v := by
  induction l with
  | nil => simp [mput, mget]
  | cons p r ih =>
    unfold mput
    by_cases h : p.1 = x
    · simp [h, mget]
    · simp [h, mget, ih]
theorem mget_mput_other [DecidableEq κ] (l : List (κ × Value)) {x y : κ} (hxy : y ≠ x) (v : Value) : mget (mput l x v) y = mget l y := by
  induction l with
  | nil => simp [mput, mget, Ne.symm hxy]
  | cons p r ih =>
    unfold mput
    by_cases h : p.1 = x
    · subst h; simp [mget, Ne.symm hxy]
    · by_cases h2 : p.1 = y
      · subst h2; simp [mget, h]
      · simp [h, mget, h2, ih]

/-- The entries of a block's array, as a list of keys and values. -/
def Ents (enc : κ → Value) (es : Array MapEntry) (l : List (κ × Value)) : Prop := es.toList.map (fun e => (e.key, e.val)) = l.map (fun p => (enc p.1, p.2))
/-- Block r is a map that holds l. -/
def KMap (enc : κ → Value) (w : World) (r : Nat) (l : List (κ × Value)) : Prop :=
  ∃ es clock, w.heap[r]? = some (.map es clock) ∧ Ents enc es l ∧ (∀ x ∈ es.toList, x.born < clock) ∧ (es.toList.map (·.born)).Nodup ∧ (l.map (·.1)).Nodup
variable {enc : κ → Value} {w w' : World} {r : Nat} {l : List (κ × Value)}
theorem KMap.lt (h : KMap enc w r l) : r < w.heap.size := by obtain ⟨es, c, h, _⟩ := h; exact lt_heap h
theorem KMap.nodup (h : KMap enc w r l) : (l.map (·.1)).Nodup := by obtain ⟨es, c, _, _, _, _, h⟩ := h; exact h
theorem KMap.move (h : KMap enc w r l) (hb : w'.heap[r]? = w.heap[r]?) : KMap enc w' r l := by
  obtain ⟨es, c, h1, h2⟩ := h
  exact ⟨es, c, hb.trans h1, h2⟩
theorem KMap.fr {F : Nat → Prop} (h : KMap enc w r l) (hf : Fr F w w') (hn : ¬ F r) : KMap enc w' r l := h.move (hf.block r h.lt hn)
theorem KMap.alloc (h : KMap enc w r l) (o : Obj) : KMap enc (w.alloc o) r l := h.move (Below.heap_alloc w o r h.lt)
theorem KMap.drewN (h : KMap enc w r l) (n : Nat) : KMap enc (w.drewN n) r l := h
theorem KMap.drew (h : KMap enc w r l) : KMap enc w.drew r l := h
theorem KMap.new (enc : κ → Value) (w : World) : KMap enc (w.alloc (.map #[] 0)) w.heap.size ([] : List (κ × Value)) :=
  ⟨#[], 0, (MapKept.heap_alloc w _).1, rfl, by simp, by simp, by simp⟩
theorem KMap.not_cells (h : KMap enc w r l) {g : Nat} {cs : Array Value} {t : TypeId} {fz : Nat × Nat} (hb : w.heap[g]? = some (.cells cs t fz)) : g ≠ r := by
  obtain ⟨es, c, h, _⟩ := h
  rintro rfl
  rw [hb] at h
  cases h
theorem Ents.get {es : Array MapEntry} (h : Ents enc es l) {j : Nat} {e : MapEntry} (he : es.toList[j]? = some e) : ∃ p, l[j]? = some p ∧ e.key = enc p.1 ∧ e.val = p.2 := by
  have h1 := congrArg (·[j]?) h
  simp only [List.getElem?_map, he, Option.map_some] at h1
  cases hl : l[j]? with
  | none => rw [hl] at h1; simp at h1
  | some p =>
    rw [hl] at h1
    simp only [Option.map_some, Option.some.injEq, Prod.mk.injEq] at h1
    exact ⟨p, rfl, h1.1, h1.2⟩
theorem Ents.mem {es : Array MapEntry} (h : Ents enc es l) {e : MapEntry} (he : e ∈ es.toList) : ∃ p ∈ l, e.key = enc p.1 ∧ e.val = p.2 := by
  obtain ⟨j, hj⟩ := List.getElem?_of_mem he
  obtain ⟨p, hp, h1, h2⟩ := h.get hj
  exact ⟨p, List.mem_of_getElem? hp, h1, h2⟩
theorem Ents.mem' {es : Array MapEntry} (h : Ents enc es l) {p : κ × Value} (hp : p ∈ l) : ∃ e ∈ es.toList, e.key = enc p.1 ∧ e.val = p.2 := by
  have : (enc p.1, p.2) ∈ l.map (fun p => (enc p.1, p.2)) := List.mem_map.2 ⟨p, hp, rfl⟩
  rw [← h] at this
  obtain ⟨e, he, h2⟩ := List.mem_map.1 this
  simp only [Prod.mk.injEq] at h2
  exact ⟨e, he, h2.1, h2.2⟩
theorem Ents.size {es : Array MapEntry} (h : Ents enc es l) : es.size = l.length := by
  have := congrArg List.length h
  simpa using this
theorem nodup_fst {l : List (κ × Value)} (hn : (l.map (·.1)).Nodup) {i j : Nat} {p q : κ × Value} (hi : l[i]? = some p) (hj : l[j]? = some q) (he : p.1 = q.1) : i = j := by
  have h1 : (l.map (·.1))[i]? = some p.1 := by simp [hi]
  have h2 : (l.map (·.1))[j]? = some p.1 := by simp [hj, he]
  exact (List.getElem?_inj (by have := (List.getElem?_eq_some_iff.1 hi).1; simpa using this) hn).1 (h1.trans h2.symm)

variable {P : Program} {d : TypeDesc}
theorem KMap.find [DecidableEq κ] {es : Array MapEntry} (K : KE d enc) (h : Ents enc es l) (hn : (l.map (·.1)).Nodup) (x : κ) :
    (Instr.findNow d (enc x) es.toList 0 = some none ∧ mget l x = none) ∨ ∃ j e v, Instr.findNow d (enc x) es.toList 0 = some (some (j, e.val)) ∧ es.toList[j]? = some e ∧ e.key = enc x ∧ e.val = v ∧ l[j]? = some (x, v) ∧ mget l x = some v := by
  have hk : ∀ y ∈ es.toList, IsKey d y.key := fun y hy => by obtain ⟨p, _, h1, _⟩ := h.mem hy; rw [h1]; exact K.key _
  rcases findNow_spec (K.key x) es.toList 0 hk with ⟨h1, h2⟩ | ⟨j, e, h1, h2, h3⟩
  · refine .inl ⟨h1, mget_none.2 fun p hp e1 => ?_⟩
    obtain ⟨e, he, h4, _⟩ := h.mem' hp
    exact h2 e he (by rw [h4, e1])
  · obtain ⟨p, hp, h4, h5⟩ := h.get h2
    have h6 : p.1 = x := K.inj _ _ (h4.symm.trans h3)
    refine .inr ⟨j, e, e.val, by simpa using h1, h2, h3, rfl, ?_, (mget_mem hn).2 ?_⟩
    · rw [hp, ← h6, h5]
    · rw [← h6, h5]; exact List.mem_of_getElem? hp
/-- 'm[k]', 'v, ok := m[k]'. -/
theorem KMap.lookup [DecidableEq κ] (K : KE d enc) (h : KMap enc w r l) {t kt et : TypeId} (ht : P.underlying t = some (.map kt et)) (hk : P.underlying kt = some d) {z : Value} (hz : ∀ w, (zeroValue et).run P w = .ok z w) (x : κ) :
    (Instr.lookup t (.map (some r)) (enc x) false).run P w = .ok ((mget l x).getD z) w := by
  obtain ⟨es, c, hb, he, _, _, hn⟩ := h
  rcases KMap.find K he hn x with ⟨h1, h2⟩ | ⟨j, e, v, h1, _, _, h3, _, h2⟩
  · simp [Instr.lookup, run_underlying ht, MapKept.run_getObj_map hb, run_checkKey hk (K.key x), run_findKey hk h1, Result.andThen, hz, h2]
  · simp [Instr.lookup, run_underlying ht, MapKept.run_getObj_map hb, run_checkKey hk (K.key x), run_findKey hk h1, Result.andThen, h2, h3]
/-- 'len(m)'. -/
theorem KMap.len (h : KMap enc w r l) {t ty kt et : TypeId} (ht : P.underlying t = some (.map kt et)) : (Builtin.len_ #[t] ty #[.map (some r)]).run P w = .ok (.int .i64 l.length) w := by
  obtain ⟨es, c, hb, he, _⟩ := h
  simp [Builtin.len_, run_underlying ht, MapKept.run_getObj_map hb, Result.andThen, goInt, he.size]
theorem mput_at [DecidableEq κ] {l : List (κ × Value)} (hn : (l.map (·.1)).Nodup) {x : κ} {u : Value} : ∀ {j : Nat}, l[j]? = some (x, u) → ∀ v, mput l x v = l.set j (x, v) := by
  induction l with
  | nil => intro j h; simp at h
  | cons p r ih =>
    intro j h v
    obtain ⟨h1, h2⟩ := List.nodup_cons.1 hn
    cases j with
    | zero =>
      simp only [List.getElem?_cons_zero, Option.some.injEq] at h
      subst h
      simp [mput]
    | succ j =>
      simp only [List.getElem?_cons_succ] at h
      have hne : p.1 ≠ x := fun e => h1 (List.mem_map.2 ⟨_, List.mem_of_getElem? h, e.symm⟩)
      simp [mput, hne, ih h2 h v]
theorem list_modify_set {α : Type} (f : α → α) : ∀ (l : List α) (j : Nat) (a : α), l[j]? = some a → l.modify j f = l.set j (f a)
  | [], _, _, h => by simp at h
  | b :: r, 0, a, h => by simp at h; subst h; simp
  | b :: r, j + 1, a, h => by simp at h; simp [list_modify_set f r j a h]
/-- 'm[k] = v'. -/
theorem KMap.update [DecidableEq κ] (K : KE d enc) (h : KMap enc w r l) {t kt et : TypeId} (ht : P.underlying t = some (.map kt et)) (hk : P.underlying kt = some d) (x : κ) (v : Value) :
    ∃ w', (Instr.mapUpdate t (.map (some r)) (enc x) v).run P w = .ok () w' ∧ KMap enc w' r (mput l x v) ∧ Fr (· = r) w w' ∧ w'.heap.size = w.heap.size := by
  obtain ⟨es, c, hb, he, hborn, hnb, hn⟩ := h
  have fr : ∀ o, Fr (· = r) w (setBlock w r o) ∧ (setBlock w r o).heap.size = w.heap.size := fun o =>
    ⟨⟨rfl, rfl, rfl, by simp [setBlock], fun b _ hne => (heap_set (o' := o) hb).2 b hne⟩, by simp [setBlock]⟩
  rcases KMap.find K he hn x with ⟨h1, h2⟩ | ⟨j, e, u, h1, hj, hek, h3, hl, h2⟩
  · refine ⟨setBlock w r (.map (es.push { key := enc x, val := v, born := c }) (c + 1)), ?_, ⟨_, _, (heap_set hb).1, ?_, ?_, ?_, mput_nodup hn x v⟩, (fr _).1, (fr _).2⟩
    · simp [Instr.mapUpdate, run_underlying ht, MapKept.run_getObj_map hb, run_checkKey hk (K.key x), run_findKey hk h1, Result.andThen, MapKept.run_setObj_map _ hb, setBlock]
    · unfold Ents at he ⊢
      rw [mput_new h2]
      simp [he]
    · intro y hy
      simp only [Array.toList_push, List.mem_append, List.mem_singleton] at hy
      rcases hy with hy | rfl
      · have := hborn y hy; omega
      · simp
    · simp only [Array.toList_push, List.map_append, List.map_cons, List.map_nil, List.nodup_append]
      refine ⟨hnb, by simp, ?_⟩
      intro a ha b hb'
      simp only [List.mem_singleton] at hb'
      subst hb'
      obtain ⟨y, hy, rfl⟩ := List.mem_map.1 ha
      have := hborn y hy; omega
  · have hj2 : es[j]? = some e := by rw [← Array.getElem?_toList]; exact hj
    have hmod : (es.modify j fun e => { e with key := enc x, val := v }).toList = es.toList.set j { e with key := enc x, val := v } := by
      rw [Array.toList_modify]; exact list_modify_set _ _ _ _ hj
    refine ⟨setBlock w r (.map (es.modify j fun e => { e with key := enc x, val := v }) c), ?_, ⟨_, _, (heap_set hb).1, ?_, ?_, ?_, mput_nodup hn x v⟩, (fr _).1, (fr _).2⟩
    · simp [Instr.mapUpdate, run_underlying ht, MapKept.run_getObj_map hb, run_checkKey hk (K.key x), run_findKey hk h1, Result.andThen, hj2, hek, run_keyThatStays (K.key x), MapKept.run_setObj_map _ hb, setBlock]
    · unfold Ents at he ⊢
      rw [hmod, mput_at hn hl v, List.map_set, List.map_set, he]
    · intro y hy
      rw [hmod] at hy
      rcases List.mem_or_eq_of_mem_set hy with hy | rfl
      · exact hborn y hy
      · exact hborn e (List.mem_of_getElem? hj)
    · rw [hmod, List.map_set]
      have : (es.toList.map (·.born)).set j e.born = es.toList.map (·.born) := by
        apply List.ext_getElem?
        intro i
        rw [List.getElem?_set]
        by_cases hij : j = i
        · subst hij
          have hlt := (List.getElem?_eq_some_iff.1 hj).1
          simp [hj]
          exact hlt
        · simp [hij]
      rw [this]; exact hnb
theorem wpList_mapUpdate_k [DecidableEq κ] {ops : Array Oper} {rest : List Oper} {o : Oper} {a : Act} {Q : Exit → Act → World → Prop} (hg : o.guard = none) (m x y : Operand) (t : TypeId) (hop : o.op = Op.mapUpdate t m x y)
    (K : KE d enc) (h : KMap enc w r l) {kt et : TypeId} (ht : P.underlying t = some (.map kt et)) (hk : P.underlying kt = some d) (hm : a.eval m = .map (some r)) (k : κ) (hx : a.eval x = enc k) (v : Value) (hy : a.eval y = v)
    (hK : ∀ w', KMap enc w' r (mput l k v) → Fr (· = r) w w' → w'.heap.size = w.heap.size → wpList P ops Q rest (a.put o.dst undef) w') : wpList P ops Q (o :: rest) a w := by
  refine wpList_plain hg fun K' hK' => ?_
  obtain ⟨w', hrun, h1, h2, h3⟩ := h.update K ht hk k v
  unfold Oper.wp
  simp [execOp, hop, hm, hx, hy, hrun, Result.andThen]
  exact hK' _ _ (hK w' h1 h2 h3)

/-! ### Iterators -/
/-- Block r is an iterator over block b, which holds l; left are still to come. -/
def KIt (enc : κ → Value) (w : World) (r b : Nat) (l left : List (κ × Value)) : Prop :=
  ∃ es clock since seen c0, w.heap[b]? = some (.map es clock) ∧ Ents enc es l ∧ (∀ x ∈ es.toList, x.born < clock) ∧ (es.toList.map (·.born)).Nodup ∧ (l.map (·.1)).Nodup ∧
    w.heap[r]? = some (.mapIter (some b) since seen c0) ∧ (∀ x ∈ es.toList, x.born < since) ∧ since ≤ c0 ∧ since ≤ clock ∧
    (leftOf es seen).toList.map (fun e => (e.key, e.val)) = left.map (fun p => (enc p.1, p.2)) ∧ left.Sublist l
variable {b : Nat} {left : List (κ × Value)}
theorem KIt.map (h : KIt enc w r b l left) : KMap enc w b l := by
  obtain ⟨es, c, s, sn, c0, h1, h2, h3, h4, h5, _⟩ := h
  exact ⟨es, c, h1, h2, h3, h4, h5⟩
theorem KIt.sub (h : KIt enc w r b l left) : left.Sublist l := by
  obtain ⟨es, c, s, sn, c0, h1, h2, h3, h4, h5, h6, h7, h8, h9, h10, h11⟩ := h
  exact h11
theorem KIt.ne (h : KIt enc w r b l left) : r ≠ b := by
  obtain ⟨es, c, s, sn, c0, h1, h2, h3, h4, h5, h6, _⟩ := h
  rintro rfl
  rw [h1] at h6; cases h6
theorem KIt.lt (h : KIt enc w r b l left) : r < w.heap.size := by
  obtain ⟨es, c, s, sn, c0, h1, h2, h3, h4, h5, h6, _⟩ := h
  exact lt_heap h6
theorem KIt.move (h : KIt enc w r b l left) (h1 : w'.heap[r]? = w.heap[r]?) (h2 : w'.heap[b]? = w.heap[b]?) : KIt enc w' r b l left := by
  obtain ⟨es, c, s, sn, c0, k1, k2, k3, k4, k5, k6, rest⟩ := h
  exact ⟨es, c, s, sn, c0, h2.trans k1, k2, k3, k4, k5, h1.trans k6, rest⟩
theorem KIt.fr {F : Nat → Prop} (h : KIt enc w r b l left) (hf : Fr F w w') (h1 : ¬ F r) (h2 : ¬ F b) : KIt enc w' r b l left := h.move (hf.block r h.lt h1) (hf.block b h.map.lt h2)
theorem KIt.not_cells (h : KIt enc w r b l left) {g : Nat} {cs : Array Value} {t : TypeId} {fz : Nat × Nat} (hb : w.heap[g]? = some (.cells cs t fz)) : g ≠ r := by
  obtain ⟨es, c, s, sn, c0, h1, h2, h3, h4, h5, h6, _⟩ := h
  rintro rfl
  rw [hb] at h6
  cases h6
theorem KIt.left_eq (h : KIt enc w r b l left) : w.rangeLeft b r = left.length := by
  obtain ⟨es, c, s, sn, c0, h1, h2, h3, h4, h5, h6, h7, h8, h9, h10, h11⟩ := h
  simp only [World.rangeLeft, h1, h6]
  have := congrArg List.length h10
  simpa using this
theorem KMap.range (h : KMap enc w b l) {t kt et : TypeId} (ht : P.underlying t = some (.map kt et)) :
    ∃ w', (Instr.range t (.map (some b))).run P w = .ok (.pointer (some ⟨w.heap.size, 0, none⟩)) w' ∧ KIt enc w' w.heap.size b l l ∧ Fr (fun _ => False) w w' ∧ w'.heap.size = w.heap.size + 1 := by
  have hlt := h.lt
  obtain ⟨es, c, hb, he, hborn, hnb, hn⟩ := h
  refine ⟨_, run_range_map w t kt et b es c ht hb, ⟨es, c, c, #[], c, ((MapKept.heap_alloc w _).2 b hlt).trans hb, he, hborn, hnb, hn, (MapKept.heap_alloc w _).1, hborn, Nat.le_refl _, Nat.le_refl _, ?_, List.Sublist.refl _⟩, (Fr.refl _ w).alloc _, by simp⟩
  have : leftOf es #[] = es := by simp [leftOf]
  rw [this]; exact he
theorem KIt.next [DecidableEq κ] (K : KE d enc) (h : KIt enc w r b l left) (ty : TypeId) :
    (left = [] ∧ (Instr.next (.pointer (some ⟨r, 0, none⟩)) false ty).run P w = .ok (.tuple #[.bool false]) w) ∨
    ∃ p w', p ∈ left ∧ (Instr.next (.pointer (some ⟨r, 0, none⟩)) false ty).run P w = .ok (.tuple #[.bool true, enc p.1, p.2]) w' ∧ KIt enc w' r b l (left.filter (fun q => !decide (q.1 = p.1))) ∧
      Fr (· = r) w w' ∧ w'.heap.size = w.heap.size ∧ (Instr.entry (.pointer (some ⟨r, 0, none⟩))).run P w' = .ok (.tuple #[enc p.1, p.2]) w' := by
  have hne := h.ne
  obtain ⟨es, clock, since, seen, c0, hb, he, hborn, hnb, hn, hr, hold, hsc, hsk, hleft, hsub⟩ := h
  rcases run_next_at (P := P) w ty r b since c0 seen es clock hr hb hold hsc with ⟨h0, hrun⟩ | ⟨e, hel, w1, hal, hrun⟩
  · refine .inl ⟨?_, hrun⟩
    have : (leftOf es seen).toList = [] := List.eq_nil_of_length_eq_zero (by simpa using h0)
    rw [this] at hleft
    simpa using hleft.symm
  · obtain ⟨hem, hes⟩ := mem_left hel
    have hr1 : w1.heap[r]? = some (.mapIter (some b) since seen c0) := by rcases hal with rfl | rfl <;> exact hr
    have hb1 : w1.heap[b]? = some (.map es clock) := by rcases hal with rfl | rfl <;> exact hb
    have hset := heap_set (o' := .mapIter (some b) since (seen.push e.born) clock) hr1
    have hb' : (setBlock w1 r (.mapIter (some b) since (seen.push e.born) clock)).heap[b]? = some (.map es clock) := (hset.2 b (Ne.symm hne)).trans hb1
    have hmem : (e.key, e.val) ∈ left.map (fun p => (enc p.1, p.2)) := by rw [← hleft]; exact List.mem_map.2 ⟨e, hel, rfl⟩
    obtain ⟨p, hp, hpe⟩ := List.mem_map.1 hmem
    simp only [Prod.mk.injEq] at hpe
    refine .inr ⟨p, _, hp, by rw [hpe.1, hpe.2]; exact hrun, ⟨es, clock, since, seen.push e.born, clock, hb', he, hborn, hnb, hn, hset.1, hold, hsk, hsk, ?_, (List.filter_sublist).trans hsub⟩, ?_, ?_, ?_⟩
    · have e1 : (leftOf es (seen.push e.born)).toList = (leftOf es seen).toList.filter (fun x => !(x.born == e.born)) := by
        unfold leftOf
        rw [Array.toList_filter, Array.toList_filter, List.filter_filter]
        apply List.filter_congr
        intro x _
        rw [contains_push]
        cases seen.contains x.born <;> cases (x.born == e.born) <;> rfl
      rw [e1]
      have key : ∀ (A : List MapEntry) (B : List (κ × Value)), (∀ x ∈ A, x ∈ es.toList) → A.map (fun e => (e.key, e.val)) = B.map (fun p => (enc p.1, p.2)) →
          (A.filter (fun x => !(x.born == e.born))).map (fun e => (e.key, e.val)) = (B.filter (fun q => !decide (q.1 = p.1))).map (fun p => (enc p.1, p.2)) := by
        intro A
        induction A with
        | nil => intro B _ h; cases B with
          | nil => rfl
          | cons _ _ => simp at h
        | cons x A ih =>
          intro B hA h
          cases B with
          | nil => simp at h
          | cons q B =>
            simp only [List.map_cons, List.cons.injEq, Prod.mk.injEq] at h
            have hx := hA x (by simp)
            have iff : (x.born == e.born) = decide (q.1 = p.1) := by
              by_cases hq : q.1 = p.1
              · have hk : x.key = e.key := by rw [h.1.1, hq, hpe.1]
                have : x = e := by
                  obtain ⟨i, hi⟩ := List.getElem?_of_mem hx
                  obtain ⟨j, hj⟩ := List.getElem?_of_mem hem
                  obtain ⟨pi, hpi, ki, _⟩ := he.get hi
                  obtain ⟨pj, hpj, kj, _⟩ := he.get hj
                  have : i = j := nodup_fst hn hpi hpj (K.inj _ _ (ki.symm.trans (hk.trans kj)))
                  subst this
                  rw [hi] at hj
                  exact Option.some.inj hj
                simp [this, hq]
              · have : x.born ≠ e.born := by
                  intro hbe
                  have : x = e := born_inj hnb hx hem hbe
                  exact hq (K.inj _ _ (h.1.1.symm.trans ((congrArg MapEntry.key this).trans hpe.1.symm)))
                simp [this, hq]
            have ih' := ih B (fun y hy => hA y (by simp [hy])) h.2
            simp only [List.filter_cons, iff]
            cases decide (q.1 = p.1)
            · simp [h.1.1, h.1.2, ih']
            · simpa using ih'
      exact key _ left (fun x hx => (mem_left hx).1) hleft
    · rcases hal with rfl | rfl <;> exact ⟨rfl, rfl, rfl, by simp [setBlock], fun i _ hi => hset.2 i hi⟩
    · rcases hal with rfl | rfl <;> simp [setBlock]
    · rw [hpe.1, hpe.2]
      exact run_entry_at _ r b since seen es clock e hset.1 hb' hem hnb
theorem left_filter_lt [DecidableEq κ] {p : κ × Value} (hp : p ∈ left) : (left.filter (fun q => !decide (q.1 = p.1))).length < left.length := by
  rcases Nat.lt_or_ge (left.filter (fun q => !decide (q.1 = p.1))).length left.length with h | h
  · exact h
  · have h1 := List.length_filter_le (fun q => !decide (q.1 = p.1)) left
    have h2 := List.length_filter_eq_length_iff.1 (show (left.filter (fun q => !decide (q.1 = p.1))).length = left.length by omega)
    have := h2 p hp
    simp at this
end maps
end Go.Proofs.Ytcobihdjcdefmaa
