/-
  Rows of a matrix in memory: made by append, written to, read back.
-/
import Derived.Test.YtcobihdjcdefmaaZCc
import Derived.Deep.AppendLies
namespace Go.Proofs.Ytcobihdjcdefmaa
open PAccountsCompress
open Go.RowKit Go.Proofs.YtcobihdjcdefmaaW.PrintWords
abbrev kRow : Kd (List Int) := Kd.slice 3 (Kd.int .i64)
theorem blk_ne {w : World} {a b : Nat} {cs ds : Array Value} {t u : TypeId} (h : Blk w a cs t) (k : Blk w b ds u) (hne : t ≠ u) : a ≠ b := fun e => by
  subst e
  have := h.symm.trans k
  simp at this
  exact hne this.2
theorem R_type {α : Type} {d : Kd α} {e base : Nat} {ok : Nat → Prop} {w : World} {v : Value} {xs : List α} (h : Kd.R d e w base ok v xs) {b : Nat} (hk : v.ownBlock = some b) : ∃ cs, Blk w b cs e := by
  obtain ⟨_, inner, ho, _⟩ := h
  exact own_typed ho b hk
theorem R_C {α : Type} {d : Kd α} {e base : Nat} {ok : Nat → Prop} {w : World} {v : Value} {xs : List α} (h : Kd.R d e w base ok v xs) : ∃ A c, v = .slice A xs.length c ∧ Kd.C d w A xs.length xs ∧ xs.length ≤ c := by
  obtain ⟨A, c, e, hl, hC⟩ := Kd.R_reads h
  exact ⟨A, c, e, hC, hl⟩
/-- A row of numbers appended whole to a new empty one. -/
theorem wpList_append_row {ops : Array Oper} {rest : List Oper} {o : Oper} {a : Act} {Q : Exit → Act → World → Prop} {w : World} (hgd : o.guard = none) (s x : Operand)
    (ho : o.op = .call { callee := .builtin .append, args := #[s, x], argTypes := #[32, 32] }) (b : Nat) (hs : a.eval s = .slice (some ⟨b, 0, none⟩) 0 0) (hb : Blk w b #[] 3)
    (A : Option Addr) (l : List Int) (c : Nat) (hx : a.eval x = .slice A l.length c) (hC : Kd.C (Kd.int .i64) w A l.length l) (h0 : 0 < l.length) (hl : l.length ≤ 1000)
    (hK : ∀ g cap w', TI w' g l.length (fun j => l.getD j 0) → l.length ≤ cap → b ≤ g → g < w'.heap.size → (g = b ∨ g = w.heap.size) → Fr (fun x => x = b) w w' → wpList Try.prog ops Q rest (a.put o.dst (.slice (some ⟨g, 0, none⟩) l.length cap)) w') :
    wpList Try.prog ops Q (o :: rest) a w := by
  obtain ⟨ad, rfl, _⟩ := Kd.at_int hC 0 (by omega) (by omega)
  obtain ⟨i0, hi, hz⟩ := Option.map_eq_some_iff.1 info3
  obtain ⟨z0, z1, z2⟩ : i0.zero = some (.int .i64 0) ∧ i0.size = 1 ∧ i0.bytes = 8 := by simpa using hz
  have hown : w.ownsRow b 3 1 (.slice (some ⟨b, 0, none⟩) 0 0) 0 [] := ⟨rfl, .inr ⟨b, 0, #[], rfl, Nat.le_refl _, hb, Nat.le_refl _, by unfold maxLen; omega, rfl, rfl⟩⟩
  refine wpList_append_lies w hgd s x 32 ho b 3 i0 (.int .i64 0) 1 8 Try.underlying32 hi z0 z1 z2 rfl (by omega) _ 0 [] hs hown ad l.length c (l.map (Value.int .i64)) hx (by simp) (fun j u hu => ?_) (fun u hu => ?_) h0 (by unfold maxLen; omega) (by omega) (Nat.le_of_lt (Blk.lt hb)) _ rfl ?_
  · rw [List.getElem?_map, Option.map_eq_some_iff] at hu
    obtain ⟨z, hz, rfl⟩ := hu
    have hj := (List.getElem?_eq_some_iff.1 hz).1
    obtain ⟨ad2, e2, hc⟩ := Kd.at_int hC (j : Int) (by omega) (by omega)
    obtain rfl := Option.some.inj e2
    rw [Int.toNat_natCast] at hc
    rw [hc]
    unfold rd
    rw [Int.toNat_natCast, List.getD_eq_getElem?_getD, hz]; rfl
  · obtain ⟨z, _, rfl⟩ := List.mem_map.1 hu
    rfl
  · intro g cap w' hown' hgrow hat hlt
    rw [Nat.zero_add] at hown' ⊢
    rw [List.nil_append] at hown'
    have hF : Fr (fun x => x = b) w w' := (Fr.refl (fun x => x = b) w).grown hgrow (fun y hy => .inl (by
      have hy : some y = (Value.slice (some ⟨b, 0, none⟩) 0 0).ownBlock := hy.symm ▸ rfl
      have hy : some y = some b := hy
      exact Option.some.inj hy))
    rcases hown'.2 with ⟨h, _⟩ | ⟨g', cap', cur, hv, hbg, hgg, hcap, _, hsz, htk⟩
    · simp at h
    · have e1 : g = g' ∧ cap = cap' := by simpa using hv
      obtain ⟨rfl, rfl⟩ := e1
      refine hK g cap w' ⟨cur, hgg, fun j hj => ?_⟩ hcap hbg hlt (hat.elim (fun h => .inl ?_) .inr) hF
      · have h1 : (cur.toList.take (l.length * 1))[j]? = (l.map (Value.int .i64))[j]? := by rw [htk]
        rw [List.getElem?_take, if_pos (by omega), List.getElem?_map, List.getElem?_eq_getElem hj, Array.getElem?_toList] at h1
        rw [h1]
        show some (Value.int .i64 l[j]) = some (.int .i64 (l.getD j 0))
        rw [List.getD_eq_getElem?_getD, List.getElem?_eq_getElem hj]; rfl
      · have h : some b = some g := h
        exact (Option.some.inj h).symm
/-- Rows of numbers in memory, the first of them made. -/
abbrev rowC (n : Nat) (r c : Nat → Nat) (i : Nat) : Value := .slice (some ⟨r i, 0, none⟩) n (c i)
structure LM (w : World) (hb n t : Nat) (r c : Nat → Nat) (X : Nat → Nat → Int) : Prop where
  hd : TV w hb 32 n (fun i => if i < t then rowC n r c i else .slice none 0 0)
  row : ∀ i, i < t → TI w (r i) n (X i)
  cap : ∀ i, i < t → n ≤ c i
  inj : ∀ i j, i < t → j < t → r i = r j → i = j
section
variable {w w' : World} {hb n t : Nat} {r c : Nat → Nat} {X : Nat → Nat → Int}
theorem LM.out (h : LM w hb n t r c X) {i : Nat} (hi : i < t) : r i ≠ hb := by
  obtain ⟨cs, h1, _⟩ := h.hd
  obtain ⟨ds, h2, _⟩ := h.row i hi
  exact blk_ne h2 h1 (by decide)
theorem LM.fr {F : Nat → Prop} (h : LM w hb n t r c X) (hf : Fr F w w') (h1 : ¬ F hb) (h2 : ∀ i, i < t → ¬ F (r i)) : LM w' hb n t r c X :=
  ⟨h.hd.fr hf h1, fun i hi => (h.row i hi).fr hf (h2 i hi), h.cap, h.inj⟩
theorem LM.below (h : LM w hb n t r c X) (hb' : Below w.heap.size w w') : LM w' hb n t r c X := h.fr (Fr.of_below hb' (fun _ => False)) (fun a => a) (fun _ _ a => a)
theorem LM.hcell (h : LM w hb n t r c X) {i : Nat} (hi : i < t) (hn : i < n) : w.cell? ⟨hb, i, none⟩ = some (rowC n r c i) := by
  have := TV.cell h.hd hn
  rwa [if_pos hi] at this
theorem LM.cell (h : LM w hb n t r c X) {i k : Nat} (hi : i < t) (hk : k < n) : w.cell? ⟨r i, k, none⟩ = some (.int .i64 (X i k)) := TV.cell (h.row i hi) hk
theorem LM.free (h : LM w hb n t r c X) {i : Nat} (hi : i < t) (k : Nat) : w.frozen? ⟨r i, k, none⟩ = false := TV.free (h.row i hi) k
theorem LM.set (h : LM w hb n t r c X) {u : Nat} (hu : u < t) (v : Nat) (y : Int) : LM (w.setCell ⟨r u, v, none⟩ (.int .i64 y)) hb n t r c (fun i k => if i = u ∧ k = v then y else X i k) := by
  have hf : Fr (fun b => b = r u) w (w.setCell ⟨r u, v, none⟩ (.int .i64 y)) := (Fr.refl (fun b => b = r u) w).setCell (p := ⟨r u, v, none⟩) (.inl rfl) _
  refine ⟨h.hd.fr hf (fun e => h.out hu e.symm), fun i hi => ?_, h.cap, h.inj⟩
  by_cases e : i = u
  · subst e
    refine (TI.set (h.row i hi) v y).congr fun j _ => ?_
    unfold setN
    by_cases e2 : j = v
    · simp [e2]
    · simp [e2]
  · refine ((h.row i hi).fr hf (fun e2 => e (h.inj i u hi hu e2))).congr fun j _ => ?_
    simp only [if_neg (fun h : i = u ∧ j = v => e h.1)]
theorem LM.congr {Y : Nat → Nat → Int} (h : LM w hb n t r c X) (e : ∀ i k, i < t → k < n → X i k = Y i k) : LM w hb n t r c Y :=
  ⟨h.hd, fun i hi => (h.row i hi).congr fun j hj => by rw [e i j hi hj], h.cap, h.inj⟩
/-- One more row. -/
theorem LM.next {g cp : Nat} {f : Nat → Int} (h : LM w hb n t r c X) (ht : t < n) (hg : TI w g n f) (hcp : n ≤ cp) (hne : ∀ i, i < t → r i ≠ g) (hf : ∀ k, k < n → f k = X t k) :
    LM (w.setCell ⟨hb, t, none⟩ (.slice (some ⟨g, 0, none⟩) n cp)) hb n (t + 1) (fun i => if i = t then g else r i) (fun i => if i = t then cp else c i) X := by
  have hF : Fr (fun b => b = hb) w (w.setCell ⟨hb, t, none⟩ (.slice (some ⟨g, 0, none⟩) n cp)) := (Fr.refl (fun b => b = hb) w).setCell (p := ⟨hb, t, none⟩) (.inl rfl) _
  have hgh : g ≠ hb := by
    obtain ⟨cs, h1, _⟩ := h.hd
    obtain ⟨ds, h2, _⟩ := hg
    exact blk_ne h2 h1 (by decide)
  refine ⟨(h.hd.set t _).congr fun i hi => ?_, fun i hi => ?_, fun i hi => ?_, fun i j hi hj e => ?_⟩
  · by_cases e : i = t
    · subst e; simp [rowC]
    · rw [if_neg e]
      by_cases h2 : i < t
      · rw [if_pos h2, if_pos (by omega)]; simp [rowC, e]
      · rw [if_neg h2, if_neg (by omega)]
  · by_cases e : i = t
    · subst e
      simp only
      exact (hg.fr hF hgh).congr fun k hk => by rw [hf k hk]
    · simp only [if_neg e]
      exact (h.row i (by omega)).fr hF (h.out (by omega))
  · by_cases e : i = t
    · subst e; simp only; exact hcp
    · simp only [if_neg e]; exact h.cap i (by omega)
  · by_cases e1 : i = t
    · by_cases e2 : j = t
      · omega
      · simp only [if_pos e1, if_neg e2] at e; exact absurd e.symm (hne j (by omega))
    · by_cases e2 : j = t
      · simp only [if_neg e1, if_pos e2] at e; exact absurd e (hne i (by omega))
      · simp only [if_neg e1, if_neg e2] at e; exact h.inj i j (by omega) (by omega) e
theorem LM.rows (h : LM w hb n n r c X) (hn : n ≤ 100000) : Kd.C kRow w (some ⟨hb, 0, none⟩) n (rowsM n X) := by
  refine ⟨rowsM_len n X, by omega, fun _ => ⟨_, rfl, fun i row hrow => ?_⟩⟩
  have hi : i < n := by have := (List.getElem?_eq_some_iff.1 hrow).1; rwa [rowsM_len] at this
  rw [rowsM_get hi] at hrow
  obtain rfl := Option.some.inj hrow
  refine ⟨[rowC n r c i], rfl, ⟨some ⟨r i, 0, none⟩, c i, by rw [vecL_len], by rw [vecL_len]; exact h.cap i hi, ?_⟩, fun j u hu => ?_⟩
  · have h1 := TI_C (h.row i hi) (vecL n (X i)) (vecL_len n _) hn (fun k hk => (vecL_at hk).symm)
    rw [vecL_len] at h1 ⊢
    exact h1
  · have hj : j = 0 := by have := (List.getElem?_eq_some_iff.1 hu).1; simp at this; exact this
    subst hj
    obtain rfl := Option.some.inj hu
    have hc := h.hcell hi hi
    have e : (⟨hb, 0, none⟩ : Addr).add (i * kRow.sz + 0) = ⟨hb, i, none⟩ := by
      rw [show i * kRow.sz + 0 = i from by show i * 1 + 0 = i; omega]; simp [Addr.add]; omega
    rw [e]; exact hc
end
end Go.Proofs.Ytcobihdjcdefmaa
