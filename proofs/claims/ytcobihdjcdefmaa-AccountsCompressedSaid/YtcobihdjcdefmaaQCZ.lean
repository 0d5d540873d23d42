/-
  The reference's reach (55) and Best (29) walked.
  Rows of a matrix in memory: made by append, written to, read back.
  Compress walked.
  rows walked: a copy of a matrix.
  Compressed of the reference walked: what Compress leaves is accepted.
  The law AccountsCompress.
-/
import Derived.Test.YtcobihdjcdefmaaQFZ
import Derived.Test.YtcobihdjcdefmaaQCc
import Derived.Deep.AppendLies
import Derived.Test.YtcobihdjcdefmaaQAl
namespace Go.Proofs.Ytcobihdjcdefmaa
open PAccountsCompress
open Go.RowKit Go.Proofs.YtcobihdjcdefmaaW.PrintWords
def cntV (N : Nat) (f : Nat → Bool) : Nat := ((List.range N).filter (fun i => !f i)).length
/-- A tight step of the arcs from number k on. -/
def TightS (A : Nat → Ar) (all : List Stp) (p : Int → Int) (k : Int) (s : Stp) : Prop := s ∈ all ∧ k ≤ s.f0 ∧ p (frm A s) + cst A s = p (tow A s)
def ReachPost (n : Nat) (A : Nat → Ar) (all : List Stp) (p : Int → Int) (o : Nat) (k : Int) (w : World) (e : Ending) (w' : World) : Prop :=
  (∃ f : Nat → Bool, e = .returned (.slice (some ⟨w.heap.size, 0, none⟩) n n) ∧ TB w' w.heap.size n f ∧ ∀ v, v < n → f v = true → Rch A (TightS A all p k) o v) ∧ Below w.heap.size w w'
theorem Rch.imp {A : Nat → Ar} {P Q : Stp → Prop} (h : ∀ s, P s → Q s) {a b : Int} (hr : Rch A P a b) : Rch A Q a b := by
  induction hr with
  | refl => exact .refl _
  | step _ hp ih => exact .step ih (h _ hp)
/-- Nothing that the reference's Best looks for is there. -/
def BestOk (m : Nat) (A : Nat → Ar) (x : Nat → Int) (first : Int) : Prop :=
  (∃ q, Feas m A x q) ∧ ∀ p', Feas m A x p' → ∀ i, i < m → (i : Int) < first → x i < (A i).f2 → p' (A i).f0 + (A i).f3 = p' (A i).f1 → ¬ Rch A (fun s => Res m A x s ∧ (i : Int) < s.f0 ∧ p' (frm A s) + cst A s = p' (tow A s)) (A i).f1 (A i).f0
theorem BestOk.at {m : Nat} {A : Nat → Ar} {x : Nat → Int} {first : Int} (h : BestOk m A x first) {p : Int → Int} (hp : Feas m A x p) {s : Stp} (hs : Res m A x s) (h1 : s.f1 = false) (h2 : s.f0 < first) (h3 : p (frm A s) + cst A s = p (tow A s)) :
    ¬ Rch A (TightS A (stepsF A x m) p (s.f0 + 1)) (tow A s) (frm A s) := fun hr => by
  obtain ⟨⟨r0, r1⟩, r2⟩ := hs
  have e0 : ((s.f0.toNat : Nat) : Int) = s.f0 := by omega
  have ef : frm A s = (A s.f0.toNat).f0 := by unfold frm; rw [h1]; rfl
  have et : tow A s = (A s.f0.toNat).f1 := by unfold tow; rw [h1]; rfl
  have ec : cst A s = (A s.f0.toNat).f3 := by unfold cst; rw [h1]; rfl
  have es : spr A x s = (A s.f0.toNat).f2 - x s.f0.toNat := by unfold spr; rw [h1]; rfl
  rw [ef, et, ec] at h3
  refine h.2 p hp s.f0.toNat (by omega) (by omega) (by omega) h3 ?_
  rw [← ef, ← et]
  exact hr.imp fun t ht => ⟨mem_stepsF.1 ht.1, by have := ht.2.1; omega, ht.2.2⟩
end Go.Proofs.Ytcobihdjcdefmaa
namespace Go.Proofs.Ytcobihdjcdefmaa
open PAccountsCompress
open Go.RowKit Go.Proofs.YtcobihdjcdefmaaW.PrintWords
abbrev kRow : Kd (List Int) := Kd.slice 3 (Kd.int .i64)
theorem blk_ne {w : World} {a b : Nat} {cs ds : Array Value} {t u : TypeId} (h : Blk w a cs t) (k : Blk w b ds u) (hne : t ≠ u) : a ≠ b := fun e => by
  subst e
  have := h.symm.trans k
  simp at this
  exact hne this.2
theorem R_type {α : Type} {d : Kd α} {e base : Nat} {ok : Nat → Prop} {w : World} {v : Value} {xs : List α} (h : Kd.R d e w base ok v xs) {b : Nat} (hk : v.ownBlock = some b) : ∃ cs, Blk w b cs e := by
  obtain ⟨_, inner, ho, _⟩ := h
  exact own_typed ho b hk
theorem R_C {α : Type} {d : Kd α} {e base : Nat} {ok : Nat → Prop} {w : World} {v : Value} {xs : List α} (h : Kd.R d e w base ok v xs) : ∃ A c, v = .slice A xs.length c ∧ Kd.C d w A xs.length xs ∧ xs.length ≤ c := by
  obtain ⟨A, c, e, hl, hC⟩ := Kd.R_reads h
  exact ⟨A, c, e, hC, hl⟩
/-- A row of numbers appended whole to a new empty one. -/
theorem wpList_append_row {ops : Array Oper} {rest : List Oper} {o : Oper} {a : Act} {Q : Exit → Act → World → Prop} {w : World} (hgd : o.guard = none) (s x : Operand)
    (ho : o.op = .call { callee := .builtin .append, args := #[s, x], argTypes := #[32, 32] }) (b : Nat) (hs : a.eval s = .slice (some ⟨b, 0, none⟩) 0 0) (hb : Blk w b #[] 3)
    (A : Option Addr) (l : List Int) (c : Nat) (hx : a.eval x = .slice A l.length c) (hC : Kd.C (Kd.int .i64) w A l.length l) (h0 : 0 < l.length) (hl : l.length ≤ 1000)
    (hK : ∀ g cap w', TI w' g l.length (fun j => l.getD j 0) → l.length ≤ cap → b ≤ g → g < w'.heap.size → (g = b ∨ g = w.heap.size) → Fr (fun x => x = b) w w' → wpList Try.prog ops Q rest (a.put o.dst (.slice (some ⟨g, 0, none⟩) l.length cap)) w') :
    wpList Try.prog ops Q (o :: rest) a w := by
  obtain ⟨ad, rfl, _⟩ := Kd.at_int hC 0 (by omega) (by omega)
  obtain ⟨i0, hi, hz⟩ := Option.map_eq_some_iff.1 info3
  obtain ⟨z0, z1, z2⟩ : i0.zero = some (.int .i64 0) ∧ i0.size = 1 ∧ i0.bytes = 8 := by simpa using hz
  have hown : w.ownsRow b 3 1 (.slice (some ⟨b, 0, none⟩) 0 0) 0 [] := ⟨rfl, .inr ⟨b, 0, #[], rfl, Nat.le_refl _, hb, Nat.le_refl _, by unfold maxLen; omega, rfl, rfl⟩⟩
  refine wpList_append_lies w hgd s x 32 ho b 3 i0 (.int .i64 0) 1 8 Try.underlying32 hi z0 z1 z2 rfl (by omega) _ 0 [] hs hown ad l.length c (l.map (Value.int .i64)) hx (by simp) (fun j u hu => ?_) (fun u hu => ?_) h0 (by unfold maxLen; omega) (by omega) (Nat.le_of_lt (Blk.lt hb)) _ rfl ?_
  · rw [List.getElem?_map, Option.map_eq_some_iff] at hu
    obtain ⟨z, hz, rfl⟩ := hu
    have hj := (List.getElem?_eq_some_iff.1 hz).1
    obtain ⟨ad2, e2, hc⟩ := Kd.at_int hC (j : Int) (by omega) (by omega)
    obtain rfl := Option.some.inj e2
    rw [Int.toNat_natCast] at hc
    rw [hc]
    unfold rd
    rw [Int.toNat_natCast, List.getD_eq_getElem?_getD, hz]; rfl
  · obtain ⟨z, _, rfl⟩ := List.mem_map.1 hu
    rfl
  · intro g cap w' hown' hgrow hat hlt
    rw [Nat.zero_add] at hown' ⊢
    rw [List.nil_append] at hown'
    have hF : Fr (fun x => x = b) w w' := (Fr.refl (fun x => x = b) w).grown hgrow (fun y hy => .inl (by
      have hy : some y = (Value.slice (some ⟨b, 0, none⟩) 0 0).ownBlock := hy.symm ▸ rfl
      have hy : some y = some b := hy
      exact Option.some.inj hy))
    rcases hown'.2 with ⟨h, _⟩ | ⟨g', cap', cur, hv, hbg, hgg, hcap, _, hsz, htk⟩
    · simp at h
    · have e1 : g = g' ∧ cap = cap' := by simpa using hv
      obtain ⟨rfl, rfl⟩ := e1
      refine hK g cap w' ⟨cur, hgg, fun j hj => ?_⟩ hcap hbg hlt (hat.elim (fun h => .inl ?_) .inr) hF
      · have h1 : (cur.toList.take (l.length * 1))[j]? = (l.map (Value.int .i64))[j]? := by rw [htk]
        rw [List.getElem?_take, if_pos (by omega), List.getElem?_map, List.getElem?_eq_getElem hj, Array.getElem?_toList] at h1
        rw [h1]
        show some (Value.int .i64 l[j]) = some (.int .i64 (l.getD j 0))
        rw [List.getD_eq_getElem?_getD, List.getElem?_eq_getElem hj]; rfl
      · have h : some b = some g := h
        exact (Option.some.inj h).symm
/-- Rows of numbers in memory, the first of them made. -/
abbrev rowC (n : Nat) (r c : Nat → Nat) (i : Nat) : Value := .slice (some ⟨r i, 0, none⟩) n (c i)
structure LM (w : World) (hb n t : Nat) (r c : Nat → Nat) (X : Nat → Nat → Int) : Prop where
  hd : TV w hb 32 n (fun i => if i < t then rowC n r c i else .slice none 0 0)
  row : ∀ i, i < t → TI w (r i) n (X i)
  cap : ∀ i, i < t → n ≤ c i
  inj : ∀ i j, i < t → j < t → r i = r j → i = j
section
variable {w w' : World} {hb n t : Nat} {r c : Nat → Nat} {X : Nat → Nat → Int}
theorem LM.out (h : LM w hb n t r c X) {i : Nat} (hi : i < t) : r i ≠ hb := by
  obtain ⟨cs, h1, _⟩ := h.hd
  obtain ⟨ds, h2, _⟩ := h.row i hi
  exact blk_ne h2 h1 (by decide)
theorem LM.fr {F : Nat → Prop} (h : LM w hb n t r c X) (hf : Fr F w w') (h1 : ¬ F hb) (h2 : ∀ i, i < t → ¬ F (r i)) : LM w' hb n t r c X :=
  ⟨h.hd.fr hf h1, fun i hi => (h.row i hi).fr hf (h2 i hi), h.cap, h.inj⟩
theorem LM.below (h : LM w hb n t r c X) (hb' : Below w.heap.size w w') : LM w' hb n t r c X := h.fr (Fr.of_below hb' (fun _ => False)) (fun a => a) (fun _ _ a => a)
theorem LM.hcell (h : LM w hb n t r c X) {i : Nat} (hi : i < t) (hn : i < n) : w.cell? ⟨hb, i, none⟩ = some (rowC n r c i) := by
  have := TV.cell h.hd hn
  rwa [if_pos hi] at this
theorem LM.cell (h : LM w hb n t r c X) {i k : Nat} (hi : i < t) (hk : k < n) : w.cell? ⟨r i, k, none⟩ = some (.int .i64 (X i k)) := TV.cell (h.row i hi) hk
theorem LM.free (h : LM w hb n t r c X) {i : Nat} (hi : i < t) (k : Nat) : w.frozen? ⟨r i, k, none⟩ = false := TV.free (h.row i hi) k
theorem LM.set (h : LM w hb n t r c X) {u : Nat} (hu : u < t) (v : Nat) (y : Int) : LM (w.setCell ⟨r u, v, none⟩ (.int .i64 y)) hb n t r c (fun i k => if i = u ∧ k = v then y else X i k) := by
  have hf : Fr (fun b => b = r u) w (w.setCell ⟨r u, v, none⟩ (.int .i64 y)) := (Fr.refl (fun b => b = r u) w).setCell (p := ⟨r u, v, none⟩) (.inl rfl) _
  refine ⟨h.hd.fr hf (fun e => h.out hu e.symm), fun i hi => ?_, h.cap, h.inj⟩
  by_cases e : i = u
  · subst e
    refine (TI.set (h.row i hi) v y).congr fun j _ => ?_
    unfold setN
    by_cases e2 : j = v
    · simp [e2]
    · simp [e2]
  · refine ((h.row i hi).fr hf (fun e2 => e (h.inj i u hi hu e2))).congr fun j _ => ?_
    simp only [if_neg (fun h : i = u ∧ j = v => e h.1)]
theorem LM.congr {Y : Nat → Nat → Int} (h : LM w hb n t r c X) (e : ∀ i k, i < t → k < n → X i k = Y i k) : LM w hb n t r c Y :=
  ⟨h.hd, fun i hi => (h.row i hi).congr fun j hj => by rw [e i j hi hj], h.cap, h.inj⟩
/-- One more row. -/
theorem LM.next {g cp : Nat} {f : Nat → Int} (h : LM w hb n t r c X) (ht : t < n) (hg : TI w g n f) (hcp : n ≤ cp) (hne : ∀ i, i < t → r i ≠ g) (hf : ∀ k, k < n → f k = X t k) :
    LM (w.setCell ⟨hb, t, none⟩ (.slice (some ⟨g, 0, none⟩) n cp)) hb n (t + 1) (fun i => if i = t then g else r i) (fun i => if i = t then cp else c i) X := by
  have hF : Fr (fun b => b = hb) w (w.setCell ⟨hb, t, none⟩ (.slice (some ⟨g, 0, none⟩) n cp)) := (Fr.refl (fun b => b = hb) w).setCell (p := ⟨hb, t, none⟩) (.inl rfl) _
  have hgh : g ≠ hb := by
    obtain ⟨cs, h1, _⟩ := h.hd
    obtain ⟨ds, h2, _⟩ := hg
    exact blk_ne h2 h1 (by decide)
  refine ⟨(h.hd.set t _).congr fun i hi => ?_, fun i hi => ?_, fun i hi => ?_, fun i j hi hj e => ?_⟩
  · by_cases e : i = t
    · subst e; simp [rowC]
    · rw [if_neg e]
      by_cases h2 : i < t
      · rw [if_pos h2, if_pos (by omega)]; simp [rowC, e]
      · rw [if_neg h2, if_neg (by omega)]
  · by_cases e : i = t
    · subst e
      simp only
      exact (hg.fr hF hgh).congr fun k hk => by rw [hf k hk]
    · simp only [if_neg e]
      exact (h.row i (by omega)).fr hF (h.out (by omega))
  · by_cases e : i = t
    · subst e; simp only; exact hcp
    · simp only [if_neg e]; exact h.cap i (by omega)
  · by_cases e1 : i = t
    · by_cases e2 : j = t
      · omega
      · simp only [if_pos e1, if_neg e2] at e; exact absurd e.symm (hne j (by omega))
    · by_cases e2 : j = t
      · simp only [if_neg e1, if_pos e2] at e; exact absurd e (hne i (by omega))
      · simp only [if_neg e1, if_neg e2] at e; exact h.inj i j (by omega) (by omega) e
theorem LM.rows (h : LM w hb n n r c X) (hn : n ≤ 100000) : Kd.C kRow w (some ⟨hb, 0, none⟩) n (rowsM n X) := by
  refine ⟨rowsM_len n X, by omega, fun _ => ⟨_, rfl, fun i row hrow => ?_⟩⟩
  have hi : i < n := by have := (List.getElem?_eq_some_iff.1 hrow).1; rwa [rowsM_len] at this
  rw [rowsM_get hi] at hrow
  obtain rfl := Option.some.inj hrow
  refine ⟨[rowC n r c i], rfl, ⟨some ⟨r i, 0, none⟩, c i, by rw [vecL_len], by rw [vecL_len]; exact h.cap i hi, ?_⟩, fun j u hu => ?_⟩
  · have h1 := TI_C (h.row i hi) (vecL n (X i)) (vecL_len n _) hn (fun k hk => (vecL_at hk).symm)
    rw [vecL_len] at h1 ⊢
    exact h1
  · have hj : j = 0 := by have := (List.getElem?_eq_some_iff.1 hu).1; simp at this; exact this
    subst hj
    obtain rfl := Option.some.inj hu
    have hc := h.hcell hi hi
    have e : (⟨hb, 0, none⟩ : Addr).add (i * kRow.sz + 0) = ⟨hb, i, none⟩ := by
      rw [show i * kRow.sz + 0 = i from by show i * 1 + 0 = i; omega]; simp [Addr.add]; omega
    rw [e]; exact hc
end
end Go.Proofs.Ytcobihdjcdefmaa
namespace Go.Proofs.Ytcobihdjcdefmaa
open PAccountsCompress
open Go.RowKit Go.Proofs.YtcobihdjcdefmaaW.PrintWords
theorem make_hdr (W : World) {n : Nat} (hn : n ≤ 100000) : (Instr.makeSlice 29 (.int .i64 n) (.int .i64 n)).run Try.prog W = .ok (.slice (some ⟨W.heap.size, 0, none⟩) n n) (W.alloc (.cells (madeCells #[.slice none 0 0] n) 32 (0, 0))) := by
  obtain ⟨i0, hi, hz⟩ := Option.map_eq_some_iff.1 info32
  obtain ⟨z0, z1, z2⟩ : i0.zero = some (.slice none 0 0) ∧ i0.size = 1 ∧ i0.bytes = 24 := by simpa using hz
  have h := run_make W 29 32 i0 (.slice none 0 0) Try.underlying29 hi z0 .i64 .i64 (n : Int) (n : Int) (by omega) (Int.le_refl _) (by rw [z2]; omega) (by omega)
  rw [z1, Int.toNat_natCast, Nat.mul_one] at h
  exact h
theorem solve_debts {O : Mt} (hn : O.length ≤ 10) (h0 : 1 ≤ O.length) (hg : Good O) (w : World) (A1 : Option Addr) (c1 : Nat) (h1 : Kd.C k69 w A1 (LL O).length (LL O)) (hc1 : (LL O).length ≤ c1) (b : Nat) (hT : TI w b O.length (fun _ => 0)) :
    Calls Try.prog 39 #[.int .i64 O.length, .slice A1 (LL O).length c1, .slice (some ⟨b, 0, none⟩) O.length O.length] w fun e w' =>
      (∃ ga x, e = .returned (.tuple #[.agg #[.slice (some ⟨ga, 0, none⟩) (LL O).length (LL O).length, .int .i64 (-sumN (LL O).length x)], .int .i64 0]) ∧ TI w' ga (LL O).length x ∧ w.heap.size ≤ ga ∧ Sol O x) ∧ Below w.heap.size w w' := by
  have hC : Kd.C (Kd.int .i64) w (some ⟨b, 0, none⟩) (vecL O.length (fun _ => 0)).length (vecL O.length (fun _ => 0)) := TI_C hT _ (vecL_len _ _) (by omega) (fun i hi => (vecL_at (f := fun _ => 0) hi).symm)
  have h := solve_any w (O.length : Int) A1 c1 (LL O) h1 hc1 (some ⟨b, 0, none⟩) O.length (vecL O.length (fun _ => 0)) hC (by rw [vecL_len]; exact Nat.le_refl _)
  rw [vecL_len] at h
  refine h.mono ?_
  rintro e w' ⟨hpost, hb⟩
  refine ⟨?_, hb⟩
  have hN := LL_need hn h0 hg
  rcases hpost with ⟨h, _⟩ | ⟨h, _, y, hc⟩ | ⟨h, ga, x, p, rfl, hT, hga, hv, hf, hlx, hbal⟩
  · exact absurd hN h
  · have hok := netE_ok (LL_net hn h0 hg)
    exact (no_flow hok hc (y := fun _ => 0) (fun i hi => ⟨Int.le_refl _, (hok.cap i hi).1⟩) (fun v hv => by
      rw [Int.toNat_natCast] at hv
      rw [vecL_at (f := fun _ => 0) hv]
      exact sumN_zero fun i _ => by simp)).elim
  · refine ⟨ga, x, by rw [cost_x], hT, hga, hv, ⟨p, hf, hlx⟩, fun v hv => ?_⟩
    rw [hbal v (by rw [Int.toNat_natCast]; exact hv), vecL_at (f := fun _ => 0) hv]
def CompPost (O : Mt) (w : World) (e : Ending) (w' : World) : Prop :=
  ((∃ er, er ≠ 0 ∧ Deb O er ∧ e = .returned (.tuple #[.slice none 0 0, .int .i64 0, .int .i64 er])) ∨
   (Deb O 0 ∧ ∃ A c x, e = .returned (.tuple #[.slice A O.length c, .int .i64 (sumN (LL O).length x), .int .i64 0]) ∧ Kd.C kRow w' A O.length (leftL O x) ∧ O.length ≤ c ∧ Sol O x)) ∧ Below w.heap.size w w'
theorem wpList_append_rowN {ops : Array Oper} {rest : List Oper} {o : Oper} {a : Act} {Q : Exit → Act → World → Prop} {w : World} (hgd : o.guard = none) (s x : Operand)
    (ho : o.op = .call { callee := .builtin .append, args := #[s, x], argTypes := #[32, 32] }) (b : Nat) (hs : a.eval s = .slice (some ⟨b, 0, none⟩) 0 0) (hb : Blk w b #[] 3)
    (A : Option Addr) (l : List Int) (m c : Nat) (hm : l.length = m) (hx : a.eval x = .slice A m c) (hC : Kd.C (Kd.int .i64) w A l.length l) (h0 : 0 < m) (hl : m ≤ 1000)
    (hK : ∀ g cap w', TI w' g m (fun j => l.getD j 0) → m ≤ cap → b ≤ g → g < w'.heap.size → (g = b ∨ g = w.heap.size) → Fr (fun x => x = b) w w' → wpList Try.prog ops Q rest (a.put o.dst (.slice (some ⟨g, 0, none⟩) m cap)) w') :
    wpList Try.prog ops Q (o :: rest) a w := by
  subst hm
  exact wpList_append_row hgd s x ho b hs hb A l c hx hC h0 hl hK
set_option maxRecDepth 100000 in
set_option maxHeartbeats 8000000 in
theorem compress_any (w : World) (A : Option Addr) (c : Nat) (O : Mt) (hC : Kd.C kRow w A O.length O) (hc : O.length ≤ c) : Calls Try.prog 15 #[.slice A O.length c] w (CompPost O w) := by
  obtain ⟨er, hf, hd⟩ := debts_f O
  have HDB := Lib.hid (drawn0_below (accounts_debts.calls 300 A c O er w hC hc hf))
  have HC := Lib.hid hC
  have HD := Lib.hid hd
  clear hf hC hd hc
  go_enter Try.func15, Try.ntmps15
  go_wp2_with fail
  refine HDB.out.mono ?_
  rintro e w1 ⟨rfl, hb1⟩
  have HB1 := Lib.hid hb1
  clear hb1 HDB
  by_cases h0 : er = 0
  · subst h0
    have HN := Lib.hid HD.out.good.1
    have HG := Lib.hid HD.out.good.2
    have hmk := make_hdr w1 (n := O.length) (by have := HN.out; omega)
    have hB3 := below_am HB1.out (.cells (madeCells #[.slice none 0 0] O.length) 32 (0, 0))
    have hL : LM (w1.alloc (.cells (madeCells #[.slice none 0 0] O.length) 32 (0, 0))) w1.heap.size O.length 0 (fun _ => 0) (fun _ => 0) (Ex O) :=
      ⟨(TV.made w1 (.slice none 0 0) 32 O.length).congr fun i _ => by rw [if_neg (Nat.not_lt_zero i)], fun i hi => absurd hi (Nat.not_lt_zero _), fun i hi => absurd hi (Nat.not_lt_zero _), fun i j hi => absurd hi (Nat.not_lt_zero _)⟩
    have HL := Lib.hid hL
    have HB := Lib.hid hB3
    clear hL hB3
    go_wp2_with fail
    clear hmk
    generalize w1.alloc (.cells (madeCells #[.slice none 0 0] O.length) 32 (0, 0)) = w2 at *
    have HHB : Hid (w.heap.size ≤ w1.heap.size) := Lib.hid HB1.out.size
    generalize w1.heap.size = hb at *
    go_loopg [7, 26] O.length (fun k v7 v26 wr => ∃ (i : Nat) (r cp : Nat → Nat), v26 = .int .i64 i ∧ Hid (i + k = O.length) ∧ Hid (LM wr hb O.length i r cp (Ex O)) ∧ Hid (∀ j, j < i → w.heap.size ≤ r j) ∧ Hid (Kd.R k69 69 wr w.heap.size (fun b => w.heap.size ≤ b) v7 (arcsN O (i * O.length))) ∧ Hid (Below w.heap.size w wr))
    case atStart => exact ⟨0, fun _ => 0, fun _ => 0, rfl, Lib.hid (by omega), HL, Lib.hid (fun j hj => absurd hj (Nat.not_lt_zero _)), Lib.hid (by rw [Nat.zero_mul]; exact Kd.R_nil _ _ _ _ _), HB⟩
    case round =>
      clear HL HB
      obtain ⟨i, r, cp, rfl, HI, HL, HRB, HR, HB⟩ := hrel
      obtain ⟨wv, rfl⟩ : ∃ wv : World, wv = wr := ⟨_, rfl⟩
      by_cases hlt : i < O.length
      · have hi0 : (i : Int) < O.length := by omega
        have hiz : (0 : Int) ≤ i := by omega
        have hw : IntKind.i64.wrap ((i : Int) + 1) = i + 1 := IntWalk.i64_in _ (by have := HN.out; omega)
        obtain ⟨ad, Ai, ci, rfl, k0w, hci, hCi⟩ := at_L3 HC.out (i : Int) hiz hi0
        rw [rdL] at k0w hci hCi
        have k0 := (HB.out.cell (World.block_lt_of_cell? w _ k0w)).trans k0w
        clear k0w
        have hrl := (HG.out i hlt).1
        have HLT := Lib.hid hlt
        have HCI := Lib.hid hCi
        have HCL := Lib.hid hci
        rw [Int.toNat_natCast] at k0
        have HRL := Lib.hid hrl
        clear hlt hci hCi
        go_upto_region 9 with fail
        have hCa := Kd.C_below HCI.out (below_am HB.out (.cells #[] 3 (0, 0)))
        have HCA := Lib.hid hCa
        have HBK := Lib.hid (Blk.new wv #[] 3)
        have HBA := Lib.hid (below_alloc (Below.refl wv.heap.size wv) (.cells #[] 3 (0, 0)))
        clear hCa
        have HRLT : Hid (∀ j, j < i → r j < wv.heap.size) := Lib.hid (fun j hj => TV.lt (HL.out.row j hj))
        go_wp2_with (at_builtin; refine wpList_append_rowN rfl _ _ rfl wv.heap.size rfl HBK.out Ai (rowE O i) O.length ci HRL.out rfl HCA.out (by have := HLT.out; omega) (by have := HN.out; omega) ?_; intro g cap w8 hT hcap hbg hlt hat hF; have hB8 : Below wv.heap.size wv w8 := ((Fr.of_below HBA.out (fun b => b = wv.heap.size)).trans hF (fun _ h => .inl h)).to_below (Nat.le_refl _) (fun b hb => by omega); have HL8 := Lib.hid (HL.out.below hB8); have HR8 := Lib.hid (Kd.R_below HR.out hB8); have HB8 := Lib.hid (below_u HB.out hB8); have q0 : w8.cell? ⟨hb, i, none⟩ = some (.slice none 0 0) := (by have := TV.cell HL8.out.hd HLT.out; rwa [if_neg (Nat.lt_irrefl _)] at this); have q1 := TV.free HL8.out.hd i; have HT := Lib.hid hT; have HG8 : Hid (O.length ≤ cap ∧ wv.heap.size ≤ g) := Lib.hid ⟨hcap, hbg⟩; clear hT hcap hbg hlt hat hF hB8)
        have hL9 := HL8.out.next (g := g) (cp := cap) (f := fun j => (rowE O i).getD j 0) HLT.out HT.out HG8.out.1 (fun j hj => by have := HRLT.out j hj; have := HG8.out.2; omega) (fun k hk => rfl)
        obtain ⟨hcs, hhd, _⟩ := HL8.out.hd
        have hR9 := Kd.R_set HR8.out hhd (by decide) i (.slice (some ⟨g, 0, none⟩) O.length cap)
        have hB9 : Below w.heap.size w (w8.setCell ⟨hb, i, none⟩ (.slice (some ⟨g, 0, none⟩) O.length cap)) := ((Fr.of_below HB8.out (fun b => b = hb)).setCell (p := ⟨hb, i, none⟩) (.inl rfl) _).to_below (Nat.le_refl _) (fun b e => by have := HHB.out; omega)
        have hRB : ∀ j, j < i + 1 → w.heap.size ≤ (if j = i then g else r j) := fun j hj => by
          by_cases e : j = i
          · rw [if_pos e]; have := HG8.out.2; have := HB.out.size; omega
          · rw [if_neg e]; exact HRB.out j (by omega)
        generalize w8.setCell ⟨hb, i, none⟩ (.slice (some ⟨g, 0, none⟩) O.length cap) = w9 at *
        obtain ⟨r1, hr1⟩ : ∃ r1 : Nat → Nat, r1 = fun k => if k = i then g else r k := ⟨_, rfl⟩
        obtain ⟨cp1, hcp1⟩ : ∃ cp1 : Nat → Nat, cp1 = fun k => if k = i then cap else cp k := ⟨_, rfl⟩
        rw [← hr1, ← hcp1] at hL9
        have HRB1 : Hid (∀ j, j < i + 1 → w.heap.size ≤ r1 j) := Lib.hid (by rw [hr1]; exact hRB)
        have HL9 := Lib.hid hL9
        have HR9 := Lib.hid hR9
        have HB9 := Lib.hid hB9
        clear hL9 hR9 hB9 hRB hr1 hcp1 hhd q0 q1 HL8 HR8 HB8 HL HR HB HT HG8 HRLT HBK HBA HCA HRB k0
        go_loopg [7, 39] O.length (fun k v7 v39 wr => ∃ j : Nat, v39 = .int .i64 j ∧ Hid (j + k = O.length) ∧ Hid (LM wr hb O.length (i + 1) r1 cp1 (Ex O)) ∧ Hid (Kd.R k69 69 wr w.heap.size (fun b => w.heap.size ≤ b) v7 (arcsN O (i * O.length + j))) ∧ Hid (Below w.heap.size w wr))
        case atStart => exact ⟨0, rfl, Lib.hid (by omega), HL9, HR9, HB9⟩
        case round =>
          clear HL9 HR9 HB9
          obtain ⟨j, rfl, HJ, HL, HR, HB⟩ := hrel
          obtain ⟨wx, rfl⟩ : ∃ wx : World, wx = wr := ⟨_, rfl⟩
          by_cases hjl : j < O.length
          · have hj0 : (j : Int) < O.length := by omega
            have hjz : (0 : Int) ≤ j := by omega
            have hwj : IntKind.i64.wrap ((j : Int) + 1) = j + 1 := IntWalk.i64_in _ (by have := HN.out; omega)
            obtain ⟨bd, rfl, q0⟩ := Kd.at_int (Kd.C_below HCI.out HB.out) (j : Int) hjz (by rw [hrl]; exact hj0)
            rw [rdE, Int.toNat_natCast] at q0
            have HJL := Lib.hid hjl
            have HNX := Lib.hid (arcsN_next (O := O) HLT.out hjl)
            have HARC : Hid ((arcsN O (i * O.length + j)).length ≤ 100) := Lib.hid (by
              rw [arcsN_len]
              have h1 := rank_le (offD O.length) (i * O.length + j)
              have h2 := (at_grid HLT.out hjl).1
              have h3 : O.length * O.length ≤ 10 * 10 := Nat.mul_le_mul HN.out HN.out
              omega)
            clear hjl
            go_upto_region 13 with fail
            clear q0
            by_cases hij : i = j
            · have hc1 : ((i : Int) != j) = false := by simp [hij]
              have HE : Hid (arcsN O (i * O.length + (j + 1)) = arcsN O (i * O.length + j)) := Lib.hid (by
                have h := HNX.out
                rw [if_neg (fun g : i ≠ j => g hij), List.append_nil] at h
                rw [← h, Nat.add_assoc])
              clear hij
              go_wp2_with fail
              go_roundg (O.length - (j + 1))
              case measure => have := HJ.out; have := HJL.out; omega
              case rel => exact ⟨j + 1, by go_num, Lib.hid (by have := HJL.out; omega), HL, Lib.hid (by rw [HE.out]; exact HR.out), HB⟩
            · have hc1 : ((i : Int) != j) = true := by simp; omega
              have HE : Hid (arcsN O (i * O.length + (j + 1)) = arcsN O (i * O.length + j) ++ [⟨i, j, Ex O i j, -1⟩]) := Lib.hid (by
                have h := HNX.out
                rw [if_pos hij] at h
                rw [← h, Nat.add_assoc])
              clear hij
              have HTY : Hid (∀ b cs t, t ≠ 69 → Blk wx b cs t → some b ≠ u7.ownBlock) := Lib.hid (fun b cs t ht hb he => by
                obtain ⟨ds, h2⟩ := R_type HR.out he.symm
                exact blk_ne hb h2 ht rfl)
              go_wp2_with (at_builtin; refine Kd.R_append k69 (w0 := w) w.heap.size rfl _ _ 67 69 (.agg #[.int .i64 0, .int .i64 0, .int .i64 0, .int .i64 0]) 32 rfl Try.underlying67 info69 rfl (by decide) (by omega) u7 (arcsN O (i * O.length + j)) ⟨i, j, Ex O i j, -1⟩ [.int .i64 i, .int .i64 j, .int .i64 (Ex O i j), .int .i64 (-1)] (fun b => w.heap.size ≤ b) (fun _ => False) rfl rfl (k69_mkM _ _ _ ⟨i, j, Ex O i j, -1⟩) (fun _ hk => hk.elim) (fun b hb => Nat.le_trans HB.out.size hb) HR.out HB.out HB.out.size (by have := HARC.out; omega) ?_; intro v7 w7 hR7 hb7 hg7 hat7)
              have HR7 := Lib.hid hR7
              have HB7 := Lib.hid hb7
              have HL7 : Hid (LM w7 hb O.length (i + 1) r1 cp1 (Ex O)) := Lib.hid (HL.out.fr ((Fr.refl (fun k => some k = u7.ownBlock) wx).grown hg7 (fun k hk => .inl hk.symm)) (fun h => by
                obtain ⟨cs, hcs, _⟩ := HL.out.hd
                exact HTY.out _ _ _ (by decide) hcs h) (fun k hk h => by
                obtain ⟨cs, hcs, _⟩ := HL.out.row k hk
                exact HTY.out _ _ _ (by decide) hcs h))
              clear hR7 hb7 hg7 hat7
              go_wp2_with fail
              go_roundg (O.length - (j + 1))
              case measure => have := HJ.out; have := HJL.out; omega
              case rel => exact ⟨j + 1, by go_num, Lib.hid (by have := HJL.out; omega), HL7, Lib.hid (by rw [HE.out]; exact HR7.out), HB7⟩
          · have hnj : ¬ (j : Int) < O.length := by omega
            obtain rfl : j = O.length := by have := HJ.out; omega
            clear hjl HJ
            go_wp2_with fail
            go_roundg (O.length - (i + 1))
            case measure => have := HI.out; have := HLT.out; omega
            case rel => exact ⟨i + 1, r1, cp1, by go_num, Lib.hid (by have := HLT.out; omega), HL, HRB1, Lib.hid (by rw [Nat.succ_mul]; exact HR.out), HB⟩
      · have hni : ¬ (i : Int) < O.length := by omega
        obtain rfl : i = O.length := by have := HI.out; omega
        clear hlt HI
        by_cases hz : O.length = 0
        · have hz1 : ((O.length : Int) == 0) = true := by simp [hz]
          have HZ := Lib.hid hz
          have hm : (LL O).length = 0 := by rw [arcsN_len]; have := rank_le (offD O.length) (O.length * O.length); rw [hz] at this ⊢; omega
          have hcL : Kd.C kRow wv (some ⟨hb, 0, none⟩) O.length (leftL O (fun _ => 0)) := (HL.out.congr (Y := leftF O (fun _ => 0)) (fun i k hi _ => by omega)).rows (by omega)
          have hsol : Sol O (fun _ => 0) := ⟨fun t ht => by omega, ⟨fun _ => 0, fun s hs => by have := hs.1; omega, fun t ht => by omega⟩, fun v hv => by omega⟩
          have HSL := Lib.hid hsol
          have HCL := Lib.hid hcL
          have HM : Hid (sumN (LL O).length (fun _ => 0) = 0) := Lib.hid (sumN_zero fun _ _ => rfl)
          clear hz hm hcL hsol
          go_wp2_with fail
          go_ret3
          exact ⟨.inr ⟨HD.out, some ⟨hb, 0, none⟩, O.length, fun _ => 0, by rw [HM.out]; rfl, HCL.out, Nat.le_refl _, HSL.out⟩, HB.out⟩
        · have hz1 : ((O.length : Int) == 0) = false := beq_eq_false_iff_ne.2 (by omega)
          have hp : 1 ≤ O.length := by omega
          have HP := Lib.hid hp
          obtain ⟨A1, c1, rfl, hCA, hcA⟩ := R_C HR.out
          have hmk := make_int wv (n := O.length) (by have := HN.out; omega)
          have hal := below_alloc (Below.refl wv.heap.size wv) (.cells (madeCells #[.int .i64 0] O.length) 3 (0, 0))
          have hsv := solve_debts HN.out hp HG.out (wv.alloc (.cells (madeCells #[.int .i64 0] O.length) 3 (0, 0))) A1 c1 (Kd.C_below hCA hal) hcA wv.heap.size ((TV.made wv (.int .i64 0) 3 O.length).congr (fun i _ => rfl))
          have HSV := Lib.hid hsv
          have HL2 := Lib.hid (HL.out.below hal)
          have HR2 := Lib.hid (Kd.R_below HR.out hal)
          have HB2 := Lib.hid (below_u HB.out hal)
          have HRLT : Hid (∀ j, j < O.length → r j < wv.heap.size) := Lib.hid (fun j hj => TV.lt (HL.out.row j hj))
          clear hz hp hCA hcA hal hsv HL HR HB
          go_wp2_with (go_at_call 39; refine HSV.out.mono ?_; rintro e w5 ⟨⟨ga, x, rfl, hT, hga, hsol⟩, hb5⟩)
          have hsz := (below_alloc (Below.refl wv.heap.size wv) (.cells (madeCells #[.int .i64 0] O.length) 3 (0, 0))).size
          have hb6 := below_alloc (Below.refl w5.heap.size w5) (.cells #[.slice (some ⟨ga, 0, none⟩) (LL O).length (LL O).length, .int .i64 (-sumN (LL O).length x)] 71 (0, 0))
          have HL6 : Hid (LM (w5.alloc (.cells #[.slice (some ⟨ga, 0, none⟩) (LL O).length (LL O).length, .int .i64 (-sumN (LL O).length x)] 71 (0, 0))) hb O.length O.length r cp (leftX O x 0)) := Lib.hid (((HL2.out.below hb5).below hb6).congr fun i k _ _ => (leftX_zero O x i k).symm)
          have HR6 := Lib.hid (Kd.R_below (Kd.R_below HR2.out hb5) hb6)
          have HT6 := Lib.hid (TV.below hT hb6)
          have HF6 := Lib.hid (Blk.new w5 #[.slice (some ⟨ga, 0, none⟩) (LL O).length (LL O).length, .int .i64 (-sumN (LL O).length x)] 71)
          have HB6 := Lib.hid (below_u (below_u HB2.out hb5) hb6)
          have HRG : Hid (∀ j, j < O.length → r j ≠ ga) := Lib.hid (fun j hj => by have := HRLT.out j hj; omega)
          have HSOL := Lib.hid hsol
          have HSB := Lib.hid (sum_box HN.out HG.out hsol.1)
          clear hsz hb6 hb5 hT hga hsol HSV HL2 HR2 HB2 hmk HRLT hz1
          generalize w5.alloc (.cells #[.slice (some ⟨ga, 0, none⟩) (LL O).length (LL O).length, .int .i64 (-sumN (LL O).length x)] 71 (0, 0)) = w6 at *
          generalize w5.heap.size = fb at *
          go_loopg [75] (LL O).length (fun k v75 wr => ∃ t : Nat, v75 = .int .i64 t ∧ Hid (t + k = (LL O).length) ∧ Hid (LM wr hb O.length O.length r cp (leftX O x t)) ∧ Hid (Kd.R k69 69 wr w.heap.size (fun b => w.heap.size ≤ b) (.slice A1 (LL O).length c1) (LL O)) ∧ Hid (TI wr ga (LL O).length x) ∧ Hid (Blk wr fb #[.slice (some ⟨ga, 0, none⟩) (LL O).length (LL O).length, .int .i64 (-sumN (LL O).length x)] 71) ∧ Hid (Below w.heap.size w wr))
          case atStart => exact ⟨0, rfl, Lib.hid (by omega), HL6, HR6, HT6, HF6, HB6⟩
          case round =>
            clear HL6 HR6 HT6 HF6 HB6
            obtain ⟨t, rfl, HTI, HL, HR, HT, HF, HB⟩ := hrel
            obtain ⟨wx, rfl⟩ : ∃ wx : World, wx = wr := ⟨_, rfl⟩
            by_cases htl : t < (LL O).length
            · have ht0 : (t : Int) < (LL O).length := by omega
              have htz : (0 : Int) ≤ t := by omega
              have hwt : IntKind.i64.wrap ((t : Int) + 1) = t + 1 := IntWalk.i64_in _ (by have := LL_len O HN.out; omega)
              obtain ⟨hi, hk, hpr, hne, hrk⟩ := pr_ok htl
              obtain ⟨_, _, hCA⟩ := Kd.R_reads' HR.out
              obtain ⟨ad, rfl, k0, k1, k2, k3⟩ := arcs_of hCA (t : Int) htz ht0
              rw [Int.toNat_natCast, arc_at htl] at k0 k1 k2 k3
              have HNX : Hid (∀ a b, a < O.length → b < O.length → leftX O x (t + 1) a b = if a = prO O t / O.length ∧ b = prO O t % O.length then leftX O x t a b - x t else leftX O x t a b) := Lib.hid (fun a b ha hb => leftX_next htl ha hb)
              have hv := valid_ex HSOL.out.1 hi hk hne
              rw [hpr, hrk] at hv
              have hex := HG.out.ex hi hk
              have hlx : leftX O x t (prO O t / O.length) (prO O t % O.length) = Ex O (prO O t / O.length) (prO O t % O.length) := by
                unfold leftX; rw [hpr, hrk, if_neg (fun h => Nat.lt_irrefl _ h.2), Int.sub_zero]
              have e0 : (arcO O (prO O t)).f0 = ((prO O t / O.length : Nat) : Int) := rfl
              have e1 : (arcO O (prO O t)).f1 = ((prO O t % O.length : Nat) : Int) := rfl
              have e2 : (arcO O (prO O t)).f2 = Ex O (prO O t / O.length) (prO O t % O.length) := rfl
              have e3 : (arcO O (prO O t)).f3 = -1 := rfl
              rw [e0] at k0; rw [e1] at k1; rw [e2] at k2; rw [e3] at k3
              clear e0 e1 e2 e3 hpr hrk hCA
              generalize prO O t / O.length = i at *
              generalize prO O t % O.length = k at *
              have hiz : (0 : Int) ≤ i := by omega
              have hkz : (0 : Int) ≤ k := by omega
              have hi0 : (i : Int) < O.length := by omega
              have hk0 : (k : Int) < O.length := by omega
              have hc0 := HL.out.cell hi hk
              rw [hlx] at hc0
              have hwl : IntKind.i64.wrap (Ex O i k - x t) = Ex O i k - x t := IntWalk.i64_in _ (by omega)
              have hal := below_alloc (Below.refl wx.heap.size wx) (.cells #[.int .i64 i, .int .i64 k, .int .i64 (Ex O i k), .int .i64 (-1)] 69 (0, 0))
              have HA3 := Lib.hid (Blk.new wx #[.int .i64 i, .int .i64 k, .int .i64 (Ex O i k), .int .i64 (-1)] 69)
              have HL3 := Lib.hid (HL.out.below hal)
              have HR3 := Lib.hid (Kd.R_below HR.out hal)
              have HT3 := Lib.hid (TV.below HT.out hal)
              have HF3 := Lib.hid (HF.out.fr (Fr.of_below hal (fun _ => False)) (fun a => a))
              have HB3 := Lib.hid (below_u HB.out hal)
              have HIK := Lib.hid (And.intro hi hk)
              have HLX := Lib.hid hlx
              clear hal hc0 hlx hv hex hne HL HR HT HF HB hi hk
              have HTL := Lib.hid htl
              clear htl
              go_upto_region 25 with fail
              clear k0 k1 k2 k3
              generalize wx.alloc (.cells #[.int .i64 i, .int .i64 k, .int .i64 (Ex O i k), .int .i64 (-1)] 69 (0, 0)) = w7 at *
              generalize wx.heap.size = ab at *
              have hd := (Fr.refl (fun _ => False) w7).drew
              have hA4 := HA3.out.fr hd (fun a => a)
              have hL4 := HL3.out.fr hd (fun a => a) (fun _ _ a => a)
              have hT4 := TV.fr HT3.out hd (fun a => a)
              have hF4 := HF3.out.fr hd (fun a => a)
              have hs := ((Fr.refl (fun b => b = r i) w7).setCell (p := ⟨r i, k, none⟩) (.inl rfl) (.int .i64 (Ex O i k - x t))).drew
              have hs0 := (Fr.refl (fun _ => False) (w7.setCell ⟨r i, k, none⟩ (.int .i64 (Ex O i k - x t)))).drew
              obtain ⟨rs, hrs, _⟩ := HL3.out.row i HIK.out.1
              have nA : ab ≠ r i := blk_ne HA3.out hrs (by decide)
              have nF : fb ≠ r i := blk_ne HF3.out hrs (by decide)
              have nG : ga ≠ r i := fun e => HRG.out i HIK.out.1 e.symm
              have hL5 := (HL3.out.set HIK.out.1 k (Ex O i k - x t)).fr hs0 (fun a => a) (fun _ _ a => a)
              have hT5 := TV.fr HT3.out hs nG
              have hF5 := HF3.out.fr hs nF
              have hA5 := HA3.out.fr hs nA
              have hR5 := Kd.R_drew (Kd.R_set HR3.out hrs (by decide) k (.int .i64 (Ex O i k - x t)))
              have hB5 : Below w.heap.size w ((w7.setCell ⟨r i, k, none⟩ (.int .i64 (Ex O i k - x t))).drew) := ((((Fr.of_below HB3.out (fun b => b = r i)).setCell (p := ⟨r i, k, none⟩) (.inl rfl) _).drew).to_below (Nat.le_refl _) (fun b e => by have := HRB.out i HIK.out.1; omega))
              have s0 : w7.drew.cell? ⟨ab, 0, none⟩ = some (.int .i64 i) := Blk.cell hA4 0 rfl
              have s1 : w7.drew.cell? ⟨ab, 1, none⟩ = some (.int .i64 k) := Blk.cell hA4 1 rfl
              have s2 : w7.drew.cell? ⟨hb, i, none⟩ = some (.slice (some ⟨r i, 0, none⟩) O.length (cp i)) := hL4.hcell HIK.out.1 HIK.out.1
              have s3 : w7.drew.cell? ⟨fb, 0, none⟩ = some (.slice (some ⟨ga, 0, none⟩) (LL O).length (LL O).length) := Blk.cell hF4 0 rfl
              have s4 : w7.drew.cell? ⟨ga, t, none⟩ = some (.int .i64 (x t)) := TV.cell hT4 HTL.out
              have q0 : w7.drew.cell? ⟨r i, k, none⟩ = some (.int .i64 (Ex O i k)) := by have := hL4.cell HIK.out.1 HIK.out.2; rwa [HLX.out] at this
              have q1 := hL4.free HIK.out.1 k
              have HL5 : Hid (LM ((w7.setCell ⟨r i, k, none⟩ (.int .i64 (Ex O i k - x t))).drew) hb O.length O.length r cp (leftX O x (t + 1))) := Lib.hid (hL5.congr fun a b ha hb' => by
                rw [HNX.out a b ha hb']
                by_cases e : a = i ∧ b = k
                · rw [if_pos e, if_pos e, e.1, e.2, HLX.out]
                · rw [if_neg e, if_neg e])
              have HT5 := Lib.hid hT5
              have HF5 := Lib.hid hF5
              have HR5 := Lib.hid hR5
              have HB5 := Lib.hid hB5
              clear hd hA4 hL4 hT4 hF4 hs hs0 hrs nA nF nG hL5 hT5 hF5 hA5 hR5 hB5 HA3 HL3 HR3 HT3 HF3 HB3 HNX
              refine calm ?_
              go_region_law (first | fail)
              all_goals
                simp only [Calm]
                clear s0 s1 s2 s3 s4 q0 q1
                generalize (w7.setCell ⟨r i, k, none⟩ (.int .i64 (Ex O i k - x t))).drew = w8 at *
                go_wp2_with fail
                go_roundg ((LL O).length - (t + 1))
                case measure => have := HTI.out; have := HTL.out; omega
                case rel => exact ⟨t + 1, by go_num, Lib.hid (by have := HTL.out; omega), HL5, HR5, HT5, HF5, HB5⟩
            · have hnt : ¬ (t : Int) < (LL O).length := by omega
              obtain rfl : t = (LL O).length := by have := HTI.out; omega
              clear htl HTI
              have f1 := Blk.cell HF.out 1 rfl
              have hwn : wrap64 (sumN (LL O).length x) = sumN (LL O).length x := w64k (by have := HSB.out; omega)
              have HCL : Hid (Kd.C kRow wx (some ⟨hb, 0, none⟩) O.length (leftL O x)) := Lib.hid (HL.out.rows (by have := HN.out; omega))
              go_upto_region 27 with fail
              go_quiet (fail)
              go_wp2_with fail
              go_ret3
              exact ⟨.inr ⟨HD.out, some ⟨hb, 0, none⟩, O.length, x, rfl, Kd.C_below HCL.out ((Fr.refl (fun _ => False) wx).drewN nq).none_below, Nat.le_refl _, HSOL.out⟩, by first | exact pw_below_drewN HB.out _ | (apply pw_below_drewN; exact HB.out)⟩
  · have hne : (er != 0) = true := by simpa using h0
    go_wp2_with fail
    go_ret3
    exact ⟨.inl ⟨er, h0, HD.out, rfl⟩, HB1.out⟩
end Go.Proofs.Ytcobihdjcdefmaa
namespace Go.Proofs.Ytcobihdjcdefmaa
open PAccountsCompress
open Go.RowKit Go.Proofs.YtcobihdjcdefmaaW.PrintWords
end Go.Proofs.Ytcobihdjcdefmaa
namespace Go.Proofs.Ytcobihdjcdefmaa
open PAccountsCompress
open Go.RowKit Go.Proofs.YtcobihdjcdefmaaW.PrintWords
section
variable {m : Nat} {A : Nat → Ar} {x y : Nat → Int}
end
section
variable {P : Program} {ops : Array Oper} {o : Oper} {a : Act} {Q : Exit → Act → World → Prop} {Kc : Act → World → Prop} {α : Type}
end
/-- What was cancelled, in the order of the arcs. -/
def goneN (O : Mt) (x : Nat → Int) (a : Nat) : List Int := (pairsL (offD O.length) a).map (fun b => x (rank (offD O.length) b))
end Go.Proofs.Ytcobihdjcdefmaa
namespace Go.Proofs.Ytcobihdjcdefmaa
open PAccountsCompress
open Go.RowKit Go.Proofs.YtcobihdjcdefmaaW.PrintWords
theorem nets_any {O : Mt} {e : Int} {xs : List Int} (hf : accounts_Nets.f 300 O = some (xs, e)) (w : World) (A : Option Addr) (c : Nat) (hC : Kd.C kRow w A O.length O) (hc : O.length ≤ c) :
    Calls Try.prog 13 #[.slice A O.length c] w fun e' w' => (∃ B d, e' = .returned (.tuple #[.slice B xs.length d, .int .i64 e]) ∧ Kd.C (Kd.int .i64) w' B xs.length xs) ∧ Below w.heap.size w w' := by
  refine (accounts_Nets.calls 300 A c O xs e w hC hc hf).mono ?_
  rintro e' w' ⟨v, rfl, hR, hb⟩
  obtain ⟨B, d, rfl, hC2, _⟩ := R_C hR
  exact ⟨⟨B, d, rfl, hC2⟩, hb⟩
theorem sum_any {O : Mt} {n : Nat} (hnn : O.length = n) (hg : Good O) (hn : n ≤ 10) (w : World) (A : Option Addr) (c : Nat) (hC : Kd.C kRow w A n O) (hc : n ≤ c) :
    Calls Try.prog 18 #[.slice A n c] w fun e w' => e = .returned (.int .i64 (totF O)) ∧ Below w.heap.size w w' := by
  subst hnn
  exact drawn0_below (merinolaw07_sum.calls 300 A c O (totF O) w hC hc (sum_f hg hn))
/-- What Compress answers. -/
def CompIs (O : Mt) (w : World) (e : Int) (V : Value) (g : Int) : Prop :=
  (e ≠ 0 ∧ V = .slice none 0 0 ∧ g = 0) ∨ (e = 0 ∧ ∃ B d x, V = .slice B O.length d ∧ g = sumN (LL O).length x ∧ Kd.C kRow w B O.length (leftL O x) ∧ O.length ≤ d ∧ Sol O x)
theorem CompIs.below {O : Mt} {w w' : World} {e : Int} {V : Value} {g : Int} (h : CompIs O w e V g) (hb : Below w.heap.size w w') : CompIs O w' e V g := by
  rcases h with h | ⟨h, B, d, x, h1, h2, h3, h4⟩
  · exact .inl h
  · exact .inr ⟨h, B, d, x, h1, h2, Kd.C_below h3 hb, h4⟩
theorem compress_is {O : Mt} {e : Int} (hd : Deb O e) (w : World) (A : Option Addr) (c : Nat) (hC : Kd.C kRow w A O.length O) (hc : O.length ≤ c) :
    Calls Try.prog 15 #[.slice A O.length c] w fun e' w' => (∃ V g, e' = .returned (.tuple #[V, .int .i64 g, .int .i64 e]) ∧ CompIs O w' e V g) ∧ Below w.heap.size w w' := by
  refine (compress_any w A c O hC hc).mono ?_
  rintro e' w' ⟨h, hb⟩
  refine ⟨?_, hb⟩
  rcases h with ⟨er, h0, hd2, rfl⟩ | ⟨hd2, B, d, x, rfl, h2, h3, h4⟩
  · rw [hd.eq hd2]
    exact ⟨_, _, rfl, .inl ⟨h0, rfl, rfl⟩⟩
  · rw [hd.eq hd2]
    exact ⟨_, _, rfl, .inr ⟨rfl, B, d, x, rfl, rfl, h2, h3, h4⟩⟩
end Go.Proofs.Ytcobihdjcdefmaa
