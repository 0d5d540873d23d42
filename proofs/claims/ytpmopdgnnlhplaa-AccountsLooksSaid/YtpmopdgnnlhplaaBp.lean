/-
  Balances and statements in plain Lean: the balances that are not 0, in the order of their names, sum to 0; the rows of a statement lead from its first balance to its last.
-/
import Derived.Test.YtpmopdgnnlhplaaLe
import Derived.Test.YtpmopdgnnlhplaaSm
import Derived.Sort.KeysCollected
namespace Go.Proofs.Ytpmopdgnnlhplaa
open Go.RowKit Go.Proofs.YtpmopdgnnlhplaaW.PrintWords
/-! ### Names in order -/
def bsL (a : ByteArray) : List UInt8 := a.data.toList
def bsA (l : List UInt8) : ByteArray := ⟨l.toArray⟩
theorem bsA_L (a : ByteArray) : bsA (bsL a) = a := rfl
theorem bsL_A (l : List UInt8) : bsL (bsA l) = l := by simp [bsL, bsA]
theorem bsL_inj {a b : ByteArray} (h : bsL a = bsL b) : a = b := by rw [← bsA_L a, h, bsA_L]
def sN (names : List ByteArray) : List ByteArray := ((names.map bsL).mergeSort leB).map bsA
theorem sN_of_perm {l m : List ByteArray} (h : l.Perm m) : sN l = sN m := by unfold sN; rw [mergeSort_of_perm (h.map bsL)]
theorem sN_perm (l : List ByteArray) : (sN l).Perm l := by
  have h := (List.mergeSort_perm (l.map bsL) leB).map bsA
  rw [List.map_map] at h
  have e : bsA ∘ bsL = id := rfl
  rw [e, List.map_id] at h
  exact h
theorem sN_sorted {l : List ByteArray} (hn : l.Nodup) : (sN l).Pairwise fun a b => bsL a < bsL b := by
  have tr : ∀ a b c : List UInt8, leB a b = true → leB b c = true → leB a c = true := fun a b c h1 h2 => by simp only [leB, decide_eq_true_eq] at *; exact List.le_trans h1 h2
  have tt : ∀ a b : List UInt8, (leB a b || leB b a) = true := fun a b => by simp only [leB, Bool.or_eq_true, decide_eq_true_eq]; exact List.le_total a b
  have h1 := List.pairwise_mergeSort tr tt (l.map bsL)
  have h2 : (sN l).Nodup := (sN_perm l).nodup_iff.2 hn
  unfold sN at h2 ⊢
  have h3 : ((l.map bsL).mergeSort leB).Nodup := (List.pairwise_map.1 h2).imp fun h e => h (congrArg bsA e)
  refine List.pairwise_map.2 ((h1.and h3).imp fun {a b} h => ?_)
  rw [bsL_A, bsL_A]
  have h4 : a ≤ b := of_decide_eq_true h.1
  exact Std.lt_of_le_of_ne h4 h.2
/-! ### Balances that are not 0 -/
def triF (d : Int) (recs : List Rc) (a : ByteArray) : Option Pst := if uptoB d recs a = 0 then none else some ⟨a, uptoB d recs a⟩
def triL (s : St) (d : Int) : List Pst := (sN s.n).filterMap (triF d s.r)
theorem triF_some {d : Int} {recs : List Rc} {a : ByteArray} {p : Pst} (h : triF d recs a = some p) : p.a = a ∧ p.c = uptoB d recs a ∧ p.c ≠ 0 := by
  unfold triF at h
  by_cases h0 : uptoB d recs a = 0
  · rw [if_pos h0] at h; cases h
  · rw [if_neg h0] at h
    cases h
    exact ⟨rfl, rfl, h0⟩
theorem triL_mem {s : St} {d : Int} {p : Pst} (h : p ∈ triL s d) : p.a ∈ s.n ∧ p.c = uptoB d s.r p.a ∧ p.c ≠ 0 := by
  obtain ⟨a, ha, hp⟩ := List.mem_filterMap.1 h
  obtain ⟨rfl, h2, h3⟩ := triF_some hp
  exact ⟨(sN_perm _).mem_iff.1 ha, h2, h3⟩
theorem triL_len (s : St) (d : Int) : (triL s d).length ≤ s.n.length := by
  have := List.length_filterMap_le (triF d s.r) (sN s.n)
  rw [(sN_perm s.n).length_eq] at this
  exact this
theorem triL_sorted {s : St} (hn : s.n.Nodup) (d : Int) : (triL s d).Pairwise fun p q => bsL p.a < bsL q.a :=
  List.Pairwise.filterMap (triF d s.r) (fun a b hab p hp q hq => by rw [(triF_some hp).1, (triF_some hq).1]; exact hab) (sN_sorted hn)
def sumC : List Pst → Int := total
def sumB (l : List ByteArray) (f : ByteArray → Int) : Int := (l.map f).foldr (· + ·) 0
theorem sumB_perm {l m : List ByteArray} (h : l.Perm m) (f : ByteArray → Int) : sumB l f = sumB m f := by
  induction h with
  | nil => rfl
  | cons x _ ih => simp only [sumB, List.map_cons, List.foldr_cons] at ih ⊢; rw [ih]
  | swap x y l => simp only [sumB, List.map_cons, List.foldr_cons]; omega
  | trans _ _ h1 h2 => exact h1.trans h2
theorem sumB_add (l : List ByteArray) (f g : ByteArray → Int) : sumB l (fun a => f a + g a) = sumB l f + sumB l g := by
  induction l with
  | nil => rfl
  | cons x l ih => simp only [sumB, List.map_cons, List.foldr_cons] at ih ⊢; omega
theorem sumB_zero (l : List ByteArray) : sumB l (fun _ => 0) = 0 := by
  induction l with
  | nil => rfl
  | cons x l ih => simp only [sumB, List.map_cons, List.foldr_cons] at ih ⊢; omega
theorem sumB_one {l : List ByteArray} (hn : l.Nodup) {a : ByteArray} (ha : a ∈ l) (c : Int) : sumB l (fun n => if a = n then c else 0) = c := by
  induction l with
  | nil => cases ha
  | cons x l ih =>
    rw [List.nodup_cons] at hn
    simp only [sumB, List.map_cons, List.foldr_cons]
    by_cases hx : a = x
    · subst hx
      have h0 : sumB l (fun n => if a = n then c else 0) = 0 := by
        have : sumB l (fun n => if a = n then c else 0) = sumB l (fun _ => 0) := by
          unfold sumB
          congr 1
          exact List.map_congr_left fun n hm => if_neg (fun (e : a = n) => hn.1 (by rw [e]; exact hm))
        rw [this, sumB_zero]
      unfold sumB at h0
      rw [h0, if_pos rfl]; omega
    · have hm : a ∈ l := (List.mem_cons.1 ha).resolve_left hx
      have := ih hn.2 hm
      unfold sumB at this
      rw [this, if_neg hx]; omega
theorem sumB_part {l : List ByteArray} (hn : l.Nodup) {ps : List Pst} (h : ∀ p ∈ ps, p.a ∈ l) : sumB l (part ps) = total ps := by
  induction ps with
  | nil => exact sumB_zero l
  | cons p r ih =>
    have e : part (p :: r) = fun n => (if p.a = n then p.c else 0) + part r n := by funext n; rfl
    rw [e, sumB_add, sumB_one hn (h p (by simp)), ih fun q hq => h q (by simp [hq])]
    rfl
theorem sumB_upto {l : List ByteArray} (hn : l.Nodup) {recs : List Rc} (h : ∀ r ∈ recs, (∀ p ∈ r.ps, p.a ∈ l) ∧ total r.ps = 0) (d : Int) : sumB l (uptoB d recs) = 0 := by
  induction recs with
  | nil => exact sumB_zero l
  | cons x r ih =>
    have e : uptoB d (x :: r) = fun n => (if x.day ≤ d then part x.ps n else 0) + uptoB d r n := by funext n; rfl
    rw [e, sumB_add, ih fun q hq => h q (by simp [hq])]
    obtain ⟨h1, h2⟩ := h x (by simp)
    by_cases hd : x.day ≤ d
    · have : (fun n => if x.day ≤ d then part x.ps n else 0) = part x.ps := by funext n; rw [if_pos hd]
      rw [this, sumB_part hn h1, h2]; rfl
    · have : (fun n => if x.day ≤ d then part x.ps n else 0) = fun _ => 0 := by funext n; rw [if_neg hd]
      rw [this, sumB_zero]; rfl
theorem total_tri (d : Int) (recs : List Rc) (l : List ByteArray) : total (l.filterMap (triF d recs)) = sumB l (uptoB d recs) := by
  induction l with
  | nil => rfl
  | cons a l ih =>
    simp only [sumB, List.map_cons, List.foldr_cons] at ih ⊢
    by_cases h0 : uptoB d recs a = 0
    · have : triF d recs a = none := if_pos h0
      rw [List.filterMap_cons_none this, ih, h0]; omega
    · have : triF d recs a = some ⟨a, uptoB d recs a⟩ := if_neg h0
      rw [List.filterMap_cons_some this]
      show uptoB d recs a + total _ = _
      rw [ih]
theorem triL_total {s : St} (hn : s.n.Nodup) (h : ∀ r ∈ s.r, (∀ p ∈ r.ps, p.a ∈ s.n) ∧ total r.ps = 0) (d : Int) : total (triL s d) = 0 := by
  unfold triL
  rw [total_tri, sumB_perm (sN_perm s.n), sumB_upto hn h]
/-! ### What acts leave: totals of 0, few records -/
def TotOk (s : St) : Prop := ∀ r ∈ s.r, total r.ps = 0
theorem total_neg (ps : List Pst) : total (ps.map negP) = -total ps := by
  induction ps with
  | nil => rfl
  | cons x r ih =>
    simp only [List.map_cons, total, ih]
    show -x.c + _ = _
    omega
theorem stS_tot {s : St} (h : TotOk s) (a : Ac) : TotOk (stS s a) ∧ (stS s a).r.length ≤ s.r.length + 1 ∧ (stS s a).n.length ≤ s.n.length + 1 := by
  unfold stS
  split
  · unfold opS
    split
    · exact ⟨h, Nat.le_succ _, by simp⟩
    · exact ⟨h, Nat.le_succ _, Nat.le_succ _⟩
  · split
    · unfold poS
      split
      · next h0 =>
        obtain ⟨_, _, _, h4, _⟩ := postErr_0 h0
        refine ⟨fun r hr => ?_, by simp, Nat.le_succ _⟩
        rcases List.mem_append.1 hr with h1 | h1
        · exact h r h1
        · rw [List.mem_singleton] at h1
          rw [h1]
          exact h4
      · exact ⟨h, Nat.le_succ _, Nat.le_succ _⟩
    · unfold reS
      split
      · next h0 =>
        obtain ⟨_, _, _, _, x, h5, _⟩ := revErr_0 h0
        refine ⟨fun r hr => ?_, by simp, Nat.le_succ _⟩
        rcases List.mem_append.1 hr with h1 | h1
        · exact h r h1
        · rw [List.mem_singleton] at h1
          rw [h1]
          show total (revPs s.r a.no) = 0
          unfold revPs
          rw [h5]
          show total (x.ps.map negP) = 0
          rw [total_neg, h x (List.mem_of_getElem? h5)]
          rfl
      · exact ⟨h, Nat.le_succ _, Nat.le_succ _⟩
theorem runS_tot (l : List Ac) : ∀ {s : St}, TotOk s → TotOk (runS l s) ∧ (runS l s).r.length ≤ s.r.length + l.length ∧ (runS l s).n.length ≤ s.n.length + l.length := by
  induction l with
  | nil => intro s h; exact ⟨h, Nat.le_refl _, Nat.le_refl _⟩
  | cons a l ih =>
    intro s h
    obtain ⟨h1, h2, h3⟩ := stS_tot h a
    obtain ⟨h4, h5, h6⟩ := ih h1
    exact ⟨h4, by simp only [List.length_cons, runS, List.foldl_cons] at h5 ⊢; omega, by simp only [List.length_cons, runS, List.foldl_cons] at h6 ⊢; omega⟩
theorem run_tot (l : List Ac) : TotOk (runS l ⟨[], []⟩) ∧ (runS l ⟨[], []⟩).r.length ≤ l.length ∧ (runS l ⟨[], []⟩).n.length ≤ l.length := by
  obtain ⟨h1, h2, h3⟩ := runS_tot l (s := ⟨[], []⟩) (fun r hr => by cases hr)
  exact ⟨h1, by simpa using h2, by simpa using h3⟩
/-! ### The rows of a statement -/
/-- Rows that lead from a balance to another one. -/
def OkRows (f t : Int) : Int → Int → List Rw → Int → Prop
  | now, _, [], e => now = e
  | now, last, r :: rs, e => (now + r.c = r.bal ∧ last < r.no ∧ f ≤ r.day ∧ r.day ≤ t) ∧ OkRows f t r.bal r.no rs e
theorem nos_of : ∀ (l : List Rc) (b : Int) (k : Nat), verC b k l = k + l.length → (∀ r ∈ l, (k : Int) < r.no) ∧ l.Pairwise fun x y => x.no < y.no
  | [], _, _, _ => ⟨fun _ h => (by cases h), List.Pairwise.nil⟩
  | r :: rest, b, k, h => by
    rw [verC_cons] at h
    by_cases hc : r.no = k + 1 ∧ r.sum = dig b r.no r.day r.rev r.ps
    · rw [if_pos hc] at h
      obtain ⟨h1, h2⟩ := nos_of rest r.sum (k + 1) (by rw [h, List.length_cons]; omega)
      refine ⟨fun x hx => ?_, List.pairwise_cons.2 ⟨fun x hx => ?_, h2⟩⟩
      · rcases List.mem_cons.1 hx with rfl | hx
        · rw [hc.1]; omega
        · have := h1 x hx; omega
      · have := h1 x hx; rw [hc.1]; omega
    · rw [if_neg hc] at h
      simp at h
theorem rowsOf_cons (a : ByteArray) (r : Rc) (rs : List Rc) (b : Int) : rowsOf a (r :: rs) b = if inn r.ps a then ⟨r.no, r.day, part r.ps a, b + part r.ps a⟩ :: rowsOf a rs (b + part r.ps a) else rowsOf a rs b := rfl
theorem mem_rowsOf {a : ByteArray} {recs : List Rc} : ∀ {b : Int} {r : Rw}, r ∈ rowsOf a recs b → ∃ x ∈ recs, r.day = x.day ∧ r.no = x.no := by
  induction recs with
  | nil => intro b r h; cases h
  | cons y rs ih =>
    intro b r h
    rw [rowsOf_cons] at h
    split at h
    · rcases List.mem_cons.1 h with rfl | h
      · exact ⟨y, by simp, rfl, rfl⟩
      · obtain ⟨x, hx, h1⟩ := ih h
        exact ⟨x, by simp [hx], h1⟩
    · obtain ⟨x, hx, h1⟩ := ih h
      exact ⟨x, by simp [hx], h1⟩
theorem ok_rows (a : ByteArray) {f t : Int} (hft : f ≤ t) : ∀ {recs : List Rc}, Sorted recs → recs.Pairwise (fun x y => x.no < y.no) → ∀ (b last : Int), (∀ r ∈ recs, last < r.no) →
    OkRows f t (b + uptoB (f - 1) recs a) last ((rowsOf a recs b).filter (inDay f t)) (b + uptoB t recs a)
  | [], _, _, b, last, _ => by simp [rowsOf, uptoB, OkRows]
  | r :: rs, hs, hp, b, last, hl => by
    obtain ⟨hs1, hs2⟩ := List.pairwise_cons.1 hs
    obtain ⟨hp1, hp2⟩ := List.pairwise_cons.1 hp
    by_cases h1 : r.day ≤ f - 1
    · have e1 : uptoB (f - 1) (r :: rs) a = part r.ps a + uptoB (f - 1) rs a := by show (if r.day ≤ f - 1 then _ else _) + _ = _; rw [if_pos h1]
      have e2 : uptoB t (r :: rs) a = part r.ps a + uptoB t rs a := by show (if r.day ≤ t then _ else _) + _ = _; rw [if_pos (by omega)]
      have e3 : (rowsOf a (r :: rs) b).filter (inDay f t) = (rowsOf a rs (b + part r.ps a)).filter (inDay f t) := by
        rw [rowsOf_cons]
        by_cases hi : inn r.ps a = true
        · rw [if_pos hi, List.filter_cons_of_neg]
          unfold inDay
          intro h
          have := of_decide_eq_true h
          simp only at this
          omega
        · rw [if_neg hi, part_not_inn (by simpa using hi), Int.add_zero]
      rw [e1, e2, e3, ← Int.add_assoc, ← Int.add_assoc]
      exact ok_rows a hft hs2 hp2 _ last fun x hx => hl x (by simp [hx])
    · by_cases h2 : r.day ≤ t
      · have e0 : uptoB (f - 1) rs a = 0 := uptoB_small (fun x hx => by have := hs1 x hx; omega) a
        have e1 : uptoB (f - 1) (r :: rs) a = 0 := by show (if r.day ≤ f - 1 then _ else _) + _ = _; rw [if_neg h1, e0]; rfl
        have e2 : uptoB t (r :: rs) a = part r.ps a + uptoB t rs a := by show (if r.day ≤ t then _ else _) + _ = _; rw [if_pos h2]
        by_cases hi : inn r.ps a = true
        · have e3 : (rowsOf a (r :: rs) b).filter (inDay f t) = ⟨r.no, r.day, part r.ps a, b + part r.ps a⟩ :: (rowsOf a rs (b + part r.ps a)).filter (inDay f t) := by
            rw [rowsOf_cons, if_pos hi, List.filter_cons_of_pos]
            exact decide_eq_true ⟨by show f ≤ r.day; omega, h2⟩
          rw [e1, e2, e3, Int.add_zero]
          refine ⟨⟨rfl, hl r (by simp), by show f ≤ r.day; omega, h2⟩, ?_⟩
          have := ok_rows a hft hs2 hp2 (b + part r.ps a) r.no hp1
          rw [e0, Int.add_zero, Int.add_assoc] at this
          rw [← Int.add_assoc] at this ⊢
          exact this
        · have e3 : (rowsOf a (r :: rs) b).filter (inDay f t) = (rowsOf a rs b).filter (inDay f t) := by
            rw [rowsOf_cons, if_neg hi]
          have e4 := part_not_inn (by simpa using hi)
          rw [e1, e2, e3, e4, Int.zero_add]
          have := ok_rows a hft hs2 hp2 b last fun x hx => hl x (by simp [hx])
          rw [e0] at this
          exact this
      · have e1 : uptoB (f - 1) (r :: rs) a = 0 := uptoB_small (fun x hx => by
          rcases List.mem_cons.1 hx with rfl | hx
          · omega
          · have := hs1 x hx; omega) a
        have e2 : uptoB t (r :: rs) a = 0 := uptoB_small (fun x hx => by
          rcases List.mem_cons.1 hx with rfl | hx
          · omega
          · have := hs1 x hx; omega) a
        have e3 : (rowsOf a (r :: rs) b).filter (inDay f t) = [] := by
          rw [List.filter_eq_nil_iff]
          intro y hy h
          obtain ⟨x, hx, hd, _⟩ := mem_rowsOf hy
          have := of_decide_eq_true h
          rcases List.mem_cons.1 hx with rfl | hx
          · omega
          · have := hs1 x hx; omega
        rw [e1, e2, e3]
        rfl
end Go.Proofs.Ytpmopdgnnlhplaa
