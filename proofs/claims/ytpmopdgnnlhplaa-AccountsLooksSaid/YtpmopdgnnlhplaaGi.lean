/-
  What every ledger keeps, in plain Lean: records that follow each other, days that do not fall, balances within the limit.
-/
import Derived.Test.YtpmopdgnnlhplaaPo
import Derived.Test.YtpmopdgnnlhplaaVw
import Derived.Test.YtpmopdgnnlhplaaFv
namespace Go.Proofs.Ytpmopdgnnlhplaa
open Go.RowKit Go.Proofs.YtpmopdgnnlhplaaW.PrintWords
def negP (p : Pst) : Pst := ⟨p.a, -p.c⟩
def PsOk (names : List ByteArray) (ps : List Pst) : Prop := 2 ≤ ps.length ∧ ps.length ≤ 16 ∧ ∀ p ∈ ps, GoodP names p
/-- The balance of the entries up to a day. -/
def uptoB (d : Int) : List Rc → ByteArray → Int
  | [], _ => 0
  | r :: rs, a => (if r.day ≤ d then part r.ps a else 0) + uptoB d rs a
def Sorted (recs : List Rc) : Prop := recs.Pairwise fun a b => a.day ≤ b.day
def RevOk (recs : List Rc) (rl : List (Int × Value)) : Prop := ∀ n, 1 ≤ n → mget rl n = if recs.any (fun r => decide (r.rev = n)) then some (.bool true) else none
structure GInv (names : List ByteArray) (recs : List Rc) (rl : List (Int × Value)) : Prop where
  nm : ∀ a ∈ names, nameB a = true
  len : recs.length ≤ 4096
  bals : ∀ a, -1125899906842624 ≤ bal recs a ∧ bal recs a ≤ 1125899906842624
  chain : verC 0 0 recs = recs.length
  days : Sorted recs
  dayr : ∀ r ∈ recs, dayB r.day = true
  pss : ∀ r ∈ recs, PsOk names r.ps
  sums : ∀ r ∈ recs, W64 r.sum
  revs : RevOk recs rl
  revr : ∀ r ∈ recs, 0 ≤ r.rev ∧ r.rev ≤ 4096
theorem uptoB_big {d : Int} {recs : List Rc} (h : ∀ r ∈ recs, r.day ≤ d) (a : ByteArray) : uptoB d recs a = bal recs a := by
  induction recs with
  | nil => rfl
  | cons r rs ih => unfold uptoB bal; rw [if_pos (h r (by simp)), ih fun r hr => h r (by simp [hr])]
theorem uptoB_small {d : Int} {recs : List Rc} (h : ∀ r ∈ recs, d < r.day) (a : ByteArray) : uptoB d recs a = 0 := by
  induction recs with
  | nil => rfl
  | cons r rs ih => unfold uptoB; rw [if_neg (by have := h r (by simp); omega), ih fun r hr => h r (by simp [hr])]; rfl
theorem uptoB_append (d : Int) (r s : List Rc) (a : ByteArray) : uptoB d (r ++ s) a = uptoB d r a + uptoB d s a := by
  induction r with
  | nil => simp [uptoB]
  | cons x r ih => simp [uptoB, ih, Int.add_assoc]
theorem uptoR_rows (d : Int) (a : ByteArray) : ∀ {recs : List Rc}, Sorted recs → ∀ b, uptoR d (rowsOf a recs b) b = b + uptoB d recs a
  | [], _, b => by simp [rowsOf, uptoR, uptoB]
  | r :: rs, h, b => by
    obtain ⟨h1, h2⟩ := List.pairwise_cons.1 h
    unfold rowsOf uptoB
    by_cases hi : inn r.ps a = true
    · rw [if_pos hi]
      unfold uptoR
      by_cases hd : r.day > d
      · rw [if_pos hd, if_neg (by omega), uptoB_small (fun x hx => by have := h1 x hx; omega)]
        omega
      · rw [if_neg hd, if_pos (by omega)]
        show uptoR d (rowsOf a rs (b + part r.ps a)) (b + part r.ps a) = _
        rw [uptoR_rows d a h2]
        omega
    · rw [if_neg hi, part_not_inn (by simpa using hi), uptoR_rows d a h2]
      split <;> omega
theorem lastDay_append (l : List Rc) (r : Rc) : lastDay (l ++ [r]) = r.day := by simp [lastDay]
theorem lastSum_append (l : List Rc) (r : Rc) : lastSum (l ++ [r]) = r.sum := by simp [lastSum]
theorem sorted_snoc {l : List Rc} {r : Rc} (h : Sorted l) (hl : lastDay l ≤ r.day) : Sorted (l ++ [r]) := by
  unfold Sorted
  rw [List.pairwise_append]
  refine ⟨h, by simp, fun x hx y hy => ?_⟩
  simp only [List.mem_singleton] at hy
  subst hy
  rcases List.eq_nil_or_concat l with rfl | ⟨l', z, rfl⟩
  · simp at hx
  · rw [List.concat_eq_append] at hl hx h
    rw [lastDay_append] at hl
    rcases List.mem_append.1 hx with hx | hx
    · have := (List.pairwise_append.1 h).2.2 x hx z (by simp)
      omega
    · simp only [List.mem_singleton] at hx
      subst hx
      exact hl
theorem verC_cons (b : Int) (i : Nat) (r : Rc) (rest : List Rc) : verC b i (r :: rest) = if r.no = i + 1 ∧ r.sum = dig b r.no r.day r.rev r.ps then verC r.sum (i + 1) rest else i := rfl
theorem verC_append : ∀ (l m : List Rc) (b : Int) (i : Nat), verC b i l = i + l.length → verC b i (l ++ m) = verC (match l.getLast? with | some r => r.sum | none => b) (i + l.length) m
  | [], m, b, i, _ => by simp
  | r :: rs, m, b, i, h => by
    rw [List.cons_append, verC_cons]
    rw [verC_cons] at h
    by_cases hc : r.no = i + 1 ∧ r.sum = dig b r.no r.day r.rev r.ps
    · rw [if_pos hc] at h ⊢
      rw [List.length_cons] at h ⊢
      rw [verC_append rs m r.sum (i + 1) (by omega), show i + 1 + rs.length = i + (rs.length + 1) by omega]
      congr 1
      cases rs with
      | nil => rfl
      | cons x xs => rw [List.getLast?_cons_cons, List.getLast?_cons]
    · rw [if_neg hc] at h
      simp at h
theorem chain_snoc {recs : List Rc} (d rev : Int) (ps : List Pst) (h : verC 0 0 recs = recs.length) : verC 0 0 (recs ++ [newRec recs d rev ps]) = (recs ++ [newRec recs d rev ps]).length := by
  rw [verC_append recs _ 0 0 (by omega)]
  have e : (match recs.getLast? with | some r => r.sum | none => 0) = lastSum recs := rfl
  rw [e, Nat.zero_add]
  unfold verC
  rw [if_pos ⟨rfl, rfl⟩]
  simp [verC]
theorem lastSum_W {recs : List Rc} (h : ∀ r ∈ recs, W64 r.sum) : W64 (lastSum recs) := by
  unfold lastSum
  cases hl : recs.getLast? with
  | none => unfold W64; simp
  | some r => exact h r (List.mem_of_getLast? hl)
theorem lastDay_0 {recs : List Rc} (h : ∀ r ∈ recs, dayB r.day = true) : 0 ≤ lastDay recs := by
  unfold lastDay
  cases hl : recs.getLast? with
  | none => simp
  | some r => exact (of_decide_eq_true (h r (List.mem_of_getLast? hl))).1
theorem GInv.linv {names : List ByteArray} {recs : List Rc} {rl : List (Int × Value)} (h : GInv names recs rl) : LInv recs := ⟨h.len, h.bals, (lastSum_W h.sums).1, (lastSum_W h.sums).2⟩
theorem GInv.start : GInv [] [] [] :=
  ⟨by simp, by simp, by simp [bal], rfl, List.Pairwise.nil, by simp, by simp, by simp, fun n _ => by simp [mget], by simp⟩
theorem memB_append (l m : List ByteArray) (a : ByteArray) : memB (l ++ m) a = (memB l a || memB m a) := by simp [memB]
theorem GInv.open_ {accs : List AccE} {recs : List Rc} {rl : List (Int × Value)} {n : ByteArray} (h : GInv (accs.map (·.name)) recs rl) (he : openErr accs n = 0) : GInv (accs.map (·.name) ++ [n]) recs rl where
  nm a ha := by
    rcases List.mem_append.1 ha with ha | ha
    · exact h.nm a ha
    · simp only [List.mem_singleton] at ha
      subst ha
      unfold openErr at he
      cases hn : nameB a with
      | true => rfl
      | false => rw [if_pos hn] at he; cases he
  len := h.len
  bals := h.bals
  chain := h.chain
  days := h.days
  dayr := h.dayr
  pss r hr := ⟨(h.pss r hr).1, (h.pss r hr).2.1, fun p hp => ⟨by rw [memB_append, ((h.pss r hr).2.2 p hp).1]; rfl, ((h.pss r hr).2.2 p hp).2⟩⟩
  sums := h.sums
  revs := h.revs
  revr := h.revr
theorem enterErr_0 {recs : List Rc} {ps : List Pst} (h : enterErr recs ps = 0) : recs.length < 4096 ∧ ∀ p ∈ ps, okBal recs ps p.a = true := by
  unfold enterErr at h
  by_cases ha : ps.all (fun p => okBal recs ps p.a) = true
  · rw [if_pos ha] at h
    by_cases hl : 4096 ≤ recs.length
    · rw [if_pos hl] at h; cases h
    · exact ⟨by omega, fun p hp => List.all_eq_true.1 ha p hp⟩
  · rw [if_neg ha] at h; cases h
theorem inn_mem {ps : List Pst} {a : ByteArray} (h : inn ps a = true) : ∃ p ∈ ps, p.a = a := by
  obtain ⟨p, hp, e⟩ := List.any_eq_true.1 h
  exact ⟨p, hp, by simpa using e⟩
theorem GInv.entered {names : List ByteArray} {recs : List Rc} {rl rl' : List (Int × Value)} {d rev : Int} {ps : List Pst} (h : GInv names recs rl) (he : enterErr recs ps = 0) (hd : dayB d = true)
    (hl : lastDay recs ≤ d) (hp : PsOk names ps) (hr0 : 0 ≤ rev) (hr1 : rev ≤ 4096) (hrl : RevOk (recs ++ [newRec recs d rev ps]) rl') : GInv names (recs ++ [newRec recs d rev ps]) rl' := by
  obtain ⟨e1, e2⟩ := enterErr_0 he
  have mem : ∀ {r}, r ∈ recs ++ [newRec recs d rev ps] → r ∈ recs ∨ r = newRec recs d rev ps := fun hr => by
    rcases List.mem_append.1 hr with hr | hr
    · exact .inl hr
    · exact .inr (by simpa using hr)
  refine ⟨h.nm, by simp; omega, fun a => ?_, chain_snoc d rev ps h.chain, sorted_snoc h.days hl, ?_, ?_, ?_, hrl, ?_⟩
  · rw [bal_append]
    simp only [bal, Int.add_zero]
    show _ ≤ bal recs a + part ps a ∧ bal recs a + part ps a ≤ _
    cases hi : inn ps a with
    | false => rw [part_not_inn hi]; have := h.bals a; omega
    | true =>
      obtain ⟨p, hp, rfl⟩ := inn_mem hi
      exact of_decide_eq_true (e2 p hp)
  · intro r hr
    rcases mem hr with hr | rfl
    · exact h.dayr r hr
    · exact hd
  · intro r hr
    rcases mem hr with hr | rfl
    · exact h.pss r hr
    · exact hp
  · intro r hr
    rcases mem hr with hr | rfl
    · exact h.sums r hr
    · exact dig_W _ _ _ _ _
  · intro r hr
    rcases mem hr with hr | rfl
    · exact h.revr r hr
    · exact ⟨hr0, hr1⟩
theorem any_append {α : Type} (l m : List α) (f : α → Bool) : (l ++ m).any f = (l.any f || m.any f) := by simp
theorem postBad_0 {names : List ByteArray} {ps : List Pst} (h : postBad names ps = 0) : ∀ p ∈ ps, GoodP names p := by
  induction ps with
  | nil => simp
  | cons x r ih =>
    unfold postBad at h
    by_cases h1 : memB names x.a = false
    · rw [if_pos h1] at h; cases h
    · rw [if_neg h1] at h
      by_cases h2 : x.c = 0 ∨ x.c < -1099511627776 ∨ 1099511627776 < x.c
      · rw [if_pos h2] at h; cases h
      · rw [if_neg h2] at h
        intro p hp
        rcases List.mem_cons.1 hp with rfl | hp
        · exact ⟨by simpa using h1, by omega, by omega, by omega⟩
        · exact ih h p hp
theorem postErr_0 {names : List ByteArray} {recs : List Rc} {d : Int} {ps : List Pst} (h : postErr names recs d ps = 0) : dayB d = true ∧ lastDay recs ≤ d ∧ PsOk names ps ∧ total ps = 0 ∧ enterErr recs ps = 0 := by
  unfold postErr at h
  by_cases h1 : dayB d = false
  · rw [if_pos h1] at h; cases h
  rw [if_neg h1] at h
  by_cases h2 : d < lastDay recs
  · rw [if_pos h2] at h; cases h
  rw [if_neg h2] at h
  by_cases h3 : 16 < ps.length
  · rw [if_pos h3] at h; cases h
  rw [if_neg h3] at h
  by_cases h4 : ps.length < 2
  · rw [if_pos h4] at h; cases h
  rw [if_neg h4] at h
  by_cases h5 : postBad names ps ≠ 0
  · rw [if_pos h5] at h; exact absurd h h5
  rw [if_neg h5] at h
  by_cases h6 : total ps ≠ 0
  · rw [if_pos h6] at h; cases h
  rw [if_neg h6] at h
  exact ⟨by simpa using h1, by omega, ⟨by omega, by omega, postBad_0 (by simpa using h5)⟩, by simpa using h6, h⟩
theorem GInv.posted {names : List ByteArray} {recs : List Rc} {rl : List (Int × Value)} {d : Int} {ps : List Pst} (h : GInv names recs rl) (he : postErr names recs d ps = 0) : GInv names (recs ++ [newRec recs d 0 ps]) rl := by
  obtain ⟨h1, h2, h3, _, h5⟩ := postErr_0 he
  refine h.entered h5 h1 h2 h3 (Int.le_refl _) (by decide) fun n hn => ?_
  rw [any_append, h.revs n hn]
  have : ([newRec recs d 0 ps].any fun r => decide (r.rev = n)) = false := by simp [newRec]; omega
  rw [this, Bool.or_false]
theorem nameB_size {s : ByteArray} (h : nameB s = true) : s.size ≤ 16 := by
  rw [← bytesI_len]
  unfold nameB at h
  split at h
  · rename_i e; rw [e]; simp
  · simp only [Bool.and_eq_true, decide_eq_true_eq] at h
    exact h.1.1.1
/-! ### Reverse -/
def revErr (recs : List Rc) (n d : Int) : Int :=
  if n < 1 ∨ (recs.length : Int) < n then 7 else if dayB d = false then 2 else
  match recs[(n - 1).toNat]? with
  | none => 7
  | some r => if d < lastDay recs ∨ r.rev ≠ 0 ∨ recs.any (fun r => decide (r.rev = n)) = true then 10 else enterErr recs (r.ps.map negP)
def revPs (recs : List Rc) (n : Int) : List Pst := match recs[(n - 1).toNat]? with | none => [] | some r => r.ps.map negP
theorem good_neg {names : List ByteArray} {p : Pst} (h : GoodP names p) : GoodP names (negP p) := by
  obtain ⟨h1, h2, h3, h4⟩ := h
  exact ⟨h1, by show -p.c ≠ 0; omega, by show _ ≤ -p.c; omega, by show -p.c ≤ _; omega⟩
theorem psok_neg {names : List ByteArray} {ps : List Pst} (h : PsOk names ps) : PsOk names (ps.map negP) :=
  ⟨by rw [List.length_map]; exact h.1, by rw [List.length_map]; exact h.2.1, fun p hp => by
    obtain ⟨q, hq, rfl⟩ := List.mem_map.1 hp
    exact good_neg (h.2.2 q hq)⟩
theorem revErr_0 {recs : List Rc} {n d : Int} (h : revErr recs n d = 0) : 1 ≤ n ∧ n ≤ recs.length ∧ dayB d = true ∧ lastDay recs ≤ d ∧ ∃ r, recs[(n - 1).toNat]? = some r ∧ r.rev = 0 ∧ recs.any (fun r => decide (r.rev = n)) = false ∧ enterErr recs (r.ps.map negP) = 0 := by
  unfold revErr at h
  by_cases h1 : n < 1 ∨ (recs.length : Int) < n
  · rw [if_pos h1] at h; cases h
  rw [if_neg h1] at h
  by_cases h2 : dayB d = false
  · rw [if_pos h2] at h; cases h
  rw [if_neg h2] at h
  cases hr : recs[(n - 1).toNat]? with
  | none => rw [hr] at h; cases h
  | some r =>
    rw [hr] at h
    simp only at h
    by_cases h3 : d < lastDay recs ∨ r.rev ≠ 0 ∨ recs.any (fun r => decide (r.rev = n)) = true
    · rw [if_pos h3] at h; cases h
    · rw [if_neg h3] at h
      refine ⟨by omega, by omega, by simpa using h2, ?_, r, rfl, ?_, ?_, h⟩
      · exact Int.not_lt.1 fun h4 => h3 (.inl h4)
      · exact Decidable.byContradiction fun h4 => h3 (.inr (.inl h4))
      · cases h4 : recs.any (fun r => decide (r.rev = n)) with
        | false => rfl
        | true => exact absurd (.inr (.inr h4)) h3
theorem GInv.reversed {names : List ByteArray} {recs : List Rc} {rl : List (Int × Value)} {n d : Int} (h : GInv names recs rl) (he : revErr recs n d = 0) :
    GInv names (recs ++ [newRec recs d n (revPs recs n)]) (mput rl n (.bool true)) := by
  obtain ⟨h1, h2, h3, h4, r, h5, h6, h7, h8⟩ := revErr_0 he
  have hps : revPs recs n = r.ps.map negP := by unfold revPs; rw [h5]
  have hr := h.pss r (List.mem_of_getElem? h5)
  have hln := h.len
  rw [hps]
  refine h.entered h8 h3 h4 (psok_neg hr) (by omega) (by omega) fun m hm => ?_
  rw [any_append]
  by_cases hmn : m = n
  · subst hmn
    rw [mget_mput_same]
    simp [newRec]
  · rw [mget_mput_other _ hmn, h.revs m hm]
    have : ([newRec recs d n (r.ps.map negP)].any fun r => decide (r.rev = m)) = false := by simp [newRec]; omega
    rw [this, Bool.or_false]
end Go.Proofs.Ytpmopdgnnlhplaa
