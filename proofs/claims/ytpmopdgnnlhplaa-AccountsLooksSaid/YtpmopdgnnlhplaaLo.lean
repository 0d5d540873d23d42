/-
  Statements and trial balances in plain Lean: what the reference adds up anew is what the ledger keeps.
  The walks of the reference's Balance, Statement, Trial.
  The walk of the reference's Trial.
  The walk of the law AccountsLooks.
-/
import Derived.Test.YtpmopdgnnlhplaaRg
import Derived.Sort.Walk0
import Derived.Test.YtpmopdgnnlhplaaTr
import Derived.Deep.RegionHeld3
import Derived.Test.YtpmopdgnnlhplaaPp
namespace Go.Proofs.Ytpmopdgnnlhplaa
open Go.RowKit Go.Proofs.YtpmopdgnnlhplaaW.PrintWords
/-! ### Statements -/
def inP (a : ByteArray) (f t : Int) (r : Rc) : Bool := inn r.ps a && (decide (f ≤ r.day) && decide (r.day ≤ t))
def stN (a : ByteArray) (f t : Int) : List Rc → Int → Int
  | [], now => now
  | r :: rs, now => if inP a f t r then stN a f t rs (now + part r.ps a) else stN a f t rs now
def stR (a : ByteArray) (f t : Int) : List Rc → Int → List Rw
  | [], _ => []
  | r :: rs, now => if inP a f t r then ⟨r.no, r.day, part r.ps a, now + part r.ps a⟩ :: stR a f t rs (now + part r.ps a) else stR a f t rs now
theorem stN_snoc (a : ByteArray) (f t : Int) (r : Rc) : ∀ (l : List Rc) (now : Int), stN a f t (l ++ [r]) now = if inP a f t r then stN a f t l now + part r.ps a else stN a f t l now
  | [], now => by simp [stN]
  | x :: l, now => by
    simp only [List.cons_append, stN]
    split
    · exact stN_snoc a f t r l _
    · exact stN_snoc a f t r l _
theorem stR_snoc (a : ByteArray) (f t : Int) (r : Rc) : ∀ (l : List Rc) (now : Int), stR a f t (l ++ [r]) now = if inP a f t r then stR a f t l now ++ [⟨r.no, r.day, part r.ps a, stN a f t l now + part r.ps a⟩] else stR a f t l now
  | [], now => by simp [stR, stN]
  | x :: l, now => by
    simp only [List.cons_append, stR, stN]
    split
    · rw [stR_snoc a f t r l]
      split <;> rfl
    · exact stR_snoc a f t r l _
theorem stR_len (a : ByteArray) (f t : Int) : ∀ (l : List Rc) (now : Int), (stR a f t l now).length ≤ l.length
  | [], now => Nat.le_refl _
  | x :: l, now => by
    simp only [stR]
    split
    · have := stR_len a f t l (now + part x.ps a); simp only [List.length_cons]; omega
    · have := stR_len a f t l now; simp only [List.length_cons]; omega
theorem stN_bd (a : ByteArray) (f t : Int) : ∀ (l : List Rc) (now : Int), (∀ r ∈ l, SmP r.ps) → now - l.length * 43980465111040 ≤ stN a f t l now ∧ stN a f t l now ≤ now + l.length * 43980465111040
  | [], now, _ => by simp [stN]
  | x :: l, now, h => by
    have h1 := part_sm (h x (by simp)) a
    have e : ((x :: l).length : Int) * 43980465111040 = l.length * 43980465111040 + 43980465111040 := by simp [Int.add_mul]
    simp only [stN]
    rw [e]
    split
    · have := stN_bd a f t l (now + part x.ps a) (fun r hr => h r (by simp [hr])); omega
    · have := stN_bd a f t l now (fun r hr => h r (by simp [hr])); omega
theorem stR_late (a : ByteArray) (f t : Int) : ∀ (l : List Rc) (now : Int), (∀ r ∈ l, t < r.day) → stR a f t l now = []
  | [], _, _ => rfl
  | x :: l, now, h => by
    have h1 := h x (by simp)
    have : inP a f t x = false := by unfold inP; rw [decide_eq_false (show ¬ x.day ≤ t by omega)]; simp
    simp only [stR, this]
    exact stR_late a f t l now (fun r hr => h r (by simp [hr]))
theorem rows_late (a : ByteArray) (f t : Int) : ∀ (l : List Rc) (b : Int), (∀ r ∈ l, t < r.day) → (rowsOf a l b).filter (inDay f t) = []
  | [], _, _ => rfl
  | x :: l, b, h => by
    have h1 := h x (by simp)
    have hl := fun b => rows_late a f t l b (fun r hr => h r (by simp [hr]))
    unfold rowsOf
    split
    · rw [List.filter_cons_of_neg (by simp [inDay]; omega)]
      exact hl _
    · exact hl _
theorem upto_late (a : ByteArray) (d : Int) : ∀ (l : List Rc), (∀ r ∈ l, d < r.day) → uptoB d l a = 0
  | [], _ => rfl
  | x :: l, h => by
    have h1 := h x (by simp)
    unfold uptoB
    rw [upto_late a d l (fun r hr => h r (by simp [hr])), if_neg (by omega)]
    rfl
theorem stm_eq (a : ByteArray) {f t : Int} (hft : f ≤ t) : ∀ (l : List Rc), Sorted l → ∀ b, (rowsOf a l b).filter (inDay f t) = stR a f t l (b + uptoB (f - 1) l a)
  | [], _, _ => rfl
  | x :: l, hs, b => by
    obtain ⟨h1, h2⟩ := List.pairwise_cons.1 hs
    have ih := stm_eq a hft l h2
    have eU : uptoB (f - 1) (x :: l) a = (if x.day ≤ f - 1 then part x.ps a else 0) + uptoB (f - 1) l a := rfl
    rw [eU]
    by_cases hi : inn x.ps a = true
    · by_cases h3 : x.day ≤ f - 1
      · have hp : inP a f t x = false := by unfold inP; rw [decide_eq_false (show ¬ f ≤ x.day by omega)]; simp
        unfold rowsOf stR
        rw [if_pos hi, List.filter_cons_of_neg (by simp [inDay]; omega), ih, hp, if_pos h3]
        simp only [Bool.false_eq_true, if_false]
        rw [Int.add_assoc]
      · have h0 : uptoB (f - 1) l a = 0 := upto_late a _ l (fun r hr => by have := h1 r hr; omega)
        rw [if_neg h3, h0, Int.add_zero, Int.add_zero]
        by_cases h4 : x.day ≤ t
        · have hp : inP a f t x = true := by unfold inP; rw [hi, decide_eq_true (show f ≤ x.day by omega), decide_eq_true h4]; rfl
          unfold rowsOf stR
          rw [if_pos hi, List.filter_cons_of_pos (by simp [inDay]; omega), ih, h0, Int.add_zero, hp]
          rfl
        · have hl : ∀ r ∈ x :: l, t < r.day := fun r hr => by
            rcases List.mem_cons.1 hr with rfl | hr
            · omega
            · have := h1 r hr; omega
          rw [rows_late a f t _ b hl, stR_late a f t _ b hl]
    · have hi' : inn x.ps a = false := by simpa using hi
      have hp : inP a f t x = false := by unfold inP; rw [hi']; rfl
      have hp0 := part_not_inn hi'
      unfold rowsOf stR
      rw [if_neg hi, ih, hp, hp0]
      simp
/-! ### Trial balances -/
def ltB (a b : ByteArray) : Bool := Op.bytesLess a.toList b.toList
theorem ltB_iff {a b : ByteArray} : ltB a b = true ↔ bsL a < bsL b := by
  unfold ltB
  rw [bytesLess_eq, ByteArray.toList_eq, ByteArray.toList_eq, decide_eq_true_eq]
  rfl
def stepI (x : Pst) (s : List Pst × Bool) (q : Pst) : List Pst × Bool := if !s.2 && ltB x.a q.a then (s.1 ++ [x, q], true) else (s.1 ++ [q], s.2)
def insI (x : Pst) (l : List Pst) : List Pst := let s := l.foldl (stepI x) ([], false); if s.2 then s.1 else s.1 ++ [x]
def ins (x : Pst) : List Pst → List Pst
  | [] => [x]
  | q :: r => if ltB x.a q.a then x :: q :: r else q :: ins x r
theorem fold_true (x : Pst) : ∀ (l acc : List Pst), l.foldl (stepI x) (acc, true) = (acc ++ l, true)
  | [], acc => by simp
  | q :: l, acc => by
    rw [List.foldl_cons]
    have : stepI x (acc, true) q = (acc ++ [q], true) := by simp [stepI]
    rw [this, fold_true x l]
    simp
theorem insI_eq' (x : Pst) : ∀ (l acc : List Pst), (let s := l.foldl (stepI x) (acc, false); if s.2 then s.1 else s.1 ++ [x]) = acc ++ ins x l
  | [], acc => by simp [ins]
  | q :: l, acc => by
    rw [List.foldl_cons]
    unfold ins
    by_cases h : ltB x.a q.a = true
    · have : stepI x (acc, false) q = (acc ++ [x, q], true) := by simp [stepI, h]
      rw [this, fold_true, if_pos h]
      simp
    · have : stepI x (acc, false) q = (acc ++ [q], false) := by simp [stepI, h]
      rw [this, insI_eq' x l, if_neg h]
      simp
theorem insI_eq (x : Pst) (l : List Pst) : insI x l = ins x l := insI_eq' x l []
theorem ins_perm (x : Pst) : ∀ l : List Pst, (ins x l).Perm (x :: l)
  | [] => List.Perm.refl _
  | q :: r => by
    unfold ins
    split
    · exact List.Perm.refl _
    · exact ((ins_perm x r).cons q).trans (List.Perm.swap x q r)
theorem ins_len (x : Pst) (l : List Pst) : (ins x l).length = l.length + 1 := (ins_perm x l).length_eq
theorem bs_lt_of_not {a b : ByteArray} (h : ltB a b ≠ true) (hne : a ≠ b) : bsL b < bsL a := by
  rw [Ne, ltB_iff] at h
  have h1 : bsL b ≤ bsL a := List.not_lt.1 h
  exact Std.lt_of_le_of_ne h1 (fun e => hne (bsL_inj e).symm)
theorem ins_sorted (x : Pst) : ∀ l : List Pst, l.Pairwise (fun p q => bsL p.a < bsL q.a) → (∀ q ∈ l, x.a ≠ q.a) → (ins x l).Pairwise (fun p q => bsL p.a < bsL q.a)
  | [], _, _ => by simp [ins]
  | q :: r, hs, hn => by
    obtain ⟨h1, h2⟩ := List.pairwise_cons.1 hs
    unfold ins
    split
    · rename_i h
      have hx := ltB_iff.1 h
      refine List.pairwise_cons.2 ⟨fun z hz => ?_, hs⟩
      rcases List.mem_cons.1 hz with rfl | hz
      · exact hx
      · exact List.lt_trans hx (h1 z hz)
    · rename_i h
      refine List.pairwise_cons.2 ⟨fun z hz => ?_, ins_sorted x r h2 (fun z hz => hn z (by simp [hz]))⟩
      rcases List.mem_cons.1 ((ins_perm x r).mem_iff.1 hz) with rfl | hz
      · exact bs_lt_of_not h (hn q (by simp))
      · exact h1 z hz
/-- What the reference's Trial has behind the first names. -/
def trR (d : Int) (recs : List Rc) : List ByteArray → List Pst → List Pst
  | [], out => out
  | a :: l, out => trR d recs l (if uptoB d recs a = 0 then out else ins ⟨a, uptoB d recs a⟩ out)
theorem trR_snoc (d : Int) (recs : List Rc) (a : ByteArray) : ∀ (l : List ByteArray) (out : List Pst), trR d recs (l ++ [a]) out = if uptoB d recs a = 0 then trR d recs l out else ins ⟨a, uptoB d recs a⟩ (trR d recs l out)
  | [], out => rfl
  | b :: l, out => trR_snoc d recs a l _
theorem trR_len (d : Int) (recs : List Rc) : ∀ (l : List ByteArray) (out : List Pst), (trR d recs l out).length ≤ out.length + l.length
  | [], out => Nat.le_refl _
  | a :: l, out => by
    have := trR_len d recs l (if uptoB d recs a = 0 then out else ins ⟨a, uptoB d recs a⟩ out)
    simp only [trR, List.length_cons]
    split at this
    · split
      · omega
      · contradiction
    · split
      · contradiction
      · rw [ins_len] at this; omega
theorem trR_props (d : Int) (recs : List Rc) : ∀ (l : List ByteArray) (out : List Pst), l.Nodup → out.Pairwise (fun p q => bsL p.a < bsL q.a) → (∀ q ∈ out, q.a ∉ l) →
    (trR d recs l out).Pairwise (fun p q => bsL p.a < bsL q.a) ∧ (trR d recs l out).Perm (out ++ l.filterMap (triF d recs))
  | [], out, _, hs, _ => ⟨hs, by simp [trR]⟩
  | a :: l, out, hn, hs, hd => by
    obtain ⟨h1, h2⟩ := List.nodup_cons.1 hn
    unfold trR
    by_cases h0 : uptoB d recs a = 0
    · rw [if_pos h0]
      obtain ⟨h3, h4⟩ := trR_props d recs l out h2 hs (fun q hq hm => hd q hq (by simp [hm]))
      refine ⟨h3, ?_⟩
      rw [List.filterMap_cons_none (by unfold triF; rw [if_pos h0])]
      exact h4
    · rw [if_neg h0]
      have hso := ins_sorted ⟨a, uptoB d recs a⟩ out hs (fun q hq e => hd q hq (by rw [← e]; simp))
      obtain ⟨h3, h4⟩ := trR_props d recs l (ins ⟨a, uptoB d recs a⟩ out) h2 hso (fun q hq hm => by
        rcases List.mem_cons.1 ((ins_perm _ out).mem_iff.1 hq) with rfl | hq
        · exact h1 hm
        · exact hd q hq (by simp [hm]))
      refine ⟨h3, h4.trans ?_⟩
      rw [List.filterMap_cons_some (by unfold triF; rw [if_neg h0])]
      exact ((ins_perm _ out).append_right _).trans List.perm_middle.symm
theorem sorted_eq {l m : List Pst} (hl : l.Pairwise fun p q => bsL p.a < bsL q.a) (hm : m.Pairwise fun p q => bsL p.a < bsL q.a) (hp : l.Perm m) : l = m := by
  refine List.Perm.eq_of_pairwise (le := fun p q => bsL p.a < bsL q.a) (fun a b _ _ h1 h2 => ?_) hl hm hp
  exact absurd (List.lt_trans h1 h2) (List.lt_irrefl _)
theorem tri_eq {s : St} (hn : s.n.Nodup) (d : Int) : trR d s.r s.n [] = triL s d := by
  obtain ⟨h1, h2⟩ := trR_props d s.r s.n [] hn List.Pairwise.nil (by simp)
  refine sorted_eq h1 (triL_sorted hn d) (h2.trans ?_)
  rw [List.nil_append]
  exact (sN_perm s.n).symm.filterMap _
end Go.Proofs.Ytpmopdgnnlhplaa
namespace Go.Proofs.Ytpmopdgnnlhplaa
open Go.RowKit Go.Proofs.YtpmopdgnnlhplaaW.PrintWords
set_option maxRecDepth 100000 in
set_option maxHeartbeats 1600000 in
theorem rbal_any (w : World) (A A2 : Option Addr) (c c2 : Nat) (s : St) (hN : Kd.C kSt w A s.n.length s.n) (hC : Kd.C kRc w A2 s.r.length s.r) (hs : SmR s.r) (a : ByteArray) (d : Int) :
    Calls Try.prog 80 #[.agg #[.slice A s.n.length c, .slice A2 s.r.length c2], .string a, .int .i64 d] w fun e w' => e = .returned (.tuple #[.int .i64 (baV s a d), .int .i64 (baE s a d)]) ∧ Below w.heap.size w w' := by
  have hb := (Below.refl w.heap.size w).alloc (Nat.le_refl _) (.cells #[.slice A s.n.length c, .slice A2 s.r.length c2] 59)
  have hB := Blk.new w #[.slice A s.n.length c, .slice A2 s.r.length c2] 59
  have a0 := hB.cell 0 (v := .slice A s.n.length c) rfl
  have a1 := hB.cell 1 (v := .slice A2 s.r.length c2) rfl
  have HE := Lib.hid (show baE s a d = if memB s.n a = false then 7 else if dayB d = false then 2 else 0 from rfl)
  have HV := Lib.hid (show baV s a d = if baE s a d = 0 then uptoB d s.r a else 0 from rfl)
  go_enter Try.func80, Try.ntmps80
  go_wp2_with fail
  generalize w.alloc (.cells #[.slice A s.n.length c, .slice A2 s.r.length c2] 59) = w1 at *
  refine (rhas_any w1 A A2 c s.r.length c2 s.n (Kd.C_below hN hb) a).mono ?_
  rintro e w2 ⟨rfl, hb2⟩
  have hbw := below_t hb hb2
  have hB2 := hB.move (hb2.block _ hB.lt)
  clear a0 a1
  have a0 := hB2.cell 0 (v := .slice A s.n.length c) rfl
  have a1 := hB2.cell 1 (v := .slice A2 s.r.length c2) rfl
  cases hm : memB s.n a with
  | false =>
    have HE1 := Lib.hid (show baE s a d = 7 by rw [HE.out, if_pos hm])
    have HV1 := Lib.hid (show baV s a d = 0 by rw [HV.out, HE1.out]; rfl)
    clear hm
    go_wp2_with fail
    go_ret2
    exact ⟨by rw [HE1.out, HV1.out]; rfl, hbw⟩
  | true =>
    have HM := Lib.hid hm
    clear hm
    go_wp2_with fail
    refine (rday_any d w2).mono ?_
    rintro e w3 ⟨rfl, rfl⟩
    cases hd : dayB d with
    | false =>
      have HE1 := Lib.hid (show baE s a d = 2 by rw [HE.out, if_neg (by rw [HM.out]; simp), if_pos hd])
      have HV1 := Lib.hid (show baV s a d = 0 by rw [HV.out, HE1.out]; rfl)
      clear hd
      go_wp2_with fail
      go_ret2
      exact ⟨by rw [HE1.out, HV1.out]; rfl, hbw⟩
    | true =>
      have HE1 := Lib.hid (show baE s a d = 0 by rw [HE.out, if_neg (by rw [HM.out]; simp), if_neg (by rw [hd]; simp)])
      have HV1 := Lib.hid (show baV s a d = uptoB d s.r a by rw [HV.out, HE1.out]; rfl)
      clear hd
      go_wp2_with fail
      refine (rupto_any w2 A2 A c2 s.n.length c s.r (Kd.C_below hC hbw) hs a d).mono ?_
      rintro e w4 ⟨rfl, hb4⟩
      go_wp2_with fail
      go_ret2
      exact ⟨by rw [HE1.out, HV1.out]; rfl, below_t hbw hb4⟩
def stE2 (s : St) (a : ByteArray) (f t : Int) : Int := if memB s.n a = false then 7 else if perB f t = false then 2 else 0
def stV2 (s : St) (a : ByteArray) (f t : Int) : Int := if stE2 s a f t = 0 then uptoB (f - 1) s.r a else 0
def stL2 (s : St) (a : ByteArray) (f t : Int) : List Rw := if stE2 s a f t = 0 then stR a f t s.r (uptoB (f - 1) s.r a) else []
theorem inn_take {ps : List Pst} {a : ByteArray} {j : Nat} {y : Pst} (hy : ps[j]? = some y) : inn (ps.take (j + 1)) a = (inn (ps.take j) a || decide (y.a = a)) := by
  have hj := (List.getElem?_eq_some_iff.1 hy).1
  rw [List.take_succ_eq_append_getElem hj, (List.getElem?_eq_some_iff.1 hy).2, inn_append]
  simp [inn]
theorem info90b : (Try.prog.info? 90).map (fun i => (i.zero, i.size, i.bytes)) = some (some (.agg #[.int .i64 0, .int .i64 0, .int .i64 0, .int .i64 0]), 4, 32) := by kernel_rfl
set_option maxRecDepth 100000 in
set_option maxHeartbeats 8000000 in
theorem rstat_any (w : World) (A A2 : Option Addr) (c c2 : Nat) (s : St) (hN : Kd.C kSt w A s.n.length s.n) (hC : Kd.C kRc w A2 s.r.length s.r) (hs : SmR s.r) (a : ByteArray) (f t : Int) (hf : -9223372036854775808 ≤ f ∧ f ≤ 9223372036854775807) :
    Calls Try.prog 81 #[.agg #[.slice A s.n.length c, .slice A2 s.r.length c2], .string a, .int .i64 f, .int .i64 t] w (StmPost w (stV2 s a f t) (stL2 s a f t) (stE2 s a f t)) := by
  have hb := (Below.refl w.heap.size w).alloc (Nat.le_refl _) (.cells #[.slice A s.n.length c, .slice A2 s.r.length c2] 59)
  have hB := Blk.new w #[.slice A s.n.length c, .slice A2 s.r.length c2] 59
  have a0 := hB.cell 0 (v := .slice A s.n.length c) rfl
  have a1 := hB.cell 1 (v := .slice A2 s.r.length c2) rfl
  have HE := Lib.hid (show stE2 s a f t = if memB s.n a = false then 7 else if perB f t = false then 2 else 0 from rfl)
  have hbad : ∀ (W : World) (e : Int), Below w.heap.size w W → stE2 s a f t = e → e ≠ 0 → StmPost w (stV2 s a f t) (stL2 s a f t) (stE2 s a f t) (.returned (.tuple #[.int .i64 0, .slice none 0 0, .int .i64 e])) W := fun W e hW he hne => by
    unfold stV2 stL2
    rw [he, if_neg hne, if_neg hne]
    exact ⟨⟨none, 0, rfl, Kd.R_nil _ _ _ _ _⟩, hW⟩
  have HBAD := Lib.hid hbad
  clear hbad
  go_enter Try.func81, Try.ntmps81
  go_wp2_with fail
  generalize w.alloc (.cells #[.slice A s.n.length c, .slice A2 s.r.length c2] 59) = w1 at *
  refine (rhas_any w1 A A2 c s.r.length c2 s.n (Kd.C_below hN hb) a).mono ?_
  rintro e w2 ⟨rfl, hb2⟩
  have hbw := below_t hb hb2
  have hB2 := hB.move (hb2.block _ hB.lt)
  have hC2 := Kd.C_below hC hbw
  clear a0 a1 hB hb hb2 hN hC
  have a0 := hB2.cell 0 (v := .slice A s.n.length c) rfl
  have a1 := hB2.cell 1 (v := .slice A2 s.r.length c2) rfl
  cases hm : memB s.n a with
  | false =>
    have HE1 := Lib.hid (show stE2 s a f t = 7 by rw [HE.out, if_pos hm])
    have HF := Lib.hid (HBAD.out w2 7 hbw HE1.out (by decide))
    clear hm
    go_wp2_with fail
    refine bodyPost_ret (v := .tuple #[.int .i64 0, .slice none 0 0, .int .i64 7]) (by simp [results, Try.results81, go_sem]) rfl HF.out
  | true =>
  have HE1 := Lib.hid (show stE2 s a f t = if perB f t = false then 2 else 0 by rw [HE.out, if_neg (by rw [hm]; simp)])
  clear hm HE
  go_wp2_with fail
  refine (rday_any f w2).mono ?_
  rintro e w3 ⟨rfl, rfl⟩
  cases hd : dayB f with
  | false =>
    have HE2 := Lib.hid (show stE2 s a f t = 2 by rw [HE1.out, if_pos (by unfold perB; rw [hd]; rfl)])
    have HF := Lib.hid (HBAD.out w2 2 hbw HE2.out (by decide))
    clear hd
    go_wp2_with fail
    refine bodyPost_ret (v := .tuple #[.int .i64 0, .slice none 0 0, .int .i64 2]) (by simp [results, Try.results81, go_sem]) rfl HF.out
  | true =>
  have hf0 : 0 ≤ f ∧ f ≤ 1000000 := of_decide_eq_true hd
  have HD := Lib.hid hd
  clear hd
  go_wp2_with fail
  refine (rday_any t w2).mono ?_
  rintro e w3 ⟨rfl, rfl⟩
  cases hd : dayB t with
  | false =>
    have HE2 := Lib.hid (show stE2 s a f t = 2 by rw [HE1.out, if_pos (by unfold perB; rw [HD.out, hd]; rfl)])
    have HF := Lib.hid (HBAD.out w2 2 hbw HE2.out (by decide))
    clear hd
    go_wp2_with fail
    refine bodyPost_ret (v := .tuple #[.int .i64 0, .slice none 0 0, .int .i64 2]) (by simp [results, Try.results81, go_sem]) rfl HF.out
  | true =>
  have HD2 := Lib.hid hd
  clear hd
  by_cases hft : t < f
  · have HE2 := Lib.hid (show stE2 s a f t = 2 by rw [HE1.out, if_pos (by unfold perB; rw [HD.out, HD2.out, decide_eq_false (by omega)]; rfl)])
    have HF := Lib.hid (HBAD.out w2 2 hbw HE2.out (by decide))
    have hd1 : decide (t < f) = true := decide_eq_true hft
    clear hft
    go_wp2_with fail
    refine bodyPost_ret (v := .tuple #[.int .i64 0, .slice none 0 0, .int .i64 2]) (by simp [results, Try.results81, go_sem]) rfl HF.out
  have HE2 := Lib.hid (show stE2 s a f t = 0 by rw [HE1.out, if_neg (by unfold perB; rw [HD.out, HD2.out, decide_eq_true (by omega)]; simp)])
  have HV2 := Lib.hid (show stV2 s a f t = uptoB (f - 1) s.r a by unfold stV2; rw [HE2.out]; rfl)
  have HL2 := Lib.hid (show stL2 s a f t = stR a f t s.r (uptoB (f - 1) s.r a) by unfold stL2; rw [HE2.out]; rfl)
  have hd1 : decide (t < f) = false := decide_eq_false hft
  clear HE1 HBAD
  go_wp2_with fail
  refine (rupto_any w2 A2 A c2 s.n.length c s.r hC2 hs a (f - 1)).mono ?_
  rintro e w4 ⟨rfl, hb4⟩
  have hub := upto_sm hs (f - 1) a
  have hbw4 := below_t hbw hb4
  have hB4 := hB2.move (hb4.block _ hB2.lt)
  have hC4 := Kd.C_below hC2 hb4
  clear a0 a1 hB2 hC2 hb4 hbw
  generalize uptoB (f - 1) s.r a = u at *
  have HB4 := Lib.hid hB4
  have HC4 := Lib.hid hC4
  have hlen := hs.1
  clear hB4 hC4 hd1
  go_wp2_with fail
  go_loopw [12, 13, 14] (fun s12 s13 s14 wr => ∃ (k : Nat) (n : Nat) (A1 : Option Addr) (c1 : Nat), k ≤ s.r.length ∧ s14 = .int .i64 k ∧ s12 = .int .i64 (stN a f t (s.r.take k) u) ∧ s13 = .slice A1 n c1 ∧ n = (stR a f t (s.r.take k) u).length ∧ Kd.R kRw 90 wr 0 (fun b => w4.heap.size ≤ b) (.slice A1 n c1) (stR a f t (s.r.take k) u) ∧ Below w4.heap.size w4 wr) (fun _ _ s14 _ => s.r.length - (intOf s14).toNat)
  case atStart => exact ⟨0, 0, none, 0, Nat.zero_le _, rfl, rfl, rfl, rfl, Kd.R_nil _ _ _ _ _, Below.refl _ _⟩
  case round =>
    obtain ⟨k, n, A1, c1, hk, rfl, rfl, rfl, hn, hR, hbr⟩ := hrel
    have HN := Lib.hid hn
    clear hn
    have hBr := HB4.out.move (hbr.block _ HB4.out.lt)
    have a1 := hBr.cell 1 (v := .slice A2 s.r.length c2) rfl
    by_cases hlt : k < s.r.length
    · obtain ⟨x, hx⟩ : ∃ x, s.r[k]? = some x := ⟨_, List.getElem?_eq_getElem hlt⟩
      obtain ⟨ad, A3, c3, rfl, p0, p1, p2, p3, p4, hle3, hC3⟩ := at_Rc (Kd.C_below HC4.out hbr) hx
      have hps := hs.2 x (List.mem_of_getElem? hx)
      have hnb := stN_bd a f t (s.r.take k) u (fun r hr => hs.2 r (List.mem_of_mem_take hr))
      have hnl : (s.r.take k).length ≤ 4096 := by rw [List.length_take]; omega
      have hrl := stR_len a f t (s.r.take k) u
      have hpb := part_sm hps a
      have HTS := Lib.hid (show s.r.take (k + 1) = s.r.take k ++ [x] from take_snoc hx)
      have HSN := Lib.hid (stN_snoc a f t x (s.r.take k) u)
      have HSR := Lib.hid (stR_snoc a f t x (s.r.take k) u)
      have hnn : n ≤ 4096 := by have := HN.out; omega
      generalize hqn : stN a f t (s.r.take k) u = now at *
      generalize hqr : stR a f t (s.r.take k) u = rs at *
      have hnow : -1000000000000000000 ≤ now ∧ now ≤ 1000000000000000000 := by omega
      have HQN := Lib.hid hqn
      have HQR := Lib.hid hqr
      clear hx hnb hnl hrl hqn hqr
      have hBx := Blk.new wr #[.int .i64 x.no, .int .i64 x.day, .slice A3 x.ps.length c3, .int .i64 x.rev, .int .u64 x.sum] 34
      have hba := (Below.refl wr.heap.size wr).alloc (Nat.le_refl _) (.cells #[.int .i64 x.no, .int .i64 x.day, .slice A3 x.ps.length c3, .int .i64 x.rev, .int .u64 x.sum] 34)
      have hCa := Kd.C_below hC3 hba
      have hRa := Kd.R_below hR hba
      have hs1 : (wr.alloc (.cells #[.int .i64 x.no, .int .i64 x.day, .slice A3 x.ps.length c3, .int .i64 x.rev, .int .u64 x.sum] 34)).heap.size = wr.heap.size + 1 := by simp
      clear hC3 hR
      go_upto_region 12 with fail
      generalize wr.alloc (.cells #[.int .i64 x.no, .int .i64 x.day, .slice A3 x.ps.length c3, .int .i64 x.rev, .int .u64 x.sum] 34) = wa at *
      have b1 := hBx.cell 1 (v := .int .i64 x.day) rfl
      have b2 := hBx.cell 2 (v := .slice A3 x.ps.length c3) rfl
      have hbwa := below_t hbr hba
      have HBX := Lib.hid hBx
      clear a1 p0 p1 p2 p3 p4 hBx hba hs1
      have hpl := hCa.2.1
      go_wp2_with fail
      obtain ⟨wo, rfl⟩ : ∃ wo : World, wo = wr := ⟨_, rfl⟩
      go_loopw [16, 17] (fun s16 s17 wr => ∃ j : Nat, j ≤ x.ps.length ∧ s17 = .int .i64 j ∧ s16 = .bool (inn (x.ps.take j) a) ∧ wr = wa) (fun _ s17 _ => x.ps.length - (intOf s17).toNat)
      case atStart => exact ⟨0, Nat.zero_le _, rfl, rfl, rfl⟩
      case round =>
        obtain ⟨j, hj, rfl, rfl, rfl⟩ := hrel
        by_cases hjl : j < x.ps.length
        · obtain ⟨y, hy⟩ : ∃ y, x.ps[j]? = some y := ⟨_, List.getElem?_eq_getElem hjl⟩
          obtain ⟨ad3, rfl, r0, r1⟩ := at_Pst hCa hy
          have HI := Lib.hid (inn_take (a := a) hy)
          clear hy r1
          generalize inn (x.ps.take j) a = i0 at *
          cases i0 with
          | true =>
            have HI2 := Lib.hid (show inn (x.ps.take (j + 1)) a = true by rw [HI.out]; rfl)
            go_wp2_with fail
            go_roundw
            case rel => exact ⟨j + 1, by omega, by go_num, by rw [HI2.out], by first | rfl | trivial⟩
            case measure => simp [intOf]; omega
          | false =>
            by_cases he : y.a = a
            · have HI2 := Lib.hid (show inn (x.ps.take (j + 1)) a = true by rw [HI.out, decide_eq_true he]; rfl)
              have hq : (y.a.toList == a.toList) = true := by rw [he]; exact sb_eq _
              clear he
              go_wp2_with fail
              go_roundw
              case rel => exact ⟨j + 1, by omega, by go_num, by rw [HI2.out], by first | rfl | trivial⟩
              case measure => simp [intOf]; omega
            · have HI2 := Lib.hid (show inn (x.ps.take (j + 1)) a = false by rw [HI.out, decide_eq_false he]; rfl)
              have hq := sb_ne he
              clear he
              go_wp2_with fail
              go_roundw
              case rel => exact ⟨j + 1, by omega, by go_num, by rw [HI2.out], by first | rfl | trivial⟩
              case measure => simp [intOf]; omega
        · obtain rfl : j = x.ps.length := by omega
          rw [List.take_length]
          have hskip : inP a f t x = false → stN a f t (s.r.take (k + 1)) u = now ∧ stR a f t (s.r.take (k + 1)) u = rs := fun h => by
            rw [HTS.out, HSN.out, HSR.out, h]
            exact ⟨rfl, rfl⟩
          have htake : inP a f t x = true → stN a f t (s.r.take (k + 1)) u = now + part x.ps a ∧ stR a f t (s.r.take (k + 1)) u = rs ++ [⟨x.no, x.day, part x.ps a, now + part x.ps a⟩] := fun h => by
            rw [HTS.out, HSN.out, HSR.out, h]
            exact ⟨rfl, rfl⟩
          have HSK := Lib.hid hskip
          have HTK := Lib.hid htake
          have HIP := Lib.hid (show inP a f t x = (inn x.ps a && (decide (f ≤ x.day) && decide (x.day ≤ t))) from rfl)
          clear hskip htake
          generalize inn x.ps a = i0 at *
          cases i0 with
          | false =>
            have HZ := Lib.hid (HSK.out (by rw [HIP.out]; rfl))
            go_wp2_with fail
            go_roundw
            case rel => exact ⟨k + 1, n, A1, c1, by omega, by go_num, by rw [HZ.out.1], rfl, by rw [HZ.out.2]; exact HN.out, by rw [HZ.out.2]; exact hRa, hbwa⟩
            case measure => simp [intOf]; omega
          | true =>
            by_cases h1 : x.day < f
            · have HZ := Lib.hid (HSK.out (by rw [HIP.out, decide_eq_false (show ¬ f ≤ x.day by omega)]; simp))
              have hd1 : decide (f ≤ x.day) = false := decide_eq_false (by omega)
              clear h1
              go_wp2_with fail
              go_roundw
              case rel => exact ⟨k + 1, n, A1, c1, by omega, by go_num, by rw [HZ.out.1], rfl, by rw [HZ.out.2]; exact HN.out, by rw [HZ.out.2]; exact hRa, hbwa⟩
              case measure => simp [intOf]; omega
            · have hd1 : decide (f ≤ x.day) = true := decide_eq_true (by omega)
              by_cases h2 : t < x.day
              · have HZ := Lib.hid (HSK.out (by rw [HIP.out, decide_eq_false (show ¬ x.day ≤ t by omega)]; simp))
                have hd2 : decide (x.day ≤ t) = false := decide_eq_false (by omega)
                clear h1 h2
                go_wp2_with fail
                go_roundw
                case rel => exact ⟨k + 1, n, A1, c1, by omega, by go_num, by rw [HZ.out.1], rfl, by rw [HZ.out.2]; exact HN.out, by rw [HZ.out.2]; exact hRa, hbwa⟩
                case measure => simp [intOf]; omega
              · have HZ := Lib.hid (HTK.out (by rw [HIP.out, decide_eq_true (show f ≤ x.day by omega), decide_eq_true (show x.day ≤ t by omega)]; rfl))
                have hd2 : decide (x.day ≤ t) = true := decide_eq_true (by omega)
                clear h1 h2
                have b0 := HBX.out.cell 0 (v := .int .i64 x.no) rfl
                go_wp2_with fail
                refine (rpart_any wr A3 c3 x.ps hCa hps a).mono ?_
                rintro e w6 ⟨rfl, rfl⟩
                have hl3 : (rs.length + 1) * 32 ≤ 140737488355328 := by rw [← HN.out]; omega
                have hfr : ∀ b, wr.heap.size ≤ b → w4.heap.size ≤ b := fun b hb9 => by have := hbwa.size; omega
                have hown := hRa.1
                have hM := kRw_mkM (w := wr) (base := 0) (ok := fun _ => False) ⟨x.no, x.day, part x.ps a, now + part x.ps a⟩
                generalize part x.ps a = pt at *
                go_upto_region 10 with (first
                  | (at_builtin; refine Kd.R_append kRw (w0 := wr) 0 rfl _ _ 86 90 (.agg #[.int .i64 0, .int .i64 0, .int .i64 0, .int .i64 0]) 32 rfl Try.underlying86 info90b rfl (by decide) (by decide) (.slice A1 n c1) rs ⟨x.no, x.day, pt, now + pt⟩ [.int .i64 x.no, .int .i64 x.day, .int .i64 pt, .int .i64 (now + pt)] (fun b => w4.heap.size ≤ b) (fun _ => False) rfl rfl hM (fun _ hk => hk.elim) hfr hRa (Below.refl _ _) (Nat.zero_le _) hl3 ?_; intro v7 w7 hR7 hb7 hg7 hat7)
                  | fail)
                have hbz : Below w4.heap.size w4 w7 := ((Fr.of_below hbwa (fun _ => False)).grown hg7 (fun k hk => .inr (hown k hk))).none_below
                obtain ⟨A8, c8, rfl, -, -⟩ := Kd.R_reads hR7
                have hl8 : (rs ++ [(⟨x.no, x.day, pt, now + pt⟩ : Rw)]).length = rs.length + 1 := by simp
                clear hM hRa
                go_wp2_with fail
                go_roundw
                case rel => exact ⟨k + 1, _, A8, c8, by omega, by go_num, by rw [HZ.out.1], rfl, by rw [HZ.out.2], by rw [HZ.out.2]; exact hR7, hbz⟩
                case measure => simp [intOf]; omega
    · rw [List.take_of_length_le (by omega)] at hR HN ⊢
      have HR := Lib.hid hR
      clear hR
      go_wp2_with fail
      refine bodyPost_ret (v := .tuple #[.int .i64 u, .slice A1 n c1, .int .i64 0]) (by simp [results, Try.results81, go_sem]) rfl ?_
      rw [HV2.out, HL2.out, HE2.out]
      have := HR.out
      rw [HN.out] at this ⊢
      exact ⟨⟨A1, c1, rfl, Kd.R_mono this (fun k hk => Nat.le_trans hbw4.size hk)⟩, below_t hbw4 hbr⟩
end Go.Proofs.Ytpmopdgnnlhplaa
namespace Go.Proofs.Ytpmopdgnnlhplaa
open Go.RowKit Go.Proofs.YtpmopdgnnlhplaaW.PrintWords
theorem bnd1 {nx : List Pst} (h : nx.length ≤ 9000) : (nx.length + 1) * 24 ≤ 140737488355328 := by omega
theorem bnd2 {nx : List Pst} (h : nx.length ≤ 9000) (x : Pst) : ((nx ++ [x]).length + 1) * 24 ≤ 140737488355328 := by
  rw [List.length_append]
  show (nx.length + 1 + 1) * 24 ≤ _
  omega
theorem keepT {wr W : World} {p q r : Addr} {u v x : Value} (a0 : wr.cell? p = some u) (a1 : wr.cell? q = some v) (p0 : wr.cell? r = some x) (hb : Below wr.heap.size wr W) : W.cell? p = some u ∧ W.cell? q = some v ∧ W.cell? r = some x ∧ Below wr.heap.size wr W :=
  ⟨cell_below hb a0, cell_below hb a1, cell_below hb p0, hb⟩
theorem neq9_lss (w : World) (x y : ByteArray) (b : Bool) (h : Op.bytesLess x.toList y.toList = b) : (binOp .lss 9 (.string x) (.string y)).run Try.prog w = .ok (.bool b) w := by
  have hu := Try.underlying9
  simp_all [go_sem]
def triRL (s : St) (d : Int) : List Pst := if dayB d = true then trR d s.r s.n [] else []
def triRE (d : Int) : Int := if dayB d = true then 0 else 2
set_option maxRecDepth 100000 in
set_option maxHeartbeats 8000000 in
theorem rtri_any (w : World) (A A2 : Option Addr) (c c2 : Nat) (s : St) (hN : Kd.C kSt w A s.n.length s.n) (hC : Kd.C kRc w A2 s.r.length s.r) (hs : SmR s.r) (hnl : s.n.length ≤ 4096) (d : Int) :
    Calls Try.prog 47 #[.agg #[.slice A s.n.length c, .slice A2 s.r.length c2], .int .i64 d] w (TriPost w (triRL s d) (triRE d)) := by
  have hb := (Below.refl w.heap.size w).alloc (Nat.le_refl _) (.cells #[.slice A s.n.length c, .slice A2 s.r.length c2] 59)
  have hB := Blk.new w #[.slice A s.n.length c, .slice A2 s.r.length c2] 59
  go_enter Try.func47, Try.ntmps47
  go_wp2_with fail
  generalize w.alloc (.cells #[.slice A s.n.length c, .slice A2 s.r.length c2] 59) = w1 at *
  refine (rday_any d w1).mono ?_
  rintro e w2 ⟨rfl, rfl⟩
  cases hd : dayB d with
  | false =>
    have HL := Lib.hid (show triRL s d = [] by unfold triRL; rw [hd]; rfl)
    have HE := Lib.hid (show triRE d = 2 by unfold triRE; rw [hd]; rfl)
    clear hd
    go_wp2_with fail
    go_ret2
    rw [HL.out, HE.out]
    exact ⟨⟨none, 0, rfl, Kd.R_nil _ _ _ _ _⟩, hb⟩
  | true =>
  have HL := Lib.hid (show triRL s d = trR d s.r s.n [] by unfold triRL; rw [hd]; rfl)
  have HE := Lib.hid (show triRE d = 0 by unfold triRE; rw [hd]; rfl)
  clear hd
  have HN1 := Lib.hid (Kd.C_below hN hb)
  have HC1 := Lib.hid (Kd.C_below hC hb)
  have HB1 := Lib.hid hB
  clear hN hC hB
  go_wp2_with fail
  go_loopw [6, 7] (fun s6 s7 wr => ∃ (k n : Nat) (A1 : Option Addr) (c1 : Nat), k ≤ s.n.length ∧ s7 = .int .i64 k ∧ s6 = .slice A1 n c1 ∧ n = (trR d s.r (s.n.take k) []).length ∧ Kd.R kPst 36 wr 0 (fun b => w1.heap.size ≤ b) (.slice A1 n c1) (trR d s.r (s.n.take k) []) ∧ Below w1.heap.size w1 wr) (fun _ s7 _ => s.n.length - (intOf s7).toNat)
  case atStart => exact ⟨0, 0, none, 0, Nat.zero_le _, rfl, rfl, rfl, Kd.R_nil _ _ _ _ _, Below.refl _ _⟩
  case round =>
    obtain ⟨k, n, A1, c1, hk, rfl, rfl, hn, hR, hbr⟩ := hrel
    have HN := Lib.hid hn
    clear hn
    have hBr := HB1.out.move (hbr.block _ HB1.out.lt)
    have a0 := hBr.cell 0 (v := .slice A s.n.length c) rfl
    have a1 := hBr.cell 1 (v := .slice A2 s.r.length c2) rfl
    by_cases hlt : k < s.n.length
    · obtain ⟨a, ha⟩ : ∃ a, s.n[k]? = some a := ⟨_, List.getElem?_eq_getElem hlt⟩
      obtain ⟨ad, rfl, p0⟩ := at_St (Kd.C_below HN1.out hbr) ha
      have hrl := trR_len d s.r (s.n.take k) []
      have hnl2 : (s.n.take k).length ≤ 4096 := by rw [List.length_take]; omega
      have hnn : n ≤ 4096 := by have := HN.out; simp only [List.length_nil] at hrl; omega
      have HSN := Lib.hid (show trR d s.r (s.n.take (k + 1)) [] = if uptoB d s.r a = 0 then trR d s.r (s.n.take k) [] else ins ⟨a, uptoB d s.r a⟩ (trR d s.r (s.n.take k) []) by rw [take_snoc ha, trR_snoc])
      generalize trR d s.r (s.n.take k) [] = out at *
      clear ha hrl hnl2
      go_upto_region 7 with fail
      go_cut [8] (fun s8 wx => ∃ b : Nat, s8 = .pointer (some ⟨b, 0, none⟩) ∧ Blk wx b #[.string a, .int .i64 (uptoB d s.r a)] 36 ∧ wr.heap.size ≤ b ∧ Below wr.heap.size wr wx)
      case first =>
        have S0 := keepT a0 a1 p0 ((Below.refl _ wr).drew)
        have S1 := keepT a0 a1 p0 (((Below.refl _ wr).alloc (Nat.le_refl _) (.cells #[.string ⟨#[]⟩, .int .i64 0] 36)).drew)
        go_region_held3 (fun w' => w'.cell? ⟨w.heap.size, 0, none⟩ = some (.slice (some ad) s.n.length c) ∧ w'.cell? ⟨w.heap.size, 1, none⟩ = some (.slice A2 s.r.length c2) ∧ w'.cell? (ad.add k) = some (.string a) ∧ Below wr.heap.size wr w')
          (first | (with_reducible exact S0) | (with_reducible exact S5) | (with_reducible exact S6) | (with_reducible exact S6 _) | (with_reducible exact S6 _ _) | (with_reducible exact S1) | (trace_state; fail))
          (first
            | (go_at_call 84; refine (rupto_any wr.drew A2 (some ad) c2 s.n.length c s.r (Kd.C_below (Kd.C_below HC1.out hbr) S0.2.2.2) hs a d).mono ?_; rintro e w7 ⟨rfl, hb7⟩; have S5 := keepT a0 a1 p0 (S0.2.2.2.trans hb7); have S6 := fun o => keepT a0 a1 p0 (S5.2.2.2.alloc S5.2.2.2.size o))
            | (go_at_call 84; refine (rupto_any _ A2 (some ad) c2 s.n.length c s.r (Kd.C_below (Kd.C_below HC1.out hbr) S1.2.2.2) hs a d).mono ?_; rintro e w7 ⟨rfl, hb7⟩; have S5 := keepT a0 a1 p0 (S1.2.2.2.trans (hb7.mono (by simp))); have S6 := fun v0 v1 => keepT a0 a1 p0 ((S5.2.2.2.setCell (p := ⟨wr.heap.size, 0, none⟩) (Nat.le_refl _) v0).setCell (p := ⟨wr.heap.size, 1, none⟩) (Nat.le_refl _) v1); have hBx := (Blk.new wr #[.string ⟨#[]⟩, .int .i64 0] 36).move (hb7.block wr.heap.size (by simp)); have z0 := hBx.free 0; have z1 := hBx.free 1; have y0 := hBx.cell 0 (v := .string ⟨#[]⟩) rfl; have y1 := hBx.cell 1 (v := .int .i64 0) rfl))
        · go_wp2_with fail
          go_meet
          exact ⟨_, rfl, Blk.new w7 _ 36, S5.2.2.2.size, S5.2.2.2.alloc S5.2.2.2.size _⟩
        · go_wp2_with fail
          go_meet
          exact ⟨_, rfl, by simpa using (hBx.set 0 (.string a)).set 1 (.int .i64 (uptoB d s.r a)), Nat.le_refl _, (S5.2.2.2.setCell (p := ⟨wr.heap.size, 0, none⟩) (Nat.le_refl _) _).setCell (p := ⟨wr.heap.size, 1, none⟩) (Nat.le_refl _) _⟩
      case rest =>
        obtain ⟨b, rfl, hBx, hbge, hbx⟩ := hcut
        obtain ⟨wq, rfl⟩ : ∃ wq : World, wq = wc := ⟨_, rfl⟩
        have hbwx := below_t hbr hbx
        have hRx := Kd.R_below hR hbx
        have HBX := Lib.hid hBx
        have x1 := hBx.cell 1 (v := .int .i64 (uptoB d s.r a)) rfl
        clear a0 a1 p0 hBx hbx hBr hR
        cases hz : (uptoB d s.r a == 0) with
        | true =>
          have HZ := Lib.hid (show trR d s.r (s.n.take (k + 1)) [] = out by rw [HSN.out, if_pos (by simpa using hz)])
          go_wp2_with fail
          go_roundw
          case rel => exact ⟨k + 1, n, A1, c1, by omega, by go_num, rfl, by rw [HZ.out]; exact HN.out, by rw [HZ.out]; exact hRx, hbwx⟩
          case measure => simp [intOf]; omega
        | false =>
          have HZ := Lib.hid (show trR d s.r (s.n.take (k + 1)) [] = insI ⟨a, uptoB d s.r a⟩ out by rw [HSN.out, if_neg (by simpa using hz), insI_eq])
          generalize uptoB d s.r a = u at *
          obtain ⟨A0, c0, hv0, hl0, hC0⟩ := Kd.R_reads hRx
          simp only [Value.slice.injEq] at hv0
          obtain ⟨rfl, -, rfl⟩ := hv0
          have HC0 := Lib.hid hC0
          clear hC0 hl0 hRx
          go_wp2_with fail
          clear x1
          obtain ⟨wo, rfl⟩ : ∃ wo : World, wo = wr := ⟨_, rfl⟩
          go_loopw [9, 10, 11] (fun s9 s10 s11 wr => ∃ (j m : Nat) (A3 : Option Addr) (c3 : Nat), j ≤ n ∧ s11 = .int .i64 j ∧ s10 = .bool ((out.take j).foldl (stepI ⟨a, u⟩) ([], false)).2 ∧ s9 = .slice A3 m c3 ∧ m = ((out.take j).foldl (stepI ⟨a, u⟩) ([], false)).1.length ∧ m ≤ 2 * j ∧ Kd.R kPst 36 wr 0 (fun b => wq.heap.size ≤ b) (.slice A3 m c3) ((out.take j).foldl (stepI ⟨a, u⟩) ([], false)).1 ∧ Below wq.heap.size wq wr) (fun _ _ s11 _ => n - (intOf s11).toNat)
          case atStart => exact ⟨0, 0, none, 0, Nat.zero_le _, rfl, rfl, rfl, rfl, Nat.zero_le _, Kd.R_nil _ _ _ _ _, Below.refl _ _⟩
          case round =>
            obtain ⟨j, m, A3, c3, hj, rfl, rfl, rfl, hm, hm2, hRj, hbj⟩ := hrel
            have HM := Lib.hid hm
            clear hm
            have hBj := HBX.out.move (hbj.block _ HBX.out.lt)
            have x0 := hBj.cell 0 (v := .string a) rfl
            have x1 := hBj.cell 1 (v := .int .i64 u) rfl
            have HRJ := Lib.hid hRj
            clear hRj
            by_cases hjl : j < n
            · obtain ⟨q, hq⟩ : ∃ q, out[j]? = some q := ⟨_, List.getElem?_eq_getElem (by have := HN.out; omega)⟩
              obtain ⟨ad2, rfl, t0, t1⟩ := at_Pst HC0.out hq
              have r0 := cell_below hbj t0
              have r1 := cell_below hbj t1
              have HT0 := Lib.hid t0
              have HT1 := Lib.hid t1
              clear t0 t1
              have HST := Lib.hid (show (out.take (j + 1)).foldl (stepI ⟨a, u⟩) ([], false) = stepI ⟨a, u⟩ ((out.take j).foldl (stepI ⟨a, u⟩) ([], false)) q by rw [take_snoc hq, List.foldl_append]; rfl)
              clear hq
              generalize (out.take j).foldl (stepI ⟨a, u⟩) ([], false) = st at *
              obtain ⟨nx, i0⟩ := st
              go_upto_region 14 with fail
              go_cut [56] (fun s56 wx => s56 = .bool (!i0 && ltB a q.a) ∧ Below wr.heap.size wr wx)
              case first =>
                have HB9 := Lib.hid (Below.refl wr.heap.size wr)
                clear r1 x1
                cases i0 with
                | true =>
                  go_quiet (fail)
                  go_wp2_with fail
                  go_meet
                  exact ⟨rfl, pw_below_drewN HB9.out _⟩
                | false =>
                  have hlt : ∀ b, ltB a q.a = b → Op.bytesLess a.toList q.a.toList = b := fun b h => h
                  cases hb9 : ltB a q.a with
                  | true =>
                    have hl9 := hlt _ hb9
                    have HLT := Lib.hid hb9
                    clear hlt hb9
                    go_quiet (fail)
                    go_wp2_with fail
                    go_meet
                    exact ⟨by rw [HLT.out]; rfl, pw_below_drewN HB9.out _⟩
                  | false =>
                    have hl9 := hlt _ hb9
                    have HLT := Lib.hid hb9
                    clear hlt hb9
                    go_quiet (fail)
                    go_wp2_with fail
                    go_meet
                    exact ⟨by rw [HLT.out]; rfl, pw_below_drewN HB9.out _⟩
              case rest =>
                obtain ⟨rfl, hb9⟩ := hcut
                have hbz := below_t hbj hb9
                have hBz := hBj.move (hb9.block _ hBj.lt)
                have hRz := Kd.R_below HRJ.out hb9
                have s0 := cell_below hb9 r0
                have s1 := cell_below hb9 r1
                have y0 := hBz.cell 0 (v := .string a) rfl
                have y1 := hBz.cell 1 (v := .int .i64 u) rfl
                have hown := hRz.1
                have hfr : ∀ z, wc.heap.size ≤ z → wq.heap.size ≤ z := fun z hz => Nat.le_trans hbz.size hz
                have hm9 : m ≤ 9000 := by omega
                have hml : m = nx.length := HM.out
                have hl1 := bnd1 (show nx.length ≤ 9000 by omega)
                have hl2 := bnd2 (show nx.length ≤ 9000 by omega) ⟨a, u⟩
                have HML := Lib.hid hml
                clear r0 r1 x0 x1 hBj hb9 hml hm9
                cases hb9 : (!i0 && ltB a q.a) with
                | false =>
                  have HZ := Lib.hid (show stepI ⟨a, u⟩ (nx, i0) q = (nx ++ [q], i0) by unfold stepI; simp only; rw [if_neg (by rw [hb9]; simp)])
                  clear hb9
                  go_wp2_with (at_builtin; refine Kd.R_append kPst (w0 := wc) 0 rfl _ _ 31 36 (.agg #[.string ⟨#[]⟩, .int .i64 0]) 24 rfl Try.underlying31 info36 rfl (by decide) (by decide) (.slice A3 m c3) nx q [.string q.a, .int .i64 q.c] (fun z => wq.heap.size ≤ z) (fun _ => False) rfl rfl (kPst_mkM q) (fun _ hk => hk.elim) hfr hRz (Below.refl _ _) (Nat.zero_le _) hl1 ?_; intro v5 w5 hR5 hb5 hg5 hat5)
                  have hby : Below wq.heap.size wq w5 := ((Fr.of_below hbz (fun _ => False)).grown hg5 (fun z hz => .inr (hown z hz))).none_below
                  obtain ⟨A5, c5, rfl, -, -⟩ := Kd.R_reads hR5
                  have hl5 : (nx ++ [q]).length = m + 1 := by have := HML.out; simp; omega
                  have HL5 := Lib.hid hl5
                  clear hl5 hRz s0 s1 y0 y1 hBz
                  go_wp2_with fail
                  go_roundw
                  case rel => exact ⟨j + 1, _, A5, c5, by omega, by go_num, by rw [HST.out, HZ.out], rfl, by rw [HST.out, HZ.out], by rw [HL5.out]; omega, by rw [HST.out, HZ.out]; exact hR5, hby⟩
                  case measure => simp [intOf]; omega
                | true =>
                  have hi0 : i0 = false := by cases i0 <;> simp_all
                  have HZ := Lib.hid (show stepI ⟨a, u⟩ (nx, i0) q = (nx ++ [⟨a, u⟩, q], true) by unfold stepI; simp only; rw [if_pos hb9])
                  clear hb9 hi0
                  go_upto_region 17 with (first
                    | (at_builtin; refine Kd.R_append kPst (w0 := wc) 0 rfl _ _ 31 36 (.agg #[.string ⟨#[]⟩, .int .i64 0]) 24 rfl Try.underlying31 info36 rfl (by decide) (by decide) (.slice A3 m c3) nx ⟨a, u⟩ [.string a, .int .i64 u] (fun z => wq.heap.size ≤ z) (fun _ => False) rfl rfl (kPst_mkM ⟨a, u⟩) (fun _ hk => hk.elim) hfr hRz (Below.refl _ _) (Nat.zero_le _) hl1 ?_; intro v5 w5 hR5 hb5 hg5 hat5)
                    | fail)
                  have hby : Below wq.heap.size wq w5 := ((Fr.of_below hbz (fun _ => False)).grown hg5 (fun z hz => .inr (hown z hz))).none_below
                  obtain ⟨A5, c5, rfl, -, -⟩ := Kd.R_reads hR5
                  have s0' := cell_below hby HT0.out
                  have s1' := cell_below hby HT1.out
                  have hown2 := hR5.1
                  have hfr2 : ∀ z, w5.heap.size ≤ z → wq.heap.size ≤ z := fun z hz => Nat.le_trans hby.size hz
                  generalize hxs : nx ++ [(⟨a, u⟩ : Pst)] = ys at *
                  have HXS := Lib.hid hxs
                  clear hxs hRz s0 s1 y0 y1 hBz
                  go_wp2_with (at_builtin; refine Kd.R_append kPst (w0 := w5) 0 rfl _ _ 31 36 (.agg #[.string ⟨#[]⟩, .int .i64 0]) 24 rfl Try.underlying31 info36 rfl (by decide) (by decide) (.slice A5 ys.length c5) ys q [.string q.a, .int .i64 q.c] (fun z => wq.heap.size ≤ z) (fun _ => False) rfl rfl (kPst_mkM q) (fun _ hk => hk.elim) hfr2 hR5 (Below.refl _ _) (Nat.zero_le _) hl2 ?_; intro v6 w6 hR6 hb6 hg6 hat6)
                  have hby6 : Below wq.heap.size wq w6 := ((Fr.of_below hby (fun _ => False)).grown hg6 (fun z hz => .inr (hown2 z hz))).none_below
                  obtain ⟨A6, c6, rfl, -, -⟩ := Kd.R_reads hR6
                  have hl6 : (ys ++ [q]).length = m + 2 := by have := HML.out; rw [← HXS.out]; simp; omega
                  have HL6 := Lib.hid hl6
                  have HYQ := Lib.hid (show nx ++ [⟨a, u⟩, q] = ys ++ [q] by rw [← HXS.out]; simp)
                  clear hl6 hR5 s0' s1'
                  go_wp2_with fail
                  go_roundw
                  case rel => exact ⟨j + 1, _, A6, c6, by omega, by go_num, by rw [HST.out, HZ.out], rfl, by rw [HST.out, HZ.out, HYQ.out], by rw [HL6.out]; omega, by rw [HST.out, HZ.out, HYQ.out]; exact hR6, hby6⟩
                  case measure => simp [intOf]; omega
            · obtain rfl : j = n := by omega
              rw [List.take_of_length_le (by rw [← HN.out]; exact Nat.le_refl _)] at HRJ HM
              have HFI := Lib.hid (show insI ⟨a, u⟩ out = if (out.foldl (stepI ⟨a, u⟩) ([], false)).2 then (out.foldl (stepI ⟨a, u⟩) ([], false)).1 else (out.foldl (stepI ⟨a, u⟩) ([], false)).1 ++ [⟨a, u⟩] from rfl)
              rw [List.take_of_length_le (show out.length ≤ j by rw [← HN.out]; exact Nat.le_refl _)]
              generalize out.foldl (stepI ⟨a, u⟩) ([], false) = st at *
              obtain ⟨nx, i0⟩ := st
              have hbz := below_t hbwx hbj
              have hRz : Kd.R kPst 36 wr 0 (fun z => w1.heap.size ≤ z) (.slice A3 m c3) nx := Kd.R_mono HRJ.out (fun z hz => Nat.le_trans hbwx.size hz)
              have hml : m = nx.length := HM.out
              have hl1 := bnd1 (show nx.length ≤ 9000 by omega)
              have HML := Lib.hid hml
              have hown := hRz.1
              have hfr : ∀ z, wr.heap.size ≤ z → w1.heap.size ≤ z := fun z hz => Nat.le_trans hbz.size hz
              clear hml hBj
              cases i0 with
              | true =>
                have HFJ := Lib.hid (show insI ⟨a, u⟩ out = nx by rw [HFI.out]; rfl)
                have HRZ := Lib.hid hRz
                clear hRz hown hfr x0 x1
                go_wp2_with fail
                go_roundw
                case rel => exact ⟨k + 1, m, A3, c3, by omega, by go_num, rfl, by rw [HZ.out, HFJ.out]; exact HML.out, by rw [HZ.out, HFJ.out]; exact HRZ.out, hbz⟩
                case measure => simp [intOf]; omega
              | false =>
                have HFJ := Lib.hid (show insI ⟨a, u⟩ out = nx ++ [⟨a, u⟩] by rw [HFI.out]; rfl)
                go_upto_region 20 with (first
                  | (at_builtin; refine Kd.R_append kPst (w0 := wr) 0 rfl _ _ 31 36 (.agg #[.string ⟨#[]⟩, .int .i64 0]) 24 rfl Try.underlying31 info36 rfl (by decide) (by decide) (.slice A3 m c3) nx ⟨a, u⟩ [.string a, .int .i64 u] (fun z => w1.heap.size ≤ z) (fun _ => False) rfl rfl (kPst_mkM ⟨a, u⟩) (fun _ hk => hk.elim) hfr hRz (Below.refl _ _) (Nat.zero_le _) hl1 ?_; intro v5 w5 hR5 hb5 hg5 hat5)
                  | fail)
                have hby : Below w1.heap.size w1 w5 := ((Fr.of_below hbz (fun _ => False)).grown hg5 (fun z hz => .inr (hown z hz))).none_below
                obtain ⟨A5, c5, rfl, -, -⟩ := Kd.R_reads hR5
                have HR5 := Lib.hid hR5
                clear hRz hR5 x0 x1
                go_wp2_with fail
                go_roundw
                case rel => exact ⟨k + 1, _, A5, c5, by omega, by go_num, rfl, by rw [HZ.out, HFJ.out], by rw [HZ.out, HFJ.out]; exact HR5.out, hby⟩
                case measure => simp [intOf]; omega
    · rw [List.take_of_length_le (by omega)] at hR HN
      have HR := Lib.hid hR
      clear hR
      go_wp2_with fail
      go_ret2
      rw [HL.out, HE.out]
      have := HR.out
      rw [HN.out] at this ⊢
      exact ⟨⟨A1, c1, rfl, Kd.R_mono this (fun z hz => Nat.le_trans hb.size hz)⟩, below_t hb hbr⟩
end Go.Proofs.Ytpmopdgnnlhplaa
namespace Go.Proofs.Ytpmopdgnnlhplaa
open Go.RowKit Go.Proofs.YtpmopdgnnlhplaaW.PrintWords
theorem Statement_led2 {w : World} {F : Nat → Prop} {g : Nat} {s : St} (h : LedF w F g s) (a : ByteArray) (f t : Int) :
    Calls Try.prog 49 #[.pointer (some ⟨g, 0, none⟩), .string a, .int .i64 f, .int .i64 t] w (StmPost w (stV2 s a f t) (stL2 s a f t) (stE2 s a f t)) := by
  obtain ⟨v, rm, am, accs, rl, h1, h2, h3⟩ := h
  have hst := Statement_any h1 a f t (fun a => Nat.le_trans (rowsOf_len a s.r 0) h3.len)
  have he : stmErr accs a f t = stE2 s a f t := by unfold stmErr stE2; rw [memB_perm h2]
  have hv : stmVal accs (fun a => rowsOf a s.r 0) a f t = stV2 s a f t := by
    unfold stmVal stV2
    rw [he]
    split
    · rw [uptoR_rows (f - 1) a h3.days, Int.zero_add]
    · rfl
  have hl : stmRows accs (fun a => rowsOf a s.r 0) a f t = stL2 s a f t := by
    unfold stmRows stL2
    rw [he]
    split
    · rename_i h0
      have hft : f ≤ t := by
        unfold stE2 at h0
        split at h0
        · cases h0
        · split at h0
          · cases h0
          · rename_i hp
            have hp : perB f t = true := by simpa using hp
            unfold perB at hp
            simp only [Bool.and_eq_true, decide_eq_true_eq] at hp
            exact hp.2
      rw [stm_eq a hft s.r h3.days 0, Int.zero_add]
    · rfl
  rw [he, hv, hl] at hst
  exact hst
theorem neq90 (a b c d : Int) (w : World) : (binOp .neq 90 (.agg #[.int .i64 a, .int .i64 b, .int .i64 c, .int .i64 d]) (.agg #[.int .i64 a, .int .i64 b, .int .i64 c, .int .i64 d])).run Try.prog w = .ok (.bool false) w := by
  have hu := Try.underlying90
  have hu3 := Try.underlying3
  simp_all [go_sem]
set_option maxRecDepth 100000 in
set_option maxHeartbeats 4000000 in
theorem looks_any {w : World} {F ok : Nat → Prop} {g : Nat} {s : St} {A A2 : Option Addr} {c c2 : Nat} (hL : LedF w F g s) (hRf : RefL w ok A c A2 c2 s) (a : ByteArray) (f t : Int) (hf : -9223372036854775808 ≤ f ∧ f ≤ 9223372036854775807) :
    Calls Try.prog 45 #[.pointer (some ⟨g, 0, none⟩), .agg #[.slice A s.n.length c, .slice A2 s.r.length c2], .string a, .int .i64 f, .int .i64 t] w fun e w' => e = .returned (.bool true) ∧ Below w.heap.size w w' := by
  obtain ⟨rl, hG⟩ := hL.inv
  have hsm := (lg2_of hG).sm
  have hb := (Below.refl w.heap.size w).alloc (Nat.le_refl _) (.cells #[.slice A s.n.length c, .slice A2 s.r.length c2] 59)
  have hB := Blk.new w #[.slice A s.n.length c, .slice A2 s.r.length c2] 59
  have HL1 := Lib.hid (hL.below hb)
  have HR1 := Lib.hid (hRf.below hb)
  clear hL hRf
  go_enter Try.func45, Try.ntmps45
  go_wp2_with fail
  generalize w.alloc (.cells #[.slice A s.n.length c, .slice A2 s.r.length c2] 59) = w1 at *
  refine (Balance_led HL1.out a t).mono ?_
  rintro e w2 ⟨rfl, hb2⟩
  have HL2 := Lib.hid (HL1.out.below hb2)
  have HR2 := Lib.hid (HR1.out.below hb2)
  have hB2 := hB.move (hb2.block _ hB.lt)
  have hbw2 := below_t hb hb2
  clear HL1 HR1 hB hb2 hb
  have a0 := hB2.cell 0 (v := .slice A s.n.length c) rfl
  have a1 := hB2.cell 1 (v := .slice A2 s.r.length c2) rfl
  go_wp2_with fail
  refine (rbal_any w2 A A2 c c2 s HR2.out.C.1 HR2.out.C.2 hsm a t).mono ?_
  rintro e w3 ⟨rfl, hb3⟩
  have HL3 := Lib.hid (HL2.out.below hb3)
  have HR3 := Lib.hid (HR2.out.below hb3)
  have hB3 := hB2.move (hb3.block _ hB2.lt)
  have hbw3 := below_t hbw2 hb3
  clear HL2 HR2 hB2 hb3 hbw2 a0 a1
  go_wp2_with fail
  refine (Statement_led2 HL3.out a f t).mono ?_
  rintro e w4 ⟨⟨A4, c4, rfl, hR4⟩, hb4⟩
  have HR4 := Lib.hid (HR3.out.below hb4)
  have hB4 := hB3.move (hb4.block _ hB3.lt)
  have hbw4 := below_t hbw3 hb4
  clear HL3 HR3 hB3 hb4 hbw3
  have a0 := hB4.cell 0 (v := .slice A s.n.length c) rfl
  have a1 := hB4.cell 1 (v := .slice A2 s.r.length c2) rfl
  go_wp2_with fail
  refine (rstat_any w4 A A2 c c2 s HR4.out.C.1 HR4.out.C.2 hsm a f t hf).mono ?_
  rintro e w5 ⟨⟨A5, c5, rfl, hR5⟩, hb5⟩
  have hR6 := Kd.R_below hR4 hb5
  have hbw5 := below_t hbw4 hb5
  clear HR4 hB4 hb5 hbw4 a0 a1 hR4
  generalize stL2 s a f t = rs at *
  generalize stV2 s a f t = v1 at *
  generalize stE2 s a f t = v2 at *
  generalize baV s a t = v3 at *
  generalize baE s a t = v4 at *
  have e1 : (v1 != v1) = false := by simp
  have e2 : (v2 != v2) = false := by simp
  have e3 : (v3 != v3) = false := by simp
  have e4 : (v4 != v4) = false := by simp
  have e5 : ((rs.length : Int) != (rs.length : Int)) = false := by simp
  obtain ⟨B4, d4, hv4, _, hC4⟩ := Kd.R_reads hR6
  obtain ⟨B5, d5, hv5, _, hC5⟩ := Kd.R_reads hR5
  simp only [Value.slice.injEq] at hv4 hv5
  obtain ⟨rfl, -, rfl⟩ := hv4
  obtain ⟨rfl, -, rfl⟩ := hv5
  have hlm := hC4.2.1
  clear hR5 hR6
  go_wp2_with fail
  go_loopw [21] (fun s21 wr => ∃ k : Nat, k ≤ rs.length ∧ s21 = .int .i64 k ∧ Below w5.heap.size w5 wr) (fun s21 _ => rs.length - (intOf s21).toNat)
  case atStart => exact ⟨0, Nat.zero_le _, rfl, Below.refl _ _⟩
  case round =>
    obtain ⟨k, hk, rfl, hbr⟩ := hrel
    by_cases hlt : k < rs.length
    · obtain ⟨x, hx⟩ : ∃ x, rs[k]? = some x := ⟨_, List.getElem?_eq_getElem hlt⟩
      obtain ⟨ad, rfl, p0, p1, p2, p3⟩ := at_Rw (Kd.C_below hC4 hbr) hx
      obtain ⟨ad', rfl, q0, q1, q2, q3⟩ := at_Rw (Kd.C_below hC5 hbr) hx
      have heq := neq90 x.no x.day x.c x.bal
      clear hx
      go_wp2_with fail
      go_quiet (fail)
      go_wp2_with fail
      go_roundw
      case rel => exact ⟨k + 1, by omega, by go_num, pw_below_drewN hbr _⟩
      case measure => simp [intOf]; omega
    · go_wp2_with fail
      go_ret
      exact ⟨rfl, below_t hbw5 hbr⟩
theorem Trial_led {w : World} {F : Nat → Prop} {g : Nat} {s : St} (h : LedF w F g s) (hnl : s.n.length ≤ 4096) (d : Int) :
    Calls Try.prog 46 #[.pointer (some ⟨g, 0, none⟩), .int .i64 d] w (TriPost w (triRL s d) (triRE d)) := by
  have hnd : s.n.Nodup := by
    obtain ⟨v, rm, am, accs, rl, h1, h2, h3⟩ := h
    exact h2.nodup_iff.1 h1.nodup
  cases hd : dayB d with
  | false =>
    have e1 : triRL s d = [] := by unfold triRL; rw [hd]; rfl
    have e2 : triRE d = 2 := by unfold triRE; rw [hd]; rfl
    rw [e1, e2]
    exact Trial_bad h d hd
  | true =>
    have e1 : triRL s d = triL s d := by unfold triRL; rw [hd, ← tri_eq hnd d]; rfl
    have e2 : triRE d = 0 := by unfold triRE; rw [hd]; rfl
    rw [e1, e2]
    exact Trial_good h hnl d hd
set_option maxRecDepth 100000 in
set_option maxHeartbeats 4000000 in
theorem looks_walk (A : Option Addr) (c : Nat) (l : List Ac) (a : ByteArray) (f t : Int) (hf : -9223372036854775808 ≤ f ∧ f ≤ 9223372036854775807) (w : World) (hC : Kd.C kAc w A l.length l) (hg : ∀ a ∈ l, GoodA a) :
    Calls Try.prog 14 #[.slice A l.length c, .string a, .int .i64 f, .int .i64 t] w fun e w' => e = .returned (.bool true) ∧ Below w.heap.size w w' := by
  go_enter Try.func14, Try.ntmps14
  go_wp2_with fail
  refine (few_any w A c l hC).mono ?_
  rintro e w1 ⟨rfl, rfl⟩
  cases hfew : fewB l with
  | false =>
    go_wp2_with fail
    refine (alive_any _).mono ?_
    rintro e w6 ⟨rfl, hb⟩
    go_wp2_with fail
    go_ret
    exact ⟨rfl, hb⟩
  | true =>
  obtain ⟨hl60, hl30⟩ := fewB_true hfew
  clear hfew
  go_wp2_with fail
  refine (played_any w A c l hC hg hl60 hl30).mono ?_
  rintro e wp ⟨F, ok, g, A1, c1, A3, c3, rfl, hLp, hRp, hdis, hFge, hokge, hbp⟩
  have hsn0 : (runS l ⟨[], []⟩).n.length ≤ 60 := by have := (run_tot l).2.2; omega
  generalize runS l ⟨[], []⟩ = s at *
  obtain ⟨rl, hG⟩ := hLp.inv
  have hsm := (lg2_of hG).sm
  have hbA := (Below.refl wp.heap.size wp).alloc (Nat.le_refl _) (.cells #[.slice A1 s.n.length c1, .slice A3 s.r.length c3] 59)
  have hBN := Blk.new wp #[.slice A1 s.n.length c1, .slice A3 s.r.length c3] 59
  have HL3 := Lib.hid (hLp.below hbA)
  have HR3 := Lib.hid (hRp.below hbA)
  have hbw3 := below_t hbp hbA
  clear hLp hRp hdis hFge hokge hbp hbA
  have a0 := hBN.cell 0 (v := .slice A1 s.n.length c1) rfl
  have a1 := hBN.cell 1 (v := .slice A3 s.r.length c3) rfl
  go_upto_region 4 with fail
  generalize wp.alloc (.cells #[.slice A1 s.n.length c1, .slice A3 s.r.length c3] 59) = w3 at *
  go_wp2_with fail
  refine (looks_any HL3.out HR3.out a f t hf).mono ?_
  rintro e w4 ⟨rfl, hb4⟩
  have HL4 := Lib.hid (HL3.out.below hb4)
  have HR4 := Lib.hid (HR3.out.below hb4)
  have hB4 := hBN.move (hb4.block _ hBN.lt)
  have hbw4 := below_t hbw3 hb4
  clear HL3 HR3 hb4 hbw3 hBN a0 a1
  have HB4 := Lib.hid hB4
  clear hB4
  have HCN := Lib.hid HR4.out.C.1
  generalize wp.heap.size = b8 at *
  go_wp2_with fail
  go_loopw [12] (fun s12 wr => ∃ k : Nat, k ≤ s.n.length ∧ s12 = .int .i64 k ∧ Below w4.heap.size w4 wr) (fun s12 _ => s.n.length - (intOf s12).toNat)
  case atStart => exact ⟨0, Nat.zero_le _, rfl, Below.refl _ _⟩
  case round =>
    obtain ⟨k, hk, rfl, hbr⟩ := hrel
    have hBr := HB4.out.move (hbr.block _ HB4.out.lt)
    have a0 := hBr.cell 0 (v := .slice A1 s.n.length c1) rfl
    have a1 := hBr.cell 1 (v := .slice A3 s.r.length c3) rfl
    by_cases hlt : k < s.n.length
    · obtain ⟨x, hx⟩ : ∃ x, s.n[k]? = some x := ⟨_, List.getElem?_eq_getElem hlt⟩
      obtain ⟨ad, rfl, p0⟩ := at_St (Kd.C_below HCN.out hbr) hx
      have hbd := (Below.refl wr.heap.size wr).drew
      have HLD := Lib.hid ((HL4.out.below hbr).below hbd)
      have HRD := Lib.hid ((HR4.out.below hbr).below hbd)
      clear hx hbd
      go_upto_region 9 with fail
      go_region_law (first
        | (go_simp; go_at_call 45; refine (looks_any HLD.out HRD.out x f t hf).mono ?_; rintro e w7 ⟨rfl, hb7⟩)
        | fail)
      all_goals
        have hbz : Below w4.heap.size w4 w7 := below_t hbr ((Below.refl _ wr).drew.trans hb7)
        clear a0 a1 p0
        go_wp2_with fail
        go_roundw
        case rel => exact ⟨k + 1, by omega, by go_num, hbz⟩
        case measure => simp [intOf]; omega
    · have HL5 := Lib.hid (HL4.out.below hbr)
      go_wp2_with fail
      refine (Trial_led HL5.out (by omega) t).mono ?_
      rintro e w6 ⟨⟨B6, c6, rfl, hR6⟩, hb6⟩
      have HR6 := Lib.hid ((HR4.out.below hbr).below hb6)
      have hB6 := hBr.move (hb6.block _ hBr.lt)
      clear a0 a1
      have a0 := hB6.cell 0 (v := .slice A1 s.n.length c1) rfl
      have a1 := hB6.cell 1 (v := .slice A3 s.r.length c3) rfl
      go_wp2_with fail
      refine (rtri_any w6 A1 A3 c1 c3 s HR6.out.C.1 HR6.out.C.2 hsm (by omega) t).mono ?_
      rintro e w7 ⟨⟨B7, c7, rfl, hR7⟩, hb7⟩
      have hR8 := Kd.R_below hR6 hb7
      have hbz := below_t (below_t (below_t hbw4 hbr) hb6) hb7
      clear a0 a1 hR6 hB6
      generalize triRL s t = ts at *
      generalize triRE t = te at *
      have e1 : (te == te) = true := by simp
      obtain ⟨B9, d9, hv9, _, hC9⟩ := Kd.R_reads hR8
      obtain ⟨Ba, da, hva, _, hCa⟩ := Kd.R_reads hR7
      simp only [Value.slice.injEq] at hv9 hva
      obtain ⟨rfl, -, rfl⟩ := hv9
      obtain ⟨rfl, -, rfl⟩ := hva
      clear hR7 hR8
      go_wp2_with fail
      refine (postings_any w7 B6 B7 c6 c7 ts hC9 hCa).mono ?_
      rintro e w8 ⟨rfl, hb8⟩
      go_wp2_with fail
      refine (alive_any _).mono ?_
      rintro e w9 ⟨rfl, hb9⟩
      go_wp2_with fail
      go_ret
      exact ⟨rfl, below_t (below_t hbz hb8) hb9⟩
theorem looks_law (A : Option Addr) (c : Nat) (l : List Ac) (_ : l.length ≤ c) (_ : c ≤ 9223372036854775807) {w : World} (hC : Kd.C kAc w A l.length l) (hg : ∀ a ∈ l, (Lit.int .u8 a.kind).wf = true ∧ a.name.size ≤ 9223372036854775807 ∧ (Lit.int .i64 a.day).wf = true ∧ (Lit.int .i64 a.no).wf = true ∧ (a.ps.length ≤ 9223372036854775807 ∧ ∀ p ∈ a.ps, p.a.size ≤ 9223372036854775807 ∧ (Lit.int .i64 p.c).wf = true))
    {a : ByteArray} (_ : a.size ≤ 9223372036854775807) {f : Int} (hf : (Lit.int .i64 f).wf = true) {t : Int} (_ : (Lit.int .i64 t).wf = true) :
    Calls Try.prog 14 #[.slice A l.length c, .string a, .int .i64 f, .int .i64 t] w fun e w' => e = .returned (.bool true) ∧ Below w.heap.size w w' := by
  have h6 : IntKind.i64.min ≤ f ∧ f ≤ IntKind.i64.max := by simpa [Lit.wf] using hf
  have e1 : IntKind.i64.min = -9223372036854775808 := by decide
  have e2 : IntKind.i64.max = 9223372036854775807 := by decide
  exact looks_walk A c l a f t (by omega) w hC (fun a ha => goodA_pl (hg a ha))
end Go.Proofs.Ytpmopdgnnlhplaa
