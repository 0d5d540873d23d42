/-
  The walk of the law AccountsChain.
-/
import Derived.Test.YtpmopdgnnlhplaaAc
import Derived.Test.YtpmopdgnnlhplaaVw
import Derived.Test.YtpmopdgnnlhplaaRk
namespace Go.Proofs.Ytpmopdgnnlhplaa
open Go.RowKit Go.Proofs.YtpmopdgnnlhplaaW.PrintWords
def endSum (b : Int) (l : List Rc) : Int := match l.getLast? with | some r => r.sum | none => b
theorem verC_le : ∀ (l : List Rc) (b : Int) (k : Nat), verC b k l ≤ k + l.length
  | [], _, _ => Nat.le_refl _
  | r :: rest, b, k => by
    rw [verC_cons]
    split
    · have := verC_le rest r.sum (k + 1)
      rw [List.length_cons]
      omega
    · omega
theorem verC_prefix : ∀ (l m : List Rc) (b : Int) (k : Nat), verC b k (l ++ m) = k + (l ++ m).length → verC b k l = k + l.length
  | [], _, _, _, _ => rfl
  | r :: rest, m, b, k, h => by
    rw [List.cons_append, verC_cons] at h
    rw [verC_cons]
    by_cases hc : r.no = k + 1 ∧ r.sum = dig b r.no r.day r.rev r.ps
    · rw [if_pos hc] at h ⊢
      have := verC_prefix rest m r.sum (k + 1) (by rw [h, List.length_cons]; omega)
      rw [this, List.length_cons]
      omega
    · rw [if_neg hc] at h
      simp at h
theorem split_at {recs : List Rc} {i : Nat} {x : Rc} (hx : recs[i]? = some x) : recs = recs.take i ++ x :: recs.drop (i + 1) := by
  have hk := (List.getElem?_eq_some_iff.1 hx).1
  have he := (List.getElem?_eq_some_iff.1 hx).2
  rw [← he, ← List.drop_eq_getElem_cons hk, List.take_append_drop]
theorem set_at {recs : List Rc} {i : Nat} {x : Rc} (hx : recs[i]? = some x) (y : Rc) : recs.set i y = recs.take i ++ y :: recs.drop (i + 1) := by
  have hk := (List.getElem?_eq_some_iff.1 hx).1
  conv => lhs; rw [split_at hx]
  rw [List.set_append_right _ _ (by rw [List.length_take]; exact Nat.min_le_left _ _), List.length_take, Nat.min_eq_left (by omega), Nat.sub_self]
  rfl
theorem chain_take {recs : List Rc} {i : Nat} {x : Rc} (h : verC 0 0 recs = recs.length) (hx : recs[i]? = some x) : verC 0 0 (recs.take i) = i := by
  have hk := (List.getElem?_eq_some_iff.1 hx).1
  have h2 := h
  rw [← List.take_append_drop i recs] at h2
  have := verC_prefix (recs.take i) (recs.drop i) 0 0 (by rw [h2]; omega)
  rw [this, List.length_take]
  omega
theorem chain_at {recs : List Rc} {i : Nat} {x : Rc} (h : verC 0 0 recs = recs.length) (hx : recs[i]? = some x) :
    (x.no = i + 1 ∧ x.sum = dig (endSum 0 (recs.take i)) x.no x.day x.rev x.ps) ∧
    ∀ y : Rc, ¬ (y.no = i + 1 ∧ y.sum = dig (endSum 0 (recs.take i)) y.no y.day y.rev y.ps) → verC 0 0 (recs.set i y) = i := by
  have hk := (List.getElem?_eq_some_iff.1 hx).1
  have ht := chain_take h hx
  have hl : (recs.take i).length = i := by rw [List.length_take]; omega
  have happ : ∀ y : Rc, verC 0 0 (recs.take i ++ y :: recs.drop (i + 1)) = verC (endSum 0 (recs.take i)) i (y :: recs.drop (i + 1)) := fun y => by
    have := verC_append (recs.take i) (y :: recs.drop (i + 1)) 0 0 (by rw [ht, hl]; omega)
    rw [hl, Nat.zero_add] at this
    exact this
  constructor
  · have h3 := h
    rw [split_at hx, happ, verC_cons] at h3
    refine Decidable.byContradiction fun hc => ?_
    rw [if_neg hc, List.length_append, List.length_cons, hl] at h3
    omega
  · intro y hy
    rw [set_at hx, happ, verC_cons, if_neg hy]
def flipF (x : Int) (f : Int) (j : Nat) : Int := bits BinOp.xor .i64 x (flipOf f j)
theorem u64_ne {a b : Int} (h : One 8 (u64 a) (u64 b)) : a ≠ b := fun e => h.ne (by rw [e])
theorem break_no {recs : List Rc} {i : Nat} {x : Rc} (h : verC 0 0 recs = recs.length) (hx : recs[i]? = some x) {f : Int} {j : Nat} (f0 : 1 ≤ f) (f1 : f ≤ 255) (hj : j < 8) :
    verC 0 0 (recs.set i { x with no := flipF x.no f j }) = i := by
  obtain ⟨⟨h1, _⟩, h2⟩ := chain_at h hx
  refine h2 _ fun hc => ?_
  exact u64_ne (flip_one x.no f j f0 f1 hj) (h1.trans hc.1.symm)
theorem break_day {recs : List Rc} {i : Nat} {x : Rc} (h : verC 0 0 recs = recs.length) (hx : recs[i]? = some x) {f : Int} {j : Nat} (f0 : 1 ≤ f) (f1 : f ≤ 255) (hj : j < 8) :
    verC 0 0 (recs.set i { x with day := flipF x.day f j }) = i := by
  obtain ⟨⟨_, h1⟩, h2⟩ := chain_at h hx
  exact h2 _ fun hc => dig_day (flip_one x.day f j f0 f1 hj) (h1.symm.trans hc.2)
theorem break_rev {recs : List Rc} {i : Nat} {x : Rc} (h : verC 0 0 recs = recs.length) (hx : recs[i]? = some x) {f : Int} {j : Nat} (f0 : 1 ≤ f) (f1 : f ≤ 255) (hj : j < 8) :
    verC 0 0 (recs.set i { x with rev := flipF x.rev f j }) = i := by
  obtain ⟨⟨_, h1⟩, h2⟩ := chain_at h hx
  exact h2 _ fun hc => dig_rev (flip_one x.rev f j f0 f1 hj) (h1.symm.trans hc.2)
theorem psplit {ps : List Pst} {k : Nat} {p : Pst} (hp : ps[k]? = some p) : ps = ps.take k ++ p :: ps.drop (k + 1) ∧ ∀ q, ps.set k q = ps.take k ++ q :: ps.drop (k + 1) := by
  have hk := (List.getElem?_eq_some_iff.1 hp).1
  have he := (List.getElem?_eq_some_iff.1 hp).2
  have h1 : ps = ps.take k ++ p :: ps.drop (k + 1) := by rw [← he, ← List.drop_eq_getElem_cons hk, List.take_append_drop]
  refine ⟨h1, fun q => ?_⟩
  conv => lhs; rw [h1]
  rw [List.set_append_right _ _ (by rw [List.length_take]; exact Nat.min_le_left _ _), List.length_take, Nat.min_eq_left (by omega), Nat.sub_self]
  rfl
theorem break_cents {recs : List Rc} {i : Nat} {x : Rc} (h : verC 0 0 recs = recs.length) (hx : recs[i]? = some x) {k : Nat} {p : Pst} (hp : x.ps[k]? = some p) {f : Int} {j : Nat} (f0 : 1 ≤ f) (f1 : f ≤ 255) (hj : j < 8) :
    verC 0 0 (recs.set i { x with ps := x.ps.set k ⟨p.a, flipF p.c f j⟩ }) = i := by
  obtain ⟨⟨_, h1⟩, h2⟩ := chain_at h hx
  refine h2 _ fun hc => ?_
  have h3 := hc.2
  simp only at h3
  obtain ⟨e1, e2⟩ := psplit hp
  rw [e2] at h3
  rw [e1] at h1
  exact dig_cents (flip_one p.c f j f0 f1 hj) (h1.symm.trans h3)
theorem R_C' {w : World} {base : Nat} {ok : Nat → Prop} {A : Option Addr} {n c : Nat} {recs : List Rc} (h : Kd.R kRc 34 w base ok (.slice A n c) recs) : Kd.C kRc w A recs.length recs ∧ n = recs.length := by
  obtain ⟨A', c', he, h1, h2⟩ := Kd.R_reads h
  simp only [Value.slice.injEq] at he
  obtain ⟨rfl, rfl, rfl⟩ := he
  exact ⟨h2, rfl⟩
theorem sum_set {recs : List Rc} (h : ∀ r ∈ recs, SumOk r) {y : Rc} (hy : SumOk y) (i : Nat) : ∀ r ∈ recs.set i y, SumOk r := fun r hr => by
  rcases List.mem_or_eq_of_mem_set hr with h1 | rfl
  · exact h r h1
  · exact hy
theorem sum_take {recs : List Rc} (h : ∀ r ∈ recs, SumOk r) (i : Nat) : ∀ r ∈ recs.take i, SumOk r := fun r hr => h r (List.mem_of_mem_take hr)
theorem take_set {recs : List Rc} (i : Nat) (y : Rc) : (recs.set i y).take i = recs.take i := by
  rw [List.take_set_of_le (Nat.le_refl _)]
theorem flip_eq (ub uf : Int) : wrap64 ((1 + ub % 255) * 2 ^ (8 * (uf / 4 % 8)).toNat) = flipOf (1 + ub % 255) (uf / 4 % 8).toNat := by
  unfold flipOf
  rw [Go.Proofs.YtpmopdgnnlhplaaW.PrintLast.i64_w, show (8 * (uf / 4 % 8)).toNat = 8 * (uf / 4 % 8).toNat by omega]
theorem goodA_of {a : Ac} (h : (Lit.int .u8 a.kind).wf = true ∧ a.name.size ≤ 9223372036854775807 ∧ (Lit.int .i64 a.day).wf = true ∧ (Lit.int .i64 a.no).wf = true ∧ (a.ps.length ≤ 9223372036854775807 ∧ ∀ p ∈ a.ps, p.a.size ≤ 9223372036854775807 ∧ (Lit.int .i64 p.c).wf = true)) : GoodA a := by
  have h6 : IntKind.u8.min ≤ a.kind ∧ a.kind ≤ IntKind.u8.max := by simpa [Lit.wf] using h.1
  have e1 : IntKind.u8.min = 0 := by decide
  have e2 : IntKind.u8.max = 255 := by decide
  exact ⟨by omega, by omega, fun p hp => (h.2.2.2.2.2 p hp).1⟩
set_option maxRecDepth 100000 in
set_option maxHeartbeats 4000000 in
theorem chain_walk (A : Option Addr) (c : Nat) (l : List Ac) (w : World) (hC : Kd.C kAc w A l.length l) (hg : ∀ a ∈ l, GoodA a) (at_ fi by_ : Int) :
    Calls Try.prog 9 #[.slice A l.length c, .int .i64 at_, .int .i64 fi, .int .i64 by_] w fun e w' => e = .returned (.bool true) ∧ Below w.heap.size w w' := by
  go_enter Try.func9, Try.ntmps9
  go_wp2_with fail
  refine (few_any w A c l hC).mono ?_
  rintro e w1 ⟨rfl, rfl⟩
  by_cases hfew : fewB l = false
  · rw [hfew]
    go_wp2_with fail
    refine (alive_any _).mono ?_
    rintro e w6 ⟨rfl, hb⟩
    go_wp2_with fail
    go_ret
    exact ⟨rfl, hb⟩
  have hfew' : fewB l = true := by simpa using hfew
  rw [hfew']
  clear hfew hfew'
  go_wp2_with fail
  refine (ledger_any w A c l hC hg).mono ?_
  rintro e w2 ⟨F, g, rfl, hL, hb2, hF⟩
  obtain ⟨rl, hG⟩ := hL.inv
  generalize runS l ⟨[], []⟩ = s at *
  go_wp2_with fail
  refine (Records_led hL).mono ?_
  rintro e w3 ⟨⟨A1, c1, rfl, hS⟩, hb3⟩
  have hb4 := below_t hb2 hb3
  have hw2 := hb2.size
  clear hb2 hb3 hL
  obtain ⟨_, hlc, hC1⟩ := Kd.S_reads' hS
  have hcn := Lib.hid hG.chain
  have hln := hG.len
  have hsum : ∀ r ∈ s.r, SumOk r := fun r hr => ⟨(hG.sums r hr).1, (hG.sums r hr).2, fun p hp => by
    have := nameB_size (hG.nm _ (memB_iff.1 ((hG.pss r hr).2.2 p hp).1))
    omega⟩
  go_wp2_with fail
  refine (Verify_any A1 c1 s.r hC1 hsum).mono ?_
  rintro e w5 ⟨rfl, hb5⟩
  rw [hcn.out]
  have hb6 := below_t hb4 hb5
  have hS5 := Kd.S_below hS hb5
  have hC5 := Kd.C_below hC1 hb5
  clear hb4 hb5 hS hC1
  by_cases h0 : s.r.length = 0
  · have hz : ((s.r.length : Int) == 0) = true := by simp [h0]
    have hz2 : ((s.r.length : Int) != (s.r.length : Int)) = false := by simp
    clear h0
    go_wp2_with fail
    refine (Verify_any A1 c1 s.r hC5 hsum).mono ?_
    rintro e w7 ⟨rfl, hb7⟩
    rw [hcn.out]
    have hb8 := below_t hb6 hb7
    go_wp2_with fail
    refine (alive_any _).mono ?_
    rintro e w8 ⟨rfl, hb⟩
    have hb9 := below_t hb8 hb
    go_wp2_with fail
    go_ret
    exact ⟨rfl, hb9⟩
  have hz : ((s.r.length : Int) == 0) = false := by simpa using h0
  have hz2 : ((s.r.length : Int) != (s.r.length : Int)) = false := by simp
  have hwl : IntKind.u64.wrap (s.r.length : Int) = s.r.length := by rw [wrap_u64]; omega
  have hua := W64_wrap at_
  have hub := W64_wrap by_
  have huf := W64_wrap fi
  unfold W64 at hua hub huf
  generalize hA : IntKind.u64.wrap at_ = ua at *
  generalize hBy : IntKind.u64.wrap by_ = ub at *
  generalize hFi : IntKind.u64.wrap fi = uf at *
  have hpos : (0 : Int) < s.r.length := by omega
  clear h0
  obtain ⟨i, hi⟩ : ∃ i : Nat, (i : Int) = ua % s.r.length := ⟨(ua % s.r.length).toNat, by have := Int.emod_nonneg ua (show (s.r.length : Int) ≠ 0 by omega); omega⟩
  have him : ua.tmod s.r.length = i := by rw [Int.tmod_eq_emod_of_nonneg hua.1, hi]
  have hil : i < s.r.length := by have := Int.emod_lt_of_pos ua hpos; omega
  have hwi : IntKind.i64.wrap (i : Int) = i := IntWalk.i64_in _ (by omega)
  obtain ⟨x, hx⟩ : ∃ x, s.r[i]? = some x := ⟨_, List.getElem?_eq_getElem hil⟩
  have hxm := List.mem_of_getElem? hx
  have hps := hG.pss x hxm
  have hsx := hsum x hxm
  obtain ⟨gr, cap, hv, _, hgrl, _⟩ := Kd.S_form hS5 (by omega)
  simp only [Value.slice.injEq, true_and] at hv
  obtain ⟨rfl, rfl⟩ := hv
  obtain ⟨cs, hcl, hM, hcc, hfz⟩ := Kd.R_elem (Kd.S_R hS5) zRc i (Int.natCast_nonneg i) (Int.ofNat_lt.2 hil)
  rw [Int.toNat_natCast, List.getD_eq_getElem?_getD, hx, Option.getD_some] at hM
  obtain ⟨v2, rfl, hR2⟩ := kRc_openM hM
  obtain ⟨A2, c2, rfl, hle2, hC2⟩ := Kd.R_reads hR2
  have hsz : kRc.sz = 5 := rfl
  rw [Int.toNat_natCast, hsz] at hcc hfz
  have p0 := hcc 0 _ rfl
  have p1 := hcc 1 _ rfl
  have p2 := hcc 2 _ rfl
  have p3 := hcc 3 _ rfl
  have p4 := hcc 4 _ rfl
  simp only [Nat.add_zero] at p0
  have HX := Lib.hid hx
  have hz3 : ((x.ps.length : Int) == 0) = false := beq_eq_false_iff_ne.2 (by have := hps.1; omega)
  have hB := Blk.new w5 #[.int .i64 x.no, .int .i64 x.day, .slice A2 x.ps.length c2, .int .i64 x.rev, .int .u64 x.sum] 34
  have hb7 := hb6.alloc hb6.size (.cells #[.int .i64 x.no, .int .i64 x.day, .slice A2 x.ps.length c2, .int .i64 x.rev, .int .u64 x.sum] 34)
  have hS6 := Kd.S_alloc hS5 (.cells #[.int .i64 x.no, .int .i64 x.day, .slice A2 x.ps.length c2, .int .i64 x.rev, .int .u64 x.sum] 34)
  clear hi hxm hM hR2 hC2 hfz hx
  go_upto_region 11 with fail
  have hgb : w5.heap.size ≠ gr := fun e => by rw [e] at hgrl; exact Nat.lt_irrefl _ hgrl
  have hp2 := cell_below ((Below.refl _ w5).alloc (Nat.le_refl _) (.cells #[.int .i64 x.no, .int .i64 x.day, .slice A2 x.ps.length c2, .int .i64 x.rev, .int .u64 x.sum] 34)) p2
  clear p0 p1 p2 p3 p4 hcc hcl hle2
  generalize w5.alloc (.cells #[.int .i64 x.no, .int .i64 x.day, .slice A2 x.ps.length c2, .int .i64 x.rev, .int .u64 x.sum] 34) = w6 at *
  generalize w5.heap.size = b at *
  obtain ⟨cs, hcl, hM, hcc, hfz⟩ := Kd.R_elem (Kd.S_R hS6) zRc i (Int.natCast_nonneg i) (Int.ofNat_lt.2 hil)
  rw [Int.toNat_natCast, List.getD_eq_getElem?_getD, HX.out, Option.getD_some] at hM
  obtain ⟨v2, rfl, hR2⟩ := kRc_openM hM
  rw [Int.toNat_natCast, hsz] at hcc hfz
  have p0 := hcc 0 _ rfl
  have p1 := hcc 1 _ rfl
  have p2 := hcc 2 _ rfl
  obtain rfl := Option.some.inj (hp2.symm.trans p2)
  have p3 := hcc 3 _ rfl
  have p4 := hcc 4 _ rfl
  have f0 := hfz 0
  have f1 := hfz 1
  have f3 := hfz 3
  simp only [Nat.add_zero] at p0 f0
  have b0 := hB.cell 0 (v := .int .i64 x.no) rfl
  have b1 := hB.cell 1 (v := .int .i64 x.day) rfl
  have b2 := hB.cell 2 (v := .slice A2 x.ps.length c2) rfl
  have b3 := hB.cell 3 (v := .int .i64 x.rev) rfl
  have HM := Lib.hid (fun (x' : Rc) (h : x'.ps = x.ps) => (show Kd.M kRc w6 0 (fun k => w2.heap.size ≤ k ∧ k ≠ gr) x' [.int .i64 x'.no, .int .i64 x'.day, .slice A2 x.ps.length c2, .int .i64 x'.rev, .int .u64 x'.sum] from kRc_mkM x' (by rw [h]; exact hR2)))
  have HCC := Lib.hid hcc
  have HCL := Lib.hid hcl
  clear hM hR2 hcc hfz hcl hS5 hC5 hb6 hp2
  have hfe := flip_eq ub uf
  have f0' : 1 ≤ 1 + ub % 255 := by omega
  have f1' : 1 + ub % 255 ≤ 255 := by omega
  have hj8 : (uf / 4 % 8).toNat < 8 := by omega
  have HB0 := Lib.hid (break_no (i := i) (x := x) hcn.out HX.out f0' f1' hj8)
  have HB1 := Lib.hid (break_day (i := i) (x := x) hcn.out HX.out f0' f1' hj8)
  have HB3 := Lib.hid (break_rev (i := i) (x := x) hcn.out HX.out f0' f1' hj8)
  have HB2 := Lib.hid (fun (k : Nat) (p : Pst) (hp : x.ps[k]? = some p) => break_cents (i := i) (x := x) hcn.out HX.out hp f0' f1' hj8)
  unfold flipF at HB0 HB1 HB2 HB3
  rw [← hfe] at HB0 HB1 HB2 HB3
  clear hfe
  have hq : uf % 4 = 0 ∨ uf % 4 = 1 ∨ uf % 4 = 2 ∨ uf % 4 = 3 := by omega
  rcases hq with hq | hq | hq | hq
  · clear f1 f3 HB1 HB2 HB3
    go_upto_region 15 with fail
    generalize wrap64 ((1 + ub % 255) * 2 ^ (8 * (uf / 4 % 8)).toNat) = fl at *
    obtain ⟨X, hXe⟩ : ∃ X : Rc, X = { x with no := bits BinOp.xor IntKind.i64 x.no fl } := ⟨_, rfl⟩
    have hbrk := Lib.hid (show verC 0 0 (s.r.set i X) = i by rw [hXe]; exact HB0.out)
    have hsy : SumOk X := by rw [hXe]; exact hsx
    have hseg := (Kd.R_seg (Kd.S_R hS6) (i : Int) (Int.natCast_nonneg i) (Int.ofNat_lt.2 hil) (c := [.int .i64 x.no, .int .i64 x.day, .slice A2 x.ps.length c2, .int .i64 x.rev, .int .u64 x.sum]) (seg := [.int .i64 (bits BinOp.xor IntKind.i64 x.no fl)]) (j := 0) (okp := fun k => w2.heap.size ≤ k ∧ k ≠ gr) HCL.out (by rw [Int.toNat_natCast, hsz]; exact HCC.out) (by rw [hsz]; exact (by decide : 0 + 1 ≤ 5)) (x' := X) (by subst hXe; exact HM.out { x with no := bits BinOp.xor IntKind.i64 x.no fl } rfl) (fun _ hk => hk)).1
    rw [Int.toNat_natCast, hsz] at hseg
    have hRx : Kd.R kRc 34 (w6.setCell ⟨gr, i * 5, none⟩ (.int .i64 (bits BinOp.xor IntKind.i64 x.no fl))) 0 (fun k => w2.heap.size ≤ k) (.slice (some ⟨gr, 0, none⟩) s.r.length c1) (s.r.set i X) := hseg
    have hgw : w.heap.size ≤ gr := Nat.le_trans hw2 ((Kd.S_R hS6).1 gr (by simp [Value.ownBlock]))
    have hbx : Below w.heap.size w (w6.setCell ⟨gr, i * 5, none⟩ (.int .i64 (bits BinOp.xor IntKind.i64 x.no fl))) := hb7.setCell hgw _
    clear HB0 hseg hXe HM
    have hCx := (R_C' hRx).1
    have hlx : (s.r.set i X).length = s.r.length := List.length_set ..
    have HLX := Lib.hid hlx
    have hver := Verify_any (some ⟨gr, 0, none⟩) c1 (s.r.set i X) hCx (sum_set hsum hsy i)
    rw [hlx, hbrk.out] at hver
    have HV := Lib.hid hver
    clear hver hlx
    go_wp2_with fail
    refine HV.out.mono ?_
    rintro e wv ⟨rfl, hbv⟩
    have hRt := Kd.R_take (Kd.R_below hRx hbv) (m := i) (by rw [HLX.out]; omega)
    rw [take_set] at hRt
    have hCt := (R_C' hRt).1
    have hlt : (s.r.take i).length = i := by rw [List.length_take]; omega
    have hbw := below_t hbx hbv
    have hver := Verify_any (some ⟨gr, 0, none⟩) c1 (s.r.take i) hCt (sum_take hsum i)
    rw [hlt, chain_take hcn.out HX.out] at hver
    have HV2 := Lib.hid hver
    clear hver hlt HV
    go_wp2_with fail
    refine HV2.out.mono ?_
    rintro e wt ⟨rfl, hbt⟩
    have hby := below_t hbw hbt
    go_wp2_with fail
    refine (alive_any _).mono ?_
    rintro e wz ⟨rfl, hbz⟩
    have hbq := below_t hby hbz
    go_wp2_with fail
    go_ret
    exact ⟨rfl, hbq⟩
  · clear f0 f3 HB0 HB2 HB3
    go_upto_region 15 with fail
    generalize wrap64 ((1 + ub % 255) * 2 ^ (8 * (uf / 4 % 8)).toNat) = fl at *
    obtain ⟨X, hXe⟩ : ∃ X : Rc, X = { x with day := bits BinOp.xor IntKind.i64 x.day fl } := ⟨_, rfl⟩
    have hbrk := Lib.hid (show verC 0 0 (s.r.set i X) = i by rw [hXe]; exact HB1.out)
    have hsy : SumOk X := by rw [hXe]; exact hsx
    have hseg := (Kd.R_seg (Kd.S_R hS6) (i : Int) (Int.natCast_nonneg i) (Int.ofNat_lt.2 hil) (c := [.int .i64 x.no, .int .i64 x.day, .slice A2 x.ps.length c2, .int .i64 x.rev, .int .u64 x.sum]) (seg := [.int .i64 (bits BinOp.xor IntKind.i64 x.day fl)]) (j := 1) (okp := fun k => w2.heap.size ≤ k ∧ k ≠ gr) HCL.out (by rw [Int.toNat_natCast, hsz]; exact HCC.out) (by rw [hsz]; exact (by decide : 1 + 1 ≤ 5)) (x' := X) (by subst hXe; exact HM.out { x with day := bits BinOp.xor IntKind.i64 x.day fl } rfl) (fun _ hk => hk)).1
    rw [Int.toNat_natCast, hsz] at hseg
    have hRx : Kd.R kRc 34 (w6.setCell ⟨gr, i * 5 + 1, none⟩ (.int .i64 (bits BinOp.xor IntKind.i64 x.day fl))) 0 (fun k => w2.heap.size ≤ k) (.slice (some ⟨gr, 0, none⟩) s.r.length c1) (s.r.set i X) := hseg
    have hgw : w.heap.size ≤ gr := Nat.le_trans hw2 ((Kd.S_R hS6).1 gr (by simp [Value.ownBlock]))
    have hbx : Below w.heap.size w (w6.setCell ⟨gr, i * 5 + 1, none⟩ (.int .i64 (bits BinOp.xor IntKind.i64 x.day fl))) := hb7.setCell hgw _
    clear HB1 hseg hXe HM
    have hCx := (R_C' hRx).1
    have hlx : (s.r.set i X).length = s.r.length := List.length_set ..
    have HLX := Lib.hid hlx
    have hver := Verify_any (some ⟨gr, 0, none⟩) c1 (s.r.set i X) hCx (sum_set hsum hsy i)
    rw [hlx, hbrk.out] at hver
    have HV := Lib.hid hver
    clear hver hlx
    go_wp2_with fail
    refine HV.out.mono ?_
    rintro e wv ⟨rfl, hbv⟩
    have hRt := Kd.R_take (Kd.R_below hRx hbv) (m := i) (by rw [HLX.out]; omega)
    rw [take_set] at hRt
    have hCt := (R_C' hRt).1
    have hlt : (s.r.take i).length = i := by rw [List.length_take]; omega
    have hbw := below_t hbx hbv
    have hver := Verify_any (some ⟨gr, 0, none⟩) c1 (s.r.take i) hCt (sum_take hsum i)
    rw [hlt, chain_take hcn.out HX.out] at hver
    have HV2 := Lib.hid hver
    clear hver hlt HV
    go_wp2_with fail
    refine HV2.out.mono ?_
    rintro e wt ⟨rfl, hbt⟩
    have hby := below_t hbw hbt
    go_wp2_with fail
    refine (alive_any _).mono ?_
    rintro e wz ⟨rfl, hbz⟩
    have hbq := below_t hby hbz
    go_wp2_with fail
    go_ret
    exact ⟨rfl, hbq⟩
  · clear f0 f1 HB0 HB1 HB2
    go_upto_region 15 with fail
    generalize wrap64 ((1 + ub % 255) * 2 ^ (8 * (uf / 4 % 8)).toNat) = fl at *
    obtain ⟨X, hXe⟩ : ∃ X : Rc, X = { x with rev := bits BinOp.xor IntKind.i64 x.rev fl } := ⟨_, rfl⟩
    have hbrk := Lib.hid (show verC 0 0 (s.r.set i X) = i by rw [hXe]; exact HB3.out)
    have hsy : SumOk X := by rw [hXe]; exact hsx
    have hseg := (Kd.R_seg (Kd.S_R hS6) (i : Int) (Int.natCast_nonneg i) (Int.ofNat_lt.2 hil) (c := [.int .i64 x.no, .int .i64 x.day, .slice A2 x.ps.length c2, .int .i64 x.rev, .int .u64 x.sum]) (seg := [.int .i64 (bits BinOp.xor IntKind.i64 x.rev fl)]) (j := 3) (okp := fun k => w2.heap.size ≤ k ∧ k ≠ gr) HCL.out (by rw [Int.toNat_natCast, hsz]; exact HCC.out) (by rw [hsz]; exact (by decide : 3 + 1 ≤ 5)) (x' := X) (by subst hXe; exact HM.out { x with rev := bits BinOp.xor IntKind.i64 x.rev fl } rfl) (fun _ hk => hk)).1
    rw [Int.toNat_natCast, hsz] at hseg
    have hRx : Kd.R kRc 34 (w6.setCell ⟨gr, i * 5 + 3, none⟩ (.int .i64 (bits BinOp.xor IntKind.i64 x.rev fl))) 0 (fun k => w2.heap.size ≤ k) (.slice (some ⟨gr, 0, none⟩) s.r.length c1) (s.r.set i X) := hseg
    have hgw : w.heap.size ≤ gr := Nat.le_trans hw2 ((Kd.S_R hS6).1 gr (by simp [Value.ownBlock]))
    have hbx : Below w.heap.size w (w6.setCell ⟨gr, i * 5 + 3, none⟩ (.int .i64 (bits BinOp.xor IntKind.i64 x.rev fl))) := hb7.setCell hgw _
    clear HB3 hseg hXe HM
    have hCx := (R_C' hRx).1
    have hlx : (s.r.set i X).length = s.r.length := List.length_set ..
    have HLX := Lib.hid hlx
    have hver := Verify_any (some ⟨gr, 0, none⟩) c1 (s.r.set i X) hCx (sum_set hsum hsy i)
    rw [hlx, hbrk.out] at hver
    have HV := Lib.hid hver
    clear hver hlx
    go_wp2_with fail
    refine HV.out.mono ?_
    rintro e wv ⟨rfl, hbv⟩
    have hRt := Kd.R_take (Kd.R_below hRx hbv) (m := i) (by rw [HLX.out]; omega)
    rw [take_set] at hRt
    have hCt := (R_C' hRt).1
    have hlt : (s.r.take i).length = i := by rw [List.length_take]; omega
    have hbw := below_t hbx hbv
    have hver := Verify_any (some ⟨gr, 0, none⟩) c1 (s.r.take i) hCt (sum_take hsum i)
    rw [hlt, chain_take hcn.out HX.out] at hver
    have HV2 := Lib.hid hver
    clear hver hlt HV
    go_wp2_with fail
    refine HV2.out.mono ?_
    rintro e wt ⟨rfl, hbt⟩
    have hby := below_t hbw hbt
    go_wp2_with fail
    refine (alive_any _).mono ?_
    rintro e wz ⟨rfl, hbz⟩
    have hbq := below_t hby hbz
    go_wp2_with fail
    go_ret
    exact ⟨rfl, hbq⟩
  · clear f0 f1 f3 HB0 HB1 HB3 p0 p1 p3 p4 b0 b1 b3 HCC HCL HM
    go_upto_region 15 with fail
    generalize wrap64 ((1 + ub % 255) * 2 ^ (8 * (uf / 4 % 8)).toNat) = fl at *
    have hpl : (0 : Int) < x.ps.length := by have := hps.1; omega
    obtain ⟨k, hk⟩ : ∃ k : Nat, (k : Int) = ub / 255 % x.ps.length := ⟨(ub / 255 % x.ps.length).toNat, by have := Int.emod_nonneg (ub / 255) (show (x.ps.length : Int) ≠ 0 by omega); omega⟩
    have hkl : k < x.ps.length := by have := Int.emod_lt_of_pos (ub / 255) hpl; omega
    have hkt : (ub / 255).tmod x.ps.length = k := by rw [Int.tmod_eq_emod_of_nonneg (by omega), hk]
    have hwk : IntKind.i64.wrap (k : Int) = k := IntWalk.i64_in _ (by have := hps.2.1; omega)
    have hwp : IntKind.u64.wrap (x.ps.length : Int) = x.ps.length := by rw [wrap_u64]; have := hps.2.1; omega
    obtain ⟨y, hy⟩ : ∃ y, x.ps[k]? = some y := ⟨_, List.getElem?_eq_getElem hkl⟩
    obtain ⟨oki, cs, hcl, hM, hcc, hoki, hback⟩ := Kd.S_borrow hS6 zRc (i : Int) (Int.natCast_nonneg i) (Int.ofNat_lt.2 hil)
    rw [Int.toNat_natCast, List.getD_eq_getElem?_getD, HX.out, Option.getD_some] at hM
    obtain ⟨v3, rfl, hR3⟩ := kRc_openM hM
    rw [Int.toNat_natCast, hsz] at hcc
    have p2' : w6.cell? ⟨gr, i * 5 + 2, none⟩ = some v3 := by simpa [Addr.add] using hcc 2 _ rfl
    obtain rfl := Option.some.inj (p2.symm.trans p2')
    obtain ⟨gp, cap, hv, _, hgpl, _⟩ := Kd.R_form hR3 (by omega)
    simp only [Value.slice.injEq, true_and] at hv
    obtain ⟨rfl, rfl⟩ := hv
    have hog := hR3.1 gp (by simp [Value.ownBlock])
    obtain ⟨ds, hdl, hN, hdd, hfz⟩ := Kd.R_elem hR3 (⟨⟨#[]⟩, 0⟩ : Pst) (k : Int) (Int.natCast_nonneg k) (Int.ofNat_lt.2 hkl)
    rw [Int.toNat_natCast, List.getD_eq_getElem?_getD, hy, Option.getD_some] at hN
    obtain rfl := kPst_openM hN
    have hsp : kPst.sz = 2 := rfl
    have hseg := Kd.R_seg hR3 (k : Int) (Int.natCast_nonneg k) (Int.ofNat_lt.2 hkl) (c := [.string y.a, .int .i64 y.c]) (seg := [.int .i64 (bits BinOp.xor IntKind.i64 y.c fl)]) (j := 1) (okp := fun _ => False) hdl hdd (by rw [hsp]; exact Nat.le_refl _) (x' := ⟨y.a, bits BinOp.xor IntKind.i64 y.c fl⟩) (kPst_mkM ⟨y.a, bits BinOp.xor IntKind.i64 y.c fl⟩) (fun _ hf => hf.elim)
    rw [Int.toNat_natCast, hsp] at hdd hfz hseg
    have q1 := hdd 1 _ rfl
    have g1 := hfz 1
    obtain ⟨X, hXe⟩ : ∃ X : Rc, X = { x with ps := x.ps.set k ⟨y.a, bits BinOp.xor IntKind.i64 y.c fl⟩ } := ⟨_, rfl⟩
    have hbrk := Lib.hid (show verC 0 0 (s.r.set i X) = i by rw [hXe]; exact HB2.out k y hy)
    have hsy : SumOk X := by
      rw [hXe]
      refine ⟨hsx.1, hsx.2.1, fun p hp => ?_⟩
      rcases List.mem_or_eq_of_mem_set hp with h1 | rfl
      · exact hsx.2.2 p h1
      · exact hsx.2.2 y (List.mem_of_getElem? hy)
    have hS7 := hback (w1 := w6.setCell ⟨gp, k * 2 + 1, none⟩ (.int .i64 (bits BinOp.xor IntKind.i64 y.c fl))) (row := some gp) (x' := X) hseg.2 (fun q hq => by injection hq with hq; rw [← hq]; exact hog) (by
      rw [hXe]
      exact kRc_mkM { x with ps := x.ps.set k ⟨y.a, bits BinOp.xor IntKind.i64 y.c fl⟩ } (by exact hseg.1))
    rw [Int.toNat_natCast] at hS7
    have hRx := Kd.R_drew (Kd.S_R hS7)
    have hgw : w.heap.size ≤ gp := Nat.le_trans hw2 (hoki gp hog).1
    have hbx : Below w.heap.size w (w6.setCell ⟨gp, k * 2 + 1, none⟩ (.int .i64 (bits BinOp.xor IntKind.i64 y.c fl))).drew := (hb7.setCell (p := ⟨gp, k * 2 + 1, none⟩) hgw _).drew
    have hgpr : gp ≠ gr := fun e => (hoki gp hog).2 (by rw [e]; simp [Value.ownBlock])
    clear HB2 hseg hXe hN hdd hdl hfz hback hM hcc hcl hR3 hk p2' hy
    go_upto_region 14 with fail
    refine calm ?_
    go_region_law (first | fail)
    clear hS6 hS7 hB p2 b2 q1 g1
    all_goals
      simp only [Calm]
      have hCx := (R_C' hRx).1
      have hlx : (s.r.set i X).length = s.r.length := List.length_set ..
      have HLX := Lib.hid hlx
      have hver := Verify_any (some ⟨gr, 0, none⟩) c1 (s.r.set i X) hCx (sum_set hsum hsy i)
      rw [hlx, hbrk.out] at hver
      have HV := Lib.hid hver
      clear hver hlx
      go_wp2_with fail
      refine HV.out.mono ?_
      rintro e wv ⟨rfl, hbv⟩
      have hRt := Kd.R_take (Kd.R_below hRx hbv) (m := i) (by rw [HLX.out]; omega)
      rw [take_set] at hRt
      have hCt := (R_C' hRt).1
      have hlt : (s.r.take i).length = i := by rw [List.length_take]; omega
      have hbw := below_t hbx hbv
      have hver := Verify_any (some ⟨gr, 0, none⟩) c1 (s.r.take i) hCt (sum_take hsum i)
      rw [hlt, chain_take hcn.out HX.out] at hver
      have HV2 := Lib.hid hver
      clear hver hlt HV
      go_wp2_with fail
      refine HV2.out.mono ?_
      rintro e wt ⟨rfl, hbt⟩
      have hby := below_t hbw hbt
      go_wp2_with fail
      refine (alive_any _).mono ?_
      rintro e wz ⟨rfl, hbz⟩
      have hbq := below_t hby hbz
      go_wp2_with fail
      go_ret
      exact ⟨rfl, hbq⟩
theorem chain_law (A : Option Addr) (c : Nat) (l : List Ac) (_ : l.length ≤ c) (_ : c ≤ 9223372036854775807) {w : World} (hC : Kd.C kAc w A l.length l) (hg : ∀ a ∈ l, (Lit.int .u8 a.kind).wf = true ∧ a.name.size ≤ 9223372036854775807 ∧ (Lit.int .i64 a.day).wf = true ∧ (Lit.int .i64 a.no).wf = true ∧ (a.ps.length ≤ 9223372036854775807 ∧ ∀ p ∈ a.ps, p.a.size ≤ 9223372036854775807 ∧ (Lit.int .i64 p.c).wf = true))
    {at_ : Int} (_ : (Lit.int .i64 at_).wf = true) {fi : Int} (_ : (Lit.int .i64 fi).wf = true) {by_ : Int} (_ : (Lit.int .i64 by_).wf = true) :
    Calls Try.prog 9 #[.slice A l.length c, .int .i64 at_, .int .i64 fi, .int .i64 by_] w fun e w' => e = .returned (.bool true) ∧ Below w.heap.size w w' :=
  chain_walk A c l w hC (fun a ha => goodA_of (hg a ha)) at_ fi by_
end Go.Proofs.Ytpmopdgnnlhplaa
