/-
  FlowBlends: the search walked.
-/
import Derived.Test.YtpbndcmmclkdpaaNb
namespace Go.Proofs.Ytpbndcmmclkdpaa
open PFlowSolves
open Go.RowKit Go.Proofs.YtpbndcmmclkdpaaW.PrintWords
abbrev big : Int := 1152921504606846976
/-- The blocks that the search writes. -/
abbrev FW (bc bl gb : Nat) : Nat → Prop := fun b => b = bc ∨ b = bl ∨ b = gb
abbrev ptrsB (bc bp blo bk bhi bcur bl bf : Nat) : Array Value := #[.pointer (some ⟨bc, 0, none⟩), .pointer (some ⟨bp, 0, none⟩), .pointer (some ⟨blo, 0, none⟩), .pointer (some ⟨bk, 0, none⟩), .pointer (some ⟨bhi, 0, none⟩), .pointer (some ⟨bcur, 0, none⟩), .pointer (some ⟨bl, 0, none⟩), .pointer (some ⟨bf, 0, none⟩)]
abbrev argsB (x y z t : Int) (bc bp blo bk bhi bcur bl bf : Nat) : Array Value := #[.int .i64 x, .int .i64 y, .int .i64 z, .int .i64 t, .pointer (some ⟨bc, 0, none⟩), .pointer (some ⟨bp, 0, none⟩), .pointer (some ⟨blo, 0, none⟩), .pointer (some ⟨bk, 0, none⟩), .pointer (some ⟨bhi, 0, none⟩), .pointer (some ⟨bcur, 0, none⟩), .pointer (some ⟨bl, 0, none⟩), .pointer (some ⟨bf, 0, none⟩)]
/-- The cells of the search that stay. -/
structure SM (w : World) (bc bp blo bk bhi bcur bl bf gb : Nat) (PA : Option Addr) (pc : Nat) (ps : List S49) (lo k hi : Int) : Prop where
  fp : w.cell? ⟨bp, 0, none⟩ = some (.slice PA ps.length pc)
  fps : Kd.C k49 w PA ps.length ps
  flo : w.cell? ⟨blo, 0, none⟩ = some (.int .i64 lo)
  fk : w.cell? ⟨bk, 0, none⟩ = some (.int .i64 k)
  fhi : w.cell? ⟨bhi, 0, none⟩ = some (.int .i64 hi)
  fcur : w.cell? ⟨bcur, 0, none⟩ = some (.slice (some ⟨gb, 0, none⟩) ps.length ps.length)
  ff : w.cell? ⟨bf, 0, none⟩ = some (.func (.func 64) #[] (ptrsB bc bp blo bk bhi bcur bl bf))
/-- The list that was found, if one was. -/
def LV (w : World) (bc bl gb n base : Nat) (st : Int × List Int) (v : Value) : Prop :=
  (v = .slice none 0 0 ∧ st.1 = big) ∨ (∃ b c, v = .slice (some ⟨b, 0, none⟩) n c ∧ st.2.length = n ∧ TI w b n (fun j => st.2.getD j 0) ∧ base ≤ b ∧ ¬ FW bc bl gb b ∧ st.1 < big)
/-- What the search knows. -/
structure SS (w : World) (bc bl gb n base : Nat) (st : Int × List Int) (f : Nat → Int) : Prop where
  c : Blk w bc #[.int .i64 st.1] 3
  l : ∃ v, Blk w bl #[v] 23 ∧ LV w bc bl gb n base st v
  g : TI w gb n f
def RunPost (bc bl gb n base : Nat) (st : Int × List Int) (f : Nat → Int) (i : Nat) (w : World) (e : Ending) (w' : World) : Prop :=
  (∃ v, e = .returned v) ∧ (∃ f', SS w' bc bl gb n base st f' ∧ ∀ j, j < i → f' j = f j) ∧ Fr (FW bc bl gb) w w'
theorem SS.set {w w' : World} {bc bl gb n base : Nat} {st : Int × List Int} {f f' : Nat → Int} (h : SS w bc bl gb n base st f) (hne : bc ≠ bl ∧ bc ≠ gb ∧ bl ≠ gb) (hf : Fr (fun b => b = gb) w w') (hg : TI w' gb n f') : SS w' bc bl gb n base st f' :=
  ⟨h.c.fr hf hne.2.1, by
    obtain ⟨v, h1, h2⟩ := h.l
    refine ⟨v, h1.fr hf hne.2.2, ?_⟩
    rcases h2 with h2 | ⟨b, c, e1, e2, e3, e4, e5, e6⟩
    · exact .inl h2
    · exact .inr ⟨b, c, e1, e2, e3.fr hf (fun e => e5 (.inr (.inr e))), e4, e5, e6⟩, hg⟩
theorem SS.fr0 {w w' : World} {bc bl gb n base : Nat} {st : Int × List Int} {f : Nat → Int} (h : SS w bc bl gb n base st f) (hf : Fr (fun _ => False) w w') : SS w' bc bl gb n base st f :=
  ⟨h.c.fr hf (fun a => a), by
    obtain ⟨v, h1, h2⟩ := h.l
    refine ⟨v, h1.fr hf (fun a => a), ?_⟩
    rcases h2 with h2 | ⟨b, c, e1, e2, e3, e4, e5, e6⟩
    · exact .inl h2
    · exact .inr ⟨b, c, e1, e2, e3.fr hf (fun a => a), e4, e5, e6⟩, h.g.fr hf (fun a => a)⟩
theorem okP_out {p : S49} (h : okP p = true) : (0 ≤ p.f0 ∧ p.f0 ≤ 4096) ∧ (0 ≤ p.f1 ∧ p.f1 ≤ 16384) ∧ (0 ≤ p.f2 ∧ p.f2 ≤ 10000) := by
  unfold okP inB at h
  simp only [Bool.and_eq_true, decide_eq_true_eq] at h
  exact ⟨h.1, h.2.1, h.2.2.1⟩
section
variable {bc bp blo bk bhi bcur bl bf gb : Nat} {PA : Option Addr} {pc : Nat} {ps : List S49} {lo k hi : Int} {base : Nat}
set_option maxRecDepth 100000 in
set_option maxHeartbeats 8000000 in
theorem find_nil (hlo : 0 ≤ lo ∧ lo ≤ 10000) (hhi : 0 ≤ hi ∧ hi ≤ 10000) (hk : 1 ≤ k ∧ k ≤ 24) (hn : ps.length ≤ 6) (hne : bc ≠ bl ∧ bc ≠ gb ∧ bl ≠ gb)
    (w : World) (pre : List Int) (left : Nat) (g s : Int) (st : Int × List Int) (f : Nat → Int) (hz : left = 0 → 1 ≤ ps.length) (hp : pre.length = ps.length) (hf : ∀ j, j < pre.length → f j = pre.getD j 0)
    (hs : s < big) (hS : ∀ W, Fr (FW bc bl gb) w W → SM W bc bp blo bk bhi bcur bl bf gb PA pc ps lo k hi) (hT : SS w bc bl gb ps.length base st f) (hb : base ≤ w.heap.size) :
    Calls Try.prog 64 (argsB ps.length left g s bc bp blo bk bhi bcur bl bf) w (RunPost bc bl gb ps.length base (runB (lo * k) (hi * k) [] pre left g s st) f ps.length w) := by
  obtain ⟨m1, m2, m3, m4, m5, m6, m7⟩ := hS w (Fr.refl _ _)
  obtain ⟨t1, ⟨v, t2, t3⟩, t4⟩ := hT
  have c0 := Blk.cell t1 0 (v := .int .i64 st.1) rfl
  have HT : Hid (SS w bc bl gb ps.length base st f) := Lib.hid ⟨t1, ⟨v, t2, t3⟩, t4⟩
  have HR := Lib.hid (runB_nil (lo * k) (hi * k) pre left g s st)
  have HN := Lib.hid hn
  have HZ := Lib.hid hz
  have l1 : 0 ≤ lo * k ∧ lo * k ≤ 10000 * 24 := ⟨Int.mul_nonneg hlo.1 (by omega), Int.mul_le_mul hlo.2 hk.2 (by omega) (by omega)⟩
  have l2 : 0 ≤ hi * k ∧ hi * k ≤ 10000 * 24 := ⟨Int.mul_nonneg hhi.1 (by omega), Int.mul_le_mul hhi.2 hk.2 (by omega) (by omega)⟩
  have hw1 : IntKind.i64.wrap (lo * k) = lo * k := IntWalk.i64_in _ (by omega)
  have hw2 : IntKind.i64.wrap (hi * k) = hi * k := IntWalk.i64_in _ (by omega)
  clear l1 l2 hS m2 m7 hn hz
  simp only [argsB]
  by_cases hd : st.1 ≤ s
  · have e1 : decide (st.1 ≤ s) = true := decide_eq_true hd
    have HR2 : Hid (runB (lo * k) (hi * k) [] pre left g s st = st) := Lib.hid (by rw [HR.out, if_neg (fun h => by omega)])
    clear hd
    go_enter Try.func64, Try.ntmps64
    go_wp2_with fail
    refine bodyPost_ret (results_none rfl _ _ _) rfl ?_
    exact ⟨⟨_, rfl⟩, ⟨f, by rw [HR2.out]; exact HT.out, fun _ _ => rfl⟩, Fr.refl _ _⟩
  · have e1 : decide (st.1 ≤ s) = false := decide_eq_false hd
    by_cases hok : (left : Int) = 0 ∧ lo * k ≤ g ∧ g ≤ hi * k
    · have HR2 : Hid (runB (lo * k) (hi * k) [] pre left g s st = (s, pre)) := Lib.hid (by rw [HR.out, if_pos ⟨hok, by omega⟩])
      have e2 : ((left : Int) == 0) = true := beq_iff_eq.2 hok.1
      have e3 : decide (lo * k ≤ g) = true := decide_eq_true hok.2.1
      have e4 : decide (g ≤ hi * k) = true := decide_eq_true hok.2.2
      have hfp : ∀ j, j < ps.length → f j = pre.getD j 0 := fun j hj => hf j (by omega)
      have hCC := TI_C t4 pre hp (by have := HN.out; omega) hfp
      rw [hp] at hCC
      have HCC := Lib.hid hCC
      have HPL := Lib.hid hp
      have HN1 : Hid (1 ≤ ps.length) := Lib.hid (HZ.out (by omega))
      have q1 := Blk.free t1 0
      have q2 := Blk.cell t2 0 (v := v) rfl
      have q3 := Blk.free t2 0
      have HTT := Lib.hid (And.intro t1 (And.intro t2 t4))
      have HNE := Lib.hid hne
      have HS := Lib.hid hs
      have HB := Lib.hid hb
      clear hd hok hfp hCC hf hp t1 t2 t3 t4 hne hs hb hk hlo hhi
      go_enter Try.func64, Try.ntmps64
      go_upto_region 3 with (fail)
      have hnil : Kd.R (Kd.int .i64) 3 w 0 (fun k => w.heap.size ≤ k) (.slice none 0 0) [] := Kd.R_nil _ _ _ _ _
      have hKM : ∀ (x : Int) (cs : List Value), (Kd.int .i64).K w x cs → (Kd.int .i64).M w 0 (fun _ => False) x cs := fun x cs hK => hK
      have hl' : (([] : List Int).length + pre.length) * 8 ≤ 140737488355328 := by have := HN.out; have := HPL.out; simp; omega
      have hCC : Kd.C (Kd.int .i64) w (some ⟨gb, 0, none⟩) pre.length pre := by rw [HPL.out]; exact HCC.out
      rw [← HPL.out] at m6
      go_wp2_with (at_builtin; refine Kd.R_append_rows (Kd.int .i64) (Rr := (Kd.int .i64).K w) (w0 := w) 0 rfl _ _ 23 3 (.int .i64 0) 8 rfl Try.underlying23 info3 rfl (by decide) (by decide) (.slice none 0 0) [] pre (some ⟨gb, 0, none⟩) pre.length pre.length (fun k => w.heap.size ≤ k) (fun _ => False) rfl rfl hnil hCC hKM (fun _ hk => hk.elim) (fun _ h => h) (Below.refl _ _) (Nat.zero_le _) hl' ?_; intro v1 w1 hR1 hb1 hg1 hat1; rw [List.nil_append] at hR1; obtain ⟨nb, c', rfl, hbw, ht⟩ := R_TI hR1 (by rw [HPL.out]; exact HN1.out); have hF1 : Fr (fun _ => False) w w1 := (Fr.refl _ w).grown hg1 (fun k hk => absurd hk (by simp [Value.ownBlock])); have u1 := HTT.out.1.fr hF1 (fun a => a); have u2 := HTT.out.2.1.fr hF1 (fun a => a); have p1 := Blk.cell u2 0 (v := v) rfl; have p2 := Blk.free u2 0; have hF2 := (Fr.refl (fun b => b = bl) w1).setCell (p := ⟨bl, 0, none⟩) (.inl rfl) (.slice (some ⟨nb, 0, none⟩) pre.length c'); have u3 := u1.fr hF2 HNE.out.1; have p3 := Blk.cell u3 0 (v := .int .i64 st.1) rfl; have p4 := Blk.free u3 0)
      have hlb : bc < w.heap.size ∧ bl < w.heap.size ∧ gb < w.heap.size := ⟨Blk.lt HTT.out.1, Blk.lt HTT.out.2.1, TV.lt HTT.out.2.2⟩
      have hne := HNE.out
      have hF3 : Fr (fun b => b = bc ∨ b = bl) w1 ((w1.setCell ⟨bl, 0, none⟩ (.slice (some ⟨nb, 0, none⟩) pre.length c')).setCell ⟨bc, 0, none⟩ (.int .i64 s)) := ((Fr.refl (fun b => b = bc ∨ b = bl) w1).setCell (p := ⟨bl, 0, none⟩) (.inl (.inr rfl)) _).setCell (p := ⟨bc, 0, none⟩) (.inl (.inl rfl)) _
      have hF4 := (Fr.refl (fun b => b = bc) (w1.setCell ⟨bl, 0, none⟩ (.slice (some ⟨nb, 0, none⟩) pre.length c'))).setCell (p := ⟨bc, 0, none⟩) (.inl rfl) (.int .i64 s)
      refine bodyPost_ret (results_none rfl _ _ _) rfl ?_
      rw [HR2.out]
      refine ⟨⟨_, rfl⟩, ⟨f, ⟨Blk.set u3 0 (.int .i64 s), ⟨_, (Blk.set u2 0 _).fr hF4 (fun h => hne.1 h.symm), .inr ⟨nb, c', by rw [HPL.out], HPL.out, ?_, Nat.le_trans HB.out hbw, fun h => by rcases h with h | h | h <;> omega, HS.out⟩⟩, (HTT.out.2.2.fr hF1 (fun a => a)).fr hF3 (fun h => by rcases h with h | h <;> omega)⟩, fun _ _ => rfl⟩, ?_⟩
      · have := ht.fr hF3 (fun h => by rcases h with h | h <;> omega)
        rw [← HPL.out]
        exact this
      · exact (hF1.mono (fun x h => h.elim)).trans hF3 (fun x h => .inl (h.elim .inl (fun h => .inr (.inl h))))
    · have HR2 : Hid (runB (lo * k) (hi * k) [] pre left g s st = st) := Lib.hid (by rw [HR.out, if_neg (fun h => hok h.1)])
      clear hf hp hne hs hb hd
      by_cases h2 : (left : Int) = 0
      · have e2 : ((left : Int) == 0) = true := beq_iff_eq.2 h2
        by_cases h3 : lo * k ≤ g
        · have e3 : decide (lo * k ≤ g) = true := decide_eq_true h3
          have e4 : decide (g ≤ hi * k) = false := decide_eq_false (fun h4 => hok ⟨h2, h3, h4⟩)
          clear h2 h3 hok hlo hhi hk
          go_enter Try.func64, Try.ntmps64
          go_wp2_with fail
          refine bodyPost_ret (results_none rfl _ _ _) rfl ?_
          exact ⟨⟨_, rfl⟩, ⟨f, by rw [HR2.out]; exact HT.out, fun _ _ => rfl⟩, Fr.refl _ _⟩
        · have e3 : decide (lo * k ≤ g) = false := decide_eq_false h3
          clear h2 h3 hok hlo hhi hk
          go_enter Try.func64, Try.ntmps64
          go_wp2_with fail
          refine bodyPost_ret (results_none rfl _ _ _) rfl ?_
          exact ⟨⟨_, rfl⟩, ⟨f, by rw [HR2.out]; exact HT.out, fun _ _ => rfl⟩, Fr.refl _ _⟩
      · have e2 : ((left : Int) == 0) = false := beq_eq_false_iff_ne.2 h2
        clear h2 hok hlo hhi hk
        go_enter Try.func64, Try.ntmps64
        go_wp2_with fail
        refine bodyPost_ret (results_none rfl _ _ _) rfl ?_
        exact ⟨⟨_, rfl⟩, ⟨f, by rw [HR2.out]; exact HT.out, fun _ _ => rfl⟩, Fr.refl _ _⟩
theorem rd49 {l : List S49} {i : Nat} {a : S49} (h : l[i]? = some a) : rd_T49 l (i : Int) = a := by
  unfold rd_T49; rw [Int.toNat_natCast, List.getD_eq_getElem?_getD, h]; rfl
theorem keepF {w W : World} {pd : Addr} {i : Nat} {p : S49} (hS : ∀ W, Fr (FW bc bl gb) w W → SM W bc bp blo bk bhi bcur bl bf gb (some pd) pc ps lo k hi) (h : Fr (FW bc bl gb) w W) (hat : ps[i]? = some p) :
    W.cell? ⟨bf, 0, none⟩ = some (.func (.func 64) #[] (ptrsB bc bp blo bk bhi bcur bl bf)) ∧ W.cell? ⟨bp, 0, none⟩ = some (.slice (some pd) ps.length pc) ∧
    W.cell? ⟨(pd.add (i * 5)).block, (pd.add (i * 5)).off + 1, none⟩ = some (.int .i64 p.f1) ∧ W.cell? ⟨(pd.add (i * 5)).block, (pd.add (i * 5)).off + 2, none⟩ = some (.int .i64 p.f2) ∧ Fr (FW bc bl gb) w W := by
  obtain ⟨m1, m2, m3, m4, m5, m6, m7⟩ := hS W h
  have hi : i < ps.length := (List.getElem?_eq_some_iff.1 hat).1
  obtain ⟨ad, e, q0, q1, q2, q3, q4⟩ := at_T49 m2 (i : Int) (by omega) (by omega)
  obtain rfl := Option.some.inj e
  rw [rd49 hat, Int.toNat_natCast] at q1 q2
  exact ⟨m7, m1, q1, q2, h⟩
def tailB (lo hi : Int) (p : S49) (ps : List S49) (pre : List Int) (n : Nat) (g s : Int) : Nat → (Int × List Int) → Int × List Int
  | 0, st => st
  | t + 1, st => turnB lo hi p ps pre n g s t st
theorem tailB_next (lo hi : Int) (p : S49) (ps : List S49) (pre : List Int) (n : Nat) (g s : Int) (t : Nat) (st : Int × List Int) :
    tailB lo hi p ps pre n g s (t + 1) st = tailB lo hi p ps pre n g s t (runB lo hi ps (pre ++ [(t : Int)]) (n - t) (g + t * p.f2) (s + t * p.f1) st) := by
  cases t with
  | zero => simp [tailB, turnB]
  | succ t => rfl
set_option maxRecDepth 100000 in
set_option maxHeartbeats 8000000 in
theorem find_any (hlo : 0 ≤ lo ∧ lo ≤ 10000) (hhi : 0 ≤ hi ∧ hi ≤ 10000) (hk : 1 ≤ k ∧ k ≤ 24) (hn : ps.length ≤ 6) (hne : bc ≠ bl ∧ bc ≠ gb ∧ bl ≠ gb) (hps : ∀ p ∈ ps, okP p = true) :
    ∀ (rest done : List S49), done ++ rest = ps → ∀ (w : World) (pre : List Int) (left : Nat) (g s : Int) (st : Int × List Int) (f : Nat → Int), left ≤ 24 → (ps = [] → left ≠ 0) → pre.length = done.length → (∀ j, j < pre.length → f j = pre.getD j 0) →
    (0 ≤ g ∧ g + left * 10000 ≤ 240000) → (0 ≤ s ∧ s + left * 16384 ≤ 393216) → (∀ W, Fr (FW bc bl gb) w W → SM W bc bp blo bk bhi bcur bl bf gb PA pc ps lo k hi) → SS w bc bl gb ps.length base st f → base ≤ w.heap.size →
    Calls Try.prog 64 (argsB done.length left g s bc bp blo bk bhi bcur bl bf) w (RunPost bc bl gb ps.length base (runB (lo * k) (hi * k) rest pre left g s st) f done.length w) := by
  intro rest
  induction rest with
  | nil =>
    intro done hd w pre left g s st f hl hz hp hf hg hs hS hT hb
    rw [List.append_nil] at hd
    subst hd
    exact find_nil hlo hhi hk hn hne w pre left g s st f (fun h0 => by rcases done with _ | ⟨q, qs⟩; exact absurd h0 (hz rfl); simp) hp hf (by show s < 1152921504606846976; omega) hS hT hb
  | cons p rest ih =>
    intro done hd w pre left g s st f hl hz hp hf hg hs hS hT hb
    have hmem : p ∈ ps := by rw [← hd]; exact List.mem_append_right _ (List.mem_cons_self ..)
    obtain ⟨o0, o1, o2⟩ := okP_out (hps p hmem)
    have hlen : done.length + 1 ≤ ps.length := by rw [← hd, List.length_append, List.length_cons]; omega
    have hat : ps[done.length]? = some p := by rw [← hd, List.getElem?_append_right (Nat.le_refl _)]; simp
    obtain ⟨m1, m2, m3, m4, m5, m6, m7⟩ := hS w (Fr.refl _ _)
    have c0 := Blk.cell hT.c 0 (v := .int .i64 st.1) rfl
    have HT := Lib.hid hT
    have HIH := Lib.hid ih
    have hne0 := Lib.hid hne
    have hnn := Lib.hid hn
    have HPS := Lib.hid hps
    have HS := Lib.hid hS
    simp only [argsB]
    by_cases hdear : st.1 ≤ s
    · have e1 : decide (st.1 ≤ s) = true := decide_eq_true hdear
      have HR2 : Hid (runB (lo * k) (hi * k) (p :: rest) pre left g s st = st) := Lib.hid (runB_dear
        (fun q hq => (okP_out (hps q (by rw [← hd]; exact List.mem_append_right _ hq))).1.1) (fun q hq => (okP_out (hps q (by rw [← hd]; exact List.mem_append_right _ hq))).2.1.1) _ _ _ _ _ hdear)
      clear hdear hz hlo hhi hk hl hp hf hg hs hS hT hb hn hne hat hlen o0 o1 o2 ih hps m2
      go_enter Try.func64, Try.ntmps64
      go_wp2_with fail
      refine bodyPost_ret (results_none rfl _ _ _) rfl ?_
      exact ⟨⟨_, rfl⟩, ⟨f, by rw [HR2.out]; exact HT.out, fun _ _ => rfl⟩, Fr.refl _ _⟩
    · have e1 : decide (st.1 ≤ s) = false := decide_eq_false hdear
      have e2 : ((done.length : Int) == (ps.length : Int)) = false := beq_eq_false_iff_ne.2 (by omega)
      have hi0 : (done.length : Int) < ps.length := by omega
      have hiz : (0 : Int) ≤ done.length := by omega
      obtain ⟨pd, rfl, q0, q1, q2, q3, q4⟩ := at_T49 m2 (done.length : Int) hiz hi0
      rw [rd49 hat, Int.toNat_natCast] at q0 q1 q2 q3 q4
      obtain ⟨M, hM1, hM2, hM3⟩ : ∃ M : Nat, M = min left p.f0.toNat ∧ M ≤ left ∧ (((left : Int) ≤ p.f0 → (left : Int) = M) ∧ (p.f0 < (left : Int) → p.f0 = M)) := ⟨_, rfl, Nat.min_le_left _ _, fun h => by omega, fun h => by omega⟩
      have HR : Hid (runB (lo * k) (hi * k) (p :: rest) pre left g s st = tailB (lo * k) (hi * k) p rest pre left g s (M + 1) st) := Lib.hid (by rw [runB_cons, hM1]; rfl)
      generalize runB (lo * k) (hi * k) (p :: rest) pre left g s st = final at *
      have HM := Lib.hid hM2
      have HB0 := Lib.hid (Fr.refl (FW bc bl gb) w)
      have HMI := Lib.hid hM3
      have HT0 := Lib.hid hT
      have HG := Lib.hid (And.intro hg hs)
      have HP := Lib.hid (And.intro hp hf)
      have HL := Lib.hid (And.intro hl (And.intro hlen hb))
      have HO := Lib.hid (And.intro o0 (And.intro o1 o2))
      have HDE := Lib.hid hd
      have HAT := Lib.hid hat
      clear hdear hz hM1 hM2 hM3 hl hp hf hg hs hS hT hb hlen hat o0 o1 o2 ih hps q1 q2 q3 q4 hd hmem hlo hhi hk m2 m7
      go_enter Try.func64, Try.ntmps64
      go_upto_region 5 with (fail)
      all_goals
        go_loopg [16] (M + 1) (fun kk v16 wr => ∃ (t : Int) (st2 : Int × List Int) (f2 : Nat → Int), v16 = .int .i64 t ∧ Hid (t + 1 = kk ∧ kk ≤ M + 1) ∧ Hid (SS wr bc bl gb ps.length base st2 f2) ∧ Hid (∀ j, j < done.length → f2 j = f j) ∧ Hid (tailB (lo * k) (hi * k) p rest pre left g s (t + 1).toNat st2 = final) ∧ Hid (Fr (FW bc bl gb) w wr))
        case atStart => exact ⟨_, st, f, rfl, Lib.hid ⟨by have := HMI.out.1; have := HMI.out.2; omega, Nat.le_refl _⟩, HT0, Lib.hid (fun _ _ => rfl), Lib.hid (by rw [HR.out]; congr 1; have := HMI.out.1; have := HMI.out.2; omega), HB0⟩
        case round =>
          clear HB0 HT0 HR
          obtain ⟨t, st2, f2, rfl, HK, HT2, HF2, HTB, HFR⟩ := hrel
          obtain ⟨wv, rfl⟩ : ∃ wv : World, wv = wr := ⟨_, rfl⟩
          by_cases ht : 0 ≤ t
          · obtain ⟨u, rfl⟩ : ∃ u : Nat, t = u := ⟨t.toNat, by omega⟩
            have hwu : IntKind.i64.wrap ((u : Int) - 1) = (u : Int) - 1 := IntWalk.i64_in _ (by have := HK.out; have := HM.out; have := HL.out; omega)
            obtain ⟨m1, m2, m3, m4, m5, m6, m7⟩ := HS.out wv HFR.out
            have hG := HT2.out.g
            have g1 := TV.free hG done.length
            have g2 := TV.cell hG (i := done.length) (by have := HL.out; omega)
            clear m1 m2 m3 m4 m5 m7 hG
            go_upto_region 8 with (fail)
            have hb5 : Fr (FW bc bl gb) wv (wv.setCell ⟨gb, done.length, none⟩ (.int .i64 u)) := (Fr.refl (FW bc bl gb) wv).setCell (p := ⟨gb, done.length, none⟩) (.inl (.inr (.inr rfl))) _
            have hgo : Fr (fun b => b = gb) wv (wv.setCell ⟨gb, done.length, none⟩ (.int .i64 u)) := (Fr.refl (fun b => b = gb) wv).setCell (p := ⟨gb, done.length, none⟩) (.inl rfl) _
            have hne := hne0.out
            have hS5 : SS (wv.setCell ⟨gb, done.length, none⟩ (.int .i64 u)) bc bl gb ps.length base st2 (setN f2 done.length u) := HT2.out.set hne hgo (TI.set HT2.out.g done.length u)
            generalize wv.setCell ⟨gb, done.length, none⟩ (.int .i64 u) = w5 at *
            have HF5 := Lib.hid (HFR.out.trans hb5 (fun x h => .inl h))
            have hK0 := keepF HS.out (HF5.out.drew) HAT.out
            have HS5 := Lib.hid hS5
            clear hb5 hgo hS5 g1 g2 m6 hne
            have hku : u ≤ left := by have := HK.out; have := HM.out; omega
            have hx2 : 0 ≤ (u : Int) * p.f2 ∧ (u : Int) * p.f2 ≤ u * 10000 := ⟨Int.mul_nonneg (by omega) HO.out.2.2.1, Int.mul_le_mul_of_nonneg_left HO.out.2.2.2 (by omega)⟩
            have hx1 : 0 ≤ (u : Int) * p.f1 ∧ (u : Int) * p.f1 ≤ u * 16384 := ⟨Int.mul_nonneg (by omega) HO.out.2.1.1, Int.mul_le_mul_of_nonneg_left HO.out.2.1.2 (by omega)⟩
            have hGG := HG.out
            have hLL := HL.out
            have hc := HIH.out (done ++ [p]) (by rw [List.append_assoc]; exact HDE.out) w5.drew (pre ++ [(u : Int)]) (left - u) (g + u * p.f2) (s + u * p.f1) st2 (setN f2 done.length u) (by omega) (fun h => absurd h (by have := HDE.out; rw [← this]; simp))
              (by rw [List.length_append, List.length_append, HP.out.1]; rfl)
              (fun j hj => by
                rw [List.length_append, HP.out.1] at hj
                simp only [setN]
                by_cases e : j = done.length
                · rw [if_pos e, e, ← HP.out.1, List.getD_eq_getElem?_getD, List.getElem?_append_right (Nat.le_refl _)]
                  simp
                · have hj2 : j < done.length := by simp at hj; omega
                  rw [if_neg e, HF2.out j hj2, HP.out.2 j (by rw [HP.out.1]; exact hj2), List.getD_eq_getElem?_getD, List.getD_eq_getElem?_getD, List.getElem?_append_left (by rw [HP.out.1]; exact hj2)])
              ⟨by omega, by omega⟩ ⟨by omega, by omega⟩ (fun W hW => HS.out W ((HF5.out.drew).trans hW (fun x h => .inl h))) (HS5.out.fr0 (Fr.refl _ _).drew) (by have := HF5.out.size; show base ≤ w5.heap.size; omega)
            rw [show (((done ++ [p]).length : Nat) : Int) = (done.length : Int) + 1 by simp, show ((left - u : Nat) : Int) = (left : Int) - u by omega, show (done ++ [p]).length = done.length + 1 by simp] at hc
            have HC := Lib.hid hc
            have hw1 : IntKind.i64.wrap ((done.length : Int) + 1) = (done.length : Int) + 1 := IntWalk.i64_in _ (by have := hnn.out; omega)
            have hw2 : IntKind.i64.wrap ((left : Int) - u) = (left : Int) - u := IntWalk.i64_in _ (by omega)
            have hw3 : IntKind.i64.wrap ((u : Int) * p.f2) = (u : Int) * p.f2 := IntWalk.i64_in _ (by omega)
            have hw4 : IntKind.i64.wrap (g + (u : Int) * p.f2) = g + (u : Int) * p.f2 := IntWalk.i64_in _ (by omega)
            have hw5 : IntKind.i64.wrap ((u : Int) * p.f1) = (u : Int) * p.f1 := IntWalk.i64_in _ (by omega)
            have hw6 : IntKind.i64.wrap (s + (u : Int) * p.f1) = s + (u : Int) * p.f1 := IntWalk.i64_in _ (by omega)
            have S0 := hK0
            clear hc hK0 hx1 hx2 hGG hLL hku
            go_region_held3 (fun W => W.cell? ⟨bf, 0, none⟩ = some (.func (.func 64) #[] (ptrsB bc bp blo bk bhi bcur bl bf)) ∧ W.cell? ⟨bp, 0, none⟩ = some (.slice (some pd) ps.length pc) ∧
                W.cell? ⟨(pd.add (done.length * 5)).block, (pd.add (done.length * 5)).off + 1, none⟩ = some (.int .i64 p.f1) ∧ W.cell? ⟨(pd.add (done.length * 5)).block, (pd.add (done.length * 5)).off + 2, none⟩ = some (.int .i64 p.f2) ∧ Fr (FW bc bl gb) w W)
              (first | (with_reducible exact S0) | (with_reducible exact S6) | (trace_state; fail))
              (first | (go_at_call 64; refine HC.out.mono ?_; rintro e w6 ⟨⟨rv, rfl⟩, hP6, hF6⟩; have S6 := keepF HS.out (S0.2.2.2.2.trans hF6 (fun x h => .inl h)) HAT.out))
            all_goals
              obtain ⟨f6, hs6, hf6⟩ := hP6
              have HS6 := Lib.hid hs6
              have HF6 : Hid (∀ j, j < done.length → f6 j = f j) := Lib.hid (fun j hj => by
                rw [hf6 j (by omega)]
                simp only [setN]
                rw [if_neg (by omega)]
                exact HF2.out j hj)
              have HFR6 := Lib.hid S6.2.2.2.2
              have HTB6 : Hid (tailB (lo * k) (hi * k) p rest pre left g s ((u : Int) - 1 + 1).toNat (runB (lo * k) (hi * k) rest (pre ++ [(u : Int)]) (left - u) (g + u * p.f2) (s + u * p.f1) st2) = final) := Lib.hid (by
                have h := HTB.out
                rw [show ((u : Int) + 1).toNat = u + 1 by omega, tailB_next] at h
                rw [show ((u : Int) - 1 + 1).toNat = u by omega]
                exact h)
              clear hs6 hf6 S6 S0 hF6
              go_wp2_with fail
              go_roundg u
              case measure => have := HK.out; omega
              case rel => exact ⟨(u : Int) - 1, _, f6, by go_num, Lib.hid ⟨by omega, by have := HK.out; omega⟩, HS6, HF6, HTB6, HFR6⟩
          · have HT3 : Hid (final = st2) := Lib.hid (by have h := HTB.out; rw [show (t + 1).toNat = 0 by omega] at h; exact h.symm)
            clear HTB
            go_wp2_with fail
            first | go_end0 | ((try simp only [Exit.inBlock, Exit.then]); refine bodyPost_ret (results_none rfl _ _ _) rfl ?_)
            exact ⟨⟨_, rfl⟩, ⟨f2, by rw [HT3.out]; exact HT2.out, HF2.out⟩, HFR.out⟩
end
end Go.Proofs.Ytpbndcmmclkdpaa
