/-
  FlowBlends: the reference's search walked.
-/
import Derived.Test.YtpbndcmmclkdpaaOa
namespace Go.Proofs.Ytpbndcmmclkdpaa
open PFlowSolves
open Go.RowKit Go.Proofs.YtpbndcmmclkdpaaW.PrintWords
/-- The blocks that the reference's search writes. -/
abbrev GW (sb gb : Nat) : Nat → Prop := fun b => b = sb ∨ b = gb
/-- The cost in memory: -1 stands for none. -/
def encC (c : Int) : Int := if c = big then -1 else c
def LR (w : World) (sb gb n base : Nat) (st : Int × List Int) (v : Value) : Prop :=
  (v = .slice none 0 0 ∧ st.1 = big) ∨ (∃ b c, v = .slice (some ⟨b, 0, none⟩) n c ∧ st.2.length = n ∧ TI w b n (fun j => st.2.getD j 0) ∧ base ≤ b ∧ ¬ GW sb gb b ∧ 0 ≤ st.1 ∧ st.1 < big)
structure SR (w : World) (sb gb n base : Nat) (st : Int × List Int) (f : Nat → Int) : Prop where
  s : ∃ v, Blk w sb #[v, .int .i64 (encC st.1)] 113 ∧ LR w sb gb n base st v
  g : TI w gb n f
def GPost (sb gb n base : Nat) (st : Int × List Int) (f : Nat → Int) (i : Nat) (w : World) (e : Ending) (w' : World) : Prop :=
  (∃ v, e = .returned v) ∧ (∃ f', SR w' sb gb n base st f' ∧ ∀ j, j < i → f' j = f j) ∧ Fr (GW sb gb) w w'
theorem LR.fr {F : Nat → Prop} {w w' : World} {sb gb n base : Nat} {st : Int × List Int} {v : Value} (h : LR w sb gb n base st v) (hf : Fr F w w') (hn : ∀ b, F b → GW sb gb b) : LR w' sb gb n base st v := by
  rcases h with h2 | ⟨b, c, e1, e2, e3, e4, e5, e6⟩
  · exact .inl h2
  · exact .inr ⟨b, c, e1, e2, e3.fr hf (fun e => e5 (hn _ e)), e4, e5, e6⟩
theorem SR.set {w w' : World} {sb gb n base : Nat} {st : Int × List Int} {f f' : Nat → Int} (h : SR w sb gb n base st f) (hne : sb ≠ gb) (hf : Fr (fun b => b = gb) w w') (hg : TI w' gb n f') : SR w' sb gb n base st f' :=
  ⟨by obtain ⟨v, h1, h2⟩ := h.s; exact ⟨v, h1.fr hf hne, h2.fr hf (fun _ e => .inr e)⟩, hg⟩
theorem SR.fr0 {w w' : World} {sb gb n base : Nat} {st : Int × List Int} {f : Nat → Int} (h : SR w sb gb n base st f) (hf : Fr (fun _ => False) w w') : SR w' sb gb n base st f :=
  ⟨by obtain ⟨v, h1, h2⟩ := h.s; exact ⟨v, h1.fr hf (fun a => a), h2.fr hf (fun _ e => e.elim)⟩, h.g.fr hf (fun a => a)⟩
theorem SR.low {w : World} {sb gb n base : Nat} {st : Int × List Int} {f : Nat → Int} (h : SR w sb gb n base st f) {s : Int} (h1 : s < big) : (encC st.1 < 0 ∨ s < encC st.1) ↔ s < st.1 := by
  obtain ⟨v, _, h2⟩ := h.s
  unfold encC
  rcases h2 with h2 | ⟨b, c, _, _, _, _, _, h6⟩
  · rw [if_pos h2.2, h2.2]; simp only [show ((-1 : Int) < 0) = True from by simp, true_or, true_iff]; exact h1
  · rw [if_neg (by omega)]; omega
theorem fits_snoc : ∀ {ps : List S49} {c : List Int} {p : S49} {t : Int}, Fits ps c → 0 ≤ t ∧ t ≤ p.f0 → Fits (ps ++ [p]) (c ++ [t])
  | [], [], _, _, _, h => ⟨h, trivial⟩
  | [], _ :: _, _, _, h, _ => h.elim
  | _ :: _, [], _, _, h, _ => h.elim
  | _ :: ps, _ :: c, _, _, h, k => ⟨h.1, fits_snoc (ps := ps) (c := c) h.2 k⟩
section
variable {sb gb : Nat} {PA : Option Addr} {pc : Nat} {ps : List S49} {lo hi : Int} {base : Nat}
abbrev argsG (sb gb : Nat) (PA : Option Addr) (pc n : Nat) (i left lo hi : Int) : Array Value := #[.pointer (some ⟨sb, 0, none⟩), .slice PA n pc, .slice (some ⟨gb, 0, none⟩) n n, .int .i64 i, .int .i64 left, .int .i64 lo, .int .i64 hi]
set_option maxRecDepth 100000 in
set_option maxHeartbeats 8000000 in
theorem goOn_nil (hn : ps.length ≤ 6) (hps : ∀ p ∈ ps, okP p = true) (hne : sb ≠ gb) (w : World) (pre : List Int) (left : Nat) (st : Int × List Int) (f : Nat → Int) (hz : left = 0 → 1 ≤ ps.length) (hp : pre.length = ps.length) (hf : ∀ j, j < pre.length → f j = pre.getD j 0)
    (hfit : Fits ps pre) (h1 : Kd.C k49 w PA ps.length ps) (hT : SR w sb gb ps.length base st f) (hb : base ≤ w.heap.size) :
    Calls Try.prog 67 (argsG sb gb PA pc ps.length ps.length left lo hi) w (GPost sb gb ps.length base (runB lo hi [] pre left (gr ps pre) (co ps pre) st) f ps.length w) := by
  have e1 : ((ps.length : Int) == (ps.length : Int)) = true := by simp
  have HT := Lib.hid hT
  have H1 := Lib.hid h1
  have HR := Lib.hid (runB_nil lo hi pre left (gr ps pre) (co ps pre) st)
  have HZ := Lib.hid hz
  have HP := Lib.hid hp
  have HF := Lib.hid hf
  have HFT := Lib.hid hfit
  have HB0 := Lib.hid hb
  have HNE := Lib.hid hne
  clear h1 hT hz hp hf hfit hb hne
  simp only [argsG]
  go_enter Try.func67, Try.ntmps67
  go_wp2_with fail
  go_loopg [14, 15, 16] ps.length (fun kk v14 v15 v16 wr => ∃ i : Nat, v16 = .int .i64 i ∧ v14 = .int .i64 (gr (ps.take i) (pre.take i)) ∧ v15 = .int .i64 (co (ps.take i) (pre.take i)) ∧ Hid (i + kk = ps.length) ∧
      Hid ((0 ≤ gr (ps.take i) (pre.take i) ∧ gr (ps.take i) (pre.take i) ≤ i * 40960000) ∧ (0 ≤ co (ps.take i) (pre.take i) ∧ co (ps.take i) (pre.take i) ≤ i * 67108864)) ∧ Hid (Below w.heap.size w wr))
  case atStart => exact ⟨0, rfl, by simp [gr], by simp [co], Lib.hid (by omega), Lib.hid (by simp [gr, co]), Lib.hid (Below.refl _ _)⟩
  case round =>
    obtain ⟨i, rfl, rfl, rfl, HI, HBD, HB⟩ := hrel
    obtain ⟨wv, rfl⟩ : ∃ wv : World, wv = wr := ⟨_, rfl⟩
    by_cases hlt : i < ps.length
    · have hi0 : (i : Int) < ps.length := by omega
      have hiz : (0 : Int) ≤ i := by omega
      obtain ⟨p, hp⟩ : ∃ p, ps[i]? = some p := ⟨_, List.getElem?_eq_getElem hlt⟩
      obtain ⟨pd, rfl, q0, q1, q2, q3, q4⟩ := at_T49 (Kd.C_below H1.out HB.out) (i : Int) hiz hi0
      have r0 : wv.cell? ⟨gb, i, none⟩ = some (.int .i64 (f i)) := TV.cell (TV.below HT.out.g HB.out) hlt
      rw [HF.out i (by rw [HP.out]; exact hlt)] at r0
      rw [rd49 hp, Int.toNat_natCast] at q1 q2
      obtain ⟨f0, f1⟩ := fits_at HFT.out hp
      obtain ⟨b0, b1, b2⟩ := okP_out (hps p (List.mem_of_getElem? hp))
      have gN := gr_take hp (show i < pre.length by rw [HP.out]; exact hlt)
      have cN := co_take hp (show i < pre.length by rw [HP.out]; exact hlt)
      generalize pre.getD i 0 = t at *
      have hmul : 0 ≤ t * p.f2 ∧ t * p.f2 ≤ 4096 * 10000 := ⟨Int.mul_nonneg (by omega) (by omega), Int.mul_le_mul (by omega) (by omega) (by omega) (by omega)⟩
      have hmul1 : 0 ≤ t * p.f1 ∧ t * p.f1 ≤ 4096 * 16384 := ⟨Int.mul_nonneg (by omega) (by omega), Int.mul_le_mul (by omega) (by omega) (by omega) (by omega)⟩
      obtain ⟨d1, d2⟩ := HBD.out
      have hi6 : (i : Int) ≤ 5 := by omega
      have HNX : Hid ((0 ≤ gr (ps.take (i + 1)) (pre.take (i + 1)) ∧ gr (ps.take (i + 1)) (pre.take (i + 1)) ≤ (i + 1 : Nat) * 40960000) ∧ (0 ≤ co (ps.take (i + 1)) (pre.take (i + 1)) ∧ co (ps.take (i + 1)) (pre.take (i + 1)) ≤ (i + 1 : Nat) * 67108864)) := Lib.hid ⟨by omega, by omega⟩
      have hw2 : IntKind.i64.wrap (t * p.f2) = t * p.f2 := IntWalk.i64_in _ (by omega)
      have hw3 : IntKind.i64.wrap (gr (ps.take i) (pre.take i) + t * p.f2) = gr (ps.take i) (pre.take i) + t * p.f2 := IntWalk.i64_in _ (by omega)
      have hw4 : IntKind.i64.wrap (t * p.f1) = t * p.f1 := IntWalk.i64_in _ (by omega)
      have hw5 : IntKind.i64.wrap (co (ps.take i) (pre.take i) + t * p.f1) = co (ps.take i) (pre.take i) + t * p.f1 := IntWalk.i64_in _ (by omega)
      have hw6 : IntKind.i64.wrap ((i : Int) + 1) = i + 1 := IntWalk.i64_in _ (by omega)
      have HGN := Lib.hid gN
      have HCN := Lib.hid cN
      have HLT := Lib.hid hlt
      clear b0 b1 b2 hmul hmul1 d1 d2 hi6 gN cN hlt HBD q0 q3 q4 hp f0 f1 e1
      generalize gr (ps.take i) (pre.take i) = x2 at *
      generalize co (ps.take i) (pre.take i) = x3 at *
      go_upto_region 5 with (fail)
      go_quiet (fail)
      go_upto_region 6 with (fail)
      go_quiet (fail)
      go_wp2_with fail
      go_roundg (ps.length - (i + 1))
      case measure => have := HI.out; have := HLT.out; omega
      case rel => exact ⟨i + 1, by go_num, by rw [HGN.out], by rw [HCN.out], Lib.hid (by have := HI.out; have := HLT.out; omega), HNX, by first | exact HB | exact Lib.hid HB.out.drew | (refine Lib.hid ?_; apply pw_below_drewN; exact HB.out)⟩
    · obtain rfl : i = ps.length := by have := HI.out; omega
      have hnl : ¬ (ps.length : Int) < ps.length := by omega
      have hG : gr (ps.take ps.length) (pre.take ps.length) = gr ps pre := by rw [List.take_length, ← HP.out, List.take_length]
      have hC : co (ps.take ps.length) (pre.take ps.length) = co ps pre := by rw [List.take_length, ← HP.out, List.take_length]
      rw [hG, hC] at HBD ⊢
      have HTv := Lib.hid (HT.out.fr0 (Fr.of_below HB.out (fun _ => False)))
      have hcb : 0 ≤ co ps pre ∧ co ps pre < big := by have := HBD.out.2; show _ ∧ co ps pre < 1152921504606846976; omega
      obtain ⟨v, s1, s2⟩ := HTv.out.s
      have c0 := Blk.cell s1 0 (v := v) rfl
      have c1 := Blk.cell s1 1 (v := .int .i64 (encC st.1)) rfl
      have hlow := HTv.out.low hcb.2
      have HFW := Lib.hid (Fr.of_below HB.out (GW sb gb))
      have HBz := Lib.hid HB.out.size
      clear hG hC HBD hlt HI
      by_cases hok : ((left : Int) = 0 ∧ lo ≤ gr ps pre ∧ gr ps pre ≤ hi) ∧ co ps pre < st.1
      · obtain ⟨⟨h2, h3, h4⟩, h5⟩ := hok
        have HR2 : Hid (runB lo hi [] pre left (gr ps pre) (co ps pre) st = (co ps pre, pre)) := Lib.hid (by rw [HR.out, if_pos ⟨⟨h2, h3, h4⟩, h5⟩])
        have e2 : ((left : Int) == 0) = true := beq_iff_eq.2 h2
        have e3 : decide (lo ≤ gr ps pre) = true := decide_eq_true h3
        have e4 : decide (gr ps pre ≤ hi) = true := decide_eq_true h4
        have hor := hlow.2 h5
        have e5 : decide (encC st.1 < 0) = true ∨ (decide (encC st.1 < 0) = false ∧ decide (co ps pre < encC st.1) = true) := by
          by_cases h : encC st.1 < 0
          · exact .inl (decide_eq_true h)
          · exact .inr ⟨decide_eq_false h, decide_eq_true (by omega)⟩
        have HCC : Hid (Kd.C (Kd.int .i64) wv (some ⟨gb, 0, none⟩) ps.length pre) := Lib.hid (by have h := TI_C HTv.out.g pre HP.out (by omega) (fun j hj => HF.out j (by rw [HP.out]; exact hj)); rw [HP.out] at h; exact h)
        have HN1 : Hid (1 ≤ ps.length) := Lib.hid (HZ.out (by omega))
        have HCB := Lib.hid hcb
        have HSS := Lib.hid (And.intro s1 s2)
        have HNN := Lib.hid hn
        have p2 := Blk.free s1 0
        clear h2 h3 h4 h5 hor hlow hcb s1 s2
        generalize hec : encC st.1 = ec at *
        have HEC := Lib.hid hec
        clear hec
        rcases e5 with e5 | ⟨e5, e6⟩
        all_goals
          go_upto_region 9 with (fail)
          have hnil : Kd.R (Kd.int .i64) 3 wv 0 (fun k => wv.heap.size ≤ k) (.slice none 0 0) [] := Kd.R_nil _ _ _ _ _
          have hKM : ∀ (x : Int) (cs : List Value), (Kd.int .i64).K wv x cs → (Kd.int .i64).M wv 0 (fun _ => False) x cs := fun x cs hK => hK
          have hl' : (([] : List Int).length + ps.length) * 8 ≤ 140737488355328 := by have := HNN.out; simp; omega
          have hCC := HCC.out
          go_wp2_with (at_builtin; refine Kd.R_append_rows (Kd.int .i64) (Rr := (Kd.int .i64).K wv) (w0 := wv) 0 rfl _ _ 23 3 (.int .i64 0) 8 rfl Try.underlying23 info3 rfl (by decide) (by decide) (.slice none 0 0) [] pre (some ⟨gb, 0, none⟩) ps.length ps.length (fun k => wv.heap.size ≤ k) (fun _ => False) rfl rfl hnil hCC hKM (fun _ hk => hk.elim) (fun _ h => h) (Below.refl _ _) (Nat.zero_le _) hl' ?_; intro v1 w1 hR1 hb1 hg1 hat1; rw [List.nil_append] at hR1; obtain ⟨nb, c', rfl, hbw, ht⟩ := R_TI hR1 (by rw [HP.out]; exact HN1.out); have hF1 : Fr (fun _ => False) wv w1 := (Fr.refl _ wv).grown hg1 (fun k hk => absurd hk (by simp [Value.ownBlock])); have u1 := HSS.out.1.fr hF1 (fun a => a); have p1 := Blk.cell u1 0 (v := v) rfl; have p2 := Blk.free u1 0; have u2 := Blk.set u1 0 (.slice (some ⟨nb, 0, none⟩) pre.length c'); have p3 := Blk.cell u2 1 (v := .int .i64 ec) rfl; have p4 := Blk.free u2 1)
          have hlb : sb < wv.heap.size ∧ gb < wv.heap.size := ⟨Blk.lt HSS.out.1, TV.lt HTv.out.g⟩
          have hne := HNE.out
          have hF3 : Fr (fun b => b = sb) w1 ((w1.setCell ⟨sb, 0, none⟩ (.slice (some ⟨nb, 0, none⟩) pre.length c')).setCell ⟨sb, 1, none⟩ (.int .i64 (co ps pre))) := ((Fr.refl (fun b => b = sb) w1).setCell (p := ⟨sb, 0, none⟩) (.inl rfl) _).setCell (p := ⟨sb, 1, none⟩) (.inl rfl) _
          have hen : encC (co ps pre) = co ps pre := if_neg (by have := HCB.out.2; omega)
          have hnb : w.heap.size ≤ nb := Nat.le_trans HBz.out hbw
          refine bodyPost_ret (results_none rfl _ _ _) rfl ?_
          rw [HR2.out]
          refine ⟨⟨_, rfl⟩, ⟨f, ⟨⟨.slice (some ⟨nb, 0, none⟩) pre.length c', ?_, .inr ⟨nb, c', by rw [HP.out], HP.out, ?_, Nat.le_trans HB0.out hnb, fun h => by rcases h with h | h <;> omega, HCB.out⟩⟩, (HTv.out.g.fr hF1 (fun a => a)).fr hF3 (fun h => by omega)⟩, fun _ _ => rfl⟩, ?_⟩
          · rw [hen]; exact Blk.set u2 1 (.int .i64 (co ps pre))
          · have := ht.fr hF3 (fun h => by omega)
            rw [← HP.out]
            exact this
          · exact HFW.out.trans ((hF1.mono (fun x h => h.elim)).trans hF3 (fun x h => .inl (.inl h))) (fun x h => .inl h)
      · have HR2 : Hid (runB lo hi [] pre left (gr ps pre) (co ps pre) st = st) := Lib.hid (by rw [HR.out, if_neg hok])
        have HEND : ∀ rv, GPost sb gb ps.length base (runB lo hi [] pre left (gr ps pre) (co ps pre) st) f ps.length w (.returned rv) wv := fun rv => ⟨⟨_, rfl⟩, ⟨f, by rw [HR2.out]; exact HTv.out, fun _ _ => rfl⟩, HFW.out⟩
        have HEN := Lib.hid HEND
        clear HEND
        by_cases h2 : (left : Int) = 0
        · have e2 : ((left : Int) == 0) = true := beq_iff_eq.2 h2
          by_cases h3 : lo ≤ gr ps pre
          · have e3 : decide (lo ≤ gr ps pre) = true := decide_eq_true h3
            by_cases h4 : gr ps pre ≤ hi
            · have e4 : decide (gr ps pre ≤ hi) = true := decide_eq_true h4
              have h5 : ¬ (encC st.1 < 0 ∨ co ps pre < encC st.1) := fun h => hok ⟨⟨h2, h3, h4⟩, hlow.1 h⟩
              have e5 : decide (encC st.1 < 0) = false := decide_eq_false (fun h => h5 (.inl h))
              have e6 : decide (co ps pre < encC st.1) = false := decide_eq_false (fun h => h5 (.inr h))
              clear h2 h3 h4 h5 hok hlow hcb
              generalize encC st.1 = ec at *
              go_wp2_with fail
              refine bodyPost_ret (results_none rfl _ _ _) rfl ?_
              exact HEN.out _
            · have e4 : decide (gr ps pre ≤ hi) = false := decide_eq_false h4
              clear h2 h3 h4 hok hlow hcb
              go_wp2_with fail
              refine bodyPost_ret (results_none rfl _ _ _) rfl ?_
              exact HEN.out _
          · have e3 : decide (lo ≤ gr ps pre) = false := decide_eq_false h3
            clear h2 h3 hok hlow hcb
            go_wp2_with fail
            refine bodyPost_ret (results_none rfl _ _ _) rfl ?_
            exact HEN.out _
        · have e2 : ((left : Int) == 0) = false := beq_eq_false_iff_ne.2 h2
          clear h2 hok hlow hcb
          go_wp2_with fail
          refine bodyPost_ret (results_none rfl _ _ _) rfl ?_
          exact HEN.out _
set_option maxRecDepth 100000 in
set_option maxHeartbeats 8000000 in
theorem goOn_any (hn : ps.length ≤ 6) (hps : ∀ p ∈ ps, okP p = true) (hne : sb ≠ gb) :
    ∀ (rest done : List S49), done ++ rest = ps → ∀ (w : World) (pre : List Int) (left : Nat) (st : Int × List Int) (f : Nat → Int), left ≤ 24 → (ps = [] → left ≠ 0) → pre.length = done.length → (∀ j, j < pre.length → f j = pre.getD j 0) →
    Fits done pre → Kd.C k49 w PA ps.length ps → SR w sb gb ps.length base st f → base ≤ w.heap.size → (∀ W, Fr (GW sb gb) w W → Kd.C k49 W PA ps.length ps) →
    Calls Try.prog 67 (argsG sb gb PA pc ps.length done.length left lo hi) w (GPost sb gb ps.length base (runB lo hi rest pre left (gr done pre) (co done pre) st) f done.length w) := by
  intro rest
  induction rest with
  | nil =>
    intro done hd w pre left st f hl hz hp hf hfit h1 hT hb hS
    rw [List.append_nil] at hd
    subst hd
    exact goOn_nil hn hps hne w pre left st f (fun h0 => by rcases done with _ | ⟨q, qs⟩; exact absurd h0 (hz rfl); simp) hp hf hfit h1 hT hb
  | cons p rest ih =>
    intro done hd w pre left st f hl hz hp hf hfit h1 hT hb hS
    have hmem : p ∈ ps := by rw [← hd]; exact List.mem_append_right _ (List.mem_cons_self ..)
    obtain ⟨o0, o1, o2⟩ := okP_out (hps p hmem)
    have hlen : done.length + 1 ≤ ps.length := by rw [← hd, List.length_append, List.length_cons]; omega
    have hat : ps[done.length]? = some p := by rw [← hd, List.getElem?_append_right (Nat.le_refl _)]; simp
    have e2 : ((done.length : Int) == (ps.length : Int)) = false := beq_eq_false_iff_ne.2 (by omega)
    have hi0 : (done.length : Int) < ps.length := by omega
    have hiz : (0 : Int) ≤ done.length := by omega
    obtain ⟨pd, rfl, q0, q1, q2, q3, q4⟩ := at_T49 h1 (done.length : Int) hiz hi0
    rw [rd49 hat, Int.toNat_natCast] at q0
    obtain ⟨M, hM1, hM2, hM3⟩ : ∃ M : Nat, M = min left p.f0.toNat ∧ M ≤ left ∧ (((left : Int) ≤ p.f0 → (left : Int) = M) ∧ (p.f0 < (left : Int) → p.f0 = M)) := ⟨_, rfl, Nat.min_le_left _ _, fun h => by omega, fun h => by omega⟩
    have hM4 : (M : Int) ≤ p.f0 := by omega
    have HR : Hid (runB lo hi (p :: rest) pre left (gr done pre) (co done pre) st = tailB lo hi p rest pre left (gr done pre) (co done pre) (M + 1) st) := Lib.hid (by rw [runB_cons, hM1]; rfl)
    generalize runB lo hi (p :: rest) pre left (gr done pre) (co done pre) st = final at *
    have HIH := Lib.hid ih
    have HNE := Lib.hid hne
    have HNN := Lib.hid hn
    have HPS := Lib.hid hps
    have HS := Lib.hid hS
    have HM := Lib.hid (And.intro hM2 hM4)
    have HMI := Lib.hid hM3
    have HB0 := Lib.hid (Fr.refl (GW sb gb) w)
    have HT0 := Lib.hid hT
    have HP := Lib.hid (And.intro hp hf)
    have HFT := Lib.hid hfit
    have HL := Lib.hid (And.intro hl (And.intro hlen hb))
    have HDE := Lib.hid hd
    clear hM1 hM2 hM3 hM4 hl hz hp hf hfit h1 hT hb hS hlen hat o0 o1 o2 ih hps q1 q2 q3 q4 hd hmem hne
    simp only [argsG]
    go_enter Try.func67, Try.ntmps67
    go_upto_region 11 with (fail)
    go_wp2_with fail
    all_goals
      go_loopg [18] (M + 1) (fun kk v18 wr => ∃ (t : Int) (st2 : Int × List Int) (f2 : Nat → Int), v18 = .int .i64 t ∧ Hid (t + 1 = kk ∧ kk ≤ M + 1) ∧ Hid (SR wr sb gb ps.length base st2 f2) ∧ Hid (∀ j, j < done.length → f2 j = f j) ∧ Hid (tailB lo hi p rest pre left (gr done pre) (co done pre) (t + 1).toNat st2 = final) ∧ Hid (Fr (GW sb gb) w wr))
      case atStart => exact ⟨_, st, f, rfl, Lib.hid ⟨by have := HMI.out.1; have := HMI.out.2; omega, Nat.le_refl _⟩, HT0, Lib.hid (fun _ _ => rfl), Lib.hid (by rw [HR.out]; congr 1; have := HMI.out.1; have := HMI.out.2; omega), HB0⟩
      case round =>
        clear HB0 HT0 HR
        obtain ⟨t, st2, f2, rfl, HK, HT2, HF2, HTB, HFR⟩ := hrel
        obtain ⟨wv, rfl⟩ : ∃ wv : World, wv = wr := ⟨_, rfl⟩
        have hG := HT2.out.g
        have g1 := TV.free hG done.length
        have g2 := TV.cell hG (i := done.length) (by have := HL.out; omega)
        by_cases ht : 0 ≤ t
        · obtain ⟨u, rfl⟩ : ∃ u : Nat, t = u := ⟨t.toNat, by omega⟩
          have hwu : IntKind.i64.wrap ((u : Int) - 1) = (u : Int) - 1 := IntWalk.i64_in _ (by have := HK.out; have := HM.out; have := HL.out; omega)
          clear hG
          go_upto_region 15 with (fail)
          have hb5 : Fr (GW sb gb) wv (wv.setCell ⟨gb, done.length, none⟩ (.int .i64 u)) := (Fr.refl (GW sb gb) wv).setCell (p := ⟨gb, done.length, none⟩) (.inl (.inr rfl)) _
          have hgo : Fr (fun b => b = gb) wv (wv.setCell ⟨gb, done.length, none⟩ (.int .i64 u)) := (Fr.refl (fun b => b = gb) wv).setCell (p := ⟨gb, done.length, none⟩) (.inl rfl) _
          have hS5 : SR (wv.setCell ⟨gb, done.length, none⟩ (.int .i64 u)) sb gb ps.length base st2 (setN f2 done.length u) := HT2.out.set HNE.out hgo (TI.set HT2.out.g done.length u)
          generalize wv.setCell ⟨gb, done.length, none⟩ (.int .i64 u) = w5 at *
          have HF5 := Lib.hid (HFR.out.trans hb5 (fun x h => .inl h))
          clear hb5 hgo g1 g2
          have hku : u ≤ left ∧ (u : Int) ≤ p.f0 := by have := HK.out; have := HM.out; omega
          have hLL := HL.out
          have hgd : gr (done ++ [p]) (pre ++ [(u : Int)]) = gr done pre + u * p.f2 := by
            have := gr_take (ps := done ++ [p]) (c := pre ++ [(u : Int)]) (i := done.length) (p := p) (by simp) (by simp [HP.out.1])
            rw [List.take_of_length_le (by simp), List.take_of_length_le (by simp [HP.out.1]), List.take_left', List.take_left' HP.out.1] at this
            · rw [this, ← HP.out.1]; simp
            · rfl
          have hcd : co (done ++ [p]) (pre ++ [(u : Int)]) = co done pre + u * p.f1 := by
            have := co_take (ps := done ++ [p]) (c := pre ++ [(u : Int)]) (i := done.length) (p := p) (by simp) (by simp [HP.out.1])
            rw [List.take_of_length_le (by simp), List.take_of_length_le (by simp [HP.out.1]), List.take_left', List.take_left' HP.out.1] at this
            · rw [this, ← HP.out.1]; simp
            · rfl
          have hc := HIH.out (done ++ [p]) (by rw [List.append_assoc]; exact HDE.out) w5 (pre ++ [(u : Int)]) (left - u) st2 (setN f2 done.length u) (by omega) (fun h => absurd h (by have := HDE.out; rw [← this]; simp))
            (by rw [List.length_append, List.length_append, HP.out.1]; rfl)
            (fun j hj => by
              rw [List.length_append, HP.out.1] at hj
              simp only [setN]
              by_cases e : j = done.length
              · rw [if_pos e, e, ← HP.out.1, List.getD_eq_getElem?_getD, List.getElem?_append_right (Nat.le_refl _)]
                simp
              · have hj2 : j < done.length := by simp at hj; omega
                rw [if_neg e, HF2.out j hj2, HP.out.2 j (by rw [HP.out.1]; exact hj2), List.getD_eq_getElem?_getD, List.getD_eq_getElem?_getD, List.getElem?_append_left (by rw [HP.out.1]; exact hj2)])
            (fits_snoc HFT.out ⟨by omega, hku.2⟩) (HS.out w5 HF5.out) hS5 (by have := HF5.out.size; omega) (fun W hW => HS.out W (HF5.out.trans hW (fun x h => .inl h)))
          rw [show (((done ++ [p]).length : Nat) : Int) = (done.length : Int) + 1 by simp, show ((left - u : Nat) : Int) = (left : Int) - u by omega, show (done ++ [p]).length = done.length + 1 by simp, hgd, hcd] at hc
          have HC := Lib.hid hc
          have hw1 : IntKind.i64.wrap ((done.length : Int) + 1) = (done.length : Int) + 1 := IntWalk.i64_in _ (by have := HNN.out; omega)
          have hw2 : IntKind.i64.wrap ((left : Int) - u) = (left : Int) - u := IntWalk.i64_in _ (by omega)
          clear hc hLL hku hgd hcd hS5
          go_wp2_with fail
          refine HC.out.mono ?_
          rintro e w6 ⟨⟨rv, rfl⟩, ⟨f6, hs6, hf6⟩, hF6⟩
          have HS6 := Lib.hid hs6
          have HF6 : Hid (∀ j, j < done.length → f6 j = f j) := Lib.hid (fun j hj => by
            rw [hf6 j (by omega)]
            simp only [setN]
            rw [if_neg (by omega)]
            exact HF2.out j hj)
          have HFR6 := Lib.hid (HF5.out.trans hF6 (fun x h => .inl h))
          have HTB6 : Hid (tailB lo hi p rest pre left (gr done pre) (co done pre) ((u : Int) - 1 + 1).toNat (runB lo hi rest (pre ++ [(u : Int)]) (left - u) (gr done pre + u * p.f2) (co done pre + u * p.f1) st2) = final) := Lib.hid (by
            have h := HTB.out
            rw [show ((u : Int) + 1).toNat = u + 1 by omega, tailB_next] at h
            rw [show ((u : Int) - 1 + 1).toNat = u by omega]
            exact h)
          clear hs6 hf6 hF6
          go_wp2_with fail
          go_roundg u
          case measure => have := HK.out; omega
          case rel => exact ⟨(u : Int) - 1, _, f6, by go_num, Lib.hid ⟨by omega, by have := HK.out; omega⟩, HS6, HF6, HTB6, HFR6⟩
        · have HT3 : Hid (final = st2) := Lib.hid (by have h := HTB.out; rw [show (t + 1).toNat = 0 by omega] at h; exact h.symm)
          clear HTB hG
          go_wp2_with fail
          refine bodyPost_ret (results_none rfl _ _ _) rfl ?_
          have hgo : Fr (fun b => b = gb) wv (wv.setCell ⟨gb, done.length, none⟩ (.int .i64 0)) := (Fr.refl (fun b => b = gb) wv).setCell (p := ⟨gb, done.length, none⟩) (.inl rfl) _
          refine ⟨⟨_, rfl⟩, ⟨setN f2 done.length 0, by rw [HT3.out]; exact HT2.out.set HNE.out hgo (TI.set HT2.out.g done.length 0), fun j hj => ?_⟩, HFR.out.trans (hgo.mono (G := GW sb gb) (fun x h => .inl (.inr h))) (fun x h => .inl h)⟩
          simp only [setN]
          rw [if_neg (by omega)]
          exact HF2.out j hj
end
end Go.Proofs.Ytpbndcmmclkdpaa
