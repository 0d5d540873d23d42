/-
  The reference's reach (55) and Best (29) walked.
-/
import Derived.Test.YtcobihdjcdefmaaZFZ
namespace Go.Proofs.Ytcobihdjcdefmaa
open PAccountsCompress
open Go.RowKit Go.Proofs.YtcobihdjcdefmaaW.PrintWords
def cntV (N : Nat) (f : Nat → Bool) : Nat := ((List.range N).filter (fun i => !f i)).length
theorem cntV_le (N : Nat) (f : Nat → Bool) : cntV N f ≤ N := by
  have := List.length_filter_le (fun i => !f i) (List.range N)
  rw [List.length_range] at this; exact this
theorem cntV_set {N v : Nat} {f : Nat → Bool} (hv : v < N) (h0 : f v = false) : cntV N (fun j => if j = v then true else f j) + 1 ≤ cntV N f := by
  refine filter_lt (a := v) (fun a h => ?_) (List.mem_range.2 hv) (by simp) (by simp [h0])
  by_cases e : a = v
  · simp [e] at h
  · simpa [e] using h
/-- A tight step of the arcs from number k on. -/
def TightS (A : Nat → Ar) (all : List Stp) (p : Int → Int) (k : Int) (s : Stp) : Prop := s ∈ all ∧ k ≤ s.f0 ∧ p (frm A s) + cst A s = p (tow A s)
def ReachPost (n : Nat) (A : Nat → Ar) (all : List Stp) (p : Int → Int) (o : Nat) (k : Int) (w : World) (e : Ending) (w' : World) : Prop :=
  (∃ f : Nat → Bool, e = .returned (.slice (some ⟨w.heap.size, 0, none⟩) n n) ∧ TB w' w.heap.size n f ∧ ∀ v, v < n → f v = true → Rch A (TightS A all p k) o v) ∧ Below w.heap.size w w'
set_option maxRecDepth 100000 in
set_option maxHeartbeats 8000000 in
theorem reach_any (w : World) {n : Nat} {A : Nat → Ar} {all : List Stp} (AS : Option Addr) (cS : Nat) (hC : Kd.C k123 w AS all.length (all.map (toR A))) (hS : StpsOk n A 32768 all) (hn2 : n ≤ 32) (hlen : all.length ≤ 256)
    (gp : Nat) (p : Int → Int) (hp : TI w gp n (fun v => p v)) (hpb : ∀ v : Int, 0 ≤ v → v < n → -1099511627776 ≤ p v ∧ p v ≤ 1099511627776) (o : Nat) (ho : o < n) (k : Int) :
    Calls Try.prog 69 #[.int .i64 n, .slice AS all.length cS, .slice (some ⟨gp, 0, none⟩) n n, .int .i64 o, .int .i64 k] w (ReachPost n A all p o k w) := by
  have hmk := make_bool w (n := n) (by omega)
  have hTB : TB (w.alloc (.cells (madeCells #[.bool false] n) 4 (0, 0))) w.heap.size n (fun _ => false) := TV.made w (.bool false) 4 n
  have hal := below_alloc (Below.refl w.heap.size w) (.cells (madeCells #[.bool false] n) 4 (0, 0))
  have hfz := TV.free hTB o
  have hcl := TV.cell hTB (i := o) ho
  have HTB8 := Lib.hid hTB
  have HAL8 := Lib.hid hal
  have HCS : Hid (∀ W, Fr (fun b => b = w.heap.size) w W → Kd.C k123 W AS all.length (all.map (toR A)) ∧ TI W gp n (fun v => p v)) := Lib.hid (fun W hW =>
    ⟨Kd.C_below hC (hW.to_below (Nat.le_refl _) (fun b hb => by omega)), hp.fr hW (fun e => by have := TV.lt hp; omega)⟩)
  have HST := Lib.hid hS
  have HN := Lib.hid hn2
  have HLN := Lib.hid hlen
  have HPB := Lib.hid hpb
  have HO := Lib.hid ho
  have ho0 : (0 : Int) ≤ o := by omega
  have ho1 : (o : Int) < n := by omega
  clear hTB hal hC hS hlen hp hpb
  go_enter Try.func69, Try.ntmps69
  go_upto_region 2 with (fail)
  generalize w.alloc (.cells (madeCells #[.bool false] n) 4 (0, 0)) = w8 at *
  obtain ⟨sb, hsb⟩ : ∃ sb, sb = w.heap.size := ⟨_, rfl⟩
  have HSB := Lib.hid hsb
  rw [← hsb] at hfz hcl HTB8 HCS ⊢
  clear hsb hmk ho hn2
  have HTB9 := Lib.hid (TB.set HTB8.out o true)
  have HF9 : Hid (Fr (fun b => b = sb) w (w8.setCell ⟨sb, o, none⟩ (.bool true))) := Lib.hid ((Fr.of_below HAL8.out (fun b => b = sb)).setCell (p := ⟨sb, o, none⟩) (.inl rfl) _)
  have HRC : Hid (∀ v, v < n → (fun j => if j = o then true else false) v = true → Rch A (TightS A all p k) o v) := Lib.hid (fun v _ hv => by
    by_cases e : v = o
    · subst e; exact .refl _
    · simp [e] at hv)
  go_wp2_with fail
  generalize w8.setCell ⟨sb, o, none⟩ (.bool true) = w9 at *
  clear hfz hcl HTB8 HAL8
  go_loopg [12, 13, 14] (n + 3) (fun kk v12 v13 v14 wr => ∃ (f : Nat → Bool) (mv : Bool), v12 = .bool mv ∧ Hid (TB wr sb n f) ∧ Hid (∀ v, v < n → f v = true → Rch A (TightS A all p k) o v) ∧ Hid (cntV n f + (if mv then 1 else 0) + 1 ≤ kk) ∧ Hid (Fr (fun b => b = sb) w wr))
  case atStart => exact ⟨_, true, rfl, HTB9, HRC, Lib.hid (by have := cntV_le n (fun j => if j = o then true else false); rw [if_pos rfl]; omega), HF9⟩
  case round =>
    clear HTB9 HRC HF9
    obtain ⟨f, mv, rfl, HTB, HRC, HCN, HFR⟩ := hrel
    obtain ⟨wv, rfl⟩ : ∃ wv : World, wv = wr := ⟨_, rfl⟩
    cases mv with
    | false =>
      have HB : Hid (Below w.heap.size w wv) := Lib.hid (HFR.out.to_below (Nat.le_refl _) (fun x h => by have := HSB.out; omega))
      go_wp2_with fail
      go_ret
      exact ⟨⟨f, by rw [HSB.out]; rfl, by rw [← HSB.out]; exact HTB.out, HRC.out⟩, HB.out⟩
    | true =>
      have HC0 : Hid (cntV n f + (if false then 1 else 0) ≤ cntV n f) := Lib.hid (by simp)
      go_wp2_with fail
      go_loopg [12, 13, 14] all.length (fun kk v12 v13 v14 wr => ∃ (t : Nat) (f' : Nat → Bool) (mv : Bool), v13 = .int .i64 t ∧ v12 = .bool mv ∧ Hid (t + kk = all.length) ∧ Hid (TB wr sb n f') ∧ Hid (∀ v, v < n → f' v = true → Rch A (TightS A all p k) o v) ∧ Hid (cntV n f' + (if mv then 1 else 0) ≤ cntV n f) ∧ Hid (Fr (fun b => b = sb) w wr))
      case atStart => exact ⟨0, f, false, rfl, rfl, Lib.hid (by omega), HTB, HRC, HC0, HFR⟩
      case round =>
        clear HTB HRC HC0 HFR
        obtain ⟨t, f', mv, rfl, rfl, HTK, HTB, HRC, HC1, HFR⟩ := hrel
        obtain ⟨wv, rfl⟩ : ∃ wv : World, wv = wr := ⟨_, rfl⟩
        by_cases hlt : t < all.length
        · obtain ⟨s, hs⟩ : ∃ s, all[t]? = some s := ⟨_, List.getElem?_eq_getElem hlt⟩
          have ht0 : (t : Int) < all.length := by omega
          have htz : (0 : Int) ≤ t := by omega
          obtain ⟨ad, rfl, k0, k1, k2, k3, k4⟩ := rstp_at (HCS.out wv HFR.out).1 hs
          have hm := List.mem_of_getElem? hs
          have hw : IntKind.i64.wrap ((t : Int) + 1) = t + 1 := IntWalk.i64_in _ (by have := HLN.out; omega)
          obtain ⟨a1, a2, a3, a4, a5, a6, a7⟩ := HST.out s hm
          obtain ⟨u, hu⟩ : ∃ u : Nat, frm A s = u := ⟨(frm A s).toNat, by omega⟩
          obtain ⟨v, hv⟩ : ∃ v : Nat, tow A s = v := ⟨(tow A s).toNat, by omega⟩
          have huN : u < n := by omega
          have hvN : v < n := by omega
          have hbu := HPB.out u (by omega) (by omega)
          rw [hu] at k0
          rw [hv] at k1
          have HUV := Lib.hid (And.intro hu (And.intro hv (And.intro huN hvN)))
          have HMS := Lib.hid hm
          have HLT := Lib.hid hlt
          have hw2 : IntKind.i64.wrap (p u + cst A s) = p u + cst A s := IntWalk.i64_in _ (by omega)
          have hal := below_alloc (Below.refl wv.heap.size wv) (.cells #[.int .i64 u, .int .i64 v, .int .i64 (cst A s), .int .i64 s.f0, .bool (!s.f1)] 123 (0, 0))
          have hA4 := Blk.new wv #[.int .i64 u, .int .i64 v, .int .i64 (cst A s), .int .i64 s.f0, .bool (!s.f1)] 123
          clear hs hm a1 a2 a3 a4 a5 a6 a7 hu hv hbu hlt huN hvN
          go_upto_region 10 with (fail)
          generalize wv.alloc (.cells #[.int .i64 u, .int .i64 v, .int .i64 (cst A s), .int .i64 s.f0, .bool (!s.f1)] 123 (0, 0)) = wz at *
          have hFz : Fr (fun b => b = sb) w wz := HFR.out.trans (Fr.of_below hal (fun _ => False)) (fun x h => h.elim)
          have HFz := Lib.hid hFz
          have HTz : Hid (TB wz sb n f') := Lib.hid (TV.below HTB.out hal)
          clear hal
          generalize wv.heap.size = bs at *
          have b0 := Blk.cell hA4 0 (v := .int .i64 u) rfl
          have b1 := Blk.cell hA4 1 (v := .int .i64 v) rfl
          have b2 := Blk.cell hA4 2 (v := .int .i64 (cst A s)) rfl
          have b3 := Blk.cell hA4 3 (v := .int .i64 s.f0) rfl
          have HA4 := Lib.hid hA4
          have hu0 : (0 : Int) ≤ u := by omega
          have hu1 : (u : Int) < n := by have := HUV.out; omega
          have hv0 : (0 : Int) ≤ v := by omega
          have hv1 : (v : Int) < n := by have := HUV.out; omega
          have x0 : wz.cell? ⟨sb, u, none⟩ = some (.bool (f' u)) := TV.cell HTz.out HUV.out.2.2.1
          have x1 : wz.cell? ⟨sb, v, none⟩ = some (.bool (f' v)) := TV.cell HTz.out HUV.out.2.2.2
          have y0 : wz.cell? ⟨gp, u, none⟩ = some (.int .i64 (p u)) := TV.cell (HCS.out wz hFz).2 HUV.out.2.2.1
          have y1 : wz.cell? ⟨gp, v, none⟩ = some (.int .i64 (p v)) := TV.cell (HCS.out wz hFz).2 HUV.out.2.2.2
          clear hA4 hFz k0 k1 k2 k3 k4 HTB
          by_cases hgood : k ≤ s.f0 ∧ f' u = true ∧ f' v = false ∧ p u + cst A s = p v
          · obtain ⟨g1, g2, g3, g4⟩ := hgood
            have e1 : decide (k ≤ s.f0) = true := decide_eq_true g1
            have e2 : (p u + cst A s == p v) = true := beq_iff_eq.2 g4
            have HR2 : Hid (∀ j, j < n → (fun j => if j = v then true else f' j) j = true → Rch A (TightS A all p k) o j) := Lib.hid (fun j hj hf => by
              by_cases e : j = v
              · subst e
                have hr := HRC.out u HUV.out.2.2.1 g2
                rw [← HUV.out.1] at hr
                have := Rch.step hr ⟨HMS.out, g1, by rw [HUV.out.1, HUV.out.2.1]; exact g4⟩
                rw [HUV.out.2.1] at this; exact this
              · simp [e] at hf; exact HRC.out j hj hf)
            have HC2 : Hid (cntV n (fun j => if j = v then true else f' j) + (if true then 1 else 0) ≤ cntV n f) := Lib.hid (by
              have h1 := cntV_set HUV.out.2.2.2 g3
              have h2 := HC1.out
              rw [if_pos rfl]; split at h2 <;> omega)
            rw [g2] at x0
            rw [g3] at x1
            have x2 := TV.free HTz.out v
            clear g1 g2 g3 g4
            go_quiet (fail)
            go_wp2_with fail
            go_roundg (all.length - (t + 1))
            case measure => have := HTK.out; have := HLT.out; omega
            case rel => exact ⟨t + 1, _, true, by go_num, rfl, Lib.hid (by have := HTK.out; have := HLT.out; omega), Lib.hid (TB.set (w := wz.drewN nq) HTz.out v true), HR2, HC2, Lib.hid ((HFz.out.drewN nq).setCell (p := ⟨sb, v, none⟩) (.inl rfl) _)⟩
          · by_cases g1 : k ≤ s.f0
            · have e1 : decide (k ≤ s.f0) = true := decide_eq_true g1
              cases g2 : f' u with
              | false =>
                rw [g2] at x0
                clear g1 g2 hgood
                go_quiet (fail)
                go_wp2_with fail
                go_roundg (all.length - (t + 1))
                case measure => have := HTK.out; have := HLT.out; omega
                case rel => exact ⟨t + 1, f', mv, by go_num, rfl, Lib.hid (by have := HTK.out; have := HLT.out; omega), Lib.hid (show TB (wz.drewN nq) sb n f' from HTz.out), HRC, HC1, Lib.hid (HFz.out.drewN nq)⟩
              | true =>
                cases g3 : f' v with
                | true =>
                  rw [g2] at x0
                  rw [g3] at x1
                  clear g1 g2 g3 hgood
                  go_quiet (fail)
                  go_wp2_with fail
                  go_roundg (all.length - (t + 1))
                  case measure => have := HTK.out; have := HLT.out; omega
                  case rel => exact ⟨t + 1, f', mv, by go_num, rfl, Lib.hid (by have := HTK.out; have := HLT.out; omega), Lib.hid (show TB (wz.drewN nq) sb n f' from HTz.out), HRC, HC1, Lib.hid (HFz.out.drewN nq)⟩
                | false =>
                  have e2 : (p u + cst A s == p v) = false := beq_eq_false_iff_ne.2 (fun g4 => hgood ⟨g1, g2, g3, g4⟩)
                  rw [g2] at x0
                  rw [g3] at x1
                  clear g1 g2 g3 hgood
                  go_quiet (fail)
                  go_wp2_with fail
                  go_roundg (all.length - (t + 1))
                  case measure => have := HTK.out; have := HLT.out; omega
                  case rel => exact ⟨t + 1, f', mv, by go_num, rfl, Lib.hid (by have := HTK.out; have := HLT.out; omega), Lib.hid (show TB (wz.drewN nq) sb n f' from HTz.out), HRC, HC1, Lib.hid (HFz.out.drewN nq)⟩
            · have e1 : decide (k ≤ s.f0) = false := decide_eq_false g1
              clear g1 hgood
              go_quiet (fail)
              go_wp2_with fail
              go_roundg (all.length - (t + 1))
              case measure => have := HTK.out; have := HLT.out; omega
              case rel => exact ⟨t + 1, f', mv, by go_num, rfl, Lib.hid (by have := HTK.out; have := HLT.out; omega), Lib.hid (show TB (wz.drewN nq) sb n f' from HTz.out), HRC, HC1, Lib.hid (HFz.out.drewN nq)⟩
        · have hnl : ¬ (t : Int) < all.length := by omega
          clear hlt
          go_wp2_with fail
          go_roundg (cntV n f' + (if mv then 1 else 0) + 1)
          case measure => have h1 := HCN.out; have h2 := HC1.out; rw [if_pos trivial] at h1; omega
          case rel => exact ⟨f', mv, rfl, HTB, HRC, Lib.hid (Nat.le_refl _), HFR⟩
theorem Rch.imp {A : Nat → Ar} {P Q : Stp → Prop} (h : ∀ s, P s → Q s) {a b : Int} (hr : Rch A P a b) : Rch A Q a b := by
  induction hr with
  | refl => exact .refl _
  | step _ hp ih => exact .step ih (h _ hp)
/-- Nothing that the reference's Best looks for is there. -/
def BestOk (m : Nat) (A : Nat → Ar) (x : Nat → Int) (first : Int) : Prop :=
  (∃ q, Feas m A x q) ∧ ∀ p', Feas m A x p' → ∀ i, i < m → (i : Int) < first → x i < (A i).f2 → p' (A i).f0 + (A i).f3 = p' (A i).f1 → ¬ Rch A (fun s => Res m A x s ∧ (i : Int) < s.f0 ∧ p' (frm A s) + cst A s = p' (tow A s)) (A i).f1 (A i).f0
theorem BestOk.at {m : Nat} {A : Nat → Ar} {x : Nat → Int} {first : Int} (h : BestOk m A x first) {p : Int → Int} (hp : Feas m A x p) {s : Stp} (hs : Res m A x s) (h1 : s.f1 = false) (h2 : s.f0 < first) (h3 : p (frm A s) + cst A s = p (tow A s)) :
    ¬ Rch A (TightS A (stepsF A x m) p (s.f0 + 1)) (tow A s) (frm A s) := fun hr => by
  obtain ⟨⟨r0, r1⟩, r2⟩ := hs
  have e0 : ((s.f0.toNat : Nat) : Int) = s.f0 := by omega
  have ef : frm A s = (A s.f0.toNat).f0 := by unfold frm; rw [h1]; rfl
  have et : tow A s = (A s.f0.toNat).f1 := by unfold tow; rw [h1]; rfl
  have ec : cst A s = (A s.f0.toNat).f3 := by unfold cst; rw [h1]; rfl
  have es : spr A x s = (A s.f0.toNat).f2 - x s.f0.toNat := by unfold spr; rw [h1]; rfl
  rw [ef, et, ec] at h3
  refine h.2 p hp s.f0.toNat (by omega) (by omega) (by omega) h3 ?_
  rw [← ef, ← et]
  exact hr.imp fun t ht => ⟨mem_stepsF.1 ht.1, by have := ht.2.1; omega, ht.2.2⟩
set_option maxRecDepth 100000 in
set_option maxHeartbeats 8000000 in
theorem best_any (w : World) (n : Nat) (A1 : Option Addr) (c1 : Nat) (l : List Ar) (h1 : Kd.C k69 w A1 l.length l) (A2 : Option Addr) (c2 : Nat) (xs : List Int) (h2 : Kd.C (Kd.int .i64) w A2 xs.length xs) (hxl : l.length ≤ xs.length) (hok : NetOk n l.length (arcF l)) (first : Int) (hbest : BestOk l.length (arcF l) (xsF xs) first) :
    Calls Try.prog 41 #[.int .i64 n, .slice A1 l.length c1, .slice A2 xs.length c2, .int .i64 first] w fun e w' => e = .returned (.bool true) ∧ Below w.heap.size w w' := by
  have HRS := Lib.hid (rsteps_any w A1 c1 l h1 A2 c2 xs h2 hxl hok)
  have HOK := Lib.hid hok
  have HBE := Lib.hid hbest
  clear h1 h2 hok hbest
  go_enter Try.func41, Try.ntmps41
  go_wp2_with fail
  refine HRS.out.mono ?_
  rintro e w1 ⟨⟨v, rfl, hR⟩, hb1⟩
  have HB1 := Lib.hid hb1
  obtain ⟨AS, cS, rfl, hC⟩ := rsteps_C hR
  have HSO := Lib.hid (HOK.out.steps (xsF xs))
  have HLN : Hid ((stepsF (arcF l) (xsF xs) l.length).length ≤ 256) := Lib.hid (by have := stepsF_len (arcF l) (xsF xs) l.length; have := HOK.out.m1; omega)
  have HMS : Hid (∀ s, s ∈ stepsF (arcF l) (xsF xs) l.length ↔ Res l.length (arcF l) (xsF xs) s) := Lib.hid (fun s => mem_stepsF)
  have HFE : Hid (∃ q, FeasL (arcF l) (stepsF (arcF l) (xsF xs) l.length) q) := Lib.hid (by obtain ⟨q, hq⟩ := HBE.out.1; exact ⟨q, feasL_iff.2 hq⟩)
  have HAT : Hid (∀ p : Int → Int, FeasL (arcF l) (stepsF (arcF l) (xsF xs) l.length) p → ∀ s, s ∈ stepsF (arcF l) (xsF xs) l.length → s.f1 = false → s.f0 < first → p (frm (arcF l) s) + cst (arcF l) s = p (tow (arcF l) s) → ¬ Rch (arcF l) (TightS (arcF l) (stepsF (arcF l) (xsF xs) l.length) p (s.f0 + 1)) (tow (arcF l) s) (frm (arcF l) s)) :=
    Lib.hid (fun p hp s hs g1 g2 g3 => HBE.out.at (feasL_iff.1 hp) (mem_stepsF.1 hs) g1 g2 g3)
  have HRG : Hid (∀ s, s ∈ stepsF (arcF l) (xsF xs) l.length → 0 ≤ s.f0 ∧ s.f0 < 128) := Lib.hid (fun s hs => by have := (mem_stepsF.1 hs).1; have := HOK.out.m1; omega)
  have HN1 : Hid (1 ≤ n ∧ n ≤ 32) := Lib.hid ⟨HOK.out.n1, HOK.out.n2⟩
  clear hb1 hR HRS HMS HBE
  generalize stepsF (arcF l) (xsF xs) l.length = all at *
  have HPO := Lib.hid (rpot_any w1 AS cS hC HSO.out HN1.out.1 HN1.out.2 HLN.out)
  have HC := Lib.hid hC
  clear hC
  go_wp2_with fail
  refine HPO.out.mono ?_
  rintro e w2 ⟨hpost, hb2⟩
  have HB2 := Lib.hid hb2
  rcases hpost with ⟨j, hj, hfe, _, rfl, hT⟩ | ⟨hno, _⟩
  · have HFP := Lib.hid hfe
    have HTP := Lib.hid hT
    have HPB : Hid (∀ v : Int, 0 ≤ v → v < n → -1099511627776 ≤ swpPs (arcF l) all j v ∧ swpPs (arcF l) all j v ≤ 1099511627776) := Lib.hid (fun v h0 h1 => by
      have g1 := swpPs_le (arcF l) all j v
      have g2 := swpPs_ge HSO.out (by decide) HFE.out j v h0 h1
      have := HN1.out
      omega)
    have HC2 := Lib.hid (Kd.C_below HC.out hb2)
    have HB02 := Lib.hid (below_u HB1.out hb2)
    clear hj hfe hT hb2 HPO
    generalize swpPs (arcF l) all j = p at *
    go_wp2_with fail
    generalize w1.heap.size = gp at *
    have HRE : Hid (∀ W, Below w2.heap.size w2 W → ∀ (o : Nat) (ho : o < n) (k : Int), Calls Try.prog 69 #[.int .i64 n, .slice AS all.length cS, .slice (some ⟨gp, 0, none⟩) n n, .int .i64 o, .int .i64 k] W (ReachPost n (arcF l) all p o k W)) := Lib.hid (fun W hW o ho k =>
      reach_any W AS cS (Kd.C_below HC2.out hW) HSO.out HN1.out.2 HLN.out gp p (TV.below HTP.out hW) HPB.out o ho k)
    go_loopg [11, 12, 13] all.length (fun kk v11 v12 v13 wr => ∃ t : Nat, v12 = .int .i64 t ∧ v11 = .bool true ∧ Hid (t + kk = all.length) ∧ Hid (Below w2.heap.size w2 wr))
    case atStart => exact ⟨0, rfl, rfl, Lib.hid (by omega), Lib.hid (Below.refl _ _)⟩
    case round =>
      obtain ⟨t, rfl, rfl, HTK, HB⟩ := hrel
      obtain ⟨wv, rfl⟩ : ∃ wv : World, wv = wr := ⟨_, rfl⟩
      by_cases hlt : t < all.length
      · obtain ⟨s, hs⟩ : ∃ s, all[t]? = some s := ⟨_, List.getElem?_eq_getElem hlt⟩
        have ht0 : (t : Int) < all.length := by omega
        have htz : (0 : Int) ≤ t := by omega
        obtain ⟨ad, rfl, k0, k1, k2, k3, k4⟩ := rstp_at (Kd.C_below HC2.out HB.out) hs
        have hm := List.mem_of_getElem? hs
        have hw : IntKind.i64.wrap ((t : Int) + 1) = t + 1 := IntWalk.i64_in _ (by have := HLN.out; omega)
        obtain ⟨a1, a2, a3, a4, a5, a6, a7⟩ := HSO.out s hm
        obtain ⟨u, hu⟩ : ∃ u : Nat, frm (arcF l) s = u := ⟨(frm (arcF l) s).toNat, by omega⟩
        obtain ⟨v, hv⟩ : ∃ v : Nat, tow (arcF l) s = v := ⟨(tow (arcF l) s).toNat, by omega⟩
        have huN : u < n := by omega
        have hvN : v < n := by omega
        have hbu := HPB.out u (by omega) (by omega)
        rw [hu] at k0
        rw [hv] at k1
        have HUV := Lib.hid (And.intro hu (And.intro hv (And.intro huN hvN)))
        have HMM := Lib.hid hm
        have HLT := Lib.hid hlt
        have hrg := HRG.out s hm
        have hw2 : IntKind.i64.wrap (p u + cst (arcF l) s) = p u + cst (arcF l) s := IntWalk.i64_in _ (by omega)
        have hw3 : IntKind.i64.wrap (s.f0 + 1) = s.f0 + 1 := IntWalk.i64_in _ (by omega)
        have hal := below_alloc (Below.refl wv.heap.size wv) (.cells #[.int .i64 u, .int .i64 v, .int .i64 (cst (arcF l) s), .int .i64 s.f0, .bool (!s.f1)] 123 (0, 0))
        have hA4 := Blk.new wv #[.int .i64 u, .int .i64 v, .int .i64 (cst (arcF l) s), .int .i64 s.f0, .bool (!s.f1)] 123
        clear hs hm a1 a2 a3 a4 a5 a6 a7 hu hv hbu hlt huN hvN hrg
        go_upto_region 7 with (fail)
        generalize wv.alloc (.cells #[.int .i64 u, .int .i64 v, .int .i64 (cst (arcF l) s), .int .i64 s.f0, .bool (!s.f1)] 123 (0, 0)) = wz at *
        have HBZ := Lib.hid (below_u HB.out hal)
        clear hal
        generalize wv.heap.size = bs at *
        have b0 := Blk.cell hA4 0 (v := .int .i64 u) rfl
        have b1 := Blk.cell hA4 1 (v := .int .i64 v) rfl
        have b2 := Blk.cell hA4 2 (v := .int .i64 (cst (arcF l) s)) rfl
        have b3 := Blk.cell hA4 3 (v := .int .i64 s.f0) rfl
        have b4 := Blk.cell hA4 4 (v := .bool (!s.f1)) rfl
        have hu0 : (0 : Int) ≤ u := by omega
        have hu1 : (u : Int) < n := by have := HUV.out; omega
        have hv0 : (0 : Int) ≤ v := by omega
        have hv1 : (v : Int) < n := by have := HUV.out; omega
        have y0 : wz.cell? ⟨gp, u, none⟩ = some (.int .i64 (p u)) := TV.cell (TV.below HTP.out HBZ.out) HUV.out.2.2.1
        have y1 : wz.cell? ⟨gp, v, none⟩ = some (.int .i64 (p v)) := TV.cell (TV.below HTP.out HBZ.out) HUV.out.2.2.2
        have HAB := Lib.hid hA4
        clear hA4 k0 k1 k2 k3 k4
        by_cases hgood : s.f1 = false ∧ s.f0 < first ∧ p u + cst (arcF l) s = p v
        · obtain ⟨g1, g2, g3⟩ := hgood
          have e1 : decide (s.f0 < first) = true := decide_eq_true g2
          have e2 : (p u + cst (arcF l) s == p v) = true := beq_iff_eq.2 g3
          have HNR := Lib.hid (HAT.out p HFP.out s HMM.out g1 g2 (by rw [HUV.out.1, HUV.out.2.1]; exact g3))
          rw [HUV.out.1, HUV.out.2.1] at HNR
          have HRC : Hid (∀ W, Below w2.heap.size w2 W → Calls Try.prog 69 #[.int .i64 n, .slice (some ad) all.length cS, .slice (some ⟨gp, 0, none⟩) n n, .int .i64 v, .int .i64 (s.f0 + 1)] W fun e w' => e = .returned (.slice (some ⟨W.heap.size, 0, none⟩) n n) ∧ w'.cell? ⟨W.heap.size, u, none⟩ = some (.bool false) ∧ Below W.heap.size W w') := Lib.hid (fun W hW => by
            refine (HRE.out W hW v HUV.out.2.2.2 (s.f0 + 1)).mono ?_
            rintro e w5 ⟨⟨f, rfl, hTF, hf⟩, hb5⟩
            have x6 := TV.cell hTF HUV.out.2.2.1
            have hfu : f u = false := by
              cases hfe : f u with
              | false => rfl
              | true => exact absurd (hf u HUV.out.2.2.1 hfe) HNR.out
            simp only [hfu] at x6
            exact ⟨rfl, x6, hb5⟩)
          rw [g1] at b4
          clear g1 g2 g3
          go_quiet (fail)
          have hbq : Below wz.heap.size wz (wz.drewN nq) := by first | exact pw_below_drewN (Below.refl _ wz) _ | (apply pw_below_drewN; exact Below.refl _ wz)
          have HBQ := Lib.hid hbq
          have KQ : ∀ W, Below wz.heap.size wz W → W.cell? ⟨bs, 0, none⟩ = some (.int .i64 u) ∧ W.cell? ⟨bs, 1, none⟩ = some (.int .i64 v) ∧ W.cell? ⟨bs, 3, none⟩ = some (.int .i64 s.f0) ∧ Below wz.heap.size wz W := fun W hW =>
            ⟨(Fr.of_below hW (fun _ => False)).cell b0 (fun a => a), (Fr.of_below hW (fun _ => False)).cell b1 (fun a => a), (Fr.of_below hW (fun _ => False)).cell b3 (fun a => a), hW⟩
          have HKQ := Lib.hid KQ
          clear KQ hbq
          generalize wz.drewN nq = wq at *
          clear b0 b1 b2 b3 b4 y0 y1
          go_upto_region 8 with (fail)
          have S0 := HKQ.out _ (HBQ.out.drew)
          obtain ⟨z0, z1, z3, z4⟩ := S0
          go_region_with (first
              | (refine (HRC.out wq.drew (below_u HBZ.out z4)).mono ?_; rintro e w5 ⟨rfl, x5', hb5⟩; have x5 : w5.cell? ⟨wq.heap.size, u, none⟩ = some (.bool false) := x5'; clear x5'; have S5 := HKQ.out _ (z4.trans (hb5.mono z4.size)); obtain ⟨v0, v1, v3, v4⟩ := S5))
          all_goals
            go_wp2_with fail
            go_roundg (all.length - (t + 1))
            case measure => have := HTK.out; have := HLT.out; omega
            case rel => exact ⟨t + 1, by go_num, rfl, Lib.hid (by have := HTK.out; have := HLT.out; omega), Lib.hid (below_u HBZ.out v4)⟩
        · cases g1 : s.f1 with
          | true =>
            rw [g1] at b4
            clear g1 hgood
            go_quiet (fail)
            go_wp2_with fail
            go_roundg (all.length - (t + 1))
            case measure => have := HTK.out; have := HLT.out; omega
            case rel => exact ⟨t + 1, by go_num, rfl, Lib.hid (by have := HTK.out; have := HLT.out; omega), Lib.hid (by first | exact pw_below_drewN HBZ.out _ | (apply pw_below_drewN; exact HBZ.out))⟩
          | false =>
            rw [g1] at b4
            by_cases g2 : s.f0 < first
            · have e1 : decide (s.f0 < first) = true := decide_eq_true g2
              have e2 : (p u + cst (arcF l) s == p v) = false := beq_eq_false_iff_ne.2 (fun g3 => hgood ⟨g1, g2, g3⟩)
              clear g1 g2 hgood
              go_quiet (fail)
              go_wp2_with fail
              go_roundg (all.length - (t + 1))
              case measure => have := HTK.out; have := HLT.out; omega
              case rel => exact ⟨t + 1, by go_num, rfl, Lib.hid (by have := HTK.out; have := HLT.out; omega), Lib.hid (by first | exact pw_below_drewN HBZ.out _ | (apply pw_below_drewN; exact HBZ.out))⟩
            · have e1 : decide (s.f0 < first) = false := decide_eq_false g2
              clear g1 g2 hgood
              go_quiet (fail)
              go_wp2_with fail
              go_roundg (all.length - (t + 1))
              case measure => have := HTK.out; have := HLT.out; omega
              case rel => exact ⟨t + 1, by go_num, rfl, Lib.hid (by have := HTK.out; have := HLT.out; omega), Lib.hid (by first | exact pw_below_drewN HBZ.out _ | (apply pw_below_drewN; exact HBZ.out))⟩
      · have hnl : ¬ (t : Int) < all.length := by omega
        have HBE := Lib.hid (below_u HB02.out HB.out)
        clear hlt
        go_wp2_with fail
        go_ret
        exact ⟨rfl, HBE.out⟩
  · exact absurd (swpPs_fix HSO.out HFE.out) (hno n (Nat.le_refl _))
end Go.Proofs.Ytcobihdjcdefmaa
