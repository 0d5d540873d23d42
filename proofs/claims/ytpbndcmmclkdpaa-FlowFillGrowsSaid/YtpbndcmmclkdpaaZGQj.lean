/-
  The reference's steps and potentials.
-/
import Derived.Test.YtpbndcmmclkdpaaZGQf
namespace Go.Proofs.Ytpbndcmmclkdpaa
open PFlowSolves
open Go.RowKit Go.Proofs.YtpbndcmmclkdpaaW.PrintWords
abbrev xsF (xs : List Int) : Nat → Int := fun i => xs.getD i 0
/-- A step as the reference has it. -/
def toR (A : Nat → Ar) (s : Stp) : S96 := ⟨frm A s, tow A s, cst A s, s.f0, !s.f1⟩
theorem stepsR_next (A : Nat → Ar) (x : Nat → Int) (i : Nat) : (stepsF A x (i + 1)).map (toR A) = ((stepsF A x i).map (toR A) ++ (if x i < (A i).f2 then [⟨(A i).f0, (A i).f1, (A i).f3, i, true⟩] else [])) ++ (if 0 < x i then [⟨(A i).f1, (A i).f0, -(A i).f3, i, false⟩] else []) := by
  have e1 : spr A x ⟨i, false⟩ = (A i).f2 - x i := by show (A ((i : Int)).toNat).f2 - x ((i : Int)).toNat = _; rw [Int.toNat_natCast]
  have e2 : spr A x ⟨i, true⟩ = x i := by show x ((i : Int)).toNat = _; rw [Int.toNat_natCast]
  have e3 : toR A ⟨i, false⟩ = ⟨(A i).f0, (A i).f1, (A i).f3, i, true⟩ := by
    show (⟨(A ((i : Int)).toNat).f0, (A ((i : Int)).toNat).f1, (A ((i : Int)).toNat).f3, i, true⟩ : S96) = _
    rw [Int.toNat_natCast]
  have e4 : toR A ⟨i, true⟩ = ⟨(A i).f1, (A i).f0, -(A i).f3, i, false⟩ := by
    show (⟨(A ((i : Int)).toNat).f1, (A ((i : Int)).toNat).f0, -(A ((i : Int)).toNat).f3, i, false⟩ : S96) = _
    rw [Int.toNat_natCast]
  show ((stepsF A x i) ++ ((if 0 < spr A x ⟨i, false⟩ then [(⟨i, false⟩ : Stp)] else []) ++ (if 0 < spr A x ⟨i, true⟩ then [(⟨i, true⟩ : Stp)] else []))).map (toR A) = _
  rw [e1, e2, List.map_append, List.map_append, List.append_assoc]
  congr 1
  congr 1
  · by_cases h : x i < (A i).f2
    · rw [if_pos h, if_pos (by omega), List.map_cons, e3, List.map_nil]
    · rw [if_neg h, if_neg (by omega)]; rfl
  · by_cases h : 0 < x i
    · rw [if_pos h, if_pos h, List.map_cons, e4, List.map_nil]
    · rw [if_neg h, if_neg h]; rfl
def RStepsPost (l : List Ar) (xs : List Int) (w : World) (e : Ending) (w' : World) : Prop :=
  (∃ v, e = .returned v ∧ Kd.R k96 96 w' w.heap.size (fun _ => True) v ((stepsF (arcF l) (xsF xs) l.length).map (toR (arcF l)))) ∧ Below w.heap.size w w'
set_option maxRecDepth 100000 in
set_option maxHeartbeats 8000000 in
theorem rsteps_any (w : World) (A1 : Option Addr) (c1 : Nat) (l : List Ar) (h1 : Kd.C k44 w A1 l.length l) (A2 : Option Addr) (c2 : Nat) (xs : List Int) (h2 : Kd.C (Kd.int .i64) w A2 xs.length xs) (hxl : l.length ≤ xs.length) {n : Nat} (hok : NetOk n l.length (arcF l)) :
    Calls Try.prog 53 #[.slice A1 l.length c1, .slice A2 xs.length c2] w (RStepsPost l xs w) := by
  have H1 := Lib.hid h1
  have H2 := Lib.hid h2
  have HLE := Lib.hid hxl
  have HOK := Lib.hid hok
  clear h1 h2 hxl hok
  go_enter Try.func53, Try.ntmps53
  go_wp2_with fail
  go_loopg [5, 6, 7] l.length (fun k v5 v6 v7 wr => ∃ i : Nat, v6 = .int .i64 i ∧ Hid (i + k = l.length) ∧ Hid (Kd.R k96 96 wr w.heap.size (fun b => w.heap.size ≤ b) v5 ((stepsF (arcF l) (xsF xs) i).map (toR (arcF l)))) ∧ Hid (Below w.heap.size w wr))
  case atStart => exact ⟨0, rfl, Lib.hid (by omega), Lib.hid (Kd.R_nil _ _ _ _ _), Lib.hid (Below.refl _ _)⟩
  case round =>
    obtain ⟨i, rfl, HI, HR, HB⟩ := hrel
    obtain ⟨wv, rfl⟩ : ∃ wv : World, wv = wr := ⟨_, rfl⟩
    by_cases hlt : i < l.length
    · have hi0 : (i : Int) < l.length := by omega
      have hix : (i : Int) < xs.length := by have := HLE.out; omega
      have hiz : (0 : Int) ≤ i := by omega
      obtain ⟨ad, rfl, k0, k1, k2, k3⟩ := arcs_of (Kd.C_below H1.out HB.out) (i : Int) (by omega) hi0
      rw [Int.toNat_natCast] at k0 k1 k2 k3
      have hw : IntKind.i64.wrap ((i : Int) + 1) = i + 1 := IntWalk.i64_in _ (by have := HOK.out.m1; omega)
      have hal := below_alloc (Below.refl wv.heap.size wv) (.cells #[.int .i64 (arcF l i).f0, .int .i64 (arcF l i).f1, .int .i64 (arcF l i).f2, .int .i64 (arcF l i).f3] 44 (0, 0))
      have hA4 := Blk.new wv #[.int .i64 (arcF l i).f0, .int .i64 (arcF l i).f1, .int .i64 (arcF l i).f2, .int .i64 (arcF l i).f3] 44
      have HLT := Lib.hid hlt
      have HNX := Lib.hid (stepsR_next (arcF l) (xsF xs) i)
      have HLEN : Hid ((stepsF (arcF l) (xsF xs) i).length ≤ 512) := Lib.hid (by have := stepsF_len (arcF l) (xsF xs) i; have := HOK.out.m1; omega)
      have hcc := HOK.out.cost i hlt
      have hwn : IntKind.i64.wrap (-(arcF l i).f3) = -(arcF l i).f3 := IntWalk.i64_in _ (by omega)
      clear hlt hcc
      go_upto_region 6 with (fail)
      generalize wv.alloc (.cells #[.int .i64 (arcF l i).f0, .int .i64 (arcF l i).f1, .int .i64 (arcF l i).f2, .int .i64 (arcF l i).f3] 44 (0, 0)) = w3 at *
      have b2 := Blk.cell hA4 2 (v := .int .i64 (arcF l i).f2) rfl
      have hB3 := below_t HB.out hal
      obtain ⟨bd, rfl, q0⟩ := Kd.at_int (Kd.C_below H2.out hB3) (i : Int) (by omega) hix
      have ex : rd xs (i : Int) = xs.getD i 0 := by unfold rd; rw [Int.toNat_natCast]
      rw [ex, Int.toNat_natCast] at q0
      have HXI : Hid (xsF xs i = xs.getD i 0) := Lib.hid rfl
      have HB3 := Lib.hid hB3
      have HA4 := Lib.hid hA4
      have HR3 := Lib.hid (Kd.R_below HR.out hal)
      clear k0 k1 k2 k3 hal hA4 hB3 ex
      generalize xs.getD i 0 = xi at *
      have HOWN : Hid (∀ k, u5.ownBlock = some k → k < wv.heap.size) := Lib.hid (fun k hk => ((Kd.R_bound HR.out).1 k hk).2.2.1)
      generalize (stepsF (arcF l) (xsF xs) i) = L0 at *
      rw [HXI.out] at HNX
      generalize hc1 : decide (xi < (arcF l i).f2) = z1 at *
      generalize hc2 : decide (0 < xi) = z2 at *
      have HC1 := Lib.hid hc1
      have HC2 := Lib.hid hc2
      go_quiet (fail)
      have hbq : Below wv.heap.size wv (w3.drewN nq) → True := fun _ => trivial
      have hbn : Below w.heap.size w (w3.drewN nq) := by first | exact pw_below_drewN HB3.out _ | (apply pw_below_drewN; exact HB3.out)
      have hA5 := HA4.out.fr (F := fun _ => False) ((Fr.refl _ w3).drewN nq) (fun a => a)
      have hR5 : Kd.R k96 96 (w3.drewN nq) w.heap.size (fun b => w.heap.size ≤ b) u5 (L0.map (toR (arcF l))) := Kd.R_drewN HR3.out nq
      have hC2 := Kd.C_below H2.out hbn
      generalize w3.drewN nq = w4 at *
      have HB4 := Lib.hid hbn
      have HR4 := Lib.hid hR5
      have HA5 := Lib.hid hA5
      clear hbq hbn hA5 hR5 b2 q0 HB3 HR3 HA4 hC2
      go_upto_if 24 with fail
      go_cut [5] (fun s5 wx => Kd.R k96 96 wx w.heap.size (fun b => w.heap.size ≤ b) s5 (L0.map (toR (arcF l)) ++ (if xi < (arcF l i).f2 then [⟨(arcF l i).f0, (arcF l i).f1, (arcF l i).f3, i, true⟩] else [])) ∧ Blk wx wv.heap.size #[.int .i64 (arcF l i).f0, .int .i64 (arcF l i).f1, .int .i64 (arcF l i).f2, .int .i64 (arcF l i).f3] 44 ∧ Below w.heap.size w wx)
      case first =>
        cases z1 with
        | true =>
          have b0 := Blk.cell HA5.out 0 (v := .int .i64 (arcF l i).f0) rfl
          have b1 := Blk.cell HA5.out 1 (v := .int .i64 (arcF l i).f1) rfl
          have b3 := Blk.cell HA5.out 3 (v := .int .i64 (arcF l i).f3) rfl
          go_wp2_with (at_builtin; refine Kd.R_append k96 (w0 := w) w.heap.size rfl _ _ 92 96 (.agg #[.int .i64 0, .int .i64 0, .int .i64 0, .int .i64 0, .bool false]) 40 rfl Try.underlying92 info96 rfl (by decide) (by omega) u5 (L0.map (toR (arcF l))) ⟨(arcF l i).f0, (arcF l i).f1, (arcF l i).f3, i, true⟩ [.int .i64 (arcF l i).f0, .int .i64 (arcF l i).f1, .int .i64 (arcF l i).f3, .int .i64 i, .bool true] (fun b => w.heap.size ≤ b) (fun _ => False) rfl rfl (k96_mkM _ _ _ ⟨(arcF l i).f0, (arcF l i).f1, (arcF l i).f3, i, true⟩) (fun _ hk => hk.elim) (fun b hb => Nat.le_trans HB4.out.size hb) HR4.out HB4.out HB4.out.size (by rw [List.length_map]; have := HLEN.out; omega) ?_; intro v7 w7 hR7 hb7 hg7 hat7)
          have HR7 := Lib.hid hR7
          have HB7 := Lib.hid hb7
          have HA7 := Lib.hid (HA5.out.fr ((Fr.refl (fun k => some k = u5.ownBlock) w4).grown hg7 (fun k hk => .inl hk.symm)) (fun h => by have := HOWN.out _ h.symm; omega))
          clear hR7 hb7 hg7 hat7
          go_wp2_with fail
          go_meet
          exact ⟨by rw [if_pos (of_decide_eq_true HC1.out)]; exact HR7.out, HA7.out, HB7.out⟩
        | false =>
          go_wp2_with fail
          go_meet
          exact ⟨by rw [if_neg (of_decide_eq_false HC1.out), List.append_nil]; exact HR4.out, HA5.out, HB4.out⟩
      case rest =>
        obtain ⟨hR5, hA5, hB5⟩ := hcut
        obtain ⟨w5, rfl⟩ : ∃ w5 : World, w5 = wc := ⟨_, rfl⟩
        obtain ⟨bd2, e2', q0⟩ := Kd.at_int (Kd.C_below H2.out hB5) (i : Int) (by omega) hix
        obtain rfl := Option.some.inj e2'
        have ex : rd xs (i : Int) = xi := HXI.out
        rw [ex, Int.toNat_natCast] at q0
        have HR5 := Lib.hid hR5
        have HB5 := Lib.hid hB5
        have b0 := Blk.cell hA5 0 (v := .int .i64 (arcF l i).f0) rfl
        have b1 := Blk.cell hA5 1 (v := .int .i64 (arcF l i).f1) rfl
        have b3 := Blk.cell hA5 3 (v := .int .i64 (arcF l i).f3) rfl
        have HLX : Hid ((L0.map (toR (arcF l)) ++ (if xi < (arcF l i).f2 then [(⟨(arcF l i).f0, (arcF l i).f1, (arcF l i).f3, (i : Int), true⟩ : S96)] else [])).length ≤ 513) := Lib.hid (by
          rw [List.length_append, List.length_map]
          have := HLEN.out
          split <;> simp <;> omega)
        clear hR5 hA5 hB5 ex e2' HR4 HB4 HA5
        generalize L0.map (toR (arcF l)) ++ (if xi < (arcF l i).f2 then [(⟨(arcF l i).f0, (arcF l i).f1, (arcF l i).f3, (i : Int), true⟩ : S96)] else []) = L1 at *
        cases z2 with
        | true =>
          go_wp2_with (at_builtin; refine Kd.R_append k96 (w0 := w) w.heap.size rfl _ _ 92 96 (.agg #[.int .i64 0, .int .i64 0, .int .i64 0, .int .i64 0, .bool false]) 40 rfl Try.underlying92 info96 rfl (by decide) (by omega) u5 L1 ⟨(arcF l i).f1, (arcF l i).f0, -(arcF l i).f3, i, false⟩ [.int .i64 (arcF l i).f1, .int .i64 (arcF l i).f0, .int .i64 (-(arcF l i).f3), .int .i64 i, .bool false] (fun b => w.heap.size ≤ b) (fun _ => False) rfl rfl (k96_mkM _ _ _ ⟨(arcF l i).f1, (arcF l i).f0, -(arcF l i).f3, i, false⟩) (fun _ hk => hk.elim) (fun b hb => Nat.le_trans HB5.out.size hb) HR5.out HB5.out HB5.out.size (by have := HLX.out; omega) ?_; intro v7 w7 hR7 hb7 hg7 hat7)
          have HR7 := Lib.hid hR7
          have HB7 := Lib.hid hb7
          clear hR7 hb7 hg7 hat7
          go_wp2_with fail
          go_roundg (l.length - (i + 1))
          case measure => have := HI.out; have := HLT.out; omega
          case rel => exact ⟨i + 1, by go_num, Lib.hid (by have := HI.out; have := HLT.out; omega), Lib.hid (by rw [HNX.out, if_pos (of_decide_eq_true HC2.out)]; exact HR7.out), HB7⟩
        | false =>
          go_wp2_with fail
          go_roundg (l.length - (i + 1))
          case measure => have := HI.out; have := HLT.out; omega
          case rel => exact ⟨i + 1, by go_num, Lib.hid (by have := HI.out; have := HLT.out; omega), Lib.hid (by rw [HNX.out, if_neg (of_decide_eq_false HC2.out), List.append_nil]; exact HR5.out), HB5⟩
    · have HE : Hid (i = l.length) := Lib.hid (by have := HI.out; omega)
      have hnl : ¬ (i : Int) < l.length := by omega
      clear hlt
      go_wp2_with fail
      go_ret
      exact ⟨⟨_, rfl, by have := HR.out; rw [HE.out] at this; exact Kd.R_mono this (fun _ _ => trivial)⟩, HB.out⟩
end Go.Proofs.Ytpbndcmmclkdpaa
