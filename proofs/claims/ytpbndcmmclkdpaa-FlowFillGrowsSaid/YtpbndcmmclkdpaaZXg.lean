/-
  Fill: the reference's Network (44). Printed by wip/tools/gen_net.py.
-/
import Derived.Test.YtpbndcmmclkdpaaZXf
import Derived.Test.YtpbndcmmclkdpaaZXd
namespace Go.Proofs.Ytpbndcmmclkdpaa
open PFlowSolves
open Go.RowKit Go.Proofs.YtpbndcmmclkdpaaW.PrintWords
/-- Orders, out of what the program is given. -/
def ordOf (ps : List S49) (ws : List S51) (T : Nat → Int) : Ord where
  P := ps.length
  W := ws.length
  b i := (ps.getD i z49).f0
  c k := (ws.getD k z51).f0
  suit i k := suitB (ps.getD i z49) (ws.getD k z51)
  cost i k := (ps.getD i z49).f1 + T ((ps.getD i z49).f4.toNat * 8 + (ws.getD k z51).f5.toNat)
theorem okP_all {p : S49} (h : okP p = true) : (0 ≤ p.f0 ∧ p.f0 ≤ 4096) ∧ (0 ≤ p.f1 ∧ p.f1 ≤ 16384) ∧ (0 ≤ p.f4 ∧ p.f4 ≤ 7) := by
  unfold okP inB at h
  simp only [Bool.and_eq_true, decide_eq_true_eq] at h
  exact ⟨h.1, h.2.1, h.2.2.2.2⟩
theorem okW_all {q : S51} (h : okW q = true) : (0 ≤ q.f0 ∧ q.f0 ≤ 4096) ∧ (0 ≤ q.f5 ∧ q.f5 ≤ 7) := by
  unfold okW inB at h
  simp only [Bool.and_eq_true, decide_eq_true_eq] at h
  exact ⟨h.1, h.2.2.2.2.2⟩
theorem inB_ok {x y : Int} (h : inB x y = true) : 0 ≤ x ∧ x ≤ y := by
  unfold inB at h
  simp only [Bool.and_eq_true, decide_eq_true_eq] at h
  exact h
theorem getP {ps : List S49} {i : Nat} (h : i < ps.length) : ps.getD i z49 ∈ ps := by
  rw [List.getD_eq_getElem?_getD, List.getElem?_eq_getElem h]; exact List.getElem_mem h
theorem getW {ws : List S51} {i : Nat} (h : i < ws.length) : ws.getD i z51 ∈ ws := by
  rw [List.getD_eq_getElem?_getD, List.getElem?_eq_getElem h]; exact List.getElem_mem h
theorem ord_ok {ps : List S49} {ws : List S51} {T : Nat → Int} (h : fillE ps ws T = 0) : (ordOf ps ws T).Ok := by
  obtain ⟨h1, h2, h3, h4, h5⟩ := fillE_ok h
  refine ⟨h1, h2, fun i hi => (okP_all (h3 _ (getP hi))).1, fun k hk => (okW_all (h4 _ (getW hk))).1, fun i k hi hk => ?_⟩
  obtain ⟨_, a1, a2⟩ := okP_all (h3 _ (getP hi))
  obtain ⟨_, b1⟩ := okW_all (h4 _ (getW hk))
  have := inB_ok (h5 ((ps.getD i z49).f4.toNat * 8 + (ws.getD k z51).f5.toNat) (by omega))
  show 0 ≤ (ps.getD i z49).f1 + _ ∧ (ps.getD i z49).f1 + _ ≤ (32768 : Int)
  omega
/-- The reference's arcs. -/
def netB (o : Ord) (n : Nat) : List Ar := (List.range n).map o.arcB
theorem netB_next (o : Ord) (n : Nat) : netB o (n + 1) = netB o n ++ [o.arcB n] := by unfold netB; rw [List.range_succ, List.map_append]; rfl
theorem netB_len (o : Ord) (n : Nat) : (netB o n).length = n := by unfold netB; simp
theorem netB_at (o : Ord) {n i : Nat} (h : i < n) : arcF (netB o n) i = o.arcB i := by
  unfold arcF netB
  rw [List.getD_eq_getElem?_getD, List.getElem?_map, List.getElem?_range h]; rfl
theorem arcB_at {o : Ord} {i k : Nat} (hi : i < o.P) (hk : k < o.W) : o.arcB (i * o.W + k) = ⟨(i : Nat), (o.P + k : Nat), if o.suit i k then min (o.b i) (o.c k) else 0, if o.suit i k then o.cost i k else 0⟩ := by
  rw [Ord.arcB_pair (Ord.at_grid hi hk).1, (Ord.at_grid hi hk).2.1, (Ord.at_grid hi hk).2.2, Ord.g_at hi hk]
/-- The cells of a parcel and a want. -/
theorem pw_cells {w W : World} {A1 A2 : Option Addr} {pd qd : Addr} {ps : List S49} {ws : List S51} (h1 : Kd.C k49 w A1 ps.length ps) (h2 : Kd.C k51 w A2 ws.length ws) (hb : Below w.heap.size w W) (e1 : A1 = some pd) (e2 : A2 = some qd) {i k : Nat} {p : S49} {q : S51} (hp : ps[i]? = some p) (hq : ws[k]? = some q) :
    W.cell? (pd.add (i * 5)) = some (.int .i64 p.f0) ∧ W.cell? ⟨(pd.add (i * 5)).block, (pd.add (i * 5)).off + 1, none⟩ = some (.int .i64 p.f1) ∧ W.cell? ⟨(pd.add (i * 5)).block, (pd.add (i * 5)).off + 2, none⟩ = some (.int .i64 p.f2) ∧ W.cell? ⟨(pd.add (i * 5)).block, (pd.add (i * 5)).off + 3, none⟩ = some (.int .i64 p.f3) ∧ W.cell? ⟨(pd.add (i * 5)).block, (pd.add (i * 5)).off + 4, none⟩ = some (.int .i64 p.f4) ∧ W.cell? (qd.add (k * 6)) = some (.int .i64 q.f0) ∧ W.cell? ⟨(qd.add (k * 6)).block, (qd.add (k * 6)).off + 1, none⟩ = some (.int .i64 q.f1) ∧ W.cell? ⟨(qd.add (k * 6)).block, (qd.add (k * 6)).off + 2, none⟩ = some (.int .i64 q.f2) ∧ W.cell? ⟨(qd.add (k * 6)).block, (qd.add (k * 6)).off + 3, none⟩ = some (.int .i64 q.f3) ∧ W.cell? ⟨(qd.add (k * 6)).block, (qd.add (k * 6)).off + 4, none⟩ = some (.int .i64 q.f4) ∧ W.cell? ⟨(qd.add (k * 6)).block, (qd.add (k * 6)).off + 5, none⟩ = some (.int .i64 q.f5) := by
  have hi := (List.getElem?_eq_some_iff.1 hp).1
  have hk := (List.getElem?_eq_some_iff.1 hq).1
  obtain ⟨pd', f1, q0, q1, q2, q3, q4⟩ := at_T49 (Kd.C_below h1 hb) (i : Int) (by omega) (by omega)
  obtain ⟨qd', f2, r0, r1, r2, r3, r4, r5⟩ := at_T51 (Kd.C_below h2 hb) (k : Int) (by omega) (by omega)
  obtain rfl := Option.some.inj (f1.symm.trans e1)
  obtain rfl := Option.some.inj (f2.symm.trans e2)
  rw [rdP hp, Int.toNat_natCast] at q0 q1 q2 q3 q4
  rw [rdW hq, Int.toNat_natCast] at r0 r1 r2 r3 r4 r5
  exact ⟨q0, q1, q2, q3, q4, r0, r1, r2, r3, r4, r5⟩
def NetPost (o : Ord) (w : World) (e : Ending) (w' : World) : Prop :=
  (∃ v, e = .returned (.tuple #[.int .i64 (o.nA : Nat), v]) ∧ Kd.R k44 44 w' w.heap.size (fun _ => True) v (netB o o.mB)) ∧ Below w.heap.size w w'

set_option maxRecDepth 100000 in
set_option maxHeartbeats 8000000 in
theorem net_any (w : World) (A1 : Option Addr) (c1 : Nat) (ps : List S49) (h1 : Kd.C k49 w A1 ps.length ps) (A2 : Option Addr) (c2 : Nat) (ws : List S51) (h2 : Kd.C k51 w A2 ws.length ws) (T : Nat → Int) (hE : fillE ps ws T = 0) :
    Calls Try.prog 44 #[.slice A1 ps.length c1, .slice A2 ws.length c2, vTar T] w (NetPost (ordOf ps ws T) w) := by
  have HBX := Lib.hid (Blk.new w (tarL T).toArray 67)
  have HB0 := Lib.hid (below_alloc (Below.refl w.heap.size w) (.cells (tarL T).toArray 67 (0, 0)))
  have H1 := Lib.hid h1
  have H2 := Lib.hid h2
  have HOK := Lib.hid (fillE_ok hE)
  have HOO := Lib.hid (ord_ok hE)
  obtain ⟨o, ho⟩ : ∃ o, o = ordOf ps ws T := ⟨_, rfl⟩
  have HO := Lib.hid ho
  rw [← ho] at HOO ⊢
  have HPW : Hid (o.P = ps.length ∧ o.W = ws.length) := Lib.hid (by rw [ho]; exact ⟨rfl, rfl⟩)
  have HLM : Hid (ps.length ≤ 12 ∧ ws.length ≤ 12 ∧ ps.length * ws.length ≤ 144) := Lib.hid ⟨HOK.out.1, HOK.out.2.1, Nat.mul_le_mul HOK.out.1 HOK.out.2.1⟩
  clear h1 h2 hE ho
  go_enter Try.func44, Try.ntmps44
  go_upto_region 1 with (fail)
  generalize w.alloc (.cells (tarL T).toArray 67 (0, 0)) = w1 at *
  have hw0 : IntKind.i64.wrap ((ps.length : Int) + ws.length) = (ps.length : Int) + ws.length := IntWalk.i64_in _ (by have := HLM.out; omega)
  have HB10 := Lib.hid (Below.refl w1.heap.size w1)
  go_wp2_with fail
  go_loopg [9, 10, 11, 12] ps.length (fun kk v9 v10 v11 v12 wr => ∃ i : Nat, v10 = .int .i64 i ∧ Hid (i + kk = ps.length) ∧ Hid (Kd.R k44 44 wr w1.heap.size (fun _ => True) v9 (netB o (i * ws.length))) ∧ Hid (Below w1.heap.size w1 wr))
  case atStart => exact ⟨0, rfl, Lib.hid (by omega), Lib.hid (by rw [Nat.zero_mul]; exact Kd.R_nil _ _ _ _ _), HB10⟩
  case round =>
    clear HB10
    obtain ⟨i, rfl, HI, HR, HB⟩ := hrel
    obtain ⟨wv, rfl⟩ : ∃ wv : World, wv = wr := ⟨_, rfl⟩
    by_cases hlt : i < ps.length
    · have hi0 : (i : Int) < ps.length := by omega
      have hiz : (0 : Int) ≤ i := by omega
      have hw : IntKind.i64.wrap ((i : Int) + 1) = i + 1 := IntWalk.i64_in _ (by have := HLM.out; omega)
      have HLT := Lib.hid hlt
      clear hlt
      go_wp2_with fail
      go_loopg [9, 11, 12] ws.length (fun kk v9 v11 v12 wr => ∃ k : Nat, v11 = .int .i64 k ∧ Hid (k + kk = ws.length) ∧ Hid (Kd.R k44 44 wr w1.heap.size (fun _ => True) v9 (netB o (i * ws.length + k))) ∧ Hid (Below w1.heap.size w1 wr))
      case atStart => exact ⟨0, rfl, Lib.hid (by omega), HR, HB⟩
      case round =>
        clear HR HB
        obtain ⟨k, rfl, HK, HR, HB⟩ := hrel
        obtain ⟨wv, rfl⟩ : ∃ wv : World, wv = wr := ⟨_, rfl⟩
        by_cases hlk : k < ws.length
        · have hk0 : (k : Int) < ws.length := by omega
          have hkz : (0 : Int) ≤ k := by omega
          have hwk : IntKind.i64.wrap ((k : Int) + 1) = k + 1 := IntWalk.i64_in _ (by have := HLM.out; omega)
          have hw5 : IntKind.i64.wrap ((ps.length : Int) + k) = (ps.length : Int) + k := IntWalk.i64_in _ (by have := HLM.out; omega)
          obtain ⟨p, hp⟩ : ∃ p, ps[i]? = some p := ⟨_, List.getElem?_eq_getElem HLT.out⟩
          obtain ⟨q, hq⟩ : ∃ q, ws[k]? = some q := ⟨_, List.getElem?_eq_getElem hlk⟩
          have hBv := below_t HB0.out HB.out
          obtain ⟨pd, hpd, _⟩ := at_T49 (Kd.C_below H1.out hBv) (i : Int) hiz hi0
          obtain ⟨qd, hqd, _⟩ := at_T51 (Kd.C_below H2.out hBv) (k : Int) hkz hk0
          subst hpd hqd
          have HPQ := Lib.hid (fun W hW => pw_cells (W := W) H1.out H2.out (below_t hBv hW) rfl rfl hp hq)
          have hpI : ps.getD i z49 = p := by rw [List.getD_eq_getElem?_getD, hp]; rfl
          have hqI : ws.getD k z51 = q := by rw [List.getD_eq_getElem?_getD, hq]; rfl
          obtain ⟨a0, a1, a2⟩ := okP_all (HOK.out.2.2.1 p (List.mem_of_getElem? hp))
          obtain ⟨b0', b1'⟩ := okW_all (HOK.out.2.2.2.1 q (List.mem_of_getElem? hq))
          have hAR : o.arcB (i * ws.length + k) = ⟨(i : Nat), (ps.length + k : Nat), if suitB p q then min p.f0 q.f0 else 0, if suitB p q then p.f1 + T (p.f4.toNat * 8 + q.f5.toNat) else 0⟩ := by
            have h := arcB_at (o := o) (i := i) (k := k) (by rw [HPW.out.1]; exact HLT.out) (by rw [HPW.out.2]; exact hlk)
            rw [HPW.out.1, HPW.out.2] at h
            rw [h, HO.out]
            simp only [ordOf, hpI, hqI]
          have HAR := Lib.hid hAR
          have HNX := Lib.hid (netB_next o (i * ws.length + k))
          have HLK := Lib.hid hlk
          have HPB := Lib.hid (And.intro a0 (And.intro a1 (And.intro a2 (And.intro b0' b1'))))
          have hal := below_alloc (Below.refl wv.heap.size wv) (.cells #[.int .i64 i, .int .i64 ((ps.length : Int) + k), .int .i64 0, .int .i64 0] 44 (0, 0))
          have hA4 := Blk.new wv #[.int .i64 i, .int .i64 ((ps.length : Int) + k), .int .i64 0, .int .i64 0] 44
          clear hlk hp hq hBv hpI hqI a0 a1 a2 b0' b1' hAR
          go_upto_region 10 with (fail)
          generalize wv.alloc (.cells #[.int .i64 i, .int .i64 ((ps.length : Int) + k), .int .i64 0, .int .i64 0] 44 (0, 0)) = wz at *
          have HBz := Lib.hid (below_t HB.out hal)
          have HRz := Lib.hid (Kd.R_below HR.out hal)
          have HKQ : Hid (∀ W, Below wz.heap.size wz W → W.cell? (pd.add (i * 5)) = some (.int .i64 p.f0) ∧ W.cell? ⟨(pd.add (i * 5)).block, (pd.add (i * 5)).off + 1, none⟩ = some (.int .i64 p.f1) ∧ W.cell? ⟨(pd.add (i * 5)).block, (pd.add (i * 5)).off + 2, none⟩ = some (.int .i64 p.f2) ∧ W.cell? ⟨(pd.add (i * 5)).block, (pd.add (i * 5)).off + 3, none⟩ = some (.int .i64 p.f3) ∧ W.cell? ⟨(pd.add (i * 5)).block, (pd.add (i * 5)).off + 4, none⟩ = some (.int .i64 p.f4) ∧ W.cell? (qd.add (k * 6)) = some (.int .i64 q.f0) ∧ W.cell? ⟨(qd.add (k * 6)).block, (qd.add (k * 6)).off + 1, none⟩ = some (.int .i64 q.f1) ∧ W.cell? ⟨(qd.add (k * 6)).block, (qd.add (k * 6)).off + 2, none⟩ = some (.int .i64 q.f2) ∧ W.cell? ⟨(qd.add (k * 6)).block, (qd.add (k * 6)).off + 3, none⟩ = some (.int .i64 q.f3) ∧ W.cell? ⟨(qd.add (k * 6)).block, (qd.add (k * 6)).off + 4, none⟩ = some (.int .i64 q.f4) ∧ W.cell? ⟨(qd.add (k * 6)).block, (qd.add (k * 6)).off + 5, none⟩ = some (.int .i64 q.f5) ∧ Below wz.heap.size wz W) := Lib.hid (fun W hW => by
            obtain ⟨x0, x1, x2, x3, x4, y0, y1, y2, y3, y4, y5⟩ := HPQ.out W (below_t hal hW)
            exact ⟨x0, x1, x2, x3, x4, y0, y1, y2, y3, y4, y5, hW⟩)
          have HA4 := Lib.hid hA4
          have HBS : Hid (wv.heap.size < wz.heap.size) := Lib.hid (Blk.lt hA4)
          have HFz : Hid (Fr (fun b => b = wv.heap.size) wv wz) := Lib.hid (Fr.of_below hal _)
          clear hal hA4
          generalize hbs : wv.heap.size = bs at *
          have HBSE := Lib.hid hbs
          clear hbs
          have HRK : Hid (∀ W, Fr (fun b => b = bs) wv W → Kd.R k44 44 W w1.heap.size (fun _ => True) u9 (netB o (i * ws.length + k)) ∧ Below w1.heap.size w1 W) := Lib.hid (fun W hW =>
            ⟨Kd.R_below HR.out (hW.to_below (Nat.le_refl _) (fun b hb => by have := HBSE.out; omega)), ((Fr.of_below HB.out (fun b => b = bs)).trans hW (fun x h => .inl h)).to_below (Nat.le_refl _) (fun b hb => by have := HBSE.out; have := HB.out.size; omega)⟩)
          have hw6 : IntKind.i64.wrap (p.f1 + T (p.f4.toNat * 8 + q.f5.toNat)) = p.f1 + T (p.f4.toNat * 8 + q.f5.toNat) := IntWalk.i64_in _ (by
            have := HPB.out
            have := inB_ok (HOK.out.2.2.2.2 (p.f4.toNat * 8 + q.f5.toNat) (by omega))
            omega)
          clear HR HB HBz HRz
          go_cut [46] (fun s46 wx => s46 = .bool (suitB p q) ∧ Below wz.heap.size wz wx)
          case first =>
            have S0 := HKQ.out _ ((Below.refl _ wz).drew)
            go_region_held3 (fun W => W.cell? (pd.add (i * 5)) = some (.int .i64 p.f0) ∧ W.cell? ⟨(pd.add (i * 5)).block, (pd.add (i * 5)).off + 1, none⟩ = some (.int .i64 p.f1) ∧ W.cell? ⟨(pd.add (i * 5)).block, (pd.add (i * 5)).off + 2, none⟩ = some (.int .i64 p.f2) ∧ W.cell? ⟨(pd.add (i * 5)).block, (pd.add (i * 5)).off + 3, none⟩ = some (.int .i64 p.f3) ∧ W.cell? ⟨(pd.add (i * 5)).block, (pd.add (i * 5)).off + 4, none⟩ = some (.int .i64 p.f4) ∧ W.cell? (qd.add (k * 6)) = some (.int .i64 q.f0) ∧ W.cell? ⟨(qd.add (k * 6)).block, (qd.add (k * 6)).off + 1, none⟩ = some (.int .i64 q.f1) ∧ W.cell? ⟨(qd.add (k * 6)).block, (qd.add (k * 6)).off + 2, none⟩ = some (.int .i64 q.f2) ∧ W.cell? ⟨(qd.add (k * 6)).block, (qd.add (k * 6)).off + 3, none⟩ = some (.int .i64 q.f3) ∧ W.cell? ⟨(qd.add (k * 6)).block, (qd.add (k * 6)).off + 4, none⟩ = some (.int .i64 q.f4) ∧ W.cell? ⟨(qd.add (k * 6)).block, (qd.add (k * 6)).off + 5, none⟩ = some (.int .i64 q.f5) ∧ Below wz.heap.size wz W)
              (first | (with_reducible exact S0) | (with_reducible exact S5) | (trace_state; fail))
              (first
                | (go_at_call 33; refine (rsuits_any p q wz.drew).mono ?_; rintro e w5 ⟨rfl, hb5⟩; have S5 := HKQ.out _ (S0.2.2.2.2.2.2.2.2.2.2.2.trans hb5)))
            all_goals
              go_wp2_with fail
              go_meet
              exact ⟨rfl, S5.2.2.2.2.2.2.2.2.2.2.2⟩
          case rest =>
            obtain ⟨rfl, hbx⟩ := hcut
            obtain ⟨w6, rfl⟩ : ∃ w6 : World, w6 = wc := ⟨_, rfl⟩
            have HF6 := Lib.hid (HFz.out.trans (Fr.of_below hbx (fun b => b = bs)) (fun x h => .inl h))
            have hA6 := HA4.out.fr (Fr.of_below hbx (fun _ => False)) (fun a => a)
            have HA6 := Lib.hid hA6
            have c0 := Blk.cell hA6 0 (v := .int .i64 i) rfl
            have c1' := Blk.cell hA6 1 (v := .int .i64 ((ps.length : Int) + k)) rfl
            have c2' := Blk.cell hA6 2 (v := .int .i64 0) rfl
            have c3' := Blk.cell hA6 3 (v := .int .i64 0) rfl
            have f2 := Blk.free hA6 2
            have HIL : Hid (i * ws.length + k ≤ 144) := Lib.hid (by
              have h1 := HLM.out
              have h2 := (Ord.at_grid (P := ps.length) (W := ws.length) HLT.out HLK.out).1
              omega)
            have HKX := HKQ.out w6 hbx
            obtain ⟨x0, x1, x2, x3, x4, y0, y1, y2, y3, y4, y5, _⟩ := HKX
            have HX6 := Lib.hid hbx
            clear hbx hA6
            cases hsu : suitB p q with
            | false =>
              have HSU := Lib.hid hsu
              have HFW := HF6
              clear hsu x0 x1 x2 x3 x4 y0 y1 y2 y3 y4 y5 f2
              go_wp2_with (at_builtin; refine Kd.R_append k44 (w0 := w1) w1.heap.size rfl _ _ 22 44 (.agg #[.int .i64 0, .int .i64 0, .int .i64 0, .int .i64 0]) 32 rfl Try.underlying22 info44 rfl (by decide) (by decide) u9 (netB o (i * ws.length + k)) ⟨i, ((ps.length : Int) + k), 0, 0⟩ [.int .i64 i, .int .i64 ((ps.length : Int) + k), .int .i64 0, .int .i64 0] (fun _ => True) (fun _ => False) rfl rfl (k44_mkM _ _ _ ⟨i, ((ps.length : Int) + k), 0, 0⟩) (fun _ hk => hk.elim) (fun _ _ => trivial) (HRK.out w6 HFW.out).1 (HRK.out w6 HFW.out).2 (HRK.out w6 HFW.out).2.size (by rw [netB_len]; have := HLM.out; have := HIL.out; omega) ?_; intro v7 w17 hR7 hb7 hg7 hat7)
              have HR7 := Lib.hid hR7
              have HB7 := Lib.hid hb7
              clear hR7 hb7 hg7 hat7
              go_wp2_with fail
              go_roundg (ws.length - (k + 1))
              case measure => have := HK.out; have := HLK.out; omega
              case rel => exact ⟨k + 1, by go_num, Lib.hid (by have := HK.out; have := HLK.out; omega), Lib.hid (by rw [← Nat.add_assoc, HNX.out, HAR.out, HSU.out]; exact HR7.out), HB7⟩
            | true =>
              have HSU := Lib.hid hsu
              clear hsu
              go_upto_region 11 with (fail)
              go_cut [] (fun wx => wx = (w6.setCell ⟨bs, 2, none⟩ (.int .i64 (min p.f0 q.f0))).drew)
              case first =>
                refine calm ?_
                go_region_law (first | fail)
                all_goals
                  simp only [Calm]
                  go_wp2_with fail
                  all_goals
                    go_meet
                    first | rfl | (congr 3; omega) | (congr 3; split <;> omega)
              case rest =>
                have hwc := hcut
                have hA7 : Blk ((w6.setCell ⟨bs, 2, none⟩ (.int .i64 (min p.f0 q.f0))).drew) bs _ 44 := Blk.set HA6.out 2 (.int .i64 (min p.f0 q.f0))
                have HA7 := Lib.hid hA7
                have HF7 : Hid (Fr (fun b => b = bs) wv ((w6.setCell ⟨bs, 2, none⟩ (.int .i64 (min p.f0 q.f0))).drew)) := Lib.hid (HF6.out.setCell (p := ⟨bs, 2, none⟩) (.inl rfl) _).drew
                have HG7 : Hid (Fr (fun b => b = bs) w6 ((w6.setCell ⟨bs, 2, none⟩ (.int .i64 (min p.f0 q.f0))).drew)) := Lib.hid ((Fr.refl (fun b => b = bs) w6).setCell (p := ⟨bs, 2, none⟩) (.inl rfl) _).drew
                clear hA7 x0 x1 x2 x3 x4 y0 y1 y2 y3 y4 y5 c0 c1' c2' c3' f2
                generalize (w6.setCell ⟨bs, 2, none⟩ (.int .i64 (min p.f0 q.f0))).drew = w7 at *
                subst hwc
                obtain ⟨x0, x1, x2, x3, x4, y0, y1, y2, y3, y4, y5⟩ := HPQ.out wc (HF7.out.to_below (Nat.le_of_eq HBSE.out.symm) (fun b hb => by omega))
                have z0 := tar_cell (HBX.out.fr (Fr.of_below (HRK.out wc HF7.out).2 (fun _ => False)) (fun a => a)) (j := p.f4.toNat * 8 + q.f5.toNat) (by have := HPB.out; omega)
                have s0 : (0 : Int) ≤ p.f4 := HPB.out.2.2.1.1
                have s1 : p.f4 < 8 := by have := HPB.out; omega
                have t0 : (0 : Int) ≤ q.f5 := HPB.out.2.2.2.2.1
                have t1 : q.f5 < 8 := by have := HPB.out; omega
                have f3 := Blk.free HA7.out 3
                have c3' := Blk.cell HA7.out 3 (v := .int .i64 0) rfl
                have hA8 : Blk ((wc.setCell ⟨bs, 3, none⟩ (.int .i64 (p.f1 + T (p.f4.toNat * 8 + q.f5.toNat)))).drew) bs _ 44 := Blk.set HA7.out 3 (.int .i64 (p.f1 + T (p.f4.toNat * 8 + q.f5.toNat)))
                have HA8 := Lib.hid hA8
                have HFW : Hid (Fr (fun b => b = bs) wv ((wc.setCell ⟨bs, 3, none⟩ (.int .i64 (p.f1 + T (p.f4.toNat * 8 + q.f5.toNat)))).drew)) := Lib.hid (HF7.out.setCell (p := ⟨bs, 3, none⟩) (.inl rfl) _).drew
                clear hA8
                go_upto_region 12 with (fail)
                refine calm ?_
                go_region_law (first | fail)
                all_goals
                  simp only [Calm]
                  generalize hz : p.f1 + T (p.f4.toNat * 8 + q.f5.toNat) = z at *
                  have HZZ := Lib.hid hz
                  clear hz
                  generalize hmn : min p.f0 q.f0 = mn at *
                  have HMN := Lib.hid hmn
                  clear hmn
                  generalize (wc.setCell ⟨bs, 3, none⟩ (.int .i64 z)).drew = w8 at *
                  clear x0 x1 x2 x3 x4 y0 y1 y2 y3 y4 y5 z0 f3 c3'
                  have c0 := Blk.cell HA8.out 0 (v := .int .i64 i) rfl
                  have c1' := Blk.cell HA8.out 1 (v := .int .i64 ((ps.length : Int) + k)) rfl
                  have c2' := Blk.cell HA8.out 2 (v := .int .i64 mn) rfl
                  have c3' := Blk.cell HA8.out 3 (v := .int .i64 z) rfl
                  go_wp2_with (at_builtin; refine Kd.R_append k44 (w0 := w1) w1.heap.size rfl _ _ 22 44 (.agg #[.int .i64 0, .int .i64 0, .int .i64 0, .int .i64 0]) 32 rfl Try.underlying22 info44 rfl (by decide) (by decide) u9 (netB o (i * ws.length + k)) ⟨i, ((ps.length : Int) + k), mn, z⟩ [.int .i64 i, .int .i64 ((ps.length : Int) + k), .int .i64 mn, .int .i64 z] (fun _ => True) (fun _ => False) rfl rfl (k44_mkM _ _ _ ⟨i, ((ps.length : Int) + k), mn, z⟩) (fun _ hk => hk.elim) (fun _ _ => trivial) (HRK.out w8 HFW.out).1 (HRK.out w8 HFW.out).2 (HRK.out w8 HFW.out).2.size (by rw [netB_len]; have := HLM.out; have := HIL.out; omega) ?_; intro v7 w17 hR7 hb7 hg7 hat7)
                  have HR7 := Lib.hid hR7
                  have HB7 := Lib.hid hb7
                  clear hR7 hb7 hg7 hat7
                  go_wp2_with fail
                  go_roundg (ws.length - (k + 1))
                  case measure => have := HK.out; have := HLK.out; omega
                  case rel => exact ⟨k + 1, by go_num, Lib.hid (by have := HK.out; have := HLK.out; omega), Lib.hid (by rw [← Nat.add_assoc, HNX.out, HAR.out, HSU.out]; exact HR7.out), HB7⟩
        · have hnk : ¬ (k : Int) < ws.length := by omega
          obtain rfl : k = ws.length := by have := HK.out; omega
          clear hlk
          go_wp2_with fail
          go_roundg (ps.length - (i + 1))
          case measure => have := HI.out; have := HLT.out; omega
          case rel => exact ⟨i + 1, by go_num, Lib.hid (by have := HI.out; have := HLT.out; omega), Lib.hid (by rw [Nat.succ_mul]; exact HR.out), HB⟩
    · have hni : ¬ (i : Int) < ps.length := by omega
      obtain rfl : i = ps.length := by have := HI.out; omega
      clear hlt HI
      go_wp2_with fail
      go_loopg [9, 13] ps.length (fun kk v9 v13 wr => ∃ i : Nat, v13 = .int .i64 i ∧ Hid (i + kk = ps.length) ∧ Hid (Kd.R k44 44 wr w1.heap.size (fun _ => True) v9 (netB o (ps.length * ws.length + i))) ∧ Hid (Below w1.heap.size w1 wr))
      case atStart => exact ⟨0, rfl, Lib.hid (by omega), HR, HB⟩
      case round =>
        clear HR HB hni
        obtain ⟨i, rfl, HI, HR, HB⟩ := hrel
        obtain ⟨wv, rfl⟩ : ∃ wv : World, wv = wr := ⟨_, rfl⟩
        by_cases hlt : i < ps.length
        · have hi0 : (i : Int) < ps.length := by omega
          have hiz : (0 : Int) ≤ i := by omega
          have hw : IntKind.i64.wrap ((i : Int) + 1) = i + 1 := IntWalk.i64_in _ (by have := HLM.out; omega)
          obtain ⟨p, hp⟩ : ∃ p, ps[i]? = some p := ⟨_, List.getElem?_eq_getElem hlt⟩
          obtain ⟨pd, rfl, q0, q1, q2, q3, q4⟩ := at_T49 (Kd.C_below H1.out (below_t HB0.out HB.out)) (i : Int) hiz hi0
          rw [rdP hp, Int.toNat_natCast] at q0
          have HAR : Hid (o.arcB (ps.length * ws.length + i) = ⟨(ps.length : Int) + ws.length, i, p.f0, 0⟩) := Lib.hid (by
            have h := Ord.arcB_src (o := o) (i := i) (by rw [HPW.out.1]; exact hlt)
            rw [HPW.out.1, HPW.out.2] at h
            rw [h, HO.out]
            show (⟨((ps.length + ws.length : Nat) : Int), (i : Int), (ps.getD i z49).f0, 0⟩ : Ar) = _
            rw [List.getD_eq_getElem?_getD, hp, Int.natCast_add]; rfl)
          have HNX := Lib.hid (netB_next o (ps.length * ws.length + i))
          have HLT := Lib.hid hlt
          clear hlt hp q1 q2 q3 q4
          go_wp2_with (at_builtin; refine Kd.R_append k44 (w0 := w1) w1.heap.size rfl _ _ 22 44 (.agg #[.int .i64 0, .int .i64 0, .int .i64 0, .int .i64 0]) 32 rfl Try.underlying22 info44 rfl (by decide) (by decide) u9 (netB o (ps.length * ws.length + i)) ⟨(ps.length : Int) + ws.length, i, p.f0, 0⟩ [.int .i64 ((ps.length : Int) + ws.length), .int .i64 i, .int .i64 p.f0, .int .i64 0] (fun _ => True) (fun _ => False) rfl rfl (k44_mkM _ _ _ ⟨(ps.length : Int) + ws.length, i, p.f0, 0⟩) (fun _ hk => hk.elim) (fun _ _ => trivial) HR.out HB.out HB.out.size (by rw [netB_len]; have := HLM.out; have := HLT.out; omega) ?_; intro v7 w17 hR7 hb7 hg7 hat7)
          have HR7 := Lib.hid hR7
          have HB7 := Lib.hid hb7
          clear hR7 hb7 hg7 hat7
          go_wp2_with fail
          go_roundg (ps.length - (i + 1))
          case measure => have := HI.out; have := HLT.out; omega
          case rel => exact ⟨i + 1, by go_num, Lib.hid (by have := HI.out; have := HLT.out; omega), Lib.hid (by rw [← Nat.add_assoc, HNX.out, HAR.out]; exact HR7.out), HB7⟩
        · have hni : ¬ (i : Int) < ps.length := by omega
          obtain rfl : i = ps.length := by have := HI.out; omega
          have hw9 : IntKind.i64.wrap ((ps.length : Int) + ws.length + 1) = (ps.length : Int) + ws.length + 1 := IntWalk.i64_in _ (by have := HLM.out; omega)
          clear hlt HI
          go_wp2_with fail
          go_loopg [9, 14] ws.length (fun kk v9 v14 wr => ∃ k : Nat, v14 = .int .i64 k ∧ Hid (k + kk = ws.length) ∧ Hid (Kd.R k44 44 wr w1.heap.size (fun _ => True) v9 (netB o (ps.length * ws.length + ps.length + k))) ∧ Hid (Below w1.heap.size w1 wr))
          case atStart => exact ⟨0, rfl, Lib.hid (by omega), HR, HB⟩
          case round =>
            clear HR HB hni
            obtain ⟨k, rfl, HK, HR, HB⟩ := hrel
            obtain ⟨wv, rfl⟩ : ∃ wv : World, wv = wr := ⟨_, rfl⟩
            by_cases hlk : k < ws.length
            · have hk0 : (k : Int) < ws.length := by omega
              have hkz : (0 : Int) ≤ k := by omega
              have hw : IntKind.i64.wrap ((k : Int) + 1) = k + 1 := IntWalk.i64_in _ (by have := HLM.out; omega)
              have hw5 : IntKind.i64.wrap ((ps.length : Int) + k) = (ps.length : Int) + k := IntWalk.i64_in _ (by have := HLM.out; omega)
              obtain ⟨q, hq⟩ : ∃ q, ws[k]? = some q := ⟨_, List.getElem?_eq_getElem hlk⟩
              obtain ⟨qd, rfl, q0, q1, q2, q3, q4, q5⟩ := at_T51 (Kd.C_below H2.out (below_t HB0.out HB.out)) (k : Int) hkz hk0
              rw [rdW hq, Int.toNat_natCast] at q0
              have HAR : Hid (o.arcB (ps.length * ws.length + ps.length + k) = ⟨(ps.length : Int) + k, (ps.length : Int) + ws.length + 1, q.f0, 0⟩) := Lib.hid (by
                have h := Ord.arcB_snk (o := o) k
                rw [HPW.out.1, HPW.out.2] at h
                rw [h, HO.out]
                show (⟨((ps.length + k : Nat) : Int), ((ps.length + ws.length + 1 : Nat) : Int), (ws.getD k z51).f0, 0⟩ : Ar) = _
                rw [List.getD_eq_getElem?_getD, hq, Int.natCast_add, Int.natCast_add, Int.natCast_add]; rfl)
              have HNX := Lib.hid (netB_next o (ps.length * ws.length + ps.length + k))
              have HLK := Lib.hid hlk
              clear hlk hq q1 q2 q3 q4 q5
              go_wp2_with (at_builtin; refine Kd.R_append k44 (w0 := w1) w1.heap.size rfl _ _ 22 44 (.agg #[.int .i64 0, .int .i64 0, .int .i64 0, .int .i64 0]) 32 rfl Try.underlying22 info44 rfl (by decide) (by decide) u9 (netB o (ps.length * ws.length + ps.length + k)) ⟨(ps.length : Int) + k, (ps.length : Int) + ws.length + 1, q.f0, 0⟩ [.int .i64 ((ps.length : Int) + k), .int .i64 ((ps.length : Int) + ws.length + 1), .int .i64 q.f0, .int .i64 0] (fun _ => True) (fun _ => False) rfl rfl (k44_mkM _ _ _ ⟨(ps.length : Int) + k, (ps.length : Int) + ws.length + 1, q.f0, 0⟩) (fun _ hk => hk.elim) (fun _ _ => trivial) HR.out HB.out HB.out.size (by rw [netB_len]; have := HLM.out; have := HLK.out; omega) ?_; intro v7 w17 hR7 hb7 hg7 hat7)
              have HR7 := Lib.hid hR7
              have HB7 := Lib.hid hb7
              clear hR7 hb7 hg7 hat7
              go_wp2_with fail
              go_roundg (ws.length - (k + 1))
              case measure => have := HK.out; have := HLK.out; omega
              case rel => exact ⟨k + 1, by go_num, Lib.hid (by have := HK.out; have := HLK.out; omega), Lib.hid (by rw [← Nat.add_assoc, HNX.out, HAR.out]; exact HR7.out), HB7⟩
            · have hnk : ¬ (k : Int) < ws.length := by omega
              obtain rfl : k = ws.length := by have := HK.out; omega
              have hw7 : IntKind.i64.wrap ((ps.length : Int) + ws.length + 2) = (ps.length : Int) + ws.length + 2 := IntWalk.i64_in _ (by have := HLM.out; omega)
              have HB9 := Lib.hid (below_t HB0.out HB.out)
              have HNA : Hid (((o.nA : Nat) : Int) = (ps.length : Int) + ws.length + 2 ∧ o.mB = ps.length * ws.length + ps.length + ws.length) := Lib.hid (by
                unfold Ord.nA Ord.mB
                rw [HPW.out.1, HPW.out.2]
                exact ⟨by omega, rfl⟩)
              clear hlk HK
              go_wp2_with fail
              go_ret2
              exact ⟨⟨_, by rw [HNA.out.1]; rfl, by rw [HNA.out.2]; exact Kd.R_lower HR.out HB0.out.size⟩, HB9.out⟩
end Go.Proofs.Ytpbndcmmclkdpaa
