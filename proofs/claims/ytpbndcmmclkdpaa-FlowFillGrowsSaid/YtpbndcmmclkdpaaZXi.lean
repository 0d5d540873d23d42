/-
  Fill: the reference's Most (46).
-/
import Derived.Test.YtpbndcmmclkdpaaZXh
import Derived.Test.YtpbndcmmclkdpaaZGVd
namespace Go.Proofs.Ytpbndcmmclkdpaa
open PFlowSolves
open Go.RowKit Go.Proofs.YtpbndcmmclkdpaaW.PrintWords
theorem res_eq {m : Nat} {A B : Nat → Ar} {x y : Nat → Int} (hA : ∀ i, i < m → A i = B i) (hx : ∀ i, i < m → x i = y i) {s : Stp} (hr : Res m A x s) : Res m B y s := by
  obtain ⟨⟨h0, h1⟩, h2⟩ := hr
  refine ⟨⟨h0, h1⟩, ?_⟩
  have e1 := hA s.f0.toNat (by omega)
  have e2 := hx s.f0.toNat (by omega)
  unfold spr at h2 ⊢
  rw [← e1, ← e2]; exact h2
/-- The set as one row of nodes. -/
def sqB (o : Ord) (S Q : Nat → Bool) (v : Nat) : Bool := if v < o.P then S v else Q (v - o.P)
theorem Ord.Shut.step {o : Ord} {X : Plan} {S Q : Nat → Bool} (h : o.Shut X S Q) (hX : o.Adm X) {s : Stp} (hr : Res o.mB o.arcB (o.lift X) s) (hp : s.f0 < (o.P * o.W : Nat)) :
    ∃ u v : Nat, frm o.arcB s = u ∧ tow o.arcB s = v ∧ u < o.P + o.W ∧ v < o.P + o.W ∧ (sqB o S Q u = true → sqB o S Q v = true) := by
  obtain ⟨⟨h0, h1⟩, h2⟩ := hr
  have hb : s.f0.toNat < o.P * o.W := by omega
  obtain ⟨g1, g2, g3⟩ := Ord.of_grid hb
  unfold spr at h2
  rw [Ord.arcB_pair hb, Ord.lift_pair hb] at h2
  have hf : (o.arcB s.f0.toNat).f0 = ((s.f0.toNat / o.W : Nat) : Int) := by rw [Ord.arcB_pair hb]
  have ht : (o.arcB s.f0.toNat).f1 = ((o.P + s.f0.toNat % o.W : Nat) : Int) := by rw [Ord.arcB_pair hb]
  have q1 : sqB o S Q (s.f0.toNat / o.W) = S (s.f0.toNat / o.W) := if_pos g1
  have q2 : sqB o S Q (o.P + s.f0.toNat % o.W) = Q (s.f0.toNat % o.W) := by unfold sqB; rw [if_neg (by omega), Nat.add_sub_cancel_left]
  cases hd : s.f1 with
  | false =>
    rw [hd] at h2
    simp only [Bool.false_eq_true, if_false] at h2
    refine ⟨s.f0.toNat / o.W, o.P + s.f0.toNat % o.W, by unfold frm; rw [hd]; exact hf, by unfold tow; rw [hd]; exact ht, by omega, by omega, fun hS => ?_⟩
    rw [q1] at hS
    rw [q2]
    cases hg : o.g s.f0.toNat with
    | false =>
      rw [hg] at h2
      simp only [Bool.false_eq_true, if_false] at h2
      have := hX.nn _ _ g1 g2
      omega
    | true =>
      rw [hg] at h2
      simp only [if_true] at h2
      exact h.on _ _ g1 g2 hS hg (by omega) (by omega)
  | true =>
    rw [hd] at h2
    simp only [if_true] at h2
    refine ⟨o.P + s.f0.toNat % o.W, s.f0.toNat / o.W, by unfold frm; rw [hd]; exact ht, by unfold tow; rw [hd]; exact hf, by omega, by omega, fun hS => ?_⟩
    rw [q2] at hS
    rw [q1]
    exact h.off _ _ g1 g2 hS h2
set_option maxRecDepth 100000 in
set_option maxHeartbeats 8000000 in
theorem most_any (w : World) (o : Ord) (ho : o.Ok) {X : Plan} (hX : o.Adm X) {S Q : Nat → Bool} (hS : o.Shut X S Q) (A3 : Option Addr) (c3 : Nat) (h3 : Kd.C k44 w A3 o.mB (netB o o.mB)) (A4 : Option Addr) (c4 : Nat) (ys : List Int) (hy : ys.length = o.mB) (h4 : Kd.C (Kd.int .i64) w A4 o.mB ys) (hyX : ∀ j, j < o.mB → ys.getD j 0 = o.lift X j) :
    Calls Try.prog 46 #[.int .i64 o.P, .int .i64 o.W, .slice A3 o.mB c3, .slice A4 o.mB c4] w fun e w' => e = .returned (.bool true) ∧ Below w.heap.size w w' := by
  have hok := Ord.ok_B ho
  have hln := netB_len o o.mB
  have hokl : NetOk o.nA (netB o o.mB).length (arcF (netB o o.mB)) := by
    rw [hln]
    exact ⟨hok.n1, hok.n2, hok.m1, fun i hi => by rw [netB_at o hi]; exact hok.net i hi, fun i hi => by rw [netB_at o hi]; exact hok.cap i hi, fun i hi => by rw [netB_at o hi]; exact hok.cost i hi⟩
  have hrs := rsteps_any w A3 c3 (netB o o.mB) (by rw [hln]; exact h3) A4 c4 ys (by rw [hy]; exact h4) (by omega) hokl
  unfold RStepsPost at hrs
  rw [hln, hy] at hrs
  have HRS := Lib.hid hrs
  have HST : Hid (StpsOk o.nA (arcF (netB o o.mB)) 1048576 (stepsF (arcF (netB o o.mB)) (xsF ys) o.mB)) := Lib.hid (by have := hokl.steps (xsF ys); rw [hln] at this; exact this)
  have HP : Hid (o.P ≤ 12 ∧ o.W ≤ 12 ∧ o.P * o.W ≤ 144 ∧ o.mB = o.P * o.W + o.P + o.W ∧ o.mB ≤ 168) := Lib.hid (by
    have h1 := ho.p1
    have h2 := ho.w1
    have h3 : o.P * o.W ≤ 144 := Nat.mul_le_mul h1 h2
    exact ⟨h1, h2, h3, rfl, by unfold Ord.mB; omega⟩)
  have HLN : Hid ((stepsF (arcF (netB o o.mB)) (xsF ys) o.mB).length ≤ 336) := Lib.hid (by have := stepsF_len (arcF (netB o o.mB)) (xsF ys) o.mB; have := HP.out; omega)
  have HSP : Hid (∀ s, s ∈ stepsF (arcF (netB o o.mB)) (xsF ys) o.mB → 0 ≤ s.f0 ∧ (s.f0 < (o.P * o.W : Nat) → ∃ u v : Nat, frm (arcF (netB o o.mB)) s = u ∧ tow (arcF (netB o o.mB)) s = v ∧ u < o.P + o.W ∧ v < o.P + o.W ∧ (sqB o S Q u = true → sqB o S Q v = true))) := Lib.hid (fun s hs => by
    have hr := mem_stepsF.1 hs
    refine ⟨hr.1.1, fun hp => ?_⟩
    have hr2 := res_eq (fun i hi => netB_at o hi) (fun i hi => hyX i hi) hr
    obtain ⟨u, v, e1, e2, e3⟩ := hS.step hX hr2 hp
    have hi : s.f0.toNat < o.mB := by have := hr.1; omega
    have f1 : frm (arcF (netB o o.mB)) s = frm o.arcB s := by unfold frm; rw [netB_at o hi]
    have f2 : tow (arcF (netB o o.mB)) s = tow o.arcB s := by unfold tow; rw [netB_at o hi]
    exact ⟨u, v, f1.trans e1, f2.trans e2, e3⟩)
  have H3 := Lib.hid h3
  have H4 := Lib.hid h4
  have HY := Lib.hid hyX
  have HSH := Lib.hid hS
  have HYL := Lib.hid hy
  clear ho hX hS h3 hy h4 hyX hok hln hokl hrs
  generalize hall : stepsF (arcF (netB o o.mB)) (xsF ys) o.mB = all at *
  clear hall
  go_enter Try.func46, Try.ntmps46
  go_wp2_with fail
  refine HRS.out.mono ?_
  rintro e w1 ⟨⟨v, rfl, hR⟩, hb1⟩
  have HB1 := Lib.hid hb1
  obtain ⟨AS, cS, rfl, hC⟩ := rsteps_C hR
  clear hR hb1 HRS
  obtain ⟨M, hM⟩ : ∃ M : Nat, M = o.P * o.W := ⟨_, rfl⟩
  obtain ⟨N, hN⟩ : ∃ N : Nat, N = o.P + o.W := ⟨_, rfl⟩
  have hwm : IntKind.i64.wrap ((o.P : Int) * o.W) = M := by
    rw [hM, Int.natCast_mul]
    exact IntWalk.i64_in _ (by have := HP.out.2.2.1; rw [← Int.natCast_mul]; omega)
  have hwn : IntKind.i64.wrap ((o.P : Int) + o.W) = N := by
    rw [hN, Int.natCast_add]
    exact IntWalk.i64_in _ (by have := HP.out; omega)
  have HM : Hid (M = o.P * o.W ∧ M ≤ 144 ∧ o.mB = M + o.P + o.W) := Lib.hid ⟨hM, by have := HP.out; omega, by rw [hM]; exact HP.out.2.2.2.1⟩
  have HN : Hid (N = o.P + o.W ∧ N ≤ 24) := Lib.hid ⟨hN, by have := HP.out; omega⟩
  rw [← hM] at HSP
  have HY2 : Hid (∀ i, i < o.P → ys.getD (M + i) 0 = o.row X i ∧ (arcF (netB o o.mB) (M + i)).f2 = o.b i) := Lib.hid (fun i hi => by
    have hlt : M + i < o.mB := by have := HM.out; omega
    refine ⟨(HY.out _ hlt).trans ?_, ?_⟩
    · rw [hM]; exact Ord.lift_src hi
    · rw [netB_at o hlt, hM, Ord.arcB_src hi])
  have HY3 : Hid (∀ k, k < o.W → ys.getD (M + o.P + k) 0 = o.col X k ∧ (arcF (netB o o.mB) (M + o.P + k)).f2 = o.c k) := Lib.hid (fun k hk => by
    have hlt : M + o.P + k < o.mB := by have := HM.out; omega
    refine ⟨(HY.out _ hlt).trans ?_, ?_⟩
    · rw [hM]; exact Ord.lift_snk k
    · rw [netB_at o hlt, hM, Ord.arcB_snk k])
  clear hM hN
  have hmk := make_bool w1 (n := N) (by have := HN.out; omega)
  have hTB : TB (w1.alloc (.cells (madeCells #[.bool false] N) 4 (0, 0))) w1.heap.size N (fun _ => false) := TV.made w1 (.bool false) 4 N
  have hal := below_alloc (Below.refl w1.heap.size w1) (.cells (madeCells #[.bool false] N) 4 (0, 0))
  have HTB8 := Lib.hid hTB
  have HAL8 := Lib.hid hal
  have HWW : Hid (w.heap.size ≤ w1.heap.size) := Lib.hid HB1.out.size
  have HCS : Hid (∀ W, Fr (fun b => b = w1.heap.size) w1 W → Kd.C k96 W AS all.length (all.map (toR (arcF (netB o o.mB)))) ∧ Kd.C k44 W A3 o.mB (netB o o.mB) ∧ Kd.C (Kd.int .i64) W A4 o.mB ys ∧ Below w.heap.size w W) := Lib.hid (fun W hW =>
    have hB : Below w1.heap.size w1 W := hW.to_below (Nat.le_refl _) (fun b hb => by omega)
    ⟨Kd.C_below hC hB, Kd.C_below H3.out (below_t HB1.out hB), Kd.C_below H4.out (below_t HB1.out hB), below_t HB1.out hB⟩)
  clear hTB hal hC H3 H4
  go_upto_region 3 with (fail)
  generalize w1.alloc (.cells (madeCells #[.bool false] N) 4 (0, 0)) = w8 at *
  obtain ⟨sb, hsb⟩ : ∃ sb, sb = w1.heap.size := ⟨_, rfl⟩
  rw [← hsb] at HTB8 HCS ⊢
  have HSB : Hid (w.heap.size ≤ sb) := Lib.hid (by rw [hsb]; exact HWW.out)
  have HF8 : Hid (Fr (fun b => b = sb) w1 w8) := Lib.hid (Fr.of_below HAL8.out (fun b => b = sb))
  clear hsb hmk HAL8
  go_wp2_with fail
  have hPz : (0 : Int) ≤ o.P := by omega
  go_loopg [11, 12] o.P (fun kk v11 v12 wr => ∃ (i : Nat) (f : Nat → Bool), v11 = .int .i64 i ∧ Hid (i + kk = o.P) ∧ Hid (TB wr sb N f) ∧ Hid (∀ v, v < N → f v = true → sqB o S Q v = true) ∧ Hid (Fr (fun b => b = sb) w1 wr))
  case atStart => exact ⟨0, _, rfl, Lib.hid (by omega), HTB8, Lib.hid (fun v _ h => by cases h), HF8⟩
  case round =>
    clear HTB8 HF8
    obtain ⟨i, f, rfl, HI, HTB, HSQ, HFR⟩ := hrel
    obtain ⟨wv, rfl⟩ : ∃ wv : World, wv = wr := ⟨_, rfl⟩
    by_cases hlt : i < o.P
    · have hi0 : (i : Int) < o.P := by omega
      have hiz : (0 : Int) ≤ i := by omega
      obtain ⟨mi, hmi⟩ : ∃ mi : Nat, mi = M + i := ⟨_, rfl⟩
      have hw : IntKind.i64.wrap ((i : Int) + 1) = i + 1 := IntWalk.i64_in _ (by have := HP.out; omega)
      have hwi : IntKind.i64.wrap ((M : Int) + i) = mi := by rw [hmi, Int.natCast_add]; exact IntWalk.i64_in _ (by have := HP.out; have := HM.out; omega)
      have miz : (0 : Int) ≤ mi := by omega
      have mi1 : (mi : Int) < o.mB := by have := HM.out; omega
      obtain ⟨d1, d2, d3, d4⟩ := HCS.out wv HFR.out
      obtain ⟨ad, rfl, k0, k1, k2, k3⟩ := arcs_of (l := netB o o.mB) (by rw [netB_len]; exact d2) (mi : Int) miz (by rw [netB_len]; exact mi1)
      obtain ⟨bd, rfl, q⟩ := Kd.at_int d3 (mi : Int) miz mi1
      rw [Int.toNat_natCast] at k0 k1 k2 k3
      have ex : rd ys (mi : Int) = ys.getD mi 0 := by unfold rd; rw [Int.toNat_natCast]
      rw [ex, Int.toNat_natCast] at q
      obtain ⟨y1, y2⟩ := HY2.out i hlt
      rw [← hmi] at y1 y2
      rw [y1] at q
      rw [y2] at k2
      have hiN : i < N := by have := HN.out; omega
      have hiN0 : (i : Int) < N := by omega
      have x1 := TV.free HTB.out i
      have x2 : wv.cell? ⟨sb, i, none⟩ = some (.bool (f i)) := TV.cell HTB.out hiN
      have HT2 : Hid (TB ((wv.setCell ⟨sb, i, none⟩ (.bool (decide (o.row X i < o.b i)))).drew) sb N (fun j => if j = i then decide (o.row X i < o.b i) else f j)) := Lib.hid (TB.set HTB.out i _)
      have HS2 : Hid (∀ v, v < N → (fun j => if j = i then decide (o.row X i < o.b i) else f j) v = true → sqB o S Q v = true) := Lib.hid (fun v hv h => by
        by_cases e : v = i
        · subst e
          simp only [if_true, decide_eq_true_eq] at h
          unfold sqB; rw [if_pos hlt]; exact HSH.out.src v hlt h
        · simp only [if_neg e] at h
          exact HSQ.out v hv h)
      have HF2 : Hid (Fr (fun b => b = sb) w1 ((wv.setCell ⟨sb, i, none⟩ (.bool (decide (o.row X i < o.b i)))).drew)) := Lib.hid ((HFR.out.setCell (p := ⟨sb, i, none⟩) (.inl rfl) _).drew)
      have HLT := Lib.hid hlt
      generalize o.row X i = rw0 at *
      generalize o.b i = bi at *
      clear d1 d2 d3 d4 y1 y2 hmi ex hlt hiN HTB HFR HSQ
      go_upto_region 7 with (fail)
      refine calm ?_
      go_region_law (first | fail)
      all_goals
        simp only [Calm]
        generalize (wv.setCell ⟨sb, i, none⟩ (.bool (decide (rw0 < bi)))).drew = w6 at *
        clear x1 x2 k0 k1 k2 k3 q
        go_wp2_with fail
        go_roundg (o.P - (i + 1))
        case measure => have := HI.out; have := HLT.out; omega
        case rel => exact ⟨i + 1, _, by go_num, Lib.hid (by have := HI.out; have := HLT.out; omega), HT2, HS2, HF2⟩
    · have hnl : ¬ (i : Int) < o.P := by omega
      clear hlt
      have hwP : (0 : Int) ≤ M := by omega
      clear HI
      go_wp2_with fail
      go_loopg [13, 14] (N + 3) (fun kk v13 v14 wr => ∃ (f : Nat → Bool) (mv : Bool), v13 = .bool mv ∧ Hid (TB wr sb N f) ∧ Hid (∀ v, v < N → f v = true → sqB o S Q v = true) ∧ Hid (cntV N f + (if mv then 1 else 0) + 1 ≤ kk) ∧ Hid (Fr (fun b => b = sb) w1 wr))
      case atStart => exact ⟨f, true, rfl, HTB, HSQ, Lib.hid (by have := cntV_le N f; rw [if_pos rfl]; omega), HFR⟩
      case round =>
        clear HTB HSQ HFR
        obtain ⟨f, mv, rfl, HTB, HSQ, HCN, HFR⟩ := hrel
        obtain ⟨wv, rfl⟩ : ∃ wv : World, wv = wr := ⟨_, rfl⟩
        cases mv with
        | false =>
          clear HCN
          go_wp2_with fail
          go_loopg [15, 16] o.W (fun kk v15 v16 wr => ∃ k : Nat, v15 = .int .i64 k ∧ Hid (k + kk = o.W) ∧ Hid (TB wr sb N f) ∧ Hid (Fr (fun b => b = sb) w1 wr))
          case atStart => exact ⟨0, rfl, Lib.hid (by omega), HTB, HFR⟩
          case round =>
            clear HTB HFR
            obtain ⟨k, rfl, HK, HTB, HFR⟩ := hrel
            obtain ⟨wv, rfl⟩ : ∃ wv : World, wv = wr := ⟨_, rfl⟩
            by_cases hlt : k < o.W
            · have hk0 : (k : Int) < o.W := by omega
              have hkz : (0 : Int) ≤ k := by omega
              obtain ⟨mk, hmk⟩ : ∃ mk : Nat, mk = M + o.P + k := ⟨_, rfl⟩
              obtain ⟨mp, hmp⟩ : ∃ mp : Nat, mp = M + o.P := ⟨_, rfl⟩
              obtain ⟨pk, hpk⟩ : ∃ pk : Nat, pk = o.P + k := ⟨_, rfl⟩
              have hw : IntKind.i64.wrap ((k : Int) + 1) = k + 1 := IntWalk.i64_in _ (by have := HP.out; omega)
              have hw1 : IntKind.i64.wrap ((M : Int) + o.P) = mp := by rw [hmp, Int.natCast_add]; exact IntWalk.i64_in _ (by have := HP.out; have := HM.out; omega)
              have hw2 : IntKind.i64.wrap ((mp : Int) + k) = mk := by rw [hmk, hmp, Int.natCast_add, Int.natCast_add]; exact IntWalk.i64_in _ (by have := HP.out; have := HM.out; omega)
              have hw3 : IntKind.i64.wrap ((o.P : Int) + k) = pk := by rw [hpk, Int.natCast_add]; exact IntWalk.i64_in _ (by have := HP.out; omega)
              have mkz : (0 : Int) ≤ mk := by omega
              have mk1 : (mk : Int) < o.mB := by have := HM.out; omega
              have pkz : (0 : Int) ≤ pk := by omega
              have hpkN : pk < N := by have := HN.out; omega
              have pk1 : (pk : Int) < N := by omega
              obtain ⟨d1, d2, d3, d4⟩ := HCS.out wv HFR.out
              obtain ⟨ad, rfl, k0, k1, k2, k3⟩ := arcs_of (l := netB o o.mB) (by rw [netB_len]; exact d2) (mk : Int) mkz (by rw [netB_len]; exact mk1)
              obtain ⟨bd, rfl, q⟩ := Kd.at_int d3 (mk : Int) mkz mk1
              rw [Int.toNat_natCast] at k0 k1 k2 k3
              have ex : rd ys (mk : Int) = ys.getD mk 0 := by unfold rd; rw [Int.toNat_natCast]
              rw [ex, Int.toNat_natCast] at q
              obtain ⟨y1, y2⟩ := HY3.out k hlt
              rw [← hmk] at y1 y2
              rw [y1] at q
              rw [y2] at k2
              have hfull : f pk = true → o.col X k = o.c k := fun h => by
                have h1 := HSQ.out pk hpkN h
                unfold sqB at h1
                rw [if_neg (by omega), hpk, Nat.add_sub_cancel_left] at h1
                exact HSH.out.full k hlt h1
              have x0 : wv.cell? ⟨sb, pk, none⟩ = some (.bool (f pk)) := TV.cell HTB.out hpkN
              have HLT := Lib.hid hlt
              have HB2 : Hid (∀ n, TB (wv.drewN n) sb N f) := Lib.hid (fun n => show TB (wv.drewN n) sb N f from HTB.out)
              have HF2 : Hid (∀ n, Fr (fun b => b = sb) w1 (wv.drewN n)) := Lib.hid (fun n => HFR.out.drewN n)
              generalize o.col X k = ck at *
              generalize o.c k = bk at *
              clear d1 d2 d3 d4 y1 y2 hmk hmp hpk ex hlt hpkN HTB HFR k0 k1 k3
              cases hf : f pk with
              | false =>
                rw [hf] at x0
                clear hf hfull k2 q
                go_upto_region 21 with (fail)
                go_quiet (fail)
                go_wp2_with fail
                go_roundg (o.W - (k + 1))
                case measure => have := HK.out; have := HLT.out; omega
                case rel => exact ⟨k + 1, by go_num, Lib.hid (by have := HK.out; have := HLT.out; omega), Lib.hid (HB2.out _), Lib.hid (HF2.out _)⟩
              | true =>
                have hcc := hfull hf
                rw [hcc] at q
                rw [hf] at x0
                have e1 : ¬ bk < bk := by omega
                clear hf hfull hcc
                go_upto_region 21 with (fail)
                go_quiet (fail)
                go_wp2_with fail
                go_roundg (o.W - (k + 1))
                case measure => have := HK.out; have := HLT.out; omega
                case rel => exact ⟨k + 1, by go_num, Lib.hid (by have := HK.out; have := HLT.out; omega), Lib.hid (HB2.out _), Lib.hid (HF2.out _)⟩
            · have hnl : ¬ (k : Int) < o.W := by omega
              have HBE := Lib.hid (HCS.out wv HFR.out).2.2.2
              clear hlt
              go_wp2_with fail
              go_ret
              exact ⟨rfl, HBE.out⟩
        | true =>
          have HC0 : Hid (cntV N f + (if false then 1 else 0) ≤ cntV N f) := Lib.hid (by simp)
          go_wp2_with fail
          go_loopg [13, 14] all.length (fun kk v13 v14 wr => ∃ (t : Nat) (f' : Nat → Bool) (mv : Bool), v14 = .int .i64 t ∧ v13 = .bool mv ∧ Hid (t + kk = all.length) ∧ Hid (TB wr sb N f') ∧ Hid (∀ v, v < N → f' v = true → sqB o S Q v = true) ∧ Hid (cntV N f' + (if mv then 1 else 0) ≤ cntV N f) ∧ Hid (Fr (fun b => b = sb) w1 wr))
          case atStart => exact ⟨0, f, false, rfl, rfl, Lib.hid (by omega), HTB, HSQ, HC0, HFR⟩
          case round =>
            clear HTB HSQ HC0 HFR
            obtain ⟨t, f', mv, rfl, rfl, HTK, HTB, HSQ, HC1, HFR⟩ := hrel
            obtain ⟨wv, rfl⟩ : ∃ wv : World, wv = wr := ⟨_, rfl⟩
            by_cases hlt : t < all.length
            · obtain ⟨s, hs⟩ : ∃ s, all[t]? = some s := ⟨_, List.getElem?_eq_getElem hlt⟩
              have ht0 : (t : Int) < all.length := by omega
              have htz : (0 : Int) ≤ t := by omega
              obtain ⟨ad, rfl, k0, k1, k2, k3, k4⟩ := rstp_at (HCS.out wv HFR.out).1 hs
              have hm := List.mem_of_getElem? hs
              have hw : IntKind.i64.wrap ((t : Int) + 1) = t + 1 := IntWalk.i64_in _ (by have := HLN.out; omega)
              have HLT := Lib.hid hlt
              have hsp := HSP.out s hm
              by_cases hp : s.f0 < (M : Int)
              · have e1 : decide (s.f0 < (M : Int)) = true := decide_eq_true hp
                obtain ⟨u, v, hu, hv, huN', hvN', hst⟩ := hsp.2 hp
                have huN : u < N := by have := HN.out; omega
                have hvN : v < N := by have := HN.out; omega
                rw [hu] at k0
                rw [hv] at k1
                have hu0 : (0 : Int) ≤ u := by omega
                have hu1 : (u : Int) < N := by omega
                have hv0 : (0 : Int) ≤ v := by omega
                have hv1 : (v : Int) < N := by omega
                have x0 : wv.cell? ⟨sb, u, none⟩ = some (.bool (f' u)) := TV.cell HTB.out huN
                have x1 : wv.cell? ⟨sb, v, none⟩ = some (.bool (f' v)) := TV.cell HTB.out hvN
                have HST2 := Lib.hid hst
                have HUV := Lib.hid (And.intro huN hvN)
                clear hs hm hlt hsp hu hv huN' hvN' hst huN hvN hp
                cases g2 : f' u with
                | false =>
                  rw [g2] at x0
                  clear g2
                  go_wp2_with fail
                  go_roundg (all.length - (t + 1))
                  case measure => have := HTK.out; have := HLT.out; omega
                  case rel => exact ⟨t + 1, f', mv, by go_num, rfl, Lib.hid (by have := HTK.out; have := HLT.out; omega), HTB, HSQ, HC1, HFR⟩
                | true =>
                  cases g3 : f' v with
                  | true =>
                    rw [g2] at x0
                    rw [g3] at x1
                    clear g2 g3
                    go_wp2_with fail
                    go_roundg (all.length - (t + 1))
                    case measure => have := HTK.out; have := HLT.out; omega
                    case rel => exact ⟨t + 1, f', mv, by go_num, rfl, Lib.hid (by have := HTK.out; have := HLT.out; omega), HTB, HSQ, HC1, HFR⟩
                  | false =>
                    have x2 := TV.free HTB.out v
                    have HT2 := Lib.hid (TB.set HTB.out v true)
                    have HS2 : Hid (∀ j, j < N → (fun j => if j = v then true else f' j) j = true → sqB o S Q j = true) := Lib.hid (fun j hj h => by
                      by_cases e : j = v
                      · subst e; exact HST2.out (HSQ.out u HUV.out.1 g2)
                      · simp only [if_neg e] at h; exact HSQ.out j hj h)
                    have HC2 : Hid (cntV N (fun j => if j = v then true else f' j) + (if true then 1 else 0) ≤ cntV N f) := Lib.hid (by
                      have h1 := cntV_set HUV.out.2 g3
                      have h2 := HC1.out
                      rw [if_pos rfl]; split at h2 <;> omega)
                    have HF2 := Lib.hid (HFR.out.setCell (p := ⟨sb, v, none⟩) (.inl rfl) (.bool true))
                    rw [g2] at x0
                    rw [g3] at x1
                    clear g2 g3
                    go_wp2_with fail
                    go_roundg (all.length - (t + 1))
                    case measure => have := HTK.out; have := HLT.out; omega
                    case rel => exact ⟨t + 1, _, true, by go_num, rfl, Lib.hid (by have := HTK.out; have := HLT.out; omega), HT2, HS2, HC2, HF2⟩
              · have e1 : decide (s.f0 < (M : Int)) = false := decide_eq_false hp
                clear hs hm hlt hsp hp k0 k1
                go_wp2_with fail
                go_roundg (all.length - (t + 1))
                case measure => have := HTK.out; have := HLT.out; omega
                case rel => exact ⟨t + 1, f', mv, by go_num, rfl, Lib.hid (by have := HTK.out; have := HLT.out; omega), HTB, HSQ, HC1, HFR⟩
            · have hnl : ¬ (t : Int) < all.length := by omega
              clear hlt
              go_wp2_with fail
              go_roundg (cntV N f' + (if mv then 1 else 0) + 1)
              case measure => have h1 := HCN.out; have h2 := HC1.out; rw [if_pos trivial] at h1; omega
              case rel => exact ⟨f', mv, rfl, HTB, HSQ, Lib.hid (Nat.le_refl _), HFR⟩
end Go.Proofs.Ytpbndcmmclkdpaa
