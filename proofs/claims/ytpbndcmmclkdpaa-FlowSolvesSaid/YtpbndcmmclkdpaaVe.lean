/-
  FlowSolves: what Solve finds is what the specification asks for.
-/
import Derived.Test.YtpbndcmmclkdpaaVb
import Derived.Test.YtpbndcmmclkdpaaVd
namespace Go.Proofs.Ytpbndcmmclkdpaa
open PFlowSolves
open Go.RowKit Go.Proofs.YtpbndcmmclkdpaaW.PrintWords
section
variable {m : Nat} {A : Nat → Ar} {x y : Nat → Int}
theorem res_congr (h : ∀ i, i < m → x i = y i) {s : Stp} (hr : Res m A x s) : Res m A y s := by
  obtain ⟨⟨h0, h1⟩, h2⟩ := hr
  refine ⟨⟨h0, h1⟩, ?_⟩
  have e := h s.f0.toNat (by omega)
  unfold spr at h2 ⊢
  rw [← e]; exact h2
theorem feas_congr (h : ∀ i, i < m → x i = y i) {p : Int → Int} (hf : Feas m A x p) : Feas m A y p := fun s hs => hf s (res_congr (fun i hi => (h i hi).symm) hs)
theorem lex_congr (h : ∀ i, i < m → x i = y i) {p : Int → Int} (hl : LexCert m A x p) : LexCert m A y p := fun i hi hr hx => by
  obtain ⟨R, r1, r2, r3⟩ := hl i hi hr (by rw [h i hi]; exact hx)
  exact ⟨R, r1, r2, fun s hs => r3 s (res_congr (fun i hi => (h i hi).symm) hs)⟩
theorem excF_same {n : Nat} (hN : Net n m A) {need : Nat → Int} {R R' : Int → Bool} (h : ∀ v : Nat, v < n → R v = R' v) : excF n m A need R = excF n m A need R' := by
  have hz : ∀ v : Int, 0 ≤ v → v < n → R v = R' v := fun v h0 h1 => by
    have := h v.toNat (by omega)
    rwa [Int.toNat_of_nonneg h0] at this
  unfold excF capOut
  rw [sumN_congr (f := fun v : Nat => (if R v then 1 else 0) * need v) (g := fun v : Nat => (if R' v then 1 else 0) * need v) (fun v hv => by rw [h v hv])]
  congr 1
  refine sumN_congr fun i hi => ?_
  obtain ⟨h1, h2, h3, h4, _⟩ := hN i hi
  rw [hz _ h1 h2, hz _ h3 h4]
theorem best_of (h : ∀ i, i < m → x i = y i) {p : Int → Int} (hf : Feas m A x p) (hl : LexCert m A x p) (first : Int) : BestOk m A y first :=
  ⟨⟨p, feas_congr h hf⟩, fun _ _ _ hi _ hx ht => no_round (feas_congr h hf) (lex_congr h hl) hi hx ht⟩
end
theorem same_mix (w : World) (A : Option Addr) (n c : Nat) (B : Option Addr) (d : Nat) (xs : List Int) (hn : n = xs.length) (hA : Kd.C (Kd.int .i64) w A xs.length xs) (hB : Kd.C (Kd.int .i64) w B xs.length xs) (hl : xs.length ≤ 100000) :
    Calls Try.prog 24 #[.slice A n c, .slice B xs.length d] w fun e w' => e = .returned (.bool true) ∧ Below w.heap.size w w' := by
  subst hn
  exact same_yes w A c B d xs hA hB hl
/-- A block is not empty where no flow is. -/
theorem block_some {n : Nat} {l : List Ar} {xs : List Int} {R : Int → Bool} {x : Nat → Int} (hok : NetOk n l.length (arcF l)) (hI : IsBlock n l.length (arcF l) (fun v => xs.getD v 0) R) (hc : Carried n l.length (arcF l) (fun v => xs.getD v 0) false x) : 0 < (setL R n).length := by
  by_cases h : (setL R n).length = 0
  · have hno : ∀ v : Nat, v < n → R v = false := fun v hv => by
      cases hR : R v with
      | false => rfl
      | true =>
        have hm : (v : Int) ∈ setL R n := List.mem_map.2 ⟨v, List.mem_filter.2 ⟨List.mem_range.2 hv, hR⟩, rfl⟩
        rw [List.eq_nil_of_length_eq_zero h] at hm
        exact absurd hm (List.not_mem_nil)
    obtain ⟨S, hS⟩ := stuck_exc hok hc
    have h1 := hI.most S
    rw [excF_same hok.net (R := R) (R' := fun _ => false) hno, exc_none] at h1
    omega
  · omega
set_option maxRecDepth 100000 in
set_option maxHeartbeats 8000000 in
theorem solves_law {n : Int} (_ : (Lit.int .i64 n).wf = true) (A1 : Option Addr) (c1 : Nat) (l : List Ar) (hc1 : l.length ≤ c1) (_ : c1 ≤ 9223372036854775807) {w : World} (h1 : Kd.C k44 w A1 l.length l) (_ : ∀ a ∈ l, (Lit.int .i64 a.f0).wf = true ∧ (Lit.int .i64 a.f1).wf = true ∧ (Lit.int .i64 a.f2).wf = true ∧ (Lit.int .i64 a.f3).wf = true)
    (A2 : Option Addr) (c2 : Nat) (xs : List Int) (hc2 : xs.length ≤ c2) (_ : c2 ≤ 9223372036854775807) (h2 : Kd.C (Kd.int .i64) w A2 xs.length xs) (_ : ∀ a ∈ xs, (Lit.int .i64 a).wf = true) :
    Calls Try.prog 3 #[.int .i64 n, .slice A1 l.length c1, .slice A2 xs.length c2] w fun e w' => e = .returned (.bool true) ∧ Below w.heap.size w w' := by
  have HFEW := Lib.hid (few_any w A1 c1 l h1 hc1 A2 c2 xs h2 hc2)
  have HAL := Lib.hid (fun W => alive_any W)
  have H1 := Lib.hid h1
  have H2 := Lib.hid h2
  clear h1 h2
  go_enter Try.func3, Try.ntmps3
  go_wp2_with fail
  refine HFEW.out.mono ?_
  rintro e w1 ⟨rfl, hb1⟩
  have HB1 := Lib.hid hb1
  clear hb1 HFEW
  cases hf : fewB l xs with
  | false =>
    clear hf
    go_wp2_with fail
    refine (HAL.out w1).mono ?_
    rintro e w2 ⟨rfl, hb2⟩
    have HB2 := Lib.hid (below_t HB1.out hb2)
    clear hb2
    go_wp2_with fail
    go_ret
    exact ⟨rfl, HB2.out⟩
  | true =>
    have HFE := Lib.hid (fewB_iff.1 hf)
    have HPA := Lib.hid (paths_any w1 A1 c1 l (Kd.C_below H1.out HB1.out) hc1 HFE.out.1)
    clear hf
    go_wp2_with fail
    refine HPA.out.mono ?_
    rintro e w2 ⟨⟨B1, d1, b1, rfl, hd1, hC1, _⟩, hb2⟩
    have hB2 := below_t HB1.out hb2
    have HCX := Lib.hid (copied_any w2 A2 c2 xs (Kd.C_below H2.out hB2) hc2 HFE.out.2)
    have HB2 := Lib.hid hB2
    have HK1 := Lib.hid hC1
    clear hb2 hB2 hC1 HPA
    go_wp2_with fail
    refine HCX.out.mono ?_
    rintro e w3 ⟨B2, d2, ⟨rfl, hd2, hC2⟩, hb3⟩
    have HB3 := Lib.hid (below_t HB2.out hb3)
    have HK1 := Lib.hid (Kd.C_below HK1.out hb3)
    have HK2 := Lib.hid hC2
    have HSV := Lib.hid (solve_two w3 n B1 d1 l HK1.out hd1 B2 d2 xs HK2.out hd2)
    clear hb3 hC2 HCX
    go_wp2_with fail
    refine HSV.out.mono ?_
    rintro e w4 ⟨hpost, hb4⟩
    have HB34 := Lib.hid hb4
    have HKE := Lib.hid (fun (W : World) (hW : Below w3.heap.size w3 W) => kept_yes W B1 d1 A1 c1 l (Kd.C_below HK1.out hW) hd1 (Kd.C_below H1.out (below_t HB3.out hW)) hc1 HFE.out.1)
    have HSX := Lib.hid (fun (W : World) (hW : Below w3.heap.size w3 W) => same_yes W B2 d2 A2 c2 xs (Kd.C_below HK2.out hW) (Kd.C_below H2.out (below_t HB3.out hW)) (by have := HFE.out; omega))
    have HND := Lib.hid (fun (W : World) (hW : Below w3.heap.size w3 W) => bneed_any W n A1 c1 l (Kd.C_below H1.out (below_t HB3.out hW)) hc1 A2 c2 xs (Kd.C_below H2.out (below_t HB3.out hW)) hc2)
    have HRK := Lib.hid (fun (W : World) (hW : Below w3.heap.size w3 W) => rblock_any W n A1 c1 l (Kd.C_below H1.out (below_t HB3.out hW)) hc1 A2 c2 xs (Kd.C_below H2.out (below_t HB3.out hW)) hc2)
    clear hb4 HSV hd1 hd2
    rcases hpost with ⟨er, rfl, href⟩ | ⟨ga, x, rfl, ht, _, hso⟩
    · have hB3k := below_al HB34.out (.cells #[.slice none 0 0, .int .i64 0] 29 (0, 0))
      have hF3 := Blk.new w4 #[.slice none 0 0, .int .i64 0] 29
      have e3 : (er != 0) = true := by simp [href.1]
      have HRF := Lib.hid href.2
      clear href
      go_upto_region 5 with (fail)
      generalize w4.alloc (.cells #[.slice none 0 0, .int .i64 0] 29 (0, 0)) = wk at *
      have HB3k := Lib.hid hB3k
      have HFK := Lib.hid hF3
      clear hB3k hF3
      generalize w4.heap.size = bf at *
      have H5 := Lib.hid (HND.out wk HB3k.out)
      go_wp2_with fail
      refine H5.out.mono ?_
      rintro e w5 ⟨rfl, hb5⟩
      have HBk5 := Lib.hid hb5
      have HB35 := Lib.hid (below_t HB3k.out hb5)
      have H6 := Lib.hid (HKE.out w5 HB35.out)
      clear hb5 H5
      generalize hne : needE n l xs = ne at *
      have HNE := Lib.hid hne
      clear hne
      go_wp2_with fail
      refine H6.out.mono ?_
      rintro e w6 ⟨rfl, hb6⟩
      have HBk6 := Lib.hid (below_t HBk5.out hb6)
      have HB36 := Lib.hid (below_t HB35.out hb6)
      have H7 := Lib.hid (HSX.out w6 HB36.out)
      clear hb6 H6
      go_wp2_with fail
      refine H7.out.mono ?_
      rintro e w7 ⟨rfl, hb7⟩
      have HBk7 := Lib.hid (below_t HBk6.out hb7)
      have HB37 := Lib.hid (below_t HB36.out hb7)
      have H8 := Lib.hid (HRK.out w7 HB37.out)
      clear hb7 H7
      go_wp2_with fail
      refine H8.out.mono ?_
      rintro e w8 ⟨hbk, hb8⟩
      have HBk8 := Lib.hid (below_t HBk7.out hb8)
      have HB38 := Lib.hid (below_t HB37.out hb8)
      have hFK8 := HFK.out.fr (Fr.of_below HBk8.out (fun _ => False)) (fun a => a)
      have f0 := Blk.cell hFK8 0 (v := .slice none 0 0) rfl
      have f1 := Blk.cell hFK8 1 (v := .int .i64 0) rfl
      clear hb8 H8 hFK8
      rcases HRF.out with ⟨q1, rfl⟩ | ⟨q1, rfl, y, hy⟩
      · rcases hbk with ⟨_, rfl⟩ | ⟨q2, _⟩
        · rw [HNE.out]
          have e4 : (er == er) = true := by simp
          have Q1 := Lib.hid q1
          clear q1
          go_wp2_with fail
          refine (HAL.out w8).mono ?_
          rintro e w9 ⟨rfl, hb9⟩
          have HB9 := Lib.hid (below_t HB3.out (below_t HB38.out hb9))
          clear hb9
          go_wp2_with fail
          go_ret
          exact ⟨rfl, HB9.out⟩
        · exact absurd (HNE.out.symm.trans q2) q1
      · rcases hbk with ⟨q2, _⟩ | ⟨_, v, R, rfl, hR, hI⟩
        · exact absurd (HNE.out.trans q1) q2
        · obtain ⟨AB, cB, rfl, _, _⟩ := Kd.R_reads hR
          obtain ⟨g1, _⟩ := needE_ok (HNE.out.trans q1)
          have hpos := block_some (netE_ok g1) hI hy
          have e5 : decide ((0 : Int) < ((setL R n.toNat).length : Int)) = true := decide_eq_true (by omega)
          subst q1
          clear g1 hR hI hy
          generalize (setL R n.toNat).length = L at *
          have hL0 : (0 : Int) < L := by omega
          go_wp2_with fail
          refine (HAL.out w8).mono ?_
          rintro e w9 ⟨rfl, hb9⟩
          have HB9 := Lib.hid (below_t HB3.out (below_t HB38.out hb9))
          clear hb9
          go_wp2_with fail
          go_ret
          exact ⟨rfl, HB9.out⟩
    · obtain ⟨hE, hv, ⟨p, hfe, hlx⟩, hbal⟩ := hso
      obtain ⟨g1, g2, _⟩ := needE_ok hE
      obtain ⟨k1, k2, hlen, _⟩ := netE_range g1
      have hok := netE_ok g1
      obtain ⟨N, rfl⟩ : ∃ N : Nat, n = N := ⟨n.toNat, by omega⟩
      rw [Int.toNat_natCast] at hok hbal
      obtain ⟨zs, hzl, hzv, hzC⟩ := TI_list ht (by omega)
      have hz0 : amtE N l zs = 0 := amtE_of g1 hzl (fun i hi => by show 0 ≤ zs.getD i 0 ∧ zs.getD i 0 ≤ _; rw [hzv i hi]; exact hv i hi)
      have hzx : ∀ i, i < l.length → x i = xsF zs i := fun i hi => (hzv i hi).symm
      have hco : costF l.length (arcF l) x = costF l.length (arcF l) (xsF zs) := sumN_congr fun i hi => by rw [hzx i hi]
      have hbz : ∀ v : Nat, v < N → balF l.length (arcF l) (xsF zs) v = xs.getD v 0 := fun v hv => by
        rw [← hbal v hv]; exact sumN_congr fun i hi => by rw [hzx i hi]
      have hvz : Valid l.length (arcF l) (xsF zs) := fun i hi => by rw [← hzx i hi]; exact hv i hi
      have hbest := best_of hzx hfe hlx (l.length : Int)
      have hNx : N = xs.length := by omega
      have HQ := Lib.hid (And.intro hzx (And.intro hco hbz))
      clear hzx hco hbz hbal
      have hB3k := below_al HB34.out (.cells #[.slice (some ⟨ga, 0, none⟩) l.length l.length, .int .i64 (costF l.length (arcF l) x)] 29 (0, 0))
      have hala := below_alloc (Below.refl w4.heap.size w4) (.cells #[.slice (some ⟨ga, 0, none⟩) l.length l.length, .int .i64 (costF l.length (arcF l) x)] 29 (0, 0))
      have hF3 := Blk.new w4 #[.slice (some ⟨ga, 0, none⟩) l.length l.length, .int .i64 (costF l.length (arcF l) x)] 29
      go_upto_region 5 with (fail)
      generalize w4.alloc (.cells #[.slice (some ⟨ga, 0, none⟩) l.length l.length, .int .i64 (costF l.length (arcF l) x)] 29 (0, 0)) = wk at *
      obtain ⟨hzx, hco, hbz⟩ := HQ.out
      clear HQ
      have hzk := Kd.C_below hzC hala
      have HB3k := Lib.hid hB3k
      have HFK := Lib.hid hF3
      have HBKK := Lib.hid (And.intro hNx (And.intro hE hbz))
      have HZ := Lib.hid hzk
      have HBO := Lib.hid hbest
      have HOK := Lib.hid hok
      have HAM := Lib.hid (fun (W : World) (hW : Below wk.heap.size wk W) => by
        have h := ramt_any W N A1 c1 l (Kd.C_below H1.out (below_t HB3.out (below_t hB3k hW))) hc1 (some ⟨ga, 0, none⟩) l.length zs (Kd.C_below hzk hW) (by omega)
        rw [hz0, hzl] at h; exact h)
      have HCO := Lib.hid (fun (W : World) (hW : Below wk.heap.size wk W) => by
        have h := rcost_any W A1 c1 l (Kd.C_below H1.out (below_t HB3.out (below_t hB3k hW))) hc1 (some ⟨ga, 0, none⟩) l.length zs (Kd.C_below hzk hW) (by omega) hok hvz (by omega)
        rw [← hco, hzl] at h; exact h)
      have HBA := Lib.hid (fun (W : World) (hW : Below wk.heap.size wk W) => by
        have h := rbal_any W N A1 c1 l (Kd.C_below H1.out (below_t HB3.out (below_t hB3k hW))) hc1 (some ⟨ga, 0, none⟩) l.length zs (Kd.C_below hzk hW) (by omega)
        rw [hzl] at h; exact h)
      have HBS := Lib.hid (fun (W : World) (hW : Below wk.heap.size wk W) => by
        have h := best_any W N A1 c1 l (Kd.C_below H1.out (below_t HB3.out (below_t hB3k hW))) (some ⟨ga, 0, none⟩) l.length zs (Kd.C_below hzk hW) (by omega) hok l.length hbest
        rw [hzl] at h; exact h)
      have HZ0 := Lib.hid hz0
      have HXN : Hid (xs.length ≤ 100000) := Lib.hid (by have := HFE.out; omega)
      clear hala hB3k hF3 hzk hzC ht hE hv hfe hlx g1 g2 k1 k2 hlen hok hzl hzv hz0 hzx hco hbz hvz hbest hNx HZ HBO HOK
      generalize w4.heap.size = bf at *
      generalize costF l.length (arcF l) x = cx at *
      have H5 := Lib.hid (HND.out wk HB3k.out)
      rw [HBKK.out.2.1] at H5
      go_wp2_with fail
      refine H5.out.mono ?_
      rintro e w5 ⟨rfl, hb5⟩
      have HBk5 := Lib.hid hb5
      have HB35 := Lib.hid (below_t HB3k.out hb5)
      have H6 := Lib.hid (HKE.out w5 HB35.out)
      clear hb5 H5
      go_wp2_with fail
      refine H6.out.mono ?_
      rintro e w6 ⟨rfl, hb6⟩
      have HBk6 := Lib.hid (below_t HBk5.out hb6)
      have HB36 := Lib.hid (below_t HB35.out hb6)
      have H7 := Lib.hid (HSX.out w6 HB36.out)
      clear hb6 H6
      go_wp2_with fail
      refine H7.out.mono ?_
      rintro e w7 ⟨rfl, hb7⟩
      have HBk7 := Lib.hid (below_t HBk6.out hb7)
      have KP : ∀ W, Below wk.heap.size wk W → W.cell? ⟨bf, 0, none⟩ = some (.slice (some ⟨ga, 0, none⟩) l.length l.length) ∧ W.cell? ⟨bf, 1, none⟩ = some (.int .i64 cx) ∧ Below wk.heap.size wk W := fun W hW =>
        ⟨Blk.cell (HFK.out.fr (Fr.of_below hW (fun _ => False)) (fun a => a)) 0 (v := .slice (some ⟨ga, 0, none⟩) l.length l.length) rfl, Blk.cell (HFK.out.fr (Fr.of_below hW (fun _ => False)) (fun a => a)) 1 (v := .int .i64 cx) rfl, hW⟩
      have HKP := Lib.hid KP
      have e9 : (cx != cx) = false := by simp
      clear hb7 H7 KP
      go_upto_region 11 with (fail)
      go_cut [103] (fun s103 wx => s103 = .bool false ∧ Below wk.heap.size wk wx)
      case first =>
        have S0 := HKP.out _ (HBk7.out.drew)
        go_region_held3 (fun W => W.cell? ⟨bf, 0, none⟩ = some (.slice (some ⟨ga, 0, none⟩) l.length l.length) ∧ W.cell? ⟨bf, 1, none⟩ = some (.int .i64 cx) ∧ Below wk.heap.size wk W)
          (first | (with_reducible exact S0) | (with_reducible exact S6) | (with_reducible exact S5) | (trace_state; fail))
          (first
            | (go_at_call 26; refine (HAM.out w7.drew S0.2.2).mono ?_; rintro e w8 ⟨rfl, hb8⟩; have S5 := HKP.out _ (S0.2.2.trans (hb8.mono S0.2.2.size)))
            | (go_at_call 27; refine (HCO.out w8 S5.2.2).mono ?_; rintro e w9 ⟨rfl, hb9⟩; have S6 := HKP.out _ (S5.2.2.trans (hb9.mono S5.2.2.size))))
        all_goals
          go_wp2_with fail
          go_meet
          exact ⟨rfl, S6.2.2⟩
      case rest =>
        obtain ⟨rfl, hbx⟩ := hcut
        obtain ⟨w9, rfl⟩ : ∃ w9 : World, w9 = wc := ⟨_, rfl⟩
        have HBk9 := Lib.hid hbx
        have f0 := (HKP.out _ hbx).1
        have H10 := Lib.hid (HBA.out w9 hbx)
        clear hbx e9
        go_wp2_with fail
        refine H10.out.mono ?_
        rintro e w10 ⟨hp, hb10⟩
        rcases hp with ⟨q, _⟩ | ⟨_, b, rfl, htb⟩
        · exact absurd HZ0.out q
        · rw [Int.toNat_natCast] at htb ⊢
          obtain ⟨hNx, _, hbz⟩ := HBKK.out
          have hcb := TI_C htb xs hNx.symm (by have := HXN.out; omega) hbz
          have HBk10 := Lib.hid (below_t HBk9.out hb10)
          have HB30 := Lib.hid (below_t HB3.out (below_t HB3k.out HBk10.out))
          have H11 := Lib.hid (same_mix w10 (some ⟨b, 0, none⟩) N N A2 c2 xs hNx hcb (Kd.C_below H2.out HB30.out) HXN.out)
          clear hcb htb hbz hb10 H10 hNx f0
          go_wp2_with fail
          refine H11.out.mono ?_
          rintro e w11 ⟨rfl, hb11⟩
          have HBk11 := Lib.hid (below_t HBk10.out hb11)
          have f0 := (HKP.out _ HBk11.out).1
          have H12 := Lib.hid (HBS.out w11 HBk11.out)
          clear hb11 H11
          go_wp2_with fail
          refine H12.out.mono ?_
          rintro e w12 ⟨rfl, hb12⟩
          have HBk12 := Lib.hid (below_t HBk11.out hb12)
          clear hb12 H12
          go_wp2_with fail
          refine (HAL.out w12).mono ?_
          rintro e w13 ⟨rfl, hb13⟩
          have HB13 := Lib.hid (below_t HB3.out (below_t HB3k.out (below_t HBk12.out hb13)))
          clear hb13
          go_wp2_with fail
          go_ret
          exact ⟨rfl, HB13.out⟩
end Go.Proofs.Ytpbndcmmclkdpaa
