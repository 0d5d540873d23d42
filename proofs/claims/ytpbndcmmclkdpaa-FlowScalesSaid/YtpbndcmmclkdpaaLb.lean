/-
  FlowBalances.
-/
import Derived.Test.YtpbndcmmclkdpaaQl
namespace Go.Proofs.Ytpbndcmmclkdpaa
open PFlowSolves
open Go.RowKit Go.Proofs.YtpbndcmmclkdpaaW.PrintWords
theorem same_TI (w : World) (b1 b2 n : Nat) (f : Nat → Int) (h1 : TI w b1 n f) (h2 : TI w b2 n f) (hn : n ≤ 100000) :
    Calls Try.prog 24 #[.slice (some ⟨b1, 0, none⟩) n n, .slice (some ⟨b2, 0, none⟩) n n] w fun e w' => e = .returned (.bool true) ∧ Below w.heap.size w w' := by
  have hg : ∀ i, i < n → f i = ((List.range n).map f).getD i 0 := fun i hi => by
    rw [List.getD_eq_getElem?_getD, List.getElem?_map, List.getElem?_range hi]; rfl
  have hl : ((List.range n).map f).length = n := by simp
  have h := same_yes w (some ⟨b1, 0, none⟩) n (some ⟨b2, 0, none⟩) n ((List.range n).map f) (TI_C h1 _ hl hn hg) (TI_C h2 _ hl hn hg) (by rw [hl]; exact hn)
  rw [hl] at h
  exact h
theorem same_nil (w : World) : Calls Try.prog 24 #[.slice none 0 0, .slice none 0 0] w fun e w' => e = .returned (.bool true) ∧ Below w.heap.size w w' :=
  same_yes w none 0 none 0 [] (Kd.C_nil _ _) (Kd.C_nil _ _) (by simp)
/-- Two results that read the same. -/
def Twin (w : World) (v v2 : Value) : Prop := ∀ W, Below w.heap.size w W → Calls Try.prog 24 #[v, v2] W fun e w' => e = .returned (.bool true) ∧ Below W.heap.size W w'
def BalR (n : Int) (l : List Ar) (xs : List Int) (v : Value) (er : Int) (w : World) : Prop :=
  (amtE n l xs ≠ 0 ∧ v = .slice none 0 0 ∧ er = amtE n l xs) ∨ (amtE n l xs = 0 ∧ er = 0 ∧ ∃ b, v = .slice (some ⟨b, 0, none⟩) n.toNat n.toNat ∧ TI w b n.toNat (fun v => balF l.length (arcF l) (xsF xs) v))
theorem BalPost.out {n : Int} {l : List Ar} {xs : List Int} {w w' : World} {e : Ending} (h : BalPost n l xs w e w') : ∃ v er, e = .returned (.tuple #[v, .int .i64 er]) ∧ BalR n l xs v er w' := by
  rcases h.1 with ⟨h0, rfl⟩ | ⟨h0, b, rfl, ht⟩
  · exact ⟨_, _, rfl, .inl ⟨h0, rfl, rfl⟩⟩
  · exact ⟨_, _, rfl, .inr ⟨h0, rfl, b, rfl, ht⟩⟩
theorem toNat_le_of {n : Int} {l : List Ar} {xs : List Int} (h : amtE n l xs = 0) : n.toNat ≤ 100000 := by
  have := (netE_range (amtE_ok h).1); omega
theorem BalR.twin {n : Int} {l : List Ar} {xs : List Int} {v v2 : Value} {er er2 : Int} {w1 w2 : World} (h1 : BalR n l xs v er w1) (h2 : BalR n l xs v2 er2 w2) (hb : Below w1.heap.size w1 w2) : er2 = er ∧ Twin w2 v v2 := by
  rcases h1 with ⟨a, rfl, rfl⟩ | ⟨a, rfl, b, rfl, ht⟩ <;> rcases h2 with ⟨c, rfl, rfl⟩ | ⟨c, rfl, d, rfl, hu⟩
  · exact ⟨rfl, fun W _ => same_nil W⟩
  · exact absurd c a
  · exact absurd a c
  · exact ⟨rfl, fun W hW => same_TI W b d n.toNat _ (TV.below (TV.below ht hb) hW) (TV.below hu hW) (toNat_le_of a)⟩
def PotR (n : Int) (l : List Ar) (xs : List Int) (v : Value) (er : Int) (w : World) : Prop :=
  (amtE n l xs ≠ 0 ∧ v = .slice none 0 0 ∧ er = amtE n l xs) ∨
  (amtE n l xs = 0 ∧ er = 0 ∧ ∃ j b, FeasL (arcF l) (stepsF (arcF l) (xsF xs) l.length) (swpPs (arcF l) (stepsF (arcF l) (xsF xs) l.length) j) ∧ j ≤ n.toNat ∧ (∀ i, i < j → ¬ FeasL (arcF l) (stepsF (arcF l) (xsF xs) l.length) (swpPs (arcF l) (stepsF (arcF l) (xsF xs) l.length) i)) ∧
    v = .slice (some ⟨b, 0, none⟩) n.toNat n.toNat ∧ TI w b n.toNat (fun v => swpPs (arcF l) (stepsF (arcF l) (xsF xs) l.length) j v)) ∨
  (amtE n l xs = 0 ∧ er = 13 ∧ v = .slice none 0 0 ∧ ∀ i, i ≤ n.toNat → ¬ FeasL (arcF l) (stepsF (arcF l) (xsF xs) l.length) (swpPs (arcF l) (stepsF (arcF l) (xsF xs) l.length) i))
theorem PotsPost.out {n : Int} {l : List Ar} {xs : List Int} {w w' : World} {e : Ending} (h : PotsPost n l xs w e w') : ∃ v er, e = .returned (.tuple #[v, .int .i64 er]) ∧ PotR n l xs v er w' := by
  rcases h.1 with ⟨h0, rfl⟩ | ⟨h0, ⟨j, b, hj, hf, hn, rfl, ht⟩ | ⟨hn, rfl⟩⟩
  · exact ⟨_, _, rfl, .inl ⟨h0, rfl, rfl⟩⟩
  · exact ⟨_, _, rfl, .inr (.inl ⟨h0, rfl, j, b, hf, hj, hn, rfl, ht⟩)⟩
  · exact ⟨_, _, rfl, .inr (.inr ⟨h0, rfl, rfl, hn⟩)⟩
theorem PotR.twin {n : Int} {l : List Ar} {xs : List Int} {v v2 : Value} {er er2 : Int} {w1 w2 : World} (h1 : PotR n l xs v er w1) (h2 : PotR n l xs v2 er2 w2) (hb : Below w1.heap.size w1 w2) : er2 = er ∧ Twin w2 v v2 := by
  rcases h1 with ⟨a, rfl, rfl⟩ | ⟨a, rfl, j, b, hf, hj, hn, rfl, ht⟩ | ⟨a, rfl, rfl, hn⟩ <;> rcases h2 with ⟨c, rfl, rfl⟩ | ⟨c, rfl, k, d, hg, hk, hm, rfl, hu⟩ | ⟨c, rfl, rfl, hm⟩
  · exact ⟨rfl, fun W _ => same_nil W⟩
  · exact absurd c a
  · exact absurd c a
  · exact absurd a c
  · obtain rfl : j = k := by
      rcases Nat.lt_trichotomy j k with g | g | g
      · exact absurd hf (hm j g)
      · exact g
      · exact absurd hg (hn k g)
    exact ⟨rfl, fun W hW => same_TI W b d n.toNat _ (TV.below (TV.below ht hb) hW) (TV.below hu hW) (toNat_le_of a)⟩
  · exact absurd hf (hm j hj)
  · exact absurd a c
  · exact absurd hg (hn k hk)
  · exact ⟨rfl, fun W _ => same_nil W⟩
def ChkR (n : Int) (l : List Ar) (xs ps : List Int) (r : Bool) (er : Int) : Prop :=
  (chkE n l xs ps ≠ 0 ∧ r = false ∧ er = chkE n l xs ps) ∨ (chkE n l xs ps = 0 ∧ er = 0 ∧ (r = true ↔ Feas l.length (arcF l) (xsF xs) (psF ps)))
theorem CheckPost.out {n : Int} {l : List Ar} {xs ps : List Int} {w w' : World} {e : Ending} (h : CheckPost n l xs ps w e w') : ∃ r er, e = .returned (.tuple #[.bool r, .int .i64 er]) ∧ ChkR n l xs ps r er := by
  rcases h.1 with ⟨h0, rfl⟩ | ⟨h0, r, rfl, hr⟩
  · exact ⟨_, _, rfl, .inl ⟨h0, rfl, rfl⟩⟩
  · exact ⟨_, _, rfl, .inr ⟨h0, rfl, hr⟩⟩
theorem ChkR.eq {n : Int} {l : List Ar} {xs ps : List Int} {r r2 : Bool} {er er2 : Int} (h1 : ChkR n l xs ps r er) (h2 : ChkR n l xs ps r2 er2) : r2 = r ∧ er2 = er := by
  rcases h1 with ⟨a, rfl, rfl⟩ | ⟨a, rfl, hr⟩ <;> rcases h2 with ⟨c, rfl, rfl⟩ | ⟨c, rfl, hs⟩
  · exact ⟨rfl, rfl⟩
  · exact absurd c a
  · exact absurd a c
  · refine ⟨?_, rfl⟩
    rw [Bool.eq_iff_iff, hr, hs]
set_option maxRecDepth 100000 in
set_option maxHeartbeats 8000000 in
theorem balances_law {n : Int} (_ : (Lit.int .i64 n).wf = true) (A1 : Option Addr) (c1 : Nat) (l : List Ar) (hc1 : l.length ≤ c1) (_ : c1 ≤ 9223372036854775807) {w : World} (h1 : Kd.C k44 w A1 l.length l) (_ : ∀ a ∈ l, (Lit.int .i64 a.f0).wf = true ∧ (Lit.int .i64 a.f1).wf = true ∧ (Lit.int .i64 a.f2).wf = true ∧ (Lit.int .i64 a.f3).wf = true)
    (A2 : Option Addr) (c2 : Nat) (xs : List Int) (hc2 : xs.length ≤ c2) (_ : c2 ≤ 9223372036854775807) (h2 : Kd.C (Kd.int .i64) w A2 xs.length xs) (_ : ∀ a ∈ xs, (Lit.int .i64 a).wf = true)
    (A3 : Option Addr) (c3 : Nat) (ps : List Int) (hc3 : ps.length ≤ c3) (_ : c3 ≤ 9223372036854775807) (h3 : Kd.C (Kd.int .i64) w A3 ps.length ps) (_ : ∀ a ∈ ps, (Lit.int .i64 a).wf = true) :
    Calls Try.prog 12 #[.int .i64 n, .slice A1 l.length c1, .slice A2 xs.length c2, .slice A3 ps.length c3] w fun e w' => e = .returned (.bool true) ∧ Below w.heap.size w w' := by
  have HFEW := Lib.hid (few_any w A1 c1 l h1 hc1 A2 c2 xs h2 hc2)
  have H1 := Lib.hid h1
  have H2 := Lib.hid h2
  have H3 := Lib.hid h3
  clear h1 h2 h3
  go_enter Try.func12, Try.ntmps12
  go_wp2_with fail
  refine HFEW.out.mono ?_
  rintro e w1 ⟨rfl, hb1⟩
  have HB1 := Lib.hid hb1
  have HAL := Lib.hid (alive_any w1)
  clear hb1 HFEW
  cases hf : fewB l xs with
  | false =>
    clear hf
    go_wp2_with fail
    refine HAL.out.mono ?_
    rintro e w2 ⟨rfl, hb2⟩
    have HB2 := Lib.hid (below_t HB1.out hb2)
    clear hb2
    go_wp2_with fail
    go_ret
    exact ⟨rfl, HB2.out⟩
  | true =>
    have HFE := Lib.hid (fewB_iff.1 hf)
    clear hf
    by_cases hl1 : 140 < ps.length
    · have e1 : decide ((140 : Int) < ps.length) = true := decide_eq_true (by omega)
      clear hl1
      go_wp2_with fail
      refine HAL.out.mono ?_
      rintro e w2 ⟨rfl, hb2⟩
      have HB2 := Lib.hid (below_t HB1.out hb2)
      clear hb2
      go_wp2_with fail
      go_ret
      exact ⟨rfl, HB2.out⟩
    have e1 : decide ((140 : Int) < ps.length) = false := decide_eq_false (by omega)
    have HPL := Lib.hid hl1
    have HPA := Lib.hid (paths_any w1 A1 c1 l (Kd.C_below H1.out HB1.out) hc1 HFE.out.1)
    clear hl1 HAL
    go_wp2_with fail
    refine HPA.out.mono ?_
    rintro e w2 ⟨⟨B1, d1, b1, rfl, hd1, hC1, _⟩, hb2⟩
    have hB2 := below_t HB1.out hb2
    have HCX := Lib.hid (copied_any w2 A2 c2 xs (Kd.C_below H2.out hB2) hc2 HFE.out.2)
    have HB2 := Lib.hid hB2
    have HK1 := Lib.hid hC1
    clear hb2 hB2 hC1 HPA
    go_wp2_with fail
    refine HCX.out.mono ?_
    rintro e w3 ⟨B2, d2, ⟨rfl, hd2, hC2⟩, hb3⟩
    have hB3 := below_t HB2.out hb3
    have HCP := Lib.hid (copied_any w3 A3 c3 ps (Kd.C_below H3.out hB3) hc3 (by have := HPL.out; omega))
    have HB3 := Lib.hid hB3
    have HK1 := Lib.hid (Kd.C_below HK1.out hb3)
    have HK2 := Lib.hid hC2
    clear hb3 hB3 hC2 HCX
    go_wp2_with fail
    refine HCP.out.mono ?_
    rintro e w4 ⟨B3, d3, ⟨rfl, hd3, hC3⟩, hb4⟩
    have HB4 := Lib.hid (below_t HB3.out hb4)
    have HK1 := Lib.hid (Kd.C_below HK1.out hb4)
    have HK2 := Lib.hid (Kd.C_below HK2.out hb4)
    have HK3 := Lib.hid hC3
    have HBA := Lib.hid (balance2_any w4 n B1 d1 l HK1.out hd1 B2 d2 xs HK2.out)
    clear hb4 hC3 HCP
    go_wp2_with fail
    refine HBA.out.mono ?_
    rintro e w5 ⟨hp1, hb5⟩
    have HB45 := Lib.hid hb5
    have HB5 := Lib.hid (below_t HB4.out hb5)
    have HRB := Lib.hid (fun (W : World) (hW : Below w.heap.size w W) => rbal_any W n A1 c1 l (Kd.C_below H1.out hW) hc1 A2 c2 xs (Kd.C_below H2.out hW) hc2)
    have HRP := Lib.hid (fun (W : World) (hW : Below w.heap.size w W) => rpots_any W n A1 c1 l (Kd.C_below H1.out hW) hc1 A2 c2 xs (Kd.C_below H2.out hW) hc2)
    have HRC := Lib.hid (fun (W : World) (hW : Below w.heap.size w W) => rcheck_any W n A1 c1 l (Kd.C_below H1.out hW) hc1 A2 c2 xs (Kd.C_below H2.out hW) hc2 A3 c3 ps (Kd.C_below H3.out hW))
    have HPP := Lib.hid (fun (W : World) (hW : Below w4.heap.size w4 W) => pots_any W n B1 d1 l (Kd.C_below HK1.out hW) hd1 B2 d2 xs (Kd.C_below HK2.out hW))
    have HPC := Lib.hid (fun (W : World) (hW : Below w4.heap.size w4 W) => check_any W n B1 d1 l (Kd.C_below HK1.out hW) hd1 B2 d2 xs (Kd.C_below HK2.out hW) B3 d3 ps (Kd.C_below HK3.out hW))
    have HKE := Lib.hid (fun (W : World) (hW : Below w4.heap.size w4 W) => kept_yes W B1 d1 A1 c1 l (Kd.C_below HK1.out hW) hd1 (Kd.C_below H1.out (below_t HB4.out hW)) hc1 HFE.out.1)
    have HSX := Lib.hid (fun (W : World) (hW : Below w4.heap.size w4 W) => same_yes W B2 d2 A2 c2 xs (Kd.C_below HK2.out hW) (Kd.C_below H2.out (below_t HB4.out hW)) (by have := HFE.out; omega))
    have HSP := Lib.hid (fun (W : World) (hW : Below w4.heap.size w4 W) => same_yes W B3 d3 A3 c3 ps (Kd.C_below HK3.out hW) (Kd.C_below H3.out (below_t HB4.out hW)) (by have := HPL.out; omega))
    clear HBA hd1 hd2 hd3 e1
    have hp1 : BalPost n l xs w4 e w5 := ⟨hp1, hb5⟩
    obtain ⟨v5, r5, rfl, hr5⟩ := hp1.out
    have HR5 := Lib.hid hr5
    have H6 := Lib.hid (HRB.out w5 HB5.out)
    clear hp1 hr5 hb5
    go_wp2_with fail
    refine H6.out.mono ?_
    rintro e w6 ⟨hp, hb⟩
    have hp : BalPost n l xs w5 e w6 := ⟨hp, hb⟩
    obtain ⟨v6, r6, rfl, hr6⟩ := hp.out
    obtain ⟨rfl, htw⟩ := HR5.out.twin hr6 hb
    have HB46 := Lib.hid (below_t HB45.out hb)
    have H7 := Lib.hid (htw w6 (Below.refl _ _))
    clear hp hr6 htw hb H6 HR5 HRB
    go_wp2_with fail
    refine H7.out.mono ?_
    rintro e w7 ⟨rfl, hb⟩
    have HB47 := Lib.hid (below_t HB46.out hb)
    have H8 := Lib.hid (HPP.out w7 HB47.out)
    clear hb H7
    go_wp2_with fail
    refine H8.out.mono ?_
    rintro e w8 ⟨hp, hb⟩
    have hp : PotsPost n l xs w7 e w8 := ⟨hp, hb⟩
    obtain ⟨v8, r8, rfl, hr8⟩ := hp.out
    have HR8 := Lib.hid hr8
    have HB48 := Lib.hid (below_t HB47.out hb)
    have H9 := Lib.hid (HRP.out w8 (below_t HB4.out HB48.out))
    clear hp hb hr8 H8
    go_wp2_with fail
    refine H9.out.mono ?_
    rintro e w9 ⟨hp, hb⟩
    have hp : PotsPost n l xs w8 e w9 := ⟨hp, hb⟩
    obtain ⟨v9, r9, rfl, hr9⟩ := hp.out
    obtain ⟨rfl, htw⟩ := HR8.out.twin hr9 hb
    have HB49 := Lib.hid (below_t HB48.out hb)
    have H10 := Lib.hid (htw w9 (Below.refl _ _))
    clear hp hr9 htw hb H9 HR8
    go_wp2_with fail
    refine H10.out.mono ?_
    rintro e w10 ⟨rfl, hb⟩
    have HB410 := Lib.hid (below_t HB49.out hb)
    have H11 := Lib.hid (HPC.out w10 HB410.out)
    clear hb H10
    go_wp2_with fail
    refine H11.out.mono ?_
    rintro e w11 ⟨hp, hb⟩
    have hp : CheckPost n l xs ps w10 e w11 := ⟨hp, hb⟩
    obtain ⟨r11, er11, rfl, hr11⟩ := hp.out
    have HR11 := Lib.hid hr11
    have HB411 := Lib.hid (below_t HB410.out hb)
    have H12 := Lib.hid (HRC.out w11 (below_t HB4.out HB411.out))
    clear hp hb hr11 H11
    go_wp2_with fail
    refine H12.out.mono ?_
    rintro e w12 ⟨hp, hb⟩
    have hp : CheckPost n l xs ps w11 e w12 := ⟨hp, hb⟩
    obtain ⟨r12, er12, rfl, hr12⟩ := hp.out
    obtain ⟨rfl, rfl⟩ := HR11.out.eq hr12
    have HB412 := Lib.hid (below_t HB411.out hb)
    have H13 := Lib.hid (HKE.out w12 HB412.out)
    have e8 : (r12 == r12) = true := beq_self_eq_true r12
    clear hp hb hr12 H12 HR11
    go_wp2_with fail
    refine H13.out.mono ?_
    rintro e w13 ⟨rfl, hb⟩
    have HB413 := Lib.hid (below_t HB412.out hb)
    have H14 := Lib.hid (HSX.out w13 HB413.out)
    clear hb H13
    go_wp2_with fail
    refine H14.out.mono ?_
    rintro e w14 ⟨rfl, hb⟩
    have HB414 := Lib.hid (below_t HB413.out hb)
    have H15 := Lib.hid (HSP.out w14 HB414.out)
    clear hb H14
    go_wp2_with fail
    refine H15.out.mono ?_
    rintro e w15 ⟨rfl, hb⟩
    have HB415 := Lib.hid (below_t HB414.out hb)
    have H16 := Lib.hid (alive_any w15)
    clear hb H15
    go_wp2_with fail
    refine H16.out.mono ?_
    rintro e w16 ⟨rfl, hb⟩
    have HB416 := Lib.hid (below_t HB4.out (below_t HB415.out hb))
    clear hb
    go_wp2_with fail
    go_ret
    exact ⟨rfl, HB416.out⟩
end Go.Proofs.Ytpbndcmmclkdpaa
