/-
  The walks of carried, Balance and Potentials.
-/
import Derived.Test.YtpbndcmmclkdpaaQf
namespace Go.Proofs.Ytpbndcmmclkdpaa
open PFlowSolves
open Go.RowKit Go.Proofs.YtpbndcmmclkdpaaW.PrintWords
abbrev xsF (xs : List Int) : Nat → Int := fun i => xs.getD i 0
theorem amtE_ok {n : Int} {l : List Ar} {xs : List Int} (h : amtE n l xs = 0) : netE n l = 0 ∧ xs.length = l.length ∧ Valid l.length (arcF l) (xsF xs) := by
  unfold amtE at h
  by_cases h1 : netE n l = 0
  · rw [if_neg (fun g => g h1)] at h
    by_cases h2 : xs.length = l.length
    · rw [if_neg (fun g => g h2)] at h
      cases h3 : (List.range l.length).any (amtB l xs) with
      | true => rw [h3, if_pos rfl] at h; exact absurd h (by decide)
      | false =>
        refine ⟨h1, h2, fun i hi => ?_⟩
        rw [List.any_eq_false] at h3
        have := h3 i (List.mem_range.2 hi)
        unfold amtB at this
        rw [decide_eq_true_eq] at this
        show 0 ≤ xs.getD i 0 ∧ xs.getD i 0 ≤ (arcF l i).f2
        omega
    · rw [if_pos h2] at h; exact absurd h (by decide)
  · rw [if_pos h1] at h; exact absurd h h1
theorem amtE_of {n : Int} {l : List Ar} {xs : List Int} (h1 : netE n l = 0) (h2 : xs.length = l.length) (h3 : Valid l.length (arcF l) (xsF xs)) : amtE n l xs = 0 := by
  unfold amtE
  rw [if_neg (fun g => g h1), if_neg (fun g => g h2), if_neg]
  intro h
  rw [List.any_eq_true] at h
  obtain ⟨i, hi, hb⟩ := h
  have hi := List.mem_range.1 hi
  have hv := h3 i hi
  have hv : 0 ≤ xs.getD i 0 ∧ xs.getD i 0 ≤ (arcF l i).f2 := hv
  have hb : xs.getD i 0 < 0 ∨ xs.getD i 0 > (arcF l i).f2 := of_decide_eq_true hb
  omega
theorem amtE_bad {n : Int} {l : List Ar} {xs : List Int} (h1 : netE n l = 0) (h2 : xs.length = l.length) {i : Nat} (hi : i < l.length) (hb : amtB l xs i = true) : amtE n l xs = 2 := by
  unfold amtE
  rw [if_neg (fun g => g h1), if_neg (fun g => g h2), if_pos (List.any_eq_true.2 ⟨i, List.mem_range.2 hi, hb⟩)]
theorem amtE_net {n : Int} {l : List Ar} {xs : List Int} (h1 : netE n l ≠ 0) : amtE n l xs = netE n l := by unfold amtE; rw [if_pos h1]
theorem amtE_len {n : Int} {l : List Ar} {xs : List Int} (h1 : netE n l = 0) (h2 : xs.length ≠ l.length) : amtE n l xs = 2 := by unfold amtE; rw [if_neg (fun g => g h1), if_pos h2]
def HeldPost (n : Int) (l : List Ar) (A1 : Option Addr) (c1 : Nat) (xs : List Int) (A2 : Option Addr) (c2 : Nat) (w : World) (e : Ending) (w' : World) : Prop :=
  ((amtE n l xs ≠ 0 ∧ e = .returned (.tuple #[.pointer none, .int .i64 (amtE n l xs)])) ∨
   (amtE n l xs = 0 ∧ ∃ g, e = .returned (.tuple #[.pointer (some ⟨g, 0, none⟩), .int .i64 0]) ∧ NM w' g A1 c1 A2 c2 n l.length (arcF l) (xsF xs))) ∧ Below w.heap.size w w'
set_option maxRecDepth 100000 in
set_option maxHeartbeats 4000000 in
theorem carried_any (w : World) (n : Int) (A1 : Option Addr) (c1 : Nat) (l : List Ar) (h1 : Kd.C k44 w A1 l.length l) (hc1 : l.length ≤ c1) (A2 : Option Addr) (c2 : Nat) (xs : List Int) (h2 : Kd.C (Kd.int .i64) w A2 xs.length xs) :
    Calls Try.prog 60 #[.int .i64 n, .slice A1 l.length c1, .slice A2 xs.length c2] w (HeldPost n l A1 c1 xs A2 c2 w) := by
  have HND := Lib.hid (flow_network.calls 300 n A1 c1 l _ w h1 hc1 (net_f n l (Nat.le_refl _)))
  have H1 := Lib.hid h1
  have H2 := Lib.hid h2
  clear h1 h2
  go_enter Try.func60, Try.ntmps60
  go_wp2_with fail
  refine HND.out.mono ?_
  rintro e w1 ⟨rfl, hb1⟩
  have HB1 := Lib.hid hb1
  clear HND hb1
  by_cases h0 : netE n l = 0
  · have HN0 := Lib.hid h0
    have HS := Lib.hid (netE_range h0)
    rw [h0]
    clear h0
    by_cases hle : xs.length = l.length
    · have e1 : ((xs.length : Int) != (l.length : Int)) = false := by simp [hle]
      have HLE := Lib.hid hle
      clear hle
      go_wp2_with fail
      go_loopg [9, 10, 24] l.length (fun k v9 v10 v24 wr => ∃ i : Nat, v24 = .int .i64 i ∧ Hid (i + k = l.length) ∧ Hid (∀ j, j < i → amtB l xs j = false) ∧ Hid (Below w.heap.size w wr))
      case atStart => exact ⟨0, rfl, Lib.hid (by omega), Lib.hid (fun j hj => absurd hj (Nat.not_lt_zero _)), HB1⟩
      case round =>
        obtain ⟨i, rfl, HI, HA, HB⟩ := hrel
        obtain ⟨wv, rfl⟩ : ∃ wv : World, wv = wr := ⟨_, rfl⟩
        by_cases hlt : i < l.length
        · have hi0 : (i : Int) < l.length := by omega
          have hix : (i : Int) < xs.length := by have := HLE.out; omega
          have hiz : (0 : Int) ≤ i := by omega
          obtain ⟨ad, rfl, k0, k1, k2, k3⟩ := arcs_of (Kd.C_below H1.out HB.out) (i : Int) (by omega) hi0
          rw [Int.toNat_natCast] at k0 k1 k2 k3
          have hw : IntKind.i64.wrap ((i : Int) + 1) = i + 1 := IntWalk.i64_in _ (by have := HS.out; omega)
          have hal := below_alloc (Below.refl wv.heap.size wv) (.cells #[.int .i64 (arcF l i).f0, .int .i64 (arcF l i).f1, .int .i64 (arcF l i).f2, .int .i64 (arcF l i).f3] 44 (0, 0))
          have hA4 := Blk.new wv #[.int .i64 (arcF l i).f0, .int .i64 (arcF l i).f1, .int .i64 (arcF l i).f2, .int .i64 (arcF l i).f3] 44
          have HLT := Lib.hid hlt
          clear hlt
          go_upto_region 9 with (fail)
          generalize wv.alloc (.cells #[.int .i64 (arcF l i).f0, .int .i64 (arcF l i).f1, .int .i64 (arcF l i).f2, .int .i64 (arcF l i).f3] 44 (0, 0)) = w3 at *
          have b2 := Blk.cell hA4 2 (v := .int .i64 (arcF l i).f2) rfl
          have hB3 := below_t HB.out hal
          obtain ⟨bd, rfl, q0⟩ := Kd.at_int (Kd.C_below H2.out hB3) (i : Int) (by omega) hix
          have ex : rd xs (i : Int) = xs.getD i 0 := by unfold rd; rw [Int.toNat_natCast]
          rw [ex, Int.toNat_natCast] at q0
          have HB3 := Lib.hid hB3
          have HAB : Hid (amtB l xs i = (decide (xs.getD i 0 < 0) || decide ((arcF l i).f2 < xs.getD i 0))) := Lib.hid (by unfold amtB; simp [Bool.decide_or])
          clear k0 k1 k2 k3 hal hA4 hB3 ex
          generalize xs.getD i 0 = xi at *
          by_cases hx1 : xi < 0
          · have e2 : decide (xi < 0) = true := decide_eq_true hx1
            have HBAD : Hid (amtE n l xs = 2) := Lib.hid (amtE_bad HN0.out HLE.out HLT.out (by rw [HAB.out, e2]; rfl))
            clear hx1 HAB
            go_quiet (fail)
            go_wp2_with fail
            go_ret2
            exact ⟨.inl ⟨by rw [HBAD.out]; decide, by rw [HBAD.out]; rfl⟩, by first | exact pw_below_drewN HB3.out _ | (apply pw_below_drewN; exact HB3.out)⟩
          · have e2 : decide (xi < 0) = false := decide_eq_false hx1
            by_cases hx2 : (arcF l i).f2 < xi
            · have e3 : decide ((arcF l i).f2 < xi) = true := decide_eq_true hx2
              have HBAD : Hid (amtE n l xs = 2) := Lib.hid (amtE_bad HN0.out HLE.out HLT.out (by rw [HAB.out, e3, Bool.or_true]))
              clear hx1 hx2 HAB
              go_quiet (fail)
              go_wp2_with fail
              go_ret2
              exact ⟨.inl ⟨by rw [HBAD.out]; decide, by rw [HBAD.out]; rfl⟩, by first | exact pw_below_drewN HB3.out _ | (apply pw_below_drewN; exact HB3.out)⟩
            · have e3 : decide ((arcF l i).f2 < xi) = false := decide_eq_false hx2
              have HGD : Hid (amtB l xs i = false) := Lib.hid (by rw [HAB.out, e2, e3]; rfl)
              clear hx1 hx2 HAB
              go_quiet (fail)
              go_wp2_with fail
              go_roundg (l.length - (i + 1))
              case measure => have := HI.out; have := HLT.out; omega
              case rel => exact ⟨i + 1, by go_num, Lib.hid (by have := HI.out; have := HLT.out; omega), Lib.hid (fun j hj => by
                by_cases e : j = i
                · subst e; exact HGD.out
                · exact HA.out j (by omega)), Lib.hid (by first | exact pw_below_drewN HB3.out _ | (apply pw_below_drewN; exact HB3.out))⟩
        · have HE : Hid (amtE n l xs = 0) := Lib.hid (amtE_of HN0.out HLE.out fun j hj => by
            have := HA.out j (by omega)
            unfold amtB at this
            rw [decide_eq_false_iff_not] at this
            show 0 ≤ xs.getD j 0 ∧ xs.getD j 0 ≤ (arcF l j).f2
            omega)
          have HBLK := Lib.hid (Blk.new wv #[.int .i64 n, .slice A1 l.length c1, .slice A2 xs.length c2] 88)
          have hal := below_al HB.out (.cells #[.int .i64 n, .slice A1 l.length c1, .slice A2 xs.length c2] 88 (0, 0))
          have HBF := Lib.hid hal
          clear hal
          go_wp2_with fail
          go_ret2
          refine ⟨.inr ⟨HE.out, wv.heap.size, rfl, ?_⟩, HBF.out⟩
          refine ⟨by have hb := HBLK.out; unfold Blk at hb ⊢; rw [hb, HLE.out], arcs_of (Kd.C_below H1.out HBF.out), fun i h0 h1 => ?_⟩
          obtain ⟨ad, e, q⟩ := Kd.at_int (Kd.C_below H2.out HBF.out) i h0 (by have := HLE.out; omega)
          exact ⟨ad, e, q⟩
    · have e1 : ((xs.length : Int) != (l.length : Int)) = true := by simp; omega
      have HBAD : Hid (amtE n l xs = 2) := Lib.hid (amtE_len HN0.out hle)
      clear hle
      go_wp2_with fail
      go_ret2
      exact ⟨.inl ⟨by rw [HBAD.out]; decide, by rw [HBAD.out]; rfl⟩, HB1.out⟩
  · have e1 : (netE n l != 0) = true := by simp [h0]
    have HBAD : Hid (amtE n l xs = netE n l ∧ netE n l ≠ 0) := Lib.hid ⟨amtE_net h0, h0⟩
    clear h0
    go_wp2_with fail
    go_ret2
    exact ⟨.inl ⟨by rw [HBAD.out.1]; exact HBAD.out.2, by rw [HBAD.out.1]; rfl⟩, HB1.out⟩
def BalPost (n : Int) (l : List Ar) (xs : List Int) (w : World) (e : Ending) (w' : World) : Prop :=
  ((amtE n l xs ≠ 0 ∧ e = .returned (.tuple #[.slice none 0 0, .int .i64 (amtE n l xs)])) ∨
   (amtE n l xs = 0 ∧ ∃ b, e = .returned (.tuple #[.slice (some ⟨b, 0, none⟩) n.toNat n.toNat, .int .i64 0]) ∧ TI w' b n.toNat (fun v => balF l.length (arcF l) (xsF xs) v))) ∧ Below w.heap.size w w'
set_option maxRecDepth 100000 in
set_option maxHeartbeats 4000000 in
theorem balance2_any (w : World) (n : Int) (A1 : Option Addr) (c1 : Nat) (l : List Ar) (h1 : Kd.C k44 w A1 l.length l) (hc1 : l.length ≤ c1) (A2 : Option Addr) (c2 : Nat) (xs : List Int) (h2 : Kd.C (Kd.int .i64) w A2 xs.length xs) :
    Calls Try.prog 34 #[.int .i64 n, .slice A1 l.length c1, .slice A2 xs.length c2] w (BalPost n l xs w) := by
  have HC := Lib.hid (carried_any w n A1 c1 l h1 hc1 A2 c2 xs h2)
  clear h1 h2
  go_enter Try.func34, Try.ntmps34
  go_wp2_with fail
  refine HC.out.mono ?_
  rintro e w1 ⟨hpost, hb1⟩
  have HB1 := Lib.hid hb1
  clear HC hb1
  rcases hpost with ⟨h0, rfl⟩ | ⟨h0, g, rfl, hn⟩
  · have e1 : (amtE n l xs != 0) = true := by simp [h0]
    have H0 := Lib.hid h0
    clear h0
    generalize hae : amtE n l xs = ae at *
    have HAE := Lib.hid hae
    clear hae
    go_wp2_with fail
    go_ret2
    exact ⟨.inl ⟨by rw [HAE.out]; exact H0.out, by rw [HAE.out]; rfl⟩, HB1.out⟩
  · obtain ⟨g1, g2, g3⟩ := amtE_ok h0
    obtain ⟨k1, k2, k3, _⟩ := netE_range g1
    have hok := netE_ok g1
    obtain ⟨N, rfl⟩ : ∃ N : Nat, n = N := ⟨n.toNat, by omega⟩
    rw [Int.toNat_natCast] at hok
    have HBL := Lib.hid (balance_any w1 hn hok.net (by omega) (by omega) (fun i hi => ⟨(g3 i hi).1, Int.le_trans (g3 i hi).2 (hok.cap i hi).2⟩))
    have H0 := Lib.hid h0
    clear h0 g1 g2 g3 k1 k2 k3 hok hn
    go_wp2_with fail
    refine HBL.out.mono ?_
    rintro e w2 ⟨⟨rfl, ht⟩, hb2⟩
    have HT := Lib.hid ht
    have HB2 := Lib.hid (below_t HB1.out hb2)
    clear ht hb2 HBL
    go_wp2_with fail
    go_ret2
    exact ⟨.inr ⟨H0.out, w1.heap.size, by rw [Int.toNat_natCast]; rfl, by rw [Int.toNat_natCast]; exact HT.out⟩, HB2.out⟩
def PotsPost (n : Int) (l : List Ar) (xs : List Int) (w : World) (e : Ending) (w' : World) : Prop :=
  ((amtE n l xs ≠ 0 ∧ e = .returned (.tuple #[.slice none 0 0, .int .i64 (amtE n l xs)])) ∨
   (amtE n l xs = 0 ∧ ((∃ j b, j ≤ n.toNat ∧ FeasL (arcF l) (stepsF (arcF l) (xsF xs) l.length) (swpPs (arcF l) (stepsF (arcF l) (xsF xs) l.length) j) ∧ (∀ i, i < j → ¬ FeasL (arcF l) (stepsF (arcF l) (xsF xs) l.length) (swpPs (arcF l) (stepsF (arcF l) (xsF xs) l.length) i)) ∧
       e = .returned (.tuple #[.slice (some ⟨b, 0, none⟩) n.toNat n.toNat, .int .i64 0]) ∧ TI w' b n.toNat (fun v => swpPs (arcF l) (stepsF (arcF l) (xsF xs) l.length) j v)) ∨
     ((∀ i, i ≤ n.toNat → ¬ FeasL (arcF l) (stepsF (arcF l) (xsF xs) l.length) (swpPs (arcF l) (stepsF (arcF l) (xsF xs) l.length) i)) ∧ e = .returned (.tuple #[.slice none 0 0, .int .i64 13]))))) ∧ Below w.heap.size w w'
set_option maxRecDepth 100000 in
set_option maxHeartbeats 4000000 in
theorem pots_any (w : World) (n : Int) (A1 : Option Addr) (c1 : Nat) (l : List Ar) (h1 : Kd.C k44 w A1 l.length l) (hc1 : l.length ≤ c1) (A2 : Option Addr) (c2 : Nat) (xs : List Int) (h2 : Kd.C (Kd.int .i64) w A2 xs.length xs) :
    Calls Try.prog 35 #[.int .i64 n, .slice A1 l.length c1, .slice A2 xs.length c2] w (PotsPost n l xs w) := by
  have HC := Lib.hid (carried_any w n A1 c1 l h1 hc1 A2 c2 xs h2)
  clear h1 h2
  go_enter Try.func35, Try.ntmps35
  go_wp2_with fail
  refine HC.out.mono ?_
  rintro e w1 ⟨hpost, hb1⟩
  have HB1 := Lib.hid hb1
  clear HC hb1
  rcases hpost with ⟨h0, rfl⟩ | ⟨h0, g, rfl, hn⟩
  · have e1 : (amtE n l xs != 0) = true := by simp [h0]
    have H0 := Lib.hid h0
    clear h0
    generalize hae : amtE n l xs = ae at *
    have HAE := Lib.hid hae
    clear hae
    go_wp2_with fail
    go_ret2
    exact ⟨.inl ⟨by rw [HAE.out]; exact H0.out, by rw [HAE.out]; rfl⟩, HB1.out⟩
  · obtain ⟨g1, g2, g3⟩ := amtE_ok h0
    obtain ⟨k1, k2, k3, _⟩ := netE_range g1
    have hok := netE_ok g1
    obtain ⟨N, rfl⟩ : ∃ N : Nat, n = N := ⟨n.toNat, by omega⟩
    rw [Int.toNat_natCast] at hok
    have HPL := Lib.hid (potentials_any w1 hn hok g3)
    have H0 := Lib.hid h0
    clear h0 g1 g2 g3 k1 k2 k3 hok hn
    go_wp2_with fail
    refine HPL.out.mono ?_
    rintro e w2 ⟨hpost, hb2⟩
    have HB2 := Lib.hid (below_t HB1.out hb2)
    clear hb2 HPL
    rcases hpost with ⟨j, hj, hfe, hno, rfl, ht⟩ | ⟨hno, rfl⟩
    · have HFIN : Hid (_ ∧ _ ∧ _ ∧ _) := Lib.hid ⟨hj, hfe, hno, ht⟩
      clear hj hfe hno ht
      go_wp2_with fail
      go_ret2
      exact ⟨.inr ⟨H0.out, .inl ⟨j, w1.heap.size, by rw [Int.toNat_natCast]; exact HFIN.out.1, HFIN.out.2.1, HFIN.out.2.2.1, by rw [Int.toNat_natCast]; rfl, by rw [Int.toNat_natCast]; exact HFIN.out.2.2.2⟩⟩, HB2.out⟩
    · have HNO := Lib.hid hno
      clear hno
      go_wp2_with fail
      go_ret2
      exact ⟨.inr ⟨H0.out, .inr ⟨by rw [Int.toNat_natCast]; exact HNO.out, rfl⟩⟩, HB2.out⟩
end Go.Proofs.Ytpbndcmmclkdpaa
