/-
  FlowBlocks: Block answers as the reference's Block does.
-/
import Derived.Test.YtpbndcmmclkdpaaVb
namespace Go.Proofs.Ytpbndcmmclkdpaa
open PFlowSolves
open Go.RowKit Go.Proofs.YtpbndcmmclkdpaaW.PrintWords
/-- What Block and the reference answer: the same numbers. -/
theorem BlockPost.pair {n : Int} {l : List Ar} {xs : List Int} {w w1 w2 w3 : World} {e e2 : Ending} (h : BlockPost n l xs w e w1) (k : BlockPost n l xs w2 e2 w3) (hb : Below w1.heap.size w1 w3) :
    ∃ (zs : List Int) (er : Int) (A B : Option Addr) (c d : Nat), e = .returned (.tuple #[.slice A zs.length c, .int .i64 er]) ∧ e2 = .returned (.tuple #[.slice B zs.length d, .int .i64 er]) ∧ zs.length ≤ 100000 ∧
      Kd.C (Kd.int .i64) w3 A zs.length zs ∧ Kd.C (Kd.int .i64) w3 B zs.length zs := by
  rcases h.1 with ⟨h0, rfl⟩ | ⟨h0, v, R, rfl, hR, hI⟩
  · rcases k.1 with ⟨_, rfl⟩ | ⟨h1, _⟩
    · exact ⟨[], _, none, none, 0, 0, rfl, rfl, by simp, Kd.C_nil _ _, Kd.C_nil _ _⟩
    · exact absurd h1 h0
  · rcases k.1 with ⟨h1, _⟩ | ⟨_, v2, R2, rfl, hR2, hI2⟩
    · exact absurd h0 h1
    · obtain ⟨A, c, rfl, _, hA⟩ := Kd.R_reads hR
      obtain ⟨B, d, rfl, _, hB⟩ := Kd.R_reads hR2
      have e : setL R n.toNat = setL R2 n.toNat := setL_congr (hI.unique hI2)
      rw [← e] at hB ⊢
      obtain ⟨g1, _⟩ := needE_ok h0
      obtain ⟨_, k2, _⟩ := netE_range g1
      exact ⟨_, 0, A, B, c, d, rfl, rfl, by have := setL_len R n.toNat; omega, Kd.C_below hA hb, hB⟩
set_option maxRecDepth 100000 in
set_option maxHeartbeats 8000000 in
theorem blocks_law {n : Int} (_ : (Lit.int .i64 n).wf = true) (A1 : Option Addr) (c1 : Nat) (l : List Ar) (hc1 : l.length ≤ c1) (_ : c1 ≤ 9223372036854775807) {w : World} (h1 : Kd.C k44 w A1 l.length l) (_ : ∀ a ∈ l, (Lit.int .i64 a.f0).wf = true ∧ (Lit.int .i64 a.f1).wf = true ∧ (Lit.int .i64 a.f2).wf = true ∧ (Lit.int .i64 a.f3).wf = true)
    (A2 : Option Addr) (c2 : Nat) (xs : List Int) (hc2 : xs.length ≤ c2) (_ : c2 ≤ 9223372036854775807) (h2 : Kd.C (Kd.int .i64) w A2 xs.length xs) (_ : ∀ a ∈ xs, (Lit.int .i64 a).wf = true) :
    Calls Try.prog 4 #[.int .i64 n, .slice A1 l.length c1, .slice A2 xs.length c2] w fun e w' => e = .returned (.bool true) ∧ Below w.heap.size w w' := by
  have HFEW := Lib.hid (few_any w A1 c1 l h1 hc1 A2 c2 xs h2 hc2)
  have HAL := Lib.hid (fun W => alive_any W)
  have H1 := Lib.hid h1
  have H2 := Lib.hid h2
  clear h1 h2
  go_enter Try.func4, Try.ntmps4
  go_wp2_with fail
  refine HFEW.out.mono ?_
  rintro e w1 ⟨rfl, hb1⟩
  have HB1 := Lib.hid hb1
  clear hb1 HFEW
  cases hf : fewB l xs with
  | false =>
    clear hf
    go_wp2_with fail
    refine (HAL.out w1).mono ?_
    rintro e w2 ⟨rfl, hb2⟩
    have HB2 := Lib.hid (below_t HB1.out hb2)
    clear hb2
    go_wp2_with fail
    go_ret
    exact ⟨rfl, HB2.out⟩
  | true =>
    have HFE := Lib.hid (fewB_iff.1 hf)
    have HPA := Lib.hid (paths_any w1 A1 c1 l (Kd.C_below H1.out HB1.out) hc1 HFE.out.1)
    clear hf
    go_wp2_with fail
    refine HPA.out.mono ?_
    rintro e w2 ⟨⟨B1, d1, b1, rfl, hd1, hC1, _⟩, hb2⟩
    have hB2 := below_t HB1.out hb2
    have HCX := Lib.hid (copied_any w2 A2 c2 xs (Kd.C_below H2.out hB2) hc2 HFE.out.2)
    have HB2 := Lib.hid hB2
    have HK1 := Lib.hid hC1
    clear hb2 hB2 hC1 HPA
    go_wp2_with fail
    refine HCX.out.mono ?_
    rintro e w3 ⟨B2, d2, ⟨rfl, hd2, hC2⟩, hb3⟩
    have HB3 := Lib.hid (below_t HB2.out hb3)
    have HK1 := Lib.hid (Kd.C_below HK1.out hb3)
    have HK2 := Lib.hid hC2
    have HBK := Lib.hid (block_any w3 n B1 d1 l HK1.out hd1 B2 d2 xs HK2.out hd2)
    clear hb3 hC2 HCX
    go_wp2_with fail
    refine HBK.out.mono ?_
    rintro e w4 hp4
    have HB34 := Lib.hid hp4.2
    have HB4 := Lib.hid (below_t HB3.out hp4.2)
    have HRK := Lib.hid (rblock_any w4 n A1 c1 l (Kd.C_below H1.out HB4.out) hc1 A2 c2 xs (Kd.C_below H2.out HB4.out) hc2)
    have HP4 := Lib.hid hp4
    have hform : ∃ v er, e = .returned (.tuple #[v, .int .i64 er]) := by
      rcases hp4.1 with ⟨_, rfl⟩ | ⟨_, v, R, rfl, _⟩
      · exact ⟨_, _, rfl⟩
      · exact ⟨_, _, rfl⟩
    obtain ⟨v4, er4, rfl⟩ := hform
    clear hp4 HBK
    go_wp2_with fail
    refine HRK.out.mono ?_
    rintro e w5 hp5
    obtain ⟨zs, er, A, B, c, d, e4, rfl, hz, hA, hB⟩ := HP4.out.pair hp5 hp5.2
    injection e4 with e4
    injection e4 with e4
    have e7 : [v4, Value.int .i64 er4] = [.slice A zs.length c, .int .i64 er] := congrArg Array.toList e4
    injection e7 with e5 e8
    injection e8 with e6 _
    injection e6 with _ e6
    subst e5 e6
    have HB45 := Lib.hid (below_t HB34.out hp5.2)
    have HB5 := Lib.hid (below_t HB3.out HB45.out)
    have HSM := Lib.hid (same_yes w5 A c B d zs hA hB hz)
    have HKE := Lib.hid (fun (W : World) (hW : Below w3.heap.size w3 W) => kept_yes W B1 d1 A1 c1 l (Kd.C_below HK1.out hW) hd1 (Kd.C_below H1.out (below_t HB3.out hW)) hc1 HFE.out.1)
    have HSX := Lib.hid (fun (W : World) (hW : Below w3.heap.size w3 W) => same_yes W B2 d2 A2 c2 xs (Kd.C_below HK2.out hW) (Kd.C_below H2.out (below_t HB3.out hW)) (by have := HFE.out; omega))
    clear hp5 e4 hz hA hB HRK HP4
    go_wp2_with fail
    refine HSM.out.mono ?_
    rintro e w6 ⟨rfl, hb6⟩
    have HB6 := Lib.hid (below_t HB45.out hb6)
    have H6 := Lib.hid (HKE.out w6 HB6.out)
    clear hb6 HSM
    go_wp2_with fail
    refine H6.out.mono ?_
    rintro e w7 ⟨rfl, hb7⟩
    have HB7 := Lib.hid (below_t HB6.out hb7)
    have H7 := Lib.hid (HSX.out w7 HB7.out)
    clear hb7 H6
    go_wp2_with fail
    refine H7.out.mono ?_
    rintro e w8 ⟨rfl, hb8⟩
    have HB8 := Lib.hid (below_t HB7.out hb8)
    clear hb8 H7
    go_wp2_with fail
    refine (HAL.out w8).mono ?_
    rintro e w9 ⟨rfl, hb9⟩
    have HB9 := Lib.hid (below_t HB3.out (below_t HB8.out hb9))
    clear hb9
    go_wp2_with fail
    go_ret
    exact ⟨rfl, HB9.out⟩
end Go.Proofs.Ytpbndcmmclkdpaa
