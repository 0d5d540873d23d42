/-
  The walk of Verify.
-/
import Derived.Test.YtpmopdgnnlhplaaVe
import Derived.Test.YtpmopdgnnlhplaaOe
import Derived.Deep.RegionLaw
import Derived.Deep.DeepCutAuto
namespace Go.Proofs.Ytpmopdgnnlhplaa
open Go.RowKit Go.Proofs.YtpmopdgnnlhplaaW.PrintWords
def verC : Int → Nat → List Rc → Nat
  | _, i, [] => i
  | b, i, r :: rest => if r.no = i + 1 ∧ r.sum = dig b r.no r.day r.rev r.ps then verC r.sum (i + 1) rest else i
def SumOk (r : Rc) : Prop := 0 ≤ r.sum ∧ r.sum < 18446744073709551616 ∧ ∀ p ∈ r.ps, p.a.size ≤ 9223372036854775807
set_option maxRecDepth 100000 in
set_option maxHeartbeats 4000000 in
theorem Verify_any {w : World} (A : Option Addr) (c : Nat) (l : List Rc) (hC : Kd.C kRc w A l.length l) (hs : ∀ r ∈ l, SumOk r) :
    Calls Try.prog 19 #[.slice A l.length c] w fun e w' => e = .returned (.int .i64 (verC 0 0 l)) ∧ Below w.heap.size w w' := by
  have hlm := hC.2.1
  go_enter Try.func19, Try.ntmps19
  go_wp2_with fail
  go_loopw [3, 4, 5, 8] (fun s3 _ _ s8 wr => ∃ (k : Nat) (b : Int), k ≤ l.length ∧ s8 = .int .i64 k ∧ s3 = .int .u64 b ∧ 0 ≤ b ∧ b < 18446744073709551616 ∧ verC b k (l.drop k) = verC 0 0 l ∧ Below w.heap.size w wr) (fun _ _ _ s8 _ => l.length - (intOf s8).toNat)
  case atStart => exact ⟨0, 0, Nat.zero_le _, rfl, rfl, by decide, by decide, rfl, Below.refl _ _⟩
  case round =>
    obtain ⟨k, b, hk, rfl, rfl, hb0, hb1, hv, hb⟩ := hrel
    by_cases hlt : k < l.length
    · obtain ⟨x, hx⟩ : ∃ x, l[k]? = some x := ⟨_, List.getElem?_eq_getElem hlt⟩
      obtain ⟨ad, A2, c2, rfl, p0, p1, p2, p3, p4, hle2, hC2⟩ := at_Rc (Kd.C_below hC hb) hx
      obtain ⟨s0, s1, s2⟩ := hs x (List.mem_of_getElem? hx)
      have hdk : l.drop k = x :: l.drop (k + 1) := by
        rw [List.getElem?_eq_getElem hlt, Option.some.injEq] at hx
        rw [List.drop_eq_getElem_cons hlt, hx]
      rw [hdk] at hv
      simp only [verC] at hv
      have HV := Lib.hid hv
      have HX := Lib.hid hx
      clear hv hx hdk
      have hw1 : IntKind.i64.wrap ((k : Int) + 1) = (k : Int) + 1 := IntWalk.i64_in _ (by omega)
      have hfl := fld34_4
      have hB := Blk.new wr #[.int .i64 x.no, .int .i64 x.day, .slice A2 x.ps.length c2, .int .i64 x.rev, .int .u64 x.sum] 34
      have hb2 := hb.alloc hb.size (.cells #[.int .i64 x.no, .int .i64 x.day, .slice A2 x.ps.length c2, .int .i64 x.rev, .int .u64 x.sum] 34)
      have hC3 := Kd.C_below hC2 ((Below.refl _ _).alloc (Nat.le_refl _) (.cells #[.int .i64 x.no, .int .i64 x.day, .slice A2 x.ps.length c2, .int .i64 x.rev, .int .u64 x.sum] 34))
      go_upto_region 5 with fail
      have hgl : wr.heap.size < (wr.alloc (.cells #[.int .i64 x.no, .int .i64 x.day, .slice A2 x.ps.length c2, .int .i64 x.rev, .int .u64 x.sum] 34)).heap.size := hB.lt
      generalize wr.alloc (.cells #[.int .i64 x.no, .int .i64 x.day, .slice A2 x.ps.length c2, .int .i64 x.rev, .int .u64 x.sum] 34) = w2 at *
      generalize wr.heap.size = g at *
      have b0 := hB.cell 0 (v := .int .i64 x.no) rfl
      have b1 := hB.cell 1 (v := .int .i64 x.day) rfl
      have b2 := hB.cell 2 (v := .slice A2 x.ps.length c2) rfl
      have b3 := hB.cell 3 (v := .int .i64 x.rev) rfl
      have b4 := hB.cell 4 (v := .int .u64 x.sum) rfl
      by_cases hn : (x.no != (k : Int) + 1) = true
      · have hv : verC 0 0 l = k := by
          have := HV.out
          rw [if_neg (fun h => by simp [h.1] at hn)] at this
          exact this.symm
        clear HV
        go_quiet (fail)
        go_wp2_with fail
        go_ret
        exact ⟨by rw [hv]; rfl, pw_below_drewN hb2 _⟩
      · have hn' : (x.no != (k : Int) + 1) = false := by simpa using hn
        have hne : x.no = (k : Int) + 1 := by simpa using hn
        have HN := Lib.hid hne
        clear hn hne
        go_upto_region 5 with fail
        go_cut [25] (fun s25 wx => s25 = .bool (x.sum != dig b x.no x.day x.rev x.ps) ∧ wx.cell? ⟨g, 4, none⟩ = some (.int .u64 x.sum) ∧ Below w.heap.size w wx)
        case first =>
          go_region_law (first
            | (go_simp; go_at_call 50; refine (digest_any _ b x.no x.day x.rev x.sum A2 c2 x.ps hb0 hb1 (Kd.C_below (w := w2) hC3 ((Below.refl _ w2).drew)) s2).mono ?_; rintro e w7 ⟨rfl, hb7⟩; have c7 := (hb7.cell (p := ⟨g, 4, none⟩) hgl).trans b4))
          all_goals
            go_wp2_with fail
            go_meet
            exact ⟨rfl, c7, hb2.trans (((Below.refl _ w2).drew.trans hb7).mono hb2.size)⟩
        case rest =>
          obtain ⟨rfl, c4, hb3⟩ := hcut
          by_cases hd : (x.sum != dig b x.no x.day x.rev x.ps) = true
          · have hv : verC 0 0 l = k := by
              have := HV.out
              rw [if_neg (fun h => by rw [h.2] at hd; simp at hd)] at this
              exact this.symm
            clear HV
            go_wp2_with fail
            go_ret
            exact ⟨by rw [hv]; rfl, hb3⟩
          · have hd' : (x.sum != dig b x.no x.day x.rev x.ps) = false := by simpa using hd
            have hde : x.sum = dig b x.no x.day x.rev x.ps := by simpa using hd
            have hv : verC x.sum (k + 1) (l.drop (k + 1)) = verC 0 0 l := by
              have := HV.out
              rw [if_pos ⟨HN.out, hde⟩] at this
              exact this
            have HV2 := Lib.hid hv
            clear HV hv hd hde
            go_wp2_with fail
            go_roundw
            case rel => exact ⟨k + 1, x.sum, by omega, by go_num, rfl, s0, s1, HV2.out, hb3⟩
            case measure => simp [intOf]; omega
    · have hd : l.drop k = [] := List.drop_of_length_le (by omega)
      rw [hd] at hv
      have hv' : verC 0 0 l = l.length := by rw [← hv]; show k = _; omega
      go_wp2_with fail
      go_ret
      exact ⟨by rw [hv']; rfl, hb⟩
end Go.Proofs.Ytpmopdgnnlhplaa
