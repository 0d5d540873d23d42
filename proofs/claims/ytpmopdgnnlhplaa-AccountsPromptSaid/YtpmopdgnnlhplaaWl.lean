/-
  The walks of the laws AccountsWorking and AccountsPrompt.
-/
import Derived.Test.YtpmopdgnnlhplaaWr
import Derived.Test.YtpmopdgnnlhplaaAl
import Derived.Test.YtpmopdgnnlhplaaRk
namespace Go.Proofs.Ytpmopdgnnlhplaa
open Go.RowKit Go.Proofs.YtpmopdgnnlhplaaW.PrintWords
open PAccountsWorking
theorem copied_any (A : Option Addr) (c : Nat) (l : List Int) (w : World) (hC : Kd.C kI w A l.length l) (hle : l.length ≤ c) (hl : l.length ≤ 1000) :
    Calls Try.prog 39 #[.slice A l.length c] w fun e w' => (∃ A' c', e = .returned (.slice A' l.length c') ∧ l.length ≤ c' ∧ Kd.C kI w' A' l.length l) ∧ Below w.heap.size w w' :=
  (merinolaw07_copied.calls _ A c l l w hC hle (copied_f l hl)).mono fun e w' ⟨v, h1, h2, h3⟩ => by
    obtain ⟨A', c', rfl, h4, h5⟩ := Kd.R_reads h2
    exact ⟨⟨A', c', h1, h4, h5⟩, h3⟩
set_option maxRecDepth 100000 in
set_option maxHeartbeats 4000000 in
theorem working_walk (d n : Int) (A : Option Addr) (c : Nat) (l : List Int) (hle : l.length ≤ c) (w : World) (hC : Kd.C kI w A l.length l) :
    Calls Try.prog 12 #[.int .i64 d, .int .i64 n, .slice A l.length c] w fun e w' => e = .returned (.bool true) ∧ Below w.heap.size w w' := by
  by_cases hl : 100 < (l.length : Int)
  · go_enter Try.func12, Try.ntmps12
    go_wp2_with fail
    refine (alive_any _).mono ?_
    rintro e w6 ⟨rfl, hb⟩
    go_wp2_with fail
    go_ret
    exact ⟨rfl, hb⟩
  have hl' : l.length ≤ 1000 := by omega
  go_enter Try.func12, Try.ntmps12
  go_wp2_with fail
  refine (copied_any A c l _ hC hle hl').mono ?_
  rintro e w1 ⟨⟨A1, c1, rfl, hle1, hC1⟩, hb1⟩
  have hC0 := Kd.C_below hC hb1
  clear hC
  go_wp2_with fail
  refine (Working_any d _ A1 c1 l hC1).mono ?_
  rintro e w2 ⟨rfl, rfl⟩
  go_wp2_with fail
  refine (merinoref07_Working.calls _ d A c l _ _ _ hC0 hle (RWorking_f d l hl')).mono ?_
  rintro e w2 ⟨rfl, hd2⟩
  have hb2 := hd2.below
  have hb3 := below_t hb1 hb2
  have hC2 := Kd.C_below hC0 hb2
  have hC3 := Kd.C_below hC1 hb2
  clear hd2 hb1 hb2 hC0 hC1
  go_wp2_with fail
  refine (Prompt_any d n _ A1 c1 l hC3).mono ?_
  rintro e w3 ⟨rfl, rfl⟩
  go_wp2_with fail
  refine (merinoref07_Prompt.calls _ d n A c l (promptR d n l).1 (promptR d n l).2 _ hC2 hle (RPrompt_f d n l hl' 2001200 (Nat.le_refl _))).mono ?_
  rintro e w3 ⟨rfl, hd4⟩
  have hb4 := hd4.below
  have hb5 := below_t hb3 hb4
  have hC4 := Kd.C_below hC2 hb4
  have hC5 := Kd.C_below hC3 hb4
  clear hb3 hb4 hC2 hC3
  generalize hErr d l = E1
  generalize promptR d n l = E3
  generalize workB d l = E4
  generalize (decide (E1 = 0) && E4) = E5
  obtain ⟨E6, E7⟩ := E3
  go_wp2_with fail
  refine (merinolaw07_same.calls _ A1 c1 l A c l true _ hC5 hle1 hC4 hle (same_f l hl')).mono ?_
  rintro e w4 ⟨rfl, hd6⟩
  have hb7 := below_t hb5 hd6.below
  go_wp2_with fail
  refine (alive_any _).mono ?_
  rintro e w6 ⟨rfl, hb⟩
  have hb8 := below_t hb7 hb
  go_wp2_with fail
  go_ret
  exact ⟨rfl, hb8⟩
set_option maxRecDepth 100000 in
set_option maxHeartbeats 4000000 in
theorem prompt_walk (d m n : Int) (A : Option Addr) (c : Nat) (l : List Int) (_ : l.length ≤ c) (w : World) (hC : Kd.C kI w A l.length l) :
    Calls Try.prog 13 #[.int .i64 d, .int .i64 m, .int .i64 n, .slice A l.length c] w fun e w' => e = .returned (.bool true) ∧ Below w.heap.size w w' := by
  by_cases hl : 100 < (l.length : Int)
  · go_enter Try.func13, Try.ntmps13
    go_wp2_with fail
    refine (alive_any _).mono ?_
    rintro e w6 ⟨rfl, hb⟩
    go_wp2_with fail
    go_ret
    exact ⟨rfl, hb⟩
  have P1 := Lib.hid (Prompt_any d m w A c l hC)
  have HE := Lib.hid (promptR_err (d := d) (n := m) (l := l))
  have HO := Lib.hid (fun a (h : promptR d m l = (a, 0)) => promptR_ok h)
  have HA := Lib.hid (fun a (h : promptR d m l = (a, 0)) (h1 : 1 ≤ n) (h2 : n ≤ 366 - m) => promptR_add h h1 h2)
  generalize promptR d m l = X at *
  obtain ⟨a, e⟩ := X
  go_enter Try.func13, Try.ntmps13
  go_wp2_with fail
  refine P1.out.mono ?_
  rintro e1 w1 ⟨rfl, rfl⟩
  by_cases he : e = 0
  · subst he
    obtain ⟨h0, h1, h2, -, h4, h5, h6, h7, h8⟩ := HO.out a rfl
    have hw := Working_any a w A c l hC
    rw [h7, h8] at hw
    have HW := Lib.hid hw
    clear hw HO HE P1 h7 h8
    have hd : ¬ a ≤ d := by omega
    go_wp2_with fail
    refine HW.out.mono ?_
    rintro e1 w1 ⟨rfl, rfl⟩
    go_wp2_with fail
    refine (Prompt_any a n _ A c l hC).mono ?_
    rintro e1 w1 ⟨rfl, rfl⟩
    have hw1 : IntKind.i64.wrap (366 - m) = 366 - m := IntWalk.i64_in _ (by omega)
    by_cases hn : n < 1
    · clear HA
      go_wp2_with fail
      refine (alive_any _).mono ?_
      rintro e w6 ⟨rfl, hb⟩
      go_wp2_with fail
      go_ret
      exact ⟨rfl, hb⟩
    by_cases hm : 366 - m < n
    · clear HA
      go_wp2_with fail
      refine (alive_any _).mono ?_
      rintro e w6 ⟨rfl, hb⟩
      go_wp2_with fail
      go_ret
      exact ⟨rfl, hb⟩
    have hw2 : IntKind.i64.wrap (m + n) = m + n := IntWalk.i64_in _ (by omega)
    have HQ := Lib.hid (Prompt_any d (m + n) w A c l hC)
    have hadd : promptR a n l = promptR d (m + n) l := HA.out a rfl (by omega) (by omega)
    rw [← hadd] at HQ
    have HK := Lib.hid (fun b (h : promptR a n l = (b, 0)) => promptR_ok h)
    clear hadd HA
    generalize promptR a n l = Y at *
    obtain ⟨b, g⟩ := Y
    go_wp2_with fail
    refine HQ.out.mono ?_
    rintro e1 w1 ⟨rfl, rfl⟩
    by_cases hg : g = 0
    · subst hg
      obtain ⟨-, -, -, -, -, k5, -⟩ := HK.out b rfl
      clear HK HQ
      go_wp2_with fail
      refine (alive_any _).mono ?_
      rintro e w6 ⟨rfl, hb⟩
      go_wp2_with fail
      go_ret
      exact ⟨rfl, hb⟩
    · have hg1 : (g != 0) = true := by simpa using hg
      clear HK HQ hg
      go_wp2_with fail
      refine (alive_any _).mono ?_
      rintro e w6 ⟨rfl, hb⟩
      go_wp2_with fail
      go_ret
      exact ⟨rfl, hb⟩
  · obtain rfl : a = 0 := HE.out he
    have he1 : (e != 0) = true := by simpa using he
    clear he HE HO HA P1
    go_wp2_with fail
    refine (alive_any _).mono ?_
    rintro e w6 ⟨rfl, hb⟩
    go_wp2_with fail
    go_ret
    exact ⟨rfl, hb⟩
theorem opnI : Opn kI 3 (fun _ => True) := fun enc w base spare held fuel cs x h => by
  obtain ⟨a, hK, _⟩ := (Opn.int Try.underlying3) enc w base spare held fuel cs x h
  exact ⟨a, hK, trivial⟩
theorem working_law {d : Int} (_ : (Lit.int .i64 d).wf = true) {n : Int} (_ : (Lit.int .i64 n).wf = true) (A : Option Addr) (c : Nat) (l : List Int) (hle : l.length ≤ c) (_ : c ≤ 9223372036854775807) {w : World} (hC : Kd.C kI w A l.length l)
    (_ : ∀ x ∈ l, True) : Calls Try.prog 12 #[.int .i64 d, .int .i64 n, .slice A l.length c] w fun e w1 => e = .returned (.bool true) ∧ Below w.heap.size w w1 := working_walk d n A c l hle w hC
theorem prompt_law {d : Int} (_ : (Lit.int .i64 d).wf = true) {m : Int} (_ : (Lit.int .i64 m).wf = true) {n : Int} (_ : (Lit.int .i64 n).wf = true) (A : Option Addr) (c : Nat) (l : List Int) (hle : l.length ≤ c) (_ : c ≤ 9223372036854775807) {w : World} (hC : Kd.C kI w A l.length l)
    (_ : ∀ x ∈ l, True) : Calls Try.prog 13 #[.int .i64 d, .int .i64 m, .int .i64 n, .slice A l.length c] w fun e w1 => e = .returned (.bool true) ∧ Below w.heap.size w w1 := prompt_walk d m n A c l hle w hC
end Go.Proofs.Ytpmopdgnnlhplaa
