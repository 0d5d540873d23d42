/-
  The walk of the law AccountsGrows.
-/
import Derived.Test.YtpmopdgnnlhplaaCh
import Derived.Test.YtpmopdgnnlhplaaAl
import Derived.Test.YtpmopdgnnlhplaaRk
namespace Go.Proofs.Ytpmopdgnnlhplaa
open Go.RowKit Go.Proofs.YtpmopdgnnlhplaaW.PrintWords
open PAccountsDates (S28 k28)
theorem opnS28 : Opn k28 28 (fun _ => True) := fun enc w base spare held fuel cs x h => by
  obtain ⟨a, hK, _⟩ := opn28 enc w base spare held fuel cs x h
  obtain rfl := kBd_open hK
  exact ⟨⟨a.up, a.rate⟩, PAccountsDates.k28_mk w ⟨a.up, a.rate⟩, trivial⟩
theorem Charge_any (a : Int) (A : Option Addr) (c : Nat) (l : List S28) (w : World) (hC : Kd.C k28 w A l.length l) (hle : l.length ≤ c) :
    Calls Try.prog 18 #[.int .i64 a, .slice A l.length c] w fun e w' => e = .returned (.tuple #[.int .i64 (chargeR a l).1, .int .i64 (chargeR a l).2]) ∧ Below w.heap.size w w' :=
  PAccountsDates.accounts_Charge.calls _ _ _ _ _ _ _ w hC hle (charge_f a l)
set_option maxRecDepth 100000 in
set_option maxHeartbeats 4000000 in
theorem grows_walk (a b : Int) (A : Option Addr) (c : Nat) (l : List S28) (hle : l.length ≤ c) (w : World) (hC : Kd.C k28 w A l.length l) :
    Calls Try.prog 3 #[.int .i64 a, .int .i64 b, .slice A l.length c] w fun e w' => e = .returned (.bool true) ∧ Below w.heap.size w w' := by
  have hu := Try.underlying28
  by_cases hl : 30 < (l.length : Int)
  · go_enter Try.func3, Try.ntmps3
    go_wp2_with fail
    refine (alive_any _).mono ?_
    rintro e w6 ⟨rfl, hb⟩
    go_wp2_with fail
    go_ret
    exact ⟨rfl, hb⟩
  have H1 := Lib.hid (Charge_any a A c l)
  have H2 := Lib.hid (Charge_any b A c l)
  have H3 := Lib.hid (Charge_any (a + b) A c l)
  have G1 := Lib.hid (grows_one (a := a) (l := l))
  have G2 := Lib.hid (grows_one (a := b) (l := l))
  have G3 := Lib.hid (grows_two (a := a) (b := b) (l := l))
  have G4 := Lib.hid (grows_two (a := b) (b := a) (l := l))
  have E1 := Lib.hid (chargeR_err (a := a) (l := l))
  have E2 := Lib.hid (chargeR_err (a := b) (l := l))
  have B1 := Lib.hid (chargeR_ok (a := a) (l := l))
  have B2 := Lib.hid (chargeR_ok (a := b) (l := l))
  have G5 := Lib.hid (fun (x : S28) (r : List S28) (h : l = x :: r) (ha : (chargeR a l).2 = 0) (hb : (chargeR b l).2 = 0) (hab : a + b ≤ x.f0) => (show (chargeR (a + b) l).2 = 0 ∧ (chargeR a l).1 + (chargeR b l).1 - 1 ≤ (chargeR (a + b) l).1 ∧ (chargeR (a + b) l).1 ≤ (chargeR a l).1 + (chargeR b l).1 + 1 by subst h; exact grows_add ha hb hab))
  generalize chargeR (a + b) l = Z at *
  generalize chargeR a l = X at *
  generalize chargeR b l = Y at *
  obtain ⟨x, ex⟩ := X
  obtain ⟨y, ey⟩ := Y
  obtain ⟨z, ez⟩ := Z
  go_enter Try.func3, Try.ntmps3
  go_wp2_with fail
  refine (H1.out w hC hle).mono ?_
  rintro e w1 ⟨rfl, hb1⟩
  have hC1 := Kd.C_below hC hb1
  clear H1
  go_wp2_with fail
  refine (H2.out w1 hC1 hle).mono ?_
  rintro e w2 ⟨rfl, hb2⟩
  have hC2 := Kd.C_below hC1 hb2
  have hb3 := below_t hb1 hb2
  clear H2 hb1 hb2 hC1
  by_cases he : ex = 0
  · subst he
    by_cases hf : ey = 0
    · subst hf
      obtain ⟨x0, x1⟩ : 0 ≤ x ∧ x ≤ a := G1.out rfl
      obtain ⟨y0, y1⟩ : 0 ≤ y ∧ y ≤ b := G2.out rfl
      obtain ⟨a0, a1, -⟩ := B1.out rfl
      obtain ⟨b0, b1, -⟩ := B2.out rfl
      have g3 : a ≤ b → x ≤ y := G3.out rfl rfl
      have g4 : b ≤ a → y ≤ x := G4.out rfl rfl
      clear E1 E2 B1 B2 G1 G2 G3 G4
      have n1 : ¬ x < 0 := by omega
      have n2 : ¬ y < 0 := by omega
      have n3 : ¬ a < x := by omega
      have n4 : ¬ b < y := by omega
      have hw1 : IntKind.i64.wrap (a + b) = a + b := IntWalk.i64_in _ (by omega)
      have hw2 : IntKind.i64.wrap (x + y) = x + y := IntWalk.i64_in _ (by omega)
      have hw3 : IntKind.i64.wrap (x + y - 1) = x + y - 1 := IntWalk.i64_in _ (by omega)
      have hw4 : IntKind.i64.wrap (x + y + 1) = x + y + 1 := IntWalk.i64_in _ (by omega)
      have hcase : (a ≤ b ∧ b ≤ a ∧ ¬ y < x ∧ ¬ x < y) ∨ (a ≤ b ∧ ¬ b ≤ a ∧ ¬ y < x ∧ True) ∨ (¬ a ≤ b ∧ b ≤ a ∧ True ∧ ¬ x < y) := by
        by_cases k1 : a ≤ b <;> by_cases k2 : b ≤ a <;> simp [k1, k2] <;> (try have := g3 k1) <;> (try have := g4 k2) <;> omega
      clear g3 g4
      by_cases hl0 : l.length = 0
      · have hz : ((l.length : Int) == 0) = true := by simp [hl0]
        clear hl0 G5 H3
        rcases hcase with ⟨k1, k2, k3, k4⟩ | ⟨k1, k2, k3, -⟩ | ⟨k1, k2, -, k3⟩
        all_goals
          go_wp2_with fail
          refine (alive_any _).mono ?_
          rintro e w6 ⟨rfl, hb⟩
          have hb4 := below_t hb3 hb
          go_wp2_with fail
          go_ret
          exact ⟨rfl, hb4⟩
      · obtain ⟨s, r, hs⟩ : ∃ s r, l = s :: r := by cases l with
          | nil => exact absurd rfl hl0
          | cons s r => exact ⟨s, r, rfl⟩
        have G6 := Lib.hid (G5.out s r hs rfl rfl)
        obtain ⟨ad, rfl, hcell⟩ : ∃ ad, A = some ad ∧ w2.cell? ad = some (.int .i64 s.f0) := by
          obtain ⟨ad, e, hc⟩ := hC2.2.2 (by omega)
          obtain ⟨cs, h1, h2, h3⟩ := hc 0 s (by rw [hs]; rfl)
          obtain rfl := PAccountsDates.k28_open h2
          exact ⟨ad, e, by simpa [Addr.add] using h3 0 _ rfl⟩
        have hz : ((l.length : Int) == 0) = false := by simpa using hl0
        have hpos : 0 < l.length := by omega
        have HS := Lib.hid hs
        clear G5 hs hl0
        by_cases hs0 : s.f0 < a + b
        · clear H3
          rcases hcase with ⟨k1, k2, k3, k4⟩ | ⟨k1, k2, k3, -⟩ | ⟨k1, k2, -, k3⟩
          all_goals
            go_wp2_with fail
            refine (alive_any _).mono ?_
            rintro e w6 ⟨rfl, hb⟩
            have hb4 := below_t hb3 hb
            go_wp2_with fail
            go_ret
            exact ⟨rfl, hb4⟩
        · obtain ⟨rfl, z0, z1⟩ := G6.out (by omega)
          have hz0 : ¬ z < x + y - 1 := by omega
          have hz1 : ¬ x + y + 1 < z := by omega
          rcases hcase with ⟨k1, k2, k3, k4⟩ | ⟨k1, k2, k3, -⟩ | ⟨k1, k2, -, k3⟩
          all_goals
            go_wp2_with fail
            refine (H3.out w2 hC2 hle).mono ?_
            rintro e w3 ⟨rfl, hb5⟩
            have hb6 := below_t hb3 hb5
            go_wp2_with fail
            refine (alive_any _).mono ?_
            rintro e w6 ⟨rfl, hb⟩
            have hb4 := below_t hb6 hb
            go_wp2_with fail
            go_ret
            exact ⟨rfl, hb4⟩
    · have hy : y = 0 := E2.out hf
      subst hy
      have hf1 : (ey != 0) = true := by simpa using hf
      have hf2 : (ey == 0) = false := by simpa using hf
      clear hf
      go_wp2_with fail
      refine (alive_any _).mono ?_
      rintro e w6 ⟨rfl, hb⟩
      have hb4 := below_t hb3 hb
      go_wp2_with fail
      go_ret
      exact ⟨rfl, hb4⟩
  · have hx : x = 0 := E1.out he
    subst hx
    have he1 : (ex != 0) = true := by simpa using he
    have he2 : (ex == 0) = false := by simpa using he
    clear he
    by_cases hf : ey = 0
    · subst hf
      go_wp2_with fail
      refine (alive_any _).mono ?_
      rintro e w6 ⟨rfl, hb⟩
      have hb4 := below_t hb3 hb
      go_wp2_with fail
      go_ret
      exact ⟨rfl, hb4⟩
    · have hy : y = 0 := E2.out hf
      subst hy
      have hf1 : (ey != 0) = true := by simpa using hf
      have hf2 : (ey == 0) = false := by simpa using hf
      clear hf
      go_wp2_with fail
      refine (alive_any _).mono ?_
      rintro e w6 ⟨rfl, hb⟩
      have hb4 := below_t hb3 hb
      go_wp2_with fail
      go_ret
      exact ⟨rfl, hb4⟩
theorem grows_law {a : Int} (_ : (Lit.int .i64 a).wf = true) {b : Int} (_ : (Lit.int .i64 b).wf = true) (A : Option Addr) (c : Nat) (l : List S28) (hle : l.length ≤ c) (_ : c ≤ 9223372036854775807) {w : World} (hC : Kd.C k28 w A l.length l)
    (_ : ∀ x ∈ l, True) : Calls Try.prog 3 #[.int .i64 a, .int .i64 b, .slice A l.length c] w fun e w1 => e = .returned (.bool true) ∧ Below w.heap.size w w1 :=
  grows_walk a b A c l hle _ hC
end Go.Proofs.Ytpmopdgnnlhplaa
