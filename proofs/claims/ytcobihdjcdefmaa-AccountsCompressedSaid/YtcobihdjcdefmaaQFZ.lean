/-
  The walk of alive. The small functions of the laws: few, paths, copied, kept.
  The walks of carried, Balance and Potentials.
  The reference's amounts, balance and steps.
  The reference's steps and potentials.
  The reference's potentials.
  What the reference's Cost answers, and what Solve finds, told shortly (for FlowSolves and the Fill statements).
-/
import Derived.Test.YtcobihdjcdefmaaQFQe
import Derived.Test.YtcobihdjcdefmaaQUZ
import Derived.Test.YtcobihdjcdefmaaQFQb
namespace Go.Proofs.Ytcobihdjcdefmaa
open PAccountsCompress
open Go.RowKit Go.Proofs.YtcobihdjcdefmaaW.PrintWords
theorem TI_C {w : World} {b n : Nat} {f : Nat → Int} (h : TI w b n f) (xs : List Int) (hl : xs.length = n) (hn : n ≤ 100000) (hf : ∀ i, i < n → f i = xs.getD i 0) : Kd.C (Kd.int .i64) w (some ⟨b, 0, none⟩) xs.length xs := by
  refine ⟨rfl, by omega, fun _ => ⟨_, rfl, fun j p hp => ?_⟩⟩
  have hj := (List.getElem?_eq_some_iff.1 hp).1
  have c0 := TV.cell h (i := j) (by omega)
  have e : f j = p := by rw [hf j (by omega), List.getD_eq_getElem?_getD, hp]; rfl
  rw [e] at c0
  refine ⟨[.int .i64 p], rfl, rfl, fun i u hu => ?_⟩
  have hs : (Kd.int .i64).sz = 1 := rfl
  rw [hs, add_own]
  match i, hu with
  | 0, hu =>
    have hu : some (Value.int .i64 p) = some u := hu
    rw [← hu, Nat.mul_one, Nat.add_zero]; exact c0
  | i + 1, hu => simp at hu
theorem same_yes (w : World) (A : Option Addr) (c : Nat) (B : Option Addr) (d : Nat) (xs : List Int) (hA : Kd.C (Kd.int .i64) w A xs.length xs) (hB : Kd.C (Kd.int .i64) w B xs.length xs) (hl : xs.length ≤ 100000) :
    Calls Try.prog 16 #[.slice A xs.length c, .slice B xs.length d] w fun e w' => e = .returned (.bool true) ∧ Below w.heap.size w w' := by
  refine (same_any w A c xs B d xs hA hB hl).mono ?_
  rintro e w' ⟨rfl, hb⟩
  exact ⟨by rw [decide_eq_true rfl], hb⟩
end Go.Proofs.Ytcobihdjcdefmaa
namespace Go.Proofs.Ytcobihdjcdefmaa
open PAccountsCompress
open Go.RowKit Go.Proofs.YtcobihdjcdefmaaW.PrintWords
theorem drawn0_below {w : World} {f : Nat} {args : Array Value} {E : Ending} (h : Calls Try.prog f args w fun e w' => e = E ∧ Drawn0 w w') : Calls Try.prog f args w fun e w' => e = E ∧ Below w.heap.size w w' :=
  h.mono fun _ _ ⟨he, hd⟩ => ⟨he, hd.below⟩
end Go.Proofs.Ytcobihdjcdefmaa
namespace Go.Proofs.Ytcobihdjcdefmaa
open PAccountsCompress
open Go.RowKit Go.Proofs.YtcobihdjcdefmaaW.PrintWords
abbrev xsF (xs : List Int) : Nat → Int := fun i => xs.getD i 0
def BalPost (n : Int) (l : List Ar) (xs : List Int) (w : World) (e : Ending) (w' : World) : Prop :=
  ((amtE n l xs ≠ 0 ∧ e = .returned (.tuple #[.slice none 0 0, .int .i64 (amtE n l xs)])) ∨
   (amtE n l xs = 0 ∧ ∃ b, e = .returned (.tuple #[.slice (some ⟨b, 0, none⟩) n.toNat n.toNat, .int .i64 0]) ∧ TI w' b n.toNat (fun v => balF l.length (arcF l) (xsF xs) v))) ∧ Below w.heap.size w w'
end Go.Proofs.Ytcobihdjcdefmaa
namespace Go.Proofs.Ytcobihdjcdefmaa
open PAccountsCompress
open Go.RowKit Go.Proofs.YtcobihdjcdefmaaW.PrintWords
end Go.Proofs.Ytcobihdjcdefmaa
namespace Go.Proofs.Ytcobihdjcdefmaa
open PAccountsCompress
open Go.RowKit Go.Proofs.YtcobihdjcdefmaaW.PrintWords
/-- A step as the reference has it. -/
def toR (A : Nat → Ar) (s : Stp) : S123 := ⟨frm A s, tow A s, cst A s, s.f0, !s.f1⟩
def RStepsPost (l : List Ar) (xs : List Int) (w : World) (e : Ending) (w' : World) : Prop :=
  (∃ v, e = .returned v ∧ Kd.R k123 123 w' w.heap.size (fun _ => True) v ((stepsF (arcF l) (xsF xs) l.length).map (toR (arcF l)))) ∧ Below w.heap.size w w'
end Go.Proofs.Ytcobihdjcdefmaa
namespace Go.Proofs.Ytcobihdjcdefmaa
open PAccountsCompress
open Go.RowKit Go.Proofs.YtcobihdjcdefmaaW.PrintWords
end Go.Proofs.Ytcobihdjcdefmaa
namespace Go.Proofs.Ytcobihdjcdefmaa
open PAccountsCompress
open Go.RowKit Go.Proofs.YtcobihdjcdefmaaW.PrintWords
def Refused (n : Int) (l : List Ar) (xs : List Int) (er : Int) : Prop := er ≠ 0 ∧ ((needE n l xs ≠ 0 ∧ er = needE n l xs) ∨ (needE n l xs = 0 ∧ er = 13 ∧ ∃ x, Carried n.toNat l.length (arcF l) (fun v => xs.getD v 0) false x))
/-- What Solve finds. -/
def Solved (n : Int) (l : List Ar) (xs : List Int) (x : Nat → Int) : Prop := needE n l xs = 0 ∧ Valid l.length (arcF l) x ∧ (∃ p, Feas l.length (arcF l) x p ∧ LexCert l.length (arcF l) x p) ∧ ∀ v : Nat, v < n.toNat → balF l.length (arcF l) x v = xs.getD v 0
def SolveTwo (n : Int) (l : List Ar) (xs : List Int) (w : World) (e : Ending) (w' : World) : Prop :=
  ((∃ er, e = .returned (.tuple #[.agg #[.slice none 0 0, .int .i64 0], .int .i64 er]) ∧ Refused n l xs er) ∨
   (∃ ga x, e = .returned (.tuple #[.agg #[.slice (some ⟨ga, 0, none⟩) l.length l.length, .int .i64 (costF l.length (arcF l) x)], .int .i64 0]) ∧ TI w' ga l.length x ∧ w.heap.size ≤ ga ∧ Solved n l xs x)) ∧ Below w.heap.size w w'
end Go.Proofs.Ytcobihdjcdefmaa
