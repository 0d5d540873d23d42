/-
  FlowBlends: the search for a blend, in plain Lean.
-/
import Derived.Test.YtpbndcmmclkdpaaZKp
namespace Go.Proofs.Ytpbndcmmclkdpaa
/-- The numbers from t down to 0. -/
def downTo : Nat → List Nat
  | 0 => [0]
  | t + 1 => (t + 1) :: downTo t
/-- The mixes of at most n bales, in the order of the search. -/
def mixes : List S49 → Nat → List (List Int)
  | [], _ => [[]]
  | p :: ps, n => (downTo (min n p.f0.toNat)).flatMap fun t => (mixes ps (n - t)).map ((t : Int) :: ·)
def gr : List S49 → List Int → Int
  | p :: ps, t :: c => t * p.f2 + gr ps c
  | _, _ => 0
def co : List S49 → List Int → Int
  | p :: ps, t :: c => t * p.f1 + co ps c
  | _, _ => 0
def stepB (lo hi : Int) (ps : List S49) (pre : List Int) (n : Nat) (g s : Int) (st : Int × List Int) (c : List Int) : Int × List Int :=
  if (c.sum = (n : Int) ∧ lo ≤ g + gr ps c ∧ g + gr ps c ≤ hi) ∧ s + co ps c < st.1 then (s + co ps c, pre ++ c) else st
def runB (lo hi : Int) (ps : List S49) (pre : List Int) (n : Nat) (g s : Int) (st : Int × List Int) : Int × List Int := (mixes ps n).foldl (stepB lo hi ps pre n g s) st
/-- What the search finds in the mixes that begin with at most t of the next parcel. -/
def turnB (lo hi : Int) (p : S49) (ps : List S49) (pre : List Int) (n : Nat) (g s : Int) : Nat → (Int × List Int) → Int × List Int
  | 0, st => runB lo hi ps (pre ++ [0]) n g s st
  | t + 1, st => turnB lo hi p ps pre n g s t (runB lo hi ps (pre ++ [((t + 1 : Nat) : Int)]) (n - (t + 1)) (g + ((t + 1 : Nat) : Int) * p.f2) (s + ((t + 1 : Nat) : Int) * p.f1) st)
/-- What a mix is. -/
def Fits : List S49 → List Int → Prop
  | [], [] => True
  | p :: ps, t :: c => (0 ≤ t ∧ t ≤ p.f0) ∧ Fits ps c
  | _, _ => False
/-- Greater in the order of the search. -/
def Gt : List Int → List Int → Prop
  | a :: c, b :: d => b < a ∨ (a = b ∧ Gt c d)
  | _, _ => False
end Go.Proofs.Ytpbndcmmclkdpaa
