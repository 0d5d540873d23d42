/-
  Charge of the program, and its bands opened.
-/
import Derived.Test.YtcobihdjcdefmaaZCh
import Derived.Test.YtcobihdjcdefmaaZAl
import Derived.Test.YtcobihdjcdefmaaZRk
namespace Go.Proofs.Ytcobihdjcdefmaa
open Go.RowKit Go.Proofs.YtcobihdjcdefmaaW.PrintWords
open PAccountsCharges (S44 k44)
theorem opnS44 : Opn k44 44 (fun _ => True) := fun enc w base spare held fuel cs x h => by
  obtain ⟨a, hK, _⟩ := opn44 enc w base spare held fuel cs x h
  obtain rfl := kBd_open hK
  exact ⟨⟨a.up, a.rate⟩, PAccountsCharges.k44_mk w ⟨a.up, a.rate⟩, trivial⟩
theorem Charge_any (a : Int) (A : Option Addr) (c : Nat) (l : List S44) (w : World) (hC : Kd.C k44 w A l.length l) (hle : l.length ≤ c) :
    Calls Try.prog 7 #[.int .i64 a, .slice A l.length c] w fun e w' => e = .returned (.tuple #[.int .i64 (chargeR a l).1, .int .i64 (chargeR a l).2]) ∧ Below w.heap.size w w' :=
  PAccountsCharges.accounts_Charge.calls _ _ _ _ _ _ _ w hC hle (charge_f a l)
end Go.Proofs.Ytcobihdjcdefmaa
