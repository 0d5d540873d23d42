/-
  The walk of alive.
  The small functions of the laws: few, paths, copied, kept.
-/
import Derived.Test.YtcobihdjcdefmaaZFQe
import Derived.Test.YtcobihdjcdefmaaZUZ
import Derived.Test.YtcobihdjcdefmaaZFQb
namespace Go.Proofs.Ytcobihdjcdefmaa
open PAccountsCompress
open Go.RowKit Go.Proofs.YtcobihdjcdefmaaW.PrintWords
theorem TI_C {w : World} {b n : Nat} {f : Nat → Int} (h : TI w b n f) (xs : List Int) (hl : xs.length = n) (hn : n ≤ 100000) (hf : ∀ i, i < n → f i = xs.getD i 0) : Kd.C (Kd.int .i64) w (some ⟨b, 0, none⟩) xs.length xs := by
  refine ⟨rfl, by omega, fun _ => ⟨_, rfl, fun j p hp => ?_⟩⟩
  have hj := (List.getElem?_eq_some_iff.1 hp).1
  have c0 := TV.cell h (i := j) (by omega)
  have e : f j = p := by rw [hf j (by omega), List.getD_eq_getElem?_getD, hp]; rfl
  rw [e] at c0
  refine ⟨[.int .i64 p], rfl, rfl, fun i u hu => ?_⟩
  have hs : (Kd.int .i64).sz = 1 := rfl
  rw [hs, add_own]
  match i, hu with
  | 0, hu =>
    have hu : some (Value.int .i64 p) = some u := hu
    rw [← hu, Nat.mul_one, Nat.add_zero]; exact c0
  | i + 1, hu => simp at hu
theorem same_yes (w : World) (A : Option Addr) (c : Nat) (B : Option Addr) (d : Nat) (xs : List Int) (hA : Kd.C (Kd.int .i64) w A xs.length xs) (hB : Kd.C (Kd.int .i64) w B xs.length xs) (hl : xs.length ≤ 100000) :
    Calls Try.prog 16 #[.slice A xs.length c, .slice B xs.length d] w fun e w' => e = .returned (.bool true) ∧ Below w.heap.size w w' := by
  refine (same_any w A c xs B d xs hA hB hl).mono ?_
  rintro e w' ⟨rfl, hb⟩
  exact ⟨by rw [decide_eq_true rfl], hb⟩
end Go.Proofs.Ytcobihdjcdefmaa
namespace Go.Proofs.Ytcobihdjcdefmaa
open PAccountsCompress
open Go.RowKit Go.Proofs.YtcobihdjcdefmaaW.PrintWords
theorem drawn0_below {w : World} {f : Nat} {args : Array Value} {E : Ending} (h : Calls Try.prog f args w fun e w' => e = E ∧ Drawn0 w w') : Calls Try.prog f args w fun e w' => e = E ∧ Below w.heap.size w w' :=
  h.mono fun _ _ ⟨he, hd⟩ => ⟨he, hd.below⟩
theorem copied_l0 (l : List Int) (hl : l.length ≤ 1000) : ∀ (r i k : Nat), i + r = l.length → r + 1 ≤ k → merinolaw07_copied.l0 k l (l.take i ++ List.replicate r 0) (i : Int) = some l
  | 0, i, k + 1, hi, _ => by
    unfold merinolaw07_copied.l0
    rw [if_neg (by omega), List.take_of_length_le (by omega)]
    simp
  | r + 1, i, k + 1, hi, hk => by
    obtain ⟨a, ha⟩ : ∃ a, l[i]? = some a := ⟨_, List.getElem?_eq_getElem (by omega)⟩
    unfold merinolaw07_copied.l0
    rw [if_pos (by omega), if_pos (by omega), if_pos (by rw [List.length_append, List.length_take, List.length_replicate]; omega), rdI ha, wr64 (by omega), Int.toNat_natCast]
    have ih := copied_l0 l hl r (i + 1) k (by omega) (by omega)
    rw [show ((i + 1 : Nat) : Int) = (i : Int) + 1 by omega] at ih
    have e : (l.take i ++ List.replicate (r + 1) 0).set i a = l.take (i + 1) ++ List.replicate r 0 := by
      rw [List.set_append_right _ _ (by rw [List.length_take]; omega), List.length_take, Nat.min_eq_left (by omega), Nat.sub_self, List.replicate_succ, List.set_cons_zero, List.take_add_one, ha, List.append_assoc]
      rfl
    rw [e]
    exact ih
theorem copied_f (l : List Int) (hl : l.length ≤ 140) {K : Nat} (hK : 300 ≤ K) : merinolaw07_copied.f K l = some l := by
  unfold merinolaw07_copied.f
  rw [if_pos (by omega), if_pos (by omega), Int.toNat_natCast]
  have := copied_l0 l (by omega) l.length 0 K (by omega) (by omega)
  rw [List.take_zero, List.nil_append] at this
  exact this
end Go.Proofs.Ytcobihdjcdefmaa
