/-
  Arguments that came in, opened to kinds: the rows' side.
-/
import Derived.Test.YtcobihdjcdefmaaQKi
import Derived.WalkKit
import Derived.ProofKit
import Derived.OpenShut
import Derived.ChangeOld
import Derived.Below
import Derived.SizedLaws
import Derived.Deep.Slices
namespace Go.Proofs.Ytcobihdjcdefmaa
open Go.RowKit Go.Proofs.YtcobihdjcdefmaaW.PrintWords
/-- Whatever reads at type e is one of kind d. -/
def Opn {α : Type} (d : Kd α) (e : TypeId) (good : α → Prop) : Prop :=
  ∀ {H : Type} (enc : TypeId × Value → H) (w : World) (base : Nat) (spare : Nat → Bool) (held : Bool) (fuel : Nat) (cs : List Value) (x : DataW H × List MemPlace),
    DataW.trod enc Try.prog w base spare held fuel e cs = some x → ∃ a, d.K w a cs ∧ good a
theorem Opn.int {k : IntKind} {e : TypeId} (h : Try.prog.underlying e = some (.int k)) : Opn (Kd.int k) e (fun n => (Lit.int k n).wf = true) := fun _ _ _ _ _ _ _ _ ht => by
  obtain ⟨n, rfl, _, hw⟩ := DataW.trod_int h ht
  exact ⟨n, rfl, hw⟩
theorem Opn.string {e : TypeId} (h : Try.prog.underlying e = some .string) : Opn Kd.string e (fun s => s.size ≤ 9223372036854775807) := fun _ _ _ _ _ _ _ _ ht => by
  obtain ⟨s, rfl, _, hw⟩ := DataW.trod_string h ht
  exact ⟨s, rfl, hw⟩
theorem list_of {α : Type} (p : Nat → α → Prop) : ∀ n, (∀ i, i < n → ∃ a, p i a) → ∃ xs : List α, xs.length = n ∧ ∀ i a, xs[i]? = some a → p i a
  | 0, _ => ⟨[], rfl, fun i a h => by simp at h⟩
  | n + 1, h => by
    obtain ⟨xs, hl, hx⟩ := list_of p n (fun i hi => h i (by omega))
    obtain ⟨a, ha⟩ := h n (by omega)
    refine ⟨xs ++ [a], by simp [hl], fun i b hb => ?_⟩
    rcases Nat.lt_or_ge i xs.length with h1 | h1
    · rw [List.getElem?_append_left h1] at hb
      exact hx i b hb
    · rw [List.getElem?_append_right h1] at hb
      have : i - xs.length = 0 := by
        rcases Nat.eq_zero_or_pos (i - xs.length) with h2 | h2
        · exact h2
        · rw [List.getElem?_eq_none (by simp; omega)] at hb
          cases hb
      rw [this] at hb
      simp only [List.getElem?_cons_zero, Option.some.injEq] at hb
      subst hb
      have : i = n := by omega
      subst this
      exact ha
/-- A slice that came in. -/
theorem open_C {α : Type} {d : Kd α} {t e : TypeId} {good : α → Prop} (hO : Opn d e good) (ht : Try.prog.underlying t = some (.slice e)) (hC : Try.prog.cellsOf e = d.sz)
    {H : Type} {enc : TypeId × Value → H} {w : World} {base : Nat} {spare : Nat → Bool} {held : Bool} {fuel : Nat} {cs : List Value} {x : DataW H × List MemPlace}
    (h : DataW.trod enc Try.prog w base spare held fuel t cs = some x) :
    ∃ A c xs, cs = [.slice A xs.length c] ∧ xs.length ≤ c ∧ c ≤ 9223372036854775807 ∧ Kd.C d w A xs.length xs ∧ ∀ a ∈ xs, good a := by
  rcases Deep.open_slice ht h with ⟨rfl, _⟩ | ⟨a, len, cap, m, n, D, Pl, rfl, hb, hl, hm, hmm, _, hi⟩
  · exact ⟨none, 0, [], rfl, Nat.le_refl _, by decide, Kd.C_nil _ _, by simp⟩
  · have hlm : len ≤ m := by rw [hmm]; split <;> omega
    rw [hC] at hi
    obtain ⟨xs, hlen, hx⟩ := list_of (fun i (y : α) => ∃ cs', w.cells? base (a.add (i * d.sz)) d.sz = some cs' ∧ d.K w y cs' ∧ good y) len (fun i hil => by
      obtain ⟨cs', h1, h2⟩ := hi i (by omega)
      obtain ⟨y, h3, h4⟩ := hO enc w base spare held n cs' _ h2
      exact ⟨y, cs', h1, h3, h4⟩)
    subst hlen
    refine ⟨some a, cap, xs, rfl, hl, hm, ⟨rfl, Nat.le_trans hl hm, fun _ => ⟨a, rfl, fun j p hp => ?_⟩⟩, fun y hy => ?_⟩
    · obtain ⟨cs', h1, h2, _⟩ := hx j p hp
      obtain ⟨_, hcl, hat⟩ := World.cells?_some h1
      refine ⟨cs', hcl, h2, fun i u hu => ?_⟩
      have hlt : i < cs'.length := (List.getElem?_eq_some_iff.1 hu).1
      have := hat i (by omega)
      rw [hu, Addr.add_add] at this
      exact this
    · obtain ⟨j, hj⟩ := List.getElem?_of_mem hy
      obtain ⟨cs', _, _, h3⟩ := hx j y hj
      exact h3
theorem Opn.slice {α : Type} {d : Kd α} {t e : TypeId} {good : α → Prop} (hO : Opn d e good) (ht : Try.prog.underlying t = some (.slice e)) (hC : Try.prog.cellsOf e = d.sz) :
    Opn (Kd.slice e d) t (fun xs => xs.length ≤ 9223372036854775807 ∧ ∀ a ∈ xs, good a) := fun enc w base spare held fuel cs x h => by
  obtain ⟨A, c, xs, rfl, h1, h2, h3, h4⟩ := open_C hO ht hC h
  exact ⟨xs, ⟨A, c, rfl, h1, h3⟩, Nat.le_trans h1 h2, h4⟩
end Go.Proofs.Ytcobihdjcdefmaa
