/-
  Kinds of values: dates, acts. Printed by wip/tools/kinds.py.
-/
import Derived.Test.YtpmopdgnnlhplaaKi
namespace Go.Proofs.Ytpmopdgnnlhplaa
open Go.RowKit Go.Proofs.YtpmopdgnnlhplaaW.PrintWords
structure Dt where
  y : Int
  m : Int
  d : Int
def zDt : Dt := ⟨0, 0, 0⟩
def kDt : Kd Dt := Kd.iso (Kd.pair (Kd.int .i64) (Kd.pair (Kd.int .i64) (Kd.int .i64))) (fun x : Dt => (x.y, x.m, x.d))
theorem kDt_open {w : World} {x : Dt} {cs : List Value} (h : kDt.K w x cs) : cs = [.int .i64 x.y, .int .i64 x.m, .int .i64 x.d] := by
  obtain ⟨_, _, rfl, rfl, ⟨_, _, rfl, rfl, rfl⟩⟩ := h
  exact rfl
theorem kDt_mk (w : World) (x : Dt)  : kDt.K w x [.int .i64 x.y, .int .i64 x.m, .int .i64 x.d] := by
  exact ⟨[.int .i64 x.y], [.int .i64 x.m, .int .i64 x.d], rfl, rfl, ⟨[.int .i64 x.m], [.int .i64 x.d], rfl, rfl, rfl⟩⟩
theorem kDt_openM {w : World} {base : Nat} {ok : Nat → Prop} {x : Dt} {cs : List Value} (h : kDt.M w base ok x cs) : cs = [.int .i64 x.y, .int .i64 x.m, .int .i64 x.d] := by
  obtain ⟨_, _, rfl, rfl, ⟨_, _, rfl, rfl, rfl⟩⟩ := h
  exact rfl
theorem kDt_mkM {w : World} {base : Nat} {ok : Nat → Prop} (x : Dt)  : kDt.M w base ok x [.int .i64 x.y, .int .i64 x.m, .int .i64 x.d] := by
  exact ⟨[.int .i64 x.y], [.int .i64 x.m, .int .i64 x.d], rfl, rfl, ⟨[.int .i64 x.m], [.int .i64 x.d], rfl, rfl, rfl⟩⟩
theorem at_Dt {w : World} {A : Option Addr} {n : Nat} {xs : List Dt} (h : Kd.C kDt w A n xs) {i : Nat} {x : Dt} (hx : xs[i]? = some x) : ∃ ad , A = some ad ∧ w.cell? (ad.add (i * 3)) = some (.int .i64 x.y) ∧ w.cell? ⟨(ad.add (i * 3)).block, (ad.add (i * 3)).off + 1, none⟩ = some (.int .i64 x.m) ∧ w.cell? ⟨(ad.add (i * 3)).block, (ad.add (i * 3)).off + 2, none⟩ = some (.int .i64 x.d) := by
  have h1 : i < n := by have := (List.getElem?_eq_some_iff.1 hx).1; have := h.1; omega
  obtain ⟨ad, c, e, _, hK, hc0⟩ := Kd.C_get h zDt (i : Int) (by omega) (by omega)
  rw [Int.toNat_natCast, List.getD_eq_getElem?_getD, hx, Option.getD_some] at hK
  have hc : ∀ j u, c[j]? = some u → w.cell? (ad.add (i * 3 + j)) = some u := fun j u h => by have := hc0 j u h; rw [Int.toNat_natCast] at this; exact this
  obtain rfl := kDt_open hK
  exact ⟨ad, e, hc 0 _ rfl, by rw [← add_field _ _ 1 (by omega)]; exact hc 1 _ rfl, by rw [← add_field _ _ 2 (by omega)]; exact hc 2 _ rfl⟩

/-! #### Ac (type 63) -/
structure Ac where
  kind : Int
  name : ByteArray
  day : Int
  no : Int
  ps : List Pst
def zAc : Ac := ⟨0, (⟨#[]⟩ : ByteArray), 0, 0, []⟩
def kAc : Kd Ac := Kd.iso (Kd.pair (Kd.int .u8) (Kd.pair Kd.string (Kd.pair (Kd.int .i64) (Kd.pair (Kd.int .i64) (Kd.slice 36 kPst))))) (fun x : Ac => (x.kind, x.name, x.day, x.no, x.ps))
theorem kAc_open {w : World} {x : Ac} {cs : List Value} (h : kAc.K w x cs) : ∃ A4 c4, cs = [.int .u8 x.kind, .string x.name, .int .i64 x.day, .int .i64 x.no, .slice A4 x.ps.length c4] ∧ x.ps.length ≤ c4 ∧ kPst.C w A4 x.ps.length x.ps := by
  obtain ⟨_, _, rfl, rfl, ⟨_, _, rfl, rfl, ⟨_, _, rfl, rfl, ⟨_, _, rfl, rfl, ⟨A4, c4, rfl, l4, g4⟩⟩⟩⟩⟩ := h
  exact ⟨A4, c4, rfl, l4, g4⟩
theorem kAc_mk (w : World) (x : Ac) {A4 : Option Addr} {c4 : Nat} (l4 : x.ps.length ≤ c4) (g4 : kPst.C w A4 x.ps.length x.ps) : kAc.K w x [.int .u8 x.kind, .string x.name, .int .i64 x.day, .int .i64 x.no, .slice A4 x.ps.length c4] := by
  exact ⟨[.int .u8 x.kind], [.string x.name, .int .i64 x.day, .int .i64 x.no, .slice A4 x.ps.length c4], rfl, rfl, ⟨[.string x.name], [.int .i64 x.day, .int .i64 x.no, .slice A4 x.ps.length c4], rfl, rfl, ⟨[.int .i64 x.day], [.int .i64 x.no, .slice A4 x.ps.length c4], rfl, rfl, ⟨[.int .i64 x.no], [.slice A4 x.ps.length c4], rfl, rfl, ⟨A4, c4, rfl, l4, g4⟩⟩⟩⟩⟩
theorem kAc_openM {w : World} {base : Nat} {ok : Nat → Prop} {x : Ac} {cs : List Value} (h : kAc.M w base ok x cs) : ∃ v4, cs = [.int .u8 x.kind, .string x.name, .int .i64 x.day, .int .i64 x.no, v4] ∧ kPst.R 36 w base ok v4 x.ps := by
  obtain ⟨_, _, rfl, rfl, ⟨_, _, rfl, rfl, ⟨_, _, rfl, rfl, ⟨_, _, rfl, rfl, ⟨v4, rfl, g4⟩⟩⟩⟩⟩ := h
  exact ⟨v4, rfl, g4⟩
theorem kAc_mkM {w : World} {base : Nat} {ok : Nat → Prop} (x : Ac) {v4 : Value} (g4 : kPst.R 36 w base ok v4 x.ps) : kAc.M w base ok x [.int .u8 x.kind, .string x.name, .int .i64 x.day, .int .i64 x.no, v4] := by
  exact ⟨[.int .u8 x.kind], [.string x.name, .int .i64 x.day, .int .i64 x.no, v4], rfl, rfl, ⟨[.string x.name], [.int .i64 x.day, .int .i64 x.no, v4], rfl, rfl, ⟨[.int .i64 x.day], [.int .i64 x.no, v4], rfl, rfl, ⟨[.int .i64 x.no], [v4], rfl, rfl, ⟨v4, rfl, g4⟩⟩⟩⟩⟩
theorem at_Ac {w : World} {A : Option Addr} {n : Nat} {xs : List Ac} (h : Kd.C kAc w A n xs) {i : Nat} {x : Ac} (hx : xs[i]? = some x) : ∃ ad A4 c4, A = some ad ∧ w.cell? (ad.add (i * 5)) = some (.int .u8 x.kind) ∧ w.cell? ⟨(ad.add (i * 5)).block, (ad.add (i * 5)).off + 1, none⟩ = some (.string x.name) ∧ w.cell? ⟨(ad.add (i * 5)).block, (ad.add (i * 5)).off + 2, none⟩ = some (.int .i64 x.day) ∧ w.cell? ⟨(ad.add (i * 5)).block, (ad.add (i * 5)).off + 3, none⟩ = some (.int .i64 x.no) ∧ w.cell? ⟨(ad.add (i * 5)).block, (ad.add (i * 5)).off + 4, none⟩ = some (.slice A4 x.ps.length c4) ∧ x.ps.length ≤ c4 ∧ kPst.C w A4 x.ps.length x.ps := by
  have h1 : i < n := by have := (List.getElem?_eq_some_iff.1 hx).1; have := h.1; omega
  obtain ⟨ad, c, e, _, hK, hc0⟩ := Kd.C_get h zAc (i : Int) (by omega) (by omega)
  rw [Int.toNat_natCast, List.getD_eq_getElem?_getD, hx, Option.getD_some] at hK
  have hc : ∀ j u, c[j]? = some u → w.cell? (ad.add (i * 5 + j)) = some u := fun j u h => by have := hc0 j u h; rw [Int.toNat_natCast] at this; exact this
  obtain ⟨A4, c4, rfl, l4, g4⟩ := kAc_open hK
  exact ⟨ad, A4, c4, e, hc 0 _ rfl, by rw [← add_field _ _ 1 (by omega)]; exact hc 1 _ rfl, by rw [← add_field _ _ 2 (by omega)]; exact hc 2 _ rfl, by rw [← add_field _ _ 3 (by omega)]; exact hc 3 _ rfl, by rw [← add_field _ _ 4 (by omega)]; exact hc 4 _ rfl, l4, g4⟩

end Go.Proofs.Ytpmopdgnnlhplaa
