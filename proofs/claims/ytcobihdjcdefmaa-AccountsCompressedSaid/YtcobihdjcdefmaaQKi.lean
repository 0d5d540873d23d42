/-
  Kinds of values: what the cells of postings, records, rows, bands say. Printed by wip/tools/kinds.py.
-/
import Derived.Test.YtcobihdjcdefmaaRows
import Derived.Test.YtcobihdjcdefmaaQBa
import Derived.Test.YtcobihdjcdefmaaQWWords
import Derived.Lib.Hide
namespace Go.Proofs.Ytcobihdjcdefmaa
open Go.RowKit Go.Proofs.YtcobihdjcdefmaaW.PrintWords
/-! #### Pst (type 50) -/
structure Pst where
  a : ByteArray
  c : Int
def zPst : Pst := ⟨(⟨#[]⟩ : ByteArray), 0⟩
def kPst : Kd Pst := Kd.iso (Kd.pair Kd.string (Kd.int .i64)) (fun x : Pst => (x.a, x.c))
theorem kPst_open {w : World} {x : Pst} {cs : List Value} (h : kPst.K w x cs) : cs = [.string x.a, .int .i64 x.c] := by
  obtain ⟨_, _, rfl, rfl, rfl⟩ := h
  exact rfl
theorem kPst_mk (w : World) (x : Pst)  : kPst.K w x [.string x.a, .int .i64 x.c] := by
  exact ⟨[.string x.a], [.int .i64 x.c], rfl, rfl, rfl⟩
theorem kPst_mkM {w : World} {base : Nat} {ok : Nat → Prop} (x : Pst)  : kPst.M w base ok x [.string x.a, .int .i64 x.c] := by
  exact ⟨[.string x.a], [.int .i64 x.c], rfl, rfl, rfl⟩
theorem at_Pst {w : World} {A : Option Addr} {n : Nat} {xs : List Pst} (h : Kd.C kPst w A n xs) {i : Nat} {x : Pst} (hx : xs[i]? = some x) : ∃ ad , A = some ad ∧ w.cell? (ad.add (i * 2)) = some (.string x.a) ∧ w.cell? ⟨(ad.add (i * 2)).block, (ad.add (i * 2)).off + 1, none⟩ = some (.int .i64 x.c) := by
  have h1 : i < n := by have := (List.getElem?_eq_some_iff.1 hx).1; have := h.1; omega
  obtain ⟨ad, c, e, _, hK, hc0⟩ := Kd.C_get h zPst (i : Int) (by omega) (by omega)
  rw [Int.toNat_natCast, List.getD_eq_getElem?_getD, hx, Option.getD_some] at hK
  have hc : ∀ j u, c[j]? = some u → w.cell? (ad.add (i * 2 + j)) = some u := fun j u h => by have := hc0 j u h; rw [Int.toNat_natCast] at this; exact this
  obtain rfl := kPst_open hK
  exact ⟨ad, e, hc 0 _ rfl, by rw [← add_field _ _ 1 (by omega)]; exact hc 1 _ rfl⟩

/-! #### Rc (type 94) -/
structure Rc where
  no : Int
  day : Int
  ps : List Pst
  rev : Int
  sum : Int
def zRc : Rc := ⟨0, 0, [], 0, 0⟩
def kRc : Kd Rc := Kd.iso (Kd.pair (Kd.int .i64) (Kd.pair (Kd.int .i64) (Kd.pair (Kd.slice 50 kPst) (Kd.pair (Kd.int .i64) (Kd.int .u64))))) (fun x : Rc => (x.no, x.day, x.ps, x.rev, x.sum))
theorem kRc_open {w : World} {x : Rc} {cs : List Value} (h : kRc.K w x cs) : ∃ A2 c2, cs = [.int .i64 x.no, .int .i64 x.day, .slice A2 x.ps.length c2, .int .i64 x.rev, .int .u64 x.sum] ∧ x.ps.length ≤ c2 ∧ kPst.C w A2 x.ps.length x.ps := by
  obtain ⟨_, _, rfl, rfl, ⟨_, _, rfl, rfl, ⟨_, _, rfl, ⟨A2, c2, rfl, l2, g2⟩, ⟨_, _, rfl, rfl, rfl⟩⟩⟩⟩ := h
  exact ⟨A2, c2, rfl, l2, g2⟩
theorem kRc_mkM {w : World} {base : Nat} {ok : Nat → Prop} (x : Rc) {v2 : Value} (g2 : kPst.R 50 w base ok v2 x.ps) : kRc.M w base ok x [.int .i64 x.no, .int .i64 x.day, v2, .int .i64 x.rev, .int .u64 x.sum] := by
  exact ⟨[.int .i64 x.no], [.int .i64 x.day, v2, .int .i64 x.rev, .int .u64 x.sum], rfl, rfl, ⟨[.int .i64 x.day], [v2, .int .i64 x.rev, .int .u64 x.sum], rfl, rfl, ⟨[v2], [.int .i64 x.rev, .int .u64 x.sum], rfl, ⟨v2, rfl, g2⟩, ⟨[.int .i64 x.rev], [.int .u64 x.sum], rfl, rfl, rfl⟩⟩⟩⟩
theorem at_Rc {w : World} {A : Option Addr} {n : Nat} {xs : List Rc} (h : Kd.C kRc w A n xs) {i : Nat} {x : Rc} (hx : xs[i]? = some x) : ∃ ad A2 c2, A = some ad ∧ w.cell? (ad.add (i * 5)) = some (.int .i64 x.no) ∧ w.cell? ⟨(ad.add (i * 5)).block, (ad.add (i * 5)).off + 1, none⟩ = some (.int .i64 x.day) ∧ w.cell? ⟨(ad.add (i * 5)).block, (ad.add (i * 5)).off + 2, none⟩ = some (.slice A2 x.ps.length c2) ∧ w.cell? ⟨(ad.add (i * 5)).block, (ad.add (i * 5)).off + 3, none⟩ = some (.int .i64 x.rev) ∧ w.cell? ⟨(ad.add (i * 5)).block, (ad.add (i * 5)).off + 4, none⟩ = some (.int .u64 x.sum) ∧ x.ps.length ≤ c2 ∧ kPst.C w A2 x.ps.length x.ps := by
  have h1 : i < n := by have := (List.getElem?_eq_some_iff.1 hx).1; have := h.1; omega
  obtain ⟨ad, c, e, _, hK, hc0⟩ := Kd.C_get h zRc (i : Int) (by omega) (by omega)
  rw [Int.toNat_natCast, List.getD_eq_getElem?_getD, hx, Option.getD_some] at hK
  have hc : ∀ j u, c[j]? = some u → w.cell? (ad.add (i * 5 + j)) = some u := fun j u h => by have := hc0 j u h; rw [Int.toNat_natCast] at this; exact this
  obtain ⟨A2, c2, rfl, l2, g2⟩ := kRc_open hK
  exact ⟨ad, A2, c2, e, hc 0 _ rfl, by rw [← add_field _ _ 1 (by omega)]; exact hc 1 _ rfl, by rw [← add_field _ _ 2 (by omega)]; exact hc 2 _ rfl, by rw [← add_field _ _ 3 (by omega)]; exact hc 3 _ rfl, by rw [← add_field _ _ 4 (by omega)]; exact hc 4 _ rfl, l2, g2⟩

/-! #### Rw (type 133) -/
structure Rw where
  no : Int
  day : Int
  c : Int
  bal : Int
def zRw : Rw := ⟨0, 0, 0, 0⟩
def kRw : Kd Rw := Kd.iso (Kd.pair (Kd.int .i64) (Kd.pair (Kd.int .i64) (Kd.pair (Kd.int .i64) (Kd.int .i64)))) (fun x : Rw => (x.no, x.day, x.c, x.bal))
theorem kRw_open {w : World} {x : Rw} {cs : List Value} (h : kRw.K w x cs) : cs = [.int .i64 x.no, .int .i64 x.day, .int .i64 x.c, .int .i64 x.bal] := by
  obtain ⟨_, _, rfl, rfl, ⟨_, _, rfl, rfl, ⟨_, _, rfl, rfl, rfl⟩⟩⟩ := h
  exact rfl
theorem kRw_openM {w : World} {base : Nat} {ok : Nat → Prop} {x : Rw} {cs : List Value} (h : kRw.M w base ok x cs) : cs = [.int .i64 x.no, .int .i64 x.day, .int .i64 x.c, .int .i64 x.bal] := by
  obtain ⟨_, _, rfl, rfl, ⟨_, _, rfl, rfl, ⟨_, _, rfl, rfl, rfl⟩⟩⟩ := h
  exact rfl
theorem kRw_mkM {w : World} {base : Nat} {ok : Nat → Prop} (x : Rw)  : kRw.M w base ok x [.int .i64 x.no, .int .i64 x.day, .int .i64 x.c, .int .i64 x.bal] := by
  exact ⟨[.int .i64 x.no], [.int .i64 x.day, .int .i64 x.c, .int .i64 x.bal], rfl, rfl, ⟨[.int .i64 x.day], [.int .i64 x.c, .int .i64 x.bal], rfl, rfl, ⟨[.int .i64 x.c], [.int .i64 x.bal], rfl, rfl, rfl⟩⟩⟩
theorem at_Rw {w : World} {A : Option Addr} {n : Nat} {xs : List Rw} (h : Kd.C kRw w A n xs) {i : Nat} {x : Rw} (hx : xs[i]? = some x) : ∃ ad , A = some ad ∧ w.cell? (ad.add (i * 4)) = some (.int .i64 x.no) ∧ w.cell? ⟨(ad.add (i * 4)).block, (ad.add (i * 4)).off + 1, none⟩ = some (.int .i64 x.day) ∧ w.cell? ⟨(ad.add (i * 4)).block, (ad.add (i * 4)).off + 2, none⟩ = some (.int .i64 x.c) ∧ w.cell? ⟨(ad.add (i * 4)).block, (ad.add (i * 4)).off + 3, none⟩ = some (.int .i64 x.bal) := by
  have h1 : i < n := by have := (List.getElem?_eq_some_iff.1 hx).1; have := h.1; omega
  obtain ⟨ad, c, e, _, hK, hc0⟩ := Kd.C_get h zRw (i : Int) (by omega) (by omega)
  rw [Int.toNat_natCast, List.getD_eq_getElem?_getD, hx, Option.getD_some] at hK
  have hc : ∀ j u, c[j]? = some u → w.cell? (ad.add (i * 4 + j)) = some u := fun j u h => by have := hc0 j u h; rw [Int.toNat_natCast] at this; exact this
  obtain rfl := kRw_open hK
  exact ⟨ad, e, hc 0 _ rfl, by rw [← add_field _ _ 1 (by omega)]; exact hc 1 _ rfl, by rw [← add_field _ _ 2 (by omega)]; exact hc 2 _ rfl, by rw [← add_field _ _ 3 (by omega)]; exact hc 3 _ rfl⟩

/-! #### Bd (type 44) -/
structure Bd where
  up : Int
  rate : Int
def zBd : Bd := ⟨0, 0⟩
def kBd : Kd Bd := Kd.iso (Kd.pair (Kd.int .i64) (Kd.int .i64)) (fun x : Bd => (x.up, x.rate))

end Go.Proofs.Ytcobihdjcdefmaa
