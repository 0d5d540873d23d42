/-
  rows walked: a copy of a matrix.
-/
import Derived.Test.YtcobihdjcdefmaaZCe
namespace Go.Proofs.Ytcobihdjcdefmaa
open PAccountsCompress
open Go.RowKit Go.Proofs.YtcobihdjcdefmaaW.PrintWords
theorem rows_C {w : World} {hb n : Nat} {va : Nat → Option Addr} {vc : Nat → Nat} {O : Mt} (hn : O.length = n) (h1 : n ≤ 100000) (hh : TV w hb 32 n (fun i => if i < n then .slice (va i) (rowE O i).length (vc i) else .slice none 0 0))
    (hr : ∀ i, i < n → Kd.C (Kd.int .i64) w (va i) (rowE O i).length (rowE O i) ∧ (rowE O i).length ≤ vc i) : Kd.C kRow w (some ⟨hb, 0, none⟩) n O := by
  refine ⟨hn, by omega, fun _ => ⟨_, rfl, fun i row hrow => ?_⟩⟩
  have hi : i < n := by have := (List.getElem?_eq_some_iff.1 hrow).1; omega
  have hrw : rowE O i = row := by unfold rowE; rw [List.getD_eq_getElem?_getD, hrow]; rfl
  obtain ⟨hC, hle⟩ := hr i hi
  have hc := TV.cell hh hi
  rw [if_pos hi] at hc
  rw [hrw] at hC hle hc
  refine ⟨[.slice (va i) row.length (vc i)], rfl, ⟨va i, vc i, rfl, hle, hC⟩, fun j u hu => ?_⟩
  have hj : j = 0 := by have := (List.getElem?_eq_some_iff.1 hu).1; simp at this; exact this
  subst hj
  obtain rfl := Option.some.inj hu
  have e : (⟨hb, 0, none⟩ : Addr).add (i * kRow.sz + 0) = ⟨hb, i, none⟩ := by
    rw [show i * kRow.sz + 0 = i from by show i * 1 + 0 = i; omega]; simp [Addr.add]; omega
  rw [e]; exact hc
set_option maxRecDepth 100000 in
set_option maxHeartbeats 8000000 in
theorem rows_any (w : World) (A : Option Addr) (c : Nat) (O : Mt) (hC : Kd.C kRow w A O.length O) (_ : O.length ≤ c) (hs : Small O 0) :
    Calls Try.prog 12 #[.slice A O.length c] w fun e w' => (∃ B d, e = .returned (.slice B O.length d) ∧ Kd.C kRow w' B O.length O ∧ O.length ≤ d) ∧ Below w.heap.size w w' := by
  have HC := Lib.hid hC
  have HS := Lib.hid hs
  have hmk := make_hdr w (n := O.length) (by have := hs.1; omega)
  have hal := below_alloc (Below.refl w.heap.size w) (.cells (madeCells #[.slice none 0 0] O.length) 32 (0, 0))
  have HT0 := Lib.hid ((TV.made w (.slice none 0 0) 32 O.length).congr (f' := fun i => if i < 0 then .slice none (rowE O i).length 0 else .slice none 0 0) fun i _ => by rw [if_neg (Nat.not_lt_zero i)])
  have HB0 := Lib.hid hal
  clear hC hs hal
  go_enter Try.func12, Try.ntmps12
  go_wp2_with fail
  clear hmk
  generalize w.alloc (.cells (madeCells #[.slice none 0 0] O.length) 32 (0, 0)) = w1 at *
  go_loopg [4] O.length (fun k v4 wr => ∃ (i : Nat) (va : Nat → Option Addr) (vc : Nat → Nat), v4 = .int .i64 i ∧ Hid (i + k = O.length) ∧ Hid (TV wr w.heap.size 32 O.length (fun j => if j < i then .slice (va j) (rowE O j).length (vc j) else .slice none 0 0)) ∧ Hid (∀ j, j < i → Kd.R (Kd.int .i64) 3 wr w.heap.size (fun _ => True) (.slice (va j) (rowE O j).length (vc j)) (rowE O j)) ∧ Hid (Below w.heap.size w wr))
  case atStart => exact ⟨0, fun _ => none, fun _ => 0, rfl, Lib.hid (by omega), HT0, Lib.hid (fun j hj => absurd hj (Nat.not_lt_zero _)), HB0⟩
  case round =>
    clear HT0 HB0
    obtain ⟨i, va, vc, rfl, HI, HT, HR, HB⟩ := hrel
    obtain ⟨wv, rfl⟩ : ∃ wv : World, wv = wr := ⟨_, rfl⟩
    by_cases hlt : i < O.length
    · have hi0 : (i : Int) < O.length := by omega
      have hiz : (0 : Int) ≤ i := by omega
      have hw : IntKind.i64.wrap ((i : Int) + 1) = i + 1 := IntWalk.i64_in _ (by have := HS.out.1; omega)
      obtain ⟨ad, Ai, ci, rfl, k0w, hci, hCi⟩ := at_L3 HC.out (i : Int) hiz hi0
      rw [rdL] at k0w hci hCi
      have k0 := (HB.out.cell (World.block_lt_of_cell? w _ k0w)).trans k0w
      rw [Int.toNat_natCast] at k0
      have hcp := merinolaw07_copied.calls 300 Ai ci (rowE O i) (rowE O i) wv (Kd.C_below hCi HB.out) hci (copied_f (rowE O i) (by have := HS.out.2 i (Nat.zero_le _) hlt; omega) (Nat.le_refl _))
      have HCP := Lib.hid hcp
      have HLT := Lib.hid hlt
      clear hlt k0w hci hCi hcp
      generalize hrw : rowE O i = row at *
      have HRW := Lib.hid hrw
      clear hrw
      go_wp2_with (go_at_call 36; refine HCP.out.mono ?_; rintro e w8 ⟨v8, rfl, hR8, hb8⟩; obtain ⟨A8, c8, rfl, hle8, hC8⟩ := Kd.R_reads hR8; have HT8 := Lib.hid (TV.below HT.out hb8); have HR8 := Lib.hid hR8; have HB8 := Lib.hid hb8; have q0 : w8.cell? ⟨w.heap.size, i, none⟩ = some (.slice none 0 0) := (by have := TV.cell HT8.out HLT.out; rwa [if_neg (Nat.lt_irrefl _)] at this); have q1 := TV.free HT8.out i; clear hle8 hC8 hR8 hb8)
      obtain ⟨hcs, hhd, _⟩ := HT8.out
      have hT9 := TV.set HT8.out i (.slice A8 row.length c8)
      have hR9 : ∀ j, j < i → Kd.R (Kd.int .i64) 3 (w8.setCell ⟨w.heap.size, i, none⟩ (.slice A8 row.length c8)) w.heap.size (fun _ => True) (.slice (va j) (rowE O j).length (vc j)) (rowE O j) := fun j hj => Kd.R_set (Kd.R_below (HR.out j hj) HB8.out) hhd (by decide) i _
      have hR9n := Kd.R_lower (Kd.R_set HR8.out hhd (by decide) i (.slice A8 row.length c8)) HB.out.size
      have hB9 : Below w.heap.size w (w8.setCell ⟨w.heap.size, i, none⟩ (.slice A8 row.length c8)) := ((Fr.of_below (below_u HB.out HB8.out) (fun b => b = w.heap.size)).setCell (p := ⟨w.heap.size, i, none⟩) (.inl rfl) _).to_below (Nat.le_refl _) (fun b e => by omega)
      have HT9 : Hid (TV (w8.setCell ⟨w.heap.size, i, none⟩ (.slice A8 row.length c8)) w.heap.size 32 O.length (fun j => if j < i + 1 then .slice (if j = i then A8 else va j) (rowE O j).length (if j = i then c8 else vc j) else .slice none 0 0)) := Lib.hid (hT9.congr fun j hj => by
        by_cases e : j = i
        · subst e; rw [if_pos rfl, if_pos (Nat.lt_succ_self _), if_pos rfl, if_pos rfl, HRW.out]
        · rw [if_neg e, if_neg e, if_neg e]
          by_cases h2 : j < i
          · rw [if_pos h2, if_pos (by omega)]
          · rw [if_neg h2, if_neg (by omega)])
      have HR9 : Hid (∀ j, j < i + 1 → Kd.R (Kd.int .i64) 3 (w8.setCell ⟨w.heap.size, i, none⟩ (.slice A8 row.length c8)) w.heap.size (fun _ => True) (.slice (if j = i then A8 else va j) (rowE O j).length (if j = i then c8 else vc j)) (rowE O j)) := Lib.hid (fun j hj => by
        by_cases e : j = i
        · subst e; rw [if_pos rfl, if_pos rfl, HRW.out]; exact hR9n
        · rw [if_neg e, if_neg e]; exact hR9 j (by omega))
      have HB9 := Lib.hid hB9
      clear hhd hT9 hR9 hR9n hB9 q0 q1 HT8 HR8 HB8 k0
      generalize w8.setCell ⟨w.heap.size, i, none⟩ (.slice A8 row.length c8) = w9 at *
      go_wp2_with fail
      go_roundg (O.length - (i + 1))
      case measure => have := HI.out; have := HLT.out; omega
      case rel => exact ⟨i + 1, _, _, by go_num, Lib.hid (by have := HLT.out; omega), HT9, HR9, HB9⟩
    · have hni : ¬ (i : Int) < O.length := by omega
      obtain rfl : i = O.length := by have := HI.out; omega
      clear hlt HI
      go_wp2_with fail
      go_ret
      exact ⟨⟨some ⟨w.heap.size, 0, none⟩, O.length, rfl, rows_C rfl (by have := HS.out.1; omega) HT.out (fun i hi => by
        obtain ⟨_, h2, h3⟩ := Kd.R_reads' (HR.out i hi)
        exact ⟨h3, h2⟩), Nat.le_refl _⟩, HB.out⟩
end Go.Proofs.Ytcobihdjcdefmaa
