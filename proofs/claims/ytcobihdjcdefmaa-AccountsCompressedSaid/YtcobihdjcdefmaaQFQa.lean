/-
  A network in memory, arrays of numbers; the walks of from, to, cost, spare.
  The walk of steps.
  Arrays of numbers in memory; the walk of push.
  The walks of Clone (of numbers) and balance.
  Arrays of labels in memory; the walk of cheapest.
-/
import Derived.Test.YtcobihdjcdefmaaQFPa
import Derived.Test.YtcobihdjcdefmaaQBa
import Derived.Lib.Hide
import Derived.Deep.RegionLaw
namespace Go.Proofs.Ytcobihdjcdefmaa
open PAccountsCompress
open Go.RowKit Go.Proofs.YtcobihdjcdefmaaW.PrintWords
def arcF (l : List Ar) : Nat → Ar := fun i => l.getD i z69
/-- A network in memory: its own block, and the cells of its arcs and amounts. -/
structure NM (w : World) (g : Nat) (A1 : Option Addr) (c1 : Nat) (A2 : Option Addr) (c2 : Nat) (n : Int) (m : Nat) (A : Nat → Ar) (x : Nat → Int) : Prop where
  blk : Blk w g #[.int .i64 n, .slice A1 m c1, .slice A2 m c2] 116
  arc : ∀ i : Int, 0 ≤ i → i < m → ∃ ad, A1 = some ad ∧ w.cell? (ad.add (i.toNat * 4)) = some (.int .i64 (A i.toNat).f0) ∧ w.cell? ⟨(ad.add (i.toNat * 4)).block, (ad.add (i.toNat * 4)).off + 1, none⟩ = some (.int .i64 (A i.toNat).f1) ∧
    w.cell? ⟨(ad.add (i.toNat * 4)).block, (ad.add (i.toNat * 4)).off + 2, none⟩ = some (.int .i64 (A i.toNat).f2) ∧ w.cell? ⟨(ad.add (i.toNat * 4)).block, (ad.add (i.toNat * 4)).off + 3, none⟩ = some (.int .i64 (A i.toNat).f3)
  amt : ∀ i : Int, 0 ≤ i → i < m → ∃ ad, A2 = some ad ∧ w.cell? (ad.add i.toNat) = some (.int .i64 (x i.toNat))
theorem add_block (ad : Addr) (k : Nat) : (ad.add k).block = ad.block := by
  unfold Addr.add
  split <;> rfl
theorem NM.fr {F : Nat → Prop} {w w' : World} {g : Nat} {A1 : Option Addr} {c1 : Nat} {A2 : Option Addr} {c2 : Nat} {n : Int} {m : Nat} {A : Nat → Ar} {x : Nat → Int} (h : NM w g A1 c1 A2 c2 n m A x) (hf : Fr F w w') (hg : ¬ F g)
    (h1 : ∀ ad, A1 = some ad → ¬ F ad.block) (h2 : ∀ ad, A2 = some ad → ¬ F ad.block) : NM w' g A1 c1 A2 c2 n m A x :=
  ⟨h.blk.fr hf hg, fun i a b => by
    obtain ⟨ad, e, k0, k1, k2, k3⟩ := h.arc i a b
    have hn := h1 ad e
    rw [← add_block ad (i.toNat * 4)] at hn
    exact ⟨ad, e, hf.cell k0 hn, hf.cell k1 hn, hf.cell k2 hn, hf.cell k3 hn⟩, fun i a b => by
    obtain ⟨ad, e, k0⟩ := h.amt i a b
    exact ⟨ad, e, hf.cell k0 (by rw [add_block]; exact h2 ad e)⟩⟩
theorem NM.below {w w' : World} {g : Nat} {A1 : Option Addr} {c1 : Nat} {A2 : Option Addr} {c2 : Nat} {n : Int} {m : Nat} {A : Nat → Ar} {x : Nat → Int} (h : NM w g A1 c1 A2 c2 n m A x) (hb : Below w.heap.size w w') : NM w' g A1 c1 A2 c2 n m A x :=
  h.fr (Fr.of_below hb (fun _ => False)) (fun a => a) (fun _ _ a => a) (fun _ _ a => a)
theorem below_u {a b c : World} (h : Below a.heap.size a b) (k : Below b.heap.size b c) : Below a.heap.size a c := (Fr.trans (Fr.of_below h (fun _ => False)) (Fr.of_below k (fun _ => False)) (fun _ h => h.elim)).none_below
section
variable {g : Nat} {A1 : Option Addr} {c1 : Nat} {A2 : Option Addr} {c2 : Nat} {n : Int} {m : Nat} {A : Nat → Ar} {x : Nat → Int}
set_option maxRecDepth 100000 in
set_option maxHeartbeats 1600000 in
theorem from_any (w : World) (hN : NM w g A1 c1 A2 c2 n m A x) (s : Stp) (h0 : 0 ≤ s.f0) (h1 : s.f0 < m) :
    Calls Try.prog 87 #[.pointer (some ⟨g, 0, none⟩), .agg #[.int .i64 s.f0, .bool s.f1]] w fun e w' => e = .returned (.int .i64 (frm A s)) ∧ Below w.heap.size w w' := by
  obtain ⟨k, b⟩ := s
  simp only at *
  have hu := Try.underlying145
  have hN2 := hN.below (below_alloc (Below.refl _ _) (.cells #[.int .i64 k, .bool b] 145))
  obtain ⟨ad, rfl, k0, k1, k2, k3⟩ := hN2.arc k h0 h1
  have hB := hN2.blk
  have p1 := Blk.cell hB 1 rfl
  have p2 := Blk.cell hB 2 rfl
  clear hN hB hN2
  cases b <;>
  · go_enter Try.func87, Try.ntmps87
    go_wp2_with fail
    go_quiet (fail)
    go_wp2_with fail
    go_ret
    exact ⟨rfl, by repeat (first | exact Below.refl _ _ | apply below_alloc | apply pw_below_drewN | apply below_drew1)⟩
set_option maxRecDepth 100000 in
set_option maxHeartbeats 1600000 in
theorem cost_any (w : World) (hN : NM w g A1 c1 A2 c2 n m A x) (s : Stp) (h0 : 0 ≤ s.f0) (h1 : s.f0 < m) (hc : -32768 ≤ (A s.f0.toNat).f3 ∧ (A s.f0.toNat).f3 ≤ 32768) :
    Calls Try.prog 93 #[.pointer (some ⟨g, 0, none⟩), .agg #[.int .i64 s.f0, .bool s.f1]] w fun e w' => e = .returned (.int .i64 (cst A s)) ∧ Below w.heap.size w w' := by
  obtain ⟨k, b⟩ := s
  simp only at *
  have hu := Try.underlying145
  have hN2 := hN.below (below_alloc (Below.refl _ _) (.cells #[.int .i64 k, .bool b] 145))
  obtain ⟨ad, rfl, k0, k1, k2, k3⟩ := hN2.arc k h0 h1
  have hB := hN2.blk
  have p1 := Blk.cell hB 1 rfl
  have p2 := Blk.cell hB 2 rfl
  clear hN hB hN2
  have hw : IntKind.i64.wrap (-(A k.toNat).f3) = -(A k.toNat).f3 := IntWalk.i64_in _ (by omega)
  clear hc
  cases b <;>
  · go_enter Try.func93, Try.ntmps93
    go_wp2_with fail
    go_quiet (fail)
    go_wp2_with fail
    go_ret
    exact ⟨rfl, by repeat (first | exact Below.refl _ _ | apply below_alloc | apply pw_below_drewN | apply below_drew1)⟩
set_option maxRecDepth 100000 in
set_option maxHeartbeats 1600000 in
theorem spare_any (w : World) (hN : NM w g A1 c1 A2 c2 n m A x) (s : Stp) (h0 : 0 ≤ s.f0) (h1 : s.f0 < m) (hc : 0 ≤ (A s.f0.toNat).f2 ∧ (A s.f0.toNat).f2 ≤ 1099511627776) (hx : 0 ≤ x s.f0.toNat ∧ x s.f0.toNat ≤ (A s.f0.toNat).f2) :
    Calls Try.prog 88 #[.pointer (some ⟨g, 0, none⟩), .agg #[.int .i64 s.f0, .bool s.f1]] w fun e w' => e = .returned (.int .i64 (spr A x s)) ∧ Below w.heap.size w w' := by
  obtain ⟨k, b⟩ := s
  simp only at *
  have hu := Try.underlying145
  have hN2 := hN.below (below_alloc (Below.refl _ _) (.cells #[.int .i64 k, .bool b] 145))
  obtain ⟨ad, rfl, k0, k1, k2, k3⟩ := hN2.arc k h0 h1
  obtain ⟨ad2, rfl, k4⟩ := hN2.amt k h0 h1
  have hB := hN2.blk
  have p1 := Blk.cell hB 1 rfl
  have p2 := Blk.cell hB 2 rfl
  clear hN hB hN2
  have hw : IntKind.i64.wrap ((A k.toNat).f2 - x k.toNat) = (A k.toNat).f2 - x k.toNat := IntWalk.i64_in _ (by omega)
  clear hc hx
  cases b <;>
  · go_enter Try.func88, Try.ntmps88
    go_wp2_with fail
    go_quiet (fail)
    go_wp2_with fail
    go_ret
    exact ⟨rfl, by repeat (first | exact Below.refl _ _ | apply below_alloc | apply pw_below_drewN | apply below_drew1)⟩
set_option maxRecDepth 100000 in
set_option maxHeartbeats 1600000 in
theorem to_any (w : World) (hN : NM w g A1 c1 A2 c2 n m A x) (s : Stp) (h0 : 0 ≤ s.f0) (h1 : s.f0 < m) :
    Calls Try.prog 94 #[.pointer (some ⟨g, 0, none⟩), .agg #[.int .i64 s.f0, .bool s.f1]] w fun e w' => e = .returned (.int .i64 (tow A s)) ∧ Below w.heap.size w w' := by
  obtain ⟨k, b⟩ := s
  simp only at *
  have hu := Try.underlying145
  have hb := below_alloc (Below.refl w.heap.size w) (.cells #[.int .i64 k, .bool b] 145)
  have H := Lib.hid (from_any _ (hN.below hb) ⟨k, !b⟩ h0 h1)
  have HB := Lib.hid hb
  clear hN hb
  go_enter Try.func94, Try.ntmps94
  go_wp2_with fail
  refine H.out.mono ?_
  rintro e w1 ⟨rfl, hb1⟩
  have hb2 := below_u HB.out hb1
  go_wp2_with fail
  go_ret
  exact ⟨by rw [← rev_frm]; rfl, hb2⟩
end
end Go.Proofs.Ytcobihdjcdefmaa
namespace Go.Proofs.Ytcobihdjcdefmaa
open PAccountsCompress
open Go.RowKit Go.Proofs.YtcobihdjcdefmaaW.PrintWords
theorem below_am {a b : World} (h : Below a.heap.size a b) (o : Obj) : Below a.heap.size a (b.alloc o) := h.alloc h.size o
def partS (A : Nat → Ar) (x : Nat → Int) (i : Nat) : Nat → List Stp
  | 0 => []
  | 1 => if 0 < spr A x ⟨i, false⟩ then [⟨i, false⟩] else []
  | _ => (if 0 < spr A x ⟨i, false⟩ then [⟨i, false⟩] else []) ++ (if 0 < spr A x ⟨i, true⟩ then [⟨i, true⟩] else [])
theorem partS_len (A : Nat → Ar) (x : Nat → Int) (i j : Nat) : (partS A x i j).length ≤ 2 := by
  unfold partS
  split
  · simp
  · split <;> simp
  · split <;> split <;> simp
theorem stepsF_part (A : Nat → Ar) (x : Nat → Int) (i : Nat) : stepsF A x i ++ partS A x i 2 = stepsF A x (i + 1) := rfl
theorem stepsF_len (A : Nat → Ar) (x : Nat → Int) (i : Nat) : (stepsF A x i).length ≤ 2 * i := by
  induction i with
  | zero => simp [stepsF]
  | succ i ih =>
    have := partS_len A x i 2
    rw [← stepsF_part, List.length_append]
    omega
theorem partS_next (A : Nat → Ar) (x : Nat → Int) (i j : Nat) (hj : j < 2) : partS A x i (j + 1) = partS A x i j ++ (if 0 < spr A x ⟨i, j == 1⟩ then [⟨i, j == 1⟩] else []) := by
  rcases (show j = 0 ∨ j = 1 by omega) with rfl | rfl
  · simp [partS]
  · simp [partS]
section
variable {g : Nat} {A1 : Option Addr} {c1 : Nat} {A2 : Option Addr} {c2 : Nat} {n : Int} {m : Nat} {A : Nat → Ar} {x : Nat → Int}
set_option maxRecDepth 100000 in
set_option maxHeartbeats 4000000 in
theorem steps_any (w : World) (hN : NM w g A1 c1 A2 c2 n m A x) (hm : m ≤ 100000) (hc : ∀ i, i < m → 0 ≤ (A i).f2 ∧ (A i).f2 ≤ 1099511627776) (hx : Valid m A x) :
    Calls Try.prog 95 #[.pointer (some ⟨g, 0, none⟩)] w fun e w' => ∃ v, e = .returned v ∧ Kd.R k145 145 w' w.heap.size (fun _ => True) v (stepsF A x m) ∧ Below w.heap.size w w' := by
  have hu := Try.underlying145
  have hu2 := Try.underlying159
  have p0 := Blk.cell hN.blk 1 rfl
  have HN := Lib.hid hN
  have HC := Lib.hid hc
  have HX := Lib.hid hx
  have HM := Lib.hid hm
  clear hN hc hx hm
  go_enter Try.func95, Try.ntmps95
  go_wp2_with fail
  go_loopg [3, 12] m (fun k v3 v12 wr => ∃ i : Nat, v12 = .int .i64 i ∧ Hid (i + k = m) ∧ Hid (Kd.R k145 145 wr w.heap.size (fun _ => True) v3 (stepsF A x i)) ∧ Hid (Below w.heap.size w wr))
  case atStart => exact ⟨0, rfl, Lib.hid (by omega), Lib.hid (Kd.R_nil _ _ _ _ _), Lib.hid (Below.refl _ _)⟩
  case round =>
    obtain ⟨i, rfl, HI, HR, HB⟩ := hrel
    by_cases hlt : i < m
    · have HL := Lib.hid hlt
      have hi0 : (i : Int) < m := by omega
      have hw : IntKind.i64.wrap ((i : Int) + 1) = i + 1 := IntWalk.i64_in _ (by have := HM.out; omega)
      go_wp2_with fail
      go_loopg [3, 20] 2 (fun k v3 v20 wq => ∃ j : Nat, v20 = .int .i64 j ∧ Hid (j + k = 2) ∧ Hid (Kd.R k145 145 wq w.heap.size (fun _ => True) v3 (stepsF A x i ++ partS A x i j)) ∧ Hid (Below w.heap.size w wq))
      case atStart => exact ⟨0, rfl, Lib.hid (by omega), Lib.hid (by simpa [partS] using HR.out), HB⟩
      case round =>
        obtain ⟨j, rfl, HJ, HR2, HB2⟩ := hrel
        by_cases hj : j < 2
        · rcases (show j = 0 ∨ j = 1 by omega) with rfl | rfl
          · have x0 : ∀ w : World, (Instr.index 159 (.agg #[.int .i64 i, .bool false, .int .i64 i, .bool true]) (.int .i64 0)).run Try.prog w = .ok (.agg #[.int .i64 i, .bool false]) w := fun _ => by kernel_rfl
            have hB3 := below_am HB2.out (.cells #[.int .i64 i, .bool false] 145)
            have HS := Lib.hid (spare_any _ (HN.out.below hB3) ⟨i, false⟩ (by simp) (by simpa using HL.out) (HC.out i HL.out) (HX.out i HL.out))
            have HG := Lib.hid hB3
            have HP : Hid (partS A x i (0 + 1) = partS A x i 0 ++ (if 0 < spr A x ⟨i, false⟩ then [(⟨i, false⟩ : Stp)] else [])) := Lib.hid (partS_next A x i 0 (by decide))
            clear hB3
            by_cases hs : 0 < spr A x ⟨i, false⟩
            · have hd : decide (0 < spr A x ⟨i, false⟩) = true := decide_eq_true hs
              have HQ : Hid ((if 0 < spr A x ⟨i, false⟩ then [(⟨i, false⟩ : Stp)] else []) = [⟨i, false⟩]) := Lib.hid (if_pos hs)
              clear hs
              go_wp2_with fail
              refine HS.out.mono ?_
              rintro e w1 ⟨rfl, hb⟩
              have hB4 := below_u HG.out hb
              have hR4 := Kd.R_below (Kd.R_alloc HR2.out (.cells #[.int .i64 i, .bool false] 145)) hb
              have q0 := Blk.cell (Blk.fr (Blk.new wr #[.int .i64 i, .bool false] 145) (Fr.of_below hb (fun _ => False)) (fun a => a)) 0 rfl
              have q1 := Blk.cell (Blk.fr (Blk.new wr #[.int .i64 i, .bool false] 145) (Fr.of_below hb (fun _ => False)) (fun a => a)) 1 rfl
              have HB4 := Lib.hid hB4
              have HR4 := Lib.hid hR4
              clear hB4 hR4 hb
              go_wp2_with (at_builtin; refine Kd.R_append k145 (w0 := w) w.heap.size rfl _ _ 148 145 (.agg #[.int .i64 0, .bool false]) 16 rfl Try.underlying148 info145 rfl (by decide) (by omega) u3 (stepsF A x i ++ partS A x i 0) ⟨i, false⟩ [.int .i64 i, .bool false] (fun _ => True) (fun _ => False) rfl rfl (k145_mkM _ _ _ ⟨i, false⟩) (fun _ hk => hk.elim) (fun _ _ => trivial) HR4.out HB4.out HB4.out.size (by have h1 := stepsF_len A x i; have h2 := partS_len A x i 0; have h3 := HM.out; have h4 := HL.out; rw [List.length_append]; omega) ?_; intro v5 w5 hR5 hb5 hg5 hat5)
              go_roundg 1
              case measure => have := HJ.out; omega
              case rel => exact ⟨1, by go_num, Lib.hid (by omega), Lib.hid (by rw [HP.out, HQ.out, ← List.append_assoc]; exact hR5), Lib.hid hb5⟩
            · have hd : decide (0 < spr A x ⟨i, false⟩) = false := decide_eq_false hs
              have HQ : Hid ((if 0 < spr A x ⟨i, false⟩ then [(⟨i, false⟩ : Stp)] else []) = []) := Lib.hid (if_neg hs)
              clear hs
              go_wp2_with fail
              refine HS.out.mono ?_
              rintro e w1 ⟨rfl, hb⟩
              have HB4 := Lib.hid (below_u HG.out hb)
              have HR4 := Lib.hid (Kd.R_below (Kd.R_alloc HR2.out (.cells #[.int .i64 i, .bool false] 145)) hb)
              clear hb
              go_wp2_with fail
              go_roundg (1)
              case measure => have := HJ.out; omega
              case rel => exact ⟨1, by go_num, Lib.hid (by omega), Lib.hid (by rw [HP.out, HQ.out, List.append_nil]; exact HR4.out), HB4⟩
          · have x0 : ∀ w : World, (Instr.index 159 (.agg #[.int .i64 i, .bool false, .int .i64 i, .bool true]) (.int .i64 1)).run Try.prog w = .ok (.agg #[.int .i64 i, .bool true]) w := fun _ => by kernel_rfl
            have hB3 := below_am HB2.out (.cells #[.int .i64 i, .bool true] 145)
            have HS := Lib.hid (spare_any _ (HN.out.below hB3) ⟨i, true⟩ (by simp) (by simpa using HL.out) (HC.out i HL.out) (HX.out i HL.out))
            have HG := Lib.hid hB3
            have HP : Hid (partS A x i (1 + 1) = partS A x i 1 ++ (if 0 < spr A x ⟨i, true⟩ then [(⟨i, true⟩ : Stp)] else [])) := Lib.hid (partS_next A x i 1 (by decide))
            clear hB3
            by_cases hs : 0 < spr A x ⟨i, true⟩
            · have hd : decide (0 < spr A x ⟨i, true⟩) = true := decide_eq_true hs
              have HQ : Hid ((if 0 < spr A x ⟨i, true⟩ then [(⟨i, true⟩ : Stp)] else []) = [⟨i, true⟩]) := Lib.hid (if_pos hs)
              clear hs
              go_wp2_with fail
              refine HS.out.mono ?_
              rintro e w1 ⟨rfl, hb⟩
              have hB4 := below_u HG.out hb
              have hR4 := Kd.R_below (Kd.R_alloc HR2.out (.cells #[.int .i64 i, .bool true] 145)) hb
              have q0 := Blk.cell (Blk.fr (Blk.new wr #[.int .i64 i, .bool true] 145) (Fr.of_below hb (fun _ => False)) (fun a => a)) 0 rfl
              have q1 := Blk.cell (Blk.fr (Blk.new wr #[.int .i64 i, .bool true] 145) (Fr.of_below hb (fun _ => False)) (fun a => a)) 1 rfl
              have HB4 := Lib.hid hB4
              have HR4 := Lib.hid hR4
              clear hB4 hR4 hb
              go_wp2_with (at_builtin; refine Kd.R_append k145 (w0 := w) w.heap.size rfl _ _ 148 145 (.agg #[.int .i64 0, .bool false]) 16 rfl Try.underlying148 info145 rfl (by decide) (by omega) u3 (stepsF A x i ++ partS A x i 1) ⟨i, true⟩ [.int .i64 i, .bool true] (fun _ => True) (fun _ => False) rfl rfl (k145_mkM _ _ _ ⟨i, true⟩) (fun _ hk => hk.elim) (fun _ _ => trivial) HR4.out HB4.out HB4.out.size (by have h1 := stepsF_len A x i; have h2 := partS_len A x i 1; have h3 := HM.out; have h4 := HL.out; rw [List.length_append]; omega) ?_; intro v5 w5 hR5 hb5 hg5 hat5)
              go_roundg 0
              case measure => have := HJ.out; omega
              case rel => exact ⟨2, by go_num, Lib.hid (by omega), Lib.hid (by rw [HP.out, HQ.out, ← List.append_assoc]; exact hR5), Lib.hid hb5⟩
            · have hd : decide (0 < spr A x ⟨i, true⟩) = false := decide_eq_false hs
              have HQ : Hid ((if 0 < spr A x ⟨i, true⟩ then [(⟨i, true⟩ : Stp)] else []) = []) := Lib.hid (if_neg hs)
              clear hs
              go_wp2_with fail
              refine HS.out.mono ?_
              rintro e w1 ⟨rfl, hb⟩
              have HB4 := Lib.hid (below_u HG.out hb)
              have HR4 := Lib.hid (Kd.R_below (Kd.R_alloc HR2.out (.cells #[.int .i64 i, .bool true] 145)) hb)
              clear hb
              go_wp2_with fail
              go_roundg (0)
              case measure => have := HJ.out; omega
              case rel => exact ⟨2, by go_num, Lib.hid (by omega), Lib.hid (by rw [HP.out, HQ.out, List.append_nil]; exact HR4.out), HB4⟩
        · have HE : Hid (j = 2) := Lib.hid (by have := HJ.out; omega)
          go_wp2_with fail
          go_roundg (m - (i + 1))
          case measure => have := HI.out; omega
          case rel => exact ⟨i + 1, by go_num, Lib.hid (by omega), Lib.hid (by rw [← stepsF_part, ← HE.out]; exact HR2.out), HB2⟩
    · have HE : Hid (i = m) := Lib.hid (by have := HI.out; omega)
      go_wp2_with fail
      go_ret
      exact ⟨_, rfl, by rw [← HE.out]; exact HR.out, HB.out⟩
end
end Go.Proofs.Ytcobihdjcdefmaa
namespace Go.Proofs.Ytcobihdjcdefmaa
open PAccountsCompress
open Go.RowKit Go.Proofs.YtcobihdjcdefmaaW.PrintWords
/-- A part that does not panic: what the panics ask for may be left out. -/
def Calm (Q : Exit → Act → World → Prop) : Exit → Act → World → Prop
  | .normal, a, w => Q .normal a w
  | _, _, _ => False
theorem calm {P : Program} {c : Code} {Q : Exit → Act → World → Prop} {a : Act} {w : World} (h : c.wp P (Calm Q) a w) : c.wp P Q a w := fun b k cs => by
  obtain ⟨e, a', w', hq, hs⟩ := h b k cs
  cases e with
  | normal => exact ⟨.normal, a', w', hq, hs⟩
  | _ => exact hq.elim
/-- An array of one-cell values in a block of its own (which may have more cells). -/
def TV (w : World) (g : Nat) (t : TypeId) (n : Nat) (f : Nat → Value) : Prop := ∃ cs, Blk w g cs t ∧ ∀ i, i < n → cs[i]? = some (f i)
theorem TV.cell {w : World} {g : Nat} {t : TypeId} {n : Nat} {f : Nat → Value} (h : TV w g t n f) {i : Nat} (hi : i < n) : w.cell? ⟨g, i, none⟩ = some (f i) := by
  obtain ⟨cs, h1, h2⟩ := h
  exact Blk.cell h1 i (h2 i hi)
theorem TV.free {w : World} {g : Nat} {t : TypeId} {n : Nat} {f : Nat → Value} (h : TV w g t n f) (i : Nat) : w.frozen? ⟨g, i, none⟩ = false := by
  obtain ⟨cs, h1, h2⟩ := h
  exact Blk.free h1 i
theorem TV.set {w : World} {g : Nat} {t : TypeId} {n : Nat} {f : Nat → Value} (h : TV w g t n f) (i : Nat) (v : Value) : TV (w.setCell ⟨g, i, none⟩ v) g t n (fun j => if j = i then v else f j) := by
  obtain ⟨cs, h1, h2⟩ := h
  refine ⟨_, Blk.set h1 i v, fun j hj => ?_⟩
  have h3 := h2 j hj
  have h4 := (Array.getElem?_eq_some_iff.1 h3).1
  rw [Array.getElem?_setIfInBounds]
  by_cases e : i = j
  · subst e; rw [if_pos rfl, if_pos h4]; simp
  · rw [if_neg e, h3]; simp only; rw [if_neg (fun e2 : j = i => e e2.symm)]
theorem TV.fr {F : Nat → Prop} {w w' : World} {g : Nat} {t : TypeId} {n : Nat} {f : Nat → Value} (h : TV w g t n f) (hf : Fr F w w') (hn : ¬ F g) : TV w' g t n f := by
  obtain ⟨cs, h1, h2⟩ := h
  exact ⟨cs, Blk.fr h1 hf hn, h2⟩
theorem TV.below {w w' : World} {g : Nat} {t : TypeId} {n : Nat} {f : Nat → Value} (h : TV w g t n f) (hb : Below w.heap.size w w') : TV w' g t n f := h.fr (Fr.of_below hb (fun _ => False)) (fun a => a)
theorem TV.alloc {w : World} {g : Nat} {t : TypeId} {n : Nat} {f : Nat → Value} (h : TV w g t n f) (o : Obj) : TV (w.alloc o) g t n f := h.below (below_alloc (Below.refl _ _) o)
theorem TV.lt {w : World} {g : Nat} {t : TypeId} {n : Nat} {f : Nat → Value} (h : TV w g t n f) : g < w.heap.size := by
  obtain ⟨cs, h1, h2⟩ := h
  exact Blk.lt h1
theorem TV.congr {w : World} {g : Nat} {t : TypeId} {n : Nat} {f f' : Nat → Value} (h : TV w g t n f) (e : ∀ i, i < n → f i = f' i) : TV w g t n f' := by
  obtain ⟨cs, h1, h2⟩ := h
  exact ⟨cs, h1, fun i hi => by rw [← e i hi]; exact h2 i hi⟩
theorem made_one (z : Value) (n i : Nat) (h : i < n) : (madeCells #[z] n)[i]? = some z := by
  simp [madeCells, Nat.mod_one, h]
theorem TV.made (w : World) (z : Value) (t : TypeId) (n : Nat) : TV (w.alloc (.cells (madeCells #[z] n) t (0, 0))) w.heap.size t n (fun _ => z) := ⟨_, Blk.new _ _ _, fun i hi => made_one z n i hi⟩
/-- An array of numbers. -/
abbrev TI (w : World) (g n : Nat) (f : Nat → Int) : Prop := TV w g 3 n (fun i => .int .i64 (f i))
theorem TI.set {w : World} {g n : Nat} {f : Nat → Int} (h : TI w g n f) (i : Nat) (c : Int) : TI (w.setCell ⟨g, i, none⟩ (.int .i64 c)) g n (setN f i c) :=
  (TV.set h i (.int .i64 c)).congr fun j _ => by unfold setN; split <;> rfl
/-- An array of truth values. -/
abbrev TB (w : World) (g n : Nat) (f : Nat → Bool) : Prop := TV w g 4 n (fun i => .bool (f i))
theorem NM.owned {w : World} {g : Nat} {A1 : Option Addr} {c1 ga c2 : Nat} {n : Int} {m : Nat} {A : Nat → Ar} {x x' : Nat → Int} (h : NM w g A1 c1 (some ⟨ga, 0, none⟩) c2 n m A x) {w' : World} (hf : Fr (fun b => b = ga) w w') (hg : g ≠ ga)
    (h1 : 0 < m → ∀ ad, A1 = some ad → ad.block ≠ ga) (ht : TI w' ga m x') : NM w' g A1 c1 (some ⟨ga, 0, none⟩) c2 n m A x' :=
  ⟨h.blk.fr hf hg, fun i a b => by
    obtain ⟨ad, e, k0, k1, k2, k3⟩ := h.arc i a b
    have hn := h1 (by omega) ad e
    rw [← add_block ad (i.toNat * 4)] at hn
    exact ⟨ad, e, hf.cell k0 hn, hf.cell k1 hn, hf.cell k2 hn, hf.cell k3 hn⟩, fun i a b => ⟨_, rfl, by
    have := TV.cell ht (i := i.toNat) (by omega)
    have e : (⟨ga, 0, none⟩ : Addr).add i.toNat = ⟨ga, i.toNat, none⟩ := by
      unfold Addr.add
      split
      · next h => rw [h]
      · simp
    rw [e]; exact this⟩⟩
section
variable {g : Nat} {A1 : Option Addr} {c1 : Nat} {ga c2 : Nat} {n : Int} {m : Nat} {A : Nat → Ar} {x : Nat → Int}
theorem putP_snoc (d : Int) (x : Nat → Int) (P : List Stp) {k : Nat} {s : Stp} (h : P[k]? = some s) : putP d x (P.take (k + 1)) = putS d (putP d x (P.take k)) s := by
  have hk := (List.getElem?_eq_some_iff.1 h).1
  have he := (List.getElem?_eq_some_iff.1 h).2
  rw [List.take_succ_eq_append_getElem hk, he]
  unfold putP
  rw [List.foldl_append]
  rfl
theorem putP_take {d : Int} {P : List Stp} (hP : PathOk m P) {k : Nat} {s : Stp} (h : P[k]? = some s) : putP d x (P.take k) s.f0.toNat = x s.f0.toNat := by
  have hk := (List.getElem?_eq_some_iff.1 h).1
  have he := (List.getElem?_eq_some_iff.1 h).2
  have e : P = P.take k ++ P.drop k := (List.take_append_drop k P).symm
  have hd : P.drop k = s :: P.drop (k + 1) := by rw [List.drop_eq_getElem_cons hk, he]
  have hsub : PathOk m (P.take k) := ⟨fun t ht => hP.rng t (List.mem_of_mem_take ht), by have := hP.dif; rw [e, List.map_append, List.nodup_append] at this; exact this.1⟩
  refine putP_out hsub fun t ht g => ?_
  have h2 := hP.dif
  rw [e, hd, List.map_append, List.nodup_append] at h2
  have h3 := (hP.rng s (List.mem_of_getElem? h)).1
  exact h2.2.2 t.f0 (List.mem_map.2 ⟨t, ht, rfl⟩) s.f0 (List.mem_map.2 ⟨s, List.mem_cons_self .., rfl⟩) (by omega)
set_option maxRecDepth 100000 in
set_option maxHeartbeats 4000000 in
theorem push_any (w : World) (hN : NM w g A1 c1 (some ⟨ga, 0, none⟩) c2 n m A x) (hT : TI w ga m x) (hg : g ≠ ga) (P : List Stp) (AP : Option Addr) (cP : Nat) (hC : ∀ w', Fr (fun b => b = ga) w w' → Kd.C k145 w' AP P.length P)
    (hP : PathOk m P) (d : Int) (hd : 0 ≤ d ∧ d ≤ 1099511627776) (hx : ∀ i, i < m → 0 ≤ x i ∧ x i ≤ 1099511627776) (hl : P.length ≤ 100000) :
    Calls Try.prog 89 #[.pointer (some ⟨g, 0, none⟩), .slice AP P.length cP, .int .i64 d] w fun e w' => (∃ v, e = .returned v) ∧ TI w' ga m (putP d x P) ∧ Fr (fun b => b = ga) w w' := by
  have hu := Try.underlying145
  have HC := Lib.hid hC
  have HP := Lib.hid hP
  have HX := Lib.hid hx
  have HT := Lib.hid hT
  have HN := Lib.hid hN.blk
  have HD := Lib.hid hd
  have HL := Lib.hid hl
  have HG := Lib.hid hg
  clear hC hP hx hT hN hd hl hg
  go_enter Try.func89, Try.ntmps89
  go_wp2_with fail
  go_loopg [10] P.length (fun k v10 wr => ∃ i : Nat, v10 = .int .i64 i ∧ Hid (i + k = P.length) ∧ Hid (TI wr ga m (putP d x (P.take i))) ∧ Hid (Fr (fun b => b = ga) w wr))
  case atStart => exact ⟨0, rfl, Lib.hid (by omega), Lib.hid HT.out, Lib.hid (Fr.refl _ _)⟩
  case round =>
    obtain ⟨i, rfl, HI, HT2, HF⟩ := hrel
    by_cases hlt : i < P.length
    · obtain ⟨s, hs⟩ : ∃ s, P[i]? = some s := ⟨_, List.getElem?_eq_getElem hlt⟩
      have hC := HC.out wr HF.out
      obtain ⟨ad, rfl, k0, k1⟩ := at_T145 hC (i : Int) (by omega) (by omega)
      have es : rd_T145 P (i : Int) = s := by unfold rd_T145; rw [Int.toNat_natCast, List.getD_eq_getElem?_getD, hs]; rfl
      rw [es, Int.toNat_natCast] at k0 k1
      have hr := HP.out.rng s (List.mem_of_getElem? hs)
      have hv := putP_take (x := x) (d := d) HP.out hs
      have HS := Lib.hid (putP_snoc d x P hs)
      have hxs := HX.out s.f0.toNat (by omega)
      have hdd := HD.out
      have hi0 : (i : Int) < P.length := by omega
      have hw : IntKind.i64.wrap ((i : Int) + 1) = i + 1 := IntWalk.i64_in _ (by have := HL.out; omega)
      have hN4 := (HN.out.fr HF.out HG.out).alloc (.cells #[.int .i64 s.f0, .bool s.f1] 145)
      have p2 := Blk.cell hN4 2 rfl
      have hT4 : TI (wr.alloc (.cells #[.int .i64 s.f0, .bool s.f1] 145)) ga m (putP d x (P.take i)) := TV.alloc HT2.out _
      have q0 := TV.cell hT4 (i := s.f0.toNat) (by omega)
      have q1 := TV.free hT4 s.f0.toNat
      rw [hv] at q0
      have hF4 := HF.out.alloc (.cells #[.int .i64 s.f0, .bool s.f1] 145)
      obtain ⟨sa, sb⟩ := s
      simp only at *
      clear hs hC es HT2 HN HC HX
      have r0 := hr.1
      have r1 := hr.2
      clear hr
      cases sb with
      | true =>
        have hw2 : IntKind.i64.wrap (x sa.toNat - d) = x sa.toNat - d := IntWalk.i64_in _ (by omega)
        have hT5 := TI.set hT4 sa.toNat (x sa.toNat - d)
        have e5 : setN (putP d x (P.take i)) sa.toNat (x sa.toNat - d) = putP d x (P.take (i + 1)) := by
          rw [HS.out]
          unfold putS
          simp only [hv]
          rfl
        rw [e5] at hT5
        have HT5 := Lib.hid hT5
        have HF5 := Lib.hid (hF4.setCell (p := ⟨ga, sa.toNat, none⟩) (.inl rfl) (.int .i64 (x sa.toNat - d)))
        clear hT4 hT5 e5 hF4 hN4 hxs hdd hv
        go_wp2_with fail
        refine calm ?_
        go_region_law (first | fail)
        all_goals
          simp only [Calm]
          go_wp2_with fail
          go_roundg (P.length - (i + 1))
          case measure => have := HI.out; omega
          case rel => exact ⟨i + 1, by go_num, Lib.hid (by omega), HT5, Lib.hid HF5.out.drew⟩
      | false =>
        have hw2 : IntKind.i64.wrap (x sa.toNat + d) = x sa.toNat + d := IntWalk.i64_in _ (by omega)
        have hT5 := TI.set hT4 sa.toNat (x sa.toNat + d)
        have e5 : setN (putP d x (P.take i)) sa.toNat (x sa.toNat + d) = putP d x (P.take (i + 1)) := by
          rw [HS.out]
          unfold putS
          simp only [hv]
          rfl
        rw [e5] at hT5
        have HT5 := Lib.hid hT5
        have HF5 := Lib.hid (hF4.setCell (p := ⟨ga, sa.toNat, none⟩) (.inl rfl) (.int .i64 (x sa.toNat + d)))
        clear hT4 hT5 e5 hF4 hN4 hxs hdd hv
        go_wp2_with fail
        refine calm ?_
        go_region_law (first | fail)
        all_goals
          simp only [Calm]
          go_wp2_with fail
          go_roundg (P.length - (i + 1))
          case measure => have := HI.out; omega
          case rel => exact ⟨i + 1, by go_num, Lib.hid (by omega), HT5, Lib.hid HF5.out.drew⟩
    · have HE : Hid (i = P.length) := Lib.hid (by have := HI.out; omega)
      go_wp2_with fail
      first | go_end0 | ((try simp only [Exit.inBlock, Exit.then]); refine bodyPost_ret (results_none rfl _ _ _) rfl ?_)
      exact ⟨⟨_, rfl⟩, by have := HT2.out; rw [HE.out, List.take_length] at this; exact this, HF.out⟩
end
end Go.Proofs.Ytcobihdjcdefmaa
namespace Go.Proofs.Ytcobihdjcdefmaa
open PAccountsCompress
open Go.RowKit Go.Proofs.YtcobihdjcdefmaaW.PrintWords
theorem R_TI {w : World} {base : Nat} {ok : Nat → Prop} {v : Value} {xs : List Int} (h : Kd.R (Kd.int .i64) 3 w base ok v xs) (hp : 0 < xs.length) : ∃ b c, v = .slice (some ⟨b, 0, none⟩) xs.length c ∧ ok b ∧ TI w b xs.length (fun i => xs.getD i 0) := by
  obtain ⟨b, c, e, h1, h2, cells, hc⟩ := Kd.R_form h hp
  subst e
  refine ⟨b, c, rfl, h.1 b (by simp [Value.ownBlock]), cells, hc, fun i hi => ?_⟩
  have := (Kd.R_celln 0 h (i : Int) (by omega) (by omega)).1
  rw [Int.toNat_natCast] at this
  simpa [World.cell?, hc, rdOf] using this
set_option maxRecDepth 100000 in
set_option maxHeartbeats 4000000 in
theorem cloneI_any (w : World) (ad : Addr) (c : Nat) (xs : List Int) (hC : Kd.C (Kd.int .i64) w (some ad) xs.length xs) (hp : 0 < xs.length) (hl : xs.length ≤ 100000) :
    Calls Try.prog 83 #[.slice (some ad) xs.length c] w fun e w' => (∃ b c', e = .returned (.slice (some ⟨b, 0, none⟩) xs.length c') ∧ w.heap.size ≤ b ∧ TI w' b xs.length (fun i => xs.getD i 0)) ∧ Below w.heap.size w w' := by
  have he := Lib.run_eql_slice_nil (P := Try.prog) w 32 3 (some ad) xs.length c 0 0 Try.underlying32
  have hC2 := Kd.C_below hC ((Below.refl _ w).alloc (Nat.le_refl _) (.cells #[] 3))
  have hnew : Kd.R (Kd.int .i64) 3 (w.alloc (.cells #[] 3)) 0 (fun k => w.heap.size ≤ k) (.slice (some ⟨w.heap.size, 0, none⟩) 0 0) [] :=
    ⟨fun k hk => by have : w.heap.size = k := by simpa [Value.ownBlock] using hk
                    omega, [], ⟨by simp, .inr ⟨w.heap.size, 0, #[], rfl, Nat.zero_le _, (MapKept.heap_alloc w _).1, Nat.le_refl _, by decide, by simp, by simp⟩⟩, Reps.none _ _⟩
  have hKM : ∀ (x : Int) (cs : List Value), (Kd.int .i64).K (w.alloc (.cells #[] 3)) x cs → (Kd.int .i64).M (w.alloc (.cells #[] 3)) 0 (fun _ => False) x cs := fun x cs hK => hK
  have hfresh : ∀ k, (w.alloc (.cells #[] 3)).heap.size ≤ k → w.heap.size ≤ k := fun k hk => by simp at hk; omega
  have hl' : (([] : List Int).length + xs.length) * 8 ≤ 140737488355328 := by simp; omega
  have HP := Lib.hid hp
  clear hp
  go_enter Try.func83, Try.ntmps83
  go_wp2_with (at_builtin; refine Kd.R_append_rows (Kd.int .i64) (Rr := (Kd.int .i64).K (w.alloc (.cells #[] 3))) (w0 := w.alloc (.cells #[] 3)) 0 rfl _ _ 32 3 (.int .i64 0) 8 rfl Try.underlying32 info3 rfl (by decide) (by decide) (.slice (some ⟨w.heap.size, 0, none⟩) 0 0) [] xs (some ad) xs.length c (fun k => w.heap.size ≤ k) (fun _ => False) rfl rfl hnew hC2 hKM (fun _ hk => hk.elim) hfresh (Below.refl _ _) (Nat.zero_le _) hl' ?_; intro v1 w1 hR1 hb1 hg1 hat1)
  have hbb : Below w.heap.size w w1 := ((Fr.of_below ((Below.refl w.heap.size w).alloc (Nat.le_refl _) (.cells #[] 3)) (fun _ => False)).grown hg1 (fun k hk => .inr (by simp [Value.ownBlock] at hk; omega))).none_below
  rw [List.nil_append] at hR1
  obtain ⟨b, c', rfl, hb, ht⟩ := R_TI hR1 HP.out
  go_ret
  exact ⟨⟨b, c', rfl, hb, ht⟩, hbb⟩
theorem balF_abs {m : Nat} {A : Nat → Ar} {x : Nat → Int} (hx : ∀ i, i < m → 0 ≤ x i ∧ x i ≤ 1099511627776) (v : Int) : ∀ i, i ≤ m → -(i * 1099511627776) ≤ balF i A x v ∧ balF i A x v ≤ i * 1099511627776
  | 0, _ => by simp [balF, sumN]
  | i + 1, hi => by
    have ih := balF_abs (A := A) hx v i (by omega)
    have := hx i (by omega)
    have e : balF (i + 1) A x v = balF i A x v + ((if (A i).f0 = v then x i else 0) - (if (A i).f1 = v then x i else 0)) := rfl
    rw [e]
    split <;> split <;> omega
theorem balF_step {i : Nat} {A : Nat → Ar} {x : Nat → Int} (h0 : 0 ≤ (A i).f0) (h1 : 0 ≤ (A i).f1) (hne : (A i).f0 ≠ (A i).f1) :
    (fun v : Nat => balF (i + 1) A x v) = setN (setN (fun v => balF i A x v) (A i).f0.toNat (balF i A x (A i).f0.toNat + x i)) (A i).f1.toNat (balF i A x (A i).f1.toNat - x i) := by
  funext v
  have e : balF (i + 1) A x v = balF i A x v + ((if (A i).f0 = v then x i else 0) - (if (A i).f1 = v then x i else 0)) := rfl
  rw [e]
  simp only [setN]
  by_cases c1 : v = (A i).f1.toNat
  · rw [if_pos c1, if_neg (by omega), if_pos (by omega), c1]; omega
  · rw [if_neg c1]
    by_cases c0 : v = (A i).f0.toNat
    · rw [if_pos c0, if_pos (by omega), if_neg (by omega), c0]; omega
    · rw [if_neg c0, if_neg (by omega), if_neg (by omega)]; omega
section
variable {g : Nat} {A1 : Option Addr} {c1 : Nat} {A2 : Option Addr} {c2 : Nat} {n m : Nat} {A : Nat → Ar} {x : Nat → Int}
theorem NM.lt1 {n : Int} {w : World} (h : NM w g A1 c1 A2 c2 n m A x) (hm : 0 < m) {ad : Addr} (e : A1 = some ad) : ad.block < w.heap.size := by
  obtain ⟨ad', e', k0, _⟩ := h.arc 0 (by omega) (by omega)
  obtain rfl : ad = ad' := by rw [e] at e'; injection e'
  have := World.block_lt_of_cell? _ _ k0
  rwa [add_block] at this
theorem NM.lt2 {n : Int} {w : World} (h : NM w g A1 c1 A2 c2 n m A x) (hm : 0 < m) {ad : Addr} (e : A2 = some ad) : ad.block < w.heap.size := by
  obtain ⟨ad', e', k0⟩ := h.amt 0 (by omega) (by omega)
  obtain rfl : ad = ad' := by rw [e] at e'; injection e'
  have := World.block_lt_of_cell? _ _ k0
  rwa [add_block] at this
theorem make_int (W : World) {n : Nat} (hn : n ≤ 100000) : (Instr.makeSlice 32 (.int .i64 n) (.int .i64 n)).run Try.prog W = .ok (.slice (some ⟨W.heap.size, 0, none⟩) n n) (W.alloc (.cells (madeCells #[.int .i64 0] n) 3 (0, 0))) := by
  obtain ⟨i0, hi, hz⟩ := Option.map_eq_some_iff.1 info3
  obtain ⟨z0, z1, z2⟩ : i0.zero = some (.int .i64 0) ∧ i0.size = 1 ∧ i0.bytes = 8 := by simpa using hz
  have h := run_make W 32 3 i0 (.int .i64 0) Try.underlying32 hi z0 .i64 .i64 (n : Int) (n : Int) (by omega) (Int.le_refl _) (by rw [z2]; omega) (by omega)
  rw [z1, Int.toNat_natCast, Nat.mul_one] at h
  exact h
set_option maxRecDepth 100000 in
set_option maxHeartbeats 4000000 in
theorem balance_net (w : World) (hN : NM w g A1 c1 A2 c2 (n : Int) m A x) (hnet : Net n m A) (hm : m ≤ 100000) (hn : n ≤ 100000) (hx : ∀ i, i < m → 0 ≤ x i ∧ x i ≤ 1099511627776) :
    Calls Try.prog 84 #[.pointer (some ⟨g, 0, none⟩)] w fun e w' => (e = .returned (.slice (some ⟨w.heap.size, 0, none⟩) n n) ∧ TI w' w.heap.size n (fun v => balF m A x v)) ∧ Below w.heap.size w w' := by
  have hu := Try.underlying69
  have hmk := make_int w hn
  have hB1 := below_alloc (Below.refl w.heap.size w) (.cells (madeCells #[.int .i64 0] n) 3 (0, 0))
  have hT1 : TI (w.alloc (.cells (madeCells #[.int .i64 0] n) 3 (0, 0))) w.heap.size n (fun v => balF 0 A x v) := TV.made w (.int .i64 0) 3 n
  have p0 := Blk.cell hN.blk 0 rfl
  have hN1 := hN.below hB1
  have p1 := Blk.cell hN1.blk 1 rfl
  have HN := Lib.hid hN
  have HT := Lib.hid hT1
  have HB := Lib.hid hB1
  have HX := Lib.hid hx
  have HE := Lib.hid hnet
  have HM := Lib.hid hm
  clear hN hT1 hB1 hx hnet hm hn hN1
  go_enter Try.func84, Try.ntmps84
  go_wp2_with fail
  go_loopg [16] m (fun k v16 wr => ∃ i : Nat, v16 = .int .i64 i ∧ Hid (i + k = m) ∧ Hid (TI wr w.heap.size n (fun v => balF i A x v)) ∧ Hid (Below w.heap.size w wr))
  case atStart => exact ⟨0, rfl, Lib.hid (by omega), HT, HB⟩
  case round =>
    clear HT HB p0 p1 hmk
    obtain ⟨i, rfl, HI, HT, HB⟩ := hrel
    by_cases hlt : i < m
    · have hi0 : (i : Int) < m := by omega
      obtain ⟨e1, e2, e3, e4, e5⟩ := HE.out i hlt
      have hxi := HX.out i hlt
      have b1 := balF_abs (A := A) HX.out (A i).f0 i (by omega)
      have b2 := balF_abs (A := A) HX.out (A i).f1 i (by omega)
      have hmm := HM.out
      have n1 : ((A i).f0.toNat : Int) = (A i).f0 := by omega
      have n2 : ((A i).f1.toNat : Int) = (A i).f1 := by omega
      have hw : IntKind.i64.wrap ((i : Int) + 1) = i + 1 := IntWalk.i64_in _ (by omega)
      have hw1 : IntKind.i64.wrap (balF i A x (A i).f0 + x i) = balF i A x (A i).f0 + x i := IntWalk.i64_in _ (by omega)
      have hw2 : IntKind.i64.wrap (balF i A x (A i).f1 - x i) = balF i A x (A i).f1 - x i := IntWalk.i64_in _ (by omega)
      have hNr := HN.out.below HB.out
      obtain ⟨ad, rfl, k0, k1, k2, k3⟩ := hNr.arc (i : Int) (by omega) hi0
      rw [Int.toNat_natCast] at k0 k1 k2 k3
      have HS := Lib.hid (balF_step (x := x) (i := i) e1 e3 e5)
      rw [n1, n2] at HS
      have hlt2 : w.heap.size < wr.heap.size := TV.lt HT.out
      have g1 : (A i).f0.toNat < n := by omega
      have g2 : (A i).f1.toNat < n := by omega
      have HNE := Lib.hid (show (A i).f1.toNat ≠ (A i).f0.toNat by omega)
      have G := Lib.hid (And.intro e1 (And.intro e2 (And.intro e3 e4)))
      clear hNr b1 b2 hmm hxi e5
      go_upto_region 5 with (fail)
      have hal := below_alloc (Below.refl wr.heap.size wr) (.cells #[.int .i64 (A i).f0, .int .i64 (A i).f1, .int .i64 (A i).f2, .int .i64 (A i).f3] 69)
      have hA4 := Blk.new wr #[.int .i64 (A i).f0, .int .i64 (A i).f1, .int .i64 (A i).f2, .int .i64 (A i).f3] 69
      generalize wr.alloc (.cells #[.int .i64 (A i).f0, .int .i64 (A i).f1, .int .i64 (A i).f2, .int .i64 (A i).f3] 69) = wa at *
      have hN4 := HN.out.below (below_u HB.out hal)
      have hT4 := TV.below HT.out hal
      have hB4 := below_u HB.out hal
      obtain ⟨ad2, rfl, k4⟩ := hN4.amt (i : Int) (by omega) hi0
      rw [Int.toNat_natCast] at k4
      have p2 := Blk.cell hN4.blk 2 rfl
      have q0 : wa.cell? ⟨w.heap.size, (A i).f0.toNat, none⟩ = some (.int .i64 (balF i A x (A i).f0)) := by have := TV.cell hT4 g1; simp only [n1] at this; exact this
      have q1 := TV.free hT4 (A i).f0.toNat
      have r0 := Blk.cell hA4 0 rfl
      have HN4 := Lib.hid hN4
      have HB4 := Lib.hid hB4
      have HA4 := Lib.hid hA4
      have HT4 := Lib.hid hT4
      have HLT := Lib.hid (And.intro hlt2 hi0)
      clear hN4 hB4 hA4 hT4 hal k0 k1 k2 k3
      go_cut [5] (fun s5 wx => s5 = .pointer (some ⟨wr.heap.size, 0, none⟩) ∧ wx = (wa.setCell ⟨w.heap.size, (A i).f0.toNat, none⟩ (.int .i64 (balF i A x (A i).f0 + x i))).drew)
      case first =>
        refine calm ?_
        go_region_law (first | fail)
        all_goals
          simp only [Calm]
          go_wp2_with fail
          go_meet
          exact ⟨rfl, rfl⟩
      case rest =>
        obtain ⟨rfl, hwc⟩ := hcut
        have hF5 : Fr (fun b => b = w.heap.size) wa wc := by rw [hwc]; exact ((Fr.refl (fun b => b = w.heap.size) wa).setCell (p := ⟨w.heap.size, (A i).f0.toNat, none⟩) (.inl rfl) _).drew
        have hT5 : TI wc w.heap.size n (setN (fun v => balF i A x v) (A i).f0.toNat (balF i A x (A i).f0 + x i)) := by rw [hwc]; exact TI.set HT4.out (A i).f0.toNat (balF i A x (A i).f0 + x i)
        have hB5 : Below w.heap.size w wc := by rw [hwc]; exact ((HB4.out).setCell (p := ⟨w.heap.size, (A i).f0.toNat, none⟩) (Nat.le_refl _) _).drew
        clear hwc q0 q1 p2 r0 k4
        have hlt2 := HLT.out.1
        have hgl : g < w.heap.size := HN.out.blk.lt
        have hN5 := HN4.out.fr hF5 (by omega) (fun ad e => by have := NM.lt1 HN.out (by omega) e; omega) (fun ad e => by have := NM.lt2 HN.out (by omega) e; omega)
        obtain ⟨ad3, e3, k4⟩ := hN5.amt (i : Int) (by omega) HLT.out.2
        obtain rfl : ad2 = ad3 := by injection e3
        rw [Int.toNat_natCast] at k4
        have p2 := Blk.cell hN5.blk 2 rfl
        have hA5 := HA4.out.fr hF5 (by omega)
        have r1 := Blk.cell hA5 1 rfl
        have q0 : wc.cell? ⟨w.heap.size, (A i).f1.toNat, none⟩ = some (.int .i64 (balF i A x (A i).f1)) := by
          have h1 := TV.cell hT5 g2
          simp only [setN] at h1
          rw [if_neg HNE.out, n2] at h1
          exact h1
        have q1 := TV.free hT5 (A i).f1.toNat
        have HT6 := Lib.hid (show TI (wc.setCell ⟨w.heap.size, (A i).f1.toNat, none⟩ (.int .i64 (balF i A x (A i).f1 - x i))) w.heap.size n (fun v => balF (i + 1) A x v) by rw [HS.out]; exact TI.set hT5 (A i).f1.toNat (balF i A x (A i).f1 - x i))
        have HB6 := Lib.hid (hB5.setCell (p := ⟨w.heap.size, (A i).f1.toNat, none⟩) (Nat.le_refl _) (.int .i64 (balF i A x (A i).f1 - x i))).drew
        clear hN5 hA5 hT5 hB5 hF5 e3 n1 n2
        have e3 := G.out.2.2.1
        have e4 := G.out.2.2.2
        go_wp2_with fail
        refine calm ?_
        go_region_law (first | fail)
        all_goals
          simp only [Calm]
          go_wp2_with fail
          go_roundg (m - (i + 1))
          case measure => have := HI.out; omega
          case rel => exact ⟨i + 1, by go_num, Lib.hid (by have := HI.out; omega), HT6, HB6⟩
    · have HE : Hid (i = m) := Lib.hid (by have := HI.out; omega)
      go_wp2_with fail
      go_ret
      exact ⟨⟨rfl, by rw [← HE.out]; exact HT.out⟩, HB.out⟩
end
end Go.Proofs.Ytcobihdjcdefmaa
namespace Go.Proofs.Ytcobihdjcdefmaa
open PAccountsCompress
open Go.RowKit Go.Proofs.YtcobihdjcdefmaaW.PrintWords
/-- An array of labels in a block of its own. -/
def TL (w : World) (g n : Nat) (L : Int → Lb) : Prop := ∃ cs, Blk w g cs 147 ∧ ∀ v : Nat, v < n → cs[v * 4]? = some (.int .i64 (L v).f0) ∧ cs[v * 4 + 1]? = some (.int .i64 (L v).f1) ∧ cs[v * 4 + 2]? = some (.int .i64 (L v).f2.f0) ∧ cs[v * 4 + 3]? = some (.bool (L v).f2.f1)
section
variable {w : World} {g n : Nat} {L : Int → Lb}
theorem TL.cells (h : TL w g n L) {v : Nat} (hv : v < n) : w.cell? ⟨g, v * 4, none⟩ = some (.int .i64 (L v).f0) ∧ w.cell? ⟨g, v * 4 + 1, none⟩ = some (.int .i64 (L v).f1) ∧ w.cell? ⟨g, v * 4 + 2, none⟩ = some (.int .i64 (L v).f2.f0) ∧ w.cell? ⟨g, v * 4 + 3, none⟩ = some (.bool (L v).f2.f1) := by
  obtain ⟨cs, h1, h2⟩ := h
  obtain ⟨a, b, c, d⟩ := h2 v hv
  exact ⟨Blk.cell h1 _ a, Blk.cell h1 _ b, Blk.cell h1 _ c, Blk.cell h1 _ d⟩
theorem TL.free (h : TL w g n L) (i : Nat) : w.frozen? ⟨g, i, none⟩ = false := by
  obtain ⟨cs, h1, h2⟩ := h
  exact Blk.free h1 i
theorem TL.fr {F : Nat → Prop} {w' : World} (h : TL w g n L) (hf : Fr F w w') (hn : ¬ F g) : TL w' g n L := by
  obtain ⟨cs, h1, h2⟩ := h
  exact ⟨cs, Blk.fr h1 hf hn, h2⟩
theorem TL.below {w' : World} (h : TL w g n L) (hb : Below w.heap.size w w') : TL w' g n L := h.fr (Fr.of_below hb (fun _ => False)) (fun a => a)
theorem TL.lt (h : TL w g n L) : g < w.heap.size := by
  obtain ⟨cs, h1, h2⟩ := h
  exact Blk.lt h1
theorem TL.congr {L' : Int → Lb} (h : TL w g n L) (e : ∀ v : Nat, v < n → L v = L' v) : TL w g n L' := by
  obtain ⟨cs, h1, h2⟩ := h
  exact ⟨cs, h1, fun v hv => by rw [← e v hv]; exact h2 v hv⟩
theorem set_get {α : Type} (cs : Array α) (i j : Nat) (v x : α) (hx : cs[j]? = some x) : (cs.setIfInBounds i v)[j]? = if i = j then some v else some x := by
  have h4 := (Array.getElem?_eq_some_iff.1 hx).1
  rw [Array.getElem?_setIfInBounds]
  by_cases e : i = j
  · subst e; rw [if_pos rfl, if_pos rfl, if_pos h4]
  · rw [if_neg e, if_neg e]; exact hx
/-- The four cells of a label turned. -/
theorem TL.set (h : TL w g n L) {v : Nat} (hv : v < n) (c : Lb) :
    TL ((((w.setCell ⟨g, v * 4, none⟩ (.int .i64 c.f0)).setCell ⟨g, v * 4 + 1, none⟩ (.int .i64 c.f1)).setCell ⟨g, v * 4 + 2, none⟩ (.int .i64 c.f2.f0)).setCell ⟨g, v * 4 + 3, none⟩ (.bool c.f2.f1)) g n (updL L v c) := by
  obtain ⟨cs, h1, h2⟩ := h
  refine ⟨_, Blk.set (Blk.set (Blk.set (Blk.set h1 _ _) _ _) _ _) _ _, fun u hu => ?_⟩
  obtain ⟨a0, a1, a2, a3⟩ := h2 u hu
  have key : ∀ (j : Nat) (x : Value), cs[u * 4 + j]? = some x → j < 4 → ((((cs.setIfInBounds (v * 4) (.int .i64 c.f0)).setIfInBounds (v * 4 + 1) (.int .i64 c.f1)).setIfInBounds (v * 4 + 2) (.int .i64 c.f2.f0)).setIfInBounds (v * 4 + 3) (.bool c.f2.f1))[u * 4 + j]? =
      some (if u = v then (if j = 0 then .int .i64 c.f0 else if j = 1 then .int .i64 c.f1 else if j = 2 then .int .i64 c.f2.f0 else .bool c.f2.f1) else x) := fun j x hx hj => by
    by_cases e : u = v
    · subst e
      rw [if_pos rfl]
      rcases (show j = 0 ∨ j = 1 ∨ j = 2 ∨ j = 3 by omega) with rfl | rfl | rfl | rfl
      · rw [set_get _ _ _ _ (.int .i64 c.f0) (by rw [set_get _ _ _ _ (.int .i64 c.f0) (by rw [set_get _ _ _ _ (.int .i64 c.f0) (by rw [set_get _ _ _ _ _ hx, if_pos (by omega)]), if_neg (by omega)]), if_neg (by omega)]), if_neg (by omega)]; rfl
      · rw [set_get _ _ _ _ (.int .i64 c.f1) (by rw [set_get _ _ _ _ (.int .i64 c.f1) (by rw [set_get _ _ _ _ x (by rw [set_get _ _ _ _ _ hx, if_neg (by omega)]), if_pos rfl]), if_neg (by omega)]), if_neg (by omega)]; rfl
      · rw [set_get _ _ _ _ (.int .i64 c.f2.f0) (by rw [set_get _ _ _ _ x (by rw [set_get _ _ _ _ x (by rw [set_get _ _ _ _ _ hx, if_neg (by omega)]), if_neg (by omega)]), if_pos rfl]), if_neg (by omega)]; rfl
      · rw [set_get _ _ _ _ x (by rw [set_get _ _ _ _ x (by rw [set_get _ _ _ _ x (by rw [set_get _ _ _ _ _ hx, if_neg (by omega)]), if_neg (by omega)]), if_neg (by omega)]), if_pos rfl]; rfl
    · rw [if_neg e]
      rw [set_get _ _ _ _ x (by rw [set_get _ _ _ _ x (by rw [set_get _ _ _ _ x (by rw [set_get _ _ _ _ _ hx, if_neg (by omega)]), if_neg (by omega)]), if_neg (by omega)]), if_neg (by omega)]
  have b0 := key 0 _ (by simpa using a0) (by omega)
  have b1 := key 1 _ a1 (by omega)
  have b2 := key 2 _ a2 (by omega)
  have b3 := key 3 _ a3 (by omega)
  rw [Nat.add_zero] at b0
  by_cases e : u = v
  · subst e
    rw [updL_eq]
    simp only [if_true] at b0 b1 b2 b3
    exact ⟨b0, b1, b2, b3⟩
  · rw [updL_ne (by omega)]
    simp only [if_neg e] at b0 b1 b2 b3
    exact ⟨b0, b1, b2, b3⟩
theorem TL.set0 (h : TL w g n L) {v : Nat} (_hv : v < n) (c : Int) : TL (w.setCell ⟨g, v * 4, none⟩ (.int .i64 c)) g n (updL L v ⟨c, (L v).f1, (L v).f2⟩) := by
  obtain ⟨cs, h1, h2⟩ := h
  refine ⟨_, Blk.set h1 _ _, fun u hu => ?_⟩
  obtain ⟨a0, a1, a2, a3⟩ := h2 u hu
  by_cases e : u = v
  · subst e
    rw [updL_eq]
    exact ⟨by rw [set_get _ _ _ _ _ a0, if_pos rfl], by rw [set_get _ _ _ _ _ a1, if_neg (by omega)], by rw [set_get _ _ _ _ _ a2, if_neg (by omega)], by rw [set_get _ _ _ _ _ a3, if_neg (by omega)]⟩
  · rw [updL_ne (by omega)]
    exact ⟨by rw [set_get _ _ _ _ _ a0, if_neg (by omega)], by rw [set_get _ _ _ _ _ a1, if_neg (by omega)], by rw [set_get _ _ _ _ _ a2, if_neg (by omega)], by rw [set_get _ _ _ _ _ a3, if_neg (by omega)]⟩
end
theorem info147 : (Try.prog.info? 147).map (fun i => (i.zero, i.size, i.bytes)) = some (some (.agg #[(.int .i64 0), (.int .i64 0), (.int .i64 0), (.bool false)]), 4, 32) := by kernel_rfl
theorem make_lbs (W : World) {n : Nat} (hn : n ≤ 100000) : (Instr.makeSlice 142 (.int .i64 n) (.int .i64 n)).run Try.prog W = .ok (.slice (some ⟨W.heap.size, 0, none⟩) n n) (W.alloc (.cells (madeCells #[.int .i64 0, .int .i64 0, .int .i64 0, .bool false] (n * 4)) 147 (0, 0))) := by
  obtain ⟨i0, hi, hz⟩ := Option.map_eq_some_iff.1 info147
  obtain ⟨z0, z1, z2⟩ : i0.zero = some (.agg #[(.int .i64 0), (.int .i64 0), (.int .i64 0), (.bool false)]) ∧ i0.size = 4 ∧ i0.bytes = 32 := by simpa using hz
  have h := run_make W 142 147 i0 _ Try.underlying142 hi z0 .i64 .i64 (n : Int) (n : Int) (by omega) (Int.le_refl _) (by rw [z2]; omega) (by omega)
  rw [z1, Int.toNat_natCast] at h
  exact h
theorem TL.made (w : World) (n : Nat) : TL (w.alloc (.cells (madeCells #[.int .i64 0, .int .i64 0, .int .i64 0, .bool false] (n * 4)) 147 (0, 0))) w.heap.size n (fun _ => ⟨0, 0, z145⟩) := by
  refine ⟨_, Blk.new _ _ _, fun v hv => ?_⟩
  refine ⟨?_, ?_, ?_, ?_⟩
  · simp [madeCells, show v * 4 < n * 4 by omega]
  · simp [madeCells, show v * 4 + 1 < n * 4 by omega, show (v * 4 + 1) % 4 = 1 by omega]
  · simp [madeCells, show v * 4 + 2 < n * 4 by omega, show (v * 4 + 2) % 4 = 2 by omega, z145]
  · simp [madeCells, show v * 4 + 3 < n * 4 by omega, show (v * 4 + 3) % 4 = 3 by omega, z145]
section
variable {g : Nat} {A1 : Option Addr} {c1 : Nat} {A2 : Option Addr} {c2 : Nat} {n m : Nat} {A : Nat → Ar} {x : Nat → Int} {S : Int → Bool} {q : Int → Int}
/-- Labels of which the first i are laid. -/
def iniK (S : Int → Bool) (i : Nat) : Int → Lb := fun v => if v < i then iniL S v else ⟨0, 0, z145⟩
theorem iniK_next (S : Int → Bool) (i : Nat) : updL (iniK S i) i ⟨if S i then 0 else far, 0, z145⟩ = iniK S (i + 1) := by
  funext v
  unfold iniK
  by_cases e : v = i
  · subst e; rw [updL_eq, if_pos (show (i : Int) < ((i + 1 : Nat) : Int) by omega)]; rfl
  · rw [updL_ne e]
    by_cases h : v < i
    · rw [if_pos h, if_pos (by omega)]
    · rw [if_neg h, if_neg (by omega)]
theorem ini_HI {n : Nat} {q : Int → Int} (S : Int → Bool) : HI n q (iniL S) := HI.ini fun v hv => by
  cases h : S v with
  | false => exact absurd (by show (if S v = true then (0 : Int) else far) = far; rw [h]; rfl) hv
  | true => exact ⟨by show (if S v = true then (0 : Int) else far) = 0; rw [h]; rfl, rfl⟩
/-- What a step's own block and a label say stays in what grows. -/
theorem keepU {wb W : World} {bs gb u : Nat} {s : Stp} {l : Lb} (h0 : wb.cell? ⟨bs, 0, none⟩ = some (.int .i64 s.f0)) (h1 : wb.cell? ⟨bs, 1, none⟩ = some (.bool s.f1))
    (k0 : wb.cell? ⟨gb, u * 4, none⟩ = some (.int .i64 l.f0)) (k1 : wb.cell? ⟨gb, u * 4 + 1, none⟩ = some (.int .i64 l.f1)) (k2 : wb.cell? ⟨gb, u * 4 + 2, none⟩ = some (.int .i64 l.f2.f0)) (k3 : wb.cell? ⟨gb, u * 4 + 3, none⟩ = some (.bool l.f2.f1)) (hb : Below wb.heap.size wb W) :
    W.cell? ⟨bs, 0, none⟩ = some (.int .i64 s.f0) ∧ W.cell? ⟨bs, 1, none⟩ = some (.bool s.f1) ∧ W.cell? ⟨gb, u * 4, none⟩ = some (.int .i64 l.f0) ∧ W.cell? ⟨gb, u * 4 + 1, none⟩ = some (.int .i64 l.f1) ∧ W.cell? ⟨gb, u * 4 + 2, none⟩ = some (.int .i64 l.f2.f0) ∧ W.cell? ⟨gb, u * 4 + 3, none⟩ = some (.bool l.f2.f1) ∧ Below wb.heap.size wb W :=
  have hf := Fr.of_below hb (fun _ => False)
  ⟨hf.cell h0 (fun a => a), hf.cell h1 (fun a => a), hf.cell k0 (fun a => a), hf.cell k1 (fun a => a), hf.cell k2 (fun a => a), hf.cell k3 (fun a => a), hb⟩
theorem keepV {wb W : World} {bs bu : Nat} {s : Stp} {u v : Int} (k0 : wb.cell? ⟨bu, 0, none⟩ = some (.int .i64 u)) (k1 : wb.cell? ⟨bu, 1, none⟩ = some (.int .i64 v)) (h0 : wb.cell? ⟨bs, 0, none⟩ = some (.int .i64 s.f0)) (h1 : wb.cell? ⟨bs, 1, none⟩ = some (.bool s.f1)) (hb : Below wb.heap.size wb W) :
    W.cell? ⟨bu, 0, none⟩ = some (.int .i64 u) ∧ W.cell? ⟨bu, 1, none⟩ = some (.int .i64 v) ∧ W.cell? ⟨bs, 0, none⟩ = some (.int .i64 s.f0) ∧ W.cell? ⟨bs, 1, none⟩ = some (.bool s.f1) ∧ Below wb.heap.size wb W :=
  have hf := Fr.of_below hb (fun _ => False)
  ⟨hf.cell k0 (fun a => a), hf.cell k1 (fun a => a), hf.cell h0 (fun a => a), hf.cell h1 (fun a => a), hb⟩
set_option maxRecDepth 100000 in
set_option maxHeartbeats 8000000 in
theorem cheapest_any (w : World) (hN : NM w g A1 c1 A2 c2 (n : Int) m A x) (hok : NetOk n m A) (hx : Valid m A x) (hq : Feas m A x q) (hq0 : ∀ v, q v ≤ 0) (hq1 : ∀ v : Int, 0 ≤ v → v < n → -(n * 32768) ≤ q v) (gs cs : Nat) (hS : TB w gs n (fun v => S v)) :
    Calls Try.prog 85 #[.pointer (some ⟨g, 0, none⟩), .slice (some ⟨gs, 0, none⟩) n cs] w fun e w' => (∃ b, e = .returned (.slice (some ⟨b, 0, none⟩) n n) ∧ w.heap.size ≤ b ∧ ∃ L, TL w' b n L ∧ LI n A 32768 (stepsF A x m) S q L ∧ RestL A (stepsF A x m) L) ∧ Below w.heap.size w w' := by
  have hu := Try.underlying145
  have hu5 := Try.underlying147
  have hn1 := hok.n1
  have hn2 := hok.n2
  have hmk := make_lbs w (n := n) (by omega)
  have hB1 := below_alloc (Below.refl w.heap.size w) (.cells (madeCells #[.int .i64 0, .int .i64 0, .int .i64 0, .bool false] (n * 4)) 147 (0, 0))
  have hT1 := (TL.made w n).congr (L' := iniK S 0) (fun v _ => by unfold iniK; rw [if_neg (by omega)])
  have p0 := Blk.cell hN.blk 0 rfl
  have HN := Lib.hid hN
  have HT := Lib.hid hT1
  have HB := Lib.hid hB1
  have HS := Lib.hid hS
  have HO := Lib.hid hok
  have HX := Lib.hid hx
  have HQ := Lib.hid hq
  have HQ0 := Lib.hid hq0
  have HQ1 := Lib.hid hq1
  have HN1 := Lib.hid hn1
  have HN2 := Lib.hid hn2
  clear hN hT1 hB1 hS hok hx hq hq0 hq1 hn1 hn2
  go_enter Try.func85, Try.ntmps85
  go_wp2_with fail
  go_loopg [6, 21] n (fun k v6 v21 wr => ∃ i : Nat, v21 = .int .i64 i ∧ Hid (i + k = n) ∧ Hid (TL wr w.heap.size n (iniK S i)) ∧ Hid (Below w.heap.size w wr))
  case atStart => exact ⟨0, rfl, Lib.hid (by omega), HT, HB⟩
  case round =>
    clear HT HB p0 hmk
    obtain ⟨i, rfl, HI, HT, HB⟩ := hrel
    by_cases hlt : i < n
    · have hi0 : (i : Int) < n := by omega
      have hw : IntKind.i64.wrap ((i : Int) + 1) = i + 1 := IntWalk.i64_in _ (by have := HN2.out; omega)
      obtain ⟨a0, a1, a2, a3⟩ := TL.cells HT.out hlt
      have f0 := TL.free HT.out (i * 4)
      have f1 := TL.free HT.out (i * 4 + 1)
      have f2 := TL.free HT.out (i * 4 + 2)
      have f3 := TL.free HT.out (i * 4 + 3)
      have HL := Lib.hid (And.intro hlt hi0)
      go_upto_region 6 with (fail)
      have hT5 := TL.set HT.out hlt ⟨far, 0, z145⟩
      have hB5 := (((((HB.out).setCell (p := ⟨w.heap.size, i * 4, none⟩) (Nat.le_refl _) (.int .i64 far)).setCell (p := ⟨w.heap.size, i * 4 + 1, none⟩) (Nat.le_refl _) (.int .i64 0)).setCell (p := ⟨w.heap.size, i * 4 + 2, none⟩) (Nat.le_refl _) (.int .i64 0)).setCell (p := ⟨w.heap.size, i * 4 + 3, none⟩) (Nat.le_refl _) (.bool false))
      simp only [z145, far] at hT5 hB5
      generalize (((wr.setCell ⟨w.heap.size, i * 4, none⟩ (.int .i64 1152921504606846976)).setCell ⟨w.heap.size, i * 4 + 1, none⟩ (.int .i64 0)).setCell ⟨w.heap.size, i * 4 + 2, none⟩ (.int .i64 0)).setCell ⟨w.heap.size, i * 4 + 3, none⟩ (.bool false) = wa at *
      have hs0 := TV.cell (HS.out.fr (Fr.of_below hB5 (fun _ => False)) (fun a => a)) HL.out.1
      have HIN := Lib.hid (iniK_next S i)
      obtain ⟨b0, b1, b2, b3⟩ := TL.cells hT5 HL.out.1
      have f0 := TL.free hT5 (i * 4)
      rw [updL_eq] at b0
      have HT5 := Lib.hid hT5
      have HB5 := Lib.hid hB5
      clear a0 a1 a2 a3 f1 f2 f3 b1 b2 b3 hT5 hB5 hlt hi0
      have hi0 := HL.out.2
      cases hv : S (i : Int) with
      | false =>
        simp only [hv] at hs0
        have HV := Lib.hid hv
        clear hv b0 f0
        go_wp2_with fail
        go_roundg (n - (i + 1))
        case measure => have := HI.out; omega
        case rel => exact ⟨i + 1, by go_num, Lib.hid (by have := HI.out; have := HL.out; omega), Lib.hid (by rw [← HIN.out, HV.out]; exact HT5.out), HB5⟩
      | true =>
        simp only [hv] at hs0
        have HV := Lib.hid hv
        have HT6 := Lib.hid (TL.set0 HT5.out HL.out.1 0)
        have HB6 := Lib.hid (HB5.out.setCell (p := ⟨w.heap.size, i * 4, none⟩) (Nat.le_refl _) (.int .i64 0))
        clear hv
        go_wp2_with fail
        go_roundg (n - (i + 1))
        case measure => have := HI.out; omega
        case rel => exact ⟨i + 1, by go_num, Lib.hid (by have := HI.out; have := HL.out; omega), Lib.hid (by
          rw [← HIN.out, HV.out]
          refine TL.congr HT6.out fun v hv => ?_
          by_cases e : (v : Int) = i
          · rw [e, updL_eq, updL_eq, updL_eq]; rfl
          · rw [updL_ne e, updL_ne e, updL_ne e]), HB6⟩
    · have HT0 : Hid (TL wr w.heap.size n (iniL S)) := Lib.hid (by
        have e : i = n := by have := HI.out; omega
        refine TL.congr HT.out fun v hv => ?_
        unfold iniK
        rw [if_pos (by omega)])
      have HST := Lib.hid (steps_any wr (HN.out.below HB.out) (by have := HO.out.m1; omega) HO.out.cap HX.out)
      clear HT HI
      go_wp2_with fail
      refine HST.out.mono ?_
      rintro e w2 ⟨v, rfl, hR, hb2⟩
      clear hlt
      obtain ⟨AS, cS, rfl, hlS, hCS⟩ := Kd.R_reads hR
      have hw0 : w.heap.size < wr.heap.size := TL.lt HT0.out
      have HCS : Hid (∀ W, Fr (fun b => b = w.heap.size) w2 W → Kd.C k145 W AS (stepsF A x m).length (stepsF A x m)) := Lib.hid (fun W hW => by
        have hR9 := Kd.R_move (w1 := W) (Kd.R_bound hR) (fun k hk => hW.block k hk.2.2.1 (fun hf => by have := hk.2.1; omega))
        obtain ⟨A', c', he, _, hC⟩ := Kd.R_reads hR9
        simp only [Value.slice.injEq] at he
        obtain ⟨rfl, _, _⟩ := he
        exact hC)
      have HT2 := Lib.hid (TL.below HT0.out hb2)
      have HB2 := Lib.hid (below_u HB.out hb2)
      have hLI : LI n A 32768 (stepsF A x m) S q (iniL S) := ini_LI S (by omega) HQ0.out
      have hSt := HO.out.steps x
      have HREST := Lib.hid (swpL_rest hSt (by omega) HO.out.far (feasL_iff.2 HQ.out) HQ1.out _ hLI)
      obtain ⟨K, hK⟩ := HREST.out
      have HK := Lib.hid hK
      have HLI := Lib.hid hLI
      have HSt := Lib.hid hSt
      have HLEN := Lib.hid (stepsF_len A x m)
      have HW0 := Lib.hid hw0
      clear hR hlS hCS hb2 hw0 hLI hSt HREST hK HT0 HST
      generalize hall : stepsF A x m = all at *
      have HALL := Lib.hid hall
      clear hall
      go_wp2_with fail
      go_loopg [8] (K + 1) (fun k v8 wq => ∃ (j : Nat) (b : Bool), v8 = .bool b ∧ Hid (b = true → j ≤ K ∧ j + k = K + 1) ∧ Hid (b = false → RestL A all (swpLs A all (iniL S) j)) ∧ Hid (LI n A 32768 all S q (swpLs A all (iniL S) j)) ∧ Hid (HI n q (swpLs A all (iniL S) j)) ∧ Hid (TL wq w.heap.size n (swpLs A all (iniL S) j)) ∧ Hid (Fr (fun b => b = w.heap.size) w2 wq))
      case atStart => exact ⟨0, true, rfl, Lib.hid (fun _ => ⟨by omega, by omega⟩), Lib.hid (fun h => absurd h (by simp)), HLI, Lib.hid (ini_HI S), HT2, Lib.hid (Fr.refl _ _)⟩
      case round =>
        clear HT2
        obtain ⟨j, b, rfl, HJ, HRST, HLJ, HHJ, HTJ, HFJ⟩ := hrel
        cases b with
        | false =>
          go_wp2_with fail
          go_ret
          exact ⟨⟨_, rfl, Nat.le_refl _, swpLs A all (iniL S) j, HTJ.out, by rw [HALL.out]; exact HLJ.out, by rw [HALL.out]; exact HRST.out (by simp)⟩, (Fr.trans (Fr.of_below HB2.out (fun _ => False)) HFJ.out (fun z hz => .inr (by omega))).none_below⟩
        | true =>
          have HJ1 : Hid (j ≤ K ∧ j + gk = K + 1) := Lib.hid (HJ.out (by simp))
          clear HJ HRST
          have HSW := Lib.hid (swpL_inv (S := S) HSt.out (by omega) HO.out.far (by rw [← HALL.out]; exact feasL_iff.2 HQ.out) HQ1.out)
          generalize hL0 : swpLs A all (iniL S) j = L0 at *
          have HL0 := Lib.hid hL0
          clear hL0
          go_wp2_with fail
          go_loopg [8, 42] all.length (fun k v8 v42 wv => ∃ t : Nat, v42 = .int .i64 t ∧ v8 = .bool (swpL A L0 false (all.take t)).2 ∧ Hid (t + k = all.length) ∧ Hid (LI n A 32768 all S q (swpL A L0 false (all.take t)).1) ∧ Hid (HI n q (swpL A L0 false (all.take t)).1) ∧ Hid (TL wv w.heap.size n (swpL A L0 false (all.take t)).1) ∧ Hid (Fr (fun b => b = w.heap.size) w2 wv))
          case atStart => exact ⟨0, rfl, rfl, Lib.hid (by omega), HLJ, HHJ, HTJ, HFJ⟩
          case round =>
            clear HTJ HFJ HHJ
            obtain ⟨t, rfl, rfl, HTK, HLT, HHT, HTT, HFT⟩ := hrel
            obtain ⟨wv, rfl⟩ : ∃ wv : World, wv = wr := ⟨_, rfl⟩
            by_cases hlt : t < all.length
            · obtain ⟨s, hs⟩ : ∃ s, all[t]? = some s := ⟨_, List.getElem?_eq_getElem hlt⟩
              have ht0 : (t : Int) < all.length := by omega
              have hC := HCS.out wv HFT.out
              obtain ⟨ad, rfl, k0, k1⟩ := at_T145 hC (t : Int) (by omega) ht0
              have es : rd_T145 all (t : Int) = s := by unfold rd_T145; rw [Int.toNat_natCast, List.getD_eq_getElem?_getD, hs]; rfl
              rw [es, Int.toNat_natCast] at k0 k1
              have hm := List.mem_of_getElem? hs
              have hSW : swpL A L0 false (all.take (t + 1)) = (relL A (swpL A L0 false (all.take t)).1 s, (swpL A L0 false (all.take t)).2 || hitL A (swpL A L0 false (all.take t)).1 s) := by
                rw [← swpL_snoc, List.take_succ_eq_append_getElem hlt, (List.getElem?_eq_some_iff.1 hs).2]
              have HNX := Lib.hid hSW
              have HM := Lib.hid hm
              have hw : IntKind.i64.wrap ((t : Int) + 1) = t + 1 := IntWalk.i64_in _ (by have := HLEN.out; have := HO.out.m1; omega)
              clear hs hC es hSW hm
              generalize (swpL A L0 false (all.take t)).1 = Lt at *
              generalize (swpL A L0 false (all.take t)).2 = bt at *
              obtain ⟨a1, a2, a3, a4, a5, a6, a7⟩ := HSt.out s HM.out
              have hrs := (mem_stepsF.1 (by rw [HALL.out]; exact HM.out : s ∈ stepsF A x m)).1
              have HRS := Lib.hid hrs
              have HA := Lib.hid (show (frm A s).toNat < n ∧ (tow A s).toNat < n ∧ ((frm A s).toNat : Int) = frm A s ∧ ((tow A s).toNat : Int) = tow A s by omega)
              have HLT2 := Lib.hid hlt
              clear a5 a6 a7 hrs hlt
              go_upto_region 16 with (fail)
              have hal := below_alloc (Below.refl wv.heap.size wv) (.cells #[.int .i64 s.f0, .bool s.f1] 145)
              have hA4 := Blk.new wv #[.int .i64 s.f0, .bool s.f1] 145
              generalize wv.alloc (.cells #[.int .i64 s.f0, .bool s.f1] 145) = wb at *
              have hF4 := HFT.out.below hal
              have hT4 := TL.below HTT.out hal
              have hN4 := (HN.out.below ((Fr.trans (Fr.of_below HB2.out (fun _ => False)) HFT.out (fun z hz => .inr (by omega))).none_below)).below hal
              have hbs : wv.heap.size ≠ w.heap.size := by have := TL.lt HTT.out; omega
              have HBS := Lib.hid hbs
              clear hbs
              obtain ⟨l0, l1, l2, l3⟩ := TL.cells hT4 HA.out.1
              rw [HA.out.2.2.1] at l0 l1 l2 l3
              have c0 := Blk.cell hA4 0 (v := .int .i64 s.f0) rfl
              have c1 := Blk.cell hA4 1 (v := .bool s.f1) rfl
              have HA4 := Lib.hid hA4
              have HN4 := Lib.hid hN4
              have HT4 := Lib.hid hT4
              have HF4 := Lib.hid hF4
              clear hal hA4 hF4 hT4 hN4 k0 k1
              go_cut [11, 12] (fun s11 s12 wx => ∃ bu : Nat, s11 = .pointer (some ⟨bu, 0, none⟩) ∧ s12 = .pointer (some ⟨w.heap.size, (tow A s).toNat * 4, none⟩) ∧ Blk wx bu #[.int .i64 (Lt (frm A s)).f0, .int .i64 (Lt (frm A s)).f1, .int .i64 (Lt (frm A s)).f2.f0, .bool (Lt (frm A s)).f2.f1] 147 ∧ wb.heap.size ≤ bu ∧ Below wb.heap.size wb wx)
              case first =>
                have S0 := keepU c0 c1 l0 l1 l2 l3 ((Below.refl _ wb).drew)
                have S1 := keepU c0 c1 l0 l1 l2 l3 (((Below.refl _ wb).alloc (Nat.le_refl _) (.cells #[.int .i64 0, .int .i64 0, .int .i64 0, .bool false] 147)).drew)
                have r0 := HRS.out.1
                have r1 := HRS.out.2
                go_region_held3 (fun w' => w'.cell? ⟨wv.heap.size, 0, none⟩ = some (.int .i64 s.f0) ∧ w'.cell? ⟨wv.heap.size, 1, none⟩ = some (.bool s.f1) ∧ w'.cell? ⟨w.heap.size, (frm A s).toNat * 4, none⟩ = some (.int .i64 (Lt (frm A s)).f0) ∧ w'.cell? ⟨w.heap.size, (frm A s).toNat * 4 + 1, none⟩ = some (.int .i64 (Lt (frm A s)).f1) ∧ w'.cell? ⟨w.heap.size, (frm A s).toNat * 4 + 2, none⟩ = some (.int .i64 (Lt (frm A s)).f2.f0) ∧ w'.cell? ⟨w.heap.size, (frm A s).toNat * 4 + 3, none⟩ = some (.bool (Lt (frm A s)).f2.f1) ∧ Below wb.heap.size wb w')
                  (first | (with_reducible exact S0) | (with_reducible exact S8) | (with_reducible exact S10 _) | (with_reducible exact S11 _ _ _ _) | (with_reducible exact S12 _ _ _ _) | (with_reducible exact S9) | (with_reducible exact S5) | (with_reducible exact S6) | (with_reducible exact S1) | (trace_state; fail))
                  (first
                    | (go_at_call 87; refine (from_any wb.drew (HN4.out.below S0.2.2.2.2.2.2) s r0 r1).mono ?_; rintro e w7 ⟨rfl, hb7⟩; have S5 := keepU c0 c1 l0 l1 l2 l3 (S0.2.2.2.2.2.2.trans hb7); have S6 := keepU c0 c1 l0 l1 l2 l3 (S5.2.2.2.2.2.2.alloc S5.2.2.2.2.2.2.size (.cells #[.int .i64 0, .int .i64 0, .int .i64 0, .bool false] 147)))
                    | (go_at_call 87; refine (from_any _ (HN4.out.below S1.2.2.2.2.2.2) s r0 r1).mono ?_; rintro e w7 ⟨rfl, hb7⟩; have S5 := keepU c0 c1 l0 l1 l2 l3 (S1.2.2.2.2.2.2.trans (hb7.mono (by simp))); have hBx : Blk w7 wb.heap.size #[.int .i64 0, .int .i64 0, .int .i64 0, .bool false] 147 := (hb7.block wb.heap.size (by simp)).trans (Blk.new wb _ 147))
                    | (go_at_call 94; refine (to_any w7 (HN4.out.below S5.2.2.2.2.2.2) s r0 r1).mono ?_; rintro e w8 ⟨rfl, hb8⟩; have S8 := keepU c0 c1 l0 l1 l2 l3 (S5.2.2.2.2.2.2.trans (hb8.mono S5.2.2.2.2.2.2.size)); have S10 := fun o => keepU c0 c1 l0 l1 l2 l3 (S8.2.2.2.2.2.2.alloc S8.2.2.2.2.2.2.size o); have S12 := fun v0 v1 v2 v3 => keepU c0 c1 l0 l1 l2 l3 ((((S8.2.2.2.2.2.2.setCell (p := ⟨wb.heap.size, 0, none⟩) (Nat.le_refl _) v0).setCell (p := ⟨wb.heap.size, 1, none⟩) (Nat.le_refl _) v1).setCell (p := ⟨wb.heap.size, 2, none⟩) (Nat.le_refl _) v2).setCell (p := ⟨wb.heap.size, 3, none⟩) (Nat.le_refl _) v3); try (have hBy := Blk.fr hBx (Fr.of_below hb8 (fun _ => False)) (fun a => a); have y0 := hBy.cell 0 (v := .int .i64 0) rfl; have y1 := hBy.cell 1 (v := .int .i64 0) rfl; have y2 := hBy.cell 2 (v := .int .i64 0) rfl; have y3 := hBy.cell 3 (v := .bool false) rfl; have z0 := hBy.free 0; have z1 := hBy.free 1; have z2 := hBy.free 2; have z3 := hBy.free 3))
                    | (go_at_call 94; refine (to_any _ (HN4.out.below S6.2.2.2.2.2.2) s r0 r1).mono ?_; rintro e w8 ⟨rfl, hb8⟩; have S9 := keepU c0 c1 l0 l1 l2 l3 (S6.2.2.2.2.2.2.trans (hb8.mono S6.2.2.2.2.2.2.size)); have S11 := fun v0 v1 v2 v3 => keepU c0 c1 l0 l1 l2 l3 ((((S9.2.2.2.2.2.2.setCell (p := ⟨w7.heap.size, 0, none⟩) S5.2.2.2.2.2.2.size v0).setCell (p := ⟨w7.heap.size, 1, none⟩) S5.2.2.2.2.2.2.size v1).setCell (p := ⟨w7.heap.size, 2, none⟩) S5.2.2.2.2.2.2.size v2).setCell (p := ⟨w7.heap.size, 3, none⟩) S5.2.2.2.2.2.2.size v3); have hBz := Blk.fr (Blk.new w7 #[.int .i64 0, .int .i64 0, .int .i64 0, .bool false] 147) (Fr.of_below hb8 (fun _ => False)) (fun a => a); have y0 := hBz.cell 0 (v := .int .i64 0) rfl; have y1 := hBz.cell 1 (v := .int .i64 0) rfl; have y2 := hBz.cell 2 (v := .int .i64 0) rfl; have y3 := hBz.cell 3 (v := .bool false) rfl; have z0 := hBz.free 0; have z1 := hBz.free 1; have z2 := hBz.free 2; have z3 := hBz.free 3))
                · go_wp2_with fail
                  go_meet
                  exact ⟨_, rfl, rfl, Blk.new w8 _ 147, S8.2.2.2.2.2.2.size, S8.2.2.2.2.2.2.alloc S8.2.2.2.2.2.2.size _⟩
                · go_wp2_with fail
                  go_meet
                  exact ⟨_, rfl, rfl, by simpa using (((hBz.set 0 (.int .i64 (Lt (frm A s)).f0)).set 1 (.int .i64 (Lt (frm A s)).f1)).set 2 (.int .i64 (Lt (frm A s)).f2.f0)).set 3 (.bool (Lt (frm A s)).f2.f1), S5.2.2.2.2.2.2.size, (S11 _ _ _ _).2.2.2.2.2.2⟩
                · go_wp2_with fail
                  go_meet
                  exact ⟨_, rfl, rfl, by simpa using (((hBy.set 0 (.int .i64 (Lt (frm A s)).f0)).set 1 (.int .i64 (Lt (frm A s)).f1)).set 2 (.int .i64 (Lt (frm A s)).f2.f0)).set 3 (.bool (Lt (frm A s)).f2.f1), Nat.le_refl _, (S12 _ _ _ _).2.2.2.2.2.2⟩
              case rest =>
                obtain ⟨bu, rfl, rfl, hBu, hge, hbw⟩ := hcut
                clear l0 l1 l2 l3 c0 c1
                have HFW := Lib.hid (HF4.out.below hbw)
                have HTW := Lib.hid (TL.below HT4.out hbw)
                have hA5 := HA4.out.fr (Fr.of_below hbw (fun _ => False)) (fun a => a)
                have hN5 := HN4.out.below hbw
                have u0 := Blk.cell hBu 0 (v := .int .i64 (Lt (frm A s)).f0) rfl
                have u1 := Blk.cell hBu 1 (v := .int .i64 (Lt (frm A s)).f1) rfl
                have HA5 := Lib.hid hA5
                have HN5 := Lib.hid hN5
                clear hA5 hN5 hbw HA4 HN4 HT4 HF4
                by_cases hfar : (Lt (frm A s)).f0 = far
                · have hb : ((Lt (frm A s)).f0 == (1152921504606846976 : Int)) = true := by rw [hfar]; rfl
                  have hh : hitL A Lt s = false := decide_eq_false (fun g => g.1 hfar)
                  have HNX2 : Hid (swpL A L0 false (all.take (t + 1)) = (Lt, bt)) := Lib.hid (by rw [HNX.out, hh, Bool.or_false]; unfold relL; rw [hh]; rfl)
                  clear hfar hh
                  go_wp2_with fail
                  go_roundg (all.length - (t + 1))
                  case measure => have := HTK.out; have := HLT2.out; omega
                  case rel => exact ⟨t + 1, by go_num, by rw [HNX2.out], Lib.hid (by have := HTK.out; have := HLT2.out; omega), Lib.hid (by rw [HNX2.out]; exact HLT.out), Lib.hid (by rw [HNX2.out]; exact HHT.out), Lib.hid (by rw [HNX2.out]; exact HTW.out), HFW⟩
                · have hb : ((Lt (frm A s)).f0 == (1152921504606846976 : Int)) = false := by simpa [far] using hfar
                  obtain ⟨b1, b2, b3, b4, b5, b6, b7⟩ := HSt.out s HM.out
                  have hbd := LI.bound HLT.out (by omega) HQ1.out b1 b2 hfar
                  have hst := HI.steps HHT.out b1 b2 hfar
                  have hps := HLT.out.pos _ b1 b2
                  have hn32 := HN2.out
                  have hw3 : IntKind.i64.wrap ((Lt (frm A s)).f0 + cst A s) = (Lt (frm A s)).f0 + cst A s := IntWalk.i64_in _ (by omega)
                  have hw4 : IntKind.i64.wrap ((Lt (frm A s)).f1 + 1) = (Lt (frm A s)).f1 + 1 := IntWalk.i64_in _ (by omega)
                  have HB67 := Lib.hid (And.intro b6 b7)
                  have HNF := Lib.hid (show (newL A Lt s).f0 ≠ far from by
                    have hx : ((n : Int) + 1) * 32768 = n * 32768 + 32768 := by omega
                    have := HO.out.far
                    show (Lt (frm A s)).f0 + cst A s ≠ far
                    omega)
                  have HFAR := Lib.hid hfar
                  have HCO := Lib.hid (HO.out.cost s.f0.toNat (by have := HRS.out; omega))
                  clear b1 b2 b3 b4 b5 b6 b7 hbd hst hps hn32 hfar
                  go_upto_region 18 with (fail)
                  have d0 := Blk.cell HA5.out 0 (v := .int .i64 s.f0) rfl
                  have d1 := Blk.cell HA5.out 1 (v := .bool s.f1) rfl
                  go_cut [13] (fun s13 wx => ∃ bw : Nat, s13 = .pointer (some ⟨bw, 0, none⟩) ∧ Blk wx bw #[.int .i64 ((Lt (frm A s)).f0 + cst A s), .int .i64 ((Lt (frm A s)).f1 + 1), .int .i64 s.f0, .bool s.f1] 147 ∧ wc.heap.size ≤ bw ∧ Below wc.heap.size wc wx)
                  case first =>
                    have S0 := keepV u0 u1 d0 d1 ((Below.refl _ wc).drew)
                    have S1 := keepV u0 u1 d0 d1 (((Below.refl _ wc).alloc (Nat.le_refl _) (.cells #[.int .i64 0, .int .i64 0, .int .i64 0, .bool false] 147)).drew)
                    have r0 := HRS.out.1
                    have r1 := HRS.out.2
                    go_region_held3 (fun w' => w'.cell? ⟨bu, 0, none⟩ = some (.int .i64 (Lt (frm A s)).f0) ∧ w'.cell? ⟨bu, 1, none⟩ = some (.int .i64 (Lt (frm A s)).f1) ∧ w'.cell? ⟨wv.heap.size, 0, none⟩ = some (.int .i64 s.f0) ∧ w'.cell? ⟨wv.heap.size, 1, none⟩ = some (.bool s.f1) ∧ Below wc.heap.size wc w')
                      (first | (with_reducible exact S0) | (with_reducible exact S5) | (with_reducible exact S6 _) | (with_reducible exact S7 _ _ _ _) | (with_reducible exact S1) | (trace_state; fail))
                      (first
                        | (go_at_call 93; refine (cost_any wc.drew (HN5.out.below S0.2.2.2.2) s r0 r1 HCO.out).mono ?_; rintro e w7 ⟨rfl, hb7⟩; have S5 := keepV u0 u1 d0 d1 (S0.2.2.2.2.trans hb7); have S6 := fun o => keepV u0 u1 d0 d1 (S5.2.2.2.2.alloc S5.2.2.2.2.size o))
                        | (go_at_call 93; refine (cost_any _ (HN5.out.below S1.2.2.2.2) s r0 r1 HCO.out).mono ?_; rintro e w7 ⟨rfl, hb7⟩; have S5 := keepV u0 u1 d0 d1 (S1.2.2.2.2.trans (hb7.mono (by simp))); have S7 := fun v0 v1 v2 v3 => keepV u0 u1 d0 d1 ((((S5.2.2.2.2.setCell (p := ⟨wc.heap.size, 0, none⟩) (Nat.le_refl _) v0).setCell (p := ⟨wc.heap.size, 1, none⟩) (Nat.le_refl _) v1).setCell (p := ⟨wc.heap.size, 2, none⟩) (Nat.le_refl _) v2).setCell (p := ⟨wc.heap.size, 3, none⟩) (Nat.le_refl _) v3); have hBy : Blk w7 wc.heap.size #[.int .i64 0, .int .i64 0, .int .i64 0, .bool false] 147 := (hb7.block wc.heap.size (by simp)).trans (Blk.new wc _ 147); have y0 := hBy.cell 0 (v := .int .i64 0) rfl; have y1 := hBy.cell 1 (v := .int .i64 0) rfl; have y2 := hBy.cell 2 (v := .int .i64 0) rfl; have y3 := hBy.cell 3 (v := .bool false) rfl; have z0 := hBy.free 0; have z1 := hBy.free 1; have z2 := hBy.free 2; have z3 := hBy.free 3))
                    · go_wp2_with fail
                      go_meet
                      exact ⟨_, rfl, Blk.new w7 _ 147, S5.2.2.2.2.size, S5.2.2.2.2.alloc S5.2.2.2.2.size _⟩
                    · go_wp2_with fail
                      go_meet
                      exact ⟨_, rfl, by simpa using (((hBy.set 0 (.int .i64 ((Lt (frm A s)).f0 + cst A s))).set 1 (.int .i64 ((Lt (frm A s)).f1 + 1))).set 2 (.int .i64 s.f0)).set 3 (.bool s.f1), Nat.le_refl _, (S7 _ _ _ _).2.2.2.2⟩
                  case rest =>
                    obtain ⟨bw, rfl, hBw, hgw, hbx⟩ := hcut
                    obtain ⟨wd, rfl⟩ : ∃ wd : World, wd = wc := ⟨_, rfl⟩
                    have HFD := Lib.hid (HFW.out.below hbx)
                    have hTD := TL.below HTW.out hbx
                    have HTD := Lib.hid hTD
                    obtain ⟨v0, v1, v2, v3⟩ := TL.cells hTD HA.out.2.1
                    rw [HA.out.2.2.2] at v0 v1 v2 v3
                    have t0 := Blk.cell hBw 0 (v := .int .i64 ((Lt (frm A s)).f0 + cst A s)) rfl
                    have t1 := Blk.cell hBw 1 (v := .int .i64 ((Lt (frm A s)).f1 + 1)) rfl
                    have t2 := Blk.cell hBw 2 (v := .int .i64 s.f0) rfl
                    have t3 := Blk.cell hBw 3 (v := .bool s.f1) rfl
                    have f0 := TL.free hTD ((tow A s).toNat * 4)
                    have f1 := TL.free hTD ((tow A s).toNat * 4 + 1)
                    have f2 := TL.free hTD ((tow A s).toNat * 4 + 2)
                    have f3 := TL.free hTD ((tow A s).toNat * 4 + 3)
                    have HBW := Lib.hid hBw
                    have HLR := Lib.hid (HLT.out.rel HSt.out (by omega) HO.out.far (by rw [← HALL.out]; exact feasL_iff.2 HQ.out) HQ1.out HM.out)
                    have HHR := Lib.hid (HHT.out.rel HSt.out (by rw [← HALL.out]; exact feasL_iff.2 HQ.out) HM.out (fun _ => HNF.out))
                    have HTR : Hid (TL ((((wd.setCell ⟨w.heap.size, (tow A s).toNat * 4, none⟩ (.int .i64 ((Lt (frm A s)).f0 + cst A s))).setCell ⟨w.heap.size, (tow A s).toNat * 4 + 1, none⟩ (.int .i64 ((Lt (frm A s)).f1 + 1))).setCell ⟨w.heap.size, (tow A s).toNat * 4 + 2, none⟩ (.int .i64 s.f0)).setCell ⟨w.heap.size, (tow A s).toNat * 4 + 3, none⟩ (.bool s.f1)) w.heap.size n (updL Lt (tow A s) (newL A Lt s))) := Lib.hid (by
                      have := TL.set HTD.out HA.out.2.1 (newL A Lt s)
                      rw [HA.out.2.2.2] at this
                      exact this)
                    have HFR : Hid (∀ nq, Fr (fun b => b = w.heap.size) w2 (((((wd.drewN nq).setCell ⟨w.heap.size, (tow A s).toNat * 4, none⟩ (.int .i64 ((Lt (frm A s)).f0 + cst A s))).setCell ⟨w.heap.size, (tow A s).toNat * 4 + 1, none⟩ (.int .i64 ((Lt (frm A s)).f1 + 1))).setCell ⟨w.heap.size, (tow A s).toNat * 4 + 2, none⟩ (.int .i64 s.f0)).setCell ⟨w.heap.size, (tow A s).toNat * 4 + 3, none⟩ (.bool s.f1))) :=
                      Lib.hid (fun nq => ((((HFD.out.drewN nq).setCell (p := ⟨w.heap.size, (tow A s).toNat * 4, none⟩) (.inl rfl) _).setCell (p := ⟨w.heap.size, (tow A s).toNat * 4 + 1, none⟩) (.inl rfl) _).setCell (p := ⟨w.heap.size, (tow A s).toNat * 4 + 2, none⟩) (.inl rfl) _).setCell (p := ⟨w.heap.size, (tow A s).toNat * 4 + 3, none⟩) (.inl rfl) _)
                    clear u0 u1 hTD hbx hBw hgw hge hBu
                    by_cases c1 : ((Lt (frm A s)).f0 + cst A s) < (Lt (tow A s)).f0
                    · have e1 : decide (((Lt (frm A s)).f0 + cst A s) < (Lt (tow A s)).f0) = true := decide_eq_true c1
                      have hh : hitL A Lt s = true := decide_eq_true ⟨HFAR.out, by omega⟩
                      have HNX2 : Hid (swpL A L0 false (all.take (t + 1)) = (updL Lt (tow A s) (newL A Lt s), true)) := Lib.hid (by rw [HNX.out, hh, Bool.or_true]; unfold relL; rw [if_pos hh])
                      have HRE : Hid (relL A Lt s = updL Lt (tow A s) (newL A Lt s)) := Lib.hid (by unfold relL; rw [if_pos hh])
                      clear c1 hh
                      go_wp2_with fail
                      go_quiet (fail)
                      go_wp2_with fail
                      go_roundg (all.length - (t + 1))
                      case measure => have := HTK.out; have := HLT2.out; omega
                      case rel => exact ⟨t + 1, by go_num, by rw [HNX2.out], Lib.hid (by have := HTK.out; have := HLT2.out; omega), Lib.hid (by rw [HNX2.out, ← HRE.out]; exact HLR.out), Lib.hid (by rw [HNX2.out, ← HRE.out]; exact HHR.out), Lib.hid (by rw [HNX2.out]; exact HTR.out), Lib.hid (HFR.out _)⟩
                    · have e1 : decide (((Lt (frm A s)).f0 + cst A s) < (Lt (tow A s)).f0) = false := decide_eq_false c1
                      by_cases c2 : ((Lt (frm A s)).f0 + cst A s) = (Lt (tow A s)).f0
                      · have e2 : (((Lt (frm A s)).f0 + cst A s) == (Lt (tow A s)).f0) = true := beq_iff_eq.2 c2
                        by_cases c3 : ((Lt (frm A s)).f1 + 1) < (Lt (tow A s)).f1
                        · have e3 : decide (((Lt (frm A s)).f1 + 1) < (Lt (tow A s)).f1) = true := decide_eq_true c3
                          have hh : hitL A Lt s = true := decide_eq_true ⟨HFAR.out, by omega⟩
                          have HNX2 : Hid (swpL A L0 false (all.take (t + 1)) = (updL Lt (tow A s) (newL A Lt s), true)) := Lib.hid (by rw [HNX.out, hh, Bool.or_true]; unfold relL; rw [if_pos hh])
                          have HRE : Hid (relL A Lt s = updL Lt (tow A s) (newL A Lt s)) := Lib.hid (by unfold relL; rw [if_pos hh])
                          clear c1 c2 c3 hh
                          go_wp2_with fail
                          go_quiet (fail)
                          go_wp2_with fail
                          go_roundg (all.length - (t + 1))
                          case measure => have := HTK.out; have := HLT2.out; omega
                          case rel => exact ⟨t + 1, by go_num, by rw [HNX2.out], Lib.hid (by have := HTK.out; have := HLT2.out; omega), Lib.hid (by rw [HNX2.out, ← HRE.out]; exact HLR.out), Lib.hid (by rw [HNX2.out, ← HRE.out]; exact HHR.out), Lib.hid (by rw [HNX2.out]; exact HTR.out), Lib.hid (HFR.out _)⟩
                        · have e3 : decide (((Lt (frm A s)).f1 + 1) < (Lt (tow A s)).f1) = false := decide_eq_false c3
                          have hh : hitL A Lt s = false := decide_eq_false (fun g => by omega)
                          have HNX2 : Hid (swpL A L0 false (all.take (t + 1)) = (Lt, bt)) := Lib.hid (by rw [HNX.out, hh, Bool.or_false]; unfold relL; rw [hh]; rfl)
                          clear c1 c2 c3 hh
                          go_wp2_with fail
                          go_quiet (fail)
                          go_wp2_with fail
                          go_roundg (all.length - (t + 1))
                          case measure => have := HTK.out; have := HLT2.out; omega
                          case rel => exact ⟨t + 1, by go_num, by rw [HNX2.out], Lib.hid (by have := HTK.out; have := HLT2.out; omega), Lib.hid (by rw [HNX2.out]; exact HLT.out), Lib.hid (by rw [HNX2.out]; exact HHT.out), Lib.hid (by rw [HNX2.out]; exact HTD.out), Lib.hid (HFD.out.drewN _)⟩
                      · have e2 : (((Lt (frm A s)).f0 + cst A s) == (Lt (tow A s)).f0) = false := beq_eq_false_iff_ne.2 c2
                        have hh : hitL A Lt s = false := decide_eq_false (fun g => by omega)
                        have HNX2 : Hid (swpL A L0 false (all.take (t + 1)) = (Lt, bt)) := Lib.hid (by rw [HNX.out, hh, Bool.or_false]; unfold relL; rw [hh]; rfl)
                        clear c1 c2 hh
                        go_wp2_with fail
                        go_quiet (fail)
                        go_wp2_with fail
                        go_roundg (all.length - (t + 1))
                        case measure => have := HTK.out; have := HLT2.out; omega
                        case rel => exact ⟨t + 1, by go_num, by rw [HNX2.out], Lib.hid (by have := HTK.out; have := HLT2.out; omega), Lib.hid (by rw [HNX2.out]; exact HLT.out), Lib.hid (by rw [HNX2.out]; exact HHT.out), Lib.hid (by rw [HNX2.out]; exact HTD.out), Lib.hid (HFD.out.drewN _)⟩
            · have HE : Hid (all.take t = all) := Lib.hid (List.take_of_length_le (by omega))
              obtain ⟨g1, g2, g3, g4⟩ := HSW.out all L0 false (fun _ h => h) HLJ.out
              have hE := HE.out
              rw [hE] at HLT HHT HTT ⊢
              have HSX : Hid (swpLs A all (iniL S) (j + 1) = (swpL A L0 false all).1) := Lib.hid (by rw [swpLs_succ, HL0.out])
              have HG2 := Lib.hid g2
              have HKK : Hid ((swpL A L0 false all).2 = true → j < K) := Lib.hid (fun h => by
                rcases Nat.lt_or_ge j K with g | g
                · exact g
                · have e : j = K := by have := HJ1.out; omega
                  subst e
                  have := HK.out
                  rw [HL0.out] at this
                  rw [this] at h; exact absurd h (by simp))
              clear g1 g2 g3 g4 hE HE
              generalize hb : (swpL A L0 false all).2 = bb at *
              have HBB := Lib.hid hb
              clear hb
              go_wp2_with fail
              go_roundg (if bb then K - j else 0)
              case measure => have := HJ1.out; cases bb <;> simp <;> omega
              case rel =>
                refine ⟨j + 1, bb, rfl, Lib.hid (fun h => by subst h; have := HKK.out rfl; have := HJ1.out; simp; omega), Lib.hid (fun h => ?_), Lib.hid (by rw [HSX.out]; exact HLT.out), Lib.hid (by rw [HSX.out]; exact HHT.out), Lib.hid (by rw [HSX.out]; exact HTT.out), HFT⟩
                rw [HSX.out]
                obtain ⟨e1, _, e3⟩ := HG2.out h
                rw [e1]; exact e3
end
end Go.Proofs.Ytcobihdjcdefmaa
