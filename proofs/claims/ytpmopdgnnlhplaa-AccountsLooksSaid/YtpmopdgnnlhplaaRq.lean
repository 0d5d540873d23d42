/-
  The walks of postings and records: equal ones are told to be equal.
-/
import Derived.Test.YtpmopdgnnlhplaaGi
namespace Go.Proofs.Ytpmopdgnnlhplaa
open Go.RowKit Go.Proofs.YtpmopdgnnlhplaaW.PrintWords
theorem neq36 (a : ByteArray) (c : Int) (w : World) : (binOp .neq 36 (.agg #[.string a, .int .i64 c]) (.agg #[.string a, .int .i64 c])).run Try.prog w = .ok (.bool false) w := by
  have hu := Try.underlying36
  have hu3 := Try.underlying3
  have hu9 := Try.underlying9
  simp_all [go_sem]
set_option maxRecDepth 100000 in
set_option maxHeartbeats 1600000 in
theorem postings_any (w : World) (A A' : Option Addr) (c c' : Nat) (l : List Pst) (hC : Kd.C kPst w A l.length l) (hC' : Kd.C kPst w A' l.length l) :
    Calls Try.prog 48 #[.slice A l.length c, .slice A' l.length c'] w fun e w' => e = .returned (.bool true) ∧ Below w.heap.size w w' := by
  have hlm := hC.2.1
  have hne : ((l.length : Int) != (l.length : Int)) = false := by simp
  go_enter Try.func48, Try.ntmps48
  go_wp2_with fail
  go_loopw [5] (fun s5 wr => ∃ k : Nat, k ≤ l.length ∧ s5 = .int .i64 k ∧ Below w.heap.size w wr) (fun s5 _ => l.length - (intOf s5).toNat)
  case atStart => exact ⟨0, Nat.zero_le _, rfl, Below.refl _ _⟩
  case round =>
    obtain ⟨k, hk, rfl, hb⟩ := hrel
    by_cases hlt : k < l.length
    · obtain ⟨x, hx⟩ : ∃ x, l[k]? = some x := ⟨_, List.getElem?_eq_getElem hlt⟩
      obtain ⟨ad, rfl, p0, p1⟩ := at_Pst (Kd.C_below hC hb) hx
      obtain ⟨ad', rfl, q0, q1⟩ := at_Pst (Kd.C_below hC' hb) hx
      have heq := neq36 x.a x.c
      clear hx
      go_wp2_with fail
      go_quiet (fail)
      go_wp2_with fail
      go_roundw
      case rel => exact ⟨k + 1, by omega, by go_num, pw_below_drewN hb _⟩
      case measure => simp [intOf]; omega
    · go_wp2_with fail
      go_ret
      exact ⟨rfl, hb⟩
set_option maxRecDepth 100000 in
set_option maxHeartbeats 4000000 in
theorem records_any (w : World) (A A' : Option Addr) (c c' : Nat) (l : List Rc) (hC : Kd.C kRc w A l.length l) (hC' : Kd.C kRc w A' l.length l) :
    Calls Try.prog 33 #[.slice A l.length c, .slice A' l.length c'] w fun e w' => e = .returned (.bool true) ∧ Below w.heap.size w w' := by
  have hlm := hC.2.1
  have hne : ((l.length : Int) != (l.length : Int)) = false := by simp
  go_enter Try.func33, Try.ntmps33
  go_wp2_with fail
  go_loopw [5, 6, 7] (fun s5 _ _ wr => ∃ k : Nat, k ≤ l.length ∧ s5 = .int .i64 k ∧ Below w.heap.size w wr) (fun s5 _ _ _ => l.length - (intOf s5).toNat)
  case atStart => exact ⟨0, Nat.zero_le _, rfl, Below.refl _ _⟩
  case round =>
    obtain ⟨k, hk, rfl, hb⟩ := hrel
    by_cases hlt : k < l.length
    · obtain ⟨x, hx⟩ : ∃ x, l[k]? = some x := ⟨_, List.getElem?_eq_getElem hlt⟩
      obtain ⟨ad, A2, c2, rfl, p0, p1, p2, p3, p4, hle2, hC2⟩ := at_Rc (Kd.C_below hC hb) hx
      obtain ⟨ad', A3, c3, rfl, q0, q1, q2, q3, q4, hle3, hC3⟩ := at_Rc (Kd.C_below hC' hb) hx
      have hlp := hC2.2.1
      have l0 := World.block_lt_of_cell? wr _ p0
      have m0 := World.block_lt_of_cell? wr _ q0
      have l1 : (ad.add (k * 5)).block ≠ wr.heap.size := by omega
      have m1 : (ad'.add (k * 5)).block ≠ wr.heap.size := by omega
      have l2 : (ad.add (k * 5)).block ≠ wr.heap.size + 1 := by omega
      have m2 : (ad'.add (k * 5)).block ≠ wr.heap.size + 1 := by omega
      clear hx
      go_upto_region 6 with fail
      go_cut [6, 7] (fun s6 s7 wx => ∃ b6 b7 : Nat, s6 = .pointer (some ⟨b6, 0, none⟩) ∧ s7 = .pointer (some ⟨b7, 0, none⟩) ∧ Blk wx b6 #[.int .i64 x.no, .int .i64 x.day, .slice A2 x.ps.length c2, .int .i64 x.rev, .int .u64 x.sum] 34 ∧ Blk wx b7 #[.int .i64 x.no, .int .i64 x.day, .slice A3 x.ps.length c3, .int .i64 x.rev, .int .u64 x.sum] 34 ∧ Below wr.heap.size wr wx)
      case first =>
        go_region_law (first | fail)
        all_goals
          go_wp2_with fail
          go_meet
          first
            | exact ⟨wr.heap.size, wr.heap.size + 1, rfl, rfl, (Blk.new wr _ _).alloc _, Blk.new1 wr _ _ _, (((Below.refl _ wr).alloc (Nat.le_refl _) _).alloc (by simp) _).drew⟩
            | exact ⟨wr.heap.size + 1, wr.heap.size, rfl, rfl, Blk.new1 wr _ _ _, (Blk.new wr _ _).alloc _, (((Below.refl _ wr).alloc (Nat.le_refl _) _).alloc (by simp) _).drew⟩
            | (trace_state; sorry)
      case rest =>
        obtain ⟨b6, b7, rfl, rfl, hB6, hB7, hb2⟩ := hcut
        have hb3 := below_t hb hb2
        have c6 := Kd.C_below hC2 hb2
        have c7 := Kd.C_below hC3 hb2
        have r0 := hB6.cell 0 (v := .int .i64 x.no) rfl
        have r1 := hB6.cell 1 (v := .int .i64 x.day) rfl
        have r2 := hB6.cell 2 (v := .slice A2 x.ps.length c2) rfl
        have r3 := hB6.cell 3 (v := .int .i64 x.rev) rfl
        have r4 := hB6.cell 4 (v := .int .u64 x.sum) rfl
        have s0 := hB7.cell 0 (v := .int .i64 x.no) rfl
        have s1 := hB7.cell 1 (v := .int .i64 x.day) rfl
        have s2 := hB7.cell 2 (v := .slice A3 x.ps.length c3) rfl
        have s3 := hB7.cell 3 (v := .int .i64 x.rev) rfl
        have s4 := hB7.cell 4 (v := .int .u64 x.sum) rfl
        clear p0 p1 p2 p3 p4 q0 q1 q2 q3 q4 l0 m0 l1 m1 l2 m2
        go_wp2_with fail
        refine (postings_any _ A2 A3 c2 c3 x.ps c6 c7).mono ?_
        rintro e w5 ⟨rfl, hb5⟩
        have hb6 := below_t hb3 hb5
        go_wp2_with fail
        go_roundw
        case rel => exact ⟨k + 1, by omega, by go_num, hb6⟩
        case measure => simp [intOf]; omega
    · go_wp2_with fail
      go_ret
      exact ⟨rfl, hb⟩
end Go.Proofs.Ytpmopdgnnlhplaa
