/-
  The walks of find, Balance, last.
-/
import Derived.Test.YtpmopdgnnlhplaaOp
import Derived.StillTailTactics
namespace Go.Proofs.Ytpmopdgnnlhplaa
open Go.RowKit Go.Proofs.YtpmopdgnnlhplaaW.PrintWords
section
variable {w : World} {F : Nat → Prop} {g : Nat} {v : Value} {rm am : Nat} {accs : List AccE} {recs : List Rc} {rows : ByteArray → List Rw} {rl : List (Int × Value)}
theorem eqp' (w : World) (b : Nat) : (binOp .eql 103 (.pointer (some ⟨b, 0, none⟩)) (.pointer none)).run Try.prog w = .ok (.bool false) w := by kernel_rfl
set_option maxHeartbeats 400000 in
theorem find_some (h : LedH w F g v rm am accs recs rows rl) {x : AccE} (hx : x ∈ accs) :
    Calls Try.prog 65 #[.pointer (some ⟨g, 0, none⟩), .string x.name] w fun e w' => e = .returned (.tuple #[.pointer (some ⟨x.blk, 0, none⟩), .int .i64 0]) ∧ w = w' := by
  have c2 := h.c2
  have hl := h.look_some hx
  have he := eqp' w x.blk
  go_enter Try.func65, Try.ntmps65
  go_wp2_with (go_at_call 58; refine (made_yes _ _ _ c2).mono ?_; rintro e w1 ⟨rfl, rfl⟩)
  go_ret2
  exact ⟨rfl, rfl⟩
set_option maxHeartbeats 400000 in
theorem find_none (h : LedH w F g v rm am accs recs rows rl) {a : ByteArray} (ha : a ∉ accs.map (·.name)) :
    Calls Try.prog 65 #[.pointer (some ⟨g, 0, none⟩), .string a] w fun e w' => e = .returned (.tuple #[.pointer none, .int .i64 7]) ∧ w = w' := by
  have c2 := h.c2
  have hl := h.look_none ha
  go_enter Try.func65, Try.ntmps65
  go_wp2_with (go_at_call 58; refine (made_yes _ _ _ c2).mono ?_; rintro e w1 ⟨rfl, rfl⟩)
  go_ret2
  exact ⟨rfl, rfl⟩
set_option maxHeartbeats 400000 in
theorem find_nil (w : World) (a : ByteArray) : Calls Try.prog 65 #[.pointer none, .string a] w fun e w' => e = .returned (.tuple #[.pointer none, .int .i64 1]) ∧ w = w' := by
  go_enter Try.func65, Try.ntmps65
  go_wp2_with (go_at_call 58; refine (made_nil _).mono ?_; rintro e w1 ⟨rfl, rfl⟩)
  go_ret2
  exact ⟨rfl, rfl⟩
def balErr (accs : List AccE) (a : ByteArray) (d : Int) : Int := if memB (accs.map (·.name)) a = false then 7 else if dayB d = false then 2 else 0
def balVal (accs : List AccE) (rows : ByteArray → List Rw) (a : ByteArray) (d : Int) : Int := if balErr accs a d = 0 then uptoR d (rows a) 0 else 0
set_option maxHeartbeats 800000 in
theorem Balance_any (h : LedH w F g v rm am accs recs rows rl) (a : ByteArray) (d : Int) :
    Calls Try.prog 29 #[.pointer (some ⟨g, 0, none⟩), .string a, .int .i64 d] w fun e w' => e = .returned (.tuple #[.int .i64 (balVal accs rows a d), .int .i64 (balErr accs a d)]) ∧ Below w.heap.size w w' := by
  by_cases hm : a ∈ accs.map (·.name)
  · obtain ⟨x, hx, rfl⟩ := amap_of_mem hm
    obtain ⟨h1, h2, h3⟩ := h.haccs x hx
    cases hd : dayB d with
    | false =>
      have HE := Lib.hid (show balErr accs x.name d = 2 by simp [balErr, memB_iff.2 hm, hd])
      have HV := Lib.hid (show balVal accs rows x.name d = 0 by simp [balVal, HE.out])
      have HD := Lib.hid hd
      clear hd
      go_enter Try.func29, Try.ntmps29
      go_wp2_with (go_at_call 65; refine (find_some h hx).mono ?_; rintro e w1 ⟨rfl, rfl⟩)
      refine (day_any d _).mono ?_
      rintro e w1 ⟨rfl, rfl⟩
      rw [HD.out]
      go_wp2_with fail
      go_ret2
      exact ⟨by rw [HE.out, HV.out]; rfl, Below.refl _ _⟩
    | true =>
      have HE := Lib.hid (show balErr accs x.name d = 0 by simp [balErr, memB_iff.2 hm, hd])
      have HV := Lib.hid (show balVal accs rows x.name d = uptoR d (rows x.name) 0 by simp [balVal, HE.out])
      have HD := Lib.hid hd
      clear hd
      go_enter Try.func29, Try.ntmps29
      go_wp2_with (go_at_call 65; refine (find_some h hx).mono ?_; rintro e w1 ⟨rfl, rfl⟩)
      refine (day_any d _).mono ?_
      rintro e w1 ⟨rfl, rfl⟩
      rw [HD.out]
      go_wp2_with fail
      refine (upto_any _ _ 0 F _ _ d h2 h3).mono ?_
      rintro e w1 ⟨rfl, hb⟩
      go_wp2_with fail
      go_ret2
      exact ⟨by rw [HE.out, HV.out]; rfl, hb⟩
  · have HE := Lib.hid (show balErr accs a d = 7 by simp [balErr, memB_not.2 hm])
    have HV := Lib.hid (show balVal accs rows a d = 0 by simp [balVal, HE.out])
    go_enter Try.func29, Try.ntmps29
    go_wp2_with (go_at_call 65; refine (find_none h hm).mono ?_; rintro e w1 ⟨rfl, rfl⟩)
    go_ret2
    exact ⟨by rw [HE.out, HV.out]; rfl, Below.refl _ _⟩
end
def recV (r : Rc) (A : Option Addr) (c : Nat) : Value := .agg #[.int .i64 r.no, .int .i64 r.day, .slice A r.ps.length c, .int .i64 r.rev, .int .u64 r.sum]
set_option maxHeartbeats 800000 in
theorem last_nil (w : World) (g : Nat) (A : Option Addr) (c : Nat) (hc : w.cell? ⟨g, 0, none⟩ = some (.slice A 0 c)) :
    Calls Try.prog 63 #[.pointer (some ⟨g, 0, none⟩)] w fun e w' => e = .returned (recV ⟨0, 0, [], 0, 0⟩ none 0) ∧ Below w.heap.size w w' := by
  have hg : g < w.heap.size := World.block_lt_of_cell? w _ hc
  go_enter Try.func63, Try.ntmps63
  go_wp2
  refine bodyPost_ret (v := recV ⟨0, 0, [], 0, 0⟩ none 0) (by simp [results, Try.results63, go_sem, recV]) rfl ⟨rfl, (Below.refl _ _).alloc (Nat.le_refl _) _⟩
set_option maxRecDepth 100000 in
set_option maxHeartbeats 800000 in
theorem last_some (w : World) (g : Nat) (A : Option Addr) (c : Nat) (recs : List Rc) (r : Rc) (hc : w.cell? ⟨g, 0, none⟩ = some (.slice A recs.length c)) (hr : Kd.C kRc w A recs.length recs) (hl : recs[recs.length - 1]? = some r) :
    Calls Try.prog 63 #[.pointer (some ⟨g, 0, none⟩)] w fun e w' => (∃ A c, e = .returned (recV r A c)) ∧ Below w.heap.size w w' := by
  have hpos : recs.length - 1 < recs.length := (List.getElem?_eq_some_iff.1 hl).1
  obtain ⟨ad, A2, c2, rfl, r0, r1, r2, r3, r4, _, _⟩ := at_Rc hr hl
  have hlen := hr.2.1
  clear hr hl
  have hne : ((recs.length : Int) == 0) = false := beq_eq_false_iff_ne.2 (by omega)
  have hi0 : (0 : Int) ≤ (recs.length : Int) - 1 := by omega
  have hi1 : (recs.length : Int) - 1 < (recs.length : Int) := by omega
  have hi2 : ((recs.length : Int) - 1).toNat = recs.length - 1 := by omega
  have hg : g < w.heap.size := World.block_lt_of_cell? w _ hc
  have hg0 := World.block_lt_of_cell? w _ r0
  have hg1 := World.block_lt_of_cell? w _ r1
  generalize recs.length = n at *
  go_enter Try.func63, Try.ntmps63
  go_wp2
  have hwr : IntKind.i64.wrap ((n : Int) - 1) = (n : Int) - 1 := IntWalk.i64_in _ (by omega)
  have hn1 : (1 : Int) ≤ (n : Int) := by omega
  have hgne : g ≠ w.heap.size := by omega
  have hane : (ad.add ((n - 1) * 5)).block ≠ w.heap.size := by omega
  go_region_held3 (fun w' => w'.cell? ⟨g, 0, none⟩ = some (.slice (some ad) n c) ∧ w'.cell? (ad.add ((n - 1) * 5)) = some (.int .i64 r.no) ∧ w'.cell? ⟨(ad.add ((n - 1) * 5)).block, (ad.add ((n - 1) * 5)).off + 1, none⟩ = some (.int .i64 r.day) ∧ w'.cell? ⟨(ad.add ((n - 1) * 5)).block, (ad.add ((n - 1) * 5)).off + 2, none⟩ = some (.slice A2 r.ps.length c2) ∧ w'.cell? ⟨(ad.add ((n - 1) * 5)).block, (ad.add ((n - 1) * 5)).off + 3, none⟩ = some (.int .i64 r.rev) ∧ w'.cell? ⟨(ad.add ((n - 1) * 5)).block, (ad.add ((n - 1) * 5)).off + 4, none⟩ = some (.int .u64 r.sum))
    (first | go_keep) (first | fail)
  go_wp2
  refine bodyPost_ret (v := recV r A2 c2) (by simp [results, Try.results63, go_sem, recV]) rfl ⟨⟨A2, c2, rfl⟩, ((Below.refl _ _).alloc (Nat.le_refl _) _).drew⟩
theorem last_any {w : World} {g : Nat} {base : Nat} {ok : Nat → Prop} {v : Value} {recs : List Rc} (hc : w.cell? ⟨g, 0, none⟩ = some v) (hr : Kd.R kRc 34 w base ok v recs) :
    Calls Try.prog 63 #[.pointer (some ⟨g, 0, none⟩)] w fun e w' => (∃ (n : Nat) (A : Option Addr) (c : Nat) (rev no : Int), e = .returned (.agg #[.int .i64 no, .int .i64 (lastDay recs), .slice A n c, .int .i64 rev, .int .u64 (lastSum recs)])) ∧ Below w.heap.size w w' := by
  obtain ⟨A, c, rfl, hl, hC⟩ := Kd.R_reads hr
  rcases List.eq_nil_or_concat recs with rfl | ⟨rs, r, rfl⟩
  · exact (last_nil w g A c hc).mono fun e w' h => ⟨⟨_, _, _, _, _, h.1⟩, h.2⟩
  · refine (last_some w g A c _ r hc hC (by simp)).mono fun e w' h => ?_
    obtain ⟨⟨A', c', h1⟩, h2⟩ := h
    refine ⟨⟨r.ps.length, A', c', r.rev, r.no, ?_⟩, h2⟩
    simpa [lastDay, lastSum, recV] using h1
theorem fld34_4 (no day rev sum : Int) (A : Option Addr) (n c : Nat) (w : World) : (Instr.field 34 (.agg #[.int .i64 no, .int .i64 day, .slice A n c, .int .i64 rev, .int .u64 sum]) 4).run Try.prog w = .ok (.int .u64 sum) w := by kernel_rfl
theorem fld34_1 (no day rev sum : Int) (A : Option Addr) (n c : Nat) (w : World) : (Instr.field 34 (.agg #[.int .i64 no, .int .i64 day, .slice A n c, .int .i64 rev, .int .u64 sum]) 1).run Try.prog w = .ok (.int .i64 day) w := by kernel_rfl
end Go.Proofs.Ytpmopdgnnlhplaa
