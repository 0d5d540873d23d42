/-
  The walks of own and Records.
-/
import Derived.Test.YtpmopdgnnlhplaaPo
import Derived.Test.YtpmopdgnnlhplaaWApart
namespace Go.Proofs.Ytpmopdgnnlhplaa
open Go.RowKit Go.Proofs.YtpmopdgnnlhplaaW.PrintWords
set_option maxRecDepth 100000 in
set_option maxHeartbeats 1600000 in
theorem own_any (w : World) (A : Option Addr) (c : Nat) (no day rev sum : Int) (ps : List Pst) (hC : Kd.C kPst w A ps.length ps) (hl : ps.length * 24 ≤ 140737488355328) :
    Calls Try.prog 67 #[.agg #[.int .i64 no, .int .i64 day, .slice A ps.length c, .int .i64 rev, .int .u64 sum]] w fun e w' =>
      (∃ A5 c5, e = .returned (.agg #[.int .i64 no, .int .i64 day, .slice A5 ps.length c5, .int .i64 rev, .int .u64 sum]) ∧ Kd.R kPst 36 w' w.heap.size (fun k => w.heap.size ≤ k) (.slice A5 ps.length c5) ps) ∧ Below w.heap.size w w' := by
  go_enter Try.func67, Try.ntmps67
  have hB1 := (Blk.new w #[.int .i64 no, .int .i64 day, .slice A ps.length c, .int .i64 rev, .int .u64 sum] 34).alloc (.cells #[.int .i64 0, .int .i64 0, .slice none 0 0, .int .i64 0, .int .u64 0] 34)
  have hB2 := Blk.new1 w (.cells #[.int .i64 no, .int .i64 day, .slice A ps.length c, .int .i64 rev, .int .u64 sum] 34) #[.int .i64 0, .int .i64 0, .slice none 0 0, .int .i64 0, .int .u64 0] 34
  have hb2 := (((Below.refl w.heap.size w).alloc (Nat.le_refl _) (.cells #[.int .i64 no, .int .i64 day, .slice A ps.length c, .int .i64 rev, .int .u64 sum] 34)).alloc (by simp) (.cells #[.int .i64 0, .int .i64 0, .slice none 0 0, .int .i64 0, .int .u64 0] 34))
  have hs : ((w.alloc (.cells #[.int .i64 no, .int .i64 day, .slice A ps.length c, .int .i64 rev, .int .u64 sum] 34)).alloc (.cells #[.int .i64 0, .int .i64 0, .slice none 0 0, .int .i64 0, .int .u64 0] 34)).heap.size = w.heap.size + 2 := by simp
  go_wp2_with fail
  generalize (w.alloc (.cells #[.int .i64 no, .int .i64 day, .slice A ps.length c, .int .i64 rev, .int .u64 sum] 34)).alloc (.cells #[.int .i64 0, .int .i64 0, .slice none 0 0, .int .i64 0, .int .u64 0] 34) = w2 at *
  refine (clone_sl w2 A c ps (Kd.C_below hC hb2) hl).mono ?_
  rintro e w3 ⟨⟨A5, c5, rfl, hR⟩, hb3⟩
  have q1 : Blk w3 w.heap.size _ 34 := (hb3.block _ hB1.lt).trans hB1
  have q2 : Blk w3 (w.heap.size + 1) _ 34 := (hb3.block _ hB2.lt).trans hB2
  have hb4 := hb2.trans (hb3.mono hb2.size)
  have a0 := q1.cell 0 (v := .int .i64 no) rfl
  have a1 := q1.cell 1 (v := .int .i64 day) rfl
  have a3 := q1.cell 3 (v := .int .i64 rev) rfl
  have a4 := q1.cell 4 (v := .int .u64 sum) rfl
  have f2 := q1.free 2
  have hq1 := q1.lt
  have hq2 := q2.lt
  have a2 := q1.cell 2 (v := .slice A ps.length c) rfl
  have y0 := q2.cell 0 (v := .int .i64 0) rfl
  have y1 := q2.cell 1 (v := .int .i64 0) rfl
  have y2 := q2.cell 2 (v := .slice none 0 0) rfl
  have y3 := q2.cell 3 (v := .int .i64 0) rfl
  have y4 := q2.cell 4 (v := .int .u64 0) rfl
  have z0 := q2.free 0
  have z1 := q2.free 1
  have z2 := q2.free 2
  have z3 := q2.free 3
  have z4 := q2.free 4
  have hne : ∀ k, w2.heap.size ≤ k → k ≠ w.heap.size ∧ k ≠ w.heap.size + 1 := fun k hk => by omega
  go_wp2_with fail
  have hR6 : Kd.R kPst 36 w3 w.heap.size (fun k => w2.heap.size ≤ k) (.slice A5 ps.length c5) ps := Kd.R_lower hR (by omega)
  have n0 : ∀ k, w2.heap.size ≤ k → k ≠ w.heap.size := fun k hk => by omega
  have n1 : ∀ k, w2.heap.size ≤ k → k ≠ w.heap.size + 1 := fun k hk => by omega
  have hQ : Blk ((((((w3.setCell ⟨w.heap.size, 2, none⟩ (.slice A5 ps.length c5)).setCell ⟨w.heap.size + 1, 0, none⟩ (.int .i64 no)).setCell ⟨w.heap.size + 1, 1, none⟩ (.int .i64 day)).setCell ⟨w.heap.size + 1, 2, none⟩ (.slice A5 ps.length c5)).setCell ⟨w.heap.size + 1, 3, none⟩ (.int .i64 rev)).setCell ⟨w.heap.size + 1, 4, none⟩ (.int .u64 sum)) (w.heap.size + 1) #[.int .i64 no, .int .i64 day, .slice A5 ps.length c5, .int .i64 rev, .int .u64 sum] 34 := by
    simpa using (((((q2.other (p := ⟨w.heap.size, 2, none⟩) (by simp) (.slice A5 ps.length c5)).set 0 (.int .i64 no)).set 1 (.int .i64 day)).set 2 (.slice A5 ps.length c5)).set 3 (.int .i64 rev)).set 4 (.int .u64 sum)
  have r0 := hQ.cell 0 (v := .int .i64 no) rfl
  have r1 := hQ.cell 1 (v := .int .i64 day) rfl
  have r2 := hQ.cell 2 (v := .slice A5 ps.length c5) rfl
  have r3 := hQ.cell 3 (v := .int .i64 rev) rfl
  have r4 := hQ.cell 4 (v := .int .u64 sum) rfl
  refine bodyPost_ret (v := .agg #[.int .i64 no, .int .i64 day, .slice A5 ps.length c5, .int .i64 rev, .int .u64 sum]) (by simp [results, Try.results67, go_sem, r0, r1, r2, r3, r4]) rfl ⟨⟨A5, c5, rfl, ?_⟩, ?_⟩
  · exact Kd.R_mono (Kd.R_far (p := ⟨w.heap.size + 1, 4, none⟩) (Kd.R_far (p := ⟨w.heap.size + 1, 3, none⟩) (Kd.R_far (p := ⟨w.heap.size + 1, 2, none⟩) (Kd.R_far (p := ⟨w.heap.size + 1, 1, none⟩) (Kd.R_far (p := ⟨w.heap.size + 1, 0, none⟩) (Kd.R_far (p := ⟨w.heap.size, 2, none⟩) hR6 n0 _) n1 _) n1 _) n1 _) n1 _) n1 _) (fun k hk => by omega)
  · exact (((((hb4.setCell (Nat.le_refl _) _).setCell (Nat.le_succ _) _).setCell (Nat.le_succ _) _).setCell (Nat.le_succ _) _).setCell (Nat.le_succ _) _).setCell (Nat.le_succ _) _
theorem recs_sz {recs : List Rc} (h : ∀ r ∈ recs, r.ps.length ≤ 16) {x : Rc} {k : Nat} (hx : recs[k]? = some x) : x.ps.length * 24 ≤ 140737488355328 := by
  have := h x (List.mem_of_getElem? hx)
  omega
set_option maxRecDepth 100000 in
set_option maxHeartbeats 1600000 in
theorem Records_S {w : World} {F : Nat → Prop} {g : Nat} {v : Value} {rm am : Nat} {accs : List AccE} {recs : List Rc} {rows : ByteArray → List Rw} {rl : List (Int × Value)}
    (h : LedH w F g v rm am accs recs rows rl) (hlen : recs.length ≤ 4096) (hps : ∀ r ∈ recs, r.ps.length ≤ 16) :
    Calls Try.prog 30 #[.pointer (some ⟨g, 0, none⟩)] w fun e w' =>
      (∃ A1 c1, e = .returned (.slice A1 recs.length c1) ∧ Kd.S kRc 34 w' 0 (fun k => w.heap.size ≤ k) (.slice A1 recs.length c1) recs) ∧ Below w.heap.size w w' := by
  obtain ⟨A, c, rfl, hl, hC⟩ := Kd.R_reads h.hrecs
  have c0 := h.c0
  have c2 := h.c2
  go_enter Try.func30, Try.ntmps30
  go_wp2_with (go_at_call 58; refine (made_yes _ _ _ c2).mono ?_; rintro e w1 ⟨rfl, rfl⟩)
  clear c0 c2
  go_loopw [3, 5, 15] (fun s3 _ s15 wr => ∃ (k : Nat) (A1 : Option Addr) (c1 : Nat), k ≤ recs.length ∧ s15 = .int .i64 k ∧ s3 = .slice A1 k c1 ∧ Kd.S kRc 34 wr 0 (fun b => w.heap.size ≤ b) (.slice A1 k c1) (recs.take k) ∧ Below w.heap.size w wr) (fun _ _ s15 _ => recs.length - (intOf s15).toNat)
  case atStart => exact ⟨0, none, 0, Nat.zero_le _, rfl, rfl, Kd.S_nil _ _ _ _ _, Below.refl _ _⟩
  case round =>
    obtain ⟨k, A1, c1, hk, rfl, rfl, hR, hb⟩ := hrel
    by_cases hlt : k < recs.length
    · obtain ⟨x, hx⟩ : ∃ x, recs[k]? = some x := ⟨_, List.getElem?_eq_getElem hlt⟩
      obtain ⟨ad, A2, c2, rfl, p0, p1, p2, p3, p4, hle2, hC2⟩ := at_Rc (Kd.C_below hC hb) hx
      have hxl := recs_sz hps hx
      have HX := Lib.hid hx
      clear hx
      have hB := Blk.new wr #[.int .i64 x.no, .int .i64 x.day, .slice A2 x.ps.length c2, .int .i64 x.rev, .int .u64 x.sum] 34
      have hb2 := hb.alloc hb.size (.cells #[.int .i64 x.no, .int .i64 x.day, .slice A2 x.ps.length c2, .int .i64 x.rev, .int .u64 x.sum] 34)
      have hC3 := Kd.C_below hC2 ((Below.refl _ _).alloc (Nat.le_refl _) (.cells #[.int .i64 x.no, .int .i64 x.day, .slice A2 x.ps.length c2, .int .i64 x.rev, .int .u64 x.sum] 34))
      have hR2 := Kd.S_alloc hR (.cells #[.int .i64 x.no, .int .i64 x.day, .slice A2 x.ps.length c2, .int .i64 x.rev, .int .u64 x.sum] 34)
      go_wp2_with fail
      generalize wr.alloc (.cells #[.int .i64 x.no, .int .i64 x.day, .slice A2 x.ps.length c2, .int .i64 x.rev, .int .u64 x.sum] 34) = w2 at *
      refine (own_any w2 A2 c2 x.no x.day x.rev x.sum x.ps hC3 hxl).mono ?_
      rintro e w3 ⟨⟨A5, c5, rfl, hR5⟩, hb5⟩
      have hb6 := hb2.trans (hb5.mono hb2.size)
      have hR3 : Kd.S kRc 34 w3 0 (fun b => w.heap.size ≤ b ∧ ¬ w2.heap.size ≤ b) (.slice A1 k c1) (recs.take k) := Kd.S_mono (Kd.S_below (Kd.S_bound hR2) hb5) (fun b hb9 => ⟨hb9.1, by have := hb9.2.2.1; omega⟩)
      have hR6 := Kd.R_lower hR5 (Nat.zero_le _)
      have hlt1 := Kd.S_lt hR2
      have hge1 := (Kd.S_R hR2).1
      have hokp : ∀ b, w2.heap.size ≤ b → w.heap.size ≤ b ∧ some b ≠ (Value.slice A1 k c1).ownBlock := fun b hb9 => ⟨Nat.le_trans hb2.size hb9, fun e => by have := hlt1 b e.symm; omega⟩
      have hfresh : ∀ b, w3.heap.size ≤ b → w.heap.size ≤ b := fun b hb9 => Nat.le_trans hb6.size hb9
      have hln : ((recs.take k).length + 1) * 56 ≤ 140737488355328 := by rw [List.length_take]; omega
      clear hR2 hR5 hB p0 p1 p2 p3 p4 hC2 hC3
      go_wp2_with (at_builtin; refine Kd.S_append kRc (w0 := w3) 0 rfl _ _ 30 34 (.agg #[.int .i64 0, .int .i64 0, .slice none 0 0, .int .i64 0, .int .u64 0]) 56 rfl Try.underlying30 info34 rfl (by decide) (by decide) (.slice A1 k c1) (recs.take k) x _ (fun b => w.heap.size ≤ b) (fun b => w2.heap.size ≤ b) rfl rfl (kRc_mkM x hR6) hokp hfresh hR3 (Below.refl _ _) (Nat.zero_le _) hln ?_; intro v4 w4 hR7 hb7 hg7 hat7)
      have hb8 : Below w.heap.size w w4 := ((Fr.of_below hb6 (fun _ => False)).grown hg7 (fun k hk => .inr (hge1 k hk))).none_below
      have e7 : recs.take k ++ [x] = recs.take (k + 1) := by
        have := HX.out
        rw [List.take_succ_eq_append_getElem hlt]
        rw [List.getElem?_eq_getElem hlt, Option.some.injEq] at this
        rw [this]
      rw [e7] at hR7
      obtain ⟨A8, c8, rfl, hl8, hC8⟩ := Kd.S_reads hR7
      rw [List.length_take, Nat.min_eq_left (show k + 1 ≤ recs.length by omega)] at hR7 ⊢
      go_wp2_with fail
      go_roundw
      case rel => exact ⟨k + 1, A8, c8, by omega, by go_num, rfl, hR7, hb8⟩
      case measure => simp [intOf]; omega
    · go_wp2_with fail
      obtain rfl : k = recs.length := by omega
      rw [List.take_length] at hR
      go_ret
      exact ⟨⟨A1, c1, rfl, hR⟩, hb⟩
theorem Records_any {w : World} {F : Nat → Prop} {g : Nat} {v : Value} {rm am : Nat} {accs : List AccE} {recs : List Rc} {rows : ByteArray → List Rw} {rl : List (Int × Value)}
    (h : LedH w F g v rm am accs recs rows rl) (hlen : recs.length ≤ 4096) (hps : ∀ r ∈ recs, r.ps.length ≤ 16) :
    Calls Try.prog 30 #[.pointer (some ⟨g, 0, none⟩)] w fun e w' =>
      (∃ A1 c1, e = .returned (.slice A1 recs.length c1) ∧ Kd.R kRc 34 w' 0 (fun k => w.heap.size ≤ k) (.slice A1 recs.length c1) recs) ∧ Below w.heap.size w w' :=
  (Records_S h hlen hps).mono fun _ _ ⟨⟨A1, c1, h1, h2⟩, h3⟩ => ⟨⟨A1, c1, h1, Kd.S_R h2⟩, h3⟩
end Go.Proofs.Ytpmopdgnnlhplaa
