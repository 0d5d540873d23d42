/-
  The walk of Reverse.
-/
import Derived.Test.YtpmopdgnnlhplaaGi
import Derived.Test.YtpmopdgnnlhplaaRd
namespace Go.Proofs.Ytpmopdgnnlhplaa
open Go.RowKit Go.Proofs.YtpmopdgnnlhplaaW.PrintWords
theorem rev_die {tmps : Array Value} {b : Nat} {n : Int} {W : World} {R : Ending → World → Prop} (h6 : tmps[6]?.getD undef = .int .i64 0) (h7 : tmps[7]?.getD undef = .pointer (some ⟨b, 0, none⟩)) (hB : Blk W b #[.int .i64 0] 24)
    (hR : ∀ w', Fr (· = b) W w' → R (.returned (.tuple #[.int .i64 0, .int .i64 n])) w') :
    bodyPostD Try.prog Try.f36 R (Exit.panic (refusal n)) ⟨tmps, [⟨.fn (.func 75) #[.pointer (some ⟨b, 0, none⟩)], #[]⟩]⟩ W := by
  unfold bodyPostD
  refine leaves_cons (f := 75) (args := #[.pointer (some ⟨b, 0, none⟩)]) (by simp) (by simp [go_sem]) ?_
  refine (rec75_caught b n 0 W hB).mono ?_
  rintro e u' w'' ⟨rfl, rfl, hB', hF⟩
  have c0 := hB'.cell 0 (v := .int .i64 n) rfl
  have HR := hR w'' hF
  simp [Leaves, settle, results, Try.results36, go_sem, h6, h7, c0]
  exact HR
theorem rev_fine {tmps : Array Value} {b : Nat} {n : Int} {W : World} {R : Ending → World → Prop} (h6 : tmps[6]?.getD undef = .int .i64 n) (h7 : tmps[7]?.getD undef = .pointer (some ⟨b, 0, none⟩)) (hB : Blk W b #[.int .i64 0] 24)
    (hR : ∀ w', Fr (· = b) W w' → R (.returned (.tuple #[.int .i64 n, .int .i64 0])) w') :
    bodyPostD Try.prog Try.f36 R Exit.ret ⟨tmps, [⟨.fn (.func 75) #[.pointer (some ⟨b, 0, none⟩)], #[]⟩]⟩ W := by
  unfold bodyPostD
  refine leaves_cons (f := 75) (args := #[.pointer (some ⟨b, 0, none⟩)]) (by simp) (by simp [go_sem]) ?_
  refine (rec75_idle b 0 W hB).mono ?_
  rintro e u' w'' ⟨rfl, rfl, hB', hF⟩
  have c0 := hB'.cell 0 (v := .int .i64 0) rfl
  have HR := hR w'' hF
  simp [Leaves, settle, results, Try.results36, go_sem, h6, h7, c0]
  exact HR
section
variable {w w' : World} {F F' : Nat → Prop} {g : Nat} {v : Value} {rm am : Nat} {accs : List AccE} {recs : List Rc} {rows : ByteArray → List Rw} {rl rl' : List (Int × Value)}
/-- The map of what is reversed has turned. -/
theorem LedH.turned (h : LedH w F g v rm am accs recs rows rl) (hf : Fr (· = rm) w w') (hm : KMap (Value.int .i64) w' rm rl') : LedH w' F g v rm am accs recs rows rl' := by
  have hst : ∀ k, k ≠ rm → k < w.heap.size → w'.heap[k]? = w.heap[k]? := fun k hk hl => hf.block k hl hk
  obtain ⟨es, c, hrm, _⟩ := h.revd
  have cells_ne : ∀ {k : Nat} {cs : Array Value} {t : TypeId} {fz : Nat × Nat}, w.heap[k]? = some (.cells cs t fz) → k ≠ rm := fun hk e => by rw [e, hrm] at hk; cases hk
  have hinner : ∀ {α : Type} {d : Kd α} {e : Nat} {u : Value} {xs : List α}, Kd.R d e w 0 F u xs → Kd.R d e w' 0 F u xs := fun hR => by
    refine Kd.R_mono (Kd.R_move (Kd.R_bound hR) (fun k hk => ?_)) (fun _ hk => hk.1)
    obtain ⟨_, _, hlt, q, _, cells, hc⟩ := hk
    exact hst k (cells_ne hc) hlt
  refine ⟨(hst g (cells_ne h.blk) h.blk.lt).trans h.blk, fun b hb => Nat.lt_of_lt_of_le (h.fin b hb) hf.size, h.fg, h.frm, h.fam, h.ne, hinner h.hrecs, hm, h.amap.fr hf (fun e => h.ne e.symm), fun x hx => ?_, h.apart⟩
  obtain ⟨h1, h2, h3⟩ := h.haccs x hx
  exact ⟨h1, (hst _ (cells_ne h2) h2.lt).trans h2, hinner h3⟩
end
/-- A part that does not panic: what the panics ask for may be left out. -/
def Calm (Q : Exit → Act → World → Prop) : Exit → Act → World → Prop
  | .normal, a, w => Q .normal a w
  | _, _, _ => False
theorem calm {P : Program} {c : Code} {Q : Exit → Act → World → Prop} {a : Act} {w : World} (h : c.wp P (Calm Q) a w) : c.wp P Q a w := fun b k cs => by
  obtain ⟨e, a', w', hq, hs⟩ := h b k cs
  cases e with
  | normal => exact ⟨.normal, a', w', hq, hs⟩
  | _ => exact hq.elim
def negs (k : Nat) (ps : List Pst) : List Pst := (ps.take k).map negP ++ ps.drop k
theorem negs_len (k : Nat) (ps : List Pst) : (negs k ps).length = ps.length := by
  unfold negs
  rw [List.length_append, List.length_map, ← List.length_append, List.take_append_drop]
theorem negs_at {k : Nat} {ps : List Pst} {x : Pst} (hx : ps[k]? = some x) : (negs k ps)[k]? = some x := by
  have hk := (List.getElem?_eq_some_iff.1 hx).1
  unfold negs
  rw [List.getElem?_append_right (by simp; omega), List.length_map, List.length_take, Nat.min_eq_left (by omega), Nat.sub_self, List.getElem?_drop]
  exact hx
theorem negs_set {k : Nat} {ps : List Pst} {x : Pst} (hx : ps[k]? = some x) : (negs k ps).set k (negP x) = negs (k + 1) ps := by
  have hk := (List.getElem?_eq_some_iff.1 hx).1
  have he := (List.getElem?_eq_some_iff.1 hx).2
  unfold negs
  rw [List.set_append_right _ _ (by rw [List.length_map, List.length_take]; omega), List.length_map, List.length_take, Nat.min_eq_left (by omega), Nat.sub_self, List.drop_eq_getElem_cons hk, List.set_cons_zero,
    List.take_succ_eq_append_getElem hk, he, List.map_append, List.append_assoc]
  rfl
theorem negs_end (ps : List Pst) : negs ps.length ps = ps.map negP := by
  unfold negs
  rw [List.take_length, List.drop_length, List.append_nil]
def RevPost (w : World) (F : Nat → Prop) (g rm am : Nat) (accs : List AccE) (recs : List Rc) (rl : List (Int × Value)) (n d : Int) (e : Ending) (w' : World) : Prop :=
  (revErr recs n d = 0 → e = .returned (.tuple #[.int .i64 (recs.length + 1), .int .i64 0]) ∧ ∃ F' v' accs', LedH w' F' g v' rm am accs' (recs ++ [newRec recs d n (revPs recs n)]) (fun a => rowsOf a (recs ++ [newRec recs d n (revPs recs n)]) 0) (mput rl n (.bool true)) ∧ accs'.map (·.name) = accs.map (·.name) ∧ Upd w F w' F') ∧
  (revErr recs n d ≠ 0 → e = .returned (.tuple #[.int .i64 0, .int .i64 (revErr recs n d)]) ∧ Below w.heap.size w w')
theorem die_rev {w W : World} {F : Nat → Prop} {g rm am : Nat} {accs : List AccE} {recs : List Rc} {rl : List (Int × Value)} {n d : Int} {m : Int} (hE : revErr recs n d = m) (hn : m ≠ 0) (hb : Below w.heap.size w W) :
    ∀ w', Fr (· = w.heap.size) W w' → RevPost w F g rm am accs recs rl n d (.returned (.tuple #[.int .i64 0, .int .i64 m])) w' := fun w' hF =>
  ⟨fun h0 => absurd (hE.symm.trans h0) hn, fun _ => ⟨by rw [hE], hb.trans (hF.to_below hb.size (by intro x hx; omega))⟩⟩
theorem fld34_1' (no day rev sum : Int) (A : Option Addr) (n c : Nat) (w : World) : (Instr.field 34 (.agg #[.int .i64 no, .int .i64 day, .slice A n c, .int .i64 rev, .int .u64 sum]) 1).run Try.prog w = .ok (.int .i64 day) w := fld34_1 no day rev sum A n c w
set_option maxRecDepth 100000 in
set_option maxHeartbeats 4000000 in
theorem Reverse_any {w : World} {F : Nat → Prop} {g : Nat} {v : Value} {rm am : Nat} {accs : List AccE} {recs : List Rc} {rl : List (Int × Value)}
    (h : LedH w F g v rm am accs recs (fun a => rowsOf a recs 0) rl) (n d : Int) (hG : GInv (accs.map (·.name)) recs rl) :
    Calls Try.prog 36 #[.pointer (some ⟨g, 0, none⟩), .int .i64 n, .int .i64 d] w (RevPost w F g rm am accs recs rl n d) := by
  have hmf : ∀ (fn : Fn) (first cap : Array Value) (w : World), (Instr.makeFunc fn first cap).run Try.prog w = .ok (.func fn first cap) w := fun _ _ _ _ => rfl
  have hrl := hG.len
  go_enter_defers Try.func36, Try.ntmps36
  go_wp2_with fail
  have hB0 := Blk.new w #[.int .i64 0] 24
  have hb0 := (Below.refl w.heap.size w).alloc (Nat.le_refl _) (.cells #[.int .i64 0] 24)
  have hs0 : (w.alloc (.cells #[.int .i64 0] 24)).heap.size = w.heap.size + 1 := by simp
  generalize w.alloc (.cells #[.int .i64 0] 24) = w0 at *
  have h0 := h.below hb0
  obtain ⟨Ar, cr, rfl, hlr, hCr⟩ := Kd.R_reads h0.hrecs
  have c0 := h0.c0
  have c2 := h0.c2
  clear hmf
  refine (made_yes w0 g am c2).mono ?_
  rintro e w1 ⟨rfl, rfl⟩
  go_wp2_with fail
  refine (refuse_no' 1 _ (by first | rfl | (simp; done))).mono ?_
  rintro e w1 ⟨rfl, rfl⟩
  by_cases hn1 : n < 1
  · have HQ := die_rev (F := F) (g := g) (rm := rm) (am := am) (accs := accs) (rl := rl) (show revErr recs n d = 7 by unfold revErr; rw [if_pos (.inl hn1)]) (by decide) hb0
    go_wp2_with fail
    refine (refuse_yes' 7 _ (by first | rfl | (simp; done) | (simp [hn1]; done))).mono ?_
    rintro e w4 ⟨rfl, rfl⟩
    exact rev_die rfl rfl hB0 HQ
  by_cases hn2 : (recs.length : Int) < n
  · have HQ := die_rev (F := F) (g := g) (rm := rm) (am := am) (accs := accs) (rl := rl) (show revErr recs n d = 7 by unfold revErr; rw [if_pos (.inr hn2)]) (by decide) hb0
    go_wp2_with fail
    refine (refuse_yes' 7 _ (by first | rfl | (simp; done) | (simp [hn2]; done))).mono ?_
    rintro e w4 ⟨rfl, rfl⟩
    exact rev_die rfl rfl hB0 HQ
  go_wp2_with fail
  refine (refuse_no' 7 _ (by first | rfl | (simp; done) | (simp; omega))).mono ?_
  rintro e w1 ⟨rfl, rfl⟩
  go_wp2_with fail
  refine (day_any d _).mono ?_
  rintro e w1 ⟨rfl, rfl⟩
  by_cases hd : dayB d = false
  · have HQ := die_rev (F := F) (g := g) (rm := rm) (am := am) (accs := accs) (rl := rl) (show revErr recs n d = 2 by unfold revErr; rw [if_neg (by omega), if_pos hd]) (by decide) hb0
    go_wp2_with fail
    refine (refuse_yes' 2 _ (by first | rfl | (simp; done))).mono ?_
    rintro e w4 ⟨rfl, rfl⟩
    exact rev_die rfl rfl hB0 HQ
  go_wp2_with fail
  refine (refuse_no' 2 _ (by first | rfl | (simp; done))).mono ?_
  rintro e w1 ⟨rfl, rfl⟩
  obtain ⟨m, rfl⟩ : ∃ m : Nat, n = m + 1 := ⟨(n - 1).toNat, by omega⟩
  have em : ((m : Int) + 1 - 1).toNat = m := by omega
  obtain ⟨x, hx⟩ : ∃ x, recs[m]? = some x := ⟨_, List.getElem?_eq_getElem (show m < recs.length by omega)⟩
  obtain ⟨ad, A2, c2', rfl, p0, p1, p2, p3, p4, hle2, hC2⟩ := at_Rc hCr hx
  have hps := hG.pss x (List.mem_of_getElem? hx)
  have hxl : x.ps.length * 24 ≤ 140737488355328 := by have := hps.2.1; omega
  have HE := Lib.hid (show revErr recs (m + 1) d = if d < lastDay recs ∨ x.rev ≠ 0 ∨ recs.any (fun r => decide (r.rev = m + 1)) = true then 10 else enterErr recs (x.ps.map negP) by unfold revErr; rw [if_neg (by omega), if_neg hd, em, hx])
  have HPS := Lib.hid (show revPs recs (m + 1) = x.ps.map negP by unfold revPs; rw [em, hx])
  have hw1 : IntKind.i64.wrap (m : Int) = m := IntWalk.i64_in _ (by omega)
  have hi1 : m < recs.length := by omega
  clear hx hd em
  go_wp2_with fail
  refine (own_any w0 A2 c2' x.no x.day x.rev x.sum x.ps hC2 hxl).mono ?_
  rintro e w3 ⟨⟨A5, c5, rfl, hR5⟩, hb5⟩
  have hB4 := Blk.new w3 #[.int .i64 x.no, .int .i64 x.day, .slice A5 x.ps.length c5, .int .i64 x.rev, .int .u64 x.sum] 34
  have hb6 := (hb0.trans (hb5.mono hb0.size)).alloc (hb0.trans (hb5.mono hb0.size)).size (.cells #[.int .i64 x.no, .int .i64 x.day, .slice A5 x.ps.length c5, .int .i64 x.rev, .int .u64 x.sum] 34)
  have h3 := (h0.below hb5).below ((Below.refl _ _).alloc (Nat.le_refl _) (.cells #[.int .i64 x.no, .int .i64 x.day, .slice A5 x.ps.length c5, .int .i64 x.rev, .int .u64 x.sum] 34))
  have hB3 : Blk w3 w.heap.size #[.int .i64 0] 24 := (hb5.block _ hB0.lt).trans hB0
  have hB5 := hB3.alloc (.cells #[.int .i64 x.no, .int .i64 x.day, .slice A5 x.ps.length c5, .int .i64 x.rev, .int .u64 x.sum] 34)
  have hR6 : Kd.R kPst 36 (w3.alloc (.cells #[.int .i64 x.no, .int .i64 x.day, .slice A5 x.ps.length c5, .int .i64 x.rev, .int .u64 x.sum] 34)) 0 (fun b => w0.heap.size ≤ b ∧ b < w3.heap.size) (.slice A5 x.ps.length c5) x.ps :=
    Kd.R_mono (Kd.R_alloc (Kd.R_bound (Kd.R_lower hR5 (Nat.zero_le _))) _) (fun b hb => ⟨hb.1, hb.2.2.1⟩)
  have hfl := fld34_1
  clear p0 p1 p2 p3 p4 hC2 c0 c2 hB3 hR5 hle2 hCr h0
  go_wp2_with fail
  generalize w3.alloc (.cells #[.int .i64 x.no, .int .i64 x.day, .slice A5 x.ps.length c5, .int .i64 x.rev, .int .u64 x.sum] 34) = w4 at *
  have h30 := hb5.size
  generalize w3.heap.size = b at *
  have c0 := h3.c0
  refine (last_any c0 h3.hrecs).mono ?_
  rintro e w5 ⟨⟨n6, A6, c6, rev6, no6, rfl⟩, hb7⟩
  have h5 := h3.below hb7
  have hB6 : Blk w5 b _ 34 := (hb7.block _ hB4.lt).trans hB4
  have hB7 : Blk w5 w.heap.size _ 24 := (hb7.block _ hB5.lt).trans hB5
  have hR7 := Kd.R_below hR6 hb7
  have hb8 := hb6.trans (hb7.mono hb6.size)
  clear c0 h3 hB4 hB5 hR6 hb7 hb6
  have c1 := h5.c1
  have b2 := hB6.cell 2 (v := .slice A5 x.ps.length c5) rfl
  have b3 := hB6.cell 3 (v := .int .i64 x.rev) rfl
  have hlk := h5.revd.lookup (P := Try.prog) (t := 92) (ke_int .i64) Try.underlying92 Try.underlying3 zero4 (m + 1)
  rw [hG.revs (m + 1) (by omega)] at hlk
  by_cases hst : d < lastDay recs
  · have HQ := die_rev (F := F) (g := g) (rm := rm) (am := am) (accs := accs) (rl := rl) (show revErr recs (m + 1) d = 10 by rw [HE.out, if_pos (.inl hst)]) (by decide) hb8
    clear hlk
    go_wp2_with fail
    refine (refuse_yes' 10 _ (by first | rfl | (simp; done) | (simp [hst]; done))).mono ?_
    rintro e w6 ⟨rfl, rfl⟩
    exact rev_die rfl rfl hB7 HQ
  by_cases z0 : (x.rev != 0) = true
  · have HQ := die_rev (F := F) (g := g) (rm := rm) (am := am) (accs := accs) (rl := rl) (show revErr recs (m + 1) d = 10 by rw [HE.out, if_pos (.inr (.inl (by simpa using z0)))]) (by decide) hb8
    clear hlk
    go_wp2_with fail
    refine (refuse_yes' 10 _ (by first | rfl | (simp; done) | (simp [z0]; done))).mono ?_
    rintro e w6 ⟨rfl, rfl⟩
    exact rev_die rfl rfl hB7 HQ
  have z0' : (x.rev != 0) = false := by simpa using z0
  by_cases hany : recs.any (fun r => decide (r.rev = m + 1)) = true
  · have HQ := die_rev (F := F) (g := g) (rm := rm) (am := am) (accs := accs) (rl := rl) (show revErr recs (m + 1) d = 10 by rw [HE.out, if_pos (.inr (.inr hany))]) (by decide) hb8
    rw [if_pos hany, Option.getD_some] at hlk
    clear z0 hany
    go_wp2_with fail
    refine (refuse_yes' 10 _ (by first | rfl | (simp; done) | (simp [z0']; done))).mono ?_
    rintro e w6 ⟨rfl, rfl⟩
    exact rev_die rfl rfl hB7 HQ
  rw [if_neg hany, Option.getD_none] at hlk
  have HE2 := Lib.hid (show revErr recs (m + 1) d = enterErr recs (x.ps.map negP) by
    rw [HE.out, if_neg]
    rintro (h9 | h9 | h9)
    · exact hst h9
    · exact z0 (by simpa using h9)
    · exact hany h9)
  clear z0 hany HE
  go_wp2_with fail
  refine (refuse_no' 10 _ (by first | rfl | (simp; done) | (simp [hst]; done))).mono ?_
  rintro e w6 ⟨rfl, rfl⟩
  clear hlk c1 b3
  go_wp2_with fail
  obtain ⟨wo, rfl⟩ : ∃ wo : World, wo = w5 := ⟨_, rfl⟩
  go_loopw [9, 67] (fun _ s67 wr => ∃ k : Nat, k ≤ x.ps.length ∧ s67 = .int .i64 k ∧ Kd.R kPst 36 wr 0 (fun q => w0.heap.size ≤ q ∧ q < b) (.slice A5 x.ps.length c5) (negs k x.ps) ∧ Blk wr b #[.int .i64 x.no, .int .i64 x.day, .slice A5 x.ps.length c5, .int .i64 x.rev, .int .u64 x.sum] 34 ∧ Below w0.heap.size wo wr) (fun _ s67 _ => x.ps.length - (intOf s67).toNat)
  case atStart => exact ⟨0, Nat.zero_le _, rfl, by simpa [negs] using hR7, hB6, Below.refl _ _⟩
  case round =>
    obtain ⟨k, hk, rfl, hR, hB, hbr⟩ := hrel
    have b2 := hB.cell 2 (v := .slice A5 x.ps.length c5) rfl
    by_cases hlt : k < x.ps.length
    · obtain ⟨y, hy⟩ : ∃ y, x.ps[k]? = some y := ⟨_, List.getElem?_eq_getElem hlt⟩
      have hya := negs_at hy
      have hys := negs_set hy
      obtain ⟨gp, cap, hv, _, hgl, cells, hcell⟩ := Kd.R_form hR (by rw [negs_len]; omega)
      rw [negs_len] at hv
      simp only [Value.slice.injEq, true_and] at hv
      obtain ⟨rfl, rfl⟩ := hv
      obtain ⟨cs, hcl, hM, hcc, hfz⟩ := Kd.R_elem hR (⟨⟨#[]⟩, 0⟩ : Pst) k (by omega) (by omega)
      rw [Int.toNat_natCast, List.getD_eq_getElem?_getD, hya, Option.getD_some] at hM
      obtain rfl := kPst_openM hM
      have q1 := hcc 1 _ rfl
      have f1 := hfz 1
      rw [Int.toNat_natCast] at q1 f1
      have hs2 : kPst.sz = 2 := rfl
      rw [hs2] at q1 f1
      have hyc := (hps.2.2 y (List.mem_of_getElem? hy)).2.2
      have hw2 : IntKind.i64.wrap (-y.c) = -y.c := IntWalk.i64_in _ (by omega)
      have hgb : gp ≠ b := by have := hR.1 gp (by simp [Value.ownBlock]); omega
      have hkn : (k : Int).toNat = k := Int.toNat_natCast k
      have hseg := (Kd.R_seg hR (k : Int) (by omega) (by omega) (c := [.string y.a, .int .i64 y.c]) (seg := [.int .i64 (-y.c)]) (j := 1) (okp := fun _ => False) hcl hcc (by rw [hs2]; exact Nat.le_refl _) (x' := negP y) (kPst_mkM (negP y)) (fun _ hf => hf.elim)).1
      rw [hkn, hys] at hseg
      have HS := Lib.hid (show Kd.R kPst 36 (wr.setCell ⟨gp, k * 2 + 1, none⟩ (.int .i64 (-y.c))) 0 (fun q => w0.heap.size ≤ q ∧ q < b) (.slice (some ⟨gp, 0, none⟩) x.ps.length c5) (negs (k + 1) x.ps) from hseg)
      have HB := Lib.hid (show Blk (wr.setCell ⟨gp, k * 2 + 1, none⟩ (.int .i64 (-y.c))) b _ 34 from hB.other (p := ⟨gp, k * 2 + 1, none⟩) (fun e => hgb e.symm) _)
      have HW := Lib.hid (show Below w0.heap.size wo (wr.setCell ⟨gp, k * 2 + 1, none⟩ (.int .i64 (-y.c))) from hbr.setCell (p := ⟨gp, k * 2 + 1, none⟩) (hR.1 gp (by simp [Value.ownBlock])).1 _)
      clear hy hya hys hM hcc hfz hcell hyc hR7 hR hseg
      go_wp2_with fail
      refine calm ?_
      go_region_law (first | fail)
      all_goals
        simp only [Calm]
        go_wp2_with fail
        go_roundw
        case rel => exact ⟨k + 1, by omega, by go_num, HS.out, HB.out, HW.out.drew⟩
        case measure => simp [intOf]; omega
    · obtain rfl : k = x.ps.length := by omega
      rw [negs_end] at hR
      have hfF := h.fin
      have hlt0 : w.heap.size < w0.heap.size := by omega
      have h6 : LedH wr F g (.slice (some ad) recs.length cr) rm am accs recs (fun a => rowsOf a recs 0) rl := h5.move (fun q hq => hbr.block q (by have := hfF q hq; omega)) hbr.size
      have hB8 : Blk wr w.heap.size #[.int .i64 0] 24 := (hbr.block w.heap.size hlt0).trans hB7
      have hb9 : Below w.heap.size w wr := hb8.trans (hbr.mono (by omega))
      have hml : (x.ps.map negP).length = x.ps.length := List.length_map ..
      have hCs : ∀ W, Fr F wr W → Kd.C kPst W A5 (x.ps.map negP).length (x.ps.map negP) := fun W hW => by
        have hR9 := Kd.R_move (w1 := W) (Kd.R_bound hR) (fun q hq => hW.block q hq.2.2.1 (fun hf => by have := hfF q hf; have := hq.1.1; omega))
        obtain ⟨A', c', he, _, hC⟩ := Kd.R_reads hR9
        rw [hml] at he
        simp only [Value.slice.injEq] at he
        obtain ⟨rfl, _, _⟩ := he
        exact hC
      have hps2 := psok_neg hps
      go_wp2_with fail
      have hent := enter_any h6 d (m + 1) (x.ps.map negP) A5 c5 hCs (fun p hp => memB_iff.1 (hps2.2.2 p hp).1) (fun p hp => (hps2.2.2 p hp).2.2) (fun p hp => by
        have := nameB_size (hG.nm _ (memB_iff.1 (hps2.2.2 p hp).1))
        omega) hps2.2.1 hG.bals hG.len (lastSum_W hG.sums).1 (lastSum_W hG.sums).2
      rw [hml] at hent
      refine hent.mono ?_
      rintro e w7 ⟨hE1, hE2⟩
      by_cases hee : enterErr recs (x.ps.map negP) = 0
      · obtain ⟨rfl, F', v', accs', hL', hn', hU1, hU2, hU3⟩ := hE1 hee
        have HU3 := Lib.hid hU3
        clear hU3
        have HEE := Lib.hid hee
        have hnF : ¬ F w.heap.size := fun hf => by have := hfF _ hf; omega
        have hB9 : Blk w7 w.heap.size #[.int .i64 0] 24 := (hU1.block _ hB8.lt hnF).trans hB8
        have hnF' : ¬ F' w.heap.size := fun hf => (hU2 _ hf).elim hnF (fun h9 => by have := hB8.lt; omega)
        have c1 := hL'.c1
        have hrv := hL'.revd
        have HRV36 := Lib.hid hrv.not36
        have hnrm : ¬ w.heap.size = rm := fun e => hnF' (e ▸ hL'.frm)
        clear hE1 hE2 hent hee
        go_wp2_with (at_mapUpdate; refine wpList_mapUpdate_k rfl _ _ _ 92 rfl (ke_int .i64) hrv Try.underlying92 Try.underlying3 rfl (m + 1) rfl (.bool true) rfl ?_; intro w8 hm8 hf8 hs8; have hB10 := hB9.fr hf8 hnrm; have c9 := hB10.cell 0 (v := .int .i64 0) rfl; have f9 := hB10.free 0)
        have hB11 : Blk (w8.setCell ⟨w.heap.size, 0, none⟩ (.int .i64 0)) w.heap.size #[.int .i64 0] 24 := by simpa using hB10.set 0 (.int .i64 0)
        have hL8 := hL'.turned hf8 hm8
        refine rev_fine rfl rfl hB11 (fun w' hF => ⟨fun _ => ⟨rfl, F', v', accs', ?_, hn', ?_, ?_, ?_⟩, fun h0 => absurd (HE2.out.trans HEE.out) h0⟩)
        · rw [HPS.out]
          have hS : Fr (· = w.heap.size) w8 (w8.setCell ⟨w.heap.size, 0, none⟩ (.int .i64 0)) := (Fr.refl (· = w.heap.size) w8).setCell (p := ⟨w.heap.size, 0, none⟩) (.inl rfl) _
          have hnF2 : ∀ x, F' x → ¬ x = w.heap.size := fun x hx e => hnF' (e ▸ hx)
          exact (hL8.fr hS hnF2).fr hF hnF2
        · have hrF : F rm ∨ w.heap.size ≤ rm := .inl h.frm
          exact ((((Fr.of_below hb9 F).trans hU1 (fun x hx => .inl hx)).trans hf8 (fun x hx => by subst hx; exact hrF)).setCell (p := ⟨w.heap.size, 0, none⟩) (.inr (Nat.le_refl _)) _).trans hF (fun x hx => .inr (by omega))
        · exact fun x hx => (hU2 x hx).imp id (fun h9 => Nat.le_trans hb9.size h9)
        · exact (((((K36.of_below hb9).trans HU3.out).fr hf8 (fun k hk => .inr (by subst hk; exact HRV36.out))).fr (fr_cell w8 _ _) (fun k hk => .inl (by subst hk; exact Nat.le_refl _))).fr hF (fun k hk => .inl (by omega)))
      · obtain ⟨rfl, hb10⟩ := hE2 hee
        have hB9 : Blk w7 w.heap.size #[.int .i64 0] 24 := (hb10.block _ hB8.lt).trans hB8
        exact rev_die rfl rfl hB9 (die_rev HE2.out hee (hb9.trans (hb10.mono hb9.size)))
end Go.Proofs.Ytpmopdgnnlhplaa
