/-
  The walk of the law AccountsPlays.
  The walk of played: a ledger and its reference behind acts.
-/
import Derived.Test.YtpmopdgnnlhplaaRg
import Derived.Test.YtpmopdgnnlhplaaRk
import Derived.Test.YtpmopdgnnlhplaaAl
namespace Go.Proofs.Ytpmopdgnnlhplaa
open Go.RowKit Go.Proofs.YtpmopdgnnlhplaaW.PrintWords
/-- A ledger and its reference, whose value lies in block gb. -/
structure Both (w0 w : World) (F ok : Nat → Prop) (g gb : Nat) (A A2 : Option Addr) (c c2 : Nat) (s : St) : Prop where
  led : LedF w F g s
  ref : RefL w ok A c A2 c2 s
  dis : ∀ k, F k → ¬ ok k
  blk : Blk w gb #[.slice A s.n.length c, .slice A2 s.r.length c2] 59
  gF : ¬ F gb
  gok : ¬ ok gb
  Fge : ∀ k, F k → w0.heap.size ≤ k
  okge : ∀ k, ok k → w0.heap.size ≤ k
  gge : w0.heap.size ≤ gb
  bel : Below w0.heap.size w0 w
section
variable {w0 w w' w7 : World} {F F' G ok ok' : Nat → Prop} {g gb : Nat} {A A2 A1 A3 : Option Addr} {c c2 c1 c3 : Nat} {s s' : St}
theorem Both.below (h : Both w0 w F ok g gb A A2 c c2 s) (hb : Below w.heap.size w w') : Both w0 w' F ok g gb A A2 c c2 s :=
  ⟨h.led.below hb, h.ref.below hb, h.dis, h.blk.move (hb.block _ h.blk.lt), h.gF, h.gok, h.Fge, h.okge, h.gge, below_t h.bel hb⟩
theorem Both.step (h : Both w0 w F ok g gb A A2 c c2 s) (hL : LedF w7 F' g s') (hR : RefL w7 ok' A1 c1 A3 c3 s') (hU : Upd w F w7 F') (h8 : ∀ k, ok' k → ok k ∨ w.heap.size ≤ k) (h9 : ∀ k, F' k → ¬ ok' k) :
    Both w0 ((w7.setCell ⟨gb, 0, none⟩ (.slice A1 s'.n.length c1)).setCell ⟨gb, 1, none⟩ (.slice A3 s'.r.length c3)) F' ok' g gb A1 A3 c1 c3 s' := by
  have hlt := h.blk.lt
  have hF' : ¬ F' gb := fun hf => (hU.2 gb hf).elim h.gF (fun h => by omega)
  have hok' : ¬ ok' gb := fun hf => (h8 gb hf).elim h.gok (fun h => by omega)
  have hB7 := h.blk.fr hU.1 h.gF
  have hf : Fr (· = gb) w7 ((w7.setCell ⟨gb, 0, none⟩ (.slice A1 s'.n.length c1)).setCell ⟨gb, 1, none⟩ (.slice A3 s'.r.length c3)) := ((Fr.refl (· = gb) w7).setCell (p := ⟨gb, 0, none⟩) (.inl rfl) _).setCell (p := ⟨gb, 1, none⟩) (.inl rfl) _
  have hs := h.bel.size
  refine ⟨hL.fr hf (fun b hb e => hF' (by rw [← e]; exact hb)), hR.fr hf (fun b hb e => hok' (by rw [← e]; exact hb)), h9, hB7.store2 _ _, hF', hok', fun k hk => ?_, fun k hk => ?_, h.gge, ?_⟩
  · rcases hU.2 k hk with h1 | h1
    · exact h.Fge k h1
    · omega
  · rcases h8 k hk with h1 | h1
    · exact h.okge k h1
    · omega
  · exact ((((Fr.of_below h.bel (fun _ => False)).trans hU.1 (fun x hx => .inr (h.Fge x hx))).setCell (p := ⟨gb, 0, none⟩) (.inr h.gge) _).setCell (p := ⟨gb, 1, none⟩) (.inr h.gge) _).none_below
end
theorem stS_names (s : St) (a : Ac) : (stS s a).n.length ≤ s.n.length + 1 := by
  unfold stS
  split
  · rw [opS_n]; split <;> simp
  · split
    · rw [poS_n]; omega
    · rw [reS_n]; omega
set_option maxRecDepth 100000 in
set_option maxHeartbeats 8000000 in
theorem plays_walk (A : Option Addr) (c : Nat) (l : List Ac) (w : World) (hC : Kd.C kAc w A l.length l) (hg : ∀ a ∈ l, GoodA a) :
    Calls Try.prog 8 #[.slice A l.length c] w fun e w' => e = .returned (.bool true) ∧ Below w.heap.size w w' := by
  have heq := eq47
  have hlm := hC.2.1
  go_enter Try.func8, Try.ntmps8
  go_wp2_with fail
  refine (few_any w A c l hC).mono ?_
  rintro e w1 ⟨rfl, rfl⟩
  by_cases hfew : fewB l = false
  · rw [hfew]
    go_wp2_with fail
    refine (alive_any _).mono ?_
    rintro e w6 ⟨rfl, hb⟩
    go_wp2_with fail
    go_ret
    exact ⟨rfl, hb⟩
  have hfew' : fewB l = true := by simpa using hfew
  obtain ⟨hl60, hl30⟩ := fewB_true hfew'
  rw [hfew']
  clear hfew hfew'
  go_wp2_with fail
  refine (New_led w).mono ?_
  rintro e w2 ⟨F2, g, rfl, hL2, hb2, hF2⟩
  have hstart : Both w (w2.alloc (.cells #[.slice none 0 0, .slice none 0 0] 59)) F2 (fun _ => False) g w2.heap.size none none 0 0 ⟨[], []⟩ :=
    ⟨hL2.below ((Below.refl _ w2).alloc (Nat.le_refl _) _), ⟨Kd.R_nil _ _ _ _ _, Kd.R_nil _ _ _ _ _, fun _ h => h.elim⟩, fun _ _ h => h, Blk.new w2 _ _, fun h => by have := hL2.fin _ h; omega, id, hF2, fun _ h => h.elim, hb2.size, hb2.alloc hb2.size _⟩
  have HST := Lib.hid hstart
  clear hstart hL2 hb2 hF2
  go_wp2_with fail
  generalize w2.alloc (.cells #[.slice none 0 0, .slice none 0 0] 59) = w3 at *
  generalize w2.heap.size = gb at *
  go_loopw [6] (fun s6 wr => ∃ (k : Nat) (F ok : Nat → Prop) (A1 A3 : Option Addr) (c1 c3 : Nat), k ≤ l.length ∧ s6 = .int .i64 k ∧ Both w wr F ok g gb A1 A3 c1 c3 (runS (l.take k) ⟨[], []⟩) ∧ (runS (l.take k) ⟨[], []⟩).n.length ≤ k) (fun s6 _ => l.length - (intOf s6).toNat)
  case atStart => exact ⟨0, F2, fun _ => False, none, none, 0, 0, Nat.zero_le _, rfl, HST.out, Nat.le_refl _⟩
  case round =>
    obtain ⟨k, F, ok, A1, A3, c1, c3, hk, rfl, hbo, hnl⟩ := hrel
    by_cases hlt : k < l.length
    · obtain ⟨x, hx⟩ : ∃ x, l[k]? = some x := ⟨_, List.getElem?_eq_getElem hlt⟩
      obtain ⟨ad, A4, c4, rfl, p0, p1, p2, p3, p4, hle4, hC4⟩ := at_Ac hC hx
      have HX := Lib.hid (take_snoc hx)
      have hgx := hg x (List.mem_of_getElem? hx)
      have h30 := hl30 x (List.mem_of_getElem? hx)
      have q0 := cell_below hbo.bel p0
      have q1 := cell_below hbo.bel p1
      have q2 := cell_below hbo.bel p2
      have q3 := cell_below hbo.bel p3
      have q4 := cell_below hbo.bel p4
      have HRS := Lib.hid (show runS (l.take (k + 1)) ⟨[], []⟩ = stS (runS (l.take k) ⟨[], []⟩) x by rw [HX.out, run_snoc])
      clear hx p0 p1 p2 p3 p4
      generalize runS (l.take k) ⟨[], []⟩ = s at *
      have a0 := hbo.blk.cell 0 (v := .slice A1 s.n.length c1) rfl
      have a1 := hbo.blk.cell 1 (v := .slice A3 s.r.length c3) rfl
      have hbd := hbo.below ((Below.refl _ wr).drew)
      have HBO := Lib.hid hbd
      clear hbo hbd
      have hsn := stS_names s x
      go_upto_region 10 with fail
      go_cut [5] (fun s5 wx => s5 = .bool true ∧ ∃ (F' ok' : Nat → Prop) (B1 B3 : Option Addr) (e1 e3 : Nat), Both w wx F' ok' g gb B1 B3 e1 e3 (stS s x))
      case first =>
        refine calm ?_
        go_region_law (first
          | (go_simp; go_at_call 32; refine (do_any HBO.out.led HBO.out.ref HBO.out.dis (by omega) x hgx HBO.out.bel HBO.out.Fge hC4 hle4 (by omega)).mono ?_; rintro e w7 ⟨B1, e1, B3, e3, F', ok', rfl, hL7, hR7, hU7, h8, h9⟩; have hB7 := HBO.out.blk.fr hU7.1 HBO.out.gF; have z0 := hB7.free 0; have z1 := hB7.free 1; have y0 := hB7.cell 0 (v := .slice A1 s.n.length c1) rfl; have y1 := hB7.cell 1 (v := .slice A3 s.r.length c3) rfl; have HBS := Lib.hid (HBO.out.step hL7 hR7 hU7 h8 h9); clear hL7 hR7 hU7 h8 h9 hB7 a0 a1 q0 q1 q2 q3 q4)
          | fail)
        all_goals
          simp only [Calm]
          go_wp2_with fail
          go_meet
          exact ⟨rfl, F', ok', B1, B3, e1, e3, HBS.out⟩
      case rest =>
        obtain ⟨rfl, F', ok', B1, B3, e1, e3, hbs⟩ := hcut
        clear a0 a1 q0 q1 q2 q3 q4 HBO
        generalize stS s x = s' at *
        have HBS := Lib.hid hbs
        clear hbs
        go_wp2_with fail
        refine (Records_led HBS.out.led).mono ?_
        rintro e w6 ⟨⟨A6, c6, rfl, hS6⟩, hb6⟩
        have hb7 := HBS.out.below hb6
        obtain ⟨_, _, hC6⟩ := Kd.S_reads' hS6
        have hC7 := hb7.ref.C.2
        have hnm := hC6.2.1
        have a1 := hb7.blk.cell 1 (v := .slice B3 s'.r.length e3) rfl
        go_wp2_with fail
        refine (records_any w6 A6 B3 c6 e3 s'.r hC6 hC7).mono ?_
        rintro e w7 ⟨rfl, hb8⟩
        have hS7 := Kd.S_below hS6 hb8
        have hbw := below_t hb6 hb8
        clear hC6 hC7 a1 hb7 hS6 hb6 hb8
        generalize hn : s'.r.length = n at *
        have HN := Lib.hid hn
        clear hn
        go_wp2_with fail
        obtain ⟨wo, rfl⟩ : ∃ wo : World, wo = wr := ⟨_, rfl⟩
        go_loopw [8] (fun s8 wr => ∃ (m : Nat) (xs : List Rc), m ≤ n ∧ s8 = .int .i64 m ∧ Kd.S kRc 34 wr 0 (fun b => wc.heap.size ≤ b) (.slice A6 n c6) xs ∧ Below wc.heap.size wc wr) (fun s8 _ => n - (intOf s8).toNat)
        case atStart => exact ⟨0, _, Nat.zero_le _, rfl, hS7, hbw⟩
        case round =>
          clear hS7 hbw
          obtain ⟨m, xs, hm, rfl, hSr, hbr⟩ := hrel
          have hnx := (Kd.S_reads' hSr).1
          have HNX := Lib.hid hnx
          clear hnx
          by_cases hmn : m < n
          · obtain ⟨gr, cap, hv, _, hgl, _⟩ := Kd.S_form hSr (by have := HNX.out; omega)
            rw [← HNX.out] at hv
            simp only [Value.slice.injEq, true_and] at hv
            obtain ⟨rfl, rfl⟩ := hv
            obtain ⟨y, A8, c8, hy, hyl, r2, r4, f4, hst⟩ := sum_at hSr hmn
            have hS8 := hst 0
            have hgw : wc.heap.size ≤ gr := (Kd.S_R hSr).1 gr (by simp [Value.ownBlock])
            have hb9 := hbr.setCell (p := ⟨gr, m * 5 + 4, none⟩) hgw (.int .u64 0)
            have hys : (xs.set m { y with sum := 0 })[m]? = some { y with sum := 0 } := by rw [List.getElem?_set_self (by have := HNX.out; omega)]
            have hpl : ({ y with sum := 0 } : Rc).ps.length = y.ps.length := rfl
            generalize xs.set m { y with sum := 0 } = ys at *
            generalize ({ y with sum := 0 } : Rc) = z at *
            have HPL := Lib.hid hpl
            have HYS := Lib.hid hys
            clear hpl hys hst hSr hbr hy
            go_upto_region 18 with fail
            generalize wr.setCell ⟨gr, m * 5 + 4, none⟩ (.int .u64 0) = w9 at *
            clear r2 r4 f4
            go_wp2_with fail
            obtain ⟨wp, rfl⟩ : ∃ wp : World, wp = w9 := ⟨_, rfl⟩
            go_loopw [9] (fun s9 wr => ∃ (j : Nat) (zs : List Rc) (q : Rc), j ≤ y.ps.length ∧ s9 = .int .i64 j ∧ zs[m]? = some q ∧ q.ps.length = y.ps.length ∧ Kd.S kRc 34 wr 0 (fun b => wc.heap.size ≤ b) (.slice (some ⟨gr, 0, none⟩) n c6) zs ∧ Below wc.heap.size wc wr) (fun s9 _ => y.ps.length - (intOf s9).toNat)
            case atStart => exact ⟨0, ys, z, Nat.zero_le _, rfl, HYS.out, HPL.out, hS8, hb9⟩
            case round =>
              clear hS8 hb9
              obtain ⟨j, zs, q, hj, rfl, hq, hql, hSq, hbq⟩ := hrel
              have HQ := Lib.hid hq
              have HQL := Lib.hid hql
              have hnz := Lib.hid (Kd.S_reads' hSq).1
              clear hq hql
              by_cases hjl : j < y.ps.length
              · obtain ⟨gp, c9, v0, r2, r1, f1, hgp, hst⟩ := cents_at hSq hmn HQ.out (j := j) (by rw [HQL.out]; exact hjl)
                rw [HQL.out] at r2
                obtain ⟨qs, hqs, hS9⟩ := hst 1
                have hb9 := hbq.setCell (p := ⟨gp, j * 2 + 1, none⟩) hgp (.int .i64 1)
                have HS9 := Lib.hid hS9
                have HQS := Lib.hid hqs
                have HB9 := Lib.hid hb9
                clear hst hS9 hqs hb9 hSq hbq
                go_wp2_with fail
                go_roundw
                case rel => exact ⟨j + 1, _, { q with ps := qs }, by omega, by go_num, List.getElem?_set_self (by have := hnz.out; omega), HQS.out.trans HQL.out, HS9.out, HB9.out⟩
                case measure => simp [intOf]; omega
              · obtain ⟨q', A8, c8, hq', -, r2, r4, f4, hst⟩ := sum_at hSq hmn
                obtain rfl := Option.some.inj (HQ.out.symm.trans hq')
                rw [HQL.out] at r2
                clear hst r4 f4 hq'
                go_wp2_with fail
                go_roundw
                case rel => exact ⟨m + 1, zs, by omega, by go_num, hSq, hbq⟩
                case measure => simp [intOf]; omega
          · have hbf := HBS.out.below hbr
            have hnl2 : s'.n.length ≤ k + 1 := by omega
            rw [← HRS.out] at hbf hnl2
            clear hSr hbr
            go_wp2_with fail
            go_roundw
            case rel => exact ⟨k + 1, F', ok', B1, B3, e1, e3, by omega, by go_num, hbf, hnl2⟩
            case measure => simp [intOf]; omega
    · rw [List.take_of_length_le (by omega)] at hbo
      generalize runS l ⟨[], []⟩ = s at *
      have a1 := hbo.blk.cell 1 (v := .slice A3 s.r.length c3) rfl
      have hbd := hbo.below ((Below.refl _ wr).drew)
      have HBO := Lib.hid hbd
      clear hbo hbd
      go_upto_region 22 with fail
      go_region_law (first
        | (go_simp; go_at_call 30; refine (Records_led HBO.out.led).mono ?_; rintro e w6 ⟨⟨A6, c6, rfl, hS6⟩, hb6⟩; have hb7 := Lib.hid (HBO.out.below hb6); have hC6 := (Kd.S_reads' hS6).2.2; have a2 := hb7.out.blk.cell 1 (v := .slice A3 s.r.length c3) rfl; clear hS6 a1)
        | (go_simp; go_at_call 33; refine (records_any w6 A6 A3 c6 c3 s.r hC6 hb7.out.ref.C.2).mono ?_; rintro e w7 ⟨rfl, hb8⟩)
        | (go_simp; go_at_call 17; refine (alive_any w7).mono ?_; rintro e w8 ⟨rfl, hb9⟩)
        | fail)
      all_goals
        go_wp2_with fail
        go_ret
        exact ⟨rfl, below_t (below_t hb7.out.bel hb8) hb9⟩
theorem goodA_pl {a : Ac} (h : (Lit.int .u8 a.kind).wf = true ∧ a.name.size ≤ 9223372036854775807 ∧ (Lit.int .i64 a.day).wf = true ∧ (Lit.int .i64 a.no).wf = true ∧ (a.ps.length ≤ 9223372036854775807 ∧ ∀ p ∈ a.ps, p.a.size ≤ 9223372036854775807 ∧ (Lit.int .i64 p.c).wf = true)) : GoodA a := by
  have h6 : IntKind.u8.min ≤ a.kind ∧ a.kind ≤ IntKind.u8.max := by simpa [Lit.wf] using h.1
  have e1 : IntKind.u8.min = 0 := by decide
  have e2 : IntKind.u8.max = 255 := by decide
  exact ⟨by omega, by omega, fun p hp => (h.2.2.2.2.2 p hp).1⟩
theorem plays_law (A : Option Addr) (c : Nat) (l : List Ac) (_ : l.length ≤ c) (_ : c ≤ 9223372036854775807) {w : World} (hC : Kd.C kAc w A l.length l) (hg : ∀ a ∈ l, (Lit.int .u8 a.kind).wf = true ∧ a.name.size ≤ 9223372036854775807 ∧ (Lit.int .i64 a.day).wf = true ∧ (Lit.int .i64 a.no).wf = true ∧ (a.ps.length ≤ 9223372036854775807 ∧ ∀ p ∈ a.ps, p.a.size ≤ 9223372036854775807 ∧ (Lit.int .i64 p.c).wf = true)) :
    Calls Try.prog 8 #[.slice A l.length c] w fun e w' => e = .returned (.bool true) ∧ Below w.heap.size w w' :=
  plays_walk A c l w hC (fun a ha => goodA_pl (hg a ha))
end Go.Proofs.Ytpmopdgnnlhplaa
namespace Go.Proofs.Ytpmopdgnnlhplaa
open Go.RowKit Go.Proofs.YtpmopdgnnlhplaaW.PrintWords
theorem ne47 (g : Nat) (w : World) : (binOp .neq 47 (.pointer (some ⟨g, 0, none⟩)) (.pointer none)).run Try.prog w = .ok (.bool true) w := by kernel_rfl
def PlayedPost (w : World) (s : St) (e : Ending) (w' : World) : Prop :=
  ∃ (F ok : Nat → Prop) (g : Nat) (A1 : Option Addr) (c1 : Nat) (A3 : Option Addr) (c3 : Nat), e = .returned (.tuple #[.pointer (some ⟨g, 0, none⟩), .agg #[.slice A1 s.n.length c1, .slice A3 s.r.length c3], .bool true]) ∧ LedF w' F g s ∧ RefL w' ok A1 c1 A3 c3 s ∧
    (∀ k, F k → ¬ ok k) ∧ (∀ k, F k → w.heap.size ≤ k) ∧ (∀ k, ok k → w.heap.size ≤ k) ∧ Below w.heap.size w w'
set_option maxRecDepth 100000 in
set_option maxHeartbeats 8000000 in
theorem played_any (w : World) (A : Option Addr) (c : Nat) (l : List Ac) (hC : Kd.C kAc w A l.length l) (hg : ∀ a ∈ l, GoodA a) (hl60 : l.length ≤ 60) (hl30 : ∀ a ∈ l, a.ps.length ≤ 30) :
    Calls Try.prog 37 #[.slice A l.length c] w (PlayedPost w (runS l ⟨[], []⟩)) := by
  have heq := ne47
  have hlm := hC.2.1
  have hb0 := (Below.refl w.heap.size w).alloc (Nat.le_refl _) (.cells #[.slice none 0 0, .slice none 0 0] 59)
  have hB0 := Blk.new w #[.slice none 0 0, .slice none 0 0] 59
  have hs0 : (w.alloc (.cells #[.slice none 0 0, .slice none 0 0] 59)).heap.size = w.heap.size + 1 := by simp
  go_enter Try.func37, Try.ntmps37
  go_wp2_with fail
  generalize w.alloc (.cells #[.slice none 0 0, .slice none 0 0] 59) = w1 at *
  have hC1 := Kd.C_below hC hb0
  refine (New_led w1).mono ?_
  rintro e w2 ⟨F2, g, rfl, hL2, hb2, hF2⟩
  have hstart : Both w1 (w2.alloc (.cells #[.slice none 0 0, .slice none 0 0] 59)) F2 (fun _ => False) g w2.heap.size none none 0 0 ⟨[], []⟩ :=
    ⟨hL2.below ((Below.refl _ w2).alloc (Nat.le_refl _) _), ⟨Kd.R_nil _ _ _ _ _, Kd.R_nil _ _ _ _ _, fun _ h => h.elim⟩, fun _ _ h => h, Blk.new w2 _ _, fun h => by have := hL2.fin _ h; omega, id, hF2, fun _ h => h.elim, hb2.size, hb2.alloc hb2.size _⟩
  have HST := Lib.hid hstart
  clear hstart hL2 hb2 hF2
  go_wp2_with fail
  generalize w2.alloc (.cells #[.slice none 0 0, .slice none 0 0] 59) = w3 at *
  generalize w2.heap.size = gb at *
  go_loopw [7, 8] (fun s7 s8 wr => ∃ (k : Nat) (F ok : Nat → Prop) (A1 A3 : Option Addr) (c1 c3 : Nat), k ≤ l.length ∧ s7 = .bool true ∧ s8 = .int .i64 k ∧ Both w1 wr F ok g gb A1 A3 c1 c3 (runS (l.take k) ⟨[], []⟩) ∧ (runS (l.take k) ⟨[], []⟩).n.length ≤ k) (fun _ s8 _ => l.length - (intOf s8).toNat)
  case atStart => exact ⟨0, F2, fun _ => False, none, none, 0, 0, Nat.zero_le _, rfl, rfl, HST.out, Nat.le_refl _⟩
  case round =>
    obtain ⟨k, F, ok, A1, A3, c1, c3, hk, rfl, rfl, hbo, hnl⟩ := hrel
    by_cases hlt : k < l.length
    · obtain ⟨x, hx⟩ : ∃ x, l[k]? = some x := ⟨_, List.getElem?_eq_getElem hlt⟩
      obtain ⟨ad, A4, c4, rfl, p0, p1, p2, p3, p4, hle4, hC4⟩ := at_Ac hC1 hx
      have HX := Lib.hid (take_snoc hx)
      have hgx := hg x (List.mem_of_getElem? hx)
      have h30 := hl30 x (List.mem_of_getElem? hx)
      have q0 := cell_below hbo.bel p0
      have q1 := cell_below hbo.bel p1
      have q2 := cell_below hbo.bel p2
      have q3 := cell_below hbo.bel p3
      have q4 := cell_below hbo.bel p4
      have HRS := Lib.hid (show runS (l.take (k + 1)) ⟨[], []⟩ = stS (runS (l.take k) ⟨[], []⟩) x by rw [HX.out, run_snoc])
      clear hx p0 p1 p2 p3 p4
      generalize runS (l.take k) ⟨[], []⟩ = s at *
      have a0 := hbo.blk.cell 0 (v := .slice A1 s.n.length c1) rfl
      have a1 := hbo.blk.cell 1 (v := .slice A3 s.r.length c3) rfl
      have hbd := hbo.below ((Below.refl _ wr).drew)
      have HBO := Lib.hid hbd
      clear hbo hbd
      have hsn := stS_names s x
      go_upto_region 6 with fail
      refine calm ?_
      go_region_law (first
        | (go_simp; go_at_call 32; refine (do_any HBO.out.led HBO.out.ref HBO.out.dis (by omega) x hgx HBO.out.bel HBO.out.Fge hC4 hle4 (by omega)).mono ?_; rintro e w7 ⟨B1, e1, B3, e3, F', ok', rfl, hL7, hR7, hU7, h8, h9⟩; have hB7 := HBO.out.blk.fr hU7.1 HBO.out.gF; have z0 := hB7.free 0; have z1 := hB7.free 1; have y0 := hB7.cell 0 (v := .slice A1 s.n.length c1) rfl; have y1 := hB7.cell 1 (v := .slice A3 s.r.length c3) rfl; have HBS := Lib.hid (HBO.out.step hL7 hR7 hU7 h8 h9); clear hL7 hR7 hU7 h8 h9 hB7 a0 a1 q0 q1 q2 q3 q4)
        | fail)
      all_goals
        simp only [Calm]
        have HNL := Lib.hid (show (stS s x).n.length ≤ k + 1 by omega)
        clear hsn
        go_wp2_with fail
        go_roundw
        case rel => exact ⟨k + 1, F', ok', B1, B3, e1, e3, by omega, rfl, by go_num, by rw [HRS.out]; exact HBS.out, by rw [HRS.out]; exact HNL.out⟩
        case measure => simp [intOf]; omega
    · rw [List.take_of_length_le (by omega)] at hbo
      generalize runS l ⟨[], []⟩ = s at *
      have a0 := hbo.blk.cell 0 (v := .slice A1 s.n.length c1) rfl
      have a1 := hbo.blk.cell 1 (v := .slice A3 s.r.length c3) rfl
      have hBr := hB0.move (hbo.bel.block _ hB0.lt)
      have z0 := hBr.free 0
      have z1 := hBr.free 1
      have y0 := hBr.cell 0 (v := .slice none 0 0) rfl
      have y1 := hBr.cell 1 (v := .slice none 0 0) rfl
      have hQ := hBr.store2 (.slice A1 s.n.length c1) (.slice A3 s.r.length c3)
      have r0 := hQ.cell 0 (v := .slice A1 s.n.length c1) rfl
      have r1 := hQ.cell 1 (v := .slice A3 s.r.length c3) rfl
      have hf : Fr (· = w.heap.size) wr ((wr.setCell ⟨w.heap.size, 0, none⟩ (.slice A1 s.n.length c1)).setCell ⟨w.heap.size, 1, none⟩ (.slice A3 s.r.length c3)).drew := (((Fr.refl (· = w.heap.size) wr).setCell (p := ⟨w.heap.size, 0, none⟩) (.inl rfl) _).setCell (p := ⟨w.heap.size, 1, none⟩) (.inl rfl) _).drew
      have HF := Lib.hid (show PlayedPost w s (.returned (.tuple #[.pointer (some ⟨g, 0, none⟩), .agg #[.slice A1 s.n.length c1, .slice A3 s.r.length c3], .bool true])) ((wr.setCell ⟨w.heap.size, 0, none⟩ (.slice A1 s.n.length c1)).setCell ⟨w.heap.size, 1, none⟩ (.slice A3 s.r.length c3)).drew from
        ⟨F, ok, g, A1, c1, A3, c3, rfl, hbo.led.fr hf (fun b hb e => by have := hbo.Fge b hb; omega), hbo.ref.fr hf (fun b hb e => by have := hbo.okge b hb; omega), hbo.dis, fun k hk => by have := hbo.Fge k hk; omega, fun k hk => by have := hbo.okge k hk; omega, ((Fr.of_below (below_t hb0 hbo.bel) (fun _ => False)).trans hf (fun x hx => .inr (by omega))).none_below⟩)
      clear hbo hQ hf hBr
      go_wp2_with fail
      go_region_law (fail)
      all_goals
        go_wp2_with fail
        exact bodyPost_ret (v := .tuple #[.pointer (some ⟨g, 0, none⟩), .agg #[.slice A1 s.n.length c1, .slice A3 s.r.length c3], .bool true]) (by simp [results, Try.results37, go_sem, r0, r1]) rfl HF.out
end Go.Proofs.Ytpmopdgnnlhplaa
