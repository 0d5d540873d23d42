/-
  The walks of few, act, ledger.
-/
import Derived.Test.YtpmopdgnnlhplaaLe
namespace Go.Proofs.Ytpmopdgnnlhplaa
open Go.RowKit Go.Proofs.YtpmopdgnnlhplaaW.PrintWords
def fewB (l : List Ac) : Bool := decide (l.length ≤ 60) && l.all fun a => decide (a.ps.length ≤ 30)
theorem fewB_true {l : List Ac} (h : fewB l = true) : l.length ≤ 60 ∧ ∀ a ∈ l, a.ps.length ≤ 30 := by
  unfold fewB at h
  rw [Bool.and_eq_true, decide_eq_true_eq, List.all_eq_true] at h
  exact ⟨h.1, fun a ha => of_decide_eq_true (h.2 a ha)⟩
theorem fewB_long {l : List Ac} (h : 60 < l.length) : fewB l = false := by
  unfold fewB
  rw [decide_eq_false (by omega), Bool.false_and]
theorem fewB_fat {l : List Ac} {a : Ac} (ha : a ∈ l) (h : 30 < a.ps.length) : fewB l = false := by
  unfold fewB
  have : (l.all fun a => decide (a.ps.length ≤ 30)) = false := by
    rw [List.all_eq_false]
    exact ⟨a, ha, by simp; omega⟩
  rw [this, Bool.and_false]
theorem fewB_yes {l : List Ac} (h : l.length ≤ 60) (h2 : ∀ a ∈ l, a.ps.length ≤ 30) : fewB l = true := by
  unfold fewB
  rw [decide_eq_true h, Bool.true_and, List.all_eq_true]
  exact fun a ha => decide_eq_true (h2 a ha)
set_option maxRecDepth 100000 in
set_option maxHeartbeats 1600000 in
theorem few_any (w : World) (A : Option Addr) (c : Nat) (l : List Ac) (hC : Kd.C kAc w A l.length l) :
    Calls Try.prog 31 #[.slice A l.length c] w fun e w' => e = .returned (.bool (fewB l)) ∧ w = w' := by
  have hlm := hC.2.1
  go_enter Try.func31, Try.ntmps31
  go_wp2_with fail
  go_loopw [3] (fun s3 wr => ∃ k : Nat, k ≤ l.length ∧ k ≤ 60 ∧ s3 = .int .i64 k ∧ (∀ a ∈ l.take k, a.ps.length ≤ 30) ∧ wr = w) (fun s3 _ => l.length - (intOf s3).toNat)
  case atStart => exact ⟨0, Nat.zero_le _, by omega, rfl, by simp, rfl⟩
  case round =>
    obtain ⟨k, hk, hk6, rfl, hn, rfl⟩ := hrel
    by_cases hlt : k < l.length
    · by_cases h60 : 60 ≤ k
      · have HF := Lib.hid (fewB_long (l := l) (by omega))
        clear hn
        go_wp2_with fail
        go_ret
        exact ⟨by rw [HF.out]; rfl, rfl⟩
      · obtain ⟨x, hx⟩ : ∃ x, l[k]? = some x := ⟨_, List.getElem?_eq_getElem hlt⟩
        obtain ⟨ad, A4, c4, rfl, p0, p1, p2, p3, p4, hle4, hC4⟩ := at_Ac hC hx
        have HX := Lib.hid hx
        have HN := Lib.hid hn
        clear hx hn
        by_cases h30 : 30 < x.ps.length
        · have HF := Lib.hid (fewB_fat (l := l) (List.mem_of_getElem? HX.out) h30)
          go_wp2_with fail
          go_ret
          exact ⟨by rw [HF.out]; rfl, rfl⟩
        · go_wp2_with fail
          go_roundw
          case rel =>
            refine ⟨k + 1, by omega, by omega, by go_num, fun a ha => ?_, by first | rfl | trivial⟩
            have := HX.out
            rw [List.getElem?_eq_getElem hlt, Option.some.injEq] at this
            rw [List.take_succ_eq_append_getElem hlt, List.mem_append, this] at ha
            rcases ha with ha | ha
            · exact HN.out a ha
            · simp only [List.mem_singleton] at ha
              subst ha
              omega
          case measure => simp [intOf]; omega
    · have HF := Lib.hid (fewB_yes (l := l) (by omega) (by rw [List.take_of_length_le (by omega)] at hn; exact hn))
      clear hn
      go_wp2_with fail
      go_ret
      exact ⟨by rw [HF.out]; rfl, rfl⟩
set_option maxRecDepth 100000 in
set_option maxHeartbeats 4000000 in
theorem act_any {w : World} {F : Nat → Prop} {g : Nat} {s : St} (h : LedF w F g s) (x : Ac) (A : Option Addr) (c : Nat) (hg : GoodA x) (hps : ∀ W, Fr F w W → Kd.C kPst W A x.ps.length x.ps) :
    Calls Try.prog 38 #[.pointer (some ⟨g, 0, none⟩), .agg #[.int .u8 x.kind, .string x.name, .int .i64 x.day, .int .i64 x.no, .slice A x.ps.length c]] w
      fun e w' => e = .returned (.int .i64 (stE s x)) ∧ ∃ F', LedF w' F' g (stS s x) ∧ Upd w F w' F' := by
  obtain ⟨g0, g1, g2⟩ := hg
  have hb1 := (Below.refl w.heap.size w).alloc (Nat.le_refl _) (.cells #[.int .u8 x.kind, .string x.name, .int .i64 x.day, .int .i64 x.no, .slice A x.ps.length c] 63)
  have h1 := h.below hb1
  have hu := Upd.of_below hb1 F
  have hm8 : x.kind.tmod 8 = x.kind % 8 := Int.tmod_eq_emod_of_nonneg g0
  have hps1 : ∀ W, Fr F (w.alloc (.cells #[.int .u8 x.kind, .string x.name, .int .i64 x.day, .int .i64 x.no, .slice A x.ps.length c] 63)) W → Kd.C kPst W A x.ps.length x.ps := fun W hW => hps W ((Fr.of_below hb1 F).trans hW (fun y hy => .inl hy))
  have HE := Lib.hid (show stE s x = if x.kind % 8 < 2 then openE s.n x.name else if x.kind % 8 < 6 then poE s x.day x.ps else revErr s.r x.no x.day from rfl)
  have HS := Lib.hid (show stS s x = if x.kind % 8 < 2 then opS s x.name else if x.kind % 8 < 6 then poS s x.day x.ps else reS s x.no x.day from rfl)
  have hk0 : 0 ≤ x.kind % 8 := by omega
  have hk7 : x.kind % 8 < 8 := by omega
  generalize hq : x.kind % 8 = q at *
  have hq8 : q = 0 ∨ q = 1 ∨ q = 2 ∨ q = 3 ∨ q = 4 ∨ q = 5 ∨ q = 6 ∨ q = 7 := by omega
  have fin : ∀ {w1 w2 : World} {F2 : Nat → Prop} {s' : St}, Upd w F w1 F → stS s x = s' → LedF w2 F2 g s' → Upd w1 F w2 F2 → ∃ F', LedF w2 F' g (stS s x) ∧ Upd w F w2 F' := fun h1 h2 h3 h4 => by
    rw [h2]; exact ⟨_, h3, h1.trans h4⟩
  have hB := Blk.new w #[.int .u8 x.kind, .string x.name, .int .i64 x.day, .int .i64 x.no, .slice A x.ps.length c] 63
  go_enter Try.func38, Try.ntmps38
  rcases hq8 with rfl | rfl | rfl | rfl | rfl | rfl | rfl | rfl
  · have HE1 := Lib.hid (show stE s x = openE s.n x.name by rw [HE.out]; rfl)
    have HS1 := Lib.hid (show stS s x = opS s x.name by rw [HS.out]; rfl)
    clear HE HS
    go_wp2_with fail
    refine (Open_led h1 x.name).mono ?_
    rintro e w2 ⟨rfl, F2, hL2, hU2⟩
    go_wp2_with fail
    go_ret
    exact ⟨by rw [HE1.out]; rfl, fin hu HS1.out hL2 hU2⟩
  · have HE1 := Lib.hid (show stE s x = openE s.n x.name by rw [HE.out]; rfl)
    have HS1 := Lib.hid (show stS s x = opS s x.name by rw [HS.out]; rfl)
    clear HE HS
    go_wp2_with fail
    refine (Open_led h1 x.name).mono ?_
    rintro e w2 ⟨rfl, F2, hL2, hU2⟩
    go_wp2_with fail
    go_ret
    exact ⟨by rw [HE1.out]; rfl, fin hu HS1.out hL2 hU2⟩
  · have HE1 := Lib.hid (show stE s x = poE s x.day x.ps by rw [HE.out]; rfl)
    have HS1 := Lib.hid (show stS s x = poS s x.day x.ps by rw [HS.out]; rfl)
    clear HE HS
    go_wp2_with fail
    refine (Post_led h1 x.day x.ps A c hps1 g2).mono ?_
    rintro e w2 ⟨rfl, F2, hL2, hU2⟩
    go_wp2_with fail
    go_ret
    exact ⟨by rw [HE1.out]; rfl, fin hu HS1.out hL2 hU2⟩
  · have HE1 := Lib.hid (show stE s x = poE s x.day x.ps by rw [HE.out]; rfl)
    have HS1 := Lib.hid (show stS s x = poS s x.day x.ps by rw [HS.out]; rfl)
    clear HE HS
    go_wp2_with fail
    refine (Post_led h1 x.day x.ps A c hps1 g2).mono ?_
    rintro e w2 ⟨rfl, F2, hL2, hU2⟩
    go_wp2_with fail
    go_ret
    exact ⟨by rw [HE1.out]; rfl, fin hu HS1.out hL2 hU2⟩
  · have HE1 := Lib.hid (show stE s x = poE s x.day x.ps by rw [HE.out]; rfl)
    have HS1 := Lib.hid (show stS s x = poS s x.day x.ps by rw [HS.out]; rfl)
    clear HE HS
    go_wp2_with fail
    refine (Post_led h1 x.day x.ps A c hps1 g2).mono ?_
    rintro e w2 ⟨rfl, F2, hL2, hU2⟩
    go_wp2_with fail
    go_ret
    exact ⟨by rw [HE1.out]; rfl, fin hu HS1.out hL2 hU2⟩
  · have HE1 := Lib.hid (show stE s x = poE s x.day x.ps by rw [HE.out]; rfl)
    have HS1 := Lib.hid (show stS s x = poS s x.day x.ps by rw [HS.out]; rfl)
    clear HE HS
    go_wp2_with fail
    refine (Post_led h1 x.day x.ps A c hps1 g2).mono ?_
    rintro e w2 ⟨rfl, F2, hL2, hU2⟩
    go_wp2_with fail
    go_ret
    exact ⟨by rw [HE1.out]; rfl, fin hu HS1.out hL2 hU2⟩
  · have HE1 := Lib.hid (show stE s x = revErr s.r x.no x.day by rw [HE.out]; rfl)
    have HS1 := Lib.hid (show stS s x = reS s x.no x.day by rw [HS.out]; rfl)
    clear HE HS
    go_wp2_with fail
    refine (Reverse_led h1 x.no x.day).mono ?_
    rintro e w2 ⟨rfl, F2, hL2, hU2⟩
    go_wp2_with fail
    go_ret
    exact ⟨by rw [HE1.out]; rfl, fin hu HS1.out hL2 hU2⟩
  · have HE1 := Lib.hid (show stE s x = revErr s.r x.no x.day by rw [HE.out]; rfl)
    have HS1 := Lib.hid (show stS s x = reS s x.no x.day by rw [HS.out]; rfl)
    clear HE HS
    go_wp2_with fail
    refine (Reverse_led h1 x.no x.day).mono ?_
    rintro e w2 ⟨rfl, F2, hL2, hU2⟩
    go_wp2_with fail
    go_ret
    exact ⟨by rw [HE1.out]; rfl, fin hu HS1.out hL2 hU2⟩
theorem run_snoc (l : List Ac) (x : Ac) (s : St) : runS (l ++ [x]) s = stS (runS l s) x := by
  unfold runS
  rw [List.foldl_append]
  rfl
theorem take_snoc {α : Type} {l : List α} {k : Nat} {x : α} (hx : l[k]? = some x) : l.take (k + 1) = l.take k ++ [x] := by
  have hk := (List.getElem?_eq_some_iff.1 hx).1
  rw [List.take_succ_eq_append_getElem hk, (List.getElem?_eq_some_iff.1 hx).2]
theorem cell_below {w W : World} {p : Addr} {v : Value} (hb : Below w.heap.size w W) (hc : w.cell? p = some v) : W.cell? p = some v := (hb.cell (World.block_lt_of_cell? w _ hc)).trans hc
set_option maxRecDepth 100000 in
set_option maxHeartbeats 1600000 in
theorem ledger_any (w : World) (A : Option Addr) (c : Nat) (l : List Ac) (hC : Kd.C kAc w A l.length l) (hg : ∀ a ∈ l, GoodA a) :
    Calls Try.prog 34 #[.slice A l.length c] w fun e w' => ∃ F g, e = .returned (.pointer (some ⟨g, 0, none⟩)) ∧ LedF w' F g (runS l ⟨[], []⟩) ∧ Below w.heap.size w w' ∧ ∀ x, F x → w.heap.size ≤ x := by
  have hlm := hC.2.1
  go_enter Try.func34, Try.ntmps34
  go_wp2_with fail
  refine (New_led w).mono ?_
  rintro e w1 ⟨F1, g, rfl, hL1, hb1, hF1⟩
  go_wp2_with fail
  go_loopw [4] (fun s4 wr => ∃ (k : Nat) (F : Nat → Prop), k ≤ l.length ∧ s4 = .int .i64 k ∧ LedF wr F g (runS (l.take k) ⟨[], []⟩) ∧ Below w.heap.size w wr ∧ ∀ x, F x → w.heap.size ≤ x) (fun s4 _ => l.length - (intOf s4).toNat)
  case atStart => exact ⟨0, F1, Nat.zero_le _, rfl, hL1, hb1, hF1⟩
  case round =>
    clear hL1 hb1 hF1
    obtain ⟨k, F, hk, rfl, hL, hb, hF⟩ := hrel
    by_cases hlt : k < l.length
    · obtain ⟨x, hx⟩ : ∃ x, l[k]? = some x := ⟨_, List.getElem?_eq_getElem hlt⟩
      obtain ⟨ad, A4, c4, rfl, p0, p1, p2, p3, p4, hle4, hC4⟩ := at_Ac hC hx
      have HX := Lib.hid (take_snoc hx)
      have hgx := hg x (List.mem_of_getElem? hx)
      have q0 := cell_below hb p0
      have q1 := cell_below hb p1
      have q2 := cell_below hb p2
      have q3 := cell_below hb p3
      have q4 := cell_below hb p4
      clear hx p0 p1 p2 p3 p4
      go_wp2_with fail
      refine (act_any hL x A4 c4 hgx (fun W hW => Kd.C_below hC4 (hb.trans (hW.to_below hb.size hF)))).mono ?_
      rintro e w2 ⟨rfl, F2, hL2, hU2⟩
      obtain ⟨hb2, hF2⟩ := upd_below hb hF hU2
      go_wp2_with fail
      go_roundw
      case rel => exact ⟨k + 1, F2, by omega, by go_num, by rw [HX.out, run_snoc]; exact hL2, hb2, hF2⟩
      case measure => simp [intOf]; omega
    · rw [List.take_of_length_le (by omega)] at hL
      go_wp2_with fail
      go_ret
      exact ⟨F, g, rfl, hL, hb, hF⟩
end Go.Proofs.Ytpmopdgnnlhplaa
