/-
  Fill: what is let in (want 79, asked 72, Fills 43). Printed by wip/tools/gen_fill.py.
-/
import Derived.Test.YtpbndcmmclkdpaaZGNb
import Derived.Deep.MidRow
namespace Go.Proofs.Ytpbndcmmclkdpaa
open PFlowSolves
open Go.RowKit Go.Proofs.YtpbndcmmclkdpaaW.PrintWords
def okW (q : S51) : Bool := inB q.f0 4096 && (inB q.f1 16384 && (inB q.f2 10000 && (inB q.f3 10000 && (inB q.f4 10000 && inB q.f5 7))))
set_option maxRecDepth 100000 in
set_option maxHeartbeats 4000000 in
theorem want_any (q : S51) (w : World) : Calls Try.prog 79 #[vW q] w fun e w' => e = .returned (.bool (okW q)) ∧ Below w.heap.size w w' := by
  obtain ⟨p0, p1, p2, p3, p4, p5⟩ := q
  have HS : Hid (okW ⟨p0, p1, p2, p3, p4, p5⟩ = (inB p0 4096 && (inB p1 16384 && (inB p2 10000 && (inB p3 10000 && (inB p4 10000 && inB p5 7)))))) := Lib.hid rfl
  have HK1 := Lib.hid (Blk.new w #[.int .i64 p0, .int .i64 p1, .int .i64 p2, .int .i64 p3, .int .i64 p4, .int .i64 p5] 51)
  have HB1 := Lib.hid (below_alloc (Below.refl w.heap.size w) (.cells #[.int .i64 p0, .int .i64 p1, .int .i64 p2, .int .i64 p3, .int .i64 p4, .int .i64 p5] 51 (0, 0)))
  generalize okW ⟨p0, p1, p2, p3, p4, p5⟩ = r at *
  go_enter Try.func79, Try.ntmps79
  go_upto_region 1 with (fail)
  generalize w.alloc (.cells #[.int .i64 p0, .int .i64 p1, .int .i64 p2, .int .i64 p3, .int .i64 p4, .int .i64 p5] 51 (0, 0)) = w1 at *
  have c0 := Blk.cell HK1.out 0 (v := .int .i64 p0) rfl
  have HC := Lib.hid (within_any p0 4096 w1)
  go_wp2_with fail
  refine HC.out.mono ?_
  rintro e w2 ⟨rfl, hb⟩
  have HB2 := Lib.hid (below_t HB1.out hb)
  have HK2 := Lib.hid (HK1.out.fr (Fr.of_below hb (fun _ => False)) (fun a => a))
  clear hb HC c0
  cases h0 : inB p0 4096 with
  | false =>
    have HR : Hid (r = false) := Lib.hid (by rw [HS.out, h0, Bool.false_and])
    clear h0
    go_wp2_with fail
    go_ret
    exact ⟨by rw [HR.out]; rfl, HB2.out⟩
  | true =>
    have c1 := Blk.cell HK2.out 1 (v := .int .i64 p1) rfl
    have HC := Lib.hid (within_any p1 16384 w2)
    go_wp2_with fail
    refine HC.out.mono ?_
    rintro e w3 ⟨rfl, hb⟩
    have HB3 := Lib.hid (below_t HB2.out hb)
    have HK3 := Lib.hid (HK2.out.fr (Fr.of_below hb (fun _ => False)) (fun a => a))
    clear hb HC c1
    cases h1 : inB p1 16384 with
    | false =>
      have HR : Hid (r = false) := Lib.hid (by rw [HS.out, h0, h1, Bool.true_and, Bool.false_and])
      clear h0 h1
      go_wp2_with fail
      go_ret
      exact ⟨by rw [HR.out]; rfl, HB3.out⟩
    | true =>
      have c2 := Blk.cell HK3.out 2 (v := .int .i64 p2) rfl
      have HC := Lib.hid (within_any p2 10000 w3)
      go_wp2_with fail
      refine HC.out.mono ?_
      rintro e w4 ⟨rfl, hb⟩
      have HB4 := Lib.hid (below_t HB3.out hb)
      have HK4 := Lib.hid (HK3.out.fr (Fr.of_below hb (fun _ => False)) (fun a => a))
      clear hb HC c2
      cases h2 : inB p2 10000 with
      | false =>
        have HR : Hid (r = false) := Lib.hid (by rw [HS.out, h0, h1, h2, Bool.true_and, Bool.true_and, Bool.false_and])
        clear h0 h1 h2
        go_wp2_with fail
        go_ret
        exact ⟨by rw [HR.out]; rfl, HB4.out⟩
      | true =>
        have c3 := Blk.cell HK4.out 3 (v := .int .i64 p3) rfl
        have HC := Lib.hid (within_any p3 10000 w4)
        go_wp2_with fail
        refine HC.out.mono ?_
        rintro e w5 ⟨rfl, hb⟩
        have HB5 := Lib.hid (below_t HB4.out hb)
        have HK5 := Lib.hid (HK4.out.fr (Fr.of_below hb (fun _ => False)) (fun a => a))
        clear hb HC c3
        cases h3 : inB p3 10000 with
        | false =>
          have HR : Hid (r = false) := Lib.hid (by rw [HS.out, h0, h1, h2, h3, Bool.true_and, Bool.true_and, Bool.true_and, Bool.false_and])
          clear h0 h1 h2 h3
          go_wp2_with fail
          go_ret
          exact ⟨by rw [HR.out]; rfl, HB5.out⟩
        | true =>
          have c4 := Blk.cell HK5.out 4 (v := .int .i64 p4) rfl
          have HC := Lib.hid (within_any p4 10000 w5)
          go_wp2_with fail
          refine HC.out.mono ?_
          rintro e w6 ⟨rfl, hb⟩
          have HB6 := Lib.hid (below_t HB5.out hb)
          have HK6 := Lib.hid (HK5.out.fr (Fr.of_below hb (fun _ => False)) (fun a => a))
          clear hb HC c4
          cases h4 : inB p4 10000 with
          | false =>
            have HR : Hid (r = false) := Lib.hid (by rw [HS.out, h0, h1, h2, h3, h4, Bool.true_and, Bool.true_and, Bool.true_and, Bool.true_and, Bool.false_and])
            clear h0 h1 h2 h3 h4
            go_wp2_with fail
            go_ret
            exact ⟨by rw [HR.out]; rfl, HB6.out⟩
          | true =>
            have c5 := Blk.cell HK6.out 5 (v := .int .i64 p5) rfl
            have HC := Lib.hid (within_any p5 7 w6)
            go_wp2_with fail
            refine HC.out.mono ?_
            rintro e w7 ⟨rfl, hb⟩
            have HB7 := Lib.hid (below_t HB6.out hb)
            have HK7 := Lib.hid (HK6.out.fr (Fr.of_below hb (fun _ => False)) (fun a => a))
            clear hb HC c5
            have HR : Hid (r = inB p5 7) := Lib.hid (by rw [HS.out, h0, h1, h2, h3, h4, Bool.true_and, Bool.true_and, Bool.true_and, Bool.true_and, Bool.true_and])
            clear h0 h1 h2 h3 h4
            generalize inB p5 7 = z at *
            go_wp2_with fail
            go_ret
            exact ⟨by rw [HR.out]; rfl, HB7.out⟩
/-- A tariff's numbers, and a row of them. -/
def tarL (T : Nat → Int) : List Value := (List.range 64).map (fun j => .int .i64 (T j))
abbrev row8 (R : Nat → Int) : Array Value := #[.int .i64 (R 0), .int .i64 (R 1), .int .i64 (R 2), .int .i64 (R 3), .int .i64 (R 4), .int .i64 (R 5), .int .i64 (R 6), .int .i64 (R 7)]
abbrev vTar (T : Nat → Int) : Value := .agg (tarL T).toArray
set_option maxRecDepth 100000 in
theorem run_index67 (T : Nat → Int) {i : Nat} (hi : i < 8) (w : World) : (Instr.index 67 (.agg (tarL T).toArray) (.int .i64 i)).run Try.prog w = .ok (.agg (row8 (fun j => T (i * 8 + j)))) w := by
  have : i = 0 ∨ i = 1 ∨ i = 2 ∨ i = 3 ∨ i = 4 ∨ i = 5 ∨ i = 6 ∨ i = 7 := by omega
  rcases this with h | h | h | h | h | h | h | h
  all_goals
    subst h
    rfl
set_option maxRecDepth 100000 in
theorem run_index65 (R : Nat → Int) {k : Nat} (hk : k < 8) (w : World) : (Instr.index 65 (.agg (row8 R)) (.int .i64 k)).run Try.prog w = .ok (.int .i64 (R k)) w := by
  have : k = 0 ∨ k = 1 ∨ k = 2 ∨ k = 3 ∨ k = 4 ∨ k = 5 ∨ k = 6 ∨ k = 7 := by omega
  rcases this with h | h | h | h | h | h | h | h
  all_goals
    subst h
    rfl
theorem info67 : (Try.prog.info? 67).map (·.size) = some 64 := by kernel_rfl
theorem tarL_at (T : Nat → Int) {j : Nat} (h : j < 64) : (tarL T)[j]? = some (.int .i64 (T j)) := by
  unfold tarL; rw [List.getElem?_map, List.getElem?_range h]; rfl
theorem range67 {w : World} {b : Nat} {T : Nat → Int} (h : Blk w b (tarL T).toArray 67) : w.rangeAt b 0 (tarL T) := fun j v hv => by
  rw [Nat.zero_add]
  exact Blk.cell h j (by rw [← hv]; simp)
theorem tar_cell {w : World} {b : Nat} {T : Nat → Int} (h : Blk w b (tarL T).toArray 67) {j : Nat} (hj : j < 64) : w.cell? ⟨b, j, none⟩ = some (.int .i64 (T j)) :=
  Blk.cell h j (by have := tarL_at T hj; simpa using this)
/-- What Fill refuses. -/
def fillE (ps : List S49) (ws : List S51) (T : Nat → Int) : Int :=
  if 12 < ps.length ∨ 12 < ws.length then 3 else if ps.any (fun p => !okP p) = true ∨ ws.any (fun q => !okW q) = true ∨ (List.range 64).any (fun j => !inB (T j) 16384) = true then 2 else 0
theorem fillE_p {ps : List S49} {ws : List S51} {T : Nat → Int} (h0 : ¬ (12 < ps.length ∨ 12 < ws.length)) {i : Nat} {p : S49} (hp : ps[i]? = some p) (hb : okP p = false) : fillE ps ws T = 2 := by
  unfold fillE
  rw [if_neg h0, if_pos (.inl (List.any_eq_true.2 ⟨p, List.mem_of_getElem? hp, by rw [hb]; rfl⟩))]
theorem fillE_w {ps : List S49} {ws : List S51} {T : Nat → Int} (h0 : ¬ (12 < ps.length ∨ 12 < ws.length)) {i : Nat} {q : S51} (hq : ws[i]? = some q) (hb : okW q = false) : fillE ps ws T = 2 := by
  unfold fillE
  rw [if_neg h0, if_pos (.inr (.inl (List.any_eq_true.2 ⟨q, List.mem_of_getElem? hq, by rw [hb]; rfl⟩)))]
theorem fillE_t {ps : List S49} {ws : List S51} {T : Nat → Int} (h0 : ¬ (12 < ps.length ∨ 12 < ws.length)) {j : Nat} (hj : j < 64) (hb : inB (T j) 16384 = false) : fillE ps ws T = 2 := by
  unfold fillE
  rw [if_neg h0, if_pos (.inr (.inr (List.any_eq_true.2 ⟨j, List.mem_range.2 hj, by rw [hb]; rfl⟩)))]
theorem fillE_0 {ps : List S49} {ws : List S51} {T : Nat → Int} (h0 : ¬ (12 < ps.length ∨ 12 < ws.length)) (hp : ∀ (i : Nat) (p : S49), ps[i]? = some p → okP p = true) (hq : ∀ (i : Nat) (q : S51), ws[i]? = some q → okW q = true) (ht : ∀ j, j < 64 → inB (T j) 16384 = true) : fillE ps ws T = 0 := by
  unfold fillE
  rw [if_neg h0, if_neg]
  rintro (h | h | h)
  · obtain ⟨p, hm, hb⟩ := List.any_eq_true.1 h
    obtain ⟨i, hi⟩ := List.getElem?_of_mem hm
    rw [hp i p hi] at hb; exact absurd hb (by simp)
  · obtain ⟨q, hm, hb⟩ := List.any_eq_true.1 h
    obtain ⟨i, hi⟩ := List.getElem?_of_mem hm
    rw [hq i q hi] at hb; exact absurd hb (by simp)
  · obtain ⟨j, hm, hb⟩ := List.any_eq_true.1 h
    rw [ht j (List.mem_range.1 hm)] at hb; exact absurd hb (by simp)
theorem fillE_ok {ps : List S49} {ws : List S51} {T : Nat → Int} (h : fillE ps ws T = 0) : ps.length ≤ 12 ∧ ws.length ≤ 12 ∧ (∀ p ∈ ps, okP p = true) ∧ (∀ q ∈ ws, okW q = true) ∧ ∀ j, j < 64 → inB (T j) 16384 = true := by
  unfold fillE at h
  by_cases h0 : 12 < ps.length ∨ 12 < ws.length
  · rw [if_pos h0] at h; exact absurd h (by decide)
  · rw [if_neg h0] at h
    split at h
    · exact absurd h (by decide)
    · rename_i h1
      refine ⟨by omega, by omega, fun p hp => ?_, fun q hq => ?_, fun j hj => ?_⟩
      · cases e : okP p with
        | true => rfl
        | false => exact absurd (.inl (List.any_eq_true.2 ⟨p, hp, by rw [e]; rfl⟩)) h1
      · cases e : okW q with
        | true => rfl
        | false => exact absurd (.inr (.inl (List.any_eq_true.2 ⟨q, hq, by rw [e]; rfl⟩))) h1
      · cases e : inB (T j) 16384 with
        | true => rfl
        | false => exact absurd (.inr (.inr (List.any_eq_true.2 ⟨j, List.mem_range.2 hj, by rw [e]; rfl⟩))) h1
theorem rdP {l : List S49} {i : Nat} {a : S49} (h : l[i]? = some a) : rd_T49 l (i : Int) = a := by
  unfold rd_T49; rw [Int.toNat_natCast, List.getD_eq_getElem?_getD, h]; rfl
theorem rdW {l : List S51} {i : Nat} {a : S51} (h : l[i]? = some a) : rd_T51 l (i : Int) = a := by
  unfold rd_T51; rw [Int.toNat_natCast, List.getD_eq_getElem?_getD, h]; rfl
set_option maxRecDepth 100000 in
set_option maxHeartbeats 4000000 in
theorem asked_any (w : World) (A1 : Option Addr) (c1 : Nat) (ps : List S49) (h1 : Kd.C k49 w A1 ps.length ps) (A2 : Option Addr) (c2 : Nat) (ws : List S51) (h2 : Kd.C k51 w A2 ws.length ws) (T : Nat → Int) :
    Calls Try.prog 72 #[.slice A1 ps.length c1, .slice A2 ws.length c2, vTar T] w fun e w' => e = .returned (.int .i64 (fillE ps ws T)) ∧ Below w.heap.size w w' := by
  have HBX := Lib.hid (Blk.new w (tarL T).toArray 67)
  have HB0 := Lib.hid (below_alloc (Below.refl w.heap.size w) (.cells (tarL T).toArray 67 (0, 0)))
  have H1 := Lib.hid h1
  have H2 := Lib.hid h2
  clear h1 h2
  go_enter Try.func72, Try.ntmps72
  go_upto_region 1 with (fail)
  generalize w.alloc (.cells (tarL T).toArray 67 (0, 0)) = w1 at *
  by_cases h0 : 12 < ps.length ∨ 12 < ws.length
  · have HE : Hid (fillE ps ws T = 3) := Lib.hid (if_pos h0)
    by_cases g : 12 < ps.length
    · have e1 : decide ((12 : Int) < ps.length) = true := decide_eq_true (by omega)
      clear h0 g
      go_wp2_with fail
      go_ret
      exact ⟨by rw [HE.out]; rfl, HB0.out⟩
    · have e1 : decide ((12 : Int) < ps.length) = false := decide_eq_false (by omega)
      have e2 : decide ((12 : Int) < ws.length) = true := decide_eq_true (by omega)
      clear h0 g
      go_wp2_with fail
      go_ret
      exact ⟨by rw [HE.out]; rfl, HB0.out⟩
  · have e1 : decide ((12 : Int) < ps.length) = false := decide_eq_false (by omega)
    have e2 : decide ((12 : Int) < ws.length) = false := decide_eq_false (by omega)
    have H0 := Lib.hid h0
    have HLP : Hid (ps.length ≤ 12 ∧ ws.length ≤ 12) := Lib.hid ⟨by omega, by omega⟩
    have HB10 := Lib.hid (Below.refl w1.heap.size w1)
    clear h0
    go_wp2_with fail
    go_loopg [25] ps.length (fun kk v25 wr => ∃ i : Nat, v25 = .int .i64 i ∧ Hid (i + kk = ps.length) ∧ Hid (∀ j p, j < i → ps[j]? = some p → okP p = true) ∧ Hid (Below w1.heap.size w1 wr))
    case atStart => exact ⟨0, rfl, Lib.hid (by omega), Lib.hid (fun j p hj => absurd hj (Nat.not_lt_zero _)), HB10⟩
    case round =>
      clear HB10
      obtain ⟨i, rfl, HI, HOKS, HB⟩ := hrel
      obtain ⟨wv, rfl⟩ : ∃ wv : World, wv = wr := ⟨_, rfl⟩
      by_cases hlt : i < ps.length
      · have hi0 : (i : Int) < ps.length := by omega
        have hiz : (0 : Int) ≤ i := by omega
        obtain ⟨p, hp⟩ : ∃ p, ps[i]? = some p := ⟨_, List.getElem?_eq_getElem hlt⟩
        obtain ⟨pd, rfl, q0, q1, q2, q3, q4⟩ := at_T49 (Kd.C_below H1.out (below_t HB0.out HB.out)) (i : Int) hiz hi0
        rw [rdP hp, Int.toNat_natCast] at q0 q1 q2 q3 q4
        have hw : IntKind.i64.wrap ((i : Int) + 1) = i + 1 := IntWalk.i64_in _ (by have := HLP.out; omega)
        have hal := below_alloc (Below.refl wv.heap.size wv) (.cells #[.int .i64 p.f0, .int .i64 p.f1, .int .i64 p.f2, .int .i64 p.f3, .int .i64 p.f4] 49 (0, 0))
        have hA4 := Blk.new wv #[.int .i64 p.f0, .int .i64 p.f1, .int .i64 p.f2, .int .i64 p.f3, .int .i64 p.f4] 49
        have HLT := Lib.hid hlt
        have HPI := Lib.hid hp
        clear hlt hp
        go_upto_region 6 with (fail)
        generalize wv.alloc (.cells #[.int .i64 p.f0, .int .i64 p.f1, .int .i64 p.f2, .int .i64 p.f3, .int .i64 p.f4] 49 (0, 0)) = wa at *
        have b0 := Blk.cell hA4 0 (v := .int .i64 p.f0) rfl
        have b1 := Blk.cell hA4 1 (v := .int .i64 p.f1) rfl
        have b2 := Blk.cell hA4 2 (v := .int .i64 p.f2) rfl
        have b3 := Blk.cell hA4 3 (v := .int .i64 p.f3) rfl
        have b4 := Blk.cell hA4 4 (v := .int .i64 p.f4) rfl
        have HC := Lib.hid (parcel_any p wa)
        have HBA := Lib.hid (below_t HB.out hal)
        clear hal hA4 q0 q1 q2 q3 q4
        go_wp2_with fail
        refine HC.out.mono ?_
        rintro e wb ⟨rfl, hb⟩
        have HBB := Lib.hid (below_t HBA.out hb)
        clear hb HC b0 b1 b2 b3 b4
        cases hok : okP p with
        | false =>
          have HE : Hid (fillE ps ws T = 2) := Lib.hid (fillE_p H0.out HPI.out hok)
          have HBC := Lib.hid (below_t HB0.out HBB.out)
          clear hok
          go_wp2_with fail
          go_ret
          exact ⟨by rw [HE.out]; rfl, HBC.out⟩
        | true =>
          have HOK2 : Hid (∀ j q, j < i + 1 → ps[j]? = some q → okP q = true) := Lib.hid (fun j q hj hq => by
            by_cases e : j = i
            · subst e; rw [HPI.out] at hq; rw [← Option.some.inj hq]; exact hok
            · exact HOKS.out j q (by omega) hq)
          clear hok
          go_wp2_with fail
          go_roundg (ps.length - (i + 1))
          case measure => have := HI.out; have := HLT.out; omega
          case rel => exact ⟨i + 1, by go_num, Lib.hid (by have := HI.out; have := HLT.out; omega), HOK2, HBB⟩
      · have hnl : ¬ (i : Int) < ps.length := by omega
        have HPS : Hid (∀ (j : Nat) (p : S49), ps[j]? = some p → okP p = true) := Lib.hid (fun j p hj => HOKS.out j p (by have := (List.getElem?_eq_some_iff.1 hj).1; omega) hj)
        clear hlt HI HOKS
        go_wp2_with fail
        go_loopg [35] ws.length (fun kk v35 wr => ∃ i : Nat, v35 = .int .i64 i ∧ Hid (i + kk = ws.length) ∧ Hid (∀ j p, j < i → ws[j]? = some p → okW p = true) ∧ Hid (Below w1.heap.size w1 wr))
        case atStart => exact ⟨0, rfl, Lib.hid (by omega), Lib.hid (fun j p hj => absurd hj (Nat.not_lt_zero _)), HB⟩
        case round =>
          clear HB hnl
          obtain ⟨i, rfl, HI, HOKS, HB⟩ := hrel
          obtain ⟨wv, rfl⟩ : ∃ wv : World, wv = wr := ⟨_, rfl⟩
          by_cases hlt : i < ws.length
          · have hi0 : (i : Int) < ws.length := by omega
            have hiz : (0 : Int) ≤ i := by omega
            obtain ⟨p, hp⟩ : ∃ p, ws[i]? = some p := ⟨_, List.getElem?_eq_getElem hlt⟩
            obtain ⟨pd, rfl, q0, q1, q2, q3, q4, q5⟩ := at_T51 (Kd.C_below H2.out (below_t HB0.out HB.out)) (i : Int) hiz hi0
            rw [rdW hp, Int.toNat_natCast] at q0 q1 q2 q3 q4 q5
            have hw : IntKind.i64.wrap ((i : Int) + 1) = i + 1 := IntWalk.i64_in _ (by have := HLP.out; omega)
            have hal := below_alloc (Below.refl wv.heap.size wv) (.cells #[.int .i64 p.f0, .int .i64 p.f1, .int .i64 p.f2, .int .i64 p.f3, .int .i64 p.f4, .int .i64 p.f5] 51 (0, 0))
            have hA4 := Blk.new wv #[.int .i64 p.f0, .int .i64 p.f1, .int .i64 p.f2, .int .i64 p.f3, .int .i64 p.f4, .int .i64 p.f5] 51
            have HLT := Lib.hid hlt
            have HPI := Lib.hid hp
            clear hlt hp
            go_upto_region 12 with (fail)
            generalize wv.alloc (.cells #[.int .i64 p.f0, .int .i64 p.f1, .int .i64 p.f2, .int .i64 p.f3, .int .i64 p.f4, .int .i64 p.f5] 51 (0, 0)) = wa at *
            have b0 := Blk.cell hA4 0 (v := .int .i64 p.f0) rfl
            have b1 := Blk.cell hA4 1 (v := .int .i64 p.f1) rfl
            have b2 := Blk.cell hA4 2 (v := .int .i64 p.f2) rfl
            have b3 := Blk.cell hA4 3 (v := .int .i64 p.f3) rfl
            have b4 := Blk.cell hA4 4 (v := .int .i64 p.f4) rfl
            have b5 := Blk.cell hA4 5 (v := .int .i64 p.f5) rfl
            have HC := Lib.hid (want_any p wa)
            have HBA := Lib.hid (below_t HB.out hal)
            clear hal hA4 q0 q1 q2 q3 q4 q5
            go_wp2_with fail
            refine HC.out.mono ?_
            rintro e wb ⟨rfl, hb⟩
            have HBB := Lib.hid (below_t HBA.out hb)
            clear hb HC b0 b1 b2 b3 b4 b5
            cases hok : okW p with
            | false =>
              have HE : Hid (fillE ps ws T = 2) := Lib.hid (fillE_w H0.out HPI.out hok)
              have HBC := Lib.hid (below_t HB0.out HBB.out)
              clear hok
              go_wp2_with fail
              go_ret
              exact ⟨by rw [HE.out]; rfl, HBC.out⟩
            | true =>
              have HOK2 : Hid (∀ j q, j < i + 1 → ws[j]? = some q → okW q = true) := Lib.hid (fun j q hj hq => by
                by_cases e : j = i
                · subst e; rw [HPI.out] at hq; rw [← Option.some.inj hq]; exact hok
                · exact HOKS.out j q (by omega) hq)
              clear hok
              go_wp2_with fail
              go_roundg (ws.length - (i + 1))
              case measure => have := HI.out; have := HLT.out; omega
              case rel => exact ⟨i + 1, by go_num, Lib.hid (by have := HI.out; have := HLT.out; omega), HOK2, HBB⟩
          · have hnl : ¬ (i : Int) < ws.length := by omega
            have HWS : Hid (∀ (j : Nat) (p : S51), ws[j]? = some p → okW p = true) := Lib.hid (fun j p hj => HOKS.out j p (by have := (List.getElem?_eq_some_iff.1 hj).1; omega) hj)
            have HRG := Lib.hid (range67 (HBX.out.fr (Fr.of_below HB.out (fun _ => False)) (fun a => a)))
            clear hlt HI HOKS
            go_wp2_with (refine wpList_load_mid rfl 67 _ rfl w.heap.size 0 rfl (tarL T) _ HRG.out Try.underlying67 rfl info67 ?_)
            go_loopg [44] 8 (fun kk v44 wr => ∃ i : Nat, v44 = .int .i64 i ∧ Hid (i + kk = 8) ∧ Hid (∀ j, j < i * 8 → inB (T j) 16384 = true) ∧ Hid (Below w1.heap.size w1 wr))
            case atStart => exact ⟨0, rfl, Lib.hid (by omega), Lib.hid (fun j hj => absurd hj (by omega)), HB⟩
            case round =>
              clear HB hnl
              obtain ⟨i, rfl, HI, HT, HB⟩ := hrel
              obtain ⟨wv, rfl⟩ : ∃ wv : World, wv = wr := ⟨_, rfl⟩
              by_cases hlt : i < 8
              · have hi0 : (i : Int) < 8 := by omega
                have hw : IntKind.i64.wrap ((i : Int) + 1) = i + 1 := IntWalk.i64_in _ (by omega)
                have hix := run_index67 T hlt
                have HLT := Lib.hid hlt
                clear hlt
                generalize hR : (fun j => T (i * 8 + j)) = R at *
                have HRR := Lib.hid hR
                clear hR
                have hal := below_alloc (Below.refl wv.heap.size wv) (.cells (row8 R) 65 (0, 0))
                have hA4 := Blk.new wv (row8 R) 65
                go_upto_region 18 with (fail)
                generalize wv.alloc (.cells (row8 R) 65 (0, 0)) = wz at *
                have HBZ := Lib.hid (below_t HB.out hal)
                clear hal
                generalize wv.heap.size = bs at *
                have b0 := Blk.cell hA4 0 (v := .int .i64 (R 0)) rfl
                have b1 := Blk.cell hA4 1 (v := .int .i64 (R 1)) rfl
                have b2 := Blk.cell hA4 2 (v := .int .i64 (R 2)) rfl
                have b3 := Blk.cell hA4 3 (v := .int .i64 (R 3)) rfl
                have b4 := Blk.cell hA4 4 (v := .int .i64 (R 4)) rfl
                have b5 := Blk.cell hA4 5 (v := .int .i64 (R 5)) rfl
                have b6 := Blk.cell hA4 6 (v := .int .i64 (R 6)) rfl
                have b7 := Blk.cell hA4 7 (v := .int .i64 (R 7)) rfl
                clear hix hA4
                go_wp2_with fail
                clear b0 b1 b2 b3 b4 b5 b6 b7
                go_loopg [14, 48] 8 (fun kk v14 v48 wr => ∃ k : Nat, v48 = .int .i64 k ∧ Hid (k + kk = 8) ∧ Hid (∀ j, j < k → inB (R j) 16384 = true) ∧ Hid (Below w1.heap.size w1 wr))
                case atStart => exact ⟨0, rfl, Lib.hid (by omega), Lib.hid (fun j hj => absurd hj (Nat.not_lt_zero _)), HBZ⟩
                case round =>
                  clear HBZ
                  obtain ⟨k, rfl, HK, HTR, HBK⟩ := hrel
                  obtain ⟨wy, rfl⟩ : ∃ wy : World, wy = wr := ⟨_, rfl⟩
                  by_cases hk : k < 8
                  · have hk0 : (k : Int) < 8 := by omega
                    have hwk : IntKind.i64.wrap ((k : Int) + 1) = k + 1 := IntWalk.i64_in _ (by omega)
                    have hiy := run_index65 R hk
                    dsimp only [row8] at hiy
                    have HKL := Lib.hid hk
                    have HC := Lib.hid (within_any (R k) 16384 wy)
                    clear hk
                    go_wp2_with fail
                    refine HC.out.mono ?_
                    rintro e wb ⟨rfl, hb⟩
                    have HBB := Lib.hid (below_t HBK.out hb)
                    clear hb HC hiy
                    cases hok : inB (R k) 16384 with
                    | false =>
                      have HE : Hid (fillE ps ws T = 2) := Lib.hid (fillE_t H0.out (j := i * 8 + k) (by have := HLT.out; have := HKL.out; omega) (by rw [← HRR.out] at hok; exact hok))
                      have HBC := Lib.hid (below_t HB0.out HBB.out)
                      clear hok
                      go_wp2_with fail
                      go_ret
                      exact ⟨by rw [HE.out]; rfl, HBC.out⟩
                    | true =>
                      have HT2 : Hid (∀ j, j < k + 1 → inB (R j) 16384 = true) := Lib.hid (fun j hj => by
                        by_cases e : j = k
                        · subst e; exact hok
                        · exact HTR.out j (by omega))
                      clear hok
                      go_wp2_with fail
                      go_roundg (8 - (k + 1))
                      case measure => have := HK.out; have := HKL.out; omega
                      case rel => exact ⟨k + 1, by go_num, Lib.hid (by have := HK.out; have := HKL.out; omega), HT2, HBB⟩
                  · have hnk : ¬ (k : Int) < 8 := by omega
                    have HTN : Hid (∀ j, j < (i + 1) * 8 → inB (T j) 16384 = true) := Lib.hid (fun j hj => by
                      by_cases e : j < i * 8
                      · exact HT.out j e
                      · have := HTR.out (j - i * 8) (by have := HK.out; omega)
                        rw [← HRR.out] at this
                        simp only [show i * 8 + (j - i * 8) = j by omega] at this
                        exact this)
                    clear hk
                    go_wp2_with fail
                    go_roundg (8 - (i + 1))
                    case measure => have := HI.out; have := HLT.out; omega
                    case rel => exact ⟨i + 1, by go_num, Lib.hid (by have := HI.out; have := HLT.out; omega), HTN, HBK⟩
              · have hnl : ¬ (i : Int) < 8 := by omega
                have HE : Hid (fillE ps ws T = 0) := Lib.hid (fillE_0 H0.out HPS.out HWS.out (fun j hj => HT.out j (by have := HI.out; omega)))
                have HBC := Lib.hid (below_t HB0.out HB.out)
                clear hlt
                go_wp2_with fail
                go_ret
                exact ⟨by rw [HE.out]; rfl, HBC.out⟩
end Go.Proofs.Ytpbndcmmclkdpaa

