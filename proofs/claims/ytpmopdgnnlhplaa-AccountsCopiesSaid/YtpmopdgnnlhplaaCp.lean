/-
  The walk of the law AccountsCopies.
-/
import Derived.Test.YtpmopdgnnlhplaaPp
import Derived.Test.YtpmopdgnnlhplaaCc
namespace Go.Proofs.Ytpmopdgnnlhplaa
open Go.RowKit Go.Proofs.YtpmopdgnnlhplaaW.PrintWords
theorem C_one {w : World} {b : Nat} {x : Ac} {A : Option Addr} {c : Nat} (hB : Blk w b #[.int .u8 x.kind, .string x.name, .int .i64 x.day, .int .i64 x.no, .slice A x.ps.length c] 63) (hP : Kd.C kPst w A x.ps.length x.ps) (hle : x.ps.length ≤ c) :
    Kd.C kAc w (some ⟨b, 0, none⟩) 1 [x] := by
  refine ⟨rfl, by decide, fun _ => ⟨_, rfl, fun j p hp => ?_⟩⟩
  cases j with
  | succ j => simp at hp
  | zero =>
    simp only [List.getElem?_cons_zero, Option.some.injEq] at hp
    subst hp
    refine ⟨[.int .u8 x.kind, .string x.name, .int .i64 x.day, .int .i64 x.no, .slice A x.ps.length c], rfl, kAc_mk w x hle hP, fun i u hu => ?_⟩
    have := hB.cell i (v := u) (by simpa using hu)
    rw [Nat.zero_mul, Nat.zero_add, show (⟨b, 0, none⟩ : Addr).add i = ⟨b, i, none⟩ by unfold Addr.add; split <;> simp_all]
    exact this
theorem R_C2 {w : World} {base : Nat} {ok : Nat → Prop} {A : Option Addr} {n c : Nat} {recs : List Rc} (h : Kd.R kRc 34 w base ok (.slice A n c) recs) : Kd.C kRc w A recs.length recs ∧ n = recs.length := by
  obtain ⟨h1, _, h2⟩ := Kd.R_reads' h
  exact ⟨h2, h1⟩
theorem stE_ne {s : St} {x : Ac} (h : stE s x ≠ 0) : stS s x = s := by
  unfold stE at h
  unfold stS
  split
  · rename_i h1
    rw [if_pos h1] at h
    unfold opS
    rw [if_neg h]
  · rename_i h1
    rw [if_neg h1] at h
    split
    · rename_i h2
      rw [if_pos h2] at h
      unfold poS
      rw [if_neg h]
    · rename_i h2
      rw [if_neg h2] at h
      unfold reS
      rw [if_neg h]
theorem LedF.move {w w' : World} {F : Nat → Prop} {g : Nat} {s : St} (h : LedF w F g s) (hm : ∀ k, F k → w'.heap[k]? = w.heap[k]?) (hs : w.heap.size ≤ w'.heap.size) : LedF w' F g s := by
  obtain ⟨v, rm, am, accs, rl, h1, h2, h3⟩ := h
  exact ⟨v, rm, am, accs, rl, h1.move hm hs, h2, h3⟩
/-- What the copy's acts leave alone. -/
structure Kp (w5 w : World) (Fc : Nat → Prop) (b : Nat) (F : Nat → Prop) : Prop where
  fr : Fr (fun k => Fc k ∨ k = b) w5 w
  k36 : K36 w5 w
  new : ∀ k, F k → Fc k ∨ w5.heap.size ≤ k
theorem Kp.step {w5 wr w7 : World} {Fc F F' : Nat → Prop} {b : Nat} {cs : Array Value} (h : Kp w5 wr Fc b F) (hU : Upd wr.drew F w7 F') (hB : Blk w7 b cs 59) (u v : Value) :
    Kp w5 ((w7.setCell ⟨b, 0, none⟩ u).setCell ⟨b, 1, none⟩ v) Fc b F' where
  fr := (((h.fr.drew).trans hU.1 (fun x hx => (h.new x hx).imp .inl id)).setCell (p := ⟨b, 0, none⟩) (.inl (.inr rfl)) _).setCell (p := ⟨b, 1, none⟩) (.inl (.inr rfl)) _
  k36 := (((h.k36.below ((Below.refl _ wr).drew)).trans hU.3).fr (fr_cell w7 ⟨b, 0, none⟩ u) (fun k hk => .inr (by subst hk; exact not36 hB (by decide)))).fr (fr_cell _ ⟨b, 1, none⟩ v) (fun k hk => .inr (by subst hk; exact not36 (hB.set 0 u) (by decide)))
  new k hk := (hU.2 k hk).elim (h.new k) (fun h9 => .inr (Nat.le_trans h.fr.size h9))
set_option maxRecDepth 100000 in
set_option maxHeartbeats 8000000 in
theorem copies_walk (A Am Ax : Option Addr) (c cm cx : Nat) (l m : List Ac) (x : Ac) (w : World) (hC : Kd.C kAc w A l.length l) (hg : ∀ a ∈ l, GoodA a) (hCm : Kd.C kAc w Am m.length m) (hgm : ∀ a ∈ m, GoodA a) (hgx : GoodA x) (hPx : Kd.C kPst w Ax x.ps.length x.ps) (hcx : x.ps.length ≤ cx) :
    Calls Try.prog 11 #[.slice A l.length c, .slice Am m.length cm, .agg #[.int .u8 x.kind, .string x.name, .int .i64 x.day, .int .i64 x.no, .slice Ax x.ps.length cx]] w fun e w' => e = .returned (.bool true) ∧ Below w.heap.size w w' := by
  have heq := eq47
  have hlm := hCm.2.1
  have hb1 := (Below.refl w.heap.size w).alloc (Nat.le_refl _) (.cells #[.int .u8 x.kind, .string x.name, .int .i64 x.day, .int .i64 x.no, .slice Ax x.ps.length cx] 63)
  have hB1 := Blk.new w #[.int .u8 x.kind, .string x.name, .int .i64 x.day, .int .i64 x.no, .slice Ax x.ps.length cx] 63
  go_enter Try.func11, Try.ntmps11
  go_upto_region 1 with fail
  generalize w.alloc (.cells #[.int .u8 x.kind, .string x.name, .int .i64 x.day, .int .i64 x.no, .slice Ax x.ps.length cx] 63) = w1 at *
  have hC1 := Kd.C_below hC hb1
  have hCm1 := Kd.C_below hCm hb1
  have hPx1 := Kd.C_below hPx hb1
  have HPX := Lib.hid hPx
  have HCM := Lib.hid hCm
  have HCL := Lib.hid hC
  clear hC hCm hPx
  go_wp2_with fail
  refine (few_any w1 A c l hC1).mono ?_
  rintro e w1' ⟨rfl, rfl⟩
  cases hfew : fewB l with
  | false =>
    go_wp2_with fail
    refine (alive_any _).mono ?_
    rintro e w6 ⟨rfl, hb⟩
    go_wp2_with fail
    go_ret
    exact ⟨rfl, below_t hb1 hb⟩
  | true =>
  obtain ⟨hl60, hl30⟩ := fewB_true hfew
  clear hfew
  go_wp2_with fail
  refine (few_any w1 Am cm m hCm1).mono ?_
  rintro e w1' ⟨rfl, rfl⟩
  cases hfew : fewB m with
  | false =>
    go_wp2_with fail
    refine (alive_any _).mono ?_
    rintro e w6 ⟨rfl, hb⟩
    go_wp2_with fail
    go_ret
    exact ⟨rfl, below_t hb1 hb⟩
  | true =>
  obtain ⟨hm60, hm30⟩ := fewB_true hfew
  clear hfew
  have a0 := hB1.cell 0 (v := .int .u8 x.kind) rfl
  have a1 := hB1.cell 1 (v := .string x.name) rfl
  have a2 := hB1.cell 2 (v := .int .i64 x.day) rfl
  have a3 := hB1.cell 3 (v := .int .i64 x.no) rfl
  have a4 := hB1.cell 4 (v := .slice Ax x.ps.length cx) rfl
  have hb2 := hb1.alloc hb1.size (.cells #[.int .u8 x.kind, .string x.name, .int .i64 x.day, .int .i64 x.no, .slice Ax x.ps.length cx] 63)
  have hB2 := hB1.alloc (.cells #[.int .u8 x.kind, .string x.name, .int .i64 x.day, .int .i64 x.no, .slice Ax x.ps.length cx] 63)
  have hCx := C_one (Blk.new w1 #[.int .u8 x.kind, .string x.name, .int .i64 x.day, .int .i64 x.no, .slice Ax x.ps.length cx] 63) (Kd.C_alloc hPx1 _) hcx
  have hone := few_any _ _ 1 [x] hCx
  have HONE := Lib.hid hone
  clear hone hCx hC1 hCm1 hPx1
  go_wp2_with fail
  refine HONE.out.mono ?_
  rintro e w2 ⟨rfl, rfl⟩
  clear HONE a0 a1 a2 a3 a4
  cases hfew : fewB [x] with
  | false =>
    go_wp2_with fail
    refine (alive_any _).mono ?_
    rintro e w6 ⟨rfl, hb⟩
    go_wp2_with fail
    go_ret
    exact ⟨rfl, below_t hb2 hb⟩
  | true =>
  have hx30 := (fewB_true hfew).2 x (by simp)
  clear hfew
  generalize w1.alloc (.cells #[.int .u8 x.kind, .string x.name, .int .i64 x.day, .int .i64 x.no, .slice Ax x.ps.length cx] 63) = w2 at *
  go_wp2_with fail
  refine (played_any w2 A c l (Kd.C_below HCL.out hb2) hg hl60 hl30).mono ?_
  rintro e wp ⟨F, ok, g, A1, c1, A3, c3, rfl, hLp, hRp, hdis, hFge, hokge, hbp⟩
  have hb3 := below_t hb2 hbp
  have hBp := hB2.move (hbp.block _ hB2.lt)
  have hs2 := hb2.size
  have hsp := hbp.size
  have hww2 : w.heap.size < w2.heap.size := hB2.lt
  have hww : w.heap.size < wp.heap.size := by omega
  have hsn0 : (runS l ⟨[], []⟩).n.length ≤ 60 := by
    have : ∀ (l : List Ac) (s : St), (runS l s).n.length ≤ s.n.length + l.length := fun l => by
      induction l with
      | nil => intro s; exact Nat.le_refl _
      | cons a r ih => intro s; have h1 := ih (stS s a); have h2 := stS_names s a; show (runS r (stS s a)).n.length ≤ _; simp only [List.length_cons]; omega
    have := this l ⟨[], []⟩
    have e0 : (⟨[], []⟩ : St).n.length = 0 := rfl
    omega
  generalize runS l ⟨[], []⟩ = s0 at *
  have hbA := (Below.refl wp.heap.size wp).alloc (Nat.le_refl _) (.cells #[.slice A1 s0.n.length c1, .slice A3 s0.r.length c3] 59)
  have hBN := Blk.new wp #[.slice A1 s0.n.length c1, .slice A3 s0.r.length c3] 59
  have hs3 : (wp.alloc (.cells #[.slice A1 s0.n.length c1, .slice A3 s0.r.length c3] 59)).heap.size = wp.heap.size + 1 := by simp
  have hs3a : wp.heap.size < (wp.alloc (.cells #[.slice A1 s0.n.length c1, .slice A3 s0.r.length c3] 59)).heap.size := by omega
  have hs3b : (wp.alloc (.cells #[.slice A1 s0.n.length c1, .slice A3 s0.r.length c3] 59)).heap.size ≤ wp.heap.size + 1 := by omega
  clear hs3
  have hLp3 := hLp.below hbA
  have hRp3 := hRp.below hbA
  have hBp3 := hBp.move (hbA.block _ hBp.lt)
  have hFlt := hLp.fin
  have hoklt := hRp.fin
  clear hLp hRp hBp hB1 hB2
  go_wp2_with fail
  generalize wp.alloc (.cells #[.slice A1 s0.n.length c1, .slice A3 s0.r.length c3] 59) = w3 at *
  refine (Copy_led36 hLp3).mono ?_
  rintro e w4 ⟨gc, Fb, rfl, hb4, hFb, hLc⟩
  have hs4 := hb4.size
  have hBN4 := hBN.move (hb4.block _ hBN.lt)
  have a0 := hBN4.cell 0 (v := .slice A1 s0.n.length c1) rfl
  have a1 := hBN4.cell 1 (v := .slice A3 s0.r.length c3) rfl
  have hbB := (Below.refl w4.heap.size w4).alloc (Nat.le_refl _) (.cells #[.slice A1 s0.n.length c1, .slice A3 s0.r.length c3] 59)
  have hb35 := below_t hb4 hbB
  have hBM := Blk.new w4 #[.slice A1 s0.n.length c1, .slice A3 s0.r.length c3] 59
  have hbw5 := below_t (below_t hb3 hbA) hb35
  have hLs5 := hLp3.below hb35
  have hLc5 := hLc.below hbB
  have hR5 := hRp3.below hb35
  have hBN5 := hBN4.move (hbB.block _ hBN4.lt)
  have hBp5 := hBp3.move (hb35.block _ hBp3.lt)
  have hcfin := hLc.fin
  have hs5 : (w4.alloc (.cells #[.slice A1 s0.n.length c1, .slice A3 s0.r.length c3] 59)).heap.size = w4.heap.size + 1 := by simp
  have h36 : ∀ k, F k → Is36 w3 k → Is36 (w4.alloc (.cells #[.slice A1 s0.n.length c1, .slice A3 s0.r.length c3] 59)) k := fun k hk ⟨cs, fz, hc⟩ => ⟨cs, fz, (hb35.block k (lt_heap hc)).trans hc⟩
  clear hb4 hb35 hbB hLp3 hRp3 hBp3 hBN hBN4 hLc hbA hbp hb3
  go_wp2_with fail
  generalize w4.alloc (.cells #[.slice A1 s0.n.length c1, .slice A3 s0.r.length c3] 59) = w5 at *
  generalize w4.heap.size = b11 at *
  generalize hFc : (fun b => (F b ∧ Is36 w3 b) ∨ Fb b) = Fc at *
  have HFc := Lib.hid (fun k => congrFun hFc k)
  clear hFc
  have hFce : ∀ k, Fc k → (F k ∧ Is36 w3 k) ∨ Fb k := fun k hk => by have := HFc.out k; rw [← this] at hk; exact hk
  have hst : Both w w5 Fc ok gc b11 A1 A3 c1 c3 s0 := ⟨hLc5, hR5, fun k hk hk2 => by
      rcases hFce k hk with h9 | h9
      · exact hdis k h9.1 hk2
      · have := hFb k h9; have := hoklt k hk2; omega, hBM, fun hf => by
      have := hcfin _ (hFce _ hf); omega, fun hf => by have := hoklt _ hf; omega, fun k hk => by
      rcases hFce k hk with h9 | h9
      · have := hFge k h9.1; omega
      · have := hFb k h9; omega, fun k hk => by have := hokge k hk; omega, by omega, hbw5⟩
  have hkp : Kp w5 w5 Fc b11 Fc := ⟨Fr.refl _ _, K36.refl _, fun _ h => .inl h⟩
  have HST := Lib.hid hst
  have HKP := Lib.hid hkp
  have HLS := Lib.hid hLs5
  have HR5 := Lib.hid hR5
  have HBN := Lib.hid hBN5
  have HBP := Lib.hid hBp5
  clear hst hkp hLs5 hR5 hBN5 hBp5 hLc5 hBM a0 a1
  go_loopw [9, 12] (fun s9 s12 wr => ∃ (k : Nat) (F' ok' : Nat → Prop) (B1 B3 : Option Addr) (e1 e3 : Nat), k ≤ m.length ∧ s9 = .bool true ∧ s12 = .int .i64 k ∧ Both w wr F' ok' gc b11 B1 B3 e1 e3 (runS (m.take k) s0) ∧ (runS (m.take k) s0).n.length ≤ 60 + k ∧ Hid (Kp w5 wr Fc b11 F')) (fun _ s12 _ => m.length - (intOf s12).toNat)
  case atStart => exact ⟨0, Fc, ok, A1, A3, c1, c3, Nat.zero_le _, rfl, rfl, HST.out, hsn0, HKP⟩
  case round =>
    clear HST HKP
    obtain ⟨k, F', ok', B1, B3, e1, e3, hk, rfl, rfl, hbo, hnl, HKP⟩ := hrel
    by_cases hlt : k < m.length
    · obtain ⟨y, hy⟩ : ∃ y, m[k]? = some y := ⟨_, List.getElem?_eq_getElem hlt⟩
      obtain ⟨ad, A4, c4, rfl, p0, p1, p2, p3, p4, hle4, hC4⟩ := at_Ac HCM.out hy
      have HX := Lib.hid (take_snoc hy)
      have hgy := hgm y (List.mem_of_getElem? hy)
      have h30 := hm30 y (List.mem_of_getElem? hy)
      have q0 := cell_below hbo.bel p0
      have q1 := cell_below hbo.bel p1
      have q2 := cell_below hbo.bel p2
      have q3 := cell_below hbo.bel p3
      have q4 := cell_below hbo.bel p4
      have HRS := Lib.hid (show runS (m.take (k + 1)) s0 = stS (runS (m.take k) s0) y by rw [HX.out, run_snoc])
      clear hy p0 p1 p2 p3 p4
      generalize runS (m.take k) s0 = s at *
      have a0 := hbo.blk.cell 0 (v := .slice B1 s.n.length e1) rfl
      have a1 := hbo.blk.cell 1 (v := .slice B3 s.r.length e3) rfl
      have hbd := hbo.below ((Below.refl _ wr).drew)
      have HBO := Lib.hid hbd
      clear hbo hbd
      have hsn := stS_names s y
      go_upto_region 13 with fail
      refine calm ?_
      go_region_law (first
        | (go_simp; go_at_call 32; refine (do_any HBO.out.led HBO.out.ref HBO.out.dis (by omega) y hgy HBO.out.bel HBO.out.Fge hC4 hle4 (by omega)).mono ?_; rintro e w7 ⟨D1, d1, D3, d3, F9, ok9, rfl, hL7, hR7, hU7, h8, h9⟩; have hB7 := HBO.out.blk.fr hU7.1 HBO.out.gF; have z0 := hB7.free 0; have z1 := hB7.free 1; have y0 := hB7.cell 0 (v := .slice B1 s.n.length e1) rfl; have y1 := hB7.cell 1 (v := .slice B3 s.r.length e3) rfl; have HBS := Lib.hid (HBO.out.step hL7 hR7 hU7 h8 h9); have HKS := Lib.hid (HKP.out.step hU7 hB7 (.slice D1 (stS s y).n.length d1) (.slice D3 (stS s y).r.length d3)); clear hL7 hR7 hU7 h8 h9 hB7 a0 a1 q0 q1 q2 q3 q4)
        | fail)
      all_goals
        simp only [Calm]
        have HNL := Lib.hid (show (stS s y).n.length ≤ 60 + (k + 1) by omega)
        clear hsn
        go_wp2_with fail
        go_roundw
        case rel => exact ⟨k + 1, F9, ok9, D1, D3, d1, d3, by omega, rfl, by go_num, by rw [HRS.out]; exact HBS.out, by rw [HRS.out]; exact HNL.out, HKS⟩
        case measure => simp [intOf]; omega
    · rw [List.take_of_length_le (by omega)] at hbo
      clear hnl
      generalize runS m s0 = s1 at *
      have hnotc : ∀ k, k < w3.heap.size → ¬ (F k ∧ Is36 w3 k) → k ≠ b11 → ¬ (Fc k ∨ k = b11) := fun k h1 h2 h3 h4 => by
        rcases h4 with h4 | h4
        · rcases hFce k h4 with h5 | h5
          · exact h2 h5
          · have := hFb k h5; omega
        · exact h3 h4
      have hwr5 := HKP.out.fr.size
      have hLsr : LedF wr F g s0 := HLS.out.move (fun k hk => by
        have hk3 := hFlt k hk
        by_cases hi : Is36 w3 k
        · obtain ⟨cs, fz, hc⟩ := h36 k hk hi
          exact HKP.out.k36 k cs fz hc
        · exact HKP.out.fr.block k (by omega) (hnotc k (by omega) (fun h => hi h.2) (by omega))) hwr5
      have hRr : RefL wr ok A1 c1 A3 c3 s0 := HR5.out.fr HKP.out.fr (fun k hk => hnotc k (by have := hoklt k hk; omega) (fun h => hdis k h.1 hk) (by have := hoklt k hk; omega))
      have hBNr := HBN.out.fr HKP.out.fr (hnotc _ (by omega) (fun h => by have := hFlt _ h.1; omega) (by omega))
      have hBPr := HBP.out.fr HKP.out.fr (hnotc _ (by omega) (fun h => by have := hFge _ h.1; omega) (by omega))
      have hbd := (Below.refl wr.heap.size wr).drew
      have HLD := Lib.hid (hLsr.below hbd)
      have HLD1 := HLD
      have HBD := Lib.hid (hbo.below hbd)
      have HRD := Lib.hid (hRr.below hbd)
      have a1 := hBNr.cell 1 (v := .slice A3 s0.r.length c3) rfl
      have b1 := hbo.blk.cell 1 (v := .slice B3 s1.r.length e3) rfl
      have HBNr := Lib.hid hBNr
      have HBPr := Lib.hid hBPr
      have HBB := Lib.hid hbo.blk
      clear hbo hLsr hRr hBNr hBPr hnotc
      go_upto_region 14 with fail
      go_region_law (first
        | (go_simp; go_at_call 30; refine (Records_led HLD1.out).mono ?_; clear HLD1; rintro e w6 ⟨⟨A6, c6, rfl, hS6⟩, hb6⟩; have hC6 := (Kd.S_reads' hS6).2.2; have HR6 := Lib.hid ((HRD.out.below hb6).C.2); have a2 := (HBNr.out.move (hb6.block _ HBNr.out.lt)).cell 1 (v := .slice A3 s0.r.length c3) rfl; have b2 := (HBB.out.move (hb6.block _ HBB.out.lt)).cell 1 (v := .slice B3 s1.r.length e3) rfl; have HB6 := Lib.hid hb6; clear hS6 a1 b1 hb6)
        | (go_simp; go_at_call 33; refine (records_any w6 A6 A3 c6 c3 s0.r hC6 HR6.out).mono ?_; rintro e w7 ⟨rfl, hb7⟩; have HB7 := Lib.hid (below_t HB6.out hb7); have b3 := (HBB.out.move (HB7.out.block _ HBB.out.lt)).cell 1 (v := .slice B3 s1.r.length e3) rfl; clear hb7 hC6 a2 b2)
        | (go_simp; go_at_call 30; refine (Records_led (HBD.out.led.below HB7.out)).mono ?_; rintro e w8 ⟨⟨A8, c8, rfl, hS8⟩, hb8⟩; have hC8 := (Kd.S_reads' hS8).2.2; have HB8 := Lib.hid (below_t HB7.out hb8); have HR8 := Lib.hid ((HBD.out.ref.below HB8.out).C.2); have b4 := (HBB.out.move (HB8.out.block _ HBB.out.lt)).cell 1 (v := .slice B3 s1.r.length e3) rfl; clear hS8 hb8 b3)
        | (go_simp; go_at_call 33; refine (records_any w8 A8 B3 c8 e3 s1.r hC8 HR8.out).mono ?_; rintro e w9 ⟨rfl, hb9⟩; have HB9 := Lib.hid (below_t HB8.out hb9); clear hb9 hC8 b4)
        | fail)
      all_goals
        go_wp2_with fail
        have HL9 := Lib.hid (HLD.out.below HB9.out)
        have HBP9 := Lib.hid (HBPr.out.move (HB9.out.block _ HBPr.out.lt))
        have hbw9 := below_t HBD.out.bel HB9.out
        clear HLD HBD HRD HBNr HBPr HBB HB6 HB7 HB8 HB9 HR6 HR8
        refine (Records_led HL9.out).mono ?_
        rintro e wa ⟨⟨Aa, ca, rfl, hSa⟩, hba⟩
        have hLa := HL9.out.below hba
        have hBPa := HBP9.out.move (hba.block _ HBP9.out.lt)
        have hbwa := below_t hbw9 hba
        have hRa := Kd.R_mono (Kd.R_bound (Kd.S_R hSa)) (fun k hk => (⟨hk.1, hk.2.2.1⟩ : w9.heap.size ≤ k ∧ k < wa.heap.size))
        have hLfin := HL9.out.fin
        have a0 := hBPa.cell 0 (v := .int .u8 x.kind) rfl
        have a1 := hBPa.cell 1 (v := .string x.name) rfl
        have a2 := hBPa.cell 2 (v := .int .i64 x.day) rfl
        have a3 := hBPa.cell 3 (v := .int .i64 x.no) rfl
        have a4 := hBPa.cell 4 (v := .slice Ax x.ps.length cx) rfl
        have hFw : ∀ k, F k → w.heap.size ≤ k := fun k hk => by have := hFge k hk; omega
        have HACT := Lib.hid (act_any hLa x Ax cx hgx (fun W hW => Kd.C_below HPX.out (hbwa.trans (hW.to_below hbwa.size hFw))))
        clear hSa hBPa hLa
        go_wp2_with fail
        refine HACT.out.mono ?_
        rintro e wb ⟨rfl, F9', hLb, hUb⟩
        obtain ⟨hbwb, _⟩ := upd_below hbwa hFw hUb
        have hRb := Kd.R_move (w1 := wb) hRa (fun k hk => hUb.1.block k hk.2 (fun hf => by have := hLfin k hf; omega))
        clear a0 a1 a2 a3 a4 HACT
        cases hz : (stE s0 x != 0) with
        | false =>
          go_wp2_with fail
          refine (alive_any _).mono ?_
          rintro e we ⟨rfl, hbe⟩
          go_wp2_with fail
          go_ret
          exact ⟨rfl, below_t hbwb hbe⟩
        | true =>
          have hne : stE s0 x ≠ 0 := by simpa using hz
          rw [stE_ne hne] at hLb
          clear hne
          go_wp2_with fail
          refine (Records_led hLb).mono ?_
          rintro e wd ⟨⟨Ad, cd, rfl, hSd⟩, hbd9⟩
          have hCd := (Kd.S_reads' hSd).2.2
          have hRd := Kd.R_below hRb hbd9
          have hCa := (R_C2 hRd).1
          clear hSd hRd hRb
          go_wp2_with fail
          refine (records_any wd Ad Aa cd ca s0.r hCd hCa).mono ?_
          rintro e we ⟨rfl, hbe⟩
          go_wp2_with fail
          refine (alive_any _).mono ?_
          rintro e wf ⟨rfl, hbf⟩
          go_wp2_with fail
          go_ret
          exact ⟨rfl, below_t (below_t (below_t hbwb hbd9) hbe) hbf⟩
theorem copies_law (A : Option Addr) (c : Nat) (l : List Ac) (_ : l.length ≤ c) (_ : c ≤ 9223372036854775807) {w : World} (hC : Kd.C kAc w A l.length l) (hg : ∀ a ∈ l, (Lit.int .u8 a.kind).wf = true ∧ a.name.size ≤ 9223372036854775807 ∧ (Lit.int .i64 a.day).wf = true ∧ (Lit.int .i64 a.no).wf = true ∧ (a.ps.length ≤ 9223372036854775807 ∧ ∀ p ∈ a.ps, p.a.size ≤ 9223372036854775807 ∧ (Lit.int .i64 p.c).wf = true))
    (Am : Option Addr) (cm : Nat) (m : List Ac) (_ : m.length ≤ cm) (_ : cm ≤ 9223372036854775807) (hCm : Kd.C kAc w Am m.length m) (hgm : ∀ a ∈ m, (Lit.int .u8 a.kind).wf = true ∧ a.name.size ≤ 9223372036854775807 ∧ (Lit.int .i64 a.day).wf = true ∧ (Lit.int .i64 a.no).wf = true ∧ (a.ps.length ≤ 9223372036854775807 ∧ ∀ p ∈ a.ps, p.a.size ≤ 9223372036854775807 ∧ (Lit.int .i64 p.c).wf = true))
    (x : Ac) (hx : (Lit.int .u8 x.kind).wf = true ∧ x.name.size ≤ 9223372036854775807 ∧ (Lit.int .i64 x.day).wf = true ∧ (Lit.int .i64 x.no).wf = true ∧ (x.ps.length ≤ 9223372036854775807 ∧ ∀ p ∈ x.ps, p.a.size ≤ 9223372036854775807 ∧ (Lit.int .i64 p.c).wf = true)) (Ax : Option Addr) (cx : Nat) (hcx : x.ps.length ≤ cx) (hPx : Kd.C kPst w Ax x.ps.length x.ps) :
    Calls Try.prog 11 #[.slice A l.length c, .slice Am m.length cm, .agg #[.int .u8 x.kind, .string x.name, .int .i64 x.day, .int .i64 x.no, .slice Ax x.ps.length cx]] w fun e w' => e = .returned (.bool true) ∧ Below w.heap.size w w' :=
  copies_walk A Am Ax c cm cx l m x w hC (fun a ha => goodA_pl (hg a ha)) hCm (fun a ha => goodA_pl (hgm a ha)) (goodA_pl hx) hPx hcx
end Go.Proofs.Ytpmopdgnnlhplaa
