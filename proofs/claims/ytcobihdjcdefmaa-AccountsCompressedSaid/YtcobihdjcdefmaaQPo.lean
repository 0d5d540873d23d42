/-
  The walk of Post.
-/
import Derived.Test.YtcobihdjcdefmaaQEt
import Derived.Defers
namespace Go.Proofs.Ytcobihdjcdefmaa
open Go.RowKit Go.Proofs.YtcobihdjcdefmaaW.PrintWords
theorem dead_end {P : Program} {a : Act} {w : World} {R : Prop} (h : R) (_ : wpAny P .any (#[] : Array Oper) (fun _ _ _ => True) 0 #[] a w) : R := h
def postBad (names : List ByteArray) : List Pst → Int
  | [] => 0
  | p :: r => if memB names p.a = false then 7 else if p.c = 0 ∨ p.c < -1099511627776 ∨ 1099511627776 < p.c then 2 else postBad names r
def GoodP (names : List ByteArray) (p : Pst) : Prop := memB names p.a = true ∧ p.c ≠ 0 ∧ -1099511627776 ≤ p.c ∧ p.c ≤ 1099511627776
theorem postBad_drop {names : List ByteArray} {ps : List Pst} (k : Nat) (h : ∀ p ∈ ps.take k, GoodP names p) : postBad names ps = postBad names (ps.drop k) := by
  induction ps generalizing k with
  | nil => simp
  | cons x r ih =>
    cases k with
    | zero => rfl
    | succ k =>
      obtain ⟨h1, h2, h3, h4⟩ := h x (by simp)
      rw [List.drop_succ_cons, ← ih k (fun p hp => h p (by simp [hp]))]
      unfold postBad
      rw [if_neg (by simp [h1]), if_neg (by omega)]
      cases r <;> simp [postBad]
theorem postBad_at {names : List ByteArray} {ps : List Pst} {k : Nat} {x : Pst} (h : ∀ p ∈ ps.take k, GoodP names p) (hx : ps[k]? = some x) :
    (memB names x.a = false → postBad names ps = 7) ∧ (memB names x.a = true → (x.c = 0 ∨ x.c < -1099511627776 ∨ 1099511627776 < x.c) → postBad names ps = 2) := by
  obtain ⟨hk, he⟩ := List.getElem?_eq_some_iff.1 hx
  rw [postBad_drop k h, List.drop_eq_getElem_cons hk, he]
  unfold postBad
  exact ⟨fun h1 => if_pos h1, fun h1 h2 => by rw [if_neg (by simp [h1]), if_pos h2]⟩
theorem postBad_all {names : List ByteArray} {ps : List Pst} (h : ∀ p ∈ ps, GoodP names p) : postBad names ps = 0 := by
  rw [postBad_drop ps.length (by rw [List.take_length]; exact h), List.drop_length]
  rfl
theorem total_bound {ps : List Pst} (h : ∀ p ∈ ps, -1099511627776 ≤ p.c ∧ p.c ≤ 1099511627776) : -(ps.length * 1099511627776) ≤ total ps ∧ total ps ≤ ps.length * 1099511627776 := by
  induction ps with
  | nil => simp [total]
  | cons x r ih =>
    obtain ⟨h1, h2⟩ := ih (fun p hp => h p (by simp [hp]))
    obtain ⟨h3, h4⟩ := h x (by simp)
    have e : ((x :: r).length : Int) * 1099511627776 = r.length * 1099511627776 + 1099511627776 := by simp [Int.add_mul]
    rw [e]
    unfold total
    omega
def postErr (names : List ByteArray) (recs : List Rc) (d : Int) (ps : List Pst) : Int :=
  if dayB d = false then 2 else if d < lastDay recs then 10 else if 16 < ps.length then 3 else if ps.length < 2 then 2 else
  if postBad names ps ≠ 0 then postBad names ps else if total ps ≠ 0 then 17 else enterErr recs ps
/-- What every ledger keeps. -/
def LInv (recs : List Rc) : Prop := recs.length ≤ 4096 ∧ (∀ a, -1125899906842624 ≤ bal recs a ∧ bal recs a ≤ 1125899906842624) ∧ 0 ≤ lastSum recs ∧ lastSum recs < 18446744073709551616
def PostPost (w : World) (F : Nat → Prop) (g rm am : Nat) (accs : List AccE) (recs : List Rc) (rl : List (Int × Value)) (d : Int) (ps : List Pst) (e : Ending) (w' : World) : Prop :=
  (postErr (accs.map (·.name)) recs d ps = 0 → e = .returned (.tuple #[.int .i64 (recs.length + 1), .int .i64 0]) ∧ ∃ F' v' accs', LedH w' F' g v' rm am accs' (recs ++ [newRec recs d 0 ps]) (fun a => rowsOf a (recs ++ [newRec recs d 0 ps]) 0) rl ∧ accs'.map (·.name) = accs.map (·.name) ∧ Upd w F w' F') ∧
  (postErr (accs.map (·.name)) recs d ps ≠ 0 → e = .returned (.tuple #[.int .i64 0, .int .i64 (postErr (accs.map (·.name)) recs d ps)]) ∧ Below w.heap.size w w')
theorem post_die {tmps : Array Value} {b : Nat} {n : Int} {W : World} {R : Ending → World → Prop} (h6 : tmps[6]?.getD undef = .int .i64 0) (h7 : tmps[7]?.getD undef = .pointer (some ⟨b, 0, none⟩)) (hB : Blk W b #[.int .i64 0] 24)
    (hR : ∀ w', Fr (· = b) W w' → R (.returned (.tuple #[.int .i64 0, .int .i64 n])) w') :
    bodyPostD Try.prog Try.f24 R (Exit.panic (refusal n)) ⟨tmps, [⟨.fn (.func 46) #[.pointer (some ⟨b, 0, none⟩)], #[]⟩]⟩ W := by
  unfold bodyPostD
  refine leaves_cons (f := 46) (args := #[.pointer (some ⟨b, 0, none⟩)]) (by simp) (by simp [go_sem]) ?_
  refine (rec60_caught b n 0 W hB).mono ?_
  rintro e u' w'' ⟨rfl, rfl, hB', hF⟩
  have c0 := hB'.cell 0 (v := .int .i64 n) rfl
  have HR := hR w'' hF
  simp [Leaves, settle, results, Try.results24, go_sem, h6, h7, c0]
  exact HR
theorem post_fine {tmps : Array Value} {b : Nat} {n : Int} {W : World} {R : Ending → World → Prop} (h6 : tmps[6]?.getD undef = .int .i64 n) (h7 : tmps[7]?.getD undef = .pointer (some ⟨b, 0, none⟩)) (hB : Blk W b #[.int .i64 0] 24)
    (hR : ∀ w', Fr (· = b) W w' → R (.returned (.tuple #[.int .i64 n, .int .i64 0])) w') :
    bodyPostD Try.prog Try.f24 R Exit.ret ⟨tmps, [⟨.fn (.func 46) #[.pointer (some ⟨b, 0, none⟩)], #[]⟩]⟩ W := by
  unfold bodyPostD
  refine leaves_cons (f := 46) (args := #[.pointer (some ⟨b, 0, none⟩)]) (by simp) (by simp [go_sem]) ?_
  refine (rec60_idle b 0 W hB).mono ?_
  rintro e u' w'' ⟨rfl, rfl, hB', hF⟩
  have c0 := hB'.cell 0 (v := .int .i64 0) rfl
  have HR := hR w'' hF
  simp [Leaves, settle, results, Try.results24, go_sem, h6, h7, c0]
  exact HR
theorem die_post {w W : World} {F : Nat → Prop} {g rm am : Nat} {accs : List AccE} {recs : List Rc} {rl : List (Int × Value)} {d : Int} {ps : List Pst} {n : Int} (hE : postErr (accs.map (·.name)) recs d ps = n) (hn : n ≠ 0) (hb : Below w.heap.size w W) :
    ∀ w', Fr (· = w.heap.size) W w' → PostPost w F g rm am accs recs rl d ps (.returned (.tuple #[.int .i64 0, .int .i64 n])) w' := fun w' hF =>
  ⟨fun h0 => absurd (hE.symm.trans h0) hn, fun _ => ⟨by rw [hE], hb.trans (hF.to_below hb.size (by intro x hx; omega))⟩⟩
set_option maxRecDepth 100000 in
set_option maxHeartbeats 4000000 in
theorem Post_any {w : World} {F : Nat → Prop} {g : Nat} {v : Value} {rm am : Nat} {accs : List AccE} {recs : List Rc} {rl : List (Int × Value)}
    (h : LedH w F g v rm am accs recs (fun a => rowsOf a recs 0) rl) (d : Int) (ps : List Pst) (A : Option Addr) (c : Nat) (hps : ∀ W, Fr F w W → Kd.C kPst W A ps.length ps)
    (hsz : ∀ p ∈ ps, p.a.size ≤ 9223372036854775807) (hinv : LInv recs) :
    Calls Try.prog 24 #[.pointer (some ⟨g, 0, none⟩), .int .i64 d, .slice A ps.length c] w (PostPost w F g rm am accs recs rl d ps) := by
  have hmf : ∀ (fn : Fn) (first cap : Array Value) (w : World), (Instr.makeFunc fn first cap).run Try.prog w = .ok (.func fn first cap) w := fun _ _ _ _ => rfl
  have hpl := (hps w (Fr.refl F w)).2.1
  go_enter_defers Try.func24, Try.ntmps24
  go_wp2_with fail
  have hB0 := Blk.new w #[.int .i64 0] 24
  have hb0 := (Below.refl w.heap.size w).alloc (Nat.le_refl _) (.cells #[.int .i64 0] 24)
  have hs0 : (w.alloc (.cells #[.int .i64 0] 24)).heap.size = w.heap.size + 1 := by simp
  generalize w.alloc (.cells #[.int .i64 0] 24) = w0 at *
  have h0 := h.below hb0
  have c0 := h0.c0
  have c2 := h0.c2
  clear hmf
  refine (made_yes w0 g am c2).mono ?_
  rintro e w1 ⟨rfl, rfl⟩
  go_wp2_with fail
  refine (refuse_no' 1 _ (by first | rfl | (simp; done))).mono ?_
  rintro e w1 ⟨rfl, rfl⟩
  go_wp2_with fail
  refine (day_any d _).mono ?_
  rintro e w1 ⟨rfl, rfl⟩
  by_cases hd : dayB d = false
  · have HQ := die_post (F := F) (g := g) (rm := rm) (am := am) (rl := rl) (show postErr (accs.map (·.name)) recs d ps = 2 by simp [postErr, hd]) (by decide) hb0
    go_wp2_with fail
    refine (refuse_yes' 2 _ (by first | rfl | (simp; done))).mono ?_
    rintro e w4 ⟨rfl, rfl⟩
    exact post_die rfl rfl hB0 HQ
  go_wp2_with fail
  refine (refuse_no' 2 _ (by first | rfl | (simp; done))).mono ?_
  rintro e w1 ⟨rfl, rfl⟩
  have hfld := fld34_1
  go_wp2_with fail
  refine (last_any c0 h0.hrecs).mono ?_
  rintro e w1 ⟨⟨n6, A6, c6, rev6, no6, rfl⟩, hb6⟩
  have hb1 := hb0.trans (hb6.mono (by omega))
  have hB1 : Blk w1 w.heap.size #[.int .i64 0] 24 := (hb6.block w.heap.size (by omega)).trans hB0
  have h1 := h0.below hb6
  by_cases hst : d < lastDay recs
  · have HQ := die_post (F := F) (g := g) (rm := rm) (am := am) (rl := rl) (show postErr (accs.map (·.name)) recs d ps = 10 by simp [postErr, hd, hst]) (by decide) hb1
    go_wp2_with fail
    refine (refuse_yes' 10 _ (by first | rfl | (simp; done) | (simp; omega))).mono ?_
    rintro e w4 ⟨rfl, rfl⟩
    exact post_die rfl rfl hB1 HQ
  go_wp2_with fail
  refine (refuse_no' 10 _ (by simp [hst])).mono ?_
  rintro e w2 ⟨rfl, rfl⟩
  clear c0 c2 hfld
  by_cases hl : 16 < ps.length
  · have HQ := die_post (F := F) (g := g) (rm := rm) (am := am) (rl := rl) (show postErr (accs.map (·.name)) recs d ps = 3 by simp [postErr, hd, hst, hl]) (by decide) hb1
    go_wp2_with fail
    refine (refuse_yes' 3 _ (by first | rfl | (simp; done) | (simp; omega))).mono ?_
    rintro e w4 ⟨rfl, rfl⟩
    exact post_die rfl rfl hB1 HQ
  go_wp2_with fail
  refine (refuse_no' 3 _ (by first | rfl | (simp; done) | (simp; omega))).mono ?_
  rintro e w2 ⟨rfl, rfl⟩
  by_cases hm : ps.length < 2
  · have HQ := die_post (F := F) (g := g) (rm := rm) (am := am) (rl := rl) (show postErr (accs.map (·.name)) recs d ps = 2 by simp [postErr, hd, hst, hl, hm]) (by decide) hb1
    go_wp2_with fail
    refine (refuse_yes' 2 _ (by first | rfl | (simp; done) | (simp; omega))).mono ?_
    rintro e w4 ⟨rfl, rfl⟩
    exact post_die rfl rfl hB1 HQ
  go_wp2_with fail
  refine (refuse_no' 2 _ (by first | rfl | (simp; done) | (simp; omega))).mono ?_
  rintro e w2 ⟨rfl, rfl⟩
  have HPE := Lib.hid (show postErr (accs.map (·.name)) recs d ps = if postBad (accs.map (·.name)) ps ≠ 0 then postBad (accs.map (·.name)) ps else if total ps ≠ 0 then 17 else enterErr recs ps by unfold postErr; rw [if_neg hd, if_neg (by omega), if_neg hl, if_neg hm])
  go_wp2_with fail
  go_loopw [8, 10, 38] (fun s _ i wr => ∃ k : Nat, k ≤ ps.length ∧ i = .int .i64 k ∧ s = .int .i64 (total (ps.take k)) ∧ (∀ p ∈ ps.take k, GoodP (accs.map (·.name)) p) ∧ Below w1.heap.size w1 wr) (fun _ _ i _ => ps.length - (intOf i).toNat)
  case atStart => exact ⟨0, by omega, rfl, rfl, by simp, Below.refl _ _⟩
  case round =>
    obtain ⟨k, hk, rfl, rfl, hgood, hbr⟩ := hrel
    have hbw : Below w.heap.size w wr := hb1.trans (hbr.mono hb1.size)
    have hBr : Blk wr w.heap.size #[.int .i64 0] 24 := (hbr.block _ hB1.lt).trans hB1
    have hr := h1.below hbr
    by_cases hlt : k < ps.length
    · obtain ⟨x, hx⟩ : ∃ x, ps[k]? = some x := ⟨_, List.getElem?_eq_getElem hlt⟩
      obtain ⟨ad, rfl, p0, p1⟩ := at_Pst (hps wr (Fr.of_below hbw F)) hx
      obtain ⟨hpb1, hpb2⟩ := postBad_at hgood hx
      have HX := Lib.hid hx
      have hW2 := hbw.alloc hbw.size (.cells #[.string x.a, .int .i64 x.c] 50)
      have hB2 := hBr.alloc (.cells #[.string x.a, .int .i64 x.c] 50)
      have hr2 := hr.below ((Below.refl _ _).alloc (Nat.le_refl _) (.cells #[.string x.a, .int .i64 x.c] 50))
      have c2 := hr.c2
      have hgl : g < wr.heap.size := hr.blk.lt
      clear hx
      by_cases hi : x.a ∈ accs.map (·.name)
      · obtain ⟨y, hy, hya⟩ := amap_of_mem hi
        have hmb : memB (accs.map (·.name)) x.a = true := memB_iff.2 hi
        have hlk := (hr2.move (w' := (wr.alloc (.cells #[.string x.a, .int .i64 x.c] 50)).drew) (fun _ _ => rfl) (Nat.le_refl _)).look_some hy
        rw [hya] at hlk
        have heq := eqp' (wr.alloc (.cells #[.string x.a, .int .i64 x.c] 50)).drew y.blk
        have hTB := total_bound (ps := ps.take k) (fun p hp => (hgood p hp).2.2)
        rw [List.length_take, Nat.min_eq_left hk] at hTB
        obtain ⟨ht1, ht2⟩ := hTB
        have HGD := Lib.hid hgood
        clear hgood
        go_upto_region 11 with fail
        go_cut [10] from 42 to 51 (fun s10 wx => s10 = .pointer (some ⟨wr.heap.size, 0, none⟩) ∧ wx = (wr.alloc (.cells #[.string x.a, .int .i64 x.c] 50)).drew)
        case first =>
          first | go_region_law (first | (go_simp; go_at_call 48; refine (refuse_no' 7 _ rfl).mono ?_; rintro e w4 ⟨rfl, rfl⟩)) | fail
          all_goals
            go_wp2_with fail
            go_meet
            exact ⟨rfl, rfl⟩
        case rest =>
          obtain ⟨rfl, rfl⟩ := hcut
          have HQ : (x.c = 0 ∨ x.c < -1099511627776 ∨ 1099511627776 < x.c) → _ := fun hz => die_post (F := F) (g := g) (rm := rm) (am := am) (rl := rl) (show postErr (accs.map (·.name)) recs d ps = 2 by rw [HPE.out, hpb2 hmb hz, if_pos (by decide)]) (by decide) hW2.drew
          clear hpb2
          by_cases z0 : (x.c == 0) = true
          · have HQ1 := HQ (.inl (by simpa using z0))
            clear HQ
            go_wp2_with fail
            refine (refuse_yes' 2 _ (by first | rfl | (simp [z0]; done))).mono ?_
            rintro e w4 ⟨rfl, rfl⟩
            exact post_die rfl rfl (show Blk (wr.alloc (.cells #[.string x.a, .int .i64 x.c] 50)).drew _ _ _ from hB2) HQ1
          have z0' : (x.c == 0) = false := by simpa using z0
          clear z0
          by_cases z1 : x.c < -1099511627776
          · have HQ1 := HQ (.inr (.inl z1))
            clear HQ
            go_wp2_with fail
            refine (refuse_yes' 2 _ (by first | rfl | (simp [z0', z1]; done))).mono ?_
            rintro e w4 ⟨rfl, rfl⟩
            exact post_die rfl rfl (show Blk (wr.alloc (.cells #[.string x.a, .int .i64 x.c] 50)).drew _ _ _ from hB2) HQ1
          by_cases z2 : 1099511627776 < x.c
          · have HQ1 := HQ (.inr (.inr z2))
            clear HQ
            go_wp2_with fail
            refine (refuse_yes' 2 _ (by first | rfl | (simp [z0', z2]; done))).mono ?_
            rintro e w4 ⟨rfl, rfl⟩
            exact post_die rfl rfl (show Blk (wr.alloc (.cells #[.string x.a, .int .i64 x.c] 50)).drew _ _ _ from hB2) HQ1
          have z3 : x.c ≠ 0 := by simpa using z0'
          have Z3 := Lib.hid z3
          clear HQ z3
          · go_wp2_with fail
            refine (refuse_no' 2 _ (by first | rfl | (simp [z0', z1, z2]; done) | (simp [z0']; omega))).mono ?_
            rintro e w4 ⟨rfl, rfl⟩
            go_wp2_with fail
            go_roundw
            case rel =>
              refine ⟨k + 1, by omega, by go_num, ?_, ?_, (hbr.alloc hbr.size _).drew⟩
              · have := HX.out
                rw [List.take_succ_eq_append_getElem hlt, total_append]
                rw [List.getElem?_eq_getElem hlt, Option.some.injEq] at this
                rw [this]
                simp [total]
              · have := HX.out
                rw [List.getElem?_eq_getElem hlt, Option.some.injEq] at this
                intro p hp
                rw [List.take_succ_eq_append_getElem hlt, List.mem_append, this] at hp
                rcases hp with hp | hp
                · exact HGD.out p hp
                · simp only [List.mem_singleton] at hp
                  subst hp
                  exact ⟨hmb, Z3.out, by omega, by omega⟩
            case measure => simp [intOf]; omega
      · have hmb : memB (accs.map (·.name)) x.a = false := by simpa [memB] using hi
        have hE := hpb1 hmb
        have HQ := die_post (F := F) (g := g) (rm := rm) (am := am) (rl := rl) (show postErr (accs.map (·.name)) recs d ps = 7 by rw [HPE.out, hE, if_pos (by decide)]) (by decide) hW2.drew
        have hlk := (hr2.move (w' := (wr.alloc (.cells #[.string x.a, .int .i64 x.c] 50)).drew) (fun _ _ => rfl) (Nat.le_refl _)).look_none hi
        go_wp2_with fail
        first | go_region_law (first | (go_simp; go_at_call 48; refine (refuse_yes' 7 _ (by simp)).mono ?_; rintro e w4 ⟨rfl, rfl⟩; refine dead_end (P := Try.prog) (a := ⟨#[], []⟩) (w := wr) ?_ ?_; exact post_die rfl rfl hB2 HQ)) | fail
        all_goals trivial
    · have hkl : ps.take k = ps := List.take_of_length_le (by omega)
      rw [hkl] at hgood ⊢
      have hb0' := postBad_all hgood
      have hTB := total_bound (ps := ps) (fun p hp => (hgood p hp).2.2)
      obtain ⟨ht1, ht2⟩ := hTB
      by_cases z0 : (total ps != 0) = true
      · have HQ := die_post (F := F) (g := g) (rm := rm) (am := am) (rl := rl) (show postErr (accs.map (·.name)) recs d ps = 17 by rw [HPE.out, hb0', if_neg (by decide), if_pos (by simpa using z0)]) (by decide) hbw
        go_wp2_with fail
        refine (refuse_yes' 17 _ (by first | rfl | (simp [z0]; done) | (simpa using z0))).mono ?_
        rintro e w4 ⟨rfl, rfl⟩
        exact post_die rfl rfl hBr HQ
      have HPE2 := Lib.hid (show postErr (accs.map (·.name)) recs d ps = enterErr recs ps by rw [HPE.out, hb0', if_neg (by decide), if_neg (by simpa using z0)])
      have z0' : (total ps != 0) = false := by simpa using z0
      clear z0
      go_wp2_with fail
      refine (refuse_no' 17 _ (by first | rfl | (simp [z0']; done) | (simpa using z0'))).mono ?_
      rintro e w4 ⟨rfl, rfl⟩
      go_wp2_with fail
      obtain ⟨hi1, hi2, hi3, hi4⟩ := hinv
      have hacc : ∀ p ∈ ps, p.a ∈ accs.map (·.name) := fun p hp => memB_iff.1 (hgood p hp).1
      have hcs : ∀ p ∈ ps, -1099511627776 ≤ p.c ∧ p.c ≤ 1099511627776 := fun p hp => (hgood p hp).2.2
      refine (enter_any hr d 0 ps A c (fun W hW => hps W ((Fr.of_below hbw F).trans hW (fun x hx => .inl hx))) hacc hcs hsz (by omega) hi2 hi1 hi3 hi4).mono ?_
      rintro e w5 ⟨hE1, hE2⟩
      by_cases hee : enterErr recs ps = 0
      · obtain ⟨rfl, F', v', accs', hL', hn', hU1, hU2, hU3⟩ := hE1 hee
        have HU3 := Lib.hid hU3
        clear hU3
        have hnF : ¬ F w.heap.size := fun hf => by have := h.fin _ hf; omega
        have hB5 : Blk w5 w.heap.size #[.int .i64 0] 24 := (hU1.block _ hBr.lt hnF).trans hBr
        have c5 := hB5.cell 0 (v := .int .i64 0) rfl
        have f5 := hB5.free 0
        have hB6 : Blk (w5.setCell ⟨w.heap.size, 0, none⟩ (.int .i64 0)) w.heap.size #[.int .i64 0] 24 := by simpa using hB5.set 0 (.int .i64 0)
        clear hE1 hE2
        go_wp2_with fail
        refine post_fine rfl rfl hB6 (fun w' hF => ⟨fun _ => ⟨rfl, F', v', accs', ?_, hn', ?_, ?_, ?_⟩, fun h0 => absurd (HPE2.out.trans hee) h0⟩)
        · have hS : Fr (· = w.heap.size) w5 (w5.setCell ⟨w.heap.size, 0, none⟩ (.int .i64 0)) := (Fr.refl (· = w.heap.size) w5).setCell (p := ⟨w.heap.size, 0, none⟩) (.inl rfl) _
          have hnF' : ∀ x, F' x → ¬ x = w.heap.size := fun x hx e => by
            subst e
            rcases hU2 _ hx with h9 | h9
            · exact hnF h9
            · have := hBr.lt; omega
          exact (hL'.fr hS hnF').fr hF hnF'
        · exact (((Fr.of_below hbw F).trans hU1 (fun x hx => .inl hx)).setCell (p := ⟨w.heap.size, 0, none⟩) (.inr (Nat.le_refl _)) _).trans hF (fun x hx => .inr (by omega))
        · exact fun x hx => (hU2 x hx).imp id (fun h9 => Nat.le_trans hbw.size h9)
        · exact ((((K36.of_below hbw).trans HU3.out).fr (fr_cell w5 _ _) (fun k hk => .inl (by subst hk; exact Nat.le_refl _))).fr hF (fun k hk => .inl (by omega)))
      · obtain ⟨rfl, hb5⟩ := hE2 hee
        have hB5 : Blk w5 w.heap.size #[.int .i64 0] 24 := (hb5.block _ hBr.lt).trans hBr
        exact post_die rfl rfl hB5 (die_post HPE2.out hee (hbw.trans (hb5.mono hbw.size)))
end Go.Proofs.Ytcobihdjcdefmaa
