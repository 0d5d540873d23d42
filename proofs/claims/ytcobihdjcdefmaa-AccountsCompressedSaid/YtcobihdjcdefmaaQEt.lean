import Derived.Test.YtcobihdjcdefmaaQOe
import Derived.Deep.DeepCutAuto
import Derived.Deep.RegionLaw
namespace Go.Proofs.Ytcobihdjcdefmaa
open Go.RowKit Go.Proofs.YtcobihdjcdefmaaW.PrintWords
def SumsOf (l : List (ByteArray × Value)) (qs : List Pst) : Prop := ∀ a, mget l a = if inn qs a then some (.int .i64 (part qs a)) else none
theorem part_bound {M : Int} (hM : 0 ≤ M) {qs : List Pst} (h : ∀ p ∈ qs, -M ≤ p.c ∧ p.c ≤ M) (a : ByteArray) : -(qs.length * M) ≤ part qs a ∧ part qs a ≤ qs.length * M := by
  induction qs with
  | nil => simp [part]
  | cons x r ih =>
    obtain ⟨h1, h2⟩ := ih (fun p hp => h p (by simp [hp]))
    obtain ⟨h3, h4⟩ := h x (by simp)
    have e : ((x :: r).length : Int) * M = r.length * M + M := by simp [Int.add_mul]
    rw [e]
    unfold part
    split <;> omega
theorem sums_look {l : List (ByteArray × Value)} {qs : List Pst} (h : SumsOf l qs) (a : ByteArray) : (mget l a).getD (.int .i64 0) = .int .i64 (part qs a) := by
  rw [h a]
  by_cases hi : inn qs a = true
  · simp [hi]
  · simp [hi, part_not_inn (by simpa using hi)]
theorem sums_put {l : List (ByteArray × Value)} {qs : List Pst} (h : SumsOf l qs) (x : Pst) : SumsOf (mput l x.a (.int .i64 (part qs x.a + x.c))) (qs ++ [x]) := by
  intro a
  by_cases ha : a = x.a
  · subst ha
    rw [mget_mput_same, inn_append, part_append]
    simp [inn, part]
  · rw [mget_mput_other _ ha, h a, inn_append, part_append]
    have : inn [x] a = false := by simp [inn, Ne.symm ha]
    simp [this, part, Ne.symm ha]
def okBal (recs : List Rc) (ps : List Pst) (a : ByteArray) : Bool := decide (-1125899906842624 ≤ bal recs a + part ps a ∧ bal recs a + part ps a ≤ 1125899906842624)
def enterErr (recs : List Rc) (ps : List Pst) : Int := if ps.all (fun p => okBal recs ps p.a) then (if 4096 ≤ recs.length then 9 else 0) else 4
def newRec (recs : List Rc) (d rev : Int) (ps : List Pst) : Rc := ⟨recs.length + 1, d, ps, rev, dig (lastSum recs) (recs.length + 1) d rev ps⟩
def EnterPost (w : World) (F : Nat → Prop) (g rm am : Nat) (accs : List AccE) (recs : List Rc) (rl : List (Int × Value)) (d rev : Int) (ps : List Pst) (e : Ending) (w' : World) : Prop :=
  (enterErr recs ps = 0 → e = .returned (.int .i64 (recs.length + 1)) ∧ ∃ F' v' accs', LedH w' F' g v' rm am accs' (recs ++ [newRec recs d rev ps]) (fun a => rowsOf a (recs ++ [newRec recs d rev ps]) 0) rl ∧ accs'.map (·.name) = accs.map (·.name) ∧ Upd w F w' F') ∧
  (enterErr recs ps ≠ 0 → e = .panicked (refusal (enterErr recs ps)) ∧ Below w.heap.size w w')
theorem keepS {w W : World} {p : Addr} {v : Value} (hc : w.cell? p = some v) (hl : p.block < w.heap.size) (h : Below w.heap.size w W) : W.cell? p = some v ∧ Below w.heap.size w W := ⟨(h.cell hl).trans hc, h⟩
theorem below_t {a b c : World} (h : Below a.heap.size a b) (k : Below b.heap.size b c) : Below a.heap.size a c := h.trans (k.mono h.size)
theorem below_al {a b : World} (h : Below a.heap.size a b) (o : Obj) : Below a.heap.size a (b.alloc o) := h.alloc h.size o
theorem below_5 {a b : World} (h : Below a.heap.size a b) (v0 v1 v2 v3 v4 : Value) : Below a.heap.size a (((((b.setCell ⟨a.heap.size, 0, none⟩ v0).setCell ⟨a.heap.size, 1, none⟩ v1).setCell ⟨a.heap.size, 2, none⟩ v2).setCell ⟨a.heap.size, 3, none⟩ v3).setCell ⟨a.heap.size, 4, none⟩ v4) :=
  ((((h.setCell (Nat.le_refl _) _).setCell (Nat.le_refl _) _).setCell (Nat.le_refl _) _).setCell (Nat.le_refl _) _).setCell (Nat.le_refl _) _
theorem zero137 (w : World) : (zeroValue 3).run Try.prog w = .ok (.int .i64 0) w := zero3 w
set_option maxRecDepth 100000 in
set_option maxHeartbeats 4000000 in
theorem enter_any {w : World} {F : Nat → Prop} {g : Nat} {v : Value} {rm am : Nat} {accs : List AccE} {recs : List Rc} {rl : List (Int × Value)}
    (h : LedH w F g v rm am accs recs (fun a => rowsOf a recs 0) rl) (d rev : Int) (ps : List Pst) (A : Option Addr) (c : Nat) (hps : ∀ W, Fr F w W → Kd.C kPst W A ps.length ps)
    (hacc : ∀ p ∈ ps, p.a ∈ accs.map (·.name)) (hcs : ∀ p ∈ ps, -1099511627776 ≤ p.c ∧ p.c ≤ 1099511627776) (hsz : ∀ p ∈ ps, p.a.size ≤ 9223372036854775807) (hlen : ps.length ≤ 16)
    (hbal : ∀ a, -1125899906842624 ≤ bal recs a ∧ bal recs a ≤ 1125899906842624) (hrn : recs.length ≤ 4096) (hs0 : 0 ≤ lastSum recs) (hs1' : lastSum recs < 18446744073709551616) :
    Calls Try.prog 50 #[.pointer (some ⟨g, 0, none⟩), .int .i64 d, .slice A ps.length c, .int .i64 rev] w (EnterPost w F g rm am accs recs rl d rev ps) := by
  have hmm := @run_makeMap Try.prog
  go_enter Try.func50, Try.ntmps50
  go_wp2_with fail
  have hm0 := KMap.new (κ := ByteArray) Value.string w
  have hb0 := (Below.refl w.heap.size w).alloc (Nat.le_refl _) (.map #[] 0)
  clear hmm
  generalize w.alloc (.map #[] 0) = w0 at *
  go_loopw [11, 22] (fun _ i wr => ∃ (k : Nat) (l : List (ByteArray × Value)), k ≤ ps.length ∧ i = .int .i64 k ∧ KMap Value.string wr w.heap.size l ∧ SumsOf l (ps.take k) ∧ Below w.heap.size w wr) (fun _ i _ => ps.length - (intOf i).toNat)
  case atStart => exact ⟨0, [], by omega, rfl, hm0, fun a => by simp [mget, inn], hb0⟩
  case round =>
    obtain ⟨k, l, hk, rfl, hm, hsu, hb⟩ := hrel
    by_cases hlt : k < ps.length
    · obtain ⟨x, hx⟩ : ∃ x, ps[k]? = some x := ⟨_, List.getElem?_eq_getElem hlt⟩
      obtain ⟨ad, rfl, p0, p1⟩ := at_Pst (hps wr (Fr.of_below hb F)) hx
      have hxm := List.mem_of_getElem? hx
      have HX := Lib.hid hx
      clear hx
      have hm2 := hm.alloc (.cells #[.string x.a, .int .i64 x.c] 50)
      have hb2 := hb.alloc hb.size (.cells #[.string x.a, .int .i64 x.c] 50)
      have hlk := hm2.lookup (P := Try.prog) (t := 129) ke_string Try.underlying129 Try.underlying9 zero137 x.a
      rw [sums_look hsu] at hlk
      have HP := Lib.hid (sums_put hsu x)
      have hpb := part_bound (M := 1099511627776) (by decide) (fun p hp => hcs p (List.mem_of_mem_take hp)) (qs := ps.take k) x.a
      rw [List.length_take, Nat.min_eq_left hk] at hpb
      obtain ⟨hp1, hp2⟩ := hpb
      have hx1 := hcs x hxm
      have hq1 : -17592186044416 ≤ part (ps.take k) x.a := by omega
      have hq2 : part (ps.take k) x.a ≤ 17592186044416 := by omega
      clear hp1 hp2 hsu
      generalize part (ps.take k) x.a = s at *
      obtain ⟨hx1, hx2⟩ := hx1
      go_wp2_with (at_mapUpdate; refine wpList_mapUpdate_k rfl _ _ _ 129 rfl ke_string hm2 Try.underlying129 Try.underlying9 rfl x.a rfl (.int .i64 (s + x.c)) rfl ?_; intro w2 hm3 hf3 hs3)
      go_roundw
      case rel => exact ⟨k + 1, _, by omega, by go_num, hm3, by rw [List.take_succ_eq_append_getElem hlt]; have := HX.out; rw [List.getElem?_eq_getElem hlt, Option.some.injEq] at this; rw [this]; exact HP.out, hb2.trans (hf3.to_below (by have := hb2.size; exact this) (by intro b hb; omega))⟩
      case measure => simp [intOf]; omega
    · have hsu' : SumsOf l ps := by rw [List.take_of_length_le (by omega)] at hsu; exact hsu
      obtain ⟨w1, hrun, hit, hf1, hs1⟩ := hm.range (P := Try.prog) (t := 129) Try.underlying129
      have hb1 : Below w.heap.size w w1 := hb.trans (hf1.none_below.mono hb.size)
      have hlt1 : w.heap.size < w1.heap.size := by have := hb.size; omega
      have hitge : w.heap.size ≤ wr.heap.size := hb.size
      have HSU := Lib.hid hsu'
      have HRN := Lib.hid hrn
      clear hsu hm hb hf1 hsu' hrn
      go_wp2_with fail
      clear hrun
      have hr0 : ∀ p ∈ l, p ∈ l ∨ okBal recs ps p.1 = true := fun p hp => .inl hp
      obtain ⟨wo, rfl⟩ : ∃ wo : World, wo = wr := ⟨_, rfl⟩
      go_loopw [12, 13, 14] (fun _ _ _ wr => ∃ left, KIt Value.string wr wo.heap.size w.heap.size l left ∧ Below w.heap.size w wr ∧ (∀ p ∈ l, p ∈ left ∨ okBal recs ps p.1 = true)) (fun _ _ _ wr => wr.rangeLeft w.heap.size wo.heap.size)
      case atStart => exact ⟨l, hit, hb1, hr0⟩
      case round =>
        obtain ⟨left, hl, hbl, hok⟩ := hrel
        rcases hl.next (P := Try.prog) ke_string 0 with ⟨hnil, hnx⟩ | ⟨p, w2, hp, hnx, hit2, hf2, hs2, hen⟩
        · have h2 := h.below hbl
          have c0 := h2.c0
          obtain ⟨Ar, cr, rfl, hlr, hCr⟩ := Kd.R_reads h2.hrecs
          by_cases hfull : 4096 ≤ recs.length
          · have HE := Lib.hid (show enterErr recs ps = 9 by
              unfold enterErr
              rw [if_pos, if_pos hfull]
              rw [List.all_eq_true]
              intro p hp
              have hi : inn ps p.a = true := List.any_eq_true.2 ⟨p, hp, by simp⟩
              have hg := HSU.out p.a
              rw [hi, if_pos rfl] at hg
              rcases hok _ ((mget_mem hl.map.nodup).1 hg) with h5 | h5
              · rw [hnil] at h5; cases h5
              · exact h5)
            have HQ : EnterPost w F g rm am accs recs rl d rev ps (.panicked (refusal 9)) wr := ⟨fun h0 => (by rw [HE.out] at h0; cases h0), fun _ => ⟨by rw [HE.out], hbl⟩⟩
            go_wp2_with fail
            refine (refuse_yes' 9 _ (by first | rfl | (simp; done) | (simp; omega))).mono ?_
            rintro e w4 ⟨rfl, rfl⟩
            exact ⟨rfl, HQ⟩
          · have HE := Lib.hid (show enterErr recs ps = 0 by
              unfold enterErr
              rw [if_pos, if_neg hfull]
              rw [List.all_eq_true]
              intro p hp
              have hi : inn ps p.a = true := List.any_eq_true.2 ⟨p, hp, by simp⟩
              have hg := HSU.out p.a
              rw [hi, if_pos rfl] at hg
              rcases hok _ ((mget_mem hl.map.nodup).1 hg) with h5 | h5
              · rw [hnil] at h5; cases h5
              · exact h5)
            have hm1 := hl.map
            have hlr2 := hCr.2.1
            clear hnil hok
            go_wp2_with fail
            clear hnx
            refine (refuse_no' 9 _ (by first | rfl | (simp; done) | (simp; omega))).mono ?_
            rintro e w4 ⟨rfl, rfl⟩
            have hw1 : IntKind.i64.wrap ((recs.length : Int) + 1) = (recs.length : Int) + 1 := IntWalk.i64_in _ (by omega)
            have hgl : g < wr.heap.size := World.block_lt_of_cell? _ _ c0
            go_upto_region 13 with fail
            go_cut [15] (fun s15 wx => ∃ (b : Nat) (A5 : Option Addr) (c5 : Nat), s15 = .pointer (some ⟨b, 0, none⟩) ∧ Blk wx b #[.int .i64 (recs.length + 1), .int .i64 d, .slice A5 ps.length c5, .int .i64 rev, .int .u64 0] 94 ∧ wr.heap.size ≤ b ∧ Kd.R kPst 50 wx wr.heap.size (fun k => wr.heap.size ≤ k ∧ k ≠ b) (.slice A5 ps.length c5) ps ∧ Below wr.heap.size wr wx)
            case first =>
              have S0 : wr.drew.cell? ⟨g, 0, none⟩ = some (.slice Ar recs.length cr) ∧ Below wr.heap.size wr wr.drew := keepS c0 hgl ((Below.refl _ _).drew)
              have S1 : (wr.alloc (.cells #[.int .i64 0, .int .i64 0, .slice none 0 0, .int .i64 0, .int .u64 0] 94)).drew.cell? ⟨g, 0, none⟩ = some (.slice Ar recs.length cr) ∧ Below wr.heap.size wr (wr.alloc (.cells #[.int .i64 0, .int .i64 0, .slice none 0 0, .int .i64 0, .int .u64 0] 94)).drew := keepS c0 hgl (below_al (Below.refl _ _) _).drew
              go_region_held3 (fun w' => w'.cell? ⟨g, 0, none⟩ = some (.slice Ar recs.length cr) ∧ Below wr.heap.size wr w')
                (first | (with_reducible exact S0) | (with_reducible exact S5) | (with_reducible exact S6) | (with_reducible exact S6 _) | (with_reducible exact S6 _ _ _ _ _) | (with_reducible exact S1) | (trace_state; fail))
                (first
                  | (go_at_call 72; refine (clone_sl wr.drew A c ps (hps _ (Fr.of_below (hbl.trans (S0.2.mono hbl.size)) F)) (by omega)).mono ?_; rintro e w5 ⟨⟨A5, c5, rfl, hR5⟩, hb5⟩; have S5 := keepS c0 hgl (below_t S0.2 hb5); have S6 := fun o => keepS c0 hgl (below_al S5.2 o))
                  | (go_at_call 72; refine (clone_sl _ A c ps (hps _ (Fr.of_below (hbl.trans (S1.2.mono hbl.size)) F)) (by omega)).mono ?_; rintro e w5 ⟨⟨A5, c5, rfl, hR5⟩, hb5⟩; have S5 := keepS c0 hgl (below_t S1.2 hb5); have S6 := fun v0 v1 v2 v3 v4 => keepS c0 hgl (below_5 S5.2 v0 v1 v2 v3 v4); have hq : Blk w5 wr.heap.size #[.int .i64 0, .int .i64 0, .slice none 0 0, .int .i64 0, .int .u64 0] 94 := (hb5.block wr.heap.size (by simp)).trans (Blk.new wr _ _); have q0 := hq.cell 0 (v := .int .i64 0) rfl; have q1 := hq.cell 1 (v := .int .i64 0) rfl; have q2 := hq.cell 2 (v := .slice none 0 0) rfl; have q3 := hq.cell 3 (v := .int .i64 0) rfl; have q4 := hq.cell 4 (v := .int .u64 0) rfl; have f0 := hq.free 0; have f1 := hq.free 1; have f2 := hq.free 2; have f3 := hq.free 3; have f4 := hq.free 4))
              · go_wp2_with fail
                go_meet
                exact ⟨w5.heap.size, A5, c5, rfl, Blk.new _ _ _, by have := S5.2.size; exact this, Kd.R_below (Kd.R_mono (Kd.R_bound hR5) (fun k hk => ⟨by simpa using hk.1, by have := hk.2.2.1; omega⟩)) ((Below.refl _ _).alloc (Nat.le_refl _) _), below_al S5.2 _⟩
              · go_wp2_with fail
                go_meet
                refine ⟨wr.heap.size, A5, c5, rfl, ?_, Nat.le_refl _, ?_, below_5 S5.2 _ _ _ _ _⟩
                · simpa using ((((hq.set 0 (.int .i64 (recs.length + 1))).set 1 (.int .i64 d)).set 2 (.slice A5 ps.length c5)).set 3 (.int .i64 rev)).set 4 (.int .u64 0)
                · have hR6 : Kd.R kPst 50 w5 wr.heap.size (fun k => wr.heap.size + 1 ≤ k) (.slice A5 ps.length c5) ps := Kd.R_lower (Kd.R_mono hR5 (fun k hk => by simpa using hk)) (by simp)
                  have hne : ∀ k, wr.heap.size + 1 ≤ k → k ≠ wr.heap.size := fun k hk => by omega
                  exact Kd.R_mono (Kd.R_far (p := ⟨wr.heap.size, 4, none⟩) (Kd.R_far (p := ⟨wr.heap.size, 3, none⟩) (Kd.R_far (p := ⟨wr.heap.size, 2, none⟩) (Kd.R_far (p := ⟨wr.heap.size, 1, none⟩) (Kd.R_far (p := ⟨wr.heap.size, 0, none⟩) hR6 hne _) hne _) hne _) hne _) hne _) (fun k hk => ⟨by omega, by omega⟩)
            case rest =>
              obtain ⟨b, A5, c5, rfl, hB5, hb5, hR5, hW5⟩ := hcut
              obtain ⟨wb, rfl⟩ : ∃ wb : World, wb = wc := ⟨_, rfl⟩
              have h5 := h2.below hW5
              have e0 := h5.c0
              have hbl5 : b < wb.heap.size := hB5.lt
              have hgb : g ≠ b := by omega
              have hm5 := hm1.move (w' := wb) (hW5.block _ hm1.lt)
              have hbl6 := hbl.trans (hW5.mono hbl.size)
              have hC5 : Kd.C kPst wb A5 ps.length ps := by
                obtain ⟨A', c', he', _, hC'⟩ := Kd.R_reads hR5
                simp only [Value.slice.injEq] at he'
                obtain ⟨rfl, _, rfl⟩ := he'
                exact hC'
              have a0 := hB5.cell 0 (v := .int .i64 (recs.length + 1)) rfl
              have a1 := hB5.cell 1 (v := .int .i64 d) rfl
              have a2 := hB5.cell 2 (v := .slice A5 ps.length c5) rfl
              have a3 := hB5.cell 3 (v := .int .i64 rev) rfl
              have a4 := hB5.cell 4 (v := .int .u64 0) rfl
              have hfld := fld34_4
              have h2fin := h.fin
              have hsm := hm1.lt
              have hsz2 := hbl.size
              clear c0 hCr h2 hm1 hit hr0 hb1
              go_upto_region 14 with fail
              go_cut [15] (fun s15 wx => s15 = .pointer (some ⟨b, 0, none⟩) ∧ Blk wx b #[.int .i64 (recs.length + 1), .int .i64 d, .slice A5 ps.length c5, .int .i64 rev, .int .u64 (dig (lastSum recs) (recs.length + 1) d rev ps)] 94 ∧ Fr (· = b) wb wx)
              case first =>
                go_region_law (first
                  | (go_simp; go_at_call 49; refine (last_any (w := wb.drew) (v := .slice Ar recs.length cr) e0 (Kd.R_move h5.hrecs (fun _ _ => rfl))).mono ?_; rintro e w6 ⟨⟨n6, A6, c6, rev6, no6, rfl⟩, hb6⟩; have hB6 : Blk w6 b #[.int .i64 (recs.length + 1), .int .i64 d, .slice A5 ps.length c5, .int .i64 rev, .int .u64 0] 94 := (hb6.block b hbl5).trans hB5; have r0 := hB6.cell 0 (v := .int .i64 (recs.length + 1)) rfl; have r1 := hB6.cell 1 (v := .int .i64 d) rfl; have r2 := hB6.cell 2 (v := .slice A5 ps.length c5) rfl; have r3 := hB6.cell 3 (v := .int .i64 rev) rfl; have r4 := hB6.cell 4 (v := .int .u64 0) rfl)
                  | (go_simp; go_at_call 73; refine (digest_any w6 (lastSum recs) (recs.length + 1) d rev 0 A5 c5 ps hs0 hs1' (Kd.C_below (w := wb.drew) hC5 hb6) hsz).mono ?_; rintro e w7 ⟨rfl, hb7⟩; have hB7 : Blk w7 b #[.int .i64 (recs.length + 1), .int .i64 d, .slice A5 ps.length c5, .int .i64 rev, .int .u64 0] 94 := (hb7.block b hB6.lt).trans hB6; have s4 := hB7.cell 4 (v := .int .u64 0) rfl; have s5 := hB7.free 4))
                all_goals
                  go_wp2_with fail
                  go_meet
                  exact ⟨rfl, by simpa using hB7.set 4 (.int .u64 (dig (lastSum recs) (recs.length + 1) d rev ps)), (((Fr.refl (· = b) wb).drew.below hb6).below hb7).setCell (p := ⟨b, 4, none⟩) (.inl rfl) _⟩
              case rest =>
                obtain ⟨rfl, hB6, hF6⟩ := hcut
                obtain ⟨wd, rfl⟩ : ∃ wd : World, wd = wc := ⟨_, rfl⟩
                have hbF : ¬ F b := fun hf => by have := h2fin b hf; omega
                have h6 := h5.fr hF6 (fun x hx e => hbF (e ▸ hx))
                have hm6 := hm5.fr hF6 (by show ¬ w.heap.size = b; omega)
                have hR6 : Kd.R kPst 50 wd wr.heap.size (fun k => wr.heap.size ≤ k ∧ k ≠ b) (.slice A5 ps.length c5) ps := Kd.R_step hR5 (fun k hk hlt => hF6.block k hlt hk.2)
                have hW6 : Below wr.heap.size wr wd := hW5.trans (hF6.to_below hW5.size (by intro x hx; omega))
                have hbl7 := hbl6.trans (hF6.to_below hbl6.size (by intro x hx; have := hbl.size; omega))
                have g0 := h6.c0
                have gf := h6.blk.free 0
                have b0 := hB6.cell 0 (v := .int .i64 (recs.length + 1)) rfl
                have b1 := hB6.cell 1 (v := .int .i64 d) rfl
                have b2 := hB6.cell 2 (v := .slice A5 ps.length c5) rfl
                have b3 := hB6.cell 3 (v := .int .i64 rev) rfl
                have b4 := hB6.cell 4 (v := .int .u64 (dig (lastSum recs) (recs.length + 1) d rev ps)) rfl
                clear hB5 hR5 hW5 h5 e0 hm5 hbl6 hC5 hF6 hfld a0 a1 a2 a3 a4
                go_upto_region 15 with fail
                go_cut [15] (fun s15 wx => s15 = .pointer (some ⟨b, 0, none⟩) ∧ Blk wx b #[.int .i64 (recs.length + 1), .int .i64 d, .slice A5 ps.length c5, .int .i64 rev, .int .u64 (dig (lastSum recs) (recs.length + 1) d rev ps)] 94 ∧
                  (∃ (F' : Nat → Prop) (v1 : Value), LedH wx F' g v1 rm am accs (recs ++ [newRec recs d rev ps]) (fun a => rowsOf a recs 0) rl ∧ (∀ x, F' x → F x ∨ (wr.heap.size ≤ x ∧ x ≠ b))) ∧ KMap Value.string wx w.heap.size l ∧ Fr F w wx ∧ wr.heap.size ≤ wx.heap.size ∧ K36 w wx)
                case first =>
                  have hok0 : Kd.R kRc 94 wd 0 (fun k => F k ∨ (wr.heap.size ≤ k ∧ k ≠ b)) (.slice Ar recs.length cr) recs := Kd.R_mono h6.hrecs (fun _ hk => .inl hk)
                  have hp0 : kRc.M wd 0 (fun k => wr.heap.size ≤ k ∧ k ≠ b) (newRec recs d rev ps) [.int .i64 (recs.length + 1), .int .i64 d, .slice A5 ps.length c5, .int .i64 rev, .int .u64 (dig (lastSum recs) (recs.length + 1) d rev ps)] := kRc_mkM (newRec recs d rev ps) (Kd.R_lower hR6 (Nat.zero_le _))
                  have hown0 : ∀ k, (Value.slice Ar recs.length cr).ownBlock = some k → k < w.heap.size := fun k hk => h2fin k (h6.hrecs.1 k hk)
                  have hokp0 : ∀ k, (wr.heap.size ≤ k ∧ k ≠ b) → (F k ∨ (wr.heap.size ≤ k ∧ k ≠ b)) ∧ some k ≠ (Value.slice Ar recs.length cr).ownBlock := fun k hk => ⟨.inr hk, fun e => by have := hown0 k e.symm; omega⟩
                  have hfr0 : ∀ k, wd.heap.size ≤ k → (F k ∨ (wr.heap.size ≤ k ∧ k ≠ b)) := fun k hk => .inr (by have h1 := hW6.size; have h2 := hB6.lt; omega)
                  have hl0 : (recs.length + 1) * 56 ≤ 140737488355328 := by omega
                  have hgd : g < wd.heap.size := h6.blk.lt
                  go_region_law (first
                    | (refine R_append_step_d kRc (W := wd) (by rfl) _ _ 80 94 (.agg #[.int .i64 0, .int .i64 0, .slice none 0 0, .int .i64 0, .int .u64 0]) 56 (by rfl) Try.underlying80 info94 rfl (by decide) (by decide) (.slice Ar recs.length cr) recs (newRec recs d rev ps) _ _ _ (by rfl) (by rfl) hp0 hokp0 hfr0 hok0 hl0 ?_; intro A8 c8 w8 hR8 hg8 hat8; have hB8 := h6.led_grown hg8; have t8 := hB8.cell 0 (v := .slice Ar recs.length cr) rfl; have f8 := hB8.free 0))
                  all_goals
                    go_wp2_with fail
                    go_meet
                    have hHL := LedH.recorded h6 hg8 (F' := fun x => (F x ∨ (wr.heap.size ≤ x ∧ x ≠ b)) ∧ x < w8.heap.size) (Kd.R_mono (Kd.R_bound hR8) (fun k hk => ⟨hk.1, hk.2.2.1⟩)) (fun x hx => ⟨.inl hx, Nat.lt_of_lt_of_le (h6.fin x hx) hg8.size⟩) (fun x hx => hx.2) rfl
                    refine ⟨rfl, ?_, ⟨_, _, hHL, fun x hx => hx.1⟩, ?_, ?_, ?_, ?_⟩
                    · exact Blk.other ((hg8.block b hB6.lt (fun e => by have := hown0 b e.symm; omega)).trans hB6) (by show b ≠ g; omega) _
                    · exact hm6.move ((Below.heap_setCell w8 _ _ w.heap.size (by show w.heap.size ≠ g; have := h.fin g h.fg; omega)).trans (hg8.block w.heap.size hm6.lt (fun e => by have := hown0 _ e.symm; omega)))
                    · exact ((Fr.of_below hbl7 F).grown hg8 (fun k hk => .inl (h6.hrecs.1 k hk))).setCell (.inl h.fg) _
                    · rw [size_setCell]; have := hW6.size; have := hg8.size; omega
                    · refine ((K36.of_below hbl7).fr (fr_grown hg8) (fun k hk => .inr ?_)).fr (fr_cell w8 _ _) (fun k hk => .inr ?_)
                      · obtain ⟨cells, hc⟩ := R_typed h6.hrecs k hk
                        exact not36 hc (by decide)
                      · subst hk
                        exact not36 (h6.led_grown hg8) (by decide)
                case rest =>
                  obtain ⟨rfl, hB7, ⟨F7, v7, hL7, hF7⟩, hm7, hFr7, hsz7, hK7⟩ := hcut
                  have HK7 := Lib.hid hK7
                  clear hK7
                  obtain ⟨we, rfl⟩ : ∃ we : World, we = wc := ⟨_, rfl⟩
                  obtain ⟨w1r, hrun7, hit7, hf7, hs7⟩ := hm7.range (P := Try.prog) (t := 129) Try.underlying129
                  have hL8 := hL7.below hf7.none_below
                  have hB8 : Blk w1r b #[.int .i64 (recs.length + 1), .int .i64 d, .slice A5 ps.length c5, .int .i64 rev, .int .u64 (dig (lastSum recs) (recs.length + 1) d rev ps)] 94 := (hf7.none_below.block b hB7.lt).trans hB7
                  have hFr8 : Fr F w w1r := hFr7.below hf7.none_below
                  have hK8 := Lib.hid (HK7.out.below hf7.none_below)
                  have hRA : rowsAt recs (newRec recs d rev ps) l = fun a => rowsOf a recs 0 := rowsAt_start fun a ha => by
                    have := HSU.out a
                    rw [ha] at this
                    show inn ps a = false
                    cases hi : inn ps a with
                    | false => rfl
                    | true => rw [hi] at this; simp at this
                  rw [← hRA] at hL8
                  have hbwe : b < we.heap.size := hB7.lt
                  have hL7f := hL7.fin
                  have hwwe : w.heap.size ≤ we.heap.size := hFr7.size
                  clear hB6 hR6 hW6 h6 hbl7 hm6 g0 gf b0 b1 b2 b3 b4 hRA hL7 hB7 hFr7 hm7 hf7
                  go_wp2_with fail
                  clear hrun7
                  obtain ⟨wz, rfl⟩ : ∃ wz : World, wz = wr := ⟨_, rfl⟩
                  go_loopw [16, 17, 18] (fun _ _ _ wr => ∃ left F'' v'' accs', KIt Value.string wr we.heap.size w.heap.size l left ∧ LedH wr F'' g v'' rm am accs' (recs ++ [newRec recs d rev ps]) (rowsAt recs (newRec recs d rev ps) left) rl ∧ accs'.map (·.name) = accs.map (·.name) ∧ (∀ x, F'' x → F x ∨ w.heap.size ≤ x) ∧ (∀ x, F'' x → x ≠ we.heap.size) ∧ Fr F w wr ∧ Hid (K36 w wr) ∧ Blk wr b #[.int .i64 (recs.length + 1), .int .i64 d, .slice A5 ps.length c5, .int .i64 rev, .int .u64 (dig (lastSum recs) (recs.length + 1) d rev ps)] 94) (fun _ _ _ wr => wr.rangeLeft w.heap.size we.heap.size)
                  case atStart => exact ⟨l, _, _, _, hit7, hL8, rfl, fun x hx => (hF7 x hx).imp id (fun h9 => by omega), fun x hx => by have := hL7f x hx; omega, hFr8, hK8, hB8⟩
                  case round =>
                    obtain ⟨left, F9, v9, accs9, hl9, hL9, hn9, hF9, hne9, hFr9, hK9, hB9⟩ := hrel
                    have b90 := hB9.cell 0 (v := .int .i64 (recs.length + 1)) rfl
                    rcases hl9.next (P := Try.prog) ke_string 0 with ⟨hnil, hnx⟩ | ⟨p, w2, hp, hnx, hit2, hf2, hs2, hen⟩
                    · subst hnil
                      have HQ : EnterPost w F g rm am accs recs rl d rev ps (.returned (.int .i64 (recs.length + 1))) wr := ⟨fun _ => ⟨rfl, F9, v9, accs9, by rw [rowsAt_end] at hL9; exact hL9, hn9, hFr9, hF9, hK9.out⟩, fun h0 => absurd HE.out h0⟩
                      go_wp2_with fail
                      go_ret
                      exact HQ
                    · obtain ⟨a, pv⟩ := p
                      have hpl : (a, pv) ∈ l := hl9.sub.subset hp
                      have hget := (mget_mem hl9.map.nodup).2 hpl
                      rw [HSU.out a] at hget
                      have hin : inn ps a = true := by
                        cases hi : inn ps a with
                        | true => rfl
                        | false => rw [hi] at hget; simp at hget
                      rw [hin] at hget
                      simp only [if_true, Option.some.injEq] at hget
                      subst hget
                      obtain ⟨q, hq, hqa⟩ := List.any_eq_true.1 hin
                      have hqa : q.a = a := by simpa using hqa
                      have hq9 := hacc q hq
                      rw [← hn9] at hq9
                      obtain ⟨x, hx, hxa⟩ := amap_of_mem hq9
                      rw [hqa] at hxa
                      subst hxa
                      have hL2 := hL9.fr hf2 (fun b hb e => hne9 b hb e)
                      have hB2 := hB9.fr hf2 (by omega)
                      have hFr2 : Fr F w w2 := hFr9.trans hf2 (fun x hx => .inr (by omega))
                      have hK2 := Lib.hid (hK9.out.fr hf2 (fun x hx => .inl (by omega)))
                      have b92 := hB2.cell 0 (v := .int .i64 (recs.length + 1)) rfl
                      have c2 := hL2.c2
                      have hlk := hL2.look_some hx
                      obtain ⟨y1, y2, y3⟩ := hL2.haccs x hx
                      have hrm := rowsAt_mem (recs := recs) (r := newRec recs d rev ps) hp
                      obtain ⟨rs, hrs⟩ : ∃ rs, rs = rowsOf x.name recs 0 := ⟨_, rfl⟩
                      rw [← hrs] at hrm
                      have hlb : lastBal rs = bal recs x.name := by rw [hrs, lastBal_rowsOf]
                      have hrl : rs.length ≤ 4096 := by rw [hrs]; exact Nat.le_trans (rowsOf_len _ _ _) HRN.out
                      have hpb := part_bound (M := 1099511627776) (by decide) hcs x.name
                      obtain ⟨hp1, hp2⟩ := hpb
                      have hq1 : -17592186044416 ≤ part ps x.name := by omega
                      have hq2 : part ps x.name ≤ 17592186044416 := by omega
                      obtain ⟨hz1, hz2⟩ := hbal x.name
                      rw [← hlb] at hz1 hz2
                      have hw2 : IntKind.i64.wrap (lastBal rs + part ps x.name) = lastBal rs + part ps x.name := IntWalk.i64_in _ (by omega)
                      have HRM := Lib.hid hrm
                      have HRS := Lib.hid hrs
                      have HLB := Lib.hid hlb
                      have HIN := Lib.hid hin
                      rw [show rowsAt recs (newRec recs d rev ps) left x.name = rs from hrm] at y3
                      obtain ⟨Ax, cx, hrv, hlx, hCx⟩ := Kd.R_reads y3
                      have x0 := y2.cell 0 (v := x.rv) rfl
                      rw [hrv] at x0 y2 y3
                      have HRV := Lib.hid hrv
                      clear hp1 hp2 hqa hpl hB9 hL9 hFr9 b90 hrm hrs hlb hin hrv hCx
                      go_wp2_with fail
                      go_region_law (first
                        | (go_simp; go_at_call 71; refine (balance_any w2.drew x.blk 0 F9 (.slice Ax rs.length cx) rs y2 (Kd.R_move (w := w2) (w1 := w2.drew) y3 (fun _ _ => rfl))).mono ?_; rintro e w6 ⟨rfl, hd⟩; have hb6 : Below w2.heap.size w2 w6 := (Below.refl _ w2).drew.trans hd.below; have hL6 := hL2.below hb6; have x6 := (hb6.cell y2.lt).trans x0; have b6 := (hb6.cell hB2.lt).trans b92; have xl6 := Nat.lt_of_lt_of_le y2.lt hb6.size; have bl6 := Nat.lt_of_lt_of_le hB2.lt hb6.size)
                        | (refine R_append_step_0 kRw (W := w6) (by rfl) _ _ 88 133 (.agg #[.int .i64 0, .int .i64 0, .int .i64 0, .int .i64 0]) 32 (by rfl) Try.underlying88 info133 rfl (by decide) (by decide) (.slice Ax rs.length cx) rs ⟨recs.length + 1, d, part ps x.name, lastBal rs + part ps x.name⟩ _ (fun k => F9 k ∨ w6.heap.size ≤ k) (fun _ => False) (by rfl) (by rfl) (kRw_mkM _) (fun _ hk => hk.elim) (fun _ hk => .inr hk) (Kd.R_mono (Kd.R_below (w := w2) (Kd.R_bound y3) hb6) (fun _ hk => .inl hk.1)) (by omega) ?_; intro A8 c8 w8 hR8 hg8 hat8; have hg9 : w6.grownBy w8 x.rv.ownBlock := (by rw [HRV.out]; exact hg8); have hB8 := hL6.acc_grown hx hg9; rw [HRV.out] at hB8; have t8 := hB8.cell 0 (v := .slice Ax rs.length cx) rfl; have f8 := hB8.free 0))
                      all_goals
                        go_wp2_with fail
                        have hR9 : Kd.R kRw 133 w8 0 (fun k => (F9 k ∨ w6.heap.size ≤ k) ∧ k < w8.heap.size) (.slice A8 (rs.length + 1) c8) (rowsAt recs (newRec recs d rev ps) left x.name ++ [⟨recs.length + 1, d, part ps x.name, bal recs x.name + part ps x.name⟩]) := by
                          rw [HRM.out, ← HLB.out]
                          exact Kd.R_mono (Kd.R_bound hR8) (fun k hk => ⟨hk.1, hk.2.2.1⟩)
                        have hLr := LedH.rowed (F' := fun k => (F9 k ∨ w6.heap.size ≤ k) ∧ k < w8.heap.size) hL6 hx hg9 hR9 (by rw [HRV.out]; exact hat8) (fun z hz => ⟨.inl hz, Nat.lt_of_lt_of_le (hL6.fin z hz) hg8.size⟩) (fun z hz => hz.2) rfl
                        rw [show (fun a => if a = x.name then rowsAt recs (newRec recs d rev ps) left a ++ [⟨recs.length + 1, d, part ps x.name, bal recs x.name + part ps x.name⟩] else rowsAt recs (newRec recs d rev ps) left a) = rowsAt recs (newRec recs d rev ps) (left.filter (fun q => !decide (q.1 = x.name))) from rowsAt_step (r := newRec recs d rev ps) hp HIN.out] at hLr
                        have hown : ∀ k, x.rv.ownBlock = some k → ∃ cells, w6.heap[k]? = some (.cells cells 133 (0, 0)) := R_typed (hL6.haccs x hx).2.2
                        have hbx := (hL6.haccs x hx).2.1
                        have hit6 := hit2.move (hb6.block _ hit2.lt) (hb6.block _ hit2.map.lt)
                        have hB6' : Blk w6 b _ 94 := (hb6.block b hB2.lt).trans hB2
                        have hst : ∀ k, k < w6.heap.size → k ≠ x.blk → (∀ cells, w6.heap[k]? ≠ some (.cells cells 133 (0, 0))) → (w8.setCell ⟨x.blk, 0, none⟩ (.slice A8 (rs.length + 1) c8)).heap[k]? = w6.heap[k]? := fun k hk hkx hkt =>
                          (Below.heap_setCell w8 ⟨x.blk, 0, none⟩ _ k hkx).trans (hg9.block k hk (fun e => by obtain ⟨cells, hc⟩ := hown k e.symm; exact hkt cells hc))
                        have hit9 := hit6.move (hst _ hit6.lt (hit6.not_cells hbx).symm (fun cells e => hit6.not_cells e rfl)) (hst _ hit6.map.lt (hit6.map.not_cells hbx).symm (fun cells e => hit6.map.not_cells e rfl))
                        go_roundw
                        case rel =>
                          refine ⟨_, _, _, _, hit9, hLr, ?_, ?_, ?_, ?_, Lib.hid ?_, ?_⟩
                          · rw [List.map_map]; rw [← hn9]; exact List.map_congr_left fun y _ => setRv_name _ _ y
                          · rintro z ⟨hz | hz, _⟩
                            · exact hF9 z hz
                            · exact .inr (by have := hb6.size; have := hFr2.size; omega)
                          · rintro z ⟨hz | hz, _⟩
                            · exact hne9 z hz
                            · have := hit6.lt; omega
                          · refine ((hFr2.below hb6).grown hg9 (fun k hk => ?_)).setCell (hF9 _ y1) _
                            exact hF9 k ((hL6.haccs x hx).2.2.1 k hk)
                          · refine ((hK2.out.below hb6).fr (fr_grown hg9) (fun k hk => .inr ?_)).fr (fr_cell w8 _ _) (fun k hk => .inr ?_)
                            · obtain ⟨cells, hc⟩ := hown k hk
                              exact not36 hc (by decide)
                            · subst hk
                              exact not36 (hL6.acc_grown hx hg9) (by decide)
                          · exact (hst b hB6'.lt (typed_ne hbx hB6' (by decide)).symm (fun cells e => typed_ne e hB6' (by decide) rfl)).trans hB6'
                        case measure =>
                          rw [hit9.left_eq, hl9.left_eq]
                          exact left_filter_lt hp
        · obtain ⟨a, pv⟩ := p
          have hpl : (a, pv) ∈ l := hl.sub.subset hp
          have hget := (mget_mem hl.map.nodup).2 hpl
          rw [HSU.out a] at hget
          have hin : inn ps a = true := by
            cases hi : inn ps a with
            | true => rfl
            | false => rw [hi] at hget; simp at hget
          rw [hin] at hget
          simp only [if_true, Option.some.injEq] at hget
          subst hget
          obtain ⟨q, hq, hqa⟩ := List.any_eq_true.1 hin
          have hqa : q.a = a := by simpa using hqa
          obtain ⟨x, hx, hxa⟩ := amap_of_mem (hacc q hq)
          rw [hqa] at hxa
          subst hxa
          have hb2 : Below w.heap.size w w2 := hbl.trans (hf2.to_below hbl.size (by intro b hb; omega))
          have h2 := h.below hb2
          have c2 := h2.c2
          have hlk := h2.look_some hx
          obtain ⟨y1, y2, y3⟩ := h2.haccs x hx
          have hpb := part_bound (M := 1099511627776) (by decide) hcs x.name
          obtain ⟨hp1, hp2⟩ := hpb
          have hq1 : -17592186044416 ≤ part ps x.name := by omega
          have hq2 : part ps x.name ≤ 17592186044416 := by omega
          obtain ⟨hz1, hz2⟩ := hbal x.name
          have HOK := Lib.hid hok
          clear hp1 hp2 hin hqa hok
          go_wp2_with fail
          refine (balance_any _ _ 0 F _ _ y2 y3).mono ?_
          rintro e w3 ⟨rfl, hd⟩
          rw [lastBal_rowsOf]
          have HN := Lib.hid (show okBal recs ps x.name = decide (-1125899906842624 ≤ bal recs x.name + part ps x.name ∧ bal recs x.name + part ps x.name ≤ 1125899906842624) from rfl)
          have hb3 : Below w.heap.size w w3 := hb2.trans (hd.below.mono hb2.size)
          have hit3 : KIt Value.string w3 wo.heap.size w.heap.size l (left.filter (fun q => !decide (q.1 = x.name))) := by obtain ⟨⟨n, rfl⟩⟩ := hd; exact hit2.move rfl rfl
          have HA := Lib.hid (show (¬ okBal recs ps x.name = true) → enterErr recs ps = 4 from fun hno => by
            unfold enterErr
            rw [if_neg]
            intro hall
            have hqa' : q.a = x.name := by simpa using hqa
            exact hno (hqa' ▸ List.all_eq_true.1 hall q hq))
          clear hit2 hen hnx hlk y3 y2 c2 hqa
          generalize bal recs x.name = b at *
          generalize part ps x.name = s at *
          by_cases h3 : b + s < -1125899906842624
          · have HE := Lib.hid (HA.out (by rw [HN.out]; simp; omega))
            have HQ : EnterPost w F g rm am accs recs rl d rev ps (.panicked (refusal 4)) w3 := ⟨fun h0 => (by rw [HE.out] at h0; cases h0), fun _ => ⟨by rw [HE.out], hb3⟩⟩
            go_wp2_with fail
            refine (refuse_yes' 4 _ (by first | rfl | (simp; done) | (simp; omega))).mono ?_
            rintro e w4 ⟨rfl, rfl⟩
            exact ⟨rfl, HQ⟩
          · by_cases h4 : 1125899906842624 < b + s
            · have HE := Lib.hid (HA.out (by rw [HN.out]; simp; omega))
              have HQ : EnterPost w F g rm am accs recs rl d rev ps (.panicked (refusal 4)) w3 := ⟨fun h0 => (by rw [HE.out] at h0; cases h0), fun _ => ⟨by rw [HE.out], hb3⟩⟩
              go_wp2_with fail
              refine (refuse_yes' 4 _ (by first | rfl | (simp; done) | (simp; omega))).mono ?_
              rintro e w4 ⟨rfl, rfl⟩
              exact ⟨rfl, HQ⟩
            · have HG := Lib.hid (show okBal recs ps x.name = true by rw [HN.out]; simp; omega)
              go_wp2_with fail
              refine (refuse_no' 4 _ (by first | rfl | (simp; done) | (simp; omega))).mono ?_
              rintro e w4 ⟨rfl, rfl⟩
              go_wp2_with fail
              go_roundw
              case rel =>
                refine ⟨_, hit3, hb3, fun p' hp' => ?_⟩
                rcases HOK.out p' hp' with h5 | h5
                · by_cases h6 : p'.1 = x.name
                  · exact .inr (by rw [h6]; exact HG.out)
                  · exact .inl (List.mem_filter.2 ⟨h5, by simp [h6]⟩)
                · exact .inr h5
              case measure =>
                rw [hit3.left_eq, hl.left_eq]
                exact left_filter_lt hp
end Go.Proofs.Ytcobihdjcdefmaa
