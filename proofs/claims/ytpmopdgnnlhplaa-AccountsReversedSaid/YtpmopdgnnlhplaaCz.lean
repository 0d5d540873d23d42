/-
  The walk of Copy, continued.
-/
import Derived.Test.YtpmopdgnnlhplaaCy
namespace Go.Proofs.Ytpmopdgnnlhplaa
open Go.RowKit Go.Proofs.YtpmopdgnnlhplaaW.PrintWords
/-- A ledger as far as balances go: its accounts and their rows. -/
structure LedB (w : World) (F : Nat → Prop) (g am : Nat) (accs : List AccE) (rows : ByteArray → List Rw) : Prop where
  blk : ∃ v rm, Blk w g #[v, .map (some rm), .map (some am)] 97
  fin : ∀ b, F b → b < w.heap.size
  fg : F g
  fam : F am
  amap : KMap Value.string w am (amapOf accs)
  haccs : ∀ x ∈ accs, AccOk w F rows x
section
variable {w w' : World} {F : Nat → Prop} {g am : Nat} {accs : List AccE} {rows : ByteArray → List Rw}
theorem LedB.move (h : LedB w F g am accs rows) (hm : ∀ k, F k → w'.heap[k]? = w.heap[k]?) (hs : w.heap.size ≤ w'.heap.size) : LedB w' F g am accs rows where
  blk := by obtain ⟨v, rm, hb⟩ := h.blk; exact ⟨v, rm, hb.move (hm g h.fg)⟩
  fin b hb := Nat.lt_of_lt_of_le (h.fin b hb) hs
  fg := h.fg
  fam := h.fam
  amap := h.amap.move (hm am h.fam)
  haccs x hx := ⟨(h.haccs x hx).1, (h.haccs x hx).2.1.move (hm _ (h.haccs x hx).1), Kd.R_move (h.haccs x hx).2.2 hm⟩
theorem LedB.fr {G : Nat → Prop} (h : LedB w F g am accs rows) (hf : Fr G w w') (hd : ∀ b, F b → ¬ G b) : LedB w' F g am accs rows :=
  h.move (fun k hk => hf.block k (h.fin k hk) (hd k hk)) hf.size
theorem LedB.below (h : LedB w F g am accs rows) (hb : Below w.heap.size w w') : LedB w' F g am accs rows :=
  h.move (fun k hk => hb.block k (h.fin k hk)) hb.size
end
/-- The accounts that were copied, and those that are left. -/
def Half (accs accsc : List AccE) (left : List (ByteArray × Value)) : Prop := (accsc.map (·.name) ++ left.map (·.1)).Perm (accs.map (·.name))
theorem half_step {accs accsc : List AccE} {left : List (ByteArray × Value)} {p : ByteArray × Value} {nb : Nat} {u : Value} (h : Half accs accsc left) (hp : p ∈ left) (hn : (left.map (·.1)).Nodup) :
    Half accs (accsc ++ [⟨p.1, nb, u⟩]) (left.filter (fun q => !decide (q.1 = p.1))) := by
  unfold Half at h ⊢
  refine List.Perm.trans ?_ h
  rw [List.map_append, List.append_assoc]
  refine List.Perm.append_left _ ?_
  show ([p.1] ++ _).Perm _
  have key : ∀ (l : List (ByteArray × Value)), (l.map (·.1)).Nodup → p ∈ l → ([p.1] ++ (l.filter (fun q => !decide (q.1 = p.1))).map (·.1)).Perm (l.map (·.1)) := by
    intro l
    induction l with
    | nil => intro _ h9; simp at h9
    | cons q r ih =>
      intro hn hq
      obtain ⟨h1, h2⟩ := List.nodup_cons.1 hn
      rcases List.mem_cons.1 hq with rfl | hq
      · have hf : r.filter (fun q => !decide (q.1 = p.1)) = r := by
          rw [List.filter_eq_self]
          intro z hz
          have : z.1 ≠ p.1 := fun e => h1 (List.mem_map.2 ⟨z, hz, e⟩)
          simp [this]
        simp [hf]
      · have hne : q.1 ≠ p.1 := fun e => h1 (List.mem_map.2 ⟨p, hq, e.symm⟩)
        have := ih h2 hq
        rw [List.filter_cons_of_pos (by simp [hne]), List.map_cons, List.map_cons]
        exact (List.Perm.swap q.1 p.1 _).trans (List.Perm.cons _ this)
  exact key left hn hp
theorem R_turn {α : Type} {d : Kd α} {e base : Nat} {ok : Nat → Prop} {w w' : World} {u : Value} {xs : List α} {G : Nat → Prop} (h : Kd.R d e w base ok u xs) (hf : Fr G w w') (hG : ∀ b cs t fz, w.heap[b]? = some (.cells cs t fz) → ¬ G b) : Kd.R d e w' base ok u xs :=
  Kd.R_mono (Kd.R_move (Kd.R_bound h) (fun k hk => by
    obtain ⟨_, _, hlt, q, _, cells, hc⟩ := hk
    exact hf.block k hlt (hG k _ _ _ hc))) (fun _ hk => hk.1)
theorem AccOk.turn {w w' : World} {F G : Nat → Prop} {rows : ByteArray → List Rw} {x : AccE} (h : AccOk w F rows x) (hf : Fr G w w') (hG : ∀ b cs t fz, w.heap[b]? = some (.cells cs t fz) → ¬ G b) : AccOk w' F rows x :=
  ⟨h.1, h.2.1.fr hf (hG _ _ _ _ h.2.1), R_turn h.2.2 hf hG⟩
theorem AccOk.below {w w' : World} {F : Nat → Prop} {rows : ByteArray → List Rw} {x : AccE} (h : AccOk w F rows x) (hb : Below w.heap.size w w') : AccOk w' F rows x :=
  ⟨h.1, (hb.block _ h.2.1.lt).trans h.2.1, Kd.R_below h.2.2 hb⟩
theorem AccOk.mono {w : World} {F G : Nat → Prop} {rows : ByteArray → List Rw} {x : AccE} (h : AccOk w F rows x) (hG : ∀ b, F b → b < w.heap.size → G b) : AccOk w G rows x :=
  ⟨hG _ h.1 h.2.1.lt, h.2.1, Kd.R_mono (Kd.R_bound h.2.2) (fun k hk => hG k hk.1 hk.2.2.1)⟩
set_option maxRecDepth 100000 in
set_option maxHeartbeats 4000000 in
theorem Copy_any {w : World} {F : Nat → Prop} {g : Nat} {v : Value} {rm am : Nat} {accs : List AccE} {recs : List Rc} {rows : ByteArray → List Rw} {rl : List (Int × Value)}
    (h : LedH w F g v rm am accs recs rows rl) (hrl : recs.length ≤ 4096) (hrw : ∀ a, (rows a).length ≤ 4096) :
    Calls Try.prog 35 #[.pointer (some ⟨g, 0, none⟩)] w fun e w' => ∃ gc Fb vc rmc amc accsc, e = .returned (.pointer (some ⟨gc, 0, none⟩)) ∧ Below w.heap.size w w' ∧ (∀ b, Fb b → w.heap.size ≤ b) ∧ LedB w' Fb gc amc accsc rows ∧
      (accsc.map (·.name)).Perm (accs.map (·.name)) ∧ LedH w' (fun b => F b ∨ Fb b) gc vc rmc amc accsc recs rows rl := by
  have c0 := h.c0
  have c1 := h.c1
  have c2 := h.c2
  have hfin := h.fin
  have hmm := @run_makeMap Try.prog
  have gw := h.blk.lt
  go_enter Try.func35, Try.ntmps35
  go_upto_region 3 with (go_at_call 58; refine (made_yes _ _ _ c2).mono ?_; rintro e w1 ⟨rfl, rfl⟩)
  go_cut [3] (fun s3 wx => ∃ (gc : Nat) (vc : Value) (rmc amc : Nat), s3 = .pointer (some ⟨gc, 0, none⟩) ∧ Blk wx gc #[vc, .map (some rmc), .map (some amc)] 97 ∧ Kd.R kRc 34 wx 0 (fun k => F k ∨ w.heap.size ≤ k) vc recs ∧ KMap (Value.int .i64) wx rmc rl ∧ KMap Value.string wx amc ([] : List (ByteArray × Value)) ∧ w.heap.size ≤ gc ∧ w.heap.size ≤ rmc ∧ w.heap.size ≤ amc ∧ rmc ≠ amc ∧ Below w.heap.size w wx)
  case first =>
    go_region_law (first
      | (go_simp; go_at_call 72; refine (cloneRc w.drew F v recs (Kd.R_move (w1 := w.drew) h.hrecs (fun _ _ => rfl)) hfin hrl).mono ?_; rintro e wA ⟨⟨vc, rfl, hRc, hoc⟩, hbA⟩; obtain ⟨Av, cv, rfl, -, -⟩ := Kd.R_reads hRc; have hbW : Below w.heap.size w wA := (Below.refl _ w).drew.trans hbA; have cA := (h.below hbW).c1; have gA := (h.below hbW).blk.lt)
      | (go_simp; go_at_call 72; refine (cloneRc (w.alloc (.map #[] 0)).drew F v recs (Kd.R_drew (Kd.R_alloc h.hrecs (.map #[] 0))) (fun b hb => Nat.lt_of_lt_of_le (hfin b hb) (by simp)) hrl).mono ?_; rintro e wA ⟨⟨vc, rfl, hRc, hoc⟩, hbA⟩; obtain ⟨Av, cv, rfl, -, -⟩ := Kd.R_reads hRc; have hbW : Below w.heap.size w wA := (((Below.refl _ w).alloc (Nat.le_refl _) (.map #[] 0)).drew).trans (hbA.mono (by simp)); have hM0 : KMap Value.string wA w.heap.size ([] : List (ByteArray × Value)) := (KMap.new Value.string w).move (hbA.block w.heap.size (by simp)); have cA := (h.below hbW).c1; have gA := (h.below hbW).blk.lt)
      | (go_simp; go_at_call 73; refine (mapsClone wA rm rl (h.below hbW).revd).mono ?_; rintro e wB ⟨rfl, hKc, hbB⟩; have hbX : Below w.heap.size w wB := hbW.trans (hbB.mono hbW.size))
      | (go_simp; go_at_call 73; refine (mapsClone (wA.alloc (.map #[] 0)) rm rl ((h.below hbW).revd.alloc (.map #[] 0))).mono ?_; rintro e wB ⟨rfl, hKc, hbB⟩; have hbX : Below w.heap.size w wB := (hbW.alloc hbW.size (.map #[] 0)).trans (hbB.mono (by simp; have := hbW.size; omega)); have hM1 : KMap Value.string wB wA.heap.size ([] : List (ByteArray × Value)) := (KMap.new Value.string wA).move (hbB.block wA.heap.size (by simp))))
    all_goals
      go_wp2_with fail
      go_meet
      have hR' : Kd.R kRc 34 wA 0 (fun k => F k ∨ w.heap.size ≤ k) (.slice Av recs.length cv) recs := Kd.R_mono hRc (fun k hk => hk.imp id (fun h9 => by simp at h9; omega))
      have s1 := hbW.size
      have s2 := hbX.size
      have s3 := hKc.lt
      first
        | exact ⟨wB.heap.size + 1, _, wA.heap.size, wB.heap.size, rfl, Blk.new1 wB _ _ _, Kd.R_alloc (Kd.R_alloc (Kd.R_below hR' hbB) _) _, (hKc.alloc _).alloc _, (KMap.new _ wB).alloc _, by omega, by omega, by omega, by omega, (hbX.alloc hbX.size _).alloc (by simp; omega) _⟩
        | exact ⟨wB.heap.size, _, wA.heap.size, w.heap.size, rfl, Blk.new wB _ _, Kd.R_alloc (Kd.R_below hR' hbB) _, hKc.alloc _, (hM0.move (hbB.block _ hM0.lt)).alloc _, by omega, by omega, by omega, (by have := hM0.lt; omega), hbX.alloc hbX.size _⟩
        | exact ⟨wB.heap.size, _, wA.heap.size + 1, wA.heap.size, rfl, Blk.new wB _ _, Kd.R_alloc (Kd.R_below (Kd.R_alloc hR' _) hbB) _, (by simpa using hKc.alloc _), hM1.alloc _, by omega, by omega, by omega, by omega, hbX.alloc hbX.size _⟩
  case rest =>
    obtain ⟨gc, vc, rmc, amc, rfl, hBc, hRc, hKr, hKa, g1, g2, g3, hne, hbx⟩ := hcut
    obtain ⟨wo, rfl⟩ : ∃ wo : World, wo = wc := ⟨_, rfl⟩
    clear c0 c1 c2
    have hx := h.below hbx
    have c2 := hx.c2
    obtain ⟨w1r, hrun, hit, hf, hs⟩ := hx.amap.range (P := Try.prog) (t := 95) Try.underlying95
    have hbr := hf.none_below
    have hbx1 := below_t hbx hbr
    have hB1 : Blk w1r gc #[vc, .map (some rmc), .map (some amc)] 97 := (hbr.block _ hBc.lt).trans hBc
    have hR1 := Kd.R_below hRc hbr
    have hK1 := hKr.move (hbr.block _ hKr.lt)
    have hK2 := hKa.move (hbr.block _ hKa.lt)
    have hnod := h.nodup
    have hge : w.heap.size ≤ wo.heap.size := hbx.size
    go_wp2_with fail
    clear hrun
    go_loopw [4, 5] (fun _ _ wr => ∃ (left : List (ByteArray × Value)) (accsc : List AccE), KIt Value.string wr wo.heap.size am (amapOf accs) left ∧ Half accs accsc left ∧ KMap Value.string wr amc (amapOf accsc) ∧ (∀ x ∈ accsc, AccOk wr (fun b => w.heap.size ≤ b) rows x) ∧ accsc.Pairwise ApartE ∧ Blk wr gc #[vc, .map (some rmc), .map (some amc)] 97 ∧ Kd.R kRc 34 wr 0 (fun k => F k ∨ w.heap.size ≤ k) vc recs ∧ KMap (Value.int .i64) wr rmc rl ∧ Below w.heap.size w wr ∧ wo.heap.size < wr.heap.size) (fun _ _ wr => wr.rangeLeft am wo.heap.size)
    case atStart => exact ⟨_, [], hit, by unfold Half; rw [amap_keys]; exact List.Perm.refl _, hK2, by simp, List.Pairwise.nil, hB1, hR1, hK1, hbx1, hit.lt⟩
    case round =>
      obtain ⟨left, accsc, hl, hH, hKm, hacc, hap, hBg, hRr, hKq, hbw, hgt⟩ := hrel
      clear hit hB1 hR1 hK1 hK2 hbx1 hx
      rcases hl.next (P := Try.prog) ke_string 0 with ⟨hnil, hnx⟩ | ⟨p, w2, hp, hnx, hit2, hf2, hs2, hen⟩
      · subst hnil
        go_wp2_with fail
        go_ret
        have hperm : (accsc.map (·.name)).Perm (accs.map (·.name)) := by simpa [Half] using hH
        refine ⟨gc, fun b => w.heap.size ≤ b ∧ b < wr.heap.size, vc, rmc, amc, accsc, rfl, hbw, fun b hb => hb.1, ⟨⟨vc, rmc, hBg⟩, fun b hb => hb.2, ⟨g1, hBg.lt⟩, ⟨g3, hKm.lt⟩, hKm, fun x hx => (hacc x hx).mono (fun b h1 h2 => ⟨h1, h2⟩)⟩, hperm,
          ⟨hBg, fun b hb => hb.elim (fun h1 => Nat.lt_of_lt_of_le (h.fin b h1) hbw.size) (fun h1 => h1.2), .inr ⟨g1, hBg.lt⟩, .inr ⟨g2, hKq.lt⟩, .inr ⟨g3, hKm.lt⟩, hne, Kd.R_mono (Kd.R_bound hRr) (fun k hk => hk.1.imp id (fun h1 => ⟨h1, hk.2.2.1⟩)), hKq, hKm, fun x hx => (hacc x hx).mono (fun b h1 h2 => .inr ⟨h1, h2⟩), hap⟩⟩
      · have hpm := hl.sub.subset hp
        obtain ⟨x, hx, rfl⟩ := List.mem_map.1 hpm
        have hb2 : Below w.heap.size w w2 := hbw.trans (hf2.to_below hbw.size (by intro b hb; omega))
        have hL2 := h.below hb2
        obtain ⟨y1, y2, y3⟩ := hL2.haccs x hx
        obtain ⟨Ax, cx, hrv, _, _⟩ := Kd.R_reads y3
        have x0 := y2.cell 0 (v := x.rv) rfl
        have hgcl : gc < wo.heap.size := hBc.lt
        have hacl : amc < wo.heap.size := hKa.lt
        have hrcl : rmc < wo.heap.size := hKr.lt
        have hitc : ∀ b cs t fz, wr.heap[b]? = some (.cells cs t fz) → ¬ b = wo.heap.size := fun b cs t fz hb => hl.not_cells hb
        have hBg2 := hBg.fr hf2 (hitc _ _ _ _ hBg)
        have a2 := hBg2.cell 2 (v := .map (some amc)) rfl
        have hKm2 := hKm.fr hf2 (by omega)
        have hKq2 := hKq.fr hf2 (by omega)
        have hRr2 := R_turn hRr hf2 hitc
        have hacc2 : ∀ x ∈ accsc, AccOk w2 (fun b => w.heap.size ≤ b) rows x := fun x hx => (hacc x hx).turn hf2 hitc
        rw [hrv] at x0 y2 y3
        have hnew : x.name ∉ accsc.map (·.name) := fun hm => by
          have hnd : (accsc.map (·.name) ++ left.map (·.1)).Nodup := hH.nodup_iff.2 hnod
          exact (List.nodup_append.1 hnd).2.2 _ hm _ (List.mem_map.2 ⟨_, hp, rfl⟩) rfl
        have hleftn : (left.map (·.1)).Nodup := (List.nodup_append.1 (hH.nodup_iff.2 hnod)).2.1
        have hamap : ∀ (nb : Nat) (u : Value), mput (amapOf accsc) x.name (.pointer (some ⟨nb, 0, none⟩)) = amapOf (accsc ++ [⟨x.name, nb, u⟩]) := fun nb u => by
          rw [mput_new (amap_none hnew)]; simp [amapOf]
        have HA := Lib.hid hamap
        have hgw2 := hBg2.lt
        clear hKm hBg hacc hRr hKq hamap hrv
        go_wp2_with fail
        go_region_law (first
          | (go_simp; go_at_call 74; refine (cloneRw w2.drew F (.slice Ax (rows x.name).length cx) (rows x.name) (Kd.R_move (w1 := w2.drew) y3 (fun _ _ => rfl)) (hrw _)).mono ?_; rintro e w3 ⟨⟨v1, rfl, hRn⟩, hb3⟩; obtain ⟨A1, c1, rfl, -, -⟩ := Kd.R_reads hRn; have hb4 : Below w2.heap.size w2 w3 := (Below.refl _ w2).drew.trans hb3; have a3 := (hb4.cell hgw2).trans a2; have gw3 := Nat.lt_of_lt_of_le hgw2 hb4.size; obtain ⟨w5, hrun5, hm5, hf5, hs5⟩ := ((hKm2.move (hb4.block _ hKm2.lt)).alloc (.cells #[.slice A1 (rows x.name).length c1] 105)).update (P := Try.prog) (t := 95) ke_string Try.underlying95 Try.underlying9 x.name (.pointer (some ⟨w3.heap.size, 0, none⟩))))
        all_goals
          go_wp2_with fail
          have hbW := hb4.alloc hb4.size (.cells #[.slice A1 (rows x.name).length c1] 105)
          have hKW := (hKm2.move (hb4.block _ hKm2.lt)).alloc (.cells #[.slice A1 (rows x.name).length c1] 105)
          have hkc : ∀ b cs t fz, (w3.alloc (.cells #[.slice A1 (rows x.name).length c1] 105)).heap[b]? = some (.cells cs t fz) → ¬ b = amc := fun b cs t fz hb => hKW.not_cells hb
          have ham := h.fin am h.fam
          have hBW : Blk (w3.alloc (.cells #[.slice A1 (rows x.name).length c1] 105)) gc #[vc, .map (some rmc), .map (some amc)] 97 := (hbW.block _ hgw2).trans hBg2
          have z1 := hb2.size
          have z2 := hb4.size
          rw [HA.out w3.heap.size (.slice A1 (rows x.name).length c1)] at hm5
          have hit5 := (hit2.move (hbW.block _ hit2.lt) (hbW.block _ hit2.map.lt)).fr hf5 (by omega) (by omega)
          have hbE : Below w.heap.size w w5 := (hb2.trans (hbW.mono z1)).trans (hf5.to_below (by simp; omega) (by intro b hb; omega))
          go_roundw
          case rel =>
            refine ⟨_, _, hit5, half_step hH hp hleftn, hm5, ?_, ?_, hBW.fr hf5 (hkc _ _ _ _ hBW), R_turn (Kd.R_below hRr2 hbW) hf5 hkc, (hKq2.move (hbW.block _ hKq2.lt)).fr hf5 hne, hbE, by rw [hs5]; simp; omega⟩
            · intro x' hx'
              rcases List.mem_append.1 hx' with hx' | hx'
              · exact ((hacc2 x' hx').below hbW).turn hf5 hkc
              · simp only [List.mem_singleton] at hx'
                subst hx'
                refine ⟨by show w.heap.size ≤ w3.heap.size; omega, (Blk.new w3 _ 105).fr hf5 (hkc _ _ _ _ (Blk.new w3 _ 105)), R_turn (Kd.R_alloc (Kd.R_mono hRn (fun k hk => ?_)) _) hf5 hkc⟩
                have : w2.heap.size ≤ k := hk
                omega
            · rw [List.pairwise_append]
              refine ⟨hap, by simp, fun x' hx' y' hy' => ?_⟩
              simp only [List.mem_singleton] at hy'
              subst hy'
              have q1 := (hacc2 x' hx').2.1.lt
              refine ⟨by show x'.blk ≠ w3.heap.size; omega, ?_⟩
              cases ho : x'.rv.ownBlock with
              | none => exact .inl rfl
              | some k =>
                have q2 := Kd.R_lt (hacc2 x' hx').2.2 k ho
                refine .inr fun e => ?_
                have q3 : w2.heap.size ≤ k := hRn.1 k e.symm
                omega
          case measure =>
            rw [hit5.left_eq, hl.left_eq]
            exact left_filter_lt hp
end Go.Proofs.Ytpmopdgnnlhplaa
