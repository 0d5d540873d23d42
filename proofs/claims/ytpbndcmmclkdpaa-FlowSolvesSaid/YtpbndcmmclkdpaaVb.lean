/-
  The reference's Block walked (25).
-/
import Derived.Test.YtpbndcmmclkdpaaVa
namespace Go.Proofs.Ytpbndcmmclkdpaa
open PFlowSolves
open Go.RowKit Go.Proofs.YtpbndcmmclkdpaaW.PrintWords
theorem bneed_any (w : World) (n : Int) (A1 : Option Addr) (c1 : Nat) (l : List Ar) (h1 : Kd.C k44 w A1 l.length l) (hc1 : l.length ≤ c1) (A2 : Option Addr) (c2 : Nat) (xs : List Int) (h2 : Kd.C (Kd.int .i64) w A2 xs.length xs) (hc2 : xs.length ≤ c2) :
    Calls Try.prog 22 #[.int .i64 n, .slice A1 l.length c1, .slice A2 xs.length c2] w fun e w' => e = .returned (.int .i64 (needE n l xs)) ∧ Below w.heap.size w w' :=
  merinoref05_Needs.calls 300 n A1 c1 l A2 c2 xs _ w h1 hc1 h2 hc2 (rneed_f n l xs (Nat.le_refl _))
theorem info23 : (Try.prog.info? 23).map (fun i => (i.zero, i.size, i.bytes)) = some (some (.slice none 0 0), 1, 24) := by kernel_rfl
/-- Rows as what a slice of rows is made of. -/
def kdR (N : Nat) : Kd Nat := Kd.scalar (rowV N) (fun _ => rfl)
theorem R_TV {w : World} {base N : Nat} {ok : Nat → Prop} {v : Value} {rs : List Nat} (h : Kd.R (kdR N) 23 w base ok v rs) (hp : 0 < rs.length) : ∃ b c, v = .slice (some ⟨b, 0, none⟩) rs.length c ∧ base ≤ b ∧ TV w b 23 rs.length (fun i => rowV N (rs.getD i 0)) := by
  obtain ⟨b, c, e, h1, h2, cells, hc⟩ := Kd.R_form h hp
  subst e
  refine ⟨b, c, rfl, h1, cells, hc, fun i hi => ?_⟩
  have := (Kd.R_celln 0 h (i : Int) (by omega) (by omega)).1
  rw [Int.toNat_natCast] at this
  simpa [World.cell?, hc, rdOf] using this
theorem R_hd {w : World} {base N : Nat} {ok : Nat → Prop} {v : Value} {rs : List Nat} (h : Kd.R (kdR N) 23 w base ok v rs) {b : Nat} (e : v.ownBlock = some b) : ∃ cs, Blk w b cs 23 := by
  obtain ⟨_, inner, ho, _⟩ := h
  exact own_typed ho b e
theorem blk_ne {w : World} {a b : Nat} {cs ds : Array Value} {t u : TypeId} (h : Blk w a cs t) (k : Blk w b ds u) (hne : t ≠ u) : a ≠ b := fun e => by
  subst e
  have := h.symm.trans k
  simp at this
  exact hne this.2
/-- How many are not seen. -/
def cntU (N : Nat) (f : Nat → Bool) : Nat := ((List.range N).filter (fun i => !f i)).length
theorem cntU_le (N : Nat) (f : Nat → Bool) : cntU N f ≤ N := by
  have := List.length_filter_le (fun i => !f i) (List.range N)
  rw [List.length_range] at this; exact this
theorem cntU_set {N v : Nat} {f : Nat → Bool} (hv : v < N) (h0 : f v = false) : cntU N (fun j => if j = v then true else f j) + 1 ≤ cntU N f := by
  refine filter_lt (a := v) (fun a h => ?_) (List.mem_range.2 hv) (by simp) (by simp [h0])
  by_cases e : a = v
  · simp [e] at h
  · simpa [e] using h
/-- A sweep: what was seen before, what is seen now, whether something was new, and how far the sweep has come. -/
structure SwB (N s : Nat) (R : Mx) (f : Nat → Bool) (f' : Nat → Bool) (mv : Bool) (i k : Nat) : Prop where
  root : f' s = true
  least : ∀ T : Nat → Bool, T s = true → (∀ a b, a < N → b < N → T a = true → 0 < R a b → T b = true) → ∀ a, a < N → f' a = true → T a = true
  cnt : cntU N f' + (if mv then 1 else 0) ≤ cntU N f
  same : mv = false → f' = f ∧ ∀ a b, a < N → b < N → (a < i ∨ (a = i ∧ b < k)) → f a = true → 0 < R a b → f b = true
theorem SwB.skip {N s : Nat} {R : Mx} {f f' : Nat → Bool} {mv : Bool} {i k : Nat} (h : SwB N s R f f' mv i k) (hn : ¬ (f' i = true ∧ f' k = false ∧ 0 < R i k)) : SwB N s R f f' mv i (k + 1) :=
  ⟨h.root, h.least, h.cnt, fun e => by
    obtain ⟨e1, h1⟩ := h.same e
    refine ⟨e1, fun a b ha hb hab hfa hR => ?_⟩
    by_cases e2 : a = i ∧ b = k
    · obtain ⟨rfl, rfl⟩ := e2
      cases hk : f b with
      | true => rfl
      | false => exact absurd ⟨by rw [e1]; exact hfa, by rw [e1]; exact hk, hR⟩ hn
    · exact h1 a b ha hb (by omega) hfa hR⟩
theorem SwB.put {N s : Nat} {R : Mx} {f f' : Nat → Bool} {mv : Bool} {i k : Nat} (h : SwB N s R f f' mv i k) (hi : i < N) (hk : k < N) (h1 : f' i = true) (h2 : f' k = false) (h3 : 0 < R i k) : SwB N s R f (fun j => if j = k then true else f' j) true i (k + 1) :=
  ⟨by
    by_cases e : s = k
    · simp [e]
    · simp [e]; exact h.root, fun T hT hc a ha hfa => by
    by_cases e : a = k
    · subst e; exact hc i a hi hk (h.least T hT hc i hi h1) h3
    · simp [e] at hfa; exact h.least T hT hc a ha hfa, by
    have := cntU_set hk h2
    have := h.cnt
    simp only [if_true]
    split at this <;> omega, fun e => by simp at e⟩
theorem SwB.row {N s : Nat} {R : Mx} {f f' : Nat → Bool} {mv : Bool} {i : Nat} (h : SwB N s R f f' mv i N) : SwB N s R f f' mv (i + 1) 0 :=
  ⟨h.root, h.least, h.cnt, fun e => ⟨(h.same e).1, fun a b ha hb hab => (h.same e).2 a b ha hb (by omega)⟩⟩
theorem SwB.start {N s : Nat} {R : Mx} {f : Nat → Bool} (h0 : f s = true) (h1 : ∀ T : Nat → Bool, T s = true → (∀ a b, a < N → b < N → T a = true → 0 < R a b → T b = true) → ∀ a, a < N → f a = true → T a = true) : SwB N s R f f false 0 0 :=
  ⟨h0, h1, by simp, fun _ => ⟨rfl, fun a b _ _ hab => by omega⟩⟩
set_option maxRecDepth 100000 in
set_option maxHeartbeats 8000000 in
theorem rblock_any (w : World) (n : Int) (A1 : Option Addr) (c1 : Nat) (l : List Ar) (h1 : Kd.C k44 w A1 l.length l) (hc1 : l.length ≤ c1) (A2 : Option Addr) (c2 : Nat) (xs : List Int) (h2 : Kd.C (Kd.int .i64) w A2 xs.length xs) (hc2 : xs.length ≤ c2) :
    Calls Try.prog 25 #[.int .i64 n, .slice A1 l.length c1, .slice A2 xs.length c2] w (BlockPost n l xs w) := by
  have HND := Lib.hid (bneed_any w n A1 c1 l h1 hc1 A2 c2 xs h2 hc2)
  have H1 := Lib.hid h1
  have H2 := Lib.hid h2
  clear h1 h2
  go_enter Try.func25, Try.ntmps25
  go_wp2_with fail
  refine HND.out.mono ?_
  rintro e w1 ⟨rfl, hb1⟩
  have HB1 := Lib.hid hb1
  clear HND hb1
  by_cases h0 : needE n l xs = 0
  · have HE0 := Lib.hid h0
    obtain ⟨g1, g2, g3, g4⟩ := needE_ok h0
    obtain ⟨k1, k2, k3, _⟩ := netE_range g1
    have HOK := Lib.hid (netE_ok g1)
    obtain ⟨K, rfl⟩ : ∃ K : Nat, n = K := ⟨n.toNat, by omega⟩
    rw [Int.toNat_natCast] at HOK
    have HK : Hid (1 ≤ K ∧ K ≤ 32 ∧ xs.length = K ∧ l.length ≤ 128) := Lib.hid ⟨by omega, by omega, by omega, k3⟩
    have HXB := Lib.hid g3
    have HB10 := Lib.hid (Below.refl w1.heap.size w1)
    have hw2 : IntKind.i64.wrap ((K : Int) + 2) = (K : Int) + 2 := IntWalk.i64_in _ (by omega)
    have hw1 : IntKind.i64.wrap ((K : Int) + 1) = (K : Int) + 1 := IntWalk.i64_in _ (by omega)
    have hmk := fun W => make_int W (n := K + 2) (by omega)
    have ek : ((K + 2 : Nat) : Int) = (K : Int) + 2 := by omega
    simp only [ek] at hmk
    rw [h0]
    clear h0 g1 g2 g3 g4 k1 k2 k3
    go_wp2_with fail
    go_loopg [9, 10] (K + 2) (fun kk v9 v10 wr => ∃ (i : Nat) (rs : List Nat), v10 = .int .i64 i ∧ Hid (Kd.R (kdR (K + 2)) 23 wr w1.heap.size (fun _ => True) v9 rs) ∧ Hid (rs.length = i ∧ i + kk = K + 2) ∧ Hid (∀ x ∈ rs, w1.heap.size ≤ x ∧ TI wr x (K + 2) (fun _ => 0)) ∧ Hid rs.Nodup ∧ Hid (Below w1.heap.size w1 wr))
    case atStart => exact ⟨0, [], rfl, Lib.hid (Kd.R_nil _ _ _ _ _), Lib.hid ⟨rfl, by omega⟩, Lib.hid (fun x hx => absurd hx (List.not_mem_nil)), Lib.hid List.nodup_nil, HB10⟩
    case round =>
      obtain ⟨i, rs, rfl, HR, HI, HRW, HNO, HB⟩ := hrel
      obtain ⟨wv, rfl⟩ : ∃ wv : World, wv = wr := ⟨_, rfl⟩
      by_cases hlt : i < K + 2
      · have hi0 : (i : Int) < (K : Int) + 2 := by omega
        have hw : IntKind.i64.wrap ((i : Int) + 1) = i + 1 := IntWalk.i64_in _ (by have := HK.out; omega)
        have hmk1 := hmk wv
        have hal := below_alloc (Below.refl wv.heap.size wv) (.cells (madeCells #[.int .i64 0] (K + 2)) 3 (0, 0))
        have HTN : Hid (TI (wv.alloc (.cells (madeCells #[.int .i64 0] (K + 2)) 3 (0, 0))) wv.heap.size (K + 2) (fun _ => 0)) := Lib.hid (TV.made wv (.int .i64 0) 3 (K + 2))
        have HRW2 := Lib.hid (fun x hx => And.intro (HRW.out x hx).1 (TV.below (HRW.out x hx).2 hal))
        have HR2 := Lib.hid (Kd.R_below HR.out hal)
        have HB2 := Lib.hid (below_t HB.out hal)
        have hpz : wv.heap.size < (wv.alloc (.cells (madeCells #[.int .i64 0] (K + 2)) 3 (0, 0))).heap.size := by simp
        have HPZ : Hid ((wv.alloc (.cells (madeCells #[.int .i64 0] (K + 2)) 3 (0, 0))).heap.size = wv.heap.size + 1) := Lib.hid (by simp)
        have HBZ : Hid (w1.heap.size ≤ wv.heap.size) := Lib.hid HB.out.size
        have HNP : Hid (∀ x ∈ rs, x < wv.heap.size) := Lib.hid (fun x hx => TV.lt (HRW.out x hx).2)
        have HLT := Lib.hid hlt
        clear hlt hal hpz
        go_wp2_with (at_builtin; refine Kd.R_append (kdR (K + 2)) (w0 := w1) w1.heap.size rfl _ _ 68 23 (.slice none 0 0) 24 rfl Try.underlying68 info23 rfl (Nat.lt_succ_self 0) (by decide) u9 rs wv.heap.size [rowV (K + 2) wv.heap.size] (fun _ => True) (fun _ => False) rfl (by rw [HPZ.out]; rfl) rfl (fun _ hk => hk.elim) (fun _ _ => trivial) HR2.out HB2.out HB2.out.size (by have := HI.out; have := HK.out; omega) ?_; intro v7 w7 hR7 hb7 hg7 hat7)
        have hF7 : Fr (fun k => u9.ownBlock = some k) (wv.alloc (.cells (madeCells #[.int .i64 0] (K + 2)) 3 (0, 0))) w7 := (Fr.refl _ _).grown hg7 (fun k hk => .inl hk)
        have hkeep : ∀ x, TI (wv.alloc (.cells (madeCells #[.int .i64 0] (K + 2)) 3 (0, 0))) x (K + 2) (fun _ => 0) → TI w7 x (K + 2) (fun _ => 0) := fun x hx => hx.fr hF7 (fun e => by
          obtain ⟨cs, hcs⟩ := R_hd HR2.out e
          obtain ⟨ds, hds, _⟩ := hx
          exact blk_ne hcs hds (by decide) rfl)
        have HRW7 : Hid (∀ x ∈ rs ++ [wv.heap.size], w1.heap.size ≤ x ∧ TI w7 x (K + 2) (fun _ => 0)) := Lib.hid (fun x hx => by
          rcases List.mem_append.1 hx with hx | hx
          · exact ⟨(HRW2.out x hx).1, hkeep x (HRW2.out x hx).2⟩
          · rw [List.mem_singleton] at hx; subst hx; exact ⟨HBZ.out, hkeep _ HTN.out⟩)
        have HNO7 : Hid (rs ++ [wv.heap.size]).Nodup := Lib.hid (by
          rw [List.nodup_append]
          exact ⟨HNO.out, by simp, fun a ha c hc => by simp at hc; subst hc; have := HNP.out a ha; omega⟩)
        have HR7 := Lib.hid hR7
        have HB7 := Lib.hid hb7
        clear hR7 hb7 hg7 hat7 hF7 hkeep HRW2 HR2 HB2 hmk1
        go_wp2_with fail
        go_roundg (K + 2 - (i + 1))
        case measure => have := HI.out; have := HLT.out; omega
        case rel => exact ⟨i + 1, rs ++ [wv.heap.size], by go_num, HR7, Lib.hid (by rw [List.length_append, HI.out.1]; have := HI.out; have := HLT.out; exact ⟨rfl, by omega⟩), HRW7, HNO7, HB7⟩
      · have hnl : ¬ (i : Int) < (K : Int) + 2 := by omega
        obtain ⟨mb, mc, rfl, hmb, hTV⟩ := R_TV HR.out (by rw [HI.out.1]; omega)
        have hlen : rs.length = K + 2 := by have := HI.out; omega
        rw [hlen] at hTV ⊢
        have hmem : ∀ j, j < K + 2 → rs.getD j 0 ∈ rs := fun j hj => by rw [List.getD_eq_getElem?_getD, List.getElem?_eq_getElem (by omega)]; exact List.getElem_mem _
        have hM : MM wv mb (K + 2) (fun j => rs.getD j 0) (fun _ _ => 0) := by
          refine ⟨hTV, fun j hj => (HRW.out _ (hmem j hj)).2, fun a b ha hb e => ?_, fun j hj e => ?_⟩
          · rw [List.getD_eq_getElem?_getD, List.getD_eq_getElem?_getD, List.getElem?_eq_getElem (by omega), List.getElem?_eq_getElem (by omega)] at e
            exact (List.getElem_inj HNO.out).1 e
          · obtain ⟨ds, hds, _⟩ := (HRW.out _ (hmem j hj)).2
            obtain ⟨cs, hcs, _⟩ := hTV
            exact blk_ne hds hcs (by decide) e
        obtain ⟨r, hM, hRB⟩ : ∃ r, MM wv mb (K + 2) r (fun _ _ => 0) ∧ ∀ j, j < K + 2 → w1.heap.size ≤ r j := ⟨_, hM, fun j hj => (HRW.out _ (hmem j hj)).1⟩
        have HM := Lib.hid hM
        have HRB : Hid (∀ b, RowsF (K + 2) r b → w1.heap.size ≤ b) := Lib.hid (fun b ⟨j, hj, e⟩ => e ▸ hRB j hj)
        clear hM hRB hmem hlen hTV HR HI HRW HNO hlt hmb HB10 hmk
        go_wp2_with fail
        go_loopg [11] l.length (fun kk v11 wr => ∃ (i : Nat) (Cm : Mx), v11 = .int .i64 i ∧ Hid (i + kk = l.length) ∧ Hid (MM wr mb (K + 2) r Cm) ∧ Hid (Lay1 K i (arcF l) Cm) ∧ Hid (Below w1.heap.size w1 wr))
        case atStart => exact ⟨0, _, rfl, Lib.hid (by omega), HM, Lib.hid (Lay1.zero K _), HB⟩
        case round =>
          clear HM HB hnl
          obtain ⟨i, Cm, rfl, HI, HM, HL1, HB⟩ := hrel
          obtain ⟨wv, rfl⟩ : ∃ wv : World, wv = wr := ⟨_, rfl⟩
          by_cases hlt : i < l.length
          · have hi0 : (i : Int) < l.length := by omega
            have hiz : (0 : Int) ≤ i := by omega
            obtain ⟨e1, e2, e3, e4, e5⟩ := HOK.out.net i hlt
            obtain ⟨e6, e7⟩ := HOK.out.cap i hlt
            obtain ⟨ad, rfl, k0, k1, k2, k3⟩ := arcs_of (Kd.C_below H1.out (below_t HB1.out HB.out)) (i : Int) (by omega) hi0
            rw [Int.toNat_natCast] at k0 k1 k2 k3
            obtain ⟨f, hf⟩ : ∃ f : Nat, (arcF l i).f0 = f := ⟨(arcF l i).f0.toNat, by omega⟩
            obtain ⟨t, ht⟩ : ∃ t : Nat, (arcF l i).f1 = t := ⟨(arcF l i).f1.toNat, by omega⟩
            have HADD := Lib.hid (HL1.out.add ⟨e1, e2, e3, e4⟩ ⟨e6, e7⟩)
            have hfN : f < K + 2 := by omega
            have htN : t < K + 2 := by omega
            rw [hf, ht, Int.toNat_natCast, Int.toNat_natCast] at HADD
            rw [hf] at k0
            rw [ht] at k1
            have hf0 : (0 : Int) ≤ f := by omega
            have hf1 : (f : Int) < (K : Int) + 2 := by omega
            have ht0 : (0 : Int) ≤ t := by omega
            have ht1 : (t : Int) < (K : Int) + 2 := by omega
            have hbd := HL1.out.nn f t
            have hm := HK.out
            generalize hcap : (arcF l i).f2 = cap at *
            have hw : IntKind.i64.wrap ((i : Int) + 1) = i + 1 := IntWalk.i64_in _ (by omega)
            have hw3 : IntKind.i64.wrap (Cm f t + cap) = Cm f t + cap := IntWalk.i64_in _ (by omega)
            have x1 := HM.out.hcell hfN
            have x2 := HM.out.cell hfN htN
            have x3 := HM.out.free hfN t
            have HM6 := Lib.hid (HM.out.set hfN t (Cm f t + cap)).drew
            have HB6 : Hid (Below w1.heap.size w1 ((wv.setCell ⟨r f, t, none⟩ (.int .i64 (Cm f t + cap))).drew)) := Lib.hid ((((Fr.of_below HB.out (RowsF (K + 2) r)).setCell (p := ⟨r f, t, none⟩) (.inl ⟨f, hfN, rfl⟩) _).drew).to_below (Nat.le_refl _) HRB.out)
            have HLT := Lib.hid hlt
            clear e1 e2 e3 e4 e5 e6 e7 hf ht hcap hbd hm hlt hfN htN HM HB k3
            go_upto_region 12 with (fail)
            refine calm ?_
            go_region_law (first | fail)
            all_goals
              simp only [Calm]
              generalize (wv.setCell ⟨r f, t, none⟩ (.int .i64 (Cm f t + cap))).drew = w6 at *
              clear x1 x2 x3 k0 k1 k2
              go_wp2_with fail
              go_roundg (l.length - (i + 1))
              case measure => have := HI.out; have := HLT.out; omega
              case rel => exact ⟨i + 1, _, by go_num, Lib.hid (by have := HI.out; have := HLT.out; omega), HM6, HADD, HB6⟩
          · have hnl : ¬ (i : Int) < l.length := by omega
            obtain rfl : i = l.length := by have := HI.out; omega
            have HL2 := Lib.hid (HL1.out.next (need := fun v => xs.getD v 0) (by have := HK.out; omega))
            clear hlt HI HL1
            go_wp2_with fail
            go_loopg [12] K (fun kk v12 wr => ∃ (i : Nat) (Cm : Mx), v12 = .int .i64 i ∧ Hid (i + kk = K) ∧ Hid (MM wr mb (K + 2) r Cm) ∧ Hid (Lay2 K l.length i (arcF l) (fun v => xs.getD v 0) Cm) ∧ Hid (Below w1.heap.size w1 wr))
            case atStart => exact ⟨0, _, rfl, Lib.hid (by omega), HM, HL2, HB⟩
            case round =>
              clear HM HB hnl HL2
              obtain ⟨i, Cm, rfl, HI, HM, HL2, HB⟩ := hrel
              obtain ⟨wv, rfl⟩ : ∃ wv : World, wv = wr := ⟨_, rfl⟩
              by_cases hlt : i < K
              · have hi0 : (i : Int) < K := by omega
                have hix : (i : Int) < xs.length := by have := HK.out; omega
                have hiz : (0 : Int) ≤ i := by omega
                have hi2 : (i : Int) < (K : Int) + 2 := by omega
                have hkz : (0 : Int) ≤ K := by omega
                have hk2 : (K : Int) < (K : Int) + 2 := by omega
                have hk1z : (0 : Int) ≤ (K : Int) + 1 := by omega
                have hk12 : (K : Int) + 1 < (K : Int) + 2 := by omega
                obtain ⟨bd, rfl, q⟩ := Kd.at_int (Kd.C_below H2.out (below_t HB1.out HB.out)) (i : Int) (by omega) hix
                have ex : rd xs (i : Int) = xs.getD i 0 := by unfold rd; rw [Int.toNat_natCast]
                rw [ex, Int.toNat_natCast] at q
                have HADD := Lib.hid (HL2.out.add hlt (HXB.out i (by have := HK.out; omega)))
                have hxb := HXB.out i (by have := HK.out; omega)
                have x1 := HM.out.hcell (i := K) (by omega)
                have x2 := HM.out.free (i := K) (by omega) i
                have x3 := HM.out.cell (i := K) (j := i) (by omega) (by omega)
                have HLT := Lib.hid hlt
                clear hlt ex
                generalize hxx : xs.getD i 0 = x at *
                have HXX := Lib.hid hxx
                clear hxx
                have hwn : IntKind.i64.wrap (-x) = -x := IntWalk.i64_in _ (by omega)
                have hw : IntKind.i64.wrap ((i : Int) + 1) = i + 1 := IntWalk.i64_in _ (by have := HK.out; omega)
                have HM5 := Lib.hid (HM.out.set (u := K) (by omega) i (if 0 < x then x else 0)).drew
                have HB5 : Hid (Below w1.heap.size w1 ((wv.setCell ⟨r K, i, none⟩ (.int .i64 (if 0 < x then x else 0))).drew)) := Lib.hid ((((Fr.of_below HB.out (RowsF (K + 2) r)).setCell (p := ⟨r K, i, none⟩) (.inl ⟨K, by omega, rfl⟩) _).drew).to_below (Nat.le_refl _) HRB.out)
                have HXV : Hid (-140737488355328 ≤ x ∧ x ≤ 140737488355328) := Lib.hid hxb
                clear HM HB hxb
                go_upto_region 16 with (fail)
                go_cut [] (fun wx => wx = (wv.setCell ⟨r K, i, none⟩ (.int .i64 (if 0 < x then x else 0))).drew)
                case first =>
                  refine calm ?_
                  go_region_law (first | fail)
                  all_goals
                    simp only [Calm]
                    go_wp2_with fail
                    all_goals
                      go_meet
                      first | rfl | (congr 3; split <;> omega)
                case rest =>
                  have hwc := hcut
                  generalize (wv.setCell ⟨r K, i, none⟩ (.int .i64 (if 0 < x then x else 0))).drew = w5 at *
                  subst hwc
                  obtain ⟨bd2, e3', q⟩ := Kd.at_int (Kd.C_below H2.out (below_t HB1.out HB5.out)) (i : Int) (by omega) hix
                  obtain rfl := Option.some.inj e3'
                  have ex : rd xs (i : Int) = x := by unfold rd; rw [Int.toNat_natCast]; exact HXX.out
                  rw [ex, Int.toNat_natCast] at q
                  clear x1 x2 x3 ex e3'
                  have x1 := HM5.out.hcell (i := i) (by have := HLT.out; omega)
                  have x2 := HM5.out.free (i := i) (by have := HLT.out; omega) (K + 1)
                  have x3 := HM5.out.cell (i := i) (j := K + 1) (by have := HLT.out; omega) (by omega)
                  have ek1 : ((K : Int) + 1).toNat = K + 1 := by omega
                  have HX6 : Hid (∀ v, v = (if 0 < -x then -x else 0) → MM ((wc.setCell ⟨r i, K + 1, none⟩ (.int .i64 v)).drew) mb (K + 2) r (putM (putM Cm K i (max 0 x)) i (K + 1) (max 0 (-x))) ∧ Below w1.heap.size w1 ((wc.setCell ⟨r i, K + 1, none⟩ (.int .i64 v)).drew)) := Lib.hid (fun v hv => by
                    have hv2 : v = max 0 (-x) := by rw [hv]; split <;> omega
                    subst hv2
                    refine ⟨?_, (((Fr.of_below HB5.out (RowsF (K + 2) r)).setCell (p := ⟨r i, K + 1, none⟩) (.inl ⟨i, by have := HLT.out; omega, rfl⟩) _).drew).to_below (Nat.le_refl _) HRB.out⟩
                    have := (HM5.out.set (u := i) (by have := HLT.out; omega) (K + 1) (max 0 (-x))).drew
                    rw [show (if 0 < x then x else 0) = max 0 x by split <;> omega] at this
                    exact this)
                  clear HM5 HB5
                  go_upto_region 17 with (fail)
                  refine calm ?_
                  go_region_law (first | fail)
                  all_goals
                    simp only [Calm]
                    clear x1 x2 x3 q
                    go_wp2_with fail
                    all_goals
                      go_roundg (K - (i + 1))
                      case measure => have := HI.out; have := HLT.out; omega
                      case rel => exact ⟨i + 1, _, by go_num, Lib.hid (by have := HI.out; have := HLT.out; omega), Lib.hid (HX6.out _ (by split <;> omega)).1, HADD, Lib.hid (HX6.out _ (by split <;> omega)).2⟩
              · have hnl : ¬ (i : Int) < K := by omega
                obtain rfl : i = K := by have := HI.out; omega
                have hkz : (0 : Int) ≤ i := by omega
                have HMO := Lib.hid HL2.out.done
                have HCB : Hid (∀ a b, 0 ≤ Cm a b ∧ Cm a b ≤ 1125899906842624) := Lib.hid HL2.out.nn
                have HMF : Hid (MF (i + 2) i (i + 1) Cm Cm) := Lib.hid (MF.start fun a b _ _ => (HL2.out.nn a b).1)
                have HLE0 : Hid ((leftM (i + 2) i Cm).toNat ≤ (leftM (i + 2) i Cm).toNat) := Lib.hid (Nat.le_refl _)
                clear hlt HI HL2
                go_wp2_with fail
                go_loopg [] ((leftM (i + 2) i Cm).toNat) (fun kk wr => ∃ R' : Mx, Hid ((leftM (i + 2) i R').toNat ≤ kk) ∧ Hid (MM wr mb (i + 2) r R') ∧ Hid (MF (i + 2) i (i + 1) Cm R') ∧ Hid (Below w1.heap.size w1 wr))
                case atStart => exact ⟨Cm, HLE0, HM, HMF, HB⟩
                case round =>
                  clear HLE0 HM HMF HB
                  obtain ⟨R', HLE, HM, HMF, HB⟩ := hrel
                  obtain ⟨wv, rfl⟩ : ∃ wv : World, wv = wr := ⟨_, rfl⟩
                  have hc := mpush_any wv mc HM.out HMF.out (by omega) (by omega) (by omega) (by have := HK.out; omega) HCB.out
                  rw [show ((i + 1 : Nat) : Int) = (i : Int) + 1 by omega] at hc
                  have HC := Lib.hid hc
                  clear hc
                  go_wp2_with fail
                  refine HC.out.mono ?_
                  rintro e w7 ⟨⟨m, R7, rfl, hM7, hF7, hor⟩, hfr⟩
                  have HM7 := Lib.hid hM7
                  have HF7 := Lib.hid hF7
                  have HB7 : Hid (Below w1.heap.size w1 w7) := Lib.hid (((Fr.of_below HB.out (RowsF (i + 2) r)).trans hfr (fun x h => .inl h)).to_below (Nat.le_refl _) HRB.out)
                  clear hM7 hF7 hfr HC
                  rcases hor with ⟨rfl, rfl, hZ⟩ | ⟨hm, hlm⟩
                  · have HZ := Lib.hid hZ
                    clear hZ HLE
                    have hmb := make_bool w7 (n := i + 2) (by have := HK.out; omega)
                    rw [show ((i + 2 : Nat) : Int) = (i : Int) + 2 by omega] at hmb
                    have hTB : TB (w7.alloc (.cells (madeCells #[.bool false] (i + 2)) 4 (0, 0))) w7.heap.size (i + 2) (fun _ => false) := TV.made w7 (.bool false) 4 (i + 2)
                    have hal := below_alloc (Below.refl w7.heap.size w7) (.cells (madeCells #[.bool false] (i + 2)) 4 (0, 0))
                    have hfz := TV.free hTB i
                    have hcl := TV.cell hTB (i := i) (by omega)
                    have HTB8 := Lib.hid hTB
                    have HAL8 := Lib.hid hal
                    clear hTB hal
                    go_upto_region 20 with (fail)
                    generalize w7.alloc (.cells (madeCells #[.bool false] (i + 2)) 4 (0, 0)) = w8 at *
                    obtain ⟨sb, hsb⟩ : ∃ sb, sb = w7.heap.size := ⟨_, rfl⟩
                    have HSB := Lib.hid hsb
                    rw [← hsb] at hfz hcl HTB8 ⊢
                    clear hsb hmb
                    have HTB9 := Lib.hid (TB.set HTB8.out i true)
                    have HF9 : Hid (Fr (fun b => b = sb) w7 (w8.setCell ⟨sb, i, none⟩ (.bool true))) := Lib.hid ((Fr.of_below HAL8.out (fun b => b = sb)).setCell (p := ⟨sb, i, none⟩) (.inl rfl) _)
                    go_wp2_with fail
                    generalize w8.setCell ⟨sb, i, none⟩ (.bool true) = w9 at *
                    have HMM : Hid (∀ W, Fr (fun b => b = sb) w7 W → MM W mb (i + 2) r R7) := Lib.hid (fun W hW => HM7.out.fr hW (fun e => by have := TV.lt HM7.out.hd; have := HSB.out; omega) (fun j hj e => by have := HM7.out.lt hj; have := HSB.out; omega))
                    have HLS : Hid (∀ T : Nat → Bool, T i = true → (∀ a b, a < i + 2 → b < i + 2 → T a = true → 0 < R7 a b → T b = true) → ∀ a, a < i + 2 → (fun j => if j = i then true else false) a = true → T a = true) := Lib.hid (fun T hT _ a _ ha => by
                      by_cases e : a = i
                      · rw [e]; exact hT
                      · simp [e] at ha)
                    have hi2 : (0 : Int) ≤ (i : Int) := by omega
                    clear hfz hcl HTB8 HAL8 hnl
                    go_loopg [14, 15, 16] (i + 5) (fun kk v14 v15 v16 wr => ∃ (f : Nat → Bool) (mv : Bool), v14 = .bool mv ∧ Hid (TB wr sb (i + 2) f) ∧ Hid (f i = true) ∧ Hid (∀ T : Nat → Bool, T i = true → (∀ a b, a < i + 2 → b < i + 2 → T a = true → 0 < R7 a b → T b = true) → ∀ a, a < i + 2 → f a = true → T a = true) ∧
                      Hid (mv = false → ∀ a b, a < i + 2 → b < i + 2 → f a = true → 0 < R7 a b → f b = true) ∧ Hid (cntU (i + 2) f + (if mv then 1 else 0) + 1 ≤ kk) ∧ Hid (Fr (fun b => b = sb) w7 wr))
                    case atStart => exact ⟨_, true, rfl, HTB9, Lib.hid (by simp), HLS, Lib.hid (fun e => by simp at e), Lib.hid (by have := cntU_le (i + 2) (fun j => if j = i then true else false); rw [if_pos rfl]; omega), HF9⟩
                    case round =>
                      clear HTB9 HLS HF9
                      obtain ⟨f, mv, rfl, HTB, HRT, HLS, HCL, HCN, HFR⟩ := hrel
                      obtain ⟨wv, rfl⟩ : ∃ wv : World, wv = wr := ⟨_, rfl⟩
                      cases mv with
                      | true =>
                        clear HCL
                        have HSW0 := Lib.hid (SwB.start HRT.out HLS.out)
                        go_wp2_with fail
                        go_loopg [14, 15, 16] (i + 2) (fun kk v14 v15 v16 wr => ∃ (a : Nat) (f' : Nat → Bool) (mv : Bool), v15 = .int .i64 a ∧ v14 = .bool mv ∧ Hid (a + kk = i + 2) ∧ Hid (TB wr sb (i + 2) f') ∧ Hid (SwB (i + 2) i R7 f f' mv a 0) ∧ Hid (Fr (fun b => b = sb) w7 wr))
                        case atStart => exact ⟨0, f, false, rfl, rfl, Lib.hid (by omega), HTB, HSW0, HFR⟩
                        case round =>
                          clear HTB HSW0 HFR
                          obtain ⟨a, f', mv, rfl, rfl, HA, HTB, HSW, HFR⟩ := hrel
                          obtain ⟨wv, rfl⟩ : ∃ wv : World, wv = wr := ⟨_, rfl⟩
                          by_cases hlt : a < i + 2
                          · have ha0 : (a : Int) < (i : Int) + 2 := by omega
                            have haz : (0 : Int) ≤ a := by omega
                            have HLT := Lib.hid hlt
                            clear hlt
                            go_wp2_with fail
                            go_loopg [14, 16] (i + 2) (fun kk v14 v16 wr => ∃ (b : Nat) (f' : Nat → Bool) (mv : Bool), v16 = .int .i64 b ∧ v14 = .bool mv ∧ Hid (b + kk = i + 2) ∧ Hid (TB wr sb (i + 2) f') ∧ Hid (SwB (i + 2) i R7 f f' mv a b) ∧ Hid (Fr (fun b => b = sb) w7 wr))
                            case atStart => exact ⟨0, f', mv, rfl, rfl, Lib.hid (by omega), HTB, HSW, HFR⟩
                            case round =>
                              clear HTB HSW HFR
                              obtain ⟨b, f', mv, rfl, rfl, HBK, HTB, HSW, HFR⟩ := hrel
                              obtain ⟨wv, rfl⟩ : ∃ wv : World, wv = wr := ⟨_, rfl⟩
                              by_cases hlb : b < i + 2
                              · have hb0 : (b : Int) < (i : Int) + 2 := by omega
                                have hbz : (0 : Int) ≤ b := by omega
                                have hw : IntKind.i64.wrap ((b : Int) + 1) = b + 1 := IntWalk.i64_in _ (by have := HK.out; omega)
                                have x0 : wv.cell? ⟨sb, a, none⟩ = some (.bool (f' a)) := TV.cell HTB.out HLT.out
                                have x1 : wv.cell? ⟨sb, b, none⟩ = some (.bool (f' b)) := TV.cell HTB.out hlb
                                have x2 := TV.free HTB.out b
                                have hMM := HMM.out wv HFR.out
                                have x3 := hMM.hcell HLT.out
                                have x4 := hMM.cell HLT.out hlb
                                have HLB := Lib.hid hlb
                                clear hMM hlb
                                cases hfa : f' a with
                                | false =>
                                  have HSW2 := Lib.hid (HSW.out.skip (k := b) (fun h => by rw [hfa] at h; simp at h))
                                  rw [hfa] at x0
                                  clear hfa
                                  go_wp2_with fail
                                  go_roundg (i + 2 - (b + 1))
                                  case measure => have := HBK.out; have := HLB.out; omega
                                  case rel => exact ⟨b + 1, f', mv, by go_num, rfl, Lib.hid (by have := HBK.out; have := HLB.out; omega), HTB, HSW2, HFR⟩
                                | true =>
                                  have HFA := Lib.hid hfa
                                  rw [hfa] at x0
                                  clear hfa
                                  cases hfb : f' b with
                                  | true =>
                                    have HSW2 := Lib.hid (HSW.out.skip (k := b) (fun h => by rw [hfb] at h; simp at h))
                                    rw [hfb] at x1
                                    clear hfb
                                    go_wp2_with fail
                                    go_roundg (i + 2 - (b + 1))
                                    case measure => have := HBK.out; have := HLB.out; omega
                                    case rel => exact ⟨b + 1, f', mv, by go_num, rfl, Lib.hid (by have := HBK.out; have := HLB.out; omega), HTB, HSW2, HFR⟩
                                  | false =>
                                    have HFB := Lib.hid hfb
                                    rw [hfb] at x1
                                    clear hfb
                                    by_cases hR : 0 < R7 a b
                                    · have e9 : decide (0 < R7 a b) = true := decide_eq_true hR
                                      have HSW2 := Lib.hid (HSW.out.put HLT.out HLB.out HFA.out HFB.out hR)
                                      have HTB2 := Lib.hid (TB.set HTB.out b true)
                                      have HFR2 : Hid (Fr (fun b => b = sb) w7 (wv.setCell ⟨sb, b, none⟩ (.bool true))) := Lib.hid (HFR.out.setCell (p := ⟨sb, b, none⟩) (.inl rfl) _)
                                      clear hR
                                      go_wp2_with fail
                                      go_roundg (i + 2 - (b + 1))
                                      case measure => have := HBK.out; have := HLB.out; omega
                                      case rel => exact ⟨b + 1, _, true, by go_num, rfl, Lib.hid (by have := HBK.out; have := HLB.out; omega), HTB2, HSW2, HFR2⟩
                                    · have e9 : decide (0 < R7 a b) = false := decide_eq_false hR
                                      have HSW2 := Lib.hid (HSW.out.skip (k := b) (fun h => hR h.2.2))
                                      clear hR
                                      go_wp2_with fail
                                      go_roundg (i + 2 - (b + 1))
                                      case measure => have := HBK.out; have := HLB.out; omega
                                      case rel => exact ⟨b + 1, f', mv, by go_num, rfl, Lib.hid (by have := HBK.out; have := HLB.out; omega), HTB, HSW2, HFR⟩
                              · have hnb : ¬ (b : Int) < (i : Int) + 2 := by omega
                                obtain rfl : b = i + 2 := by have := HBK.out; omega
                                have hw : IntKind.i64.wrap ((a : Int) + 1) = a + 1 := IntWalk.i64_in _ (by have := HK.out; omega)
                                have HSW2 := Lib.hid HSW.out.row
                                clear hlb
                                go_wp2_with fail
                                go_roundg (i + 2 - (a + 1))
                                case measure => have := HA.out; have := HLT.out; omega
                                case rel => exact ⟨a + 1, f', mv, by go_num, rfl, Lib.hid (by have := HA.out; have := HLT.out; omega), HTB, HSW2, HFR⟩
                          · have hna : ¬ (a : Int) < (i : Int) + 2 := by omega
                            obtain rfl : a = i + 2 := by have := HA.out; omega
                            clear hlt
                            go_wp2_with fail
                            go_roundg (cntU (i + 2) f' + (if mv then 1 else 0) + 1)
                            case measure => have h1 := HCN.out; have h2 := HSW.out.cnt; rw [if_pos trivial] at h1; omega
                            case rel => exact ⟨f', mv, rfl, HTB, Lib.hid HSW.out.root, Lib.hid HSW.out.least, Lib.hid (fun e a b ha hb => by obtain ⟨e1, h1⟩ := HSW.out.same e; rw [e1]; exact h1 a b ha hb (.inl ha)), Lib.hid (Nat.le_refl _), HFR⟩
                      | false =>
                        have HCLS := Lib.hid (HCL.out rfl)
                        have HBLK : Hid (IsBlock i l.length (arcF l) (fun v => xs.getD v 0) (fun v => f v.toNat)) := Lib.hid (by
                          obtain ⟨Z, z1, z2, z3⟩ := HZ.out
                          refine block_of HMO.out HF7.out HRT.out ?_ HCLS.out HLS.out
                          cases hf : f (i + 1) with
                          | false => rfl
                          | true => have := HLS.out Z z1 z3 (i + 1) (by omega) hf; rw [z2] at this; exact absurd this (by simp))
                        clear HCL HCN HLS HZ
                        go_wp2_with fail
                        have HBV := Lib.hid (below_t HB7.out (HFR.out.to_below (Nat.le_refl _) (fun x h => by have := HSB.out; omega)))
                        go_loopg [17, 18] i (fun kk v17 v18 wr => ∃ t : Nat, v18 = .int .i64 t ∧ Hid (t + kk = i) ∧ Hid (Kd.R (Kd.int .i64) 3 wr wv.heap.size (fun b => wv.heap.size ≤ b) v17 (setL (fun v => f v.toNat) t)) ∧ Hid (Below wv.heap.size wv wr))
                        case atStart => exact ⟨0, rfl, Lib.hid (by omega), Lib.hid (Kd.R_nil _ _ _ _ _), Lib.hid (Below.refl _ _)⟩
                        case round =>
                          obtain ⟨t, rfl, HTK, HR, HBT⟩ := hrel
                          obtain ⟨wy, rfl⟩ : ∃ wy : World, wy = wr := ⟨_, rfl⟩
                          by_cases hlt : t < i
                          · have ht0 : (t : Int) < i := by omega
                            have htz : (0 : Int) ≤ t := by omega
                            have ht2 : (t : Int) < (i : Int) + 2 := by omega
                            have hw : IntKind.i64.wrap ((t : Int) + 1) = t + 1 := IntWalk.i64_in _ (by have := HK.out; omega)
                            have x0 : wy.cell? ⟨sb, t, none⟩ = some (.bool (f t)) := TV.cell (TV.below HTB.out HBT.out) (by omega)
                            have HLT := Lib.hid hlt
                            have HNX := Lib.hid (setL_next (fun v => f v.toNat) t)
                            have HLEN : Hid ((setL (fun v => f v.toNat) t).length ≤ 32) := Lib.hid (by have := setL_len (fun v => f v.toNat) t; have := HK.out; omega)
                            clear hlt
                            cases hc : f t with
                            | true =>
                              have HN2 : Hid (setL (fun v => f v.toNat) (t + 1) = setL (fun v => f v.toNat) t ++ [(t : Int)]) := Lib.hid (by rw [HNX.out, Int.toNat_natCast, hc]; rfl)
                              rw [hc] at x0
                              clear hc
                              go_wp2_with (at_builtin; refine Kd.R_append (Kd.int .i64) (w0 := wv) wv.heap.size rfl _ _ 23 3 (.int .i64 0) 8 rfl Try.underlying23 info3 rfl (by decide) (by decide) u17 (setL (fun v => f v.toNat) t) (t : Int) [.int .i64 t] (fun b => wv.heap.size ≤ b) (fun _ => False) rfl rfl rfl (fun _ hk => hk.elim) (fun b hb => Nat.le_trans HBT.out.size hb) HR.out HBT.out HBT.out.size (by have := HLEN.out; omega) ?_; intro v7 w17 hR7 hb7 hg7 hat7)
                              have HR17 := Lib.hid hR7
                              have HB17 := Lib.hid hb7
                              clear hR7 hb7 hg7 hat7
                              go_wp2_with fail
                              go_roundg (i - (t + 1))
                              case measure => have := HTK.out; have := HLT.out; omega
                              case rel => exact ⟨t + 1, by go_num, Lib.hid (by have := HTK.out; have := HLT.out; omega), Lib.hid (by rw [HN2.out]; exact HR17.out), HB17⟩
                            | false =>
                              have HN2 : Hid (setL (fun v => f v.toNat) (t + 1) = setL (fun v => f v.toNat) t) := Lib.hid (by rw [HNX.out, Int.toNat_natCast, hc]; simp)
                              rw [hc] at x0
                              clear hc
                              go_wp2_with fail
                              go_roundg (i - (t + 1))
                              case measure => have := HTK.out; have := HLT.out; omega
                              case rel => exact ⟨t + 1, by go_num, Lib.hid (by have := HTK.out; have := HLT.out; omega), Lib.hid (by rw [HN2.out]; exact HR.out), HBT⟩
                          · have hnt : ¬ (t : Int) < i := by omega
                            obtain rfl : t = i := by have := HTK.out; omega
                            clear hlt
                            have HBZ := Lib.hid (below_t HB1.out (below_t HBV.out HBT.out))
                            have HSZ := Lib.hid (below_t HB1.out HBV.out).size
                            go_wp2_with fail
                            go_ret2
                            exact ⟨.inr ⟨HE0.out, _, (fun v => f v.toNat), rfl, by rw [Int.toNat_natCast]; exact Kd.R_mono (Kd.R_lower HR.out HSZ.out) (fun _ _ => trivial), by rw [Int.toNat_natCast]; exact HBLK.out⟩, HBZ.out⟩
                  · have e7 : decide (0 < m) = true := decide_eq_true hm
                    have HLE7 : Hid ((leftM (i + 2) i R7).toNat < (leftM (i + 2) i R').toNat) := Lib.hid (by
                      have h1 : 0 ≤ leftM (i + 2) i R7 := cutM_nonneg HF7.out.nn _
                      omega)
                    clear hm hlm
                    go_wp2_with fail
                    go_roundg ((leftM (i + 2) i R7).toNat)
                    case measure => have := HLE.out; have := HLE7.out; omega
                    case rel => exact ⟨R7, Lib.hid (Nat.le_refl _), HM7, HF7, HB7⟩
  · have H0 := Lib.hid h0
    have e1 : (needE n l xs != 0) = true := by simp [h0]
    clear h0
    generalize hE : needE n l xs = er at *
    have HE := Lib.hid hE
    clear hE
    go_wp2_with fail
    go_ret2
    exact ⟨.inl ⟨by rw [HE.out]; exact H0.out, by rw [HE.out]; rfl⟩, HB1.out⟩
end Go.Proofs.Ytpbndcmmclkdpaa
