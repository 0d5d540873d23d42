/-
  The law FlowFillGrows.
-/
import Derived.Test.YtpbndcmmclkdpaaZXl
namespace Go.Proofs.Ytpbndcmmclkdpaa
open PFlowSolves
open Go.RowKit Go.Proofs.YtpbndcmmclkdpaaW.PrintWords
/-! Rows in a block of their own, cell by cell. -/
section
variable {α : Type} {d : Kd α} {enc : α → List Value} {k : Nat} {z : α}
def flatV (enc : α → List Value) (k : Nat) (z : α) (xs : List α) (q : Nat) : Value := (enc (xs.getD (q / k) z)).getD (q % k) (.bool false)
theorem R_flat {t : TypeId} {w : World} {base : Nat} {ok : Nat → Prop} {v : Value} {xs : List α} (hs : d.sz = k) (hk : 0 < k) (hK : ∀ w x cs, d.K w x cs → cs = enc x) (hl : ∀ x, (enc x).length = k) (h : Kd.R d t w base ok v xs) (hp : 0 < xs.length) :
    ∃ b c, v = .slice (some ⟨b, 0, none⟩) xs.length c ∧ xs.length ≤ c ∧ ok b ∧ TV w b t (xs.length * k) (flatV enc k z xs) := by
  obtain ⟨b, c, e, h1, h2, cells, hc⟩ := Kd.R_form h hp
  subst e
  obtain ⟨A, c', e, hle, hC⟩ := Kd.R_reads h
  obtain ⟨rfl, rfl⟩ : some ⟨b, 0, none⟩ = A ∧ c = c' := by injection e with e1 e2 e3; exact ⟨e1, e3⟩
  refine ⟨b, c, rfl, hle, h.1 b (by simp [Value.ownBlock]), cells, hc, fun q hq => ?_⟩
  have hi : q / k < xs.length := (Nat.div_lt_iff_lt_mul hk).2 hq
  have hm : q % k < k := Nat.mod_lt _ hk
  obtain ⟨ad, e, hcell⟩ := hC.2.2 hp
  obtain rfl : (⟨b, 0, none⟩ : Addr) = ad := by injection e
  obtain ⟨cs, hln, hKx, hj⟩ := hcell (q / k) xs[q / k] (List.getElem?_eq_getElem hi)
  obtain rfl := hK _ _ _ hKx
  have h3 := hj (q % k) ((enc xs[q / k])[q % k]'(by rw [hl]; exact hm)) (List.getElem?_eq_getElem _)
  rw [hs, add_own, Nat.div_add_mod' q k] at h3
  simp only [World.cell?, hc] at h3
  have e1 : flatV enc k z xs q = (enc xs[q / k])[q % k]'(by rw [hl]; exact hm) := by
    unfold flatV
    rw [List.getD_eq_getElem?_getD, List.getD_eq_getElem?_getD, List.getElem?_eq_getElem hi, Option.getD_some, List.getElem?_eq_getElem (by rw [hl]; exact hm), Option.getD_some]
  rw [e1]; simpa using h3
theorem flat_C {t : TypeId} {w : World} {b : Nat} {xs : List α} (hs : d.sz = k) (hK : ∀ w x, d.K w x (enc x)) (hl : ∀ x, (enc x).length = k) (hn : xs.length ≤ 100000) (h : TV w b t (xs.length * k) (flatV enc k z xs)) : Kd.C d w (some ⟨b, 0, none⟩) xs.length xs := by
  refine ⟨rfl, by omega, fun _ => ⟨_, rfl, fun j p hp => ?_⟩⟩
  have hj := (List.getElem?_eq_some_iff.1 hp).1
  refine ⟨enc p, by rw [hl, hs], hK w p, fun i u hu => ?_⟩
  have hi : i < k := by have := (List.getElem?_eq_some_iff.1 hu).1; rw [hl] at this; exact this
  rw [hs, add_own]
  have hq : j * k + i < xs.length * k := Nat.lt_of_lt_of_le (Nat.add_lt_add_left hi _) (by rw [← Nat.succ_mul]; exact Nat.mul_le_mul_right k hj)
  have h1 := TV.cell h hq
  have e1 : (j * k + i) / k = j := by rw [Nat.add_comm, Nat.add_mul_div_right _ _ (by omega), Nat.div_eq_of_lt hi, Nat.zero_add]
  have e2 : (j * k + i) % k = i := by rw [Nat.add_comm, Nat.add_mul_mod_self_right, Nat.mod_eq_of_lt hi]
  unfold flatV at h1
  rw [e1, e2, List.getD_eq_getElem?_getD (l := xs), hp, Option.getD_some, List.getD_eq_getElem?_getD, hu] at h1
  exact h1
theorem flat_at {xs : List α} {i j : Nat} (hj : j < k) : flatV enc k z xs (i * k + j) = (enc (xs.getD i z)).getD j (.bool false) := by
  have e1 : (i * k + j) / k = i := by rw [Nat.add_comm, Nat.add_mul_div_right _ _ (by omega), Nat.div_eq_of_lt hj, Nat.zero_add]
  have e2 : (i * k + j) % k = j := by rw [Nat.add_comm, Nat.add_mul_mod_self_right, Nat.mod_eq_of_lt hj]
  unfold flatV
  rw [e1, e2]
theorem flat_set {t : TypeId} {w : World} {b : Nat} {xs : List α} (h : TV w b t (xs.length * k) (flatV enc k z xs)) {i j : Nat} (hi : i < xs.length) (hj : j < k) {x' : α} {v : Value}
    (he : ∀ m, m < k → (enc x').getD m (.bool false) = if m = j then v else (enc (xs.getD i z)).getD m (.bool false)) :
    TV (w.setCell ⟨b, i * k + j, none⟩ v) b t ((xs.set i x').length * k) (flatV enc k z (xs.set i x')) := by
  rw [List.length_set]
  refine (TV.set h (i * k + j) v).congr fun q hq => ?_
  have hk : 0 < k := by omega
  have hm : q % k < k := Nat.mod_lt _ hk
  have hqd := Nat.div_add_mod' q k
  by_cases e : q / k = i
  · have e3 : (xs.set i x').getD (q / k) z = x' := by rw [e, List.getD_eq_getElem?_getD, List.getElem?_set_self hi]; rfl
    have e4 : flatV enc k z (xs.set i x') q = (enc x').getD (q % k) (.bool false) := by unfold flatV; rw [e3]
    rw [e4, he _ hm]
    rw [e] at hqd
    by_cases e5 : q % k = j
    · rw [if_pos (by omega), if_pos e5]
    · rw [if_neg (by omega), if_neg e5]
      unfold flatV; rw [e]
  · have e3 : (xs.set i x').getD (q / k) z = xs.getD (q / k) z := by rw [List.getD_eq_getElem?_getD, List.getElem?_set_ne (fun h => e h.symm), ← List.getD_eq_getElem?_getD]
    have hne : q ≠ i * k + j := fun h => e (by rw [h, Nat.add_comm, Nat.add_mul_div_right _ _ hk, Nat.div_eq_of_lt hj, Nat.zero_add])
    rw [if_neg hne]
    unfold flatV; rw [e3]
end
theorem step_cell {b : Nat} {w w' : World} {a : Addr} {v : Value} (ha : a.block = b) (e : w' = w.setCell a v) : Fr (fun k => k = b) w w' := by
  subst e; exact (Fr.refl _ w).setCell (.inl ha) v
abbrev cP (p : S49) : List Value := [.int .i64 p.f0, .int .i64 p.f1, .int .i64 p.f2, .int .i64 p.f3, .int .i64 p.f4]
abbrev cW (q : S51) : List Value := [.int .i64 q.f0, .int .i64 q.f1, .int .i64 q.f2, .int .i64 q.f3, .int .i64 q.f4, .int .i64 q.f5]
theorem wf_byte {n : Int} (h : (Lit.int .u8 n).wf = true) : 0 ≤ n ∧ n ≤ 255 := by
  have h6 : IntKind.u8.min ≤ n ∧ n ≤ IntKind.u8.max := by simpa [Lit.wf] using h
  have e1 : IntKind.u8.min = 0 := by decide
  have e2 : IntKind.u8.max = 255 := by decide
  omega
/-! What more bales do. -/
def moreP (ps : List S49) (i : Nat) (n : Int) : List S49 := ps.set i ⟨min 4096 ((ps.getD i z49).f0 + n), (ps.getD i z49).f1, (ps.getD i z49).f2, (ps.getD i z49).f3, (ps.getD i z49).f4⟩
def moreW1 (ws : List S51) (i : Nat) (n : Int) : List S51 := ws.set i ⟨min 4096 ((ws.getD i z51).f0 + n), (ws.getD i z51).f1, (ws.getD i z51).f2, (ws.getD i z51).f3, (ws.getD i z51).f4, (ws.getD i z51).f5⟩
def moreW2 (ws : List S51) (i : Nat) (n : Int) : List S51 := ws.set i ⟨(ws.getD i z51).f0, (ws.getD i z51).f1, max 0 ((ws.getD i z51).f2 - n), (ws.getD i z51).f3, (ws.getD i z51).f4, (ws.getD i z51).f5⟩
theorem set_getD {α : Type} (l : List α) (i j : Nat) (x z : α) (hi : i < l.length) : (l.set i x).getD j z = if j = i then x else l.getD j z := by
  rw [List.getD_eq_getElem?_getD, List.getElem?_set]
  by_cases e : i = j
  · rw [if_pos e, if_pos hi, if_pos e.symm]; rfl
  · rw [if_neg e, if_neg (fun h => e h.symm), ← List.getD_eq_getElem?_getD]
section
variable {ps : List S49} {ws : List S51} {T : Nat → Int} {i : Nat} {n : Int}
theorem mem_set {α : Type} {l : List α} {i : Nat} {x y : α} (h : y ∈ l.set i x) : y = x ∨ y ∈ l := by
  rcases List.mem_or_eq_of_mem_set h with h | h
  · exact .inr h
  · exact .inl h
theorem moreP_E (hE : fillE ps ws T = 0) (hi : i < ps.length) (h0 : 0 ≤ n) : fillE (moreP ps i n) ws T = 0 := by
  obtain ⟨h1, h2, h3, h4, h5⟩ := fillE_ok hE
  refine fillE_0 (by unfold moreP; rw [List.length_set]; omega) (fun j p hp => ?_) (fun j q hq => h4 q (List.mem_of_getElem? hq)) h5
  rcases mem_set (List.mem_of_getElem? hp) with rfl | h
  · have h6 := h3 _ (getP hi)
    unfold okP inB at h6 ⊢
    simp only [Bool.and_eq_true, decide_eq_true_eq] at h6 ⊢
    omega
  · exact h3 p h
theorem moreW1_E (hE : fillE ps ws T = 0) (hi : i < ws.length) (h0 : 0 ≤ n) : fillE ps (moreW1 ws i n) T = 0 := by
  obtain ⟨h1, h2, h3, h4, h5⟩ := fillE_ok hE
  refine fillE_0 (by unfold moreW1; rw [List.length_set]; omega) (fun j p hp => h3 p (List.mem_of_getElem? hp)) (fun j q hq => ?_) h5
  rcases mem_set (List.mem_of_getElem? hq) with rfl | h
  · have h6 := h4 _ (getW hi)
    unfold okW inB at h6 ⊢
    simp only [Bool.and_eq_true, decide_eq_true_eq] at h6 ⊢
    omega
  · exact h4 q h
theorem moreW2_E (hE : fillE ps ws T = 0) (hi : i < ws.length) (h0 : 0 ≤ n) : fillE ps (moreW2 ws i n) T = 0 := by
  obtain ⟨h1, h2, h3, h4, h5⟩ := fillE_ok hE
  refine fillE_0 (by unfold moreW2; rw [List.length_set]; omega) (fun j p hp => h3 p (List.mem_of_getElem? hp)) (fun j q hq => ?_) h5
  rcases mem_set (List.mem_of_getElem? hq) with rfl | h
  · have h6 := h4 _ (getW hi)
    unfold okW inB at h6 ⊢
    simp only [Bool.and_eq_true, decide_eq_true_eq] at h6 ⊢
    omega
  · exact h4 q h
theorem moreP_adm {X : Plan} (hE : fillE ps ws T = 0) (hi : i < ps.length) (h0 : 0 ≤ n) (h : (ordOf ps ws T).Adm X) : (ordOf (moreP ps i n) ws T).Adm X ∧ (ordOf (moreP ps i n) ws T).tot X = (ordOf ps ws T).tot X := by
  have hb := (okP_all ((fillE_ok hE).2.2.1 _ (getP hi))).1
  have hl : (moreP ps i n).length = ps.length := by unfold moreP; rw [List.length_set]
  have hP : (ordOf (moreP ps i n) ws T).P = (ordOf ps ws T).P := hl
  have key : ∀ j, (ordOf ps ws T).b j ≤ (ordOf (moreP ps i n) ws T).b j ∧ ∀ m, (ordOf (moreP ps i n) ws T).suit j m = (ordOf ps ws T).suit j m := fun j => by
    show (ps.getD j z49).f0 ≤ ((moreP ps i n).getD j z49).f0 ∧ ∀ m, suitB ((moreP ps i n).getD j z49) (ws.getD m z51) = suitB (ps.getD j z49) (ws.getD m z51)
    unfold moreP
    rw [set_getD _ _ _ _ _ hi]
    by_cases e : j = i
    · subst e
      rw [if_pos rfl]
      exact ⟨by show _ ≤ min 4096 _; omega, fun m => rfl⟩
    · rw [if_neg e]; exact ⟨Int.le_refl _, fun m => rfl⟩
  refine ⟨⟨fun a b ha hb => h.nn a b (by rw [← hP]; exact ha) hb, fun a b ha hb hs => h.un a b (by rw [← hP]; exact ha) hb (by rw [← (key a).2 b]; exact hs), fun a ha => Int.le_trans (h.row a (by rw [← hP]; exact ha)) (key a).1, fun b hb => ?_⟩, ?_⟩
  · have h2 := h.col b hb
    unfold Ord.col at h2 ⊢
    rw [hP]; exact h2
  · unfold Ord.tot
    rw [hP]; rfl
theorem moreW_adm {X : Plan} {ws' : List S51} (hl : ws'.length = ws.length) (hc : ∀ k, (ws.getD k z51).f0 ≤ (ws'.getD k z51).f0) (hs : ∀ k p, suitB p (ws.getD k z51) = true → suitB p (ws'.getD k z51) = true) (h : (ordOf ps ws T).Adm X) : (ordOf ps ws' T).Adm X ∧ (ordOf ps ws' T).tot X = (ordOf ps ws T).tot X := by
  have hW : (ordOf ps ws' T).W = (ordOf ps ws T).W := hl
  refine ⟨⟨fun a b ha hb => h.nn a b ha (by rw [← hW]; exact hb), fun a b ha hb hn => h.un a b ha (by rw [← hW]; exact hb) ?_, fun a ha => ?_, fun b hb => Int.le_trans (h.col b (by rw [← hW]; exact hb)) (hc b)⟩, ?_⟩
  · cases e : (ordOf ps ws T).suit a b with
    | false => rfl
    | true => rw [show (ordOf ps ws' T).suit a b = true from hs b _ e] at hn; exact absurd hn (by simp)
  · have h2 := h.row a ha
    unfold Ord.row at h2 ⊢
    rw [hW]; exact h2
  · unfold Ord.tot Ord.row
    rw [hW]; rfl
theorem moreW1_adm {X : Plan} (hE : fillE ps ws T = 0) (hi : i < ws.length) (h0 : 0 ≤ n) (h : (ordOf ps ws T).Adm X) : (ordOf ps (moreW1 ws i n) T).Adm X ∧ (ordOf ps (moreW1 ws i n) T).tot X = (ordOf ps ws T).tot X := by
  have hb := (okW_all ((fillE_ok hE).2.2.2.1 _ (getW hi))).1
  refine moreW_adm (by unfold moreW1; rw [List.length_set]) (fun k => ?_) (fun k p hs => ?_) h
  · unfold moreW1
    rw [set_getD _ _ _ _ _ hi]
    by_cases e : k = i
    · subst e; rw [if_pos rfl]; show _ ≤ min 4096 _; omega
    · rw [if_neg e]; exact Int.le_refl _
  · unfold moreW1
    rw [set_getD _ _ _ _ _ hi]
    by_cases e : k = i
    · subst e; rw [if_pos rfl]; exact hs
    · rw [if_neg e]; exact hs
theorem moreW2_adm {X : Plan} (hE : fillE ps ws T = 0) (hi : i < ws.length) (h0 : 0 ≤ n) (h : (ordOf ps ws T).Adm X) : (ordOf ps (moreW2 ws i n) T).Adm X ∧ (ordOf ps (moreW2 ws i n) T).tot X = (ordOf ps ws T).tot X := by
  have h2 : 0 ≤ (ws.getD i z51).f2 := by
    have h6 := (fillE_ok hE).2.2.2.1 _ (getW hi)
    unfold okW inB at h6
    simp only [Bool.and_eq_true, decide_eq_true_eq] at h6
    omega
  refine moreW_adm (by unfold moreW2; rw [List.length_set]) (fun k => ?_) (fun k p hs => ?_) h
  · unfold moreW2
    rw [set_getD _ _ _ _ _ hi]
    by_cases e : k = i
    · subst e; rw [if_pos rfl]; exact Int.le_refl _
    · rw [if_neg e]; exact Int.le_refl _
  · unfold moreW2
    rw [set_getD _ _ _ _ _ hi]
    by_cases e : k = i
    · subst e; rw [if_pos rfl]
      unfold suitB at hs ⊢
      simp only [Bool.and_eq_true, decide_eq_true_eq] at hs ⊢
      omega
    · rw [if_neg e]; exact hs
end
theorem info49 : (Try.prog.info? 49).map (fun i => (i.zero, i.size, i.bytes)) = some (some (.agg #[.int .i64 0, .int .i64 0, .int .i64 0, .int .i64 0, .int .i64 0]), 5, 40) := by kernel_rfl
theorem info51 : (Try.prog.info? 51).map (fun i => (i.zero, i.size, i.bytes)) = some (some (.agg #[.int .i64 0, .int .i64 0, .int .i64 0, .int .i64 0, .int .i64 0, .int .i64 0]), 6, 48) := by kernel_rfl
set_option maxRecDepth 100000 in
set_option maxHeartbeats 8000000 in
theorem fillgrows_walk (A1 : Option Addr) (c1 : Nat) (ps : List S49) (_ : ps.length ≤ c1) (_ : c1 ≤ 9223372036854775807) {w : World} (h1 : Kd.C k49 w A1 ps.length ps) (_ : ∀ x ∈ ps, (Lit.int .i64 x.f0).wf = true ∧ (Lit.int .i64 x.f1).wf = true ∧ (Lit.int .i64 x.f2).wf = true ∧ (Lit.int .i64 x.f3).wf = true ∧ (Lit.int .i64 x.f4).wf = true)
    (A2 : Option Addr) (c2 : Nat) (ws : List S51) (_ : ws.length ≤ c2) (_ : c2 ≤ 9223372036854775807) (h2 : Kd.C k51 w A2 ws.length ws) (_ : ∀ x ∈ ws, (Lit.int .i64 x.f0).wf = true ∧ (Lit.int .i64 x.f1).wf = true ∧ (Lit.int .i64 x.f2).wf = true ∧ (Lit.int .i64 x.f3).wf = true ∧ (Lit.int .i64 x.f4).wf = true ∧ (Lit.int .i64 x.f5).wf = true) (T : Nat → Int)
    {a0 a1 : Int} (ha0 : (Lit.int .u8 a0).wf = true) (ha1 : (Lit.int .u8 a1).wf = true) {more : Int} (hmo : (Lit.int .u8 more).wf = true) :
    Calls Try.prog 16 #[.slice A1 ps.length c1, .slice A2 ws.length c2, vTar T, .agg #[.int .u8 a0, .int .u8 a1], .int .u8 more] w fun e w' => e = .returned (.bool true) ∧ Below w.heap.size w w' := by
  have HAL := Lib.hid (fun W => alive_any W)
  have H1 := Lib.hid h1
  have H2 := Lib.hid h2
  have HMO := Lib.hid (wf_byte hmo)
  have HA0 := Lib.hid (wf_byte ha0)
  have HA1 := Lib.hid (wf_byte ha1)
  have HBX := Lib.hid (Blk.alloc (Blk.new w (tarL T).toArray 67) (.cells #[.int .u8 a0, .int .u8 a1] 82 (0, 0)))
  have HAX : Hid (Blk ((w.alloc (.cells (tarL T).toArray 67 (0, 0))).alloc (.cells #[.int .u8 a0, .int .u8 a1] 82 (0, 0))) (w.heap.size + 1) #[.int .u8 a0, .int .u8 a1] 82) := Lib.hid (by
    have h := Blk.new (w.alloc (.cells (tarL T).toArray 67 (0, 0))) #[.int .u8 a0, .int .u8 a1] 82
    rw [show (w.alloc (.cells (tarL T).toArray 67 (0, 0))).heap.size = w.heap.size + 1 by simp] at h
    exact h)
  have HB0 := Lib.hid (below_al (below_alloc (Below.refl w.heap.size w) (.cells (tarL T).toArray 67 (0, 0))) (.cells #[.int .u8 a0, .int .u8 a1] 82 (0, 0)))
  clear h1 h2 hmo ha0 ha1
  go_enter Try.func16, Try.ntmps16
  go_upto_region 1 with (fail)
  generalize (w.alloc (.cells (tarL T).toArray 67 (0, 0))).alloc (.cells #[.int .u8 a0, .int .u8 a1] 82 (0, 0)) = w1 at *
  have HRG := Lib.hid (range67 HBX.out)
  have HF := Lib.hid (fill_any w1 A1 c1 ps (Kd.C_below H1.out HB0.out) A2 c2 ws (Kd.C_below H2.out HB0.out) T)
  go_wp2_with (refine wpList_load_mid rfl 67 _ rfl w.heap.size 0 rfl (tarL T) _ HRG.out Try.underlying67 rfl info67 ?_)
  go_wp2_with fail
  refine HF.out.mono ?_
  rintro e w2 ⟨hpost, hb⟩
  have HB2 := Lib.hid hb
  have HB02 := Lib.hid (below_t HB0.out HB2.out)
  clear hb HF
  rcases hpost with ⟨hE, rfl⟩ | ⟨hE, hb, r, x, p, rfl, hRM, hRO, hFE, hLE⟩
  · have hal := below_alloc (Below.refl w2.heap.size w2) (.cells #[.slice none 0 0, .int .i64 0, .int .i64 0] 70 (0, 0))
    have HB3 := Lib.hid (below_t HB02.out hal)
    have e2 : (fillE ps ws T != 0) = true := by simpa using hE
    clear hal hE
    generalize fillE ps ws T = er at *
    go_upto_region 2 with (fail)
    generalize w2.alloc (.cells #[.slice none 0 0, .int .i64 0, .int .i64 0] 70 (0, 0)) = w3 at *
    go_wp2_with fail
    refine (HAL.out w3).mono ?_
    rintro e w5 ⟨rfl, hb⟩
    have HB5 := Lib.hid (below_t HB3.out hb)
    clear hb
    go_wp2_with fail
    go_ret
    exact ⟨rfl, HB5.out⟩
  · have HE := Lib.hid hE
    have hLM := fillE_ok hE
    have HLM : Hid (ps.length ≤ 12 ∧ ws.length ≤ 12) := Lib.hid ⟨hLM.1, hLM.2.1⟩
    have HAD : Hid ((ordOf ps ws T).Adm ((ordOf ps ws T).plan x)) := Lib.hid hRO.adm
    generalize (ordOf ps ws T).plan x = X at *
    obtain ⟨tt, htt⟩ : ∃ tt, tt = (ordOf ps ws T).tot X := ⟨_, rfl⟩
    obtain ⟨cc, hcc⟩ : ∃ cc, cc = (ordOf ps ws T).sum X := ⟨_, rfl⟩
    rw [← hcc, ← htt]
    have HTT := Lib.hid htt
    obtain ⟨oP, hoP⟩ : ∃ oP, oP = (ordOf ps ws T).P := ⟨_, rfl⟩
    rw [← hoP]
    clear hcc htt hE hLM hRM hRO hFE hLE hoP
    have hal := below_alloc (Below.refl w2.heap.size w2) (.cells #[.slice (some ⟨hb, 0, none⟩) oP oP, .int .i64 tt, .int .i64 cc] 70 (0, 0))
    have HK := Lib.hid (Blk.new w2 #[.slice (some ⟨hb, 0, none⟩) oP oP, .int .i64 tt, .int .i64 cc] 70)
    go_upto_region 2 with (fail)
    generalize w2.alloc (.cells #[.slice (some ⟨hb, 0, none⟩) oP oP, .int .i64 tt, .int .i64 cc] 70 (0, 0)) = w3 at *
    have HB3 := Lib.hid (below_t HB02.out hal)
    have HBX3 := Lib.hid (below_t HB2.out hal)
    generalize w2.heap.size = bf at *
    clear hal
    by_cases hp0 : ps.length = 0
    · have e1 : ((ps.length : Int) == 0) = true := by simp [hp0]
      clear hp0
      go_wp2_with fail
      refine (HAL.out w3).mono ?_
      rintro e w5 ⟨rfl, hb⟩
      have HB5 := Lib.hid (below_t HB3.out hb)
      clear hb
      go_wp2_with fail
      go_ret
      exact ⟨rfl, HB5.out⟩
    · have e1 : ((ps.length : Int) == 0) = false := beq_eq_false_iff_ne.2 (by omega)
      by_cases hw0 : ws.length = 0
      · have e2 : ((ws.length : Int) == 0) = true := by simp [hw0]
        clear hp0 hw0
        go_wp2_with fail
        refine (HAL.out w3).mono ?_
        rintro e w5 ⟨rfl, hb⟩
        have HB5 := Lib.hid (below_t HB3.out hb)
        clear hb
        go_wp2_with fail
        go_ret
        exact ⟨rfl, HB5.out⟩
      · have e2 : ((ws.length : Int) == 0) = false := beq_eq_false_iff_ne.2 (by omega)
        have HPP : Hid (0 < ps.length ∧ 0 < ws.length) := Lib.hid ⟨by omega, by omega⟩
        have HC1 := Lib.hid (Kd.C_below H1.out HB3.out)
        obtain ⟨ad1, rfl, _⟩ := HC1.out.2.2 HPP.out.1
        have HC2 := Lib.hid (Kd.C_below H2.out HB3.out)
        obtain ⟨ad2, rfl, _⟩ := HC2.out.2.2 HPP.out.2
        clear hp0 hw0
        go_upto_region 5 with (fail)
        clear e1 e2
        have hnil1 : Kd.R k49 49 w3 0 (fun k => w3.heap.size ≤ k) (.slice none 0 0) [] := Kd.R_nil _ _ _ _ _
        have hKM1 : ∀ (x : S49) (cs : List Value), k49.K w3 x cs → k49.M w3 0 (fun _ => False) x cs := fun x cs hK => by rw [k49_open hK]; exact k49_mkM _ _ _ x
        have hl1 : (([] : List S49).length + ps.length) * 40 ≤ 140737488355328 := by have := HLM.out; simp; omega
        have hC1 := HC1.out
        go_upto_region 7 with (at_builtin; refine Kd.R_append_rows k49 (Rr := k49.K w3) (w0 := w3) 0 rfl _ _ 53 49 (.agg #[.int .i64 0, .int .i64 0, .int .i64 0, .int .i64 0, .int .i64 0]) 40 rfl Try.underlying53 info49 rfl (by decide) (by decide) (.slice none 0 0) [] ps (some ad1) ps.length c1 (fun k => w3.heap.size ≤ k) (fun _ => False) rfl rfl hnil1 hC1 hKM1 (fun _ hk => hk.elim) (fun _ h => h) (Below.refl _ _) (Nat.zero_le _) hl1 ?_; intro v4 w4 hR4 hb4 hg4 hat4)
        rw [List.nil_append] at hR4
        obtain ⟨bp, cp, rfl, hcp, hbp, hTP⟩ := R_flat (z := z49) (enc := cP) (k := 5) rfl (by decide) (fun w x cs h => k49_open h) (fun _ => rfl) hR4 HPP.out.1
        have HF4 : Hid (Below w3.heap.size w3 w4) := Lib.hid (((Fr.refl (fun _ => False) w3).grown hg4 (fun k hk => absurd hk (by simp [Value.ownBlock]))).none_below)
        have HTP := Lib.hid hTP
        have HBP := Lib.hid hbp
        have HB4 := Lib.hid (below_t HB3.out HF4.out)
        clear hnil1 hKM1 hl1 hC1 hR4 hb4 hg4 hat4 hTP hbp
        have hnil2 : Kd.R k51 51 w4 0 (fun k => w4.heap.size ≤ k) (.slice none 0 0) [] := Kd.R_nil _ _ _ _ _
        have hKM2 : ∀ (x : S51) (cs : List Value), k51.K w4 x cs → k51.M w4 0 (fun _ => False) x cs := fun x cs hK => by rw [k51_open hK]; exact k51_mkM _ _ _ x
        have hl2 : (([] : List S51).length + ws.length) * 48 ≤ 140737488355328 := by have := HLM.out; simp; omega
        have hC2 := Kd.C_below HC2.out HF4.out
        go_upto_region 8 with (at_builtin; refine Kd.R_append_rows k51 (Rr := k51.K w4) (w0 := w4) 0 rfl _ _ 64 51 (.agg #[.int .i64 0, .int .i64 0, .int .i64 0, .int .i64 0, .int .i64 0, .int .i64 0]) 48 rfl Try.underlying64 info51 rfl (by decide) (by decide) (.slice none 0 0) [] ws (some ad2) ws.length c2 (fun k => w4.heap.size ≤ k) (fun _ => False) rfl rfl hnil2 hC2 hKM2 (fun _ hk => hk.elim) (fun _ h => h) (Below.refl _ _) (Nat.zero_le _) hl2 ?_; intro v5 w5 hR5 hb5 hg5 hat5)
        rw [List.nil_append] at hR5
        obtain ⟨bw, cw, rfl, hcw, hbw, hTW⟩ := R_flat (z := z51) (enc := cW) (k := 6) rfl (by decide) (fun w x cs h => k51_open h) (fun _ => rfl) hR5 HPP.out.2
        have HF5 : Hid (Below w4.heap.size w4 w5) := Lib.hid (((Fr.refl (fun _ => False) w4).grown hg5 (fun k hk => absurd hk (by simp [Value.ownBlock]))).none_below)
        have HTW := Lib.hid hTW
        have HTP5 := Lib.hid (TV.below HTP.out HF5.out)
        have HBW := Lib.hid hbw
        have HB5 := Lib.hid (below_t HB4.out HF5.out)
        have HLT4 := Lib.hid (TV.lt HTP.out)
        have HK5 := Lib.hid (HK.out.fr (Fr.of_below (below_t HF4.out HF5.out) (fun _ => False)) (fun a => a))
        have HX5 := Lib.hid (HBX.out.fr (Fr.of_below (below_t HBX3.out (below_t HF4.out HF5.out)) (fun _ => False)) (fun a => a))
        have HA5 := Lib.hid (HAX.out.fr (Fr.of_below (below_t HBX3.out (below_t HF4.out HF5.out)) (fun _ => False)) (fun a => a))
        have HS3 : Hid (w3.heap.size ≤ bp ∧ bp < bw ∧ w.heap.size ≤ w3.heap.size) := Lib.hid ⟨HBP.out, by have := HLT4.out; have := HBW.out; omega, HB3.out.size⟩
        have HLB : Hid (bf < w3.heap.size ∧ w.heap.size + 1 < w3.heap.size) := Lib.hid ⟨Blk.lt HK.out, by have h1 := Blk.lt HAX.out; have h2 := HBX3.out.size; omega⟩
        clear hnil2 hKM2 hl2 hC2 hR5 hb5 hg5 hat5 hTW hbw HTP HBP HBW HLT4 HK HBX HAX HRG
        have q0 := Blk.cell HA5.out 0 (v := .int .u8 a0) rfl
        have q1 := Blk.cell HA5.out 1 (v := .int .u8 a1) rfl
        obtain ⟨i, hi⟩ : ∃ i : Nat, a0 % (ps.length : Int) = i := ⟨(a0 % (ps.length : Int)).toNat, by have := Int.emod_nonneg a0 (show (ps.length : Int) ≠ 0 by have := HPP.out; omega); omega⟩
        obtain ⟨k, hk⟩ : ∃ k : Nat, a1 % (ws.length : Int) = k := ⟨(a1 % (ws.length : Int)).toNat, by have := Int.emod_nonneg a1 (show (ws.length : Int) ≠ 0 by have := HPP.out; omega); omega⟩
        have HIK : Hid (i < ps.length ∧ k < ws.length) := Lib.hid ⟨by have := Int.emod_lt_of_pos a0 (show (0 : Int) < ps.length by have := HPP.out; omega); omega, by have := Int.emod_lt_of_pos a1 (show (0 : Int) < ws.length by have := HPP.out; omega); omega⟩
        have e1 : ((ps.length : Int) == 0) = false := beq_eq_false_iff_ne.2 (by have := HPP.out; omega)
        have e2 : ((ws.length : Int) == 0) = false := beq_eq_false_iff_ne.2 (by have := HPP.out; omega)
        have hlp1 : (0 : Int) < ps.length := by have := HPP.out; omega
        have hlp2 : (0 : Int) < ws.length := by have := HPP.out; omega
        have r1 : (wrap64 a0).tmod (ps.length : Int) = i := by
          rw [show wrap64 a0 = a0 from IntWalk.wrap64_in _ (by have := HA0.out; omega), Int.tmod_eq_emod_of_nonneg HA0.out.1]; exact hi
        have r2 : (wrap64 a1).tmod (ws.length : Int) = k := by
          rw [show wrap64 a1 = a1 from IntWalk.wrap64_in _ (by have := HA1.out; omega), Int.tmod_eq_emod_of_nonneg HA1.out.1]; exact hk
        go_upto_region 9 with (fail)
        go_quiet (fail)
        clear r1 r2
        have HTPq : Hid (TV (w5.drewN nq) bp 49 (ps.length * 5) (flatV cP 5 z49 ps)) := Lib.hid HTP5.out
        have HTWq : Hid (TV (w5.drewN nq) bw 51 (ws.length * 6) (flatV cW 6 z51 ws)) := Lib.hid HTW.out
        have HKq : Hid (Blk (w5.drewN nq) bf #[.slice (some ⟨hb, 0, none⟩) oP oP, .int .i64 tt, .int .i64 cc] 70) := Lib.hid HK5.out
        have HXq : Hid (Blk (w5.drewN nq) w.heap.size (tarL T).toArray 67) := Lib.hid HX5.out
        have HBq : Hid (Below w.heap.size w (w5.drewN nq)) := Lib.hid (((Fr.of_below HB5.out (fun _ => False)).drewN nq).none_below)
        generalize w5.drewN nq = w6 at *
        clear q0 q1 HTP5 HTW HK5 HX5 HB5 HA5 HF4 HF5 HB4 HC1 HC2 e1 e2
        have hi5 : i * 5 < ps.length * 5 := by have := HIK.out; omega
        have m0 := TV.cell HTPq.out hi5
        have e0 : flatV cP 5 z49 ps (i * 5) = .int .i64 (ps.getD i z49).f0 := flat_at (k := 5) (j := 0) (by decide)
        rw [e0] at m0
        have m1 := TV.free HTPq.out (i * 5)
        have hi0 : (i : Int) < ps.length := by have := HIK.out; omega
        have hiz : (0 : Int) ≤ i := by omega
        have hpb := (okP_all ((fillE_ok HE.out).2.2.1 _ (getP HIK.out.1))).1
        obtain ⟨p0, hp0⟩ : ∃ p0, p0 = (ps.getD i z49).f0 := ⟨_, rfl⟩
        rw [← hp0] at m0 hpb
        have hw1 : IntKind.i64.wrap (p0 + more) = p0 + more := IntWalk.i64_in _ (by have := HMO.out; omega)
        have HP0 := Lib.hid hp0
        clear hp0 e0 hi hk hi5 hpb
        go_upto_region 10 with (fail)
        obtain ⟨D, hD⟩ : ∃ D, D = min 4096 (p0 + more) := ⟨_, rfl⟩
        have hDD : (if wrap64 (p0 + wrap64 more) < 4096 then wrap64 (p0 + wrap64 more) else 4096) = D := by
          rw [show wrap64 more = more from IntWalk.wrap64_in _ (by have := HMO.out; omega), show wrap64 (p0 + more) = p0 + more from by rw [← IntWalk.i64_left]; exact hw1, hD]
          split <;> omega
        rw [hDD]
        have hT7 : TV (w6.setCell ⟨bp, i * 5, none⟩ (.int .i64 D)) bp 49 ((moreP ps i more).length * 5) (flatV cP 5 z49 (moreP ps i more)) :=
          flat_set (i := i) (j := 0) HTPq.out HIK.out.1 (by decide) (fun m hm => by
            have hm5 : m = 0 ∨ m = 1 ∨ m = 2 ∨ m = 3 ∨ m = 4 := by omega
            rcases hm5 with rfl | rfl | rfl | rfl | rfl
            · show Value.int .i64 (min 4096 ((ps.getD i z49).f0 + more)) = .int .i64 D
              rw [hD, HP0.out]
            all_goals rfl)
        have hml : (moreP ps i more).length = ps.length := List.length_set ..
        have HF7 : Hid (Fr (fun b => b = bp) w6 (w6.setCell ⟨bp, i * 5, none⟩ (.int .i64 D))) := Lib.hid (step_cell rfl rfl)
        generalize w6.setCell ⟨bp, i * 5, none⟩ (.int .i64 D) = w7 at *
        have HTW7 := Lib.hid (TV.fr HTWq.out HF7.out (by have := HS3.out; omega))
        have HK7 := Lib.hid (HKq.out.fr HF7.out (by have := HS3.out; have := HLB.out; omega))
        have HX7 := Lib.hid (HXq.out.fr HF7.out (by have := HS3.out; have := HLB.out; omega))
        have HB7 : Hid (Below w.heap.size w w7) := Lib.hid (((Fr.of_below HBq.out (fun b => b = bp)).trans HF7.out (fun _ h => .inl h)).to_below (Nat.le_refl _) (fun b hb => by have := HS3.out; omega))
        have HRG7 := Lib.hid (range67 HX7.out)
        have hfl := fill_any w7 (some ⟨bp, 0, none⟩) cp (moreP ps i more) (flat_C (z := z49) (enc := cP) (k := 5) rfl (fun w x => k49_mk w x) (fun _ => rfl) (by rw [hml]; have := HLM.out; omega) hT7) (some ad2) c2 ws (Kd.C_below H2.out HB7.out) T
        have hE7 := moreP_E HE.out HIK.out.1 HMO.out.1
        rw [hE7, hml] at hfl
        have HFL := Lib.hid hfl
        have HE7 := Lib.hid hE7
        clear hfl hE7 hml hT7 hDD hD m0 m1 HTPq HTWq HKq HXq HBq hw1 HF7 hi0 hiz HP0
        go_wp2_with (refine wpList_load_mid rfl 67 _ rfl w.heap.size 0 rfl (tarL T) _ HRG7.out Try.underlying67 rfl info67 ?_)
        go_wp2_with fail
        refine HFL.out.mono ?_
        rintro e w8 ⟨hpost, hb8⟩
        have HF8 := Lib.hid hb8
        rcases hpost with ⟨hE, rfl⟩ | ⟨_, hb2, r2, x2, p2, rfl, _, hRO, hFE, _⟩
        · exact absurd rfl hE
        have HGE : Hid (tt ≤ (ordOf (moreP ps i more) ws T).tot ((ordOf (moreP ps i more) ws T).plan x2)) := Lib.hid (by
          have h5 := moreP_adm HE.out HIK.out.1 HMO.out.1 HAD.out
          have h6 := (hRO.best_plan (ord_ok HE7.out) hFE h5.1).1
          rw [h5.2, ← HTT.out] at h6; exact h6)
        clear hRO hFE hb8 HFL
        generalize (ordOf (moreP ps i more) ws T).tot ((ordOf (moreP ps i more) ws T).plan x2) = t2 at *
        generalize (ordOf (moreP ps i more) ws T).sum ((ordOf (moreP ps i more) ws T).plan x2) = cc2 at *
        generalize (ordOf (moreP ps i more) ws T).P = oP2 at *
        have hal := below_alloc (Below.refl w8.heap.size w8) (.cells #[.slice (some ⟨hb2, 0, none⟩) oP2 oP2, .int .i64 t2, .int .i64 cc2] 70 (0, 0))
        have HY9 := Lib.hid (Blk.new w8 #[.slice (some ⟨hb2, 0, none⟩) oP2 oP2, .int .i64 t2, .int .i64 cc2] 70)
        go_upto_region 11 with (fail)
        generalize w8.alloc (.cells #[.slice (some ⟨hb2, 0, none⟩) oP2 oP2, .int .i64 t2, .int .i64 cc2] 70 (0, 0)) = w9 at *
        have HF9 := Lib.hid (Fr.of_below (below_t HF8.out hal) (fun _ => False))
        have HTW9 := Lib.hid (TV.fr HTW7.out HF9.out (fun a => a))
        have HK9 := Lib.hid (HK7.out.fr HF9.out (fun a => a))
        have HX9 := Lib.hid (HX7.out.fr HF9.out (fun a => a))
        have HB9 := Lib.hid (below_t HB7.out (below_t HF8.out hal))
        have HL9 : Hid (bw < w8.heap.size) := Lib.hid (by have h1 := TV.lt HTW7.out; have h2 := HF8.out.size; omega)
        generalize w8.heap.size = by_ at *
        clear hal HF9 HF8 HTW7 HK7 HX7 HB7 HRG7
        have hi6 : k * 6 < ws.length * 6 := by have := HIK.out; omega
        have m0 := TV.cell HTW9.out hi6
        have e0 : flatV cW 6 z51 ws (k * 6) = .int .i64 (ws.getD k z51).f0 := flat_at (k := 6) (j := 0) (by decide)
        rw [e0] at m0
        have m1 := TV.free HTW9.out (k * 6)
        have hi0 : (k : Int) < ws.length := by have := HIK.out; omega
        have hiz : (0 : Int) ≤ k := by omega
        have hpb := (okW_all ((fillE_ok HE.out).2.2.2.1 _ (getW HIK.out.2))).1
        obtain ⟨q0, hq0⟩ : ∃ q0, q0 = (ws.getD k z51).f0 := ⟨_, rfl⟩
        rw [← hq0] at m0 hpb
        have hw1 : IntKind.i64.wrap (q0 + more) = q0 + more := IntWalk.i64_in _ (by have := HMO.out; omega)
        have HQ0 := Lib.hid hq0
        clear hq0 e0 hi6 hpb
        go_upto_region 12 with (fail)
        obtain ⟨D2, hD⟩ : ∃ D2, D2 = min 4096 (q0 + more) := ⟨_, rfl⟩
        have hDD : (if wrap64 (q0 + wrap64 more) < 4096 then wrap64 (q0 + wrap64 more) else 4096) = D2 := by
          rw [show wrap64 more = more from IntWalk.wrap64_in _ (by have := HMO.out; omega), show wrap64 (q0 + more) = q0 + more from by rw [← IntWalk.i64_left]; exact hw1, hD]
          split <;> omega
        rw [hDD]
        have hT10 : TV (w9.setCell ⟨bw, k * 6, none⟩ (.int .i64 D2)) bw 51 ((moreW1 ws k more).length * 6) (flatV cW 6 z51 (moreW1 ws k more)) :=
          flat_set (i := k) (j := 0) HTW9.out HIK.out.2 (by decide) (fun m hm => by
            have hm5 : m = 0 ∨ m = 1 ∨ m = 2 ∨ m = 3 ∨ m = 4 ∨ m = 5 := by omega
            rcases hm5 with rfl | rfl | rfl | rfl | rfl | rfl
            · show Value.int .i64 (min 4096 ((ws.getD k z51).f0 + more)) = .int .i64 D2
              rw [hD, HQ0.out]
            all_goals rfl)
        have HML : Hid ((moreW1 ws k more).length = ws.length) := Lib.hid (List.length_set ..)
        have HE10 := Lib.hid (moreW1_E HE.out HIK.out.2 HMO.out.1)
        have HA10 := Lib.hid (moreW1_adm HE.out HIK.out.2 HMO.out.1 HAD.out)
        have HF10 : Hid (Fr (fun b => b = bw) w9 (w9.setCell ⟨bw, k * 6, none⟩ (.int .i64 D2))) := Lib.hid (step_cell rfl rfl)
        generalize w9.setCell ⟨bw, k * 6, none⟩ (.int .i64 D2) = w10 at *
        have HK10 := Lib.hid (HK9.out.fr HF10.out (by have := HS3.out; have := HLB.out; omega))
        have HX10 := Lib.hid (HX9.out.fr HF10.out (by have := HS3.out; have := HLB.out; omega))
        have HY10 := Lib.hid (HY9.out.fr HF10.out (by have := HL9.out; omega))
        have HB10 : Hid (Below w.heap.size w w10) := Lib.hid (((Fr.of_below HB9.out (fun b => b = bw)).trans HF10.out (fun _ h => .inl h)).to_below (Nat.le_refl _) (fun b hb => by have := HS3.out; omega))
        have HT10 := Lib.hid hT10
        generalize hvw : moreW1 ws k more = vs at *
        have HVW := Lib.hid hvw
        clear hvw hT10 hDD hD m0 m1 HTW9 HK9 HX9 HB9 hw1 HF10 HQ0 HY9
        have HKV : Hid (k < vs.length) := Lib.hid (by have := HML.out; have := HIK.out; omega)
        have hi6 : k * 6 + 2 < vs.length * 6 := by have := HKV.out; omega
        have m0 := TV.cell HT10.out hi6
        have e0 : flatV cW 6 z51 vs (k * 6 + 2) = .int .i64 (vs.getD k z51).f2 := flat_at (k := 6) (j := 2) (by decide)
        rw [e0] at m0
        have m1 := TV.free HT10.out (k * 6 + 2)
        have hpb : 0 ≤ (vs.getD k z51).f2 ∧ (vs.getD k z51).f2 ≤ 10000 := by
          have h6 := (fillE_ok HE10.out).2.2.2.1 _ (getW HKV.out)
          unfold okW inB at h6
          simp only [Bool.and_eq_true, decide_eq_true_eq] at h6
          omega
        obtain ⟨q0, hq0⟩ : ∃ q0, q0 = (vs.getD k z51).f2 := ⟨_, rfl⟩
        rw [← hq0] at m0 hpb
        have hw1 : IntKind.i64.wrap (q0 - more) = q0 - more := IntWalk.i64_in _ (by have := HMO.out; omega)
        have HQ0 := Lib.hid hq0
        clear hq0 e0 hi6 hpb
        go_upto_region 13 with (fail)
        obtain ⟨D3, hD⟩ : ∃ D3, D3 = max 0 (q0 - more) := ⟨_, rfl⟩
        have hDD : (if 0 < wrap64 (q0 - wrap64 more) then wrap64 (q0 - wrap64 more) else 0) = D3 := by
          rw [show wrap64 more = more from IntWalk.wrap64_in _ (by have := HMO.out; omega), show wrap64 (q0 - more) = q0 - more from by rw [← IntWalk.i64_left]; exact hw1, hD]
          split <;> omega
        rw [hDD]
        have hT11 : TV (w10.setCell ⟨bw, k * 6 + 2, none⟩ (.int .i64 D3)) bw 51 ((moreW2 vs k more).length * 6) (flatV cW 6 z51 (moreW2 vs k more)) :=
          flat_set (i := k) (j := 2) HT10.out HKV.out (by decide) (fun m hm => by
            have hm5 : m = 0 ∨ m = 1 ∨ m = 2 ∨ m = 3 ∨ m = 4 ∨ m = 5 := by omega
            rcases hm5 with rfl | rfl | rfl | rfl | rfl | rfl
            · rfl
            · rfl
            · show Value.int .i64 (max 0 ((vs.getD k z51).f2 - more)) = .int .i64 D3
              rw [hD, HQ0.out]
            all_goals rfl)
        have hml : (moreW2 vs k more).length = ws.length := by unfold moreW2; rw [List.length_set]; exact HML.out
        have HE11 := Lib.hid (moreW2_E HE10.out HKV.out HMO.out.1)
        have HA11 := Lib.hid (moreW2_adm HE10.out HKV.out HMO.out.1 HA10.out.1)
        have HF11 : Hid (Fr (fun b => b = bw) w10 (w10.setCell ⟨bw, k * 6 + 2, none⟩ (.int .i64 D3))) := Lib.hid (step_cell rfl rfl)
        generalize w10.setCell ⟨bw, k * 6 + 2, none⟩ (.int .i64 D3) = w11 at *
        have HK11 := Lib.hid (HK10.out.fr HF11.out (by have := HS3.out; have := HLB.out; omega))
        have HX11 := Lib.hid (HX10.out.fr HF11.out (by have := HS3.out; have := HLB.out; omega))
        have HY11 := Lib.hid (HY10.out.fr HF11.out (by have := HL9.out; omega))
        have HB11 : Hid (Below w.heap.size w w11) := Lib.hid (((Fr.of_below HB10.out (fun b => b = bw)).trans HF11.out (fun _ h => .inl h)).to_below (Nat.le_refl _) (fun b hb => by have := HS3.out; omega))
        have HRG11 := Lib.hid (range67 HX11.out)
        have hfl := fill_any w11 (some ad1) c1 ps (Kd.C_below H1.out HB11.out) (some ⟨bw, 0, none⟩) cw (moreW2 vs k more) (flat_C (z := z51) (enc := cW) (k := 6) rfl (fun w x => k51_mk w x) (fun _ => rfl) (by rw [hml]; have := HLM.out; omega) hT11) T
        rw [HE11.out, hml] at hfl
        have HFL := Lib.hid hfl
        clear hfl hml hT11 hDD hD m0 m1 HT10 HK10 HX10 HB10 HY10 hw1 HF11 hi0 hiz HQ0
        go_wp2_with (refine wpList_load_mid rfl 67 _ rfl w.heap.size 0 rfl (tarL T) _ HRG11.out Try.underlying67 rfl info67 ?_)
        go_wp2_with fail
        refine HFL.out.mono ?_
        rintro e w12 ⟨hpost, hb12⟩
        have HF12 := Lib.hid hb12
        rcases hpost with ⟨hE, rfl⟩ | ⟨_, hb3, r3, x3, p3, rfl, _, hRO, hFE, _⟩
        · exact absurd rfl hE
        have HGE2 : Hid (tt ≤ (ordOf ps (moreW2 vs k more) T).tot ((ordOf ps (moreW2 vs k more) T).plan x3)) := Lib.hid (by
          have h6 := (hRO.best_plan (ord_ok HE11.out) hFE HA11.out.1).1
          rw [HA11.out.2, HA10.out.2, ← HTT.out] at h6; exact h6)
        clear hRO hFE hb12 HFL
        generalize (ordOf ps (moreW2 vs k more) T).tot ((ordOf ps (moreW2 vs k more) T).plan x3) = t3 at *
        generalize (ordOf ps (moreW2 vs k more) T).sum ((ordOf ps (moreW2 vs k more) T).plan x3) = cc3 at *
        generalize (ordOf ps (moreW2 vs k more) T).P = oP3 at *
        have hal := below_alloc (Below.refl w12.heap.size w12) (.cells #[.slice (some ⟨hb3, 0, none⟩) oP3 oP3, .int .i64 t3, .int .i64 cc3] 70 (0, 0))
        have HZ13 := Lib.hid (Blk.new w12 #[.slice (some ⟨hb3, 0, none⟩) oP3 oP3, .int .i64 t3, .int .i64 cc3] 70)
        go_upto_region 14 with (fail)
        generalize w12.alloc (.cells #[.slice (some ⟨hb3, 0, none⟩) oP3 oP3, .int .i64 t3, .int .i64 cc3] 70 (0, 0)) = w13 at *
        have HF13 := Lib.hid (Fr.of_below (below_t HF12.out hal) (fun _ => False))
        have n0 := Blk.cell (HK11.out.fr HF13.out (fun a => a)) 1 (v := .int .i64 tt) rfl
        have n1 := Blk.cell (HY11.out.fr HF13.out (fun a => a)) 1 (v := .int .i64 t2) rfl
        have n2 := Blk.cell HZ13.out 1 (v := .int .i64 t3) rfl
        have HB13 := Lib.hid (below_t HB11.out (below_t HF12.out hal))
        have e1 : decide (tt ≤ t2) = true := decide_eq_true HGE.out
        have e2 : decide (tt ≤ t3) = true := decide_eq_true HGE2.out
        clear hal HF13 HF12 HK11 HX11 HY11 HZ13 HRG11
        go_wp2_with fail
        refine (HAL.out w13).mono ?_
        rintro e w14 ⟨rfl, hb14⟩
        have HB14 := Lib.hid (below_t HB13.out hb14)
        clear hb14
        go_wp2_with fail
        go_ret
        exact ⟨rfl, HB14.out⟩
set_option maxRecDepth 100000 in
theorem opn82 {H : Type} {enc : TypeId × Value → H} {w : World} {base : Nat} {spare : Nat → Bool} {held : Bool} {fuel : Nat} {cs : List Value} {x : DataW H × List MemPlace} (h : DataW.trod enc Try.prog w base spare held fuel 82 cs = some x) :
    ∃ q : {q : Int × Int // (Lit.int .u8 q.1).wf = true ∧ (Lit.int .u8 q.2).wf = true}, cs = [.int .u8 q.1.1, .int .u8 q.1.2] := by
  obtain ⟨m, hl, hr⟩ := trod_arr Try.underlying82 h
  rw [show Try.prog.cellsOf 82 = 2 by kernel_rfl] at hl
  obtain ⟨y0, h0⟩ := hr 0 (by decide)
  obtain ⟨y1, h1⟩ := hr 1 (by decide)
  rw [show Try.prog.cellsOf 5 = 1 by kernel_rfl] at h0 h1
  obtain ⟨a0, k0, g0⟩ := (Opn.int Try.underlying5) enc w base spare held m _ _ h0
  obtain ⟨a1, k1, g1⟩ := (Opn.int Try.underlying5) enc w base spare held m _ _ h1
  refine ⟨⟨(a0, a1), g0, g1⟩, ?_⟩
  match cs, hl with
  | [c0, c1], _ =>
    have k0' : [c0] = [.int .u8 a0] := k0
    have k1' : [c1] = [.int .u8 a1] := k1
    injection k0' with e0
    injection k1' with e1
    rw [e0, e1]
theorem fillgrows_law (A1 : Option Addr) (c1 : Nat) (ps : List S49) (hc1 : ps.length ≤ c1) (hm1 : c1 ≤ 9223372036854775807) {w : World} (h1 : Kd.C k49 w A1 ps.length ps) (g1 : ∀ x ∈ ps, (Lit.int .i64 x.f0).wf = true ∧ (Lit.int .i64 x.f1).wf = true ∧ (Lit.int .i64 x.f2).wf = true ∧ (Lit.int .i64 x.f3).wf = true ∧ (Lit.int .i64 x.f4).wf = true)
    (A2 : Option Addr) (c2 : Nat) (ws : List S51) (hc2 : ws.length ≤ c2) (hm2 : c2 ≤ 9223372036854775807) (h2 : Kd.C k51 w A2 ws.length ws) (g2 : ∀ x ∈ ws, (Lit.int .i64 x.f0).wf = true ∧ (Lit.int .i64 x.f1).wf = true ∧ (Lit.int .i64 x.f2).wf = true ∧ (Lit.int .i64 x.f3).wf = true ∧ (Lit.int .i64 x.f4).wf = true ∧ (Lit.int .i64 x.f5).wf = true) (T : Nat → Int)
    (AT : {q : Int × Int // (Lit.int .u8 q.1).wf = true ∧ (Lit.int .u8 q.2).wf = true}) {more : Int} (hmo : (Lit.int .u8 more).wf = true) :
    Calls Try.prog 16 #[.slice A1 ps.length c1, .slice A2 ws.length c2, vTar T, .agg #[.int .u8 AT.1.1, .int .u8 AT.1.2], .int .u8 more] w fun e w' => e = .returned (.bool true) ∧ Below w.heap.size w w' :=
  fillgrows_walk A1 c1 ps hc1 hm1 h1 g1 A2 c2 ws hc2 hm2 h2 g2 T AT.2.1 AT.2.2 hmo
end Go.Proofs.Ytpbndcmmclkdpaa
