/-
  The matrix of the reference's Block in memory, and its push walked (52).
-/
import Derived.Test.YtpbndcmmclkdpaaUa
import Derived.Test.YtpbndcmmclkdpaaQf
namespace Go.Proofs.Ytpbndcmmclkdpaa
open PFlowSolves
open Go.RowKit Go.Proofs.YtpbndcmmclkdpaaW.PrintWords
abbrev rowV (N : Nat) (r : Nat) : Value := .slice (some ⟨r, 0, none⟩) N N
/-- The matrix in memory: a row of rows. -/
structure MM (w : World) (mb N : Nat) (r : Nat → Nat) (R : Mx) : Prop where
  hd : TV w mb 23 N (fun i => rowV N (r i))
  row : ∀ i, i < N → TI w (r i) N (R i)
  inj : ∀ i j, i < N → j < N → r i = r j → i = j
  out : ∀ i, i < N → r i ≠ mb
abbrev RowsF (N : Nat) (r : Nat → Nat) : Nat → Prop := fun b => ∃ i, i < N ∧ b = r i
section
variable {w w' : World} {mb N : Nat} {r : Nat → Nat} {R : Mx}
theorem MM.fr {F : Nat → Prop} (h : MM w mb N r R) (hf : Fr F w w') (h1 : ¬ F mb) (h2 : ∀ i, i < N → ¬ F (r i)) : MM w' mb N r R :=
  ⟨h.hd.fr hf h1, fun i hi => (h.row i hi).fr hf (h2 i hi), h.inj, h.out⟩
theorem MM.fr0 (h : MM w mb N r R) (hf : Fr (fun _ => False) w w') : MM w' mb N r R := h.fr hf (fun a => a) (fun _ _ a => a)
theorem MM.below (h : MM w mb N r R) (hb : Below w.heap.size w w') : MM w' mb N r R := h.fr0 (Fr.of_below hb _)
theorem MM.drew (h : MM w mb N r R) : MM w.drew mb N r R := h.fr0 (Fr.refl _ _).drew
theorem MM.lt (h : MM w mb N r R) {i : Nat} (hi : i < N) : r i < w.heap.size := TV.lt (h.row i hi)
theorem MM.hcell (h : MM w mb N r R) {i : Nat} (hi : i < N) : w.cell? ⟨mb, i, none⟩ = some (.slice (some ⟨r i, 0, none⟩) N N) := TV.cell h.hd hi
theorem MM.cell (h : MM w mb N r R) {i j : Nat} (hi : i < N) (hj : j < N) : w.cell? ⟨r i, j, none⟩ = some (.int .i64 (R i j)) := TV.cell (h.row i hi) hj
theorem MM.free (h : MM w mb N r R) {i : Nat} (hi : i < N) (j : Nat) : w.frozen? ⟨r i, j, none⟩ = false := TV.free (h.row i hi) j
theorem MM.set (h : MM w mb N r R) {u : Nat} (hu : u < N) (v : Nat) (c : Int) : MM (w.setCell ⟨r u, v, none⟩ (.int .i64 c)) mb N r (putM R u v c) := by
  have hf : Fr (fun b => b = r u) w (w.setCell ⟨r u, v, none⟩ (.int .i64 c)) := (Fr.refl (fun b => b = r u) w).setCell (p := ⟨r u, v, none⟩) (.inl rfl) _
  refine ⟨h.hd.fr hf (fun e => h.out u hu e.symm), fun i hi => ?_, h.inj, h.out⟩
  by_cases e : i = u
  · subst e
    refine (TI.set (h.row i hi) v c).congr fun j _ => ?_
    unfold setN putM
    by_cases e2 : j = v
    · simp [e2]
    · simp [e2]
  · refine ((h.row i hi).fr hf (fun e2 => e (h.inj i u hi hu e2))).congr fun j _ => ?_
    unfold putM
    rw [if_neg (fun h => e h.1)]
theorem MM.congr {R' : Mx} (h : MM w mb N r R) (e : ∀ i j, i < N → j < N → R i j = R' i j) : MM w mb N r R' :=
  ⟨h.hd, fun i hi => (h.row i hi).congr fun j hj => by rw [e i j hi hj], h.inj, h.out⟩
end
theorem QI.at {ok : Nat → Prop} {w : World} {v : Value} {xs : List Int} (h : QI ok w v xs) : ∃ b off c, v = .slice (some ⟨b, off, none⟩) xs.length c ∧ ok b ∧ ∀ (i : Nat) (x : Int), xs[i]? = some x → w.cell? ⟨b, off + i, none⟩ = some (.int .i64 x) := by
  obtain ⟨b, off, cap, cs, e, h1, h2, h3, h4, h5, h6⟩ := h
  exact ⟨b, off, cap, e, h1, fun i x hx => Blk.cell h2 (off + i) (h6 i x hx)⟩
def PushPost (mb N s t : Nat) (r : Nat → Nat) (C R : Mx) (w : World) (e : Ending) (w' : World) : Prop :=
  (∃ m R', e = .returned (.int .i64 m) ∧ MM w' mb N r R' ∧ MF N s t C R' ∧
    ((m = 0 ∧ R' = R ∧ ∃ Z : Nat → Bool, Z s = true ∧ Z t = false ∧ ∀ i j, i < N → j < N → Z i = true → 0 < R i j → Z j = true) ∨ (0 < m ∧ leftM N s R' = leftM N s R - m))) ∧ Fr (RowsF N r) w w'
set_option maxRecDepth 100000 in
set_option maxHeartbeats 8000000 in
theorem mpush_any (w : World) {mb N s t : Nat} {r : Nat → Nat} {C R : Mx} (c : Nat) (h : MM w mb N r R) (hF : MF N s t C R) (hs : s < N) (ht : t < N) (hst : s ≠ t) (hN : N ≤ 1000) (hC : ∀ i j, 0 ≤ C i j ∧ C i j ≤ 1125899906842624) :
    Calls Try.prog 52 #[.slice (some ⟨mb, 0, none⟩) N c, .int .i64 s, .int .i64 t] w (PushPost mb N s t r C R w) := by
  have hmk := make_int w (n := N) (by omega)
  have HM := Lib.hid h
  have HF := Lib.hid hF
  have HC := Lib.hid hC
  have HST := Lib.hid hst
  have hT1 : TI (w.alloc (.cells (madeCells #[.int .i64 0] N) 3 (0, 0))) w.heap.size N (fun _ => 0) := TV.made w (.int .i64 0) 3 N
  have hB1 := below_alloc (Below.refl w.heap.size w) (.cells (madeCells #[.int .i64 0] N) 3 (0, 0))
  have HT := Lib.hid hT1
  have HB := Lib.hid hB1
  have HSZ : Hid (w.heap.size + 1 ≤ (w.alloc (.cells (madeCells #[.int .i64 0] N) 3 (0, 0))).heap.size) := Lib.hid (by simp)
  clear h hF hC hst hT1 hB1
  go_enter Try.func52, Try.ntmps52
  go_wp2_with fail
  generalize w.alloc (.cells (madeCells #[.int .i64 0] N) 3 (0, 0)) = w1 at *
  have HBW : Hid (∀ W, Fr (fun b => w.heap.size ≤ b) w W → MM W mb N r R) := Lib.hid (fun W hW => HM.out.fr hW (fun e => by have := TV.lt HM.out.hd; omega) (fun i hi e => by have := HM.out.lt hi; omega))
  obtain ⟨bb, hbb⟩ : ∃ bb, bb = w.heap.size := ⟨_, rfl⟩
  have HBB := Lib.hid hbb
  rw [← hbb]
  rw [← hbb] at HT
  clear hbb hmk
  go_loopg [9] N (fun kk v9 wr => ∃ i : Nat, v9 = .int .i64 i ∧ Hid (i + kk = N) ∧ Hid (∃ f, TI wr bb N f ∧ ∀ j, j < i → f j = -1) ∧ Hid (Fr (fun b => b = bb) w1 wr))
  case atStart => exact ⟨0, rfl, Lib.hid (by omega), Lib.hid ⟨_, HT.out, fun j hj => absurd hj (Nat.not_lt_zero _)⟩, Lib.hid (Fr.refl _ _)⟩
  case round =>
    obtain ⟨i, rfl, HI, HTF, HFR⟩ := hrel
    obtain ⟨wv, rfl⟩ : ∃ wv : World, wv = wr := ⟨_, rfl⟩
    by_cases hlt : i < N
    · have hi0 : (i : Int) < N := by omega
      have hiz : (0 : Int) ≤ i := by omega
      obtain ⟨f, hf1, hf2⟩ := HTF.out
      have q1 := TV.free hf1 i
      have q0 := TV.cell hf1 hlt
      have hw : IntKind.i64.wrap ((i : Int) + 1) = i + 1 := IntWalk.i64_in _ (by omega)
      have HLT := Lib.hid hlt
      have HF1 := Lib.hid hf1
      have HF2 := Lib.hid hf2
      clear hlt hf1 hf2 HTF
      go_wp2_with fail
      go_roundg (N - (i + 1))
      case measure => have := HI.out; have := HLT.out; omega
      case rel => exact ⟨i + 1, by go_num, Lib.hid (by have := HI.out; have := HLT.out; omega), Lib.hid ⟨_, TI.set HF1.out i (-1), fun j hj => by
          unfold setN
          by_cases e : j = i
          · rw [if_pos e]
          · rw [if_neg e]; exact HF2.out j (by omega)⟩, Lib.hid (HFR.out.setCell (p := ⟨bb, i, none⟩) (.inl rfl) _)⟩
    · have hnl : ¬ (i : Int) < N := by omega
      obtain ⟨f, hf1, hf2⟩ := HTF.out
      have HTI : Hid (TI wv bb N (fun _ => -1)) := Lib.hid (hf1.congr fun j hj => by rw [hf2 j (by have := HI.out; omega)])
      have HSN := Lib.hid hs
      have HTN := Lib.hid ht
      have hs0 : (s : Int) < N := by omega
      have hsz : (0 : Int) ≤ s := by omega
      have ht0 : (t : Int) < N := by omega
      have htz : (0 : Int) ≤ t := by omega
      have q1 := TV.free HTI.out s
      have q0 := TV.cell HTI.out hs
      clear hlt hf1 hf2 HTF hs ht HI
      have hT2 : TI ((wv.setCell ⟨bb, s, none⟩ (.int .i64 s)).alloc (.cells #[.int .i64 s] 3 (0, 0))) bb N (setB (fun _ => -1) s s) := (TI.set HTI.out s (s : Int)).alloc _
      have hQ2 : QI (fun k => bb + 1 ≤ k) ((wv.setCell ⟨bb, s, none⟩ (.int .i64 s)).alloc (.cells #[.int .i64 s] 3 (0, 0))) (.slice (some ⟨wv.heap.size, 0, none⟩) 1 1) [(s : Int)] := by
        have hz : (wv.setCell ⟨bb, s, none⟩ (.int .i64 s)).heap.size = wv.heap.size := by simp
        rw [← hz]
        exact QI.mk (Blk.new _ #[.int .i64 s] 3) (by rw [hz]; have := HFR.out.size; have := HSZ.out; have := HBB.out; omega)
      have hF2 : Fr (fun b => bb ≤ b) w ((wv.setCell ⟨bb, s, none⟩ (.int .i64 s)).alloc (.cells #[.int .i64 s] 3 (0, 0))) := by
        have f1 : Fr (fun b => bb ≤ b) w wv := (Fr.of_below HB.out (fun b => bb ≤ b)).trans (HFR.out.mono (G := fun b => bb ≤ b) (fun x h => .inl (by omega))) (fun x h => .inl h)
        exact (f1.setCell (p := ⟨bb, s, none⟩) (.inl (Nat.le_refl _)) _).alloc _
      have HQ2 := Lib.hid hQ2
      have HT2 := Lib.hid hT2
      have HF2 := Lib.hid hF2
      clear hT2 hQ2 hF2
      go_wp2_with fail
      generalize (wv.setCell ⟨bb, s, none⟩ (.int .i64 s)).alloc (.cells #[.int .i64 s] 3 (0, 0)) = w2 at *
      generalize wv.heap.size = qb at *
      clear HT HB HTI HFR q0 q1
      go_loopg [10, 11, 12] N (fun kk v10 v11 v12 wr => ∃ (i : Nat) (Q : List Nat) (Qi : List Int) (b : Nat → Int) (rk : Nat → Nat), v11 = .int .i64 i ∧ Hid (QI (fun k => bb + 1 ≤ k) wr v10 Qi) ∧ Hid (Qi = Q.map (fun v : Nat => (v : Int))) ∧ Hid (TI wr bb N b) ∧ Hid (BF N s R b rk Q) ∧
        Hid (i ≤ Q.length ∧ i + kk = N) ∧ Hid (∀ (j u : Nat), j < i → Q[j]? = some u → ∀ k, k < N → 0 < R u k → 0 ≤ b k) ∧ Hid (Fr (fun b => bb ≤ b) w wr))
      case atStart => exact ⟨0, [s], [(s : Int)], _, _, rfl, HQ2, Lib.hid rfl, HT2, Lib.hid (BF.start HSN.out), Lib.hid ⟨Nat.zero_le _, by omega⟩, Lib.hid (fun j u hj => absurd hj (Nat.not_lt_zero _)), HF2⟩
      case round =>
        clear HQ2 HT2 HF2
        obtain ⟨i, Q, Qi, b, rk, rfl, HQ, HQE, HTB, HBF, HI, HDN, HFR⟩ := hrel
        obtain ⟨wv, rfl⟩ : ∃ wv : World, wv = wr := ⟨_, rfl⟩
        obtain ⟨qa, qo, qc, rfl, hqk, hqa⟩ := HQ.out.at
        have HQK := Lib.hid hqk
        have HQA := Lib.hid hqa
        have HQL : Hid (Qi.length = Q.length) := Lib.hid (by rw [HQE.out, List.length_map])
        have q0 : wv.cell? ⟨bb, t, none⟩ = some (.int .i64 (b t)) := TV.cell HTB.out HTN.out
        have hQN := HBF.out.len
        have hQL := HQL.out
        clear hqk hqa
        by_cases hbt : b t < 0
        · have e1 : decide (b t < 0) = true := decide_eq_true hbt
          by_cases hlt : i < Q.length
          · have hi0 : (i : Int) < Qi.length := by omega
            have hiz : (0 : Int) ≤ i := by omega
            have HLT := Lib.hid hlt
            obtain ⟨u, hu⟩ : ∃ u, Q[i]? = some u := ⟨_, List.getElem?_eq_getElem hlt⟩
            have huN : u < N := HBF.out.lt u (List.mem_of_getElem? hu)
            have HU := Lib.hid hu
            have HUN := Lib.hid huN
            have hu0 : (0 : Int) ≤ u := by omega
            have hu1 : (u : Int) < N := by omega
            clear hlt hbt hQN hQL hu huN
            go_wp2_with fail
            clear q0 e1 hi0
            go_loopg [10, 12] N (fun kk v10 v12 wr => ∃ (k : Nat) (Q' : List Nat) (Qi' : List Int) (b' : Nat → Int) (rk' : Nat → Nat), v12 = .int .i64 k ∧ Hid (QI (fun k => bb + 1 ≤ k) wr v10 Qi') ∧ Hid (Qi' = Q'.map (fun v : Nat => (v : Int))) ∧ Hid (TI wr bb N b') ∧ Hid (BF N s R b' rk' Q') ∧
              Hid (k + kk = N) ∧ Hid (Q'[i]? = some u) ∧ Hid (∀ (j v : Nat), j < i → Q'[j]? = some v → ∀ k, k < N → 0 < R v k → 0 ≤ b' k) ∧ Hid (∀ j, j < k → 0 < R u j → 0 ≤ b' j) ∧ Hid (Fr (fun b => bb ≤ b) w wr))
            case atStart => exact ⟨0, Q, Qi, b, rk, rfl, HQ, HQE, HTB, HBF, Lib.hid (by omega), HU, HDN, Lib.hid (fun j hj => absurd hj (Nat.not_lt_zero _)), HFR⟩
            case round =>
              clear HQ HQE HTB HBF HDN HFR HQA HQK HQL HLT
              obtain ⟨k, Q', Qi', b', rk', rfl, HQ, HQE, HTB, HBF, HK, HQI, HDN, HPR, HFR⟩ := hrel
              obtain ⟨wv, rfl⟩ : ∃ wv : World, wv = wr := ⟨_, rfl⟩
              by_cases hk : k < N
              · have hk0 : (k : Int) < N := by omega
                have hkz : (0 : Int) ≤ k := by omega
                have hw : IntKind.i64.wrap ((k : Int) + 1) = k + 1 := IntWalk.i64_in _ (by omega)
                obtain ⟨qa, qo, qc, rfl, hqk, hqa⟩ := HQ.out.at
                have HQL : Hid (Qi'.length = Q'.length) := Lib.hid (by rw [HQE.out, List.length_map])
                have hiq : (i : Int) < Qi'.length := by have := (List.getElem?_eq_some_iff.1 HQI.out).1; rw [HQL.out]; omega
                have hiz : (0 : Int) ≤ i := by omega
                have x0 : wv.cell? ⟨qa, qo + i, none⟩ = some (.int .i64 (u : Int)) := hqa i u (by rw [HQE.out, List.getElem?_map, HQI.out]; rfl)
                have x1 : wv.cell? ⟨bb, k, none⟩ = some (.int .i64 (b' k)) := TV.cell HTB.out hk
                have x1' := TV.free HTB.out k
                have hMM := HBW.out wv (HBB.out ▸ HFR.out)
                have x2 := hMM.hcell HUN.out
                have x3 := hMM.cell HUN.out hk
                have HKL := Lib.hid hk
                have HQN : Hid (Qi'.length ≤ 100000) := Lib.hid (by rw [HQL.out]; have := HBF.out.len; omega)
                clear hqk hqa hMM hk
                by_cases hb : b' k < 0
                · have e2 : decide (b' k < 0) = true := decide_eq_true hb
                  by_cases hR : 0 < R u k
                  · have e3 : decide (0 < R u k) = true := decide_eq_true hR
                    have HADD := Lib.hid (HBF.out.add (List.mem_of_getElem? HQI.out) HKL.out hb hR)
                    have hb6 : Fr (fun b => bb ≤ b) wv (wv.setCell ⟨bb, k, none⟩ (.int .i64 u)) := (Fr.refl (fun b => bb ≤ b) wv).setCell (p := ⟨bb, k, none⟩) (.inl (Nat.le_refl _)) _
                    have hb7 : Fr (fun b => b = bb) wv (wv.setCell ⟨bb, k, none⟩ (.int .i64 u)) := (Fr.refl (fun b => b = bb) wv).setCell (p := ⟨bb, k, none⟩) (.inl rfl) _
                    have HT6 := Lib.hid (TI.set HTB.out k (u : Int))
                    have HQ6 := Lib.hid (HQ.out.fr hb7 (fun x hx => by omega))
                    have HF6 := Lib.hid (HFR.out.trans hb6 (fun x h => .inl h))
                    clear hb hR hb6 hb7
                    go_upto_region 17 with (fail)
                    generalize wv.setCell ⟨bb, k, none⟩ (.int .i64 u) = w6 at *
                    clear x0 x1 x1' x2 x3
                    have HCL := Lib.hid (Blk.cell (Blk.new w6 #[.int .i64 (k : Int)] 3) 0 rfl)
                    go_wp2_with (at_builtin; refine wpList_append_q rfl _ _ rfl rfl (HQ6.out.alloc (.cells #[.int .i64 (k : Int)] 3)) ⟨w6.heap.size, 0, none⟩ 1 (k : Int) rfl HCL.out HQN.out (fun x hx => by have h1 := HF6.out.size; have h2 := HBB.out; have h3 := TV.lt HT6.out; simp at hx; omega) ?_; intro v7 w7 hq7 hf7)
                    have HQ7 := Lib.hid hq7
                    have HF7 := Lib.hid ((HF6.out.alloc (.cells #[.int .i64 (k : Int)] 3)).trans (hf7.mono (G := fun b => bb ≤ b) (fun x hx => .inl (by omega))) (fun x h => .inl h))
                    have HT7 := Lib.hid ((TV.alloc HT6.out (.cells #[.int .i64 (k : Int)] 3)).fr hf7 (by omega))
                    clear hq7 hf7
                    go_wp2_with fail
                    go_roundg (N - (k + 1))
                    case measure => have := HK.out; have := HKL.out; omega
                    case rel => exact ⟨k + 1, Q' ++ [k], Qi' ++ [(k : Int)], _, _, by go_num, HQ7, Lib.hid (by rw [HQE.out, List.map_append]; rfl), HT7, HADD, Lib.hid (by have := HK.out; have := HKL.out; omega), Lib.hid (by rw [List.getElem?_append_left (List.getElem?_eq_some_iff.1 HQI.out).1]; exact HQI.out),
                        Lib.hid (fun j v hj hv x hx hR => by
                          rw [List.getElem?_append_left (by have := (List.getElem?_eq_some_iff.1 HQI.out).1; omega)] at hv
                          have := HDN.out j v hj hv x hx hR
                          unfold setN; split
                          · omega
                          · exact this),
                        Lib.hid (fun j hj hR => by
                          unfold setN
                          by_cases e : j = k
                          · rw [if_pos e]; omega
                          · rw [if_neg e]; exact HPR.out j (by omega) hR), HF7⟩
                  · have e3 : decide (0 < R u k) = false := decide_eq_false hR
                    have HPR2 : Hid (∀ j, j < k + 1 → 0 < R u j → 0 ≤ b' j) := Lib.hid (fun j hj h => by
                      by_cases e : j = k
                      · subst e; exact absurd h hR
                      · exact HPR.out j (by omega) h)
                    clear hb hR
                    go_wp2_with fail
                    go_roundg (N - (k + 1))
                    case measure => have := HK.out; have := HKL.out; omega
                    case rel => exact ⟨k + 1, Q', Qi', b', rk', by go_num, HQ, HQE, HTB, HBF, Lib.hid (by have := HK.out; have := HKL.out; omega), HQI, HDN, HPR2, HFR⟩
                · have e2 : decide (b' k < 0) = false := decide_eq_false hb
                  have HPR2 : Hid (∀ j, j < k + 1 → 0 < R u j → 0 ≤ b' j) := Lib.hid (fun j hj h => by
                    by_cases e : j = k
                    · subst e; omega
                    · exact HPR.out j (by omega) h)
                  clear hb
                  go_wp2_with fail
                  go_roundg (N - (k + 1))
                  case measure => have := HK.out; have := HKL.out; omega
                  case rel => exact ⟨k + 1, Q', Qi', b', rk', by go_num, HQ, HQE, HTB, HBF, Lib.hid (by have := HK.out; have := HKL.out; omega), HQI, HDN, HPR2, HFR⟩
              · have hnk : ¬ (k : Int) < N := by omega
                have hwi : IntKind.i64.wrap ((i : Int) + 1) = i + 1 := IntWalk.i64_in _ (by have := HI.out; omega)
                have HDN2 : Hid (∀ (j v : Nat), j < i + 1 → Q'[j]? = some v → ∀ k, k < N → 0 < R v k → 0 ≤ b' k) := Lib.hid (fun j v hj hv x hx h => by
                  by_cases e : j = i
                  · subst e; rw [HQI.out] at hv; rw [← Option.some.inj hv] at h; exact HPR.out x (by have := HK.out; omega) h
                  · exact HDN.out j v (by omega) hv x hx h)
                have hil : i < Q'.length := (List.getElem?_eq_some_iff.1 HQI.out).1
                have HIL := Lib.hid (And.intro hil HBF.out.len)
                clear hk hil
                go_wp2_with fail
                go_roundg (N - (i + 1))
                case measure => have := HI.out; have := HIL.out; omega
                case rel => exact ⟨i + 1, Q', Qi', b', rk', by go_num, HQ, HQE, HTB, HBF, Lib.hid (by have := HI.out; have := HIL.out; omega), HDN2, HFR⟩
          · have hnl : ¬ (i : Int) < Qi.length := by omega
            have HZ : Hid (∃ Z : Nat → Bool, Z s = true ∧ Z t = false ∧ ∀ i j, i < N → j < N → Z i = true → 0 < R i j → Z j = true) := Lib.hid ⟨fun v => decide (0 ≤ b v), by
                have := HBF.out.root; simp; omega, by simp; omega, fun u k hu hk hZ hR => by
                simp only [decide_eq_true_eq] at hZ ⊢
                obtain ⟨j, hj⟩ := List.getElem?_of_mem ((HBF.out.mem u hu).1 hZ)
                exact HDN.out j u (by have := (List.getElem?_eq_some_iff.1 hj).1; omega) hj k hk hR⟩
            clear hlt hbt hQN hQL
            go_wp2_with fail
            go_ret
            exact ⟨⟨0, R, rfl, HBW.out wv (HBB.out ▸ HFR.out), HF.out, .inl ⟨rfl, rfl, HZ.out⟩⟩, HFR.out.to_below (Nat.le_refl _) (fun x h => by have := HBB.out; omega) |> fun h => Fr.of_below h _⟩
        · have e1 : decide (b t < 0) = false := decide_eq_false hbt
          obtain ⟨l, hl1, hl2, hl3⟩ := HBF.out.wayM HTN.out (by omega)
          have HP := Lib.hid hl1
          have HND := Lib.hid hl3
          have HAL := Lib.hid hl2
          have hMM := HBW.out wv (HBB.out ▸ HFR.out)
          have HMV := Lib.hid hMM
          obtain ⟨ut, hut⟩ : ∃ ut : Nat, b t = ut := ⟨(b t).toNat, by omega⟩
          have hutN : ut < N := by have := HBF.out.rng t HTN.out; omega
          have hu0 : (0 : Int) ≤ ut := by omega
          have hu1 : (ut : Int) < N := by omega
          have x2 := hMM.hcell hutN
          have x3 := hMM.cell hutN HTN.out
          have HB0 : Hid (t ∈ l ∧ (b t).toNat = ut) := Lib.hid ⟨by
            cases hl1 with
            | nil => exact absurd rfl HST.out
            | cons _ _ => exact List.mem_cons_self .., by omega⟩
          rw [hut] at q0
          have hor : (i : Int) < Qi.length ∨ ¬ (i : Int) < Qi.length := by omega
          have hiz : (0 : Int) ≤ i := by omega
          rw [hut] at e1
          have HBWP := HBF
          clear hbt hl1 hl2 hl3 hMM hut hutN hQN hQL HDN HQE HQK HQA HQL HQ
          rcases hor with hA | hA
          all_goals
            go_wp2_with fail
            clear x2 x3 q0 e1 hA
            have HHI : Hid (∀ i j, i < N → j < N → 0 ≤ R i j ∧ R i j ≤ 2251799813685248) := Lib.hid (fun i j hi hj => ⟨HF.out.nn i j hi hj, by have h1 := HF.out.nn j i hj hi; have h2 := HF.out.pair i j; have h3 := HC.out i j; have h4 := HC.out j i; omega⟩)
            have HUT : Hid (ut < N ∧ 0 < R ut t) := Lib.hid (by obtain ⟨_, _, q3, _, _, q6⟩ := HND.out t HB0.out.1; rw [HB0.out.2] at q3 q6; exact ⟨q3, q6⟩)
            go_loopg [13, 14] l.length (fun kk v13 v14 wr => ∃ (k : Nat) (ld lr : List Nat) (m : Int), v13 = .int .i64 m ∧ v14 = .int .i64 k ∧ Hid (Pth b s k lr) ∧ Hid (l = ld ++ lr) ∧ Hid (lr.length = kk) ∧ Hid (∀ v ∈ ld, m ≤ R (b v).toNat v) ∧ Hid (0 < m ∧ m ≤ R ut t) ∧ wv = wr)
            case atStart => exact ⟨t, [], l, R ut t, rfl, rfl, HP, Lib.hid rfl, Lib.hid rfl, Lib.hid (fun v hv => absurd hv (List.not_mem_nil)), Lib.hid ⟨HUT.out.2, Int.le_refl _⟩, rfl⟩
            case round =>
              obtain ⟨k, ld, lr, m, rfl, rfl, HPT, HLL, HLK, HMI, HMM, rfl⟩ := hrel
              by_cases hks : k = s
              · have e5 : ((k : Int) != (s : Int)) = false := by simp [hks]
                have hlr : lr = [] := by
                  have := HPT.out
                  rw [hks] at this
                  cases this with
                  | nil => rfl
                  | cons h _ => exact absurd rfl h
                have HWM : Hid (WayM N R b m l) := Lib.hid ⟨fun v hv => by obtain ⟨q1, _, q3, q4, _, _⟩ := HND.out v hv; exact ⟨q1, q3, q4⟩, fun v hv => HMI.out v (by have := HLL.out; rw [hlr, List.append_nil] at this; rw [← this]; exact hv), HAL.out⟩
                have HF0 := Lib.hid (Fr.refl (RowsF N r) wv)
                have HMB : Hid (0 < m ∧ m ≤ 2251799813685248) := Lib.hid ⟨HMM.out.1, Int.le_trans HMM.out.2 (HHI.out ut t HUT.out.1 HTN.out).2⟩
                clear hks hlr HPT HLL HLK HMI HMM
                go_wp2_with fail
                go_loopg [15] l.length (fun kk v15 wr => ∃ (k : Nat) (ld lr : List Nat), v15 = .int .i64 k ∧ Hid (Pth b s k lr) ∧ Hid (l = ld ++ lr) ∧ Hid (lr.length = kk) ∧ Hid (MM wr mb N r (pushM m b R ld)) ∧ Hid (TI wr bb N b) ∧ Hid (Fr (RowsF N r) wv wr))
                case atStart => exact ⟨t, [], l, rfl, HP, Lib.hid rfl, Lib.hid rfl, HMV, HTB, HF0⟩
                case round =>
                  obtain ⟨k, ld, lr, rfl, HPT, HLL, HLK, HMR, HTR, HFW⟩ := hrel
                  obtain ⟨wx, rfl⟩ : ∃ wx : World, wx = wr := ⟨_, rfl⟩
                  by_cases hks : k = s
                  · have e5 : ((k : Int) != (s : Int)) = false := by simp [hks]
                    have hlr : lr = [] := by
                      have := HPT.out
                      rw [hks] at this
                      cases this with
                      | nil => rfl
                      | cons h _ => exact absurd rfl h
                    have HLD : Hid (ld = l) := Lib.hid (by have := HLL.out; rw [hlr, List.append_nil] at this; exact this.symm)
                    clear hks hlr
                    go_wp2_with fail
                    go_ret
                    refine ⟨⟨m, pushM m b R ld, rfl, HMR.out, ?_, .inr ⟨HMB.out.1, ?_⟩⟩, ?_⟩
                    · rw [HLD.out]; exact HF.out.push (Int.le_of_lt HMB.out.1) HP.out HWM.out
                    · rw [HLD.out]; exact leftM_push HST.out HP.out HWM.out.rng
                    · exact ((Fr.of_below (HFR.out.to_below (Nat.le_refl _) (fun x h => by have := HBB.out; omega)) (RowsF N r)).trans HFW.out (fun x h => .inl h))
                  · have e5 : ((k : Int) != (s : Int)) = true := by simp; omega
                    obtain ⟨lr', hlr, hpt⟩ : ∃ lr', lr = k :: lr' ∧ Pth b s (b k).toNat lr' := by
                      cases HPT.out with
                      | nil => exact absurd rfl hks
                      | cons _ h => exact ⟨_, rfl, h⟩
                    have hkl : k ∈ l := by rw [HLL.out, hlr]; exact List.mem_append_right _ (List.mem_cons_self ..)
                    obtain ⟨kN, _, uN, une, ub, _⟩ := HND.out k hkl
                    obtain ⟨u, hu⟩ : ∃ u : Nat, b k = u := ⟨(b k).toNat, by omega⟩
                    rw [hu, Int.toNat_natCast] at uN une hpt
                    have HPT2 := Lib.hid hpt
                    have HUE : Hid ((b k).toNat = u ∧ u ≠ k ∧ u < N ∧ k < N) := Lib.hid ⟨by omega, une, uN, kN⟩
                    have HLR := Lib.hid hlr
                    have hwp : WayM N R b m ld := ⟨fun v hv => HWM.out.rng v (by rw [HLL.out]; exact List.mem_append_left _ hv), fun v hv => HWM.out.room v (by rw [HLL.out]; exact List.mem_append_left _ hv), by have := HWM.out.nd; rw [HLL.out, List.nodup_append] at this; exact this.1⟩
                    have hbd : ∀ i j, i < N → j < N → 0 ≤ pushM m b R ld i j ∧ pushM m b R ld i j ≤ 2251799813685248 := fun i j hi hj => by
                      have g1 := pushM_nonneg (Int.le_of_lt HMB.out.1) HF.out.nn hwp
                      have g2 := pushM_pair (m := m) (R := R) hwp.rng i j
                      have g3 := HF.out.pair i j; have g4 := HC.out i j; have g5 := HC.out j i
                      have g6 := g1 i j hi hj; have g7 := g1 j i hj hi
                      omega
                    have b1 := hbd u k uN kN
                    have b2 := hbd k u kN uN
                    have bm := HMB.out
                    have hw1 : IntKind.i64.wrap (pushM m b R ld u k - m) = pushM m b R ld u k - m := IntWalk.i64_in _ (by omega)
                    have hw2 : IntKind.i64.wrap (pushM m b R ld k u + m) = pushM m b R ld k u + m := IntWalk.i64_in _ (by omega)
                    have hk0 : (k : Int) < N := by omega
                    have hkz : (0 : Int) ≤ k := by omega
                    have hu0 : (0 : Int) ≤ u := by omega
                    have hu1 : (u : Int) < N := by omega
                    have x0 : wx.cell? ⟨bb, k, none⟩ = some (.int .i64 (u : Int)) := by have := TV.cell HTR.out kN; simp only [hu] at this; exact this
                    have x1 := HMR.out.hcell uN
                    have x2 := HMR.out.cell uN kN
                    have x3 := HMR.out.free uN k
                    have hM5 := HMR.out.set uN k (pushM m b R ld u k - m)
                    have hT5 : TI (wx.setCell ⟨r u, k, none⟩ (.int .i64 (pushM m b R ld u k - m))) bb N b := HTR.out.fr ((Fr.refl (fun b => b = r u) wx).setCell (p := ⟨r u, k, none⟩) (.inl rfl) _) (fun e => by have := HM.out.lt uN; have := HBB.out; omega)
                    have hF5 : Fr (RowsF N r) wv (wx.setCell ⟨r u, k, none⟩ (.int .i64 (pushM m b R ld u k - m))) := HFW.out.setCell (p := ⟨r u, k, none⟩) (.inl ⟨u, uN, rfl⟩) _
                    have y0 : (wx.setCell ⟨r u, k, none⟩ (.int .i64 (pushM m b R ld u k - m))).cell? ⟨bb, k, none⟩ = some (.int .i64 (u : Int)) := by have := TV.cell hT5 kN; simp only [hu] at this; exact this
                    have y1 := hM5.hcell kN
                    have y2 := hM5.cell kN uN
                    rw [putM_ne (fun h => une h.1.symm)] at y2
                    have y3 := hM5.free kN u
                    have hM6 := hM5.set kN u (pushM m b R ld k u + m)
                    have HM6 := Lib.hid hM6.drew
                    have HT6 : Hid (TI (((wx.setCell ⟨r u, k, none⟩ (.int .i64 (pushM m b R ld u k - m))).setCell ⟨r k, u, none⟩ (.int .i64 (pushM m b R ld k u + m))).drew) bb N b) := Lib.hid (hT5.fr ((Fr.refl (fun b => b = r k) _).setCell (p := ⟨r k, u, none⟩) (.inl rfl) _).drew (fun e => by have := HM.out.lt kN; have := HBB.out; omega))
                    have HF6 : Hid (Fr (RowsF N r) wv (((wx.setCell ⟨r u, k, none⟩ (.int .i64 (pushM m b R ld u k - m))).setCell ⟨r k, u, none⟩ (.int .i64 (pushM m b R ld k u + m))).drew)) := Lib.hid (hF5.setCell (p := ⟨r k, u, none⟩) (.inl ⟨k, kN, rfl⟩) _).drew
                    clear hks hlr hpt hkl kN uN une ub hu hwp hbd b1 b2 bm hM5 hT5 hF5 hM6 HMR HTR HFW
                    have HPS : Hid (pushM m b R (ld ++ [k]) = putM (putM (pushM m b R ld) u k (pushM m b R ld u k - m)) k u (pushM m b R ld k u + m)) := Lib.hid (by rw [pushM_snoc, HUE.out.1]; rfl)
                    generalize pushM m b R ld = R' at *
                    go_upto_region 29 with (fail)
                    generalize wx.setCell ⟨r u, k, none⟩ (.int .i64 (R' u k - m)) = w5 at *
                    clear x0 x1 x2 x3
                    refine calm ?_
                    go_region_law (first | fail)
                    all_goals
                      simp only [Calm]
                      generalize (w5.setCell ⟨r k, u, none⟩ (.int .i64 (R' k u + m))).drew = w6 at *
                      have z0 : w6.cell? ⟨bb, k, none⟩ = some (.int .i64 (u : Int)) := by
                        have := TV.cell HT6.out HUE.out.2.2.2
                        have e : b k = (u : Int) := by obtain ⟨_, _, _, _, ub, _⟩ := HND.out k (by rw [HLL.out, HLR.out]; exact List.mem_append_right _ (List.mem_cons_self ..)); have := HUE.out.1; omega
                        simp only [e] at this; exact this
                      clear y0 y1 y2 y3
                      go_wp2_with fail
                      go_roundg (lr'.length)
                      case measure => have := HLK.out; rw [HLR.out, List.length_cons] at this; omega
                      case rel => exact ⟨u, ld ++ [k], lr', rfl, HPT2, Lib.hid (by rw [HLL.out, HLR.out, List.append_assoc]; rfl), Lib.hid rfl, Lib.hid (by rw [HPS.out]; exact HM6.out), HT6, HF6⟩
              · have e5 : ((k : Int) != (s : Int)) = true := by simp; omega
                obtain ⟨lr', hlr, hpt⟩ : ∃ lr', lr = k :: lr' ∧ Pth b s (b k).toNat lr' := by
                  cases HPT.out with
                  | nil => exact absurd rfl hks
                  | cons _ h => exact ⟨_, rfl, h⟩
                have hkl : k ∈ l := by rw [HLL.out, hlr]; exact List.mem_append_right _ (List.mem_cons_self ..)
                obtain ⟨kN, _, uN, une, ub, ur⟩ := HND.out k hkl
                obtain ⟨u, hu⟩ : ∃ u : Nat, b k = u := ⟨(b k).toNat, by omega⟩
                rw [hu, Int.toNat_natCast] at uN une hpt ur
                have HPT2 := Lib.hid hpt
                have HLR := Lib.hid hlr
                have HUE : Hid ((b k).toNat = u ∧ 0 < R u k) := Lib.hid ⟨by omega, ur⟩
                have hk0 : (k : Int) < N := by omega
                have hkz : (0 : Int) ≤ k := by omega
                have hu0 : (0 : Int) ≤ u := by omega
                have hu1 : (u : Int) < N := by omega
                have x0 : wv.cell? ⟨bb, k, none⟩ = some (.int .i64 (u : Int)) := by have := TV.cell HTB.out kN; simp only [hu] at this; exact this
                have x1 := HMV.out.hcell uN
                have x2 := HMV.out.cell uN kN
                clear hks hlr hpt hkl kN uN une ub ur hu
                go_wp2_with fail
                all_goals
                  go_roundg (lr'.length)
                  case measure => have := HLK.out; rw [HLR.out, List.length_cons] at this; omega
                  case rel => exact ⟨u, ld ++ [k], lr', _, rfl, rfl, HPT2, Lib.hid (by rw [HLL.out, HLR.out, List.append_assoc]; rfl), Lib.hid rfl, Lib.hid (fun v hv => by
                    rcases List.mem_append.1 hv with hv | hv
                    · have := HMI.out v hv; omega
                    · rw [List.mem_singleton] at hv; subst hv; rw [HUE.out.1]; omega), Lib.hid (by have := HMM.out; have := HUE.out; omega), rfl⟩
end Go.Proofs.Ytpbndcmmclkdpaa
