/-
  Compressed of the reference walked: what Compress leaves is accepted.
-/
import Derived.Test.YtcobihdjcdefmaaZCf
import Derived.Test.YtcobihdjcdefmaaZFVd
namespace Go.Proofs.Ytcobihdjcdefmaa
open PAccountsCompress
open Go.RowKit Go.Proofs.YtcobihdjcdefmaaW.PrintWords
section
variable {m : Nat} {A : Nat → Ar} {x y : Nat → Int}
theorem res_congr (h : ∀ i, i < m → x i = y i) {s : Stp} (hr : Res m A x s) : Res m A y s := by
  obtain ⟨⟨h0, h1⟩, h2⟩ := hr
  refine ⟨⟨h0, h1⟩, ?_⟩
  have e := h s.f0.toNat (by omega)
  unfold spr at h2 ⊢
  rw [← e]; exact h2
theorem feas_congr (h : ∀ i, i < m → x i = y i) {p : Int → Int} (hf : Feas m A x p) : Feas m A y p := fun s hs => hf s (res_congr (fun i hi => (h i hi).symm) hs)
theorem lex_congr (h : ∀ i, i < m → x i = y i) {p : Int → Int} (hl : LexCert m A x p) : LexCert m A y p := fun i hi hr hx => by
  obtain ⟨R, r1, r2, r3⟩ := hl i hi hr (by rw [h i hi]; exact hx)
  exact ⟨R, r1, r2, fun s hs => r3 s (res_congr (fun i hi => (h i hi).symm) hs)⟩
theorem best_of (h : ∀ i, i < m → x i = y i) {p : Int → Int} (hf : Feas m A x p) (hl : LexCert m A x p) (first : Int) : BestOk m A y first :=
  ⟨⟨p, feas_congr h hf⟩, fun _ _ _ hi _ hx ht => no_round (feas_congr h hf) (lex_congr h hl) hi hx ht⟩
end
section
variable {P : Program} {ops : Array Oper} {o : Oper} {a : Act} {Q : Exit → Act → World → Prop} {Kc : Act → World → Prop} {α : Type}
/-- 'append(v, x)' inside a region that draws: the box behind the draw. -/
theorem R_append_step_f (d : Kd α) {w0 W : World} (base : Nat) (hw : Region.wanted o (yielded ops a.tmps) = true) (s x : Operand) (t e : TypeId) (z : Value) (bytes : Nat)
    (ho : o.op = .call { callee := .builtin .append, args := #[s, x], argTypes := #[t, t] })
    (ht : P.underlying t = some (.slice e)) (hinfo : (P.info? e).map (fun i => (i.zero, i.size, i.bytes)) = some (some z, d.sz, bytes)) (hz : z.cells.size = d.sz) (hs0 : 0 < d.sz) (hb0 : 0 < bytes)
    (v : Value) (xs : List α) (p : α) (cs : List Value) (ok okp : Nat → Prop) (hs : a.eval s = v) (hx : a.eval x = .slice (some ⟨W.heap.size, 0, none⟩) 1 1) (hp : d.M W base okp p cs) (hokp : ∀ k, okp k → ok k ∧ some k ≠ v.ownBlock) (hfresh : ∀ k, W.heap.size ≤ k → ok k)
    (HO : d.R e W base ok v xs) (HB : Below base w0 W) (hbase : base ≤ W.heap.size) (hl : (xs.length + 1) * bytes ≤ 140737488355328)
    (h : ∀ v1 w1, d.R e w1 base ok v1 (xs ++ [p]) → Below base w0 w1 → W.grownBy w1 v.ownBlock → Kc (a.put o.dst v1) w1) :
    if Region.wanted o (yielded ops a.tmps) = true then Oper.wp P o a (W.alloc (.cells cs.toArray e)).drew Kc Q else Kc (a.put o.dst undef) (W.alloc (.cells cs.toArray e)).drew := by
  refine Kd.R_append_step d (W := W.drew) (w0 := w0) base hw s x t e z bytes ho ht hinfo hz hs0 hb0 v xs p cs ok okp hs hx (d.M_move (w := W) (w1 := W.drew) (fun _ _ => rfl) hp) hokp hfresh (Kd.R_move (w := W) (w1 := W.drew) HO (fun _ _ => rfl)) HB.drew hbase hl ?_
  intro v1 w1 hR hb hg hat
  exact h v1 w1 hR hb ⟨hg.os, hg.tape, hg.output, hg.size, hg.block⟩
end
/-- What was cancelled, in the order of the arcs. -/
def goneN (O : Mt) (x : Nat → Int) (a : Nat) : List Int := (pairsL (offD O.length) a).map (fun b => x (rank (offD O.length) b))
theorem goneN_len (O : Mt) (x : Nat → Int) (a : Nat) : (goneN O x a).length = rank (offD O.length) a := List.length_map ..
theorem goneN_next {O : Mt} {x : Nat → Int} {i j : Nat} (hi : i < O.length) (hj : j < O.length) : goneN O x (i * O.length + j + 1) = goneN O x (i * O.length + j) ++ (if i ≠ j then [x (rank (offD O.length) (i * O.length + j))] else []) := by
  unfold goneN
  rw [pairsL_succ, List.map_append, offD_at hi hj]
  congr 1
  by_cases h : i = j
  · rw [decide_eq_false (fun g => g h), if_neg (show ¬ (false = true) by simp), if_neg (fun g : i ≠ j => g h)]; rfl
  · rw [decide_eq_true h, if_pos rfl, if_pos h]; rfl
theorem goneN_at {O : Mt} {x : Nat → Int} {t : Nat} (h : t < (LL O).length) : xsF (goneN O x (O.length * O.length)) t = x t := by
  show (List.map _ _).getD t 0 = _
  rw [List.getD_eq_getElem?_getD, List.getElem?_map, pr_at h]
  show x (rank (offD O.length) (prO O t)) = x t
  rw [(pr_ok h).2.2.2.2]
theorem valid_congr {m : Nat} {A : Nat → Ar} {x y : Nat → Int} (h : ∀ i, i < m → x i = y i) (hv : Valid m A x) : Valid m A y := fun i hi => by rw [← h i hi]; exact hv i hi
theorem bal_congr {m : Nat} {A : Nat → Ar} {x y : Nat → Int} (h : ∀ i, i < m → x i = y i) (v : Int) : balF m A y v = balF m A x v := sumN_congr fun i hi => by rw [h i hi]
theorem left_ne {O : Mt} {x : Nat → Int} (hg : Good O) (hv : Valid (LL O).length (arcF (LL O)) x) {i k : Nat} (hi : i < O.length) (hk : k < O.length) : 0 ≤ leftF O x i k ∧ leftF O x i k ≤ Ex O i k ∧ (i ≠ k → Ex O i k - leftF O x i k = x (rank (offD O.length) (i * O.length + k))) := by
  have h1 := hg.ex hi hk
  by_cases e : i = k
  · subst e; rw [leftF_eq]; exact ⟨h1.1, Int.le_refl _, fun h => absurd rfl h⟩
  · have := valid_ex hv hi hk e
    rw [leftF_ne hi hk e]
    exact ⟨by omega, by omega, fun _ => by omega⟩
set_option maxRecDepth 100000 in
set_option maxHeartbeats 8000000 in
theorem rcompressed_any (w : World) (A : Option Addr) (c : Nat) (O : Mt) (hC : Kd.C kRow w A O.length O) (B : Option Addr) (d : Nat) (x : Nat → Int) (hL : Kd.C kRow w B O.length (leftL O x)) (hn : O.length ≤ 10) (hg : Good O) (hs : Sol O x) :
    Calls Try.prog 17 #[.slice A O.length c, .slice B O.length d] w fun e w' => e = .returned (.bool true) ∧ Below w.heap.size w w' := by
  have HC := Lib.hid hC
  have HD := Lib.hid hL
  have HN := Lib.hid hn
  have HG := Lib.hid hg
  have HS := Lib.hid hs
  clear hC hL hn hg hs
  go_enter Try.func17, Try.ntmps17
  go_wp2_with fail
  go_loopg [6, 7, 8] O.length (fun k v6 v7 v8 wr => ∃ i : Nat, v8 = .int .i64 i ∧ Hid (i + k = O.length) ∧ Hid (Kd.R k69 69 wr w.heap.size (fun b => w.heap.size ≤ b) v6 (arcsN O (i * O.length))) ∧ Hid (Kd.R (Kd.int .i64) 3 wr w.heap.size (fun b => w.heap.size ≤ b) v7 (goneN O x (i * O.length))) ∧ Hid (Below w.heap.size w wr))
  case atStart => exact ⟨0, rfl, Lib.hid (by omega), Lib.hid (by rw [Nat.zero_mul]; exact Kd.R_nil _ _ _ _ _), Lib.hid (by rw [Nat.zero_mul]; exact Kd.R_nil _ _ _ _ _), Lib.hid (Below.refl _ _)⟩
  case round =>
    obtain ⟨i, rfl, HI, HR, HQ, HB⟩ := hrel
    obtain ⟨wv, rfl⟩ : ∃ wv : World, wv = wr := ⟨_, rfl⟩
    by_cases hlt : i < O.length
    · have hi0 : (i : Int) < O.length := by omega
      have hiz : (0 : Int) ≤ i := by omega
      have hw : IntKind.i64.wrap ((i : Int) + 1) = i + 1 := IntWalk.i64_in _ (by have := HN.out; omega)
      obtain ⟨ad, Ai, ci, rfl, k0w, hci, hCi⟩ := at_L3 HC.out (i : Int) hiz hi0
      obtain ⟨bd, Bi, di, rfl, l0w, hdi, hDi⟩ := at_L3 HD.out (i : Int) hiz hi0
      rw [rdL] at k0w hci hCi l0w hdi hDi
      have hrl := (HG.out i hlt).1
      rw [rowsM_row hlt] at l0w hdi hDi
      rw [vecL_len] at l0w hdi
      rw [hrl] at k0w
      rw [Int.toNat_natCast] at k0w l0w
      have HK : Hid (∀ W, Below w.heap.size w W → W.cell? (ad.add i) = some (.slice Ai O.length ci) ∧ W.cell? (bd.add i) = some (.slice Bi O.length di)) := Lib.hid (fun W hW => ⟨(hW.cell (World.block_lt_of_cell? w _ k0w)).trans k0w, (hW.cell (World.block_lt_of_cell? w _ l0w)).trans l0w⟩)
      have HCI := Lib.hid hCi
      have HDI := Lib.hid hDi
      have HRL := Lib.hid hrl
      have HLT := Lib.hid hlt
      clear hlt k0w l0w hci hdi hCi hDi hrl
      obtain ⟨k0, l0⟩ := HK.out _ HB.out
      go_wp2_with fail
      clear k0 l0
      go_loopg [6, 7, 9] O.length (fun k v6 v7 v9 wr => ∃ j : Nat, v9 = .int .i64 j ∧ Hid (j + k = O.length) ∧ Hid (Kd.R k69 69 wr w.heap.size (fun b => w.heap.size ≤ b) v6 (arcsN O (i * O.length + j))) ∧ Hid (Kd.R (Kd.int .i64) 3 wr w.heap.size (fun b => w.heap.size ≤ b) v7 (goneN O x (i * O.length + j))) ∧ Hid (Below w.heap.size w wr))
      case atStart => exact ⟨0, rfl, Lib.hid (by omega), HR, HQ, HB⟩
      case round =>
        clear HR HQ HB
        obtain ⟨j, rfl, HJ, HR, HQ, HB⟩ := hrel
        obtain ⟨wx, rfl⟩ : ∃ wx : World, wx = wr := ⟨_, rfl⟩
        by_cases hjl : j < O.length
        · have hj0 : (j : Int) < O.length := by omega
          have hjz : (0 : Int) ≤ j := by omega
          have hwj : IntKind.i64.wrap ((j : Int) + 1) = j + 1 := IntWalk.i64_in _ (by have := HN.out; omega)
          obtain ⟨pd, rfl, m0⟩ := Kd.at_int HCI.out (j : Int) hjz (by rw [HRL.out]; exact hj0)
          obtain ⟨qd, rfl, n0⟩ := Kd.at_int HDI.out (j : Int) hjz (by rw [vecL_len]; exact hj0)
          rw [rdE, Int.toNat_natCast] at m0
          rw [vecL_rd hjl, Int.toNat_natCast] at n0
          have hln := left_ne HG.out HS.out.1 HLT.out hjl
          have HNX := Lib.hid (arcsN_next (O := O) HLT.out hjl)
          have HNY := Lib.hid (goneN_next (O := O) (x := x) HLT.out hjl)
          have HARC : Hid (rank (offD O.length) (i * O.length + j) ≤ 100) := Lib.hid (by
            have h1 := rank_le (offD O.length) (i * O.length + j)
            have h2 := (at_grid HLT.out hjl).1
            have h3 : O.length * O.length ≤ 10 * 10 := Nat.mul_le_mul HN.out HN.out
            omega)
          have hex := (HG.out.ex HLT.out hjl).2.1
          generalize x (rank (offD O.length) (i * O.length + j)) = z at *
          generalize hy : leftF O x i j = y at *
          generalize hee : Ex O i j = e at *
          have HJL := Lib.hid hjl
          have HK2 : Hid (∀ W, Below w.heap.size w W → W.cell? (ad.add i) = some (.slice (some pd) O.length ci) ∧ W.cell? (bd.add i) = some (.slice (some qd) O.length di) ∧ W.cell? (pd.add j) = some (.int .i64 e) ∧ W.cell? (qd.add j) = some (.int .i64 y)) := Lib.hid (fun W hW => ⟨(HK.out W hW).1, (HK.out W hW).2, (hW.cell (World.block_lt_of_cell? w _ m0)).trans m0, (hW.cell (World.block_lt_of_cell? w _ n0)).trans n0⟩)
          have d1 : decide (y < 0) = false := decide_eq_false (by omega)
          have d2 : decide (e < y) = false := decide_eq_false (by omega)
          have HLN : Hid (0 ≤ y ∧ y ≤ e ∧ e ≤ 1099511627776 ∧ (i ≠ j → e - y = z)) := Lib.hid ⟨hln.1, hln.2.1, hex, hln.2.2⟩
          have HEE := Lib.hid hee
          clear m0 n0 hjl hln hex hy hee
          go_upto_region 14 with fail
          have S0 := HK2.out _ HB.out.drew
          go_region_held3 (fun W => W.cell? (ad.add i) = some (.slice (some pd) O.length ci) ∧ W.cell? (bd.add i) = some (.slice (some qd) O.length di) ∧ W.cell? (pd.add j) = some (.int .i64 e) ∧ W.cell? (qd.add j) = some (.int .i64 y)) (with_reducible exact S0) (fail)
          all_goals
            clear d1 d2 S0
            have HB3 := Lib.hid HB.out.drew
            have HR3 := Lib.hid (Kd.R_drew HR.out)
            have HQ3 := Lib.hid (Kd.R_drew HQ.out)
            clear HB HR HQ
            generalize wx.drew = w3 at *
            by_cases hij : i = j
            · have hc1 : ((i : Int) != j) = false := by simp [hij]
              have HE : Hid (arcsN O (i * O.length + (j + 1)) = arcsN O (i * O.length + j) ∧ goneN O x (i * O.length + (j + 1)) = goneN O x (i * O.length + j)) := Lib.hid (by
                have h := HNX.out
                have h2 := HNY.out
                rw [if_neg (fun g : i ≠ j => g hij), List.append_nil] at h h2
                exact ⟨by rw [← h, Nat.add_assoc], by rw [← h2, Nat.add_assoc]⟩)
              clear hij
              go_wp2_with fail
              go_roundg (O.length - (j + 1))
              case measure => have := HJ.out; have := HJL.out; omega
              case rel => exact ⟨j + 1, by go_num, Lib.hid (by have := HJL.out; omega), Lib.hid (by rw [HE.out.1]; exact HR3.out), Lib.hid (by rw [HE.out.2]; exact HQ3.out), HB3⟩
            · have hc1 : ((i : Int) != j) = true := by simp; omega
              have HE : Hid (arcsN O (i * O.length + (j + 1)) = arcsN O (i * O.length + j) ++ [⟨i, j, e, -1⟩] ∧ goneN O x (i * O.length + (j + 1)) = goneN O x (i * O.length + j) ++ [z]) := Lib.hid (by
                have h := HNX.out
                have h2 := HNY.out
                rw [if_pos hij] at h h2
                exact ⟨by rw [← h, Nat.add_assoc], by rw [← h2, Nat.add_assoc]⟩)
              have hez : IntKind.i64.wrap (e - y) = z := by rw [HLN.out.2.2.2 hij]; exact IntWalk.i64_in _ (by have := HLN.out.2.2.2 hij; have := HLN.out; omega)
              clear hij
              obtain ⟨s1, s2, s3, s4⟩ := HK2.out _ HB3.out
              go_upto_region 18 with (at_builtin; refine Kd.R_append k69 (w0 := w) w.heap.size rfl _ _ 67 69 (.agg #[.int .i64 0, .int .i64 0, .int .i64 0, .int .i64 0]) 32 rfl Try.underlying67 info69 rfl (by decide) (by omega) u6 (arcsN O (i * O.length + j)) ⟨i, j, e, -1⟩ [.int .i64 i, .int .i64 j, .int .i64 e, .int .i64 (-1)] (fun b => w.heap.size ≤ b) (fun _ => False) rfl rfl (k69_mkM _ _ _ ⟨i, j, e, -1⟩) (fun _ hk => hk.elim) (fun b hb => Nat.le_trans HB3.out.size hb) HR3.out HB3.out HB3.out.size (by rw [arcsN_len]; have := HARC.out; omega) ?_; intro v7 w7 hR7 hb7 hg7 hat7)
              clear s1 s2 s3 s4
              have HR7 := Lib.hid hR7
              have HB7 := Lib.hid hb7
              have HQ7 := Lib.hid (Kd.R_over HQ3.out HR3.out (by decide) hg7)
              clear hR7 hb7 hg7 hat7
              have HAL := Lib.hid (below_am HB7.out (.cells #[.int .i64 z] 3 (0, 0)))
              have S7 := HK2.out _ HB7.out.drew
              have S8 := HK2.out _ HAL.out.drew
              go_region_held3 (fun W => W.cell? (ad.add i) = some (.slice (some pd) O.length ci) ∧ W.cell? (bd.add i) = some (.slice (some qd) O.length di) ∧ W.cell? (pd.add j) = some (.int .i64 e) ∧ W.cell? (qd.add j) = some (.int .i64 y)) (first | (with_reducible exact S7) | (with_reducible exact S8) | (with_reducible exact S9))
                ((refine R_append_step_f (Kd.int .i64) (W := w7) (w0 := w) w.heap.size (by rfl) _ _ 32 3 (.int .i64 0) 8 (by rfl) Try.underlying32 info3 rfl (by decide) (by decide) u7 (goneN O x (i * O.length + j)) z [.int .i64 z] (fun b => w.heap.size ≤ b) (fun _ => False) (by rfl) (by rfl) rfl (fun _ hk => hk.elim) (fun b hb => Nat.le_trans HB7.out.size hb) HQ7.out HB7.out HB7.out.size (by rw [goneN_len]; have := HARC.out; omega) ?_; intro v8 w8 hQ8 hb8 hg8; have S9 := HK2.out _ hb8))
              all_goals
                have HQ8 := Lib.hid hQ8
                have HB8 := Lib.hid hb8
                have HR8 := Lib.hid (Kd.R_over HR7.out HQ7.out (by decide) hg8)
                clear S7 S8 S9 hQ8 hb8 hg8 HAL HR7 HQ7
                go_wp2_with fail
                go_roundg (O.length - (j + 1))
                case measure => have := HJ.out; have := HJL.out; omega
                case rel => exact ⟨j + 1, by go_num, Lib.hid (by have := HJL.out; omega), Lib.hid (by rw [HE.out.1]; exact HR8.out), Lib.hid (by rw [HE.out.2]; exact HQ8.out), HB8⟩
        · have hnj : ¬ (j : Int) < O.length := by omega
          obtain rfl : j = O.length := by have := HJ.out; omega
          clear hjl HJ
          go_wp2_with fail
          go_roundg (O.length - (i + 1))
          case measure => have := HI.out; have := HLT.out; omega
          case rel => exact ⟨i + 1, by go_num, Lib.hid (by have := HLT.out; omega), Lib.hid (by rw [Nat.succ_mul]; exact HR.out), Lib.hid (by rw [Nat.succ_mul]; exact HQ.out), HB⟩
    · have hni : ¬ (i : Int) < O.length := by omega
      obtain rfl : i = O.length := by have := HI.out; omega
      clear hlt HI
      by_cases hz : O.length = 0
      · have hz1 : ((O.length : Int) == 0) = true := by simp [hz]
        clear hz
        go_wp2_with fail
        go_ret
        exact ⟨rfl, HB.out⟩
      · have hz1 : ((O.length : Int) == 0) = false := beq_eq_false_iff_ne.2 (by omega)
        have hp : 1 ≤ O.length := by omega
        obtain ⟨A1, c1, rfl, hCA, hcA⟩ := R_C HR.out
        obtain ⟨A2, c2, rfl, hCX, hcX⟩ := R_C HQ.out
        have hlen : (goneN O x (O.length * O.length)).length = (LL O).length := by rw [goneN_len, arcsN_len]
        have hnet := LL_net HN.out hp HG.out
        have hval := valid_congr (fun t ht => (goneN_at (x := x) ht).symm) HS.out.1
        have hamt : amtE (O.length : Int) (LL O) (goneN O x (O.length * O.length)) = 0 := amtE_of hnet hlen hval
        have hbl := rbal_any wv (O.length : Int) A1 c1 (LL O) hCA hcA A2 c2 (goneN O x (O.length * O.length)) hCX hcX
        have HBL : Hid (Calls Try.prog 40 #[.int .i64 O.length, .slice A1 (LL O).length c1, .slice A2 (goneN O x (O.length * O.length)).length c2] wv fun e w' => (∃ b, e = .returned (.tuple #[.slice (some ⟨b, 0, none⟩) O.length O.length, .int .i64 0]) ∧ TI w' b O.length (fun _ => 0)) ∧ Below wv.heap.size wv w') := Lib.hid (hbl.mono (by
          rintro e w' ⟨h, hb⟩
          refine ⟨?_, hb⟩
          rcases h with ⟨h, _⟩ | ⟨_, b, rfl, hT⟩
          · exact absurd hamt h
          · rw [Int.toNat_natCast] at hT ⊢
            exact ⟨b, rfl, hT.congr fun v hv => by
              show Value.int .i64 (balF (LL O).length (arcF (LL O)) (xsF (goneN O x (O.length * O.length))) v) = .int .i64 0
              rw [bal_congr (y := xsF (goneN O x (O.length * O.length))) (fun t ht => (goneN_at (x := x) ht).symm), HS.out.2.2 v hv]⟩))
        obtain ⟨p, hf, hlx⟩ := HS.out.2.1
        have HBS := Lib.hid (fun (W : World) (hW : Below wv.heap.size wv W) => best_any W O.length A1 c1 (LL O) (Kd.C_below hCA hW) A2 c2 (goneN O x (O.length * O.length)) (Kd.C_below hCX hW) (by rw [hlen]; exact Nat.le_refl _) (by have h := netE_ok hnet; rwa [Int.toNat_natCast] at h) ((LL O).length : Int) (best_of (fun t ht => (goneN_at (x := x) ht).symm) hf hlx _))
        clear hp hCA hcA hCX hcX hlen hnet hval hamt hbl hz p hf hlx HR HQ
        go_wp2_with (go_at_call 40; refine HBL.out.mono ?_; rintro e w5 ⟨⟨b, rfl, hT⟩, hb5⟩)
        have HT5 := Lib.hid hT
        have HB5 := Lib.hid hb5
        clear hT hb5 HBL
        go_loopg [12] O.length (fun k v12 wr => ∃ i : Nat, v12 = .int .i64 i ∧ Hid (i + k = O.length) ∧ Hid (TI wr b O.length (fun _ => 0)) ∧ Hid (Below wv.heap.size wv wr))
        case atStart => exact ⟨0, rfl, Lib.hid (by omega), HT5, HB5⟩
        case round =>
          clear HT5 HB5
          obtain ⟨i, rfl, HI, HT, HB5⟩ := hrel
          obtain ⟨wx, rfl⟩ : ∃ wx : World, wx = wr := ⟨_, rfl⟩
          by_cases hlt : i < O.length
          · have hi0 : (i : Int) < O.length := by omega
            have hiz : (0 : Int) ≤ i := by omega
            have hw : IntKind.i64.wrap ((i : Int) + 1) = i + 1 := IntWalk.i64_in _ (by have := HN.out; omega)
            have k0 := TV.cell HT.out hlt
            have HLT := Lib.hid hlt
            clear hlt
            go_wp2_with fail
            go_roundg (O.length - (i + 1))
            case measure => have := HI.out; have := HLT.out; omega
            case rel => exact ⟨i + 1, by go_num, Lib.hid (by have := HLT.out; omega), HT, HB5⟩
          · have hnl : ¬ (i : Int) < O.length := by omega
            clear hlt
            go_wp2_with (go_at_call 41; refine (HBS.out _ HB5.out).mono ?_; rintro e w9 ⟨rfl, hb9⟩)
            go_ret
            exact ⟨rfl, below_u HB.out (below_u HB5.out hb9)⟩
end Go.Proofs.Ytcobihdjcdefmaa
