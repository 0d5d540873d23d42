/-
  The walk of round.
  The walk of greatest.
  The walk of solved.
-/
import Derived.Test.YtcobihdjcdefmaaQFQc
import Derived.Test.YtcobihdjcdefmaaQFPa
namespace Go.Proofs.Ytcobihdjcdefmaa
open PAccountsCompress
open Go.RowKit Go.Proofs.YtcobihdjcdefmaaW.PrintWords
/-- How round ends: a set that no step leaves, or the steps of a way. -/
def RoundPost (m : Nat) (A : Nat → Ar) (x : Nat → Int) (p : Int → Int) (i : Nat) (o b : Int) (w : World) (e : Ending) (w' : World) : Prop :=
  ((e = .returned (.slice none 0 0) ∧ ∃ R : Int → Bool, R o = true ∧ R b = false ∧ ∀ s, Res m A x s → letB A p i s = true → R (frm A s) = true → R (tow A s) = true) ∨
   (∃ v P, e = .returned v ∧ Kd.R k145 145 w' w.heap.size (fun _ => True) v P ∧ P ≠ [] ∧ PathOk m P ∧ (∀ t ∈ P, Res m A x t ∧ letB A p i t = true) ∧ ∀ y, brings A y P = (if o = y then 1 else 0) - (if b = y then 1 else 0))) ∧ Below w.heap.size w w'
section
variable {g : Nat} {A1 : Option Addr} {c1 : Nat} {A2 : Option Addr} {c2 : Nat} {n m : Nat} {A : Nat → Ar} {x : Nat → Int}
set_option maxRecDepth 100000 in
set_option maxHeartbeats 8000000 in
theorem round_any (w : World) (hN : NM w g A1 c1 A2 c2 (n : Int) m A x) (hok : NetOk n m A) (hx : Valid m A x) (bi bg bp pb i : Nat) (p : Int → Int) (hC : Cap w g bi bg bp pb n i p) (hp : ∀ v : Int, 0 ≤ v → v < n → -1099511627776 ≤ p v ∧ p v ≤ 1099511627776)
    (o b : Int) (o0 : 0 ≤ o) (o1 : o < n) (b0 : 0 ≤ b) (b1 : b < n) (hne : b ≠ o) :
    Calls Try.prog 91 #[.pointer (some ⟨g, 0, none⟩), .int .i64 o, .int .i64 b, .func (.func 92) #[] #[.pointer (some ⟨bi, 0, none⟩), .pointer (some ⟨bg, 0, none⟩), .pointer (some ⟨bp, 0, none⟩)]] w (RoundPost m A x p i o b w) := by
  have hu := Try.underlying145
  have hn1 := hok.n1
  have hn2 := hok.n2
  have p0 := Blk.cell hN.blk 0 rfl
  have hmk := make_bool w (n := n) (by omega)
  have hB1 := below_alloc (Below.refl w.heap.size w) (.cells (madeCells #[.bool false] n) 4 (0, 0))
  have p1 := Blk.cell (hN.below hB1).blk 0 rfl
  have hmk2 := make_stps (n := n) (W := w.alloc (.cells (madeCells #[.bool false] n) 4 (0, 0))) (by omega)
  have hT1 : TB (w.alloc (.cells (madeCells #[.bool false] n) 4 (0, 0))) w.heap.size n (fun _ => false) := TV.made w (.bool false) 4 n
  have HN := Lib.hid hN
  have HC := Lib.hid hC
  have HP := Lib.hid hp
  have HO := Lib.hid hok
  have HX := Lib.hid hx
  have HS := Lib.hid (And.intro hn1 hn2)
  have HOB := Lib.hid (show 0 ≤ o ∧ o < n ∧ 0 ≤ b ∧ b < n ∧ b ≠ o from ⟨o0, o1, b0, b1, hne⟩)
  clear hN hC hp hok hx hn1 hn2 hne
  go_enter Try.func91, Try.ntmps91
  go_upto_region 2 with (fail)
  have hz1 : (w.alloc (.cells (madeCells #[.bool false] n) 4 (0, 0))).heap.size = w.heap.size + 1 := by simp
  have HZ1 := Lib.hid hz1
  clear hz1 p0 hmk
  generalize w.alloc (.cells (madeCells #[.bool false] n) 4 (0, 0)) = wa at *
  have hB2 := below_am hB1 (.cells (madeCells #[.int .i64 0, .bool false] (n * 2)) 145 (0, 0))
  have hT2 := TV.alloc hT1 (.cells (madeCells #[.int .i64 0, .bool false] (n * 2)) 145 (0, 0))
  have hS2 := TS.made wa n
  have HZ2 : Hid ((wa.alloc (.cells (madeCells #[.int .i64 0, .bool false] (n * 2)) 145 (0, 0))).heap.size = w.heap.size + 2) := Lib.hid (by have := HZ1.out; simp; omega)
  go_upto_region 3 with (fail)
  clear hmk2 p1 hT1 hB1
  generalize wa.alloc (.cells (madeCells #[.int .i64 0, .bool false] (n * 2)) 145 (0, 0)) = wb at *
  generalize hbl : wa.heap.size = bl at *
  have HBL : Hid (bl = w.heap.size + 1) := HZ1
  clear HZ1 hbl
  have q0 := TV.cell hT2 (i := o.toNat) (by omega)
  have q1 := TV.free hT2 o.toNat
  have HB3 := Lib.hid (((Fr.of_below hB2 (fun k => w.heap.size ≤ k)).setCell (p := ⟨w.heap.size, o.toNat, none⟩) (.inl (Nat.le_refl _)) (.bool true)).to_below (Nat.le_refl _) (fun _ h => h))
  have HT3 : Hid (TB (wb.setCell ⟨w.heap.size, o.toNat, none⟩ (.bool true)) w.heap.size n (fun v => updB (fun _ => false) o v)) := Lib.hid ((TB.set hT2 o.toNat true).congr fun j hj => by
    simp only [updB]
    by_cases e : j = o.toNat
    · rw [if_pos e, if_pos (by omega)]
    · rw [if_neg e, if_neg (by omega)])
  have HS3 : Hid (TS (wb.setCell ⟨w.heap.size, o.toNat, none⟩ (.bool true)) bl n (fun v => (fun _ : Int => z145) v)) := Lib.hid (TS.fr hS2 ((Fr.refl (fun k => k = w.heap.size) wb).setCell (p := ⟨w.heap.size, o.toNat, none⟩) (.inl rfl) _) (by have := HBL.out; omega))
  have HZ3 : Hid ((wb.setCell ⟨w.heap.size, o.toNat, none⟩ (.bool true)).heap.size = w.heap.size + 2) := Lib.hid (by rw [size_setCell]; exact HZ2.out)
  go_upto_region 4 with (fail)
  clear q0 q1 hB2 hT2 hS2 HZ2
  generalize wb.setCell ⟨w.heap.size, o.toNat, none⟩ (.bool true) = wc at *
  have HQ4 : Hid (QI (fun k => w.heap.size + 2 ≤ k) (wc.alloc (.cells #[.int .i64 o] 3 (0, 0))) (.slice (some ⟨wc.heap.size, 0, none⟩) 1 1) [o]) := Lib.hid (QI.mk (Blk.new wc _ 3) (by have := HZ3.out; omega))
  have HB4 := Lib.hid (below_am HB3.out (.cells #[.int .i64 o] 3 (0, 0)))
  have HT4 := Lib.hid (TV.alloc HT3.out (.cells #[.int .i64 o] 3 (0, 0)))
  have HS4 := Lib.hid (TS.fr HS3.out ((Fr.refl (fun _ => False) wc).alloc (.cells #[.int .i64 o] 3 (0, 0))) (fun a => a))
  clear HB3 HT3 HS3 HZ3
  go_wp2_with fail
  generalize wc.alloc (.cells #[.int .i64 o] 3 (0, 0)) = wd at *
  generalize wc.heap.size = bq at *
  go_loopg [11, 12, 14, 15] (1 + (n - cntS n (updB (fun _ => false) o))) (fun k v11 v12 v14 v15 wr => ∃ (Q : List Int) (seen : Int → Bool) (T : Int → Stp) (r : Int → Nat), Hid (QI (fun k => w.heap.size + 2 ≤ k) wr v11 Q) ∧ Hid (SI n A (stepsF A x m) (letB A p i) o seen T r Q) ∧
    Hid (TB wr w.heap.size n (fun v => seen v)) ∧ Hid (TS wr bl n (fun v => T v)) ∧ Hid (Q.length + (n - cntS n seen) = k ∧ k ≤ n + 1) ∧ Hid (Below w.heap.size w wr))
  case atStart => exact ⟨[o], updB (fun _ => false) o, fun _ => z145, fun _ => 0, HQ4, Lib.hid (SI.start (by omega) (by omega)), HT4, HS4, Lib.hid ⟨rfl, by omega⟩, HB4⟩
  case round =>
    clear HQ4 HB4 HT4 HS4
    obtain ⟨Q, seen, T, r, HQ, HSI, HTB, HTS, HK, HB⟩ := hrel
    obtain ⟨wv, rfl⟩ : ∃ wv : World, wv = wr := ⟨_, rfl⟩
    have q0 := TV.cell HTB.out (i := b.toNat) (by omega)
    have eb : ((b.toNat : Nat) : Int) = b := by omega
    simp only [eb] at q0
    clear eb
    cases hz : seen b with
    | true =>
      obtain ⟨g1, g2, g3⟩ := wayT_ok HSI.out.tree (r b + 1) b hz (by omega)
      have HPATH : Hid (PathOk m (wayT A T o (r b + 1) b)) := Lib.hid ⟨fun s hs => (mem_stepsF.1 (g1 s hs).1).1, g2⟩
      have HLET : Hid (∀ t ∈ wayT A T o (r b + 1) b, Res m A x t ∧ letB A p i t = true) := Lib.hid (fun t ht => ⟨mem_stepsF.1 (g1 t ht).1, (g1 t ht).2.1⟩)
      have HBR := Lib.hid g3
      have HNE : Hid (wayT A T o (r b + 1) b ≠ []) := Lib.hid (by unfold wayT; rw [if_neg HOB.out.2.2.2.2]; simp)
      have HPL : Hid ((wayT A T o (r b + 1) b).length ≤ 128) := Lib.hid (by
        have := nodup_len (n := m) g2 (fun e he => by
          obtain ⟨t, ht, rfl⟩ := List.mem_map.1 he
          exact (mem_stepsF.1 (g1 t ht).1).1)
        rw [List.length_map] at this
        have := HO.out.m1
        omega)
      have HZB := Lib.hid hz
      have HP0 : Hid (([] : List Stp) ++ wayT A T o (r b + 1) b = wayT A T o (r b + 1) b) := Lib.hid rfl
      have HTR := Lib.hid HSI.out.tree
      rw [hz] at q0
      clear g1 g2 g3 hz HSI HK
      generalize hPP : wayT A T o (r b + 1) b = PP at *
      have HPP := Lib.hid hPP
      clear hPP
      rcases Q with _ | ⟨u, Q⟩
      all_goals
        obtain ⟨a, c, rfl⟩ := QI.shape HQ.out
        clear HQ
        go_wp2_with fail
        go_loopg [16, 17] (r b + 1) (fun k v16 v17 wr => ∃ (y : Int) (j : Nat) (P : List Stp), v17 = .int .i64 y ∧ Hid (k = j) ∧ Hid (P ++ wayT A T o j y = PP) ∧ Hid (seen y = true ∧ r y < j) ∧ Hid (Kd.R k145 145 wr wv.heap.size (fun b => wv.heap.size ≤ b) v16 P) ∧ Hid (Below wv.heap.size wv wr))
        case atStart => exact ⟨b, r b + 1, [], rfl, Lib.hid rfl, Lib.hid (by rw [List.nil_append]; exact HPP.out), Lib.hid ⟨HZB.out, by omega⟩, Lib.hid (Kd.R_nil _ _ _ _ _), Lib.hid (Below.refl _ _)⟩
        case round =>
          obtain ⟨y, j, P, rfl, HKJ, HPY, HSY, HR7, HBY⟩ := hrel
          obtain ⟨wx, rfl⟩ : ∃ wx : World, wx = wr := ⟨_, rfl⟩
          cases j with
          | zero => exact absurd HSY.out.2 (Nat.not_lt_zero _)
          | succ j =>
          by_cases hyo : y = o
          · have e1 : (y == o) = true := beq_iff_eq.2 hyo
            have e2 : (y != o) = false := by simp [hyo]
            have HE : Hid (P = PP) := Lib.hid (by
              have := HPY.out
              rw [wayT_stop A T j hyo, List.append_nil] at this
              exact this)
            clear hyo
            go_wp2_with fail
            go_ret
            exact ⟨.inr ⟨u16, PP, rfl, by rw [← HE.out]; exact Kd.R_mono (Kd.R_lower HR7.out HB.out.size) (fun _ _ => trivial), HNE.out, HPATH.out, HLET.out, HBR.out⟩, below_u HB.out HBY.out⟩
          · have e1 : (y == o) = false := beq_eq_false_iff_ne.2 hyo
            have e2 : (y != o) = true := by simp [hyo]
            obtain ⟨d1, d2, d3, d4, d5⟩ := HTR.out.last y HSY.out.1 hyo
            obtain ⟨y0, y1⟩ := HTR.out.rng y HSY.out.1
            have hrs := (mem_stepsF.1 d1).1
            have hTx := TS.below HTS.out HBY.out
            obtain ⟨k0, k1⟩ := TS.cells hTx (i := y.toNat) (by omega)
            have ey : ((y.toNat : Nat) : Int) = y := by omega
            rw [ey] at k0 k1
            have HP3 : Hid ((P ++ [T y]) ++ wayT A T o j (frm A (T y)) = PP) := Lib.hid (by
              rw [← HPY.out, List.append_assoc]
              rw [wayT_go A T j hyo]
              rfl)
            have HPLL : Hid (P.length ≤ 128) := Lib.hid (by have h1 := congrArg List.length HP3.out; rw [List.length_append, List.length_append] at h1; have := HPL.out; omega)
            have HRS := Lib.hid hrs
            have HNX : Hid (seen (frm A (T y)) = true ∧ r (frm A (T y)) < j) := Lib.hid ⟨d4, by have := HSY.out.2; omega⟩
            have HY := Lib.hid (And.intro y0 y1)
            clear d1 d2 d3 d4 d5 hrs hTx ey hyo
            go_upto_region 21 with (at_builtin; refine Kd.R_append k145 (w0 := wv) wv.heap.size rfl _ _ 148 145 (.agg #[.int .i64 0, .bool false]) 16 rfl Try.underlying148 info145 rfl (by decide) (by omega) u16 P (T y) [.int .i64 (T y).f0, .bool (T y).f1] (fun b => wv.heap.size ≤ b) (fun _ => False) rfl rfl (k145_mkM _ _ _ (T y)) (fun _ hk => hk.elim) (fun b hb => Nat.le_trans HBY.out.size hb) HR7.out HBY.out HBY.out.size (by have := HPLL.out; omega) ?_; intro v5 w5 hR5 hb5 hg5 hat5)
            have hT5 := TS.below HTS.out hb5
            have ey : ((y.toNat : Nat) : Int) = y := by omega
            obtain ⟨l0, l1⟩ := TS.cells hT5 (i := y.toNat) (by have := HY.out; omega)
            rw [ey] at l0 l1
            have HFR := Lib.hid (from_any w5 (HN.out.below (below_u HB.out hb5)) (T y) HRS.out.1 HRS.out.2)
            have HB5 := Lib.hid hb5
            have HR5 := Lib.hid hR5
            clear hT5 ey k0 k1 hb5 hR5 hg5 hat5
            go_wp2_with fail
            refine HFR.out.mono ?_
            rintro e w6 ⟨rfl, hb6⟩
            have HB6 := Lib.hid (below_u HB5.out hb6)
            have HR6 := Lib.hid (Kd.R_below HR5.out hb6)
            clear hb6
            go_wp2_with fail
            go_roundg j
            case measure => have := HKJ.out; omega
            case rel => exact ⟨frm A (T y), j, P ++ [T y], rfl, Lib.hid rfl, HP3, HNX, HR6, HB6⟩
    | false =>
      rw [hz] at q0
      cases Q with
      | nil =>
        obtain ⟨a, c, rfl⟩ := QI.shape HQ.out
        rw [List.length_nil]
        have HRR : Hid (∃ R : Int → Bool, R o = true ∧ R b = false ∧ ∀ s, Res m A x s → letB A p i s = true → R (frm A s) = true → R (tow A s) = true) := Lib.hid ⟨seen, HSI.out.tree.top, hz, fun s hs hl hf => by
          rcases HSI.out.done _ hf with g | g
          · simp at g
          · exact g s (mem_stepsF.2 hs) hl rfl⟩
        clear hz
        go_wp2_with fail
        go_ret
        exact ⟨.inl ⟨rfl, HRR.out⟩, HB.out⟩
      | cons u Q =>
        obtain ⟨bq, oq, c, c', a', rfl, k0, hrun, hq⟩ := QI.pop HQ.out
        have HQ2 := Lib.hid hq
        have HSJ := Lib.hid (SI.open_ HSI.out)
        clear hq HQ HSI
        have HST := Lib.hid (steps_any wv (HN.out.below HB.out) (by have := HO.out.m1; omega) HO.out.cap HX.out)
        go_wp2_with fail
        refine HST.out.mono ?_
        rintro e w2 ⟨v, rfl, hR, hb2⟩
        obtain ⟨AS, cS, rfl, hlS, hCS⟩ := Kd.R_reads hR
        have HCS : Hid (∀ W, Fr (fun k => w.heap.size ≤ k ∧ (k < wv.heap.size ∨ w2.heap.size ≤ k)) w2 W → Kd.C k145 W AS (stepsF A x m).length (stepsF A x m)) := Lib.hid (fun W hW => by
          have hR9 := Kd.R_move (w1 := W) (Kd.R_bound hR) (fun k hk => hW.block k hk.2.2.1 (fun hf => by have h1 := hk.2.1; have h2 := hk.2.2.1; omega))
          obtain ⟨A', c', he, _, hC⟩ := Kd.R_reads hR9
          simp only [Value.slice.injEq] at he
          obtain ⟨rfl, _, _⟩ := he
          exact hC)
        have HZ2 : Hid (w.heap.size + 2 ≤ wv.heap.size ∧ wv.heap.size ≤ w2.heap.size) := Lib.hid ⟨by have := TS.lt HTS.out; have := HBL.out; omega, hb2.size⟩
        have HQ3 : Hid (QI (fun k => w.heap.size + 2 ≤ k ∧ (k < wv.heap.size ∨ w2.heap.size ≤ k)) w2 (.slice (some a') Q.length c') Q) := Lib.hid ((HQ2.out.weaken (fun k h1 h2 => ⟨h2, .inl h1⟩)).below hb2)
        have HT3 := Lib.hid (TV.below HTB.out hb2)
        have HS3 := Lib.hid (TS.below HTS.out hb2)
        have HB2 := Lib.hid (below_u HB.out hb2)
        have HSt := Lib.hid (HO.out.steps x)
        have HLEN := Lib.hid (stepsF_len A x m)
        have HRES : Hid (∀ s, s ∈ stepsF A x m ↔ Res m A x s) := Lib.hid (fun s => mem_stepsF)
        clear hR hlS hCS hb2 HST q0 k0 hrun HTB HTS HQ2
        generalize hall : stepsF A x m = all at *
        have HALL := Lib.hid hall
        clear hall
        go_wp2_with fail
        go_loopg [11, 14, 15, 51] all.length (fun k v11 v14 v15 v51 wr => ∃ (t : Nat) (Q' : List Int) (seen' : Int → Bool) (T' : Int → Stp) (r' : Int → Nat), v51 = .int .i64 t ∧ Hid (t + k = all.length) ∧ Hid (QI (fun k => w.heap.size + 2 ≤ k ∧ (k < wv.heap.size ∨ w2.heap.size ≤ k)) wr v11 Q') ∧
          Hid (SJ n A all (letB A p i) o u t seen' T' r' Q') ∧ Hid (TB wr w.heap.size n (fun v => seen' v)) ∧ Hid (TS wr bl n (fun v => T' v)) ∧ Hid (Q'.length + (n - cntS n seen') ≤ Q.length + (n - cntS n seen)) ∧ Hid (Fr (fun k => w.heap.size ≤ k ∧ (k < wv.heap.size ∨ w2.heap.size ≤ k)) w2 wr))
        case atStart => exact ⟨0, Q, seen, T, r, rfl, Lib.hid (by omega), HQ3, HSJ, HT3, HS3, Lib.hid (Nat.le_refl _), Lib.hid (Fr.refl _ _)⟩
        case round =>
          clear HQ3 HSJ HT3 HS3
          obtain ⟨t, Q', seen', T', r', rfl, HT, HQ, HSJ, HTB, HTS, HM, HF⟩ := hrel
          obtain ⟨wx, rfl⟩ : ∃ wx : World, wx = wr := ⟨_, rfl⟩
          by_cases hlt : t < all.length
          · obtain ⟨s, hs⟩ : ∃ s, all[t]? = some s := ⟨_, List.getElem?_eq_getElem hlt⟩
            have ht0 : (t : Int) < all.length := by omega
            have hC := HCS.out wx HF.out
            obtain ⟨ad, rfl, k0, k1⟩ := at_T145 hC (t : Int) (by omega) ht0
            have es : rd_T145 all (t : Int) = s := by unfold rd_T145; rw [Int.toNat_natCast, List.getD_eq_getElem?_getD, hs]; rfl
            rw [es, Int.toNat_natCast] at k0 k1
            have hm := List.mem_of_getElem? hs
            obtain ⟨a1, a2, a3, a4, a5, a6, a7⟩ := HSt.out s hm
            have hrs := ((HRES.out s).1 hm).1
            have hw : IntKind.i64.wrap ((t : Int) + 1) = t + 1 := IntWalk.i64_in _ (by have := HLEN.out; have := HO.out.m1; omega)
            have HSS := Lib.hid hs
            have HRS := Lib.hid hrs
            have HA := Lib.hid (show 0 ≤ frm A s ∧ frm A s < n ∧ 0 ≤ tow A s ∧ tow A s < n from ⟨a1, a2, a3, a4⟩)
            have HLT := Lib.hid hlt
            clear hC es hm hrs hs hlt a5 a6 a7
            go_upto_region 11 with (fail)
            have hal := below_alloc (Below.refl wx.heap.size wx) (.cells #[.int .i64 s.f0, .bool s.f1] 145)
            have hA4 := Blk.new wx #[.int .i64 s.f0, .bool s.f1] 145
            generalize wx.alloc (.cells #[.int .i64 s.f0, .bool s.f1] 145) = wy at *
            have hBX : Below w.heap.size w wx := (Fr.trans (Fr.of_below HB2.out (fun k => w.heap.size ≤ k)) HF.out (fun z hz => .inl hz.1)).to_below (Nat.le_refl _) (fun _ h => h)
            have hNy := HN.out.below (below_u hBX hal)
            have HTO := Lib.hid (to_any wy hNy s HRS.out.1 HRS.out.2)
            have r0 := Blk.cell hA4 0 (v := .int .i64 s.f0) rfl
            have r1 := Blk.cell hA4 1 (v := .bool s.f1) rfl
            have HA4 := Lib.hid hA4
            have HAL := Lib.hid hal
            have HBX := Lib.hid hBX
            have HNY := Lib.hid hNy
            clear k0 k1 hal hA4 hBX hNy
            go_wp2_with fail
            refine HTO.out.mono ?_
            rintro e w3 ⟨rfl, hb3⟩
            have hA5 := HA4.out.fr (Fr.of_below hb3 (fun _ => False)) (fun a => a)
            have r0 := Blk.cell hA5 0 (v := .int .i64 s.f0) rfl
            have r1 := Blk.cell hA5 1 (v := .bool s.f1) rfl
            have HFM := Lib.hid (from_any w3 (HNY.out.below hb3) s HRS.out.1 HRS.out.2)
            have HB3 := Lib.hid hb3
            clear hb3 hA5 HTO
            go_wp2_with fail
            refine HFM.out.mono ?_
            rintro e w4 ⟨rfl, hb4⟩
            have hb5 := below_u HAL.out (below_u HB3.out hb4)
            have HB5 := Lib.hid hb5
            have hTB4 := TV.below HTB.out hb5
            have s0 := TV.cell hTB4 (i := (tow A s).toNat) (by omega)
            have et : (((tow A s).toNat : Nat) : Int) = tow A s := by omega
            simp only [et] at s0
            have hA6 := HA4.out.fr (Fr.of_below (below_u HB3.out hb4) (fun _ => False)) (fun a => a)
            have r0 := Blk.cell hA6 0 (v := .int .i64 s.f0) rfl
            have r1 := Blk.cell hA6 1 (v := .bool s.f1) rfl
            have HA6 := Lib.hid hA6
            clear hb5 hTB4 et hA6 hb4 HFM HA4 HNY
            by_cases h1 : frm A s = u
            · have e1 : (frm A s == u) = true := beq_iff_eq.2 h1
              have H1 := Lib.hid h1
              clear h1
              cases h2 : seen' (tow A s) with
              | true =>
                rw [h2] at s0
                have HSK := Lib.hid (HSJ.out.skip HSS.out (fun h => by rw [h2] at h; exact absurd h.2.1 (by simp)))
                clear h2
                go_wp2_with fail
                go_roundg (all.length - (t + 1))
                case measure => have := HT.out; have := HLT.out; omega
                case rel => exact ⟨t + 1, Q', seen', T', r', by go_num, Lib.hid (by have := HT.out; have := HLT.out; omega), Lib.hid (HQ.out.below HB5.out), HSK, Lib.hid (TV.below HTB.out HB5.out), Lib.hid (TS.below HTS.out HB5.out), HM, Lib.hid (HF.out.below HB5.out)⟩
              | false =>
                rw [h2] at s0
                have HLB := Lib.hid (let_any w4 (HN.out.below (below_u HBX.out HB5.out)) HO.out bi bg bp pb i p (HC.out.below (below_u HBX.out HB5.out)) HP.out s HRS.out.1 HRS.out.2)
                have H2 := Lib.hid h2
                clear h2
                go_wp2_with fail
                refine HLB.out.mono ?_
                rintro e w5 ⟨rfl, hb6⟩
                have hb7 := below_u HB5.out hb6
                have HB7 := Lib.hid hb7
                clear HLB
                cases h3 : letB A p i s with
                | false =>
                  have HSK := Lib.hid (HSJ.out.skip HSS.out (fun h => by rw [h3] at h; exact absurd h.2.2 (by simp)))
                  clear h3 s0 hb6 hb7
                  go_wp2_with fail
                  go_roundg (all.length - (t + 1))
                  case measure => have := HT.out; have := HLT.out; omega
                  case rel => exact ⟨t + 1, Q', seen', T', r', by go_num, Lib.hid (by have := HT.out; have := HLT.out; omega), Lib.hid (HQ.out.below HB7.out), HSK, Lib.hid (TV.below HTB.out HB7.out), Lib.hid (TS.below HTS.out HB7.out), HM, Lib.hid (HF.out.below HB7.out)⟩
                | true =>
                  obtain ⟨hsj, hcnt⟩ := SJ.put HSJ.out HSS.out H1.out H2.out h3 a3 a4
                  have HPUT := Lib.hid hsj
                  have HCNT := Lib.hid hcnt
                  have hA7 := HA6.out.fr (Fr.of_below hb6 (fun _ => False)) (fun a => a)
                  have r0 := Blk.cell hA7 0 (v := .int .i64 s.f0) rfl
                  have r1 := Blk.cell hA7 1 (v := .bool s.f1) rfl
                  have hTB7 := TV.below HTB.out hb7
                  have hTS7 := TS.below HTS.out hb7
                  obtain ⟨l0, l1⟩ := TS.cells hTS7 (i := (tow A s).toNat) (by omega)
                  have s0 := TV.cell hTB7 (i := (tow A s).toNat) (by omega)
                  have f0 := TV.free hTB7 (tow A s).toNat
                  have f1 := TS.free hTS7 ((tow A s).toNat * 2)
                  have f2 := TS.free hTS7 ((tow A s).toNat * 2 + 1)
                  have et : (((tow A s).toNat : Nat) : Int) = tow A s := by omega
                  have HET := Lib.hid et
                  have hnb : ¬ bl = w.heap.size := by have := HBL.out; omega
                  have hnx : ¬ wx.heap.size = w.heap.size := by have h1 := HF.out.size; have h2 := HZ2.out; omega
                  have HT6 : Hid (TB ((((w5.setCell ⟨w.heap.size, (tow A s).toNat, none⟩ (.bool true)).setCell ⟨bl, (tow A s).toNat * 2, none⟩ (.int .i64 s.f0)).setCell ⟨bl, (tow A s).toNat * 2 + 1, none⟩ (.bool s.f1)).drew) w.heap.size n (fun v => updB seen' (tow A s) v)) := Lib.hid (((TB.set hTB7 (tow A s).toNat true).congr fun j hj => by
                    simp only [updB]
                    by_cases e : j = (tow A s).toNat
                    · rw [if_pos e, if_pos (by omega)]
                    · rw [if_neg e, if_neg (by omega)]).fr ((((Fr.refl (fun k => k = bl) _).setCell (p := ⟨bl, (tow A s).toNat * 2, none⟩) (.inl rfl) (.int .i64 s.f0)).setCell (p := ⟨bl, (tow A s).toNat * 2 + 1, none⟩) (.inl rfl) (.bool s.f1)).drew) (fun h => hnb h.symm))
                  have HS6 : Hid (TS ((((w5.setCell ⟨w.heap.size, (tow A s).toNat, none⟩ (.bool true)).setCell ⟨bl, (tow A s).toNat * 2, none⟩ (.int .i64 s.f0)).setCell ⟨bl, (tow A s).toNat * 2 + 1, none⟩ (.bool s.f1)).drew) bl n (fun v => updT T' (tow A s) s v)) := Lib.hid ((TS.fr (TS.set (hTS7.fr ((Fr.refl (fun k => k = w.heap.size) w5).setCell (p := ⟨w.heap.size, (tow A s).toNat, none⟩) (.inl rfl) (.bool true)) hnb) (tow A s).toNat s) ((Fr.refl (fun _ => False) _).drew) (fun a => a)).congr fun j hj => by
                    simp only [updT, setS]
                    by_cases e : j = (tow A s).toNat
                    · rw [if_pos e, if_pos (by omega)]
                    · rw [if_neg e, if_neg (by omega)])
                  have HF5 : Hid (Fr (fun k => k = w.heap.size ∨ k = bl) w5 ((((w5.setCell ⟨w.heap.size, (tow A s).toNat, none⟩ (.bool true)).setCell ⟨bl, (tow A s).toNat * 2, none⟩ (.int .i64 s.f0)).setCell ⟨bl, (tow A s).toNat * 2 + 1, none⟩ (.bool s.f1)).drew)) :=
                    Lib.hid (((((Fr.refl _ w5).setCell (p := ⟨w.heap.size, (tow A s).toNat, none⟩) (.inl (.inl rfl)) (.bool true)).setCell (p := ⟨bl, (tow A s).toNat * 2, none⟩) (.inl (.inr rfl)) (.int .i64 s.f0)).setCell (p := ⟨bl, (tow A s).toNat * 2 + 1, none⟩) (.inl (.inr rfl)) (.bool s.f1)).drew)
                  have HF6 := Lib.hid ((HF.out.below hb7).trans HF5.out (fun k hk => .inl ⟨by have := HBL.out; omega, .inl (by have := HBL.out; have := HZ2.out; omega)⟩))
                  have HQ6 := Lib.hid ((HQ.out.below hb7).fr HF5.out (fun k hk => by have := HBL.out; omega))
                  have HQL : Hid (Q'.length ≤ 100000) := Lib.hid (by have h1 := HM.out; have h2 := HK.out; have h3 := HS.out; simp only [List.length_cons] at h2; omega)
                  clear h3 hsj hcnt hA7 hTB7 hTS7 hb6 hb7 et HF5
                  go_wp2_with fail
                  refine calm ?_
                  go_region_law (first | fail)
                  all_goals
                    simp only [Calm]
                    generalize ((((w5.setCell ⟨w.heap.size, (tow A s).toNat, none⟩ (.bool true)).setCell ⟨bl, (tow A s).toNat * 2, none⟩ (.int .i64 s.f0)).setCell ⟨bl, (tow A s).toNat * 2 + 1, none⟩ (.bool s.f1)).drew) = w6 at *
                    clear s0 f0 f1 f2 l0 l1 r0 r1
                    have hcell := Blk.cell (Blk.new w6 #[.int .i64 (tow A s)] 3) 0 rfl
                    have HCL := Lib.hid hcell
                    clear hcell
                    go_wp2_with (at_builtin; refine wpList_append_q rfl _ _ rfl rfl (HQ6.out.alloc (.cells #[.int .i64 (tow A s)] 3)) ⟨w6.heap.size, 0, none⟩ 1 (tow A s) rfl HCL.out HQL.out (fun k hk => by have h1 := HF6.out.size; have h2 := HZ2.out; simp at hk; omega) ?_; intro v7 w7 hq7 hf7)
                    have HQ7 := Lib.hid hq7
                    have HF7 := Lib.hid ((HF6.out.alloc (.cells #[.int .i64 (tow A s)] 3)).trans hf7 (fun k hk => .inl ⟨by omega, hk.2⟩))
                    have HT7 := Lib.hid ((TV.alloc HT6.out (.cells #[.int .i64 (tow A s)] 3)).fr hf7 (by omega))
                    have HS7 := Lib.hid ((TS.fr HS6.out ((Fr.refl (fun _ => False) w6).alloc (.cells #[.int .i64 (tow A s)] 3)) (fun a => a)).fr hf7 (by have := HBL.out; omega))
                    clear hq7 hf7
                    go_wp2_with fail
                    go_roundg (all.length - (t + 1))
                    case measure => have := HT.out; have := HLT.out; omega
                    case rel => exact ⟨t + 1, Q' ++ [tow A s], updB seen' (tow A s), updT T' (tow A s) s, updR r' (tow A s) (r' u + 1), by go_num, Lib.hid (by have := HT.out; have := HLT.out; omega), HQ7, HPUT, HT7, HS7, Lib.hid (by have h1 := HM.out; have h2 := HCNT.out; have h3 := cntS_le n (updB seen' (tow A s)); rw [List.length_append]; simp only [List.length_singleton]; omega), HF7⟩
            · have e1 : (frm A s == u) = false := beq_eq_false_iff_ne.2 h1
              have HSK := Lib.hid (HSJ.out.skip HSS.out (fun h => h1 h.1))
              clear h1 s0
              go_wp2_with fail
              go_roundg (all.length - (t + 1))
              case measure => have := HT.out; have := HLT.out; omega
              case rel => exact ⟨t + 1, Q', seen', T', r', by go_num, Lib.hid (by have := HT.out; have := HLT.out; omega), Lib.hid (HQ.out.below HB5.out), HSK, Lib.hid (TV.below HTB.out HB5.out), Lib.hid (TS.below HTS.out HB5.out), HM, Lib.hid (HF.out.below HB5.out)⟩
          · have HCL := Lib.hid (HSJ.out.close (by omega))
            have HBX : Hid (Below w.heap.size w wx) := Lib.hid ((Fr.trans (Fr.of_below HB2.out (fun k => w.heap.size ≤ k)) HF.out (fun z hz => .inl hz.1)).to_below (Nat.le_refl _) (fun _ h => h))
            have HQW : Hid (QI (fun k => w.heap.size + 2 ≤ k) wx u11 Q') := Lib.hid (HQ.out.weaken (fun k _ h => h.1))
            have HMM : Hid (Q'.length + (n - cntS n seen') < (u :: Q).length + (n - cntS n seen)) := Lib.hid (by have := HM.out; simp only [List.length_cons]; omega)
            go_wp2_with fail
            go_roundg (Q'.length + (n - cntS n seen'))
            case measure => have := HK.out; have := HMM.out; omega
            case rel => exact ⟨Q', seen', T', r', HQW, HCL, HTB, HTS, Lib.hid ⟨rfl, by have := HK.out; have := HMM.out; omega⟩, HBX⟩
end
end Go.Proofs.Ytcobihdjcdefmaa
namespace Go.Proofs.Ytcobihdjcdefmaa
open PAccountsCompress
open Go.RowKit Go.Proofs.YtcobihdjcdefmaaW.PrintWords
/-- What greatest leaves. -/
def GreatPost (ga m : Nat) (A : Nat → Ar) (x : Nat → Int) (w : World) (e : Ending) (w' : World) : Prop :=
  (∃ v, e = .returned v) ∧ ∃ x' p, TI w' ga m x' ∧ Fr (fun k => k = ga) w w' ∧ Valid m A x' ∧ Feas m A x' p ∧ LexCert m A x' p ∧ ∀ v, balF m A x' v = balF m A x v
/-- A round of greatest, by its numbers. -/
theorem great_next {n m : Nat} {A : Nat → Ar} {x : Nat → Int} {p : Int → Int} {i : Nat} {P : List Stp} (hN : NetOk n m A) (hx : Valid m A x) (hfe : Feas m A x p) (hi : i < m) (hrc : rc A p i = 0) (hlt : x i < (A i).f2)
    (hP : PathOk m P) (hlet : ∀ t ∈ P, Res m A x t ∧ letB A p i t = true) (hbr : ∀ y, brings A y P = (if (A i).f1 = y then 1 else 0) - (if (A i).f0 = y then 1 else 0)) (hlx : ∀ j, j < i → LexAt m A x p j) :
    PathOk m (P ++ [⟨i, false⟩]) ∧ (∀ t ∈ P ++ [⟨i, false⟩], Res m A x t) ∧ ∀ d : Int, 0 < d → (∀ t ∈ P ++ [⟨i, false⟩], d ≤ spr A x t) →
      Valid m A (putP d x (P ++ [⟨i, false⟩])) ∧ Feas m A (putP d x (P ++ [⟨i, false⟩])) p ∧ (∀ j, j < i → LexAt m A (putP d x (P ++ [⟨i, false⟩])) p j) ∧ (∀ v, balF m A (putP d x (P ++ [⟨i, false⟩])) v = balF m A x v) ∧
        putP d x (P ++ [⟨i, false⟩]) i = x i + d := by
  have hgt : ∀ t ∈ P, (i : Int) < t.f0 := fun t ht => (letB_iff.1 (hlet t ht).2).1
  have htg : ∀ t ∈ P, rc A p t.f0.toNat = 0 := fun t ht => (letB_iff.1 (hlet t ht).2).2
  have hmem : ∀ t ∈ P ++ [(⟨i, false⟩ : Stp)], t ∈ P ∨ t = ⟨i, false⟩ := fun t ht => by
    rcases List.mem_append.1 ht with h | h
    · exact .inl h
    · exact .inr (List.mem_singleton.1 h)
  have hlast : (⟨i, false⟩ : Stp) ∈ P ++ [(⟨i, false⟩ : Stp)] := List.mem_append_right _ (List.mem_singleton.2 rfl)
  have hP2 : PathOk m (P ++ [⟨i, false⟩]) := ⟨fun t ht => by
    rcases hmem t ht with h | h
    · exact hP.rng t h
    · subst h; exact ⟨Int.natCast_nonneg _, by show (i : Int) < m; omega⟩, by
    rw [List.map_append, List.nodup_append]
    refine ⟨hP.dif, by simp, fun a ha b hb => ?_⟩
    obtain ⟨t, ht, rfl⟩ := List.mem_map.1 ha
    have hb : b = (i : Int) := by simpa using hb
    have := hgt t ht
    omega⟩
  have hres : ∀ t ∈ P ++ [(⟨i, false⟩ : Stp)], Res m A x t := fun t ht => by
    rcases hmem t ht with h | h
    · exact (hlet t h).1
    · subst h; exact Res.on hi hlt
  have htg2 : ∀ t ∈ P ++ [(⟨i, false⟩ : Stp)], rc A p t.f0.toNat = 0 := fun t ht => by
    rcases hmem t ht with h | h
    · exact htg t h
    · subst h; show rc A p ((i : Int)).toNat = 0; rw [Int.toNat_natCast]; exact hrc
  have hround : ∀ y, brings A y (P ++ [(⟨i, false⟩ : Stp)]) = 0 := fun y => by
    rw [brings_append, hbr y]
    show _ + ((if (A ((i : Int)).toNat).f0 = y then 1 else 0) - (if (A ((i : Int)).toNat).f1 = y then 1 else 0) + 0 : Int) = 0
    rw [Int.toNat_natCast]
    omega
  refine ⟨hP2, hres, fun d hd hs => ⟨put_valid hP2 (by omega) hx hs, feas_put hfe hP2 htg2 (by omega), fun j hj => lex_put hN (hlx j hj) hP2 hres htg2 (fun t ht => ?_) hround (by omega), fun v => ?_, ?_⟩⟩
  · rcases hmem t ht with h | h
    · have := hgt t h; omega
    · subst h; show (j : Int) < (i : Int); omega
  · rw [bal_put hP2.rng, hround v]; omega
  · have := putP_in (d := d) (x := x) hP2 ⟨i, false⟩ hlast
    simpa using this
section
variable {g : Nat} {A1 : Option Addr} {c1 : Nat} {ga c2 : Nat} {n m : Nat} {A : Nat → Ar} {x : Nat → Int}
set_option maxRecDepth 100000 in
set_option maxHeartbeats 8000000 in
theorem greatest_any (w : World) (hN : NM w g A1 c1 (some ⟨ga, 0, none⟩) c2 (n : Int) m A x) (hT : TI w ga m x) (hg : g ≠ ga) (hA1 : 0 < m → ∀ ad, A1 = some ad → ad.block ≠ ga) (hok : NetOk n m A) (hx : Valid m A x) (hq : ∃ q, Feas m A x q) :
    Calls Try.prog 79 #[.pointer (some ⟨g, 0, none⟩)] w (GreatPost ga m A x w) := by
  have hu := Try.underlying145
  have hn1 := hok.n1
  have hn2 := hok.n2
  have hm1 := hok.m1
  have hmf : ∀ (fn : Fn) (first cap : Array Value) (w : World), (Instr.makeFunc fn first cap).run Try.prog w = .ok (.func fn first cap) w := fun _ _ _ _ => rfl
  have hal := below_alloc (Below.refl w.heap.size w) (.cells #[.pointer (some ⟨g, 0, none⟩)] 112 (0, 0))
  have hA4 := Blk.new w #[.pointer (some ⟨g, 0, none⟩)] 112
  have HN := Lib.hid hN
  have HT := Lib.hid hT
  have HG := Lib.hid hg
  have HA1 := Lib.hid hA1
  have HO := Lib.hid hok
  have HX := Lib.hid hx
  have HQ := Lib.hid hq
  have HS := Lib.hid (And.intro hn1 (And.intro hn2 hm1))
  clear hN hT hg hA1 hok hx hq hn1 hn2 hm1
  go_enter Try.func79, Try.ntmps79
  go_wp2_with fail
  go_step3
  generalize w.alloc (.cells #[.pointer (some ⟨g, 0, none⟩)] 112 (0, 0)) = wa at *
  have r0 := Blk.cell hA4 0 (v := .pointer (some ⟨g, 0, none⟩)) rfl
  have H1 := Lib.hid (potentials_any wa (HN.out.below hal) HO.out HX.out)
  have HAL := Lib.hid hal
  have HBG := Lib.hid hA4
  clear hal hA4
  go_wp2_with fail
  refine H1.out.mono ?_
  rintro e w1 ⟨hpost, hb1⟩
  rcases hpost with ⟨j, hj, hfe, -, rfl, ht1⟩ | ⟨hno, -⟩
  case inr => exact absurd (swpPs_fix (HO.out.steps x) (by obtain ⟨q, h⟩ := HQ.out; exact ⟨q, feasL_iff.2 h⟩)) (hno n (Nat.le_refl _))
  have HFE : Hid (Feas m A x (swpPs A (stepsF A x m) j)) := Lib.hid (feasL_iff.1 hfe)
  have HPP : Hid (∀ v : Int, 0 ≤ v → v < n → -1048576 ≤ swpPs A (stepsF A x m) j v ∧ swpPs A (stepsF A x m) j v ≤ 0) := Lib.hid (fun v h0 h1 => by
    have h2 := swpPs_ge (HO.out.steps x) (by omega) (by obtain ⟨q, h⟩ := HQ.out; exact ⟨q, feasL_iff.2 h⟩) j v h0 h1
    have h3 := swpPs_le A (stepsF A x m) j v
    have h4 := HO.out.n2
    omega)
  clear hfe hj HQ
  generalize swpPs A (stepsF A x m) j = p at *
  have HB1 := Lib.hid hb1
  have HT1 := Lib.hid ht1
  clear hb1 ht1 H1 r0
  have hb2 := below_am (below_u HAL.out HB1.out) (.cells #[.slice (some ⟨wa.heap.size, 0, none⟩) n n] 32 (0, 0))
  have hbp := Blk.new w1 #[.slice (some ⟨wa.heap.size, 0, none⟩) n n] 32
  have hwa : wa.heap.size ≤ w1.heap.size := HB1.out.size
  have hw0 : w.heap.size < wa.heap.size := Blk.lt HBG.out
  have HT2 : Hid (TI (w1.alloc (.cells #[.slice (some ⟨wa.heap.size, 0, none⟩) n n] 32 (0, 0))) wa.heap.size n (fun v => p v)) := Lib.hid (TV.alloc HT1.out _)
  have hpl : wa.heap.size < w1.heap.size := TV.lt HT1.out
  have hbg := (HBG.out.fr (Fr.of_below HB1.out (fun _ => False)) (fun a => a)).alloc (.cells #[.slice (some ⟨wa.heap.size, 0, none⟩) n n] 32 (0, 0))
  have hn2 := HN.out.below hb2
  have q0 := Blk.cell hbg 0 rfl
  have q1 := Blk.cell hn2.blk 1 rfl
  have HB2 := Lib.hid hb2
  have HBG2 := Lib.hid hbg
  have HBP2 := Lib.hid hbp
  have HORD := Lib.hid (show ga < w.heap.size ∧ w.heap.size < wa.heap.size ∧ wa.heap.size < w1.heap.size from ⟨TV.lt HT.out, hw0, hpl⟩)
  clear hb2 hbp hwa hw0 hpl hbg hn2 HT1 HB1 HAL HBG
  go_wp2_with fail
  go_step3
  go_wp2_with fail
  generalize w1.alloc (.cells #[.slice (some ⟨wa.heap.size, 0, none⟩) n n] 32 (0, 0)) = w2 at *
  generalize w1.heap.size = bp at *
  generalize wa.heap.size = pb at *
  go_loopg [4, 5, 6, 7, 9, 20] m (fun k v4 v5 v6 v7 v9 v20 wr => ∃ (i : Nat) (x' : Nat → Int), v20 = .int .i64 i ∧ Hid (i + k = m) ∧ Hid (Valid m A x') ∧ Hid (Feas m A x' p) ∧ Hid (∀ j, j < i → LexAt m A x' p j) ∧ Hid (∀ v, balF m A x' v = balF m A x v) ∧ Hid (TI wr ga m x') ∧ Hid (Fr (fun k => k = ga) w2 wr))
  case atStart => exact ⟨0, x, rfl, Lib.hid (by omega), HX, HFE, Lib.hid (fun j hj => absurd hj (Nat.not_lt_zero _)), Lib.hid (fun _ => rfl), Lib.hid (TV.below HT.out HB2.out), Lib.hid (Fr.refl _ _)⟩
  case round =>
    clear HX HFE HT q0 q1
    obtain ⟨i, x', rfl, HI, HX, HFE, HLX, HBAL, HT, HF⟩ := hrel
    obtain ⟨wv, rfl⟩ : ∃ wv : World, wv = wr := ⟨_, rfl⟩
    have HFW : Hid (Fr (fun k => k = ga) w wv) := Lib.hid (Fr.trans (Fr.of_below HB2.out (fun k => k = ga)) HF.out (fun _ h => .inl h))
    have HNV : Hid (NM wv g A1 c1 (some ⟨ga, 0, none⟩) c2 (n : Int) m A x') := Lib.hid (HN.out.owned HFW.out HG.out HA1.out HT.out)
    by_cases hlt : i < m
    · have hi0 : (i : Int) < m := by omega
      obtain ⟨ad, rfl, k0, k1, k2, k3⟩ := HNV.out.arc (i : Int) (by omega) hi0
      rw [Int.toNat_natCast] at k0 k1 k2 k3
      have hw : IntKind.i64.wrap ((i : Int) + 1) = i + 1 := IntWalk.i64_in _ (by have := HS.out; omega)
      have hal := below_am (below_alloc (Below.refl wv.heap.size wv) (.cells #[.int .i64 i] 3 (0, 0))) (.cells #[.int .i64 (A i).f0, .int .i64 (A i).f1, .int .i64 (A i).f2, .int .i64 (A i).f3] 69 (0, 0))
      have hA4 := (Blk.new wv #[.int .i64 i] 3).alloc (.cells #[.int .i64 (A i).f0, .int .i64 (A i).f1, .int .i64 (A i).f2, .int .i64 (A i).f3] 69 (0, 0))
      have hB4 := Blk.new1 wv (.cells #[.int .i64 i] 3 (0, 0)) #[.int .i64 (A i).f0, .int .i64 (A i).f1, .int .i64 (A i).f2, .int .i64 (A i).f3] 69
      have HZ3 : Hid (((wv.alloc (.cells #[.int .i64 i] 3 (0, 0))).alloc (.cells #[.int .i64 (A i).f0, .int .i64 (A i).f1, .int .i64 (A i).f2, .int .i64 (A i).f3] 69 (0, 0))).heap.size = wv.heap.size + 2) := Lib.hid (by simp)
      have HLT := Lib.hid hlt
      clear hlt
      go_upto_region 5 with (fail)
      generalize (wv.alloc (.cells #[.int .i64 i] 3 (0, 0))).alloc (.cells #[.int .i64 (A i).f0, .int .i64 (A i).f1, .int .i64 (A i).f2, .int .i64 (A i).f3] 69 (0, 0)) = w3 at *
      have HZV : Hid (ga < wv.heap.size ∧ bp < wv.heap.size ∧ pb < wv.heap.size) := Lib.hid (by
        have h1 := HF.out.size
        have h2 := Blk.lt HBP2.out
        have h3 := HORD.out
        have h4 := HFW.out.size
        omega)
      have HTP := Lib.hid (TV.below (HT2.out.fr HF.out (by have := HORD.out; omega)) hal)
      have hbg := (HBG2.out.fr HF.out (by have := HORD.out; omega)).fr (Fr.of_below hal (fun _ => False)) (fun a => a)
      have hbp := (HBP2.out.fr HF.out (by have := HORD.out; omega)).fr (Fr.of_below hal (fun _ => False)) (fun a => a)
      obtain ⟨n0, n1, n2, n3, nne⟩ := HO.out.net i HLT.out
      have ef : (((A i).f0.toNat : Nat) : Int) = (A i).f0 := by omega
      have et : (((A i).f1.toNat : Nat) : Int) = (A i).f1 := by omega
      have s0 := TV.cell HTP.out (i := (A i).f0.toNat) (by omega)
      have s1 := TV.cell HTP.out (i := (A i).f1.toNat) (by omega)
      simp only [ef] at s0
      simp only [et] at s1
      have b0 := Blk.cell hB4 0 (v := .int .i64 (A i).f0) rfl
      have b1 := Blk.cell hB4 1 (v := .int .i64 (A i).f1) rfl
      have b2 := Blk.cell hB4 2 (v := .int .i64 (A i).f2) rfl
      have b3 := Blk.cell hB4 3 (v := .int .i64 (A i).f3) rfl
      have a0 := Blk.cell hA4 0 (v := .int .i64 i) rfl
      have g0 := Blk.cell hbg 0 (v := .pointer (some ⟨g, 0, none⟩)) rfl
      have p0 := Blk.cell hbp 0 (v := .slice (some ⟨pb, 0, none⟩) n n) rfl
      have HBG3 := Lib.hid hbg
      have HBP3 := Lib.hid hbp
      have HA4 := Lib.hid hA4
      have HB4 := Lib.hid hB4
      have HAL := Lib.hid hal
      have hcc := HO.out.cost i HLT.out
      have hp0 := HPP.out (A i).f0 n0 n1
      have hp1 := HPP.out (A i).f1 n2 n3
      have hw1 : IntKind.i64.wrap ((A i).f3 + p (A i).f0) = (A i).f3 + p (A i).f0 := IntWalk.i64_in _ (by omega)
      have hw2 : IntKind.i64.wrap ((A i).f3 + p (A i).f0 - p (A i).f1) = (A i).f3 + p (A i).f0 - p (A i).f1 := IntWalk.i64_in _ (by omega)
      clear hcc hp0 hp1 k0 k1 k2 k3 hal hA4 hB4 hbg hbp ef et nne
      by_cases hrc : (A i).f3 + p (A i).f0 - p (A i).f1 = 0
      · have e1 : ((A i).f3 + p (A i).f0 - p (A i).f1 != 0) = false := by simp [hrc]
        have HRC : Hid (rc A p i = 0) := Lib.hid hrc
        clear hrc
        go_quiet (fail)
        have HF4 : Hid (Fr (fun k => k = ga) w3 (w3.drewN nq)) := Lib.hid ((Fr.refl _ w3).drewN nq)
        have HT4 : Hid (TI (w3.drewN nq) ga m x') := Lib.hid ((TV.below HT.out HAL.out).fr (F := fun _ => False) ((Fr.refl _ w3).drewN nq) (fun a => a))
        generalize w3.drewN nq = w4 at *
        clear s0 s1 b0 b1 b2 b3 a0 g0 p0
        go_wp2_with fail
        go_loopg [6, 7, 9] ((A i).f2 - x' i).toNat (fun k v6 v7 v9 wr => ∃ x2 : Nat → Int, Hid (((A i).f2 - x2 i).toNat = k) ∧ Hid (Valid m A x2) ∧ Hid (Feas m A x2 p) ∧ Hid (∀ j, j < i → LexAt m A x2 p j) ∧ Hid (∀ v, balF m A x2 v = balF m A x v) ∧ Hid (TI wr ga m x2) ∧ Hid (Fr (fun k => k = ga) w3 wr))
        case atStart => exact ⟨x', Lib.hid rfl, HX, HFE, HLX, HBAL, HT4, HF4⟩
        case round =>
          clear HX HFE HLX HBAL HT4 HF4 HT
          obtain ⟨x2, HK, HX, HFE, HLX, HBAL, HT, HF3⟩ := hrel
          obtain ⟨wy, rfl⟩ : ∃ wy : World, wy = wr := ⟨_, rfl⟩
          have HFY : Hid (Fr (fun k => k = ga) w wy) := Lib.hid ((HFW.out.below HAL.out).trans HF3.out (fun _ h => .inl h))
          have HNY : Hid (NM wy g (some ad) c1 (some ⟨ga, 0, none⟩) c2 (n : Int) m A x2) := Lib.hid (HN.out.owned HFY.out HG.out HA1.out HT.out)
          have hbg := HBG3.out.fr HF3.out (by have := HORD.out; omega)
          have hA := HA4.out.fr HF3.out (by have := HZV.out; omega)
          have hB := HB4.out.fr HF3.out (by have := HZV.out; omega)
          have g0 := Blk.cell hbg 0 (v := .pointer (some ⟨g, 0, none⟩)) rfl
          have g2 := Blk.cell HNY.out.blk 2 rfl
          have a0 := Blk.cell hA 0 (v := .int .i64 i) rfl
          have b0 := Blk.cell hB 0 (v := .int .i64 (A i).f0) rfl
          have b1 := Blk.cell hB 1 (v := .int .i64 (A i).f1) rfl
          have b2 := Blk.cell hB 2 (v := .int .i64 (A i).f2) rfl
          have t0 := TV.cell HT.out HLT.out
          have hi0 : (i : Int) < m := by have := HLT.out; omega
          have hi1 : (0 : Int) ≤ i := by omega
          have HHB := Lib.hid (And.intro hbg (And.intro hA hB))
          clear hbg hA hB
          by_cases hle : x2 i < (A i).f2
          · have e1 : decide (x2 i < (A i).f2) = true := decide_eq_true hle
            have HLE := Lib.hid hle
            clear hle
            go_upto_region 6 with (fail)
            go_quiet (fail)
            have HF5 : Hid (Fr (fun _ => False) wy (wy.drewN nq)) := Lib.hid ((Fr.refl _ wy).drewN nq)
            generalize wy.drewN nq = w5 at *
            have hbg := HHB.out.1.fr HF5.out (fun a => a)
            have hA := HHB.out.2.1.fr HF5.out (fun a => a)
            have hB := HHB.out.2.2.fr HF5.out (fun a => a)
            have hbp := (HBP3.out.fr HF3.out (by have := HORD.out; omega)).fr HF5.out (fun a => a)
            have hpv := (HTP.out.fr HF3.out (by have := HORD.out; omega)).fr HF5.out (fun a => a)
            have hcap : Cap w5 g wv.heap.size w.heap.size bp pb n i p := ⟨Blk.cell hA 0 rfl, Blk.cell hbg 0 rfl, Blk.cell hbp 0 rfl, fun v h0 h1 => by
              have := TV.cell hpv (i := v.toNat) (by omega)
              rw [Int.toNat_of_nonneg h0] at this
              exact this⟩
            have HN5 := Lib.hid (HNY.out.fr HF5.out (fun a => a) (fun _ _ a => a) (fun _ _ a => a))
            have HT5 := Lib.hid (HT.out.fr HF5.out (fun a => a))
            obtain ⟨n0, n1, n2, n3, nne⟩ := HO.out.net i HLT.out
            have HRO := Lib.hid (round_any w5 HN5.out HO.out HX.out wv.heap.size w.heap.size bp pb i p hcap (fun v h0 h1 => by have := HPP.out v h0 h1; omega) (A i).f1 (A i).f0 n2 n3 n0 n1 nne)
            have g0 := Blk.cell hbg 0 (v := .pointer (some ⟨g, 0, none⟩)) rfl
            have b0 := Blk.cell hB 0 (v := .int .i64 (A i).f0) rfl
            have b1 := Blk.cell hB 1 (v := .int .i64 (A i).f1) rfl
            have HA5 := Lib.hid hA
            have HG5 := Lib.hid hbg
            clear hbg hA hB hbp hpv hcap n0 n1 n2 n3 nne g2 a0 b2 t0 HHB
            go_wp2_with fail
            refine HRO.out.mono ?_
            rintro e w6 ⟨hpost, hb6⟩
            have HB6 := Lib.hid hb6
            clear hb6 HRO g0 b0 b1
            rcases hpost with ⟨rfl, R, hR1, hR2, hR3⟩ | ⟨v, P, rfl, hR, hne, hP, hlet, hbr⟩
            · have HLI : Hid (LexAt m A x2 p i) := Lib.hid (fun _ _ => ⟨R, hR1, hR2, fun s hs hi hrc hf => hR3 s hs (letB_iff.2 ⟨hi, hrc⟩) hf⟩)
              have HF6 := Lib.hid (((HF.out.below HAL.out).trans HF3.out (fun _ h => .inl h)).trans (HF5.out.below HB6.out) (fun _ h => h.elim))
              have HT6 := Lib.hid (TV.below HT5.out HB6.out)
              clear hR1 hR2 hR3
              have he := Lib.run_eql_slice_nil (P := Try.prog) w6 148 145 none 0 0 0 0 Try.underlying148
              go_wp2_with fail
              go_roundg (m - (i + 1))
              case measure => have := HI.out; have := HLT.out; omega
              case rel => exact ⟨i + 1, x2, by go_num, Lib.hid (by have := HI.out; have := HLT.out; omega), HX, HFE, Lib.hid (fun j hj => by
                by_cases e : j = i
                · subst e; exact HLI.out
                · exact HLX.out j (by omega)), HBAL, HT6, HF6⟩
            · have hln : 0 < P.length := List.length_pos_iff.2 hne
              obtain ⟨ad2, c', rfl⟩ := Kd.R_slice1 hR hln
              have HR6 := Lib.hid hR
              have HP := Lib.hid hP
              have HLET := Lib.hid hlet
              have HBR := Lib.hid hbr
              have HPLE : Hid (P.length ≤ 128) := Lib.hid (by
                have := nodup_len (n := m) hP.dif (fun e he => by
                  obtain ⟨t, ht, rfl⟩ := List.mem_map.1 he
                  exact hP.rng t ht)
                rw [List.length_map] at this
                have := HO.out.m1
                omega)
              have a0 := Blk.cell (HA5.out.fr (Fr.of_below HB6.out (fun _ => False)) (fun a => a)) 0 (v := .int .i64 i) rfl
              clear hR hne hP hlet hbr hln
              have he := Lib.run_eql_slice_nil (P := Try.prog) w6 148 145 (some ad2) P.length c' 0 0 Try.underlying148
              go_upto_region 10 with (at_builtin; refine Kd.R_append k145 (w0 := w5) w5.heap.size rfl _ _ 148 145 (.agg #[.int .i64 0, .bool false]) 16 rfl Try.underlying148 info145 rfl (by decide) (by omega) (.slice (some ad2) P.length c') P ⟨i, false⟩ [.int .i64 i, .bool false] (fun _ => True) (fun _ => False) rfl rfl (k145_mkM _ _ _ ⟨i, false⟩) (fun _ hk => hk.elim) (fun b hb => trivial) HR6.out HB6.out HB6.out.size (by have := HPLE.out; omega) ?_; intro v7 w7 hR7 hb7 hg7 hat7)
              obtain ⟨AP, cP, rfl, hlP, hCP⟩ := Kd.R_reads hR7
              obtain ⟨c1', c2', c3'⟩ := great_next HO.out HX.out HFE.out HLT.out HRC.out HLE.out HP.out HLET.out HBR.out HLX.out
              have HL2 : Hid ((P ++ [(⟨i, false⟩ : Stp)]).length ≤ 129 ∧ 0 < (P ++ [(⟨i, false⟩ : Stp)]).length) := Lib.hid (by rw [List.length_append]; have := HPLE.out; simp only [List.length_singleton]; omega)
              have HLAST : Hid ((⟨i, false⟩ : Stp) ∈ P ++ [(⟨i, false⟩ : Stp)]) := Lib.hid (List.mem_append_right _ (List.mem_singleton.2 rfl))
              generalize hP2 : P ++ [(⟨i, false⟩ : Stp)] = P2 at *
              have HP2 := Lib.hid c1'
              have HRES := Lib.hid c2'
              have HNEXT := Lib.hid c3'
              have HGA5 : Hid (ga < w5.heap.size) := Lib.hid (TV.lt HT5.out)
              have HCS : Hid (∀ W, Fr (fun k => k = ga) w7 W → Kd.C k145 W AP P2.length P2) := Lib.hid (fun W hW => by
                have hR9 := Kd.R_move (w1 := W) (Kd.R_bound hR7) (fun k hk => hW.block k hk.2.2.1 (fun hf => by have h1 := hk.2.1; have h2 := HGA5.out; omega))
                obtain ⟨A', c', he, _, hC⟩ := Kd.R_reads hR9
                simp only [Value.slice.injEq] at he
                obtain ⟨rfl, _, _⟩ := he
                exact hC)
              have HB7 := Lib.hid hb7
              clear hR7 hlP hCP c1' c2' c3' hb7 hg7 hat7 hP2 a0 he HP HLET HBR HPLE HR6
              go_wp2_with fail
              go_loopg [7, 9, 66] P2.length (fun kk v7 v9 v66 wr => ∃ (t : Nat) (mn : Int), v66 = .int .i64 t ∧ v7 = .int .i64 mn ∧ Hid (t + kk = P2.length) ∧ Hid (0 < mn ∧ mn ≤ 1152921504606846976 ∧ ∀ r ∈ P2.take t, mn ≤ spr A x2 r) ∧ Hid (Below w7.heap.size w7 wr))
              case atStart => exact ⟨0, 1152921504606846976, rfl, rfl, Lib.hid (by omega), Lib.hid ⟨by omega, by omega, fun r hr => by simp at hr⟩, Lib.hid (Below.refl _ _)⟩
              case round =>
                obtain ⟨t, mn, rfl, rfl, HTT, HMN, HBT⟩ := hrel
                obtain ⟨wz, rfl⟩ : ∃ wz : World, wz = wr := ⟨_, rfl⟩
                have HB57 := Lib.hid (below_u HB7.out HBT.out)
                by_cases hlt : t < P2.length
                · obtain ⟨r, hr⟩ : ∃ r, P2[t]? = some r := ⟨_, List.getElem?_eq_getElem hlt⟩
                  have hrm := List.mem_of_getElem? hr
                  have hrs := HP2.out.rng r hrm
                  have hsp := (HRES.out r hrm).2
                  have ht0 : (t : Int) < P2.length := by omega
                  obtain ⟨ad3, rfl, k0, k1⟩ := at_T145 (HCS.out wz (Fr.of_below HBT.out _)) (t : Int) (by omega) ht0
                  have es : rd_T145 P2 (t : Int) = r := by unfold rd_T145; rw [Int.toNat_natCast, List.getD_eq_getElem?_getD, hr]; rfl
                  rw [es, Int.toNat_natCast] at k0 k1
                  have hw : IntKind.i64.wrap ((t : Int) + 1) = t + 1 := IntWalk.i64_in _ (by have := HL2.out; omega)
                  have hal := below_alloc (Below.refl wz.heap.size wz) (.cells #[.int .i64 r.f0, .bool r.f1] 145 (0, 0))
                  have HBA := Lib.hid (below_u HBT.out hal)
                  have hb5a := below_u HB57.out hal
                  have hA4 := Blk.new wz #[.int .i64 r.f0, .bool r.f1] 145
                  have r0 := Blk.cell hA4 0 (v := .int .i64 r.f0) rfl
                  have r1 := Blk.cell hA4 1 (v := .bool r.f1) rfl
                  have g0 := Blk.cell (HG5.out.fr (Fr.of_below hb5a (fun _ => False)) (fun a => a)) 0 (v := .pointer (some ⟨g, 0, none⟩)) rfl
                  have HSP := Lib.hid (spare_any (wz.alloc (.cells #[.int .i64 r.f0, .bool r.f1] 145 (0, 0))) (HN5.out.below hb5a) r hrs.1 hrs.2 (HO.out.cap _ (by omega)) (HX.out _ (by omega)))
                  obtain ⟨D2, hD2⟩ : ∃ D2, (if spr A x2 r < mn then spr A x2 r else mn) = D2 := ⟨_, rfl⟩
                  have HD2 := Lib.hid (min_facts hD2)
                  have HSPP := Lib.hid hsp
                  have HTK : Hid (P2.take (t + 1) = P2.take t ++ [r]) := Lib.hid (by rw [List.take_add_one, hr]; rfl)
                  have HLT2 := Lib.hid hlt
                  clear hr hrm hrs hsp es hal hA4 hlt hb5a
                  go_wp2_with fail
                  refine HSP.out.mono ?_
                  rintro e w9 ⟨rfl, hb9⟩
                  have HB9 := Lib.hid (below_u HBA.out hb9)
                  clear HSP HBA hb9 r0 r1 k0 k1 g0
                  go_wp2_with fail
                  go_roundg (P2.length - (t + 1))
                  case measure => have := HTT.out; have := HLT2.out; omega
                  case rel => exact ⟨t + 1, D2, by go_num, rfl, Lib.hid (by have := HTT.out; have := HLT2.out; omega), Lib.hid ⟨HD2.out.2.2 HMN.out.1 HSPP.out, Int.le_trans HD2.out.1 HMN.out.2.1, fun q hq => by
                    rw [HTK.out] at hq
                    rcases List.mem_append.1 hq with h | h
                    · exact Int.le_trans HD2.out.1 (HMN.out.2.2 q h)
                    · rw [List.mem_singleton] at h; subst h; exact HD2.out.2.1⟩, HB9⟩
                · have hke : P2.take t = P2 := List.take_of_length_le (by omega)
                  have hmn := HMN.out
                  rw [hke] at hmn
                  have hms := hmn.2.2 _ HLAST.out
                  have hxx := HX.out i HLT.out
                  have hcc := HO.out.cap i HLT.out
                  have hmb : mn ≤ 1099511627776 := by
                    have e : spr A x2 ⟨i, false⟩ = (A i).f2 - x2 i := by show (A ((i : Int)).toNat).f2 - x2 ((i : Int)).toNat = _; rw [Int.toNat_natCast]
                    omega
                  have HPU := Lib.hid (push_any wz (HN5.out.below HB57.out) (TV.below HT5.out HB57.out) HG.out P2 AP cP (fun w' hf => HCS.out w' (Fr.trans (Fr.of_below HBT.out (fun k => k = ga)) hf (fun _ h => .inl h))) HP2.out mn ⟨by omega, hmb⟩ (fun i hi => ⟨(HX.out i hi).1, Int.le_trans (HX.out i hi).2 (HO.out.cap i hi).2⟩) (by have := HL2.out; omega))
                  obtain ⟨d1, d2, d3, d4, d5⟩ := HNEXT.out mn (by omega) hmn.2.2
                  have HD1 := Lib.hid d1
                  have HD2 := Lib.hid d2
                  have HD3 := Lib.hid d3
                  have HD4 : Hid (∀ v, balF m A (putP mn x2 P2) v = balF m A x v) := Lib.hid (fun v => (d4 v).trans (HBAL.out v))
                  have HD5 : Hid (((A i).f2 - putP mn x2 P2 i).toNat < ((A i).f2 - x2 i).toNat) := Lib.hid (by rw [d5]; have := HLE.out; omega)
                  have g0 := Blk.cell (HG5.out.fr (Fr.of_below HB57.out (fun _ => False)) (fun a => a)) 0 (v := .pointer (some ⟨g, 0, none⟩)) rfl
                  have hnl : ¬ (t : Int) < P2.length := by omega
                  clear hke hmn hms hxx hcc hmb d1 d2 d3 d4 d5 hlt HMN
                  go_wp2_with fail
                  refine HPU.out.mono ?_
                  rintro e w10 ⟨⟨vv, rfl⟩, hT10, hF10⟩
                  have HT10 := Lib.hid hT10
                  have HF10 : Hid (Fr (fun k => k = ga) w3 w10) := Lib.hid ((HF3.out.trans (HF5.out.below HB57.out) (fun _ h => h.elim)).trans hF10 (fun _ h => .inl h))
                  clear hT10 hF10 g0
                  go_wp2_with fail
                  go_roundg ((A i).f2 - putP mn x2 P2 i).toNat
                  case measure => have := HK.out; have := HD5.out; omega
                  case rel => exact ⟨putP mn x2 P2, Lib.hid rfl, HD1, HD2, HD3, HD4, HT10, HF10⟩
          · have e1 : decide (x2 i < (A i).f2) = false := decide_eq_false hle
            have HLI : Hid (LexAt m A x2 p i) := Lib.hid (fun _ h => absurd h hle)
            clear hle
            go_upto_region 6 with (fail)
            go_quiet (fail)
            go_wp2_with fail
            go_roundg (m - (i + 1))
            case measure => have := HI.out; have := HLT.out; omega
            case rel => exact ⟨i + 1, x2, by go_num, Lib.hid (by have := HI.out; have := HLT.out; omega), HX, HFE, Lib.hid (fun j hj => by
              by_cases e : j = i
              · subst e; exact HLI.out
              · exact HLX.out j (by omega)), HBAL, Lib.hid (HT.out.fr (F := fun _ => False) ((Fr.refl _ _).drewN _) (fun a => a)), Lib.hid (((HF.out.below HAL.out).trans HF3.out (fun _ h => .inl h)).drewN _)⟩
      · have e1 : ((A i).f3 + p (A i).f0 - p (A i).f1 != 0) = true := by simp [hrc]
        have HLI : Hid (LexAt m A x' p i) := Lib.hid (fun h _ => absurd h hrc)
        clear hrc
        go_quiet (fail)
        go_wp2_with fail
        go_roundg (m - (i + 1))
        case measure => have := HI.out; have := HLT.out; omega
        case rel => exact ⟨i + 1, x', by go_num, Lib.hid (by have := HI.out; have := HLT.out; omega), HX, HFE, Lib.hid (fun j hj => by
          by_cases e : j = i
          · subst e; exact HLI.out
          · exact HLX.out j (by omega)), HBAL, Lib.hid ((TV.below HT.out HAL.out).fr (F := fun _ => False) ((Fr.refl _ _).drewN _) (fun a => a)), Lib.hid ((HF.out.below HAL.out).drewN _)⟩
    · have him : m ≤ i := by omega
      go_wp2_with fail
      rw [Exit.noGoto_normal]
      first | go_end0 | ((try simp only [Exit.inBlock, Exit.then]); refine bodyPost_ret (results_none rfl _ _ _) rfl ?_)
      exact ⟨⟨_, rfl⟩, x', p, HT.out, HFW.out, HX.out, HFE.out, fun j hj => HLX.out j (by omega), HBAL.out⟩
end
end Go.Proofs.Ytcobihdjcdefmaa
namespace Go.Proofs.Ytcobihdjcdefmaa
open PAccountsCompress
open Go.RowKit Go.Proofs.YtcobihdjcdefmaaW.PrintWords
theorem bal_sum {n m : Nat} {A : Nat → Ar} (hN : Net n m A) (x : Nat → Int) : sumN n (fun v => balF m A x v) = 0 := by
  have h := pot_sum hN x (fun _ => 1)
  have e1 : sumN m (fun i => ((1 : Int) - 1) * x i) = 0 := sumN_zero fun i _ => by omega
  have e2 : sumN n (fun v => (1 : Int) * balF m A x v) = sumN n (fun v => balF m A x v) := sumN_congr fun i _ => by omega
  rw [e1, e2] at h
  exact h.symm
/-- A slice of arcs as the network has it. -/
theorem arcs_of {w : World} {A1 : Option Addr} {l : List Ar} (h : Kd.C k69 w A1 l.length l) : ∀ i : Int, 0 ≤ i → i < l.length → ∃ ad, A1 = some ad ∧ w.cell? (ad.add (i.toNat * 4)) = some (.int .i64 (arcF l i.toNat).f0) ∧ w.cell? ⟨(ad.add (i.toNat * 4)).block, (ad.add (i.toNat * 4)).off + 1, none⟩ = some (.int .i64 (arcF l i.toNat).f1) ∧
    w.cell? ⟨(ad.add (i.toNat * 4)).block, (ad.add (i.toNat * 4)).off + 2, none⟩ = some (.int .i64 (arcF l i.toNat).f2) ∧ w.cell? ⟨(ad.add (i.toNat * 4)).block, (ad.add (i.toNat * 4)).off + 3, none⟩ = some (.int .i64 (arcF l i.toNat).f3) := fun i h0 h1 => at_T69 h i h0 h1
/-- What an arc of a negative cost carries first. -/
def x0F (A : Nat → Ar) (k : Nat) : Nat → Int := fun i => if i < k ∧ (A i).f3 < 0 then (A i).f2 else 0
theorem x0_valid {n m : Nat} {A : Nat → Ar} (h : NetOk n m A) (k : Nat) : Valid m A (x0F A k) := fun i hi => by
  have := h.cap i hi
  unfold x0F
  split <;> omega
theorem x0_feas {n m : Nat} {A : Nat → Ar} (h : NetOk n m A) : Feas m A (x0F A m) (fun _ => 0) := fun s hs => by
  obtain ⟨⟨h0, h1⟩, h2⟩ := hs
  show (0 : Int) ≤ 0 + cst A s
  have hc := h.cap s.f0.toNat (by omega)
  unfold spr x0F at h2
  unfold cst
  cases hb : s.f1 with
  | true =>
    rw [hb] at h2
    simp only [if_true] at h2 ⊢
    split at h2 <;> omega
  | false =>
    rw [hb] at h2
    simp only [Bool.false_eq_true, if_false] at h2 ⊢
    split at h2
    · omega
    · have : s.f0.toNat < m := by omega
      omega
theorem x0_next (A : Nat → Ar) (k : Nat) : x0F A (k + 1) = if (A k).f3 < 0 then setN (x0F A k) k (A k).f2 else x0F A k := by
  have hold : ∀ i, ¬ i = k → (if i < k + 1 ∧ (A i).f3 < 0 then (A i).f2 else 0) = if i < k ∧ (A i).f3 < 0 then (A i).f2 else 0 := fun i e => by
    by_cases h : i < k ∧ (A i).f3 < 0
    · rw [if_pos h, if_pos ⟨by omega, h.2⟩]
    · rw [if_neg h, if_neg (fun g => h ⟨by omega, g.2⟩)]
  split
  · next hc =>
    funext i
    show (if i < k + 1 ∧ (A i).f3 < 0 then (A i).f2 else 0) = if i = k then (A k).f2 else (if i < k ∧ (A i).f3 < 0 then (A i).f2 else 0)
    by_cases e : i = k
    · subst e; rw [if_pos ⟨by omega, hc⟩, if_pos rfl]
    · rw [if_neg e]; exact hold i e
  · next hc =>
    funext i
    show (if i < k + 1 ∧ (A i).f3 < 0 then (A i).f2 else 0) = if i < k ∧ (A i).f3 < 0 then (A i).f2 else 0
    by_cases e : i = k
    · subst e; rw [if_neg (fun g => hc g.2), if_neg (fun g => hc g.2)]
    · exact hold i e
/-- How solved ends. -/
def SolvedPost (n m : Nat) (A : Nat → Ar) (A1 : Option Addr) (c1 : Nat) (need : Nat → Int) (w : World) (e : Ending) (w' : World) : Prop :=
  ((e = .returned (.tuple #[.pointer none, .bool false]) ∧ ∃ x, Carried n m A need false x) ∨
   (∃ g ga x p, e = .returned (.tuple #[.pointer (some ⟨g, 0, none⟩), .bool true]) ∧ NM w' g A1 c1 (some ⟨ga, 0, none⟩) m (n : Int) m A x ∧ TI w' ga m x ∧ w.heap.size ≤ ga ∧ Valid m A x ∧ Feas m A x p ∧ LexCert m A x p ∧ ∀ v : Nat, v < n → balF m A x v = need v)) ∧ Below w.heap.size w w'
section
set_option maxRecDepth 100000 in
set_option maxHeartbeats 8000000 in
theorem solved_any (w : World) (n : Nat) (A1 : Option Addr) (c1 : Nat) (l : List Ar) (hl : Kd.C k69 w A1 l.length l) (hok : NetOk n l.length (arcF l)) (nd : Addr) (c : Nat) (xs : List Int) (hxl : xs.length = n) (hC : Kd.C (Kd.int .i64) w (some nd) xs.length xs)
    (hb : ∀ v : Nat, v < n → -140737488355328 ≤ xs.getD v 0 ∧ xs.getD v 0 ≤ 140737488355328) (hsum : sumN n (fun v => xs.getD v 0) = 0) :
    Calls Try.prog 64 #[.int .i64 n, .slice A1 l.length c1, .slice (some nd) xs.length c] w (SolvedPost n l.length (arcF l) A1 c1 (fun v => xs.getD v 0) w) := by
  have harc := arcs_of hl
  generalize hm : l.length = m at *
  generalize arcF l = A at *
  have hm1 := hok.m1
  have hmk := make_int w (n := m) (by omega)
  have hB1 := below_alloc (Below.refl w.heap.size w) (.cells (madeCells #[.int .i64 0] m) 3 (0, 0))
  have hT1 : TI (w.alloc (.cells (madeCells #[.int .i64 0] m) 3 (0, 0))) w.heap.size m (fun _ => 0) := TV.made w (.int .i64 0) 3 m
  have HARC := Lib.hid harc
  have HO := Lib.hid hok
  have HXL := Lib.hid hxl
  have HC := Lib.hid hC
  have HBD := Lib.hid hb
  have HSUM := Lib.hid hsum
  have HM := Lib.hid hm1
  clear harc hok hxl hC hb hsum hm1 hl hm
  go_enter Try.func64, Try.ntmps64
  go_upto_region 2 with (fail)
  have hz1 : (w.alloc (.cells (madeCells #[.int .i64 0] m) 3 (0, 0))).heap.size = w.heap.size + 1 := by simp
  have HZ1 := Lib.hid hz1
  have hb2 := below_am hB1 (.cells #[.int .i64 n, .slice A1 m c1, .slice (some ⟨w.heap.size, 0, none⟩) m m] 116 (0, 0))
  have hbk := Blk.new1 w (.cells (madeCells #[.int .i64 0] m) 3 (0, 0)) #[.int .i64 n, .slice A1 m c1, .slice (some ⟨w.heap.size, 0, none⟩) m m] 116
  have ht2 := TV.alloc hT1 (.cells #[.int .i64 n, .slice A1 m c1, .slice (some ⟨w.heap.size, 0, none⟩) m m] 116 (0, 0))
  clear hz1 hmk hT1 hB1 HZ1
  generalize (w.alloc (.cells (madeCells #[.int .i64 0] m) 3 (0, 0))).alloc (.cells #[.int .i64 n, .slice A1 m c1, .slice (some ⟨w.heap.size, 0, none⟩) m m] 116 (0, 0)) = w1 at *
  have HA1 : Hid (0 < m → ∀ ad, A1 = some ad → ad.block ≠ w.heap.size) := Lib.hid (fun h0 ad he => by
    obtain ⟨ad', e', k0, _⟩ := HARC.out 0 (by omega) (by omega)
    rw [he] at e'
    rw [Option.some.inj e']
    have h2 := World.block_lt_of_cell? _ _ k0
    rw [add_block] at h2
    omega)
  have HT1 : Hid (TI w1 w.heap.size m (x0F A 0)) := Lib.hid (ht2.congr fun i _ => by unfold x0F; rw [if_neg (by omega)])
  have HN : Hid (NM w1 (w.heap.size + 1) A1 c1 (some ⟨w.heap.size, 0, none⟩) m (n : Int) m A (x0F A 0)) := Lib.hid (by
    have hf := Fr.of_below hb2 (fun _ => False)
    refine ⟨hbk, fun i a b => ?_, fun i a b => ⟨_, rfl, ?_⟩⟩
    · obtain ⟨ad, e, k0, k1, k2, k3⟩ := HARC.out i a b
      exact ⟨ad, e, hf.cell k0 (fun a => a), hf.cell k1 (fun a => a), hf.cell k2 (fun a => a), hf.cell k3 (fun a => a)⟩
    · rw [add_own]
      exact TV.cell HT1.out (by omega))
  have HB2 := Lib.hid hb2
  clear hb2 hbk ht2
  go_wp2_with fail
  go_loopg [9, 10, 20] m (fun k v9 v10 v20 wr => ∃ i : Nat, v20 = .int .i64 i ∧ Hid (i + k = m) ∧ Hid (TI wr w.heap.size m (x0F A i)) ∧ Hid (Fr (fun k => k = w.heap.size) w1 wr))
  case atStart => exact ⟨0, rfl, Lib.hid (by omega), HT1, Lib.hid (Fr.refl _ _)⟩
  case round =>
    obtain ⟨i, rfl, HI, HT, HF⟩ := hrel
    obtain ⟨wv, rfl⟩ : ∃ wv : World, wv = wr := ⟨_, rfl⟩
    have HNV := Lib.hid (HN.out.owned HF.out (by omega) HA1.out HT.out)
    by_cases hlt : i < m
    · have hi0 : (i : Int) < m := by omega
      have hi1 : (0 : Int) ≤ i := by omega
      obtain ⟨ad, rfl, k0, k1, k2, k3⟩ := HNV.out.arc (i : Int) (by omega) hi0
      rw [Int.toNat_natCast] at k0 k1 k2 k3
      have hw : IntKind.i64.wrap ((i : Int) + 1) = i + 1 := IntWalk.i64_in _ (by have := HM.out; omega)
      have HLT := Lib.hid hlt
      have hal := below_alloc (Below.refl wv.heap.size wv) (.cells #[.int .i64 (A i).f0, .int .i64 (A i).f1, .int .i64 (A i).f2, .int .i64 (A i).f3] 69 (0, 0))
      have hA4 := Blk.new wv #[.int .i64 (A i).f0, .int .i64 (A i).f1, .int .i64 (A i).f2, .int .i64 (A i).f3] 69
      clear hlt
      go_upto_region 5 with (fail)
      generalize wv.alloc (.cells #[.int .i64 (A i).f0, .int .i64 (A i).f1, .int .i64 (A i).f2, .int .i64 (A i).f3] 69 (0, 0)) = w3 at *
      have b2 := Blk.cell hA4 2 (v := .int .i64 (A i).f2) rfl
      have b3 := Blk.cell hA4 3 (v := .int .i64 (A i).f3) rfl
      have hN3 := HNV.out.below hal
      have g2 := Blk.cell hN3.blk 2 rfl
      have hT3 := TV.below HT.out hal
      have t0 := TV.cell hT3 HLT.out
      have t1 := TV.free hT3 i
      have HF3 := Lib.hid (HF.out.below hal)
      have HT3 := Lib.hid hT3
      clear k0 k1 k2 k3 hal hA4 hN3 hT3
      by_cases hc : (A i).f3 < 0
      · have e1 : decide ((A i).f3 < 0) = true := decide_eq_true hc
        have HT4 : Hid (TI (w3.setCell ⟨w.heap.size, i, none⟩ (.int .i64 (A i).f2)) w.heap.size m (x0F A (i + 1))) := Lib.hid (by rw [x0_next, if_pos hc]; exact TI.set HT3.out i (A i).f2)
        have HF4 := Lib.hid (HF3.out.setCell (p := ⟨w.heap.size, i, none⟩) (.inl rfl) (.int .i64 (A i).f2))
        clear hc
        go_wp2_with fail
        refine calm ?_
        go_region_law (first | fail)
        all_goals
          simp only [Calm]
          go_wp2_with fail
          go_roundg (m - (i + 1))
          case measure => have := HI.out; have := HLT.out; omega
          case rel => exact ⟨i + 1, by go_num, Lib.hid (by have := HI.out; have := HLT.out; omega), Lib.hid (HT4.out.fr (F := fun _ => False) ((Fr.refl _ _).drew) (fun a => a)), Lib.hid HF4.out.drew⟩
      · have e1 : decide ((A i).f3 < 0) = false := decide_eq_false hc
        have HT4 : Hid (TI w3 w.heap.size m (x0F A (i + 1))) := Lib.hid (by rw [x0_next, if_neg hc]; exact HT3.out)
        clear hc
        go_wp2_with fail
        go_roundg (m - (i + 1))
        case measure => have := HI.out; have := HLT.out; omega
        case rel => exact ⟨i + 1, by go_num, Lib.hid (by have := HI.out; have := HLT.out; omega), HT4, HF3⟩
    · have him : i = m := by have := HI.out; omega
      subst him
      have hnl : ¬ i < i := by omega
      have HBV : Hid (Below w.heap.size w wv) := Lib.hid ((Fr.trans (Fr.of_below HB2.out (fun k => w.heap.size ≤ k)) HF.out (fun z hz => .inl (by omega))).to_below (Nat.le_refl _) (fun _ h => h))
      have HCA := Lib.hid (carry_any wv HNV.out HT.out (by omega) HA1.out HO.out (x0_valid HO.out i) ⟨_, x0_feas HO.out⟩ nd c xs HXL.out (Kd.C_below HC.out HBV.out) HBD.out)
      clear hlt HI
      go_wp2_with fail
      refine HCA.out.mono ?_
      rintro e w4 ⟨ok, x', rfl, hT4, hF4, hcar⟩
      have HT4 := Lib.hid hT4
      have HF4 := Lib.hid hF4
      have HCR := Lib.hid hcar
      have HB4 : Hid (Below w.heap.size w w4) := Lib.hid ((Fr.trans (Fr.of_below HBV.out (fun k => w.heap.size ≤ k)) hF4 (fun z hz => .inl (by omega))).to_below (Nat.le_refl _) (fun _ h => h))
      clear hT4 hF4 hcar HCA
      cases ok with
      | false =>
        go_wp2_with fail
        go_ret2
        exact ⟨.inl ⟨rfl, x', HCR.out⟩, HB4.out⟩
      | true =>
        have HN4 := Lib.hid (HNV.out.owned HF4.out (by omega) HA1.out HT4.out)
        have HGR := Lib.hid (greatest_any w4 HN4.out HT4.out (by omega) HA1.out HO.out HCR.out.valid HCR.out.feas)
        go_wp2_with fail
        refine HGR.out.mono ?_
        rintro e w5 ⟨⟨vv, rfl⟩, x5, p, hT5, hF5, hv5, hfe5, hlex5, hb5⟩
        have HN5 := Lib.hid (HN4.out.owned hF5 (by omega) HA1.out hT5)
        have HB5 : Hid (Below w.heap.size w w5) := Lib.hid ((Fr.trans (Fr.of_below HB4.out (fun k => w.heap.size ≤ k)) hF5 (fun z hz => .inl (by omega))).to_below (Nat.le_refl _) (fun _ h => h))
        have HFIN : Hid (TI w5 w.heap.size i x5 ∧ Valid i A x5 ∧ Feas i A x5 p ∧ LexCert i A x5 p ∧ ∀ v : Nat, v < n → balF i A x5 v = xs.getD v 0) := Lib.hid ⟨hT5, hv5, hfe5, hlex5, fun v hv => by
          rw [hb5 v]
          have h1 := sumN_eq_zero (n := n) (f := fun v => balF i A x' v - xs.getD v 0) (fun v hv => by have := HCR.out.all rfl v hv; omega) (by rw [sumN_sub, bal_sum HO.out.net, HSUM.out]; omega) v hv
          omega⟩
        clear hT5 hF5 hv5 hfe5 hlex5 hb5 HGR
        go_wp2_with fail
        go_ret2
        exact ⟨.inr ⟨w.heap.size + 1, w.heap.size, x5, p, rfl, HN5.out, HFIN.out.1, Nat.le_refl _, HFIN.out.2⟩, HB5.out⟩
end
end Go.Proofs.Ytcobihdjcdefmaa
