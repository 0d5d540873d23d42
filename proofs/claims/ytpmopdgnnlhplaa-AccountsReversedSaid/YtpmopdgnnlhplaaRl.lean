/-
  The walk of the law AccountsReversed.
-/
import Derived.Test.YtpmopdgnnlhplaaCb
import Derived.Test.YtpmopdgnnlhplaaAc
import Derived.Test.YtpmopdgnnlhplaaRk
namespace Go.Proofs.Ytpmopdgnnlhplaa
open Go.RowKit Go.Proofs.YtpmopdgnnlhplaaW.PrintWords
theorem goodA_of' {a : Ac} (h : (Lit.int .u8 a.kind).wf = true ∧ a.name.size ≤ 9223372036854775807 ∧ (Lit.int .i64 a.day).wf = true ∧ (Lit.int .i64 a.no).wf = true ∧ (a.ps.length ≤ 9223372036854775807 ∧ ∀ p ∈ a.ps, p.a.size ≤ 9223372036854775807 ∧ (Lit.int .i64 p.c).wf = true)) : GoodA a := by
  have h6 : IntKind.u8.min ≤ a.kind ∧ a.kind ≤ IntKind.u8.max := by simpa [Lit.wf] using h.1
  have e1 : IntKind.u8.min = 0 := by decide
  have e2 : IntKind.u8.max = 255 := by decide
  exact ⟨by omega, by omega, fun p hp => (h.2.2.2.2.2 p hp).1⟩
/-! ### The plain law -/
theorem part_neg (ps : List Pst) (a : ByteArray) : part (ps.map negP) a = -part ps a := by
  induction ps with
  | nil => rfl
  | cons x r ih =>
    simp only [List.map_cons, part, ih]
    show (if x.a = a then -x.c else 0) + -part r a = _
    split <;> omega
theorem part_bd16 {ps : List Pst} (hl : ps.length ≤ 16) (h : ∀ p ∈ ps, -1099511627776 ≤ p.c ∧ p.c ≤ 1099511627776) (a : ByteArray) : -17592186044416 ≤ part ps a ∧ part ps a ≤ 17592186044416 := by
  obtain ⟨h1, h2⟩ := part_bound (M := 1099511627776) (by decide) h a
  omega
theorem uptoB_bd' {recs : List Rc} (h : ∀ r ∈ recs, r.ps.length ≤ 16 ∧ ∀ p ∈ r.ps, -1099511627776 ≤ p.c ∧ p.c ≤ 1099511627776) (d : Int) (a : ByteArray) : -(recs.length * 17592186044416) ≤ uptoB d recs a ∧ uptoB d recs a ≤ recs.length * 17592186044416 := by
  induction recs with
  | nil => simp [uptoB]
  | cons x r ih =>
    obtain ⟨h1, h2⟩ := ih (fun p hp => h p (by simp [hp]))
    obtain ⟨h3, h4⟩ := h x (by simp)
    obtain ⟨h5, h6⟩ := part_bd16 h3 h4 a
    have e : ((x :: r).length : Int) * 17592186044416 = r.length * 17592186044416 + 17592186044416 := by simp [Int.add_mul]
    rw [e]
    unfold uptoB
    split <;> omega
structure Rvd (s : St) (no day : Int) (m : Nat) (x : Rc) : Prop where
  hno : no = m + 1
  hlt : m < s.r.length
  hat : s.r[m]? = some x
  hday : dayB day = true
  recs : (reS s no day).r = s.r ++ [newRec s.r day no (x.ps.map negP)]
  names : (reS s no day).n = s.n
  val : reV s no day = s.r.length + 1
  again : revErr (s.r ++ [newRec s.r day no (x.ps.map negP)]) no day = 10
  other : revErr (s.r ++ [newRec s.r day no (x.ps.map negP)]) (s.r.length + 1) day = 10
theorem rvd_of {s : St} {no day : Int} (h : revErr s.r no day = 0) : ∃ m x, Rvd s no day m x := by
  obtain ⟨h1, h2, h3, h4, x, h5, h6, h7, h8⟩ := revErr_0 h
  have hps : revPs s.r no = x.ps.map negP := by unfold revPs; rw [h5]
  refine ⟨(no - 1).toNat, x, ⟨by omega, by omega, h5, h3, ?_, ?_, ?_, ?_, ?_⟩⟩
  · unfold reS; rw [if_pos h, hps]
  · unfold reS; rw [if_pos h]
  · unfold reV; rw [if_pos h]
  · have hl : (s.r ++ [newRec s.r day no (x.ps.map negP)]).length = s.r.length + 1 := by simp
    unfold revErr
    rw [if_neg (by rw [hl]; omega), if_neg (by rw [h3]; simp), List.getElem?_append_left (by omega), h5]
    simp only
    rw [if_pos]
    right; right
    rw [any_append]
    simp [newRec]
  · have hl : (s.r ++ [newRec s.r day no (x.ps.map negP)]).length = s.r.length + 1 := by simp
    unfold revErr
    rw [if_neg (by rw [hl]; omega), if_neg (by rw [h3]; simp), show ((s.r.length : Int) + 1 - 1).toNat = s.r.length by omega, List.getElem?_append_right (Nat.le_refl _), Nat.sub_self]
    simp only [List.getElem?_cons_zero]
    rw [if_pos]
    right; left
    show no ≠ 0
    omega
theorem bs_eq (a : ByteArray) : (a.toList == a.toList) = true := beq_self_eq_true _
open Go.Proofs in
theorem bs_ne {a b : ByteArray} (h : a ≠ b) : (a.toList == b.toList) = false := by
  refine beq_eq_false_iff_ne.2 fun h1 => h ?_
  rw [ByteArray.toList_eq, ByteArray.toList_eq] at h1
  exact ByteArray.ext (Array.toList_inj.1 h1)
set_option maxRecDepth 100000 in
set_option maxHeartbeats 4000000 in
theorem reversed_walk (A : Option Addr) (c : Nat) (l : List Ac) (w : World) (hC : Kd.C kAc w A l.length l) (hg : ∀ a ∈ l, GoodA a) (no day at_ : Int) :
    Calls Try.prog 10 #[.slice A l.length c, .int .i64 no, .int .i64 day, .int .i64 at_] w fun e w' => e = .returned (.bool true) ∧ Below w.heap.size w w' := by
  have heq := eq47
  go_enter Try.func10, Try.ntmps10
  go_wp2_with fail
  refine (few_any w A c l hC).mono ?_
  rintro e w1 ⟨rfl, rfl⟩
  by_cases hfew : fewB l = false
  · rw [hfew]
    go_wp2_with fail
    refine (alive_any _).mono ?_
    rintro e w6 ⟨rfl, hb⟩
    go_wp2_with fail
    go_ret
    exact ⟨rfl, hb⟩
  have hfew' : fewB l = true := by simpa using hfew
  rw [hfew']
  clear hfew hfew'
  go_wp2_with fail
  refine (ledger_any w A c l hC hg).mono ?_
  rintro e w2 ⟨F, g, rfl, hL, hb2, hF⟩
  obtain ⟨rl, hG⟩ := hL.inv
  generalize runS l ⟨[], []⟩ = s at *
  go_wp2_with fail
  refine (Copy_led hL).mono ?_
  rintro e w3 ⟨gc, Fb, rfl, hb3, hFb, hBal, hLc⟩
  have hL3 := hL.below hb3
  have hfin := hL.fin
  have hb4 := below_t hb2 hb3
  have hb3s := hb3.size
  go_wp2_with fail
  refine (Reverse_led2 hL3 no day).mono ?_
  rintro e w5 ⟨rfl, hbe, F5, hL5, hU5⟩
  have hF3 : ∀ x, F x → w.heap.size ≤ x := hF
  obtain ⟨hb6, hF5⟩ := upd_below hb4 hF3 hU5
  have hBal5 := hBal.fr hU5.1 (fun b hb hf => by have := hFb b hb; have := hfin b hf; omega)
  by_cases he : revErr s.r no day = 0
  · obtain ⟨m, x, hno, hml, hx, hdy, hrec, hnm, hval, hag, hot⟩ := rvd_of he
    subst hno
    obtain ⟨hp2, hp16, hpg⟩ := hG.pss x (List.mem_of_getElem? hx)
    have hlen := hG.len
    have HPB := Lib.hid (fun (k : Nat) (a : ByteArray) => part_bd16 (ps := x.ps.take k) (by rw [List.length_take]; omega) (fun p hp => ⟨(hpg p (List.mem_of_mem_take hp)).2.2.1, (hpg p (List.mem_of_mem_take hp)).2.2.2⟩) a)
    have HUB := Lib.hid (fun a => uptoB_bd' (recs := s.r) (fun r hr => ⟨(hG.pss r hr).2.1, fun p hp => ⟨((hG.pss r hr).2.2 p hp).2.2.1, ((hG.pss r hr).2.2 p hp).2.2.2⟩⟩) at_ a)
    have he0 : ((0 : Int) != 0) = false := by decide
    rw [he, hval]
    have HL0 := Lib.hid hL5
    have HBL := Lib.hid hBal5
    clear hbe hU5 hBal hL hL3 hL5 hBal5 he hLc hb3 hb2 hb4 hfin
    go_wp2_with fail
    refine (Records_led HL0.out).mono ?_
    rintro e w6 ⟨⟨A6, c6, rfl, hS6⟩, hb7⟩
    have hb8 := below_t hb6 hb7
    have hC6 := (Kd.S_reads' hS6).2.2
    have HL1 := Lib.hid (HL0.out.below hb7)
    have HBL1 := Lib.hid (HBL.out.below hb7)
    clear hS6 hb7 hb6 HL0 HBL
    rw [hrec] at hC6 ⊢
    have hlr : (s.r ++ [newRec s.r day (m + 1) (x.ps.map negP)]).length = s.r.length + 1 := by simp
    have hxm : (s.r ++ [newRec s.r day (m + 1) (x.ps.map negP)])[m]? = some x := by rw [List.getElem?_append_left hml]; exact hx
    have hxl : (s.r ++ [newRec s.r day (m + 1) (x.ps.map negP)])[s.r.length]? = some (newRec s.r day (m + 1) (x.ps.map negP)) := by rw [List.getElem?_append_right (Nat.le_refl _), Nat.sub_self]; rfl
    rw [hlr] at hC6 ⊢
    obtain ⟨ad, A2, c2, rfl, p0, p1, p2, p3, p4, hle2, hC2⟩ := at_Rc hC6 hxm
    obtain ⟨ad', A3, c3, had, q0, q1, q2, q3, q4, hle3, hC3⟩ := at_Rc hC6 hxl
    obtain rfl := Option.some.inj had
    have hrl : (newRec s.r day (m + 1) (x.ps.map negP)).ps.length = x.ps.length := List.length_map _
    rw [hrl] at q2
    have q3' : w6.cell? ⟨(ad.add (s.r.length * 5)).block, (ad.add (s.r.length * 5)).off + 3, none⟩ = some (.int .i64 (m + 1)) := q3
    have hne : ((s.r.length : Int) + 1 != ((s.r.length + 1 : Nat) : Int)) = false := by simp
    have hne2 : ((x.ps.length : Int) != (x.ps.length : Int)) = false := by simp
    have hnn : ((m : Int) + 1 != (m : Int) + 1) = false := by simp
    have hwm : IntKind.i64.wrap (m : Int) = m := IntWalk.i64_in _ (by omega)
    have hwl : IntKind.i64.wrap (s.r.length : Int) = s.r.length := IntWalk.i64_in _ (by omega)
    have HREC := Lib.hid hrec
    have HAG := Lib.hid hag
    have HOT := Lib.hid hot
    have HNM := Lib.hid hnm
    have HX := Lib.hid hx
    clear hx hxm hxl hlr hrl hrec hag hot hnm hle3 hC3 q0 q1 q3 q4 p0 p1 p3 p4 hval
    have hd1 : decide ((m : Int) + 1 < 1) = false := decide_eq_false (by omega)
    have hd2 : decide (s.r.length ≤ m) = false := decide_eq_false (by omega)
    go_wp2_with fail
    go_quiet (fail)
    by_cases hin : day ≤ at_ ∧ at_ ≤ 1000000
    · obtain ⟨hin1, hin2⟩ := hin
      go_wp2_with fail
      go_loopw [15, 16, 17, 18, 19, 20, 21] (fun s15 _ _ _ _ _ _ wr => ∃ k : Nat, k ≤ x.ps.length ∧ s15 = .int .i64 k ∧ Below w6.heap.size w6 wr) (fun s15 _ _ _ _ _ _ _ => x.ps.length - (intOf s15).toNat)
      case atStart => exact ⟨0, Nat.zero_le _, rfl, pw_below_drewN (Below.refl _ _) _⟩
      case round =>
        obtain ⟨k, hk, rfl, HB⟩ := hrel
        by_cases hlt : k < x.ps.length
        · obtain ⟨y, hy⟩ : ∃ y, x.ps[k]? = some y := ⟨_, List.getElem?_eq_getElem hlt⟩
          have HY := Lib.hid hy
          clear hy
          go_wp2_with fail
          go_loopw [16, 17] (fun s16 s17 wi => ∃ j : Nat, j ≤ x.ps.length ∧ s17 = .int .i64 j ∧ s16 = .int .i64 (part (x.ps.take j) y.a) ∧ Below w6.heap.size w6 wi) (fun _ s17 _ => x.ps.length - (intOf s17).toNat)
          case atStart => exact ⟨0, Nat.zero_le _, rfl, rfl, HB⟩
          case round =>
            obtain ⟨j, hj, rfl, rfl, HB2⟩ := hrel
            obtain ⟨a2, rfl, p0, p1⟩ := at_Pst (Kd.C_below hC2 HB2) HY.out
            by_cases hjl : j < x.ps.length
            · obtain ⟨z, hz⟩ : ∃ z, x.ps[j]? = some z := ⟨_, List.getElem?_eq_getElem hjl⟩
              obtain ⟨a3, ha3, q0, q1⟩ := at_Pst (Kd.C_below hC2 HB2) hz
              obtain rfl := Option.some.inj ha3
              have HP : part (x.ps.take (j + 1)) y.a = part (x.ps.take j) y.a + (if z.a = y.a then z.c else 0) := by
                rw [List.take_succ_eq_append_getElem hjl, (List.getElem?_eq_some_iff.1 hz).2, part_append]
                simp [part]
              obtain ⟨b1, b2⟩ := HPB.out j y.a
              obtain ⟨b3, b4⟩ := HPB.out (j + 1) y.a
              by_cases hzy : z.a = y.a
              · rw [if_pos hzy] at HP
                have HZ := Lib.hid (show (z.a.toList == y.a.toList) = true by rw [hzy]; exact bs_eq _)
                have HP' := Lib.hid HP
                rw [HP] at b3 b4
                clear hz HP hzy
                go_wp2_with fail
                go_quiet (fail)
                rw [HZ.out]
                go_wp2_with fail
                go_roundw
                case rel => exact ⟨j + 1, by omega, by go_num, by rw [HP'.out], pw_below_drewN HB2 _⟩
                case measure => simp [intOf]; omega
              · rw [if_neg hzy] at HP
                have HZ := Lib.hid (bs_ne hzy)
                have HP' := Lib.hid HP
                clear hz HP hzy b3 b4
                go_wp2_with fail
                go_quiet (fail)
                rw [HZ.out]
                go_wp2_with fail
                go_roundw
                case rel => exact ⟨j + 1, by omega, by go_num, by rw [HP'.out]; go_num, pw_below_drewN HB2 _⟩
                case measure => simp [intOf]; omega
            · have hjx : x.ps.take j = x.ps := List.take_of_length_le (by omega)
              obtain ⟨b1, b2⟩ := HPB.out j y.a
              rw [hjx] at b1 b2 ⊢
              clear hjx
              obtain ⟨u1, u2⟩ := HUB.out y.a
              have hmy : memB s.n y.a = true := (hpg y (List.mem_of_getElem? HY.out)).1
              have hda : dayB at_ = true := by
                unfold dayB at hdy ⊢
                have := of_decide_eq_true hdy
                exact decide_eq_true (by omega)
              have HE1 : baE s y.a at_ = 0 := by unfold baE; rw [hmy, hda]; rfl
              have HE2 : baE (reS s (m + 1) day) y.a at_ = 0 := by unfold baE; rw [HNM.out, hmy, hda]; rfl
              have HV1 := Lib.hid (show baV s y.a at_ = uptoB at_ s.r y.a by unfold baV; rw [if_pos HE1])
              have HV2 := Lib.hid (show baV (reS s (m + 1) day) y.a at_ = uptoB at_ s.r y.a - part x.ps y.a by
                unfold baV; rw [if_pos HE2, HREC.out, uptoB_append]
                unfold uptoB uptoB
                rw [show (newRec s.r day (m + 1) (x.ps.map negP)).day = day from rfl, if_pos hin1, show (newRec s.r day (m + 1) (x.ps.map negP)).ps = x.ps.map negP from rfl, part_neg]
                omega)
              have HE1' := Lib.hid HE1
              have HE2' := Lib.hid HE2
              clear HE1 HE2 hmy hda
              go_wp2_with fail
              refine (Balance_led (HL1.out.below HB2) y.a at_).mono ?_
              rintro e w10 ⟨rfl, hb10⟩
              rw [HE2'.out, HV2.out]
              have HB3 := below_t HB2 hb10
              obtain ⟨_, ha3, p2, p3⟩ := at_Pst (Kd.C_below hC2 HB3) HY.out
              obtain rfl := Option.some.inj ha3
              clear hb10 p0 p1
              go_wp2_with fail
              refine (Balance_bal (HBL1.out.below HB3) y.a at_).mono ?_
              rintro e w11 ⟨rfl, hb11⟩
              rw [HE1'.out, HV1.out]
              have HB4 := below_t HB3 hb11
              clear hb11 p2 p3
              generalize uptoB at_ s.r y.a = U at *
              generalize part x.ps y.a = P at *
              have hwp : IntKind.i64.wrap (U - P) = U - P := IntWalk.i64_in _ (by omega)
              have hup : (U - P != U - P) = false := by simp
              go_wp2_with fail
              go_roundw
              case rel => exact ⟨k + 1, by omega, by go_num, HB4⟩
              case measure => simp [intOf]; omega
        · clear p2 q2 q3'
          go_wp2_with fail
          refine (Reverse_led2 (HL1.out.below HB) (m + 1) day).mono ?_
          rintro e w13 ⟨rfl, hbe1, _⟩
          have hbt1 := hbe1 (by rw [HREC.out, HAG.out]; decide)
          rw [show reV (reS s (m + 1) day) (m + 1) day = 0 by unfold reV; rw [HREC.out, HAG.out]; rfl, HREC.out, HAG.out]
          have hbt2 := below_t HB hbt1
          clear hbe1 hbt1
          go_wp2_with fail
          refine (Reverse_led2 (HL1.out.below hbt2) (s.r.length + 1) day).mono ?_
          rintro e w14 ⟨rfl, hbe1, _⟩
          have hbt3 := hbe1 (by rw [HREC.out, HOT.out]; decide)
          rw [show reV (reS s (m + 1) day) (s.r.length + 1) day = 0 by unfold reV; rw [HREC.out, HOT.out]; rfl, HREC.out, HOT.out]
          have hbt4 := below_t hb8 (below_t hbt2 hbt3)
          clear hbe1 hbt3 hbt2
          go_wp2_with fail
          refine (alive_any _).mono ?_
          rintro e w15 ⟨rfl, hb15⟩
          have hbt6 := below_t hbt4 hb15
          go_wp2_with fail
          go_ret
          exact ⟨rfl, hbt6⟩
    · have HB := pw_below_drewN (Below.refl w6.heap.size w6) nq
      clear p2 q2 q3'
      by_cases hd3 : day ≤ at_
      · have hd4 : decide (at_ ≤ 1000000) = false := decide_eq_false (by omega)
        clear hin
        go_wp2_with fail
        refine (Reverse_led2 (HL1.out.below HB) (m + 1) day).mono ?_
        rintro e w13 ⟨rfl, hbe1, _⟩
        have hbt1 := hbe1 (by rw [HREC.out, HAG.out]; decide)
        rw [show reV (reS s (m + 1) day) (m + 1) day = 0 by unfold reV; rw [HREC.out, HAG.out]; rfl, HREC.out, HAG.out]
        have hbt2 := below_t HB hbt1
        clear hbe1 hbt1
        go_wp2_with fail
        refine (Reverse_led2 (HL1.out.below hbt2) (s.r.length + 1) day).mono ?_
        rintro e w14 ⟨rfl, hbe1, _⟩
        have hbt3 := hbe1 (by rw [HREC.out, HOT.out]; decide)
        rw [show reV (reS s (m + 1) day) (s.r.length + 1) day = 0 by unfold reV; rw [HREC.out, HOT.out]; rfl, HREC.out, HOT.out]
        have hbt4 := below_t hb8 (below_t hbt2 hbt3)
        clear hbe1 hbt3 hbt2
        go_wp2_with fail
        refine (alive_any _).mono ?_
        rintro e w15 ⟨rfl, hb15⟩
        have hbt6 := below_t hbt4 hb15
        go_wp2_with fail
        go_ret
        exact ⟨rfl, hbt6⟩
      · have hd4 : decide (day ≤ at_) = false := decide_eq_false (by omega)
        clear hin
        go_wp2_with fail
        refine (Reverse_led2 (HL1.out.below HB) (m + 1) day).mono ?_
        rintro e w13 ⟨rfl, hbe1, _⟩
        have hbt1 := hbe1 (by rw [HREC.out, HAG.out]; decide)
        rw [show reV (reS s (m + 1) day) (m + 1) day = 0 by unfold reV; rw [HREC.out, HAG.out]; rfl, HREC.out, HAG.out]
        have hbt2 := below_t HB hbt1
        clear hbe1 hbt1
        go_wp2_with fail
        refine (Reverse_led2 (HL1.out.below hbt2) (s.r.length + 1) day).mono ?_
        rintro e w14 ⟨rfl, hbe1, _⟩
        have hbt3 := hbe1 (by rw [HREC.out, HOT.out]; decide)
        rw [show reV (reS s (m + 1) day) (s.r.length + 1) day = 0 by unfold reV; rw [HREC.out, HOT.out]; rfl, HREC.out, HOT.out]
        have hbt4 := below_t hb8 (below_t hbt2 hbt3)
        clear hbe1 hbt3 hbt2
        go_wp2_with fail
        refine (alive_any _).mono ?_
        rintro e w15 ⟨rfl, hb15⟩
        have hbt6 := below_t hbt4 hb15
        go_wp2_with fail
        go_ret
        exact ⟨rfl, hbt6⟩
  · have hbe' := hbe he
    have hLc5 := hLc.below hbe'
    have hv : reV s no day = 0 := by unfold reV; rw [if_neg he]
    have hs : reS s no day = s := by unfold reS; rw [if_neg he]
    have he1 : (revErr s.r no day != 0) = true := by simpa using he
    rw [hs] at hL5
    rw [hv]
    clear hbe he hU5 hBal hL hL3
    go_wp2_with fail
    refine (Records_led hL5).mono ?_
    rintro e w6 ⟨⟨A6, c6, rfl, hS6⟩, hb7⟩
    have hLc6 := hLc5.below hb7
    have hb8 := below_t hb6 hb7
    go_wp2_with fail
    refine (Records_led hLc6).mono ?_
    rintro e w7 ⟨⟨A7, c7, rfl, hS7⟩, hb9⟩
    have hb10 := below_t hb8 hb9
    have hC6 := Kd.C_below (Kd.S_reads' hS6).2.2 hb9
    have hC7 := (Kd.S_reads' hS7).2.2
    clear hb7 hb9 hb8 hS6 hS7
    go_wp2_with fail
    refine (records_any w7 A6 A7 c6 c7 s.r hC6 hC7).mono ?_
    rintro e w8 ⟨rfl, hb11⟩
    have hb12 := below_t hb10 hb11
    go_wp2_with fail
    refine (alive_any _).mono ?_
    rintro e w9 ⟨rfl, hb13⟩
    have hb14 := below_t hb12 hb13
    go_wp2_with fail
    go_ret
    exact ⟨rfl, hb14⟩
theorem reversed_law (A : Option Addr) (c : Nat) (l : List Ac) (_ : l.length ≤ c) (_ : c ≤ 9223372036854775807) {w : World} (hC : Kd.C kAc w A l.length l) (hg : ∀ a ∈ l, (Lit.int .u8 a.kind).wf = true ∧ a.name.size ≤ 9223372036854775807 ∧ (Lit.int .i64 a.day).wf = true ∧ (Lit.int .i64 a.no).wf = true ∧ (a.ps.length ≤ 9223372036854775807 ∧ ∀ p ∈ a.ps, p.a.size ≤ 9223372036854775807 ∧ (Lit.int .i64 p.c).wf = true))
    {at_ : Int} (_ : (Lit.int .i64 at_).wf = true) {day : Int} (_ : (Lit.int .i64 day).wf = true) {at2 : Int} (_ : (Lit.int .i64 at2).wf = true) :
    Calls Try.prog 10 #[.slice A l.length c, .int .i64 at_, .int .i64 day, .int .i64 at2] w fun e w' => e = .returned (.bool true) ∧ Below w.heap.size w w' :=
  reversed_walk A c l w hC (fun a ha => goodA_of' (hg a ha)) at_ day at2
end Go.Proofs.Ytpmopdgnnlhplaa
