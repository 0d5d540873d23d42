/-
  The walk of the law AccountsBalance.
-/
import Derived.Test.YtpmopdgnnlhplaaTr
import Derived.Test.YtpmopdgnnlhplaaAc
import Derived.Test.YtpmopdgnnlhplaaRk
namespace Go.Proofs.Ytpmopdgnnlhplaa
open Go.RowKit Go.Proofs.YtpmopdgnnlhplaaW.PrintWords
theorem goodA_ofB {a : Ac} (h : (Lit.int .u8 a.kind).wf = true ∧ a.name.size ≤ 9223372036854775807 ∧ (Lit.int .i64 a.day).wf = true ∧ (Lit.int .i64 a.no).wf = true ∧ (a.ps.length ≤ 9223372036854775807 ∧ ∀ p ∈ a.ps, p.a.size ≤ 9223372036854775807 ∧ (Lit.int .i64 p.c).wf = true)) : GoodA a := by
  have h6 : IntKind.u8.min ≤ a.kind ∧ a.kind ≤ IntKind.u8.max := by simpa [Lit.wf] using h.1
  have e1 : IntKind.u8.min = 0 := by decide
  have e2 : IntKind.u8.max = 255 := by decide
  exact ⟨by omega, by omega, fun p hp => (h.2.2.2.2.2 p hp).1⟩
/-! ### Bounds -/
def Pss (recs : List Rc) : Prop := ∀ r ∈ recs, r.ps.length ≤ 16 ∧ ∀ p ∈ r.ps, -1099511627776 ≤ p.c ∧ p.c ≤ 1099511627776
theorem GInv.pssB {names : List ByteArray} {recs : List Rc} {rl : List (Int × Value)} (h : GInv names recs rl) : Pss recs := fun r hr => ⟨(h.pss r hr).2.1, fun p hp => ((h.pss r hr).2.2 p hp).2.2⟩
theorem part_b16 {ps : List Pst} (hl : ps.length ≤ 16) (h : ∀ p ∈ ps, -1099511627776 ≤ p.c ∧ p.c ≤ 1099511627776) (a : ByteArray) : -17592186044416 ≤ part ps a ∧ part ps a ≤ 17592186044416 := by
  obtain ⟨h1, h2⟩ := part_bound (M := 1099511627776) (by decide) h a
  omega
theorem upto_b16 {recs : List Rc} (h : Pss recs) (d : Int) (a : ByteArray) : -(recs.length * 17592186044416) ≤ uptoB d recs a ∧ uptoB d recs a ≤ recs.length * 17592186044416 := by
  induction recs with
  | nil => simp [uptoB]
  | cons x r ih =>
    obtain ⟨h1, h2⟩ := ih (fun p hp => h p (by simp [hp]))
    obtain ⟨h3, h4⟩ := h x (by simp)
    obtain ⟨h5, h6⟩ := part_b16 h3 h4 a
    have e : ((x :: r).length : Int) * 17592186044416 = r.length * 17592186044416 + 17592186044416 := by simp [Int.add_mul]
    rw [e]
    unfold uptoB
    split <;> omega
theorem rows_b16 (a : ByteArray) {recs : List Rc} (h : Pss recs) : ∀ (b : Int), ∀ r ∈ rowsOf a recs b, b - recs.length * 17592186044416 ≤ r.bal ∧ r.bal ≤ b + recs.length * 17592186044416 := by
  induction recs with
  | nil => intro b r hr; cases hr
  | cons x rs ih =>
    intro b r hr
    obtain ⟨h3, h4⟩ := h x (by simp)
    obtain ⟨h5, h6⟩ := part_b16 h3 h4 a
    have e : ((x :: rs).length : Int) * 17592186044416 = rs.length * 17592186044416 + 17592186044416 := by simp [Int.add_mul]
    have e2 : (0 : Int) ≤ rs.length * 17592186044416 := by omega
    rw [e]
    have ih' := ih (fun p hp => h p (by simp [hp]))
    rw [rowsOf_cons] at hr
    split at hr
    · rcases List.mem_cons.1 hr with rfl | hr
      · show _ ≤ b + part x.ps a ∧ b + part x.ps a ≤ _
        omega
      · have := ih' _ r hr
        omega
    · have := ih' _ r hr
      omega
theorem total_b {M : Int} {l : List Pst} (h : ∀ p ∈ l, -M ≤ p.c ∧ p.c ≤ M) : -(l.length * M) ≤ total l ∧ total l ≤ l.length * M := by
  induction l with
  | nil => simp [total]
  | cons x r ih =>
    obtain ⟨h1, h2⟩ := ih (fun p hp => h p (by simp [hp]))
    obtain ⟨h3, h4⟩ := h x (by simp)
    have e : ((x :: r).length : Int) * M = r.length * M + M := by simp [Int.add_mul]
    rw [e]
    unfold total
    omega
/-! ### A statement over a state -/
theorem Statement_led {w : World} {F : Nat → Prop} {g : Nat} {s : St} (h : LedF w F g s) {a : ByteArray} (ha : a ∈ s.n) (f t : Int) :
    Calls Try.prog 49 #[.pointer (some ⟨g, 0, none⟩), .string a, .int .i64 f, .int .i64 t] w
      (StmPost w (if perB f t = true then uptoB (f - 1) s.r a else 0) (if perB f t = true then (rowsOf a s.r 0).filter (inDay f t) else []) (if perB f t = true then 0 else 2)) := by
  obtain ⟨v, rm, am, accs, rl, h1, h2, h3⟩ := h
  have hst := Statement_any h1 a f t (fun a => Nat.le_trans (rowsOf_len a s.r 0) h3.len)
  have hm : memB (accs.map (·.name)) a = true := memB_iff.2 (h2.mem_iff.2 ha)
  cases hp : perB f t with
  | false =>
    have he : stmErr accs a f t = 2 := by simp [stmErr, hm, hp]
    unfold stmVal stmRows at hst
    rw [he] at hst
    exact hst
  | true =>
    have he : stmErr accs a f t = 0 := by simp [stmErr, hm, hp]
    unfold stmVal stmRows at hst
    rw [he] at hst
    simp only [if_true] at hst ⊢
    rw [uptoR_rows (f - 1) a h3.days, Int.zero_add] at hst
    exact hst
theorem led_nodup {w : World} {F : Nat → Prop} {g : Nat} {s : St} (h : LedF w F g s) : s.n.Nodup := by
  obtain ⟨v, rm, am, accs, rl, h1, h2, h3⟩ := h
  exact h2.nodup_iff.1 h1.nodup
theorem less_of {a b : ByteArray} (h : bsL a < bsL b) : Op.bytesLess a.toList b.toList = true := by
  rw [bytesLess_eq, ByteArray.toList_eq, ByteArray.toList_eq]
  exact decide_eq_true h
theorem at_prev {T : List Pst} (h : T.Pairwise fun p q => bsL p.a < bsL q.a) {i : Nat} {p q : Pst} (hp : T[i]? = some p) (hq : T[i + 1]? = some q) : bsL p.a < bsL q.a := by
  obtain ⟨h1, rfl⟩ := List.getElem?_eq_some_iff.1 hp
  obtain ⟨h2, rfl⟩ := List.getElem?_eq_some_iff.1 hq
  exact List.pairwise_iff_getElem.1 h i (i + 1) h1 h2 (Nat.lt_succ_self _)
set_option maxRecDepth 100000 in
set_option maxHeartbeats 4000000 in
theorem balance_walk (A : Option Addr) (c : Nat) (l : List Ac) (w : World) (hC : Kd.C kAc w A l.length l) (hg : ∀ a ∈ l, GoodA a) (from_ to_ : Int) :
    Calls Try.prog 15 #[.slice A l.length c, .int .i64 from_, .int .i64 to_] w fun e w' => e = .returned (.bool true) ∧ Below w.heap.size w w' := by
  go_enter Try.func15, Try.ntmps15
  go_wp2_with fail
  refine (few_any w A c l hC).mono ?_
  rintro e w1 ⟨rfl, rfl⟩
  by_cases hfew : fewB l = false
  · rw [hfew]
    go_wp2_with fail
    refine (alive_any _).mono ?_
    rintro e w6 ⟨rfl, hb⟩
    go_wp2_with fail
    go_ret
    exact ⟨rfl, hb⟩
  have hfew' : fewB l = true := by simpa using hfew
  have hl60 := (fewB_true hfew').1
  rw [hfew']
  clear hfew hfew'
  go_wp2_with fail
  refine (ledger_any w A c l hC hg).mono ?_
  rintro e w2 ⟨F, g, rfl, hL, hb2, hF⟩
  obtain ⟨rl, hG⟩ := hL.inv
  obtain ⟨htot, hrl, hnl⟩ := run_tot l
  generalize runS l ⟨[], []⟩ = s at *
  have hnd := led_nodup hL
  cases hd : dayB to_ with
  | false =>
    have hr : (decide (0 ≤ to_) && decide (to_ ≤ 1000000)) = false := by
      unfold dayB at hd
      have := of_decide_eq_false hd
      rw [Bool.and_eq_false_iff, decide_eq_false_iff_not, decide_eq_false_iff_not]
      omega
    go_wp2_with fail
    refine (Trial_bad hL to_ hd).mono ?_
    rintro e w3 ⟨⟨A3, c3, rfl, hR3⟩, hb3⟩
    have hb4 := below_t hb2 hb3
    clear hb2 hb3 hR3
    have HR := Lib.hid hr
    clear hr
    go_wp2_with fail
    go_loopw [10, 11, 12, 13, 14, 15, 16, 17, 18, 19] (fun s10 s11 _ _ _ _ _ _ _ _ wr => s10 = .int .i64 0 ∧ s11 = .int .i64 0 ∧ Below w.heap.size w wr) (fun _ _ _ _ _ _ _ _ _ _ _ => 0)
    case atStart => exact ⟨rfl, rfl, hb4⟩
    case round =>
      obtain ⟨rfl, rfl, hb5⟩ := hrel
      by_cases h0 : 0 ≤ to_
      · have h1 : decide (to_ ≤ 1000000) = false := by
          refine decide_eq_false fun h2 => ?_
          have := HR.out
          rw [decide_eq_true h0, decide_eq_true h2] at this
          cases this
        go_wp2_with fail
        refine (alive_any _).mono ?_
        rintro e w15 ⟨rfl, hb15⟩
        have hbt6 := below_t hb5 hb15
        go_wp2_with fail
        go_ret
        exact ⟨rfl, hbt6⟩
      · have h1 : decide (0 ≤ to_) = false := decide_eq_false h0
        go_wp2_with fail
        refine (alive_any _).mono ?_
        rintro e w15 ⟨rfl, hb15⟩
        have hbt6 := below_t hb5 hb15
        go_wp2_with fail
        go_ret
        exact ⟨rfl, hbt6⟩
  | true =>
    have hto : 0 ≤ to_ ∧ to_ ≤ 1000000 := by unfold dayB at hd; exact of_decide_eq_true hd
    have HTL := Lib.hid (triL_len s to_)
    have HTM := Lib.hid (fun p (hp : p ∈ triL s to_) => triL_mem hp)
    have HTS := Lib.hid (triL_sorted hnd to_)
    have HTT := Lib.hid (triL_total hnd (fun r hr => ⟨fun p hp => memB_iff.1 ((hG.pss r hr).2.2 p hp).1, htot r hr⟩) to_)
    have HU := Lib.hid (upto_b16 hG.pssB)
    have HO := Lib.hid (fun (a : ByteArray) (h : from_ ≤ to_) => ok_rows a h hG.days (nos_of s.r 0 0 (by rw [hG.chain]; simp)).2 0 0 (fun r hr => by have := (nos_of s.r 0 0 (by rw [hG.chain]; simp)).1 r hr; omega))
    have HRB := Lib.hid (fun (a : ByteArray) => rows_b16 a hG.pssB 0)
    have HD := Lib.hid hd
    clear htot hG hnd hd
    go_wp2_with fail
    refine (Trial_good hL (by omega) to_ HD.out).mono ?_
    rintro e w3 ⟨⟨A3, c3, rfl, hR3⟩, hb3⟩
    have hb4 := below_t hb2 hb3
    have HL := Lib.hid (hL.below hb3)
    obtain ⟨_, _, hq, _, hC3⟩ := Kd.R_reads hR3
    simp only [Value.slice.injEq] at hq
    obtain ⟨rfl, _, rfl⟩ := hq
    generalize triL s to_ = T at *
    have hTl : T.length ≤ 60 := by have := HTL.out; omega
    clear hb2 hb3 hR3 hL HTL
    go_wp2_with fail
    go_loopw [10, 11, 12, 13, 14, 15, 16, 17, 18, 19] (fun s10 s11 _ _ _ _ _ _ _ _ wr => ∃ i : Nat, i ≤ T.length ∧ s11 = .int .i64 i ∧ s10 = .int .i64 (total (T.take i)) ∧ Below w3.heap.size w3 wr) (fun _ s11 _ _ _ _ _ _ _ _ _ => T.length - (intOf s11).toNat)
    case atStart => exact ⟨0, Nat.zero_le _, rfl, rfl, Below.refl _ _⟩
    case round =>
      obtain ⟨i, hi, rfl, rfl, HB⟩ := hrel
      by_cases hlt : i < T.length
      · obtain ⟨p, hp⟩ : ∃ p, T[i]? = some p := ⟨_, List.getElem?_eq_getElem hlt⟩
        obtain ⟨hpn, hpc, hp0⟩ := HTM.out p (List.mem_of_getElem? hp)
        obtain ⟨ad, rfl, p0, p1⟩ := at_Pst (Kd.C_below hC3 HB) hp
        have HP := Lib.hid hp
        clear hp
        have hBE : baE s p.a to_ = 0 := by unfold baE; rw [memB_iff.2 hpn, HD.out]; rfl
        have HBV := Lib.hid (show baV s p.a to_ = p.c by unfold baV; rw [if_pos hBE, hpc])
        have HBE := Lib.hid hBE
        have HPC := Lib.hid hpc
        have hcb := HU.out to_ p.a
        rw [← hpc] at hcb
        have hTb : ∀ q ∈ T, -(60 * 17592186044416) ≤ q.c ∧ q.c ≤ 60 * 17592186044416 := fun q hq => by
          have h1 := (HTM.out q hq).2.1
          have h2 := HU.out to_ q.a
          rw [← h1] at h2
          omega
        have ht1 := total_b (l := T.take i) (fun q hq => hTb q (List.mem_of_mem_take hq))
        have ht2 := total_b (l := T.take (i + 1)) (fun q hq => hTb q (List.mem_of_mem_take hq))
        rw [List.length_take] at ht1 ht2
        have hta : total (T.take (i + 1)) = total (T.take i) + p.c := by
          rw [List.take_succ_eq_append_getElem hlt, (List.getElem?_eq_some_iff.1 HP.out).2, total_append]
          simp [total]
        have HTA := Lib.hid hta
        rw [hta] at ht2
        have hs1 : -(60 * 60 * 17592186044416) ≤ total (T.take i) ∧ total (T.take i) ≤ 60 * 60 * 17592186044416 := by omega
        have hs2 : -(60 * 60 * 17592186044416) ≤ total (T.take i) + p.c ∧ total (T.take i) + p.c ≤ 60 * 60 * 17592186044416 := by omega
        clear ht1 ht2 hta hTb hcb
        clear hBE hpc
        go_wp2_with fail
        refine (Balance_led (HL.out.below HB) p.a to_).mono ?_
        rintro e w5 ⟨rfl, hb5⟩
        rw [HBE.out, HBV.out]
        have HB2 := below_t HB hb5
        clear p0 p1 hb5
        obtain ⟨_, ha3, p0, p1⟩ := at_Pst (Kd.C_below hC3 HB2) HP.out
        obtain rfl := Option.some.inj ha3
        have hne1 : (p.c != p.c) = false := by simp
        have hne2 : (p.c == 0) = false := by simpa using hp0
        by_cases hi0 : i = 0
        · subst hi0
          have z0 : w5.cell? ad = some (.string p.a) := p0
          have z1 : w5.cell? ⟨ad.block, ad.off + 1, none⟩ = some (.int .i64 p.c) := p1
          clear p0 p1
          go_wp2_with fail
          go_quiet (fail)
          have HB3 : Below w3.heap.size w3 (w5.drewN nq) := pw_below_drewN HB2 _
          clear HB2 HB
          generalize w5.drewN nq = w6 at *
          have HST := Statement_led (HL.out.below HB3) hpn from_ to_
          cases hper : perB from_ to_ with
          | false =>
            rw [hper] at HST
            simp only [Bool.false_eq_true, if_false] at HST
            clear z0 z1
            obtain ⟨_, ha5, p0, p1⟩ := at_Pst (Kd.C_below hC3 HB3) HP.out
            obtain rfl := Option.some.inj ha5
            have z0 : w6.cell? ad = some (.string p.a) := p0
            have z1 : w6.cell? ⟨ad.block, ad.off + 1, none⟩ = some (.int .i64 p.c) := p1
            go_wp2_with fail
            refine HST.mono ?_
            rintro e w7 ⟨⟨A7, c7, rfl, hR7⟩, hb7⟩
            have HB4 := below_t HB3 hb7
            clear hb7 HB3 hR7
            go_wp2_with fail
            go_roundw
            case rel => exact ⟨0 + 1, by omega, by go_num, by rw [HTA.out, ← Go.Proofs.YtpmopdgnnlhplaaW.PrintLast.i64_w]; exact congrArg (Value.int .i64) (IntWalk.i64_in (total (T.take 0) + p.c) (by omega)), HB4⟩
            case measure => simp [intOf]; omega
          | true =>
            rw [hper] at HST
            simp only [if_true] at HST
            have hft : from_ ≤ to_ := by
              unfold perB at hper
              simp only [Bool.and_eq_true] at hper
              exact of_decide_eq_true hper.2
            have HOK := HO.out p.a hft
            rw [Int.zero_add, Int.zero_add, ← HPC.out] at HOK
            have HRZ := Lib.hid (fun r (hr : r ∈ (rowsOf p.a s.r 0).filter (inDay from_ to_)) => HRB.out p.a r (List.mem_filter.1 hr).1)
            clear z0 z1
            obtain ⟨_, ha5, p0, p1⟩ := at_Pst (Kd.C_below hC3 HB3) HP.out
            obtain rfl := Option.some.inj ha5
            have z0 : w6.cell? ad = some (.string p.a) := p0
            have z1 : w6.cell? ⟨ad.block, ad.off + 1, none⟩ = some (.int .i64 p.c) := p1
            go_wp2_with fail
            refine HST.mono ?_
            rintro e w7 ⟨⟨A7, c7, rfl, hR7⟩, hb7⟩
            have HB4 := below_t HB3 hb7
            obtain ⟨_, _, hq7, _, hC7⟩ := Kd.R_reads hR7
            simp only [Value.slice.injEq] at hq7
            obtain ⟨rfl, _, rfl⟩ := hq7
            generalize (rowsOf p.a s.r 0).filter (inDay from_ to_) = Fs at *
            generalize uptoB (from_ - 1) s.r p.a = x0 at *
            have HK := Lib.hid HOK
            have hFl := hC7.2.1
            clear hb7 HB3 hR7 HST HOK p0 p1 hper
            go_wp2_with fail
            go_loopw [17, 18, 19] (fun s17 s18 s19 wi => ∃ (k : Nat) (now last : Int), k ≤ Fs.length ∧ s19 = .int .i64 k ∧ s17 = .int .i64 now ∧ s18 = .int .i64 last ∧ OkRows from_ to_ now last (Fs.drop k) p.c ∧ Below w7.heap.size w7 wi) (fun _ _ s19 _ => Fs.length - (intOf s19).toNat)
            case atStart => exact ⟨0, x0, 0, Nat.zero_le _, rfl, rfl, rfl, HK.out, Below.refl _ _⟩
            case round =>
              obtain ⟨k, now, last, hk, rfl, rfl, rfl, hok, HBi⟩ := hrel
              by_cases hkl : k < Fs.length
              · obtain ⟨r, hr⟩ : ∃ r, Fs[k]? = some r := ⟨_, List.getElem?_eq_getElem hkl⟩
                obtain ⟨ad7, rfl, r0, r1, r2, r3⟩ := at_Rw (Kd.C_below hC7 HBi) hr
                rw [List.drop_eq_getElem_cons hkl, (List.getElem?_eq_some_iff.1 hr).2] at hok
                obtain ⟨⟨o1, o2, o3, o4⟩, o5⟩ := hok
                have hzb := HRZ.out r (List.mem_of_getElem? hr)
                have hwb : IntKind.i64.wrap (now + r.c) = r.bal := by rw [o1]; exact IntWalk.i64_in _ (by omega)
                have hnb : (r.bal != r.bal) = false := by simp
                have HO5 := Lib.hid o5
                clear o1 o5 hr hzb
                go_wp2_with fail
                go_roundw
                case rel => exact ⟨k + 1, r.bal, r.no, by omega, by go_num, rfl, rfl, HO5.out, HBi⟩
                case measure => simp [intOf]; omega
              · rw [List.drop_eq_nil_of_le (by omega)] at hok
                have hok : now = p.c := hok
                subst hok
                have HB5 := below_t HB4 HBi
                clear HB4 HBi
                go_wp2_with fail
                go_roundw
                case rel => exact ⟨0 + 1, by omega, by go_num, by rw [HTA.out, ← Go.Proofs.YtpmopdgnnlhplaaW.PrintLast.i64_w]; exact congrArg (Value.int .i64) (IntWalk.i64_in (total (T.take 0) + p.c) (by omega)), HB5⟩
                case measure => simp [intOf]; omega
        · obtain ⟨j, rfl⟩ : ∃ j, i = j + 1 := ⟨i - 1, by omega⟩
          obtain ⟨q, hq⟩ : ∃ q, T[j]? = some q := ⟨_, List.getElem?_eq_getElem (by omega)⟩
          obtain ⟨_, ha4, q0, q1⟩ := at_Pst (Kd.C_below hC3 HB2) hq
          obtain rfl := Option.some.inj ha4
          have HLT := Lib.hid (less_of (at_prev HTS.out hq HP.out))
          have hwj : IntKind.i64.wrap (j : Int) = j := IntWalk.i64_in _ (by omega)
          clear hq
          go_wp2_with fail
          go_quiet (fail)
          rw [HLT.out]
          have HB3 : Below w3.heap.size w3 (w5.drewN nq) := pw_below_drewN HB2 _
          clear HB2 HB
          generalize w5.drewN nq = w6 at *
          have HST := Statement_led (HL.out.below HB3) hpn from_ to_
          cases hper : perB from_ to_ with
          | false =>
            rw [hper] at HST
            simp only [Bool.false_eq_true, if_false] at HST
            clear p0 p1 q0 q1
            obtain ⟨_, ha5, p0, p1⟩ := at_Pst (Kd.C_below hC3 HB3) HP.out
            obtain rfl := Option.some.inj ha5
            go_wp2_with fail
            refine HST.mono ?_
            rintro e w7 ⟨⟨A7, c7, rfl, hR7⟩, hb7⟩
            have HB4 := below_t HB3 hb7
            clear hb7 HB3 hR7
            go_wp2_with fail
            go_roundw
            case rel => exact ⟨(j + 1) + 1, by omega, by go_num, by rw [HTA.out], HB4⟩
            case measure => simp [intOf]; omega
          | true =>
            rw [hper] at HST
            simp only [if_true] at HST
            have hft : from_ ≤ to_ := by
              unfold perB at hper
              simp only [Bool.and_eq_true] at hper
              exact of_decide_eq_true hper.2
            have HOK := HO.out p.a hft
            rw [Int.zero_add, Int.zero_add, ← HPC.out] at HOK
            have HRZ := Lib.hid (fun r (hr : r ∈ (rowsOf p.a s.r 0).filter (inDay from_ to_)) => HRB.out p.a r (List.mem_filter.1 hr).1)
            clear p0 p1 q0 q1
            obtain ⟨_, ha5, p0, p1⟩ := at_Pst (Kd.C_below hC3 HB3) HP.out
            obtain rfl := Option.some.inj ha5
            go_wp2_with fail
            refine HST.mono ?_
            rintro e w7 ⟨⟨A7, c7, rfl, hR7⟩, hb7⟩
            have HB4 := below_t HB3 hb7
            obtain ⟨_, _, hq7, _, hC7⟩ := Kd.R_reads hR7
            simp only [Value.slice.injEq] at hq7
            obtain ⟨rfl, _, rfl⟩ := hq7
            generalize (rowsOf p.a s.r 0).filter (inDay from_ to_) = Fs at *
            generalize uptoB (from_ - 1) s.r p.a = x0 at *
            have HK := Lib.hid HOK
            have hFl := hC7.2.1
            clear hb7 HB3 hR7 HST HOK p0 p1 hper
            go_wp2_with fail
            go_loopw [17, 18, 19] (fun s17 s18 s19 wi => ∃ (k : Nat) (now last : Int), k ≤ Fs.length ∧ s19 = .int .i64 k ∧ s17 = .int .i64 now ∧ s18 = .int .i64 last ∧ OkRows from_ to_ now last (Fs.drop k) p.c ∧ Below w7.heap.size w7 wi) (fun _ _ s19 _ => Fs.length - (intOf s19).toNat)
            case atStart => exact ⟨0, x0, 0, Nat.zero_le _, rfl, rfl, rfl, HK.out, Below.refl _ _⟩
            case round =>
              obtain ⟨k, now, last, hk, rfl, rfl, rfl, hok, HBi⟩ := hrel
              by_cases hkl : k < Fs.length
              · obtain ⟨r, hr⟩ : ∃ r, Fs[k]? = some r := ⟨_, List.getElem?_eq_getElem hkl⟩
                obtain ⟨ad7, rfl, r0, r1, r2, r3⟩ := at_Rw (Kd.C_below hC7 HBi) hr
                rw [List.drop_eq_getElem_cons hkl, (List.getElem?_eq_some_iff.1 hr).2] at hok
                obtain ⟨⟨o1, o2, o3, o4⟩, o5⟩ := hok
                have hzb := HRZ.out r (List.mem_of_getElem? hr)
                have hwb : IntKind.i64.wrap (now + r.c) = r.bal := by rw [o1]; exact IntWalk.i64_in _ (by omega)
                have hnb : (r.bal != r.bal) = false := by simp
                have HO5 := Lib.hid o5
                clear o1 o5 hr hzb
                go_wp2_with fail
                go_roundw
                case rel => exact ⟨k + 1, r.bal, r.no, by omega, by go_num, rfl, rfl, HO5.out, HBi⟩
                case measure => simp [intOf]; omega
              · rw [List.drop_eq_nil_of_le (by omega)] at hok
                have hok : now = p.c := hok
                subst hok
                have HB5 := below_t HB4 HBi
                clear HB4 HBi
                go_wp2_with fail
                go_roundw
                case rel => exact ⟨(j + 1) + 1, by omega, by go_num, by rw [HTA.out], HB5⟩
                case measure => simp [intOf]; omega
      · obtain rfl : i = T.length := by omega
        rw [List.take_length, HTT.out]
        have hd1 : decide (0 ≤ to_) = true := decide_eq_true hto.1
        have hd2 : decide (to_ ≤ 1000000) = true := decide_eq_true hto.2
        go_wp2_with fail
        refine (alive_any _).mono ?_
        rintro e w15 ⟨rfl, hb15⟩
        have hbt6 := below_t hb4 (below_t HB hb15)
        go_wp2_with fail
        go_ret
        exact ⟨rfl, hbt6⟩
theorem balance_law (A : Option Addr) (c : Nat) (l : List Ac) (_ : l.length ≤ c) (_ : c ≤ 9223372036854775807) {w : World} (hC : Kd.C kAc w A l.length l) (hg : ∀ a ∈ l, (Lit.int .u8 a.kind).wf = true ∧ a.name.size ≤ 9223372036854775807 ∧ (Lit.int .i64 a.day).wf = true ∧ (Lit.int .i64 a.no).wf = true ∧ (a.ps.length ≤ 9223372036854775807 ∧ ∀ p ∈ a.ps, p.a.size ≤ 9223372036854775807 ∧ (Lit.int .i64 p.c).wf = true))
    {at_ : Int} (_ : (Lit.int .i64 at_).wf = true) {fi : Int} (_ : (Lit.int .i64 fi).wf = true) :
    Calls Try.prog 15 #[.slice A l.length c, .int .i64 at_, .int .i64 fi] w fun e w' => e = .returned (.bool true) ∧ Below w.heap.size w w' :=
  balance_walk A c l w hC (fun a ha => goodA_ofB (hg a ha)) at_ fi
end Go.Proofs.Ytpmopdgnnlhplaa
