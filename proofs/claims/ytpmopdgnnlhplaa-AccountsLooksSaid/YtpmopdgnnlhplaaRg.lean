/-
  The walks of the reference's Day, cents, Name, has, late, part, upto.
  The walks of the reference's has, late, part, upto.
  The walk of the reference's Open.
  The walk of the reference's put.
  The walk of the reference's Post.
  The walk of the reference's Reverse.
  The walks of lines and do: an act on the ledger and on its reference; they agree.
  Stores into records that were handed out: a record's sum, a posting's cents.
-/
import Derived.Test.YtpmopdgnnlhplaaLe
import Derived.Test.YtpmopdgnnlhplaaBp
import Derived.Test.YtpmopdgnnlhplaaGi
import Derived.Test.YtpmopdgnnlhplaaRq
import Derived.Test.YtpmopdgnnlhplaaAc
import Derived.Test.YtpmopdgnnlhplaaRd
namespace Go.Proofs.Ytpmopdgnnlhplaa
open Go.RowKit Go.Proofs.YtpmopdgnnlhplaaW.PrintWords
abbrev kSt : Kd ByteArray := Kd.string
theorem at_St {w : World} {A : Option Addr} {n : Nat} {xs : List ByteArray} (h : Kd.C kSt w A n xs) {i : Nat} {x : ByteArray} (hx : xs[i]? = some x) : ∃ ad, A = some ad ∧ w.cell? (ad.add i) = some (.string x) := by
  have h1 : i < xs.length := (List.getElem?_eq_some_iff.1 hx).1
  obtain ⟨ad, e, hc⟩ := h.2.2 (by have := h.1; omega)
  obtain ⟨cs, _, h2, h3⟩ := hc i x hx
  refine ⟨ad, e, ?_⟩
  have h2 : cs = [.string x] := h2
  subst h2
  have := h3 0 _ rfl
  have e1 : (kSt).sz = 1 := rfl
  rw [e1] at this
  simpa using this
theorem sb_eq (a : ByteArray) : (a.toList == a.toList) = true := beq_self_eq_true _
theorem sb_ne {a b : ByteArray} (h : a ≠ b) : (a.toList == b.toList) = false := by
  refine beq_eq_false_iff_ne.2 fun h1 => h ?_
  rw [ByteArray.toList_eq, ByteArray.toList_eq] at h1
  exact ByteArray.ext (Array.toList_inj.1 h1)
set_option maxHeartbeats 400000 in
theorem rday_any (n : Int) (w : World) : Calls Try.prog 56 #[.int .i64 n] w fun e w' => e = .returned (.bool (dayB n)) ∧ w = w' := by
  by_cases h0 : 0 ≤ n
  · by_cases h1 : n ≤ 1000000
    · have HD := Lib.hid (show dayB n = true by simp [dayB, h0, h1])
      go_enter Try.func56, Try.ntmps56
      go_wp2
      go_ret
      exact ⟨by rw [HD.out]; rfl, rfl⟩
    · have HD := Lib.hid (show dayB n = false by simp [dayB, h1])
      go_enter Try.func56, Try.ntmps56
      go_wp2
      go_ret
      exact ⟨by rw [HD.out]; rfl, rfl⟩
  · have HD := Lib.hid (show dayB n = false by simp [dayB, h0])
    go_enter Try.func56, Try.ntmps56
    go_wp2
    go_ret
    exact ⟨by rw [HD.out]; rfl, rfl⟩
def centsB (n : Int) : Bool := decide (-1099511627776 ≤ n ∧ n ≤ 1099511627776)
set_option maxHeartbeats 400000 in
theorem rcents_any (n : Int) (w : World) : Calls Try.prog 95 #[.int .i64 n] w fun e w' => e = .returned (.bool (centsB n)) ∧ w = w' := by
  by_cases h0 : -1099511627776 ≤ n
  · by_cases h1 : n ≤ 1099511627776
    · have HD := Lib.hid (show centsB n = true by simp [centsB, h0, h1])
      go_enter Try.func95, Try.ntmps95
      go_wp2
      go_ret
      exact ⟨by rw [HD.out]; rfl, rfl⟩
    · have HD := Lib.hid (show centsB n = false by simp [centsB, h1])
      go_enter Try.func95, Try.ntmps95
      go_wp2
      go_ret
      exact ⟨by rw [HD.out]; rfl, rfl⟩
  · have HD := Lib.hid (show centsB n = false by simp [centsB, h0])
    go_enter Try.func95, Try.ntmps95
    go_wp2
    go_ret
    exact ⟨by rw [HD.out]; rfl, rfl⟩
set_option maxRecDepth 100000 in
set_option maxHeartbeats 1600000 in
theorem rname_any (s : ByteArray) (w : World) : Calls Try.prog 92 #[.string s] w fun e w' => e = .returned (.bool (nameB s)) ∧ w = w' := by
  have hsz := bytesI_len s
  by_cases h0 : s.size = 0
  · have hn : nameB s = false := by
      unfold nameB
      rw [List.eq_nil_of_length_eq_zero (hsz.trans h0)]
    have HN := Lib.hid hn
    clear hn
    go_enter Try.func92, Try.ntmps92
    go_wp2
    go_ret
    exact ⟨by rw [HN.out]; rfl, rfl⟩
  obtain ⟨c, r, hb⟩ : ∃ c r, bytesI s = c :: r := by
    cases h : bytesI s with
    | nil => rw [h] at hsz; exact absurd hsz.symm h0
    | cons c r => exact ⟨c, r, rfl⟩
  have hN := nameB_cons hb
  rw [← hb, hsz] at hN
  by_cases h16 : 16 < s.size
  · have HF := Lib.hid (show nameB s = false by rw [hN, decide_eq_false (by omega)]; simp)
    clear hN
    go_enter Try.func92, Try.ntmps92
    go_wp2
    go_ret
    exact ⟨by rw [HF.out]; rfl, rfl⟩
  rw [decide_eq_true (show s.size ≤ 16 by omega), Bool.true_and] at hN
  have HN := Lib.hid hN
  have HB := Lib.hid hb
  have HZ := Lib.hid hsz
  clear hN hb hsz
  go_enter Try.func92, Try.ntmps92
  go_wp2_with fail
  go_loopw [3, 4, 5] (fun s3 _ _ wr => ∃ k : Nat, k ≤ s.size ∧ s3 = .int .i64 k ∧ (1 ≤ k → nameB s = ((bytesI s).drop k).all okByte) ∧ wr = w) (fun s3 _ _ _ => s.size - (intOf s3).toNat)
  case atStart => exact ⟨0, Nat.zero_le _, rfl, fun h => absurd h (by omega), rfl⟩
  case round =>
    obtain ⟨k, hk, rfl, hinv, rfl⟩ := hrel
    have HA := Lib.hid hinv
    clear hinv
    by_cases hlt : k < s.size
    · have hg := bytesI_get s k hlt
      have hlen : k < (bytesI s).length := by rw [HZ.out]; exact hlt
      have hdrop := List.drop_eq_getElem_cons hlen
      rw [List.getElem?_eq_getElem hlen, Option.some.injEq] at hg
      have hix : ∀ w, (Instr.index 9 (.string s) (.int .i64 k)).run Try.prog w = .ok (.int .u8 ((bytesI s)[k])) w := fun w => by
        rw [run_index_string w 9 s .i64 k Try.underlying9, dif_pos ⟨by omega, by omega⟩]
        have h1 := Lib.data_getElem? s k (by omega)
        have h2 : s.data.toList.getD k 0 = s[k] := by rw [List.getD_eq_getElem?_getD, h1]; rfl
        rw [h2] at hg
        rw [hg]; rfl
      have hch : (bytesI s)[k] < 256 := by rw [hg]; have := (s.data.toList.getD k 0).toNat_lt; omega
      have hch0 : 0 ≤ (bytesI s)[k] := by rw [hg]; omega
      have hfirst : k = 0 → c = (bytesI s)[k] := fun h => by
        subst h
        have h5 : (bytesI s)[0]? = some c := by rw [HB.out]; rfl
        rw [List.getElem?_eq_getElem hlen, Option.some.injEq] at h5
        exact h5.symm
      clear hg
      generalize (bytesI s)[k] = ch at *
      have hgood : okByte ch = true → (k = 0 → 97 ≤ ch ∧ ch ≤ 122) → nameB s = ((bytesI s).drop (k + 1)).all okByte := fun h h2 => by
        by_cases hk0 : k = 0
        · obtain ⟨h3, h4⟩ := h2 hk0
          rw [HN.out, hfirst hk0, decide_eq_true h3, decide_eq_true h4]
          subst hk0
          rw [← List.drop_zero (l := bytesI s), hdrop]
          simp [h]
        · rw [HA.out (by omega), hdrop]
          simp [h]
      have hbad : (okByte ch = false ∨ (k = 0 ∧ ¬ (97 ≤ ch ∧ ch ≤ 122))) → nameB s = false := fun h => by
        rcases h with h | ⟨h1, h2⟩
        · by_cases hk0 : k = 0
          · subst hk0
            rw [HN.out, ← List.drop_zero (l := bytesI s), hdrop]
            simp [h]
          · rw [HA.out (by omega), hdrop]
            simp [h]
        · rw [HN.out, hfirst h1]
          by_cases h3 : 97 ≤ ch
          · rw [decide_eq_false (show ¬ ch ≤ 122 from fun h4 => h2 ⟨h3, h4⟩)]; simp
          · rw [decide_eq_false h3]; simp
      have GO := Lib.hid hgood
      have BA := Lib.hid hbad
      clear hgood hbad hdrop hfirst
      by_cases hl : 97 ≤ ch ∧ ch ≤ 122
      · obtain ⟨l1, l2⟩ := hl
        have hne : (ch == 45) = false := beq_eq_false_iff_ne.2 (by omega)
        have GG := Lib.hid (GO.out (by simp [okByte, l1, l2]) (fun _ => ⟨l1, l2⟩))
        go_wp2_with fail
        go_roundw
        case rel => exact ⟨k + 1, by omega, by go_num, fun _ => GG.out, by first | rfl | trivial⟩
        case measure => simp [intOf]; omega
      · have hr : ch < 97 ∨ 122 < ch := by omega
        have hdig : (48 ≤ ch ∧ ch ≤ 57) ∨ ch = 45 ∨ ((ch < 48 ∨ 57 < ch) ∧ ch ≠ 45) := by omega
        by_cases hk0 : k = 0
        · have HG := Lib.hid (BA.out (.inr ⟨hk0, hl⟩))
          subst hk0
          have hz : ((0 : Int) == 0) = true := by decide
          have hix0 : ∀ w, (Instr.index 9 (.string s) (.int .i64 0)).run Try.prog w = .ok (.int .u8 ch) w := hix
          clear hl hix
          rcases hdig with ⟨d1, d2⟩ | d3 | ⟨d4, d5⟩
          · rcases hr with hr | hr
            · go_wp2_with fail
              go_ret
              exact ⟨by rw [HG.out]; rfl, rfl⟩
            · omega
          · have hne : (ch == 45) = true := beq_iff_eq.2 d3
            have d4 : ch < 48 := by omega
            have hr : ch < 97 := by omega
            clear d3
            go_wp2_with fail
            go_ret
            exact ⟨by rw [HG.out]; rfl, rfl⟩
          · have hne := beq_eq_false_iff_ne.2 d5
            clear d5
            rcases hr with hr | hr
            all_goals
              first
                | (have hz3 : decide (ch ≤ 122) = false := decide_eq_false (by omega))
                | skip
            all_goals rcases d4 with d4 | d4
            all_goals
              first
                | (have hz4 : decide (ch ≤ 57) = false := decide_eq_false (by omega))
                | skip
            all_goals
              first
                | omega
                | (go_wp2_with fail
                   go_ret
                   exact ⟨by rw [HG.out]; rfl, rfl⟩)
        · have hkz : ((k : Int) == 0) = false := beq_eq_false_iff_ne.2 (by omega)
          clear hl
          rcases hdig with ⟨d1, d2⟩ | d3 | ⟨d4, d5⟩
          · have GG := Lib.hid (GO.out (by simp [okByte, d1, d2]) (fun h => absurd h hk0))
            rcases hr with hr | hr
            · go_wp2_with fail
              go_roundw
              case rel => exact ⟨k + 1, by omega, by go_num, fun _ => GG.out, by first | rfl | trivial⟩
              case measure => simp [intOf]; omega
            · omega
          · have GG := Lib.hid (GO.out (by simp [okByte, d3]) (fun h => absurd h hk0))
            have hne : (ch == 45) = true := beq_iff_eq.2 d3
            have d4 : ch < 48 := by omega
            have hr : ch < 97 := by omega
            clear d3
            go_wp2_with fail
            go_roundw
            case rel => exact ⟨k + 1, by omega, by go_num, fun _ => GG.out, by first | rfl | trivial⟩
            case measure => simp [intOf]; omega
          · have HG := Lib.hid (BA.out (.inl (by unfold okByte; rw [decide_eq_false d5]; rcases hr with hr | hr <;> rcases d4 with d4 | d4 <;> simp <;> omega)))
            have hne := beq_eq_false_iff_ne.2 d5
            clear d5
            rcases hr with hr | hr
            all_goals
              first
                | (have hz3 : decide (ch ≤ 122) = false := decide_eq_false (by omega))
                | skip
            all_goals rcases d4 with d4 | d4
            all_goals
              first
                | (have hz4 : decide (ch ≤ 57) = false := decide_eq_false (by omega))
                | skip
            all_goals
              first
                | omega
                | (go_wp2_with fail
                   go_ret
                   exact ⟨by rw [HG.out]; rfl, rfl⟩)
    · obtain rfl : k = s.size := by omega
      have HG := Lib.hid (show nameB s = true by rw [HA.out (by omega), List.drop_of_length_le (by rw [HZ.out]; exact Nat.le_refl _)]; rfl)
      go_wp2_with fail
      go_ret
      exact ⟨by rw [HG.out]; rfl, rfl⟩
end Go.Proofs.Ytpmopdgnnlhplaa
namespace Go.Proofs.Ytpmopdgnnlhplaa
open Go.RowKit Go.Proofs.YtpmopdgnnlhplaaW.PrintWords
theorem memB_drop {names : List ByteArray} {k : Nat} {x a : ByteArray} (hx : names[k]? = some x) : memB (names.drop k) a = (decide (x = a) || memB (names.drop (k + 1)) a) := by
  have hk := (List.getElem?_eq_some_iff.1 hx).1
  rw [List.drop_eq_getElem_cons hk, (List.getElem?_eq_some_iff.1 hx).2]
  rfl
set_option maxRecDepth 100000 in
set_option maxHeartbeats 1600000 in
theorem rhas_any (w : World) (A A2 : Option Addr) (c n2 c2 : Nat) (names : List ByteArray) (hC : Kd.C kSt w A names.length names) (a : ByteArray) :
    Calls Try.prog 93 #[.agg #[.slice A names.length c, .slice A2 n2 c2], .string a] w fun e w' => e = .returned (.bool (memB names a)) ∧ Below w.heap.size w w' := by
  have hb := (Below.refl w.heap.size w).alloc (Nat.le_refl _) (.cells #[.slice A names.length c, .slice A2 n2 c2] 59)
  have hB := Blk.new w #[.slice A names.length c, .slice A2 n2 c2] 59
  have c0 := hB.cell 0 (v := .slice A names.length c) rfl
  have hC1 := Kd.C_below hC hb
  have hlm := hC.2.1
  go_enter Try.func93, Try.ntmps93
  go_wp2_with fail
  generalize w.alloc (.cells #[.slice A names.length c, .slice A2 n2 c2] 59) = w1 at *
  clear hB hC
  go_loopw [5] (fun s5 wr => ∃ k : Nat, k ≤ names.length ∧ s5 = .int .i64 k ∧ memB names a = memB (names.drop k) a ∧ wr = w1) (fun s5 _ => names.length - (intOf s5).toNat)
  case atStart => exact ⟨0, Nat.zero_le _, rfl, rfl, rfl⟩
  case round =>
    obtain ⟨k, hk, rfl, hm, rfl⟩ := hrel
    have HM := Lib.hid hm
    clear hm
    by_cases hlt : k < names.length
    · obtain ⟨x, hx⟩ : ∃ x, names[k]? = some x := ⟨_, List.getElem?_eq_getElem hlt⟩
      obtain ⟨ad, rfl, p0⟩ := at_St hC1 hx
      have HD := Lib.hid (memB_drop (a := a) hx)
      clear hx
      by_cases he : x = a
      · have HF := Lib.hid (show memB names a = true by rw [HM.out, HD.out, decide_eq_true he]; rfl)
        have hq : (x.toList == a.toList) = true := by rw [he]; exact sb_eq _
        clear he
        go_wp2_with fail
        go_ret
        exact ⟨by rw [HF.out]; rfl, hb⟩
      · have HF := Lib.hid (show memB names a = memB (names.drop (k + 1)) a by rw [HM.out, HD.out, decide_eq_false he]; rfl)
        have hq := sb_ne he
        clear he
        go_wp2_with fail
        go_roundw
        case rel => exact ⟨k + 1, by omega, by go_num, HF.out, by first | rfl | trivial⟩
        case measure => simp [intOf]; omega
    · have HF := Lib.hid (show memB names a = false by rw [HM.out, List.drop_of_length_le (by omega)]; rfl)
      go_wp2_with fail
      go_ret
      exact ⟨by rw [HF.out]; rfl, hb⟩
def lateE (recs : List Rc) (d : Int) : Int := if dayB d = false then 2 else if d < lastDay recs then 10 else 0
set_option maxRecDepth 100000 in
set_option maxHeartbeats 1600000 in
theorem rlate_any (w : World) (A A2 : Option Addr) (c n2 c2 : Nat) (recs : List Rc) (hC : Kd.C kRc w A recs.length recs) (d : Int) :
    Calls Try.prog 94 #[.agg #[.slice A2 n2 c2, .slice A recs.length c], .int .i64 d] w fun e w' => e = .returned (.int .i64 (lateE recs d)) ∧ Below w.heap.size w w' := by
  have hb := (Below.refl w.heap.size w).alloc (Nat.le_refl _) (.cells #[.slice A2 n2 c2, .slice A recs.length c] 59)
  have hB := Blk.new w #[.slice A2 n2 c2, .slice A recs.length c] 59
  have c1 := hB.cell 1 (v := .slice A recs.length c) rfl
  have hC1 := Kd.C_below hC hb
  have hlm := hC.2.1
  cases hd : dayB d with
  | false =>
    have HE := Lib.hid (show lateE recs d = 2 by unfold lateE; rw [if_pos hd])
    have HD := Lib.hid hd
    clear hd
    go_enter Try.func94, Try.ntmps94
    go_wp2_with fail
    refine (rday_any d _).mono ?_
    rintro e w2 ⟨rfl, rfl⟩
    rw [HD.out]
    go_wp2_with fail
    go_ret
    exact ⟨by rw [HE.out]; rfl, hb⟩
  | true =>
    have HD := Lib.hid hd
    rcases List.eq_nil_or_concat recs with rfl | ⟨rs, r, rfl⟩
    · have h0 : 0 ≤ d := (of_decide_eq_true hd).1
      have HE := Lib.hid (show lateE [] d = 0 by unfold lateE; rw [if_neg (by rw [hd]; simp), if_neg (by simp [lastDay]; omega)])
      clear hd
      go_enter Try.func94, Try.ntmps94
      go_wp2_with fail
      refine (rday_any d _).mono ?_
      rintro e w2 ⟨rfl, rfl⟩
      rw [HD.out]
      go_wp2_with fail
      go_ret
      exact ⟨by rw [HE.out]; rfl, hb⟩
    · rw [List.concat_eq_append] at *
      have hlr : (rs ++ [r]).length = rs.length + 1 := by simp
      have hx : (rs ++ [r])[rs.length]? = some r := by simp
      obtain ⟨ad, A3, c3, rfl, p0, p1, p2, p3, p4, hle3, hC3⟩ := at_Rc hC1 hx
      have hld : lastDay (rs ++ [r]) = r.day := by simp [lastDay]
      rw [hlr] at *
      have hlm2 := hC1.2.1
      have hwl : IntKind.i64.wrap (rs.length : Int) = rs.length := IntWalk.i64_in _ (by omega)
      clear hC1 hC hC3 hx p0 p2 p3 p4
      by_cases hlt : d < r.day
      · have HE := Lib.hid (show lateE (rs ++ [r]) d = 10 by unfold lateE; rw [if_neg (by rw [hd]; simp), hld, if_pos hlt])
        clear hd
        go_enter Try.func94, Try.ntmps94
        go_wp2_with fail
        refine (rday_any d _).mono ?_
        rintro e w2 ⟨rfl, rfl⟩
        rw [HD.out]
        go_wp2_with fail
        go_ret
        exact ⟨by rw [HE.out]; rfl, hb⟩
      · have HE := Lib.hid (show lateE (rs ++ [r]) d = 0 by unfold lateE; rw [if_neg (by rw [hd]; simp), hld, if_neg hlt])
        clear hd
        go_enter Try.func94, Try.ntmps94
        go_wp2_with fail
        refine (rday_any d _).mono ?_
        rintro e w2 ⟨rfl, rfl⟩
        rw [HD.out]
        go_wp2_with fail
        go_ret
        exact ⟨by rw [HE.out]; rfl, hb⟩
def SmP (ps : List Pst) : Prop := ps.length ≤ 40 ∧ ∀ p ∈ ps, -1099511627776 ≤ p.c ∧ p.c ≤ 1099511627776
theorem part_sm {ps : List Pst} (h : SmP ps) (a : ByteArray) : -43980465111040 ≤ part ps a ∧ part ps a ≤ 43980465111040 := by
  obtain ⟨h1, h2⟩ := part_bound (M := 1099511627776) (by decide) h.2 a
  have := h.1
  omega
theorem SmP.take {ps : List Pst} (h : SmP ps) (k : Nat) : SmP (ps.take k) := ⟨by rw [List.length_take]; have := h.1; omega, fun p hp => h.2 p (List.mem_of_mem_take hp)⟩
set_option maxRecDepth 100000 in
set_option maxHeartbeats 1600000 in
theorem rpart_any (w : World) (A : Option Addr) (c : Nat) (ps : List Pst) (hC : Kd.C kPst w A ps.length ps) (hs : SmP ps) (a : ByteArray) :
    Calls Try.prog 101 #[.slice A ps.length c, .string a] w fun e w' => e = .returned (.int .i64 (part ps a)) ∧ w = w' := by
  have hlm := hC.2.1
  go_enter Try.func101, Try.ntmps101
  go_wp2_with fail
  go_loopw [5, 6] (fun s5 s6 wr => ∃ k : Nat, k ≤ ps.length ∧ s6 = .int .i64 k ∧ s5 = .int .i64 (part (ps.take k) a) ∧ wr = w) (fun _ s6 _ => ps.length - (intOf s6).toNat)
  case atStart => exact ⟨0, Nat.zero_le _, rfl, rfl, rfl⟩
  case round =>
    obtain ⟨k, hk, rfl, rfl, rfl⟩ := hrel
    by_cases hlt : k < ps.length
    · obtain ⟨x, hx⟩ : ∃ x, ps[k]? = some x := ⟨_, List.getElem?_eq_getElem hlt⟩
      obtain ⟨ad, rfl, p0, p1⟩ := at_Pst hC hx
      have HP : part (ps.take (k + 1)) a = part (ps.take k) a + (if x.a = a then x.c else 0) := by
        rw [List.take_succ_eq_append_getElem hlt, (List.getElem?_eq_some_iff.1 hx).2, part_append]
        simp [part]
      obtain ⟨b1, b2⟩ := part_sm (hs.take k) a
      obtain ⟨b3, b4⟩ := part_sm (hs.take (k + 1)) a
      clear hx
      by_cases he : x.a = a
      · rw [if_pos he] at HP
        have HP' := Lib.hid HP
        have hq : (x.a.toList == a.toList) = true := by rw [he]; exact sb_eq _
        rw [HP] at b3 b4
        clear he HP
        go_wp2_with fail
        go_roundw
        case rel => exact ⟨k + 1, by omega, by go_num, by rw [HP'.out], by first | rfl | trivial⟩
        case measure => simp [intOf]; omega
      · rw [if_neg he, Int.add_zero] at HP
        have HP' := Lib.hid HP
        have hq := sb_ne he
        clear he HP b3 b4
        go_wp2_with fail
        go_roundw
        case rel => exact ⟨k + 1, by omega, by go_num, by rw [HP'.out], by first | rfl | trivial⟩
        case measure => simp [intOf]; omega
    · have ht : ps.take k = ps := List.take_of_length_le (by omega)
      rw [ht]
      go_wp2_with fail
      go_ret
      exact ⟨rfl, rfl⟩
def SmR (recs : List Rc) : Prop := recs.length ≤ 4096 ∧ ∀ r ∈ recs, SmP r.ps
theorem SmR.take {recs : List Rc} (h : SmR recs) (k : Nat) : SmR (recs.take k) := ⟨by rw [List.length_take]; have := h.1; omega, fun p hp => h.2 p (List.mem_of_mem_take hp)⟩
theorem upto_sm' {recs : List Rc} (h : ∀ r ∈ recs, SmP r.ps) (d : Int) (a : ByteArray) : -(recs.length * 43980465111040) ≤ uptoB d recs a ∧ uptoB d recs a ≤ recs.length * 43980465111040 := by
  induction recs with
  | nil => simp [uptoB]
  | cons x r ih =>
    obtain ⟨h1, h2⟩ := ih (fun p hp => h p (by simp [hp]))
    obtain ⟨h5, h6⟩ := part_sm (h x (by simp)) a
    have e : ((x :: r).length : Int) * 43980465111040 = r.length * 43980465111040 + 43980465111040 := by simp [Int.add_mul]
    rw [e]
    unfold uptoB
    split <;> omega
theorem upto_sm {recs : List Rc} (h : SmR recs) (d : Int) (a : ByteArray) : -180143985094819840 ≤ uptoB d recs a ∧ uptoB d recs a ≤ 180143985094819840 := by
  have := upto_sm' h.2 d a
  have := h.1
  omega
set_option maxRecDepth 100000 in
set_option maxHeartbeats 4000000 in
theorem rupto_any (w : World) (A A2 : Option Addr) (c n2 c2 : Nat) (recs : List Rc) (hC : Kd.C kRc w A recs.length recs) (hs : SmR recs) (a : ByteArray) (d : Int) :
    Calls Try.prog 84 #[.agg #[.slice A2 n2 c2, .slice A recs.length c], .string a, .int .i64 d] w fun e w' => e = .returned (.int .i64 (uptoB d recs a)) ∧ Below w.heap.size w w' := by
  have hb := (Below.refl w.heap.size w).alloc (Nat.le_refl _) (.cells #[.slice A2 n2 c2, .slice A recs.length c] 59)
  have hB := Blk.new w #[.slice A2 n2 c2, .slice A recs.length c] 59
  have c1 := hB.cell 1 (v := .slice A recs.length c) rfl
  have hC1 := Kd.C_below hC hb
  have hlm := hC.2.1
  go_enter Try.func84, Try.ntmps84
  go_wp2_with fail
  generalize w.alloc (.cells #[.slice A2 n2 c2, .slice A recs.length c] 59) = w1 at *
  clear hB hC
  go_loopw [7, 8] (fun s7 s8 wr => ∃ k : Nat, k ≤ recs.length ∧ s8 = .int .i64 k ∧ s7 = .int .i64 (uptoB d (recs.take k) a) ∧ wr = w1) (fun _ s8 _ => recs.length - (intOf s8).toNat)
  case atStart => exact ⟨0, Nat.zero_le _, rfl, rfl, rfl⟩
  case round =>
    obtain ⟨k, hk, rfl, rfl, rfl⟩ := hrel
    by_cases hlt : k < recs.length
    · obtain ⟨x, hx⟩ : ∃ x, recs[k]? = some x := ⟨_, List.getElem?_eq_getElem hlt⟩
      obtain ⟨ad, A3, c3, rfl, p0, p1, p2, p3, p4, hle3, hC3⟩ := at_Rc hC1 hx
      have HP : uptoB d (recs.take (k + 1)) a = uptoB d (recs.take k) a + (if x.day ≤ d then part x.ps a else 0) := by
        rw [List.take_succ_eq_append_getElem hlt, (List.getElem?_eq_some_iff.1 hx).2, uptoB_append]
        simp [uptoB]
      obtain ⟨b1, b2⟩ := upto_sm (hs.take k) d a
      obtain ⟨b3, b4⟩ := upto_sm (hs.take (k + 1)) d a
      have hsx := hs.2 x (List.mem_of_getElem? hx)
      clear hx
      by_cases he : x.day ≤ d
      · rw [if_pos he] at HP
        have HP' := Lib.hid HP
        rw [HP] at b3 b4
        clear HP
        go_wp2_with fail
        refine (rpart_any _ A3 c3 x.ps hC3 hsx a).mono ?_
        rintro e w2 ⟨rfl, rfl⟩
        go_wp2_with fail
        go_roundw
        case rel => exact ⟨k + 1, by omega, by go_num, by rw [HP'.out], by first | rfl | trivial⟩
        case measure => simp [intOf]; omega
      · rw [if_neg he, Int.add_zero] at HP
        have HP' := Lib.hid HP
        clear HP b3 b4
        go_wp2_with fail
        go_roundw
        case rel => exact ⟨k + 1, by omega, by go_num, by rw [HP'.out], by first | rfl | trivial⟩
        case measure => simp [intOf]; omega
    · have ht : recs.take k = recs := List.take_of_length_le (by omega)
      rw [ht]
      go_wp2_with fail
      go_ret
      exact ⟨rfl, hb⟩
end Go.Proofs.Ytpmopdgnnlhplaa
namespace Go.Proofs.Ytpmopdgnnlhplaa
open Go.RowKit Go.Proofs.YtpmopdgnnlhplaaW.PrintWords
theorem info9 : (Try.prog.info? 9).map (fun i => (i.zero, i.size, i.bytes)) = some (some (.string ⟨#[]⟩), 1, 16) := by kernel_rfl
theorem Blk.store2 {w : World} {b : Nat} {x y : Value} {t : TypeId} (h : Blk w b #[x, y] t) (u v : Value) : Blk ((w.setCell ⟨b, 0, none⟩ u).setCell ⟨b, 1, none⟩ v) b #[u, v] t := by
  simpa using (h.set 0 u).set 1 v
def RefO (w : World) (u : List ByteArray) (v2 : Value) (err : Int) (ok : Nat → Prop) (e : Ending) (w' : World) : Prop :=
  (∃ A1 c1, e = .returned (.tuple #[.agg #[.slice A1 u.length c1, v2], .int .i64 err]) ∧ Kd.R kSt 9 w' 0 (fun k => ok k ∨ w.heap.size ≤ k) (.slice A1 u.length c1) u) ∧ Below w.heap.size w w'
set_option maxRecDepth 100000 in
set_option maxHeartbeats 1600000 in
theorem ropen_any {w : World} {A A2 : Option Addr} {c n2 c2 : Nat} {names : List ByteArray} {ok : Nat → Prop} (hR : Kd.R kSt 9 w 0 ok (.slice A names.length c) names) (hok : ∀ k, ok k → k < w.heap.size) (a : ByteArray) (hl : names.length ≤ 1000) :
    Calls Try.prog 68 #[.agg #[.slice A names.length c, .slice A2 n2 c2], .string a] w (RefO w (if openE names a = 0 then names ++ [a] else names) (.slice A2 n2 c2) (openE names a) ok) := by
  obtain ⟨_, _, hq, _, hC⟩ := Kd.R_reads hR
  simp only [Value.slice.injEq] at hq
  obtain ⟨rfl, _, rfl⟩ := hq
  have hb := (((Below.refl w.heap.size w).alloc (Nat.le_refl _) (.cells #[.slice A names.length c, .slice A2 n2 c2] 59))).alloc (by simp) (.cells #[.slice none 0 0, .slice none 0 0] 59)
  have hB := (Blk.new w #[.slice A names.length c, .slice A2 n2 c2] 59).alloc (.cells #[.slice none 0 0, .slice none 0 0] 59)
  have hB2 := Blk.new1 w (.cells #[.slice A names.length c, .slice A2 n2 c2] 59) #[.slice none 0 0, .slice none 0 0] 59
  have hs : ((w.alloc (.cells #[.slice A names.length c, .slice A2 n2 c2] 59)).alloc (.cells #[.slice none 0 0, .slice none 0 0] 59)).heap.size = w.heap.size + 2 := by simp
  have hok2 : ∀ k, ok k → k ≠ w.heap.size + 1 := fun k hk => by have := hok k hk; omega
  cases hn : nameB a with
  | false =>
    have HE := Lib.hid (show openE names a = 2 by unfold openE; rw [if_pos hn])
    have HN := Lib.hid hn
    clear hn
    rw [HE.out, if_neg (by decide)]
    go_enter Try.func68, Try.ntmps68
    go_wp2_with fail
    generalize (w.alloc (.cells #[.slice A names.length c, .slice A2 n2 c2] 59)).alloc (.cells #[.slice none 0 0, .slice none 0 0] 59) = w2 at *
    refine (rname_any a _).mono ?_
    rintro e w3 ⟨rfl, rfl⟩
    rw [HN.out]
    have a0 := hB.cell 0 (v := .slice A names.length c) rfl
    have a1 := hB.cell 1 (v := .slice A2 n2 c2) rfl
    have z0 := hB2.free 0
    have z1 := hB2.free 1
    have y0 := hB2.cell 0 (v := .slice none 0 0) rfl
    have y1 := hB2.cell 1 (v := .slice none 0 0) rfl
    go_wp2_with fail
    have hQ := hB2.store2 (.slice A names.length c) (.slice A2 n2 c2)
    have r0 := hQ.cell 0 (v := .slice A names.length c) rfl
    have r1 := hQ.cell 1 (v := .slice A2 n2 c2) rfl
    refine bodyPost_ret (v := .tuple #[.agg #[.slice A names.length c, .slice A2 n2 c2], .int .i64 2]) (by simp [results, Try.results68, go_sem, r0, r1]) rfl ⟨⟨A, c, rfl, ?_⟩, (hb.setCell (Nat.le_succ _) _).setCell (Nat.le_succ _) _⟩
    exact Kd.R_mono (Kd.R_far (p := ⟨w.heap.size + 1, 1, none⟩) (Kd.R_far (p := ⟨w.heap.size + 1, 0, none⟩) (Kd.R_move hR fun k hk => hb.block k (hok k hk)) (fun k hk => by have := hok k hk; show k ≠ w.heap.size + 1; omega) _) (fun k hk => by have := hok k hk; show k ≠ w.heap.size + 1; omega) _) (fun k hk => .inl hk)
  | true =>
    have HN := Lib.hid hn
    cases hm : memB names a with
    | true =>
      have HE := Lib.hid (show openE names a = 8 by unfold openE; rw [if_neg (by rw [hn]; simp), if_pos hm])
      have HM := Lib.hid hm
      clear hn hm
      rw [HE.out, if_neg (by decide)]
      go_enter Try.func68, Try.ntmps68
      go_wp2_with fail
      generalize (w.alloc (.cells #[.slice A names.length c, .slice A2 n2 c2] 59)).alloc (.cells #[.slice none 0 0, .slice none 0 0] 59) = w2 at *
      refine (rname_any a _).mono ?_
      rintro e w3 ⟨rfl, rfl⟩
      rw [HN.out]
      have a0 := hB.cell 0 (v := .slice A names.length c) rfl
      have a1 := hB.cell 1 (v := .slice A2 n2 c2) rfl
      go_wp2_with fail
      refine (rhas_any w2 A A2 c n2 c2 names (Kd.C_below hC hb) a).mono ?_
      rintro e w4 ⟨rfl, hb4⟩
      rw [HM.out]
      have hB' := hB.move (hb4.block _ hB.lt)
      have hB2' := hB2.move (hb4.block _ hB2.lt)
      have hb5 := below_t hb hb4
      clear a0 a1
      have a0 := hB'.cell 0 (v := .slice A names.length c) rfl
      have a1 := hB'.cell 1 (v := .slice A2 n2 c2) rfl
      have z0 := hB2'.free 0
      have z1 := hB2'.free 1
      have y0 := hB2'.cell 0 (v := .slice none 0 0) rfl
      have y1 := hB2'.cell 1 (v := .slice none 0 0) rfl
      go_wp2_with fail
      have hQ := hB2'.store2 (.slice A names.length c) (.slice A2 n2 c2)
      have r0 := hQ.cell 0 (v := .slice A names.length c) rfl
      have r1 := hQ.cell 1 (v := .slice A2 n2 c2) rfl
      refine bodyPost_ret (v := .tuple #[.agg #[.slice A names.length c, .slice A2 n2 c2], .int .i64 8]) (by simp [results, Try.results68, go_sem, r0, r1]) rfl ⟨⟨A, c, rfl, ?_⟩, (hb5.setCell (Nat.le_succ _) _).setCell (Nat.le_succ _) _⟩
      exact Kd.R_mono (Kd.R_far (p := ⟨w.heap.size + 1, 1, none⟩) (Kd.R_far (p := ⟨w.heap.size + 1, 0, none⟩) (Kd.R_move hR fun k hk => hb5.block k (hok k hk)) (fun k hk => by have := hok k hk; show k ≠ w.heap.size + 1; omega) _) (fun k hk => by have := hok k hk; show k ≠ w.heap.size + 1; omega) _) (fun k hk => .inl hk)
    | false =>
      by_cases hf : 128 ≤ names.length
      · have HE := Lib.hid (show openE names a = 9 by unfold openE; rw [if_neg (by rw [hn]; simp), if_neg (by rw [hm]; simp), if_pos hf])
        have HM := Lib.hid hm
        clear hn hm
        rw [HE.out, if_neg (by decide)]
        go_enter Try.func68, Try.ntmps68
        go_wp2_with fail
        generalize (w.alloc (.cells #[.slice A names.length c, .slice A2 n2 c2] 59)).alloc (.cells #[.slice none 0 0, .slice none 0 0] 59) = w2 at *
        refine (rname_any a _).mono ?_
        rintro e w3 ⟨rfl, rfl⟩
        rw [HN.out]
        have a0 := hB.cell 0 (v := .slice A names.length c) rfl
        have a1 := hB.cell 1 (v := .slice A2 n2 c2) rfl
        go_wp2_with fail
        refine (rhas_any w2 A A2 c n2 c2 names (Kd.C_below hC hb) a).mono ?_
        rintro e w4 ⟨rfl, hb4⟩
        rw [HM.out]
        have hB' := hB.move (hb4.block _ hB.lt)
        have hB2' := hB2.move (hb4.block _ hB2.lt)
        have hb5 := below_t hb hb4
        clear a0 a1
        have a0 := hB'.cell 0 (v := .slice A names.length c) rfl
        have a1 := hB'.cell 1 (v := .slice A2 n2 c2) rfl
        have z0 := hB2'.free 0
        have z1 := hB2'.free 1
        have y0 := hB2'.cell 0 (v := .slice none 0 0) rfl
        have y1 := hB2'.cell 1 (v := .slice none 0 0) rfl
        go_wp2_with fail
        have hQ := hB2'.store2 (.slice A names.length c) (.slice A2 n2 c2)
        have r0 := hQ.cell 0 (v := .slice A names.length c) rfl
        have r1 := hQ.cell 1 (v := .slice A2 n2 c2) rfl
        refine bodyPost_ret (v := .tuple #[.agg #[.slice A names.length c, .slice A2 n2 c2], .int .i64 9]) (by simp [results, Try.results68, go_sem, r0, r1]) rfl ⟨⟨A, c, rfl, ?_⟩, (hb5.setCell (Nat.le_succ _) _).setCell (Nat.le_succ _) _⟩
        exact Kd.R_mono (Kd.R_far (p := ⟨w.heap.size + 1, 1, none⟩) (Kd.R_far (p := ⟨w.heap.size + 1, 0, none⟩) (Kd.R_move hR fun k hk => hb5.block k (hok k hk)) (fun k hk => by have := hok k hk; show k ≠ w.heap.size + 1; omega) _) (fun k hk => by have := hok k hk; show k ≠ w.heap.size + 1; omega) _) (fun k hk => .inl hk)
      · have HE := Lib.hid (show openE names a = 0 by unfold openE; rw [if_neg (by rw [hn]; simp), if_neg (by rw [hm]; simp), if_neg hf])
        have HM := Lib.hid hm
        clear hn hm
        rw [HE.out, if_pos rfl]
        go_enter Try.func68, Try.ntmps68
        go_wp2_with fail
        generalize (w.alloc (.cells #[.slice A names.length c, .slice A2 n2 c2] 59)).alloc (.cells #[.slice none 0 0, .slice none 0 0] 59) = w2 at *
        refine (rname_any a _).mono ?_
        rintro e w3 ⟨rfl, rfl⟩
        rw [HN.out]
        have a0 := hB.cell 0 (v := .slice A names.length c) rfl
        have a1 := hB.cell 1 (v := .slice A2 n2 c2) rfl
        go_wp2_with fail
        refine (rhas_any w2 A A2 c n2 c2 names (Kd.C_below hC hb) a).mono ?_
        rintro e w4 ⟨rfl, hb4⟩
        rw [HM.out]
        have hB' := hB.move (hb4.block _ hB.lt)
        have hB2' := hB2.move (hb4.block _ hB2.lt)
        have hb5 := below_t hb hb4
        have hC4 := Kd.C_below hC hb5
        have hl1 : (([] : List ByteArray).length + names.length) * 16 ≤ 140737488355328 := by simp; omega
        have hl2 : (([] ++ names).length + 1) * 16 ≤ 140737488355328 := by simp; omega
        clear a0 a1
        have a0 := hB'.cell 0 (v := .slice A names.length c) rfl
        have a1 := hB'.cell 1 (v := .slice A2 n2 c2) rfl
        have z0 := hB2'.free 0
        have z1 := hB2'.free 1
        have y0 := hB2'.cell 0 (v := .slice none 0 0) rfl
        have y1 := hB2'.cell 1 (v := .slice none 0 0) rfl
        go_wp2_with (first
          | (at_builtin; refine Kd.R_append_row Value.string ⟨#[]⟩ (w0 := w4) 0 rfl _ _ 57 9 (.string ⟨#[]⟩) 16 rfl Try.underlying57 info9 rfl (by decide) (.slice none 0 0) [] names A names.length c (fun k => w4.heap.size ≤ k) rfl rfl (fun k hk => hk) (Kd.R_nil _ _ _ _ _) hC4 (Below.refl _ _) (Nat.zero_le _) hl1 ?_; intro v5 w5 hR5 hb6 hg5 hat5; have hB5 := hB'.move (hg5.block _ hB'.lt (by simp [Value.ownBlock])); have hB25 := hB2'.move (hg5.block _ hB2'.lt (by simp [Value.ownBlock])); clear a0 a1 z0 z1 y0 y1)
          | (at_builtin; refine Kd.R_append kSt (w0 := w5) 0 rfl _ _ 57 9 (.string ⟨#[]⟩) 16 rfl Try.underlying57 info9 rfl (by decide) (by decide) v5 ([] ++ names) a _ (fun k => w4.heap.size ≤ k) (fun _ => False) rfl rfl rfl (fun _ hk => hk.elim) (fun k hk => Nat.le_trans hb6.size hk) hR5 (Below.refl _ _) (Nat.zero_le _) hl2 ?_; intro v6 w6 hR6 hb7 hg6 hat6; have hB6 := hB5.move (hg6.block _ hB5.lt (fun e => by have := hR5.1 _ e.symm; have := hB'.lt; omega)); have hB26 := hB25.move (hg6.block _ hB25.lt (fun e => by have := hR5.1 _ e.symm; have := hB2'.lt; omega)); obtain ⟨A6, c6, rfl, _, _⟩ := Kd.R_reads hR6; have t0 := hB6.cell 0 (v := .slice A names.length c) rfl; have t1 := hB6.cell 1 (v := .slice A2 n2 c2) rfl; have f0 := hB6.free 0; have g0 := hB26.free 0; have g1 := hB26.free 1; have y0 := hB26.cell 0 (v := .slice none 0 0) rfl; have y1 := hB26.cell 1 (v := .slice none 0 0) rfl)
          | fail)
        have hbz : Below w.heap.size w w6 := (((Fr.of_below hb5 (fun _ => False)).grown hg5 (fun k hk => by simp [Value.ownBlock] at hk)).grown hg6 (fun k hk => .inr (Nat.le_trans hb5.size (hR5.1 k hk)))).none_below
        have hQ := (hB26.other (p := ⟨w.heap.size, 0, none⟩) (by simp) (.slice A6 (names.length + 1) c6)).store2 (.slice A6 (names.length + 1) c6) (.slice A2 n2 c2)
        have r0 := hQ.cell 0 (v := .slice A6 (names.length + 1) c6) rfl
        have r1 := hQ.cell 1 (v := .slice A2 n2 c2) rfl
        have e1 : (names ++ [a]).length = names.length + 1 := by simp
        have hw4 := hB'.lt
        have hw5 := hB2'.lt
        have n0 : ∀ k, w4.heap.size ≤ k → k ≠ w.heap.size := fun k hk => by omega
        have n1 : ∀ k, w4.heap.size ≤ k → k ≠ w.heap.size + 1 := fun k hk => by omega
        refine bodyPost_ret (v := .tuple #[.agg #[.slice A6 (names.length + 1) c6, .slice A2 n2 c2], .int .i64 0]) (by simp [results, Try.results68, go_sem, r0, r1]) rfl ⟨⟨A6, c6, by rw [e1], ?_⟩, ((hbz.setCell (Nat.le_refl _) _).setCell (Nat.le_succ _) _).setCell (Nat.le_succ _) _⟩
        rw [e1]
        rw [List.nil_append, e1] at hR6
        exact Kd.R_mono (Kd.R_far (p := ⟨w.heap.size + 1, 1, none⟩) (Kd.R_far (p := ⟨w.heap.size + 1, 0, none⟩) (Kd.R_far (p := ⟨w.heap.size, 0, none⟩) hR6 n0 _) n1 _) n1 _) (fun k hk => .inr (Nat.le_trans hb5.size hk))
end Go.Proofs.Ytpmopdgnnlhplaa
namespace Go.Proofs.Ytpmopdgnnlhplaa
open Go.RowKit Go.Proofs.YtpmopdgnnlhplaaW.PrintWords
section
open PAccountsVerifies (S34 S36 k34 k36)
theorem C_mapP {α β : Type} {d : Kd α} {d' : Kd β} (f : α → β) (hs : d.sz = d'.sz) {w : World} (h : ∀ x cs, d.K w x cs → d'.K w (f x) cs) {A : Option Addr} {n : Nat} {xs : List α} (hC : Kd.C d w A n xs) : Kd.C d' w A n (xs.map f) := by
  obtain ⟨h1, h2, h3⟩ := hC
  refine ⟨by rw [List.length_map]; exact h1, h2, fun hn => ?_⟩
  obtain ⟨ad, e, hc⟩ := h3 hn
  refine ⟨ad, e, fun j p hp => ?_⟩
  rw [List.getElem?_map] at hp
  cases hx : xs[j]? with
  | none => rw [hx] at hp; cases hp
  | some x =>
    rw [hx] at hp
    simp only [Option.map_some, Option.some.injEq] at hp
    subst hp
    obtain ⟨c, k1, k2, k3⟩ := hc j x hx
    exact ⟨c, by rw [← hs]; exact k1, h x c k2, by rw [← hs]; exact k3⟩
def toSP (p : Pst) : S36 := ⟨p.a, p.c⟩
theorem rsum_any (w : World) (A : Option Addr) (c : Nat) (before no day rev sum : Int) (ps : List Pst) (hC : Kd.C kPst w A ps.length ps) (hc : ps.length ≤ c) (hl : ps.length ≤ 40) (hsz : ∀ p ∈ ps, p.a.size ≤ 2000) (hb : W64 before) (hs : W64 sum) :
    Calls Try.prog 51 #[.int .u64 before, .agg #[.int .i64 no, .int .i64 day, .slice A ps.length c, .int .i64 rev, .int .u64 sum]] w fun e w' => e = .returned (.int .u64 (dig before no day rev ps)) ∧ Below w.heap.size w w' := by
  have h1 : Kd.C k36 w A ps.length (ps.map toSP) := C_mapP toSP rfl (fun y cs hy => by obtain rfl := kPst_open hy; exact PAccountsVerifies.k36_mk w (toSP y)) hC
  have e : (ps.map toSP).map toP = ps := by
    rw [List.map_map]
    exact List.map_id'' (fun _ => rfl) _
  have hl' : (ps.map toSP).length = ps.length := List.length_map _
  have h2 := Sum_small hb.1 hb.2 ⟨no, day, ps.map toSP, rev, sum⟩ ⟨by simpa using hl, fun p hp => by
    obtain ⟨q, hq, rfl⟩ := List.mem_map.1 hp
    exact hsz q hq, hs.1, hs.2⟩ 200000 (Nat.le_refl _)
  simp only [e] at h2
  have h3 := PAccountsVerifies.merinoref07_Sum.calls 200000 before no day A c (ps.map toSP) rev sum _ w (by rw [hl']; exact h1) (by rw [hl']; exact hc) h2
  rw [hl'] at h3
  exact h3
end
def putS (recs : List Rc) (d rev : Int) (ps : List Pst) : List Rc := if enterErr recs ps = 0 then recs ++ [newRec recs d rev ps] else recs
def putN (recs : List Rc) (ps : List Pst) : Int := if enterErr recs ps = 0 then recs.length + 1 else 0
def RefP (w : World) (u : Value) (recs : List Rc) (no err : Int) (ok : Nat → Prop) (e : Ending) (w' : World) : Prop :=
  (∃ A1 c1, e = .returned (.tuple #[.agg #[u, .slice A1 recs.length c1], .int .i64 no, .int .i64 err]) ∧ Kd.R kRc 34 w' 0 (fun k => ok k ∨ w.heap.size ≤ k) (.slice A1 recs.length c1) recs) ∧ Below w.heap.size w w'
structure Lg2 (recs : List Rc) : Prop where
  sm : SmR recs
  days : ∀ r ∈ recs, r.day ≤ 1000000
  bals : ∀ a, -1125899906842624 ≤ bal recs a ∧ bal recs a ≤ 1125899906842624
  sum : W64 (lastSum recs)
theorem take_all {ps : List Pst} {f : Pst → Bool} {k : Nat} {x : Pst} (h : ∀ p ∈ ps.take k, f p = true) (hx : ps[k]? = some x) (h2 : f x = true) : ∀ p ∈ ps.take (k + 1), f p = true := fun p hp => by
  have hk := (List.getElem?_eq_some_iff.1 hx).1
  rw [List.take_succ_eq_append_getElem hk, (List.getElem?_eq_some_iff.1 hx).2, List.mem_append] at hp
  rcases hp with hp | hp
  · exact h p hp
  · rw [List.mem_singleton.1 hp]; exact h2
set_option maxRecDepth 100000 in
set_option maxHeartbeats 8000000 in
theorem rput_any {w : World} {A An B : Option Addr} {c nn cn cb : Nat} {recs : List Rc} {ok : Nat → Prop} (hR : Kd.R kRc 34 w 0 ok (.slice A recs.length c) recs) (hok : ∀ k, ok k → k < w.heap.size) (h : Lg2 recs)
    (ps : List Pst) (hP : Kd.C kPst w B ps.length ps) (hps : SmP ps) (hsz : ∀ p ∈ ps, p.a.size ≤ 2000) (hcb : ps.length ≤ cb) (d rev : Int) :
    Calls Try.prog 96 #[.agg #[.slice An nn cn, .slice A recs.length c], .int .i64 d, .slice B ps.length cb, .int .i64 rev] w (RefP w (.slice An nn cn) (putS recs d rev ps) (putN recs ps) (enterErr recs ps) ok) := by
  obtain ⟨_, _, hq, _, hC⟩ := Kd.R_reads hR
  simp only [Value.slice.injEq] at hq
  obtain ⟨rfl, _, rfl⟩ := hq
  have hb := (((Below.refl w.heap.size w).alloc (Nat.le_refl _) (.cells #[.slice An nn cn, .slice A recs.length c] 59))).alloc (by simp) (.cells #[.slice none 0 0, .slice none 0 0] 59)
  have hB := (Blk.new w #[.slice An nn cn, .slice A recs.length c] 59).alloc (.cells #[.slice none 0 0, .slice none 0 0] 59)
  have hB2 := Blk.new1 w (.cells #[.slice An nn cn, .slice A recs.length c] 59) #[.slice none 0 0, .slice none 0 0] 59
  have hs : ((w.alloc (.cells #[.slice An nn cn, .slice A recs.length c] 59)).alloc (.cells #[.slice none 0 0, .slice none 0 0] 59)).heap.size = w.heap.size + 2 := by simp
  have hlm := hP.2.1
  have hlen := h.sm.1
  have hpl := hps.1
  go_enter Try.func96, Try.ntmps96
  go_wp2_with fail
  generalize (w.alloc (.cells #[.slice An nn cn, .slice A recs.length c] 59)).alloc (.cells #[.slice none 0 0, .slice none 0 0] 59) = w2 at *
  have HC2 := Lib.hid (Kd.C_below hC hb)
  have HP2 := Lib.hid (Kd.C_below hP hb)
  have HB0 := Lib.hid hB
  have HB1 := Lib.hid hB2
  clear hB hB2
  go_loopw [11, 12] (fun s11 _ wr => ∃ k : Nat, k ≤ ps.length ∧ s11 = .int .i64 k ∧ (∀ p ∈ ps.take k, okBal recs ps p.a = true) ∧ Below w2.heap.size w2 wr) (fun s11 _ _ => ps.length - (intOf s11).toNat)
  case atStart => exact ⟨0, Nat.zero_le _, rfl, by simp, Below.refl _ _⟩
  case round =>
    obtain ⟨k, hk, rfl, hall, hbr⟩ := hrel
    have HA := Lib.hid hall
    clear hall
    have hBr := HB0.out.move (hbr.block _ HB0.out.lt)
    have hB2r := HB1.out.move (hbr.block _ HB1.out.lt)
    have a0 := hBr.cell 0 (v := .slice An nn cn) rfl
    have a1 := hBr.cell 1 (v := .slice A recs.length c) rfl
    by_cases hlt : k < ps.length
    · obtain ⟨x, hx⟩ : ∃ x, ps[k]? = some x := ⟨_, List.getElem?_eq_getElem hlt⟩
      obtain ⟨ad, rfl, p0, p1⟩ := at_Pst (Kd.C_below HP2.out hbr) hx
      have HX := Lib.hid hx
      have hbd := h.bals x.a
      have hpd := part_sm hps x.a
      clear hx p1
      go_upto_region 4 with fail
      go_cut [12] (fun s12 wx => s12 = .int .i64 (bal recs x.a + part ps x.a) ∧ Below wr.heap.size wr wx)
      case first =>
        refine calm ?_
        go_region_law (first
          | (go_simp; go_at_call 84; refine (rupto_any _ A An c nn cn recs (Kd.C_below (Kd.C_below HC2.out hbr) ((Below.refl _ wr).drew)) h.sm x.a 1000000).mono ?_; rintro e w7 ⟨rfl, hb7⟩; rw [uptoB_big (fun r hr => h.days r hr)]; have q0 : w7.cell? (ad.add (k * 2)) = some (.string x.a) := (hb7.cell (World.block_lt_of_cell? wr _ p0)).trans p0)
          | (go_simp; go_at_call 101; refine (rpart_any _ (some ad) cb ps (Kd.C_below (Kd.C_below (Kd.C_below HP2.out hbr) ((Below.refl _ wr).drew)) hb7) hps x.a).mono ?_; rintro e w8 ⟨rfl, rfl⟩)
          | fail)
        all_goals
          simp only [Calm]
          go_wp2_with fail
          go_meet
          exact ⟨by rw [IntWalk.i64_in _ (by omega)], ((Below.refl _ wr).drew.trans hb7)⟩
      case rest =>
        obtain ⟨rfl, hb8⟩ := hcut
        have hbx := below_t hbr hb8
        have hBx := HB0.out.move (hbx.block _ HB0.out.lt)
        have hB2x := HB1.out.move (hbx.block _ HB1.out.lt)
        clear a0 a1 p0
        by_cases hok2 : okBal recs ps x.a = true
        · have hb2 : -1125899906842624 ≤ bal recs x.a + part ps x.a ∧ bal recs x.a + part ps x.a ≤ 1125899906842624 := of_decide_eq_true hok2
          have HT := Lib.hid (take_all (f := fun p => okBal recs ps p.a) HA.out HX.out hok2)
          have hd1 : decide (bal recs x.a + part ps x.a < -1125899906842624) = false := decide_eq_false (by omega)
          have hd2 : decide (1125899906842624 < bal recs x.a + part ps x.a) = false := decide_eq_false (by omega)
          clear hok2
          go_wp2_with fail
          go_roundw
          case rel => exact ⟨k + 1, by omega, by go_num, HT.out, hbx⟩
          case measure => simp [intOf]; omega
        · have hE : enterErr recs ps = 4 := by
            unfold enterErr
            rw [if_neg]
            intro hall
            exact hok2 (List.all_eq_true.1 hall x (List.mem_of_getElem? HX.out))
          have hb2 : ¬ (-1125899906842624 ≤ bal recs x.a + part ps x.a ∧ bal recs x.a + part ps x.a ≤ 1125899906842624) := fun h9 => hok2 (decide_eq_true h9)
          have HE := Lib.hid hE
          have HS := Lib.hid (show putS recs d rev ps = recs by unfold putS; rw [hE]; rfl)
          have HN := Lib.hid (show putN recs ps = 0 by unfold putN; rw [hE]; rfl)
          have a0 := hBx.cell 0 (v := .slice An nn cn) rfl
          have a1 := hBx.cell 1 (v := .slice A recs.length c) rfl
          have z0 := hB2x.free 0
          have z1 := hB2x.free 1
          have y0 := hB2x.cell 0 (v := .slice none 0 0) rfl
          have y1 := hB2x.cell 1 (v := .slice none 0 0) rfl
          have hQ := hB2x.store2 (.slice An nn cn) (.slice A recs.length c)
          have r0 := hQ.cell 0 (v := .slice An nn cn) rfl
          have r1 := hQ.cell 1 (v := .slice A recs.length c) rfl
          have hbw := below_t hb hbx
          have hfin : RefP w (.slice An nn cn) (putS recs d rev ps) (putN recs ps) (enterErr recs ps) ok (.returned (.tuple #[.agg #[.slice An nn cn, .slice A recs.length c], .int .i64 0, .int .i64 4])) ((wc.setCell ⟨w.heap.size + 1, 0, none⟩ (.slice An nn cn)).setCell ⟨w.heap.size + 1, 1, none⟩ (.slice A recs.length c)) := by
            rw [HE.out, HS.out, HN.out]
            refine ⟨⟨A, c, rfl, ?_⟩, (hbw.setCell (Nat.le_succ _) _).setCell (Nat.le_succ _) _⟩
            exact Kd.R_mono (Kd.R_far (p := ⟨w.heap.size + 1, 1, none⟩) (Kd.R_far (p := ⟨w.heap.size + 1, 0, none⟩) (Kd.R_move hR fun k hk => hbw.block k (hok k hk)) (fun k hk => by have := hok k hk; show k ≠ w.heap.size + 1; omega) _) (fun k hk => by have := hok k hk; show k ≠ w.heap.size + 1; omega) _) (fun k hk => .inl hk)
          clear hok2 hE
          by_cases hlo : bal recs x.a + part ps x.a < -1125899906842624
          · have hd1 : decide (bal recs x.a + part ps x.a < -1125899906842624) = true := decide_eq_true hlo
            clear hb2 hlo
            go_wp2_with fail
            exact bodyPost_ret (v := .tuple #[.agg #[.slice An nn cn, .slice A recs.length c], .int .i64 0, .int .i64 4]) (by simp [results, Try.results96, go_sem, r0, r1]) rfl hfin
          · have hd1 : decide (bal recs x.a + part ps x.a < -1125899906842624) = false := decide_eq_false hlo
            have hd2 : decide (1125899906842624 < bal recs x.a + part ps x.a) = true := decide_eq_true (by omega)
            clear hb2 hlo
            go_wp2_with fail
            exact bodyPost_ret (v := .tuple #[.agg #[.slice An nn cn, .slice A recs.length c], .int .i64 0, .int .i64 4]) (by simp [results, Try.results96, go_sem, r0, r1]) rfl hfin
    · obtain rfl : k = ps.length := by omega
      rw [List.take_length] at HA
      have hEE : enterErr recs ps = if 4096 ≤ recs.length then 9 else 0 := by unfold enterErr; rw [if_pos (List.all_eq_true.2 HA.out)]
      by_cases hf : 4096 ≤ recs.length
      · rw [if_pos hf] at hEE
        have HE := Lib.hid hEE
        have HS := Lib.hid (show putS recs d rev ps = recs by unfold putS; rw [hEE]; rfl)
        have HN := Lib.hid (show putN recs ps = 0 by unfold putN; rw [hEE]; rfl)
        have z0 := hB2r.free 0
        have z1 := hB2r.free 1
        have y0 := hB2r.cell 0 (v := .slice none 0 0) rfl
        have y1 := hB2r.cell 1 (v := .slice none 0 0) rfl
        have hQ := hB2r.store2 (.slice An nn cn) (.slice A recs.length c)
        have r0 := hQ.cell 0 (v := .slice An nn cn) rfl
        have r1 := hQ.cell 1 (v := .slice A recs.length c) rfl
        have hbw := below_t hb hbr
        clear hEE
        go_wp2_with fail
        refine bodyPost_ret (v := .tuple #[.agg #[.slice An nn cn, .slice A recs.length c], .int .i64 0, .int .i64 9]) (by simp [results, Try.results96, go_sem, r0, r1]) rfl ?_
        rw [HE.out, HS.out, HN.out]
        refine ⟨⟨A, c, rfl, ?_⟩, (hbw.setCell (Nat.le_succ _) _).setCell (Nat.le_succ _) _⟩
        exact Kd.R_mono (Kd.R_far (p := ⟨w.heap.size + 1, 1, none⟩) (Kd.R_far (p := ⟨w.heap.size + 1, 0, none⟩) (Kd.R_move hR fun k hk => hbw.block k (hok k hk)) (fun k hk => by have := hok k hk; show k ≠ w.heap.size + 1; omega) _) (fun k hk => by have := hok k hk; show k ≠ w.heap.size + 1; omega) _) (fun k hk => .inl hk)
      · rw [if_neg hf] at hEE
        have HE := Lib.hid hEE
        have HS := Lib.hid (show putS recs d rev ps = recs ++ [newRec recs d rev ps] by unfold putS; rw [if_pos hEE])
        have HN := Lib.hid (show putN recs ps = recs.length + 1 by unfold putN; rw [if_pos hEE])
        clear hEE
        have hbw := below_t hb hbr
        have hw0 := hBr.lt
        have hw1 := hB2r.lt
        have hbw5 := hbw.alloc hbw.size (.cells #[.int .i64 (recs.length + 1), .int .i64 d, .slice none 0 0, .int .i64 rev, .int .u64 0] 34)
        have hB5 := hBr.alloc (.cells #[.int .i64 (recs.length + 1), .int .i64 d, .slice none 0 0, .int .i64 rev, .int .u64 0] 34)
        have hB25 := hB2r.alloc (.cells #[.int .i64 (recs.length + 1), .int .i64 d, .slice none 0 0, .int .i64 rev, .int .u64 0] 34)
        have hB35 := Blk.new wr #[.int .i64 (recs.length + 1), .int .i64 d, .slice none 0 0, .int .i64 rev, .int .u64 0] 34
        have hP5 := Kd.C_below (Kd.C_below HP2.out hbr) ((Below.refl _ wr).alloc (Nat.le_refl _) (.cells #[.int .i64 (recs.length + 1), .int .i64 d, .slice none 0 0, .int .i64 rev, .int .u64 0] 34))
        have hs5 : (wr.alloc (.cells #[.int .i64 (recs.length + 1), .int .i64 d, .slice none 0 0, .int .i64 rev, .int .u64 0] 34)).heap.size = wr.heap.size + 1 := by simp
        go_upto_region 10 with fail
        generalize wr.alloc (.cells #[.int .i64 (recs.length + 1), .int .i64 d, .slice none 0 0, .int .i64 rev, .int .u64 0] 34) = w5 at *
        have d2 := hB35.cell 2 (v := .slice none 0 0) rfl
        have hKM : ∀ (x : Pst) (cs : List Value), kPst.K w5 x cs → kPst.M w5 0 (fun _ => False) x cs := fun x cs hK => by
          rw [kPst_open hK]; exact kPst_mkM x
        have hl1 : (([] : List Pst).length + ps.length) * 24 ≤ 140737488355328 := by simp; omega
        clear a0 a1
        go_upto_region 12 with (first
          | (at_builtin; refine Kd.R_append_rows kPst (Rr := kPst.K w5) (w0 := w5) 0 rfl _ _ 31 36 (.agg #[.string ⟨#[]⟩, .int .i64 0]) 24 rfl Try.underlying31 info36 rfl (by decide) (by decide) (.slice none 0 0) [] ps B ps.length cb (fun k => w5.heap.size ≤ k) (fun _ => False) rfl rfl (Kd.R_nil _ _ _ _ _) hP5 hKM (fun _ hk => hk.elim) (fun k hk => hk) (Below.refl _ _) (Nat.zero_le _) hl1 ?_; intro v6 w6 hR6 hb6 hg6 hat6; obtain ⟨A6, c6, rfl, hl6, hC6⟩ := Kd.R_reads hR6; have hB6 := hB5.move (hg6.block _ hB5.lt (by simp [Value.ownBlock])); have hB26 := hB25.move (hg6.block _ hB25.lt (by simp [Value.ownBlock])); have hB36 := hB35.move (hg6.block _ hB35.lt (by simp [Value.ownBlock])); have f2 := hB36.free 2; have d2' := hB36.cell 2 (v := .slice none 0 0) rfl)
          | fail)
        rw [List.nil_append] at hR6 hC6 hl6
        have hbw6 : Below w.heap.size w w6 := ((Fr.of_below hbw5 (fun _ => False)).grown hg6 (fun k hk => by simp [Value.ownBlock] at hk)).none_below
        have hbw7 := hbw6.setCell (p := ⟨wr.heap.size, 2, none⟩) (Nat.le_trans (Nat.le_of_lt hw0) (Nat.le_refl _)) (.slice A6 ps.length c6)
        have hB7 := hB6.other (p := ⟨wr.heap.size, 2, none⟩) (by show w.heap.size ≠ wr.heap.size; omega) (.slice A6 ps.length c6)
        have hB27 := hB26.other (p := ⟨wr.heap.size, 2, none⟩) (by show w.heap.size + 1 ≠ wr.heap.size; omega) (.slice A6 ps.length c6)
        have hB37 : Blk (w6.setCell ⟨wr.heap.size, 2, none⟩ (.slice A6 ps.length c6)) wr.heap.size #[.int .i64 (recs.length + 1), .int .i64 d, .slice A6 ps.length c6, .int .i64 rev, .int .u64 0] 34 := by simpa using hB36.set 2 (.slice A6 ps.length c6)
        have hR7 := Kd.R_far (p := ⟨wr.heap.size, 2, none⟩) hR6 (fun k hk => by show k ≠ wr.heap.size; omega) (.slice A6 ps.length c6)
        have hs6 := hg6.size
        have hs7 : (w6.setCell ⟨wr.heap.size, 2, none⟩ (.slice A6 ps.length c6)).heap.size = w6.heap.size := size_setCell _ _ _
        generalize w6.setCell ⟨wr.heap.size, 2, none⟩ (.slice A6 ps.length c6) = w7 at *
        have q1 := hB7.cell 1 (v := .slice A recs.length c) rfl
        have e0 := hB37.cell 0 (v := .int .i64 (recs.length + 1)) rfl
        have e1 := hB37.cell 1 (v := .int .i64 d) rfl
        have e2 := hB37.cell 2 (v := .slice A6 ps.length c6) rfl
        have e3 := hB37.cell 3 (v := .int .i64 rev) rfl
        have e4 := hB37.cell 4 (v := .int .u64 0) rfl
        have hC7 := Kd.C_below hC hbw7
        have hP7 : Kd.C kPst w7 A6 ps.length ps := by
          obtain ⟨A7, c7, hv7, _, hC7⟩ := Kd.R_reads hR7
          simp only [Value.slice.injEq] at hv7
          obtain ⟨rfl, _, rfl⟩ := hv7
          exact hC7
        clear hP5 hC6 hat6 hb6 hg6 hR6 hB6 hB26 hB36 hB5 hB25 hB35 f2 d2' d2 hKM
        have hsum := rsum_any w7 A6 c6 (lastSum recs) (recs.length + 1) d rev 0 ps hP7 hl6 hps.1 hsz h.sum ⟨Int.le_refl _, by decide⟩
        have HSM := Lib.hid hsum
        clear hsum
        go_upto_if 64 with fail
        go_cut [14] (fun s14 wx => s14 = .int .u64 (lastSum recs) ∧ wx = w7)
        case first =>
          by_cases hz : recs.length = 0
          · have hnil : recs = [] := List.eq_nil_of_length_eq_zero hz
            have HLS := Lib.hid (show lastSum recs = 0 by rw [hnil]; rfl)
            clear hnil
            go_wp2_with fail
            go_meet
            exact ⟨by rw [HLS.out], rfl⟩
          · have hpos : 0 < recs.length := by omega
            obtain ⟨x, hx⟩ : ∃ x, recs[recs.length - 1]? = some x := ⟨_, List.getElem?_eq_getElem (by omega)⟩
            obtain ⟨ad, A3, c3, rfl, p0, p1, p2, p3, p4, hle3, hC3⟩ := at_Rc hC7 hx
            have hls : x.sum = lastSum recs := by
              unfold lastSum
              rw [List.getLast?_eq_getElem?, hx]
            rw [hls] at p4
            clear hx p0 p1 p2 p3 hC3 hls hz
            go_wp2_with fail
            go_meet
            exact ⟨rfl, rfl⟩
        case rest =>
          obtain ⟨rfl, rfl⟩ := hcut
          go_wp2_with fail
          refine HSM.out.mono ?_
          rintro e w8 ⟨rfl, hb8⟩
          have hL8 := hb8
          have hbw8 := below_t hbw7 hb8
          have hB8 := hB7.move (hb8.block _ hB7.lt)
          have hB28 := hB27.move (hb8.block _ hB27.lt)
          have hB38 := hB37.move (hb8.block _ hB37.lt)
          have hR8 := Kd.R_below (Kd.R_bound hR7) hb8
          have hs8 := hb8.size
          generalize hsm : dig (lastSum recs) (recs.length + 1) d rev ps = sm at *
          have HSQ := Lib.hid hsm
          clear hsm
          have hbw9 := hbw8.setCell (p := ⟨wr.heap.size, 4, none⟩) (Nat.le_of_lt hw0) (.int .u64 sm)
          have hB9 := hB8.other (p := ⟨wr.heap.size, 4, none⟩) (by show w.heap.size ≠ wr.heap.size; omega) (.int .u64 sm)
          have hB29 := hB28.other (p := ⟨wr.heap.size, 4, none⟩) (by show w.heap.size + 1 ≠ wr.heap.size; omega) (.int .u64 sm)
          have hB39 : Blk (w8.setCell ⟨wr.heap.size, 4, none⟩ (.int .u64 sm)) wr.heap.size #[.int .i64 (recs.length + 1), .int .i64 d, .slice A6 ps.length c6, .int .i64 rev, .int .u64 sm] 34 := by simpa using hB38.set 4 (.int .u64 sm)
          have hR9 := Kd.R_far (p := ⟨wr.heap.size, 4, none⟩) hR8 (fun k hk => by show k ≠ wr.heap.size; have := hk.1; omega) (.int .u64 sm)
          have hs9 : (w8.setCell ⟨wr.heap.size, 4, none⟩ (.int .u64 sm)).heap.size = w8.heap.size := size_setCell _ _ _
          have f4 := hB38.free 4
          have e4 := hB38.cell 4 (v := .int .u64 0) rfl
          go_upto_region 16 with fail
          generalize w8.setCell ⟨wr.heap.size, 4, none⟩ (.int .u64 sm) = w9 at *
          have hO9 := Kd.R_move hR (fun k hk => hbw9.block k (hok k hk))
          obtain ⟨_, inner, hown, hreps⟩ := hO9
          obtain ⟨A9, c9, hv9, hrow⟩ := own_reads_row hown hreps rfl
          simp only [Value.slice.injEq] at hv9
          obtain ⟨rfl, _, rfl⟩ := hv9
          have q1 := hB9.cell 1 (v := .slice A recs.length c) rfl
          have hl2 : (([] : List Rc).length + recs.length) * 56 ≤ 140737488355328 := by simp; omega
          have hl3 : (([] ++ recs : List Rc).length + 1) * 56 ≤ 140737488355328 := by simp; omega
          have hfr9 : ∀ k, w9.heap.size ≤ k → ok k ∨ w5.heap.size ≤ k := fun k hk => .inr (by omega)
          have hokp9 : ∀ k, ok k → (ok k ∨ w5.heap.size ≤ k) ∧ some k ≠ (Value.slice none 0 0).ownBlock := fun k hk => ⟨.inl hk, by simp [Value.ownBlock]⟩
          clear f4 e4
          go_upto_region 17 with (first
            | (at_builtin; refine Kd.R_append_rows kRc (Rr := kRc.M w9 0 (fun k => ok k ∧ some k ≠ (Value.slice A recs.length c).ownBlock)) (w0 := w9) 0 rfl _ _ 30 34 (.agg #[.int .i64 0, .int .i64 0, .slice none 0 0, .int .i64 0, .int .u64 0]) 56 rfl Try.underlying30 info34 rfl (by decide) (by decide) (.slice none 0 0) [] recs A recs.length c (fun k => ok k ∨ w5.heap.size ≤ k) ok rfl rfl (Kd.R_nil _ _ _ _ _) hrow (fun x cs hm => Kd.M_mono kRc (fun k hk => hk.1) hm) hokp9 hfr9 (Below.refl _ _) (Nat.zero_le _) hl2 ?_; intro v10 w10 hR10 hb10 hg10 hat10)
            | fail)
          rw [List.nil_append] at hR10
          have hv10 : ∀ k, k < w9.heap.size → some k ≠ v10.ownBlock := fun k hk e => by
            rcases hat10 with h1 | ⟨b, h1, h2⟩
            · rw [h1] at e; simp [Value.ownBlock] at e
            · rw [h1] at e; injection e with e; omega
          have hbw10 : Below w.heap.size w w10 := ((Fr.of_below hbw9 (fun _ => False)).grown hg10 (fun k hk => by simp [Value.ownBlock] at hk)).none_below
          have hB10 := hB9.move (hg10.block _ hB9.lt (by simp [Value.ownBlock]))
          have hB210 := hB29.move (hg10.block _ hB29.lt (by simp [Value.ownBlock]))
          have hB310 := hB39.move (hg10.block _ hB39.lt (by simp [Value.ownBlock]))
          have hR10p : Kd.R kPst 36 w10 0 (fun k => w5.heap.size ≤ k ∧ k < w9.heap.size) (.slice A6 ps.length c6) ps :=
            Kd.R_mono (Kd.R_grown hR9 hg10 (fun k hk => by simp [Value.ownBlock])) (fun k hk => ⟨hk.1, by have := hk.2.2.1; omega⟩)
          have hM10 : kRc.M w10 0 (fun k => w5.heap.size ≤ k ∧ k < w9.heap.size) (newRec recs d rev ps) [.int .i64 (recs.length + 1), .int .i64 d, .slice A6 ps.length c6, .int .i64 rev, .int .u64 sm] := by
            rw [← HSQ.out]
            exact kRc_mkM (newRec recs d rev ps) hR10p
          have hok10 : ∀ k, (w5.heap.size ≤ k ∧ k < w9.heap.size) → (ok k ∨ w5.heap.size ≤ k) ∧ some k ≠ v10.ownBlock := fun k hk => ⟨.inr hk.1, hv10 k hk.2⟩
          have hs10 := hg10.size
          have hfr10 : ∀ k, w10.heap.size ≤ k → ok k ∨ w5.heap.size ≤ k := fun k hk => .inr (by omega)
          have hl3 : (recs.length + 1) * 56 ≤ 140737488355328 := by omega
          have e0 := hB310.cell 0 (v := .int .i64 (recs.length + 1)) rfl
          have e1 := hB310.cell 1 (v := .int .i64 d) rfl
          have e2 := hB310.cell 2 (v := .slice A6 ps.length c6) rfl
          have e3 := hB310.cell 3 (v := .int .i64 rev) rfl
          have e4 := hB310.cell 4 (v := .int .u64 sm) rfl
          clear q1
          go_upto_region 18 with (first
            | (at_builtin; refine Kd.R_append kRc (w0 := w10) 0 rfl _ _ 30 34 (.agg #[.int .i64 0, .int .i64 0, .slice none 0 0, .int .i64 0, .int .u64 0]) 56 rfl Try.underlying30 info34 rfl (by decide) (by decide) v10 recs (newRec recs d rev ps) [.int .i64 (recs.length + 1), .int .i64 d, .slice A6 ps.length c6, .int .i64 rev, .int .u64 sm] (fun k => ok k ∨ w5.heap.size ≤ k) (fun k => w5.heap.size ≤ k ∧ k < w9.heap.size) rfl rfl hM10 hok10 hfr10 hR10 (Below.refl _ _) (Nat.zero_le _) hl3 ?_; intro v11 w11 hR11 hb11 hg11 hat11; have hB11 := hB10.move (hg11.block _ hB10.lt (hv10 _ hB9.lt)); have f1 := hB11.free 1; have y1 := hB11.cell 1 (v := .slice A recs.length c) rfl; have hB211 := hB210.move (hg11.block _ hB210.lt (hv10 _ hB29.lt)); have hB311 := hB310.move (hg11.block _ hB310.lt (hv10 _ hB39.lt)); obtain ⟨A11, c11, rfl, -, -⟩ := Kd.R_reads hR11; clear e0 e1 e2 e3 e4)
            | fail)
          have hbw11 : Below w.heap.size w w11 := ((Fr.of_below hbw10 (fun _ => False)).grown hg11 (fun k hk => by
            rcases hat10 with h1 | ⟨b, h1, h2⟩
            · rw [h1] at hk; simp [Value.ownBlock] at hk
            · rw [h1] at hk; injection hk with hk; right; omega)).none_below
          have hlr : (recs ++ [newRec recs d rev ps]).length = recs.length + 1 := by simp
          rw [hlr] at hR11
          have hB12 : Blk (w11.setCell ⟨w.heap.size, 1, none⟩ (.slice A11 (recs.length + 1) c11)) w.heap.size #[.slice An nn cn, .slice A11 (recs.length + 1) c11] 59 := by simpa using hB11.set 1 (.slice A11 (recs.length + 1) c11)
          have hB212 := hB211.other (p := ⟨w.heap.size, 1, none⟩) (by show w.heap.size + 1 ≠ w.heap.size; omega) (.slice A11 (recs.length + 1) c11)
          have hB312 := hB311.other (p := ⟨w.heap.size, 1, none⟩) (by show wr.heap.size ≠ w.heap.size; omega) (.slice A11 (recs.length + 1) c11)
          have hbw12 := hbw11.setCell (p := ⟨w.heap.size, 1, none⟩) (Nat.le_refl _) (.slice A11 (recs.length + 1) c11)
          have hok12 : ∀ k, (ok k ∨ w5.heap.size ≤ k) → k ≠ w.heap.size ∧ k ≠ w.heap.size + 1 := fun k hk => by
            rcases hk with hk | hk
            · have := hok k hk; omega
            · omega
          have hR12 := Kd.R_far (p := ⟨w.heap.size, 1, none⟩) hR11 (fun k hk => (hok12 k hk).1) (.slice A11 (recs.length + 1) c11)
          generalize w11.setCell ⟨w.heap.size, 1, none⟩ (.slice A11 (recs.length + 1) c11) = w12 at *
          have a0 := hB12.cell 0 (v := .slice An nn cn) rfl
          have a1 := hB12.cell 1 (v := .slice A11 (recs.length + 1) c11) rfl
          have e0 := hB312.cell 0 (v := .int .i64 (recs.length + 1)) rfl
          have z0 := hB212.free 0
          have z1 := hB212.free 1
          have y0 := hB212.cell 0 (v := .slice none 0 0) rfl
          have y1 := hB212.cell 1 (v := .slice none 0 0) rfl
          clear f1
          have hQ := hB212.store2 (.slice An nn cn) (.slice A11 (recs.length + 1) c11)
          have r0 := hQ.cell 0 (v := .slice An nn cn) rfl
          have r1 := hQ.cell 1 (v := .slice A11 (recs.length + 1) c11) rfl
          have hfin : RefP w (.slice An nn cn) (putS recs d rev ps) (putN recs ps) (enterErr recs ps) ok (.returned (.tuple #[.agg #[.slice An nn cn, .slice A11 (recs.length + 1) c11], .int .i64 (recs.length + 1), .int .i64 0])) ((w12.setCell ⟨w.heap.size + 1, 0, none⟩ (.slice An nn cn)).setCell ⟨w.heap.size + 1, 1, none⟩ (.slice A11 (recs.length + 1) c11)).drew := by
            rw [HE.out, HS.out, HN.out]
            refine ⟨⟨A11, c11, by rw [hlr], ?_⟩, ((hbw12.setCell (Nat.le_succ _) _).setCell (Nat.le_succ _) _).drew⟩
            rw [hlr]
            exact Kd.R_drew (Kd.R_mono (Kd.R_far (p := ⟨w.heap.size + 1, 1, none⟩) (Kd.R_far (p := ⟨w.heap.size + 1, 0, none⟩) hR12 (fun k hk => (hok12 k hk).2) _) (fun k hk => (hok12 k hk).2) _) (fun k hk => hk.imp id (fun h9 => by omega)))
          have HF := Lib.hid hfin
          clear hfin
          go_region_law (fail)
          all_goals
            go_wp2_with fail
            exact bodyPost_ret (v := .tuple #[.agg #[.slice An nn cn, .slice A11 (recs.length + 1) c11], .int .i64 (recs.length + 1), .int .i64 0]) (by simp [results, Try.results96, go_sem, r0, r1]) rfl HF.out
end Go.Proofs.Ytpmopdgnnlhplaa
namespace Go.Proofs.Ytpmopdgnnlhplaa
open Go.RowKit Go.Proofs.YtpmopdgnnlhplaaW.PrintWords
theorem lg2_of {names : List ByteArray} {recs : List Rc} {rl : List (Int × Value)} (h : GInv names recs rl) : Lg2 recs where
  sm := ⟨h.len, fun r hr => ⟨by have := (h.pss r hr).2.1; omega, fun p hp => ((h.pss r hr).2.2 p hp).2.2⟩⟩
  days r hr := (of_decide_eq_true (h.dayr r hr)).2
  bals := h.bals
  sum := lastSum_W h.sums
theorem refp_same {w wr : World} {A : Option Addr} {c : Nat} {recs : List Rc} {ok : Nat → Prop} {u : Value} (hR : Kd.R kRc 34 w 0 ok (.slice A recs.length c) recs) (hok : ∀ k, ok k → k < w.heap.size) (hbw : Below w.heap.size w wr) (e : Int) (x y : Value) :
    RefP w u recs 0 e ok (.returned (.tuple #[.agg #[u, .slice A recs.length c], .int .i64 0, .int .i64 e])) ((wr.setCell ⟨w.heap.size + 1, 0, none⟩ x).setCell ⟨w.heap.size + 1, 1, none⟩ y) := by
  refine ⟨⟨A, c, rfl, ?_⟩, (hbw.setCell (Nat.le_succ _) _).setCell (Nat.le_succ _) _⟩
  exact Kd.R_mono (Kd.R_far (p := ⟨w.heap.size + 1, 1, none⟩) (Kd.R_far (p := ⟨w.heap.size + 1, 0, none⟩) (Kd.R_move hR fun k hk => hbw.block k (hok k hk)) (fun k hk => by have := hok k hk; show k ≠ w.heap.size + 1; omega) _) (fun k hk => by have := hok k hk; show k ≠ w.heap.size + 1; omega) _) (fun k hk => .inl hk)
def PostR (w : World) (u : Value) (names : List ByteArray) (recs : List Rc) (d : Int) (ps : List Pst) (ok : Nat → Prop) : Ending → World → Prop :=
  RefP w u (poS ⟨names, recs⟩ d ps).r (poV ⟨names, recs⟩ d ps) (poE ⟨names, recs⟩ d ps) ok
theorem post_same {w wr : World} {A : Option Addr} {c : Nat} {names : List ByteArray} {recs : List Rc} {d : Int} {ps : List Pst} {ok : Nat → Prop} {u : Value} {e : Int} (hR : Kd.R kRc 34 w 0 ok (.slice A recs.length c) recs) (hok : ∀ k, ok k → k < w.heap.size) (hbw : Below w.heap.size w wr)
    (hE : poE ⟨names, recs⟩ d ps = e) (he : e ≠ 0) (x y : Value) :
    PostR w u names recs d ps ok (.returned (.tuple #[.agg #[u, .slice A recs.length c], .int .i64 0, .int .i64 e])) ((wr.setCell ⟨w.heap.size + 1, 0, none⟩ x).setCell ⟨w.heap.size + 1, 1, none⟩ y) := by
  have h1 : (poS ⟨names, recs⟩ d ps).r = recs := by unfold poS; rw [hE, if_neg he]
  have h2 : poV ⟨names, recs⟩ d ps = 0 := by unfold poV; rw [hE, if_neg he]
  unfold PostR
  rw [h1, h2, hE]
  exact refp_same hR hok hbw e x y
theorem refp_put {w wr w9 : World} {A1 : Option Addr} {c1 : Nat} {recs : List Rc} {ok : Nat → Prop} {u : Value} {no e : Int} (hbw : Below w.heap.size w wr) (hsz : w.heap.size + 1 < wr.heap.size) (hok : ∀ k, ok k → k < w.heap.size)
    (hR : Kd.R kRc 34 w9 0 (fun k => ok k ∨ wr.heap.size ≤ k) (.slice A1 recs.length c1) recs) (hb9 : Below wr.heap.size wr w9) (x y : Value) :
    RefP w u recs no e ok (.returned (.tuple #[.agg #[u, .slice A1 recs.length c1], .int .i64 no, .int .i64 e])) ((w9.setCell ⟨w.heap.size + 1, 0, none⟩ x).setCell ⟨w.heap.size + 1, 1, none⟩ y) := by
  have hk' : ∀ k, (ok k ∨ wr.heap.size ≤ k) → k ≠ w.heap.size + 1 := fun k hk => by
    rcases hk with hk | hk
    · have := hok k hk; omega
    · omega
  refine ⟨⟨A1, c1, rfl, ?_⟩, ((below_t hbw hb9).setCell (Nat.le_succ _) _).setCell (Nat.le_succ _) _⟩
  exact Kd.R_mono (Kd.R_far (p := ⟨w.heap.size + 1, 1, none⟩) (Kd.R_far (p := ⟨w.heap.size + 1, 0, none⟩) hR hk' _) hk' _) (fun k hk => hk.imp id (fun h9 => by omega))
theorem post_put {names : List ByteArray} {recs : List Rc} {d : Int} {ps : List Pst} (h : poE ⟨names, recs⟩ d ps = enterErr recs ps) : (poS ⟨names, recs⟩ d ps).r = putS recs d 0 ps ∧ poV ⟨names, recs⟩ d ps = putN recs ps := by
  unfold poS poV putS putN
  rw [h]
  exact ⟨by split <;> rfl, rfl⟩
set_option maxRecDepth 100000 in
set_option maxHeartbeats 8000000 in
theorem rpost_any {w : World} {A An B : Option Addr} {c cn cb : Nat} {names : List ByteArray} {recs : List Rc} {rl : List (Int × Value)} {ok : Nat → Prop} (hR : Kd.R kRc 34 w 0 ok (.slice A recs.length c) recs) (hok : ∀ k, ok k → k < w.heap.size)
    (hN : Kd.C kSt w An names.length names) (hG : GInv names recs rl) (ps : List Pst) (hP : Kd.C kPst w B ps.length ps) (hcb : ps.length ≤ cb) (d : Int) :
    Calls Try.prog 70 #[.agg #[.slice An names.length cn, .slice A recs.length c], .int .i64 d, .slice B ps.length cb] w (PostR w (.slice An names.length cn) names recs d ps ok) := by
  obtain ⟨_, _, hq, _, hC⟩ := Kd.R_reads hR
  simp only [Value.slice.injEq] at hq
  obtain ⟨rfl, _, rfl⟩ := hq
  have hb := (((Below.refl w.heap.size w).alloc (Nat.le_refl _) (.cells #[.slice An names.length cn, .slice A recs.length c] 59))).alloc (by simp) (.cells #[.slice none 0 0, .slice none 0 0] 59)
  have hB := (Blk.new w #[.slice An names.length cn, .slice A recs.length c] 59).alloc (.cells #[.slice none 0 0, .slice none 0 0] 59)
  have hB2 := Blk.new1 w (.cells #[.slice An names.length cn, .slice A recs.length c] 59) #[.slice none 0 0, .slice none 0 0] 59
  have hs : ((w.alloc (.cells #[.slice An names.length cn, .slice A recs.length c] 59)).alloc (.cells #[.slice none 0 0, .slice none 0 0] 59)).heap.size = w.heap.size + 2 := by simp
  have hlm := hP.2.1
  have HEE := Lib.hid (show poE ⟨names, recs⟩ d ps = postErr names recs d ps from rfl)
  have HEL := Lib.hid (show lateE recs d = if dayB d = false then 2 else if d < lastDay recs then 10 else 0 from rfl)
  go_enter Try.func70, Try.ntmps70
  go_wp2_with fail
  generalize (w.alloc (.cells #[.slice An names.length cn, .slice A recs.length c] 59)).alloc (.cells #[.slice none 0 0, .slice none 0 0] 59) = w2 at *
  have HC2 := Lib.hid (Kd.C_below hC hb)
  have HP2 := Lib.hid (Kd.C_below hP hb)
  have HN2 := Lib.hid (Kd.C_below hN hb)
  clear hC hP hN
  have a0 := hB.cell 0 (v := .slice An names.length cn) rfl
  have a1 := hB.cell 1 (v := .slice A recs.length c) rfl
  go_wp2_with fail
  refine (rlate_any w2 A An c names.length cn recs HC2.out d).mono ?_
  rintro e w3 ⟨rfl, hb3⟩
  have hB3 := hB.move (hb3.block _ hB.lt)
  have hB23 := hB2.move (hb3.block _ hB2.lt)
  have hbw3 := below_t hb hb3
  have hC3 := Kd.C_below HC2.out hb3
  have hP3 := Kd.C_below HP2.out hb3
  have hN3 := Kd.C_below HN2.out hb3
  have hs3 := hb3.size
  clear a0 a1
  have a0 := hB3.cell 0 (v := .slice An names.length cn) rfl
  have a1 := hB3.cell 1 (v := .slice A recs.length c) rfl
  cases hd : dayB d with
  | false =>
    have HE := Lib.hid (show poE ⟨names, recs⟩ d ps = 2 by rw [HEE.out]; unfold postErr; rw [if_pos hd])
    have HL := Lib.hid (show lateE recs d = 2 by rw [HEL.out, if_pos hd])
    clear hd
    rw [HL.out]
    have z0 := hB23.free 0
    have z1 := hB23.free 1
    have y0 := hB23.cell 0 (v := .slice none 0 0) rfl
    have y1 := hB23.cell 1 (v := .slice none 0 0) rfl
    have hQ := hB23.store2 (.slice An names.length cn) (.slice A recs.length c)
    have r0 := hQ.cell 0 (v := .slice An names.length cn) rfl
    have r1 := hQ.cell 1 (v := .slice A recs.length c) rfl
    have HX := Lib.hid (post_same (u := .slice An names.length cn) hR hok hbw3 HE.out (by decide) (.slice An names.length cn) (.slice A recs.length c))
    clear hQ
    go_wp2_with fail
    exact bodyPost_ret (v := .tuple #[.agg #[.slice An names.length cn, .slice A recs.length c], .int .i64 0, .int .i64 2]) (by simp [results, Try.results70, go_sem, r0, r1]) rfl HX.out
  | true =>
    have hd' : ¬ dayB d = false := by rw [hd]; simp
    by_cases hld : d < lastDay recs
    · have HE := Lib.hid (show poE ⟨names, recs⟩ d ps = 10 by rw [HEE.out]; unfold postErr; rw [if_neg hd', if_pos hld])
      have HL := Lib.hid (show lateE recs d = 10 by rw [HEL.out, if_neg hd', if_pos hld])
      clear hd hd' hld
      rw [HL.out]
      have z0 := hB23.free 0
      have z1 := hB23.free 1
      have y0 := hB23.cell 0 (v := .slice none 0 0) rfl
      have y1 := hB23.cell 1 (v := .slice none 0 0) rfl
      have hQ := hB23.store2 (.slice An names.length cn) (.slice A recs.length c)
      have r0 := hQ.cell 0 (v := .slice An names.length cn) rfl
      have r1 := hQ.cell 1 (v := .slice A recs.length c) rfl
      have HX := Lib.hid (post_same (u := .slice An names.length cn) hR hok hbw3 HE.out (by decide) (.slice An names.length cn) (.slice A recs.length c))
      clear hQ
      go_wp2_with fail
      exact bodyPost_ret (v := .tuple #[.agg #[.slice An names.length cn, .slice A recs.length c], .int .i64 0, .int .i64 10]) (by simp [results, Try.results70, go_sem, r0, r1]) rfl HX.out
    have HL := Lib.hid (show lateE recs d = 0 by rw [HEL.out, if_neg hd', if_neg hld])
    have HE1 := Lib.hid (show poE ⟨names, recs⟩ d ps = if 16 < ps.length then 3 else if ps.length < 2 then 2 else if postBad names ps ≠ 0 then postBad names ps else if total ps ≠ 0 then 17 else enterErr recs ps by rw [HEE.out]; unfold postErr; rw [if_neg hd', if_neg hld])
    clear hd hd' hld HEE
    rw [HL.out]
    by_cases h16 : 16 < ps.length
    · have HE := Lib.hid (show poE ⟨names, recs⟩ d ps = 3 by rw [HE1.out, if_pos h16])
      have z0 := hB23.free 0
      have z1 := hB23.free 1
      have y0 := hB23.cell 0 (v := .slice none 0 0) rfl
      have y1 := hB23.cell 1 (v := .slice none 0 0) rfl
      have hQ := hB23.store2 (.slice An names.length cn) (.slice A recs.length c)
      have r0 := hQ.cell 0 (v := .slice An names.length cn) rfl
      have r1 := hQ.cell 1 (v := .slice A recs.length c) rfl
      have HX := Lib.hid (post_same (u := .slice An names.length cn) hR hok hbw3 HE.out (by decide) (.slice An names.length cn) (.slice A recs.length c))
      clear hQ
      go_wp2_with fail
      exact bodyPost_ret (v := .tuple #[.agg #[.slice An names.length cn, .slice A recs.length c], .int .i64 0, .int .i64 3]) (by simp [results, Try.results70, go_sem, r0, r1]) rfl HX.out
    by_cases h2 : ps.length < 2
    · have HE := Lib.hid (show poE ⟨names, recs⟩ d ps = 2 by rw [HE1.out, if_neg h16, if_pos h2])
      have z0 := hB23.free 0
      have z1 := hB23.free 1
      have y0 := hB23.cell 0 (v := .slice none 0 0) rfl
      have y1 := hB23.cell 1 (v := .slice none 0 0) rfl
      have hQ := hB23.store2 (.slice An names.length cn) (.slice A recs.length c)
      have r0 := hQ.cell 0 (v := .slice An names.length cn) rfl
      have r1 := hQ.cell 1 (v := .slice A recs.length c) rfl
      have HX := Lib.hid (post_same (u := .slice An names.length cn) hR hok hbw3 HE.out (by decide) (.slice An names.length cn) (.slice A recs.length c))
      clear hQ
      go_wp2_with fail
      exact bodyPost_ret (v := .tuple #[.agg #[.slice An names.length cn, .slice A recs.length c], .int .i64 0, .int .i64 2]) (by simp [results, Try.results70, go_sem, r0, r1]) rfl HX.out
    have HE2 := Lib.hid (show poE ⟨names, recs⟩ d ps = if postBad names ps ≠ 0 then postBad names ps else if total ps ≠ 0 then 17 else enterErr recs ps by rw [HE1.out, if_neg h16, if_neg h2])
    have hpl : ps.length ≤ 16 := by omega
    have hpl2 : 2 ≤ ps.length := by omega
    clear h16 h2 HE1
    have HB3 := Lib.hid hB3
    have HB23 := Lib.hid hB23
    have HC3 := Lib.hid hC3
    have HP3 := Lib.hid hP3
    have HN3 := Lib.hid hN3
    have HG := Lib.hid hG
    clear hB3 hB23 hC3 hP3 hN3 hG HC2 HP2 HN2 hB hB2 a0 a1
    go_wp2_with fail
    go_loopw [10, 11] (fun s10 s11 wr => ∃ k : Nat, k ≤ ps.length ∧ s11 = .int .i64 k ∧ s10 = .int .i64 (total (ps.take k)) ∧ (∀ p ∈ ps.take k, GoodP names p) ∧ Below w3.heap.size w3 wr) (fun _ s11 _ => ps.length - (intOf s11).toNat)
    case atStart => exact ⟨0, Nat.zero_le _, rfl, rfl, by simp, Below.refl _ _⟩
    case round =>
      obtain ⟨k, hk, rfl, rfl, hall, hbr⟩ := hrel
      have HA := Lib.hid hall
      clear hall
      have hBr := HB3.out.move (hbr.block _ HB3.out.lt)
      have hB2r := HB23.out.move (hbr.block _ HB23.out.lt)
      have hbw := below_t hbw3 hbr
      have a0 := hBr.cell 0 (v := .slice An names.length cn) rfl
      have a1 := hBr.cell 1 (v := .slice A recs.length c) rfl
      have htb := total_bound (ps := ps.take k) (fun p hp => (HA.out p hp).2.2)
      have htl : (ps.take k).length ≤ 16 := by rw [List.length_take]; omega
      by_cases hlt : k < ps.length
      · obtain ⟨x, hx⟩ : ∃ x, ps[k]? = some x := ⟨_, List.getElem?_eq_getElem hlt⟩
        obtain ⟨ad, rfl, p0, p1⟩ := at_Pst (Kd.C_below HP3.out hbr) hx
        have HX1 := Lib.hid hx
        clear hx
        go_upto_region 12 with fail
        go_cut [40] (fun s40 wx => s40 = .bool (!memB names x.a) ∧ Below wr.heap.size wr wx)
        case first =>
          refine calm ?_
          go_region_law (first
            | (go_simp; go_at_call 93; refine (rhas_any _ An A cn recs.length c names (Kd.C_below (Kd.C_below HN3.out hbr) ((Below.refl _ wr).drew)) x.a).mono ?_; rintro e w7 ⟨rfl, hb7⟩)
            | fail)
          all_goals
            simp only [Calm]
            go_wp2_with fail
            go_meet
            exact ⟨rfl, (Below.refl _ wr).drew.trans hb7⟩
        case rest =>
          obtain ⟨rfl, hb8⟩ := hcut
          have hbx := below_t hbr hb8
          have hbwx := below_t hbw hb8
          have hBx := HB3.out.move (hbx.block _ HB3.out.lt)
          have hB2x := HB23.out.move (hbx.block _ HB23.out.lt)
          have q0 := (hb8.cell (World.block_lt_of_cell? wr _ p0)).trans p0
          have q1 := (hb8.cell (World.block_lt_of_cell? wr _ p1)).trans p1
          clear a0 a1 p0 p1
          have a0 := hBx.cell 0 (v := .slice An names.length cn) rfl
          have a1 := hBx.cell 1 (v := .slice A recs.length c) rfl
          obtain ⟨hpb1, hpb2⟩ := postBad_at HA.out HX1.out
          have HPB1 := Lib.hid hpb1
          have HPB2 := Lib.hid hpb2
          clear hpb1 hpb2
          cases hm : memB names x.a with
          | false =>
            have HE := Lib.hid (show poE ⟨names, recs⟩ d ps = 7 by rw [HE2.out, HPB1.out hm]; rfl)
            clear hm
            have z0 := hB2x.free 0
            have z1 := hB2x.free 1
            have y0 := hB2x.cell 0 (v := .slice none 0 0) rfl
            have y1 := hB2x.cell 1 (v := .slice none 0 0) rfl
            have hQ := hB2x.store2 (.slice An names.length cn) (.slice A recs.length c)
            have r0 := hQ.cell 0 (v := .slice An names.length cn) rfl
            have r1 := hQ.cell 1 (v := .slice A recs.length c) rfl
            have HX := Lib.hid (post_same (u := .slice An names.length cn) hR hok hbwx HE.out (by decide) (.slice An names.length cn) (.slice A recs.length c))
            clear hQ
            go_wp2_with fail
            exact bodyPost_ret (v := .tuple #[.agg #[.slice An names.length cn, .slice A recs.length c], .int .i64 0, .int .i64 7]) (by simp [results, Try.results70, go_sem, r0, r1]) rfl HX.out
          | true =>
            have HM := Lib.hid hm
            clear hm
            cases hz : (x.c == 0) with
            | true =>
              have HE := Lib.hid (show poE ⟨names, recs⟩ d ps = 2 by rw [HE2.out, HPB2.out HM.out (.inl (by simpa using hz))]; rfl)
              have z0 := hB2x.free 0
              have z1 := hB2x.free 1
              have y0 := hB2x.cell 0 (v := .slice none 0 0) rfl
              have y1 := hB2x.cell 1 (v := .slice none 0 0) rfl
              have hQ := hB2x.store2 (.slice An names.length cn) (.slice A recs.length c)
              have r0 := hQ.cell 0 (v := .slice An names.length cn) rfl
              have r1 := hQ.cell 1 (v := .slice A recs.length c) rfl
              have HX := Lib.hid (post_same (u := .slice An names.length cn) hR hok hbwx HE.out (by decide) (.slice An names.length cn) (.slice A recs.length c))
              clear hQ
              go_wp2_with fail
              exact bodyPost_ret (v := .tuple #[.agg #[.slice An names.length cn, .slice A recs.length c], .int .i64 0, .int .i64 2]) (by simp [results, Try.results70, go_sem, r0, r1]) rfl HX.out
            | false =>
              have HZ := Lib.hid (show x.c ≠ 0 by simpa using hz)
              cases hc : centsB x.c with
              | false =>
                have HE := Lib.hid (show poE ⟨names, recs⟩ d ps = 2 by rw [HE2.out, HPB2.out HM.out (.inr (by have := of_decide_eq_false hc; omega))]; rfl)
                have HCC := Lib.hid hc
                clear hc
                go_wp2_with fail
                refine (rcents_any x.c wc).mono ?_
                rintro e w9 ⟨rfl, rfl⟩
                rw [HCC.out]
                have z0 := hB2x.free 0
                have z1 := hB2x.free 1
                have y0 := hB2x.cell 0 (v := .slice none 0 0) rfl
                have y1 := hB2x.cell 1 (v := .slice none 0 0) rfl
                have hQ := hB2x.store2 (.slice An names.length cn) (.slice A recs.length c)
                have r0 := hQ.cell 0 (v := .slice An names.length cn) rfl
                have r1 := hQ.cell 1 (v := .slice A recs.length c) rfl
                have HX := Lib.hid (post_same (u := .slice An names.length cn) hR hok hbwx HE.out (by decide) (.slice An names.length cn) (.slice A recs.length c))
                clear hQ
                go_wp2_with fail
                exact bodyPost_ret (v := .tuple #[.agg #[.slice An names.length cn, .slice A recs.length c], .int .i64 0, .int .i64 2]) (by simp [results, Try.results70, go_sem, r0, r1]) rfl HX.out
              | true =>
                obtain ⟨hc1, hc2⟩ := of_decide_eq_true hc
                have HT := Lib.hid (show ∀ p ∈ ps.take (k + 1), GoodP names p from fun p hp => by
                  rw [List.take_succ_eq_append_getElem hlt, List.mem_append] at hp
                  rcases hp with hp | hp
                  · exact HA.out p hp
                  · rw [List.mem_singleton.1 hp, (List.getElem?_eq_some_iff.1 HX1.out).2]; exact ⟨HM.out, HZ.out, hc1, hc2⟩)
                have HTT := Lib.hid (show total (ps.take (k + 1)) = total (ps.take k) + x.c by
                  rw [List.take_succ_eq_append_getElem hlt, total_append, (List.getElem?_eq_some_iff.1 HX1.out).2]
                  simp [total])
                have HCC := Lib.hid hc
                clear hc
                go_wp2_with fail
                refine (rcents_any x.c wc).mono ?_
                rintro e w9 ⟨rfl, rfl⟩
                rw [HCC.out]
                go_wp2_with fail
                go_roundw
                case rel => exact ⟨k + 1, by omega, by go_num, by rw [HTT.out], HT.out, hbx⟩
                case measure => simp [intOf]; omega
      · obtain rfl : k = ps.length := by omega
        rw [List.take_length] at HA htb ⊢
        have HE3 := Lib.hid (show poE ⟨names, recs⟩ d ps = if total ps ≠ 0 then 17 else enterErr recs ps by rw [HE2.out, postBad_all HA.out]; rfl)
        cases hz : (total ps == 0) with
        | false =>
          have HE := Lib.hid (show poE ⟨names, recs⟩ d ps = 17 by rw [HE3.out, if_pos (by simpa using hz)])
          have hz' : (total ps != 0) = true := by rw [bne, hz]; rfl
          clear hz
          have z0 := hB2r.free 0
          have z1 := hB2r.free 1
          have y0 := hB2r.cell 0 (v := .slice none 0 0) rfl
          have y1 := hB2r.cell 1 (v := .slice none 0 0) rfl
          have hQ := hB2r.store2 (.slice An names.length cn) (.slice A recs.length c)
          have r0 := hQ.cell 0 (v := .slice An names.length cn) rfl
          have r1 := hQ.cell 1 (v := .slice A recs.length c) rfl
          have HX := Lib.hid (post_same (u := .slice An names.length cn) hR hok hbw HE.out (by decide) (.slice An names.length cn) (.slice A recs.length c))
          clear hQ
          go_wp2_with fail
          exact bodyPost_ret (v := .tuple #[.agg #[.slice An names.length cn, .slice A recs.length c], .int .i64 0, .int .i64 17]) (by simp [results, Try.results70, go_sem, r0, r1]) rfl HX.out
        | true =>
          have HE := Lib.hid (show poE ⟨names, recs⟩ d ps = enterErr recs ps by rw [HE3.out, if_neg (by simpa using hz)])
          have hz' : (total ps != 0) = false := by rw [bne, hz]; rfl
          clear hz
          have hRr := Kd.R_move hR (fun k hk => hbw.block k (hok k hk))
          go_wp2_with fail
          refine (rput_any hRr (fun k hk => Nat.lt_of_lt_of_le (hok k hk) hbw.size) (lg2_of HG.out) ps (Kd.C_below HP3.out hbr) ⟨by omega, fun p hp => (HA.out p hp).2.2⟩ (fun p hp => by have := nameB_size (HG.out.nm _ (memB_iff.1 (HA.out p hp).1)); omega) hcb d 0).mono ?_
          rintro e w9 ⟨⟨A1, c1, rfl, hR9⟩, hb9⟩
          have hB29 := hB2r.move (hb9.block _ hB2r.lt)
          have HF := Lib.hid (refp_put (u := .slice An names.length cn) (no := putN recs ps) (e := enterErr recs ps) hbw hB2r.lt hok hR9 hb9 (.slice An names.length cn) (.slice A1 (putS recs d 0 ps).length c1))
          have HEq := Lib.hid (post_put HE.out)
          have z0 := hB29.free 0
          have z1 := hB29.free 1
          have y0 := hB29.cell 0 (v := .slice none 0 0) rfl
          have y1 := hB29.cell 1 (v := .slice none 0 0) rfl
          have hQ := hB29.store2 (.slice An names.length cn) (.slice A1 (putS recs d 0 ps).length c1)
          have r0 := hQ.cell 0 (v := .slice An names.length cn) rfl
          have r1 := hQ.cell 1 (v := .slice A1 (putS recs d 0 ps).length c1) rfl
          clear hQ hRr hR9 a0 a1 hz'
          go_wp2_with fail
          refine bodyPost_ret (v := .tuple #[.agg #[.slice An names.length cn, .slice A1 (putS recs d 0 ps).length c1], .int .i64 (putN recs ps), .int .i64 (enterErr recs ps)]) (by simp [results, Try.results70, go_sem, r0, r1]) rfl ?_
          unfold PostR
          rw [HEq.out.1, HEq.out.2, HE.out]
          exact HF.out
end Go.Proofs.Ytpmopdgnnlhplaa
namespace Go.Proofs.Ytpmopdgnnlhplaa
open Go.RowKit Go.Proofs.YtpmopdgnnlhplaaW.PrintWords
def RevR (w : World) (u : Value) (names : List ByteArray) (recs : List Rc) (n d : Int) (ok : Nat → Prop) : Ending → World → Prop :=
  RefP w u (reS ⟨names, recs⟩ n d).r (reV ⟨names, recs⟩ n d) (revErr recs n d) ok
theorem rev_same {w wr : World} {A : Option Addr} {c : Nat} {names : List ByteArray} {recs : List Rc} {n d : Int} {ok : Nat → Prop} {u : Value} {e : Int} (hR : Kd.R kRc 34 w 0 ok (.slice A recs.length c) recs) (hok : ∀ k, ok k → k < w.heap.size) (hbw : Below w.heap.size w wr)
    (hE : revErr recs n d = e) (he : e ≠ 0) (x y : Value) :
    RevR w u names recs n d ok (.returned (.tuple #[.agg #[u, .slice A recs.length c], .int .i64 0, .int .i64 e])) ((wr.setCell ⟨w.heap.size + 1, 0, none⟩ x).setCell ⟨w.heap.size + 1, 1, none⟩ y) := by
  have h1 : (reS ⟨names, recs⟩ n d).r = recs := by unfold reS; rw [hE, if_neg he]
  have h2 : reV ⟨names, recs⟩ n d = 0 := by unfold reV; rw [hE, if_neg he]
  unfold RevR
  rw [h1, h2, hE]
  exact refp_same hR hok hbw e x y
theorem rev_put {names : List ByteArray} {recs : List Rc} {n d : Int} {ps : List Pst} (hps : revPs recs n = ps) (h : revErr recs n d = enterErr recs ps) : (reS ⟨names, recs⟩ n d).r = putS recs d n ps ∧ reV ⟨names, recs⟩ n d = putN recs ps := by
  unfold reS reV putS putN
  rw [h, hps]
  exact ⟨by split <;> rfl, rfl⟩
theorem any_take {recs : List Rc} {k : Nat} {y : Rc} {n : Int} (hy : recs[k]? = some y) (h : (recs.take k).any (fun r => decide (r.rev = n)) = false) (h2 : y.rev ≠ n) : (recs.take (k + 1)).any (fun r => decide (r.rev = n)) = false := by
  have hk := (List.getElem?_eq_some_iff.1 hy).1
  rw [List.take_succ_eq_append_getElem hk, (List.getElem?_eq_some_iff.1 hy).2, List.any_append, h]
  simp [h2]
set_option maxRecDepth 100000 in
set_option maxHeartbeats 8000000 in
theorem rrev_any {w : World} {A An : Option Addr} {c cn : Nat} {names : List ByteArray} {recs : List Rc} {rl : List (Int × Value)} {ok : Nat → Prop} (hR : Kd.R kRc 34 w 0 ok (.slice A recs.length c) recs) (hok : ∀ k, ok k → k < w.heap.size)
    (hG : GInv names recs rl) (n d : Int) :
    Calls Try.prog 71 #[.agg #[.slice An names.length cn, .slice A recs.length c], .int .i64 n, .int .i64 d] w (RevR w (.slice An names.length cn) names recs n d ok) := by
  obtain ⟨_, _, hq, _, hC⟩ := Kd.R_reads hR
  simp only [Value.slice.injEq] at hq
  obtain ⟨rfl, _, rfl⟩ := hq
  have hb := (((Below.refl w.heap.size w).alloc (Nat.le_refl _) (.cells #[.slice An names.length cn, .slice A recs.length c] 59))).alloc (by simp) (.cells #[.slice none 0 0, .slice none 0 0] 59)
  have hB := (Blk.new w #[.slice An names.length cn, .slice A recs.length c] 59).alloc (.cells #[.slice none 0 0, .slice none 0 0] 59)
  have hB2 := Blk.new1 w (.cells #[.slice An names.length cn, .slice A recs.length c] 59) #[.slice none 0 0, .slice none 0 0] 59
  have hs : ((w.alloc (.cells #[.slice An names.length cn, .slice A recs.length c] 59)).alloc (.cells #[.slice none 0 0, .slice none 0 0] 59)).heap.size = w.heap.size + 2 := by simp
  have hlen := hG.len
  have HEL := Lib.hid (show lateE recs d = if dayB d = false then 2 else if d < lastDay recs then 10 else 0 from rfl)
  go_enter Try.func71, Try.ntmps71
  go_upto_region 1 with fail
  generalize (w.alloc (.cells #[.slice An names.length cn, .slice A recs.length c] 59)).alloc (.cells #[.slice none 0 0, .slice none 0 0] 59) = w2 at *
  have HC2 := Lib.hid (Kd.C_below hC hb)
  clear hC
  have a0 := hB.cell 0 (v := .slice An names.length cn) rfl
  have a1 := hB.cell 1 (v := .slice A recs.length c) rfl
  by_cases hn1 : n < 1
  · have HE := Lib.hid (show revErr recs n d = 7 by unfold revErr; rw [if_pos (.inl hn1)])
    have z0 := hB2.free 0
    have z1 := hB2.free 1
    have y0 := hB2.cell 0 (v := .slice none 0 0) rfl
    have y1 := hB2.cell 1 (v := .slice none 0 0) rfl
    have hQ := hB2.store2 (.slice An names.length cn) (.slice A recs.length c)
    have r0 := hQ.cell 0 (v := .slice An names.length cn) rfl
    have r1 := hQ.cell 1 (v := .slice A recs.length c) rfl
    have HX := Lib.hid (rev_same (names := names) (u := .slice An names.length cn) hR hok hb HE.out (by decide) (.slice An names.length cn) (.slice A recs.length c))
    clear hQ
    go_wp2_with fail
    exact bodyPost_ret (v := .tuple #[.agg #[.slice An names.length cn, .slice A recs.length c], .int .i64 0, .int .i64 7]) (by simp [results, Try.results71, go_sem, r0, r1]) rfl HX.out
  by_cases hn2 : (recs.length : Int) < n
  · have HE := Lib.hid (show revErr recs n d = 7 by unfold revErr; rw [if_pos (.inr hn2)])
    have z0 := hB2.free 0
    have z1 := hB2.free 1
    have y0 := hB2.cell 0 (v := .slice none 0 0) rfl
    have y1 := hB2.cell 1 (v := .slice none 0 0) rfl
    have hQ := hB2.store2 (.slice An names.length cn) (.slice A recs.length c)
    have r0 := hQ.cell 0 (v := .slice An names.length cn) rfl
    have r1 := hQ.cell 1 (v := .slice A recs.length c) rfl
    have HX := Lib.hid (rev_same (names := names) (u := .slice An names.length cn) hR hok hb HE.out (by decide) (.slice An names.length cn) (.slice A recs.length c))
    clear hQ
    go_wp2_with fail
    exact bodyPost_ret (v := .tuple #[.agg #[.slice An names.length cn, .slice A recs.length c], .int .i64 0, .int .i64 7]) (by simp [results, Try.results71, go_sem, r0, r1]) rfl HX.out
  obtain ⟨m, rfl⟩ : ∃ m : Nat, n = m + 1 := ⟨(n - 1).toNat, by omega⟩
  have em : ((m : Int) + 1 - 1).toNat = m := by omega
  obtain ⟨x, hx⟩ : ∃ x, recs[m]? = some x := ⟨_, List.getElem?_eq_getElem (show m < recs.length by omega)⟩
  have hps := hG.pss x (List.mem_of_getElem? hx)
  have HE0 := Lib.hid (show revErr recs (m + 1) d = if dayB d = false then 2 else if d < lastDay recs ∨ x.rev ≠ 0 ∨ recs.any (fun r => decide (r.rev = m + 1)) = true then 10 else enterErr recs (x.ps.map negP) by unfold revErr; rw [if_neg (by omega), em, hx])
  have HPS := Lib.hid (show revPs recs (m + 1) = x.ps.map negP by unfold revPs; rw [em, hx])
  have HX := Lib.hid hx
  have HG := Lib.hid hG
  clear hx em hG
  have hml : m < recs.length := by omega
  go_wp2_with fail
  refine (rlate_any w2 A An c names.length cn recs HC2.out d).mono ?_
  rintro e w3 ⟨rfl, hb3⟩
  have hB3 := hB.move (hb3.block _ hB.lt)
  have hB23 := hB2.move (hb3.block _ hB2.lt)
  have hbw3 := below_t hb hb3
  have hC3 := Kd.C_below HC2.out hb3
  have hs3 := hb3.size
  clear a0 a1
  have a0 := hB3.cell 0 (v := .slice An names.length cn) rfl
  have a1 := hB3.cell 1 (v := .slice A recs.length c) rfl
  cases hd : dayB d with
  | false =>
    have HE := Lib.hid (show revErr recs (m + 1) d = 2 by rw [HE0.out, if_pos hd])
    have HL := Lib.hid (show lateE recs d = 2 by rw [HEL.out, if_pos hd])
    clear hd
    rw [HL.out]
    have z0 := hB23.free 0
    have z1 := hB23.free 1
    have y0 := hB23.cell 0 (v := .slice none 0 0) rfl
    have y1 := hB23.cell 1 (v := .slice none 0 0) rfl
    have hQ := hB23.store2 (.slice An names.length cn) (.slice A recs.length c)
    have r0 := hQ.cell 0 (v := .slice An names.length cn) rfl
    have r1 := hQ.cell 1 (v := .slice A recs.length c) rfl
    have HX := Lib.hid (rev_same (names := names) (u := .slice An names.length cn) hR hok hbw3 HE.out (by decide) (.slice An names.length cn) (.slice A recs.length c))
    clear hQ
    go_wp2_with fail
    exact bodyPost_ret (v := .tuple #[.agg #[.slice An names.length cn, .slice A recs.length c], .int .i64 0, .int .i64 2]) (by simp [results, Try.results71, go_sem, r0, r1]) rfl HX.out
  | true =>
    have hd' : ¬ dayB d = false := by rw [hd]; simp
    by_cases hld : d < lastDay recs
    · have HE := Lib.hid (show revErr recs (m + 1) d = 10 by rw [HE0.out, if_neg hd', if_pos (.inl hld)])
      have HL := Lib.hid (show lateE recs d = 10 by rw [HEL.out, if_neg hd', if_pos hld])
      clear hd hd' hld
      rw [HL.out]
      have z0 := hB23.free 0
      have z1 := hB23.free 1
      have y0 := hB23.cell 0 (v := .slice none 0 0) rfl
      have y1 := hB23.cell 1 (v := .slice none 0 0) rfl
      have hQ := hB23.store2 (.slice An names.length cn) (.slice A recs.length c)
      have r0 := hQ.cell 0 (v := .slice An names.length cn) rfl
      have r1 := hQ.cell 1 (v := .slice A recs.length c) rfl
      have HX := Lib.hid (rev_same (names := names) (u := .slice An names.length cn) hR hok hbw3 HE.out (by decide) (.slice An names.length cn) (.slice A recs.length c))
      clear hQ
      go_wp2_with fail
      exact bodyPost_ret (v := .tuple #[.agg #[.slice An names.length cn, .slice A recs.length c], .int .i64 0, .int .i64 10]) (by simp [results, Try.results71, go_sem, r0, r1]) rfl HX.out
    have HL := Lib.hid (show lateE recs d = 0 by rw [HEL.out, if_neg hd', if_neg hld])
    have HE1 := Lib.hid (show revErr recs (m + 1) d = if d < lastDay recs ∨ x.rev ≠ 0 ∨ recs.any (fun r => decide (r.rev = m + 1)) = true then 10 else enterErr recs (x.ps.map negP) by rw [HE0.out, if_neg hd'])
    have HLD := Lib.hid hld
    clear hd hd' hld HE0
    rw [HL.out]
    obtain ⟨ad, A3, c3, rfl, p0, p1, p2, p3, p4, hle3, hCx⟩ := at_Rc hC3 HX.out
    clear p0 p1 p4
    have hxl := hps.2.1
    cases hz : (x.rev != 0) with
    | true =>
      have HE := Lib.hid (show revErr recs (m + 1) d = 10 by rw [HE1.out, if_pos (.inr (.inl (by simpa using hz)))])
      have z0 := hB23.free 0
      have z1 := hB23.free 1
      have y0 := hB23.cell 0 (v := .slice none 0 0) rfl
      have y1 := hB23.cell 1 (v := .slice none 0 0) rfl
      have hQ := hB23.store2 (.slice An names.length cn) (.slice (some ad) recs.length c)
      have r0 := hQ.cell 0 (v := .slice An names.length cn) rfl
      have r1 := hQ.cell 1 (v := .slice (some ad) recs.length c) rfl
      have HX := Lib.hid (rev_same (names := names) (u := .slice An names.length cn) hR hok hbw3 HE.out (by decide) (.slice An names.length cn) (.slice (some ad) recs.length c))
      clear hQ
      go_wp2_with fail
      exact bodyPost_ret (v := .tuple #[.agg #[.slice An names.length cn, .slice (some ad) recs.length c], .int .i64 0, .int .i64 10]) (by simp [results, Try.results71, go_sem, r0, r1]) rfl HX.out
    | false =>
      have HZ := Lib.hid (show ¬ x.rev ≠ 0 by simpa using hz)
      have hwm : IntKind.i64.wrap (m : Int) = m := IntWalk.i64_in _ (by omega)
      go_wp2_with fail
      clear hz
      go_loopw [10] (fun s10 wr => ∃ k : Nat, k ≤ recs.length ∧ s10 = .int .i64 k ∧ (recs.take k).any (fun r => decide (r.rev = m + 1)) = false ∧ wr = w3) (fun s10 _ => recs.length - (intOf s10).toNat)
      case atStart => exact ⟨0, Nat.zero_le _, rfl, rfl, rfl⟩
      case round =>
        obtain ⟨k, hk, rfl, hall, rfl⟩ := hrel
        have HA := Lib.hid hall
        clear hall
        by_cases hlt : k < recs.length
        · obtain ⟨y, hy⟩ : ∃ y, recs[k]? = some y := ⟨_, List.getElem?_eq_getElem hlt⟩
          obtain ⟨ad2, A4, c4, had, q0, q1, q2, q3, q4, hle4, hCy⟩ := at_Rc hC3 hy
          obtain rfl := Option.some.inj had
          have HY := Lib.hid hy
          clear hy q0 q1 q2 q4 hle4 hCy p2 p3
          cases hyr : (y.rev == (m : Int) + 1) with
          | true =>
            have HE := Lib.hid (show revErr recs (m + 1) d = 10 by
              rw [HE1.out, if_pos]
              exact .inr (.inr (List.any_eq_true.2 ⟨y, List.mem_of_getElem? HY.out, by simpa using hyr⟩)))
            have z0 := hB23.free 0
            have z1 := hB23.free 1
            have y0 := hB23.cell 0 (v := .slice none 0 0) rfl
            have y1 := hB23.cell 1 (v := .slice none 0 0) rfl
            have hQ := hB23.store2 (.slice An names.length cn) (.slice (some ad) recs.length c)
            have r0 := hQ.cell 0 (v := .slice An names.length cn) rfl
            have r1 := hQ.cell 1 (v := .slice (some ad) recs.length c) rfl
            have HX := Lib.hid (rev_same (names := names) (u := .slice An names.length cn) hR hok hbw3 HE.out (by decide) (.slice An names.length cn) (.slice (some ad) recs.length c))
            clear hQ
            go_wp2_with fail
            exact bodyPost_ret (v := .tuple #[.agg #[.slice An names.length cn, .slice (some ad) recs.length c], .int .i64 0, .int .i64 10]) (by simp [results, Try.results71, go_sem, r0, r1]) rfl HX.out
          | false =>
            have HT := Lib.hid (any_take HY.out HA.out (by simpa using hyr))
            go_wp2_with fail
            go_roundw
            case rel => exact ⟨k + 1, by omega, by go_num, HT.out, by first | rfl | trivial⟩
            case measure => simp [intOf]; omega
        · obtain rfl : k = recs.length := by omega
          rw [List.take_length] at HA
          have HE := Lib.hid (show revErr recs (m + 1) d = enterErr recs (x.ps.map negP) by
            rw [HE1.out, if_neg]
            rintro (h9 | h9 | h9)
            · have := HLD.out; omega
            · exact HZ.out h9
            · rw [HA.out] at h9; cases h9)
          have HB3 := Lib.hid hB3
          have HB23 := Lib.hid hB23
          have HC3 := Lib.hid hC3
          have HCx := Lib.hid hCx
          clear hB3 hB23 hC3 hCx hB hB2 HC2 p3
          go_wp2_with fail
          clear p2 a0 a1
          obtain ⟨wo, rfl⟩ : ∃ wo : World, wo = wr := ⟨_, rfl⟩
          go_loopw [11, 12, 13] (fun s11 s12 _ wr => ∃ k : Nat, k ≤ x.ps.length ∧ s12 = .int .i64 k ∧ Kd.R kPst 36 wr 0 (fun b => wo.heap.size ≤ b) s11 ((x.ps.take k).map negP) ∧ Below wo.heap.size wo wr) (fun _ s12 _ _ => x.ps.length - (intOf s12).toNat)
          case atStart => exact ⟨0, Nat.zero_le _, rfl, by simpa using Kd.R_nil kPst 36 wo 0 (fun b => wo.heap.size ≤ b), Below.refl _ _⟩
          case round =>
            obtain ⟨k, hk, rfl, hRk, hbr⟩ := hrel
            have hBr := HB3.out.move (hbr.block _ HB3.out.lt)
            have hB2r := HB23.out.move (hbr.block _ HB23.out.lt)
            have hbw := below_t hbw3 hbr
            have a0 := hBr.cell 0 (v := .slice An names.length cn) rfl
            have a1 := hBr.cell 1 (v := .slice (some ad) recs.length c) rfl
            obtain ⟨ad2, A5, c5, had, q0, q1, q2, q3, q4, hle5, hCr⟩ := at_Rc (Kd.C_below HC3.out hbr) HX.out
            obtain rfl := Option.some.inj had
            clear q0 q1 q3 q4
            by_cases hlt2 : k < x.ps.length
            · obtain ⟨y, hy⟩ : ∃ y, x.ps[k]? = some y := ⟨_, List.getElem?_eq_getElem hlt2⟩
              obtain ⟨ad3, rfl, r0, r1⟩ := at_Pst hCr hy
              have hyb := (hps.2.2 y (List.mem_of_getElem? hy)).2.2
              have HTK := Lib.hid (show (x.ps.take (k + 1)).map negP = (x.ps.take k).map negP ++ [negP y] by
                rw [List.take_succ_eq_append_getElem hlt2, (List.getElem?_eq_some_iff.1 hy).2, List.map_append]; rfl)
              have hlk : ((x.ps.take k).map negP).length = k := by rw [List.length_map, List.length_take]; omega
              generalize (x.ps.take k).map negP = qs at *
              have hl3 : (qs.length + 1) * 24 ≤ 140737488355328 := by omega
              obtain ⟨Aq, cq, rfl, -, -⟩ := Kd.R_reads hRk
              have hRa := Kd.R_alloc hRk (.cells #[.string y.a, .int .i64 y.c] 36)
              have hfr : ∀ b, (wr.alloc (.cells #[.string y.a, .int .i64 y.c] 36)).heap.size ≤ b → wo.heap.size ≤ b := fun b hb9 => by have := hbr.size; simp at hb9; omega
              have hM := kPst_mkM (w := wr.alloc (.cells #[.string y.a, .int .i64 y.c] 36)) (base := 0) (ok := fun _ => False) (negP y)
              have hba := hbr.alloc hbr.size (.cells #[.string y.a, .int .i64 y.c] 36)
              have hBa := Blk.new wr #[.string y.a, .int .i64 y.c] 36
              have hbase := hRk.1
              clear hy hlk hRk
              go_upto_region 18 with fail
              generalize wr.alloc (.cells #[.string y.a, .int .i64 y.c] 36) = wa at *
              have b0 := hBa.cell 0 (v := .string y.a) rfl
              have b1 := hBa.cell 1 (v := .int .i64 y.c) rfl
              clear a0 a1 q2 r0 r1
              go_upto_region 16 with (first
                | (at_builtin; refine Kd.R_append kPst (w0 := wa) 0 rfl _ _ 31 36 (.agg #[.string ⟨#[]⟩, .int .i64 0]) 24 rfl Try.underlying31 info36 rfl (by decide) (by decide) (.slice Aq qs.length cq) qs (negP y) [.string y.a, .int .i64 (-y.c)] (fun b => wo.heap.size ≤ b) (fun _ => False) rfl rfl hM (fun _ hk => hk.elim) hfr hRa (Below.refl _ _) (Nat.zero_le _) hl3 ?_; intro v5 w5 hR5 hb5 hg5 hat5)
                | fail)
              have hbz : Below wo.heap.size wo w5 := ((Fr.of_below hba (fun _ => False)).grown hg5 (fun b hb9 => .inr (hbase b hb9))).none_below
              clear hM hRa hfr b0 b1
              go_wp2_with fail
              go_roundw
              case rel => exact ⟨k + 1, by omega, by go_num, by rw [HTK.out]; exact hR5, hbz⟩
              case measure => simp [intOf]; omega
            · obtain rfl : k = x.ps.length := by omega
              rw [List.take_length] at hRk
              obtain ⟨B9, c9, rfl, hle9, hC9⟩ := Kd.R_reads hRk
              have hRr := Kd.R_move hR (fun k hk => hbw.block k (hok k hk))
              have hpn := psok_neg hps
              have HPL9 := Lib.hid (show (x.ps.map negP).length = x.ps.length from List.length_map _)
              generalize x.ps.map negP = pn at *
              go_wp2_with fail
              refine (rput_any hRr (fun k hk => Nat.lt_of_lt_of_le (hok k hk) hbw.size) (lg2_of HG.out) pn hC9 ⟨by have := hpn.2.1; omega, fun p hp => (hpn.2.2 p hp).2.2⟩ (fun p hp => by have := nameB_size (HG.out.nm _ (memB_iff.1 (hpn.2.2 p hp).1)); omega) hle9 d (m + 1)).mono ?_
              rintro e w9 ⟨⟨A1, c1, rfl, hR9⟩, hb9⟩
              have hB29 := hB2r.move (hb9.block _ hB2r.lt)
              have HF := Lib.hid (refp_put (u := .slice An names.length cn) (no := putN recs pn) (e := enterErr recs pn) hbw hB2r.lt hok hR9 hb9 (.slice An names.length cn) (.slice A1 (putS recs d (m + 1) pn).length c1))
              have HEq := Lib.hid (rev_put (names := names) HPS.out HE.out)
              have z0 := hB29.free 0
              have z1 := hB29.free 1
              have y0 := hB29.cell 0 (v := .slice none 0 0) rfl
              have y1 := hB29.cell 1 (v := .slice none 0 0) rfl
              have hQ := hB29.store2 (.slice An names.length cn) (.slice A1 (putS recs d (m + 1) pn).length c1)
              have r0 := hQ.cell 0 (v := .slice An names.length cn) rfl
              have r1 := hQ.cell 1 (v := .slice A1 (putS recs d (m + 1) pn).length c1) rfl
              clear hQ hRr hR9 a0 a1 hRk hC9 q2
              go_wp2_with fail
              refine bodyPost_ret (v := .tuple #[.agg #[.slice An names.length cn, .slice A1 (putS recs d (m + 1) pn).length c1], .int .i64 (putN recs pn), .int .i64 (enterErr recs pn)]) (by simp [results, Try.results71, go_sem, r0, r1]) rfl ?_
              unfold RevR
              rw [HEq.out.1, HEq.out.2, HE.out]
              exact HF.out
end Go.Proofs.Ytpmopdgnnlhplaa
namespace Go.Proofs.Ytpmopdgnnlhplaa
open Go.RowKit Go.Proofs.YtpmopdgnnlhplaaW.PrintWords
/-- A store of a posting into a row of postings. -/
theorem pst_at {w : World} {base g n cap : Nat} {ok : Nat → Prop} {xs : List Pst} (hR : Kd.R kPst 36 w base ok (.slice (some ⟨g, 0, none⟩) n cap) xs) {k : Nat} (hk : k < n) (x : Pst) :
    (∃ y : Pst, w.cell? ⟨g, k * 2, none⟩ = some (.string y.a) ∧ w.cell? ⟨g, k * 2 + 1, none⟩ = some (.int .i64 y.c)) ∧ w.frozen? ⟨g, k * 2, none⟩ = false ∧ w.frozen? ⟨g, k * 2 + 1, none⟩ = false ∧
    Kd.R kPst 36 ((w.setCell ⟨g, k * 2, none⟩ (.string x.a)).setCell ⟨g, k * 2 + 1, none⟩ (.int .i64 x.c)) base ok (.slice (some ⟨g, 0, none⟩) n cap) (xs.set k x) ∧
    w.grownBy ((w.setCell ⟨g, k * 2, none⟩ (.string x.a)).setCell ⟨g, k * 2 + 1, none⟩ (.int .i64 x.c)) (some g) := by
  obtain ⟨cs, hcl, hM, hcc, hfz⟩ := Kd.R_elem hR zPst (k : Int) (Int.natCast_nonneg k) (Int.ofNat_lt.2 hk)
  have hcs := kPst_openM hM
  have hseg := Kd.R_seg hR (k : Int) (Int.natCast_nonneg k) (Int.ofNat_lt.2 hk) (c := cs) (seg := [.string x.a, .int .i64 x.c]) (j := 0) (okp := fun _ => False) hcl hcc (show 0 + 2 ≤ 2 from Nat.le_refl _) (x' := x) (by rw [hcs]; exact kPst_mkM x) (fun _ hf => hf.elim)
  rw [Int.toNat_natCast] at hcc hfz hseg
  have hs2 : kPst.sz = 2 := rfl
  rw [hs2] at hcc hfz hseg
  have c0 := hcc 0 _ (by rw [hcs]; rfl)
  have c1 := hcc 1 _ (by rw [hcs]; rfl)
  exact ⟨⟨_, c0, c1⟩, hfz 0, hfz 1, hseg.1, hseg.2⟩
theorem take_drop_set {α : Type} {l z : List α} {k : Nat} {x : α} (hx : l[k]? = some x) (hz : z.length = l.length) : (l.take k ++ z.drop k).set k x = l.take (k + 1) ++ z.drop (k + 1) := by
  have hk := (List.getElem?_eq_some_iff.1 hx).1
  rw [List.set_append_right _ _ (by rw [List.length_take]; omega), List.length_take, Nat.min_eq_left (by omega), Nat.sub_self, List.drop_eq_getElem_cons (by omega), List.set_cons_zero, List.take_succ_eq_append_getElem hk, (List.getElem?_eq_some_iff.1 hx).2, List.append_assoc]
  rfl
set_option maxRecDepth 100000 in
set_option maxHeartbeats 4000000 in
theorem lines_any (w : World) (A : Option Addr) (c : Nat) (ps : List Pst) (hC : Kd.C kPst w A ps.length ps) (hl : ps.length * 24 ≤ 281474976710656) :
    Calls Try.prog 69 #[.slice A ps.length c] w fun e w' => (∃ A1 c1, e = .returned (.slice A1 ps.length c1) ∧ Kd.R kPst 36 w' 0 (fun k => w.heap.size ≤ k) (.slice A1 ps.length c1) ps) ∧ Below w.heap.size w w' := by
  have hlm := hC.2.1
  have hl' : ((ps.length : Int)).toNat * 24 ≤ 281474976710656 := by rw [Int.toNat_natCast]; exact hl
  go_enter Try.func69, Try.ntmps69
  go_upto_region 2 with (first
    | ((with_reducible refine gate_dst (N := 7) rfl ?_); refine Kd.R_make kPst (w0 := w) 0 36 rfl (N := 7) rfl 31 _ _ rfl (ps.length : Int) rfl rfl Try.underlying31 (.agg #[(.string ⟨#[]⟩), (.int .i64 0)]) 24 info36 rfl (by decide) (by decide) zPst (ok := fun k => w.heap.size ≤ k) (okp := fun _ => False) (kPst_mkM zPst) (fun _ hk => hk.elim) (Nat.le_refl _) (Int.natCast_nonneg _) hl' (Below.refl _ _) (Nat.zero_le _) ?_; intro v1 w1 hR1 hb1 hg1 hat1)
    | fail)
  have hbw1 : Below w.heap.size w w1 := ((Fr.refl (fun _ => False) w).grown hg1 (fun k hk => by simp at hk)).none_below
  rw [Int.toNat_natCast] at hR1
  obtain ⟨A1, c1, rfl, -, -⟩ := Kd.R_reads hR1
  rw [List.length_replicate] at hR1 ⊢
  have HR1 := Lib.hid hR1
  clear hR1 hat1 hg1 hb1
  go_wp2_with fail
  go_loopw [4] (fun s4 wr => ∃ k : Nat, k ≤ ps.length ∧ s4 = .int .i64 k ∧ Kd.R kPst 36 wr 0 (fun k => w.heap.size ≤ k) (.slice A1 ps.length c1) (ps.take k ++ (List.replicate ps.length zPst).drop k) ∧ Below w.heap.size w wr) (fun s4 _ => ps.length - (intOf s4).toNat)
  case atStart => exact ⟨0, Nat.zero_le _, rfl, by simpa using HR1.out, hbw1⟩
  case round =>
    obtain ⟨k, hk, rfl, hR, hb⟩ := hrel
    by_cases hlt : k < ps.length
    · obtain ⟨x, hx⟩ : ∃ x, ps[k]? = some x := ⟨_, List.getElem?_eq_getElem hlt⟩
      obtain ⟨ad, rfl, p0, p1⟩ := at_Pst (Kd.C_below hC hb) hx
      have hlx : (ps.take k ++ (List.replicate ps.length zPst).drop k).length = ps.length := by rw [List.length_append, List.length_take, List.length_drop, List.length_replicate]; omega
      have hst := take_drop_set (z := List.replicate ps.length zPst) hx (by rw [List.length_replicate])
      generalize ps.take k ++ (List.replicate ps.length zPst).drop k = xs at *
      obtain ⟨gp, cap, hv, _, hgl, cells, hcell⟩ := Kd.R_form hR (by omega)
      rw [hlx] at hv
      simp only [Value.slice.injEq, true_and] at hv
      obtain ⟨rfl, rfl⟩ := hv
      obtain ⟨⟨y, q0, q1⟩, f0, f1, hR2, hg2⟩ := pst_at hR hlt x
      rw [hst] at hR2
      have hge := hR.1 gp (by simp [Value.ownBlock])
      have HS := Lib.hid hR2
      have HW := Lib.hid (show Below w.heap.size w ((wr.setCell ⟨gp, k * 2, none⟩ (.string x.a)).setCell ⟨gp, k * 2 + 1, none⟩ (.int .i64 x.c)) from (hb.setCell (p := ⟨gp, k * 2, none⟩) hge _).setCell (p := ⟨gp, k * 2 + 1, none⟩) hge _)
      clear hx hst hlx hR hR2 hg2 hcell
      go_wp2_with fail
      go_roundw
      case rel => exact ⟨k + 1, by omega, by go_num, HS.out, HW.out⟩
      case measure => simp [intOf]; omega
    · obtain rfl : k = ps.length := by omega
      rw [List.take_length, List.drop_of_length_le (by rw [List.length_replicate]; exact Nat.le_refl _), List.append_nil] at hR
      go_wp2_with fail
      go_ret
      exact ⟨⟨A1, c1, rfl, hR⟩, hb⟩
/-! ### The reference in memory -/
structure RefL (w : World) (ok : Nat → Prop) (A : Option Addr) (c : Nat) (A2 : Option Addr) (c2 : Nat) (s : St) : Prop where
  names : Kd.R kSt 9 w 0 ok (.slice A s.n.length c) s.n
  recs : Kd.R kRc 34 w 0 ok (.slice A2 s.r.length c2) s.r
  fin : ∀ k, ok k → k < w.heap.size
section
variable {w w' : World} {ok G : Nat → Prop} {A A2 : Option Addr} {c c2 : Nat} {s : St}
theorem RefL.fr (h : RefL w ok A c A2 c2 s) (hf : Fr G w w') (hd : ∀ k, ok k → ¬ G k) : RefL w' ok A c A2 c2 s where
  names := Kd.R_move h.names fun k hk => hf.block k (h.fin k hk) (hd k hk)
  recs := Kd.R_move h.recs fun k hk => hf.block k (h.fin k hk) (hd k hk)
  fin k hk := Nat.lt_of_lt_of_le (h.fin k hk) hf.size
theorem RefL.below (h : RefL w ok A c A2 c2 s) (hb : Below w.heap.size w w') : RefL w' ok A c A2 c2 s := h.fr (Fr.of_below hb (fun _ => False)) (fun _ _ hf => hf)
theorem RefL.C (h : RefL w ok A c A2 c2 s) : Kd.C kSt w A s.n.length s.n ∧ Kd.C kRc w A2 s.r.length s.r := by
  obtain ⟨_, _, h1, _, h2⟩ := Kd.R_reads h.names
  obtain ⟨_, _, h3, _, h4⟩ := Kd.R_reads h.recs
  simp only [Value.slice.injEq] at h1 h3
  obtain ⟨rfl, _, _⟩ := h1
  obtain ⟨rfl, _, _⟩ := h3
  exact ⟨h2, h4⟩
def okS (ok : Nat → Prop) (w w' : World) (k : Nat) : Prop := (ok k ∨ w.heap.size ≤ k) ∧ k < w'.heap.size
theorem R_okS {α : Type} {d : Kd α} {e : Nat} {v : Value} {xs : List α} (h : d.R e w' 0 (fun k => ok k ∨ w.heap.size ≤ k) v xs) : d.R e w' 0 (okS ok w w') v xs :=
  Kd.R_mono (Kd.R_bound h) fun k hk => ⟨hk.1, hk.2.2.1⟩
theorem RefL.next {s' : St} {A1 : Option Addr} {c1 : Nat} {A3 : Option Addr} {c3 : Nat} (h1 : Kd.R kSt 9 w' 0 (fun k => ok k ∨ w.heap.size ≤ k) (.slice A1 s'.n.length c1) s'.n) (h2 : Kd.R kRc 34 w' 0 (fun k => ok k ∨ w.heap.size ≤ k) (.slice A3 s'.r.length c3) s'.r) :
    RefL w' (okS ok w w') A1 c1 A3 c3 s' := ⟨R_okS h1, R_okS h2, fun _ hk => hk.2⟩
theorem RefL.old (h : RefL w ok A c A2 c2 s) (hb : Below w.heap.size w w') : Kd.R kSt 9 w' 0 (fun k => ok k ∨ w.heap.size ≤ k) (.slice A s.n.length c) s.n ∧ Kd.R kRc 34 w' 0 (fun k => ok k ∨ w.heap.size ≤ k) (.slice A2 s.r.length c2) s.r :=
  ⟨Kd.R_mono (h.below hb).names (fun _ hk => .inl hk), Kd.R_mono (h.below hb).recs (fun _ hk => .inl hk)⟩
theorem poS_n (s : St) (d : Int) (ps : List Pst) : (poS s d ps).n = s.n := by unfold poS; split <;> rfl
theorem reS_n (s : St) (n d : Int) : (reS s n d).n = s.n := by unfold reS; split <;> rfl
theorem opS_n (s : St) (a : ByteArray) : (opS s a).n = if openE s.n a = 0 then s.n ++ [a] else s.n := by unfold opS; split <;> rfl
theorem opS_r (s : St) (a : ByteArray) : (opS s a).r = s.r := by unfold opS; split <;> rfl
theorem Open_ref (h : RefL w ok A c A2 c2 s) (a : ByteArray) (hl : s.n.length ≤ 1000) :
    Calls Try.prog 68 #[.agg #[.slice A s.n.length c, .slice A2 s.r.length c2], .string a] w fun e w' => (∃ A1 c1, e = .returned (.tuple #[.agg #[.slice A1 (opS s a).n.length c1, .slice A2 (opS s a).r.length c2], .int .i64 (openE s.n a)]) ∧ RefL w' (okS ok w w') A1 c1 A2 c2 (opS s a)) ∧ Below w.heap.size w w' := by
  refine (ropen_any h.names h.fin a hl).mono ?_
  rintro e w' ⟨⟨A1, c1, rfl, hR⟩, hb⟩
  rw [← opS_n] at hR ⊢
  refine ⟨⟨A1, c1, by rw [opS_r], RefL.next hR ?_⟩, hb⟩
  rw [opS_r]
  exact (h.old hb).2
theorem Post_ref (h : RefL w ok A c A2 c2 s) {rl : List (Int × Value)} (hG : GInv s.n s.r rl) {B : Option Addr} {cb : Nat} (ps : List Pst) (hP : Kd.C kPst w B ps.length ps) (hcb : ps.length ≤ cb) (d : Int) :
    Calls Try.prog 70 #[.agg #[.slice A s.n.length c, .slice A2 s.r.length c2], .int .i64 d, .slice B ps.length cb] w fun e w' => (∃ A1 c1, e = .returned (.tuple #[.agg #[.slice A (poS s d ps).n.length c, .slice A1 (poS s d ps).r.length c1], .int .i64 (poV s d ps), .int .i64 (poE s d ps)]) ∧ RefL w' (okS ok w w') A c A1 c1 (poS s d ps)) ∧ Below w.heap.size w w' := by
  refine (rpost_any h.recs h.fin h.C.1 hG ps hP hcb d).mono ?_
  rintro e w' ⟨⟨A1, c1, rfl, hR⟩, hb⟩
  refine ⟨⟨A1, c1, by rw [poS_n], RefL.next ?_ hR⟩, hb⟩
  rw [poS_n]
  exact (h.old hb).1
theorem Reverse_ref (h : RefL w ok A c A2 c2 s) {rl : List (Int × Value)} (hG : GInv s.n s.r rl) (n d : Int) :
    Calls Try.prog 71 #[.agg #[.slice A s.n.length c, .slice A2 s.r.length c2], .int .i64 n, .int .i64 d] w fun e w' => (∃ A1 c1, e = .returned (.tuple #[.agg #[.slice A (reS s n d).n.length c, .slice A1 (reS s n d).r.length c1], .int .i64 (reV s n d), .int .i64 (revErr s.r n d)]) ∧ RefL w' (okS ok w w') A c A1 c1 (reS s n d)) ∧ Below w.heap.size w w' := by
  refine (rrev_any h.recs h.fin hG n d).mono ?_
  rintro e w' ⟨⟨A1, c1, rfl, hR⟩, hb⟩
  refine ⟨⟨A1, c1, by rw [reS_n], RefL.next ?_ hR⟩, hb⟩
  rw [reS_n]
  exact (h.old hb).1
end
def DoPost (w : World) (F : Nat → Prop) (g : Nat) (ok : Nat → Prop) (s' : St) (e : Ending) (w' : World) : Prop :=
  ∃ (A1 : Option Addr) (c1 : Nat) (A3 : Option Addr) (c3 : Nat) (F' ok' : Nat → Prop), e = .returned (.tuple #[.agg #[.slice A1 s'.n.length c1, .slice A3 s'.r.length c3], .bool true]) ∧ LedF w' F' g s' ∧ RefL w' ok' A1 c1 A3 c3 s' ∧ Upd w F w' F' ∧
    (∀ k, ok' k → ok k ∨ w.heap.size ≤ k) ∧ ∀ k, F' k → ¬ ok' k
/-- w: at the call; w2: behind the ledger's step; w3: behind the reference's; w4: at the end. -/
theorem do_fin {w w1 w2 w3 w4 : World} {F F' ok G : Nat → Prop} {g : Nat} {s' : St} {A1 A3 : Option Addr} {c1 c3 : Nat} (hb1 : Below w.heap.size w w1) (hU : Upd w1 F w2 F') (hL : LedF w2 F' g s') (hb3 : Below w2.heap.size w2 w3)
    (hRf : RefL w3 (okS ok w2 w3) A1 c1 A3 c3 s') (hG : Fr G w3 w4) (hGk : ∀ k, G k → w.heap.size ≤ k ∧ (k < w1.heap.size ∨ w3.heap.size ≤ k)) (hd : ∀ k, F k → ¬ ok k) (hfin : ∀ k, F k → k < w.heap.size) (hok : ∀ k, ok k → k < w.heap.size) :
    DoPost w F g ok s' (.returned (.tuple #[.agg #[.slice A1 s'.n.length c1, .slice A3 s'.r.length c3], .bool true])) w4 := by
  have hs1 := hb1.size
  have hs2 := hU.1.size
  have hs3 := hb3.size
  have hL3 := hL.below hb3
  have hF' : ∀ k, F' k → k < w2.heap.size := hL.fin
  refine ⟨A1, c1, A3, c3, F', okS ok w2 w3, rfl, hL3.fr hG (fun k hk hg => ?_), hRf.fr hG (fun k hk hg => ?_), ⟨?_, fun k hk => ?_, ?_⟩, fun k hk => ?_, fun k hk hk2 => ?_⟩
  · have := hF' k hk
    obtain ⟨h1, h2⟩ := hGk k hg
    rcases hU.2 k hk with h3 | h3
    · have := hfin k h3; omega
    · omega
  · obtain ⟨h1, h2⟩ := hGk k hg
    have := hk.2
    rcases hk.1 with h3 | h3
    · have := hok k h3; omega
    · omega
  · refine (((Fr.of_below hb1 F).trans hU.1 (fun x hx => .inl hx)).below hb3).trans hG (fun x hx => .inr (hGk x hx).1)
  · rcases hU.2 k hk with h3 | h3
    · exact .inl h3
    · exact .inr (by omega)
  · exact (((K36.of_below hb1).trans hU.3).below hb3).fr hG (fun k hk => .inl (hGk k hk).1)
  · rcases hk.1 with h3 | h3
    · exact .inl h3
    · exact .inr (by omega)
  · rcases hk2.1 with h3 | h3
    · rcases hU.2 k hk with h4 | h4
      · exact hd k h4 h3
      · have := hok k h3; omega
    · have := hF' k hk; omega
set_option maxRecDepth 100000 in
set_option maxHeartbeats 4000000 in
theorem do_open {w w0 : World} {F ok : Nat → Prop} {g : Nat} {s : St} {A A2 Ap : Option Addr} {c c2 cp : Nat} (hL : LedF w F g s) (hRf : RefL w ok A c A2 c2 s) (hd : ∀ k, F k → ¬ ok k) (hl : s.n.length ≤ 1000)
    (x : Ac) (hg : GoodA x) (hb0 : Below w0.heap.size w0 w) (hF0 : ∀ k, F k → w0.heap.size ≤ k) (hP : Kd.C kPst w0 Ap x.ps.length x.ps) (hcp : x.ps.length ≤ cp) (hpl : x.ps.length * 24 ≤ 281474976710656) (hq : x.kind % 8 < 2) :
    Calls Try.prog 32 #[.pointer (some ⟨g, 0, none⟩), .agg #[.slice A s.n.length c, .slice A2 s.r.length c2], .agg #[.int .u8 x.kind, .string x.name, .int .i64 x.day, .int .i64 x.no, .slice Ap x.ps.length cp]] w (DoPost w F g ok (opS s x.name)) := by
  have hfin := hL.fin
  have hok := hRf.fin
  obtain ⟨g0, g1, g2⟩ := hg
  have hm8 : x.kind.tmod 8 = x.kind % 8 := Int.tmod_eq_emod_of_nonneg g0
  have hb1 := (((Below.refl w.heap.size w).alloc (Nat.le_refl _) (.cells #[.slice A s.n.length c, .slice A2 s.r.length c2] 59)).alloc (by simp) (.cells #[.int .u8 x.kind, .string x.name, .int .i64 x.day, .int .i64 x.no, .slice Ap x.ps.length cp] 63)).alloc (by simp; omega) (.cells #[.slice none 0 0, .slice none 0 0] 59)
  have hBL := ((Blk.new w #[.slice A s.n.length c, .slice A2 s.r.length c2] 59).alloc (.cells #[.int .u8 x.kind, .string x.name, .int .i64 x.day, .int .i64 x.no, .slice Ap x.ps.length cp] 63)).alloc (.cells #[.slice none 0 0, .slice none 0 0] 59)
  have hBA := (Blk.new1 w (.cells #[.slice A s.n.length c, .slice A2 s.r.length c2] 59) #[.int .u8 x.kind, .string x.name, .int .i64 x.day, .int .i64 x.no, .slice Ap x.ps.length cp] 63).alloc (.cells #[.slice none 0 0, .slice none 0 0] 59)
  have hBZ := Blk.new ((w.alloc (.cells #[.slice A s.n.length c, .slice A2 s.r.length c2] 59)).alloc (.cells #[.int .u8 x.kind, .string x.name, .int .i64 x.day, .int .i64 x.no, .slice Ap x.ps.length cp] 63)) #[.slice none 0 0, .slice none 0 0] 59
  have hs1 : (((w.alloc (.cells #[.slice A s.n.length c, .slice A2 s.r.length c2] 59)).alloc (.cells #[.int .u8 x.kind, .string x.name, .int .i64 x.day, .int .i64 x.no, .slice Ap x.ps.length cp] 63)).alloc (.cells #[.slice none 0 0, .slice none 0 0] 59)).heap.size = w.heap.size + 3 := by simp
  have hz2 : ((w.alloc (.cells #[.slice A s.n.length c, .slice A2 s.r.length c2] 59)).alloc (.cells #[.int .u8 x.kind, .string x.name, .int .i64 x.day, .int .i64 x.no, .slice Ap x.ps.length cp] 63)).heap.size = w.heap.size + 2 := by simp
  rw [hz2] at hBZ
  clear hz2
  go_enter Try.func32, Try.ntmps32
  go_upto_region 1 with fail
  generalize ((w.alloc (.cells #[.slice A s.n.length c, .slice A2 s.r.length c2] 59)).alloc (.cells #[.int .u8 x.kind, .string x.name, .int .i64 x.day, .int .i64 x.no, .slice Ap x.ps.length cp] 63)).alloc (.cells #[.slice none 0 0, .slice none 0 0] 59) = w1 at *
  have hL1 := hL.below hb1
  have hRf1 := hRf.below hb1
  have b0 := hBA.cell 0 (v := .int .u8 x.kind) rfl
  have b1 := hBA.cell 1 (v := .string x.name) rfl
  have b2 := hBA.cell 2 (v := .int .i64 x.day) rfl
  have b3 := hBA.cell 3 (v := .int .i64 x.no) rfl
  have b4 := hBA.cell 4 (v := .slice Ap x.ps.length cp) rfl
  have hlm := hP.2.1
  have hk0 : 0 ≤ x.kind % 8 := by omega
  have hk7 : x.kind % 8 < 8 := by omega
  generalize x.kind % 8 = q at *
  have hq2 : q = 0 ∨ q = 1 := by omega
  rcases hq2 with rfl | rfl
  all_goals
    go_wp2_with fail
    refine (Open_led hL1 x.name).mono ?_
    rintro e w2 ⟨rfl, F2, hL2, hU⟩
    have hnF : ∀ k, w.heap.size ≤ k → ¬ F k := fun k hk hf => by have := hfin k hf; omega
    have hBL2 := hBL.fr hU.1 (hnF _ (Nat.le_refl _))
    have hBA2 := hBA.fr hU.1 (hnF _ (by omega))
    have hBZ2 := hBZ.fr hU.1 (hnF _ (by omega))
    have hRf2 := hRf1.fr hU.1 (fun k h1 h2 => hd k h2 h1)
    clear b0 b1 b2 b3 b4
    have a0 := hBL2.cell 0 (v := .slice A s.n.length c) rfl
    have a1 := hBL2.cell 1 (v := .slice A2 s.r.length c2) rfl
    have b1 := hBA2.cell 1 (v := .string x.name) rfl
    go_wp2_with fail
    refine (Open_ref hRf2 x.name hl).mono ?_
    rintro e w3 ⟨⟨A1, c1, rfl, hRf3⟩, hb3⟩
    have hBZ3 := (hBZ2.move (hb3.block _ hBZ2.lt)).alloc (.cells #[.slice A1 (opS s x.name).n.length c1, .slice A2 (opS s x.name).r.length c2] 59)
    have hG : Fr (fun k => k = w.heap.size + 2) w3 (((w3.alloc (.cells #[.slice A1 (opS s x.name).n.length c1, .slice A2 (opS s x.name).r.length c2] 59)).setCell ⟨w.heap.size + 2, 0, none⟩ (.slice A1 (opS s x.name).n.length c1)).setCell ⟨w.heap.size + 2, 1, none⟩ (.slice A2 (opS s x.name).r.length c2)) :=
      (((Fr.refl (fun k => k = w.heap.size + 2) w3).alloc _).setCell (p := ⟨w.heap.size + 2, 0, none⟩) (.inl rfl) _).setCell (p := ⟨w.heap.size + 2, 1, none⟩) (.inl rfl) _
    have HF := Lib.hid (do_fin hb1 hU hL2 hb3 hRf3 hG (fun k hk => ⟨by omega, .inl (by omega)⟩) hd hfin hok)
    have hee : (openE s.n x.name == openE s.n x.name) = true := by simp
    generalize openE s.n x.name = eo at *
    have z0 := hBZ3.free 0
    have z1 := hBZ3.free 1
    have y0 := hBZ3.cell 0 (v := .slice none 0 0) rfl
    have y1 := hBZ3.cell 1 (v := .slice none 0 0) rfl
    have hQ := hBZ3.store2 (.slice A1 (opS s x.name).n.length c1) (.slice A2 (opS s x.name).r.length c2)
    have r0 := hQ.cell 0 (v := .slice A1 (opS s x.name).n.length c1) rfl
    have r1 := hQ.cell 1 (v := .slice A2 (opS s x.name).r.length c2) rfl
    clear hQ a0 a1 b1
    generalize opS s x.name = s' at *
    go_wp2_with fail
    exact bodyPost_ret (v := .tuple #[.agg #[.slice A1 s'.n.length c1, .slice A2 s'.r.length c2], .bool true]) (by simp [results, Try.results32, go_sem, r0, r1]) rfl HF.out
set_option maxRecDepth 100000 in
set_option maxHeartbeats 4000000 in
theorem do_rev {w w0 : World} {F ok : Nat → Prop} {g : Nat} {s : St} {A A2 Ap : Option Addr} {c c2 cp : Nat} (hL : LedF w F g s) (hRf : RefL w ok A c A2 c2 s) (hd : ∀ k, F k → ¬ ok k) (hl : s.n.length ≤ 1000)
    (x : Ac) (hg : GoodA x) (hb0 : Below w0.heap.size w0 w) (hF0 : ∀ k, F k → w0.heap.size ≤ k) (hP : Kd.C kPst w0 Ap x.ps.length x.ps) (hcp : x.ps.length ≤ cp) (hpl : x.ps.length * 24 ≤ 281474976710656) (hq : 6 ≤ x.kind % 8) :
    Calls Try.prog 32 #[.pointer (some ⟨g, 0, none⟩), .agg #[.slice A s.n.length c, .slice A2 s.r.length c2], .agg #[.int .u8 x.kind, .string x.name, .int .i64 x.day, .int .i64 x.no, .slice Ap x.ps.length cp]] w (DoPost w F g ok (reS s x.no x.day)) := by
  have hfin := hL.fin
  have hok := hRf.fin
  obtain ⟨g0, g1, g2⟩ := hg
  have hm8 : x.kind.tmod 8 = x.kind % 8 := Int.tmod_eq_emod_of_nonneg g0
  have hb1 := (((Below.refl w.heap.size w).alloc (Nat.le_refl _) (.cells #[.slice A s.n.length c, .slice A2 s.r.length c2] 59)).alloc (by simp) (.cells #[.int .u8 x.kind, .string x.name, .int .i64 x.day, .int .i64 x.no, .slice Ap x.ps.length cp] 63)).alloc (by simp; omega) (.cells #[.slice none 0 0, .slice none 0 0] 59)
  have hBL := ((Blk.new w #[.slice A s.n.length c, .slice A2 s.r.length c2] 59).alloc (.cells #[.int .u8 x.kind, .string x.name, .int .i64 x.day, .int .i64 x.no, .slice Ap x.ps.length cp] 63)).alloc (.cells #[.slice none 0 0, .slice none 0 0] 59)
  have hBA := (Blk.new1 w (.cells #[.slice A s.n.length c, .slice A2 s.r.length c2] 59) #[.int .u8 x.kind, .string x.name, .int .i64 x.day, .int .i64 x.no, .slice Ap x.ps.length cp] 63).alloc (.cells #[.slice none 0 0, .slice none 0 0] 59)
  have hBZ := Blk.new ((w.alloc (.cells #[.slice A s.n.length c, .slice A2 s.r.length c2] 59)).alloc (.cells #[.int .u8 x.kind, .string x.name, .int .i64 x.day, .int .i64 x.no, .slice Ap x.ps.length cp] 63)) #[.slice none 0 0, .slice none 0 0] 59
  have hs1 : (((w.alloc (.cells #[.slice A s.n.length c, .slice A2 s.r.length c2] 59)).alloc (.cells #[.int .u8 x.kind, .string x.name, .int .i64 x.day, .int .i64 x.no, .slice Ap x.ps.length cp] 63)).alloc (.cells #[.slice none 0 0, .slice none 0 0] 59)).heap.size = w.heap.size + 3 := by simp
  have hz2 : ((w.alloc (.cells #[.slice A s.n.length c, .slice A2 s.r.length c2] 59)).alloc (.cells #[.int .u8 x.kind, .string x.name, .int .i64 x.day, .int .i64 x.no, .slice Ap x.ps.length cp] 63)).heap.size = w.heap.size + 2 := by simp
  rw [hz2] at hBZ
  clear hz2
  go_enter Try.func32, Try.ntmps32
  go_upto_region 1 with fail
  generalize ((w.alloc (.cells #[.slice A s.n.length c, .slice A2 s.r.length c2] 59)).alloc (.cells #[.int .u8 x.kind, .string x.name, .int .i64 x.day, .int .i64 x.no, .slice Ap x.ps.length cp] 63)).alloc (.cells #[.slice none 0 0, .slice none 0 0] 59) = w1 at *
  have hL1 := hL.below hb1
  have hRf1 := hRf.below hb1
  have b0 := hBA.cell 0 (v := .int .u8 x.kind) rfl
  have b1 := hBA.cell 1 (v := .string x.name) rfl
  have b2 := hBA.cell 2 (v := .int .i64 x.day) rfl
  have b3 := hBA.cell 3 (v := .int .i64 x.no) rfl
  have b4 := hBA.cell 4 (v := .slice Ap x.ps.length cp) rfl
  have hlm := hP.2.1
  have hk0 : 0 ≤ x.kind % 8 := by omega
  have hk7 : x.kind % 8 < 8 := by omega
  generalize x.kind % 8 = q at *
  have hq2 : q = 6 ∨ q = 7 := by omega
  obtain ⟨rl, hGI⟩ := hL.inv
  rcases hq2 with rfl | rfl
  all_goals
    go_wp2_with fail
    refine (Reverse_led hL1 x.no x.day).mono ?_
    rintro e w2 ⟨rfl, F2, hL2, hU⟩
    have hnF : ∀ k, w.heap.size ≤ k → ¬ F k := fun k hk hf => by have := hfin k hf; omega
    have hBL2 := hBL.fr hU.1 (hnF _ (Nat.le_refl _))
    have hBA2 := hBA.fr hU.1 (hnF _ (by omega))
    have hBZ2 := hBZ.fr hU.1 (hnF _ (by omega))
    have hRf2 := hRf1.fr hU.1 (fun k h1 h2 => hd k h2 h1)
    clear b0 b1 b2 b3 b4
    have a0 := hBL2.cell 0 (v := .slice A s.n.length c) rfl
    have a1 := hBL2.cell 1 (v := .slice A2 s.r.length c2) rfl
    have b2 := hBA2.cell 2 (v := .int .i64 x.day) rfl
    have b3 := hBA2.cell 3 (v := .int .i64 x.no) rfl
    go_wp2_with fail
    refine (Reverse_ref hRf2 hGI x.no x.day).mono ?_
    rintro e w3 ⟨⟨A1, c1, rfl, hRf3⟩, hb3⟩
    have hBZ3 := (hBZ2.move (hb3.block _ hBZ2.lt)).alloc (.cells #[.slice A (reS s x.no x.day).n.length c, .slice A1 (reS s x.no x.day).r.length c1] 59)
    have hG : Fr (fun k => k = w.heap.size + 2) w3 (((w3.alloc (.cells #[.slice A (reS s x.no x.day).n.length c, .slice A1 (reS s x.no x.day).r.length c1] 59)).setCell ⟨w.heap.size + 2, 0, none⟩ (.slice A (reS s x.no x.day).n.length c)).setCell ⟨w.heap.size + 2, 1, none⟩ (.slice A1 (reS s x.no x.day).r.length c1)) :=
      (((Fr.refl (fun k => k = w.heap.size + 2) w3).alloc _).setCell (p := ⟨w.heap.size + 2, 0, none⟩) (.inl rfl) _).setCell (p := ⟨w.heap.size + 2, 1, none⟩) (.inl rfl) _
    have HF := Lib.hid (do_fin hb1 hU hL2 hb3 hRf3 hG (fun k hk => ⟨by omega, .inl (by omega)⟩) hd hfin hok)
    have hee : (revErr s.r x.no x.day == revErr s.r x.no x.day) = true := by simp
    have hvv : (reV s x.no x.day == reV s x.no x.day) = true := by simp
    generalize revErr s.r x.no x.day = eo at *
    generalize reV s x.no x.day = vo at *
    have z0 := hBZ3.free 0
    have z1 := hBZ3.free 1
    have y0 := hBZ3.cell 0 (v := .slice none 0 0) rfl
    have y1 := hBZ3.cell 1 (v := .slice none 0 0) rfl
    have hQ := hBZ3.store2 (.slice A (reS s x.no x.day).n.length c) (.slice A1 (reS s x.no x.day).r.length c1)
    have r0 := hQ.cell 0 (v := .slice A (reS s x.no x.day).n.length c) rfl
    have r1 := hQ.cell 1 (v := .slice A1 (reS s x.no x.day).r.length c1) rfl
    clear hQ a0 a1 b2 b3
    generalize reS s x.no x.day = s' at *
    go_wp2_with fail
    exact bodyPost_ret (v := .tuple #[.agg #[.slice A s'.n.length c, .slice A1 s'.r.length c1], .bool true]) (by simp [results, Try.results32, go_sem, r0, r1]) rfl HF.out
set_option maxRecDepth 100000 in
set_option maxHeartbeats 8000000 in
theorem do_post {w w0 : World} {F ok : Nat → Prop} {g : Nat} {s : St} {A A2 Ap : Option Addr} {c c2 cp : Nat} (hL : LedF w F g s) (hRf : RefL w ok A c A2 c2 s) (hd : ∀ k, F k → ¬ ok k) (hl : s.n.length ≤ 1000)
    (x : Ac) (hg : GoodA x) (hb0 : Below w0.heap.size w0 w) (hF0 : ∀ k, F k → w0.heap.size ≤ k) (hP : Kd.C kPst w0 Ap x.ps.length x.ps) (hcp : x.ps.length ≤ cp) (hpl : x.ps.length * 24 ≤ 281474976710656) (hq : 2 ≤ x.kind % 8) (hq' : x.kind % 8 < 6) :
    Calls Try.prog 32 #[.pointer (some ⟨g, 0, none⟩), .agg #[.slice A s.n.length c, .slice A2 s.r.length c2], .agg #[.int .u8 x.kind, .string x.name, .int .i64 x.day, .int .i64 x.no, .slice Ap x.ps.length cp]] w (DoPost w F g ok (poS s x.day x.ps)) := by
  have hfin := hL.fin
  have hok := hRf.fin
  obtain ⟨g0, g1, g2⟩ := hg
  have hm8 : x.kind.tmod 8 = x.kind % 8 := Int.tmod_eq_emod_of_nonneg g0
  have hb1 := (((Below.refl w.heap.size w).alloc (Nat.le_refl _) (.cells #[.slice A s.n.length c, .slice A2 s.r.length c2] 59)).alloc (by simp) (.cells #[.int .u8 x.kind, .string x.name, .int .i64 x.day, .int .i64 x.no, .slice Ap x.ps.length cp] 63)).alloc (by simp; omega) (.cells #[.slice none 0 0, .slice none 0 0] 59)
  have hBL := ((Blk.new w #[.slice A s.n.length c, .slice A2 s.r.length c2] 59).alloc (.cells #[.int .u8 x.kind, .string x.name, .int .i64 x.day, .int .i64 x.no, .slice Ap x.ps.length cp] 63)).alloc (.cells #[.slice none 0 0, .slice none 0 0] 59)
  have hBA := (Blk.new1 w (.cells #[.slice A s.n.length c, .slice A2 s.r.length c2] 59) #[.int .u8 x.kind, .string x.name, .int .i64 x.day, .int .i64 x.no, .slice Ap x.ps.length cp] 63).alloc (.cells #[.slice none 0 0, .slice none 0 0] 59)
  have hBZ := Blk.new ((w.alloc (.cells #[.slice A s.n.length c, .slice A2 s.r.length c2] 59)).alloc (.cells #[.int .u8 x.kind, .string x.name, .int .i64 x.day, .int .i64 x.no, .slice Ap x.ps.length cp] 63)) #[.slice none 0 0, .slice none 0 0] 59
  have hs1 : (((w.alloc (.cells #[.slice A s.n.length c, .slice A2 s.r.length c2] 59)).alloc (.cells #[.int .u8 x.kind, .string x.name, .int .i64 x.day, .int .i64 x.no, .slice Ap x.ps.length cp] 63)).alloc (.cells #[.slice none 0 0, .slice none 0 0] 59)).heap.size = w.heap.size + 3 := by simp
  have hz2 : ((w.alloc (.cells #[.slice A s.n.length c, .slice A2 s.r.length c2] 59)).alloc (.cells #[.int .u8 x.kind, .string x.name, .int .i64 x.day, .int .i64 x.no, .slice Ap x.ps.length cp] 63)).heap.size = w.heap.size + 2 := by simp
  rw [hz2] at hBZ
  clear hz2
  go_enter Try.func32, Try.ntmps32
  go_upto_region 1 with fail
  generalize ((w.alloc (.cells #[.slice A s.n.length c, .slice A2 s.r.length c2] 59)).alloc (.cells #[.int .u8 x.kind, .string x.name, .int .i64 x.day, .int .i64 x.no, .slice Ap x.ps.length cp] 63)).alloc (.cells #[.slice none 0 0, .slice none 0 0] 59) = w1 at *
  have hL1 := hL.below hb1
  have hRf1 := hRf.below hb1
  have b0 := hBA.cell 0 (v := .int .u8 x.kind) rfl
  have b1 := hBA.cell 1 (v := .string x.name) rfl
  have b2 := hBA.cell 2 (v := .int .i64 x.day) rfl
  have b3 := hBA.cell 3 (v := .int .i64 x.no) rfl
  have b4 := hBA.cell 4 (v := .slice Ap x.ps.length cp) rfl
  have hlm := hP.2.1
  have hk0 : 0 ≤ x.kind % 8 := by omega
  have hk7 : x.kind % 8 < 8 := by omega
  generalize x.kind % 8 = q at *
  have hq2 : q = 2 ∨ q = 3 ∨ q = 4 ∨ q = 5 := by omega
  obtain ⟨rl, hGI⟩ := hL.inv
  have hP1 := Kd.C_below hP (below_t hb0 hb1)
  rcases hq2 with rfl | rfl | rfl | rfl
  all_goals
    go_wp2_with fail
    refine (lines_any w1 Ap cp x.ps hP1 hpl).mono ?_
    rintro e wl ⟨⟨Al, cl, rfl, hRl⟩, hbl⟩
    have hb1l := below_t hb1 hbl
    have hsl := hbl.size
    have hBLl := hBL.move (hbl.block _ hBL.lt)
    have hBAl := hBA.move (hbl.block _ hBA.lt)
    have hBZl := hBZ.move (hbl.block _ hBZ.lt)
    have hLl := hL1.below hbl
    have hRfl := hRf1.below hbl
    have hRb := Kd.R_bound hRl
    clear b0 b1 b2 b3 b4
    have b2 := hBAl.cell 2 (v := .int .i64 x.day) rfl
    have hCl : ∀ W, Fr F wl W → Kd.C kPst W Al x.ps.length x.ps := fun W hW => by
      have hR9 := Kd.R_move (w1 := W) hRb (fun k hk => hW.block k hk.2.2.1 (fun hf => by have := hfin k hf; have := hk.1; omega))
      obtain ⟨A', c', he, _, hC⟩ := Kd.R_reads hR9
      simp only [Value.slice.injEq] at he
      obtain ⟨rfl, _, _⟩ := he
      exact hC
    go_wp2_with fail
    refine (Post_led hLl x.day x.ps Al cl hCl g2).mono ?_
    rintro e w2 ⟨rfl, F2, hL2, hU⟩
    have hnF : ∀ k, w.heap.size ≤ k → ¬ F k := fun k hk hf => by have := hfin k hf; omega
    have hBL2 := hBLl.fr hU.1 (hnF _ (Nat.le_refl _))
    have hBA2 := hBAl.fr hU.1 (hnF _ (by omega))
    have hBZ2 := hBZl.fr hU.1 (hnF _ (by omega))
    have hRf2 := hRfl.fr hU.1 (fun k h1 h2 => hd k h2 h1)
    have hRl2 : Kd.R kPst 36 w2 0 (fun k => w1.heap.size ≤ k ∧ k < wl.heap.size) (.slice Al x.ps.length cl) x.ps :=
      Kd.R_mono (Kd.R_move hRb (fun k hk => hU.1.block k hk.2.2.1 (hnF k (by have := hk.1; omega)))) (fun k hk => ⟨hk.1, hk.2.2.1⟩)
    obtain ⟨hbu, hFu⟩ := upd_below (below_t hb0 hb1l) hF0 hU
    have hP2 := Kd.C_below hP hbu
    have hs2 := hU.1.size
    clear b2 hCl hRb hRl
    have a0 := hBL2.cell 0 (v := .slice A s.n.length c) rfl
    have a1 := hBL2.cell 1 (v := .slice A2 s.r.length c2) rfl
    have b2 := hBA2.cell 2 (v := .int .i64 x.day) rfl
    have b4 := hBA2.cell 4 (v := .slice Ap x.ps.length cp) rfl
    go_wp2_with fail
    refine (Post_ref hRf2 hGI x.ps hP2 hcp x.day).mono ?_
    rintro e w3 ⟨⟨A1, c1, rfl, hRf3⟩, hb3⟩
    have hs3 := hb3.size
    have hBN := Blk.new w3 #[.slice A (poS s x.day x.ps).n.length c, .slice A1 (poS s x.day x.ps).r.length c1] 59
    have hb4 := (Below.refl w3.heap.size w3).alloc (Nat.le_refl _) (.cells #[.slice A (poS s x.day x.ps).n.length c, .slice A1 (poS s x.day x.ps).r.length c1] 59)
    have hBA4 := (hBA2.move (hb3.block _ hBA2.lt)).alloc (.cells #[.slice A (poS s x.day x.ps).n.length c, .slice A1 (poS s x.day x.ps).r.length c1] 59)
    have hBZ4 := (hBZ2.move (hb3.block _ hBZ2.lt)).alloc (.cells #[.slice A (poS s x.day x.ps).n.length c, .slice A1 (poS s x.day x.ps).r.length c1] 59)
    have hRl4 := Kd.R_alloc (Kd.R_below hRl2 hb3) (.cells #[.slice A (poS s x.day x.ps).n.length c, .slice A1 (poS s x.day x.ps).r.length c1] 59)
    have hP4 := Kd.C_below (Kd.C_below hP2 hb3) hb4
    have hUl : Upd wl F w2 F2 := hU
    have HFI := Lib.hid (show ∀ w4 : World, Fr (fun k => k = w.heap.size + 2 ∨ (w1.heap.size ≤ k ∧ k < wl.heap.size)) w3 w4 → DoPost w F g ok (poS s x.day x.ps) (.returned (.tuple #[.agg #[.slice A (poS s x.day x.ps).n.length c, .slice A1 (poS s x.day x.ps).r.length c1], .bool true])) w4 from fun w4 hG => do_fin hb1l hU hL2 hb3 hRf3 hG (fun k hk => ⟨by omega, .inl (by omega)⟩) hd hfin hok)
    have hee : (poE s x.day x.ps == poE s x.day x.ps) = true := by simp
    have hvv : (poV s x.day x.ps == poV s x.day x.ps) = true := by simp
    generalize poE s x.day x.ps = eo at *
    generalize poV s x.day x.ps = vo at *
    clear a0 a1 b2 b4 hRf3
    have HL2 := Lib.hid hL2
    clear hL2 hU hUl
    generalize poS s x.day x.ps = s' at *
    have b4 := hBA4.cell 4 (v := .slice Ap x.ps.length cp) rfl
    go_upto_region 14 with fail
    generalize w3.alloc (.cells #[.slice A s'.n.length c, .slice A1 s'.r.length c1] 59) = w4 at *
    obtain ⟨_, _, hql, _, hCl4⟩ := Kd.R_reads hRl4
    simp only [Value.slice.injEq] at hql
    obtain ⟨rfl, _, rfl⟩ := hql
    go_wp2_with fail
    refine (postings_any w4 Al Ap cl cp x.ps hCl4 hP4).mono ?_
    rintro e w5 ⟨rfl, hb5⟩
    have hBN5 := hBN.move (hb5.block _ hBN.lt)
    have hBZ5 := hBZ4.move (hb5.block _ hBZ4.lt)
    have hRl5 := Kd.R_below hRl4 hb5
    have hG5 : Fr (fun k => k = w.heap.size + 2 ∨ (w1.heap.size ≤ k ∧ k < wl.heap.size)) w3 w5 := ((Fr.of_below hb4 _).below hb5)
    have hs5 := hG5.size
    have HBN := Lib.hid hBN5
    have HBZ := Lib.hid hBZ5
    have HRl := Lib.hid hRl5
    clear hBN hBZ4 hRl4 hRl2 hBL hBA hBZ hBLl hBAl hBZl hBL2 hBA2 hBZ2 hBA4 hBN5 hBZ5 hRl5 hCl4 b4 hP hP1 hP2 hP4 hL hL1 hLl hRf hRf1 hRfl hRf2
    go_wp2_with fail
    go_loopw [18] (fun s18 wr => ∃ (k : Nat) (qs : List Pst), k ≤ x.ps.length ∧ qs.length = x.ps.length ∧ s18 = .int .i64 k ∧ Kd.R kPst 36 wr 0 (fun k => w1.heap.size ≤ k ∧ k < wl.heap.size) (.slice Al x.ps.length cl) qs ∧ Fr (fun k => w1.heap.size ≤ k ∧ k < wl.heap.size) w5 wr) (fun s18 _ => x.ps.length - (intOf s18).toNat)
    case atStart => exact ⟨0, x.ps, Nat.zero_le _, rfl, rfl, HRl.out, Fr.refl _ _⟩
    case round =>
      obtain ⟨k, qs, hk, hqs, rfl, hRk, hFk⟩ := hrel
      have HQS := Lib.hid hqs
      clear hqs
      by_cases hlt : k < x.ps.length
      · obtain ⟨gp, cap, hv, _, hgl, cells, hcell⟩ := Kd.R_form hRk (by rw [HQS.out]; omega)
        rw [HQS.out] at hv
        simp only [Value.slice.injEq, true_and] at hv
        obtain ⟨rfl, rfl⟩ := hv
        obtain ⟨⟨y, q0, q1⟩, f0, f1, hR2, hg2⟩ := pst_at hRk hlt ⟨⟨#[63]⟩, 9⟩
        have hge := hRk.1 gp (by simp [Value.ownBlock])
        have HS := Lib.hid hR2
        have HW := Lib.hid (show Fr (fun k => w1.heap.size ≤ k ∧ k < wl.heap.size) w5 ((wr.setCell ⟨gp, k * 2, none⟩ (.string ⟨#[63]⟩)).setCell ⟨gp, k * 2 + 1, none⟩ (.int .i64 9)) from (hFk.setCell (p := ⟨gp, k * 2, none⟩) (.inl hge) _).setCell (p := ⟨gp, k * 2 + 1, none⟩) (.inl hge) _)
        clear hRk hR2 hg2 hcell hFk
        go_wp2_with fail
        go_roundw
        case rel => exact ⟨k + 1, qs.set k ⟨⟨#[63]⟩, 9⟩, by omega, by rw [List.length_set]; exact HQS.out, by go_num, HS.out, HW.out⟩
        case measure => simp [intOf]; omega
      · have hBNr := HBN.out.fr hFk (fun h => by omega)
        have hBZr := HBZ.out.fr hFk (fun h => by omega)
        have a0 := hBNr.cell 0 (v := .slice A s'.n.length c) rfl
        have a1 := hBNr.cell 1 (v := .slice A1 s'.r.length c1) rfl
        have z0 := hBZr.free 0
        have z1 := hBZr.free 1
        have y0 := hBZr.cell 0 (v := .slice none 0 0) rfl
        have y1 := hBZr.cell 1 (v := .slice none 0 0) rfl
        have hQ := hBZr.store2 (.slice A s'.n.length c) (.slice A1 s'.r.length c1)
        have r0 := hQ.cell 0 (v := .slice A s'.n.length c) rfl
        have r1 := hQ.cell 1 (v := .slice A1 s'.r.length c1) rfl
        have hG9 := ((hG5.trans hFk (fun x hx => .inl (.inr hx))).setCell (p := ⟨w.heap.size + 2, 0, none⟩) (.inl (.inl rfl)) (.slice A s'.n.length c)).setCell (p := ⟨w.heap.size + 2, 1, none⟩) (.inl (.inl rfl)) (.slice A1 s'.r.length c1)
        have HF := Lib.hid (HFI.out _ hG9)
        clear hG9 hQ hRk hFk
        go_wp2_with fail
        exact bodyPost_ret (v := .tuple #[.agg #[.slice A s'.n.length c, .slice A1 s'.r.length c1], .bool true]) (by simp [results, Try.results32, go_sem, r0, r1]) rfl HF.out
theorem do_any {w w0 : World} {F ok : Nat → Prop} {g : Nat} {s : St} {A A2 Ap : Option Addr} {c c2 cp : Nat} (hL : LedF w F g s) (hRf : RefL w ok A c A2 c2 s) (hd : ∀ k, F k → ¬ ok k) (hl : s.n.length ≤ 1000)
    (x : Ac) (hg : GoodA x) (hb0 : Below w0.heap.size w0 w) (hF0 : ∀ k, F k → w0.heap.size ≤ k) (hP : Kd.C kPst w0 Ap x.ps.length x.ps) (hcp : x.ps.length ≤ cp) (hpl : x.ps.length * 24 ≤ 281474976710656) :
    Calls Try.prog 32 #[.pointer (some ⟨g, 0, none⟩), .agg #[.slice A s.n.length c, .slice A2 s.r.length c2], .agg #[.int .u8 x.kind, .string x.name, .int .i64 x.day, .int .i64 x.no, .slice Ap x.ps.length cp]] w (DoPost w F g ok (stS s x)) := by
  have h0 := hg.1
  by_cases h1 : x.kind % 8 < 2
  · have e : stS s x = opS s x.name := by unfold stS; rw [if_pos h1]
    rw [e]
    exact do_open hL hRf hd hl x hg hb0 hF0 hP hcp hpl h1
  · by_cases h2 : x.kind % 8 < 6
    · have e : stS s x = poS s x.day x.ps := by unfold stS; rw [if_neg h1, if_pos h2]
      rw [e]
      exact do_post hL hRf hd hl x hg hb0 hF0 hP hcp hpl (by omega) h2
    · have e : stS s x = reS s x.no x.day := by unfold stS; rw [if_neg h1, if_neg h2]
      rw [e]
      exact do_rev hL hRf hd hl x hg hb0 hF0 hP hcp hpl (by omega)
end Go.Proofs.Ytpmopdgnnlhplaa
namespace Go.Proofs.Ytpmopdgnnlhplaa
open Go.RowKit Go.Proofs.YtpmopdgnnlhplaaW.PrintWords
theorem sum_at {w : World} {base gr n c : Nat} {ok : Nat → Prop} {xs : List Rc} (hS : Kd.S kRc 34 w base ok (.slice (some ⟨gr, 0, none⟩) n c) xs) {k : Nat} (hk : k < n) :
    ∃ (x : Rc) (A2 : Option Addr) (c2 : Nat), xs[k]? = some x ∧ x.ps.length ≤ 9223372036854775807 ∧ w.cell? ⟨gr, k * 5 + 2, none⟩ = some (.slice A2 x.ps.length c2) ∧ w.cell? ⟨gr, k * 5 + 4, none⟩ = some (.int .u64 x.sum) ∧ w.frozen? ⟨gr, k * 5 + 4, none⟩ = false ∧
      ∀ v : Int, Kd.S kRc 34 (w.setCell ⟨gr, k * 5 + 4, none⟩ (.int .u64 v)) base ok (.slice (some ⟨gr, 0, none⟩) n c) (xs.set k { x with sum := v }) := by
  have hn := (Kd.S_reads' hS).1
  obtain ⟨oki, cs, hcl, hM, hcc, hfz, hoki, hH⟩ := Kd.S_elem hS zRc (k : Int) (Int.natCast_nonneg k) (Int.ofNat_lt.2 hk)
  obtain ⟨x, hx⟩ : ∃ x, xs[k]? = some x := ⟨_, List.getElem?_eq_getElem (by omega)⟩
  rw [Int.toNat_natCast, List.getD_eq_getElem?_getD, hx, Option.getD_some] at hM
  obtain ⟨v2, hcs, g2⟩ := kRc_openM hM
  obtain ⟨A2, c2, hv2, _, hCx⟩ := Kd.R_reads g2
  have hs : kRc.sz = 5 := rfl
  have hseg := fun v : Int => (Kd.S_seg (okg := fun _ => False) (okp := oki) (Kd.H_mono hH (fun k hk => ⟨hk, id⟩)) (Int.natCast_nonneg k) (Int.ofNat_lt.2 hk) (seg := [.int .u64 v]) (j := 4) (by rw [hs]; exact Nat.le_refl _) (x' := { x with sum := v })
    (by rw [hcs]; exact kRc_mkM { x with sum := v } g2) (fun _ h => .inl h) (fun _ h => h.elim)).1
  simp only [Int.toNat_natCast, hs] at hcc hfz hseg
  exact ⟨x, A2, c2, hx, hCx.2.1, by have := hcc 2 v2 (by rw [hcs]; rfl); rw [hv2] at this; exact this, hcc 4 _ (by rw [hcs]; rfl), hfz 4, fun v => hseg v⟩
theorem cents_at {w : World} {base gr n c : Nat} {ok : Nat → Prop} {xs : List Rc} (hS : Kd.S kRc 34 w base ok (.slice (some ⟨gr, 0, none⟩) n c) xs) {k : Nat} (hk : k < n) {x : Rc} (hx : xs[k]? = some x) {j : Nat} (hj : j < x.ps.length) :
    ∃ (gp c2 : Nat) (y : Int), w.cell? ⟨gr, k * 5 + 2, none⟩ = some (.slice (some ⟨gp, 0, none⟩) x.ps.length c2) ∧ w.cell? ⟨gp, j * 2 + 1, none⟩ = some (.int .i64 y) ∧ w.frozen? ⟨gp, j * 2 + 1, none⟩ = false ∧ ok gp ∧
      ∀ v : Int, ∃ qs : List Pst, qs.length = x.ps.length ∧ Kd.S kRc 34 (w.setCell ⟨gp, j * 2 + 1, none⟩ (.int .i64 v)) base ok (.slice (some ⟨gr, 0, none⟩) n c) (xs.set k { x with ps := qs }) := by
  have hn := (Kd.S_reads' hS).1
  obtain ⟨oki, cs, hcl, hM, hcc, hoki, hback⟩ := Kd.S_borrow hS zRc (k : Int) (Int.natCast_nonneg k) (Int.ofNat_lt.2 hk)
  rw [Int.toNat_natCast, List.getD_eq_getElem?_getD, hx, Option.getD_some] at hM
  obtain ⟨v2, hcs, g2⟩ := kRc_openM hM
  obtain ⟨gp, c2, hv, _, hgpl, _⟩ := Kd.R_form g2 (by omega)
  subst hv
  have hog := g2.1 gp (by simp [Value.ownBlock])
  obtain ⟨y, hy⟩ : ∃ y, x.ps[j]? = some y := ⟨_, List.getElem?_eq_getElem hj⟩
  obtain ⟨ds, hdl, hN, hdd, hfz⟩ := Kd.R_elem g2 zPst (j : Int) (Int.natCast_nonneg j) (Int.ofNat_lt.2 hj)
  rw [Int.toNat_natCast, List.getD_eq_getElem?_getD, hy, Option.getD_some] at hN
  have hds := kPst_openM hN
  have hsp : kPst.sz = 2 := rfl
  have hs : kRc.sz = 5 := rfl
  have hseg := fun v : Int => Kd.R_seg g2 (j : Int) (Int.natCast_nonneg j) (Int.ofNat_lt.2 hj) (c := ds) (seg := [.int .i64 v]) (j := 1) (okp := fun _ => False) hdl hdd (by rw [hsp]; exact Nat.le_refl _) (x' := ⟨y.a, v⟩) (by rw [hds]; exact kPst_mkM ⟨y.a, v⟩) (fun _ hf => hf.elim)
  simp only [Int.toNat_natCast, hsp] at hdd hfz hseg
  simp only [Int.toNat_natCast, hs] at hcc
  have p2 : w.cell? ⟨gr, k * 5 + 2, none⟩ = some (.slice (some ⟨gp, 0, none⟩) x.ps.length c2) := by simpa [Addr.add] using hcc 2 (.slice (some ⟨gp, 0, none⟩) x.ps.length c2) (by rw [hcs]; rfl)
  refine ⟨gp, c2, y.c, p2, hdd 1 _ (by rw [hds]; rfl), hfz 1, (hoki gp hog).1, fun v => ⟨x.ps.set j ⟨y.a, v⟩, List.length_set .., ?_⟩⟩
  have hS7 := hback (w1 := w.setCell ⟨gp, j * 2 + 1, none⟩ (.int .i64 v)) (row := some gp) (x' := { x with ps := x.ps.set j ⟨y.a, v⟩ }) (hseg v).2 (fun q hq => by injection hq with hq; rw [← hq]; exact hog)
    (by rw [hcs]; have := (hseg v).1; have := kRc_mkM { x with ps := x.ps.set j ⟨y.a, v⟩ } (v2 := .slice (some ⟨gp, 0, none⟩) x.ps.length c2) this; exact this)
  rw [Int.toNat_natCast] at hS7
  exact hS7
end Go.Proofs.Ytpmopdgnnlhplaa
