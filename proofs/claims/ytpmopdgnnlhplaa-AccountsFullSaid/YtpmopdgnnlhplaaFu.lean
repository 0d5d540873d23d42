/-
  The walk of the law AccountsFull.
-/
import Derived.Test.YtpmopdgnnlhplaaGi
import Derived.Test.YtpmopdgnnlhplaaRd
import Derived.Test.YtpmopdgnnlhplaaVl
namespace Go.Proofs.Ytpmopdgnnlhplaa
open Go.RowKit Go.Proofs.YtpmopdgnnlhplaaW.PrintWords
def dd : ByteArray := ⟨#[48, 49, 50, 51, 52, 53, 54, 55, 56, 57]⟩
def sdig (n : Nat) : ByteArray := dd.extract (n / 100 % 10) (n / 100 % 10 + 1) ++ dd.extract (n / 10 % 10) (n / 10 % 10 + 1) ++ dd.extract (n % 10) (n % 10 + 1)
def nm (n : Nat) : ByteArray := ⟨#[97]⟩ ++ sdig n
set_option maxRecDepth 100000 in
set_option maxHeartbeats 1600000 in
theorem digits_any (n : Nat) (hn : n < 1000) (w : World) : Calls Try.prog 27 #[.int .i64 n] w fun e w' => e = .returned (.string (sdig n)) ∧ Below w.heap.size w w' := by
  go_enter Try.func27, Try.ntmps27
  go_wp2_with fail
  go_quiet (fail)
  go_wp2_with fail
  go_ret
  exact ⟨rfl, pw_below_drewN (Below.refl _ _) _⟩
def unnm (s : ByteArray) : Nat := (s.data.toList.foldl (fun a c => a * 10 + (c.toNat - 48)) 0) % 1000
theorem unnm_fin : ∀ i : Fin 128, unnm (nm i.val) = (49000 + i.val) % 1000 := by decide +kernel
theorem nm_fin : ∀ i : Fin 128, nameB (nm i.val) = true := by decide +kernel
theorem nm_inj {i j : Nat} (hi : i < 128) (hj : j < 128) (h : nm i = nm j) : i = j := by
  have h1 := unnm_fin ⟨i, hi⟩
  have h2 := unnm_fin ⟨j, hj⟩
  simp only at h1 h2
  rw [h, h2] at h1
  omega
def nms (i : Nat) : List ByteArray := (List.range i).map nm
theorem nms_more : memB (nms 128) ⟨#[109, 111, 114, 101]⟩ = false := by decide +kernel
theorem nms_five : memB (nms 128) ⟨#[97, 48, 48, 53]⟩ = true := by decide +kernel
theorem nms_0 : memB (nms 128) ⟨#[97, 48, 48, 48]⟩ = true := by decide +kernel
theorem nms_1 : memB (nms 128) ⟨#[97, 48, 48, 49]⟩ = true := by decide +kernel
theorem sdig_fin : ∀ i : Fin 128, (sdig i.val).size = 3 := by decide +kernel
theorem cat_nm (i : Nat) (h : i < 128) : ¬ 9223372036854775807 < 1 + (sdig i).size := by
  have h1 : (sdig i).size = 3 := sdig_fin ⟨i, h⟩
  omega
theorem open_ok {accs : List AccE} {i : Nat} (h : accs.map (·.name) = nms i) (hi : i < 128) : openErr accs (nm i) = 0 := by
  have hl : accs.length = i := by
    have := congrArg List.length h
    simpa [nms] using this
  unfold openErr
  rw [if_neg (by rw [nm_fin ⟨i, hi⟩]; simp), h, if_neg, if_neg (by omega)]
  rw [memB_iff]
  intro hm
  obtain ⟨j, hj, e⟩ := List.mem_map.1 hm
  have hj' : j < i := List.mem_range.1 hj
  have := nm_inj (by omega) hi e
  omega
theorem len128 {accs : List AccE} (h : accs.map (·.name) = nms 128) : accs.length = 128 := by
  have := congrArg List.length h
  simpa [nms] using this
theorem open_more {accs : List AccE} (h : accs.map (·.name) = nms 128) : openErr accs ⟨#[109, 111, 114, 101]⟩ = 9 := by
  unfold openErr
  rw [h, nms_more, len128 h]
  decide
theorem open_five {accs : List AccE} (h : accs.map (·.name) = nms 128) : openErr accs ⟨#[97, 48, 48, 53]⟩ = 8 := by
  unfold openErr
  rw [h, nms_five, if_neg (by decide)]
  rfl
def PN : List Pst := [⟨⟨#[97, 48, 48, 48]⟩, 1099511627776⟩, ⟨⟨#[97, 48, 48, 49]⟩, -1099511627776⟩]
def recsN (d : Int) : Nat → List Rc
  | 0 => []
  | k + 1 => recsN d k ++ [newRec (recsN d k) d 0 PN]
theorem recsN_len (d : Int) (k : Nat) : (recsN d k).length = k := by
  induction k with
  | zero => rfl
  | succ k ih => simp [recsN, ih]
theorem recsN_bal (d : Int) (k : Nat) (a : ByteArray) : bal (recsN d k) a = k * part PN a := by
  induction k with
  | zero => simp [recsN, bal]
  | succ k ih =>
    rw [recsN, bal_append, ih]
    simp only [bal, newRec, Int.add_zero]
    rw [Int.natCast_succ, Int.add_mul, Int.one_mul]
theorem recsN_day (d : Int) (k : Nat) : ∀ r ∈ recsN d k, r.day = d := by
  induction k with
  | zero => intro r hr; simp [recsN] at hr
  | succ k ih =>
    intro r hr
    rcases List.mem_append.1 hr with hr | hr
    · exact ih r hr
    · simp only [List.mem_singleton] at hr
      subst hr
      rfl
theorem recsN_last {d : Int} (h : 0 ≤ d) (k : Nat) : lastDay (recsN d k) ≤ d := by
  cases k with
  | zero => simpa [recsN, lastDay] using h
  | succ k => rw [recsN, lastDay_append]; exact Int.le_refl _
theorem part0 : part PN ⟨#[97, 48, 48, 48]⟩ = 1099511627776 := by decide +kernel
theorem part1 : part PN ⟨#[97, 48, 48, 49]⟩ = -1099511627776 := by decide +kernel
theorem full_err {d : Int} (h0 : 0 ≤ d) (h1 : d ≤ 65535) (k : Nat) (hk : k ≤ 1024) : postErr (nms 128) (recsN d k) d PN = if k < 1024 then 0 else 4 := by
  have hb0 := recsN_bal d k ⟨#[97, 48, 48, 48]⟩
  have hb1 := recsN_bal d k ⟨#[97, 48, 48, 49]⟩
  rw [part0] at hb0
  rw [part1] at hb1
  unfold postErr
  rw [if_neg (by simp [dayB, h0]; omega), if_neg (by have := recsN_last h0 k; omega), if_neg (by decide), if_neg (by decide)]
  have hbad : postBad (nms 128) PN = 0 := by
    unfold PN
    simp only [postBad]
    rw [nms_0, nms_1]
    decide
  rw [hbad, if_neg (by decide), if_neg (by decide)]
  unfold enterErr
  by_cases hlt : k < 1024
  · rw [if_pos hlt, if_pos, if_neg (by rw [recsN_len]; omega)]
    show (okBal _ _ _ && (okBal _ _ _ && true)) = true
    unfold okBal
    rw [hb0, hb1, part0, part1, decide_eq_true (by omega), decide_eq_true (by omega)]
    rfl
  · rw [if_neg hlt, if_neg]
    show ¬ (okBal _ _ _ && (okBal _ _ _ && true)) = true
    unfold okBal
    rw [hb0, part0, decide_eq_false (by omega)]
    simp
theorem nameB_size {s : ByteArray} (h : nameB s = true) : s.size ≤ 16 := by
  rw [← bytesI_len]
  unfold nameB at h
  split at h
  · rename_i e; rw [e]; simp
  · simp only [Bool.and_eq_true, decide_eq_true_eq] at h
    exact h.1.1.1
theorem GInv.size {names : List ByteArray} {recs : List Rc} {rl : List (Int × Value)} (h : GInv names recs rl) {r : Rc} (hr : r ∈ recs) {p : Pst} (hp : p ∈ r.ps) : p.a.size ≤ 16 :=
  nameB_size (h.nm _ (memB_iff.1 ((h.pss r hr).2.2 p hp).1))
theorem GInv.sumOk {names : List ByteArray} {recs : List Rc} {rl : List (Int × Value)} (h : GInv names recs rl) : ∀ r ∈ recs, SumOk r := fun r hr =>
  ⟨(h.sums r hr).1, (h.sums r hr).2, fun p hp => by have := h.size hr hp; omega⟩
theorem GInv.len16 {names : List ByteArray} {recs : List Rc} {rl : List (Int × Value)} (h : GInv names recs rl) : ∀ r ∈ recs, r.ps.length ≤ 16 := fun r hr => (h.pss r hr).2.1
open PAccountsVerifies (S34 S36 k34 k36) in
theorem RVerify_any {w : World} {A : Option Addr} {c : Nat} {l : List Rc} (hC : Kd.C kRc w A l.length l) (hle : l.length ≤ c) (hl : l.length ≤ 5000) (h16 : ∀ r ∈ l, r.ps.length ≤ 40) (hsz : ∀ r ∈ l, ∀ p ∈ r.ps, p.a.size ≤ 2000) (hw : ∀ r ∈ l, W64 r.sum) :
    Calls Try.prog 20 #[.slice A l.length c] w fun e w' => e = .returned (.int .i64 (verC 0 0 l)) ∧ Below w.heap.size w w' := by
  have hver := ver_f (l.map toR) (by simpa using hl) (fun r hr => by
    obtain ⟨x, hx, rfl⟩ := List.mem_map.1 hr
    refine ⟨by simpa [toR] using h16 x hx, fun p hp => ?_, (hw x hx).1, (hw x hx).2⟩
    obtain ⟨q, hq, rfl⟩ := List.mem_map.1 hp
    exact hsz x hx q hq)
  rw [ver_eq] at hver
  have hcalls := PAccountsVerifies.merinoref07_Verify.calls _ A c (l.map toR) _ w (by rw [List.length_map]; exact C_recs hC) (by rw [List.length_map]; exact hle) hver
  rw [List.length_map] at hcalls
  exact hcalls
theorem R_C {w : World} {base : Nat} {ok : Nat → Prop} {A : Option Addr} {n c : Nat} {recs : List Rc} (h : Kd.R kRc 34 w base ok (.slice A n c) recs) : Kd.C kRc w A recs.length recs ∧ n = recs.length ∧ recs.length ≤ c := by
  obtain ⟨A', c', he, h1, h2⟩ := Kd.R_reads h
  simp only [Value.slice.injEq] at he
  obtain ⟨rfl, rfl, rfl⟩ := he
  exact ⟨h2, rfl, h1⟩
theorem full_bal {accs : List AccE} (h : accs.map (·.name) = nms 128) {d : Int} (h0 : 0 ≤ d) (h1 : d ≤ 65535) (hs : Sorted (recsN d 1024)) :
    balErr accs ⟨#[97, 48, 48, 48]⟩ d = 0 ∧ balVal accs (fun a => rowsOf a (recsN d 1024) 0) ⟨#[97, 48, 48, 48]⟩ d = 1125899906842624 := by
  have he : balErr accs ⟨#[97, 48, 48, 48]⟩ d = 0 := by
    unfold balErr
    rw [h, nms_0, if_neg (by decide), if_neg (by simp [dayB, h0]; omega)]
  refine ⟨he, ?_⟩
  unfold balVal
  rw [if_pos he, uptoR_rows d _ hs, uptoB_big (fun r hr => by rw [recsN_day d 1024 r hr]; exact Int.le_refl _), recsN_bal, part0]
  rfl
theorem C_PN {W : World} {b : Nat} (hB : Blk W b #[.string ⟨#[97, 48, 48, 48]⟩, .int .i64 1099511627776, .string ⟨#[97, 48, 48, 49]⟩, .int .i64 (-1099511627776)] 36) : Kd.C kPst W (some ⟨b, 0, none⟩) PN.length PN :=
  C_two (x := (⟨⟨#[97, 48, 48, 48]⟩, 1099511627776⟩ : Pst)) (y := ⟨⟨#[97, 48, 48, 49]⟩, -1099511627776⟩) hB rfl (kPst_mk W ⟨⟨#[97, 48, 48, 48]⟩, 1099511627776⟩) (kPst_mk W ⟨⟨#[97, 48, 48, 49]⟩, -1099511627776⟩)
theorem PN_sz : ∀ p ∈ PN, p.a.size ≤ 9223372036854775807 := by unfold PN; simp; decide
set_option maxRecDepth 100000 in
set_option maxHeartbeats 4000000 in
theorem full_walk (d : Int) (h0 : 0 ≤ d) (h1 : d ≤ 65535) (w : World) : Calls Try.prog 7 #[.int .u16 d] w fun e w' => e = .returned (.bool true) ∧ Below w.heap.size w w' := by
  have hw1 : IntKind.i64.wrap d = d := IntWalk.i64_in _ (by omega)
  have heq := eq47
  go_enter Try.func7, Try.ntmps7
  go_wp2_with fail
  refine (new_led w).mono ?_
  rintro e w1 ⟨F1, g, rm, am, rfl, hb1, hL1, hF1⟩
  go_wp2_with fail
  go_loopw [4] (fun s4 wr => ∃ (i : Nat) (F : Nat → Prop) (accs : List AccE), i ≤ 128 ∧ s4 = .int .i64 i ∧ LedH wr F g (.slice none 0 0) rm am accs [] (fun a => rowsOf a [] 0) [] ∧ accs.map (·.name) = nms i ∧ GInv (nms i) [] [] ∧ Below w.heap.size w wr ∧ (∀ x, F x → w.heap.size ≤ x)) (fun s4 _ => 128 - (intOf s4).toNat)
  case atStart => exact ⟨0, F1, [], by omega, rfl, hL1, rfl, GInv.start, hb1, hF1⟩
  case round =>
    clear hL1 hF1
    obtain ⟨i, F, accs, hi, rfl, hL, hn, hG, hb, hF⟩ := hrel
    by_cases hlt : i < 128
    · have hok := open_ok hn hlt
      have HC := Lib.hid (cat_nm i hlt)
      go_wp2_with fail
      refine (digits_any i (by omega) wr).mono ?_
      rintro e w2 ⟨rfl, hb2⟩
      have hb3 := below_t hb hb2
      have hL2 := hL.below hb2
      have hop := open_any hL2 (nm i) (fun _ => rfl)
      rw [hok] at hop
      go_wp2_with fail
      refine hop.mono ?_
      rintro e w3 ⟨rfl, -, hk⟩
      obtain ⟨F', nb, hL3, hU⟩ := hk (by first | rfl | trivial)
      obtain ⟨hb4, hF4⟩ := upd_below hb3 hF hU
      clear hop hk
      have hG2 : GInv (nms (i + 1)) [] [] := by
        rw [← hn] at hG
        have := hG.open_ hok
        rw [hn] at this
        simpa [nms, List.range_succ] using this
      go_wp2_with fail
      go_roundw
      case rel => exact ⟨i + 1, F', _, by omega, by go_num, hL3, by rw [List.map_append, hn]; simp [nms, List.range_succ], hG2, hb4, hF4⟩
      case measure => simp [intOf]; omega
    · obtain rfl : i = 128 := by omega
      have e1 := open_more hn
      have e2 := open_five hn
      have hop := open_any hL ⟨#[109, 111, 114, 101]⟩ (fun _ => rfl)
      rw [e1] at hop
      go_wp2_with fail
      refine hop.mono ?_
      rintro e w2 ⟨rfl, hk, -⟩
      have hb2 := hk (by decide)
      have hL2 := hL.below hb2
      have hb3 := below_t hb hb2
      clear hk hop hb2 hL e1
      have hop := open_any hL2 ⟨#[97, 48, 48, 53]⟩ (fun _ => rfl)
      rw [e2] at hop
      go_wp2_with fail
      refine hop.mono ?_
      rintro e w3 ⟨rfl, hk, -⟩
      have hb2 := hk (by decide)
      have hL3 := hL2.below hb2
      have hb4 := below_t hb3 hb2
      clear hk hop hb2 hL2 e2 hb3
      have hB := Blk.new w3 #[.string ⟨#[97, 48, 48, 48]⟩, .int .i64 1099511627776, .string ⟨#[97, 48, 48, 49]⟩, .int .i64 (-1099511627776)] 36
      have hb5 := hb4.alloc hb4.size (.cells #[.string ⟨#[97, 48, 48, 48]⟩, .int .i64 1099511627776, .string ⟨#[97, 48, 48, 49]⟩, .int .i64 (-1099511627776)] 36)
      have hL4 := hL3.below ((Below.refl _ _).alloc (Nat.le_refl _) (.cells #[.string ⟨#[97, 48, 48, 48]⟩, .int .i64 1099511627776, .string ⟨#[97, 48, 48, 49]⟩, .int .i64 (-1099511627776)] 36))
      have hnF : ¬ F w3.heap.size := fun hf => by have := hL3.fin _ hf; omega
      have hpw := hb4.size
      go_wp2_with fail
      generalize w3.alloc (.cells #[.string ⟨#[97, 48, 48, 48]⟩, .int .i64 1099511627776, .string ⟨#[97, 48, 48, 49]⟩, .int .i64 (-1099511627776)] 36) = w4 at *
      generalize w3.heap.size = b at *
      clear hL3 hb4
      go_loopw [6, 7, 8] (fun s6 _ _ wr => ∃ (k : Nat) (F : Nat → Prop) (v : Value) (accs : List AccE), k ≤ 1024 ∧ s6 = .int .i64 (k + 1) ∧ LedH wr F g v rm am accs (recsN d k) (fun a => rowsOf a (recsN d k) 0) [] ∧ accs.map (·.name) = nms 128 ∧ GInv (nms 128) (recsN d k) [] ∧ Below w.heap.size w wr ∧ (∀ x, F x → w.heap.size ≤ x) ∧ Blk wr b #[.string ⟨#[97, 48, 48, 48]⟩, .int .i64 1099511627776, .string ⟨#[97, 48, 48, 49]⟩, .int .i64 (-1099511627776)] 36 ∧ ¬ F b) (fun s6 _ _ _ => 1025 - (intOf s6).toNat)
      case atStart => exact ⟨0, F, _, accs, by omega, rfl, hL4, hn, hG, hb5, hF, hB, hnF⟩
      case round =>
        clear hL4 hF hG hn hB hnF hb5
        obtain ⟨k, F, v, accs, hk, rfl, hL, hn, hG, hb, hF, hB, hnF⟩ := hrel
        have hpe := full_err h0 h1 k hk
        have hpost := Post_any hL d PN (some ⟨b, 0, none⟩) 2 (fun W hW => C_PN (hB.fr hW hnF)) PN_sz hG.linv
        by_cases hlt : k < 1024
        · rw [if_pos hlt] at hpe
          go_wp2_with fail
          refine hpost.mono ?_
          rintro e w5 ⟨hP, -⟩
          rw [hn] at hP
          obtain ⟨rfl, F5, v5, accs5, hL5, hn5, hU5⟩ := hP hpe
          rw [recsN_len]
          clear hpost hP
          obtain ⟨hb6, hF6⟩ := upd_below hb hF hU5
          have hB6 := hB.fr hU5.1 hnF
          have hnF6 : ¬ F5 b := fun hf => (hU5.2 b hf).elim hnF (fun h9 => by have := hB.lt; omega)
          have hG6 := hG.posted hpe
          have hk1 : ((k : Int) + 1 != (k : Int) + 1) = false := by simp
          go_wp2_with fail
          go_roundw
          case rel => exact ⟨k + 1, F5, v5, accs5, by omega, by go_num, hL5, hn5, hG6, hb6, hF6, hB6, hnF6⟩
          case measure => simp [intOf]; omega
        · obtain rfl : k = 1024 := by omega
          rw [if_neg (by omega)] at hpe
          go_wp2_with fail
          refine hpost.mono ?_
          rintro e w5 ⟨-, hP⟩
          rw [hn] at hP
          obtain ⟨rfl, hb5⟩ := hP (by rw [hpe]; decide)
          rw [hpe]
          have hL5 := hL.below hb5
          have hb6 := below_t hb hb5
          clear hpost hP hL hb hb5 hB hnF
          obtain ⟨q1, q2⟩ := full_bal hn h0 h1 hG.days
          have hbal := Balance_any hL5 ⟨#[97, 48, 48, 48]⟩ d
          rw [q1, q2] at hbal
          go_wp2_with fail
          refine hbal.mono ?_
          rintro e w6 ⟨rfl, hb7⟩
          have hL6 := hL5.below hb7
          have hb8 := below_t hb6 hb7
          clear hbal q1 q2 hL5 hb6 hb7
          have hlen := Lib.hid (recsN_len d 1024)
          have hch := Lib.hid hG.chain
          have hlm : (recsN d 1024).length ≤ 4096 := by rw [hlen.out]; decide
          generalize recsN d 1024 = recs at *
          go_wp2_with fail
          refine (Records_any hL6 hlm hG.len16).mono ?_
          rintro e w7 ⟨⟨A7, c7, rfl, hR7⟩, hb9⟩
          have hL7 := hL6.below hb9
          have hb10 := below_t hb8 hb9
          go_wp2_with fail
          refine (Verify_any A7 c7 recs (R_C hR7).1 hG.sumOk).mono ?_
          rintro e w8 ⟨rfl, hb11⟩
          rw [hch.out, hlen.out]
          have hL8 := hL7.below hb11
          have hb12 := below_t hb10 hb11
          clear hL6 hb9 hb8 hL7 hb10 hb11 hR7
          go_wp2_with fail
          refine (Records_any hL8 hlm hG.len16).mono ?_
          rintro e w9 ⟨⟨A9, c9, rfl, hR9⟩, hb13⟩
          rw [hlen.out]
          have hL9 := hL8.below hb13
          have hb14 := below_t hb12 hb13
          go_wp2_with fail
          refine (Records_any hL9 hlm hG.len16).mono ?_
          rintro e wa ⟨⟨Aa, ca, rfl, hRa⟩, hb15⟩
          have hb16 := below_t hb14 hb15
          go_wp2_with fail
          refine (RVerify_any (R_C hRa).1 (R_C hRa).2.2 (by omega) (fun r hr => Nat.le_trans (hG.len16 r hr) (by decide)) (fun r hr p hp => Nat.le_trans (hG.size hr hp) (by decide)) hG.sums).mono ?_
          rintro e wb ⟨rfl, hb17⟩
          rw [hch.out, hlen.out]
          have hb18 := below_t hb16 hb17
          go_wp2_with fail
          refine (alive_any _).mono ?_
          rintro e wc ⟨rfl, hb19⟩
          have hb20 := below_t hb18 hb19
          go_wp2_with fail
          go_ret
          exact ⟨rfl, hb20⟩
theorem full_law {d : Int} (h : (Lit.int .u16 d).wf = true) {w : World} : Calls Try.prog 7 #[.int .u16 d] w fun e w' => e = .returned (.bool true) ∧ Below w.heap.size w w' := by
  have h6 : IntKind.u16.min ≤ d ∧ d ≤ IntKind.u16.max := by simpa [Lit.wf] using h
  have e1 : IntKind.u16.min = 0 := by decide
  have e2 : IntKind.u16.max = 65535 := by decide
  exact full_walk d (by omega) (by omega) w
end Go.Proofs.Ytpmopdgnnlhplaa
