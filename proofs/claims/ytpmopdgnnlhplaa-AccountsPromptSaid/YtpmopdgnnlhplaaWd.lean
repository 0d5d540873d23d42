/-
  The walks of Working and Prompt, and of the reference's.
-/
import Derived.Test.YtpmopdgnnlhplaaWk
namespace Go.Proofs.Ytpmopdgnnlhplaa
open Go.RowKit Go.Proofs.YtpmopdgnnlhplaaW.PrintWords
abbrev kI : Kd Int := Kd.int .i64
theorem at_Int {w : World} {A : Option Addr} {n : Nat} {xs : List Int} (h : Kd.C kI w A n xs) {i : Nat} {x : Int} (hx : xs[i]? = some x) : ∃ ad, A = some ad ∧ w.cell? (ad.add i) = some (.int .i64 x) := by
  have h1 : i < xs.length := (List.getElem?_eq_some_iff.1 hx).1
  obtain ⟨ad, e, hc⟩ := h.2.2 (by have := h.1; omega)
  obtain ⟨cs, _, h2, h3⟩ := hc i x hx
  refine ⟨ad, e, ?_⟩
  have h2 : cs = [.int .i64 x] := h2
  subst h2
  have := h3 0 _ rfl
  have e1 : (kI).sz = 1 := rfl
  rw [e1] at this
  simpa using this
theorem any_drop {l : List Int} {f : Int → Bool} {k : Nat} (h : ∀ x ∈ l.take k, f x = false) : l.any f = (l.drop k).any f := by
  have e := List.take_append_drop k l
  have h2 : (l.take k).any f = false := by
    rw [List.any_eq_false]
    intro x hx
    rw [h x hx]; simp
  calc l.any f = (l.take k ++ l.drop k).any f := by rw [e]
    _ = _ := by rw [List.any_append, h2, Bool.false_or]
theorem any_drop_cons {l : List Int} {f : Int → Bool} {k : Nat} {x : Int} (h : ∀ y ∈ l.take k, f y = false) (hx : l[k]? = some x) : l.any f = (f x || (l.drop (k + 1)).any f) := by
  have hk := (List.getElem?_eq_some_iff.1 hx).1
  have he := (List.getElem?_eq_some_iff.1 hx).2
  rw [any_drop h, List.drop_eq_getElem_cons hk, he, List.any_cons]
theorem take_more {l : List Int} {f : Int → Bool} {k : Nat} {x : Int} (h : ∀ y ∈ l.take k, f y = false) (hx : l[k]? = some x) (hf : f x = false) : ∀ y ∈ l.take (k + 1), f y = false := by
  have hk := (List.getElem?_eq_some_iff.1 hx).1
  have he := (List.getElem?_eq_some_iff.1 hx).2
  intro y hy
  rw [List.take_succ_eq_append_getElem hk, he, List.mem_append] at hy
  rcases hy with hy | hy
  · exact h y hy
  · simp only [List.mem_singleton] at hy
    subst hy
    exact hf
theorem any_none {l : List Int} {f : Int → Bool} (h : ∀ x ∈ l.take l.length, f x = false) : l.any f = false := by
  rw [any_drop h, List.drop_length]; rfl
set_option maxRecDepth 100000 in
set_option maxHeartbeats 1600000 in
theorem index_any (w : World) (A : Option Addr) (c : Nat) (l : List Int) (x : Int) (hC : Kd.C kI w A l.length l) :
    Calls Try.prog 107 #[.slice A l.length c, .int .i64 x] w fun e w' => (∃ r, e = .returned (.int .i64 r) ∧ decide (0 ≤ r) = l.any (fun h => decide (h = x))) ∧ w = w' := by
  have hlm := hC.2.1
  go_enter Try.func107, Try.ntmps107
  go_wp2_with fail
  go_loopw [5, 8] (fun _ s8 wr => ∃ k : Nat, k ≤ l.length ∧ s8 = .int .i64 k ∧ (∀ y ∈ l.take k, decide (y = x) = false) ∧ wr = w) (fun _ s8 _ => l.length - (intOf s8).toNat)
  case atStart => exact ⟨0, Nat.zero_le _, rfl, by simp, rfl⟩
  case round =>
    obtain ⟨k, hk, rfl, hn, rfl⟩ := hrel
    by_cases hlt : k < l.length
    · obtain ⟨y, hy⟩ : ∃ y, l[k]? = some y := ⟨_, List.getElem?_eq_getElem hlt⟩
      obtain ⟨ad, rfl, p0⟩ := at_Int hC hy
      have HA := Lib.hid (any_drop_cons hn hy)
      have HT := Lib.hid (take_more hn hy)
      clear hn hy
      by_cases he : x = y
      · subst he
        go_wp2_with fail
        go_ret
        exact ⟨⟨k, rfl, by rw [HA.out]; simp⟩, rfl⟩
      · have hb : (x == y) = false := by simpa using he
        have HB := Lib.hid (show decide (y = x) = false by simpa using fun e : y = x => he e.symm)
        clear he
        go_wp2_with fail
        go_roundw
        case rel => exact ⟨k + 1, by omega, by go_num, HT.out HB.out, by first | rfl | trivial⟩
        case measure => simp [intOf]; omega
    · obtain rfl : k = l.length := by omega
      have HN := Lib.hid (any_none hn)
      clear hn
      go_wp2_with fail
      go_ret
      exact ⟨⟨-1, rfl, by rw [HN.out]; rfl⟩, rfl⟩
theorem contains_any (w : World) (A : Option Addr) (c : Nat) (l : List Int) (x : Int) (hC : Kd.C kI w A l.length l) :
    Calls Try.prog 100 #[.slice A l.length c, .int .i64 x] w fun e w' => e = .returned (.bool (l.any (fun h => decide (h = x)))) ∧ w = w' := by
  go_enter Try.func100, Try.ntmps100
  go_wp2_with fail
  refine (index_any w A c l x hC).mono ?_
  rintro e w1 ⟨⟨r, rfl, hr⟩, rfl⟩
  have HR := Lib.hid hr
  clear hr
  go_wp2_with fail
  go_ret
  exact ⟨by first | (rw [← HR.out]; rfl) | (rw [← HR.out]; simp), rfl⟩
theorem bad_any (n : Int) (w : World) : Calls Try.prog 99 #[.int .i64 n] w fun e w' => e = .returned (.bool (!dayB n)) ∧ w = w' := by
  go_enter Try.func99, Try.ntmps99
  go_wp2_with fail
  refine (day_any n _).mono ?_
  rintro e w1 ⟨rfl, rfl⟩
  go_wp2_with fail
  go_ret
  exact ⟨rfl, rfl⟩
set_option maxRecDepth 100000 in
set_option maxHeartbeats 1600000 in
theorem indexF_any (w : World) (A : Option Addr) (c : Nat) (l : List Int) (hC : Kd.C kI w A l.length l) :
    Calls Try.prog 106 #[.slice A l.length c, .func (.func 99) #[] #[]] w fun e w' => (∃ r, e = .returned (.int .i64 r) ∧ decide (0 ≤ r) = l.any (fun h => !dayB h)) ∧ w = w' := by
  have hlm := hC.2.1
  go_enter Try.func106, Try.ntmps106
  go_wp2_with fail
  go_loopw [5, 8] (fun _ s8 wr => ∃ k : Nat, k ≤ l.length ∧ s8 = .int .i64 k ∧ (∀ y ∈ l.take k, (!dayB y) = false) ∧ wr = w) (fun _ s8 _ => l.length - (intOf s8).toNat)
  case atStart => exact ⟨0, Nat.zero_le _, rfl, by simp, rfl⟩
  case round =>
    obtain ⟨k, hk, rfl, hn, rfl⟩ := hrel
    by_cases hlt : k < l.length
    · obtain ⟨y, hy⟩ : ∃ y, l[k]? = some y := ⟨_, List.getElem?_eq_getElem hlt⟩
      obtain ⟨ad, rfl, p0⟩ := at_Int hC hy
      have HA := Lib.hid (any_drop_cons hn hy)
      have HT := Lib.hid (take_more hn hy)
      clear hn hy
      go_wp2_with fail
      refine (bad_any y _).mono ?_
      rintro e w1 ⟨rfl, rfl⟩
      cases hd : dayB y with
      | false =>
        have HD := Lib.hid hd
        clear hd
        go_wp2_with fail
        go_ret
        exact ⟨⟨k, rfl, by rw [HA.out, HD.out]; simp⟩, rfl⟩
      | true =>
        have HD := Lib.hid hd
        clear hd
        go_wp2_with fail
        go_roundw
        case rel => exact ⟨k + 1, by omega, by go_num, HT.out (by rw [HD.out]; rfl), by first | rfl | trivial⟩
        case measure => simp [intOf]; omega
    · obtain rfl : k = l.length := by omega
      have HN := Lib.hid (any_none hn)
      clear hn
      go_wp2_with fail
      go_ret
      exact ⟨⟨-1, rfl, by rw [HN.out]; rfl⟩, rfl⟩
theorem containsF_any (w : World) (A : Option Addr) (c : Nat) (l : List Int) (hC : Kd.C kI w A l.length l) :
    Calls Try.prog 98 #[.slice A l.length c, .func (.func 99) #[] #[]] w fun e w' => e = .returned (.bool (l.any (fun h => !dayB h))) ∧ w = w' := by
  go_enter Try.func98, Try.ntmps98
  go_wp2_with fail
  refine (indexF_any w A c l hC).mono ?_
  rintro e w1 ⟨⟨r, rfl, hr⟩, rfl⟩
  have HR := Lib.hid hr
  clear hr
  go_wp2_with fail
  go_ret
  exact ⟨by first | (rw [← HR.out]; rfl) | (rw [← HR.out]; simp), rfl⟩
theorem all_day (l : List Int) : l.all dayB = !(l.any (fun h => !dayB h)) := by
  induction l with
  | nil => rfl
  | cons x r ih => simp [List.all_cons, List.any_cons, ih]
set_option maxRecDepth 100000 in
set_option maxHeartbeats 1600000 in
theorem days_any (n : Int) (w : World) (A : Option Addr) (c : Nat) (l : List Int) (hC : Kd.C kI w A l.length l) :
    Calls Try.prog 76 #[.int .i64 n, .slice A l.length c] w fun e w' => e = .returned (.int .i64 (hErr n l)) ∧ w = w' := by
  by_cases hl : 64 < (l.length : Int)
  · have HE := Lib.hid (show hErr n l = 3 by unfold hErr; rw [if_pos (by omega)])
    go_enter Try.func76, Try.ntmps76
    go_wp2_with fail
    go_ret
    exact ⟨by rw [HE.out]; rfl, rfl⟩
  · have HE := Lib.hid (show hErr n l = if dayB n && !(l.any (fun h => !dayB h)) then 0 else 2 by unfold hErr; rw [if_neg (by omega), all_day])
    go_enter Try.func76, Try.ntmps76
    go_wp2_with fail
    refine (day_any n _).mono ?_
    rintro e w1 ⟨rfl, rfl⟩
    cases hd : dayB n with
    | false =>
      have HD := Lib.hid hd
      clear hd
      go_wp2_with fail
      go_ret
      exact ⟨by rw [HE.out, HD.out]; rfl, rfl⟩
    | true =>
      have HD := Lib.hid hd
      clear hd
      go_wp2_with fail
      refine (containsF_any _ A c l hC).mono ?_
      rintro e w1 ⟨rfl, rfl⟩
      cases hb : l.any (fun h => !dayB h) with
      | false =>
        have HB := Lib.hid hb
        clear hb
        go_wp2_with fail
        go_ret
        exact ⟨by rw [HE.out, HD.out, HB.out]; rfl, rfl⟩
      | true =>
        have HB := Lib.hid hb
        clear hb
        go_wp2_with fail
        go_ret
        exact ⟨by rw [HE.out, HD.out, HB.out]; rfl, rfl⟩
theorem nth_succ (l : List Int) (k : Nat) (d n : Int) : nth l (k + 1) d n = if workB (d + 1) l then (if n = 1 then (d + 1, 0) else nth l k (d + 1) (n - 1)) else nth l k (d + 1) n := rfl
theorem rem7 {n : Int} (h : 0 ≤ n) : n.tmod 7 = n % 7 := Int.tmod_eq_emod_of_nonneg h
set_option maxRecDepth 100000 in
set_option maxHeartbeats 1600000 in
theorem working_any (n : Int) (h0 : 0 ≤ n) (w : World) (A : Option Addr) (c : Nat) (l : List Int) (hC : Kd.C kI w A l.length l) :
    Calls Try.prog 77 #[.int .i64 n, .slice A l.length c] w fun e w' => e = .returned (.bool (workB n l)) ∧ w = w' := by
  have hr := rem7 h0
  by_cases h7 : 1 < n % 7
  · have HE := Lib.hid (show workB n l = !(l.any fun h => decide (h = n)) by unfold workB; rw [decide_eq_true h7, Bool.true_and])
    go_enter Try.func77, Try.ntmps77
    go_wp2_with fail
    refine (contains_any _ A c l n hC).mono ?_
    rintro e w1 ⟨rfl, rfl⟩
    go_wp2_with fail
    go_ret
    exact ⟨by rw [HE.out]; rfl, rfl⟩
  · have HE := Lib.hid (show workB n l = false by unfold workB; rw [decide_eq_false h7, Bool.false_and])
    go_enter Try.func77, Try.ntmps77
    go_wp2_with fail
    go_ret
    exact ⟨by rw [HE.out]; rfl, rfl⟩
theorem Working_any (n : Int) (w : World) (A : Option Addr) (c : Nat) (l : List Int) (hC : Kd.C kI w A l.length l) :
    Calls Try.prog 40 #[.int .i64 n, .slice A l.length c] w fun e w' => e = .returned (.tuple #[.bool (decide (hErr n l = 0) && workB n l), .int .i64 (hErr n l)]) ∧ w = w' := by
  go_enter Try.func40, Try.ntmps40
  go_wp2_with fail
  refine (days_any n _ A c l hC).mono ?_
  rintro e w1 ⟨rfl, rfl⟩
  by_cases h : hErr n l = 0
  · have hn := (hErr_0 h).1
    have HH := Lib.hid h
    rw [h]
    clear h
    go_wp2_with fail
    refine (working_any n hn _ A c l hC).mono ?_
    rintro e w1 ⟨rfl, rfl⟩
    go_wp2_with fail
    go_ret2
    exact ⟨by simp [HH.out], rfl⟩
  · have hb : (hErr n l != 0) = true := by simpa using h
    have HH := Lib.hid (show (decide (hErr n l = 0) && workB n l) = false by simp [h])
    clear h
    go_wp2_with fail
    go_ret2
    exact ⟨by first | (rw [HH.out]; done) | (rw [HH.out]; rfl), rfl⟩
set_option maxRecDepth 100000 in
set_option maxHeartbeats 1600000 in
theorem Prompt_any (d n : Int) (w : World) (A : Option Addr) (c : Nat) (l : List Int) (hC : Kd.C kI w A l.length l) :
    Calls Try.prog 42 #[.int .i64 d, .int .i64 n, .slice A l.length c] w fun e w' => e = .returned (.tuple #[.int .i64 (promptR d n l).1, .int .i64 (promptR d n l).2]) ∧ w = w' := by
  go_enter Try.func42, Try.ntmps42
  go_wp2_with fail
  refine (days_any d _ A c l hC).mono ?_
  rintro e w1 ⟨rfl, rfl⟩
  by_cases h : hErr d l = 0
  · obtain ⟨d0, d1, _⟩ := hErr_0 h
    by_cases h1 : n < 1
    · have HE := Lib.hid (show promptR d n l = (0, 2) by unfold promptR; rw [if_neg (by simpa using h), if_pos (.inl h1)])
      rw [h]
      go_wp2_with fail
      go_ret2
      exact ⟨by rw [HE.out]; rfl, rfl⟩
    by_cases h2 : 366 < n
    · have HE := Lib.hid (show promptR d n l = (0, 2) by unfold promptR; rw [if_neg (by simpa using h), if_pos (.inr h2)])
      rw [h]
      go_wp2_with fail
      go_ret2
      exact ⟨by rw [HE.out]; rfl, rfl⟩
    have HE := Lib.hid (show promptR d n l = nth l (1000000 - d).toNat d n by unfold promptR; rw [if_neg (by simpa using h), if_neg (by omega)])
    rw [h]
    clear h
    have hw1 : IntKind.i64.wrap (d + 1) = d + 1 := IntWalk.i64_in _ (by omega)
    go_wp2_with fail
    go_loopw [1, 9] (fun s1 s9 wr => ∃ x m : Int, s9 = .int .i64 x ∧ s1 = .int .i64 m ∧ 1 ≤ x ∧ x ≤ 1000001 ∧ 1 ≤ m ∧ m ≤ 366 ∧ nth l (1000001 - x).toNat (x - 1) m = nth l (1000000 - d).toNat d n ∧ wr = w) (fun _ s9 _ => 1000001 - (intOf s9).toNat)
    case atStart => exact ⟨d + 1, n, rfl, rfl, by omega, by omega, by omega, by omega, by rw [show 1000001 - (d + 1) = 1000000 - d by omega, show d + 1 - 1 = d by omega], rfl⟩
    case round =>
      obtain ⟨x, m, rfl, rfl, x0, x1, m0, m1, hn, rfl⟩ := hrel
      by_cases hx : x ≤ 1000000
      · have hk : (1000001 - x).toNat = (1000000 - x).toNat + 1 := by omega
        rw [hk, nth_succ, show x - 1 + 1 = x by omega] at hn
        have hw2 : IntKind.i64.wrap (x + 1) = x + 1 := IntWalk.i64_in _ (by omega)
        have hw3 : IntKind.i64.wrap (m - 1) = m - 1 := IntWalk.i64_in _ (by omega)
        clear hk
        have HN := Lib.hid hn
        clear hn
        go_wp2_with fail
        refine (working_any x (by omega) _ A c l hC).mono ?_
        rintro e w1 ⟨rfl, rfl⟩
        cases hW : workB x l with
        | true =>
          have HW := Lib.hid hW
          clear hW
          by_cases hm : m = 1
          · subst hm
            have HR := Lib.hid (show promptR d n l = (x, 0) by rw [HE.out, ← HN.out, if_pos HW.out]; rfl)
            go_wp2_with fail
            go_ret2
            exact ⟨by first | (rw [HR.out]; done) | (rw [HR.out]; rfl), rfl⟩
          · have hb : (m - 1 == 0) = false := by simp; omega
            have HM := Lib.hid hm
            clear hm
            go_wp2_with fail
            go_roundw
            case rel =>
              refine ⟨x + 1, m - 1, rfl, rfl, by omega, by omega, by have := HM.out; omega, by omega, ?_, by first | rfl | trivial⟩
              rw [← HN.out, if_pos HW.out, if_neg HM.out, show 1000001 - (x + 1) = 1000000 - x by omega, show x + 1 - 1 = x by omega]
            case measure => simp [intOf]; omega
        | false =>
          have HW := Lib.hid hW
          clear hW
          have hb : (m == 0) = false := by simp; omega
          go_wp2_with fail
          go_roundw
          case rel =>
            refine ⟨x + 1, m, rfl, rfl, by omega, by omega, by omega, by omega, ?_, by first | rfl | trivial⟩
            rw [← HN.out, if_neg (by rw [HW.out]; simp), show 1000001 - (x + 1) = 1000000 - x by omega, show x + 1 - 1 = x by omega]
          case measure => simp [intOf]; omega
      · have hk : (1000001 - x).toNat = 0 := by omega
        rw [hk] at hn
        have HR := Lib.hid (show promptR d n l = (0, 4) by rw [HE.out, ← hn]; rfl)
        clear hn hk
        go_wp2_with fail
        go_ret2
        exact ⟨by first | (rw [HR.out]; done) | (rw [HR.out]; rfl), rfl⟩
  · have HE := Lib.hid (show promptR d n l = (0, hErr d l) by unfold promptR; rw [if_pos (by simpa using h)])
    have hb : (hErr d l != 0) = true := by simpa using h
    clear h
    go_wp2_with fail
    go_ret2
    exact ⟨by first | (rw [HE.out]; done) | (rw [HE.out]; rfl), rfl⟩
end Go.Proofs.Ytpmopdgnnlhplaa
