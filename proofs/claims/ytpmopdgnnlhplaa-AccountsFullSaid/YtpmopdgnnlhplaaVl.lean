/-
  The walk of the law AccountsVerifies.
-/
import Derived.Test.YtpmopdgnnlhplaaVw
import Derived.Test.YtpmopdgnnlhplaaAl
import Derived.Test.YtpmopdgnnlhplaaRk
namespace Go.Proofs.Ytpmopdgnnlhplaa
open Go.RowKit Go.Proofs.YtpmopdgnnlhplaaW.PrintWords
open PAccountsVerifies (S34 S36 k34 k36)
theorem C_map {α β : Type} {d : Kd α} {d' : Kd β} (f : α → β) (hs : d.sz = d'.sz) {w : World} (h : ∀ x cs, d.K w x cs → d'.K w (f x) cs) {A : Option Addr} {n : Nat} {xs : List α} (hC : Kd.C d w A n xs) : Kd.C d' w A n (xs.map f) := by
  obtain ⟨h1, h2, h3⟩ := hC
  refine ⟨by rw [List.length_map]; exact h1, h2, fun hn => ?_⟩
  obtain ⟨ad, e, hc⟩ := h3 hn
  refine ⟨ad, e, fun j p hp => ?_⟩
  rw [List.getElem?_map] at hp
  cases hx : xs[j]? with
  | none => rw [hx] at hp; cases hp
  | some x =>
    rw [hx] at hp
    simp only [Option.map_some, Option.some.injEq] at hp
    subst hp
    obtain ⟨c, k1, k2, k3⟩ := hc j x hx
    exact ⟨c, by rw [← hs]; exact k1, h x c k2, by rw [← hs]; exact k3⟩
def toS (p : Pst) : S36 := ⟨p.a, p.c⟩
def toR (r : Rc) : S34 := ⟨r.no, r.day, r.ps.map toS, r.rev, r.sum⟩
theorem C_recs {w : World} {A : Option Addr} {n : Nat} {l : List Rc} (h : Kd.C kRc w A n l) : Kd.C k34 w A n (l.map toR) := by
  refine C_map toR rfl (fun x cs hK => ?_) h
  obtain ⟨A2, c2, rfl, hl, hC⟩ := kRc_open hK
  have := C_map (d' := k36) toS rfl (fun y cs hy => by obtain rfl := kPst_open hy; exact PAccountsVerifies.k36_mk w (toS y)) hC
  have hk := PAccountsVerifies.k34_mk w (toR x) (A2 := A2) (c2 := c2) (by simpa [toR] using hl) (by simpa [toR] using this)
  simpa [toR] using hk
theorem ver_eq : ∀ (l : List Rc) (b : Int) (i : Nat), verR b i (l.map toR) = verC b i l
  | [], _, _ => rfl
  | r :: rest, b, i => by
    have e : ((r.ps.map toS).map toP) = r.ps := by
      rw [List.map_map]
      exact List.map_id'' (fun _ => rfl) _
    simp only [List.map_cons, verR, verC]
    rw [show (toR r).f2.map toP = r.ps from e, ver_eq rest]
    rfl
def SmallP (r : Rc) : Prop := r.ps.length ≤ 40 ∧ ∀ p ∈ r.ps, p.a.size ≤ 2000
set_option maxRecDepth 100000 in
set_option maxHeartbeats 4000000 in
theorem verifies_walk {w : World} (A : Option Addr) (c : Nat) (l : List Rc) (hC : Kd.C kRc w A l.length l) (hle : l.length ≤ c) (hs : ∀ r ∈ l, SumOk r) :
    Calls Try.prog 4 #[.slice A l.length c] w fun e w' => e = .returned (.bool true) ∧ Below w.heap.size w w' := by
  have hlm := hC.2.1
  go_enter Try.func4, Try.ntmps4
  go_wp2_with fail
  go_loopw [3, 4] (fun s3 _ wr => ∃ k : Nat, k ≤ l.length ∧ k ≤ 100 ∧ s3 = .int .i64 k ∧ (∀ r ∈ l.take k, SmallP r) ∧ Below w.heap.size w wr) (fun s3 _ _ => l.length - (intOf s3).toNat)
  case atStart => exact ⟨0, Nat.zero_le _, by omega, rfl, by simp, Below.refl _ _⟩
  case round =>
    obtain ⟨k, hk, hk1, rfl, hsm, hb⟩ := hrel
    by_cases hlt : k < l.length
    · by_cases hk2 : 100 ≤ k
      · go_wp2_with fail
        refine (alive_any _).mono ?_
        rintro e w6 ⟨rfl, hb2⟩
        have hb3 := below_t hb hb2
        go_wp2_with fail
        go_ret
        exact ⟨rfl, hb3⟩
      · obtain ⟨x, hx⟩ : ∃ x, l[k]? = some x := ⟨_, List.getElem?_eq_getElem hlt⟩
        obtain ⟨ad, A2, c2, rfl, p0, p1, p2, p3, p4, hle2, hC2⟩ := at_Rc (Kd.C_below hC hb) hx
        have HX := Lib.hid hx
        clear hx
        by_cases hp40 : 40 < x.ps.length
        · go_wp2_with fail
          refine (alive_any _).mono ?_
          rintro e w6 ⟨rfl, hb2⟩
          have hb3 := below_t hb hb2
          go_wp2_with fail
          go_ret
          exact ⟨rfl, hb3⟩
        · go_wp2_with fail
          obtain ⟨wo, rfl⟩ : ∃ wo : World, wo = wr := ⟨_, rfl⟩
          go_loopw [4] (fun s4 wr => ∃ j : Nat, j ≤ x.ps.length ∧ s4 = .int .i64 j ∧ (∀ p ∈ x.ps.take j, p.a.size ≤ 2000) ∧ wr = wo) (fun s4 _ => x.ps.length - (intOf s4).toNat)
          case atStart => exact ⟨0, Nat.zero_le _, rfl, by simp, rfl⟩
          case round =>
            obtain ⟨j, hj, rfl, hsz, rfl⟩ := hrel
            by_cases hjl : j < x.ps.length
            · obtain ⟨y, hy⟩ : ∃ y, x.ps[j]? = some y := ⟨_, List.getElem?_eq_getElem hjl⟩
              obtain ⟨ad2, rfl, q0, q1⟩ := at_Pst hC2 hy
              have HY := Lib.hid hy
              have hym := (hs x (List.mem_of_getElem? HX.out)).2.2 y (List.mem_of_getElem? hy)
              clear hy
              by_cases h2k : 2000 < y.a.size
              · go_wp2_with fail
                refine (alive_any _).mono ?_
                rintro e w6 ⟨rfl, hb2⟩
                have hb3 := below_t hb hb2
                go_wp2_with fail
                go_ret
                exact ⟨rfl, hb3⟩
              · go_wp2_with fail
                go_roundw
                case rel =>
                  refine ⟨j + 1, by omega, by go_num, fun p hp => ?_, by first | rfl | trivial⟩
                  have := HY.out
                  rw [List.getElem?_eq_getElem hjl, Option.some.injEq] at this
                  rw [List.take_succ_eq_append_getElem hjl, List.mem_append, this] at hp
                  rcases hp with hp | hp
                  · exact hsz p hp
                  · simp only [List.mem_singleton] at hp
                    subst hp
                    omega
                case measure => simp [intOf]; omega
            · have hall : ∀ p ∈ x.ps, p.a.size ≤ 2000 := by rw [List.take_of_length_le (by omega)] at hsz; exact hsz
              go_wp2_with fail
              go_roundw
              case rel =>
                refine ⟨k + 1, by omega, by omega, by go_num, fun r hr => ?_, hb⟩
                have := HX.out
                rw [List.getElem?_eq_getElem hlt, Option.some.injEq] at this
                rw [List.take_succ_eq_append_getElem hlt, List.mem_append, this] at hr
                rcases hr with hr | hr
                · exact hsm r hr
                · simp only [List.mem_singleton] at hr
                  subst hr
                  exact ⟨by omega, hall⟩
              case measure => simp [intOf]; omega
    · have hall : ∀ r ∈ l, SmallP r := by rw [List.take_of_length_le (by omega)] at hsm; exact hsm
      have hC' := Kd.C_below hC hb
      go_wp2_with fail
      refine (Verify_any A c l hC' hs).mono ?_
      rintro e w6 ⟨rfl, hb2⟩
      have hb3 := below_t hb hb2
      have hC6 := C_recs (Kd.C_below hC' hb2)
      have hver := ver_f (l.map toR) (by simp; omega) (fun r hr => by
        obtain ⟨x, hx, rfl⟩ := List.mem_map.1 hr
        obtain ⟨a1, a2⟩ := hall x hx
        obtain ⟨b1, b2, _⟩ := hs x hx
        refine ⟨by simpa [toR] using a1, fun p hp => ?_, b1, b2⟩
        obtain ⟨q, hq, rfl⟩ := List.mem_map.1 hp
        exact a2 q hq)
      rw [ver_eq] at hver
      have hcalls := PAccountsVerifies.merinoref07_Verify.calls _ A c (l.map toR) _ w6 (by rw [List.length_map]; exact hC6) (by rw [List.length_map]; exact hle) hver
      rw [List.length_map] at hcalls
      go_wp2_with fail
      refine hcalls.mono ?_
      rintro e w7 ⟨rfl, hb4⟩
      have hb5 := below_t hb3 hb4
      clear hcalls hver hC6
      generalize verC 0 0 l = vv
      go_wp2_with fail
      refine (alive_any _).mono ?_
      rintro e w8 ⟨rfl, hb6⟩
      have hb7 := below_t hb5 hb6
      go_wp2_with fail
      go_ret
      exact ⟨rfl, hb7⟩
theorem verifies_law {w : World} (A : Option Addr) (c : Nat) (l : List Rc) (hle : l.length ≤ c) (_ : c ≤ 9223372036854775807) (hC : Kd.C kRc w A l.length l)
    (hg : ∀ x ∈ l, (Lit.int .i64 x.no).wf = true ∧ (Lit.int .i64 x.day).wf = true ∧ (x.ps.length ≤ 9223372036854775807 ∧ ∀ p ∈ x.ps, p.a.size ≤ 9223372036854775807 ∧ (Lit.int .i64 p.c).wf = true) ∧ (Lit.int .i64 x.rev).wf = true ∧ (Lit.int .u64 x.sum).wf = true) :
    Calls Try.prog 4 #[.slice A l.length c] w fun e w' => e = .returned (.bool true) ∧ Below w.heap.size w w' :=
  verifies_walk A c l hC hle (fun r hr => by
    obtain ⟨_, _, ⟨_, h3⟩, _, h5⟩ := hg r hr
    have h6 : IntKind.u64.min ≤ r.sum ∧ r.sum ≤ IntKind.u64.max := by simpa [Lit.wf] using h5
    have e1 : IntKind.u64.min = 0 := by decide
    have e2 : IntKind.u64.max = 18446744073709551615 := by decide
    have : 0 ≤ r.sum ∧ r.sum < 18446744073709551616 := by omega
    exact ⟨this.1, this.2, fun p hp => (h3 p hp).1⟩)
end Go.Proofs.Ytpmopdgnnlhplaa
