/-
  Copy, and balances of a copy, over states.
-/
import Derived.Test.YtpmopdgnnlhplaaCz
import Derived.Test.YtpmopdgnnlhplaaRq
namespace Go.Proofs.Ytpmopdgnnlhplaa
open Go.RowKit Go.Proofs.YtpmopdgnnlhplaaW.PrintWords
def BalF (w : World) (F : Nat → Prop) (g : Nat) (s : St) : Prop :=
  ∃ am accs, LedB w F g am accs (fun a => rowsOf a s.r 0) ∧ (accs.map (·.name)).Perm s.n ∧ Sorted s.r
section
variable {w w' : World} {F G : Nat → Prop} {g : Nat} {s : St}
theorem BalF.below (h : BalF w F g s) (hb : Below w.heap.size w w') : BalF w' F g s := by
  obtain ⟨am, accs, h1, h2, h3⟩ := h
  exact ⟨am, accs, h1.below hb, h2, h3⟩
theorem BalF.fr (h : BalF w F g s) (hf : Fr G w w') (hd : ∀ b, F b → ¬ G b) : BalF w' F g s := by
  obtain ⟨am, accs, h1, h2, h3⟩ := h
  exact ⟨am, accs, h1.fr hf hd, h2, h3⟩
theorem Copy_led (h : LedF w F g s) : Calls Try.prog 35 #[.pointer (some ⟨g, 0, none⟩)] w fun e w' =>
    ∃ gc Fb, e = .returned (.pointer (some ⟨gc, 0, none⟩)) ∧ Below w.heap.size w w' ∧ (∀ b, Fb b → w.heap.size ≤ b) ∧ BalF w' Fb gc s ∧ LedF w' (fun b => F b ∨ Fb b) gc s := by
  obtain ⟨v, rm, am, accs, rl, h1, h2, h3⟩ := h
  refine (Copy_any h1 h3.len (fun a => Nat.le_trans (rowsOf_len _ _ _) h3.len)).mono ?_
  rintro e w' ⟨gc, Fb, vc, rmc, amc, accsc, rfl, hb, hF, hB, hp, hL⟩
  exact ⟨gc, Fb, rfl, hb, hF, ⟨amc, accsc, hB, hp.trans h2, h3.days⟩, ⟨vc, rmc, amc, accsc, rl, hL, hp.trans h2, h3⟩⟩
theorem Reverse_led2 (h : LedF w F g s) (n d : Int) :
    Calls Try.prog 36 #[.pointer (some ⟨g, 0, none⟩), .int .i64 n, .int .i64 d] w fun e w' => e = .returned (.tuple #[.int .i64 (reV s n d), .int .i64 (revErr s.r n d)]) ∧
      (revErr s.r n d ≠ 0 → Below w.heap.size w w') ∧ ∃ F', LedF w' F' g (reS s n d) ∧ Upd w F w' F' := by
  obtain ⟨v, rm, am, accs, rl, h1, h2, h3⟩ := h
  refine (Reverse_any h1 n d (h3.perm h2.symm)).mono ?_
  rintro e w' ⟨ha, hb⟩
  unfold reS reV
  by_cases h0 : revErr s.r n d = 0
  · obtain ⟨rfl, F', v', accs', hL, hn, hU⟩ := ha h0
    rw [if_pos h0, if_pos h0, h0]
    exact ⟨rfl, fun h9 => absurd rfl h9, F', ⟨v', rm, am, accs', _, hL, by rw [hn]; exact h2, h3.reversed h0⟩, hU⟩
  · obtain ⟨rfl, hb'⟩ := hb h0
    rw [if_neg h0, if_neg h0]
    exact ⟨rfl, fun _ => hb', F, ⟨v, rm, am, accs, rl, h1.below hb', h2, h3⟩, Upd.of_below hb' F⟩
end
section
variable {w : World} {F : Nat → Prop} {g am : Nat} {accs : List AccE} {rows : ByteArray → List Rw}
theorem LedB.nodup (h : LedB w F g am accs rows) : (accs.map (·.name)).Nodup := by
  have := h.amap.nodup
  rwa [amap_keys] at this
theorem LedB.look_some (h : LedB w F g am accs rows) {x : AccE} (hx : x ∈ accs) : (Instr.lookup 95 (.map (some am)) (.string x.name) false).run Try.prog w = .ok (.pointer (some ⟨x.blk, 0, none⟩)) w := by
  have := h.amap.lookup (P := Try.prog) ke_string Try.underlying95 Try.underlying9 zero103 x.name
  rw [this, amap_get h.nodup hx]; rfl
theorem LedB.look_none (h : LedB w F g am accs rows) {a : ByteArray} (ha : a ∉ accs.map (·.name)) : (Instr.lookup 95 (.map (some am)) (.string a) false).run Try.prog w = .ok (.pointer none) w := by
  have := h.amap.lookup (P := Try.prog) ke_string Try.underlying95 Try.underlying9 zero103 a
  rw [this, amap_none ha]; rfl
set_option maxHeartbeats 400000 in
theorem findB_some (h : LedB w F g am accs rows) {x : AccE} (hx : x ∈ accs) :
    Calls Try.prog 65 #[.pointer (some ⟨g, 0, none⟩), .string x.name] w fun e w' => e = .returned (.tuple #[.pointer (some ⟨x.blk, 0, none⟩), .int .i64 0]) ∧ w = w' := by
  obtain ⟨v, rm, hblk⟩ := h.blk
  have c2 := hblk.cell 2 (v := .map (some am)) rfl
  have hl := h.look_some hx
  have he := eqp' w x.blk
  go_enter Try.func65, Try.ntmps65
  go_wp2_with (go_at_call 58; refine (made_yes _ _ _ c2).mono ?_; rintro e w1 ⟨rfl, rfl⟩)
  go_ret2
  exact ⟨rfl, rfl⟩
set_option maxHeartbeats 400000 in
theorem findB_none (h : LedB w F g am accs rows) {a : ByteArray} (ha : a ∉ accs.map (·.name)) :
    Calls Try.prog 65 #[.pointer (some ⟨g, 0, none⟩), .string a] w fun e w' => e = .returned (.tuple #[.pointer none, .int .i64 7]) ∧ w = w' := by
  obtain ⟨v, rm, hblk⟩ := h.blk
  have c2 := hblk.cell 2 (v := .map (some am)) rfl
  have hl := h.look_none ha
  go_enter Try.func65, Try.ntmps65
  go_wp2_with (go_at_call 58; refine (made_yes _ _ _ c2).mono ?_; rintro e w1 ⟨rfl, rfl⟩)
  go_ret2
  exact ⟨rfl, rfl⟩
set_option maxHeartbeats 800000 in
theorem BalanceB_any (h : LedB w F g am accs rows) (a : ByteArray) (d : Int) :
    Calls Try.prog 29 #[.pointer (some ⟨g, 0, none⟩), .string a, .int .i64 d] w fun e w' => e = .returned (.tuple #[.int .i64 (balVal accs rows a d), .int .i64 (balErr accs a d)]) ∧ Below w.heap.size w w' := by
  by_cases hm : a ∈ accs.map (·.name)
  · obtain ⟨x, hx, rfl⟩ := amap_of_mem hm
    obtain ⟨h1, h2, h3⟩ := h.haccs x hx
    cases hd : dayB d with
    | false =>
      have HE := Lib.hid (show balErr accs x.name d = 2 by simp [balErr, memB_iff.2 hm, hd])
      have HV := Lib.hid (show balVal accs rows x.name d = 0 by simp [balVal, HE.out])
      have HD := Lib.hid hd
      clear hd
      go_enter Try.func29, Try.ntmps29
      go_wp2_with (go_at_call 65; refine (findB_some h hx).mono ?_; rintro e w1 ⟨rfl, rfl⟩)
      refine (day_any d _).mono ?_
      rintro e w1 ⟨rfl, rfl⟩
      rw [HD.out]
      go_wp2_with fail
      go_ret2
      exact ⟨by rw [HE.out, HV.out]; rfl, Below.refl _ _⟩
    | true =>
      have HE := Lib.hid (show balErr accs x.name d = 0 by simp [balErr, memB_iff.2 hm, hd])
      have HV := Lib.hid (show balVal accs rows x.name d = uptoR d (rows x.name) 0 by simp [balVal, HE.out])
      have HD := Lib.hid hd
      clear hd
      go_enter Try.func29, Try.ntmps29
      go_wp2_with (go_at_call 65; refine (findB_some h hx).mono ?_; rintro e w1 ⟨rfl, rfl⟩)
      refine (day_any d _).mono ?_
      rintro e w1 ⟨rfl, rfl⟩
      rw [HD.out]
      go_wp2_with fail
      refine (upto_any _ _ 0 F _ _ d h2 h3).mono ?_
      rintro e w1 ⟨rfl, hb⟩
      go_wp2_with fail
      go_ret2
      exact ⟨by rw [HE.out, HV.out]; rfl, hb⟩
  · have HE := Lib.hid (show balErr accs a d = 7 by simp [balErr, memB_not.2 hm])
    have HV := Lib.hid (show balVal accs rows a d = 0 by simp [balVal, HE.out])
    go_enter Try.func29, Try.ntmps29
    go_wp2_with (go_at_call 65; refine (findB_none h hm).mono ?_; rintro e w1 ⟨rfl, rfl⟩)
    go_ret2
    exact ⟨by rw [HE.out, HV.out]; rfl, Below.refl _ _⟩
end
theorem Balance_bal {w : World} {F : Nat → Prop} {g : Nat} {s : St} (h : BalF w F g s) (a : ByteArray) (d : Int) :
    Calls Try.prog 29 #[.pointer (some ⟨g, 0, none⟩), .string a, .int .i64 d] w fun e w' => e = .returned (.tuple #[.int .i64 (baV s a d), .int .i64 (baE s a d)]) ∧ Below w.heap.size w w' := by
  obtain ⟨am, accs, h1, h2, h3⟩ := h
  refine (BalanceB_any h1 a d).mono ?_
  have he : balErr accs a d = baE s a d := by unfold balErr baE; rw [memB_perm h2]
  have hv : balVal accs (fun a => rowsOf a s.r 0) a d = baV s a d := by
    unfold balVal baV
    rw [he]
    by_cases h0 : baE s a d = 0
    · rw [if_pos h0, if_pos h0, uptoR_rows d a h3, Int.zero_add]
    · rw [if_neg h0, if_neg h0]
  rw [he, hv]
  exact fun e w' h => h
end Go.Proofs.Ytpmopdgnnlhplaa
