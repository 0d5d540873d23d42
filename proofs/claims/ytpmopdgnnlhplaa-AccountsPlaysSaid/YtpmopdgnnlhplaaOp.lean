/-
  The walks of New, Open, find, Balance, refuse.
-/
import Derived.Test.YtpmopdgnnlhplaaLd
namespace Go.Proofs.Ytpmopdgnnlhplaa
open Go.RowKit Go.Proofs.YtpmopdgnnlhplaaW.PrintWords
/-- w' is w but for blocks of F, and new ones; F' are F's and new ones. -/
def Upd (w : World) (F : Nat → Prop) (w' : World) (F' : Nat → Prop) : Prop := Fr F w w' ∧ ∀ b, F' b → F b ∨ w.heap.size ≤ b
set_option maxHeartbeats 400000 in
theorem new_any (w : World) : Calls Try.prog 25 #[] w fun e w' => e = .returned (.pointer (some ⟨w.heap.size + 2, 0, none⟩)) ∧ Below w.heap.size w w' ∧
    ∀ rows, LedH w' (fun b => w.heap.size ≤ b ∧ b < w.heap.size + 3) (w.heap.size + 2) (.slice none 0 0) w.heap.size (w.heap.size + 1) [] [] rows [] := by
  have hmm := @run_makeMap Try.prog
  go_enter Try.func25, Try.ntmps25
  go_wp2
  go_ret
  refine ⟨rfl, (((Below.refl _ w).alloc (Nat.le_refl _) _).alloc (by simp) _).alloc (by simp; omega) _, fun rows => ⟨?_, ?_, by omega, by omega, by omega, by omega, Kd.R_nil _ _ _ _ _, ?_, ?_, by simp, by simp⟩⟩
  · have := Blk.new ((w.alloc (.map #[] 0)).alloc (.map #[] 0)) #[.slice none 0 0, .map (some w.heap.size), .map (some (w.heap.size + 1))] 97
    simpa using this
  · intro b hb; simp; omega
  · exact ((KMap.new _ w).alloc _).alloc _
  · have := (KMap.new (κ := ByteArray) Value.string (w.alloc (.map #[] 0))).alloc (.cells #[.slice none 0 0, .map (some w.heap.size), .map (some (w.heap.size + 1))] 97)
    simpa [amapOf] using this
set_option maxHeartbeats 400000 in
theorem refuse_no (n : Int) (w : World) : Calls Try.prog 62 #[.bool false, .int .i64 n] w fun e w' => e = .returned (.tuple #[]) ∧ w = w' := by
  go_enter Try.func62, Try.ntmps62
  go_wp2
  go_end0
  exact ⟨rfl, rfl⟩
def refusal (n : Int) : List PanicEntry := [{ v := .iface 135 (.agg #[.int .i64 n]), recovered := false }]
set_option maxHeartbeats 400000 in
theorem refuse_yes (n : Int) (w : World) : Calls Try.prog 62 #[.bool true, .int .i64 n] w fun e w' => e = .panicked (refusal n) ∧ w = w' := by
  go_enter Try.func62, Try.ntmps62
  go_wp2
  exact ⟨rfl, rfl, rfl⟩
theorem refuse_no' {b : Bool} (n : Int) (w : World) (hb : b = false) : Calls Try.prog 62 #[.bool b, .int .i64 n] w fun e w' => e = .returned (.tuple #[]) ∧ w = w' := by subst hb; exact refuse_no n w
theorem refuse_yes' {b : Bool} (n : Int) (w : World) (hb : b = true) : Calls Try.prog 62 #[.bool b, .int .i64 n] w fun e w' => e = .panicked (refusal n) ∧ w = w' := by subst hb; exact refuse_yes n w
theorem zero103 (w : World) : (zeroValue 103).run Try.prog w = .ok (.pointer none) w := by kernel_rfl
theorem zero3 (w : World) : (zeroValue 3).run Try.prog w = .ok (.int .i64 0) w := by kernel_rfl
theorem zero4 (w : World) : (zeroValue 4).run Try.prog w = .ok (.bool false) w := by kernel_rfl
section
variable {w w' : World} {F F' : Nat → Prop} {g : Nat} {v : Value} {rm am : Nat} {accs : List AccE} {recs : List Rc} {rows : ByteArray → List Rw} {rl : List (Int × Value)}
theorem LedH.look (h : LedH w F g v rm am accs recs rows rl) (a : ByteArray) : (Instr.lookup 95 (.map (some am)) (.string a) false).run Try.prog w = .ok ((mget (amapOf accs) a).getD (.pointer none)) w :=
  h.amap.lookup ke_string Try.underlying95 Try.underlying9 zero103 a
theorem LedH.look_some (h : LedH w F g v rm am accs recs rows rl) {x : AccE} (hx : x ∈ accs) : (Instr.lookup 95 (.map (some am)) (.string x.name) false).run Try.prog w = .ok (.pointer (some ⟨x.blk, 0, none⟩)) w := by
  rw [h.look, amap_get h.nodup hx]; rfl
theorem LedH.look_none (h : LedH w F g v rm am accs recs rows rl) {a : ByteArray} (ha : a ∉ accs.map (·.name)) : (Instr.lookup 95 (.map (some am)) (.string a) false).run Try.prog w = .ok (.pointer none) w := by
  rw [h.look, amap_none ha]; rfl
end
def memB (l : List ByteArray) (n : ByteArray) : Bool := l.any fun m => decide (m = n)
theorem memB_iff {l : List ByteArray} {n : ByteArray} : memB l n = true ↔ n ∈ l := by
  unfold memB
  rw [List.any_eq_true]
  exact ⟨fun ⟨m, h1, h2⟩ => by have : m = n := by simpa using h2
                               rw [← this]; exact h1, fun h => ⟨n, h, by simp⟩⟩
theorem memB_not {l : List ByteArray} {n : ByteArray} : memB l n = false ↔ n ∉ l := by rw [← memB_iff]; simp
def openErr (accs : List AccE) (n : ByteArray) : Int := if nameB n = false then 2 else if memB (accs.map (·.name)) n then 8 else if 128 ≤ accs.length then 9 else 0
theorem eqp (w : World) (b : Nat) : (binOp .neq 103 (.pointer (some ⟨b, 0, none⟩)) (.pointer none)).run Try.prog w = .ok (.bool true) w := by kernel_rfl
set_option maxRecDepth 100000 in
set_option maxHeartbeats 1600000 in
theorem open_any {w : World} {F : Nat → Prop} {g : Nat} {v : Value} {rm am : Nat} {accs : List AccE} {recs : List Rc} {rows : ByteArray → List Rw} {rl : List (Int × Value)}
    (h : LedH w F g v rm am accs recs rows rl) (n : ByteArray) (hr : n ∉ accs.map (·.name) → rows n = []) :
    Calls Try.prog 26 #[.pointer (some ⟨g, 0, none⟩), .string n] w fun e w' => e = .returned (.int .i64 (openErr accs n)) ∧
      (openErr accs n ≠ 0 → Below w.heap.size w w') ∧
      (openErr accs n = 0 → ∃ F' nb, LedH w' F' g v rm am (accs ++ [⟨n, nb, .slice none 0 0⟩]) recs rows rl ∧ Upd w F w' F') := by
  have c2 := h.c2
  by_cases hn : nameB n = false
  · have HE := Lib.hid (show openErr accs n = 2 by simp [openErr, hn])
    go_enter Try.func26, Try.ntmps26
    go_wp2_with (go_at_call 58; refine (made_yes _ _ _ c2).mono ?_; rintro e w1 ⟨rfl, rfl⟩)
    refine (name_any n _).mono ?_
    rintro e w1 ⟨rfl, hb⟩
    rw [hn]
    go_wp2_with fail
    go_ret
    exact ⟨by rw [HE.out]; rfl, fun _ => hb, fun h0 => by rw [HE.out] at h0; cases h0⟩
  · have hn' : nameB n = true := by simpa using hn
    go_enter Try.func26, Try.ntmps26
    go_wp2_with (go_at_call 58; refine (made_yes _ _ _ c2).mono ?_; rintro e w1 ⟨rfl, rfl⟩)
    refine (name_any n _).mono ?_
    rintro e w1 ⟨rfl, hb⟩
    rw [hn']
    have h1 := h.below hb
    have d2 := h1.c2
    have HN := Lib.hid hn'
    clear hn hn' c2
    by_cases hm : n ∈ accs.map (·.name)
    · obtain ⟨x, hx, rfl⟩ := amap_of_mem hm
      have HE := Lib.hid (show openErr accs x.name = 8 by simp [openErr, HN.out, memB_iff.2 hm])
      have hl := h1.look_some hx
      have he := eqp w1 x.blk
      go_wp2_with fail
      go_ret
      exact ⟨by rw [HE.out]; rfl, fun _ => hb, fun h0 => by rw [HE.out] at h0; cases h0⟩
    · have hl := h1.look_none hm
      have hln := h1.amap.len (P := Try.prog) (t := 95) (ty := 3) Try.underlying95
      have hlen : (amapOf accs).length = accs.length := by simp [amapOf]
      rw [hlen] at hln
      by_cases hfull : 128 ≤ accs.length
      · have HE := Lib.hid (show openErr accs n = 9 by simp [openErr, HN.out, memB_not.2 hm, hfull])
        go_wp2_with fail
        go_ret
        exact ⟨by rw [HE.out]; rfl, fun _ => hb, fun h0 => by rw [HE.out] at h0; cases h0⟩
      · have HE := Lib.hid (show openErr accs n = 0 by simp [openErr, HN.out, memB_not.2 hm, hfull])
        have hma := h1.amap.alloc (.cells #[.slice none 0 0] 105)
        have hbl := Blk.new w1 #[.slice none 0 0] 105
        have hlt : ∀ b, F b → b < w.heap.size := h.fin
        have hsz := hb.size
        have h2 := h1.below ((Below.refl _ w1).alloc (Nat.le_refl _) (.cells #[.slice none 0 0] 105))
        have hF1 := (Fr.of_below hb F).alloc (.cells #[.slice none 0 0] 105)
        have hnb : ¬ F w1.heap.size := fun hf => by have := hlt _ hf; omega
        have hap : mput (amapOf accs) n (.pointer (some ⟨w1.heap.size, 0, none⟩)) = amapOf (accs ++ [⟨n, w1.heap.size, .slice none 0 0⟩]) := by
          rw [mput_new (amap_none hm)]; simp [amapOf]
        have HAP := Lib.hid hap
        clear hap
        go_wp2_with (at_mapUpdate; refine wpList_mapUpdate_k rfl _ _ _ 95 rfl ke_string hma Try.underlying95 Try.underlying9 rfl n rfl (.pointer (some ⟨w1.heap.size, 0, none⟩)) rfl ?_; intro w2 hm2 hf2 hs2)
        go_ret
        rw [HAP.out] at hm2
        refine ⟨by rw [HE.out]; rfl, fun h0 => absurd HE.out h0, fun _ => ⟨_, w1.heap.size, h2.opened hf2 hm2 hbl hnb (hr hm), hF1.trans hf2 (fun x hx => by subst hx; exact .inl h.fam), ?_⟩⟩
        rintro b (hb' | rfl)
        · exact .inl hb'
        · exact .inr hsz
end Go.Proofs.Ytpmopdgnnlhplaa
