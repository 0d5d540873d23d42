/-
  The walks of New, Open, find, Balance, refuse.
  The walks of find, Balance, last.
  The walks of why, and of the deferred closures that recover.
  The walks of Clone and enter.
-/
import Derived.Test.YtcobihdjcdefmaaQLd
import Derived.StillTailTactics
import Derived.Recover
import Derived.Deep.LoopGhost
namespace Go.Proofs.Ytcobihdjcdefmaa
open Go.RowKit Go.Proofs.YtcobihdjcdefmaaW.PrintWords
/-- Rows of postings (type 50) are as they were. -/
def K36 (w w' : World) : Prop := ∀ (b : Nat) (cells : Array Value) (fz : Nat × Nat), w.heap[b]? = some (.cells cells 50 fz) → w'.heap[b]? = w.heap[b]?
theorem K36.refl (w : World) : K36 w w := fun _ _ _ _ => rfl
theorem K36.trans {a b c : World} (h : K36 a b) (k : K36 b c) : K36 a c := fun x cells fz hx => (k x cells fz ((h x cells fz hx).trans hx)).trans (h x cells fz hx)
theorem K36.of_below {a b : World} (h : Below a.heap.size a b) : K36 a b := fun x _ _ hx => h.block x (lt_heap hx)
/-- What turned is no row of postings, or new. -/
theorem K36.fr {a b c : World} {G : Nat → Prop} (h : K36 a b) (hf : Fr G b c) (hG : ∀ k, G k → a.heap.size ≤ k ∨ ∀ cells fz, b.heap[k]? ≠ some (.cells cells 50 fz)) : K36 a c := fun x cells fz hx => by
  have hb := h x cells fz hx
  refine (hf.block x (lt_heap (hb.trans hx)) fun hg => ?_).trans hb
  rcases hG x hg with h1 | h1
  · have := lt_heap hx; omega
  · exact h1 cells fz (hb.trans hx)
theorem K36.below {a b c : World} (h : K36 a b) (hb : Below b.heap.size b c) : K36 a c := h.trans (K36.of_below hb)
theorem not36 {w : World} {k t : Nat} {cs : Array Value} {fz : Nat × Nat} (h : w.heap[k]? = some (.cells cs t fz)) (ht : t ≠ 50) : ∀ cells f, w.heap[k]? ≠ some (.cells cells 50 f) := fun cells f e => by
  rw [h] at e
  simp only [Option.some.injEq, Obj.cells.injEq] at e
  exact ht e.2.1
theorem KMap.not36 {κ : Type} {enc : κ → Value} {w : World} {r : Nat} {l : List (κ × Value)} (h : KMap enc w r l) : ∀ cells f, w.heap[r]? ≠ some (.cells cells 50 f) := fun _ _ e => h.not_cells e rfl
theorem fr_cell (w : World) (p : Addr) (u : Value) : Fr (· = p.block) w (w.setCell p u) := (Fr.refl (· = p.block) w).setCell (.inl rfl) u
theorem fr_grown {w w' : World} {row : Option Nat} (hg : w.grownBy w' row) : Fr (fun k => row = some k) w w' := (Fr.refl (fun k => row = some k) w).grown hg (fun _ hk => .inl hk)
/-- w' is w but for blocks of F, and new ones; F' are F's and new ones. -/
structure Upd (w : World) (F : Nat → Prop) (w' : World) (F' : Nat → Prop) : Prop where
  fr : Fr F w w'
  new : ∀ b, F' b → F b ∨ w.heap.size ≤ b
  keep : K36 w w'
set_option maxHeartbeats 400000 in
theorem new_any (w : World) : Calls Try.prog 22 #[] w fun e w' => e = .returned (.pointer (some ⟨w.heap.size + 2, 0, none⟩)) ∧ Below w.heap.size w w' ∧
    ∀ rows, LedH w' (fun b => w.heap.size ≤ b ∧ b < w.heap.size + 3) (w.heap.size + 2) (.slice none 0 0) w.heap.size (w.heap.size + 1) [] [] rows [] := by
  have hmm := @run_makeMap Try.prog
  go_enter Try.func22, Try.ntmps22
  go_wp2
  go_ret
  refine ⟨rfl, (((Below.refl _ w).alloc (Nat.le_refl _) _).alloc (by simp) _).alloc (by simp; omega) _, fun rows => ⟨?_, ?_, by omega, by omega, by omega, by omega, Kd.R_nil _ _ _ _ _, ?_, ?_, by simp, by simp⟩⟩
  · have := Blk.new ((w.alloc (.map #[] 0)).alloc (.map #[] 0)) #[.slice none 0 0, .map (some w.heap.size), .map (some (w.heap.size + 1))] 85
    simpa using this
  · intro b hb; simp; omega
  · exact ((KMap.new _ w).alloc _).alloc _
  · have := (KMap.new (κ := ByteArray) Value.string (w.alloc (.map #[] 0))).alloc (.cells #[.slice none 0 0, .map (some w.heap.size), .map (some (w.heap.size + 1))] 85)
    simpa [amapOf] using this
set_option maxHeartbeats 400000 in
theorem refuse_no (n : Int) (w : World) : Calls Try.prog 48 #[.bool false, .int .i64 n] w fun e w' => e = .returned (.tuple #[]) ∧ w = w' := by
  go_enter Try.func48, Try.ntmps48
  go_wp2
  go_end0
  exact ⟨rfl, rfl⟩
def refusal (n : Int) : List PanicEntry := [{ v := .iface 127 (.agg #[.int .i64 n]), recovered := false }]
set_option maxHeartbeats 400000 in
theorem refuse_yes (n : Int) (w : World) : Calls Try.prog 48 #[.bool true, .int .i64 n] w fun e w' => e = .panicked (refusal n) ∧ w = w' := by
  go_enter Try.func48, Try.ntmps48
  go_wp2
  exact ⟨rfl, rfl, rfl⟩
theorem refuse_no' {b : Bool} (n : Int) (w : World) (hb : b = false) : Calls Try.prog 48 #[.bool b, .int .i64 n] w fun e w' => e = .returned (.tuple #[]) ∧ w = w' := by subst hb; exact refuse_no n w
theorem refuse_yes' {b : Bool} (n : Int) (w : World) (hb : b = true) : Calls Try.prog 48 #[.bool b, .int .i64 n] w fun e w' => e = .panicked (refusal n) ∧ w = w' := by subst hb; exact refuse_yes n w
theorem zero103 (w : World) : (zeroValue 87).run Try.prog w = .ok (.pointer none) w := by kernel_rfl
theorem zero3 (w : World) : (zeroValue 3).run Try.prog w = .ok (.int .i64 0) w := by kernel_rfl
section
variable {w w' : World} {F F' : Nat → Prop} {g : Nat} {v : Value} {rm am : Nat} {accs : List AccE} {recs : List Rc} {rows : ByteArray → List Rw} {rl : List (Int × Value)}
theorem LedH.look (h : LedH w F g v rm am accs recs rows rl) (a : ByteArray) : (Instr.lookup 83 (.map (some am)) (.string a) false).run Try.prog w = .ok ((mget (amapOf accs) a).getD (.pointer none)) w :=
  h.amap.lookup ke_string Try.underlying83 Try.underlying9 zero103 a
theorem LedH.look_some (h : LedH w F g v rm am accs recs rows rl) {x : AccE} (hx : x ∈ accs) : (Instr.lookup 83 (.map (some am)) (.string x.name) false).run Try.prog w = .ok (.pointer (some ⟨x.blk, 0, none⟩)) w := by
  rw [h.look, amap_get h.nodup hx]; rfl
theorem LedH.look_none (h : LedH w F g v rm am accs recs rows rl) {a : ByteArray} (ha : a ∉ accs.map (·.name)) : (Instr.lookup 83 (.map (some am)) (.string a) false).run Try.prog w = .ok (.pointer none) w := by
  rw [h.look, amap_none ha]; rfl
end
def memB (l : List ByteArray) (n : ByteArray) : Bool := l.any fun m => decide (m = n)
theorem memB_iff {l : List ByteArray} {n : ByteArray} : memB l n = true ↔ n ∈ l := by
  unfold memB
  rw [List.any_eq_true]
  exact ⟨fun ⟨m, h1, h2⟩ => by have : m = n := by simpa using h2
                               rw [← this]; exact h1, fun h => ⟨n, h, by simp⟩⟩
theorem memB_not {l : List ByteArray} {n : ByteArray} : memB l n = false ↔ n ∉ l := by rw [← memB_iff]; simp
def openErr (accs : List AccE) (n : ByteArray) : Int := if nameB n = false then 2 else if memB (accs.map (·.name)) n then 8 else if 128 ≤ accs.length then 9 else 0
theorem eqp (w : World) (b : Nat) : (binOp .neq 87 (.pointer (some ⟨b, 0, none⟩)) (.pointer none)).run Try.prog w = .ok (.bool true) w := by kernel_rfl
set_option maxRecDepth 100000 in
set_option maxHeartbeats 1600000 in
theorem open_any {w : World} {F : Nat → Prop} {g : Nat} {v : Value} {rm am : Nat} {accs : List AccE} {recs : List Rc} {rows : ByteArray → List Rw} {rl : List (Int × Value)}
    (h : LedH w F g v rm am accs recs rows rl) (n : ByteArray) (hr : n ∉ accs.map (·.name) → rows n = []) :
    Calls Try.prog 23 #[.pointer (some ⟨g, 0, none⟩), .string n] w fun e w' => e = .returned (.int .i64 (openErr accs n)) ∧
      (openErr accs n ≠ 0 → Below w.heap.size w w') ∧
      (openErr accs n = 0 → ∃ F' nb, LedH w' F' g v rm am (accs ++ [⟨n, nb, .slice none 0 0⟩]) recs rows rl ∧ Upd w F w' F') := by
  have c2 := h.c2
  by_cases hn : nameB n = false
  · have HE := Lib.hid (show openErr accs n = 2 by simp [openErr, hn])
    go_enter Try.func23, Try.ntmps23
    go_wp2_with (go_at_call 44; refine (made_yes _ _ _ c2).mono ?_; rintro e w1 ⟨rfl, rfl⟩)
    refine (name_any n _).mono ?_
    rintro e w1 ⟨rfl, hb⟩
    rw [hn]
    go_wp2_with fail
    go_ret
    exact ⟨by rw [HE.out]; rfl, fun _ => hb, fun h0 => by rw [HE.out] at h0; cases h0⟩
  · have hn' : nameB n = true := by simpa using hn
    go_enter Try.func23, Try.ntmps23
    go_wp2_with (go_at_call 44; refine (made_yes _ _ _ c2).mono ?_; rintro e w1 ⟨rfl, rfl⟩)
    refine (name_any n _).mono ?_
    rintro e w1 ⟨rfl, hb⟩
    rw [hn']
    have h1 := h.below hb
    have d2 := h1.c2
    have HN := Lib.hid hn'
    clear hn hn' c2
    by_cases hm : n ∈ accs.map (·.name)
    · obtain ⟨x, hx, rfl⟩ := amap_of_mem hm
      have HE := Lib.hid (show openErr accs x.name = 8 by simp [openErr, HN.out, memB_iff.2 hm])
      have hl := h1.look_some hx
      have he := eqp w1 x.blk
      go_wp2_with fail
      go_ret
      exact ⟨by rw [HE.out]; rfl, fun _ => hb, fun h0 => by rw [HE.out] at h0; cases h0⟩
    · have hl := h1.look_none hm
      have hln := h1.amap.len (P := Try.prog) (t := 83) (ty := 3) Try.underlying83
      have hlen : (amapOf accs).length = accs.length := by simp [amapOf]
      rw [hlen] at hln
      by_cases hfull : 128 ≤ accs.length
      · have HE := Lib.hid (show openErr accs n = 9 by simp [openErr, HN.out, memB_not.2 hm, hfull])
        go_wp2_with fail
        go_ret
        exact ⟨by rw [HE.out]; rfl, fun _ => hb, fun h0 => by rw [HE.out] at h0; cases h0⟩
      · have HE := Lib.hid (show openErr accs n = 0 by simp [openErr, HN.out, memB_not.2 hm, hfull])
        have hma := h1.amap.alloc (.cells #[.slice none 0 0] 90)
        have hbl := Blk.new w1 #[.slice none 0 0] 90
        have hlt : ∀ b, F b → b < w.heap.size := h.fin
        have hsz := hb.size
        have h2 := h1.below ((Below.refl _ w1).alloc (Nat.le_refl _) (.cells #[.slice none 0 0] 90))
        have hF1 := (Fr.of_below hb F).alloc (.cells #[.slice none 0 0] 90)
        have hnb : ¬ F w1.heap.size := fun hf => by have := hlt _ hf; omega
        have hap : mput (amapOf accs) n (.pointer (some ⟨w1.heap.size, 0, none⟩)) = amapOf (accs ++ [⟨n, w1.heap.size, .slice none 0 0⟩]) := by
          rw [mput_new (amap_none hm)]; simp [amapOf]
        have HAP := Lib.hid hap
        clear hap
        go_wp2_with (at_mapUpdate; refine wpList_mapUpdate_k rfl _ _ _ 83 rfl ke_string hma Try.underlying83 Try.underlying9 rfl n rfl (.pointer (some ⟨w1.heap.size, 0, none⟩)) rfl ?_; intro w2 hm2 hf2 hs2)
        go_ret
        rw [HAP.out] at hm2
        refine ⟨by rw [HE.out]; rfl, fun h0 => absurd HE.out h0, fun _ => ⟨_, w1.heap.size, h2.opened hf2 hm2 hbl hnb (hr hm), hF1.trans hf2 (fun x hx => by subst hx; exact .inl h.fam), ?_, ((K36.of_below hb).below ((Below.refl _ w1).alloc (Nat.le_refl _) _)).fr hf2 (fun x hx => by subst hx; exact .inr hma.not36)⟩⟩
        rintro b (hb' | rfl)
        · exact .inl hb'
        · exact .inr hsz
end Go.Proofs.Ytcobihdjcdefmaa
namespace Go.Proofs.Ytcobihdjcdefmaa
open Go.RowKit Go.Proofs.YtcobihdjcdefmaaW.PrintWords
section
variable {w : World} {F : Nat → Prop} {g : Nat} {v : Value} {rm am : Nat} {accs : List AccE} {recs : List Rc} {rows : ByteArray → List Rw} {rl : List (Int × Value)}
theorem eqp' (w : World) (b : Nat) : (binOp .eql 87 (.pointer (some ⟨b, 0, none⟩)) (.pointer none)).run Try.prog w = .ok (.bool false) w := by kernel_rfl
set_option maxHeartbeats 400000 in
theorem find_some (h : LedH w F g v rm am accs recs rows rl) {x : AccE} (hx : x ∈ accs) :
    Calls Try.prog 51 #[.pointer (some ⟨g, 0, none⟩), .string x.name] w fun e w' => e = .returned (.tuple #[.pointer (some ⟨x.blk, 0, none⟩), .int .i64 0]) ∧ w = w' := by
  have c2 := h.c2
  have hl := h.look_some hx
  have he := eqp' w x.blk
  go_enter Try.func51, Try.ntmps51
  go_wp2_with (go_at_call 44; refine (made_yes _ _ _ c2).mono ?_; rintro e w1 ⟨rfl, rfl⟩)
  go_ret2
  exact ⟨rfl, rfl⟩
set_option maxHeartbeats 400000 in
theorem find_none (h : LedH w F g v rm am accs recs rows rl) {a : ByteArray} (ha : a ∉ accs.map (·.name)) :
    Calls Try.prog 51 #[.pointer (some ⟨g, 0, none⟩), .string a] w fun e w' => e = .returned (.tuple #[.pointer none, .int .i64 7]) ∧ w = w' := by
  have c2 := h.c2
  have hl := h.look_none ha
  go_enter Try.func51, Try.ntmps51
  go_wp2_with (go_at_call 44; refine (made_yes _ _ _ c2).mono ?_; rintro e w1 ⟨rfl, rfl⟩)
  go_ret2
  exact ⟨rfl, rfl⟩
def balErr (accs : List AccE) (a : ByteArray) (d : Int) : Int := if memB (accs.map (·.name)) a = false then 7 else if dayB d = false then 2 else 0
def balVal (accs : List AccE) (rows : ByteArray → List Rw) (a : ByteArray) (d : Int) : Int := if balErr accs a d = 0 then uptoR d (rows a) 0 else 0
set_option maxHeartbeats 800000 in
theorem Balance_any (h : LedH w F g v rm am accs recs rows rl) (a : ByteArray) (d : Int) :
    Calls Try.prog 25 #[.pointer (some ⟨g, 0, none⟩), .string a, .int .i64 d] w fun e w' => e = .returned (.tuple #[.int .i64 (balVal accs rows a d), .int .i64 (balErr accs a d)]) ∧ Below w.heap.size w w' := by
  by_cases hm : a ∈ accs.map (·.name)
  · obtain ⟨x, hx, rfl⟩ := amap_of_mem hm
    obtain ⟨h1, h2, h3⟩ := h.haccs x hx
    cases hd : dayB d with
    | false =>
      have HE := Lib.hid (show balErr accs x.name d = 2 by simp [balErr, memB_iff.2 hm, hd])
      have HV := Lib.hid (show balVal accs rows x.name d = 0 by simp [balVal, HE.out])
      have HD := Lib.hid hd
      clear hd
      go_enter Try.func25, Try.ntmps25
      go_wp2_with (go_at_call 51; refine (find_some h hx).mono ?_; rintro e w1 ⟨rfl, rfl⟩)
      refine (day_any d _).mono ?_
      rintro e w1 ⟨rfl, rfl⟩
      rw [HD.out]
      go_wp2_with fail
      go_ret2
      exact ⟨by rw [HE.out, HV.out]; rfl, Below.refl _ _⟩
    | true =>
      have HE := Lib.hid (show balErr accs x.name d = 0 by simp [balErr, memB_iff.2 hm, hd])
      have HV := Lib.hid (show balVal accs rows x.name d = uptoR d (rows x.name) 0 by simp [balVal, HE.out])
      have HD := Lib.hid hd
      clear hd
      go_enter Try.func25, Try.ntmps25
      go_wp2_with (go_at_call 51; refine (find_some h hx).mono ?_; rintro e w1 ⟨rfl, rfl⟩)
      refine (day_any d _).mono ?_
      rintro e w1 ⟨rfl, rfl⟩
      rw [HD.out]
      go_wp2_with fail
      refine (upto_any _ _ 0 F _ _ d h2 h3).mono ?_
      rintro e w1 ⟨rfl, hb⟩
      go_wp2_with fail
      go_ret2
      exact ⟨by rw [HE.out, HV.out]; rfl, hb⟩
  · have HE := Lib.hid (show balErr accs a d = 7 by simp [balErr, memB_not.2 hm])
    have HV := Lib.hid (show balVal accs rows a d = 0 by simp [balVal, HE.out])
    go_enter Try.func25, Try.ntmps25
    go_wp2_with (go_at_call 51; refine (find_none h hm).mono ?_; rintro e w1 ⟨rfl, rfl⟩)
    go_ret2
    exact ⟨by rw [HE.out, HV.out]; rfl, Below.refl _ _⟩
end
def recV (r : Rc) (A : Option Addr) (c : Nat) : Value := .agg #[.int .i64 r.no, .int .i64 r.day, .slice A r.ps.length c, .int .i64 r.rev, .int .u64 r.sum]
set_option maxHeartbeats 800000 in
theorem last_nil (w : World) (g : Nat) (A : Option Addr) (c : Nat) (hc : w.cell? ⟨g, 0, none⟩ = some (.slice A 0 c)) :
    Calls Try.prog 49 #[.pointer (some ⟨g, 0, none⟩)] w fun e w' => e = .returned (recV ⟨0, 0, [], 0, 0⟩ none 0) ∧ Below w.heap.size w w' := by
  have hg : g < w.heap.size := World.block_lt_of_cell? w _ hc
  go_enter Try.func49, Try.ntmps49
  go_wp2
  refine bodyPost_ret (v := recV ⟨0, 0, [], 0, 0⟩ none 0) (by simp [results, Try.results49, go_sem, recV]) rfl ⟨rfl, (Below.refl _ _).alloc (Nat.le_refl _) _⟩
set_option maxRecDepth 100000 in
set_option maxHeartbeats 800000 in
theorem last_some (w : World) (g : Nat) (A : Option Addr) (c : Nat) (recs : List Rc) (r : Rc) (hc : w.cell? ⟨g, 0, none⟩ = some (.slice A recs.length c)) (hr : Kd.C kRc w A recs.length recs) (hl : recs[recs.length - 1]? = some r) :
    Calls Try.prog 49 #[.pointer (some ⟨g, 0, none⟩)] w fun e w' => (∃ A c, e = .returned (recV r A c)) ∧ Below w.heap.size w w' := by
  have hpos : recs.length - 1 < recs.length := (List.getElem?_eq_some_iff.1 hl).1
  obtain ⟨ad, A2, c2, rfl, r0, r1, r2, r3, r4, _, _⟩ := at_Rc hr hl
  have hlen := hr.2.1
  clear hr hl
  have hne : ((recs.length : Int) == 0) = false := beq_eq_false_iff_ne.2 (by omega)
  have hi0 : (0 : Int) ≤ (recs.length : Int) - 1 := by omega
  have hi1 : (recs.length : Int) - 1 < (recs.length : Int) := by omega
  have hi2 : ((recs.length : Int) - 1).toNat = recs.length - 1 := by omega
  have hg : g < w.heap.size := World.block_lt_of_cell? w _ hc
  have hg0 := World.block_lt_of_cell? w _ r0
  have hg1 := World.block_lt_of_cell? w _ r1
  generalize recs.length = n at *
  go_enter Try.func49, Try.ntmps49
  go_wp2
  have hwr : IntKind.i64.wrap ((n : Int) - 1) = (n : Int) - 1 := IntWalk.i64_in _ (by omega)
  have hn1 : (1 : Int) ≤ (n : Int) := by omega
  have hgne : g ≠ w.heap.size := by omega
  have hane : (ad.add ((n - 1) * 5)).block ≠ w.heap.size := by omega
  go_region_held3 (fun w' => w'.cell? ⟨g, 0, none⟩ = some (.slice (some ad) n c) ∧ w'.cell? (ad.add ((n - 1) * 5)) = some (.int .i64 r.no) ∧ w'.cell? ⟨(ad.add ((n - 1) * 5)).block, (ad.add ((n - 1) * 5)).off + 1, none⟩ = some (.int .i64 r.day) ∧ w'.cell? ⟨(ad.add ((n - 1) * 5)).block, (ad.add ((n - 1) * 5)).off + 2, none⟩ = some (.slice A2 r.ps.length c2) ∧ w'.cell? ⟨(ad.add ((n - 1) * 5)).block, (ad.add ((n - 1) * 5)).off + 3, none⟩ = some (.int .i64 r.rev) ∧ w'.cell? ⟨(ad.add ((n - 1) * 5)).block, (ad.add ((n - 1) * 5)).off + 4, none⟩ = some (.int .u64 r.sum))
    (first | go_keep) (first | fail)
  go_wp2
  refine bodyPost_ret (v := recV r A2 c2) (by simp [results, Try.results49, go_sem, recV]) rfl ⟨⟨A2, c2, rfl⟩, ((Below.refl _ _).alloc (Nat.le_refl _) _).drew⟩
theorem last_any {w : World} {g : Nat} {base : Nat} {ok : Nat → Prop} {v : Value} {recs : List Rc} (hc : w.cell? ⟨g, 0, none⟩ = some v) (hr : Kd.R kRc 94 w base ok v recs) :
    Calls Try.prog 49 #[.pointer (some ⟨g, 0, none⟩)] w fun e w' => (∃ (n : Nat) (A : Option Addr) (c : Nat) (rev no : Int), e = .returned (.agg #[.int .i64 no, .int .i64 (lastDay recs), .slice A n c, .int .i64 rev, .int .u64 (lastSum recs)])) ∧ Below w.heap.size w w' := by
  obtain ⟨A, c, rfl, hl, hC⟩ := Kd.R_reads hr
  rcases List.eq_nil_or_concat recs with rfl | ⟨rs, r, rfl⟩
  · exact (last_nil w g A c hc).mono fun e w' h => ⟨⟨_, _, _, _, _, h.1⟩, h.2⟩
  · refine (last_some w g A c _ r hc hC (by simp)).mono fun e w' h => ?_
    obtain ⟨⟨A', c', h1⟩, h2⟩ := h
    refine ⟨⟨r.ps.length, A', c', r.rev, r.no, ?_⟩, h2⟩
    simpa [lastDay, lastSum, recV] using h1
theorem fld34_4 (no day rev sum : Int) (A : Option Addr) (n c : Nat) (w : World) : (Instr.field 94 (.agg #[.int .i64 no, .int .i64 day, .slice A n c, .int .i64 rev, .int .u64 sum]) 4).run Try.prog w = .ok (.int .u64 sum) w := by kernel_rfl
theorem fld34_1 (no day rev sum : Int) (A : Option Addr) (n c : Nat) (w : World) : (Instr.field 94 (.agg #[.int .i64 no, .int .i64 day, .slice A n c, .int .i64 rev, .int .u64 sum]) 1).run Try.prog w = .ok (.int .i64 day) w := by kernel_rfl
end Go.Proofs.Ytcobihdjcdefmaa
namespace Go.Proofs.Ytcobihdjcdefmaa
open Go.RowKit Go.Proofs.YtcobihdjcdefmaaW.PrintWords
set_option maxHeartbeats 400000 in
theorem why_nil (n : Int) (w : World) : Calls Try.prog 47 #[.nilIface, .int .i64 n] w fun e w' => e = .returned (.int .i64 n) ∧ w = w' := by
  go_enter Try.func47, Try.ntmps47
  go_wp2
  go_ret
  exact ⟨rfl, rfl⟩
set_option maxHeartbeats 400000 in
theorem why_ref (m n : Int) (w : World) : Calls Try.prog 47 #[.iface 127 (.agg #[.int .i64 m]), .int .i64 n] w fun e w' => e = .returned (.int .i64 m) ∧ w.alloc (.cells #[.int .i64 m] 127) = w' := by
  have h1 : ∀ w, (binOp .eql 20 (.iface 127 (.agg #[.int .i64 m])) .nilIface).run Try.prog w = .ok (.bool false) w := fun w => by kernel_rfl
  have h2 : ∀ w, (Instr.typeAssert (.iface 127 (.agg #[.int .i64 m])) 20 127 true).run Try.prog w = .ok (.tuple #[.agg #[.int .i64 m], .bool true]) w := fun w => by kernel_rfl
  go_enter Try.func47, Try.ntmps47
  go_wp2
  go_ret
  exact ⟨rfl, rfl⟩
/-! ### A region with recover that draws its order -/
theorem wpS_region_draw {P : Program} {id : Nat} {ops : Array Oper} {Q : Exit → Act → List Frame → World → Prop} {a : Act} {cs : List Frame} {w : World}
    (h : ∀ t, wpOpsS P ops Q (Region.schedule (P.follows .mixedOrders) ops t) a cs w.drew) : (Code.region id ops true).wpS P Q a cs w :=
  fun b k hb hr => let ⟨e, a', cs', w', q, r⟩ := wp_opsS _ a cs _ (h (w.tape w.drawn (.order b.fn id))) b k hb hr; ⟨e, a', cs', w', q, .of_steps (.one step_region_draw) r⟩
theorem go_step (md : Region.Mode) (ops : Array Oper) (fuel t : Nat) (listed : Array Bool) (acc : List Nat) :
    Region.linearise.go md ops (fuel + 1) t listed acc = match (Region.ready md ops listed)[t % (Region.ready md ops listed).length]? with
      | some i => Region.linearise.go md ops fuel (t / (Region.ready md ops listed).length) (listed.setIfInBounds i true) (i :: acc)
      | none => acc.reverse := rfl
theorem sched2 (ops : Array Oper) (h0 : Region.ready .any ops #[false, false, false, false] = [0, 1]) (h1 : Region.ready .any ops #[true, false, false, false] = [1])
    (h2 : Region.ready .any ops #[false, true, false, false] = [0]) (h3 : Region.ready .any ops #[true, true, false, false] = [2]) (h4 : Region.ready .any ops #[true, true, true, false] = [3]) (t : Nat) :
    Region.linearise.go .any ops 4 t #[false, false, false, false] [] = [0, 1, 2, 3] ∨ Region.linearise.go .any ops 4 t #[false, false, false, false] [] = [1, 0, 2, 3] := by
  rcases Nat.mod_two_eq_zero_or_one t with h | h
  · left
    rw [go_step, h0]
    simp only [List.length_cons, List.length_nil, Nat.zero_add, Nat.reduceAdd, h]
    show Region.linearise.go .any ops 3 _ #[true, false, false, false] [0] = _
    rw [go_step, h1]
    simp only [List.length_cons, List.length_nil, Nat.zero_add, Nat.mod_one, Nat.div_one]
    show Region.linearise.go .any ops 2 _ #[true, true, false, false] [1, 0] = _
    rw [go_step, h3]
    simp only [List.length_cons, List.length_nil, Nat.zero_add, Nat.mod_one, Nat.div_one]
    show Region.linearise.go .any ops 1 _ #[true, true, true, false] [2, 1, 0] = _
    rw [go_step, h4]
    simp only [List.length_cons, List.length_nil, Nat.zero_add, Nat.mod_one, Nat.div_one]
    rfl
  · right
    rw [go_step, h0]
    simp only [List.length_cons, List.length_nil, Nat.zero_add, Nat.reduceAdd, h]
    show Region.linearise.go .any ops 3 _ #[false, true, false, false] [1] = _
    rw [go_step, h2]
    simp only [List.length_cons, List.length_nil, Nat.zero_add, Nat.mod_one, Nat.div_one]
    show Region.linearise.go .any ops 2 _ #[true, true, false, false] [0, 1] = _
    rw [go_step, h3]
    simp only [List.length_cons, List.length_nil, Nat.zero_add, Nat.mod_one, Nat.div_one]
    show Region.linearise.go .any ops 1 _ #[true, true, true, false] [2, 0, 1] = _
    rw [go_step, h4]
    simp only [List.length_cons, List.length_nil, Nat.zero_add, Nat.mod_one, Nat.div_one]
    rfl
theorem follows_mixed : Try.prog.follows .mixedOrders = true := by kernel_rfl
theorem sched_rec (ops : Array Oper) (hs : ops.size = 4) (h0 : Region.ready .any ops #[false, false, false, false] = [0, 1]) (h1 : Region.ready .any ops #[true, false, false, false] = [1])
    (h2 : Region.ready .any ops #[false, true, false, false] = [0]) (h3 : Region.ready .any ops #[true, true, false, false] = [2]) (h4 : Region.ready .any ops #[true, true, true, false] = [3]) (t : Nat) :
    Region.schedule true ops t = [0, 1, 2, 3] ∨ Region.schedule true ops t = [1, 0, 2, 3] := by
  have e : Region.schedule true ops t = Region.linearise.go .any ops ops.size t (Array.replicate ops.size false) [] := rfl
  rw [e, hs]
  exact sched2 ops h0 h1 h2 h3 h4 t
theorem wpOpsS_rec {P : Program} {ops : Array Oper} {Q : Exit → Act → List Frame → World → Prop} {a : Act} {cs : List Frame} {w : World} (hs : ops.size = 4) (h0 : Region.ready .any ops #[false, false, false, false] = [0, 1])
    (h1 : Region.ready .any ops #[true, false, false, false] = [1]) (h2 : Region.ready .any ops #[false, true, false, false] = [0]) (h3 : Region.ready .any ops #[true, true, false, false] = [2]) (h4 : Region.ready .any ops #[true, true, true, false] = [3])
    (hA : wpOpsS P ops Q [0, 1, 2, 3] a cs w) (hB : wpOpsS P ops Q [1, 0, 2, 3] a cs w) (t : Nat) : wpOpsS P ops Q (Region.schedule true ops t) a cs w := by
  rcases sched_rec ops hs h0 h1 h2 h3 h4 t with h | h <;> rw [h]
  · exact hA
  · exact hB
set_option maxHeartbeats 800000 in
theorem rec60_idle (b : Nat) (n : Int) (w : World) (hc : Blk w b #[.int .i64 n] 24) :
    CallsD Try.prog 46 #[.pointer (some ⟨b, 0, none⟩)] .returning w fun e u' w' => e = .returned (.tuple #[]) ∧ u' = .returning ∧ Blk w' b #[.int .i64 n] 24 ∧ Fr (· = b) w w' := by
  have c0 := hc.cell 0 (v := .int .i64 n) rfl
  have f0 := hc.free 0
  have hs := hc.set 0 (.int .i64 n)
  have hfr := ((Fr.refl (· = b) w).drew).setCell (p := ⟨b, 0, none⟩) (.inl rfl) (.int .i64 n)
  have HS := Lib.hid hs
  have HF := Lib.hid hfr
  clear hc hs hfr
  refine callsD_of_wpS Try.func46 rfl fun c₀ cs hu => ?_
  apply wpS_region_draw
  intro t
  rw [follows_mixed]
  refine wpOpsS_rec rfl (by kernel_rfl) (by kernel_rfl) (by kernel_rfl) (by kernel_rfl) (by kernel_rfl) ?_ ?_ t
  all_goals
    simp [wpOpsS, go_sem, recoverD, hu, Try.ntmps46, c0]
    refine (why_nil n _).mono ?_
    rintro e w1 ⟨rfl, rfl⟩
    simp [go_sem, c0, f0, bodyPostS, results, Try.results46]
    exact ⟨c₀.mode, rfl, hu, HS.out, HF.out⟩
set_option maxHeartbeats 800000 in
theorem rec60_caught (b : Nat) (m n : Int) (w : World) (hc : Blk w b #[.int .i64 n] 24) :
    CallsD Try.prog 46 #[.pointer (some ⟨b, 0, none⟩)] (.panicking (refusal m)) w fun e u' w' => e = .returned (.tuple #[]) ∧ u' = .panicking [{ v := .iface 127 (.agg #[.int .i64 m]), recovered := true }] ∧ Blk w' b #[.int .i64 m] 24 ∧ Fr (· = b) w w' := by
  have c0 := hc.cell 0 (v := .int .i64 n) rfl
  have f0 := hc.free 0
  have hlt := hc.lt
  have hs := (hc.set 0 (.int .i64 m)).alloc (.cells #[.int .i64 m] 127)
  have hfr := (((Fr.refl (· = b) w).setCell (p := ⟨b, 0, none⟩) (.inl rfl) (.int .i64 m)).alloc (.cells #[.int .i64 m] 127)).drew
  have HS := Lib.hid hs
  have HF := Lib.hid hfr
  clear hc hs hfr
  unfold refusal
  refine callsD_of_wpS Try.func46 rfl fun c₀ cs hu => ?_
  apply wpS_region_draw
  intro t
  rw [follows_mixed]
  refine wpOpsS_rec rfl (by kernel_rfl) (by kernel_rfl) (by kernel_rfl) (by kernel_rfl) (by kernel_rfl) ?_ ?_ t
  all_goals
    simp [wpOpsS, go_sem, recoverD, hu, Try.ntmps46, c0]
    refine (why_ref m n _).mono ?_
    rintro e w1 ⟨rfl, rfl⟩
    simp [go_sem, c0, f0, hlt, bodyPostS, results, Try.results46]
    exact ⟨HS.out, HF.out⟩
end Go.Proofs.Ytcobihdjcdefmaa
namespace Go.Proofs.Ytcobihdjcdefmaa
open Go.RowKit Go.Proofs.YtcobihdjcdefmaaW.PrintWords
theorem info50 : (Try.prog.info? 50).map (fun i => (i.zero, i.size, i.bytes)) = some (some (.agg #[.string ⟨#[]⟩, .int .i64 0]), 2, 24) := by kernel_rfl
theorem info94 : (Try.prog.info? 94).map (fun i => (i.zero, i.size, i.bytes)) = some (some (.agg #[.int .i64 0, .int .i64 0, .slice none 0 0, .int .i64 0, .int .u64 0]), 5, 56) := by kernel_rfl
theorem info133 : (Try.prog.info? 133).map (fun i => (i.zero, i.size, i.bytes)) = some (some (.agg #[.int .i64 0, .int .i64 0, .int .i64 0, .int .i64 0]), 4, 32) := by kernel_rfl
set_option maxHeartbeats 800000 in
theorem clone_any (w : World) (A : Option Addr) (c : Nat) (ps : List Pst) (hps : Kd.C kPst w A ps.length ps) (hl : ps.length * 24 ≤ 140737488355328) :
    Calls Try.prog 72 #[.slice A ps.length c] w fun e w' => (∃ v, e = .returned v ∧ Kd.R kPst 50 w' w.heap.size (fun k => w.heap.size ≤ k) v ps) ∧ Below w.heap.size w w' := by
  cases A with
  | none =>
    have h0 : ps = [] := by
      rcases Nat.eq_zero_or_pos ps.length with h | h
      · exact List.eq_nil_of_length_eq_zero h
      · obtain ⟨ad, h1, _⟩ := hps.2.2 h; cases h1
    subst h0
    have he := Lib.run_eql_slice_nil (P := Try.prog) w 51 50 none 0 c 0 0 Try.underlying51
    go_enter Try.func72, Try.ntmps72
    go_wp2
    go_ret
    exact ⟨⟨_, rfl, Kd.R_nil _ _ _ _ _⟩, Below.refl _ _⟩
  | some ad =>
    have he := Lib.run_eql_slice_nil (P := Try.prog) w 51 50 (some ad) ps.length c 0 0 Try.underlying51
    go_enter Try.func72, Try.ntmps72
    have hC := Kd.C_below hps ((Below.refl _ w).alloc (Nat.le_refl _) (.cells #[] 50))
    have hbelow := (Below.refl w.heap.size w).alloc (Nat.le_refl _) (.cells #[] 50)
    have hnew : Kd.R kPst 50 (w.alloc (.cells #[] 50)) w.heap.size (fun k => w.heap.size ≤ k) (.slice (some ⟨w.heap.size, 0, none⟩) 0 0) [] :=
      ⟨fun k hk => by have : w.heap.size = k := by simpa [Value.ownBlock] using hk
                      omega, [], ⟨by simp, .inr ⟨w.heap.size, 0, #[], rfl, Nat.le_refl _, (MapKept.heap_alloc w _).1, Nat.le_refl _, by decide, by simp, by simp⟩⟩, Reps.none _ _⟩
    have hKM : ∀ (x : Pst) (cs : List Value), kPst.K (w.alloc (.cells #[] 50)) x cs → kPst.M (w.alloc (.cells #[] 50)) w.heap.size (fun _ => False) x cs := fun x cs hK => by
      rw [kPst_open hK]; exact kPst_mkM x
    have hfresh : ∀ k, (w.alloc (.cells #[] 50)).heap.size ≤ k → w.heap.size ≤ k := fun k hk => by simp at hk; omega
    have hl' : (([] : List Pst).length + ps.length) * 24 ≤ 140737488355328 := by simp; omega
    go_wp2_with (at_builtin; refine Kd.R_append_rows kPst (Rr := kPst.K (w.alloc (.cells #[] 50))) (w0 := w) w.heap.size rfl _ _ 51 50 (.agg #[.string ⟨#[]⟩, .int .i64 0]) 24 rfl Try.underlying51 info50 rfl (by decide) (by decide) (.slice (some ⟨w.heap.size, 0, none⟩) 0 0) [] ps (some ad) ps.length c (fun k => w.heap.size ≤ k) (fun _ => False) rfl rfl hnew hC hKM (fun _ hk => hk.elim) hfresh hbelow (by simp) hl' ?_; intro v1 w1 hR1 hb1 hg1 hat1)
    go_ret
    exact ⟨⟨v1, rfl, hR1⟩, hb1⟩
theorem clone_sl (w : World) (A : Option Addr) (c : Nat) (ps : List Pst) (hps : Kd.C kPst w A ps.length ps) (hl : ps.length * 24 ≤ 140737488355328) :
    Calls Try.prog 72 #[.slice A ps.length c] w fun e w' => (∃ A5 c5, e = .returned (.slice A5 ps.length c5) ∧ Kd.R kPst 50 w' w.heap.size (fun k => w.heap.size ≤ k) (.slice A5 ps.length c5) ps) ∧ Below w.heap.size w w' :=
  (clone_any w A c ps hps hl).mono fun e w' h => by
    obtain ⟨⟨v, rfl, hR⟩, hb⟩ := h
    obtain ⟨A5, c5, rfl, _⟩ := Kd.R_reads hR
    exact ⟨⟨A5, c5, rfl, hR⟩, hb⟩
section
variable {P : Program} {ops : Array Oper} {o : Oper} {a : Act} {Q : Exit → Act → World → Prop} {Kc : Act → World → Prop} {α : Type}
/-- 'append(v, x)' inside a region that draws: the box behind the draw. -/
theorem R_append_step_d (d : Kd α) {W : World} (hw : Region.wanted o (yielded ops a.tmps) = true) (s x : Operand) (t e : TypeId) (z : Value) (bytes : Nat)
    (ho : o.op = .call { callee := .builtin .append, args := #[s, x], argTypes := #[t, t] })
    (ht : P.underlying t = some (.slice e)) (hinfo : (P.info? e).map (fun i => (i.zero, i.size, i.bytes)) = some (some z, d.sz, bytes)) (hz : z.cells.size = d.sz) (hs0 : 0 < d.sz) (hb0 : 0 < bytes)
    (v : Value) (xs : List α) (p : α) (cs : List Value) (ok okp : Nat → Prop) (hs : a.eval s = v) (hx : a.eval x = .slice (some ⟨W.heap.size, 0, none⟩) 1 1) (hp : d.M W 0 okp p cs) (hokp : ∀ k, okp k → ok k ∧ some k ≠ v.ownBlock) (hfresh : ∀ k, W.heap.size ≤ k → ok k)
    (HO : d.R e W 0 ok v xs) (hl : (xs.length + 1) * bytes ≤ 140737488355328)
    (h : ∀ A1 c1 w1, d.R e w1 0 ok (.slice A1 (xs.length + 1) c1) (xs ++ [p]) → W.grownBy w1 v.ownBlock → ((Value.slice A1 (xs.length + 1) c1).ownBlock = v.ownBlock ∨ ∃ b, (Value.slice A1 (xs.length + 1) c1).ownBlock = some b ∧ W.heap.size ≤ b) → Kc (a.put o.dst (.slice A1 (xs.length + 1) c1)) w1) :
    if Region.wanted o (yielded ops a.tmps) = true then Oper.wp P o a (W.alloc (.cells cs.toArray e)).drew Kc Q else Kc (a.put o.dst undef) (W.alloc (.cells cs.toArray e)).drew := by
  have hm : ∀ k, ok k → W.drew.heap[k]? = W.heap[k]? := fun _ _ => rfl
  refine Kd.R_append_step d (W := W.drew) (w0 := W.drew) 0 hw s x t e z bytes ho ht hinfo hz hs0 hb0 v xs p cs ok okp hs hx (d.M_move (w := W) (w1 := W.drew) (fun _ _ => rfl) hp) hokp hfresh (Kd.R_move (w := W) (w1 := W.drew) HO (fun _ _ => rfl)) (Below.refl _ _) (Nat.zero_le _) hl ?_
  intro v1 w1 hR hb hg hat
  obtain ⟨A1, c1, rfl, _⟩ := Kd.R_reads hR
  have e1 : (xs ++ [p]).length = xs.length + 1 := by simp
  rw [e1] at hR hat ⊢
  exact h A1 c1 w1 hR ⟨hg.os, hg.tape, hg.output, hg.size, hg.block⟩ hat
/-- 'append(v, x)', the new block behind the alloc of the one-element slice. -/
theorem R_append_step_0 (d : Kd α) {W : World} (hw : Region.wanted o (yielded ops a.tmps) = true) (s x : Operand) (t e : TypeId) (z : Value) (bytes : Nat)
    (ho : o.op = .call { callee := .builtin .append, args := #[s, x], argTypes := #[t, t] })
    (ht : P.underlying t = some (.slice e)) (hinfo : (P.info? e).map (fun i => (i.zero, i.size, i.bytes)) = some (some z, d.sz, bytes)) (hz : z.cells.size = d.sz) (hs0 : 0 < d.sz) (hb0 : 0 < bytes)
    (v : Value) (xs : List α) (p : α) (cs : List Value) (ok okp : Nat → Prop) (hs : a.eval s = v) (hx : a.eval x = .slice (some ⟨W.heap.size, 0, none⟩) 1 1) (hp : d.M W 0 okp p cs) (hokp : ∀ k, okp k → ok k ∧ some k ≠ v.ownBlock) (hfresh : ∀ k, W.heap.size ≤ k → ok k)
    (HO : d.R e W 0 ok v xs) (hl : (xs.length + 1) * bytes ≤ 140737488355328)
    (h : ∀ A1 c1 w1, d.R e w1 0 ok (.slice A1 (xs.length + 1) c1) (xs ++ [p]) → W.grownBy w1 v.ownBlock → ((Value.slice A1 (xs.length + 1) c1).ownBlock = v.ownBlock ∨ ∃ b, (Value.slice A1 (xs.length + 1) c1).ownBlock = some b ∧ W.heap.size ≤ b) → Kc (a.put o.dst (.slice A1 (xs.length + 1) c1)) w1) :
    if Region.wanted o (yielded ops a.tmps) = true then Oper.wp P o a (W.alloc (.cells cs.toArray e)) Kc Q else Kc (a.put o.dst undef) (W.alloc (.cells cs.toArray e)) := by
  refine Kd.R_append_step d (W := W) (w0 := W) 0 hw s x t e z bytes ho ht hinfo hz hs0 hb0 v xs p cs ok okp hs hx hp hokp hfresh HO (Below.refl _ _) (Nat.zero_le _) hl ?_
  intro v1 w1 hR hb hg hat
  obtain ⟨A1, c1, rfl, _⟩ := Kd.R_reads hR
  have e1 : (xs ++ [p]).length = xs.length + 1 := by simp
  rw [e1] at hR hat ⊢
  exact h A1 c1 w1 hR hg hat
end
section
variable {w w1 : World} {F : Nat → Prop} {g : Nat} {v : Value} {rm am : Nat} {accs : List AccE} {recs : List Rc} {rows : ByteArray → List Rw} {rl : List (Int × Value)}
theorem LedH.led_grown (h : LedH w F g v rm am accs recs rows rl) (hg : w.grownBy w1 v.ownBlock) : Blk w1 g #[v, .map (some rm), .map (some am)] 85 := by
  refine (hg.block g h.blk.lt (fun e => ?_)).trans h.blk
  obtain ⟨cells, hc⟩ := R_typed h.hrecs g e.symm
  have := h.blk
  unfold Blk at this
  rw [hc] at this; cases this
theorem LedH.acc_grown {x : AccE} (h : LedH w F g v rm am accs recs rows rl) (hx : x ∈ accs) (hg : w.grownBy w1 x.rv.ownBlock) : Blk w1 x.blk #[x.rv] 90 := by
  obtain ⟨hx1, hx2, hx3⟩ := h.haccs x hx
  refine (hg.block x.blk hx2.lt (fun e => ?_)).trans hx2
  obtain ⟨cells, hc⟩ := R_typed hx3 x.blk e.symm
  unfold Blk at hx2
  rw [hc] at hx2; cases hx2
end
def rowsAt (recs : List Rc) (r : Rc) (left : List (ByteArray × Value)) (a : ByteArray) : List Rw := if left.any (fun q => decide (q.1 = a)) then rowsOf a recs 0 else rowsOf a (recs ++ [r]) 0
theorem rowsAt_end (recs : List Rc) (r : Rc) : rowsAt recs r [] = fun a => rowsOf a (recs ++ [r]) 0 := rfl
theorem rowsAt_start {recs : List Rc} {r : Rc} {l : List (ByteArray × Value)} (h : ∀ a, mget l a = none → inn r.ps a = false) : rowsAt recs r l = fun a => rowsOf a recs 0 := by
  funext a
  unfold rowsAt
  by_cases ha : l.any (fun q => decide (q.1 = a)) = true
  · rw [if_pos ha]
  · rw [if_neg ha]
    have h1 : mget l a = none := mget_none.2 fun p hp e => ha (List.any_eq_true.2 ⟨p, hp, by simpa using e⟩)
    rw [rowsOf_append]
    simp [rowsOf, h a h1]
theorem rowsAt_mem {recs : List Rc} {r : Rc} {left : List (ByteArray × Value)} {p : ByteArray × Value} (hp : p ∈ left) : rowsAt recs r left p.1 = rowsOf p.1 recs 0 := by
  unfold rowsAt
  rw [if_pos (List.any_eq_true.2 ⟨p, hp, by simp⟩)]
theorem rowsAt_step {recs : List Rc} {r : Rc} {left : List (ByteArray × Value)} {p : ByteArray × Value} (hp : p ∈ left) (hi : inn r.ps p.1 = true) :
    (fun a => if a = p.1 then rowsAt recs r left a ++ [⟨r.no, r.day, part r.ps p.1, bal recs p.1 + part r.ps p.1⟩] else rowsAt recs r left a) = rowsAt recs r (left.filter (fun q => !decide (q.1 = p.1))) := by
  funext a
  by_cases ha : a = p.1
  · subst ha
    rw [if_pos rfl, rowsAt_mem hp]
    unfold rowsAt
    rw [if_neg, rowsOf_append]
    · simp [rowsOf, hi]
    · intro h
      obtain ⟨q, hq, hq2⟩ := List.any_eq_true.1 h
      have := (List.mem_filter.1 hq).2
      simp at this hq2
      exact this hq2
  · rw [if_neg ha]
    unfold rowsAt
    have : left.any (fun q => decide (q.1 = a)) = (left.filter (fun q => !decide (q.1 = p.1))).any (fun q => decide (q.1 = a)) := by
      rw [Bool.eq_iff_iff, List.any_eq_true, List.any_eq_true]
      constructor
      · rintro ⟨q, hq, hq2⟩
        have hq2 : q.1 = a := by simpa using hq2
        exact ⟨q, List.mem_filter.2 ⟨hq, by simp [hq2, ha]⟩, by simpa using hq2⟩
      · rintro ⟨q, hq, hq2⟩
        exact ⟨q, (List.mem_filter.1 hq).1, hq2⟩
    rw [this]
theorem rowsOf_len (a : ByteArray) (recs : List Rc) : ∀ b, (rowsOf a recs b).length ≤ recs.length := by
  induction recs with
  | nil => intro b; simp [rowsOf]
  | cons x r ih => intro b; unfold rowsOf; split <;> simp <;> have := ih b <;> have := ih (b + part x.ps a) <;> omega
end Go.Proofs.Ytcobihdjcdefmaa
