/-
  The walk of Statement.
-/
import Derived.Test.YtpmopdgnnlhplaaLe
import Derived.OwnWalk
namespace Go.Proofs.Ytpmopdgnnlhplaa
open Go.RowKit Go.Proofs.YtpmopdgnnlhplaaW.PrintWords
def inDay (f t : Int) (r : Rw) : Bool := decide (f ≤ r.day ∧ r.day ≤ t)
def perB (f t : Int) : Bool := dayB f && dayB t && decide (f ≤ t)
def stmErr (accs : List AccE) (a : ByteArray) (f t : Int) : Int := if memB (accs.map (·.name)) a = false then 7 else if perB f t = false then 2 else 0
def stmVal (accs : List AccE) (rows : ByteArray → List Rw) (a : ByteArray) (f t : Int) : Int := if stmErr accs a f t = 0 then uptoR (f - 1) (rows a) 0 else 0
def stmRows (accs : List AccE) (rows : ByteArray → List Rw) (a : ByteArray) (f t : Int) : List Rw := if stmErr accs a f t = 0 then (rows a).filter (inDay f t) else []
section
variable {w : World} {F : Nat → Prop} {g : Nat} {v : Value} {rm am : Nat} {accs : List AccE} {recs : List Rc} {rows : ByteArray → List Rw} {rl : List (Int × Value)}
def StmPost (w : World) (val : Int) (rs : List Rw) (err : Int) (e : Ending) (w' : World) : Prop :=
  (∃ A1 c1, e = .returned (.tuple #[.int .i64 val, .slice A1 rs.length c1, .int .i64 err]) ∧ Kd.R kRw 90 w' 0 (fun k => w.heap.size ≤ k) (.slice A1 rs.length c1) rs) ∧ Below w.heap.size w w'
theorem StmPost.none (w : World) (err : Int) : StmPost w 0 [] err (.returned (.tuple #[.int .i64 0, .slice Option.none 0 0, .int .i64 err])) w :=
  ⟨⟨Option.none, 0, rfl, Kd.R_nil _ _ _ _ _⟩, Below.refl _ _⟩
set_option maxRecDepth 100000 in
set_option maxHeartbeats 1600000 in
theorem Statement_bad (h : LedH w F g v rm am accs recs rows rl) {x : AccE} (hx : x ∈ accs) (f t : Int) (hp : perB f t = false) :
    Calls Try.prog 49 #[.pointer (some ⟨g, 0, none⟩), .string x.name, .int .i64 f, .int .i64 t] w (StmPost w 0 [] 2) := by
  cases hf : dayB f with
  | false =>
    have HD := Lib.hid hf
    clear hf hp
    go_enter Try.func49, Try.ntmps49
    go_wp2_with (go_at_call 65; refine (find_some h hx).mono ?_; rintro e w1 ⟨rfl, rfl⟩)
    refine (day_any f _).mono ?_
    rintro e w1 ⟨rfl, rfl⟩
    rw [HD.out]
    go_wp2_with fail
    go_ret3
    exact StmPost.none _ _
  | true =>
    have HD := Lib.hid hf
    cases ht : dayB t with
    | false =>
      have HT := Lib.hid ht
      clear hf ht hp
      go_enter Try.func49, Try.ntmps49
      go_wp2_with (go_at_call 65; refine (find_some h hx).mono ?_; rintro e w1 ⟨rfl, rfl⟩)
      refine (day_any f _).mono ?_
      rintro e w1 ⟨rfl, rfl⟩
      rw [HD.out]
      go_wp2_with fail
      refine (day_any t _).mono ?_
      rintro e w1 ⟨rfl, rfl⟩
      rw [HT.out]
      go_wp2_with fail
      go_ret3
      exact StmPost.none _ _
    | true =>
      have HT := Lib.hid ht
      have hlt : t < f := by
        unfold perB at hp
        rw [hf, ht] at hp
        have : ¬ f ≤ t := by simpa using hp
        omega
      clear hf ht hp
      go_enter Try.func49, Try.ntmps49
      go_wp2_with (go_at_call 65; refine (find_some h hx).mono ?_; rintro e w1 ⟨rfl, rfl⟩)
      refine (day_any f _).mono ?_
      rintro e w1 ⟨rfl, rfl⟩
      rw [HD.out]
      go_wp2_with fail
      refine (day_any t _).mono ?_
      rintro e w1 ⟨rfl, rfl⟩
      rw [HT.out]
      go_wp2_with fail
      go_ret3
      exact StmPost.none _ _
set_option maxHeartbeats 800000 in
theorem Statement_no (h : LedH w F g v rm am accs recs rows rl) {a : ByteArray} (ha : a ∉ accs.map (·.name)) (f t : Int) :
    Calls Try.prog 49 #[.pointer (some ⟨g, 0, none⟩), .string a, .int .i64 f, .int .i64 t] w (StmPost w 0 [] 7) := by
  go_enter Try.func49, Try.ntmps49
  go_wp2_with (go_at_call 65; refine (find_none h ha).mono ?_; rintro e w1 ⟨rfl, rfl⟩)
  go_ret3
  exact StmPost.none _ _
theorem filter_take_succ {α : Type} (p : α → Bool) (l : List α) (k : Nat) {x : α} (hx : l[k]? = some x) : (l.take (k + 1)).filter p = if p x then (l.take k).filter p ++ [x] else (l.take k).filter p := by
  have hk := (List.getElem?_eq_some_iff.1 hx).1
  rw [List.take_succ_eq_append_getElem hk, (List.getElem?_eq_some_iff.1 hx).2, List.filter_append]
  by_cases hp : p x = true
  · simp [hp]
  · simp [hp]
set_option maxRecDepth 100000 in
set_option maxHeartbeats 4000000 in
theorem Statement_good (h : LedH w F g v rm am accs recs rows rl) {x : AccE} (hx : x ∈ accs) (f t : Int) (hp : perB f t = true) (hln : (rows x.name).length ≤ 4096) :
    Calls Try.prog 49 #[.pointer (some ⟨g, 0, none⟩), .string x.name, .int .i64 f, .int .i64 t] w (StmPost w (uptoR (f - 1) (rows x.name) 0) ((rows x.name).filter (inDay f t)) 0) := by
  unfold perB at hp
  simp only [Bool.and_eq_true] at hp
  obtain ⟨⟨hf, ht⟩, hft⟩ := hp
  have hft : f ≤ t := of_decide_eq_true hft
  have hf0 : 0 ≤ f ∧ f ≤ 1000000 := of_decide_eq_true hf
  have ht0 : 0 ≤ t ∧ t ≤ 1000000 := of_decide_eq_true ht
  have HD := Lib.hid hf
  have HT := Lib.hid ht
  obtain ⟨h1, h2, h3⟩ := h.haccs x hx
  obtain ⟨A, c, hrv, hlc, hC⟩ := Kd.R_reads h3
  generalize rows x.name = rs at *
  have c0 := h2.cell 0 (v := .slice A rs.length c) (by rw [hrv]; rfl)
  have hbl := h2.lt
  clear hf ht
  go_enter Try.func49, Try.ntmps49
  go_wp2_with (go_at_call 65; refine (find_some h hx).mono ?_; rintro e w1 ⟨rfl, rfl⟩)
  refine (day_any f _).mono ?_
  rintro e w1 ⟨rfl, rfl⟩
  rw [HD.out]
  go_wp2_with fail
  refine (day_any t _).mono ?_
  rintro e w1 ⟨rfl, rfl⟩
  rw [HT.out]
  clear hlc
  go_wp2_with fail
  clear c0
  go_loopw [13, 15, 45] (fun s13 _ s45 wr => ∃ (k n : Nat) (A1 : Option Addr) (c1 : Nat), k ≤ rs.length ∧ s45 = .int .i64 k ∧ n = ((rs.take k).filter (inDay f t)).length ∧ s13 = .slice A1 n c1 ∧ Kd.R kRw 90 wr 0 (fun b => w.heap.size ≤ b) (.slice A1 n c1) ((rs.take k).filter (inDay f t)) ∧ Below w.heap.size w wr) (fun _ _ s45 _ => rs.length - (intOf s45).toNat)
  case atStart => exact ⟨0, 0, none, 0, Nat.zero_le _, rfl, rfl, rfl, Kd.R_nil _ _ _ _ _, Below.refl _ _⟩
  case round =>
    obtain ⟨k, n, A1, c1, hk, rfl, hn, rfl, hR, hb⟩ := hrel
    have HN := Lib.hid hn
    clear hn
    by_cases hlt : k < rs.length
    · obtain ⟨r, hr⟩ : ∃ r, rs[k]? = some r := ⟨_, List.getElem?_eq_getElem hlt⟩
      obtain ⟨ad, rfl, r0, r1, r2, r3⟩ := at_Rw (Kd.C_below hC hb) hr
      have HF := Lib.hid (filter_take_succ (inDay f t) rs k hr)
      have hb2 := hb.alloc hb.size (.cells #[.int .i64 r.no, .int .i64 r.day, .int .i64 r.c, .int .i64 r.bal] 90)
      have hR2 := Kd.R_alloc hR (.cells #[.int .i64 r.no, .int .i64 r.day, .int .i64 r.c, .int .i64 r.bal] 90)
      clear hr
      have hB := Blk.new wr #[.int .i64 r.no, .int .i64 r.day, .int .i64 r.c, .int .i64 r.bal] 90
      have q0 := hB.cell 0 (v := .int .i64 r.no) rfl
      have q1 := hB.cell 1 (v := .int .i64 r.day) rfl
      have q2 := hB.cell 2 (v := .int .i64 r.c) rfl
      have q3 := hB.cell 3 (v := .int .i64 r.bal) rfl
      by_cases hin : f ≤ r.day ∧ r.day ≤ t
      · have HP := Lib.hid (show inDay f t r = true from decide_eq_true hin)
        obtain ⟨hin1, hin2⟩ := hin
        have hfl : ((rs.take k).filter (inDay f t)).length ≤ k := Nat.le_trans (List.length_filter_le _ _) (by rw [List.length_take]; omega)
        have hl' : (((rs.take k).filter (inDay f t)).length + 1) * 32 ≤ 140737488355328 := by omega
        clear hfl
        go_upto_region 10 with fail
        generalize wr.alloc (.cells #[.int .i64 r.no, .int .i64 r.day, .int .i64 r.c, .int .i64 r.bal] 90) = w2 at *
        go_wp2_with (at_builtin; refine Kd.R_append kRw (w0 := w2) 0 rfl _ _ 86 90 (.agg #[.int .i64 0, .int .i64 0, .int .i64 0, .int .i64 0]) 32 rfl Try.underlying86 info90 rfl (by decide) (by decide) (.slice A1 n c1) ((rs.take k).filter (inDay f t)) r _ (fun b => w.heap.size ≤ b) (fun _ => False) rfl rfl (kRw_mkM r) (fun _ hk => hk.elim) (fun b hb9 => Nat.le_trans hb2.size hb9) hR2 (Below.refl _ _) (Nat.zero_le _) hl' ?_; intro v4 w4 hR7 hb7 hg7 hat7)
        have hb8 : Below w.heap.size w w4 := ((Fr.of_below hb2 (fun _ => False)).grown hg7 (fun k hk => .inr (hR2.1 k hk))).none_below
        have e7 : (rs.take k).filter (inDay f t) ++ [r] = (rs.take (k + 1)).filter (inDay f t) := by rw [HF.out, if_pos HP.out]
        rw [e7] at hR7
        obtain ⟨A8, c8, rfl, _, _⟩ := Kd.R_reads hR7
        go_roundw
        case rel => exact ⟨k + 1, _, A8, c8, by omega, by go_num, rfl, rfl, hR7, hb8⟩
        case measure => simp [intOf]; omega
      · have HP := Lib.hid (show ¬ inDay f t r = true from fun e => hin (of_decide_eq_true e))
        have e7 : (rs.take (k + 1)).filter (inDay f t) = (rs.take k).filter (inDay f t) := by rw [HF.out, if_neg HP.out]
        have HE := Lib.hid e7
        clear e7
        by_cases h1 : f ≤ r.day
        · have h2 : r.day ≤ t → False := fun h2 => hin ⟨h1, h2⟩
          have h2' : ¬ r.day ≤ t := h2
          clear h2 hin
          go_wp2_with fail
          go_roundw
          case rel => exact ⟨k + 1, n, A1, c1, by omega, by go_num, by rw [HN.out, HE.out], rfl, by rw [HE.out]; exact hR2, hb2⟩
          case measure => simp [intOf]; omega
        · clear hin
          go_wp2_with fail
          go_roundw
          case rel => exact ⟨k + 1, n, A1, c1, by omega, by go_num, by rw [HN.out, HE.out], rfl, by rw [HE.out]; exact hR2, hb2⟩
          case measure => simp [intOf]; omega
    · obtain rfl : k = rs.length := by omega
      rw [List.take_length] at hR HN
      have HU := Lib.hid hb
      have hbx : Blk wr x.blk #[x.rv] 105 := (hb.block _ h2.lt).trans h2
      have hwf : IntKind.i64.wrap (f - 1) = f - 1 := IntWalk.i64_in _ (by omega)
      go_wp2_with fail
      refine (upto_any _ _ 0 F _ rs (f - 1) hbx (Kd.R_move h3 (fun k hk => HU.out.block k (h.fin k hk)))).mono ?_
      rintro e w1 ⟨rfl, hb1⟩
      go_wp2_with fail
      go_ret3
      refine ⟨⟨A1, c1, by rw [← HN.out]; rfl, by rw [← HN.out]; exact Kd.R_below (Kd.R_bound hR) hb1 |> fun h => Kd.R_mono h (fun _ hk => hk.1)⟩, below_t HU.out hb1⟩
theorem Statement_any (h : LedH w F g v rm am accs recs rows rl) (a : ByteArray) (f t : Int) (hln : ∀ a, (rows a).length ≤ 4096) :
    Calls Try.prog 49 #[.pointer (some ⟨g, 0, none⟩), .string a, .int .i64 f, .int .i64 t] w (StmPost w (stmVal accs rows a f t) (stmRows accs rows a f t) (stmErr accs a f t)) := by
  by_cases hm : a ∈ accs.map (·.name)
  · obtain ⟨x, hx, rfl⟩ := amap_of_mem hm
    cases hp : perB f t with
    | false =>
      have he : stmErr accs x.name f t = 2 := by simp [stmErr, memB_iff.2 hm, hp]
      unfold stmVal stmRows
      rw [he]
      exact Statement_bad h hx f t hp
    | true =>
      have he : stmErr accs x.name f t = 0 := by simp [stmErr, memB_iff.2 hm, hp]
      unfold stmVal stmRows
      rw [he]
      exact Statement_good h hx f t hp (hln _)
  · have he : stmErr accs a f t = 7 := by simp [stmErr, memB_not.2 hm]
    unfold stmVal stmRows
    rw [he]
    exact Statement_no h hm f t
end
end Go.Proofs.Ytpmopdgnnlhplaa
