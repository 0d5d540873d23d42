/-
  The walk of Trial.
-/
import Derived.Test.YtpmopdgnnlhplaaBp
import Derived.Test.YtpmopdgnnlhplaaIt
namespace Go.Proofs.Ytpmopdgnnlhplaa
open Go.RowKit Go.Proofs.YtpmopdgnnlhplaaW.PrintWords
/-! ### The names of a map, sorted -/
theorem insert_perm {H : Type} (x : Lit × DataW H) : ∀ l : List (Lit × DataW H), (DataW.insert x l).Perm (x :: l)
  | [] => List.Perm.refl _
  | y :: r => by
    unfold DataW.insert
    split
    · exact List.Perm.refl _
    · exact ((insert_perm x r).cons y).trans (List.Perm.swap x y r)
theorem sorted_perm {H : Type} (l : List (Lit × DataW H)) : (l.foldr DataW.insert []).Perm l := by
  induction l with
  | nil => exact List.Perm.refl _
  | cons x l ih => exact (insert_perm x _).trans (ih.cons x)
def nilR : Value → Option (DataW Unit × List MemPlace) := fun _ => some (.nil, [])
def strV : Value → List UInt8
  | .string a => bsL a
  | _ => []
theorem own_of {w : World} {am : Nat} {l : List (ByteArray × Value)} (h : KMap Value.string w am l) (hs : ∀ p ∈ l, p.1.size ≤ 4096) (hl : l.length ≤ 4096) :
    ∃ D0 : DataW Unit, w.ownsMap Try.prog 9 nilR am 4096 D0 ∧ Maps.size D0 = l.length ∧ (strKeys D0).Perm ((l.map (·.1)).map bsL) := by
  obtain ⟨es, clock, h1, h2, h3, h4, h5⟩ := h
  have hsz : es.size = l.length := by
    have := congrArg List.length h2
    simpa using this
  have hkey : ∀ x ∈ es.toList, ∃ p ∈ l, x.key = .string p.1 := fun x hx => by
    have h6 : (x.key, x.val) ∈ es.toList.map (fun e => (e.key, e.val)) := List.mem_map.2 ⟨x, hx, rfl⟩
    rw [h2] at h6
    obtain ⟨p, hp, he⟩ := List.mem_map.1 h6
    exact ⟨p, hp, by have := congrArg Prod.fst he; exact this.symm⟩
  have hrd : ∀ x ∈ es.toList, ∀ a, x.key = .string a → a.size ≤ 4096 → WideElems.rd Try.prog 9 nilR x = some (.string (bsL a), .nil) := fun x _ a hxs ha => by
    have hk : keyOf Try.prog 9 (.string a) = some (.string (bsL a)) := by
      unfold keyOf
      rw [Try.underlying9]
      simp only [mapKey, Try.underlying9]
      rw [if_pos (Nat.le_trans ha (by decide))]
      rfl
    unfold WideElems.rd
    rw [hxs, hk]
    rfl
  have hread : ∀ x ∈ es.toList, ∃ p ∈ l, x.key = .string p.1 ∧ WideElems.rd Try.prog 9 nilR x = some (.string (bsL p.1), .nil) := fun x hx => by
    obtain ⟨p, hp, he⟩ := hkey x hx
    exact ⟨p, hp, he, hrd x hx p.1 he (hs p hp)⟩
  have hkeys : es.toList.map (·.key) = l.map fun p => Value.string p.1 := by
    have := congrArg (List.map Prod.fst) h2
    rw [List.map_map, List.map_map] at this
    exact this
  have hF : WideElems.Fit Try.prog 9 nilR es clock := by
    refine ⟨by rw [hsz]; exact Nat.le_trans hl (by decide), ⟨h3, h4, ?_⟩, fun x hx => ?_⟩
    · rw [hkeys]
      have : l.map (fun p => Value.string p.1) = (l.map (·.1)).map Value.string := by rw [List.map_map]; rfl
      rw [this]
      exact List.pairwise_map.2 (h5.imp fun hne e => hne (by cases e; rfl))
    · obtain ⟨p, _, _, h⟩ := hread x hx
      exact ⟨_, h⟩
  refine ⟨.map ((es.toList.map (WideElems.rg Try.prog 9 nilR)).foldr DataW.insert []), ⟨es, clock, h1, hF, by rw [hsz]; exact hl, rfl⟩, ?_, ?_⟩
  · show ((es.toList.map _).foldr DataW.insert []).length = _
    rw [(sorted_perm _).length_eq, List.length_map, ← hsz]
    simp
  · show ((es.toList.map _).foldr DataW.insert [] |>.map fun p => strOf p.1).Perm _
    refine ((sorted_perm _).map _).trans ?_
    rw [List.map_map]
    have : es.toList.map ((fun p : Lit × DataW Unit => strOf p.1) ∘ WideElems.rg Try.prog 9 nilR) = (l.map (·.1)).map bsL := by
      rw [List.map_map]
      have e1 : es.toList.map ((fun p : Lit × DataW Unit => strOf p.1) ∘ WideElems.rg Try.prog 9 nilR) = (es.toList.map (·.key)).map strV := by
        rw [List.map_map]
        refine List.map_congr_left fun x hx => ?_
        obtain ⟨p, _, he, h⟩ := hread x hx
        simp only [Function.comp]
        rw [WideElems.rg_of h, he]
        rfl
      rw [e1, hkeys, List.map_map]
      rfl
    rw [this]
abbrev kS : Kd ByteArray := Kd.string
theorem at_Str {w : World} {A : Option Addr} {n : Nat} {xs : List ByteArray} (h : Kd.C kS w A n xs) {i : Nat} {x : ByteArray} (hx : xs[i]? = some x) : ∃ ad, A = some ad ∧ w.cell? (ad.add i) = some (.string x) := by
  have h1 : i < xs.length := (List.getElem?_eq_some_iff.1 hx).1
  obtain ⟨ad, e, hc⟩ := h.2.2 (by have := h.1; omega)
  obtain ⟨cs, _, h2, h3⟩ := hc i x hx
  refine ⟨ad, e, ?_⟩
  have h2 : cs = [.string x] := h2
  subst h2
  have := h3 0 _ rfl
  have e1 : (kS).sz = 1 := rfl
  rw [e1] at this
  simpa using this
theorem keys_any (w : World) (am : Nat) : Calls Try.prog 83 #[.map (some am)] w fun e w' => e = .returned (.func (.func 104) #[] #[.pointer (some ⟨w.heap.size, 0, none⟩)]) ∧ w' = w.alloc (.cells #[.map (some am)] 95) :=
  callsIn_wide.1 (Try.maps_Keys_83 (some am) w)
theorem sorted_any {w : World} {am : Nat} {l : List (ByteArray × Value)} (h : KMap Value.string w am l) (hs : ∀ p ∈ l, p.1.size ≤ 4096) (hl : l.length ≤ 4096) :
    Calls Try.prog 82 #[.func (.func 104) #[] #[.pointer (some ⟨w.heap.size, 0, none⟩)]] (w.alloc (.cells #[.map (some am)] 95)) fun e w' =>
      (∃ A c, e = .returned (.slice A (sN (l.map (·.1))).length c) ∧ Kd.C kS w' A (sN (l.map (·.1))).length (sN (l.map (·.1)))) ∧ Below w.heap.size w w' := by
  obtain ⟨D0, hown, hsz, hperm⟩ := own_of h hs hl
  refine (callsIn_wide.1 (Try.slices_Sorted_keys_82_83 am 4096 D0 nilR w hown (by rw [hsz]; exact Nat.le_trans hl (by decide)) (by rw [hsz]; omega))).mono ?_
  rintro e w' ⟨v, ss, rfl, hp, hrow, _, hb⟩
  have e1 : ss.mergeSort leB = ((l.map (·.1)).map bsL).mergeSort leB := mergeSort_of_perm (hp.trans hperm)
  have e2 : (ss.mergeSort (fun x y => decide (x ≤ y))).map encStr = (sN (l.map (·.1))).map Value.string := by
    show (ss.mergeSort leB).map encStr = _
    rw [e1]
    unfold sN
    generalize ((l.map (·.1)).map bsL).mergeSort leB = q
    rw [List.map_map]
    rfl
  have e3 : ss.length = (sN (l.map (·.1))).length := by
    have := congrArg List.length e2
    simpa using this
  rw [e2, e3] at hrow
  have hR : Kd.R kS 9 w' 0 (fun _ => True) v (sN (l.map (·.1))) := Kd.R_of_own (ownsRow_base_a hrow (Nat.zero_le _)) (fun _ _ => trivial)
  obtain ⟨A, c, rfl, _, hC⟩ := Kd.R_reads hR
  exact ⟨⟨A, c, rfl, hC⟩, ((Below.refl _ w).alloc (Nat.le_refl _) _).trans (hb.mono (by simp))⟩
theorem filterMap_take_none {α β : Type} (f : α → Option β) (l : List α) (k : Nat) {x : α} (hx : l[k]? = some x) (h : f x = none) : (l.take (k + 1)).filterMap f = (l.take k).filterMap f := by
  have hk := (List.getElem?_eq_some_iff.1 hx).1
  rw [List.take_succ_eq_append_getElem hk, (List.getElem?_eq_some_iff.1 hx).2, List.filterMap_append, List.filterMap_cons_none h, List.filterMap_nil, List.append_nil]
theorem filterMap_take_some {α β : Type} (f : α → Option β) (l : List α) (k : Nat) {x : α} {y : β} (hx : l[k]? = some x) (h : f x = some y) : (l.take (k + 1)).filterMap f = (l.take k).filterMap f ++ [y] := by
  have hk := (List.getElem?_eq_some_iff.1 hx).1
  rw [List.take_succ_eq_append_getElem hk, (List.getElem?_eq_some_iff.1 hx).2, List.filterMap_append, List.filterMap_cons_some h, List.filterMap_nil]
def TriPost (w : World) (l : List Pst) (err : Int) (e : Ending) (w' : World) : Prop :=
  (∃ A c, e = .returned (.tuple #[.slice A l.length c, .int .i64 err]) ∧ Kd.R kPst 36 w' 0 (fun k => w.heap.size ≤ k) (.slice A l.length c) l) ∧ Below w.heap.size w w'
set_option maxRecDepth 100000 in
set_option maxHeartbeats 1600000 in
theorem Trial_bad {w : World} {F : Nat → Prop} {g : Nat} {s : St} (h : LedF w F g s) (d : Int) (hd : dayB d = false) :
    Calls Try.prog 46 #[.pointer (some ⟨g, 0, none⟩), .int .i64 d] w (TriPost w [] 2) := by
  obtain ⟨v, rm, am, accs, rl, h1, h2, h3⟩ := h
  have c2 := h1.c2
  have HD := Lib.hid hd
  clear hd
  go_enter Try.func46, Try.ntmps46
  go_wp2_with (go_at_call 58; refine (made_yes _ _ _ c2).mono ?_; rintro e w1 ⟨rfl, rfl⟩)
  refine (day_any d _).mono ?_
  rintro e w1 ⟨rfl, rfl⟩
  rw [HD.out]
  go_wp2_with fail
  go_ret2
  exact ⟨⟨none, 0, rfl, Kd.R_nil _ _ _ _ _⟩, Below.refl _ _⟩
set_option maxRecDepth 100000 in
set_option maxHeartbeats 4000000 in
theorem Trial_good {w : World} {F : Nat → Prop} {g : Nat} {s : St} (h : LedF w F g s) (hnl : s.n.length ≤ 4096) (d : Int) (hd : dayB d = true) :
    Calls Try.prog 46 #[.pointer (some ⟨g, 0, none⟩), .int .i64 d] w (TriPost w (triL s d) 0) := by
  obtain ⟨v, rm, am, accs, rl, h1, h2, h3⟩ := h
  have c2 := h1.c2
  have HD := Lib.hid hd
  have hkeys : (amapOf accs).map (·.1) = accs.map (·.name) := amap_keys accs
  have hnames : ∀ p ∈ amapOf accs, p.1.size ≤ 4096 := fun p hp => by
    have h5 : p.1 ∈ accs.map (·.name) := by rw [← hkeys]; exact List.mem_map.2 ⟨p, hp, rfl⟩
    have := nameB_size (h3.nm _ (h2.mem_iff.1 h5))
    omega
  have hlen : (amapOf accs).length ≤ 4096 := by
    have h5 := congrArg List.length hkeys
    have h6 := h2.length_eq
    rw [List.length_map] at h5
    omega
  have hnl' : (sN s.n).length ≤ 4096 := by rw [(sN_perm _).length_eq]; exact hnl
  have hsN : sN ((amapOf accs).map (·.1)) = sN s.n := by rw [hkeys]; exact sN_of_perm h2
  have hmem : ∀ a ∈ sN s.n, a ∈ accs.map (·.name) := fun a ha => h2.mem_iff.2 ((sN_perm _).mem_iff.1 ha)
  have HS := Lib.hid (sorted_any h1.amap hnames hlen)
  rw [hsN] at HS
  clear hd hsN
  go_enter Try.func46, Try.ntmps46
  go_wp2_with (go_at_call 58; refine (made_yes _ _ _ c2).mono ?_; rintro e w1 ⟨rfl, rfl⟩)
  refine (day_any d _).mono ?_
  rintro e w1 ⟨rfl, rfl⟩
  rw [HD.out]
  go_wp2_with fail
  refine (keys_any w am).mono ?_
  rintro e w1 ⟨rfl, rfl⟩
  go_wp2_with fail
  refine HS.out.mono ?_
  rintro e w1 ⟨⟨A0, c0, rfl, hC⟩, hb1⟩
  have hL1 := h1.below hb1
  have hln := hC.2.1
  have HN : Hid (triL s d = (sN s.n).filterMap (triF d s.r)) := Lib.hid rfl
  generalize hnm : sN s.n = ns at *
  clear HS c2
  go_wp2_with fail
  go_loopw [6, 8, 9, 25] (fun s6 _ _ s25 wr => ∃ (k n : Nat) (A1 : Option Addr) (c1 : Nat), k ≤ ns.length ∧ s25 = .int .i64 k ∧ n = ((ns.take k).filterMap (triF d s.r)).length ∧ s6 = .slice A1 n c1 ∧ Kd.R kPst 36 wr 0 (fun b => w1.heap.size ≤ b) (.slice A1 n c1) ((ns.take k).filterMap (triF d s.r)) ∧ Below w1.heap.size w1 wr) (fun _ _ _ s25 _ => ns.length - (intOf s25).toNat)
  case atStart => exact ⟨0, 0, none, 0, Nat.zero_le _, rfl, rfl, rfl, Kd.R_nil _ _ _ _ _, Below.refl _ _⟩
  case round =>
    obtain ⟨k, n, A1, c1, hk, rfl, hn, rfl, hR, hb⟩ := hrel
    have HM := Lib.hid hn
    clear hn
    by_cases hlt : k < ns.length
    · obtain ⟨a, ha⟩ : ∃ a, ns[k]? = some a := ⟨_, List.getElem?_eq_getElem hlt⟩
      obtain ⟨ad, rfl, p0⟩ := at_Str (Kd.C_below hC hb) ha
      obtain ⟨x, hx, rfl⟩ := amap_of_mem (hmem a (List.mem_of_getElem? ha))
      have hLr := hL1.below hb
      have hlk := hLr.look_some hx
      obtain ⟨a1, a2, a3⟩ := hLr.haccs x hx
      have cc := hLr.c2
      have HA := Lib.hid ha
      clear ha
      go_wp2_with fail
      refine (upto_any _ _ 0 F _ _ d a2 a3).mono ?_
      rintro e w3 ⟨rfl, hb3⟩
      rw [uptoR_rows d x.name h3.days, Int.zero_add]
      have hb4 := below_t hb hb3
      have hR2 : Kd.R kPst 36 w3 0 (fun b => w1.heap.size ≤ b) (.slice A1 n c1) ((ns.take k).filterMap (triF d s.r)) := Kd.R_mono (Kd.R_below (Kd.R_bound hR) hb3) (fun _ hk => hk.1)
      by_cases h0 : uptoB d s.r x.name = 0
      · have HF := Lib.hid (filterMap_take_none (triF d s.r) ns k HA.out (if_pos h0))
        rw [h0]
        clear hR h0
        go_wp2_with fail
        go_roundw
        case rel => exact ⟨k + 1, n, A1, c1, by omega, by go_num, by rw [HM.out, HF.out], rfl, by rw [HF.out]; exact hR2, hb4⟩
        case measure => simp [intOf]; omega
      · have HF := Lib.hid (filterMap_take_some (triF d s.r) ns k HA.out (if_neg h0))
        have hne : (uptoB d s.r x.name != 0) = true := by simpa using h0
        have hfl : ((ns.take k).filterMap (triF d s.r)).length ≤ k := Nat.le_trans (List.length_filterMap_le _ _) (by rw [List.length_take]; omega)
        have hl' : (((ns.take k).filterMap (triF d s.r)).length + 1) * 24 ≤ 140737488355328 := by omega
        clear hfl hR h0
        go_wp2_with (at_builtin; refine Kd.R_append kPst (w0 := w3) 0 rfl _ _ 31 36 (.agg #[.string ⟨#[]⟩, .int .i64 0]) 24 rfl Try.underlying31 info36 rfl (by decide) (by decide) (.slice A1 n c1) ((ns.take k).filterMap (triF d s.r)) ⟨x.name, uptoB d s.r x.name⟩ _ (fun b => w1.heap.size ≤ b) (fun _ => False) rfl rfl (kPst_mkM ⟨x.name, uptoB d s.r x.name⟩) (fun _ hk => hk.elim) (fun b hb9 => Nat.le_trans hb4.size hb9) hR2 (Below.refl _ _) (Nat.zero_le _) hl' ?_; intro v4 w4 hR7 hb7 hg7 hat7)
        have hb8 : Below w1.heap.size w1 w4 := ((Fr.of_below hb4 (fun _ => False)).grown hg7 (fun k hk => .inr (hR2.1 k hk))).none_below
        rw [← HF.out] at hR7
        obtain ⟨A8, c8, rfl, _, _⟩ := Kd.R_reads hR7
        go_roundw
        case rel => exact ⟨k + 1, _, A8, c8, by omega, by go_num, rfl, rfl, hR7, hb8⟩
        case measure => simp [intOf]; omega
    · obtain rfl : k = ns.length := by omega
      rw [List.take_length] at hR HM
      rw [← HN.out] at hR HM
      go_wp2_with fail
      go_ret2
      exact ⟨⟨A1, c1, by rw [← HM.out]; rfl, by rw [← HM.out]; exact Kd.R_mono hR (fun b hb9 => Nat.le_trans hb1.size hb9)⟩, below_t hb1 hb⟩
end Go.Proofs.Ytpmopdgnnlhplaa
