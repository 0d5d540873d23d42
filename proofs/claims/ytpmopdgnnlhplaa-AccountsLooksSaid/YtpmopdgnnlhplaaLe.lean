/-
  A ledger as a state: the names of its accounts, its records; what Open, Post, Reverse, Records and Balance make of it.
-/
import Derived.Test.YtpmopdgnnlhplaaRv
import Derived.Test.YtpmopdgnnlhplaaKj
import Derived.Test.YtpmopdgnnlhplaaAl
namespace Go.Proofs.Ytpmopdgnnlhplaa
open Go.RowKit Go.Proofs.YtpmopdgnnlhplaaW.PrintWords
structure St where
  n : List ByteArray
  r : List Rc
def openE (names : List ByteArray) (n : ByteArray) : Int := if nameB n = false then 2 else if memB names n then 8 else if 128 ≤ names.length then 9 else 0
def opS (s : St) (n : ByteArray) : St := if openE s.n n = 0 then ⟨s.n ++ [n], s.r⟩ else s
def poE (s : St) (d : Int) (ps : List Pst) : Int := postErr s.n s.r d ps
def poS (s : St) (d : Int) (ps : List Pst) : St := if poE s d ps = 0 then ⟨s.n, s.r ++ [newRec s.r d 0 ps]⟩ else s
def poV (s : St) (d : Int) (ps : List Pst) : Int := if poE s d ps = 0 then s.r.length + 1 else 0
def reS (s : St) (n d : Int) : St := if revErr s.r n d = 0 then ⟨s.n, s.r ++ [newRec s.r d n (revPs s.r n)]⟩ else s
def reV (s : St) (n d : Int) : Int := if revErr s.r n d = 0 then s.r.length + 1 else 0
def LedF (w : World) (F : Nat → Prop) (g : Nat) (s : St) : Prop :=
  ∃ v rm am accs rl, LedH w F g v rm am accs s.r (fun a => rowsOf a s.r 0) rl ∧ (accs.map (·.name)).Perm s.n ∧ GInv s.n s.r rl
theorem memB_perm {l m : List ByteArray} (h : l.Perm m) (a : ByteArray) : memB l a = memB m a := by
  rw [Bool.eq_iff_iff, memB_iff, memB_iff]
  exact h.mem_iff
theorem memB_fun {l m : List ByteArray} (h : l.Perm m) : memB l = memB m := funext (memB_perm h)
theorem openErr_perm {accs : List AccE} {n : List ByteArray} (h : (accs.map (·.name)).Perm n) (a : ByteArray) : openErr accs a = openE n a := by
  have hl : accs.length = n.length := by have := h.length_eq; simpa using this
  unfold openErr openE
  rw [memB_perm h, hl]
theorem postBad_perm {l m : List ByteArray} (h : l.Perm m) (ps : List Pst) : postBad l ps = postBad m ps := by
  induction ps with
  | nil => rfl
  | cons p r ih => unfold postBad; rw [memB_perm h, ih]
theorem postErr_perm {l m : List ByteArray} (h : l.Perm m) (recs : List Rc) (d : Int) (ps : List Pst) : postErr l recs d ps = postErr m recs d ps := by
  unfold postErr
  rw [postBad_perm h]
theorem GInv.perm {l m : List ByteArray} {recs : List Rc} {rl : List (Int × Value)} (h : l.Perm m) (hG : GInv l recs rl) : GInv m recs rl where
  nm a ha := hG.nm a (h.mem_iff.2 ha)
  len := hG.len
  bals := hG.bals
  chain := hG.chain
  days := hG.days
  dayr := hG.dayr
  pss r hr := ⟨(hG.pss r hr).1, (hG.pss r hr).2.1, fun p hp => ⟨by rw [← memB_perm h]; exact ((hG.pss r hr).2.2 p hp).1, ((hG.pss r hr).2.2 p hp).2⟩⟩
  sums := hG.sums
  revs := hG.revs
  revr := hG.revr
section
variable {w w' : World} {F F' G : Nat → Prop} {g : Nat} {s : St}
theorem Upd.of_below (h : Below w.heap.size w w') (F : Nat → Prop) : Upd w F w' F := ⟨Fr.of_below h F, fun _ hb => .inl hb, K36.of_below h⟩
theorem Upd.trans {a b c : World} {F G H : Nat → Prop} (h : Upd a F b G) (k : Upd b G c H) : Upd a F c H :=
  ⟨h.1.trans k.1 h.2, fun x hx => (k.2 x hx).elim (h.2 x) (fun h9 => .inr (Nat.le_trans h.1.size h9)), h.3.trans k.3⟩
theorem LedF.below (h : LedF w F g s) (hb : Below w.heap.size w w') : LedF w' F g s := by
  obtain ⟨v, rm, am, accs, rl, h1, h2, h3⟩ := h
  exact ⟨v, rm, am, accs, rl, h1.below hb, h2, h3⟩
theorem LedF.fr (h : LedF w F g s) (hf : Fr G w w') (hd : ∀ b, F b → ¬ G b) : LedF w' F g s := by
  obtain ⟨v, rm, am, accs, rl, h1, h2, h3⟩ := h
  exact ⟨v, rm, am, accs, rl, h1.fr hf hd, h2, h3⟩
theorem LedF.fin (h : LedF w F g s) : ∀ b, F b → b < w.heap.size := by
  obtain ⟨v, rm, am, accs, rl, h1, h2, h3⟩ := h
  exact h1.fin
theorem LedF.inv (h : LedF w F g s) : ∃ rl, GInv s.n s.r rl := by
  obtain ⟨v, rm, am, accs, rl, h1, h2, h3⟩ := h
  exact ⟨rl, h3⟩
theorem New_led (w : World) : Calls Try.prog 25 #[] w fun e w' => ∃ F g, e = .returned (.pointer (some ⟨g, 0, none⟩)) ∧ LedF w' F g ⟨[], []⟩ ∧ Below w.heap.size w w' ∧ ∀ x, F x → w.heap.size ≤ x :=
  (new_led w).mono fun _ _ ⟨F, g, rm, am, h1, h2, h3, h4⟩ => ⟨F, g, h1, ⟨_, rm, am, [], [], h3, List.Perm.nil, GInv.start⟩, h2, h4⟩
theorem open_new {accs : List AccE} {n : ByteArray} (h : openErr accs n = 0) : n ∉ accs.map (·.name) := by
  unfold openErr at h
  intro hm
  by_cases h1 : nameB n = false
  · rw [if_pos h1] at h; cases h
  · rw [if_neg h1, if_pos (memB_iff.2 hm)] at h; cases h
theorem GInv.no_rows {names : List ByteArray} {recs : List Rc} {rl : List (Int × Value)} (h : GInv names recs rl) {n : ByteArray} (hn : n ∉ names) : rowsOf n recs 0 = [] := by
  refine rowsOf_none (fun r hr => ?_) 0
  cases hi : inn r.ps n with
  | false => rfl
  | true =>
    obtain ⟨p, hp, rfl⟩ := inn_mem hi
    exact absurd (memB_iff.1 ((h.pss r hr).2.2 p hp).1) hn
theorem Open_led (h : LedF w F g s) (n : ByteArray) : Calls Try.prog 26 #[.pointer (some ⟨g, 0, none⟩), .string n] w fun e w' => e = .returned (.int .i64 (openE s.n n)) ∧ ∃ F', LedF w' F' g (opS s n) ∧ Upd w F w' F' := by
  obtain ⟨v, rm, am, accs, rl, h1, h2, h3⟩ := h
  refine (open_any h1 n (fun hn => h3.no_rows (fun hm => hn (h2.mem_iff.2 hm)))).mono ?_
  rw [openErr_perm h2]
  rintro e w' ⟨rfl, ha, hb⟩
  refine ⟨rfl, ?_⟩
  unfold opS
  by_cases h0 : openE s.n n = 0
  · obtain ⟨F', nb, hL, hU⟩ := hb h0
    rw [if_pos h0]
    refine ⟨F', ⟨v, rm, am, _, rl, hL, ?_, ?_⟩, hU⟩
    · rw [List.map_append]
      exact h2.append_right _
    · have := (h3.perm h2.symm).open_ (by rw [openErr_perm h2]; exact h0)
      exact this.perm (h2.append_right _)
  · rw [if_neg h0]
    exact ⟨F, ⟨v, rm, am, accs, rl, h1.below (ha h0), h2, h3⟩, Upd.of_below (ha h0) F⟩
theorem Post_led (h : LedF w F g s) (d : Int) (ps : List Pst) (A : Option Addr) (c : Nat) (hps : ∀ W, Fr F w W → Kd.C kPst W A ps.length ps) (hsz : ∀ p ∈ ps, p.a.size ≤ 9223372036854775807) :
    Calls Try.prog 28 #[.pointer (some ⟨g, 0, none⟩), .int .i64 d, .slice A ps.length c] w fun e w' => e = .returned (.tuple #[.int .i64 (poV s d ps), .int .i64 (poE s d ps)]) ∧ ∃ F', LedF w' F' g (poS s d ps) ∧ Upd w F w' F' := by
  obtain ⟨v, rm, am, accs, rl, h1, h2, h3⟩ := h
  refine (Post_any h1 d ps A c hps hsz h3.linv).mono ?_
  rintro e w' ⟨ha, hb⟩
  rw [postErr_perm h2] at ha hb
  unfold poS poV poE
  by_cases h0 : postErr s.n s.r d ps = 0
  · obtain ⟨rfl, F', v', accs', hL, hn, hU⟩ := ha h0
    rw [if_pos h0, if_pos h0, h0]
    exact ⟨rfl, F', ⟨v', rm, am, accs', rl, hL, by rw [hn]; exact h2, h3.posted h0⟩, hU⟩
  · obtain ⟨rfl, hb'⟩ := hb h0
    rw [if_neg h0, if_neg h0]
    exact ⟨rfl, F, ⟨v, rm, am, accs, rl, h1.below hb', h2, h3⟩, Upd.of_below hb' F⟩
theorem Reverse_led (h : LedF w F g s) (n d : Int) :
    Calls Try.prog 36 #[.pointer (some ⟨g, 0, none⟩), .int .i64 n, .int .i64 d] w fun e w' => e = .returned (.tuple #[.int .i64 (reV s n d), .int .i64 (revErr s.r n d)]) ∧ ∃ F', LedF w' F' g (reS s n d) ∧ Upd w F w' F' := by
  obtain ⟨v, rm, am, accs, rl, h1, h2, h3⟩ := h
  refine (Reverse_any h1 n d (h3.perm h2.symm)).mono ?_
  rintro e w' ⟨ha, hb⟩
  unfold reS reV
  by_cases h0 : revErr s.r n d = 0
  · obtain ⟨rfl, F', v', accs', hL, hn, hU⟩ := ha h0
    rw [if_pos h0, if_pos h0, h0]
    exact ⟨rfl, F', ⟨v', rm, am, accs', _, hL, by rw [hn]; exact h2, h3.reversed h0⟩, hU⟩
  · obtain ⟨rfl, hb'⟩ := hb h0
    rw [if_neg h0, if_neg h0]
    exact ⟨rfl, F, ⟨v, rm, am, accs, rl, h1.below hb', h2, h3⟩, Upd.of_below hb' F⟩
theorem Records_led (h : LedF w F g s) : Calls Try.prog 30 #[.pointer (some ⟨g, 0, none⟩)] w fun e w' =>
    (∃ A1 c1, e = .returned (.slice A1 s.r.length c1) ∧ Kd.S kRc 34 w' 0 (fun k => w.heap.size ≤ k) (.slice A1 s.r.length c1) s.r) ∧ Below w.heap.size w w' := by
  obtain ⟨v, rm, am, accs, rl, h1, h2, h3⟩ := h
  exact Records_S h1 h3.len (fun r hr => (h3.pss r hr).2.1)
def baE (s : St) (a : ByteArray) (d : Int) : Int := if memB s.n a = false then 7 else if dayB d = false then 2 else 0
def baV (s : St) (a : ByteArray) (d : Int) : Int := if baE s a d = 0 then uptoB d s.r a else 0
theorem Balance_led (h : LedF w F g s) (a : ByteArray) (d : Int) :
    Calls Try.prog 29 #[.pointer (some ⟨g, 0, none⟩), .string a, .int .i64 d] w fun e w' => e = .returned (.tuple #[.int .i64 (baV s a d), .int .i64 (baE s a d)]) ∧ Below w.heap.size w w' := by
  obtain ⟨v, rm, am, accs, rl, h1, h2, h3⟩ := h
  refine (Balance_any h1 a d).mono ?_
  have he : balErr accs a d = baE s a d := by unfold balErr baE; rw [memB_perm h2]
  have hv : balVal accs (fun a => rowsOf a s.r 0) a d = baV s a d := by
    unfold balVal baV
    rw [he]
    by_cases h0 : baE s a d = 0
    · rw [if_pos h0, if_pos h0, uptoR_rows d a h3.days, Int.zero_add]
    · rw [if_neg h0, if_neg h0]
  rw [he, hv]
  exact fun e w' h => h
end
/-! ### Acts -/
def stS (s : St) (a : Ac) : St := if a.kind % 8 < 2 then opS s a.name else if a.kind % 8 < 6 then poS s a.day a.ps else reS s a.no a.day
def stE (s : St) (a : Ac) : Int := if a.kind % 8 < 2 then openE s.n a.name else if a.kind % 8 < 6 then poE s a.day a.ps else revErr s.r a.no a.day
def stV (s : St) (a : Ac) : Int := if a.kind % 8 < 2 then 0 else if a.kind % 8 < 6 then poV s a.day a.ps else reV s a.no a.day
def GoodA (a : Ac) : Prop := 0 ≤ a.kind ∧ a.kind ≤ 255 ∧ ∀ p ∈ a.ps, p.a.size ≤ 9223372036854775807
def runS (l : List Ac) (s : St) : St := l.foldl stS s
end Go.Proofs.Ytpmopdgnnlhplaa
