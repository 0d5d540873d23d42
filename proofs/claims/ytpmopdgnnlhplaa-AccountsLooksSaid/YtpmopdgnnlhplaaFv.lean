/-
  The hash tells one byte: a sum with one byte changed is another sum.
-/
import Derived.Test.YtpmopdgnnlhplaaHs
namespace Go.Proofs.Ytpmopdgnnlhplaa
open Go.RowKit Go.Proofs.YtpmopdgnnlhplaaW.PrintWords
def W64 (h : Int) : Prop := 0 ≤ h ∧ h < 18446744073709551616
def bv (h : Int) : BitVec 64 := BitVec.ofInt 64 h
theorem bv_inj {h k : Int} (hh : W64 h) (hk : W64 k) (e : bv h = bv k) : h = k := by
  have := congrArg BitVec.toNat e
  simp only [bv, BitVec.toNat_ofInt] at this
  unfold W64 at hh hk
  have e1 : ((2 ^ 64 : Nat) : Int) = 18446744073709551616 := by decide
  rw [e1] at this
  omega
theorem wrap_u64 (n : Int) : IntKind.u64.wrap n = n % 18446744073709551616 := rfl
theorem W64_wrap (n : Int) : W64 (IntKind.u64.wrap n) := by rw [wrap_u64]; unfold W64; omega
theorem bits_xor_bv (k : IntKind) (hk : k.bits = 64) (x y : Int) : bits BinOp.xor k x y = k.wrap ((bv x ^^^ bv y).toNat : Int) := by
  unfold bits bv
  rw [hk]
theorem bv_wrap (n : Int) : bv (IntKind.u64.wrap n) = bv n := by
  apply BitVec.eq_of_toNat_eq
  simp only [bv, BitVec.toNat_ofInt, wrap_u64]
  have e1 : ((2 ^ 64 : Nat) : Int) = 18446744073709551616 := by decide
  rw [e1]
  omega
theorem bv_nat (x : BitVec 64) : bv (x.toNat : Int) = x := by
  unfold bv
  apply BitVec.eq_of_toNat_eq
  simp
theorem bv_mul (a b : Int) : bv (a * b) = bv a * bv b := by
  unfold bv
  exact BitVec.ofInt_mul a b
theorem fnv_bv (h c : Int) : bv (fnv h c) = (bv h ^^^ bv c) * bv 1099511628211 := by
  unfold fnv
  rw [bv_wrap, bv_mul, bits_xor_bv _ rfl, bv_wrap, bv_nat]
theorem fnv_W (h c : Int) : W64 (fnv h c) := W64_wrap _
theorem mulP {a b : BitVec 64} (h : a * bv 1099511628211 = b * bv 1099511628211) : a = b := by
  have e : bv 1099511628211 * bv 14886173955864302971 = 1#64 := by decide
  have := congrArg (· * bv 14886173955864302971) h
  simp only [BitVec.mul_assoc, e, BitVec.mul_one] at this
  exact this
theorem xor_right {a b c : BitVec 64} (h : a ^^^ c = b ^^^ c) : a = b := by
  have := congrArg (· ^^^ c) h
  simpa [BitVec.xor_assoc] using this
theorem xor_left {a b c : BitVec 64} (h : c ^^^ a = c ^^^ b) : a = b := xor_right (c := c) (by rw [BitVec.xor_comm a, BitVec.xor_comm b]; exact h)
theorem fnv_inj {h k c : Int} (hh : W64 h) (hk : W64 k) (e : fnv h c = fnv k c) : h = k := by
  have := congrArg bv e
  rw [fnv_bv, fnv_bv] at this
  exact bv_inj hh hk (xor_right (mulP this))
theorem fnv_byte {h c d : Int} (hc : W64 c) (hd : W64 d) (e : fnv h c = fnv h d) : c = d := by
  have := congrArg bv e
  rw [fnv_bv, fnv_bv] at this
  exact bv_inj hc hd (xor_left (mulP this))
theorem fnvN_W : ∀ (k : Nat) {h : Int} (n : Int), W64 h → W64 (fnvN k h n)
  | 0, _, _, hh => hh
  | k + 1, _, n, _ => fnvN_W k (n / 256) (fnv_W _ _)
theorem fnvN_inj : ∀ (k : Nat) {h g : Int} (n : Int), W64 h → W64 g → fnvN k h n = fnvN k g n → h = g
  | 0, _, _, _, _, _, e => e
  | k + 1, _, _, n, hh, hg, e => fnv_inj hh hg (fnvN_inj k (n / 256) (fnv_W _ _) (fnv_W _ _) e)
/-- The bytes but one are the same, and that one is another. -/
def One (k : Nat) (n m : Int) : Prop := ∃ j < k, n / 256 ^ j % 256 ≠ m / 256 ^ j % 256 ∧ ∀ i < k, i ≠ j → n / 256 ^ i % 256 = m / 256 ^ i % 256
theorem fnvN_same : ∀ (k : Nat) (h : Int) {n m : Int}, (∀ i < k, n / 256 ^ i % 256 = m / 256 ^ i % 256) → fnvN k h n = fnvN k h m
  | 0, _, _, _, _ => rfl
  | k + 1, h, n, m, e => by
    unfold fnvN
    have e0 := e 0 (by omega)
    simp only [Int.pow_zero, Int.ediv_one] at e0
    rw [e0]
    refine fnvN_same k _ fun i hi => ?_
    have := e (i + 1) (by omega)
    rw [Int.ediv_ediv_of_nonneg (by decide), Int.ediv_ediv_of_nonneg (by decide), ← Int.mul_comm, ← Int.pow_succ]
    exact this
theorem fnvN_one : ∀ (k : Nat) {h n m : Int}, W64 h → One k n m → fnvN k h n ≠ fnvN k h m
  | 0, _, _, _, _, ⟨j, hj, _⟩ => absurd hj (by omega)
  | k + 1, h, n, m, hh, ⟨j, hj, hne, hall⟩ => by
    intro e
    unfold fnvN at e
    have sh : ∀ (x : Int) (i : Nat), x / 256 / 256 ^ i = x / 256 ^ (i + 1) := fun x i => by
      rw [Int.ediv_ediv_of_nonneg (by decide), ← Int.mul_comm, ← Int.pow_succ]
    rcases j with _ | j
    · have hs : fnvN k (fnv h (m % 256)) (n / 256) = fnvN k (fnv h (m % 256)) (m / 256) := fnvN_same k _ fun i hi => by
        rw [sh, sh]
        exact hall (i + 1) (by omega) (by omega)
      rw [← hs] at e
      have := fnvN_inj k _ (fnv_W _ _) (fnv_W _ _) e
      have := fnv_byte (by unfold W64; omega) (by unfold W64; omega) this
      simp only [Int.pow_zero, Int.ediv_one] at hne
      exact hne this
    · have h0 := hall 0 (by omega) (by omega)
      simp only [Int.pow_zero, Int.ediv_one] at h0
      rw [h0] at e
      refine fnvN_one k (fnv_W _ _) ⟨j, by omega, ?_, fun i hi hij => ?_⟩ e
      · rw [sh, sh]; exact hne
      · rw [sh, sh]; exact hall (i + 1) (by omega) (by omega)
theorem fnvS_W (l : List UInt8) : ∀ {h : Int}, W64 h → W64 (fnvS h l) := by
  induction l with
  | nil => intro h hh; exact hh
  | cons c r ih => intro h hh; exact ih (fnv_W _ _)
theorem fnvS_inj (l : List UInt8) : ∀ {h g : Int}, W64 h → W64 g → fnvS h l = fnvS g l → h = g := by
  induction l with
  | nil => intro h g _ _ e; exact e
  | cons c r ih => intro h g hh hg e; exact fnv_inj hh hg (ih (fnv_W _ _) (fnv_W _ _) e)
theorem fnvP_W {h : Int} (p : Pst) (_ : W64 h) : W64 (fnvP h p) := fnvN_W 8 _ (fnvS_W _ (fnv_W _ _))
theorem fnvP_inj {h g : Int} (p : Pst) (hh : W64 h) (hg : W64 g) (e : fnvP h p = fnvP g p) : h = g :=
  fnv_inj hh hg (fnvS_inj _ (fnv_W _ _) (fnv_W _ _) (fnvN_inj 8 _ (fnvS_W _ (fnv_W _ _)) (fnvS_W _ (fnv_W _ _)) e))
theorem foldP_W (ps : List Pst) : ∀ {h : Int}, W64 h → W64 (ps.foldl fnvP h) := by
  induction ps with
  | nil => intro h hh; exact hh
  | cons c r ih => intro h hh; exact ih (fnvP_W _ hh)
theorem foldP_inj (ps : List Pst) : ∀ {h g : Int}, W64 h → W64 g → ps.foldl fnvP h = ps.foldl fnvP g → h = g := by
  induction ps with
  | nil => intro h g _ _ e; exact e
  | cons c r ih => intro h g hh hg e; exact fnvP_inj _ hh hg (ih (fnvP_W _ hh) (fnvP_W _ hg) e)
theorem digHead_W (b no day rev : Int) : W64 (digHead b no day rev) := fnvN_W 8 _ (fnvN_W 8 _ (fnvN_W 8 _ (fnvN_W 8 _ (by unfold W64; decide))))
theorem dig_W (b no day rev : Int) (ps : List Pst) : W64 (dig b no day rev ps) := foldP_W _ (digHead_W _ _ _ _)
theorem dig_day {b no day day' rev : Int} {ps : List Pst} (h : One 8 (u64 day) (u64 day')) : dig b no day rev ps ≠ dig b no day' rev ps := fun e =>
  fnvN_one 8 (fnvN_W 8 _ (fnvN_W 8 _ (by unfold W64; decide))) h
    (fnvN_inj 8 _ (fnvN_W 8 _ (fnvN_W 8 _ (fnvN_W 8 _ (by unfold W64; decide)))) (fnvN_W 8 _ (fnvN_W 8 _ (fnvN_W 8 _ (by unfold W64; decide)))) (foldP_inj ps (digHead_W _ _ _ _) (digHead_W _ _ _ _) e))
theorem dig_rev {b no day rev rev' : Int} {ps : List Pst} (h : One 8 (u64 rev) (u64 rev')) : dig b no day rev ps ≠ dig b no day rev' ps := fun e =>
  fnvN_one 8 (fnvN_W 8 _ (fnvN_W 8 _ (fnvN_W 8 _ (by unfold W64; decide)))) h (foldP_inj ps (digHead_W _ _ _ _) (digHead_W _ _ _ _) e)
theorem dig_cents {b no day rev : Int} {p q : List Pst} {x : Pst} {c : Int} (h : One 8 (u64 x.c) (u64 c)) : dig b no day rev (p ++ x :: q) ≠ dig b no day rev (p ++ ⟨x.a, c⟩ :: q) := fun e => by
  unfold dig at e
  rw [List.foldl_append, List.foldl_append, List.foldl_cons, List.foldl_cons] at e
  have hW := foldP_W p (digHead_W b no day rev)
  have := foldP_inj q (fnvP_W _ hW) (fnvP_W _ hW) e
  exact fnvN_one 8 (fnvS_W _ (fnv_W _ _)) h this
/-! ### The flip -/
theorem byte_xor (a f : Nat) (i : Nat) : (a ^^^ f) / 256 ^ i % 256 = (a / 256 ^ i % 256) ^^^ (f / 256 ^ i % 256) := by
  have e : ∀ x : Nat, x / 256 ^ i = x >>> (8 * i) := fun x => by rw [Nat.shiftRight_eq_div_pow, Nat.pow_mul]
  have e2 : ∀ x : Nat, x % 256 = x % 2 ^ 8 := fun _ => rfl
  rw [e, e, e, e2, e2, e2, Nat.shiftRight_xor_distrib, Nat.xor_mod_two_pow]
theorem byte_at (f j i : Nat) (hf : f < 256) : f * 256 ^ j / 256 ^ i % 256 = if i = j then f else 0 := by
  by_cases h : i = j
  · subst h
    rw [if_pos rfl, Nat.mul_div_cancel _ (Nat.pow_pos (by decide)), Nat.mod_eq_of_lt hf]
  · rw [if_neg h]
    rcases Nat.lt_or_gt_of_ne h with h1 | h1
    · obtain ⟨d, rfl⟩ : ∃ d, j = i + (d + 1) := ⟨j - i - 1, by omega⟩
      rw [Nat.pow_add, ← Nat.mul_assoc, Nat.mul_right_comm, Nat.mul_div_cancel _ (Nat.pow_pos (by decide)), Nat.pow_succ, ← Nat.mul_assoc, Nat.mul_mod_left]
    · obtain ⟨d, rfl⟩ : ∃ d, i = j + (d + 1) := ⟨i - j - 1, by omega⟩
      rw [Nat.pow_add, ← Nat.div_div_eq_div_mul, Nat.mul_div_cancel _ (Nat.pow_pos (by decide)), Nat.div_eq_of_lt]
      · exact Nat.lt_of_lt_of_le hf (by rw [Nat.pow_succ]; exact Nat.le_mul_of_pos_left _ (Nat.pow_pos (by decide)))
/-- The flip of a byte. -/
def flipOf (f : Int) (j : Nat) : Int := IntKind.i64.wrap (f * 2 ^ (8 * j))
theorem u64_i64 (n : Int) : u64 (IntKind.i64.wrap n) = u64 n := by
  have key : ∀ (c : Bool) (m : Int), (if c = true then m - 18446744073709551616 else m) % 18446744073709551616 = m % 18446744073709551616 := by
    intro c m
    cases c
    · rfl
    · show (m - 18446744073709551616) % 18446744073709551616 = _
      omega
  refine (key (true && decide (n % 18446744073709551616 ≥ 9223372036854775808)) (n % 18446744073709551616)).trans ?_
  show n % 18446744073709551616 % 18446744073709551616 = n % 18446744073709551616
  omega
theorem u64_xor (x y : Int) : u64 (bits BinOp.xor .i64 x y) = (((u64 x).toNat ^^^ (u64 y).toNat : Nat) : Int) := by
  rw [bits_xor_bv _ rfl, u64_i64]
  have hu : ∀ z : Int, (u64 z).toNat = (bv z).toNat := fun z => by
    simp only [bv, BitVec.toNat_ofInt, u64, wrap_u64]
    rfl
  rw [hu, hu, BitVec.toNat_xor]
  have h1 := (bv x ^^^ bv y).isLt
  rw [BitVec.toNat_xor] at h1
  unfold u64
  rw [wrap_u64]
  omega
theorem flip_one (x f : Int) (j : Nat) (hf0 : 1 ≤ f) (hf1 : f ≤ 255) (hj : j < 8) : One 8 (u64 x) (u64 (bits BinOp.xor .i64 x (flipOf f j))) := by
  obtain ⟨g, rfl⟩ : ∃ g : Nat, f = g := ⟨f.toNat, by omega⟩
  have hF : (u64 (flipOf g j)).toNat = g * 256 ^ j := by
    unfold flipOf
    rw [u64_i64]
    unfold u64
    rw [wrap_u64]
    have e : ((g : Int) * 2 ^ (8 * j)) = ((g * 256 ^ j : Nat) : Int) := by
      rw [Int.natCast_mul, Int.natCast_pow, Int.pow_mul]
      rfl
    have hb : g * 256 ^ j < 18446744073709551616 := by
      calc g * 256 ^ j ≤ 255 * 256 ^ 7 := Nat.mul_le_mul (by omega) (Nat.pow_le_pow_right (by decide) (by omega))
        _ < 18446744073709551616 := by decide
    rw [e]
    omega
  have hx : ((u64 x).toNat : Int) = u64 x := Int.toNat_of_nonneg (u64_lo x)
  have key : ∀ i : Nat, u64 (bits BinOp.xor .i64 x (flipOf g j)) / 256 ^ i % 256 = ((((u64 x).toNat / 256 ^ i % 256) ^^^ (if i = j then g else 0) : Nat) : Int) := fun i => by
    rw [u64_xor, hF, ← byte_at g j i (by omega), ← byte_xor, Int.natCast_emod, Int.natCast_ediv, Int.natCast_pow]
    rfl
  have key2 : ∀ i : Nat, u64 x / 256 ^ i % 256 = (((u64 x).toNat / 256 ^ i % 256 : Nat) : Int) := fun i => by
    rw [Int.natCast_emod, Int.natCast_ediv, Int.natCast_pow, hx]
    rfl
  refine ⟨j, hj, ?_, fun i _ hij => ?_⟩
  · rw [key, key2, if_pos rfl]
    intro e
    have e2 : (u64 x).toNat / 256 ^ j % 256 = ((u64 x).toNat / 256 ^ j % 256) ^^^ g := Int.ofNat.inj e
    have e3 := congrArg (((u64 x).toNat / 256 ^ j % 256) ^^^ ·) e2
    simp only [Nat.xor_self, ← Nat.xor_assoc, Nat.zero_xor] at e3
    omega
  · rw [key, key2, if_neg hij, Nat.xor_zero]
theorem One.ne {k : Nat} {n m : Int} (h : One k n m) : n ≠ m := by
  obtain ⟨j, _, h1, _⟩ := h
  rintro rfl
  exact h1 rfl
end Go.Proofs.Ytpmopdgnnlhplaa
