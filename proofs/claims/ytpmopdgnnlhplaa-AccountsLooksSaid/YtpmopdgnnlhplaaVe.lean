/-
  The reference's sum of a record, in plain Lean: it is 'dig'.
-/
import Derived.Test.YtpmopdgnnlhplaaPAccountsVerifiesx3
import Derived.Test.YtpmopdgnnlhplaaHs
namespace Go.Proofs.Ytpmopdgnnlhplaa
open Go.RowKit Go.Proofs.YtpmopdgnnlhplaaW.PrintWords
open PAccountsVerifies
def bytesN : Nat → Int → List Int
  | 0, _ => []
  | k + 1, n => n % 256 :: bytesN k (n / 256)
theorem bytesN_len (k : Nat) : ∀ n, (bytesN k n).length = k := by
  induction k with
  | zero => intro n; rfl
  | succ k ih => intro n; simp [bytesN, ih]
theorem bytesN_bd (k : Nat) : ∀ n, ∀ x ∈ bytesN k n, 0 ≤ x ∧ x < 256 := by
  induction k with
  | zero => intro n x hx; simp [bytesN] at hx
  | succ k ih =>
    intro n x hx
    simp only [bytesN, List.mem_cons] at hx
    rcases hx with rfl | hx
    · omega
    · exact ih _ _ hx
theorem fold_bytesN (k : Nat) : ∀ h n, (bytesN k n).foldl fnv h = fnvN k h n := by
  induction k with
  | zero => intro h n; rfl
  | succ k ih => intro h n; simp only [bytesN, List.foldl_cons, fnvN]; exact ih _ _
theorem u64wrap {x : Int} (h0 : 0 ≤ x) (h1 : x < 18446744073709551616) : IntKind.u64.wrap x = x := by
  rw [show IntKind.u64.wrap x = x % 18446744073709551616 from rfl]
  omega
theorem number_l (d : Nat) : ∀ (j k : Nat) (l : List Int) (n : Int), j + d = 8 → 0 ≤ n → n < 18446744073709551616 → l.length + d < 140737488355328 →
    merinoref07_number.l0 (k + d + 1) l n j = some (l ++ bytesN d n) := by
  induction d with
  | zero =>
    intro j k l n hj h0 h1 hl
    unfold merinoref07_number.l0
    rw [if_neg (by omega)]
    simp [bytesN]
  | succ d ih =>
    intro j k l n hj h0 h1 hl
    unfold merinoref07_number.l0
    rw [if_pos (by omega), if_pos (by omega), Int.tmod_eq_emod_of_nonneg h0, Int.tdiv_eq_ediv_of_nonneg h0, u64wrap (by omega) (by omega),
      show wrap64 ((j : Int) + 1) = ((j + 1 : Nat) : Int) by unfold wrap64; omega]
    have := ih (j + 1) k (l ++ [n % 256 % 256]) (n / 256) (by omega) (by omega) (by omega) (by simp; omega)
    rw [show k + (d + 1) = k + d + 1 by omega, this]
    simp [bytesN]
theorem number_f (k : Nat) (l : List Int) {n : Int} (h0 : 0 ≤ n) (h1 : n < 18446744073709551616) (hl : l.length + 8 < 140737488355328) : merinoref07_number.f (k + 9) l n = some (l ++ bytesN 8 n) := by
  unfold merinoref07_number.f
  exact number_l 8 0 k l n rfl h0 h1 hl
def strB (s : ByteArray) : List Int := s.data.toList.map fun c => (c.toNat : Int)
theorem strB_len (s : ByteArray) : (strB s).length = s.size := by simp [strB]
theorem bt_strB (s : ByteArray) {j : Nat} (h : j < s.size) : (strB s)[j]? = some (bt s j) := by
  unfold strB bt
  rw [Int.toNat_natCast, dif_pos h, List.getElem?_map, Array.getElem?_toList]
  have : s.data[j]? = some (s[j]'h) := by
    rw [Array.getElem?_eq_getElem (show j < s.data.size from h)]
    rfl
  rw [this]
  rfl
theorem drop_strB (s : ByteArray) {j : Nat} (h : j < s.size) : (strB s).drop j = bt s j :: (strB s).drop (j + 1) := by
  have hl : j < (strB s).length := by rw [strB_len]; exact h
  rw [List.drop_eq_getElem_cons hl]
  congr 1
  have := bt_strB s h
  rw [List.getElem?_eq_getElem hl] at this
  exact Option.some.inj this
theorem bytes_l1 (a0 a1 _a2 : Int) (l2 : List S36) (a3 a4 : Int) (s : ByteArray) (c : Int) (i : Nat) (d : Nat) : ∀ (j m : Nat) (l : List Int), j + d = s.size → 9 ≤ m → s.size ≤ 1000000 → l.length + d + 8 < 140737488355328 →
    merinoref07_Bytes.l1 (m + d + 1) l i j a0 a1 l2 a3 a4 s c = merinoref07_Bytes.l0 m (l ++ (strB s).drop j ++ bytesN 8 (IntKind.u64.wrap c)) (wrap64 (i + 1)) a0 a1 l2 a3 a4 := by
  induction d with
  | zero =>
    intro j m l hj hm hs hl
    obtain ⟨m', rfl⟩ : ∃ m', m = m' + 9 := ⟨m - 9, by omega⟩
    unfold merinoref07_Bytes.l1
    have hu0 : 0 ≤ IntKind.u64.wrap c := by rw [show IntKind.u64.wrap c = c % 18446744073709551616 from rfl]; omega
    have hu1 : IntKind.u64.wrap c < 18446744073709551616 := by rw [show IntKind.u64.wrap c = c % 18446744073709551616 from rfl]; omega
    rw [if_neg (by omega), number_f m' l hu0 hu1 (by omega), Option.bind_some, List.drop_of_length_le (by rw [strB_len]; omega), List.append_nil]
  | succ d ih =>
    intro j m l hj hm hs hl
    unfold merinoref07_Bytes.l1
    rw [if_pos (by omega), if_pos (by omega), if_pos (by omega), show wrap64 ((j : Int) + 1) = ((j + 1 : Nat) : Int) by unfold wrap64; omega]
    have := ih (j + 1) m (l ++ [bt s j]) (by omega) hm hs (by simp; omega)
    rw [show m + (d + 1) = m + d + 1 by omega, this, drop_strB s (j := j) (by omega)]
    simp
def pB (p : S36) : List Int := ((p.f0.size : Int) % 256) :: (strB p.f0 ++ bytesN 8 (IntKind.u64.wrap p.f1))
def costP : List S36 → Nat
  | [] => 8
  | p :: r => p.f0.size + 2 + costP r
theorem costP_ge : ∀ r : List S36, 8 ≤ costP r
  | [] => Nat.le_refl _
  | p :: r => by have := costP_ge r; simp only [costP]; omega
theorem pB_len (p : S36) : (pB p).length = p.f0.size + 9 := by simp [pB, strB_len, bytesN_len]
theorem bytes_l0 (a0 a1 a2 : Int) (ps : List S36) (a3 a4 : Int) (hps : ps.length ≤ 1000) (hsz : ∀ p ∈ ps, p.f0.size ≤ 1000000) : ∀ (r : List S36) (i k : Nat) (l : List Int), ps.drop i = r → l.length + 1000009 * r.length < 140737488355328 →
    merinoref07_Bytes.l0 (k + costP r + 1) l i a0 a1 ps a3 a4 = some (l ++ r.flatMap pB)
  | [], i, k, l, hr, hl => by
    have hi : ps.length ≤ i := by
      have := congrArg List.length hr
      simp at this
      omega
    unfold merinoref07_Bytes.l0
    rw [if_neg (by omega)]
    simp
  | p :: r, i, k, l, hr, hl => by
    have hi : i < ps.length := by
      have := congrArg List.length hr
      simp at this
      omega
    have hp : rd_T36 ps i = p := by
      unfold rd_T36
      rw [Int.toNat_natCast, List.getD_eq_getElem?_getD, List.getElem?_eq_getElem hi]
      rw [List.drop_eq_getElem_cons hi] at hr
      exact (List.cons.inj hr).1
    have hr' : ps.drop (i + 1) = r := by
      rw [List.drop_eq_getElem_cons hi] at hr
      exact (List.cons.inj hr).2
    have hs : p.f0.size ≤ 1000000 := hsz p (by rw [← List.take_append_drop i ps, hr]; simp)
    have hc := costP_ge r
    simp only [List.length_cons] at hl
    unfold merinoref07_Bytes.l0
    rw [if_pos (by omega), if_pos (by omega), if_pos (by omega), hp]
    have h1 := bytes_l1 a0 a1 a2 ps a3 a4 p.f0 p.f1 i p.f0.size 0 (k + costP r + 1) (l ++ [(p.f0.size : Int) % 256]) (by omega) (by omega) hs (by simp; omega)
    rw [show k + costP (p :: r) = k + costP r + 1 + p.f0.size + 1 by simp only [costP]; omega]
    rw [show ((0 : Nat) : Int) = 0 from rfl] at h1
    rw [h1, show wrap64 ((i : Int) + 1) = ((i + 1 : Nat) : Int) by unfold wrap64; omega]
    have ih := bytes_l0 a0 a1 a2 ps a3 a4 hps hsz r (i + 1) k (l ++ [(p.f0.size : Int) % 256] ++ (strB p.f0).drop 0 ++ bytesN 8 (IntKind.u64.wrap p.f1)) hr' (by simp [strB_len, bytesN_len]; omega)
    rw [ih]
    simp [pB]
def toP (p : S36) : Pst := ⟨p.f0, p.f1⟩
def allB (before no day rev : Int) (ps : List S36) : List Int := bytesN 8 before ++ bytesN 8 (IntKind.u64.wrap no) ++ bytesN 8 (IntKind.u64.wrap day) ++ bytesN 8 (IntKind.u64.wrap rev) ++ ps.flatMap pB
theorem u64w (c : Int) : 0 ≤ IntKind.u64.wrap c ∧ IntKind.u64.wrap c < 18446744073709551616 := by
  rw [show IntKind.u64.wrap c = c % 18446744073709551616 from rfl]
  omega
theorem Bytes_f {before : Int} (hb0 : 0 ≤ before) (hb1 : before < 18446744073709551616) (no day rev sum : Int) (ps : List S36) (hps : ps.length ≤ 1000) (hsz : ∀ p ∈ ps, p.f0.size ≤ 1000000) (k : Nat) :
    merinoref07_Bytes.f (k + costP ps + 1) before no day ps rev sum = some (allB before no day rev ps) := by
  have hc := costP_ge ps
  obtain ⟨m, hm⟩ : ∃ m, k + costP ps + 1 = m + 9 := ⟨k + costP ps - 8, by omega⟩
  unfold merinoref07_Bytes.f
  rw [hm, number_f m [] hb0 hb1 (by simp), Option.bind_some, number_f m _ (u64w no).1 (u64w no).2 (by simp [bytesN_len]), Option.bind_some,
    number_f m _ (u64w day).1 (u64w day).2 (by simp [bytesN_len]), Option.bind_some, number_f m _ (u64w rev).1 (u64w rev).2 (by simp [bytesN_len]), Option.bind_some, ← hm]
  have := bytes_l0 no day 0 ps rev sum hps hsz ps 0 k (bytesN 8 before ++ bytesN 8 (IntKind.u64.wrap no) ++ bytesN 8 (IntKind.u64.wrap day) ++ bytesN 8 (IntKind.u64.wrap rev)) rfl (by simp [bytesN_len]; omega)
  rw [show ((0 : Nat) : Int) = 0 from rfl] at this
  rw [List.nil_append, this]
  rfl
theorem strB_bd (s : ByteArray) : ∀ x ∈ strB s, 0 ≤ x ∧ x < 256 := by
  intro x hx
  obtain ⟨c, _, rfl⟩ := List.mem_map.1 hx
  have := UInt8.toNat_lt c
  omega
theorem pB_bd (p : S36) : ∀ x ∈ pB p, 0 ≤ x ∧ x < 256 := by
  intro x hx
  simp only [pB, List.mem_cons, List.mem_append] at hx
  rcases hx with rfl | hx | hx
  · omega
  · exact strB_bd _ _ hx
  · exact bytesN_bd _ _ _ hx
theorem allB_bd (before no day rev : Int) (ps : List S36) : ∀ x ∈ allB before no day rev ps, 0 ≤ x ∧ x < 256 := by
  intro x hx
  simp only [allB, List.mem_append, List.mem_flatMap] at hx
  rcases hx with (((hx | hx) | hx) | hx) | ⟨p, _, hx⟩
  · exact bytesN_bd _ _ _ hx
  · exact bytesN_bd _ _ _ hx
  · exact bytesN_bd _ _ _ hx
  · exact bytesN_bd _ _ _ hx
  · exact pB_bd _ _ hx
theorem fold_strB (l : List UInt8) : ∀ h, (l.map fun c => (c.toNat : Int)).foldl fnv h = fnvS h l := by
  intro h
  rw [List.foldl_map]
  rfl
theorem fold_pB (p : S36) (h : Int) : (pB p).foldl fnv h = fnvP h (toP p) := by
  simp only [pB, List.foldl_cons, List.foldl_append, fold_bytesN]
  rw [show (strB p.f0).foldl fnv (fnv h ((p.f0.size : Int) % 256)) = fnvS (fnv h ((p.f0.size : Int) % 256)) p.f0.data.toList from fold_strB _ _]
  rfl
theorem fold_flat (ps : List S36) : ∀ h, (ps.flatMap pB).foldl fnv h = (ps.map toP).foldl fnvP h := by
  induction ps with
  | nil => intro h; rfl
  | cons p r ih => intro h; simp only [List.flatMap_cons, List.foldl_append, List.map_cons, List.foldl_cons, fold_pB]; exact ih _
theorem fold_allB (before no day rev : Int) (ps : List S36) : (allB before no day rev ps).foldl fnv 14695981039346656037 = dig before no day rev (ps.map toP) := by
  simp only [allB, List.foldl_append, fold_bytesN, fold_flat]
  rfl
theorem sum_l0 (bs : List Int) (hb : ∀ x ∈ bs, 0 ≤ x ∧ x < 256) (hl : bs.length < 140737488355328) (d : Nat) : ∀ (j k : Nat) (h : Int), j + d = bs.length → merinoref07_Sum.l0 (k + d + 1) bs h j = some ((bs.drop j).foldl fnv h) := by
  induction d with
  | zero =>
    intro j k h hj
    unfold merinoref07_Sum.l0
    rw [if_neg (by omega), List.drop_of_length_le (by omega)]
    rfl
  | succ d ih =>
    intro j k h hj
    have hjl : j < bs.length := by omega
    have hr : rd bs j = bs[j] := by
      unfold rd
      rw [Int.toNat_natCast, List.getD_eq_getElem?_getD, List.getElem?_eq_getElem hjl]
      rfl
    have hx := hb _ (List.getElem_mem hjl)
    unfold merinoref07_Sum.l0
    rw [if_pos (by omega), if_pos (by omega), hr, u64wrap hx.1 (by omega), show wrap64 ((j : Int) + 1) = ((j + 1 : Nat) : Int) by unfold wrap64; omega, show k + (d + 1) = k + d + 1 by omega]
    have := ih (j + 1) k (fnv h bs[j]) (by omega)
    rw [List.drop_eq_getElem_cons hjl, List.foldl_cons]
    exact this
theorem Sum_f {before : Int} (hb0 : 0 ≤ before) (hb1 : before < 18446744073709551616) (no day rev sum : Int) (ps : List S36) (hps : ps.length ≤ 1000) (hsz : ∀ p ∈ ps, p.f0.size ≤ 1000000) (hl : (allB before no day rev ps).length < 140737488355328) (k : Nat) :
    merinoref07_Sum.f (k + costP ps + (allB before no day rev ps).length + 1) before no day ps rev sum = some (dig before no day rev (ps.map toP)) := by
  unfold merinoref07_Sum.f
  have h1 := Bytes_f hb0 hb1 no day rev sum ps hps hsz (k + (allB before no day rev ps).length)
  rw [show k + (allB before no day rev ps).length + costP ps + 1 = k + costP ps + (allB before no day rev ps).length + 1 by omega] at h1
  have h2 := sum_l0 _ (allB_bd before no day rev ps) hl (allB before no day rev ps).length 0 (k + costP ps) 14695981039346656037 (Nat.zero_add _)
  rw [show ((0 : Nat) : Int) = 0 from rfl, List.drop_zero, fold_allB] at h2
  rw [h1, Option.bind_some, h2]
/-- How many records are valid, from record i on. -/
def verR : Int → Nat → List S34 → Nat
  | _, i, [] => i
  | b, i, r :: rest => if r.f0 = i + 1 ∧ r.f4 = dig b r.f0 r.f1 r.f3 (r.f2.map toP) then verR r.f4 (i + 1) rest else i
def SmallR (r : S34) : Prop := r.f2.length ≤ 40 ∧ (∀ p ∈ r.f2, p.f0.size ≤ 2000) ∧ 0 ≤ r.f4 ∧ r.f4 < 18446744073709551616
theorem costP_le : ∀ ps : List S36, (∀ p ∈ ps, p.f0.size ≤ 2000) → costP ps ≤ 8 + 2002 * ps.length
  | [], _ => by simp [costP]
  | p :: r, h => by
    have := costP_le r (fun q hq => h q (by simp [hq]))
    have := h p (by simp)
    simp only [costP, List.length_cons]
    omega
theorem flat_le : ∀ ps : List S36, (∀ p ∈ ps, p.f0.size ≤ 2000) → (ps.flatMap pB).length ≤ 2009 * ps.length
  | [], _ => by simp
  | p :: r, h => by
    have := flat_le r (fun q hq => h q (by simp [hq]))
    have := h p (by simp)
    simp only [List.flatMap_cons, List.length_append, pB_len, List.length_cons]
    omega
theorem Sum_small {before : Int} (hb0 : 0 ≤ before) (hb1 : before < 18446744073709551616) (r : S34) (hr : SmallR r) (k : Nat) (hk : 200000 ≤ k) :
    merinoref07_Sum.f k before r.f0 r.f1 r.f2 r.f3 r.f4 = some (dig before r.f0 r.f1 r.f3 (r.f2.map toP)) := by
  obtain ⟨h1, h2, _, _⟩ := hr
  have c1 := costP_le r.f2 h2
  have c2 := flat_le r.f2 h2
  have c3 : (allB before r.f0 r.f1 r.f3 r.f2).length = 32 + (r.f2.flatMap pB).length := by simp only [allB, List.length_append, bytesN_len]
  have := Sum_f hb0 hb1 r.f0 r.f1 r.f3 r.f4 r.f2 (by omega) (fun p hp => Nat.le_trans (h2 p hp) (by omega)) (by omega) (k - costP r.f2 - (allB before r.f0 r.f1 r.f3 r.f2).length - 1)
  rw [show k - costP r.f2 - (allB before r.f0 r.f1 r.f3 r.f2).length - 1 + costP r.f2 + (allB before r.f0 r.f1 r.f3 r.f2).length + 1 = k by omega] at this
  exact this
end Go.Proofs.Ytpmopdgnnlhplaa
