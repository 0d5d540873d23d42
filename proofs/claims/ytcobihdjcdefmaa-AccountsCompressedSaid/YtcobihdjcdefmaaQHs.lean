/-
  The walks of the ledger's hash: byte, number, digest.
-/
import Derived.Test.YtcobihdjcdefmaaQKi
import Derived.Lib.ConvBytes
namespace Go.Proofs.Ytcobihdjcdefmaa
open Go.RowKit Go.Proofs.YtcobihdjcdefmaaW.PrintWords
def fnv (h c : Int) : Int := IntKind.u64.wrap (bits BinOp.xor IntKind.u64 h c * 1099511628211)
def fnvN : Nat → Int → Int → Int
  | 0, h, _ => h
  | k + 1, h, n => fnvN k (fnv h (n % 256)) (n / 256)
theorem pow_pos' (k : Nat) : (0 : Int) < 256 ^ k := by exact Int.pow_pos (by decide)
theorem div_pow_succ (n : Int) (k : Nat) : n / 256 ^ k / 256 = n / 256 ^ (k + 1) := by
  rw [Int.ediv_ediv_of_nonneg (Int.le_of_lt (pow_pos' k)), Int.pow_succ]
theorem fnvN_succ (k : Nat) : ∀ h n, fnvN (k + 1) h n = fnv (fnvN k h n) ((n / 256 ^ k) % 256) := by
  induction k with
  | zero => intro h n; simp [fnvN]
  | succ k ih =>
    intro h n
    rw [fnvN, ih]
    simp only [fnvN]
    congr 2
    rw [Int.ediv_ediv_of_nonneg (by decide)]
    congr 1
    rw [Int.pow_succ, Int.mul_comm]
set_option maxHeartbeats 400000 in
theorem byte_any (w : World) (g : Nat) (t : TypeId) (h c : Int) (_h0 : 0 ≤ c) (_h1 : c < 256) (hc : Blk w g #[.int .u64 h] t) :
    Calls Try.prog 82 #[.pointer (some ⟨g, 0, none⟩), .int .u8 c] w fun e w' => e = .returned (.tuple #[]) ∧ Blk w' g #[.int .u64 (fnv h c)] t ∧ Fr (· = g) w w' := by
  have h2 := hc.cell 0 (v := .int .u64 h) rfl
  have h3 := hc.free 0
  have hs := hc.set 0 (.int .u64 (fnv h c))
  have HS := Lib.hid hs
  clear hc hs
  go_enter Try.func82, Try.ntmps82
  go_wp2
  go_end0
  exact ⟨rfl, by have := HS.out; simpa [fnv] using this, (Fr.refl (· = g) w).setCell (p := ⟨g, 0, none⟩) (.inl rfl) _⟩
set_option maxHeartbeats 800000 in
theorem number_any (w : World) (g : Nat) (t : TypeId) (h n : Int) (h0 : 0 ≤ n) (h1 : n < 18446744073709551616) (hc : Blk w g #[.int .u64 h] t) :
    Calls Try.prog 81 #[.pointer (some ⟨g, 0, none⟩), .int .u64 n] w fun e w' => e = .returned (.tuple #[]) ∧ Blk w' g #[.int .u64 (fnvN 8 h n)] t ∧ Fr (· = g) w w' := by
  go_enter Try.func81, Try.ntmps81
  go_wp2_with fail
  go_loopw [1, 4] (fun x i wr => ∃ k : Nat, k ≤ 8 ∧ i = .int .i64 k ∧ x = .int .u64 (n / 256 ^ k) ∧ Blk wr g #[.int .u64 (fnvN k h n)] t ∧ Fr (· = g) w wr) (fun _ i _ => 8 - (intOf i).toNat)
  case atStart => exact ⟨0, by omega, rfl, by simp, by simpa [fnvN] using hc, Fr.refl _ w⟩
  case round =>
    obtain ⟨k, hk, rfl, rfl, hb, hf⟩ := hrel
    have hx0 : 0 ≤ n / 256 ^ k := Int.ediv_nonneg h0 (Int.le_of_lt (pow_pos' k))
    have hx1 : n / 256 ^ k < 18446744073709551616 := Int.lt_of_le_of_lt (Int.ediv_le_self _ h0) h1
    have HE := Lib.hid (div_pow_succ n k)
    have HS := Lib.hid (fnvN_succ k h n)
    generalize n / 256 ^ k = x at *
    by_cases hlt : k < 8
    · go_wp2_with (go_at_call 82; refine (byte_any _ g t _ _ (by omega) (by omega) hb).mono ?_; rintro e w1 ⟨rfl, hb1, hf1⟩)
      go_roundw
      case rel => exact ⟨k + 1, by omega, by go_num, by rw [← HE.out], by rw [HS.out]; exact hb1, hf.trans hf1 (fun _ hx => .inl hx)⟩
      case measure => simp [intOf]; omega
    · go_wp2_with fail
      go_end0
      obtain rfl : k = 8 := by omega
      exact ⟨rfl, hb, hf⟩
/-! ### digest -/
def u64 (n : Int) : Int := IntKind.u64.wrap n
def fnvS (h : Int) (l : List UInt8) : Int := l.foldl (fun h c => fnv h (c.toNat : Int)) h
def fnvP (h : Int) (p : Pst) : Int := fnvN 8 (fnvS (fnv h (p.a.size % 256)) p.a.data.toList) (u64 p.c)
def digHead (before no day rev : Int) : Int := fnvN 8 (fnvN 8 (fnvN 8 (fnvN 8 14695981039346656037 before) (u64 no)) (u64 day)) (u64 rev)
def dig (before no day rev : Int) (ps : List Pst) : Int := ps.foldl fnvP (digHead before no day rev)
theorem u64_eq (n : Int) : u64 n = n % 18446744073709551616 := rfl
theorem u64_lo (n : Int) : 0 ≤ u64 n := by rw [u64_eq]; omega
theorem u64_hi (n : Int) : u64 n < 18446744073709551616 := by rw [u64_eq]; omega
def elt3 (a b c : Int) (k : Nat) : Int := if k = 0 then a else if k = 1 then b else c
def hd3 (h a b c : Int) : Nat → Int
  | 0 => h
  | k + 1 => fnvN 8 (hd3 h a b c k) (u64 (elt3 a b c k))
theorem fnvS_snoc (h : Int) (l : List UInt8) (i : Nat) (hi : i < l.length) : fnvS h (l.take (i + 1)) = fnv (fnvS h (l.take i)) ((l.getD i 0).toNat : Int) := by
  unfold fnvS
  rw [List.take_succ_eq_append_getElem hi, List.foldl_append]
  simp [List.getD_eq_getElem?_getD, hi]
theorem fr_add {B : Nat} {a b : World} {F : Nat → Prop} {w : World} (h : Below B w a) (k : Fr F a b) (hB : B ≤ a.heap.size) (hF : ∀ x, F x → B ≤ x) : Below B w b := h.trans (k.to_below hB hF)
set_option maxRecDepth 100000 in
set_option maxHeartbeats 3200000 in
theorem digest_any (w : World) (before no day rev sum : Int) (A : Option Addr) (c : Nat) (ps : List Pst) (hb0 : 0 ≤ before) (hb1 : before < 18446744073709551616) (hps : Kd.C kPst w A ps.length ps) (hsizes : ∀ p ∈ ps, p.a.size ≤ 9223372036854775807) :
    Calls Try.prog 73 #[.int .u64 before, .agg #[.int .i64 no, .int .i64 day, .slice A ps.length c, .int .i64 rev, .int .u64 sum]] w fun e w' =>
      e = .returned (.int .u64 (dig before no day rev ps)) ∧ Below w.heap.size w w' := by
  go_enter Try.func73, Try.ntmps73
  go_wp2_with fail
  have hH := Blk.new1 w (.cells #[.int .i64 no, .int .i64 day, .slice A ps.length c, .int .i64 rev, .int .u64 sum] 94) #[.int .u64 14695981039346656037] 138
  refine (number_any _ (w.heap.size + 1) 138 _ _ hb0 hb1 hH).mono ?_
  rintro e w1 ⟨rfl, hb1, hf1⟩
  have hB : Blk w1 w.heap.size #[.int .i64 no, .int .i64 day, .slice A ps.length c, .int .i64 rev, .int .u64 sum] 94 := ((Blk.new w _ _).alloc _).fr hf1 (by omega)
  have hW : Below w.heap.size w w1 := fr_add (((Below.refl _ w).alloc (Nat.le_refl _) _).alloc (by simp) _) hf1 (by simp; omega) (by omega)
  have hs1 : w.heap.size + 1 < w1.heap.size := hb1.lt
  have c0 := hB.cell 0 (v := .int .i64 no) rfl
  have c1 := hB.cell 1 (v := .int .i64 day) rfl
  have c3 := hB.cell 3 (v := .int .i64 rev) rfl
  go_wp2_with fail
  have hL := Blk.new w1 #[Value.int IntKind.i64 no, Value.int IntKind.i64 day, Value.int IntKind.i64 rev] 3
  have hH2 := hb1.alloc (.cells #[Value.int IntKind.i64 no, Value.int IntKind.i64 day, Value.int IntKind.i64 rev] 3)
  have hB2 := hB.alloc (.cells #[Value.int IntKind.i64 no, Value.int IntKind.i64 day, Value.int IntKind.i64 rev] 3)
  have hW2 := hW.alloc (by omega) (.cells #[Value.int IntKind.i64 no, Value.int IntKind.i64 day, Value.int IntKind.i64 rev] 3)
  generalize w1.alloc _ = W at *
  clear c0 c1 c3 hb1 hf1 hB hW hH
  go_loopw [7, 22] (fun _ i wr => ∃ k : Nat, k ≤ 3 ∧ i = .int .i64 k ∧ Blk wr (w.heap.size + 1) #[.int .u64 (hd3 (fnvN 8 14695981039346656037 before) no day rev k)] 138 ∧ Fr (· = w.heap.size + 1) W wr) (fun _ i _ => 3 - (intOf i).toNat)
  case atStart => exact ⟨0, by omega, rfl, hH2, Fr.refl _ _⟩
  case round =>
    obtain ⟨k, hk, rfl, hb, hf⟩ := hrel
    by_cases hlt : k < 3
    · have hLr := hL.fr hf (by omega)
      have hc : wr.cell? ⟨w1.heap.size, k, none⟩ = some (.int .i64 (elt3 no day rev k)) := by
        have : k = 0 ∨ k = 1 ∨ k = 2 := by omega
        rcases this with rfl | rfl | rfl
        · exact hLr.cell 0 rfl
        · exact hLr.cell 1 rfl
        · exact hLr.cell 2 rfl
      go_wp2_with (go_at_call 81; refine (number_any _ _ _ _ _ (u64_lo _) (u64_hi _) hb).mono ?_; rintro e w2 ⟨rfl, hb2, hf2⟩)
      go_roundw
      case rel => exact ⟨k + 1, by omega, by go_num, hb2, hf.trans hf2 (fun _ hx => .inl hx)⟩
      case measure => simp [intOf]; omega
    · have HK := Lib.hid (show k = 3 by omega)
      have hBr := hB2.fr hf (by omega)
      have c2 := hBr.cell 2 (v := .slice A ps.length c) rfl
      have hW3 : Below w.heap.size w wr := fr_add hW2 hf (by have := hL.lt; omega) (by omega)
      have hsz : w.heap.size + 1 < wr.heap.size := hb.lt
      have hlen : ps.length ≤ 9223372036854775807 := hps.2.1
      clear hf hB2 hL hH2 hW2
      go_wp2_with fail
      clear c2
      have hb' : Blk wr (w.heap.size + 1) #[.int .u64 (digHead before no day rev)] 138 := by have h3 := HK.out; subst h3; exact hb
      clear hb hBr
      obtain ⟨wo, rfl⟩ : ∃ wo : World, wo = wr := ⟨_, rfl⟩
      go_loopw [9, 11, 33] (fun _ _ i wr => ∃ j : Nat, j ≤ ps.length ∧ i = .int .i64 j ∧ Blk wr (w.heap.size + 1) #[.int .u64 ((ps.take j).foldl fnvP (digHead before no day rev))] 138 ∧ Below w.heap.size w wr) (fun _ _ i _ => ps.length - (intOf i).toNat)
      case atStart => exact ⟨0, by omega, rfl, by simpa using hb', hW3⟩
      case round =>
        obtain ⟨j, hj, rfl, hbj, hWj⟩ := hrel
        by_cases hjl : j < ps.length
        · obtain ⟨x, hx⟩ : ∃ x, ps[j]? = some x := ⟨_, List.getElem?_eq_getElem hjl⟩
          obtain ⟨ad, rfl, p0, p1⟩ := at_Pst (Kd.C_below hps hWj) hx
          have HX := Lib.hid hx
          clear hx
          have hszj := hbj.lt
          have hbj2 := hbj.alloc (.cells #[.string x.a, .int .i64 x.c] 50)
          have hW2 := hWj.alloc (by omega) (.cells #[.string x.a, .int .i64 x.c] 50)
          have hN := Blk.new wr #[.string x.a, .int .i64 x.c] 50
          go_wp2_with fail
          refine (byte_any _ _ _ _ _ (by omega) (by omega) hbj2).mono ?_
          rintro e w2 ⟨rfl, hb3, hf3⟩
          have hN2 := hN.fr hf3 (by omega)
          have n0 := hN2.cell 0 (v := .string x.a) rfl
          have hW3 := fr_add hW2 hf3 (by simp; omega) (by omega)
          have hcv := Lib.run_convert_string_bytes (P := Try.prog) w2 9 125 5 x.a Try.underlying9 Try.underlying125 Try.underlying5
          have hby := fun i hi => Lib.bytesWorld_cell w2 5 x.a i hi
          have hb4 : Blk (Lib.bytesWorld w2 5 x.a) (w.heap.size + 1) _ 138 := (Lib.bytesWorld_at_old w2 5 x.a _ hb3.lt).trans hb3
          have hN4 : Blk (Lib.bytesWorld w2 5 x.a) wr.heap.size #[.string x.a, .int .i64 x.c] 50 := (Lib.bytesWorld_at_old w2 5 x.a _ hN2.lt).trans hN2
          have hW4 : Below w.heap.size w (Lib.bytesWorld w2 5 x.a) := hW3.trans ⟨rfl, rfl, rfl, by rw [Lib.bytesWorld_size]; omega, fun b hb => Lib.bytesWorld_at_old w2 5 x.a b (by have := hb3.lt; omega)⟩
          have hs4 := Lib.bytesWorld_size w2 5 x.a
          have hxs : x.a.size ≤ 9223372036854775807 := hsizes x (List.mem_of_getElem? HX.out)
          have hlN : wr.heap.size < w2.heap.size := hN2.lt
          generalize hWb : Lib.bytesWorld w2 5 x.a = Wb at *
          clear hWb
          have HS4 := Lib.hid hs4
          clear p0 p1 hbj hWj hbj2 hW2 hN hf3 hs4 hW3 hN2
          go_wp2_with fail
          clear hcv n0
          go_loopw [11, 46] (fun _ i wx => ∃ i' : Nat, i' ≤ x.a.size ∧ i = .int .i64 i' ∧ Blk wx (w.heap.size + 1) #[.int .u64 (fnvS (fnv ((ps.take j).foldl fnvP (digHead before no day rev)) (x.a.size % 256)) (x.a.data.toList.take i'))] 138 ∧ Fr (· = w.heap.size + 1) Wb wx) (fun _ i _ => x.a.size - (intOf i).toNat)
          case atStart => exact ⟨0, by omega, rfl, hb4, Fr.refl _ _⟩
          case round =>
            obtain ⟨i', hi', rfl, hbi, hfi⟩ := hrel
            by_cases hil : i' < x.a.size
            · have hcell := hfi.cell (hby i' hil) (by show ¬ w2.heap.size = w.heap.size + 1; omega)
              have HT := Lib.hid (fnvS_snoc (fnv ((ps.take j).foldl fnvP (digHead before no day rev)) (x.a.size % 256)) x.a.data.toList i' (by simpa using hil))
              have hch : ((x.a.data.toList.getD i' 0).toNat : Int) < 256 := by have := (x.a.data.toList.getD i' 0).toNat_lt; omega
              have hch0 : 0 ≤ ((x.a.data.toList.getD i' 0).toNat : Int) := by omega
              generalize ((x.a.data.toList.getD i' 0).toNat : Int) = ch at *
              go_wp2_with (go_at_call 82; refine (byte_any _ _ _ _ _ (by omega) (by omega) hbi).mono ?_; rintro e w3 ⟨rfl, hb5, hf5⟩)
              go_roundw
              case rel => exact ⟨i' + 1, by omega, by go_num, by rw [HT.out]; exact hb5, hfi.trans hf5 (fun _ hx => .inl hx)⟩
              case measure => simp [intOf]; omega
            · have hN5 := hN4.fr hfi (by omega)
              have n1 := hN5.cell 1 (v := .int .i64 x.c) rfl
              have HI := Lib.hid (show x.a.data.toList.take i' = x.a.data.toList from List.take_of_length_le (by simp; omega))
              have hW5 := fr_add hW4 hfi (by have := hb4.lt; omega) (by omega)
              clear hfi hW4 hN4 hN5
              go_wp2_with (go_at_call 81; refine (number_any _ _ _ _ _ (u64_lo _) (u64_hi _) hbi).mono ?_; rintro e w3 ⟨rfl, hb5, hf5⟩)
              go_roundw
              case rel => exact ⟨j + 1, by omega, by go_num, by rw [List.take_succ_eq_append_getElem hjl, List.foldl_append]; have := HX.out; rw [List.getElem?_eq_getElem hjl, Option.some.injEq] at this; rw [this]; rw [HI.out] at hb5; exact hb5, fr_add hW5 hf5 (by have := hbi.lt; omega) (by omega)⟩
              case measure => simp [intOf]; omega
        · have c5 := hbj.cell 0 (v := .int .u64 ((ps.take j).foldl fnvP (digHead before no day rev))) rfl
          have HJ := Lib.hid (show j = ps.length by omega)
          have HW := Lib.hid hWj
          clear hbj hWj
          go_wp2_with fail
          go_ret
          exact ⟨by rw [HJ.out, List.take_length]; rfl, HW.out⟩
end Go.Proofs.Ytcobihdjcdefmaa
