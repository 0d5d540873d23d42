/-
  The walks of the ledger's parts: an account's rows, names, finding.
-/
import Derived.Test.YtcobihdjcdefmaaQHs
import Derived.Lib.IndexBytes
import Derived.BigQuiet
import Derived.Deep.QuietTactic
import Derived.Deep.RegionHeld3
namespace Go.Proofs.Ytcobihdjcdefmaa
open Go.RowKit Go.Proofs.YtcobihdjcdefmaaW.PrintWords
def lastBal (rows : List Rw) : Int := match rows.getLast? with | some r => r.bal | none => 0
set_option maxHeartbeats 400000 in
theorem balance_nil (w : World) (g : Nat) (A : Option Addr) (c : Nat) (hc : Blk w g #[.slice A 0 c] 90) :
    Calls Try.prog 71 #[.pointer (some ⟨g, 0, none⟩)] w fun e w' => e = .returned (.int .i64 0) ∧ Drawn0 w w' := by
  have c0 := hc.cell 0 (v := .slice A 0 c) rfl
  go_enter Try.func71, Try.ntmps71
  go_wp2
  go_ret
  exact ⟨rfl, Drawn0.refl w⟩
set_option maxHeartbeats 400000 in
theorem balance_some (w : World) (g : Nat) (A : Option Addr) (c : Nat) (rows : List Rw) (r : Rw) (hc : Blk w g #[.slice A rows.length c] 90) (hr : Kd.C kRw w A rows.length rows) (hl : rows[rows.length - 1]? = some r) :
    Calls Try.prog 71 #[.pointer (some ⟨g, 0, none⟩)] w fun e w' => e = .returned (.int .i64 r.bal) ∧ Drawn0 w w' := by
  have c0 := hc.cell 0 (v := .slice A rows.length c) rfl
  have hpos : rows.length - 1 < rows.length := (List.getElem?_eq_some_iff.1 hl).1
  obtain ⟨ad, rfl, r0, r1, r2, r3⟩ := at_Rw hr hl
  have hlen := hr.2.1
  clear hr hl hc
  have hne : ((rows.length : Int) == 0) = false := beq_eq_false_iff_ne.2 (by omega)
  have hi0 : (0 : Int) ≤ (rows.length : Int) - 1 := by omega
  have hi1 : (rows.length : Int) - 1 < (rows.length : Int) := by omega
  have hi2 : ((rows.length : Int) - 1).toNat = rows.length - 1 := by omega
  generalize rows.length = n at *
  go_enter Try.func71, Try.ntmps71
  go_wp2
  go_quiet (fail)
  go_wp2
  go_ret
  exact ⟨rfl, ⟨_, rfl⟩⟩
theorem balance_any (w : World) (g : Nat) (base : Nat) (ok : Nat → Prop) (v : Value) (rows : List Rw) (hc : Blk w g #[v] 90) (hr : Kd.R kRw 133 w base ok v rows) :
    Calls Try.prog 71 #[.pointer (some ⟨g, 0, none⟩)] w fun e w' => e = .returned (.int .i64 (lastBal rows)) ∧ Drawn0 w w' := by
  obtain ⟨A, c, rfl, hl, hC⟩ := Kd.R_reads hr
  rcases List.eq_nil_or_concat rows with rfl | ⟨rs, r, rfl⟩
  · exact (balance_nil w g A c hc).mono fun e w' h => h
  · refine (balance_some w g A c _ r hc hC (by simp)).mono fun e w' h => ?_
    simpa [lastBal] using h
/-! ### upto -/
def uptoR (d : Int) : List Rw → Int → Int
  | [], s => s
  | r :: rs, s => if r.day > d then s else uptoR d rs r.bal
set_option maxHeartbeats 800000 in
theorem upto_any (w : World) (g : Nat) (base : Nat) (ok : Nat → Prop) (v : Value) (rows : List Rw) (d : Int) (hc : Blk w g #[v] 90) (hr : Kd.R kRw 133 w base ok v rows) :
    Calls Try.prog 52 #[.pointer (some ⟨g, 0, none⟩), .int .i64 d] w fun e w' => e = .returned (.int .i64 (uptoR d rows 0)) ∧ Below w.heap.size w w' := by
  obtain ⟨A, c, rfl, hl, hC⟩ := Kd.R_reads hr
  have c0 := hc.cell 0 (v := .slice A rows.length c) rfl
  have hlen := hC.2.1
  clear hr hc
  go_enter Try.func52, Try.ntmps52
  go_wp2_with fail
  clear c0
  go_loopw [5, 7, 13] (fun s _ i wr => ∃ k : Nat, ∃ x : Int, k ≤ rows.length ∧ i = .int .i64 k ∧ s = .int .i64 x ∧ uptoR d (rows.drop k) x = uptoR d rows 0 ∧ Below w.heap.size w wr) (fun _ _ i _ => rows.length - (intOf i).toNat)
  case atStart => exact ⟨0, 0, by omega, rfl, rfl, rfl, Below.refl _ _⟩
  case round =>
    obtain ⟨k, x, hk, rfl, rfl, hu, hb⟩ := hrel
    have HU := Lib.hid hu
    clear hu
    by_cases hlt : k < rows.length
    · obtain ⟨r, hr⟩ : ∃ r, rows[k]? = some r := ⟨_, List.getElem?_eq_getElem hlt⟩
      obtain ⟨ad, rfl, r0, r1, r2, r3⟩ := at_Rw (Kd.C_below hC hb) hr
      have HD := Lib.hid (List.drop_eq_getElem_cons hlt)
      have HR := Lib.hid hr
      have hb2 := hb.alloc hb.size (.cells #[.int .i64 r.no, .int .i64 r.day, .int .i64 r.c, .int .i64 r.bal] 133)
      clear hr
      by_cases hday : d < r.day
      · have HF := Lib.hid (show uptoR d rows 0 = x by rw [← HU.out, HD.out]; have := HR.out; rw [List.getElem?_eq_getElem hlt, Option.some.injEq] at this; rw [this, uptoR, if_pos (by omega)])
        go_wp2
        go_ret
        exact ⟨by rw [HF.out]; rfl, hb2⟩
      · have HF := Lib.hid (show uptoR d (rows.drop (k + 1)) r.bal = uptoR d rows 0 by rw [← HU.out, HD.out]; have := HR.out; rw [List.getElem?_eq_getElem hlt, Option.some.injEq] at this; rw [this, uptoR, if_neg (by omega)])
        go_wp2
        go_roundw
        case rel => exact ⟨k + 1, r.bal, by omega, by go_num, rfl, HF.out, hb2⟩
        case measure => simp [intOf]; omega
    · have HF := Lib.hid (show uptoR d rows 0 = x by rw [← HU.out, List.drop_eq_nil_of_le (by omega)]; rfl)
      go_wp2
      go_ret
      exact ⟨by rw [HF.out]; rfl, hb⟩

/-! ### day, made, name -/
def dayB (n : Int) : Bool := decide (0 ≤ n ∧ n ≤ 1000000)
set_option maxHeartbeats 400000 in
theorem day_any (n : Int) (w : World) : Calls Try.prog 32 #[.int .i64 n] w fun e w' => e = .returned (.bool (dayB n)) ∧ w = w' := by
  by_cases h0 : 0 ≤ n
  · by_cases h1 : n ≤ 1000000
    · have hd : dayB n = true := by simp [dayB, h0, h1]
      go_enter Try.func32, Try.ntmps32
      go_wp2
      go_ret
      exact ⟨by first | rfl | (rw [hd]; rfl), rfl⟩
    · have hd : dayB n = false := by simp [dayB, h1]
      go_enter Try.func32, Try.ntmps32
      go_wp2
      go_ret
      exact ⟨by first | rfl | (rw [hd]; rfl), rfl⟩
  · have hd : dayB n = false := by simp [dayB, h0]
    go_enter Try.func32, Try.ntmps32
    go_wp2
    go_ret
    exact ⟨by first | rfl | (rw [hd]; rfl), rfl⟩
set_option maxHeartbeats 400000 in
theorem made_yes (w : World) (g r : Nat) (hc : w.cell? ⟨g, 2, none⟩ = some (.map (some r))) :
    Calls Try.prog 44 #[.pointer (some ⟨g, 0, none⟩)] w fun e w' => e = .returned (.bool true) ∧ w = w' := by
  have h1 := fun w => run_neq_map_nil (P := Try.prog) w 83 9 87 (some r) Try.underlying83
  go_enter Try.func44, Try.ntmps44
  go_wp2
  go_ret
  exact ⟨rfl, rfl⟩
/-- Is c a byte that a name may hold? -/
def okByte (c : Int) : Bool := (decide (97 ≤ c) && decide (c ≤ 122)) || (decide (48 ≤ c) && decide (c ≤ 57)) || decide (c = 45)
def bytesI (s : ByteArray) : List Int := s.data.toList.map fun b => (b.toNat : Int)
def nameB (s : ByteArray) : Bool := match bytesI s with
  | [] => false
  | c :: r => decide ((bytesI s).length ≤ 16) && decide (97 ≤ c) && decide (c ≤ 122) && (c :: r).all okByte
theorem nameB_cons {s : ByteArray} {c : Int} {r : List Int} (h : bytesI s = c :: r) : nameB s = (decide ((c :: r).length ≤ 16) && decide (97 ≤ c) && decide (c ≤ 122) && (c :: r).all okByte) := by
  unfold nameB; rw [h]
theorem bytesI_len (s : ByteArray) : (bytesI s).length = s.size := by simp [bytesI]
theorem all_drop_false {l : List Int} {k : Nat} {c : Int} {r : List Int} (h : l.drop k = c :: r) (hc : okByte c = false) : l.all okByte = false := by
  have hm : c ∈ l := List.mem_of_mem_drop (by rw [h]; simp)
  rw [← Bool.not_eq_true]; intro ha
  have := List.all_eq_true.1 ha c hm
  rw [hc] at this; cases this
theorem bytesI_get (s : ByteArray) (j : Nat) (hj : j < s.size) : (bytesI s)[j]? = some ((s.data.toList.getD j 0).toNat : Int) := by
  have : j < s.data.toList.length := by simpa using hj
  simp [bytesI, List.getElem?_eq_getElem this, List.getD_eq_getElem?_getD]
set_option maxRecDepth 100000 in
set_option maxHeartbeats 1600000 in
theorem name_any (s : ByteArray) (w : World) : Calls Try.prog 45 #[.string s] w fun e w' => e = .returned (.bool (nameB s)) ∧ Below w.heap.size w w' := by
  cases hb : bytesI s with
  | nil =>
    have h0 : s.toList = [] := by rw [ByteArray.toList_eq]; simpa [bytesI] using hb
    have hn : nameB s = false := by unfold nameB; rw [hb]
    have HN := Lib.hid hn
    clear hn hb
    go_enter Try.func45, Try.ntmps45
    go_wp2
    go_ret
    exact ⟨by rw [HN.out]; rfl, Below.refl _ _⟩
  | cons c r =>
    have hsz : s.size = r.length + 1 := by rw [← bytesI_len, hb]; rfl
    have hem : s.toList.isEmpty = false := by
      rw [ByteArray.toList_eq]; cases hd : s.data.toList with
      | nil => simp [bytesI, hd] at hb
      | cons _ _ => rfl
    have hN := nameB_cons hb
    have hg0 := bytesI_get s 0 (by omega)
    rw [hb, List.getElem?_cons_zero, Option.some.injEq] at hg0
    have hix : ∀ w, (Instr.index 9 (.string s) (.int .i64 0)).run Try.prog w = .ok (.int .u8 c) w := fun w => by
      rw [run_index_string w 9 s .i64 0 Try.underlying9, dif_pos ⟨Int.le_refl _, by omega⟩]
      have h1 := Lib.data_getElem? s 0 (by omega)
      have h2 : s.data.toList.getD 0 0 = s[0] := by rw [List.getD_eq_getElem?_getD, h1]; rfl
      rw [h2] at hg0
      rw [hg0]; rfl
    have HN := Lib.hid hN
    have HB := Lib.hid hb
    have HS := Lib.hid hsz
    clear hN hb hsz hg0
    by_cases h16 : 16 < s.size
    · have HF := Lib.hid (show nameB s = false by rw [HN.out, decide_eq_false (by have := HS.out; simp; omega)]; simp)
      go_enter Try.func45, Try.ntmps45
      go_wp2
      go_ret
      exact ⟨by rw [HF.out]; rfl, Below.refl _ _⟩
    · by_cases h97 : c < 97
      · have HF := Lib.hid (show nameB s = false by rw [HN.out, decide_eq_false (show ¬ 97 ≤ c by omega)]; simp)
        go_enter Try.func45, Try.ntmps45
        go_wp2
        go_ret
        exact ⟨by rw [HF.out]; rfl, Below.refl _ _⟩
      · by_cases h122 : 122 < c
        · have HF := Lib.hid (show nameB s = false by rw [HN.out, decide_eq_false (show ¬ c ≤ 122 by omega)]; simp)
          go_enter Try.func45, Try.ntmps45
          go_wp2
          go_ret
          exact ⟨by rw [HF.out]; rfl, Below.refl _ _⟩
        · have HF := Lib.hid (show nameB s = (bytesI s).all okByte by rw [HN.out, HB.out, decide_eq_true (show (c :: r).length ≤ 16 by have := HS.out; simp; omega), decide_eq_true (show 97 ≤ c by omega), decide_eq_true (show c ≤ 122 by omega)]; simp)
          have hcv := Lib.run_convert_string_bytes (P := Try.prog) w 9 125 5 s Try.underlying9 Try.underlying125 Try.underlying5
          have hby := fun i hi => Lib.bytesWorld_cell w 5 s i hi
          have hW : Below w.heap.size w (Lib.bytesWorld w 5 s) := ⟨rfl, rfl, rfl, by rw [Lib.bytesWorld_size]; omega, fun b hb => Lib.bytesWorld_at_old w 5 s b hb⟩
          generalize Lib.bytesWorld w 5 s = W at *
          clear HN HB HS
          go_enter Try.func45, Try.ntmps45
          go_wp2_with fail
          clear hcv hix
          go_loop [4, 25] (fun _ i => ∃ k : Nat, k ≤ s.size ∧ i = .int .i64 k ∧ ((bytesI s).drop k).all okByte = (bytesI s).all okByte) (fun _ i => s.size - (intOf i).toNat)
          case atStart => exact ⟨0, by omega, rfl, rfl⟩
          case round =>
            obtain ⟨k, hk, rfl, hall⟩ := hrel
            have HA := Lib.hid hall
            clear hall
            by_cases hlt : k < s.size
            · have hcell := hby k hlt
              have hg := bytesI_get s k hlt
              have hlen : k < (bytesI s).length := by rw [bytesI_len]; exact hlt
              have hdrop := List.drop_eq_getElem_cons hlen
              rw [List.getElem?_eq_getElem hlen, Option.some.injEq] at hg
              rw [hg] at hdrop
              have hch : ((s.data.toList.getD k 0).toNat : Int) < 256 := by have := (s.data.toList.getD k 0).toNat_lt; omega
              have hch0 : 0 ≤ ((s.data.toList.getD k 0).toNat : Int) := by omega
              generalize ((s.data.toList.getD k 0).toNat : Int) = ch at *
              have good : okByte ch = true → ((bytesI s).drop (k + 1)).all okByte = (bytesI s).all okByte := fun h => by
                rw [← HA.out, hdrop]; simp [h]
              have bad : okByte ch = false → (bytesI s).all okByte = false := fun h => all_drop_false hdrop h
              have GO := Lib.hid good
              have BA := Lib.hid bad
              clear good bad hdrop hby hg
              by_cases h1 : ch < 97
              · by_cases h3 : ch < 48
                · by_cases h5 : ch = 45
                  · have h5' : (ch == 45) = true := beq_iff_eq.2 h5
                    have GG := Lib.hid (GO.out (by simp [okByte, h5]))
                    clear h5
                    go_wp2
                    go_round
                    case rel => exact ⟨k + 1, by omega, by go_num, GG.out⟩
                    case measure => simp [intOf]; omega
                  · have h5' : (ch == 45) = false := beq_eq_false_iff_ne.2 h5
                    have HG := Lib.hid (BA.out (by simp [okByte, h5]; omega))
                    go_wp2
                    go_ret
                    exact ⟨by rw [HF.out, HG.out]; rfl, hW⟩
                · by_cases h4 : 57 < ch
                  · have h5' : (ch != 45) = true := bne_iff_ne.2 (by omega)
                    have HG := Lib.hid (BA.out (by simp [okByte]; omega))
                    go_wp2
                    go_ret
                    exact ⟨by rw [HF.out, HG.out]; rfl, hW⟩
                  · have GG := Lib.hid (GO.out (by simp [okByte]; omega))
                    go_wp2
                    go_round
                    case rel => exact ⟨k + 1, by omega, by go_num, GG.out⟩
                    case measure => simp [intOf]; omega
              · by_cases h2 : 122 < ch
                · have h5' : (ch != 45) = true := bne_iff_ne.2 (by omega)
                  have HG := Lib.hid (BA.out (by simp [okByte]; omega))
                  go_wp2
                  go_ret
                  exact ⟨by rw [HF.out, HG.out]; rfl, hW⟩
                · have GG := Lib.hid (GO.out (by simp [okByte]; omega))
                  go_wp2
                  go_round
                  case rel => exact ⟨k + 1, by omega, by go_num, GG.out⟩
                  case measure => simp [intOf]; omega
            · have HG := Lib.hid (show (bytesI s).all okByte = true by rw [← HA.out, List.drop_eq_nil_of_le (by rw [bytesI_len]; omega)]; rfl)
              go_wp2
              go_ret
              exact ⟨by rw [HF.out, HG.out]; rfl, hW⟩
end Go.Proofs.Ytcobihdjcdefmaa
