/- Parts of the proof: D5, D6, D7, D8. -/
import Derived.Test.YtfnjhodologfeaaGreatG22
set_option linter.unusedSimpArgs false
set_option linter.unusedVariables false
/- l1Num, l1Read -/
namespace Go.Proofs.YtfnjhodologfeaaGreat
open Go.RowKit

def digB (d : Nat) : ByteArray := (⟨#[48, 49, 50, 51, 52, 53, 54, 55, 56, 57]⟩ : ByteArray).extract d (d + 1)
def numB : Nat → Nat → ByteArray
  | 0, n => digB n
  | k + 1, n => if n < 10 then digB n else numB k (n / 10) ++ digB (n % 10)
theorem digB_size (d : Nat) : (digB d).size ≤ 1 := by
  unfold digB
  rw [ByteArray.size_extract]
  omega
theorem numB_size : ∀ k n, (numB k n).size ≤ k + 1
  | 0, n => digB_size n
  | k + 1, n => by
    have h1 := numB_size k (n / 10)
    have h2 := digB_size (n % 10)
    have h3 := digB_size n
    rw [numB]
    split
    · omega
    · rw [ByteArray.size_append]; omega
set_option maxRecDepth 100000 in
set_option maxHeartbeats 2000000 in
theorem l1Num_pos : ∀ (k : Nat) (n : Nat) (w : World), n < 10 ^ (k + 1) → k ≤ 16 → Calls Tryz.prog 179 #[.int .i64 (n : Int)] w fun e w' => e = .returned (.string (numB k n)) ∧ Drew w w' := by
  intro k
  induction k with
  | zero =>
    intro n w h1 _
    have h1' : n < 10 := by simpa using h1
    go_enter Tryz.func179, Tryz.ntmps179
    go_wp2
    go_ret
    exact ⟨rfl, .refl _⟩
  | succ k ih =>
    intro n w h1 hk
    have hp : 10 ^ (k + 1 + 1) = 10 * 10 ^ (k + 1) := by rw [Nat.pow_succ]; omega
    have hp2 : 10 ^ (k + 1) ≤ 10 ^ 17 := Nat.pow_le_pow_right (by omega) (by omega)
    have hp3 : (10 : Nat) ^ 17 = 100000000000000000 := by decide
    have hn1 : n / 10 < 10 ^ (k + 1) := by omega
    rw [hp3] at hp2
    by_cases h9 : n < 10
    · have hd : numB (k + 1) n = digB n := by rw [numB, if_pos (by omega)]
      clear ih h1 hp hp2 hn1
      go_enter Tryz.func179, Tryz.ntmps179
      go_wp2
      go_ret
      exact ⟨rfl, .refl _⟩
    · have hd : numB (k + 1) n = numB k (n / 10) ++ digB (n % 10) := by rw [numB, if_neg (by omega)]
      have ih1 := fun w => ih (n / 10) w hn1 (by omega)
      have hs := numB_size k (n / 10)
      have hm0 : (0 : Int) ≤ (n : Int) % 10 := by omega
      have hm1 : (n : Int) % 10 < 10 := by omega
      have hnb2 : n ≤ 9223372036854775807 := by omega
      clear ih h1 hp hp2 hn1 hp3
      rw [show ((n / 10 : Nat) : Int) = (n : Int) / 10 by omega] at ih1
      rw [hd]
      generalize numB k (n / 10) = N at ih1 hs ⊢
      go_enter Tryz.func179, Tryz.ntmps179
      go_wp2
      go_quiet (first | (go_at_call 179; exact Calls.quiet_of (ih1 _)))
      all_goals
        go_wp2
        go_ret
        exact ⟨rfl, ⟨_, rfl⟩⟩
theorem l1Num_any (n : Int) (w : World) (h0 : -1000000 < n) (h1 : n < 1000000) : Calls Tryz.prog 179 #[.int .i64 n] w fun e w' => ∃ s, e = .returned (.string s) ∧ s.size ≤ 8 ∧ Drew w w' := by
  by_cases hn : 0 ≤ n
  · obtain ⟨k, rfl⟩ := Int.eq_ofNat_of_zero_le hn
    refine (l1Num_pos 5 k w (by omega) (by omega)).mono ?_
    rintro e w' ⟨rfl, h⟩
    exact ⟨_, rfl, by have := numB_size 5 k; omega, h⟩
  · obtain ⟨k, hk⟩ := Int.eq_ofNat_of_zero_le (show 0 ≤ -n by omega)
    obtain rfl : n = -(k : Int) := by omega
    have hw1 : IntKind.i64.wrap (- -(k : Int)) = k := by rw [Int.neg_neg]; exact IntWalk.i64_in _ ⟨by omega, by omega⟩
    go_enter Tryz.func179, Tryz.ntmps179
    have hs := numB_size 5 k
    go_wp2_with (go_at_call 179; refine (l1Num_pos 5 k _ (by omega) (by omega)).mono ?_; rintro e w1 ⟨rfl, hd⟩)
    go_ret
    exact ⟨_, rfl, by rw [ByteArray.size_append]; have : (⟨#[45]⟩ : ByteArray).size = 1 := rfl; omega, hd⟩
end Go.Proofs.YtfnjhodologfeaaGreat
/- l1Read -/
namespace Go.Proofs.YtfnjhodologfeaaGreat
open Go.RowKit

def digsTo (t : ByteArray) : Nat → Option Nat
  | 0 => some 0
  | k + 1 => match digsTo t k with
    | none => none
    | some n => if 48 ≤ byteAt t k ∧ byteAt t k ≤ 57 then some (10 * n + (byteAt t k - 48)) else none
theorem digsTo_lt (t : ByteArray) : ∀ k n, digsTo t k = some n → n < 10 ^ k
  | 0, n, h => by simp [digsTo] at h; omega
  | k + 1, n, h => by
    rw [digsTo] at h
    split at h
    · cases h
    · rename_i m hm
      have := digsTo_lt t k m hm
      split at h
      · simp at h
        rw [Nat.pow_succ]
        omega
      · cases h
def readO (s : ByteArray) : Option Int :=
  if 1 < s.size ∧ byteAt s 0 = 45 then (digsTo (cutB s 1 s.size) (cutB s 1 s.size).size).map fun n => -(n : Int)
  else (digsTo s s.size).map fun n => (n : Int)
/-- a number is read, or not -/
def ReadE (s : ByteArray) (w : World) (e : Ending) (w' : World) : Prop := ∃ (n : Int) (ok : Bool), e = .returned (.tuple #[.int .i64 n, .bool ok]) ∧ (ok = true → readO s = some n ∧ -1000000 < n ∧ n < 1000000) ∧ (ok = false → n = 0) ∧ Drew w w'

set_option maxRecDepth 100000 in
set_option maxHeartbeats 4000000 in
theorem l1Read_any (s : ByteArray) (w : World) (hs : s.size ≤ 100000) :
    Calls Tryz.prog 165 #[.string s] w (ReadE s w) := by
  by_cases h1 : 1 < s.size
  · have hb0 := byteAt_eq (show 0 < s.size by omega)
    by_cases h2 : s[0].toNat = 45
    · have HC := Lib.hid (show 1 < s.size ∧ byteAt s 0 = 45 from ⟨h1, by omega⟩)
      have HXS := Lib.hid (show (s.extract 1 s.size).size < s.size by rw [ByteArray.size_extract]; omega)
      go_enter Tryz.func165, Tryz.ntmps165
      go_upto_region 4 with fail
      obtain ⟨T, hT⟩ : ∃ T, s.extract 1 s.size = T := ⟨_, rfl⟩
      have HT := Lib.hid hT
      have hTs := HXS.out
      rw [hT] at hTs
      simp only [hT]
      clear hT
      by_cases h6 : inB T.size 1 6 = true
      · have HSZ : 1 ≤ T.size ∧ T.size ≤ 6 := by simp [inB] at h6; omega
        go_wp2_with (go_at_call 161; refine (l1In_any _ _ _ _).mono ?_; rw [h6]; rintro e w1 ⟨rfl, rfl⟩)
        go_loopw [5, 6] (fun n i wr => ∃ (k m : Nat), i = .int .i64 k ∧ n = .int .i64 m ∧ k ≤ T.size ∧ m < 10 ^ k ∧ m < 1000000 ∧ digsTo T k = some m ∧ wr = w) (fun _ i _ => T.size - (intOf i).toNat)
        case atStart => exact ⟨0, 0, rfl, rfl, Nat.zero_le _, by decide, by omega, rfl, (by first | rfl | trivial)⟩
        case round =>
          obtain ⟨k, m, rfl, rfl, hk, hm, hm6, hdg, rfl⟩ := hrel
          have HDG := Lib.hid hdg
          clear hdg
          by_cases hlt : k < T.size
          · have hbx := byteAt_eq hlt
            have hbl : T[k].toNat < 256 := UInt8.toNat_lt _
            have HP : 10 ^ (k + 1) = 10 * 10 ^ k := by rw [Nat.pow_succ]; omega
            have HP6 : (10 : Nat) ^ (k + 1) ≤ 1000000 := Nat.pow_le_pow_right (n := 10) (by omega) (show k + 1 ≤ 6 by omega)
            by_cases hd0 : T[k].toNat < 48
            · go_wp2
              go_ret2
              exact ⟨0, false, rfl, by simp, by simp, .refl _⟩
            · by_cases hd1 : T[k].toNat > 57
              · go_wp2
                go_ret2
                exact ⟨0, false, rfl, by simp, by simp, .refl _⟩
              · have hw0 : IntKind.u8.wrap ((T[k].toNat : Int) - 48) = T[k].toNat - 48 := by simp [IntKind.wrap, IntKind.bits, IntKind.signed]; omega
                go_wp2
                refine ⟨⟨k + 1, 10 * m + (byteAt T k - 48), rfl, ?_, hlt, by omega, by omega, ?_, (by first | rfl | trivial)⟩, by simp [intOf]; omega⟩
                · rw [← hbx]; congr 1; omega
                · rw [digsTo, HDG.out]; simp only []; rw [if_pos (by rw [← hbx]; omega)]
          · obtain rfl : k = T.size := by omega
            have HRD := Lib.hid (show readO s = some (-(m : Int)) by unfold readO; rw [if_pos HC.out, ← cut_eq, HT.out, HDG.out]; rfl)
            clear hm
            go_wp2_with (go_at_call 179; refine (l1Num_any _ _ (by omega) (by omega)).mono ?_; rintro e w1 ⟨z, rfl, hz, hdz⟩)
            all_goals
              go_ret2
              first
                | exact ⟨_, true, rfl, fun _ => ⟨HRD.out, by omega, by omega⟩, by simp, hdz⟩
                | exact ⟨0, false, rfl, by simp, by simp, hdz⟩
      · have h6' : inB T.size 1 6 = false := by simpa using h6
        go_wp2_with (go_at_call 161; refine (l1In_any _ _ _ _).mono ?_; rw [h6']; rintro e w1 ⟨rfl, rfl⟩)
        go_ret2
        exact ⟨0, false, rfl, by simp, by simp, .refl _⟩
    · have HC := Lib.hid (show ¬ (1 < s.size ∧ byteAt s 0 = 45) from fun h => h2 (by omega))
      by_cases h6 : inB s.size 1 6 = true
      · have HSZ : 1 ≤ s.size ∧ s.size ≤ 6 := by simp [inB] at h6; omega
        go_enter Tryz.func165, Tryz.ntmps165
        go_wp2_with (go_at_call 161; refine (l1In_any _ _ _ _).mono ?_; rw [h6]; rintro e w1 ⟨rfl, rfl⟩)
        go_loopw [5, 6] (fun n i wr => ∃ (k m : Nat), i = .int .i64 k ∧ n = .int .i64 m ∧ k ≤ s.size ∧ m < 10 ^ k ∧ m < 1000000 ∧ digsTo s k = some m ∧ wr = w) (fun _ i _ => s.size - (intOf i).toNat)
        case atStart => exact ⟨0, 0, rfl, rfl, Nat.zero_le _, by decide, by omega, rfl, (by first | rfl | trivial)⟩
        case round =>
          obtain ⟨k, m, rfl, rfl, hk, hm, hm6, hdg, rfl⟩ := hrel
          have HDG := Lib.hid hdg
          clear hdg
          by_cases hlt : k < s.size
          · have hbx := byteAt_eq hlt
            have hbl : s[k].toNat < 256 := UInt8.toNat_lt _
            have HP : 10 ^ (k + 1) = 10 * 10 ^ k := by rw [Nat.pow_succ]; omega
            have HP6 : (10 : Nat) ^ (k + 1) ≤ 1000000 := Nat.pow_le_pow_right (n := 10) (by omega) (show k + 1 ≤ 6 by omega)
            by_cases hd0 : s[k].toNat < 48
            · go_wp2
              go_ret2
              exact ⟨0, false, rfl, by simp, by simp, .refl _⟩
            · by_cases hd1 : s[k].toNat > 57
              · go_wp2
                go_ret2
                exact ⟨0, false, rfl, by simp, by simp, .refl _⟩
              · have hw0 : IntKind.u8.wrap ((s[k].toNat : Int) - 48) = s[k].toNat - 48 := by simp [IntKind.wrap, IntKind.bits, IntKind.signed]; omega
                go_wp2
                refine ⟨⟨k + 1, 10 * m + (byteAt s k - 48), rfl, ?_, hlt, by omega, by omega, ?_, (by first | rfl | trivial)⟩, by simp [intOf]; omega⟩
                · rw [← hbx]; congr 1; omega
                · rw [digsTo, HDG.out]; simp only []; rw [if_pos (by rw [← hbx]; omega)]
          · obtain rfl : k = s.size := by omega
            have HRD := Lib.hid (show readO s = some ((m : Int)) by unfold readO; rw [if_neg HC.out, HDG.out]; rfl)
            clear hm
            go_wp2_with (go_at_call 179; refine (l1Num_any _ _ (by omega) (by omega)).mono ?_; rintro e w1 ⟨z, rfl, hz, hdz⟩)
            all_goals
              go_ret2
              first
                | exact ⟨_, true, rfl, fun _ => ⟨HRD.out, by omega, by omega⟩, by simp, hdz⟩
                | exact ⟨0, false, rfl, by simp, by simp, hdz⟩
      · have h6' : inB s.size 1 6 = false := by simpa using h6
        go_enter Tryz.func165, Tryz.ntmps165
        go_wp2_with (go_at_call 161; refine (l1In_any _ _ _ _).mono ?_; rw [h6']; rintro e w1 ⟨rfl, rfl⟩)
        go_ret2
        exact ⟨0, false, rfl, by simp, by simp, .refl _⟩
  · have HC := Lib.hid (show ¬ (1 < s.size ∧ byteAt s 0 = 45) from fun h => h1 h.1)
    by_cases h6 : inB s.size 1 6 = true
    · have HSZ : 1 ≤ s.size ∧ s.size ≤ 6 := by simp [inB] at h6; omega
      go_enter Tryz.func165, Tryz.ntmps165
      go_wp2_with (go_at_call 161; refine (l1In_any _ _ _ _).mono ?_; rw [h6]; rintro e w1 ⟨rfl, rfl⟩)
      go_loopw [5, 6] (fun n i wr => ∃ (k m : Nat), i = .int .i64 k ∧ n = .int .i64 m ∧ k ≤ s.size ∧ m < 10 ^ k ∧ m < 1000000 ∧ digsTo s k = some m ∧ wr = w) (fun _ i _ => s.size - (intOf i).toNat)
      case atStart => exact ⟨0, 0, rfl, rfl, Nat.zero_le _, by decide, by omega, rfl, (by first | rfl | trivial)⟩
      case round =>
        obtain ⟨k, m, rfl, rfl, hk, hm, hm6, hdg, rfl⟩ := hrel
        have HDG := Lib.hid hdg
        clear hdg
        by_cases hlt : k < s.size
        · have hbx := byteAt_eq hlt
          have hbl : s[k].toNat < 256 := UInt8.toNat_lt _
          have HP : 10 ^ (k + 1) = 10 * 10 ^ k := by rw [Nat.pow_succ]; omega
          have HP6 : (10 : Nat) ^ (k + 1) ≤ 1000000 := Nat.pow_le_pow_right (n := 10) (by omega) (show k + 1 ≤ 6 by omega)
          by_cases hd0 : s[k].toNat < 48
          · go_wp2
            go_ret2
            exact ⟨0, false, rfl, by simp, by simp, .refl _⟩
          · by_cases hd1 : s[k].toNat > 57
            · go_wp2
              go_ret2
              exact ⟨0, false, rfl, by simp, by simp, .refl _⟩
            · have hw0 : IntKind.u8.wrap ((s[k].toNat : Int) - 48) = s[k].toNat - 48 := by simp [IntKind.wrap, IntKind.bits, IntKind.signed]; omega
              go_wp2
              refine ⟨⟨k + 1, 10 * m + (byteAt s k - 48), rfl, ?_, hlt, by omega, by omega, ?_, (by first | rfl | trivial)⟩, by simp [intOf]; omega⟩
              · rw [← hbx]; congr 1; omega
              · rw [digsTo, HDG.out]; simp only []; rw [if_pos (by rw [← hbx]; omega)]
        · obtain rfl : k = s.size := by omega
          have HRD := Lib.hid (show readO s = some ((m : Int)) by unfold readO; rw [if_neg HC.out, HDG.out]; rfl)
          clear hm
          go_wp2_with (go_at_call 179; refine (l1Num_any _ _ (by omega) (by omega)).mono ?_; rintro e w1 ⟨z, rfl, hz, hdz⟩)
          all_goals
            go_ret2
            first
              | exact ⟨_, true, rfl, fun _ => ⟨HRD.out, by omega, by omega⟩, by simp, hdz⟩
              | exact ⟨0, false, rfl, by simp, by simp, hdz⟩
    · have h6' : inB s.size 1 6 = false := by simpa using h6
      go_enter Tryz.func165, Tryz.ntmps165
      go_wp2_with (go_at_call 161; refine (l1In_any _ _ _ _).mono ?_; rw [h6']; rintro e w1 ⟨rfl, rfl⟩)
      go_ret2
      exact ⟨0, false, rfl, by simp, by simp, .refl _⟩
end Go.Proofs.YtfnjhodologfeaaGreat
/- l2Text, l2TextOf, l2Parse -/
namespace Go.Proofs.YtfnjhodologfeaaGreat
open Go.RowKit

set_option maxRecDepth 100000 in
set_option maxHeartbeats 2000000 in
theorem l2Text_any (v : Value) (c : List Int) (w : World) (hc : Ints w v c) (hb : ∀ x ∈ c, -1000000 < x ∧ x < 1000000) (hl : c.length ≤ 1000) :
    Calls Tryz.prog 180 #[v] w fun e w' => ∃ s, e = .returned (.string s) ∧ s.size ≤ 10 * c.length + 4 ∧ Drew w w' := by
  obtain ⟨base, cap, rfl, hc1, hc2, hcell⟩ := hc.open
  have HB := Lib.hid hb
  clear hb
  by_cases h0 : c.length = 0
  · go_enter Tryz.func180, Tryz.ntmps180
    go_wp2
    go_ret
    exact ⟨_, rfl, by have : (⟨#[110, 111, 110, 101]⟩ : ByteArray).size = 4 := rfl; omega, .refl _⟩
  · obtain ⟨b, off, rfl, hbl, hcs⟩ := hcell 0 (by omega)
    obtain ⟨x, hx, hxc⟩ := hcs 0 (by omega)
    have hxc0 : w.cell? ⟨b, off, none⟩ = some (.int .i64 x) := by simpa using hxc w (.refl _)
    obtain ⟨hx0, hx1⟩ := HB.out x (List.mem_of_getElem? hx)
    go_enter Tryz.func180, Tryz.ntmps180
    go_wp2_with (go_at_call 179; refine (l1Num_any _ _ (by omega) (by omega)).mono ?_; rintro e w1 ⟨z, rfl, hz, hd1⟩)
    go_loopw [3, 4] (fun s i wr => ∃ (k : Nat) (t : ByteArray), i = .int .i64 k ∧ s = .string t ∧ 1 ≤ k ∧ k ≤ c.length ∧ t.size ≤ 10 * k ∧ Drew w wr) (fun _ i _ => c.length - (intOf i).toNat)
    case atStart => exact ⟨1, z, rfl, rfl, Nat.le_refl _, by omega, by omega, hd1⟩
    case round =>
      obtain ⟨k, t, rfl, rfl, hk1, hk, ht, hd⟩ := hrel
      by_cases hlt : k < c.length
      · obtain ⟨y, hy, hyc⟩ := hcs k hlt
        have hyc0 := hyc _ hd.ext
        obtain ⟨hy0, hy1⟩ := HB.out y (List.mem_of_getElem? hy)
        have hsp : (t ++ (⟨#[32]⟩ : ByteArray)).size = t.size + 1 := by rw [ByteArray.size_append]; rfl
        go_wp2_with (go_at_call 179; refine (l1Num_any _ _ (by omega) (by omega)).mono ?_; rintro e w2 ⟨u, rfl, hu, hd2⟩)
        refine ⟨⟨k + 1, _, rfl, rfl, by omega, hlt, by rw [ByteArray.size_append, hsp]; omega, hd.trans hd2⟩, by simp [intOf]; omega⟩
      · go_wp2
        go_ret
        exact ⟨_, rfl, by omega, hd⟩

set_option maxRecDepth 100000 in
set_option maxHeartbeats 2000000 in
theorem l2TextOf_any (v : Value) (f : CNF) (w : World) (hx : CnfV w v f) (hv0 : -1000 ≤ f.vars) (hv1 : f.vars ≤ 1000) (hb : ∀ c ∈ f.clauses, c.length ≤ 20 ∧ ∀ x ∈ c, -1000000 < x ∧ x < 1000000) (hl : f.clauses.length ≤ 1000) :
    Calls Tryz.prog 167 #[v] w fun e w' => ∃ s, e = .returned (.string s) ∧ Ext w w' := by
  obtain ⟨cv, rfl, hls⟩ := hx
  obtain ⟨base, cap, rfl, hc1, hc2, hcell⟩ := hls.open
  have HB := Lib.hid hb
  clear hb
  go_enter Tryz.func167, Tryz.ntmps167
  go_wp2_with (go_at_call 179; refine (l1Num_any _ _ (by omega) (by omega)).mono ?_; rintro e w1 ⟨z, rfl, hz, hd1⟩)
  have hE1 : Ext w w1 := Ext.trans (by repeat (first | exact Ext.refl _ | assumption | apply Ext.dn | apply Ext.drew | apply Ext.alloc)) hd1.ext
  obtain ⟨nq, rfl⟩ := hd1
  go_loopw [3, 4] (fun s i wr => ∃ (k : Nat) (t : ByteArray), i = .int .i64 k ∧ s = .string t ∧ k ≤ f.clauses.length ∧ t.size ≤ 10 + 300 * k ∧ Drew (w.alloc (.cells #[.int .i64 f.vars, .slice base f.clauses.length cap] 26)) wr) (fun _ i _ => f.clauses.length - (intOf i).toNat)
  case atStart => exact ⟨0, z, rfl, rfl, Nat.zero_le _, by omega, ⟨_, rfl⟩⟩
  case round =>
    obtain ⟨k, t, rfl, rfl, hk, ht, ⟨nd, rfl⟩⟩ := hrel
    have hE : Ext w ((w.alloc (.cells #[.int .i64 f.vars, .slice base f.clauses.length cap] 26)).drewN nd) := (by repeat (first | exact Ext.refl _ | assumption | apply Ext.dn | apply Ext.drew | apply Ext.alloc))
    by_cases hlt : k < f.clauses.length
    · obtain ⟨b, off, rfl, hbl, hcs⟩ := hcell k hlt
      obtain ⟨c, u, hc, hu⟩ := hcs k hlt
      obtain ⟨hu0, hui⟩ := hu _ hE
      obtain ⟨hb1, hb2⟩ := HB.out c (List.mem_of_getElem? hc)
      have hsp : (t ++ (⟨#[59, 32]⟩ : ByteArray)).size = t.size + 2 := by rw [ByteArray.size_append]; rfl
      go_wp2_with (go_at_call 180; refine (l2Text_any _ c _ hui hb2 (by omega)).mono ?_; rintro e w2 ⟨y, rfl, hy, ⟨n2, rfl⟩⟩)
      refine ⟨⟨k + 1, _, rfl, rfl, hlt, by rw [ByteArray.size_append, hsp]; omega, ?_⟩, by simp [intOf]; omega⟩
      first | exact ⟨_, rfl⟩ | exact Drew.more ⟨nd, rfl⟩ n2
    · go_wp2
      go_ret
      exact ⟨_, rfl, (by repeat (first | exact Ext.refl _ | assumption | apply Ext.dn | apply Ext.drew | apply Ext.alloc))⟩
end Go.Proofs.YtfnjhodologfeaaGreat
/- l2Parse -/
namespace Go.Proofs.YtfnjhodologfeaaGreat
open Go.RowKit

def readsO : List ByteArray → Option (List Int)
  | [] => some []
  | s :: l => match readO s, readsO l with
    | some n, some m => some (n :: m)
    | _, _ => none
def parseO (s : ByteArray) : Option (List Int) := if s.data.toList = [110, 111, 110, 101] then some [] else readsO (splitL s 32)
theorem own_type {w : World} {B : Nat} {v : Value} {xs : List Int} (h : OwnI w B v xs) {e : Nat} (he : 3 ≠ e) : ∀ b, v.ownBlock = some b → ∃ cur fz T, w.heap[b]? = some (.cells cur T fz) ∧ T ≠ e := by
  intro b hb
  obtain ⟨cur, fz, h5⟩ := ownsRow_type h b hb
  exact ⟨cur, fz, _, h5, he⟩
theorem readsO_snoc : ∀ (l : List ByteArray) (s : ByteArray) (m : List Int) (n : Int), readsO l = some m → readO s = some n → readsO (l ++ [s]) = some (m ++ [n])
  | [], s, m, n, h, h2 => by simp [readsO] at h ⊢; subst h; rw [h2]; rfl
  | t :: l, s, m, n, h, h2 => by
    rw [List.cons_append, readsO]
    rw [readsO] at h
    cases h3 : readO t with
    | none => rw [h3] at h; simp at h
    | some q =>
      cases h4 : readsO l with
      | none => rw [h3, h4] at h; simp at h
      | some q2 =>
        rw [h3, h4] at h
        simp only [Option.some.injEq] at h
        subst h
        rw [readsO_snoc l s q2 n h4 h2]
        rfl
/-- a clause is parsed, or not -/
def ParseE (vars : Int) (s : ByteArray) (w : World) (e : Ending) (w' : World) : Prop :=
  ∃ (r : Value) (ok : Bool), e = .returned (.tuple #[r, .bool ok]) ∧ ∃ c, OwnI w' w.heap.size r c ∧ (ok = true → parseO s = some c ∧ clauseB vars c = true ∧ c.length ≤ 12) ∧ Ext w w'

set_option maxRecDepth 100000 in
set_option maxHeartbeats 4000000 in
theorem l2Parse_any (vars : Int) (s : ByteArray) (w : World) (hs : s.size ≤ 100000) :
    Calls Tryz.prog 166 #[.int .i64 vars, .string s] w (ParseE vars s w) := by
  by_cases hn : s.data.toList = [110, 111, 110, 101]
  · have HP := Lib.hid (show parseO s = some [] by unfold parseO; rw [if_pos hn])
    have hn' : (s.toList == [110, 111, 110, 101]) = true := by rw [ByteArray.toList_eq, hn]; rfl
    go_enter Tryz.func166, Tryz.ntmps166
    go_wp2_with (go_at_call 134; refine (l2Vars_any _ _).mono ?_; rintro e w' ⟨rfl, rfl⟩)
    go_ret2
    exact ⟨_, _, rfl, [], OwnI.empty _ _ (Nat.le_refl _), fun h => ⟨HP.out, by simpa [clauseB, okTo] using h, by simp⟩, (by repeat (first | exact Ext.refl _ | assumption | apply Ext.dn | apply Ext.drew | apply Ext.alloc))⟩
  · have hn' : (s.toList == [110, 111, 110, 101]) = false := by rw [ByteArray.toList_eq]; simpa using hn
    have HP := Lib.hid (show parseO s = readsO (splitL s 32) by unfold parseO; rw [if_neg hn])
    have hwl := splitL_length s 32
    have HWS := Lib.hid (splitL_size s 32)
    clear hn
    go_enter Tryz.func166, Tryz.ntmps166
    go_wp2_with (go_at_call 164; refine (l1Split_any s 32 _ (by omega)).mono ?_; rintro e w1 ⟨r1, rfl, ho1, he1⟩)
    have hE1 : Ext w w1 := Ext.trans (by repeat (first | exact Ext.refl _ | assumption | apply Ext.dn | apply Ext.drew | apply Ext.alloc)) he1
    generalize splitL s 32 = ws at HP hwl HWS ho1
    obtain ⟨base, cap, rfl, hc1, hc2, _⟩ := ho1.strs.open
    go_loopw [6, 8, 9, 10] (fun o i l b wr => ∃ (k : Nat) (c : List Int), i = .int .i64 k ∧ k ≤ ws.length ∧ k ≤ 13 ∧ c.length = k ∧ readsO (ws.take k) = some c ∧ (∀ x ∈ c, -1000000 < x ∧ x < 1000000) ∧ OwnI wr w.heap.size o c ∧ Strs wr (.slice base ws.length cap) ws ∧ Ext w wr) (fun _ i _ _ _ => ws.length - (intOf i).toNat)
    case atStart => exact ⟨0, [], rfl, Nat.zero_le _, by omega, rfl, rfl, by simp, (OwnI.empty w _ (Nat.le_refl _)).ext he1, ho1.strs, hE1⟩
    case round =>
      obtain ⟨k, c, rfl, hk, hk13, rfl, hrd, hcb, hown, hstr, hEw⟩ := hrel
      obtain ⟨_, _, e, _, _, hcell⟩ := hstr.open
      injection e with e1 _ e3
      subst e1; subst e3
      have HRD := Lib.hid hrd
      have HCB := Lib.hid hcb
      clear hrd hcb
      have hsz := hEw.size
      obtain ⟨ob, oc, rfl, _, _, _⟩ := hown.ints.open
      by_cases hlt : c.length < ws.length
      · by_cases h12 : c.length ≤ 12
        · obtain ⟨b, off, rfl, hbl, hcs⟩ := hcell c.length hlt
          obtain ⟨x, hx, hxc⟩ := hcs c.length hlt
          have hxc0 := hxc _ (.refl _)
          have hxs : x.size ≤ 100000 := Nat.le_trans (HWS.out x (List.mem_of_getElem? hx)) hs
          have HT := Lib.hid (take_succ_at hx)
          clear hx
          go_wp2_with (first
            | (go_at_call 165; refine (l1Read_any x _ hxs).mono ?_; rintro e w2 ⟨n, ok, rfl, hr1, hr2, hd2⟩; obtain ⟨nd, rfl⟩ := hd2; have HR := Lib.hid hr1; clear hr1 hr2)
            | (at_builtin; refine wpList_appI rfl _ _ rfl w.heap.size _ _ c [n] rfl rfl (hown.ext (by repeat (first | exact Ext.refl _ | assumption | apply Ext.dn | apply Ext.drew | apply Ext.alloc))) (ints_one _ _) (by simp; omega) (by simp; omega) ?_; intro v' w4 ho4 hg4 _; have hE4 := below_grown (hEw.trans (by repeat (first | exact Ext.refl _ | assumption | apply Ext.dn | apply Ext.drew | apply Ext.alloc))) (hown.ext (by repeat (first | exact Ext.refl _ | assumption | apply Ext.dn | apply Ext.drew | apply Ext.alloc))) (hEw.trans (by repeat (first | exact Ext.refl _ | assumption | apply Ext.dn | apply Ext.drew | apply Ext.alloc))).size hg4; have hstr4 : Strs w4 _ ws := Sl.turned (hstr.ext (by repeat (first | exact Ext.refl _ | assumption | apply Ext.dn | apply Ext.drew | apply Ext.alloc))) hg4 (own_type (hown.ext (by repeat (first | exact Ext.refl _ | assumption | apply Ext.dn | apply Ext.drew | apply Ext.alloc))) (by decide))))
          · go_ret2
            refine ⟨_, _, rfl, [], (OwnI.empty (wr.drewN nd) _ (by simp; omega)), by simp, hEw.trans (by repeat (first | exact Ext.refl _ | assumption | apply Ext.dn | apply Ext.drew | apply Ext.alloc))⟩
          · have hok' : ok = true := by have h : (!ok) = false := (by assumption); simpa using h
            obtain ⟨hr, hn0, hn1⟩ := HR.out hok'
            exact ⟨⟨c.length + 1, c ++ [n], rfl, hlt, by omega, by simp, by rw [HT.out]; exact readsO_snoc _ _ _ _ HRD.out hr, fun y hy => by rcases List.mem_append.1 hy with hy | hy; exact HCB.out y hy; simp at hy; subst hy; exact ⟨hn0, hn1⟩, ho4, hstr4, hE4⟩, by simp [intOf]; omega⟩
        · go_wp2
          go_ret2
          exact ⟨_, _, rfl, [], (OwnI.empty wr _ (by omega)), by simp, hEw.trans (by repeat (first | exact Ext.refl _ | assumption | apply Ext.dn | apply Ext.drew | apply Ext.alloc))⟩
      · have HK := Lib.hid (show c.length = ws.length by omega)
        by_cases h12 : ws.length > 12
        · go_wp2
          go_ret2
          exact ⟨_, _, rfl, [], (OwnI.empty wr _ (by omega)), by simp, hEw.trans (by repeat (first | exact Ext.refl _ | assumption | apply Ext.dn | apply Ext.drew | apply Ext.alloc))⟩
        · have HPO := Lib.hid (show parseO s = some c by rw [HP.out, ← HRD.out, HK.out, List.take_length])
          have hcl : c.length ≤ 12 := by have := HK.out; omega
          have hcI := hown.ints
          go_wp2_with (first
            | (go_at_call 135; refine (l2Clause_any vars _ c _ hcI).mono ?_; rintro e w2 ⟨rfl, ⟨n2, rfl⟩⟩)
            | (go_at_call 180; refine (l2Text_any _ c _ (hcI.ext (by repeat (first | exact Ext.refl _ | assumption | apply Ext.dn | apply Ext.drew | apply Ext.alloc))) HCB.out (by omega)).mono ?_; rintro e w3 ⟨z, rfl, _, ⟨n3, rfl⟩⟩))
          all_goals
            first
              | (go_ret2
                 first
                   | (have hq : inB vars 0 12 = true ∧ okTo vars c c.length = true := by assumption
                      exact ⟨_, true, rfl, c, hown.ext (by repeat (first | exact Ext.refl _ | assumption | apply Ext.dn | apply Ext.drew | apply Ext.alloc)), fun _ => ⟨HPO.out, by unfold clauseB; rw [hq.1, hq.2]; rfl, hcl⟩, hEw.trans (by repeat (first | exact Ext.refl _ | assumption | apply Ext.dn | apply Ext.drew | apply Ext.alloc))⟩)
                   | exact ⟨_, false, rfl, [], (OwnI.empty _ _ (by simp; omega)), by simp, hEw.trans (by repeat (first | exact Ext.refl _ | assumption | apply Ext.dn | apply Ext.drew | apply Ext.alloc))⟩)
              | (exfalso
                 have q1 : ¬(inB vars 0 12 = true ∧ okTo vars c c.length = true) := by assumption
                 have q2 : ¬(12 < (ws.length : Int) ∨ inB vars 0 12 = false ∨ okTo vars c c.length = false) := by assumption
                 revert q1 q2
                 cases inB vars 0 12 <;> cases okTo vars c c.length <;> simp)
end Go.Proofs.YtfnjhodologfeaaGreat
