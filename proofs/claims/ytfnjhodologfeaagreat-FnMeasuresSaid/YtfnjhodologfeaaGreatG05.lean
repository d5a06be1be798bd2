/- Parts of the proof: B1, B2, B3. -/
import Derived.Test.YtfnjhodologfeaaGreatG04
import Derived.Shelf.Abstract
import Derived.Laws.Cover3
set_option linter.unusedSimpArgs false
set_option linter.unusedVariables false
/- Leaf functions of the program: numbers, literals, lists of ints. -/
namespace Go.Proofs.YtfnjhodologfeaaGreat
open Go.RowKit

set_option maxHeartbeats 400000 in
theorem within_any (x a b : Int) (w : World) :
    Calls Tryz.prog 156 #[.int .i64 x, .int .i64 a, .int .i64 b] w fun e w' => e = .returned (.bool (inB x a b)) ∧ w = w' := by
  by_cases h : a ≤ x
  · go_enter Tryz.func156, Tryz.ntmps156
    go_wp2
    go_ret
    exact ⟨ret_bool (by simp [inB, h]), rfl⟩
  · go_enter Tryz.func156, Tryz.ntmps156
    go_wp2
    go_ret
    exact ⟨ret_bool (by simp [inB, Int.not_le.2 h]), rfl⟩

set_option maxHeartbeats 400000 in
theorem varsOk_any (x : Int) (w : World) :
    Calls Tryz.prog 129 #[.int .i64 x] w fun e w' => e = .returned (.bool (inB x 0 12)) ∧ w = w' := by
  go_enter Tryz.func129, Tryz.ntmps129
  go_wp2_with (go_at_call 156; refine (within_any _ _ _ _).mono ?_; rintro e w' ⟨rfl, rfl⟩)
  go_ret
  exact ⟨rfl, rfl⟩

set_option maxHeartbeats 400000 in
theorem isVar_any (x v : Int) (w : World) :
    Calls Tryz.prog 159 #[.int .i64 x, .int .i64 v] w fun e w' => e = .returned (.bool (inB v 1 x)) ∧ w = w' := by
  go_enter Tryz.func159, Tryz.ntmps159
  go_wp2_with (go_at_call 156; refine (within_any _ _ _ _).mono ?_; rintro e w' ⟨rfl, rfl⟩)
  go_ret
  exact ⟨rfl, rfl⟩

/-- what abs computes -/
def absW (x : Int) : Int := if x < wrap64 (-x) then wrap64 (-x) else x
theorem wrap64_neg {x : Int} (h0 : -1000000 ≤ x) (h1 : x ≤ 1000000) : wrap64 (-x) = -x := by
  exact IntWalk.wrap64_in _ ⟨by omega, by omega⟩
theorem absW_in {x : Int} (h0 : -1000000 ≤ x) (h1 : x ≤ 1000000) : absW x = absI x := by
  unfold absW absI
  rw [wrap64_neg h0 h1]
  split <;> split <;> omega
set_option maxHeartbeats 400000 in
theorem abs_any (x : Int) (w : World) :
    Calls Tryz.prog 124 #[.int .i64 x] w fun e w' => e = .returned (.int .i64 (absW x)) ∧ w = w' := by
  go_enter Tryz.func124, Tryz.ntmps124
  go_wp2
  · have h : x < wrap64 (-x) := by assumption
    go_ret
    exact ⟨ret_int (by rw [absW, if_pos h]), rfl⟩
  · have h : wrap64 (-x) ≤ x := by assumption
    go_ret
    exact ⟨ret_int (by rw [absW, if_neg (by omega)]), rfl⟩

def litW (vars l : Int) : Bool := !(l == 0) && inB l (wrap64 (-vars)) vars
theorem litW_in {vars l : Int} (h0 : -1000000 ≤ vars) (h1 : vars ≤ 1000000) : litW vars l = litB vars l := by
  unfold litW litB
  rw [wrap64_neg h0 h1, Bool.and_comm]
set_option maxHeartbeats 400000 in
theorem isLiteral_any (vars l : Int) (w : World) :
    Calls Tryz.prog 155 #[.int .i64 vars, .int .i64 l] w fun e w' => e = .returned (.bool (litW vars l)) ∧ w = w' := by
  cases h : (l != 0)
  all_goals
    go_enter Tryz.func155, Tryz.ntmps155
    go_wp2_with (go_at_call 156; refine (within_any _ _ _ _).mono ?_; rintro e w' ⟨rfl, rfl⟩)
    go_ret
    exact ⟨ret_bool (by simp only [litW]; rw [show (!(l == 0)) = (l != 0) from rfl, h]; simp), rfl⟩

def okToW (vars : Int) (c : List Int) : Nat → Bool
  | 0 => true
  | k + 1 => okToW vars c k && (match c[k]? with
    | some x => litW vars x && (match k with | 0 => true | k' + 1 => (match c[k']? with | some y => decide (absW y < absW x) | none => true))
    | none => true)
theorem okToW_in {vars : Int} {c : List Int} (h0 : -1000000 ≤ vars) (h1 : vars ≤ 1000000) (k : Nat) : okToW vars c k = okTo vars c k := by
  induction k with
  | zero => simp only [okToW, okTo]
  | succ k ih =>
    simp only [okToW, okTo, ih, stepOk]
    cases hn : okTo vars c k
    · simp only [Bool.false_and]
    · cases hx : c[k]? with
      | none => simp only [Bool.true_and]
      | some x =>
        simp only [litW_in h0 h1, Bool.true_and]
        cases hl : litB vars x
        · simp only [Bool.false_and]
        · obtain ⟨x1, x2⟩ := litB_abs hl h1
          cases k with
          | zero => simp only [Bool.true_and]
          | succ k =>
            simp only
            cases hy : c[k]? with
            | none => simp only [Bool.true_and]
            | some y =>
              obtain ⟨y1, y2⟩ := litB_abs (okTo_lit hn (Nat.lt_succ_self k) hy) h1
              simp only [absW_in x1 x2, absW_in y1 y2]
theorem okToW_mono {vars : Int} {c : List Int} {k : Nat} (h : okToW vars c k = true) {j : Nat} (hj : j ≤ k) : okToW vars c j = true := by
  induction k with
  | zero => obtain rfl : j = 0 := by omega
            rfl
  | succ k ih =>
    simp only [okToW, Bool.and_eq_true] at h
    by_cases hjk : j ≤ k
    · exact ih h.1 hjk
    · obtain rfl : j = k + 1 := by omega
      simp [okToW, h]

theorem clauseB_W (vars : Int) (c : List Int) : clauseB vars c = (okToW vars c c.length && inB vars 0 12) := by
  unfold clauseB
  cases h : inB vars 0 12
  · simp
  · have : 0 ≤ vars ∧ vars ≤ 12 := by simpa [inB] using h
    rw [okToW_in (by omega) (by omega)]
    simp
theorem okToW_false {vars : Int} {c : List Int} {k : Nat} (hk : k < c.length) (h : okToW vars c (k + 1) = false) : clauseB vars c = false := by
  rw [clauseB_W]
  have : okToW vars c c.length = false := by
    rw [Bool.eq_false_iff]
    intro h2
    rw [okToW_mono h2 (show k + 1 ≤ c.length by omega)] at h
    cases h
  rw [this]; rfl

set_option maxHeartbeats 1000000 in
theorem IsClause_any (vars : Int) (v : Value) (c : List Int) (w : World) (hx : Ints w v c) :
    Calls Tryz.prog 128 #[.int .i64 vars, v] w fun e w' => e = .returned (.bool (clauseB vars c)) ∧ Drew w w' := by
  obtain ⟨base, cap, rfl, hc1, hc2, hcell⟩ := hx.open
  clear hx
  go_enter Tryz.func128, Tryz.ntmps128
  go_wp2
  go_loopw [9] (fun i wr => ∃ k : Nat, k ≤ c.length ∧ i = .int .i64 k ∧ okToW vars c k = true ∧ Drew w wr) (fun i _ => c.length - (intOf i).toNat)
  case atStart => exact ⟨0, Nat.zero_le _, rfl, rfl, .refl _⟩
  case round =>
    obtain ⟨k, hk, rfl, hno, hdr⟩ := hrel
    have HN := Lib.hid hno
    clear hno
    by_cases hlt : k < c.length
    · obtain ⟨b, off, rfl, hb, hcs⟩ := hcell k hlt
      obtain ⟨x, hxk, hci⟩ := hcs k hlt
      replace hci := hci wr hdr.ext
      have HX := Lib.hid hxk
      cases hx : litW vars x
      · clear hcell hcs hxk
        go_wp2
        go_quiet (first | (go_at_call 155; exact Calls.quiet_of_same ((isLiteral_any _ _ _).mono (fun _ _ h => ⟨h.1.trans (ret_bool hx), h.2.symm⟩))) | (go_at_call 124; exact Calls.quiet_of_same ((abs_any _ _).mono (fun _ _ h => ⟨h.1, h.2.symm⟩))))
        go_wp2
        go_ret
        exact ⟨ret_bool (okToW_false hlt (by simp [okToW, HX.out, hx])).symm, hdr.more _⟩
      · by_cases hk0 : 0 < k
        · obtain ⟨y, hyk, hyi⟩ := hcs (k - 1) (by omega)
          replace hyi := hyi wr hdr.ext
          have HY := Lib.hid hyk
          clear hcell hcs hxk hyk
          by_cases hge : absW x ≤ absW y
          all_goals
            go_wp2
            go_quiet (first | (go_at_call 155; exact Calls.quiet_of_same ((isLiteral_any _ _ _).mono (fun _ _ h => ⟨h.1.trans (ret_bool hx), h.2.symm⟩))) | (go_at_call 124; exact Calls.quiet_of_same ((abs_any _ _).mono (fun _ _ h => ⟨h.1, h.2.symm⟩))))
            go_wp2
          · go_ret
            refine ⟨ret_bool (okToW_false hlt ?_).symm, hdr.more _⟩
            obtain ⟨k, rfl⟩ : ∃ j, k = j + 1 := ⟨k - 1, by omega⟩
            have hy' : c[k]? = some y := HY.out
            have : ¬ absW y < absW x := by omega
            simp [okToW, HX.out, hy', this]
          · refine ⟨⟨k + 1, by omega, by go_num, ?_, hdr.more _⟩, by simp [intOf]; omega⟩
            obtain ⟨k, rfl⟩ : ∃ j, k = j + 1 := ⟨k - 1, by omega⟩
            have hy' : c[k]? = some y := HY.out
            have hlt' : absW y < absW x := by omega
            rw [okToW, HN.out, HX.out]
            simp [hx, hy', hlt']
        · have hkz : k = 0 := by omega
          have hdk : decide ((0:Int) < (k:Int)) = false := by simp; omega
          have HZ := Lib.hid hkz
          clear hcell hcs hxk hkz
          go_wp2
          go_quiet (first | (go_at_call 155; exact Calls.quiet_of_same ((isLiteral_any _ _ _).mono (fun _ _ h => ⟨h.1.trans (ret_bool hx), h.2.symm⟩))) | (go_at_call 124; exact Calls.quiet_of_same ((abs_any _ _).mono (fun _ _ h => ⟨h.1, h.2.symm⟩))))
          go_wp2
          refine ⟨⟨k + 1, by omega, by go_num, ?_, hdr.more _⟩, by simp [intOf]; omega⟩
          rw [okToW, HN.out, HX.out, HZ.out]
          simp [hx]
    · go_wp2_with (go_at_call 129; refine (varsOk_any _ _).mono ?_; rintro e w' ⟨rfl, rfl⟩)
      go_ret
      have HE := HN.out
      rw [show k = c.length by omega] at HE
      exact ⟨ret_bool (by rw [clauseB_W, HE]; rfl), hdr⟩
end Go.Proofs.YtfnjhodologfeaaGreat
/- IsCnf; slices.Index, Contains, Equal, Clone, IndexFunc, ContainsFunc at []int; part -/
namespace Go.Proofs.YtfnjhodologfeaaGreat
open Go.RowKit

set_option maxHeartbeats 1000000 in
theorem IsCnf_any (v : Value) (f : CNF) (w : World) (hx : CnfV w v f) :
    Calls Tryz.prog 105 #[v] w (BoolE w (goodCnf f)) := by
  obtain ⟨cv, rfl, hl⟩ := hx
  obtain ⟨base, cap, rfl, hc1, hc2, hcell⟩ := hl.open
  go_enter Tryz.func105, Tryz.ntmps105
  go_wp2
  go_loopw [8] (fun i wr => ∃ k : Nat, k ≤ f.clauses.length ∧ i = .int .i64 k ∧ Ext (w.alloc (.cells #[.int .i64 f.vars, .slice base f.clauses.length cap] 26)) wr ∧ allTo f.vars f.clauses k = true) (fun i _ => f.clauses.length - (intOf i).toNat)
  case atStart => exact ⟨0, Nat.zero_le _, rfl, .refl _, rfl⟩
  case round =>
    obtain ⟨k, hk, rfl, hE0, hall⟩ := hrel
    obtain ⟨f0, f1, hE⟩ := own2_cells hE0
    have HA := Lib.hid hall
    clear hall
    by_cases hlt : k < f.clauses.length
    · obtain ⟨b, off, rfl, hb, hcs⟩ := hcell k hlt
      obtain ⟨c, u, hck, hci⟩ := hcs k hlt
      have hcu := (hci wr hE).1
      have hcI := (hci wr hE).2
      have HC := Lib.hid hck
      clear hcell hcs hck hci hl
      cases hcl : clauseB f.vars c
      all_goals go_wp2_with (go_at_call 128; refine (IsClause_any _ _ _ _ hcI).mono ?_; rw [hcl]; rintro e w2 ⟨rfl, hd2⟩)
      · go_ret
        exact boolE (by simp [goodCnf, allTo_false HC.out hcl _ hlt]) (hE.trans hd2.ext)
      · exact ⟨⟨k + 1, by omega, by go_num, hE0.trans hd2.ext, allTo_succ HC.out hcl HA.out⟩, by simp [intOf]; omega⟩
    · have HA2 := HA.out
      rw [show k = f.clauses.length by omega] at HA2
      have HA3 := Lib.hid HA2
      clear HA2 HA hcell
      cases hv : inB f.vars 0 12
      all_goals
        go_wp2_with (go_at_call 129; refine (varsOk_any _ _).mono ?_; rw [hv]; rintro e w2 ⟨rfl, rfl⟩)
        go_ret
      · exact boolE (by simp [goodCnf, hv]) hE
      · refine boolE ?_ hE
        rw [goodCnf, hv, HA3.out]
        have : ((f.clauses.length : Int) ≤ 60) ↔ f.clauses.length ≤ 60 := by omega
        simp [this]

/-- the first place of n, or -1 -/
def idxOf (xs : List Int) (p : Int → Bool) : Int := match xs.findIdx? p with | some k => k | none => -1

theorem idxOf_none {xs : List Int} {p : Int → Bool} (h : ∀ (j : Nat) x, xs[j]? = some x → p x = false) : idxOf xs p = -1 := by
  have : xs.findIdx? p = none := by
    rw [List.findIdx?_eq_none_iff]
    intro x hx
    obtain ⟨j, hj⟩ := List.mem_iff_getElem?.1 hx
    exact h j x hj
  simp [idxOf, this]
theorem idxOf_at {xs : List Int} {p : Int → Bool} {k : Nat} {x : Int} (h : ∀ (j : Nat) x, j < k → xs[j]? = some x → p x = false) (hx : xs[k]? = some x) (hp : p x = true) : idxOf xs p = k := by
  have : xs.findIdx? p = some k := by
    rw [List.findIdx?_eq_some_iff_getElem]
    obtain ⟨hk, rfl⟩ := List.getElem?_eq_some_iff.1 hx
    exact ⟨hk, hp, fun j hj => by simpa using h j _ hj (List.getElem?_eq_getElem (by omega))⟩
  simp [idxOf, this]
theorem none_succ {xs : List Int} {p : Int → Bool} {k : Nat} {x : Int} (h : ∀ (j : Nat) x, j < k → xs[j]? = some x → p x = false) (hx : xs[k]? = some x) (hp : p x = false) : ∀ (j : Nat) x, j < k + 1 → xs[j]? = some x → p x = false := by
  intro j y hj hy
  by_cases hjk : j < k
  · exact h j y hjk hy
  · obtain rfl : j = k := by omega
    rw [hx] at hy
    injection hy with hy
    rw [← hy]; exact hp
theorem none_full {xs : List Int} {p : Int → Bool} {k : Nat} (h : ∀ (j : Nat) x, j < k → xs[j]? = some x → p x = false) (hk : ¬ k < xs.length) : ∀ (j : Nat) x, xs[j]? = some x → p x = false := by
  intro j x hx
  obtain ⟨hj, _⟩ := List.getElem?_eq_some_iff.1 hx
  exact h j x (by omega) hx

set_option maxHeartbeats 400000 in
theorem Index_any (v : Value) (xs : List Int) (n : Int) (w : World) (hx : Ints w v xs) :
    Calls Tryz.prog 59 #[v, .int .i64 n] w fun e w' => e = .returned (.int .i64 (idxOf xs (n == ·))) ∧ w = w' := by
  obtain ⟨base, cap, rfl, hc1, hc2, hcell⟩ := hx.open
  clear hx
  go_enter Tryz.func59, Tryz.ntmps59
  go_wp2
  go_loop [8] (fun i => ∃ k : Nat, k ≤ xs.length ∧ i = .int .i64 k ∧ ∀ (j : Nat) x, j < k → xs[j]? = some x → (n == x) = false) (fun i => xs.length - (intOf i).toNat)
  case atStart => exact ⟨0, Nat.zero_le _, rfl, fun j x h => by omega⟩
  case round =>
    obtain ⟨k, hk, rfl, hno⟩ := hrel
    have HN := Lib.hid hno
    clear hno
    by_cases hlt : k < xs.length
    · obtain ⟨b, off, rfl, hb, hcs⟩ := hcell k hlt
      obtain ⟨x, hxk, hci⟩ := hcs k hlt
      replace hci := hci w (.refl _)
      have HX := Lib.hid hxk
      clear hcell hcs hxk
      cases he : (n == x)
      all_goals go_wp2
      · exact ⟨⟨k + 1, by omega, by go_num, none_succ (p := (n == ·)) HN.out HX.out he⟩, by simp [intOf]; omega⟩
      · go_ret
        exact ⟨ret_int (idxOf_at (p := (n == ·)) HN.out HX.out he).symm, rfl⟩
    · go_wp2
      go_ret
      exact ⟨ret_int (idxOf_none (p := (n == ·)) (none_full (p := (n == ·)) HN.out hlt)).symm, rfl⟩

theorem idxOf_has (xs : List Int) (p : Int → Bool) : decide (0 ≤ idxOf xs p) = xs.any p := by
  unfold idxOf
  cases h : xs.findIdx? p with
  | none =>
    rw [List.findIdx?_eq_none_iff] at h
    have : xs.any p = false := by
      rw [List.any_eq_false]
      intro x hx; simpa using h x hx
    simp [this]
  | some k =>
    rw [List.findIdx?_eq_some_iff_getElem] at h
    obtain ⟨hk, hp, _⟩ := h
    have : xs.any p = true := List.any_eq_true.2 ⟨_, List.getElem_mem hk, hp⟩
    simp [this]

set_option maxHeartbeats 400000 in
theorem Contains_any (v : Value) (xs : List Int) (n : Int) (w : World) (hx : Ints w v xs) :
    Calls Tryz.prog 83 #[v, .int .i64 n] w fun e w' => e = .returned (.bool (hasB xs n)) ∧ w = w' := by
  go_enter Tryz.func83, Tryz.ntmps83
  go_wp2_with (go_at_call 59; refine (Index_any _ xs _ _ hx).mono ?_; rintro e w' ⟨rfl, rfl⟩)
  go_ret
  refine ⟨ret_bool ?_, rfl⟩
  rw [idxOf_has]
  unfold hasB
  congr 1
  funext x
  rw [Bool.eq_iff_iff, beq_iff_eq, beq_iff_eq]
  exact ⟨Eq.symm, Eq.symm⟩

set_option maxHeartbeats 400000 in
theorem Equal_any (va vb : Value) (xs ys : List Int) (w : World) (hx : Ints w va xs) (hy : Ints w vb ys) :
    Calls Tryz.prog 93 #[va, vb] w fun e w' => e = .returned (.bool (eqB xs ys)) ∧ Drew w w' := by
  obtain ⟨base, cap, rfl, hc1, hc2, hcell⟩ := hx.open
  obtain ⟨base2, cap2, rfl, hd1, hd2, hcell2⟩ := hy.open
  clear hx hy
  by_cases hl : xs.length = ys.length
  · have hl' : ((xs.length : Int) != (ys.length : Int)) = false := by simp [hl]
    have HL := Lib.hid hl
    clear hl
    go_enter Tryz.func93, Tryz.ntmps93
    go_wp2
    go_loopw [13] (fun i wr => ∃ k : Nat, k ≤ xs.length ∧ i = .int .i64 k ∧ xs.take k = ys.take k ∧ Drew w wr) (fun i _ => xs.length - (intOf i).toNat)
    case atStart => exact ⟨0, Nat.zero_le _, rfl, rfl, .refl _⟩
    case round =>
      obtain ⟨k, hk, rfl, hno, hdr⟩ := hrel
      have HN := Lib.hid hno
      clear hno
      by_cases hlt : k < xs.length
      · have hlt2 : k < ys.length := by have := HL.out; omega
        obtain ⟨b, off, rfl, hb, hcs⟩ := hcell k hlt
        obtain ⟨x, hxk, hci⟩ := hcs k hlt
        replace hci := hci wr hdr.ext
        obtain ⟨b2, off2, rfl, hb2, hcs2⟩ := hcell2 k hlt2
        obtain ⟨y, hyk, hdi⟩ := hcs2 k hlt2
        replace hdi := hdi wr hdr.ext
        have HX := Lib.hid hxk
        have HY := Lib.hid hyk
        clear hcell hcs hxk hcell2 hcs2 hyk
        cases he : (x != y)
        all_goals
          go_wp2
          go_quiet (fail)
          go_wp2
        · have HE := eqB_take HL.out HX.out HY.out HN.out (by simpa using he)
          exact ⟨⟨k + 1, by omega, by go_num, HE, hdr.more _⟩, by simp [intOf]; omega⟩
        · go_ret
          exact ⟨ret_bool (eqB_not HX.out HY.out (by simpa using he)).symm, hdr.more _⟩
      · go_wp2
        go_ret
        exact ⟨ret_bool (eqB_full HL.out HN.out hlt).symm, hdr⟩
  · have hl' : ((xs.length : Int) != (ys.length : Int)) = true := by simp; omega
    have HL := Lib.hid hl
    clear hl
    go_enter Tryz.func93, Tryz.ntmps93
    go_wp2
    go_ret
    exact ⟨ret_bool (eqB_len HL.out).symm, .refl _⟩

set_option maxHeartbeats 400000 in
theorem Clone_any (v : Value) (xs : List Int) (w : World) (hx : Ints w v xs) (hl : xs.length ≤ 1000000000) :
    Calls Tryz.prog 79 #[v] w (NewI w xs) := by
  obtain ⟨base, cap, rfl, hc1, hc2, hcell⟩ := hx.open
  cases base with
  | none =>
    have hn : xs = [] := by
      cases xs with
      | nil => rfl
      | cons a l => obtain ⟨_, _, h, _⟩ := hcell 0 (by simp); cases h
    subst hn
    have heq := fun w' : World => Lib.run_eql_slice_nil (P := Tryz.prog) w' 33 3 none 0 cap 0 0 Tryz.underlying33
    go_enter Tryz.func79, Tryz.ntmps79
    go_wp2
    go_ret
    exact ⟨_, rfl, OwnI.nil _ _, Ext.refl _⟩
  | some a =>
    clear hcell
    have heq := fun w' : World => Lib.run_eql_slice_nil (P := Tryz.prog) w' 33 3 (some a) xs.length cap 0 0 Tryz.underlying33
    go_enter Tryz.func79, Tryz.ntmps79
    go_wp2_with (at_builtin; refine wpList_appI rfl _ _ rfl w.heap.size _ _ [] xs rfl rfl (OwnI.empty w _ (Nat.le_refl _)) (hx.ext ((Ext.refl _).alloc _)) (by simp; omega) (by simp) ?_; intro v' w1 ho1 hg1 _)
    go_ret
    exact ⟨_, rfl, ho1, below_grown ((Below.refl _ _).alloc (Nat.le_refl _) _) (OwnI.empty w _ (Nat.le_refl _)) (by simp) hg1⟩
end Go.Proofs.YtfnjhodologfeaaGreat
/- IndexFunc, ContainsFunc; part; withoutVar$1 -/
namespace Go.Proofs.YtfnjhodologfeaaGreat
open Go.RowKit

/-- the function g, bound to cb, tells p of each of these numbers, in every world that has grown from w; it only draws. -/
def PredOk (g : Nat) (cb : Array Value) (p : Int → Bool) (xs : List Int) (w : World) : Prop :=
  ∀ w', Ext w w' → ∀ x, x ∈ xs → Calls Tryz.prog g (#[.int .i64 x] ++ cb) w' fun e w'' => e = .returned (.bool (p x)) ∧ Drew w' w''

set_option maxHeartbeats 400000 in
theorem IndexFunc_any (v : Value) (xs : List Int) (g : Nat) (cb : Array Value) (p : Int → Bool) (w : World) (hx : Ints w v xs) (eg : ∀ args w, (callFunc g args).run Tryz.prog w = .ok (.enter g args) w) (hp : PredOk g cb p xs w) :
    Calls Tryz.prog 96 #[v, .func (.func g) #[] cb] w fun e w' => e = .returned (.int .i64 (idxOf xs p)) ∧ Drew w w' := by
  obtain ⟨base, cap, rfl, hc1, hc2, hcell⟩ := hx.open
  clear hx
  go_enter Tryz.func96, Tryz.ntmps96
  go_wp2
  go_loopw [8] (fun i wr => ∃ k : Nat, k ≤ xs.length ∧ i = .int .i64 k ∧ (∀ (j : Nat) x, j < k → xs[j]? = some x → p x = false) ∧ Drew w wr) (fun i _ => xs.length - (intOf i).toNat)
  case atStart => exact ⟨0, Nat.zero_le _, rfl, fun j x h => by omega, .refl _⟩
  case round =>
    obtain ⟨k, hk, rfl, hno, hdr⟩ := hrel
    have HN := Lib.hid hno
    clear hno
    by_cases hlt : k < xs.length
    · obtain ⟨b, off, rfl, hb, hcs⟩ := hcell k hlt
      obtain ⟨x, hxk, hci⟩ := hcs k hlt
      replace hci := hci wr hdr.ext
      have hcall := hp wr hdr.ext x (List.mem_of_getElem? hxk)
      have HX := Lib.hid hxk
      have HC := Lib.hid hcall
      clear hcell hcs hxk hcall
      cases he : p x
      all_goals go_wp2_with (go_at_fn g; refine HC.out.mono ?_; rw [he]; rintro e w2 ⟨rfl, hd2⟩)
      · exact ⟨⟨k + 1, by omega, by go_num, none_succ HN.out HX.out he, hdr.trans hd2⟩, by simp [intOf]; omega⟩
      · go_ret
        exact ⟨ret_int (idxOf_at HN.out HX.out he).symm, hdr.trans hd2⟩
    · go_wp2
      go_ret
      exact ⟨ret_int (idxOf_none (none_full HN.out hlt)).symm, hdr⟩

set_option maxHeartbeats 400000 in
theorem ContainsFunc_any (v : Value) (xs : List Int) (g : Nat) (cb : Array Value) (p : Int → Bool) (w : World) (hx : Ints w v xs) (eg : ∀ args w, (callFunc g args).run Tryz.prog w = .ok (.enter g args) w) (hp : PredOk g cb p xs w) :
    Calls Tryz.prog 60 #[v, .func (.func g) #[] cb] w fun e w' => e = .returned (.bool (xs.any p)) ∧ Drew w w' := by
  go_enter Tryz.func60, Tryz.ntmps60
  go_wp2_with (go_at_call 96; refine (IndexFunc_any _ xs g cb p _ hx eg hp).mono ?_; rintro e w2 ⟨rfl, hd2⟩)
  go_ret
  exact ⟨ret_bool (by rw [idxOf_has]), hd2⟩

set_option maxHeartbeats 400000 in
theorem part_lit_any (x : Int) (b : Nat) (vb : Value) (ys : List Int) (w : World) (hc : w.cell? ⟨b, 0, none⟩ = some vb) (hy : Ints w vb ys) :
    Calls Tryz.prog 176 #[.int .i64 x, .pointer (some ⟨b, 0, none⟩)] w fun e w' => e = .returned (.bool (!hasB ys x)) ∧ w = w' := by
  go_enter Tryz.func176, Tryz.ntmps176
  go_wp2_with (go_at_call 83; refine (Contains_any _ ys _ _ hy).mono ?_; rintro e w' ⟨rfl, rfl⟩)
  go_ret
  exact ⟨rfl, rfl⟩

set_option maxHeartbeats 400000 in
theorem part_any (va vb : Value) (xs ys : List Int) (w : World) (hx : Ints w va xs) (hy : Ints w vb ys) :
    Calls Tryz.prog 158 #[va, vb] w (BoolE w (subB xs ys)) := by
  have eg : ∀ args w, (callFunc 176 args).run Tryz.prog w = .ok (.enter 176 args) w := fun args w => by kernel_rfl
  obtain ⟨b2, c2, rfl, _, _, _⟩ := hy.open
  have hpred : PredOk 176 #[.pointer (some ⟨w.heap.size, 0, none⟩)] (fun x => !hasB ys x) xs (w.alloc (.cells #[.slice b2 ys.length c2] 33)) := by
    intro w' hE x hm
    have hc : (w.alloc (.cells #[.slice b2 ys.length c2] 33)).cell? ⟨w.heap.size, 0, none⟩ = some (.slice b2 ys.length c2) := by simp
    exact (part_lit_any x _ _ ys w' (hE.cell hc) (hy.ext (Ext.trans (by repeat (first | exact Ext.refl _ | assumption | apply Ext.dn | apply Ext.drew | apply Ext.alloc)) hE))).mono (fun _ _ h => ⟨h.1, by rw [h.2]; exact .refl _⟩)
  have HP := Lib.hid hpred
  clear hpred
  go_enter Tryz.func158, Tryz.ntmps158
  go_wp2_with (go_at_call 60; refine (ContainsFunc_any _ xs 176 _ (fun x => !hasB ys x) _ (hx.ext (by repeat (first | exact Ext.refl _ | assumption | apply Ext.dn | apply Ext.drew | apply Ext.alloc))) eg HP.out).mono ?_; rintro e w2 ⟨rfl, hd2⟩)
  go_ret
  refine boolE ?_ (Ext.trans (by repeat (first | exact Ext.refl _ | assumption | apply Ext.dn | apply Ext.drew | apply Ext.alloc)) hd2.ext)
  simp only [subB]
  rw [List.all_eq_not_any_not]
end Go.Proofs.YtfnjhodologfeaaGreat
