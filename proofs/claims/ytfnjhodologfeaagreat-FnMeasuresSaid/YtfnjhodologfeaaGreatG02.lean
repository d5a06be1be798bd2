/- Parts of the proof: N1, A1, A2. -/
import Derived.Test.YtfnjhodologfeaaGreatG01
import Derived.RangeFuncNested
import Derived.RangeFuncBound
import Derived.RangeFuncCalls
import Derived.RangeFuncLeaves
import Derived.RangeFuncBox
import Derived.Shelf.Abstract
import Derived.Shelf.RegionOpen
import Derived.OwnWalkIn
import Derived.TacticsInMore
import Derived.LoopNIn
import Derived.LoopIn
set_option linter.unusedSimpArgs false
set_option linter.unusedVariables false
/- slices.Backward over steps: its closure's contract, for a range over a function -/
namespace Go.Proofs.YtfnjhodologfeaaGreat
open Go.RowKit Go.Shelf
attribute [local go_sem] Oper.semAt_some

/-- steps, cell by cell, with one function for the clauses' values -/
theorem Steps.cellsAt {w : World} {v : Value} {ss : List RS} (h : Steps w v ss) : ∃ (base : Option Addr) (cap : Nat) (U : Nat → Option Addr × Nat), v = .slice base ss.length cap ∧ ss.length ≤ cap ∧ cap ≤ 9223372036854775807 ∧
    (0 < ss.length → ∃ b off, base = some ⟨b, off, none⟩ ∧ b < w.heap.size ∧ ∀ i (hi : i < ss.length), ∀ w', Ext w w' →
      w'.cell? ⟨b, off + i * 4, none⟩ = some (.slice (U i).1 ss[i].clause.length (U i).2) ∧ w'.cell? ⟨b, off + i * 4 + 1, none⟩ = some (.int .i64 ss[i].left) ∧ w'.cell? ⟨b, off + i * 4 + 2, none⟩ = some (.int .i64 ss[i].right) ∧
      w'.cell? ⟨b, off + i * 4 + 3, none⟩ = some (.int .i64 ss[i].pivot) ∧ Ints w' (.slice (U i).1 ss[i].clause.length (U i).2) ss[i].clause) := by
  obtain ⟨base, cap, h1, h2, h3, h4⟩ := h.open
  by_cases hn : 0 < ss.length
  · obtain ⟨b, off, e1, e2, e3⟩ := h4 0 hn
    have key : ∀ i : Nat, ∃ u : Option Addr × Nat, ∀ hi : i < ss.length, ∀ w', Ext w w' →
      w'.cell? ⟨b, off + i * 4, none⟩ = some (.slice u.1 ss[i].clause.length u.2) ∧ w'.cell? ⟨b, off + i * 4 + 1, none⟩ = some (.int .i64 ss[i].left) ∧ w'.cell? ⟨b, off + i * 4 + 2, none⟩ = some (.int .i64 ss[i].right) ∧
      w'.cell? ⟨b, off + i * 4 + 3, none⟩ = some (.int .i64 ss[i].pivot) ∧ Ints w' (.slice u.1 ss[i].clause.length u.2) ss[i].clause := by
      intro i
      by_cases hi : i < ss.length
      · obtain ⟨s, u, hs, hc⟩ := e3 i hi
        obtain ⟨_, rfl⟩ := List.getElem?_eq_some_iff.1 hs
        obtain ⟨ub, uc, rfl, _⟩ := (hc w (.refl _)).2.2.2.2.open
        exact ⟨(ub, uc), fun _ => hc⟩
      · exact ⟨(none, 0), fun hi' => absurd hi' hi⟩
    obtain ⟨U, hU⟩ := Classical.axiomOfChoice key
    exact ⟨base, cap, U, h1, h2, h3, fun _ => ⟨b, off, e1, e2, fun i hi w' hx => hU i hi w' hx⟩⟩
  · exact ⟨base, cap, fun _ => (none, 0), h1, h2, h3, fun h => absurd h hn⟩

/-- the index of a step, and what is handed to a round -/
abbrev StIx (ss : List RS) := { k : Nat // k < ss.length }
def stE (U : Nat → Option Addr × Nat) (ss : List RS) (x : StIx ss) : Array Value := #[.int .i64 (x.1 : Int),   .agg #[.slice (U x.1).1 (ss[x.1]'x.2).clause.length (U x.1).2, .int .i64 (ss[x.1]'x.2).left, .int .i64 (ss[x.1]'x.2).right, .int .i64 (ss[x.1]'x.2).pivot]]
def downTo (ss : List RS) : Nat → List (StIx ss)
  | 0 => []
  | k + 1 => if h : k < ss.length then downTo ss k ++ [⟨ss.length - 1 - k, by omega⟩] else downTo ss k
theorem downTo_length (ss : List RS) : ∀ k, k ≤ ss.length → (downTo ss k).length = k
  | 0, _ => rfl
  | k + 1, h => by
    rw [downTo, dif_pos (by omega)]
    simp [downTo_length ss k (by omega)]
theorem downTo_at {ss : List RS} {q : Nat} (hq : q < ss.length) : downTo ss ((ss.length : Int) - 1 - ((q : Int) - 1)).toNat = downTo ss ((ss.length : Int) - 1 - (q : Int)).toNat ++ [⟨q, hq⟩] := by
  obtain ⟨k, hk⟩ : ∃ k, ss.length - 1 - q = k := ⟨_, rfl⟩
  rw [show ((ss.length : Int) - 1 - ((q : Int) - 1)).toNat = k + 1 by omega, show ((ss.length : Int) - 1 - (q : Int)).toNat = k by omega]
  rw [downTo, dif_pos (by omega)]
  congr 2
  exact Subtype.ext (by show ss.length - 1 - k = q; omega)

/-- what a round keeps: all that lay when the call began, and the iterator's box -/
def KpB (n₀ Bs : Nat) (A B : World) : Prop := Below n₀ A B ∧ B.heap[Bs]? = A.heap[Bs]?
theorem kpB_t {n₀ Bs : Nat} {A B C : World} (h : KpB n₀ Bs A B) (k : KpB n₀ Bs B C) : KpB n₀ Bs A C := ⟨h.1.trans k.1, k.2.trans h.2⟩
theorem kpB_b {n₀ Bs : Nat} {w : World} (hn : n₀ ≤ w.heap.size) (hB : Bs < w.heap.size) : ∀ (W : World) (l : Nat) (o o' : Obj), w.heap.size ≤ l → W.heap[l]? = some o → o.isCells = false → o.isWalk = false → KpB n₀ Bs W (W.putObj l o') :=
  fun W l o o' hl h1 h2 h3 => ⟨belowK_b hn W l o o' hl h1 h2 h3, World.putObj_heap_other (by omega)⟩

set_option maxRecDepth 100000 in
set_option maxHeartbeats 2000000 in
theorem back1_in (F : Fence) (n : Nat) (h8 : F.fn 127) (hro : F.round = none) (hn : 1 ≤ n) (l Bs n₀ : Nat) (ss : List RS) (U : Nat → Option Addr × Nat) (base : Option Addr) (cap : Nat) (hcap1 : ss.length ≤ cap) (hcap2 : cap ≤ 9223372036854775807) (J Jx : List (StIx ss) → World → Prop)
    (hY : ∀ pre x W, J pre W → pre.length < ss.length → YieldAt F (n - 1) Tryz.prog l (stE U ss x) W fun e W' =>
      (e = .returned (.bool true) ∧ J (pre ++ [x]) W' ∧ KpB n₀ Bs W W') ∨ (e = .returned (.bool false) ∧ Jx (pre ++ [x]) W'))
    (w0 W : World) (hw0 : n₀ = w0.heap.size) (hE0 : Ext w0 W) (hBs : Boxed W Bs 27 (.slice base ss.length cap))
    (hc : 0 < ss.length → ∃ b off, base = some ⟨b, off, none⟩ ∧ b < w0.heap.size ∧ ∀ i (hi : i < ss.length), ∀ w', Ext w0 w' →
      w'.cell? ⟨b, off + i * 4, none⟩ = some (.slice (U i).1 ss[i].clause.length (U i).2) ∧ w'.cell? ⟨b, off + i * 4 + 1, none⟩ = some (.int .i64 ss[i].left) ∧ w'.cell? ⟨b, off + i * 4 + 2, none⟩ = some (.int .i64 ss[i].right) ∧
      w'.cell? ⟨b, off + i * 4 + 3, none⟩ = some (.int .i64 ss[i].pivot) ∧ Ints w' (.slice (U i).1 ss[i].clause.length (U i).2) ss[i].clause) (h0 : J [] W) :
    CallsIn F n Tryz.prog 127 #[.func (.yield l) #[] #[], .pointer (some ⟨Bs, 0, none⟩)] W fun e W' => (∃ v, e = .returned v) ∧
      ((∃ ys, ys = downTo ss ss.length ∧ J ys W') ∨ (∃ pre, (∃ k, k ≤ ss.length ∧ pre = downTo ss k) ∧ Jx pre W')) := by
  subst hw0
  have hBW := hBs.cell
  refine callsIn_of_wp Tryz.func127 rfl h8 ?_ hro
  simp only [Tryz.ntmps127, List.size_toArray, List.length_cons, List.length_nil, Nat.reduceAdd, Nat.reduceSub, Array.replicate_succ, Array.replicate_zero, List.push_toArray, List.append_toArray, List.nil_append, List.cons_append]
  gi_wp2
  gi_loopw [3] (fun i wr => ∃ q : Int, i = .int .i64 q ∧ -1 ≤ q ∧ q < ss.length ∧ J (downTo ss ((ss.length : Int) - 1 - q).toNat) wr ∧ Ext w0 wr ∧ Boxed wr Bs 27 (.slice base ss.length cap))
    (fun i _ => (intOf i + 1).toNat)
  case atStart => exact ⟨(ss.length : Int) - 1, rfl, by omega, by omega, by rw [show ((ss.length : Int) - 1 - ((ss.length : Int) - 1)).toNat = 0 by omega]; exact h0, hE0, hBs⟩
  case round =>
    obtain ⟨q, rfl, hq0, hq1, hJs, hx, hbx⟩ := hrel
    by_cases hqn : 0 ≤ q
    · obtain ⟨qi, rfl⟩ := Int.eq_ofNat_of_zero_le hqn
      have hql : qi < ss.length := by omega
      obtain ⟨b, off, rfl, hb, hcs⟩ := hc (by omega)
      obtain ⟨c0, c1, c2, c3, _⟩ := hcs qi hql wr hx
      have hBr := hbx.cell
      obtain ⟨fn, tmps, assign, body, hy, hR⟩ := hY _ ⟨qi, hql⟩ wr hJs (by rw [downTo_length _ _ (by omega)]; omega)
      dsimp only [stE] at hy
      gi_wp2
      refine hR.mono ?_
      rintro e W3 (⟨rfl, hJ3, hk3⟩ | ⟨rfl, hJx3⟩)
      · gi_wp2
        go_roundw
        case rel => exact ⟨(qi : Int) - 1, rfl, by omega, by omega, by rw [downTo_at hql]; exact hJ3, Below.trans hx hk3.1, hk3.2.trans hbx⟩
        case measure => simp [intOf]
      · gi_wp2
        refine bodyPost_ret (results_none rfl _ _ _) rfl ?_
        exact ⟨⟨_, rfl⟩, .inr ⟨_, ⟨((ss.length : Int) - 1 - ((qi : Int) - 1)).toNat, by omega, (downTo_at hql).symm⟩, hJx3⟩⟩
    · obtain rfl : q = -1 := by omega
      gi_wp2
      go_end0
      rw [show ((ss.length : Int) - 1 - -1).toNat = ss.length by omega] at hJs
      first | exact ⟨⟨_, rfl⟩, .inl ⟨_, rfl, hJs⟩⟩ | exact ⟨⟨_, rfl⟩, .inl hJs⟩

/-- slices.Backward(s): the slice is boxed; the function value captures the box -/
theorem back_any (base : Option Addr) (len cap : Nat) (w : World) :
    Calls Tryz.prog 103 #[.slice base len cap] w fun e w' => e = .returned (.func (.func 127) #[] #[.pointer (some ⟨w.heap.size, 0, none⟩)]) ∧ w' = w.alloc (.cells #[.slice base len cap] 27) := by
  go_enter Tryz.func103, Tryz.ntmps103
  go_wp2
  go_ret
  exact ⟨rfl, rfl⟩
theorem back_stops (F : Fence) (n : Nat) (h8 : F.fn 127) (hro : F.round = none) (hn : 1 ≤ n) (Bs : Nat) (ss : List RS) (U : Nat → Option Addr × Nat) (base : Option Addr) (cap : Nat) (hcap1 : ss.length ≤ cap) (hcap2 : cap ≤ 9223372036854775807)
    (w0 w : World) (hE0 : Ext w0 w) (hBl : Bs < w.heap.size) (hBs : Boxed w Bs 27 (.slice base ss.length cap))
    (hc : 0 < ss.length → ∃ b off, base = some ⟨b, off, none⟩ ∧ b < w0.heap.size ∧ ∀ i (hi : i < ss.length), ∀ w', Ext w0 w' →
      w'.cell? ⟨b, off + i * 4, none⟩ = some (.slice (U i).1 ss[i].clause.length (U i).2) ∧ w'.cell? ⟨b, off + i * 4 + 1, none⟩ = some (.int .i64 ss[i].left) ∧ w'.cell? ⟨b, off + i * 4 + 2, none⟩ = some (.int .i64 ss[i].right) ∧
      w'.cell? ⟨b, off + i * 4 + 3, none⟩ = some (.int .i64 ss[i].pivot) ∧ Ints w' (.slice (U i).1 ss[i].clause.length (U i).2) ss[i].clause) :
    SeqStopsK F n Tryz.prog 127 #[.pointer (some ⟨Bs, 0, none⟩)] (stE U ss) (KpB w0.heap.size Bs) (fun ys => ys = downTo ss ss.length) (fun pre => ∃ k, k ≤ ss.length ∧ pre = downTo ss k) ss.length w := fun l J Jx W hW _ _ hY h0 =>
  back1_in F n h8 hro hn l Bs w0.heap.size ss U base cap hcap1 hcap2 J Jx hY w0 W rfl (hE0.trans hW) ((hW.block Bs hBl).trans hBs) hc h0
end Go.Proofs.YtfnjhodologfeaaGreat
/- Leaf functions of the reference: numbers, literals, lists of ints. -/
namespace Go.Proofs.YtfnjhodologfeaaGreat
open Go.RowKit

theorem ret_bool {a b : Bool} (h : a = b) : Ending.returned (.bool a) = .returned (.bool b) := by rw [h]
theorem ret_int {a b : Int} (h : a = b) : Ending.returned (.int .i64 a) = .returned (.int .i64 b) := by rw [h]

def inB (x a b : Int) : Bool := decide (a ≤ x) && decide (x ≤ b)

set_option maxHeartbeats 400000 in
theorem l1In_any (x a b : Int) (w : World) :
    Calls Tryz.prog 161 #[.int .i64 x, .int .i64 a, .int .i64 b] w fun e w' => e = .returned (.bool (inB x a b)) ∧ w = w' := by
  by_cases h : a ≤ x
  · go_enter Tryz.func161, Tryz.ntmps161
    go_wp2
    go_ret
    exact ⟨ret_bool (by simp [inB, h]), rfl⟩
  · go_enter Tryz.func161, Tryz.ntmps161
    go_wp2
    go_ret
    exact ⟨ret_bool (by simp [inB, Int.not_le.2 h]), rfl⟩

set_option maxHeartbeats 400000 in
theorem l2Vars_any (x : Int) (w : World) :
    Calls Tryz.prog 134 #[.int .i64 x] w fun e w' => e = .returned (.bool (inB x 0 12)) ∧ w = w' := by
  go_enter Tryz.func134, Tryz.ntmps134
  go_wp2_with (go_at_call 161; refine (l1In_any _ _ _ _).mono ?_; rintro e w' ⟨rfl, rfl⟩)
  go_ret
  exact ⟨rfl, rfl⟩

def absI (x : Int) : Int := if x < 0 then -x else x

set_option maxHeartbeats 400000 in
theorem l2Var_any (x : Int) (w : World) (h0 : -1000000 ≤ x) (h1 : x ≤ 1000000) :
    Calls Tryz.prog 139 #[.int .i64 x] w fun e w' => e = .returned (.int .i64 (absI x)) ∧ w = w' := by
  by_cases h : x < 0
  all_goals
    go_enter Tryz.func139, Tryz.ntmps139
    go_wp2
    go_ret
    exact ⟨ret_int (by unfold absI; split <;> omega), rfl⟩

def litB (vars l : Int) : Bool := inB l (-vars) vars && !(l == 0)

set_option maxHeartbeats 400000 in
theorem l2Lit_any (vars l : Int) (w : World) (h0 : -1000000 ≤ vars) (h1 : vars ≤ 1000000) :
    Calls Tryz.prog 141 #[.int .i64 vars, .int .i64 l] w fun e w' => e = .returned (.bool (litB vars l)) ∧ w = w' := by
  cases h : inB l (-vars) vars
  all_goals
    go_enter Tryz.func141, Tryz.ntmps141
    go_wp2_with (go_at_call 161; refine (l1In_any _ _ _ _).mono ?_; rintro e w' ⟨rfl, rfl⟩)
    go_ret
    exact ⟨ret_bool (by simp [litB, h, bne]), rfl⟩

/-- the slice holds n. -/
def hasB (xs : List Int) (n : Int) : Bool := xs.any (· == n)

theorem take_succ_at {α : Type} {xs : List α} {k : Nat} {x : α} (h : xs[k]? = some x) : xs.take (k + 1) = xs.take k ++ [x] := by
  obtain ⟨hk, hx⟩ := List.getElem?_eq_some_iff.1 h
  rw [List.take_succ_eq_append_getElem hk, hx]

theorem hasB_snoc (xs : List Int) (n x : Int) : hasB (xs ++ [x]) n = (hasB xs n || (x == n)) := by
  simp [hasB, List.any_append]

theorem hasB_of_at {xs : List Int} {n : Int} {k : Nat} {x : Int} (h : xs[k]? = some x) (he : (x == n) = true) : hasB xs n = true := by
  unfold hasB
  exact List.any_eq_true.2 ⟨x, List.mem_of_getElem? h, he⟩

set_option maxHeartbeats 400000 in
theorem l1Has_any (v : Value) (xs : List Int) (n : Int) (w : World) (hx : Ints w v xs) :
    Calls Tryz.prog 98 #[v, .int .i64 n] w fun e w' => e = .returned (.bool (hasB xs n)) ∧ w = w' := by
  obtain ⟨base, cap, rfl, hc1, hc2, hcell⟩ := hx.open
  clear hx
  go_enter Tryz.func98, Tryz.ntmps98
  go_wp2
  go_loop [5] (fun i => ∃ k : Nat, k ≤ xs.length ∧ i = .int .i64 k ∧ hasB (xs.take k) n = false) (fun i => xs.length - (intOf i).toNat)
  case atStart => exact ⟨0, Nat.zero_le _, rfl, rfl⟩
  case round =>
    obtain ⟨k, hk, rfl, hno⟩ := hrel
    have HN := Lib.hid hno
    clear hno
    by_cases hlt : k < xs.length
    · obtain ⟨b, off, rfl, hb, hcs⟩ := hcell k hlt
      obtain ⟨x, hxk, hci⟩ := hcs k hlt
      replace hci := hci w (.refl _)
      have HX := Lib.hid hxk
      clear hcell hcs hxk
      cases he : (x == n)
      all_goals go_wp2
      · have HE := hasB_snoc (xs.take k) n x
        rw [← take_succ_at HX.out, HN.out, he] at HE
        exact ⟨⟨k + 1, by omega, by go_num, HE⟩, by simp [intOf]; omega⟩
      · go_ret
        exact ⟨ret_bool (hasB_of_at HX.out he).symm, rfl⟩
    · go_wp2
      go_ret
      have HE := HN.out
      rw [List.take_of_length_le (by omega)] at HE
      exact ⟨ret_bool HE.symm, rfl⟩
end Go.Proofs.YtfnjhodologfeaaGreat
/- Readers of int lists in the reference: l2Has, l2Sub, l1Same, l2Clause; rInts. -/
namespace Go.Proofs.YtfnjhodologfeaaGreat
open Go.RowKit

set_option maxHeartbeats 400000 in
theorem l2Has_any (v : Value) (xs : List Int) (n : Int) (w : World) (hx : Ints w v xs) :
    Calls Tryz.prog 137 #[v, .int .i64 n] w fun e w' => e = .returned (.bool (hasB xs n)) ∧ w = w' := by
  go_enter Tryz.func137, Tryz.ntmps137
  go_wp2_with (go_at_call 98; refine (l1Has_any _ _ _ _ hx).mono ?_; rintro e w' ⟨rfl, rfl⟩)
  go_ret
  exact ⟨rfl, rfl⟩

/-- all of xs are in ys -/
def subB (xs ys : List Int) : Bool := xs.all (hasB ys ·)
theorem subB_snoc (xs ys : List Int) (x : Int) : subB (xs ++ [x]) ys = (subB xs ys && hasB ys x) := by simp [subB, List.all_append]
theorem subB_not_at {xs ys : List Int} {k : Nat} {x : Int} (h : xs[k]? = some x) (he : hasB ys x = false) : subB xs ys = false := by
  unfold subB
  rw [List.all_eq_false]
  exact ⟨x, List.mem_of_getElem? h, by simp [he]⟩

set_option maxHeartbeats 400000 in
theorem l2Sub_any (va vb : Value) (xs ys : List Int) (w : World) (hx : Ints w va xs) (hy : Ints w vb ys) :
    Calls Tryz.prog 142 #[va, vb] w fun e w' => e = .returned (.bool (subB xs ys)) ∧ w = w' := by
  obtain ⟨base, cap, rfl, hc1, hc2, hcell⟩ := hx.open
  clear hx
  go_enter Tryz.func142, Tryz.ntmps142
  go_wp2
  go_loop [5] (fun i => ∃ k : Nat, k ≤ xs.length ∧ i = .int .i64 k ∧ subB (xs.take k) ys = true) (fun i => xs.length - (intOf i).toNat)
  case atStart => exact ⟨0, Nat.zero_le _, rfl, rfl⟩
  case round =>
    obtain ⟨k, hk, rfl, hno⟩ := hrel
    have HN := Lib.hid hno
    clear hno
    by_cases hlt : k < xs.length
    · obtain ⟨b, off, rfl, hb, hcs⟩ := hcell k hlt
      obtain ⟨x, hxk, hci⟩ := hcs k hlt
      replace hci := hci w (.refl _)
      have HX := Lib.hid hxk
      clear hcell hcs hxk
      cases he : hasB ys x
      all_goals go_wp2_with (go_at_call 137; refine (l2Has_any _ _ _ _ hy).mono ?_; rintro e w' ⟨rfl, rfl⟩)
      · go_ret
        exact ⟨ret_bool (subB_not_at HX.out he).symm, rfl⟩
      · have HE := subB_snoc (xs.take k) ys x
        rw [← take_succ_at HX.out, HN.out, he] at HE
        exact ⟨⟨k + 1, by omega, by go_num, HE⟩, by simp [intOf]; omega⟩
    · go_wp2
      go_ret
      have HE := HN.out
      rw [List.take_of_length_le (by omega)] at HE
      exact ⟨ret_bool HE.symm, rfl⟩

/-- equal lists -/
def eqB (xs ys : List Int) : Bool := xs == ys
theorem eqB_len {xs ys : List Int} (h : xs.length ≠ ys.length) : eqB xs ys = false := by
  unfold eqB
  rw [beq_eq_false_iff_ne]
  intro e; exact h (by rw [e])
theorem eqB_take {xs ys : List Int} (hl : xs.length = ys.length) {k : Nat} {x y : Int} (hx : xs[k]? = some x) (hy : ys[k]? = some y) (hno : xs.take k = ys.take k) (he : x = y) :
    xs.take (k + 1) = ys.take (k + 1) := by
  rw [take_succ_at hx, take_succ_at hy, hno, he]
theorem eqB_not {xs ys : List Int} {k : Nat} {x y : Int} (hx : xs[k]? = some x) (hy : ys[k]? = some y) (he : x ≠ y) : eqB xs ys = false := by
  unfold eqB
  rw [beq_eq_false_iff_ne]
  intro e; subst e; rw [hx] at hy; exact he (by simpa using hy)
theorem eqB_full {xs ys : List Int} (hl : xs.length = ys.length) {k : Nat} (hno : xs.take k = ys.take k) (hk : ¬ k < xs.length) : eqB xs ys = true := by
  rw [List.take_of_length_le (by omega), List.take_of_length_le (by omega)] at hno
  simp [eqB, hno]

set_option maxHeartbeats 400000 in
theorem l1Same_any (va vb : Value) (xs ys : List Int) (w : World) (hx : Ints w va xs) (hy : Ints w vb ys) :
    Calls Tryz.prog 162 #[va, vb] w fun e w' => e = .returned (.bool (eqB xs ys)) ∧ Drew w w' := by
  obtain ⟨base, cap, rfl, hc1, hc2, hcell⟩ := hx.open
  obtain ⟨base2, cap2, rfl, hd1, hd2, hcell2⟩ := hy.open
  clear hx hy
  by_cases hl : xs.length = ys.length
  · have hl' : ((xs.length : Int) != (ys.length : Int)) = false := by simp [hl]
    have HL := Lib.hid hl
    clear hl
    go_enter Tryz.func162, Tryz.ntmps162
    go_wp2
    go_loopw [5] (fun i wr => ∃ k : Nat, k ≤ xs.length ∧ i = .int .i64 k ∧ xs.take k = ys.take k ∧ Drew w wr) (fun i _ => xs.length - (intOf i).toNat)
    case atStart => exact ⟨0, Nat.zero_le _, rfl, rfl, .refl _⟩
    case round =>
      obtain ⟨k, hk, rfl, hno, hdr⟩ := hrel
      have HN := Lib.hid hno
      clear hno
      by_cases hlt : k < xs.length
      · have hlt2 : k < ys.length := by have := HL.out; omega
        obtain ⟨b, off, rfl, hb, hcs⟩ := hcell k hlt
        obtain ⟨x, hxk, hci⟩ := hcs k hlt
        replace hci := hci wr hdr.ext
        obtain ⟨b2, off2, rfl, hb2, hcs2⟩ := hcell2 k hlt2
        obtain ⟨y, hyk, hdi⟩ := hcs2 k hlt2
        replace hdi := hdi wr hdr.ext
        have HX := Lib.hid hxk
        have HY := Lib.hid hyk
        clear hcell hcs hxk hcell2 hcs2 hyk
        cases he : (x != y)
        all_goals
          go_wp2
          go_quiet (fail)
          go_wp2
        · have HE := eqB_take HL.out HX.out HY.out HN.out (by simpa using he)
          exact ⟨⟨k + 1, by omega, by go_num, HE, hdr.more _⟩, by simp [intOf]; omega⟩
        · go_ret
          exact ⟨ret_bool (eqB_not HX.out HY.out (by simpa using he)).symm, hdr.more _⟩
      · go_wp2
        go_ret
        exact ⟨ret_bool (eqB_full HL.out HN.out hlt).symm, hdr⟩
  · have hl' : ((xs.length : Int) != (ys.length : Int)) = true := by simp; omega
    have HL := Lib.hid hl
    clear hl
    go_enter Tryz.func162, Tryz.ntmps162
    go_wp2
    go_ret
    exact ⟨ret_bool (eqB_len HL.out).symm, .refl _⟩
set_option maxHeartbeats 400000 in
theorem rInts_any (va vb : Value) (xs ys : List Int) (w : World) (hx : Ints w va xs) (hy : Ints w vb ys) :
    Calls Tryz.prog 12 #[va, vb] w fun e w' => e = .returned (.bool (eqB xs ys)) ∧ Drew w w' := by
  obtain ⟨base, cap, rfl, hc1, hc2, hcell⟩ := hx.open
  obtain ⟨base2, cap2, rfl, hd1, hd2, hcell2⟩ := hy.open
  clear hx hy
  by_cases hl : xs.length = ys.length
  · have hl' : ((xs.length : Int) != (ys.length : Int)) = false := by simp [hl]
    have HL := Lib.hid hl
    clear hl
    go_enter Tryz.func12, Tryz.ntmps12
    go_wp2
    go_loopw [5] (fun i wr => ∃ k : Nat, k ≤ xs.length ∧ i = .int .i64 k ∧ xs.take k = ys.take k ∧ Drew w wr) (fun i _ => xs.length - (intOf i).toNat)
    case atStart => exact ⟨0, Nat.zero_le _, rfl, rfl, .refl _⟩
    case round =>
      obtain ⟨k, hk, rfl, hno, hdr⟩ := hrel
      have HN := Lib.hid hno
      clear hno
      by_cases hlt : k < xs.length
      · have hlt2 : k < ys.length := by have := HL.out; omega
        obtain ⟨b, off, rfl, hb, hcs⟩ := hcell k hlt
        obtain ⟨x, hxk, hci⟩ := hcs k hlt
        replace hci := hci wr hdr.ext
        obtain ⟨b2, off2, rfl, hb2, hcs2⟩ := hcell2 k hlt2
        obtain ⟨y, hyk, hdi⟩ := hcs2 k hlt2
        replace hdi := hdi wr hdr.ext
        have HX := Lib.hid hxk
        have HY := Lib.hid hyk
        clear hcell hcs hxk hcell2 hcs2 hyk
        cases he : (x != y)
        all_goals
          go_wp2
          go_quiet (fail)
          go_wp2
        · have HE := eqB_take HL.out HX.out HY.out HN.out (by simpa using he)
          exact ⟨⟨k + 1, by omega, by go_num, HE, hdr.more _⟩, by simp [intOf]; omega⟩
        · go_ret
          exact ⟨ret_bool (eqB_not HX.out HY.out (by simpa using he)).symm, hdr.more _⟩
      · go_wp2
        go_ret
        exact ⟨ret_bool (eqB_full HL.out HN.out hlt).symm, hdr⟩
  · have hl' : ((xs.length : Int) != (ys.length : Int)) = true := by simp; omega
    have HL := Lib.hid hl
    clear hl
    go_enter Tryz.func12, Tryz.ntmps12
    go_wp2
    go_ret
    exact ⟨ret_bool (eqB_len HL.out).symm, .refl _⟩

/-- the literals of a clause, each at its place. -/
def clauseOk (vars : Int) (c : List Int) : Bool := c.all (litB vars ·) && decide (c.Pairwise fun a b => absI a < absI b)

def stepOk (vars : Int) (c : List Int) (k : Nat) : Bool :=
  match c[k]? with
  | some x => litB vars x && (match k with | 0 => true | k' + 1 => (match c[k']? with | some y => decide (absI y < absI x) | none => true))
  | none => true
/-- the first k literals are fine. -/
def okTo (vars : Int) (c : List Int) : Nat → Bool
  | 0 => true
  | k + 1 => okTo vars c k && stepOk vars c k

theorem okTo_lit {vars : Int} {c : List Int} {k : Nat} (h : okTo vars c k = true) {j : Nat} (hj : j < k) {y : Int} (hy : c[j]? = some y) : litB vars y = true := by
  induction k with
  | zero => omega
  | succ k ih =>
    simp only [okTo, Bool.and_eq_true] at h
    by_cases hjk : j < k
    · exact ih h.1 hjk
    · obtain rfl : j = k := by omega
      have h2 := h.2
      simp only [stepOk, hy, Bool.and_eq_true] at h2
      exact h2.1
theorem okTo_mono {vars : Int} {c : List Int} {k : Nat} (h : okTo vars c k = true) {j : Nat} (hj : j ≤ k) : okTo vars c j = true := by
  induction k with
  | zero => obtain rfl : j = 0 := by omega
            rfl
  | succ k ih =>
    simp only [okTo, Bool.and_eq_true] at h
    by_cases hjk : j ≤ k
    · exact ih h.1 hjk
    · obtain rfl : j = k + 1 := by omega
      simp [okTo, h]
theorem okTo_false {vars : Int} {c : List Int} {k : Nat} (hlt : k < c.length) (h : stepOk vars c k = false) : okTo vars c c.length = false := by
  rw [Bool.eq_false_iff]
  intro h2
  have := okTo_mono h2 (show k + 1 ≤ c.length by omega)
  simp [okTo, h] at this
theorem okTo_not {vars : Int} {c : List Int} {k : Nat} {x : Int} (hx : c[k]? = some x) (h : litB vars x = false) (hlt : k < c.length) : (true && okTo vars c c.length) = false := by
  rw [okTo_false hlt (by simp [stepOk, hx, h])]; rfl
theorem okTo_not2 {vars : Int} {c : List Int} {k : Nat} {x y : Int} (hx : c[k]? = some x) (hy : c[k - 1]? = some y) (h0 : 0 < k) (h : absI x ≤ absI y) (hlt : k < c.length) : (true && okTo vars c c.length) = false := by
  rw [okTo_false hlt]
  · rfl
  · cases k with
    | zero => omega
    | succ k =>
      have hy' : c[k]? = some y := hy
      simp only [stepOk, hx, hy', Bool.and_eq_false_iff, decide_eq_false_iff_not]
      right; omega
theorem okTo_succ2 {vars : Int} {c : List Int} {k : Nat} {x y : Int} (hn : okTo vars c k = true) (hx : c[k]? = some x) (hy : c[k - 1]? = some y) (h0 : 0 < k) (hl : litB vars x = true) (h : ¬ absI x ≤ absI y) : okTo vars c (k + 1) = true := by
  cases k with
  | zero => omega
  | succ k =>
    have hy' : c[k]? = some y := hy
    simp only [okTo] at hn ⊢
    rw [hn]
    simp only [stepOk, hx, hy', hl, Bool.true_and, decide_eq_true_eq]
    omega
theorem okTo_succ1 {vars : Int} {c : List Int} {k : Nat} {x : Int} (hn : okTo vars c k = true) (hx : c[k]? = some x) (h0 : k = 0) (hl : litB vars x = true) : okTo vars c (k + 1) = true := by
  subst h0
  simp [okTo, stepOk, hx, hl]
theorem litB_abs {vars x : Int} (h : litB vars x = true) (hv : vars ≤ 1000000) : -1000000 ≤ x ∧ x ≤ 1000000 := by
  simp [litB, inB] at h
  omega

set_option maxHeartbeats 400000 in
theorem l2Clause_any (vars : Int) (v : Value) (c : List Int) (w : World) (hx : Ints w v c) :
    Calls Tryz.prog 135 #[.int .i64 vars, v] w fun e w' => e = .returned (.bool (inB vars 0 12 && okTo vars c c.length)) ∧ Drew w w' := by
  obtain ⟨base, cap, rfl, hc1, hc2, hcell⟩ := hx.open
  clear hx
  cases hv : inB vars 0 12
  · go_enter Tryz.func135, Tryz.ntmps135
    go_wp2_with (go_at_call 134; refine (l2Vars_any _ _).mono ?_; rintro e w' ⟨rfl, rfl⟩)
    go_ret
    exact ⟨rfl, .refl _⟩
  · have hv1 : 0 ≤ vars ∧ vars ≤ 12 := by simpa [inB] using hv
    obtain ⟨hv0, hv2⟩ := hv1
    go_enter Tryz.func135, Tryz.ntmps135
    go_wp2_with (go_at_call 134; refine (l2Vars_any _ _).mono ?_; rintro e w' ⟨rfl, rfl⟩)
    go_loopw [5] (fun i wr => ∃ k : Nat, k ≤ c.length ∧ i = .int .i64 k ∧ okTo vars c k = true ∧ Drew w wr) (fun i _ => c.length - (intOf i).toNat)
    case atStart => exact ⟨0, Nat.zero_le _, rfl, rfl, .refl _⟩
    case round =>
      obtain ⟨k, hk, rfl, hno, hdr⟩ := hrel
      have HN := Lib.hid hno
      clear hno
      by_cases hlt : k < c.length
      · obtain ⟨b, off, rfl, hb, hcs⟩ := hcell k hlt
        obtain ⟨x, hxk, hci⟩ := hcs k hlt
        replace hci := hci wr hdr.ext
        have HX := Lib.hid hxk
        cases hx : litB vars x
        · clear hcell hcs hxk
          go_wp2
          go_quiet (first | (go_at_call 141; exact Calls.quiet_of_same ((l2Lit_any _ _ _ (by omega) (by omega)).mono (fun _ _ h => ⟨h.1, h.2.symm⟩))))
          go_wp2
          go_ret
          exact ⟨ret_bool (okTo_not HX.out hx hlt).symm, hdr.more _⟩
        · have hxb := litB_abs hx (by omega)
          obtain ⟨hx1, hx2⟩ := hxb
          by_cases hk0 : 0 < k
          · obtain ⟨y, hyk, hyi⟩ := hcs (k - 1) (by omega)
            replace hyi := hyi wr hdr.ext
            have HY := Lib.hid hyk
            have hyb := litB_abs (okTo_lit HN.out (show k - 1 < k by omega) HY.out) (by omega)
            obtain ⟨hy1, hy2⟩ := hyb
            clear hcell hcs hxk hyk
            by_cases hge : absI x ≤ absI y
            all_goals
              go_wp2
              go_quiet (first | (go_at_call 141; exact Calls.quiet_of_same ((l2Lit_any _ _ _ (by omega) (by omega)).mono (fun _ _ h => ⟨h.1, h.2.symm⟩))) | (go_at_call 139; exact Calls.quiet_of_same ((l2Var_any _ _ (by omega) (by omega)).mono (fun _ _ h => ⟨h.1, h.2.symm⟩))))
              go_wp2
            · go_ret
              exact ⟨ret_bool (okTo_not2 HX.out HY.out hk0 hge hlt).symm, hdr.more _⟩
            · exact ⟨⟨k + 1, by omega, by go_num, okTo_succ2 HN.out HX.out HY.out hk0 hx (by omega), hdr.more _⟩, by simp [intOf]; omega⟩
          · have hkz : k = 0 := by omega
            have hdk : decide ((0:Int) < (k:Int)) = false := by simp; omega
            have HZ := Lib.hid hkz
            clear hcell hcs hxk hkz
            go_wp2
            go_quiet (first | (go_at_call 141; exact Calls.quiet_of_same ((l2Lit_any _ _ _ (by omega) (by omega)).mono (fun _ _ h => ⟨h.1, h.2.symm⟩))) | (go_at_call 139; exact Calls.quiet_of_same ((l2Var_any _ _ (by omega) (by omega)).mono (fun _ _ h => ⟨h.1, h.2.symm⟩))))
            go_wp2
            exact ⟨⟨k + 1, by omega, by go_num, okTo_succ1 HN.out HX.out HZ.out hx, hdr.more _⟩, by simp [intOf]; omega⟩
      · go_wp2
        go_ret
        have HE := HN.out
        rw [show k = c.length by omega] at HE
        exact ⟨ret_bool (by rw [HE]; rfl), hdr⟩
end Go.Proofs.YtfnjhodologfeaaGreat
