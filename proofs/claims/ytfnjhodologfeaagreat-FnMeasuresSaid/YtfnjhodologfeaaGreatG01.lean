/- Parts of the proof: Base, Own. -/
import Derived.Test.YtfnjhodologfeaaGreatRows
import Derived.WalkKit
import Derived.WalkSpells
import Derived.WalkLawsBesides
import Derived.Deep.QuietTactic
import Derived.BigQuiet
import Derived.Deep.LoopGhost
import Derived.Lib.Hide
import Derived.StillTailTactics
import Derived.Maps.AppendAt
import Derived.Laws.OwnMore
import Derived.Laws.AppendOwnNone
import Derived.Deep.RegionHeld3
import Derived.Deep.RegionLaw
set_option linter.unusedSimpArgs false
set_option linter.unusedVariables false
/-
  Base notions for the walks: how a slice of ints, of lists, of steps reads in a world; what a world keeps when it grows.
-/
namespace Go.Proofs.YtfnjhodologfeaaGreat
open Go.RowKit

/-- The world has grown: all that was there is as it was. -/
def Ext (w w' : World) : Prop := Below w.heap.size w w'
theorem Ext.refl (w : World) : Ext w w := Below.refl _ _
theorem Ext.trans {a b c : World} (h : Ext a b) (k : Ext b c) : Ext a c :=
  Below.trans h (Below.mono k h.size)
theorem Ext.drewN (w : World) (n : Nat) : Ext w (w.drewN n) := ⟨rfl, rfl, rfl, Nat.le_refl _, fun _ _ => rfl⟩

theorem Ext.alloc {a w : World} (h : Ext a w) (o : Obj) : Ext a (w.alloc o) := Below.alloc h h.size o
theorem Ext.drew {a w : World} (h : Ext a w) : Ext a w.drew := Below.drew h
theorem Ext.setCell {a w : World} (h : Ext a w) {p : Addr} (hp : a.heap.size ≤ p.block) (u : Value) : Ext a (w.setCell p u) := Below.setCell h hp u

theorem Ext.dn {a w : World} (h : Ext a w) (n : Nat) : Ext a (w.drewN n) := h.trans (Ext.drewN w n)
theorem Ext.cell {w w' : World} (h : Ext w w') {p : Addr} {v : Value} (hc : w.cell? p = some v) : w'.cell? p = some v :=
  (Below.cell h (World.block_lt_of_cell? w p hc)).trans hc

/-- only draws. -/
def Drew (w w' : World) : Prop := ∃ n, w' = w.drewN n
theorem Drew.refl (w : World) : Drew w w := ⟨0, rfl⟩
theorem Drew.one (w : World) : Drew w w.drew := ⟨1, rfl⟩
theorem Drew.more {w w' : World} (h : Drew w w') (n : Nat) : Drew w (w'.drewN n) := by
  obtain ⟨m, rfl⟩ := h
  exact ⟨m + n, World.drewN_drewN ..⟩
theorem Drew.trans {a b c : World} (h : Drew a b) (k : Drew b c) : Drew a c := by
  obtain ⟨m, rfl⟩ := k
  exact h.more m
theorem Drew.ext {a b : World} (h : Drew a b) : Ext a b := by
  obtain ⟨m, rfl⟩ := h
  exact Ext.drewN _ _

/-- Cells from a place on. -/
def Arr (w : World) (b off : Nat) (e : TypeId) (cs : List Value) : Prop :=
  ∃ cur fz, w.heap[b]? = some (.cells cur e fz) ∧ ∀ j (h : j < cs.length), cur[off + j]? = some cs[j]

theorem Arr.lt {w : World} {b off : Nat} {e : TypeId} {cs : List Value} (h : Arr w b off e cs) : b < w.heap.size := by
  obtain ⟨cur, fz, hb, _⟩ := h
  exact (Array.getElem?_eq_some_iff.1 hb).1

theorem Arr.of_block {w w' : World} {b off : Nat} {e : TypeId} {cs : List Value} (h : Arr w b off e cs) (hb : w'.heap[b]? = w.heap[b]?) : Arr w' b off e cs := by
  obtain ⟨cur, fz, h1, h2⟩ := h
  exact ⟨cur, fz, hb.trans h1, h2⟩

theorem Arr.cell {w : World} {b off : Nat} {e : TypeId} {cs : List Value} (h : Arr w b off e cs) (j : Nat) (hj : j < cs.length) : w.cell? ⟨b, off + j, none⟩ = some cs[j] := by
  obtain ⟨cur, fz, h1, h2⟩ := h
  simp [World.cell?, h1, h2 j hj]

/-- 'v' is a slice of n elements of type e (sz cells each) that reads as the cells cs. -/
def Sl (w : World) (v : Value) (e sz n : Nat) (cs : List Value) : Prop :=
  cs.length = n * sz ∧ ∃ base cap, v = .slice base n cap ∧ n ≤ cap ∧ cap ≤ maxLen ∧ (n = 0 ∨ ∃ b off, base = some ⟨b, off, none⟩ ∧ Arr w b off e cs)

theorem Sl.below {B : Nat} {w w' : World} {v : Value} {e sz n : Nat} {cs : List Value} (h : Sl w v e sz n cs) (hx : Below B w w') (hB : w.heap.size ≤ B) : Sl w' v e sz n cs := by
  obtain ⟨h1, base, cap, h2, h3, h4, h5⟩ := h
  refine ⟨h1, base, cap, h2, h3, h4, ?_⟩
  rcases h5 with h5 | ⟨b, off, h5, h6⟩
  · exact .inl h5
  · exact .inr ⟨b, off, h5, h6.of_block (hx.block b (Nat.lt_of_lt_of_le h6.lt hB))⟩

theorem Sl.ext {w w' : World} {v : Value} {e sz n : Nat} {cs : List Value} (h : Sl w v e sz n cs) (hx : Ext w w') : Sl w' v e sz n cs := h.below hx (Nat.le_refl _)

abbrev encI (x : Int) : Value := .int .i64 x

/-- 'v' is a []int that reads as xs. -/
def Ints (w : World) (v : Value) (xs : List Int) : Prop := Sl w v 3 1 xs.length (xs.map encI)

theorem Ints.ext {w w' : World} {v : Value} {xs : List Int} (h : Ints w v xs) (hx : Ext w w') : Ints w' v xs := Sl.ext h hx

theorem Ext.block {w w' : World} (h : Ext w w') {b : Nat} (hb : b < w.heap.size) : w'.heap[b]? = w.heap[b]? := Below.block h b hb

/-- opened: the slice's parts; what it holds in every world that has grown from here. -/
theorem Ints.open {w : World} {v : Value} {xs : List Int} (h : Ints w v xs) :
    ∃ base cap, v = .slice base xs.length cap ∧ xs.length ≤ cap ∧ cap ≤ 9223372036854775807 ∧
      (∀ j, j < xs.length → ∃ b off, base = some ⟨b, off, none⟩ ∧ b < w.heap.size ∧ ∀ i, i < xs.length → ∃ x, xs[i]? = some x ∧ ∀ w', Ext w w' → w'.cell? ⟨b, off + i, none⟩ = some (.int .i64 x)) := by
  obtain ⟨h1, base, cap, h2, h3, h4, h5⟩ := h
  refine ⟨base, cap, h2, h3, by simpa [maxLen] using h4, ?_⟩
  intro j hj
  rcases h5 with h5 | ⟨b, off, h5, h6⟩
  · omega
  · refine ⟨b, off, h5, h6.lt, fun i hi => ⟨xs[i], by simp [hi], fun w' hx => ?_⟩⟩
    have := (h6.of_block (hx.block h6.lt)).cell i (by simpa using hi)
    rw [this]
    simp [hi]

/-- a beginning, an end of a slice -/
theorem Sl.hi {w : World} {base : Option Addr} {cap e sz n : Nat} {cs : List Value} (h : Sl w (.slice base n cap) e sz n cs) {k : Nat} (hk : k ≤ n) : Sl w (.slice base k cap) e sz k (cs.take (k * sz)) := by
  obtain ⟨h1, base', cap', h2, h3, h4, h5⟩ := h
  injection h2 with e1 _ e3
  subst e1; subst e3
  have hks : k * sz ≤ n * sz := Nat.mul_le_mul_right _ hk
  refine ⟨by rw [List.length_take, h1]; omega, _, _, rfl, by omega, h4, ?_⟩
  rcases h5 with h5 | ⟨b, off, h5, cur, fz, h6, h7⟩
  · left; omega
  · right
    refine ⟨b, off, h5, cur, fz, h6, fun j hj => ?_⟩
    rw [List.length_take] at hj
    rw [h7 j (by omega)]
    simp
theorem Sl.lo {w : World} {base : Option Addr} {cap e sz n : Nat} {cs : List Value} (h : Sl w (.slice base n cap) e sz n cs) {k : Nat} (hk : k ≤ n) :
    Sl w (.slice (if cap = k then base else base.map (·.add (k * sz))) (n - k) (cap - k)) e sz (n - k) (cs.drop (k * sz)) := by
  obtain ⟨h1, base', cap', h2, h3, h4, h5⟩ := h
  injection h2 with e1 _ e3
  subst e1; subst e3
  refine ⟨by rw [List.length_drop, h1, Nat.sub_mul], _, _, rfl, by omega, by omega, ?_⟩
  by_cases hz : n - k = 0
  · exact .inl hz
  · right
    rcases h5 with h5 | ⟨b, off, h5, cur, fz, h6, h7⟩
    · omega
    · subst h5
      refine ⟨b, off + k * sz, ?_, cur, fz, h6, fun j hj => ?_⟩
      · rw [if_neg (by omega)]
        simp only [Option.map_some, Option.some.injEq]
        unfold Addr.add
        split
        · rename_i hz; simp [hz]
        · rfl
      · rw [List.length_drop] at hj
        have := h7 (k * sz + j) (by omega)
        rw [List.getElem_drop, Nat.add_assoc]
        exact this
theorem Ints.hi {w : World} {base : Option Addr} {cap n : Nat} {xs : List Int} (h : Ints w (.slice base n cap) xs) (hn : n = xs.length) {k : Nat} (hk : k ≤ xs.length) : Ints w (.slice base k cap) (xs.take k) := by
  subst hn
  have := Sl.hi h hk
  unfold Ints
  rw [List.length_take, Nat.min_eq_left hk, List.map_take]
  simpa using this
theorem Ints.lo {w : World} {base : Option Addr} {cap n : Nat} {xs : List Int} (h : Ints w (.slice base n cap) xs) (hn : n = xs.length) {k : Nat} (hk : k ≤ xs.length) :
    Ints w (.slice (if cap = k then base else base.map (·.add k)) (n - k) (cap - k)) (xs.drop k) := by
  subst hn
  have := Sl.lo h hk
  unfold Ints
  rw [List.length_drop, List.map_drop]
  simpa using this
theorem Ints.lo' {w : World} {a : Addr} {cap n : Nat} {xs : List Int} (h : Ints w (.slice (some a) n cap) xs) (hn : n = xs.length) {k : Nat} (hk : k ≤ xs.length) :
    Ints w (.slice (if cap = k then some a else some (a.add k)) (n - k) (cap - k)) (xs.drop k) := h.lo hn hk

theorem Ints.lo2 {w : World} {b off cap n : Nat} {xs : List Int} (h : Ints w (.slice (some ⟨b, off, none⟩) n cap) xs) (hn : n = xs.length) {k : Nat} (hk : k < xs.length) :
    Ints w (.slice (some ⟨b, off + k, none⟩) (n - k) (cap - k)) (xs.drop k) := by
  have h2 := h.lo hn (Nat.le_of_lt hk)
  obtain ⟨_, _, c', e, h3, _⟩ := h
  injection e with _ e2 e3
  subst e3
  rw [if_neg (by omega), Option.map_some] at h2
  have e4 : (⟨b, off, none⟩ : Addr).add k = ⟨b, off + k, none⟩ := by
    unfold Addr.add
    split
    · rename_i hz; simp [hz]
    · rfl
  rw [e4] at h2
  exact h2
theorem ints_nil (w : World) (A : Option Addr) (c : Nat) (hc : c ≤ 9223372036854775807) : Ints w (.slice A 0 c) [] :=
  ⟨rfl, A, c, rfl, Nat.zero_le _, by simpa [maxLen] using hc, .inl rfl⟩

/-- 'v' is a [][]int that reads as xss. -/
def Lists (w : World) (v : Value) (xss : List (List Int)) : Prop :=
  ∃ vs : List Value, vs.length = xss.length ∧ Sl w v 33 1 xss.length vs ∧ ∀ (i : Nat) (u : Value) (xs : List Int), vs[i]? = some u → xss[i]? = some xs → Ints w u xs

theorem Lists.ext {w w' : World} {v : Value} {xss : List (List Int)} (h : Lists w v xss) (hx : Ext w w') : Lists w' v xss := by
  obtain ⟨vs, h1, h2, h3⟩ := h
  exact ⟨vs, h1, h2.ext hx, fun i u xs a b => (h3 i u xs a b).ext hx⟩

theorem Lists.open {w : World} {v : Value} {xss : List (List Int)} (h : Lists w v xss) :
    ∃ base cap, v = .slice base xss.length cap ∧ xss.length ≤ cap ∧ cap ≤ 9223372036854775807 ∧
      (∀ j, j < xss.length → ∃ b off, base = some ⟨b, off, none⟩ ∧ b < w.heap.size ∧ ∀ i, i < xss.length → ∃ xs u, xss[i]? = some xs ∧ ∀ w', Ext w w' → w'.cell? ⟨b, off + i, none⟩ = some u ∧ Ints w' u xs) := by
  obtain ⟨vs, h0, ⟨h1, base, cap, h2, h3, h4, h5⟩, hin⟩ := h
  refine ⟨base, cap, h2, h3, by simpa [maxLen] using h4, ?_⟩
  intro j hj
  rcases h5 with h5 | ⟨b, off, h5, h6⟩
  · omega
  · refine ⟨b, off, h5, h6.lt, fun i hi => ⟨xss[i], vs[i]'(by omega), by simp [hi], fun w' hx => ⟨?_, ?_⟩⟩⟩
    · exact (h6.of_block (hx.block h6.lt)).cell i (by omega)
    · exact (hin i _ _ (List.getElem?_eq_getElem (by omega)) (List.getElem?_eq_getElem hi)).ext hx

/-- a Cnf's data. -/
structure CNF where
  vars : Int
  clauses : List (List Int)

/-- the value of a Cnf. -/
def CnfV (w : World) (v : Value) (f : CNF) : Prop := ∃ cv, v = .agg #[.int .i64 f.vars, cv] ∧ Lists w cv f.clauses
theorem CnfV.ext {w w' : World} {v : Value} {f : CNF} (h : CnfV w v f) (hx : Ext w w') : CnfV w' v f := by
  obtain ⟨cv, h1, h2⟩ := h
  exact ⟨cv, h1, h2.ext hx⟩

/-- a step's data. -/
structure RS where
  clause : List Int
  left : Int
  right : Int
  pivot : Int

/-- the value of a step. -/
def StepV (w : World) (v : Value) (s : RS) : Prop := ∃ cv, v = .agg #[cv, .int .i64 s.left, .int .i64 s.right, .int .i64 s.pivot] ∧ Ints w cv s.clause
theorem StepV.ext {w w' : World} {v : Value} {s : RS} (h : StepV w v s) (hx : Ext w w') : StepV w' v s := by
  obtain ⟨cv, h1, h2⟩ := h
  exact ⟨cv, h1, h2.ext hx⟩

def stepCells (cv : Value) (s : RS) : List Value := [cv, .int .i64 s.left, .int .i64 s.right, .int .i64 s.pivot]

/-- the cells of steps whose clauses are at these values. -/
def flatSteps : List Value → List RS → List Value
  | cv :: cvs, s :: ss => stepCells cv s ++ flatSteps cvs ss
  | _, _ => []
theorem flatSteps_length : ∀ (cvs : List Value) (ss : List RS), cvs.length = ss.length → (flatSteps cvs ss).length = ss.length * 4
  | [], [], _ => rfl
  | cv :: cvs, s :: ss, h => by
    simp only [flatSteps, List.length_append, stepCells, List.length_cons, List.length_nil, flatSteps_length cvs ss (by simpa using h)]
    omega
  | [], _ :: _, h => by simp at h
  | _ :: _, [], h => by simp at h
theorem flatSteps_at : ∀ (cvs : List Value) (ss : List RS), cvs.length = ss.length → ∀ (i j : Nat) (cv : Value) (s : RS), cvs[i]? = some cv → ss[i]? = some s → j < 4 → (flatSteps cvs ss)[i * 4 + j]? = (stepCells cv s)[j]?
  | [], [], _, i, j, cv, s, h, _, _ => by simp at h
  | cv' :: cvs, s' :: ss, hl, 0, j, cv, s, h1, h2, hj => by
    simp at h1 h2; subst h1; subst h2
    simp only [flatSteps]
    rw [List.getElem?_append_left (by simp [stepCells]; omega)]
    simp
  | cv' :: cvs, s' :: ss, hl, i + 1, j, cv, s, h1, h2, hj => by
    simp only [flatSteps]
    rw [List.getElem?_append_right (by simp [stepCells]; omega)]
    have := flatSteps_at cvs ss (by simpa using hl) i j cv s (by simpa using h1) (by simpa using h2) hj
    rw [← this]
    congr 1
    simp [stepCells]; omega
  | [], _ :: _, hl, _, _, _, _, _, _, _ => by simp at hl
  | _ :: _, [], hl, _, _, _, _, _, _, _ => by simp at hl

/-- 'v' is a []ResStep that reads as ss. -/
def Steps (w : World) (v : Value) (ss : List RS) : Prop :=
  ∃ cvs : List Value, cvs.length = ss.length ∧ Sl w v 40 4 ss.length (flatSteps cvs ss) ∧ ∀ (i : Nat) (u : Value) (s : RS), cvs[i]? = some u → ss[i]? = some s → Ints w u s.clause

theorem Steps.ext {w w' : World} {v : Value} {ss : List RS} (h : Steps w v ss) (hx : Ext w w') : Steps w' v ss := by
  obtain ⟨vs, h1, h2, h3⟩ := h
  exact ⟨vs, h1, h2.ext hx, fun i u xs a b => (h3 i u xs a b).ext hx⟩

theorem Steps.open {w : World} {v : Value} {ss : List RS} (h : Steps w v ss) :
    ∃ base cap, v = .slice base ss.length cap ∧ ss.length ≤ cap ∧ cap ≤ 9223372036854775807 ∧
      (∀ j, j < ss.length → ∃ b off, base = some ⟨b, off, none⟩ ∧ b < w.heap.size ∧ ∀ i, i < ss.length → ∃ s u, ss[i]? = some s ∧ ∀ w', Ext w w' →
        w'.cell? ⟨b, off + i * 4, none⟩ = some u ∧ w'.cell? ⟨b, off + i * 4 + 1, none⟩ = some (.int .i64 s.left) ∧ w'.cell? ⟨b, off + i * 4 + 2, none⟩ = some (.int .i64 s.right) ∧
        w'.cell? ⟨b, off + i * 4 + 3, none⟩ = some (.int .i64 s.pivot) ∧ Ints w' u s.clause) := by
  obtain ⟨vs, h0, ⟨h1, base, cap, h2, h3, h4, h5⟩, hin⟩ := h
  refine ⟨base, cap, h2, h3, by simpa [maxLen] using h4, ?_⟩
  intro j hj
  rcases h5 with h5 | ⟨b, off, h5, h6⟩
  · omega
  · refine ⟨b, off, h5, h6.lt, fun i hi => ⟨ss[i], vs[i]'(by omega), by simp [hi], fun w' hx => ?_⟩⟩
    have hv : vs[i]? = some (vs[i]'(by omega)) := List.getElem?_eq_getElem (by omega)
    have hs : ss[i]? = some (ss[i]'hi) := List.getElem?_eq_getElem hi
    have key : ∀ k, k < 4 → w'.cell? ⟨b, off + (i * 4 + k), none⟩ = (stepCells (vs[i]'(by omega)) ss[i])[k]? := by
      intro k hk
      have hlt : i * 4 + k < (flatSteps vs ss).length := by rw [flatSteps_length _ _ h0]; omega
      rw [(h6.of_block (hx.block h6.lt)).cell _ hlt, ← flatSteps_at vs ss h0 i k _ _ hv hs hk]
      exact (List.getElem?_eq_getElem hlt).symm
    refine ⟨?_, ?_, ?_, ?_, (hin i _ _ hv hs).ext hx⟩
    · simpa [stepCells] using key 0 (by omega)
    · simpa [stepCells, Nat.add_assoc] using key 1 (by omega)
    · simpa [stepCells, Nat.add_assoc] using key 2 (by omega)
    · simpa [stepCells, Nat.add_assoc] using key 3 (by omega)

end Go.Proofs.YtfnjhodologfeaaGreat
/- Slices that a call itself makes: own rows of ints, of lists, of steps; append. -/
namespace Go.Proofs.YtfnjhodologfeaaGreat
open Go.RowKit

theorem Tryz.infoI : (Tryz.prog.info? 3).map (fun i => (i.zero, i.size, i.bytes)) = some (some (.int .i64 0), 1, 8) := by kernel_rfl
theorem Tryz.infoL : (Tryz.prog.info? 33).map (fun i => (i.zero, i.size, i.bytes)) = some (some (.slice none 0 0), 1, 24) := by kernel_rfl
theorem Tryz.infoB : (Tryz.prog.info? 4).map (fun i => (i.zero, i.size, i.bytes)) = some (some (.bool false), 1, 1) := by kernel_rfl
theorem Tryz.infoS : (Tryz.prog.info? 40).map (fun i => (i.zero, i.size, i.bytes)) = some (some (.agg #[.slice none 0 0, .int .i64 0, .int .i64 0, .int .i64 0]), 4, 48) := by kernel_rfl

theorem addr_add_mk (b off j : Nat) : (⟨b, off, none⟩ : Addr).add j = ⟨b, off + j, none⟩ := by
  unfold Addr.add; split <;> simp_all

/-- append onto an own row, from whatever slice. -/
theorem run_append_sl {P : Program} (w : World) (base : Nat) (t ty e : TypeId) (i : TypeInfo) (z : Value) (size bytes : Nat) (ht : P.underlying t = some (.slice e)) (hi : P.info? e = some i) (hz : i.zero = some z)
    (hsize : i.size = size) (hby : i.bytes = bytes) (hzs : z.cells.size = size) (hsz : 0 < size)
    (v : Value) (n : Nat) (xs : List Value) (hown : w.ownsRow base e size v n xs)
    (x : Value) (m : Nat) (e' : TypeId) (news : List Value) (hs : Sl w x e' size m news) (h1 : ∀ u ∈ news, u.oneCell' = true)
    (h63 : n + m ≤ maxLen) (hbytes : (n + m) * bytes ≤ 140737488355328) (hbase : base ≤ w.heap.size) :
    ∃ v' w', (Builtin.append_ #[t, t] ty #[v, x]).run P w = .ok v' w' ∧ w'.ownsRow base e size v' (n + m) (xs ++ news) ∧ w.grownBy w' v.ownBlock ∧
      (v'.ownBlock = v.ownBlock ∨ v'.ownBlock = some w.heap.size) := by
  obtain ⟨hl, A, c, rfl, hmc, hcm, hcs⟩ := hs
  rcases A with _ | ad
  · have hm : m = 0 := by
      rcases hcs with h | ⟨b, off, h, _⟩
      · exact h
      · cases h
    subst hm
    have hn : news = [] := List.eq_nil_of_length_eq_zero (by simpa using hl)
    subst hn
    refine ⟨v, w, ?_, by simpa using hown, World.grownBy.refl w _, .inl rfl⟩
    rcases hown.2 with ⟨rfl, rfl⟩ | ⟨g, cap, cur, rfl, _, _, hnc, _⟩
    · simp [Builtin.append_, run_underlying ht, sizeOf, typeInfo, hi, Builtin.lenOf, Builtin.firstCells]
    · simp [Builtin.append_, run_underlying ht, sizeOf, typeInfo, hi, Builtin.lenOf, Builtin.firstCells, hnc, storeCells]
  · have hcells : ∀ j u, news[j]? = some u → w.cell? (ad.add j) = some u := by
      intro j u hu
      rcases hcs with h | ⟨b, off, h, hA⟩
      · subst h
        have hn : news = [] := List.eq_nil_of_length_eq_zero (by simpa using hl)
        subst hn
        simp at hu
      · injection h with h
        subst h
        obtain ⟨hj, rfl⟩ := List.getElem?_eq_some_iff.1 hu
        rw [addr_add_mk]
        exact hA.cell j hj
    obtain ⟨v', w', hrun, h2, h3, _, h5⟩ := run_append_own_at (P := P) w base t ty e i z size bytes ht hi hz hsize hby hzs hsz v n xs hown ad m c news hl hcells h1 h63 hbytes hbase
    exact ⟨v', w', hrun, h2, h3, h5⟩

/-- an own row of ints -/
def OwnI (w : World) (B : Nat) (v : Value) (xs : List Int) : Prop := w.ownsRow B 3 1 v xs.length (xs.map encI)

theorem own_sl {w : World} {B : Nat} {e : TypeId} {sz : Nat} {v : Value} {n : Nat} {xs : List Value} (h : w.ownsRow B e sz v n xs) : Sl w v e sz n xs := by
  refine ⟨h.1, ?_⟩
  rcases h.2 with ⟨rfl, rfl⟩ | ⟨g, cap, cur, rfl, hb, hg, hnc, hcm, hcs, htake⟩
  · exact ⟨none, 0, rfl, Nat.le_refl _, by simp [maxLen], .inl rfl⟩
  · refine ⟨_, _, rfl, hnc, hcm, .inr ⟨g, 0, rfl, cur, _, hg, ?_⟩⟩
    intro j hj
    have hlen := h.1
    have : (cur.toList.take (n * sz))[j]? = some xs[j] := by rw [htake]; exact List.getElem?_eq_getElem hj
    rw [List.getElem?_take] at this
    split at this
    · simpa using this
    · cases this

theorem OwnI.ints {w : World} {B : Nat} {v : Value} {xs : List Int} (h : OwnI w B v xs) : Ints w v xs := own_sl h
theorem OwnI.nil (w : World) (B : Nat) : OwnI w B (.slice none 0 0) [] := World.ownsRow_nil _ _ _ _
theorem OwnI.empty (w : World) (B : Nat) (hB : B ≤ w.heap.size) : OwnI (w.alloc (.cells #[] 3)) B (.slice (some ⟨w.heap.size, 0, none⟩) 0 0) [] :=
  ⟨rfl, .inr ⟨w.heap.size, 0, #[], rfl, hB, heap_alloc_new w _, Nat.le_refl _, by simp [maxLen], rfl, rfl⟩⟩
theorem OwnI.alloc {w : World} {B : Nat} {v : Value} {xs : List Int} (h : OwnI w B v xs) (o : Obj) : OwnI (w.alloc o) B v xs := World.ownsRow.alloc h o
theorem ints_one (w : World) (x : Int) : Ints (w.alloc (.cells #[.int .i64 x] 3)) (.slice (some ⟨w.heap.size, 0, none⟩) 1 1) [x] :=
  ⟨rfl, _, _, rfl, Nat.le_refl _, by simp [maxLen], .inr ⟨_, _, rfl, _, _, heap_alloc_new w _, by intro j h; simp at h; subst h; rfl⟩⟩
theorem ints_two (w : World) (x y : Int) : Ints (w.alloc (.cells #[.int .i64 x, .int .i64 y] 3)) (.slice (some ⟨w.heap.size, 0, none⟩) 2 2) [x, y] :=
  ⟨rfl, _, _, rfl, Nat.le_refl _, by simp [maxLen], .inr ⟨_, _, rfl, _, _, heap_alloc_new w _, by
    intro j h
    match j, h with
    | 0, _ => rfl
    | 1, _ => rfl⟩⟩
theorem OwnI.grown {w w' : World} {B : Nat} {v : Value} {xs : List Int} {row : Option Nat} (h : OwnI w B v xs) (hg : w.grownBy w' row) (hne : v.ownBlock = none ∨ v.ownBlock ≠ row) : OwnI w' B v xs := World.ownsRow.kept h hg hne
theorem own_ext {w w' : World} {B : Nat} {e : TypeId} {sz : Nat} {v : Value} {n : Nat} {xs : List Value} (h : w.ownsRow B e sz v n xs) (hx : Ext w w') : w'.ownsRow B e sz v n xs := by
  refine ⟨h.1, ?_⟩
  rcases h.2 with hn | ⟨g, cap, cur, rfl, hb, hg, r⟩
  · exact .inl hn
  · exact .inr ⟨g, cap, cur, rfl, hb, (hx.block (Array.getElem?_eq_some_iff.1 hg).1).trans hg, r⟩
theorem OwnI.ext {w w' : World} {B : Nat} {v : Value} {xs : List Int} (h : OwnI w B v xs) (hx : Ext w w') : OwnI w' B v xs := own_ext h hx
theorem own_mono {w : World} {B B' : Nat} {e : TypeId} {sz : Nat} {v : Value} {n : Nat} {xs : List Value} (h : w.ownsRow B e sz v n xs) (hB : B' ≤ B) : w.ownsRow B' e sz v n xs := by
  refine ⟨h.1, ?_⟩
  rcases h.2 with hn | ⟨g, cap, cur, rfl, hb, r⟩
  · exact .inl hn
  · exact .inr ⟨g, cap, cur, rfl, Nat.le_trans hB hb, r⟩
theorem OwnI.mono {w : World} {B B' : Nat} {v : Value} {xs : List Int} (h : OwnI w B v xs) (hB : B' ≤ B) : OwnI w B' v xs := own_mono h hB
theorem oneCell_encI (xs : List Int) : ∀ u ∈ xs.map encI, u.oneCell' = true := by
  intro u hu
  obtain ⟨x, _, rfl⟩ := List.mem_map.1 hu
  rfl

/-- out = append(out, ys...) at ints -/
theorem wpList_appI {w : World} {ops : Array Oper} {rest : List Oper} {o : Oper} {a : Act} {Q : Exit → Act → World → Prop} (hgd : o.guard = none) (s x : Operand)
    (ho : o.op = .call { callee := .builtin .append, args := #[s, x], argTypes := #[33, 33] })
    (B : Nat) (v vx : Value) (xs ys : List Int) (hsv : a.eval s = v) (hxv : a.eval x = vx) (hown : OwnI w B v xs) (hs : Ints w vx ys) (hlen : xs.length + ys.length ≤ 1099511627776) (hB : B ≤ w.heap.size)
    (h : ∀ v' w', OwnI w' B v' (xs ++ ys) → w.grownBy w' v.ownBlock → (v'.ownBlock = v.ownBlock ∨ v'.ownBlock = some w.heap.size) → wpList Tryz.prog ops Q rest (a.put o.dst v') w') : wpList Tryz.prog ops Q (o :: rest) a w := by
  refine wpList_plain hgd fun K hK => ?_
  obtain ⟨i, hi, hz0, hz1, hz2⟩ := info_parts Tryz.infoI
  obtain ⟨v', w', hrun, h2, h3, h4⟩ := run_append_sl (P := Tryz.prog) w B 33 o.type 3 i (.int .i64 0) 1 8 Tryz.underlying33 hi hz0 hz1 hz2 rfl (by decide) v xs.length (xs.map encI) hown vx ys.length 3 (ys.map encI) hs (oneCell_encI ys)
    (by simp only [maxLen]; omega) (by omega) hB
  unfold Oper.wp execOp
  simp only [ho, resolve, invoke, builtin, Sem.run_bind, Sem.run_pure, Result.andThen_ok, List.map_toArray, List.map_cons, List.map_nil, hsv, hxv, hrun]
  refine hK _ _ (h v' w' ?_ h3 h4)
  unfold OwnI
  rw [List.length_append, List.map_append]
  exact h2

/-- the same in a region that draws its order -/
theorem step_appI {w : World} {ops : Array Oper} {o : Oper} {a : Act} {K : Act → World → Prop} {Q : Exit → Act → World → Prop} {E : Prop} (hgd : o.guard = none) (s x : Operand)
    (ho : o.op = .call { callee := .builtin .append, args := #[s, x], argTypes := #[33, 33] })
    (B : Nat) (v vx : Value) (xs ys : List Int) (hsv : a.eval s = v) (hxv : a.eval x = vx) (hown : OwnI w B v xs) (hs : Ints w vx ys) (hlen : xs.length + ys.length ≤ 1099511627776) (hB : B ≤ w.heap.size)
    (h : ∀ v' w', OwnI w' B v' (xs ++ ys) → w.grownBy w' v.ownBlock → (v'.ownBlock = v.ownBlock ∨ v'.ownBlock = some w.heap.size) → K (a.put o.dst v') w') :
    if Region.wanted o (yielded ops a.tmps) = true then Oper.wp Tryz.prog o a w K Q else E := by
  have hw : Region.wanted o (yielded ops a.tmps) = true := by simp [Region.wanted, hgd]
  rw [if_pos hw]
  obtain ⟨i, hi, hz0, hz1, hz2⟩ := info_parts Tryz.infoI
  obtain ⟨v', w', hrun, h2, h3, h4⟩ := run_append_sl (P := Tryz.prog) w B 33 o.type 3 i (.int .i64 0) 1 8 Tryz.underlying33 hi hz0 hz1 hz2 rfl (by decide) v xs.length (xs.map encI) hown vx ys.length 3 (ys.map encI) hs (oneCell_encI ys)
    (by simp only [maxLen]; omega) (by omega) hB
  unfold Oper.wp execOp
  simp only [ho, resolve, invoke, builtin, Sem.run_bind, Sem.run_pure, Result.andThen_ok, List.map_toArray, List.map_cons, List.map_nil, hsv, hxv, hrun]
  refine h v' w' ?_ h3 h4
  unfold OwnI
  rw [List.length_append, List.map_append]
  exact h2

theorem below_grown {B : Nat} {a w w' : World} {v : Value} {e : TypeId} {sz n : Nat} {xs : List Value} (h : Below B a w) (hown : w.ownsRow B e sz v n xs) (hB : B ≤ w.heap.size) (hg : w.grownBy w' v.ownBlock) : Below B a w' :=
  h.grown hg hB fun k hk => (hown.lt k hk).1

/-- out = make([]int, n) -/
theorem wpList_makeI {w : World} {ops : Array Oper} {rest : List Oper} {o : Oper} {a : Act} {Q : Exit → Act → World → Prop} (hgd : o.guard = none) (l c : Operand)
    (ho : o.op = .makeSlice 33 l c) (n : Nat) (hl : a.eval l = .int .i64 (n : Int)) (hc : a.eval c = .int .i64 (n : Int)) (hn : n ≤ 1099511627776)
    (h : ∀ w', OwnI w' w.heap.size (.slice (some ⟨w.heap.size, 0, none⟩) n n) (List.replicate n 0) → Ext w w' → wpList Tryz.prog ops Q rest (a.put o.dst (.slice (some ⟨w.heap.size, 0, none⟩) n n)) w') : wpList Tryz.prog ops Q (o :: rest) a w := by
  obtain ⟨i, hi, hz0, hz1, hz2⟩ := info_parts Tryz.infoI
  refine wpList_make_full (P := Tryz.prog) w hgd l c 33 ho w.heap.size 3 i (.int .i64 0) 1 Tryz.underlying33 hi hz0 hz1 .i64 .i64 n n n hl hc rfl rfl (by rw [hz2]; omega) (by simp only [maxLen]; omega) (Nat.le_refl _) fun w' ho' hg' => h w' ?_ ?_
  · unfold OwnI
    rw [List.length_replicate, List.map_replicate]
    have : (madeCells (Value.int .i64 0).cells (n * 1)).toList = List.replicate n (encI 0) := by
      rw [Nat.mul_one]; exact toList_madeCells_one _ _
    rw [← this]
    exact ho'
  · exact (Below.refl _ _).grown hg' (Nat.le_refl _) (fun k hk => by cases hk)

/-- out = make([]bool, n) -/
def encB (b : Bool) : Value := .bool b
def OwnB (w : World) (B : Nat) (v : Value) (xs : List Bool) : Prop := w.ownsRow B 4 1 v xs.length (xs.map encB)
theorem wpList_makeB {w : World} {ops : Array Oper} {rest : List Oper} {o : Oper} {a : Act} {Q : Exit → Act → World → Prop} (hgd : o.guard = none) (l c : Operand)
    (ho : o.op = .makeSlice 76 l c) (n : Nat) (hl : a.eval l = .int .i64 (n : Int)) (hc : a.eval c = .int .i64 (n : Int)) (hn : n ≤ 1099511627776)
    (h : ∀ w', OwnB w' w.heap.size (.slice (some ⟨w.heap.size, 0, none⟩) n n) (List.replicate n false) → Ext w w' → wpList Tryz.prog ops Q rest (a.put o.dst (.slice (some ⟨w.heap.size, 0, none⟩) n n)) w') : wpList Tryz.prog ops Q (o :: rest) a w := by
  obtain ⟨i, hi, hz0, hz1, hz2⟩ := info_parts Tryz.infoB
  refine wpList_make_full (P := Tryz.prog) w hgd l c 76 ho w.heap.size 4 i (.bool false) 1 Tryz.underlying76 hi hz0 hz1 .i64 .i64 n n n hl hc rfl rfl (by rw [hz2]; omega) (by simp only [maxLen]; omega) (Nat.le_refl _) fun w' ho' hg' => h w' ?_ ?_
  · unfold OwnB
    rw [List.length_replicate, List.map_replicate]
    have : (madeCells (Value.bool false).cells (n * 1)).toList = List.replicate n (encB false) := by
      rw [Nat.mul_one]; exact toList_madeCells_one _ _
    rw [← this]
    exact ho'
  · exact (Below.refl _ _).grown hg' (Nat.le_refl _) (fun k hk => by cases hk)

/-- what an own row at a known block holds -/
theorem OwnI.at {w : World} {B g n cap : Nat} {xs : List Int} (h : OwnI w B (.slice (some ⟨g, 0, none⟩) n cap) xs) (hn : n = xs.length) {j : Nat} {x : Int} (hx : xs[j]? = some x) :
    w.cell? ⟨g, j, none⟩ = some (.int .i64 x) ∧ w.frozen? ⟨g, j, none⟩ = false := by
  subst hn
  obtain ⟨hj, rfl⟩ := List.getElem?_eq_some_iff.1 hx
  exact ⟨by rw [World.ownsRow.cellAt h j (by omega)]; simp [hj], World.ownsRow.frozenAt h j⟩
theorem OwnI.set {w : World} {B g n cap : Nat} {xs : List Int} (h : OwnI w B (.slice (some ⟨g, 0, none⟩) n cap) xs) (hn : n = xs.length) (j : Nat) (x : Int) :
    OwnI (w.setCell ⟨g, j, none⟩ (.int .i64 x)) B (.slice (some ⟨g, 0, none⟩) n cap) (xs.set j x) := by
  subst hn
  have := (World.ownsRow.stored h j (.int .i64 x)).1
  unfold OwnI
  rw [List.length_set, List.map_set]
  exact this
theorem own_base {w : World} {B : Nat} {e : TypeId} {sz g n cap m : Nat} {xs : List Value} (h : w.ownsRow B e sz (.slice (some ⟨g, 0, none⟩) n cap) m xs) : B ≤ g ∧ g < w.heap.size :=
  h.lt g rfl
theorem OwnI.base {w : World} {B g n cap : Nat} {xs : List Int} (h : OwnI w B (.slice (some ⟨g, 0, none⟩) n cap) xs) : B ≤ g ∧ g < w.heap.size := own_base h
theorem OwnB.at {w : World} {B g n cap : Nat} {xs : List Bool} (h : OwnB w B (.slice (some ⟨g, 0, none⟩) n cap) xs) (hn : n = xs.length) {j : Nat} {x : Bool} (hx : xs[j]? = some x) :
    w.cell? ⟨g, j, none⟩ = some (.bool x) ∧ w.frozen? ⟨g, j, none⟩ = false := by
  subst hn
  obtain ⟨hj, rfl⟩ := List.getElem?_eq_some_iff.1 hx
  exact ⟨by rw [World.ownsRow.cellAt h j (by omega)]; simp [hj, encB], World.ownsRow.frozenAt h j⟩
theorem OwnB.set {w : World} {B g n cap : Nat} {xs : List Bool} (h : OwnB w B (.slice (some ⟨g, 0, none⟩) n cap) xs) (hn : n = xs.length) (j : Nat) (x : Bool) :
    OwnB (w.setCell ⟨g, j, none⟩ (.bool x)) B (.slice (some ⟨g, 0, none⟩) n cap) (xs.set j x) := by
  subst hn
  have := (World.ownsRow.stored h j (.bool x)).1
  unfold OwnB
  rw [List.length_set, List.map_set]
  exact this
theorem OwnB.base {w : World} {B g n cap : Nat} {xs : List Bool} (h : OwnB w B (.slice (some ⟨g, 0, none⟩) n cap) xs) : B ≤ g ∧ g < w.heap.size := own_base h
theorem OwnB.ext {w w' : World} {B : Nat} {v : Value} {xs : List Bool} (h : OwnB w B v xs) (hx : Ext w w') : OwnB w' B v xs := own_ext h hx
end Go.Proofs.YtfnjhodologfeaaGreat
