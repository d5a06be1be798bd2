/- Parts of the proof: K11, D23. -/
import Derived.Test.YtfnjhodologfeaaGreatG36
import Derived.ArgAppend
set_option linter.unusedSimpArgs false
set_option linter.unusedVariables false
/- steps in an own block at any offset; stores into own steps -/
namespace Go.Proofs.YtfnjhodologfeaaGreat
open Go.RowKit

theorem flatSteps_set : ∀ (cvs : List Value) (ss : List RS), cvs.length = ss.length → ∀ (j i : Nat) (u' u x : Value) (s' s : RS), cvs[j]? = some u → ss[j]? = some s → i < 4 → stepCells u' s' = (stepCells u s).set i x →
    flatSteps (cvs.set j u') (ss.set j s') = (flatSteps cvs ss).set (j * 4 + i) x
  | [], [], _, j, i, _, _, _, _, _, h, _, _, _ => by simp at h
  | cv :: cvs, t :: ss, hl, 0, i, u', u, x, s', s, h1, h2, hi, he => by
    simp at h1 h2; subst h1; subst h2
    simp only [List.set_cons_zero, flatSteps]
    rw [he, List.set_append_left _ _ (by simp [stepCells]; omega)]
    simp
  | cv :: cvs, t :: ss, hl, j + 1, i, u', u, x, s', s, h1, h2, hi, he => by
    simp only [List.set_cons_succ, flatSteps]
    rw [List.set_append_right _ _ (by simp [stepCells]; omega), flatSteps_set cvs ss (by simpa using hl) j i u' u x s' s (by simpa using h1) (by simpa using h2) hi he]
    congr 2
    simp [stepCells]; omega
  | [], _ :: _, hl, _, _, _, _, _, _, _, _, _, _, _ => by simp at hl
  | _ :: _, [], hl, _, _, _, _, _, _, _, _, _, _, _ => by simp at hl

/-- a cell of an own step is stored -/
theorem OwnS.setF {w : World} {B g n cap : Nat} {ss : List RS} (h : OwnS w B (.slice (some ⟨g, 0, none⟩) n cap) ss) (hn : n = ss.length) {j i : Nat} {s s' : RS} (hs : ss[j]? = some s) (hi : i < 4) (x : Value)
    (hc : ∀ u, Ints w u s.clause → ∃ u', stepCells u' s' = (stepCells u s).set i x ∧ Ints w u' s'.clause) : OwnS (w.setCell ⟨g, j * 4 + i, none⟩ x) B (.slice (some ⟨g, 0, none⟩) n cap) (ss.set j s') := by
  subst hn
  obtain ⟨cvs, h1, h2, h3⟩ := h
  have hj : j < ss.length := (List.getElem?_eq_some_iff.1 hs).1
  have hcj : cvs[j]? = some (cvs[j]'(by omega)) := List.getElem?_eq_getElem (by omega)
  obtain ⟨u', e1, e2⟩ := hc _ (h3 j _ _ hcj hs)
  have hT : ∀ b, some g = some b → ∃ cur fz T, w.heap[b]? = some (.cells cur T fz) ∧ T ≠ 3 := fun b hb => by
    injection hb with hb
    subst hb
    obtain ⟨cur, fz, h5⟩ := ownsRow_type h2 g rfl
    exact ⟨cur, fz, _, h5, by decide⟩
  have hst := World.ownsRow.stored h2 (j * 4 + i) x
  refine ⟨cvs.set j u', by simp [h1], ?_, ?_⟩
  · rw [List.length_set, flatSteps_set cvs ss h1 j i u' _ x s' s hcj hs hi e1]
    exact hst.1
  · intro k u t hu ht
    by_cases hk : k = j
    · subst hk
      rw [List.getElem?_set_self (by omega)] at hu ht
      injection hu with hu
      injection ht with ht
      subst hu; subst ht
      exact e2.turned hst.2 hT
    · rw [List.getElem?_set_ne (fun e => hk e.symm)] at hu ht
      exact (h3 k u t hu ht).turned hst.2 hT
theorem OwnS.setLeft {w : World} {B g n cap : Nat} {ss : List RS} (h : OwnS w B (.slice (some ⟨g, 0, none⟩) n cap) ss) (hn : n = ss.length) {j : Nat} {s : RS} (hs : ss[j]? = some s) (x : Int) :
    OwnS (w.setCell ⟨g, j * 4 + 1, none⟩ (.int .i64 x)) B (.slice (some ⟨g, 0, none⟩) n cap) (ss.set j { s with left := x }) := h.setF hn hs (by omega) _ (fun u hu => ⟨u, rfl, hu⟩)
theorem OwnS.setRight {w : World} {B g n cap : Nat} {ss : List RS} (h : OwnS w B (.slice (some ⟨g, 0, none⟩) n cap) ss) (hn : n = ss.length) {j : Nat} {s : RS} (hs : ss[j]? = some s) (x : Int) :
    OwnS (w.setCell ⟨g, j * 4 + 2, none⟩ (.int .i64 x)) B (.slice (some ⟨g, 0, none⟩) n cap) (ss.set j { s with right := x }) := h.setF hn hs (by omega) _ (fun u hu => ⟨u, rfl, hu⟩)
theorem OwnS.setPivot {w : World} {B g n cap : Nat} {ss : List RS} (h : OwnS w B (.slice (some ⟨g, 0, none⟩) n cap) ss) (hn : n = ss.length) {j : Nat} {s : RS} (hs : ss[j]? = some s) (x : Int) :
    OwnS (w.setCell ⟨g, j * 4 + 3, none⟩ (.int .i64 x)) B (.slice (some ⟨g, 0, none⟩) n cap) (ss.set j { s with pivot := x }) := h.setF hn hs (by omega) _ (fun u hu => ⟨u, rfl, hu⟩)
theorem OwnS.setClause {w : World} {B g n cap : Nat} {ss : List RS} (h : OwnS w B (.slice (some ⟨g, 0, none⟩) n cap) ss) (hn : n = ss.length) {j : Nat} {s : RS} (hs : ss[j]? = some s) {u' : Value} {c : List Int} (hu' : Ints w u' c) :
    OwnS (w.setCell ⟨g, j * 4, none⟩ u') B (.slice (some ⟨g, 0, none⟩) n cap) (ss.set j { s with clause := c }) := by
  have := h.setF (i := 0) hn hs (by omega) u' (s' := { s with clause := c }) (fun u hu => ⟨u', rfl, hu'⟩)
  simpa using this

/-- steps in an own block, from a place on -/
def OwnSO (w : World) (B : Nat) (v : Value) (ss : List RS) : Prop :=
  ∃ (b k cap : Nat) (cur : Array Value) (cvs : List Value), v = .slice (some ⟨b, k * 4, none⟩) ss.length cap ∧ B ≤ b ∧ w.heap[b]? = some (.cells cur 40 (0, 0)) ∧ ss.length ≤ cap ∧ cap ≤ maxLen ∧ cur.size = (k + cap) * 4 ∧ cvs.length = ss.length ∧
    (∀ j (h : j < (flatSteps cvs ss).length), cur[k * 4 + j]? = some (flatSteps cvs ss)[j]) ∧ ∀ (i : Nat) (u : Value) (s : RS), cvs[i]? = some u → ss[i]? = some s → Ints w u s.clause
theorem OwnSO.steps {w : World} {B : Nat} {v : Value} {ss : List RS} (h : OwnSO w B v ss) : Steps w v ss := by
  obtain ⟨b, k, cap, cur, cvs, h1, h2, h3, h4, h5, h6, h7, h8, h9⟩ := h
  refine ⟨cvs, h7, ⟨flatSteps_length _ _ h7, _, _, h1, h4, h5, .inr ⟨b, k * 4, rfl, cur, _, h3, h8⟩⟩, h9⟩
theorem OwnSO.ext {w w' : World} {B : Nat} {v : Value} {ss : List RS} (h : OwnSO w B v ss) (hx : Ext w w') : OwnSO w' B v ss := by
  obtain ⟨b, k, cap, cur, cvs, h1, h2, h3, h4, h5, h6, h7, h8, h9⟩ := h
  exact ⟨b, k, cap, cur, cvs, h1, h2, (hx.block (Array.getElem?_eq_some_iff.1 h3).1).trans h3, h4, h5, h6, h7, h8, fun i u s a c => (h9 i u s a c).ext hx⟩
theorem OwnSO.keep {w w' : World} {B g m : Nat} {v : Value} {ss : List RS} (h : OwnSO w B v ss) (hc : Cur w g m) (hk : Keep g w w') (hg : g < B) : OwnSO w' B v ss := by
  obtain ⟨b, k, cap, cur, cvs, h1, h2, h3, h4, h5, h6, h7, h8, h9⟩ := h
  exact ⟨b, k, cap, cur, cvs, h1, h2, (World.grownBy.block hk b (Array.getElem?_eq_some_iff.1 h3).1 (fun e => by injection e with e; omega)).trans h3, h4, h5, h6, h7, h8, fun i u s a c => hc.ints hk (h9 i u s a c)⟩
theorem OwnSO.form {w : World} {B : Nat} {v : Value} {ss : List RS} (h : OwnSO w B v ss) : ∃ b o cap, v = .slice (some ⟨b, o, none⟩) ss.length cap ∧ B ≤ b ∧ b < w.heap.size ∧ ∃ cur, w.heap[b]? = some (.cells cur 40 (0, 0)) := by
  obtain ⟨b, k, cap, cur, cvs, h1, h2, h3, _⟩ := h
  exact ⟨b, k * 4, cap, h1, h2, (Array.getElem?_eq_some_iff.1 h3).1, cur, h3⟩
theorem OwnS.toO {w : World} {B : Nat} {v : Value} {ss : List RS} (h : OwnS w B v ss) (hpos : 0 < ss.length) : OwnSO w B v ss := by
  obtain ⟨cvs, h1, h2, h3⟩ := h
  rcases h2.2 with ⟨_, h0⟩ | ⟨g, cap, cur, rfl, h4, h5, h6, h7, h8, h9⟩
  · omega
  · refine ⟨g, 0, cap, cur, cvs, rfl, h4, h5, h6, h7, by omega, h1, fun j hj => ?_, h3⟩
    have hl := flatSteps_length _ _ h1
    have : (cur.toList.take (ss.length * 4))[j]? = some (flatSteps cvs ss)[j] := by rw [h9]; exact List.getElem?_eq_getElem hj
    rw [List.getElem?_take] at this
    split at this
    · simpa using this
    · cases this
theorem OwnS.tail {w : World} {B : Nat} {v : Value} {s : RS} {ss : List RS} (h : OwnS w B v (s :: ss)) (hpos : 0 < ss.length) : ∃ g cap, v = .slice (some ⟨g, 0, none⟩) (ss.length + 1) cap ∧ ss.length + 1 ≤ cap ∧ OwnSO w B (.slice (some ⟨g, 4, none⟩) ss.length (cap - 1)) ss := by
  obtain ⟨b, k, cap, cur, cvs, h1, h2, h3, h4, h5, h6, h7, h8, h9⟩ := h.toO (by simp)
  obtain ⟨cvs0, _, hr, _⟩ := h
  rcases hr.2 with ⟨_, h0⟩ | ⟨g, cap', cur', e1, _⟩
  · simp at h0
  · rw [h1] at e1
    injection e1 with e2 e3 e4
    injection e2 with e2
    injection e2 with e5 e6 _
    obtain rfl : k = 0 := by omega
    subst e5; subst e4
    match cvs, h7 with
    | u :: us, h7 =>
      simp only [List.length_cons] at h4 h7
      refine ⟨b, cap, by rw [h1]; simp, h4, b, 1, cap - 1, cur, us, rfl, h2, h3, by omega, by omega, by omega, by omega, fun j hj => ?_, fun i u' s' a c => h9 (i + 1) u' s' (by simpa using a) (by simpa using c)⟩
      have := h8 (4 + j) (by simp only [flatSteps, List.length_append, stepCells, List.length_cons, List.length_nil]; omega)
      rw [show 1 * 4 + j = 0 * 4 + (4 + j) by omega, this]
      simp only [flatSteps]
      rw [List.getElem_append_right (by simp [stepCells])]
      simp [stepCells]
    | [], h7 => simp at h7

theorem grownBy_any {w w' : World} (h : w.grownBy w' none) (row : Option Nat) : w.grownBy w' row := ⟨h.os, h.tape, h.output, h.size, fun k hk _ => h.block k hk (by simp)⟩
theorem grownBy_setCells (b : Nat) : ∀ (vs : List Value) (o : Nat) (w : World), w.grownBy (w.setCells b o vs) (some b)
  | [], _, w => World.grownBy.refl w _
  | v :: r, o, w => (grown_set w b o v).trans (grownBy_setCells b r (o + 1) _)
theorem heap_setCells (b T : Nat) : ∀ (vs : List Value) (o : Nat) (w : World) (cur : Array Value), w.heap[b]? = some (.cells cur T (0, 0)) →
    ∃ cur', (w.setCells b o vs).heap[b]? = some (.cells cur' T (0, 0)) ∧ cur'.size = cur.size ∧ (∀ j, j < o ∨ o + vs.length ≤ j → cur'[j]? = cur[j]?) ∧ ∀ j (h : j < vs.length), o + j < cur.size → cur'[o + j]? = some vs[j]
  | [], o, w, cur, h => ⟨cur, h, rfl, fun _ _ => rfl, fun j h => by simp at h⟩
  | v :: r, o, w, cur, h => by
    have h1 := heap_setCell_same w b o cur T v h
    obtain ⟨cur', h2, h3, h4, h5⟩ := heap_setCells b T r (o + 1) _ _ h1
    refine ⟨cur', h2, by rw [h3]; simp, fun j hj => ?_, fun j hj hs => ?_⟩
    · rw [h4 j (by simp at hj; omega)]
      rw [Array.getElem?_setIfInBounds_ne (by simp at hj; omega)]
    · match j, hj with
      | 0, _ =>
        rw [h4 (o + 0) (by omega)]
        simp only [Nat.add_zero, List.getElem_cons_zero]
        rw [Array.getElem?_setIfInBounds_self_of_lt (by omega)]
      | j + 1, hj =>
        have := h5 j (by simpa using hj) (by simp; omega)
        rw [show o + (j + 1) = o + 1 + j by omega, this]
        simp

theorem run_appSO (w : World) (B : Nat) (ty : TypeId) (v vx : Value) (ss : List RS) (s : RS) (h : OwnSO w B v ss) (hs : Steps w vx [s]) (hlen : ss.length + 1 ≤ 1000000) :
    ∃ v' w', (Builtin.append_ #[27, 27] ty #[v, vx]).run Tryz.prog w = .ok v' w' ∧ OwnSO w' B v' (ss ++ [s]) ∧ w.grownBy w' v.ownBlock := by
  obtain ⟨i, hi, hz0, hz1, hz2⟩ := info_parts Tryz.infoS
  obtain ⟨b, k, cap, cur, cvs, rfl, h2, h3, h4, h5, h6, h7, h8, h9⟩ := h
  obtain ⟨cs, hl, hsl, hci⟩ := hs
  match cs, hl with
  | [u0], _ =>
    have hI0 := hci 0 u0 s rfl rfl
    have hone := hI0.one
    obtain ⟨hsl1, bs2, c2, rfl, _, _, hsl2⟩ := hsl
    rcases hsl2 with h0 | ⟨b2, o2, rfl, hA⟩
    · simp at h0
    have hnews : ∀ j u, (stepCells u0 s)[j]? = some u → w.cell? ((⟨b2, o2, none⟩ : Addr).add j) = some u := by
      intro j u hu
      rw [addr_add_mk]
      obtain ⟨hj, rfl⟩ := List.getElem?_eq_some_iff.1 hu
      have := hA.cell j (by simpa [flatSteps] using hj)
      simpa [flatSteps] using this
    have h1c : ∀ x ∈ stepCells u0 s, x.oneCell' = true := by
      intro x hx
      simp only [stepCells, List.mem_cons, List.not_mem_nil, or_false] at hx
      rcases hx with rfl | rfl | rfl | rfl
      · exact hone
      · rfl
      · rfl
      · rfl
    have hfl := flatSteps_length _ _ h7
    by_cases hroom : ss.length + 1 ≤ cap
    · have hrun := run_append_room_cells (P := Tryz.prog) w 27 ty 40 i Tryz.underlying27 hi b (k * 4) ss.length cap ⟨b2, o2, none⟩ 1 c2 (stepCells u0 s) (by rw [hz1]; rfl) hnews h1c hroom
        (fun j hj => by
          simp only [stepCells, List.length_cons, List.length_nil] at hj
          rw [hz1]
          have : k * 4 + ss.length * 4 + j < cur.size := by rw [h6]; omega
          simp [World.cell?, h3, this])
        (fun j hj => frozen_of_row w b _ _ _ h3)
      rw [hz1] at hrun
      obtain ⟨cur', g1, g2, g3, g4⟩ := heap_setCells b 40 (stepCells u0 s) (k * 4 + ss.length * 4) w cur h3
      have hg := grownBy_setCells b (stepCells u0 s) (k * 4 + ss.length * 4) w
      have hT : ∀ b', some b = some b' → ∃ cur fz T, w.heap[b']? = some (.cells cur T fz) ∧ T ≠ 3 := fun b' hb => by
        injection hb with hb
        subst hb
        exact ⟨_, _, _, h3, by decide⟩
      refine ⟨_, _, hrun, ⟨b, k, cap, cur', cvs ++ [u0], by simp, h2, g1, by simp; omega, h5, by rw [g2, h6], by simp [h7], ?_, ?_⟩, hg⟩
      · intro j hj
        have e := flatSteps_append cvs ss [u0] [s] h7
        have e2 : flatSteps [u0] [s] = stepCells u0 s := by simp [flatSteps]
        rw [e2] at e
        have hj' : j < (flatSteps cvs ss).length + 4 := by rw [e] at hj; simpa [stepCells] using hj
        have key : cur'[k * 4 + j]? = (flatSteps cvs ss ++ stepCells u0 s)[j]? := by
          by_cases hjl : j < (flatSteps cvs ss).length
          · rw [g3 _ (by omega), h8 j hjl, List.getElem?_append_left hjl]
            exact (List.getElem?_eq_getElem hjl).symm
          · rw [List.getElem?_append_right (by omega)]
            have ht : j - (flatSteps cvs ss).length < (stepCells u0 s).length := by simp [stepCells]; omega
            have := g4 (j - (flatSteps cvs ss).length) ht (by rw [h6]; omega)
            rw [show k * 4 + ss.length * 4 + (j - (flatSteps cvs ss).length) = k * 4 + j by omega] at this
            rw [this]
            exact (List.getElem?_eq_getElem ht).symm
        rw [key, ← e]
        exact List.getElem?_eq_getElem hj
      · intro q u t hu ht
        by_cases hlt : q < ss.length
        · rw [List.getElem?_append_left (by omega)] at hu
          rw [List.getElem?_append_left hlt] at ht
          exact (h9 q u t hu ht).turned hg hT
        · rw [List.getElem?_append_right (by omega)] at hu
          rw [List.getElem?_append_right (by omega), ← h7] at ht
          exact (hci _ u t hu ht).turned hg hT
    · obtain ⟨v', w', hrun, r1, r2⟩ := run_append_arg_grows (P := Tryz.prog) w 27 ty 40 i (.agg #[.slice none 0 0, .int .i64 0, .int .i64 0, .int .i64 0]) 4 48 Tryz.underlying27 hi hz0 hz1 hz2 rfl (by decide)
        ⟨b, k * 4, none⟩ ss.length cap (flatSteps cvs ss) hfl (fun j u hu => by
          obtain ⟨hj, rfl⟩ := List.getElem?_eq_some_iff.1 hu
          rw [addr_add_mk]
          simp [World.cell?, h3, h8 j hj]) ⟨b2, o2, none⟩ 1 c2 (stepCells u0 s) rfl hnews (by omega) (by simp only [maxLen]; omega) (by omega)
      have hbl := (Array.getElem?_eq_some_iff.1 h3).1
      have hx : Ext w w' := (Below.refl _ _).grown r2 (Nat.le_refl _) (fun k hk => by cases hk)
      have hO : OwnS w' w.heap.size v' (ss ++ [s]) := by
        refine ⟨cvs ++ [u0], by simp [h7], ?_, ?_⟩
        · rw [flatSteps_append cvs ss [u0] [s] h7]
          simpa [flatSteps] using r1
        · intro q u t hu ht
          by_cases hlt : q < ss.length
          · rw [List.getElem?_append_left (by omega)] at hu
            rw [List.getElem?_append_left hlt] at ht
            exact (h9 q u t hu ht).ext hx
          · rw [List.getElem?_append_right (by omega)] at hu
            rw [List.getElem?_append_right (by omega), ← h7] at ht
            exact (hci _ u t hu ht).ext hx
      exact ⟨v', w', hrun, (hO.mono (by omega)).toO (by simp), grownBy_any r2 _⟩
theorem wpList_appSO {w : World} {ops : Array Oper} {rest : List Oper} {o : Oper} {a : Act} {Q : Exit → Act → World → Prop} (hgd : o.guard = none) (s x : Operand)
    (ho : o.op = .call { callee := .builtin .append, args := #[s, x], argTypes := #[27, 27] })
    (B : Nat) (v vx : Value) (ss : List RS) (t : RS) (hsv : a.eval s = v) (hxv : a.eval x = vx) (hown : OwnSO w B v ss) (hs : Steps w vx [t]) (hlen : ss.length + 1 ≤ 1000000)
    (h : ∀ v' w', OwnSO w' B v' (ss ++ [t]) → w.grownBy w' v.ownBlock → wpList Tryz.prog ops Q rest (a.put o.dst v') w') : wpList Tryz.prog ops Q (o :: rest) a w := by
  refine wpList_plain hgd fun K hK => ?_
  obtain ⟨v', w', hrun, h2, h3⟩ := run_appSO w B o.type v vx ss t hown hs hlen
  unfold Oper.wp execOp
  simp only [ho, resolve, invoke, builtin, Sem.run_bind, Sem.run_pure, Result.andThen_ok, List.map_toArray, List.map_cons, List.map_nil, hsv, hxv, hrun]
  exact hK _ _ (h v' w' h2 h3)
end Go.Proofs.YtfnjhodologfeaaGreat
/- refutation; the frame of proof -/
namespace Go.Proofs.YtfnjhodologfeaaGreat
open Go.RowKit

set_option maxRecDepth 100000 in
set_option maxHeartbeats 2000000 in
theorem refutation_any (p v : Value) (f : CNF) (cl0 : List (List Int)) (w : World) (hx : CnfV w v f) (hp : SatP f cl0) :
    Calls Tryz.prog 88 #[p, v] w (SatE f w) := by
  obtain ⟨cv, rfl, hls⟩ := hx
  obtain ⟨cb, cc, rfl, hcc1, hcc2, _⟩ := hls.open
  have HP := Lib.hid hp
  clear hp
  obtain ⟨wA, hwA⟩ : ∃ wA, w.alloc (.cells #[.int .i64 f.vars, .slice cb f.clauses.length cc] 26) = wA := ⟨_, rfl⟩
  have hEA : Ext w wA := by rw [← hwA]; exact (by repeat (first | exact Ext.refl _ | assumption | apply Ext.dn | apply Ext.drew | apply Ext.alloc))
  have hB : CBlk wA w.heap.size f.vars (.slice cb f.clauses.length cc) := by rw [← hwA]; exact CBlk.made _ _ _
  have hlA := hls.ext hEA
  obtain ⟨c0, c1⟩ := hB.cells
  have hsA := hEA.size
  cases hg : goodCnf f
  · go_enter Tryz.func88, Tryz.ntmps88
    go_wp2_with (go_at_call 111; refine (l2Good_any _ f _ ⟨_, rfl, hlA.ext (by repeat (first | exact Ext.refl _ | assumption | apply Ext.dn | apply Ext.drew | apply Ext.alloc))⟩).mono ?_; rw [hg]; rintro e w1 ⟨rfl, hE1⟩; obtain ⟨_, _⟩ := (hB.ext (Ext.trans (by repeat (first | exact Ext.refl _ | assumption | apply Ext.dn | apply Ext.drew | apply Ext.alloc)) hE1)).cells)
    go_ret
    have hO := OwnS.empty w1 w1.heap.size (Nat.le_refl _)
    have hE1' : Ext w w1 := hEA.trans (Ext.trans (by repeat (first | exact Ext.refl _ | assumption | apply Ext.dn | apply Ext.drew | apply Ext.alloc)) hE1)
    exact ⟨_, rfl, [], hO.mono hE1'.size, by simp, by simp [nx], by simp, hE1'.trans (by repeat (first | exact Ext.refl _ | assumption | apply Ext.dn | apply Ext.drew | apply Ext.alloc))⟩
  · have HG := Lib.hid hg
    go_enter Tryz.func88, Tryz.ntmps88
    go_wp2_with (first
      | (go_at_call 111; refine (l2Good_any _ f _ ⟨_, rfl, hlA.ext (by repeat (first | exact Ext.refl _ | assumption | apply Ext.dn | apply Ext.drew | apply Ext.alloc))⟩).mono ?_; rw [hg]; rintro e w1 ⟨rfl, hE1⟩; have hE1' : Ext wA w1 := Ext.trans (by repeat (first | exact Ext.refl _ | assumption | apply Ext.dn | apply Ext.drew | apply Ext.alloc)) hE1; obtain ⟨_, _⟩ := (hB.ext hE1').cells)
      | (go_at_call 119; refine (l7Saturate_any _ f cl0 _ ⟨_, rfl, hlA.ext (hE1'.trans (by repeat (first | exact Ext.refl _ | assumption | apply Ext.dn | apply Ext.drew | apply Ext.alloc)))⟩ HG.out HP.out).mono ?_; rintro e w2 ⟨r2, rfl, ss, ho2, hl2, hn2, hk2, hE2⟩))
    go_ret
    have hE3 := hEA.trans hE1'
    have hE4 : Ext w1 w2 := Ext.trans (by repeat (first | exact Ext.refl _ | assumption | apply Ext.dn | apply Ext.drew | apply Ext.alloc)) hE2
    exact ⟨r2, rfl, ss, ho2.mono (by have := hE3.size; simp; omega), hl2, hn2, hk2, hE3.trans hE4⟩

/-- the frame of proof: since w0 only the cursor and new blocks; the result's block b2, the Cnf's block b4 -/
structure QF (g m : Nat) (w0 wr : World) (b2 b4 : Nat) (f : CNF) (cv : Value) : Prop where
  dr : Dr g m w0 wr
  r2 : CBlk wr b2 0 (.slice none 0 0)
  r4 : CBlk wr b4 f.vars cv
  ls : Lists wr cv f.clauses
  g2 : w0.heap.size ≤ b2
  g4 : w0.heap.size ≤ b4
  ne : b2 ≠ b4
theorem QF.ext {g m : Nat} {w0 wr wr' : World} {b2 b4 : Nat} {f : CNF} {cv : Value} (h : QF g m w0 wr b2 b4 f cv) (hx : Ext wr wr') : QF g m w0 wr' b2 b4 f cv :=
  ⟨h.dr.ext hx, h.r2.ext hx, h.r4.ext hx, h.ls.ext hx, h.g2, h.g4, h.ne⟩
theorem QF.mono {g m m' : Nat} {w0 wr : World} {b2 b4 : Nat} {f : CNF} {cv : Value} (h : QF g m w0 wr b2 b4 f cv) (hm : m ≤ m') : QF g m' w0 wr b2 b4 f cv := ⟨h.dr.mono hm, h.r2, h.r4, h.ls, h.g2, h.g4, h.ne⟩
theorem QF.draw {g m m' : Nat} {w0 wr wr' : World} {b2 b4 : Nat} {f : CNF} {cv : Value} (h : QF g m w0 wr b2 b4 f cv) (hk : Keep g wr wr') (hc : Cur wr' g m') : QF g m' w0 wr' b2 b4 f cv :=
  ⟨h.dr.draw hk hc, h.r2.grown hk (fun e => by injection e with e; have := h.g2; have := h.dr.lt; omega), h.r4.grown hk (fun e => by injection e with e; have := h.g4; have := h.dr.lt; omega), h.dr.cur.lists hk h.ls, h.g2, h.g4, h.ne⟩
theorem QF.drawD {g m m' : Nat} {w0 wr wr' : World} {b2 b4 : Nat} {f : CNF} {cv : Value} (h : QF g m w0 wr b2 b4 f cv) (hk : Dr g m' wr wr') : QF g m' w0 wr' b2 b4 f cv := h.draw hk.keep hk.cur
/-- a row of steps turns -/
theorem QF.turn {g m : Nat} {w0 wr wr' : World} {b2 b4 : Nat} {f : CNF} {cv : Value} (h : QF g m w0 wr b2 b4 f cv) {b : Nat} {cur : Array Value} (hb : wr.heap[b]? = some (.cells cur 40 (0, 0))) (hB : w0.heap.size ≤ b) (hg : wr.grownBy wr' (some b)) : QF g m w0 wr' b2 b4 f cv := by
  have hT : ∀ {e : Nat}, 40 ≠ e → ∀ k, some b = some k → ∃ cur fz T, wr.heap[k]? = some (.cells cur T fz) ∧ T ≠ e := fun he k hk => by
    injection hk with hk
    subst hk
    exact ⟨_, _, _, hb, he⟩
  have hne2 : (some b : Option Nat) ≠ some b2 := fun e => by
    injection e with e
    subst e
    have := h.r2
    unfold CBlk at this
    rw [hb] at this
    injection this with this
    injection this with _ e _
    exact absurd e (by decide)
  have hne4 : (some b : Option Nat) ≠ some b4 := fun e => by
    injection e with e
    subst e
    have := h.r4
    unfold CBlk at this
    rw [hb] at this
    injection this with this
    injection this with _ e _
    exact absurd e (by decide)
  have hlt := h.dr.lt
  refine ⟨⟨h.dr.lt, ⟨hg.os.trans h.dr.keep.os, hg.tape.trans h.dr.keep.tape, hg.output.trans h.dr.keep.output, Nat.le_trans h.dr.keep.size hg.size, ?_⟩, ?_⟩, h.r2.grown hg hne2, h.r4.grown hg hne4, h.ls.turned hg (fun k hk => by injection hk with hk; subst hk; exact ⟨_, _, _, hb, by decide, by decide⟩), h.g2, h.g4, h.ne⟩
  · intro k hk hkg
    have hs := h.dr.keep.size
    rw [World.grownBy.block hg k (Nat.lt_of_lt_of_le hk hs) (fun e => by injection e with e; omega)]
    exact World.grownBy.block h.dr.keep k hk hkg
  · obtain ⟨u, bs, a, sd, h1, h2, h3, h4⟩ := h.dr.cur
    refine ⟨u, bs, a, sd, ?_, h2.turned hg (fun T0 hg0 => hT (goodT_ne hg0 (by decide))), h3, h4⟩
    rw [World.grownBy.block hg g h.dr.cur.lt (fun e => by injection e with e; omega)]
    exact h1
/-- another Cnf is stored -/
theorem QF.store {g m : Nat} {w0 wr : World} {b2 b4 : Nat} {f f' : CNF} {cv cv' : Value} (h : QF g m w0 wr b2 b4 f cv) (hl : Lists wr cv' f'.clauses) :
    QF g m w0 ((wr.setCell ⟨b4, 0, none⟩ (.int .i64 f'.vars)).setCell ⟨b4, 1, none⟩ cv') b2 b4 f' cv' ∧ wr.grownBy ((wr.setCell ⟨b4, 0, none⟩ (.int .i64 f'.vars)).setCell ⟨b4, 1, none⟩ cv') (some b4) := by
  have hg1 := grown_set wr b4 0 (.int .i64 f'.vars)
  have hg2 := grown_set (wr.setCell ⟨b4, 0, none⟩ (.int .i64 f'.vars)) b4 1 cv'
  have hr1 := h.r4.set0 f'.vars
  have hne : some b4 ≠ some b2 := fun e => h.ne (by injection e with e; exact e.symm)
  have hT : ∀ k, some b4 = some k → ∃ cur fz T, wr.heap[k]? = some (.cells cur T fz) ∧ T ≠ 3 ∧ T ≠ 33 := fun k hk => by
    injection hk with hk
    subst hk
    exact ⟨_, _, _, h.r4, by decide, by decide⟩
  have hT1 : ∀ k, some b4 = some k → ∃ cur fz T, (wr.setCell ⟨b4, 0, none⟩ (.int .i64 f'.vars)).heap[k]? = some (.cells cur T fz) ∧ T ≠ 3 ∧ T ≠ 33 := fun k hk => by
    injection hk with hk
    subst hk
    exact ⟨_, _, _, hr1, by decide, by decide⟩
  exact ⟨⟨(h.dr.setBlk h.r4 h.g4 0 _).setBlk hr1 h.g4 1 _, (h.r2.grown hg1 hne).grown hg2 hne, hr1.set1 cv', (hl.turned hg1 hT).turned hg2 hT1, h.g2, h.g4, h.ne⟩, hg1.trans hg2⟩
end Go.Proofs.YtfnjhodologfeaaGreat
