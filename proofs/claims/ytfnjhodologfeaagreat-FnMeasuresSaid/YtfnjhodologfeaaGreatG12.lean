/- Parts of the proof: K2, C7. -/
import Derived.Test.YtfnjhodologfeaaGreatG11
set_option linter.unusedSimpArgs false
set_option linter.unusedVariables false
/- own rows of steps -/
namespace Go.Proofs.YtfnjhodologfeaaGreat
open Go.RowKit

/-- an own row of steps -/
def OwnS (w : World) (B : Nat) (v : Value) (ss : List RS) : Prop :=
  ∃ cvs : List Value, cvs.length = ss.length ∧ w.ownsRow B 40 4 v ss.length (flatSteps cvs ss) ∧ ∀ (i : Nat) (u : Value) (s : RS), cvs[i]? = some u → ss[i]? = some s → Ints w u s.clause
theorem OwnS.steps {w : World} {B : Nat} {v : Value} {ss : List RS} (h : OwnS w B v ss) : Steps w v ss := by
  obtain ⟨cvs, h1, h2, h3⟩ := h
  exact ⟨cvs, h1, own_sl h2, h3⟩
theorem OwnS.nil (w : World) (B : Nat) : OwnS w B (.slice none 0 0) [] := ⟨[], rfl, World.ownsRow_nil _ _ _ _, fun i u s h _ => (by simp at h)⟩
theorem OwnS.empty (w : World) (B : Nat) (hB : B ≤ w.heap.size) : OwnS (w.alloc (.cells #[] 40)) B (.slice (some ⟨w.heap.size, 0, none⟩) 0 0) [] :=
  ⟨[], rfl, World.ownsRow_lit w #[] 0 hB (by simp) rfl, fun i u s h _ => (by simp at h)⟩
theorem OwnS.ext {w w' : World} {B : Nat} {v : Value} {ss : List RS} (h : OwnS w B v ss) (hx : Ext w w') : OwnS w' B v ss := by
  obtain ⟨cvs, h1, h2, h3⟩ := h
  exact ⟨cvs, h1, own_ext h2 hx, fun i u s a b => (h3 i u s a b).ext hx⟩
theorem OwnS.mono {w : World} {B B' : Nat} {v : Value} {ss : List RS} (h : OwnS w B v ss) (hB : B' ≤ B) : OwnS w B' v ss := by
  obtain ⟨cvs, h1, h2, h3⟩ := h
  exact ⟨cvs, h1, own_mono h2 hB, h3⟩
theorem OwnS.lt {w : World} {B : Nat} {v : Value} {ss : List RS} (h : OwnS w B v ss) : ∀ k, v.ownBlock = some k → B ≤ k ∧ k < w.heap.size := by
  obtain ⟨cvs, h1, h2, h3⟩ := h
  exact h2.lt

/-- a block that is no row of ints turns: ints stay -/
theorem Ints.turned {w w' : World} {u : Value} {c : List Int} (h : Ints w u c) {row : Option Nat} (hg : w.grownBy w' row) (hT : ∀ b, row = some b → ∃ cur fz T, w.heap[b]? = some (.cells cur T fz) ∧ T ≠ 3) : Ints w' u c := by
  obtain ⟨h1, base, cap, h2, h3, h4, h5⟩ := h
  refine ⟨h1, base, cap, h2, h3, h4, ?_⟩
  rcases h5 with h5 | ⟨b, off, h5, h6⟩
  · exact .inl h5
  · refine .inr ⟨b, off, h5, h6.of_block (hg.block b h6.lt ?_)⟩
    intro e
    obtain ⟨cur, fz, T, hb, hne⟩ := hT b e.symm
    obtain ⟨cur', fz', hb', _⟩ := h6
    rw [hb] at hb'
    simp only [Option.some.injEq, Obj.cells.injEq] at hb'
    exact hne hb'.2.1
theorem ownsRow_type {w : World} {B e sz n : Nat} {v : Value} {xs : List Value} (h : w.ownsRow B e sz v n xs) : ∀ b, v.ownBlock = some b → ∃ cur fz, w.heap[b]? = some (.cells cur e fz) := by
  rcases h.2 with ⟨rfl, _⟩ | ⟨g, cap, cur, rfl, _, hg, _⟩
  · intro b hb; cases hb
  · intro b hb
    injection hb with hb
    subst hb
    exact ⟨cur, _, hg⟩

theorem flatSteps_append : ∀ (c1 : List Value) (s1 : List RS) (c2 : List Value) (s2 : List RS), c1.length = s1.length → flatSteps (c1 ++ c2) (s1 ++ s2) = flatSteps c1 s1 ++ flatSteps c2 s2
  | [], [], _, _, _ => rfl
  | a :: c1, b :: s1, c2, s2, h => by
    simp only [List.cons_append, flatSteps, List.append_assoc]
    rw [flatSteps_append c1 s1 c2 s2 (by simpa using h)]
  | [], _ :: _, _, _, h => by simp at h
  | _ :: _, [], _, _, h => by simp at h
theorem flatSteps_one : ∀ (cvs : List Value) (ss : List RS), cvs.length = ss.length → (∀ (i : Nat) (u : Value) (s : RS), cvs[i]? = some u → ss[i]? = some s → u.oneCell' = true) → ∀ x ∈ flatSteps cvs ss, x.oneCell' = true
  | [], [], _, _, x, hx => by simp [flatSteps] at hx
  | a :: cvs, s :: ss, hl, h, x, hx => by
    simp only [flatSteps, List.mem_append, stepCells, List.mem_cons, List.not_mem_nil, or_false] at hx
    rcases hx with (rfl | rfl | rfl | rfl) | hx
    · exact h 0 _ s rfl rfl
    · rfl
    · rfl
    · rfl
    · exact flatSteps_one cvs ss (by simpa using hl) (fun i u t h1 h2 => h (i + 1) u t h1 h2) x hx
  | [], _ :: _, hl, _, _, _ => by simp at hl
  | _ :: _, [], hl, _, _, _ => by simp at hl
theorem Ints.one {w : World} {u : Value} {c : List Int} (h : Ints w u c) : u.oneCell' = true := by
  obtain ⟨base, cap, rfl, _⟩ := h.open
  rfl

/-- append steps onto an own row of steps -/
theorem run_appS (w : World) (B : Nat) (ty : TypeId) (v vx : Value) (xs ys : List RS) (hown : OwnS w B v xs) (hs : Steps w vx ys) (hlen : xs.length + ys.length ≤ 1099511627) (hB : B ≤ w.heap.size) :
    ∃ v' w', (Builtin.append_ #[27, 27] ty #[v, vx]).run Tryz.prog w = .ok v' w' ∧ OwnS w' B v' (xs ++ ys) ∧ w.grownBy w' v.ownBlock ∧ (v'.ownBlock = v.ownBlock ∨ v'.ownBlock = some w.heap.size) := by
  obtain ⟨i, hi, hz0, hz1, hz2⟩ := info_parts Tryz.infoS
  obtain ⟨c1, hl1, ho1, hc1⟩ := hown
  obtain ⟨c2, hl2, ho2, hc2⟩ := hs
  obtain ⟨v', w', hrun, h2, h3, h4⟩ := run_append_sl (P := Tryz.prog) w B 27 ty 40 i (.agg #[.slice none 0 0, .int .i64 0, .int .i64 0, .int .i64 0]) 4 48 Tryz.underlying27 hi hz0 hz1 hz2 rfl (by decide) v xs.length (flatSteps c1 xs) ho1 vx ys.length 40 (flatSteps c2 ys) ho2
    (flatSteps_one c2 ys hl2 (fun i u s a b => (hc2 i u s a b).one)) (by simp only [maxLen]; omega) (by omega) hB
  refine ⟨v', w', hrun, ⟨c1 ++ c2, by simp [hl1, hl2], ?_, ?_⟩, h3, h4⟩
  · rw [List.length_append, flatSteps_append c1 xs c2 ys hl1]
    exact h2
  · have hT : ∀ b, v.ownBlock = some b → ∃ cur fz T, w.heap[b]? = some (.cells cur T fz) ∧ T ≠ 3 := fun b hb => by
      obtain ⟨cur, fz, h⟩ := ownsRow_type ho1 b hb
      exact ⟨cur, fz, _, h, by decide⟩
    intro i u s hu hsi
    by_cases hlt : i < xs.length
    · rw [List.getElem?_append_left (by omega)] at hu
      rw [List.getElem?_append_left hlt] at hsi
      exact (hc1 i u s hu hsi).turned h3 hT
    · rw [List.getElem?_append_right (by omega)] at hu
      rw [List.getElem?_append_right (by omega), ← hl1] at hsi
      exact (hc2 _ u s hu hsi).turned h3 hT
theorem wpList_appS {w : World} {ops : Array Oper} {rest : List Oper} {o : Oper} {a : Act} {Q : Exit → Act → World → Prop} (hgd : o.guard = none) (s x : Operand)
    (ho : o.op = .call { callee := .builtin .append, args := #[s, x], argTypes := #[27, 27] })
    (B : Nat) (v vx : Value) (xs ys : List RS) (hsv : a.eval s = v) (hxv : a.eval x = vx) (hown : OwnS w B v xs) (hs : Steps w vx ys) (hlen : xs.length + ys.length ≤ 1099511627) (hB : B ≤ w.heap.size)
    (h : ∀ v' w', OwnS w' B v' (xs ++ ys) → w.grownBy w' v.ownBlock → (v'.ownBlock = v.ownBlock ∨ v'.ownBlock = some w.heap.size) → wpList Tryz.prog ops Q rest (a.put o.dst v') w') : wpList Tryz.prog ops Q (o :: rest) a w := by
  refine wpList_plain hgd fun K hK => ?_
  obtain ⟨v', w', hrun, h2, h3, h4⟩ := run_appS w B o.type v vx xs ys hown hs hlen hB
  unfold Oper.wp execOp
  simp only [ho, resolve, invoke, builtin, Sem.run_bind, Sem.run_pure, Result.andThen_ok, List.map_toArray, List.map_cons, List.map_nil, hsv, hxv, hrun]
  exact hK _ _ (h v' w' h2 h3 h4)
theorem step_appS {w : World} {ops : Array Oper} {o : Oper} {a : Act} {K : Act → World → Prop} {Q : Exit → Act → World → Prop} {E : Prop} (hgd : o.guard = none) (s x : Operand)
    (ho : o.op = .call { callee := .builtin .append, args := #[s, x], argTypes := #[27, 27] })
    (B : Nat) (v vx : Value) (xs ys : List RS) (hsv : a.eval s = v) (hxv : a.eval x = vx) (hown : OwnS w B v xs) (hs : Steps w vx ys) (hlen : xs.length + ys.length ≤ 1099511627) (hB : B ≤ w.heap.size)
    (h : ∀ v' w', OwnS w' B v' (xs ++ ys) → w.grownBy w' v.ownBlock → (v'.ownBlock = v.ownBlock ∨ v'.ownBlock = some w.heap.size) → K (a.put o.dst v') w') :
    if Region.wanted o (yielded ops a.tmps) = true then Oper.wp Tryz.prog o a w K Q else E := by
  have hw : Region.wanted o (yielded ops a.tmps) = true := by simp [Region.wanted, hgd]
  rw [if_pos hw]
  obtain ⟨v', w', hrun, h2, h3, h4⟩ := run_appS w B o.type v vx xs ys hown hs hlen hB
  unfold Oper.wp execOp
  simp only [ho, resolve, invoke, builtin, Sem.run_bind, Sem.run_pure, Result.andThen_ok, List.map_toArray, List.map_cons, List.map_nil, hsv, hxv, hrun]
  exact h v' w' h2 h3 h4

/-- one step in a new block -/
theorem steps_one {w : World} {u : Value} {s : RS} (h : Ints w u s.clause) : Steps (w.alloc (.cells #[u, .int .i64 s.left, .int .i64 s.right, .int .i64 s.pivot] 40)) (.slice (some ⟨w.heap.size, 0, none⟩) 1 1) [s] := by
  refine ⟨[u], rfl, own_sl (World.ownsRow_lit (base := w.heap.size) (size := 4) w #[u, .int .i64 s.left, .int .i64 s.right, .int .i64 s.pivot] 1 (Nat.le_refl _) (by simp [maxLen]) rfl), ?_⟩
  intro i u' s' hi hs
  match i, hi, hs with
  | 0, hi, hs => simp only [List.getElem?_cons_zero, Option.some.injEq] at hi hs; subst hi; subst hs; exact h.ext (by repeat (first | exact Ext.refl _ | assumption | apply Ext.dn | apply Ext.drew | apply Ext.alloc))
  | n + 1, hi, hs => simp at hi

/-- the block of one step -/
def SBlk (w : World) (b : Nat) (u : Value) (l r p : Int) : Prop := w.heap[b]? = some (.cells #[u, .int .i64 l, .int .i64 r, .int .i64 p] 40 (0, 0))
theorem SBlk.cells {w : World} {b : Nat} {u : Value} {l r p : Int} (h : SBlk w b u l r p) : w.cell? ⟨b, 0, none⟩ = some u ∧ w.cell? ⟨b, 1, none⟩ = some (.int .i64 l) ∧ w.cell? ⟨b, 2, none⟩ = some (.int .i64 r) ∧ w.cell? ⟨b, 3, none⟩ = some (.int .i64 p) := by
  unfold SBlk at h
  simp [World.cell?, h]
theorem SBlk.frozen {w : World} {b : Nat} {u : Value} {l r p : Int} (h : SBlk w b u l r p) (j : Nat) : w.frozen? ⟨b, j, none⟩ = false := frozen_of_row w b j _ _ h
theorem SBlk.lt {w : World} {b : Nat} {u : Value} {l r p : Int} (h : SBlk w b u l r p) : b < w.heap.size := (Array.getElem?_eq_some_iff.1 h).1
theorem SBlk.grown {w w' : World} {b : Nat} {u : Value} {l r p : Int} (h : SBlk w b u l r p) {row : Option Nat} (hg : w.grownBy w' row) (hne : row ≠ some b) : SBlk w' b u l r p := by
  unfold SBlk
  rw [hg.block b h.lt (fun e => hne e.symm)]
  exact h
theorem SBlk.ext {w w' : World} {b : Nat} {u : Value} {l r p : Int} (h : SBlk w b u l r p) (hx : Ext w w') : SBlk w' b u l r p := by
  unfold SBlk
  rw [Below.block hx b h.lt]
  exact h
theorem SBlk.made (w : World) (u : Value) (l r p : Int) : SBlk (w.alloc (.cells #[u, .int .i64 l, .int .i64 r, .int .i64 p] 40)) w.heap.size u l r p := heap_alloc_new w _
theorem SBlk.set0 {w : World} {b : Nat} {u : Value} {l r p : Int} (h : SBlk w b u l r p) (x : Value) : SBlk (w.setCell ⟨b, 0, none⟩ x) b x l r p := by
  have := heap_setCell_same w b 0 _ _ x h
  simpa [SBlk] using this
theorem SBlk.set1 {w : World} {b : Nat} {u : Value} {l r p : Int} (h : SBlk w b u l r p) (x : Int) : SBlk (w.setCell ⟨b, 1, none⟩ (.int .i64 x)) b u x r p := by
  have := heap_setCell_same w b 1 _ _ (.int .i64 x) h
  simpa [SBlk] using this
theorem SBlk.set2 {w : World} {b : Nat} {u : Value} {l r p : Int} (h : SBlk w b u l r p) (x : Int) : SBlk (w.setCell ⟨b, 2, none⟩ (.int .i64 x)) b u l x p := by
  have := heap_setCell_same w b 2 _ _ (.int .i64 x) h
  simpa [SBlk] using this
theorem SBlk.set3 {w : World} {b : Nat} {u : Value} {l r p : Int} (h : SBlk w b u l r p) (x : Int) : SBlk (w.setCell ⟨b, 3, none⟩ (.int .i64 x)) b u l r x := by
  have := heap_setCell_same w b 3 _ _ (.int .i64 x) h
  simpa [SBlk] using this
theorem grown_set (w : World) (b j : Nat) (x : Value) : w.grownBy (w.setCell ⟨b, j, none⟩ x) (some b) := ⟨rfl, rfl, rfl, by simp, fun k _ hk => heap_setCell_other w ⟨b, j, none⟩ k x (fun e => hk (by simp [e]))⟩
/-- the block of a step turns: an own row of steps stays -/
theorem OwnS.beside {w w' : World} {B b : Nat} {v u : Value} {l r p : Int} {ss : List RS} (h : OwnS w B v ss) (hb : SBlk w b u l r p) (hg : w.grownBy w' (some b)) (hne : v.ownBlock ≠ some b) : OwnS w' B v ss := by
  obtain ⟨cvs, h1, h2, h3⟩ := h
  exact ⟨cvs, h1, World.ownsRow.kept h2 hg (.inr hne), fun i x s a c => (h3 i x s a c).turned hg (fun k hk => by injection hk with hk; subst hk; exact ⟨_, _, _, hb, by decide⟩)⟩
end Go.Proofs.YtfnjhodologfeaaGreat
/- l8Copy, l8Unfold -/
namespace Go.Proofs.YtfnjhodologfeaaGreat
open Go.RowKit

/-- the same step with a new clause -/
def CopyE (w : World) (s : RS) (e : Ending) (w' : World) : Prop :=
  ∃ b c, e = .returned (.agg #[.slice b s.clause.length c, .int .i64 s.left, .int .i64 s.right, .int .i64 s.pivot]) ∧ Ints w' (.slice b s.clause.length c) s.clause ∧ Ext w w'

set_option maxRecDepth 100000 in
set_option maxHeartbeats 1000000 in
theorem l8Copy_any (v : Value) (s : RS) (w : World) (hv : StepV w v s) (hl : s.clause.length ≤ 1000000000) :
    Calls Tryz.prog 81 #[v] w (CopyE w s) := by
  obtain ⟨ub, uc, rfl, hi⟩ := hv.open
  go_enter Tryz.func81, Tryz.ntmps81
  go_wp2
  have hP := (SBlk.made w (.slice ub s.clause.length uc) s.left s.right s.pivot).ext ((Ext.refl _).alloc (.cells #[.slice none 0 0, .int .i64 0, .int .i64 0, .int .i64 0] 40))
  have hR := SBlk.made (w.alloc (.cells #[.slice ub s.clause.length uc, .int .i64 s.left, .int .i64 s.right, .int .i64 s.pivot] 40)) (.slice none 0 0) 0 0 0
  have hE : Ext w ((w.alloc (.cells #[.slice ub s.clause.length uc, .int .i64 s.left, .int .i64 s.right, .int .i64 s.pivot] 40)).alloc (.cells #[.slice none 0 0, .int .i64 0, .int .i64 0, .int .i64 0] 40)) := (by repeat (first | exact Ext.refl _ | assumption | apply Ext.dn | apply Ext.drew | apply Ext.alloc))
  rw [show (w.alloc (.cells #[.slice ub s.clause.length uc, .int .i64 s.left, .int .i64 s.right, .int .i64 s.pivot] 40)).heap.size = w.heap.size + 1 by simp] at hR
  have hsz : w.heap.size + 2 ≤ ((w.alloc (.cells #[.slice ub s.clause.length uc, .int .i64 s.left, .int .i64 s.right, .int .i64 s.pivot] 40)).alloc (.cells #[.slice none 0 0, .int .i64 0, .int .i64 0, .int .i64 0] 40)).heap.size := by simp
  generalize (w.alloc (.cells #[.slice ub s.clause.length uc, .int .i64 s.left, .int .i64 s.right, .int .i64 s.pivot] 40)).alloc (.cells #[.slice none 0 0, .int .i64 0, .int .i64 0, .int .i64 0] 40) = w1 at hP hR hE hsz ⊢
  generalize hpb : w.heap.size = pb at hP hR ⊢
  obtain ⟨c0, c1, c2, c3⟩ := hP.cells
  have hbp : pb ≠ w1.heap.size := by omega
  have hbr : pb + 1 ≠ w1.heap.size := by omega
  go_region_held3 (fun w' => w'.cell? ⟨pb, 0, none⟩ = some (.slice ub s.clause.length uc) ∧ w'.cell? ⟨pb, 1, none⟩ = some (.int .i64 s.left) ∧ w'.cell? ⟨pb, 2, none⟩ = some (.int .i64 s.right) ∧ w'.cell? ⟨pb, 3, none⟩ = some (.int .i64 s.pivot))
    (first
      | exact ⟨c0, c1, c2, c3⟩
      | exact ⟨d0, d1, d2, d3⟩
      | go_keep)
    ((refine step_appI rfl (.tmp 3) (.tmp 5) rfl w1.heap.size (.slice (some ⟨w1.heap.size, 0, none⟩) 0 0) (.slice ub s.clause.length uc) [] s.clause rfl rfl (OwnI.empty w1 _ (Nat.le_refl _)) (hi.ext (hE.trans (by repeat (first | exact Ext.refl _ | assumption | apply Ext.dn | apply Ext.drew | apply Ext.alloc)))) (by simp; omega) (by simp) ?_; intro v' w2 ho2 hg2 _; obtain ⟨vb, vc, rfl, _, _, _⟩ := ho2.ints.open; have d0 := World.grownBy.cell hg2 (Ext.cell (w := w1) (by repeat (first | exact Ext.refl _ | assumption | apply Ext.dn | apply Ext.drew | apply Ext.alloc)) c0) (fun e => hbp (by injection e)); have d1 := World.grownBy.cell hg2 (Ext.cell (w := w1) (by repeat (first | exact Ext.refl _ | assumption | apply Ext.dn | apply Ext.drew | apply Ext.alloc)) c1) (fun e => hbp (by injection e)); have d2 := World.grownBy.cell hg2 (Ext.cell (w := w1) (by repeat (first | exact Ext.refl _ | assumption | apply Ext.dn | apply Ext.drew | apply Ext.alloc)) c2) (fun e => hbp (by injection e)); have d3 := World.grownBy.cell hg2 (Ext.cell (w := w1) (by repeat (first | exact Ext.refl _ | assumption | apply Ext.dn | apply Ext.drew | apply Ext.alloc)) c3) (fun e => hbp (by injection e)); have hg2' : (w1.alloc (.cells #[] 3)).grownBy w2 (some w1.heap.size) := ⟨hg2.os, hg2.tape, hg2.output, hg2.size, hg2.block⟩; have hR2 : SBlk w2 (pb + 1) (.slice none 0 0) 0 0 0 := SBlk.grown (SBlk.ext hR (by repeat (first | exact Ext.refl _ | assumption | apply Ext.dn | apply Ext.drew | apply Ext.alloc))) hg2 (fun e => hbr (by injection e with e; exact e.symm)); obtain ⟨k0, k1, k2, k3⟩ := hR2.cells; have z0 := hR2.frozen 0; have z1 := hR2.frozen 1; have z2 := hR2.frozen 2; have z3 := hR2.frozen 3))
  have hRf := (((hR2.set0 (.slice vb s.clause.length vc)).set1 s.left).set2 s.right).set3 s.pivot
  have hGf : w2.grownBy _ (some (pb + 1)) := (((grown_set w2 (pb + 1) 0 (.slice vb s.clause.length vc)).trans (grown_set _ (pb + 1) 1 (.int .i64 s.left))).trans (grown_set _ (pb + 1) 2 (.int .i64 s.right))).trans (grown_set _ (pb + 1) 3 (.int .i64 s.pivot))
  have hEf := Below.grown (Below.grown (show Ext w w1 from hE) (World.grownBy.trans (World.grownBy_alloc w1 (.cells #[] 3) (some w1.heap.size)) hg2') hE.size (fun k hk => by injection hk with hk; omega)) hGf (by have := hE.size; have h3 := hg2'.size; simp at h3; omega) (fun k hk => by injection hk with hk; omega)
  have hIf := ho2.ints.turned hGf (fun k hk => by injection hk with hk; subst hk; exact ⟨_, _, _, hR2, by decide⟩)
  generalize (((w2.setCell ⟨pb + 1, 0, none⟩ (Value.slice vb s.clause.length vc)).setCell ⟨pb + 1, 1, none⟩ (Value.int IntKind.i64 s.left)).setCell ⟨pb + 1, 2, none⟩ (Value.int IntKind.i64 s.right)).setCell ⟨pb + 1, 3, none⟩ (Value.int IntKind.i64 s.pivot) = w3 at hRf hEf hIf ⊢
  obtain ⟨q0, q1, q2, q3⟩ := hRf.cells
  go_wp2
  (try simp only [Exit.inBlock, Exit.then])
  refine bodyPost_ret (results_cell_row rfl _ _ (pb + 1) _ _ _ _ rfl hRf Tryz.underlying40 rfl (by kernel_rfl)) rfl ?_
  exact ⟨_, _, rfl, hIf, hEf⟩
end Go.Proofs.YtfnjhodologfeaaGreat
