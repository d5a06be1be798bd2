/- Parts of the proof: K3, C10, C11. -/
import Derived.Test.YtfnjhodologfeaaGreatG13
import Derived.Maps.OwnOps
import Derived.Maps.OwnSet
import Derived.Maps.Views
import Derived.Maps.Keyed
set_option linter.unusedSimpArgs false
set_option linter.unusedVariables false
/- a map of ints with two keys -/
namespace Go.Proofs.YtfnjhodologfeaaGreat
open Go.RowKit Go.Maps

theorem keyI : Keyed Tryz.prog 3 := int_keyed Tryz.underlying3
theorem zeroI (w : World) : (zeroValue 3).run Tryz.prog w = .ok (.int .i64 0) w := by kernel_rfl
/-- block b is a map of at most n entries that holds x0 at 0 and x1 at 1 -/
def M2 (w : World) (b n : Nat) (x0 x1 : Int) : Prop :=
  ∃ D : DataW Unit, w.ownsMap Tryz.prog 3 (plainElem Tryz.prog 3) b n D ∧ D.atKey (.int .i64 0) (.lit (.int .i64 0)) = .lit (.int .i64 x0) ∧ D.atKey (.int .i64 1) (.lit (.int .i64 0)) = .lit (.int .i64 x1)
theorem M2.made (w : World) : M2 (w.alloc (.map #[] 0)) w.heap.size 0 0 0 := ⟨_, World.ownsMap_made w _ _ _, rfl, rfl⟩
theorem M2.kept {w w' : World} {b n : Nat} {x0 x1 : Int} (h : M2 w b n x0 x1) {row : Option Nat} (hg : w.grownBy w' row) (hne : row ≠ some b) : M2 w' b n x0 x1 := by
  obtain ⟨D, h1, h2, h3⟩ := h
  exact ⟨D, h1.kept hg (fun e => hne e.symm), h2, h3⟩
theorem M2.ext {w w' : World} {b n : Nat} {x0 x1 : Int} (h : M2 w b n x0 x1) (hx : Ext w w') : M2 w' b n x0 x1 := h.kept (row := none) (ext_any hx _) (by simp)
theorem M2.lt {w : World} {b n : Nat} {x0 x1 : Int} (h : M2 w b n x0 x1) : b < w.heap.size := by
  obtain ⟨D, h1, _⟩ := h
  exact h1.lt
theorem wpList_put0 {w : World} {ops : Array Oper} {rest : List Oper} {o : Oper} {a : Act} {Q : Exit → Act → World → Prop} (hg : o.guard = none) (m x v : Operand) (hop : o.op = Op.mapUpdate 79 m x v)
    (b n : Nat) (x0 x1 y : Int) (hm : a.eval m = .map (some b)) (hx : a.eval x = .int .i64 0) (hv : a.eval v = .int .i64 y) (hwf : -9223372036854775808 ≤ y ∧ y ≤ 9223372036854775807) (hM : M2 w b n x0 x1) (hn : n < 1000)
    (hK : ∀ w', M2 w' b (n + 1) y x1 → w.grownBy w' (some b) → wpList Tryz.prog ops Q rest (a.put o.dst undef) w') : wpList Tryz.prog ops Q (o :: rest) a w := by
  obtain ⟨D, h1, h2, h3⟩ := hM
  refine wpList_mapUpdate_own w hg m x v _ hop _ _ keyI Tryz.underlying79 _ b n D hm h1 (by unfold maxLen; omega) _ _ (.int .i64 0) hx hv (keyOf_int_mk Tryz.underlying3 (by decide)) (.lit (.int .i64 y)) [] (plainElem_int Tryz.underlying3 (WalkArith.wf_i64 hwf)) ?_
  intro w' r1 r2
  refine hK w' ⟨_, r1, atKey_put_same h1.isMap (by simp [WideAt.IsKeyLit]) _ _, ?_⟩ r2
  rw [atKey_put_other (by simp)]
  exact h3
theorem wpList_put1 {w : World} {ops : Array Oper} {rest : List Oper} {o : Oper} {a : Act} {Q : Exit → Act → World → Prop} (hg : o.guard = none) (m x v : Operand) (hop : o.op = Op.mapUpdate 79 m x v)
    (b n : Nat) (x0 x1 y : Int) (hm : a.eval m = .map (some b)) (hx : a.eval x = .int .i64 1) (hv : a.eval v = .int .i64 y) (hwf : -9223372036854775808 ≤ y ∧ y ≤ 9223372036854775807) (hM : M2 w b n x0 x1) (hn : n < 1000)
    (hK : ∀ w', M2 w' b (n + 1) x0 y → w.grownBy w' (some b) → wpList Tryz.prog ops Q rest (a.put o.dst undef) w') : wpList Tryz.prog ops Q (o :: rest) a w := by
  obtain ⟨D, h1, h2, h3⟩ := hM
  refine wpList_mapUpdate_own w hg m x v _ hop _ _ keyI Tryz.underlying79 _ b n D hm h1 (by unfold maxLen; omega) _ _ (.int .i64 1) hx hv (keyOf_int_mk Tryz.underlying3 (by decide)) (.lit (.int .i64 y)) [] (plainElem_int Tryz.underlying3 (WalkArith.wf_i64 hwf)) ?_
  intro w' r1 r2
  refine hK w' ⟨_, r1, ?_, atKey_put_same h1.isMap (by simp [WideAt.IsKeyLit]) _ _⟩ r2
  rw [atKey_put_other (by simp)]
  exact h2
theorem wpList_get0 {w : World} {ops : Array Oper} {rest : List Oper} {o : Oper} {a : Act} {Q : Exit → Act → World → Prop} (hg : o.guard = none) (m x : Operand) (hop : o.op = Op.lookup 79 m x false)
    (b n : Nat) (x0 x1 : Int) (hm : a.eval m = .map (some b)) (hx : a.eval x = .int .i64 0) (hM : M2 w b n x0 x1) (hK : wpList Tryz.prog ops Q rest (a.put o.dst (.int .i64 x0)) w) : wpList Tryz.prog ops Q (o :: rest) a w := by
  obtain ⟨D, h1, h2, h3⟩ := hM
  refine wpList_lookup_own_int w hg m x _ hop _ _ .i64 keyI Tryz.underlying79 Tryz.underlying3 (zeroI w) b n D hm h1 _ (.int .i64 0) hx (keyOf_int_mk Tryz.underlying3 (by decide)) ?_
  intro c hat _
  rw [h2] at hat
  simp only [DataW.lit.injEq, Lit.int.injEq, true_and] at hat
  subst hat
  exact hK
theorem wpList_get1 {w : World} {ops : Array Oper} {rest : List Oper} {o : Oper} {a : Act} {Q : Exit → Act → World → Prop} (hg : o.guard = none) (m x : Operand) (hop : o.op = Op.lookup 79 m x false)
    (b n : Nat) (x0 x1 : Int) (hm : a.eval m = .map (some b)) (hx : a.eval x = .int .i64 1) (hM : M2 w b n x0 x1) (hK : wpList Tryz.prog ops Q rest (a.put o.dst (.int .i64 x1)) w) : wpList Tryz.prog ops Q (o :: rest) a w := by
  obtain ⟨D, h1, h2, h3⟩ := hM
  refine wpList_lookup_own_int w hg m x _ hop _ _ .i64 keyI Tryz.underlying79 Tryz.underlying3 (zeroI w) b n D hm h1 _ (.int .i64 1) hx (keyOf_int_mk Tryz.underlying3 (by decide)) ?_
  intro c hat _
  rw [h3] at hat
  simp only [DataW.lit.injEq, Lit.int.injEq, true_and] at hat
  subst hat
  exact hK
end Go.Proofs.YtfnjhodologfeaaGreat
/- impl.unfold -/
namespace Go.Proofs.YtfnjhodologfeaaGreat
open Go.RowKit Go.Maps

theorem M2.blk {w : World} {b n : Nat} {x0 x1 : Int} (h : M2 w b n x0 x1) : ∃ es cl, w.heap[b]? = some (.map es cl) := by
  obtain ⟨D, ⟨es, cl, h1, _⟩, _⟩ := h
  exact ⟨es, cl, h1⟩
theorem Ints.map {w w' : World} {u : Value} {c : List Int} (h : Ints w u c) {b : Nat} (hg : w.grownBy w' (some b)) (hT : ∃ es cl, w.heap[b]? = some (.map es cl)) : Ints w' u c := by
  obtain ⟨h1, base, cap, h2, h3, h4, h5⟩ := h
  refine ⟨h1, base, cap, h2, h3, h4, ?_⟩
  rcases h5 with h5 | ⟨b', off, h5, h6⟩
  · exact .inl h5
  · refine .inr ⟨b', off, h5, h6.of_block (hg.block b' h6.lt ?_)⟩
    intro e
    injection e with e
    subst e
    obtain ⟨es, cl, hb⟩ := hT
    obtain ⟨cur', fz', hb', _⟩ := h6
    rw [hb] at hb'
    cases hb'
/-- a frame of impl.unfold: with its map -/
structure FrM (w0 : World) (B sb mb n : Nat) (vo r : Value) (o : List RS) (w w' : World) (cv : Value) (c : List Int) (l rr p x0 x1 : Int) : Prop where
  fr : Fr w0 B sb vo r o w w' cv c l rr p
  m2 : M2 w' mb n x0 x1
  rne : r.ownBlock ≠ some mb
  sm : sb ≠ mb
  mge : w.heap.size ≤ mb
section
variable {w0 : World} {B sb mb n : Nat} {vo r : Value} {o : List RS} {w w' w'' : World} {cv : Value} {c : List Int} {l rr p x0 x1 : Int}
theorem FrM.more (h : FrM w0 B sb mb n vo r o w w' cv c l rr p x0 x1) (hx : Ext w' w'') : FrM w0 B sb mb n vo r o w w'' cv c l rr p x0 x1 := ⟨h.fr.more hx, h.m2.ext hx, h.rne, h.sm, h.mge⟩
theorem FrM.set0 (h : FrM w0 B sb mb n vo r o w w' cv c l rr p x0 x1) {u : Value} {d : List Int} (hu : Ints w' u d) : FrM w0 B sb mb n vo r o w (w'.setCell ⟨sb, 0, none⟩ u) u d l rr p x0 x1 := ⟨h.fr.set0 hu, h.m2.kept (grown_set _ _ _ _) (fun e => h.sm (by injection e)), h.rne, h.sm, h.mge⟩
theorem FrM.set1 (h : FrM w0 B sb mb n vo r o w w' cv c l rr p x0 x1) (x : Int) : FrM w0 B sb mb n vo r o w (w'.setCell ⟨sb, 1, none⟩ (.int .i64 x)) cv c x rr p x0 x1 := ⟨h.fr.set1 x, h.m2.kept (grown_set _ _ _ _) (fun e => h.sm (by injection e)), h.rne, h.sm, h.mge⟩
theorem FrM.set2 (h : FrM w0 B sb mb n vo r o w w' cv c l rr p x0 x1) (x : Int) : FrM w0 B sb mb n vo r o w (w'.setCell ⟨sb, 2, none⟩ (.int .i64 x)) cv c l x p x0 x1 := ⟨h.fr.set2 x, h.m2.kept (grown_set _ _ _ _) (fun e => h.sm (by injection e)), h.rne, h.sm, h.mge⟩
theorem FrM.call (h : FrM w0 B sb mb n vo r o w w' cv c l rr p x0 x1) {r' : Value} {o' : List RS} (ho : OwnS w'' B r' o') (hg : w'.grownBy w'' r.ownBlock) (hp : ∀ j, r'.ownBlock = some j → w'.heap.size ≤ j ∨ r.ownBlock = some j) : FrM w0 B sb mb n vo r' o' w w'' cv c l rr p x0 x1 :=
  ⟨h.fr.call ho hg hp, h.m2.kept hg h.rne, fun e => by
    rcases hp mb e with h1 | h1
    · have := h.m2.lt; omega
    · exact h.rne h1, h.sm, h.mge⟩
theorem FrM.put (h : FrM w0 B sb mb n vo r o w w' cv c l rr p x0 x1) {n' : Nat} {y0 y1 : Int} (hm : M2 w'' mb n' y0 y1) (hg : w'.grownBy w'' (some mb)) : FrM w0 B sb mb n' vo r o w w'' cv c l rr p y0 y1 where
  fr := { ext := Below.grown h.fr.ext hg h.fr.ext.size (fun k hk => by
            injection hk with hk
            have h1 := h.mge
            have h2 := h.fr.w0le
            omega)
          own := by
            obtain ⟨cvs, h1, h2, h3⟩ := h.fr.own
            exact ⟨cvs, h1, World.ownsRow.kept h2 hg (.inr h.rne), fun i x s a c => (h3 i x s a c).map hg h.m2.blk⟩
          blk := h.fr.blk.grown hg (fun e => h.sm (by injection e with e; exact e.symm))
          ints := h.fr.ints.map hg h.m2.blk
          grown := grown_fresh h.fr.grown hg h.mge
          pick := h.fr.pick
          ne := h.fr.ne
          sbge := h.fr.sbge
          bl := h.fr.bl
          w0le := h.fr.w0le }
  m2 := hm
  rne := h.rne
  sm := h.sm
  mge := h.mge
end
end Go.Proofs.YtfnjhodologfeaaGreat
/- impl.unfold, the walk -/
namespace Go.Proofs.YtfnjhodologfeaaGreat
open Go.RowKit Go.Maps

set_option maxRecDepth 100000 in
set_option maxHeartbeats 2000000 in
theorem unfold_any (ss : List RS) (hpre : PreOk ss) (hcl : ∀ s ∈ ss, s.clause.length ≤ 1000000) (w0 : World) (vs : Value) (hs : Steps w0 vs ss) (B : Nat) (hB : w0.heap.size ≤ B) (hn : ss.length ≤ 100000) :
    ∀ (n : Nat) (i : Int), 0 ≤ i → i < n → i < ss.length → ∀ (vo : Value) (out : List RS) (w : World), OwnS w B vo out → (unfL ss n out i).length ≤ 1000000 → Ext w0 w → B ≤ w.heap.size →
      Calls Tryz.prog 43 #[vo, vs, .int .i64 i] w (UnfE w0 B w vo (fun o => o = unfL ss n out i)) := by
  obtain ⟨base, cap, rfl, hc1, hc2, hcell⟩ := hs.open
  intro n
  induction n with
  | zero => intro i h0 h; omega
  | succ n ih =>
    intro i hi0 hin hil vo out w ho hol hx0 hBw
    obtain ⟨b, off, rfl, hb, hcs⟩ := hcell i.toNat (by omega)
    obtain ⟨s, u, hsi, hci⟩ := hcs i.toNat (by omega)
    have hcA := hci
    obtain ⟨hu0, hu1, hu2, hu3, hcI⟩ := hci w hx0
    obtain ⟨ub, uc, rfl, _, _, _⟩ := hcI.open
    have hSV : ∀ w', Ext w0 w' → StepV w' (.agg #[.slice ub s.clause.length uc, .int .i64 s.left, .int .i64 s.right, .int .i64 s.pivot]) s := fun w' h => ⟨_, rfl, (hci _ h).2.2.2.2⟩
    have hsl : s.clause.length ≤ 1000000 := hcl s (List.mem_of_getElem? hsi)
    have HPk := Lib.hid (hpre _ s hsi)
    have HU := Lib.hid (show unfL ss (n + 1) out i = if axB s = true then out ++ [s]
      else if resB s = true then
        unfL ss n (unfL ss n out s.left) s.right ++ [{ s with left := ((unfL ss n out s.left).length : Int) - 1, right := ((unfL ss n (unfL ss n out s.left) s.right).length : Int) - 1 }]
      else unfL ss n out s.left ++ [{ s with left := ((unfL ss n out s.left).length : Int) - 1 }] by rw [unfL, hsi])
    have HIH := Lib.hid ih
    have hoB := ho.lt
    have hx1 : Ext w0 (w.alloc (.map #[] 0)) := hx0.alloc _
    obtain ⟨hv0, hv1, hv2, hv3, _⟩ := hci _ hx1
    have hmm := @run_makeMap Tryz.prog
    obtain ⟨ob, oc, rfl, hoc1, hoc2⟩ := ho.form
    have hsz1 : (w.alloc (.map #[] 0)).heap.size = w.heap.size + 1 := by simp
    have hSB := SBlk.made (w.alloc (.map #[] 0)) (.slice ub s.clause.length uc) s.left s.right s.pivot
    rw [hsz1] at hSB
    have hF0 : FrM w0 B (w.heap.size + 1) w.heap.size 0 (.slice ob out.length oc) (.slice ob out.length oc) out w ((w.alloc (.map #[] 0)).alloc (.cells #[.slice ub s.clause.length uc, .int .i64 s.left, .int .i64 s.right, .int .i64 s.pivot] 40)) (.slice ub s.clause.length uc) s.clause s.left s.right s.pivot 0 0 :=
      ⟨⟨hx1.alloc _, ho.ext (by repeat (first | exact Ext.refl _ | assumption | apply Ext.dn | apply Ext.drew | apply Ext.alloc)), hSB, hcI.ext (by repeat (first | exact Ext.refl _ | assumption | apply Ext.dn | apply Ext.drew | apply Ext.alloc)), ext_any (by repeat (first | exact Ext.refl _ | assumption | apply Ext.dn | apply Ext.drew | apply Ext.alloc)) _, fun j hj => .inr hj, fun e => by have := hoB _ e; omega, by omega, hB, hx0.size⟩, (M2.made w).ext (by repeat (first | exact Ext.refl _ | assumption | apply Ext.dn | apply Ext.drew | apply Ext.alloc)), fun e => by have := hoB _ e; omega, by omega, Nat.le_refl _⟩
    clear ih hcell hcs hci hcA hsi hcl hpre hSB hsz1
    cases ha : axB s
    · obtain ⟨hl0, hl1⟩ := HPk.out _ (prem_left ha)
      have hO1p := unfL_pos' ss n out s.left (by omega) (by omega)
      obtain ⟨O1, hO1⟩ : ∃ O1, unfL ss n out s.left = O1 := ⟨_, rfl⟩
      rw [hO1] at hO1p
      have HO1 := Lib.hid hO1
      cases hr : resB s
      · have HUU := Lib.hid (show unfL ss (n + 1) out i = O1 ++ [{ s with left := (O1.length : Int) - 1 }] by rw [HU.out, if_neg (by simp [ha]), if_neg (by simp [hr]), hO1])
        have hOL : O1.length + 1 ≤ 1000000 := by rw [HUU.out] at hol; simpa using hol
        have hw1 : IntKind.i64.wrap ((O1.length : Int) - 1) = (O1.length : Int) - 1 := IntWalk.i64_in _ ⟨by omega, by omega⟩
        clear hO1 HU hol
        go_enter Tryz.func43, Tryz.ntmps43
        go_wp2_with (first
          | (go_at_call 58; refine (isResolvent_any _ s _ ⟨.slice kb s.clause.length kc, rfl, (hF.set0 hcl).fr.ints⟩).mono ?_; rw [hr]; rintro e w6 ⟨rfl, he6⟩; replace hF := (hF.set0 hcl).more he6; obtain ⟨c0, c1, c2, c3⟩ := hF.fr.blk.cells; have f0 := hF.fr.blk.frozen 0; have f1 := hF.fr.blk.frozen 1; have f2 := hF.fr.blk.frozen 2) | (go_at_call 58; refine (isResolvent_any _ s _ ⟨_, rfl, hF.fr.ints⟩).mono ?_; rw [hr]; rintro e w3 ⟨rfl, he3⟩; replace hF := hF.more he3; obtain ⟨c0, c1, c2, c3⟩ := hF.fr.blk.cells; have f0 := hF.fr.blk.frozen 0; have f1 := hF.fr.blk.frozen 1; have f2 := hF.fr.blk.frozen 2) | (go_at_call 49; refine (isAxiom_any _ s _ ⟨_, rfl, hF.fr.ints⟩).mono ?_; rw [ha]; rintro e w7 ⟨rfl, he7⟩; replace hF := hF.more he7; obtain ⟨c0, c1, c2, c3⟩ := hF.fr.blk.cells; have f0 := hF.fr.blk.frozen 0; have f1 := hF.fr.blk.frozen 1; have f2 := hF.fr.blk.frozen 2) | (go_at_call 49; refine (isAxiom_any _ s _ (hSV _ hF0.fr.ext)).mono ?_; rw [ha]; rintro e w2 ⟨rfl, he2⟩; have hF := hF0.more he2; obtain ⟨c0, c1, c2, c3⟩ := hF.fr.blk.cells; have f0 := hF.fr.blk.frozen 0; have f1 := hF.fr.blk.frozen 1; have f2 := hF.fr.blk.frozen 2) | (go_at_call 79; refine (Clone_any _ s.clause _ hF.fr.ints (by omega)).mono ?_; rintro e w5 ⟨r5, rfl, ho5, he5⟩; obtain ⟨kb, kc, rfl, _, _, _⟩ := ho5.ints.open; have hcl := ho5.ints; replace hF := hF.more he5; obtain ⟨c0, c1, c2, c3⟩ := hF.fr.blk.cells; have f0 := hF.fr.blk.frozen 0; have f1 := hF.fr.blk.frozen 1; have f2 := hF.fr.blk.frozen 2) | (go_at_call 43; refine (HIH.out s.left hl0 (by omega) (by omega) _ out _ hF.fr.own (by rw [HO1.out]; omega) hF.fr.ext (by have := hF.fr.grown.size; omega)).mono ?_; rw [HO1.out]; rintro e w3 ⟨r3, o3, rfl, hR3, ho3, hg3, hp3⟩; replace hF := hF.call ho3 hg3 hp3; obtain ⟨rb3, rc3, rfl, _, _⟩ := ho3.form; obtain rfl := hR3; obtain ⟨c0, c1, c2, c3⟩ := hF.fr.blk.cells; have f0 := hF.fr.blk.frozen 0; have f1 := hF.fr.blk.frozen 1; have f2 := hF.fr.blk.frozen 2) | (at_mapUpdate; refine wpList_put0 rfl _ _ _ rfl _ _ _ _ _ rfl rfl rfl (by omega) hF.m2 (by omega) ?_; intro w4 hm4 hg4; replace hF := hF.put hm4 hg4; obtain ⟨c0, c1, c2, c3⟩ := hF.fr.blk.cells; have f0 := hF.fr.blk.frozen 0; have f1 := hF.fr.blk.frozen 1; have f2 := hF.fr.blk.frozen 2) | (at_lookup; refine wpList_get0 rfl _ _ rfl _ _ _ _ rfl rfl hF.m2 ?_)
          | (at_builtin; refine wpList_appS rfl _ _ rfl B (.slice rb3 o3.length rc3) _ o3 [{ s with left := (o3.length : Int) - 1 }] rfl rfl ((hF.set1 ((o3.length : Int) - 1)).fr.own.ext (by repeat (first | exact Ext.refl _ | assumption | apply Ext.dn | apply Ext.drew | apply Ext.alloc))) (steps_oneS (s := { s with left := (o3.length : Int) - 1 }) (hF.set1 ((o3.length : Int) - 1)).fr.ints) (by simp; omega) (by have := hF.fr.grown.size; simp; omega) ?_; intro v' w9 ho9 hg9 hat9))
        go_ret
        obtain ⟨d1, d2⟩ := (hF.set1 ((o3.length : Int) - 1)).fr.done hg9 hat9
        exact ⟨_, _, rfl, HUU.out.symm, ho9, d1, d2⟩
      · obtain ⟨hr0, hr1⟩ := HPk.out _ (prem_right ha hr)
        obtain ⟨O2, hO2⟩ : ∃ O2, unfL ss n O1 s.right = O2 := ⟨_, rfl⟩
        have hO2p := unfL_len ss n O1 s.right
        rw [hO2] at hO2p
        have HO2 := Lib.hid hO2
        have HUU := Lib.hid (show unfL ss (n + 1) out i = O2 ++ [{ s with left := (O1.length : Int) - 1, right := (O2.length : Int) - 1 }] by rw [HU.out, if_neg (by simp [ha]), if_pos hr, hO1, hO2])
        have hOL : O2.length + 1 ≤ 1000000 := by rw [HUU.out] at hol; simpa using hol
        have hw1 : IntKind.i64.wrap ((O1.length : Int) - 1) = (O1.length : Int) - 1 := IntWalk.i64_in _ ⟨by omega, by omega⟩
        have hw2 : IntKind.i64.wrap ((O2.length : Int) - 1) = (O2.length : Int) - 1 := IntWalk.i64_in _ ⟨by omega, by omega⟩
        clear hO1 HU hO2 hol
        go_enter Tryz.func43, Tryz.ntmps43
        go_wp2_with (first
          | (go_at_call 58; refine (isResolvent_any _ s _ ⟨.slice kb s.clause.length kc, rfl, (hF.set0 hcl).fr.ints⟩).mono ?_; rw [hr]; rintro e w6 ⟨rfl, he6⟩; replace hF := (hF.set0 hcl).more he6; obtain ⟨c0, c1, c2, c3⟩ := hF.fr.blk.cells; have f0 := hF.fr.blk.frozen 0; have f1 := hF.fr.blk.frozen 1; have f2 := hF.fr.blk.frozen 2) | (go_at_call 58; refine (isResolvent_any _ s _ ⟨_, rfl, hF.fr.ints⟩).mono ?_; rw [hr]; rintro e w3 ⟨rfl, he3⟩; replace hF := hF.more he3; obtain ⟨c0, c1, c2, c3⟩ := hF.fr.blk.cells; have f0 := hF.fr.blk.frozen 0; have f1 := hF.fr.blk.frozen 1; have f2 := hF.fr.blk.frozen 2) | (go_at_call 49; refine (isAxiom_any _ { s with right := (o5.length : Int) - 1 } _ ⟨.slice kb s.clause.length kc, rfl, (hF.set2 ((o5.length : Int) - 1)).fr.ints⟩).mono ?_; rw [show axB { s with right := (o5.length : Int) - 1 } = axB s from rfl, ha]; rintro e w8 ⟨rfl, he8⟩; replace hF := (hF.set2 ((o5.length : Int) - 1)).more he8; obtain ⟨c0, c1, c2, c3⟩ := hF.fr.blk.cells; have f0 := hF.fr.blk.frozen 0; have f1 := hF.fr.blk.frozen 1; have f2 := hF.fr.blk.frozen 2) | (go_at_call 49; refine (isAxiom_any _ s _ (hSV _ hF0.fr.ext)).mono ?_; rw [ha]; rintro e w2 ⟨rfl, he2⟩; have hF := hF0.more he2; obtain ⟨c0, c1, c2, c3⟩ := hF.fr.blk.cells; have f0 := hF.fr.blk.frozen 0; have f1 := hF.fr.blk.frozen 1; have f2 := hF.fr.blk.frozen 2) | (go_at_call 79; refine (Clone_any _ s.clause _ hF.fr.ints (by omega)).mono ?_; rintro e w5 ⟨r5, rfl, ho5, he5⟩; obtain ⟨kb, kc, rfl, _, _, _⟩ := ho5.ints.open; have hcl := ho5.ints; replace hF := hF.more he5; obtain ⟨c0, c1, c2, c3⟩ := hF.fr.blk.cells; have f0 := hF.fr.blk.frozen 0; have f1 := hF.fr.blk.frozen 1; have f2 := hF.fr.blk.frozen 2) | (go_at_call 43; refine (HIH.out s.right hr0 (by omega) (by omega) _ o3 _ hF.fr.own (by rw [HO2.out]; omega) hF.fr.ext (by have := hF.fr.grown.size; omega)).mono ?_; rw [HO2.out]; rintro e w5 ⟨r5, o5, rfl, hR5, ho5, hg5, hp5⟩; replace hF := hF.call ho5 hg5 hp5; obtain ⟨rb5, rc5, rfl, _, _⟩ := ho5.form; obtain rfl := hR5; obtain ⟨c0, c1, c2, c3⟩ := hF.fr.blk.cells; have f0 := hF.fr.blk.frozen 0; have f1 := hF.fr.blk.frozen 1; have f2 := hF.fr.blk.frozen 2) | (go_at_call 43; refine (HIH.out s.left hl0 (by omega) (by omega) _ out _ hF.fr.own (by rw [HO1.out]; omega) hF.fr.ext (by have := hF.fr.grown.size; omega)).mono ?_; rw [HO1.out]; rintro e w3 ⟨r3, o3, rfl, hR3, ho3, hg3, hp3⟩; replace hF := hF.call ho3 hg3 hp3; obtain ⟨rb3, rc3, rfl, _, _⟩ := ho3.form; obtain rfl := hR3; obtain ⟨c0, c1, c2, c3⟩ := hF.fr.blk.cells; have f0 := hF.fr.blk.frozen 0; have f1 := hF.fr.blk.frozen 1; have f2 := hF.fr.blk.frozen 2) | (at_mapUpdate; refine wpList_put0 rfl _ _ _ rfl _ _ _ _ _ rfl rfl rfl (by omega) hF.m2 (by omega) ?_; intro w4 hm4 hg4; replace hF := hF.put hm4 hg4; obtain ⟨c0, c1, c2, c3⟩ := hF.fr.blk.cells; have f0 := hF.fr.blk.frozen 0; have f1 := hF.fr.blk.frozen 1; have f2 := hF.fr.blk.frozen 2) | (at_mapUpdate; refine wpList_put1 rfl _ _ _ rfl _ _ _ _ _ rfl rfl rfl (by omega) hF.m2 (by omega) ?_; intro w4 hm4 hg4; replace hF := hF.put hm4 hg4; obtain ⟨c0, c1, c2, c3⟩ := hF.fr.blk.cells; have f0 := hF.fr.blk.frozen 0; have f1 := hF.fr.blk.frozen 1; have f2 := hF.fr.blk.frozen 2) | (at_lookup; refine wpList_get0 rfl _ _ rfl _ _ _ _ rfl rfl hF.m2 ?_) | (at_lookup; refine wpList_get1 rfl _ _ rfl _ _ _ _ rfl rfl hF.m2 ?_)
          | (at_builtin; refine wpList_appS rfl _ _ rfl B (.slice rb5 o5.length rc5) _ o5 [{ s with left := (o3.length : Int) - 1, right := (o5.length : Int) - 1 }] rfl rfl ((hF.set1 ((o3.length : Int) - 1)).fr.own.ext (by repeat (first | exact Ext.refl _ | assumption | apply Ext.dn | apply Ext.drew | apply Ext.alloc))) (steps_oneS (s := { s with left := (o3.length : Int) - 1, right := (o5.length : Int) - 1 }) (hF.set1 ((o3.length : Int) - 1)).fr.ints) (by simp; omega) (by have := hF.fr.grown.size; simp; omega) ?_; intro v' w9 ho9 hg9 hat9))
        go_ret
        obtain ⟨d1, d2⟩ := (hF.set1 ((o3.length : Int) - 1)).fr.done hg9 hat9
        exact ⟨_, _, rfl, HUU.out.symm, ho9, d1, d2⟩
    · have hr := res_ax ha
      go_enter Tryz.func43, Tryz.ntmps43
      go_wp2_with (first
        | (go_at_call 58; refine (isResolvent_any _ s _ ⟨.slice kb s.clause.length kc, rfl, (hF.set0 hcl).fr.ints⟩).mono ?_; rw [hr]; rintro e w6 ⟨rfl, he6⟩; replace hF := (hF.set0 hcl).more he6; obtain ⟨c0, c1, c2, c3⟩ := hF.fr.blk.cells; have f0 := hF.fr.blk.frozen 0; have f1 := hF.fr.blk.frozen 1; have f2 := hF.fr.blk.frozen 2) | (go_at_call 58; refine (isResolvent_any _ s _ ⟨_, rfl, hF.fr.ints⟩).mono ?_; rw [hr]; rintro e w3 ⟨rfl, he3⟩; replace hF := hF.more he3; obtain ⟨c0, c1, c2, c3⟩ := hF.fr.blk.cells; have f0 := hF.fr.blk.frozen 0; have f1 := hF.fr.blk.frozen 1; have f2 := hF.fr.blk.frozen 2) | (go_at_call 49; refine (isAxiom_any _ s _ ⟨_, rfl, hF.fr.ints⟩).mono ?_; rw [ha]; rintro e w7 ⟨rfl, he7⟩; replace hF := hF.more he7; obtain ⟨c0, c1, c2, c3⟩ := hF.fr.blk.cells; have f0 := hF.fr.blk.frozen 0; have f1 := hF.fr.blk.frozen 1; have f2 := hF.fr.blk.frozen 2) | (go_at_call 49; refine (isAxiom_any _ s _ (hSV _ hF0.fr.ext)).mono ?_; rw [ha]; rintro e w2 ⟨rfl, he2⟩; have hF := hF0.more he2; obtain ⟨c0, c1, c2, c3⟩ := hF.fr.blk.cells; have f0 := hF.fr.blk.frozen 0; have f1 := hF.fr.blk.frozen 1; have f2 := hF.fr.blk.frozen 2) | (go_at_call 79; refine (Clone_any _ s.clause _ hF.fr.ints (by omega)).mono ?_; rintro e w5 ⟨r5, rfl, ho5, he5⟩; obtain ⟨kb, kc, rfl, _, _, _⟩ := ho5.ints.open; have hcl := ho5.ints; replace hF := hF.more he5; obtain ⟨c0, c1, c2, c3⟩ := hF.fr.blk.cells; have f0 := hF.fr.blk.frozen 0; have f1 := hF.fr.blk.frozen 1; have f2 := hF.fr.blk.frozen 2)
        | (at_builtin; refine wpList_appS rfl _ _ rfl B (.slice ob out.length oc) _ out [s] rfl rfl (hF.fr.own.ext (by repeat (first | exact Ext.refl _ | assumption | apply Ext.dn | apply Ext.drew | apply Ext.alloc))) (steps_one hF.fr.ints) (by rw [HU.out, if_pos ha] at hol; simp at hol ⊢; omega) (by have := hF.fr.grown.size; simp; omega) ?_; intro v' w9 ho9 hg9 hat9))
      go_ret
      obtain ⟨d1, d2⟩ := hF.fr.done hg9 hat9
      exact ⟨_, _, rfl, by rw [HU.out, if_pos ha], ho9, d1, d2⟩
end Go.Proofs.YtfnjhodologfeaaGreat
