/- Parts of the proof: C8, C9. -/
import Derived.Test.YtfnjhodologfeaaGreatG12
set_option linter.unusedSimpArgs false
set_option linter.unusedVariables false
/- l8Unfold -/
namespace Go.Proofs.YtfnjhodologfeaaGreat
open Go.RowKit

/-- the unfolded proof of step i behind out -/
def unfL (ss : List RS) : Nat → List RS → Int → List RS
  | 0, out, _ => out
  | n + 1, out, i => match ss[i.toNat]? with
    | none => out
    | some s =>
      if axB s = true then out ++ [s]
      else if resB s = true then
        unfL ss n (unfL ss n out s.left) s.right ++ [{ s with left := ((unfL ss n out s.left).length : Int) - 1, right := ((unfL ss n (unfL ss n out s.left) s.right).length : Int) - 1 }]
      else unfL ss n out s.left ++ [{ s with left := ((unfL ss n out s.left).length : Int) - 1 }]
theorem unfL_len (ss : List RS) : ∀ n out i, out.length ≤ (unfL ss n out i).length
  | 0, out, i => Nat.le_refl _
  | n + 1, out, i => by
    rw [unfL]
    split
    · exact Nat.le_refl _
    · rename_i s _
      have h1 := unfL_len ss n out s.left
      have h2 := unfL_len ss n (unfL ss n out s.left) s.right
      split
      · simp
      · split
        · simp; omega
        · simp; omega

theorem unfL_pos (ss : List RS) (n : Nat) (out : List RS) (i : Int) (h : i.toNat < ss.length) : out.length + 1 ≤ (unfL ss (n + 1) out i).length := by
  rw [unfL, List.getElem?_eq_getElem h]
  have h1 := unfL_len ss n out ss[i.toNat].left
  have h2 := unfL_len ss n (unfL ss n out ss[i.toNat].left) ss[i.toNat].right
  simp only []
  split
  · simp
  · split
    · simp; omega
    · simp; omega
theorem unfL_pos' (ss : List RS) (n : Nat) (out : List RS) (i : Int) (h : i.toNat < ss.length) (hn : 0 < n) : out.length + 1 ≤ (unfL ss n out i).length := by
  obtain ⟨m, rfl⟩ : ∃ m, n = m + 1 := ⟨n - 1, by omega⟩
  exact unfL_pos ss m out i h
theorem res_ax {s : RS} (h : axB s = true) : resB s = false := by
  have h' : s.left < 0 := by simpa [axB] using h
  simp [resB]; omega

/-- the unfolding that gives up beyond 200 -/
def Cut200 (full out : List RS) : Prop := (full.length ≤ 200 → out = full) ∧ (200 < full.length → 200 < out.length) ∧ out.length ≤ 201
def UnfE (w0 : World) (B : Nat) (w : World) (vo : Value) (R : List RS → Prop) (e : Ending) (w' : World) : Prop :=
  ∃ r out, e = .returned r ∧ R out ∧ OwnS w' B r out ∧ w.grownBy w' vo.ownBlock ∧ (∀ j, r.ownBlock = some j → w.heap.size ≤ j ∨ vo.ownBlock = some j)

theorem OwnS.form {w : World} {B : Nat} {v : Value} {ss : List RS} (h : OwnS w B v ss) : ∃ base cap, v = .slice base ss.length cap ∧ ss.length ≤ cap ∧ cap ≤ 9223372036854775807 := by
  obtain ⟨base, cap, h1, h2, h3, _⟩ := h.steps.open
  exact ⟨base, cap, h1, h2, h3⟩
theorem ext_grown {w0 w w' : World} {B : Nat} {v : Value} {ss : List RS} (h : Ext w0 w) (ho : OwnS w B v ss) (hB : w0.heap.size ≤ B) (hg : w.grownBy w' v.ownBlock) : Ext w0 w' :=
  Below.grown h hg h.size (fun k hk => by have := ho.lt k hk; omega)

theorem ext_any {w w' : World} (h : Ext w w') (row : Option Nat) : w.grownBy w' row := ⟨h.os, h.tape, h.output, h.size, fun k hk _ => Below.block h k hk⟩
theorem own_pick {v v' : Value} {m n : Nat} (h : v'.ownBlock = v.ownBlock ∨ v'.ownBlock = some m) (hm : n ≤ m) : ∀ j, v'.ownBlock = some j → n ≤ j ∨ v.ownBlock = some j := by
  intro j hj
  rcases h with h | h
  · exact .inr (by rw [← h]; exact hj)
  · rw [h] at hj
    injection hj with hj
    omega

/-- a frame of an unfolding: entered at w with out at vo; now at w' with o at r; the step's own block is sb -/
structure Fr (w0 : World) (B sb : Nat) (vo r : Value) (o : List RS) (w w' : World) (cv : Value) (c : List Int) (l rr p : Int) : Prop where
  ext : Ext w0 w'
  own : OwnS w' B r o
  blk : SBlk w' sb cv l rr p
  ints : Ints w' cv c
  grown : w.grownBy w' vo.ownBlock
  pick : ∀ j, r.ownBlock = some j → w.heap.size ≤ j ∨ vo.ownBlock = some j
  ne : r.ownBlock ≠ some sb
  sbge : w.heap.size ≤ sb
  bl : w0.heap.size ≤ B
  w0le : w0.heap.size ≤ w.heap.size
section
variable {w0 : World} {B sb : Nat} {vo r : Value} {o : List RS} {w w' w'' : World} {cv : Value} {c : List Int} {l rr p : Int}
theorem Fr.more (h : Fr w0 B sb vo r o w w' cv c l rr p) (hx : Ext w' w'') : Fr w0 B sb vo r o w w'' cv c l rr p :=
  ⟨h.ext.trans hx, h.own.ext hx, h.blk.ext hx, h.ints.ext hx, World.grownBy.trans h.grown (ext_any hx _), h.pick, h.ne, h.sbge, h.bl, h.w0le⟩
theorem grown_fresh {a b c : World} {row : Option Nat} {k : Nat} (h : a.grownBy b row) (hk : b.grownBy c (some k)) (hge : a.heap.size ≤ k) : a.grownBy c row :=
  World.grownBy.andThen h hk (fun j hj => by injection hj with hj; left; omega)
theorem Fr.turn (h : Fr w0 B sb vo r o w w' cv c l rr p) {cv' : Value} {c' : List Int} {l' rr' p' : Int} (hg : w'.grownBy w'' (some sb)) (hb : SBlk w'' sb cv' l' rr' p') (hi : Ints w' cv' c') : Fr w0 B sb vo r o w w'' cv' c' l' rr' p' where
  ext := Below.grown h.ext hg h.ext.size (fun k hk => by
    injection hk with hk
    have h1 := h.sbge
    have h2 := h.w0le
    omega)
  own := h.own.beside h.blk hg h.ne
  blk := hb
  ints := hi.turned hg (fun k hk => by injection hk with hk; subst hk; exact ⟨_, _, _, h.blk, by decide⟩)
  grown := grown_fresh h.grown hg h.sbge
  pick := h.pick
  ne := h.ne
  sbge := h.sbge
  bl := h.bl
  w0le := h.w0le
theorem Fr.set1 (h : Fr w0 B sb vo r o w w' cv c l rr p) (x : Int) : Fr w0 B sb vo r o w (w'.setCell ⟨sb, 1, none⟩ (.int .i64 x)) cv c x rr p := h.turn (grown_set _ _ _ _) (h.blk.set1 x) h.ints
theorem Fr.set2 (h : Fr w0 B sb vo r o w w' cv c l rr p) (x : Int) : Fr w0 B sb vo r o w (w'.setCell ⟨sb, 2, none⟩ (.int .i64 x)) cv c l x p := h.turn (grown_set _ _ _ _) (h.blk.set2 x) h.ints
theorem Fr.set0 (h : Fr w0 B sb vo r o w w' cv c l rr p) {u : Value} {d : List Int} (hu : Ints w' u d) : Fr w0 B sb vo r o w (w'.setCell ⟨sb, 0, none⟩ u) u d l rr p := h.turn (grown_set _ _ _ _) (h.blk.set0 u) hu
theorem Fr.done (h : Fr w0 B sb vo r o w w' cv c l rr p) {x : Obj} {v' : Value} (hg : (w'.alloc x).grownBy w'' r.ownBlock) (hat : v'.ownBlock = r.ownBlock ∨ v'.ownBlock = some (w'.alloc x).heap.size) :
    w.grownBy w'' vo.ownBlock ∧ ∀ j, v'.ownBlock = some j → w.heap.size ≤ j ∨ vo.ownBlock = some j := by
  refine ⟨World.grownBy.andThen (World.grownBy.trans h.grown (World.grownBy_alloc w' x _)) hg h.pick, fun j hj => ?_⟩
  rcases hat with e | e
  · rw [e] at hj
    exact h.pick j hj
  · rw [e] at hj
    injection hj with hj
    have := h.grown.size
    simp at hj
    left; omega
theorem Fr.call (h : Fr w0 B sb vo r o w w' cv c l rr p) {r' : Value} {o' : List RS} (ho : OwnS w'' B r' o') (hg : w'.grownBy w'' r.ownBlock) (hp : ∀ j, r'.ownBlock = some j → w'.heap.size ≤ j ∨ r.ownBlock = some j) : Fr w0 B sb vo r' o' w w'' cv c l rr p where
  ext := ext_grown h.ext h.own h.bl hg
  own := ho
  blk := h.blk.grown hg h.ne
  ints := h.ints.turned hg (fun b hb => by
    obtain ⟨cvs, _, hr, _⟩ := h.own
    obtain ⟨cur, fz, h2⟩ := ownsRow_type hr b hb
    exact ⟨cur, fz, _, h2, by decide⟩)
  grown := World.grownBy.andThen h.grown hg h.pick
  pick := fun j hj => by
    rcases hp j hj with h1 | h1
    · have := h.grown.size
      left; omega
    · exact h.pick j h1
  ne := fun e => by
    rcases hp sb e with h1 | h1
    · have := h.blk.lt; omega
    · exact h.ne h1
  sbge := h.sbge
  bl := h.bl
  w0le := h.w0le
end

theorem steps_oneS {w : World} {a : Addr} {y u : Value} {s : RS} (h : Ints (w.setCell a y) u s.clause) : Steps ((w.setCell a y).alloc (.cells #[u, .int .i64 s.left, .int .i64 s.right, .int .i64 s.pivot] 40)) (.slice (some ⟨w.heap.size, 0, none⟩) 1 1) [s] := by
  have h2 := steps_one h
  rw [show (w.setCell a y).heap.size = w.heap.size by simp] at h2
  exact h2

set_option maxRecDepth 100000 in
set_option maxHeartbeats 2000000 in
theorem l8Unfold_any (ss : List RS) (hpre : PreOk ss) (hcl : ∀ s ∈ ss, s.clause.length ≤ 1000000) (w0 : World) (vs : Value) (hs : Steps w0 vs ss) (B : Nat) (hB : w0.heap.size ≤ B) (hn : ss.length ≤ 100000) :
    ∀ (n : Nat) (i : Int), 0 ≤ i → i < n → i < ss.length → ∀ (vo : Value) (out : List RS) (w : World), OwnS w B vo out → out.length ≤ 200 → Ext w0 w → B ≤ w.heap.size →
      Calls Tryz.prog 45 #[vs, .int .i64 i, vo] w (UnfE w0 B w vo (Cut200 (unfL ss n out i))) := by
  obtain ⟨base, cap, rfl, hc1, hc2, hcell⟩ := hs.open
  intro n
  induction n with
  | zero => intro i h0 h; omega
  | succ n ih =>
    intro i hi0 hin hil vo out w ho hol hx0 hBw
    obtain ⟨b, off, rfl, hb, hcs⟩ := hcell i.toNat (by omega)
    obtain ⟨s, u, hsi, hci⟩ := hcs i.toNat (by omega)
    have hSV : ∀ w', Ext w0 w' → StepV w' (.agg #[u, .int .i64 s.left, .int .i64 s.right, .int .i64 s.pivot]) s := fun w' h => ⟨_, rfl, (hci _ h).2.2.2.2⟩
    obtain ⟨hu0, hu1, hu2, hu3, hcI⟩ := hci w hx0
    obtain ⟨ub, uc, rfl, _, _, _⟩ := hcI.open
    have hsl : s.clause.length ≤ 1000000 := hcl s (List.mem_of_getElem? hsi)
    have HPk := Lib.hid (hpre _ s hsi)
    have HU := Lib.hid (show unfL ss (n + 1) out i = if axB s = true then out ++ [s]
      else if resB s = true then
        unfL ss n (unfL ss n out s.left) s.right ++ [{ s with left := ((unfL ss n out s.left).length : Int) - 1, right := ((unfL ss n (unfL ss n out s.left) s.right).length : Int) - 1 }]
      else unfL ss n out s.left ++ [{ s with left := ((unfL ss n out s.left).length : Int) - 1 }] by rw [unfL, hsi])
    have HIH := Lib.hid ih
    have hoB := ho.lt
    clear ih hcell hcs hci hsi hcl hpre
    cases ha : axB s
    · obtain ⟨ob, oc, rfl, hoc1, hoc2⟩ := ho.form
      obtain ⟨hl0, hl1⟩ := HPk.out _ (prem_left ha)
      have hO1p := unfL_pos' ss n out s.left (by omega) (by omega)
      obtain ⟨O1, hO1⟩ : ∃ O1, unfL ss n out s.left = O1 := ⟨_, rfl⟩
      rw [hO1] at hO1p
      have HO1 := Lib.hid hO1
      by_cases hL : O1.length ≤ 200
      · have hw1 : IntKind.i64.wrap ((O1.length : Int) - 1) = (O1.length : Int) - 1 := IntWalk.i64_in _ ⟨by omega, by omega⟩
        cases hr : resB s
        · have hrs : resB { s with left := (O1.length : Int) - 1 } = false := by
            have : s.right < 0 := by
              have := ha; have := hr
              simp [axB] at ha; simp [resB] at hr; omega
            simp [resB]; omega
          have HUU := Lib.hid (show unfL ss (n + 1) out i = O1 ++ [{ s with left := (O1.length : Int) - 1 }] by rw [HU.out, if_neg (by simp [ha]), if_neg (by simp [hr]), hO1])
          clear hO1 HU
          go_enter Tryz.func45, Tryz.ntmps45
          go_wp2_with (first
            | (go_at_call 81; refine (l8Copy_any _ s _ (hSV _ hx0) (by omega)).mono ?_; rintro e w1 ⟨cb, cc, rfl, hcI1, he1⟩) | (go_at_call 76; refine (l8Axiom_any _ s _ ⟨_, rfl, hcI1.ext (by repeat (first | exact Ext.refl _ | assumption | apply Ext.dn | apply Ext.drew | apply Ext.alloc))⟩).mono ?_; rw [ha]; rintro e w2 ⟨rfl, he2⟩; have hE2 : Ext w w2 := Ext.trans (by repeat (first | exact Ext.refl _ | assumption | apply Ext.dn | apply Ext.drew | apply Ext.alloc)) he2; have hF : Fr w0 B w1.heap.size (.slice ob out.length oc) (.slice ob out.length oc) out w w2 (.slice cb s.clause.length cc) s.clause s.left s.right s.pivot := ⟨hx0.trans hE2, ho.ext hE2, (SBlk.made w1 (.slice cb s.clause.length cc) s.left s.right s.pivot).ext he2, hcI1.ext (Ext.trans (by repeat (first | exact Ext.refl _ | assumption | apply Ext.dn | apply Ext.drew | apply Ext.alloc)) he2), ext_any hE2 _, fun j hj => .inr hj, fun e => by have := hoB _ e; have := he1.size; omega, he1.size, hB, hx0.size⟩; obtain ⟨c0, c1, c2, c3⟩ := hF.blk.cells; have f0 := hF.blk.frozen 0; have f1 := hF.blk.frozen 1; have f2 := hF.blk.frozen 2) | ((go_at_call 45; refine (HIH.out s.left hl0 (by omega) (by omega) _ out _ hF.own hol hF.ext (by have := hF.grown.size; omega)).mono ?_; rintro e w3 ⟨r3, o3, rfl, hR3, ho3, hg3, hp3⟩; replace hF := hF.call ho3 hg3 hp3; obtain ⟨rb3, rc3, rfl, _, _⟩ := ho3.form; obtain ⟨c0, c1, c2, c3⟩ := hF.blk.cells; have f0 := hF.blk.frozen 0; have f1 := hF.blk.frozen 1; have f2 := hF.blk.frozen 2); obtain rfl : o3 = O1 := (hR3.1 (by rw [HO1.out]; exact hL)).trans HO1.out) | (go_at_call 66; refine (l8Resolvent_any _ { s with left := (o3.length : Int) - 1 } _ ⟨.slice cb s.clause.length cc, rfl, (hF.set1 _).ints⟩).mono ?_; rw [hrs]; rintro e w4 ⟨rfl, he4⟩; replace hF := (hF.set1 _).more he4; obtain ⟨c0, c1, c2, c3⟩ := hF.blk.cells; have f0 := hF.blk.frozen 0; have f1 := hF.blk.frozen 1; have f2 := hF.blk.frozen 2)
            | (at_builtin; refine wpList_appS rfl _ _ rfl B (.slice rb3 o3.length rc3) _ o3 [{ s with left := (o3.length : Int) - 1 }] rfl rfl (hF.own.ext (by repeat (first | exact Ext.refl _ | assumption | apply Ext.dn | apply Ext.drew | apply Ext.alloc))) (steps_one hF.ints) (by simp; omega) (by have := hF.grown.size; simp; omega) ?_; intro v' w5 ho5 hg5 hat5))
          go_ret
          obtain ⟨d1, d2⟩ := hF.done hg5 hat5
          exact ⟨_, _, rfl, by rw [HUU.out]; exact ⟨fun _ => rfl, fun h => h, by simp; omega⟩, ho5, d1, d2⟩
        · have hrs : resB { s with left := (O1.length : Int) - 1 } = true := by
            simp [resB] at hr ⊢; omega
          obtain ⟨hr0, hr1⟩ := HPk.out _ (prem_right ha hr)
          obtain ⟨O2, hO2⟩ : ∃ O2, unfL ss n O1 s.right = O2 := ⟨_, rfl⟩
          have hO2p := unfL_len ss n O1 s.right
          rw [hO2] at hO2p
          have HO2 := Lib.hid hO2
          have HUU := Lib.hid (show unfL ss (n + 1) out i = O2 ++ [{ s with left := (O1.length : Int) - 1, right := (O2.length : Int) - 1 }] by rw [HU.out, if_neg (by simp [ha]), if_pos hr, hO1, hO2])
          clear hO1 HU hO2
          by_cases hL2 : O2.length ≤ 200
          · have hw2 : IntKind.i64.wrap ((O2.length : Int) - 1) = (O2.length : Int) - 1 := IntWalk.i64_in _ ⟨by omega, by omega⟩
            go_enter Tryz.func45, Tryz.ntmps45
            go_wp2_with (first
              | (go_at_call 81; refine (l8Copy_any _ s _ (hSV _ hx0) (by omega)).mono ?_; rintro e w1 ⟨cb, cc, rfl, hcI1, he1⟩) | (go_at_call 76; refine (l8Axiom_any _ s _ ⟨_, rfl, hcI1.ext (by repeat (first | exact Ext.refl _ | assumption | apply Ext.dn | apply Ext.drew | apply Ext.alloc))⟩).mono ?_; rw [ha]; rintro e w2 ⟨rfl, he2⟩; have hE2 : Ext w w2 := Ext.trans (by repeat (first | exact Ext.refl _ | assumption | apply Ext.dn | apply Ext.drew | apply Ext.alloc)) he2; have hF : Fr w0 B w1.heap.size (.slice ob out.length oc) (.slice ob out.length oc) out w w2 (.slice cb s.clause.length cc) s.clause s.left s.right s.pivot := ⟨hx0.trans hE2, ho.ext hE2, (SBlk.made w1 (.slice cb s.clause.length cc) s.left s.right s.pivot).ext he2, hcI1.ext (Ext.trans (by repeat (first | exact Ext.refl _ | assumption | apply Ext.dn | apply Ext.drew | apply Ext.alloc)) he2), ext_any hE2 _, fun j hj => .inr hj, fun e => by have := hoB _ e; have := he1.size; omega, he1.size, hB, hx0.size⟩; obtain ⟨c0, c1, c2, c3⟩ := hF.blk.cells; have f0 := hF.blk.frozen 0; have f1 := hF.blk.frozen 1; have f2 := hF.blk.frozen 2) | ((go_at_call 45; refine (HIH.out s.right hr0 (by omega) (by omega) _ o3 _ hF.own hL hF.ext (by have := hF.grown.size; omega)).mono ?_; rintro e w5 ⟨r5, o5, rfl, hR5, ho5, hg5, hp5⟩; replace hF := hF.call ho5 hg5 hp5; obtain ⟨rb5, rc5, rfl, _, _⟩ := ho5.form; obtain ⟨c0, c1, c2, c3⟩ := hF.blk.cells; have f0 := hF.blk.frozen 0; have f1 := hF.blk.frozen 1; have f2 := hF.blk.frozen 2); obtain rfl : o5 = O2 := (hR5.1 (by rw [HO2.out]; exact hL2)).trans HO2.out)
              | ((go_at_call 45; refine (HIH.out s.left hl0 (by omega) (by omega) _ out _ hF.own hol hF.ext (by have := hF.grown.size; omega)).mono ?_; rintro e w3 ⟨r3, o3, rfl, hR3, ho3, hg3, hp3⟩; replace hF := hF.call ho3 hg3 hp3; obtain ⟨rb3, rc3, rfl, _, _⟩ := ho3.form; obtain ⟨c0, c1, c2, c3⟩ := hF.blk.cells; have f0 := hF.blk.frozen 0; have f1 := hF.blk.frozen 1; have f2 := hF.blk.frozen 2); obtain rfl : o3 = O1 := (hR3.1 (by rw [HO1.out]; exact hL)).trans HO1.out) | (go_at_call 66; refine (l8Resolvent_any _ { s with left := (o3.length : Int) - 1 } _ ⟨.slice cb s.clause.length cc, rfl, (hF.set1 _).ints⟩).mono ?_; rw [hrs]; rintro e w4 ⟨rfl, he4⟩; replace hF := (hF.set1 _).more he4; obtain ⟨c0, c1, c2, c3⟩ := hF.blk.cells; have f0 := hF.blk.frozen 0; have f1 := hF.blk.frozen 1; have f2 := hF.blk.frozen 2)
              | (at_builtin; refine wpList_appS rfl _ _ rfl B (.slice rb5 o5.length rc5) _ o5 [{ s with left := (o3.length : Int) - 1, right := (o5.length : Int) - 1 }] rfl rfl ((hF.set2 ((o5.length : Int) - 1)).own.ext (by repeat (first | exact Ext.refl _ | assumption | apply Ext.dn | apply Ext.drew | apply Ext.alloc))) (steps_oneS (s := { s with left := (o3.length : Int) - 1, right := (o5.length : Int) - 1 }) (hF.set2 ((o5.length : Int) - 1)).ints) (by simp; omega) (by have := hF.grown.size; simp; omega) ?_; intro v' w6 ho6 hg6 hat6))
            go_ret
            obtain ⟨d1, d2⟩ := (hF.set2 ((o5.length : Int) - 1)).done hg6 hat6
            exact ⟨_, _, rfl, by rw [HUU.out]; exact ⟨fun _ => rfl, fun h => h, by simp; omega⟩, ho6, d1, d2⟩
          · go_enter Tryz.func45, Tryz.ntmps45
            go_wp2_with (first
              | (go_at_call 81; refine (l8Copy_any _ s _ (hSV _ hx0) (by omega)).mono ?_; rintro e w1 ⟨cb, cc, rfl, hcI1, he1⟩) | (go_at_call 76; refine (l8Axiom_any _ s _ ⟨_, rfl, hcI1.ext (by repeat (first | exact Ext.refl _ | assumption | apply Ext.dn | apply Ext.drew | apply Ext.alloc))⟩).mono ?_; rw [ha]; rintro e w2 ⟨rfl, he2⟩; have hE2 : Ext w w2 := Ext.trans (by repeat (first | exact Ext.refl _ | assumption | apply Ext.dn | apply Ext.drew | apply Ext.alloc)) he2; have hF : Fr w0 B w1.heap.size (.slice ob out.length oc) (.slice ob out.length oc) out w w2 (.slice cb s.clause.length cc) s.clause s.left s.right s.pivot := ⟨hx0.trans hE2, ho.ext hE2, (SBlk.made w1 (.slice cb s.clause.length cc) s.left s.right s.pivot).ext he2, hcI1.ext (Ext.trans (by repeat (first | exact Ext.refl _ | assumption | apply Ext.dn | apply Ext.drew | apply Ext.alloc)) he2), ext_any hE2 _, fun j hj => .inr hj, fun e => by have := hoB _ e; have := he1.size; omega, he1.size, hB, hx0.size⟩; obtain ⟨c0, c1, c2, c3⟩ := hF.blk.cells; have f0 := hF.blk.frozen 0; have f1 := hF.blk.frozen 1; have f2 := hF.blk.frozen 2) | ((go_at_call 45; refine (HIH.out s.right hr0 (by omega) (by omega) _ o3 _ hF.own hL hF.ext (by have := hF.grown.size; omega)).mono ?_; rintro e w5 ⟨r5, o5, rfl, hR5, ho5, hg5, hp5⟩; replace hF := hF.call ho5 hg5 hp5; obtain ⟨rb5, rc5, rfl, _, _⟩ := ho5.form; obtain ⟨c0, c1, c2, c3⟩ := hF.blk.cells; have f0 := hF.blk.frozen 0; have f1 := hF.blk.frozen 1; have f2 := hF.blk.frozen 2); have hlen5 := hR5.2.1 (by rw [HO2.out]; omega))
              | ((go_at_call 45; refine (HIH.out s.left hl0 (by omega) (by omega) _ out _ hF.own hol hF.ext (by have := hF.grown.size; omega)).mono ?_; rintro e w3 ⟨r3, o3, rfl, hR3, ho3, hg3, hp3⟩; replace hF := hF.call ho3 hg3 hp3; obtain ⟨rb3, rc3, rfl, _, _⟩ := ho3.form; obtain ⟨c0, c1, c2, c3⟩ := hF.blk.cells; have f0 := hF.blk.frozen 0; have f1 := hF.blk.frozen 1; have f2 := hF.blk.frozen 2); obtain rfl : o3 = O1 := (hR3.1 (by rw [HO1.out]; exact hL)).trans HO1.out) | (go_at_call 66; refine (l8Resolvent_any _ { s with left := (o3.length : Int) - 1 } _ ⟨.slice cb s.clause.length cc, rfl, (hF.set1 _).ints⟩).mono ?_; rw [hrs]; rintro e w4 ⟨rfl, he4⟩; replace hF := (hF.set1 _).more he4; obtain ⟨c0, c1, c2, c3⟩ := hF.blk.cells; have f0 := hF.blk.frozen 0; have f1 := hF.blk.frozen 1; have f2 := hF.blk.frozen 2))
            go_ret
            exact ⟨_, o5, rfl, ⟨fun h => by rw [HUU.out] at h; simp at h; omega, fun _ => hlen5, hR5.2.2⟩, hF.own, hF.grown, hF.pick⟩
      · have HUU := Lib.hid (show 200 < (unfL ss (n + 1) out i).length by
          rw [HU.out, if_neg (by simp [ha]), hO1]
          have := unfL_len ss n O1 s.right
          split <;> simp <;> omega)
        clear hO1 HU
        go_enter Tryz.func45, Tryz.ntmps45
        go_wp2_with (first
          | (go_at_call 81; refine (l8Copy_any _ s _ (hSV _ hx0) (by omega)).mono ?_; rintro e w1 ⟨cb, cc, rfl, hcI1, he1⟩) | (go_at_call 76; refine (l8Axiom_any _ s _ ⟨_, rfl, hcI1.ext (by repeat (first | exact Ext.refl _ | assumption | apply Ext.dn | apply Ext.drew | apply Ext.alloc))⟩).mono ?_; rw [ha]; rintro e w2 ⟨rfl, he2⟩; have hE2 : Ext w w2 := Ext.trans (by repeat (first | exact Ext.refl _ | assumption | apply Ext.dn | apply Ext.drew | apply Ext.alloc)) he2; have hF : Fr w0 B w1.heap.size (.slice ob out.length oc) (.slice ob out.length oc) out w w2 (.slice cb s.clause.length cc) s.clause s.left s.right s.pivot := ⟨hx0.trans hE2, ho.ext hE2, (SBlk.made w1 (.slice cb s.clause.length cc) s.left s.right s.pivot).ext he2, hcI1.ext (Ext.trans (by repeat (first | exact Ext.refl _ | assumption | apply Ext.dn | apply Ext.drew | apply Ext.alloc)) he2), ext_any hE2 _, fun j hj => .inr hj, fun e => by have := hoB _ e; have := he1.size; omega, he1.size, hB, hx0.size⟩; obtain ⟨c0, c1, c2, c3⟩ := hF.blk.cells; have f0 := hF.blk.frozen 0; have f1 := hF.blk.frozen 1; have f2 := hF.blk.frozen 2) | ((go_at_call 45; refine (HIH.out s.left hl0 (by omega) (by omega) _ out _ hF.own hol hF.ext (by have := hF.grown.size; omega)).mono ?_; rintro e w3 ⟨r3, o3, rfl, hR3, ho3, hg3, hp3⟩; replace hF := hF.call ho3 hg3 hp3; obtain ⟨rb3, rc3, rfl, _, _⟩ := ho3.form; obtain ⟨c0, c1, c2, c3⟩ := hF.blk.cells; have f0 := hF.blk.frozen 0; have f1 := hF.blk.frozen 1; have f2 := hF.blk.frozen 2); have hlen3 := hR3.2.1 (by rw [HO1.out]; omega)))
        go_ret
        exact ⟨_, o3, rfl, ⟨fun h => by have := HUU.out; omega, fun _ => hlen3, hR3.2.2⟩, hF.own, hF.grown, hF.pick⟩
    · obtain ⟨ob, oc, rfl, hoc1, hoc2⟩ := ho.form
      go_enter Tryz.func45, Tryz.ntmps45
      go_wp2_with (first
        | (go_at_call 81; refine (l8Copy_any _ s _ (hSV _ hx0) (by omega)).mono ?_; rintro e w1 ⟨cb, cc, rfl, hcI1, he1⟩) | (go_at_call 76; refine (l8Axiom_any _ s _ ⟨_, rfl, hcI1.ext (by repeat (first | exact Ext.refl _ | assumption | apply Ext.dn | apply Ext.drew | apply Ext.alloc))⟩).mono ?_; rw [ha]; rintro e w2 ⟨rfl, he2⟩; have hE2 : Ext w w2 := Ext.trans (by repeat (first | exact Ext.refl _ | assumption | apply Ext.dn | apply Ext.drew | apply Ext.alloc)) he2; have hF : Fr w0 B w1.heap.size (.slice ob out.length oc) (.slice ob out.length oc) out w w2 (.slice cb s.clause.length cc) s.clause s.left s.right s.pivot := ⟨hx0.trans hE2, ho.ext hE2, (SBlk.made w1 (.slice cb s.clause.length cc) s.left s.right s.pivot).ext he2, hcI1.ext (Ext.trans (by repeat (first | exact Ext.refl _ | assumption | apply Ext.dn | apply Ext.drew | apply Ext.alloc)) he2), ext_any hE2 _, fun j hj => .inr hj, fun e => by have := hoB _ e; have := he1.size; omega, he1.size, hB, hx0.size⟩; obtain ⟨c0, c1, c2, c3⟩ := hF.blk.cells; have f0 := hF.blk.frozen 0; have f1 := hF.blk.frozen 1; have f2 := hF.blk.frozen 2) | (go_at_call 66; refine (l8Resolvent_any _ s _ ⟨_, rfl, hF.ints⟩).mono ?_; rw [res_ax ha]; rintro e w3 ⟨rfl, he3⟩; replace hF := hF.more he3; obtain ⟨c0, c1, c2, c3⟩ := hF.blk.cells; have f0 := hF.blk.frozen 0; have f1 := hF.blk.frozen 1; have f2 := hF.blk.frozen 2)
        | (at_builtin; refine wpList_appS rfl _ _ rfl B (.slice ob out.length oc) _ out [s] rfl rfl (hF.own.ext (by repeat (first | exact Ext.refl _ | assumption | apply Ext.dn | apply Ext.drew | apply Ext.alloc))) (steps_one hF.ints) (by simp; omega) (by have := hF.grown.size; simp; omega) ?_; intro v' w4 ho4 hg4 hat4))
      go_ret
      refine ⟨_, out ++ [s], rfl, ?_, ho4, ?_, ?_⟩
      · rw [HU.out, if_pos ha]
        exact ⟨fun _ => rfl, fun h => h, by simp; omega⟩
      · exact World.grownBy.trans (World.grownBy.trans hF.grown (World.grownBy_alloc _ _ _)) hg4
      · exact own_pick hat4 (by have := hF.grown.size; simp; omega)
end Go.Proofs.YtfnjhodologfeaaGreat
/- spec.UnfoldProof; rSteps -/
namespace Go.Proofs.YtfnjhodologfeaaGreat
open Go.RowKit

/-- the unfolded proof -/
def unfOf (ss : List RS) : List RS := unfL ss ss.length [] ((ss.length : Int) - 1)
def unfB (f : CNF) (ss : List RS) : Bool := takesB f ss && decide ((unfOf ss).length ≤ 200)
def NewSt (w : World) (ok : Bool) (q : List RS) (e : Ending) (w' : World) : Prop :=
  ∃ r, e = .returned (.tuple #[r, .bool ok]) ∧ Steps w' r (if ok then q else []) ∧ Ext w w'

theorem takes_cl {f : CNF} {ss : List RS} (h : takesB f ss = true) : ∀ s ∈ ss, clauseB f.vars s.clause = true := by
  intro s hs
  obtain ⟨k, hk, rfl⟩ := List.mem_iff_getElem.1 hs
  have := (takes_corr h).2 k hk
  simp only [correctB, List.getElem?_eq_getElem hk] at this
  unfold correctAt at this
  cases hc : clauseB f.vars ss[k].clause with
  | true => rfl
  | false => rw [if_pos hc] at this; cases this
theorem takes_clen {f : CNF} {ss : List RS} (h : takesB f ss = true) : ∀ s ∈ ss, s.clause.length ≤ 1000000 := by
  intro s hs
  have := clauseB_len (takes_cl h s hs)
  omega

set_option maxRecDepth 100000 in
set_option maxHeartbeats 1000000 in
theorem sUnfoldProof_any (v vs : Value) (f : CNF) (ss : List RS) (w : World) (hx : CnfV w v f) (hs : Steps w vs ss) :
    Calls Tryz.prog 8 #[v, vs] w (NewSt w (unfB f ss) (unfOf ss)) := by
  have hx0 := hx
  obtain ⟨cv, rfl, hl⟩ := hx
  obtain ⟨lb, lc, rfl, _, _, _⟩ := hl.open
  obtain ⟨sb, sc, rfl, hsc1, hsc2, _⟩ := hs.open
  have hvs : ∃ vs : Value, vs = .slice sb ss.length sc := ⟨_, rfl⟩
  obtain ⟨vs, hvs⟩ := hvs
  cases ht : takesB f ss
  · have HUB := Lib.hid (show unfB f ss = false by simp [unfB, ht])
    clear hvs
    go_enter Tryz.func8, Tryz.ntmps8
    go_wp2_with (go_at_call 44; refine (l8Takes_any _ _ f ss _ (hx0.ext (by repeat (first | exact Ext.refl _ | assumption | apply Ext.dn | apply Ext.drew | apply Ext.alloc))) (hs.ext (by repeat (first | exact Ext.refl _ | assumption | apply Ext.dn | apply Ext.drew | apply Ext.alloc)))).mono ?_; rw [ht]; rintro e w1 ⟨rfl, hd1⟩; obtain ⟨f0, f1, hE1⟩ := own2_cells hd1)
    go_ret2
    rw [HUB.out]
    exact ⟨_, rfl, (OwnS.empty w1 0 (Nat.zero_le _)).steps, hE1.alloc _⟩
  · have HT := Lib.hid ht
    have hlen := takes_len ht
    have hpos := (takes_corr ht).1.1
    have HUO := Lib.hid (show unfL ss ss.length [] ((ss.length : Int) - 1) = unfOf ss from rfl)
    have HUB := Lib.hid (show unfB f ss = decide ((unfOf ss).length ≤ 200) by simp [unfB, ht])
    clear hvs
    generalize unfOf ss = U at HUO HUB ⊢
    by_cases hU : U.length ≤ 200
    · go_enter Tryz.func8, Tryz.ntmps8
      go_wp2_with (first
        | (go_at_call 44; refine (l8Takes_any _ _ f ss _ (hx0.ext (by repeat (first | exact Ext.refl _ | assumption | apply Ext.dn | apply Ext.drew | apply Ext.alloc))) (hs.ext (by repeat (first | exact Ext.refl _ | assumption | apply Ext.dn | apply Ext.drew | apply Ext.alloc)))).mono ?_; rw [ht]; rintro e w1 ⟨rfl, hd1⟩; obtain ⟨f0, f1, hE1⟩ := own2_cells hd1)
        | (go_at_call 45; refine (l8Unfold_any ss (takes_pre HT.out) (takes_clen HT.out) w1 _ (hs.ext hE1) w1.heap.size (Nat.le_refl _) hlen ss.length ((ss.length : Int) - 1) (by omega) (by omega) (by omega) _ [] _ (OwnS.empty w1 _ (Nat.le_refl _)) (by simp) (by repeat (first | exact Ext.refl _ | assumption | apply Ext.dn | apply Ext.drew | apply Ext.alloc)) (by simp)).mono ?_; rintro e w2 ⟨r2, o2, rfl, hR2, ho2, hg2, _⟩; rw [HUO.out] at hR2; obtain ⟨rb2, rc2, rfl, _, _⟩ := ho2.form; have hE2 : Ext w w2 := ext_grown (hE1.alloc _) (OwnS.empty w1 _ (Nat.le_refl _)) hE1.size hg2; obtain rfl : o2 = U := hR2.1 hU))
      go_ret2
      have hb : unfB f ss = true := by rw [HUB.out]; simpa using hU
      rw [hb]
      exact ⟨_, rfl, ho2.steps, hE2⟩
    · go_enter Tryz.func8, Tryz.ntmps8
      go_wp2_with (first
        | (go_at_call 44; refine (l8Takes_any _ _ f ss _ (hx0.ext (by repeat (first | exact Ext.refl _ | assumption | apply Ext.dn | apply Ext.drew | apply Ext.alloc))) (hs.ext (by repeat (first | exact Ext.refl _ | assumption | apply Ext.dn | apply Ext.drew | apply Ext.alloc)))).mono ?_; rw [ht]; rintro e w1 ⟨rfl, hd1⟩; obtain ⟨f0, f1, hE1⟩ := own2_cells hd1)
        | (go_at_call 45; refine (l8Unfold_any ss (takes_pre HT.out) (takes_clen HT.out) w1 _ (hs.ext hE1) w1.heap.size (Nat.le_refl _) hlen ss.length ((ss.length : Int) - 1) (by omega) (by omega) (by omega) _ [] _ (OwnS.empty w1 _ (Nat.le_refl _)) (by simp) (by repeat (first | exact Ext.refl _ | assumption | apply Ext.dn | apply Ext.drew | apply Ext.alloc)) (by simp)).mono ?_; rintro e w2 ⟨r2, o2, rfl, hR2, ho2, hg2, _⟩; rw [HUO.out] at hR2; obtain ⟨rb2, rc2, rfl, _, _⟩ := ho2.form; have hE2 : Ext w w2 := ext_grown (hE1.alloc _) (OwnS.empty w1 _ (Nat.le_refl _)) hE1.size hg2; have hU2 := hR2.2.1 (by omega)))
      go_ret2
      have hb : unfB f ss = false := by rw [HUB.out]; simpa using hU
      rw [hb]
      exact ⟨_, rfl, (OwnS.empty w2 0 (Nat.zero_le _)).steps, hE2.alloc _⟩
end Go.Proofs.YtfnjhodologfeaaGreat
