/- Parts of the proof: C1, Shelf, B6, B7. -/
import Derived.Test.YtfnjhodologfeaaGreatG06
import Derived.Test.YtfnjhodologfeaaGreatG05
import Derived.Test.YtfnjhodologfeaaGreatProg
import Derived.Ground.SlsfProg
import Derived.Ground.SlgfProg
import Derived.Ground.Names2Prog
import Derived.Shelf.SlSortCmp.NoneTotal
import Derived.Shelf.SlicesE.DeleteFunc
import Derived.Shelf.Slices.CompactI
import Derived.Shelf.Slices.Reverse
import Derived.Handy
set_option linter.unusedSimpArgs false
set_option linter.unusedVariables false
/- methods of a step; stepUses, StepUses -/
namespace Go.Proofs.YtfnjhodologfeaaGreat
open Go.RowKit

def axB (s : RS) : Bool := decide (s.left < 0)
def wkB (s : RS) : Bool := decide (0 ≤ s.left) && decide (s.right < 0)
def resB (s : RS) : Bool := decide (0 ≤ s.left) && decide (0 ≤ s.right)
/-- the premises of a step -/
def premL (s : RS) : List Int := if s.left < 0 then [] else if s.right < 0 then [s.left] else [s.left, s.right]

theorem StepV.open {w : World} {v : Value} {s : RS} (h : StepV w v s) : ∃ ub uc, v = .agg #[.slice ub s.clause.length uc, .int .i64 s.left, .int .i64 s.right, .int .i64 s.pivot] ∧ Ints w (.slice ub s.clause.length uc) s.clause := by
  obtain ⟨cv, rfl, h2⟩ := h
  obtain ⟨ub, uc, rfl, _⟩ := h2.open
  exact ⟨ub, uc, rfl, h2⟩

set_option maxHeartbeats 400000 in
theorem isAxiom_any (v : Value) (s : RS) (w : World) (hv : StepV w v s) :
    Calls Tryz.prog 49 #[v] w (BoolE w (axB s)) := by
  obtain ⟨ub, uc, rfl, _⟩ := hv.open
  go_enter Tryz.func49, Tryz.ntmps49
  go_wp2
  go_ret
  exact boolE rfl (by repeat (first | exact Ext.refl _ | assumption | apply Ext.dn | apply Ext.drew | apply Ext.alloc))

set_option maxHeartbeats 400000 in
theorem isWeakening_any (v : Value) (s : RS) (w : World) (hv : StepV w v s) :
    Calls Tryz.prog 107 #[v] w (BoolE w (wkB s)) := by
  obtain ⟨ub, uc, rfl, _⟩ := hv.open
  by_cases h : 0 ≤ s.left
  all_goals
    go_enter Tryz.func107, Tryz.ntmps107
    go_wp2
    go_ret
  · exact boolE (by simp [wkB, h]) (by repeat (first | exact Ext.refl _ | assumption | apply Ext.dn | apply Ext.drew | apply Ext.alloc))
  · exact boolE (by have : ¬ 0 ≤ s.left := by omega
                    simp [wkB, this]) (by repeat (first | exact Ext.refl _ | assumption | apply Ext.dn | apply Ext.drew | apply Ext.alloc))

set_option maxHeartbeats 400000 in
theorem isResolvent_any (v : Value) (s : RS) (w : World) (hv : StepV w v s) :
    Calls Tryz.prog 58 #[v] w (BoolE w (resB s)) := by
  obtain ⟨ub, uc, rfl, _⟩ := hv.open
  by_cases h : 0 ≤ s.left
  all_goals
    go_enter Tryz.func58, Tryz.ntmps58
    go_wp2
    go_ret
  · exact boolE (by simp [resB, h]) (by repeat (first | exact Ext.refl _ | assumption | apply Ext.dn | apply Ext.drew | apply Ext.alloc))
  · exact boolE (by have : ¬ 0 ≤ s.left := by omega
                    simp [resB, this]) (by repeat (first | exact Ext.refl _ | assumption | apply Ext.dn | apply Ext.drew | apply Ext.alloc))

theorem own4_cells {w w1 : World} {b0 b1 b2 b3 : Value} {t2 : TypeId} (h : Ext (w.alloc (.cells #[b0, b1, b2, b3] t2)) w1) :
    w1.cell? ⟨w.heap.size, 0, none⟩ = some b0 ∧ w1.cell? ⟨w.heap.size, 1, none⟩ = some b1 ∧ w1.cell? ⟨w.heap.size, 2, none⟩ = some b2 ∧ w1.cell? ⟨w.heap.size, 3, none⟩ = some b3 ∧ Ext w w1 :=
  ⟨h.cell (by simp), h.cell (by simp), h.cell (by simp), h.cell (by simp), Ext.trans ((Ext.refl _).alloc _) h⟩

set_option maxHeartbeats 1000000 in
theorem premises_any (v : Value) (s : RS) (w : World) (hv : StepV w v s) :
    Calls Tryz.prog 78 #[v] w (NewI w (premL s)) := by
  have hv0 := hv
  obtain ⟨ub, uc, rfl, _⟩ := hv.open
  cases ha : axB s
  · have ha' : ¬ s.left < 0 := by simpa [axB] using ha
    cases hw : wkB s
    · have hw' : ¬ s.right < 0 := by
        have : 0 ≤ s.left := by omega
        simpa [wkB, this] using hw
      have HP := Lib.hid (show premL s = [s.left, s.right] by simp [premL, ha', hw'])
      go_enter Tryz.func78, Tryz.ntmps78
      go_wp2_with (first
        | (go_at_call 49; refine (isAxiom_any _ s _ (hv0.ext (by repeat (first | exact Ext.refl _ | assumption | apply Ext.dn | apply Ext.drew | apply Ext.alloc)))).mono ?_; rw [ha]; rintro e w1 ⟨rfl, hd1⟩; obtain ⟨g0, g1, g2, g3, hE1⟩ := own4_cells hd1)
        | (go_at_call 107; refine (isWeakening_any _ s _ (hv0.ext (by repeat (first | exact Ext.refl _ | assumption | apply Ext.dn | apply Ext.drew | apply Ext.alloc)))).mono ?_; rw [hw]; rintro e w2 ⟨rfl, hd2⟩; obtain ⟨g0, g1, g2, g3, hE2⟩ := own4_cells (hd1.trans hd2)))
      go_ret
      rw [HP.out]
      exact ⟨_, rfl, World.ownsRow_lit w2 _ 2 hE2.size (by simp [maxLen]) rfl, hE2.alloc _⟩
    · have hw' : s.right < 0 := by
        have : 0 ≤ s.left := by omega
        simpa [wkB, this] using hw
      have HP := Lib.hid (show premL s = [s.left] by simp [premL, ha', hw'])
      go_enter Tryz.func78, Tryz.ntmps78
      go_wp2_with (first
        | (go_at_call 49; refine (isAxiom_any _ s _ (hv0.ext (by repeat (first | exact Ext.refl _ | assumption | apply Ext.dn | apply Ext.drew | apply Ext.alloc)))).mono ?_; rw [ha]; rintro e w1 ⟨rfl, hd1⟩; obtain ⟨g0, g1, g2, g3, hE1⟩ := own4_cells hd1)
        | (go_at_call 107; refine (isWeakening_any _ s _ (hv0.ext (by repeat (first | exact Ext.refl _ | assumption | apply Ext.dn | apply Ext.drew | apply Ext.alloc)))).mono ?_; rw [hw]; rintro e w2 ⟨rfl, hd2⟩; obtain ⟨g0, g1, g2, g3, hE2⟩ := own4_cells (hd1.trans hd2)))
      go_ret
      rw [HP.out]
      exact ⟨_, rfl, World.ownsRow_lit w2 _ 1 hE2.size (by simp [maxLen]) rfl, hE2.alloc _⟩
  · have ha' : s.left < 0 := by simpa [axB] using ha
    have HP := Lib.hid (show premL s = [] by simp [premL, ha'])
    go_enter Tryz.func78, Tryz.ntmps78
    go_wp2_with (go_at_call 49; refine (isAxiom_any _ s _ (hv0.ext (by repeat (first | exact Ext.refl _ | assumption | apply Ext.dn | apply Ext.drew | apply Ext.alloc)))).mono ?_; rw [ha]; rintro e w1 ⟨rfl, hd1⟩; obtain ⟨g0, g1, g2, g3, hE1⟩ := own4_cells hd1)
    go_ret
    rw [HP.out]
    exact ⟨_, rfl, OwnI.nil _ _, hE1⟩
end Go.Proofs.YtfnjhodologfeaaGreat
/-
  DERIVED: THE SHELF's CONTRACTS AT THIS DUMP, IN PLAIN WORDS (tools/lay-plain.mjs out of 'TryzShelf.lean', which tools/lay-shelf.mjs wrote): THE SAME DECLARATIONS UNDER THE SAME NAMES: 'import', 'namespace', 'open', 'def', 'theorem' AND NOTHING ELSE: no command of the shelf's: FOR A HAND-IN. Each laying: the table of numbers ('.._ren') and one theorem, a field a fact of the dump's own or the kernel's comparison; each contract: ONE APPLICATION.
-/
namespace Go.Proofs
open Go.Shelf
def Tryz.sortFuncL_ren : Go.Shelf.Ren := ⟨fun | 6 => 183 | 15 => 123 | 14 => 187 | 28 => 153 | 29 => 154 | 20 => 190 | 21 => 191 | 22 => 192 | 23 => 193 | 24 => 194 | 25 => 195 | 26 => 196 | 27 => 197 | 46 => 198 | 47 => 171 | 48 => 172 | 49 => 199 | 50 => 200 | 57 => 201 | n => n, fun | 22 => 33 | 24 => 3 | 25 => 82 | 3 => 3 | 39 => 110 | 0 => 0 | 53 => 126 | 55 => 61 | 4 => 4 | 46 => 120 | 45 => 119 | 50 => 44 | 5 => 5 | 9 => 9 | 66 => 136 | 70 => 140 | 76 => 145 | 77 => 146 | n => n, fun | n => n⟩
theorem Tryz.sortFuncL : Go.Proofs.SlLaysF.n6 Tryz.prog Tryz.sortFuncL_ren := {
  mixed := by kernel_rfl
  f6 := ⟨Tryz.f183.name, by decide, Tryz.func183.trans (congrArg some (by kernel_rfl))⟩
  f14 := ⟨Tryz.f187.name, by decide, Tryz.func187.trans (congrArg some (by kernel_rfl))⟩
  f15 := Tryz.func123.trans (congrArg some (by kernel_rfl))
  f20 := ⟨Tryz.f190.name, by decide, Tryz.func190.trans (congrArg some (by kernel_rfl))⟩
  f21 := ⟨Tryz.f191.name, by decide, Tryz.func191.trans (congrArg some (by kernel_rfl))⟩
  f22 := ⟨Tryz.f192.name, by decide, Tryz.func192.trans (congrArg some (by kernel_rfl))⟩
  f23 := ⟨Tryz.f193.name, by decide, Tryz.func193.trans (congrArg some (by kernel_rfl))⟩
  f24 := ⟨Tryz.f194.name, by decide, Tryz.func194.trans (congrArg some (by kernel_rfl))⟩
  f25 := ⟨Tryz.f195.name, by decide, Tryz.func195.trans (congrArg some (by kernel_rfl))⟩
  f26 := ⟨Tryz.f196.name, by decide, Tryz.func196.trans (congrArg some (by kernel_rfl))⟩
  f27 := ⟨Tryz.f197.name, by decide, Tryz.func197.trans (congrArg some (by kernel_rfl))⟩
  f28 := Tryz.func153.trans (congrArg some (by kernel_rfl))
  f29 := Tryz.func154.trans (congrArg some (by kernel_rfl))
  f46 := ⟨Tryz.f198.name, by decide, Tryz.func198.trans (congrArg some (by kernel_rfl))⟩
  f47 := Tryz.func171.trans (congrArg some (by kernel_rfl))
  f48 := Tryz.func172.trans (congrArg some (by kernel_rfl))
  f49 := ⟨Tryz.f199.name, by decide, Tryz.func199.trans (congrArg some (by kernel_rfl))⟩
  f50 := ⟨Tryz.f200.name, by decide, Tryz.func200.trans (congrArg some (by kernel_rfl))⟩
  f57 := ⟨Tryz.f201.name, by decide, Tryz.func201.trans (congrArg some (by kernel_rfl))⟩
  t0 := Tryz.underlying0
  a0 := Tryz.isAgg0
  z0 := Tryz.sizeOf0
  v0 := Tryz.zeroValue0
  t3 := Tryz.underlying3
  a3 := Tryz.isAgg3
  z3 := Tryz.sizeOf3
  v3 := Tryz.zeroValue3
  t4 := Tryz.underlying4
  a4 := Tryz.isAgg4
  z4 := Tryz.sizeOf4
  v4 := Tryz.zeroValue4
  t5 := Tryz.underlying5
  a5 := Tryz.isAgg5
  z5 := Tryz.sizeOf5
  v5 := Tryz.zeroValue5
  t9 := Tryz.underlying9
  a9 := Tryz.isAgg9
  z9 := Tryz.sizeOf9
  v9 := Tryz.zeroValue9
  t22 := Tryz.underlying33
  a22 := Tryz.isAgg33
  z22 := Tryz.sizeOf33
  v22 := Tryz.zeroValue33
  a24 := Tryz.isAgg3
  z24 := Tryz.sizeOf3
  t25 := Tryz.underlying82
  a25 := Tryz.isAgg82
  z25 := Tryz.sizeOf82
  v25 := Tryz.zeroValue82
  t39 := Tryz.underlying110
  a39 := Tryz.isAgg110
  z39 := Tryz.sizeOf110
  v39 := Tryz.zeroValue110
  t45 := Tryz.underlying119
  a45 := Tryz.isAgg119
  z45 := Tryz.sizeOf119
  v45 := Tryz.zeroValue119
  t46 := Tryz.underlying120
  a46 := Tryz.isAgg120
  z46 := Tryz.sizeOf120
  v46 := Tryz.zeroValue120
  t50 := Tryz.underlying44
  a50 := Tryz.isAgg44
  z50 := Tryz.sizeOf44
  v50 := Tryz.zeroValue44
  t53 := Tryz.underlying126
  a53 := Tryz.isAgg126
  z53 := Tryz.sizeOf126
  v53 := Tryz.zeroValue126
  t55 := Tryz.underlying61
  a55 := Tryz.isAgg61
  z55 := Tryz.sizeOf61
  v55 := Tryz.zeroValue61
  t66 := Tryz.underlying136
  a66 := Tryz.isAgg136
  z66 := Tryz.sizeOf136
  v66 := Tryz.zeroValue136
  t70 := Tryz.underlying140
  a70 := Tryz.isAgg140
  z70 := Tryz.sizeOf140
  v70 := Tryz.zeroValue140
  t76 := Tryz.underlying145
  a76 := Tryz.isAgg145
  z76 := Tryz.sizeOf145
  v76 := Tryz.zeroValue145
  t77 := Tryz.underlying146
  a77 := Tryz.isAgg146
  z77 := Tryz.sizeOf146
  v77 := Tryz.zeroValue146 }
def Tryz.delFuncL_ren : Go.Shelf.Ren := ⟨fun | 10 => 185 | 6 => 96 | n => n, fun | 22 => 33 | 23 => 3 | 25 => 71 | 3 => 3 | 4 => 4 | 0 => 0 | n => n, fun | n => n⟩
theorem Tryz.delFuncL : Go.Proofs.SlLaysH.n10 Tryz.prog Tryz.delFuncL_ren := {
  mixed := by kernel_rfl
  f6 := ⟨Tryz.f96.name, by decide, Tryz.func96.trans (congrArg some (by kernel_rfl))⟩
  f10 := ⟨Tryz.f185.name, by decide, Tryz.func185.trans (congrArg some (by kernel_rfl))⟩
  t0 := Tryz.underlying0
  a0 := Tryz.isAgg0
  z0 := Tryz.sizeOf0
  v0 := Tryz.zeroValue0
  t3 := Tryz.underlying3
  a3 := Tryz.isAgg3
  z3 := Tryz.sizeOf3
  v3 := Tryz.zeroValue3
  t4 := Tryz.underlying4
  a4 := Tryz.isAgg4
  z4 := Tryz.sizeOf4
  v4 := Tryz.zeroValue4
  t22 := Tryz.underlying33
  a22 := Tryz.isAgg33
  z22 := Tryz.sizeOf33
  v22 := Tryz.zeroValue33
  a23 := Tryz.isAgg3
  z23 := Tryz.sizeOf3
  t25 := Tryz.underlying71
  a25 := Tryz.isAgg71
  z25 := Tryz.sizeOf71
  v25 := Tryz.zeroValue71 }
def Tryz.compactL_ren : Go.Shelf.Ren := ⟨fun | 20 => 125 | n => n, fun | 22 => 33 | 3 => 3 | 4 => 4 | 0 => 0 | n => n, fun | n => n⟩
theorem Tryz.compactL : Go.Proofs.Lays2.n20 Tryz.prog Tryz.compactL_ren := {
  mixed := by kernel_rfl
  f20 := Tryz.func125.trans (congrArg some (by kernel_rfl))
  t0 := Tryz.underlying0
  a0 := Tryz.isAgg0
  z0 := Tryz.sizeOf0
  v0 := Tryz.zeroValue0
  t3 := Tryz.underlying3
  a3 := Tryz.isAgg3
  z3 := Tryz.sizeOf3
  v3 := Tryz.zeroValue3
  t4 := Tryz.underlying4
  a4 := Tryz.isAgg4
  z4 := Tryz.sizeOf4
  v4 := Tryz.zeroValue4
  t22 := Tryz.underlying33
  a22 := Tryz.isAgg33
  z22 := Tryz.sizeOf33
  v22 := Tryz.zeroValue33
  i3 := by kernel_rfl }
end Go.Proofs
/- withoutVar (slices.DeleteFunc), slices.Compact by the shelf's contracts -/
namespace Go.Proofs.YtfnjhodologfeaaGreat
open Go.RowKit

/-- an own row that is not empty lies at a block -/
theorem OwnI.form {w : World} {B : Nat} {v : Value} {xs : List Int} (h : OwnI w B v xs) : (v = .slice none 0 0 ∧ xs = []) ∨ ∃ g cap, v = .slice (some ⟨g, 0, none⟩) xs.length cap ∧ xs.length ≤ cap ∧ cap ≤ 9223372036854775807 ∧ B ≤ g ∧ g < w.heap.size := by
  have hb := h.lt
  rcases h.2 with ⟨rfl, h0⟩ | ⟨g, cap, cur, rfl, h1, h2, h3, h4, _⟩
  · left
    exact ⟨rfl, List.eq_nil_of_length_eq_zero h0⟩
  · right
    exact ⟨g, cap, rfl, h3, by simpa [maxLen] using h4, h1, (Array.getElem?_eq_some_iff.1 h2).1⟩

theorem OwnI.holds {w : World} {B g cap : Nat} {xs : List Int} (h : OwnI w B (.slice (some ⟨g, 0, none⟩) xs.length cap) xs) {α : Type} [Inhabited α] (enc : α → Value) (d : Array α) (hd : d.toList.map enc = xs.map encI) : Sort.Holds enc w g 0 d := by
  intro j hj
  have hl : d.size = xs.length := by have := congrArg List.length hd; simpa using this
  have hx : xs[j]? = some (xs[j]'(by omega)) := List.getElem?_eq_getElem (by omega)
  obtain ⟨h1, h2⟩ := h.at rfl hx
  rw [Nat.zero_add]
  refine ⟨?_, h2⟩
  rw [h1]
  have : (d.toList.map enc)[j]? = (xs.map encI)[j]? := by rw [hd]
  rw [List.getElem?_map, List.getElem?_map, hx] at this
  rw [Array.getElem?_toList, Array.getElem?_eq_getElem hj] at this
  simp only [Option.map_some, Option.some.injEq] at this
  rw [getElem!_pos d j hj, this]

/-- a row rewritten, draws, new blocks -/
theorem OwnI.sorted {w : World} {B g cap : Nat} {xs ys : List Int} (h : OwnI w B (.slice (some ⟨g, 0, none⟩) xs.length cap) xs) {α : Type} [Inhabited α] (enc : α → Value) (d : Array α) (hd : d.toList.map enc = ys.map encI) (hl : ys.length = xs.length) (n : Nat) (os : Array Obj) :
    OwnI (sortWorld enc w g 0 n d os) B (.slice (some ⟨g, 0, none⟩) xs.length cap) ys ∧ w.grownBy (sortWorld enc w g 0 n d os) (some g) := by
  rcases h.2 with ⟨h', _⟩ | ⟨g', cap', cur, h', hb, hg, hnc, hcm, hcs, htake⟩
  · simp at h'
  · simp only [Value.slice.injEq, Option.some.injEq, Addr.mk.injEq, and_true, true_and] at h'
    obtain ⟨rfl, rfl⟩ := h'
    have hds : d.size = xs.length := by have := congrArg List.length hd; simp at this; omega
    have hlt : g < w.heap.size := (Array.getElem?_eq_some_iff.1 hg).1
    have hheap : ∀ k, k < w.heap.size → (sortWorld enc w g 0 n d os).heap[k]? = (w.heap.modify g (Sort.onCells (Sort.putCells enc 0 d)))[k]? := by
      intro k hk
      show ((w.heap.modify g (Sort.onCells (Sort.putCells enc 0 d))) ++ os)[k]? = _
      rw [Array.getElem?_append_left (by simpa using hk)]
    constructor
    · refine ⟨by rw [List.length_map, hl]; omega, .inr ⟨g, cap, Sort.putCells enc 0 d cur, by rw [hl], hb, ?_, by omega, hcm, ?_, ?_⟩⟩
      · rw [hheap g hlt, Array.getElem?_modify, if_pos rfl, hg]
        rfl
      · simp [Sort.putCells, hcs]
      · apply List.ext_getElem?
        intro j
        rw [List.getElem?_take, Nat.mul_one, hl, ← hd]
        by_cases hj : j < xs.length
        · rw [if_pos hj]
          have hc : j < cur.size := by rw [hcs]; omega
          rw [Array.getElem?_toList, Sort.putCells, Array.getElem?_mapIdx, Array.getElem?_eq_getElem hc]
          simp only [Option.map_some]
          rw [if_pos ⟨Nat.zero_le _, by omega⟩, List.getElem?_map, Array.getElem?_toList, Array.getElem?_eq_getElem (by omega)]
          simp only [Nat.sub_zero, Option.map_some]
          rw [getElem!_pos d j (by omega)]
        · rw [if_neg hj, List.getElem?_eq_none (by simp; omega)]
    · refine ⟨rfl, rfl, rfl, ?_, fun k hk hne => ?_⟩
      · show w.heap.size ≤ ((w.heap.modify g _) ++ os).size
        simp
      · rw [hheap k hk, Array.getElem?_modify, if_neg (fun e => hne (by rw [e]))]

theorem OwnI.cut {w : World} {B g n cap : Nat} {xs : List Int} (h : OwnI w B (.slice (some ⟨g, 0, none⟩) n cap) xs) (hn : n = xs.length) {k : Nat} (hk : k ≤ xs.length) : OwnI w B (.slice (some ⟨g, 0, none⟩) k cap) (xs.take k) := by
  subst hn
  rcases h.2 with ⟨h', _⟩ | ⟨g', cap', cur, h', hb, hg, hnc, hcm, hcs, htake⟩
  · simp at h'
  · simp only [Value.slice.injEq, Option.some.injEq, Addr.mk.injEq, and_true, true_and] at h'
    obtain ⟨rfl, rfl⟩ := h'
    refine ⟨by simp, .inr ⟨g, cap, cur, by rw [List.length_take, Nat.min_eq_left hk], hb, hg, by rw [List.length_take]; omega, hcm, hcs, ?_⟩⟩
    rw [List.map_take, ← htake, List.take_take, List.length_take]
    congr 1
    omega

theorem zeroInt : ∀ w, (zeroValue 3).run Tryz.prog w = .ok (encI 0) w := fun w => by kernel_rfl

set_option maxHeartbeats 400000 in
theorem withoutVar_lit_any (x v : Int) (b : Nat) (w : World) (hc : w.cell? ⟨b, 0, none⟩ = some (.int .i64 v)) :
    Calls Tryz.prog 186 #[.int .i64 x, .pointer (some ⟨b, 0, none⟩)] w fun e w' => e = .returned (.bool (absW x == v)) ∧ Drew w w' := by
  go_enter Tryz.func186, Tryz.ntmps186
  go_wp2
  go_quiet ((go_at_call 124; exact Calls.quiet_of_same ((abs_any _ _).mono (fun _ _ h => ⟨h.1, h.2.symm⟩))))
  go_wp2
  go_ret
  exact ⟨rfl, _, rfl⟩

set_option maxHeartbeats 400000 in
theorem DeleteFunc_empty (A : Option Addr) (c : Nat) (hc : c ≤ 9223372036854775807) (g : Nat) (cb : Array Value) (w : World) (eg : ∀ args w, (callFunc g args).run Tryz.prog w = .ok (.enter g args) w) :
    Calls Tryz.prog 185 #[.slice A 0 c, .func (.func g) #[] cb] w fun e w' => e = .returned (.slice A 0 c) ∧ Drew w w' := by
  have hidx := Lib.hid (show idxOf [] (fun _ => false) = -1 from rfl)
  go_enter Tryz.func185, Tryz.ntmps185
  go_wp2_with (go_at_call 96; refine (IndexFunc_any _ [] g cb (fun _ => false) _ (ints_nil _ _ _ hc) eg (fun _ _ x hx => by cases hx)).mono ?_; rw [hidx.out]; rintro e w2 ⟨rfl, hd2⟩)
  go_ret
  exact ⟨rfl, hd2⟩

set_option maxHeartbeats 1000000 in
theorem withoutVar_any (v : Value) (c : List Int) (n : Int) (w : World) (hx : Ints w v c) (hl : c.length ≤ 1000000000) (hbd : BdI c) :
    Calls Tryz.prog 178 #[v, .int .i64 n] w (NewI w (withoutL c n)) := by
  have eg : ∀ args w, (callFunc 186 args).run Tryz.prog w = .ok (.enter 186 args) w := fun args w => by kernel_rfl
  have hfil : (c.filter fun x => !(absW x == n)) = withoutL c n := by
    unfold withoutL
    apply List.filter_congr
    intro x hx
    obtain ⟨h1, h2⟩ := hbd x hx
    rw [absW_in h1 h2]
    rfl
  have HFL := Lib.hid hfil
  clear hfil
  go_enter Tryz.func178, Tryz.ntmps178
  go_wp2_with (go_at_call 79; refine (Clone_any _ c _ (hx.ext (by repeat (first | exact Ext.refl _ | assumption | apply Ext.dn | apply Ext.drew | apply Ext.alloc))) hl).mono ?_; rintro e w1 ⟨r1, rfl, ho1, he1⟩)
  have hcl : (w.alloc (.cells #[.int .i64 n] 3)).cell? ⟨w.heap.size, 0, none⟩ = some (.int .i64 n) := by simp
  have hc1 := he1.cell hcl
  have hE1 : Ext w w1 := Ext.trans (by repeat (first | exact Ext.refl _ | assumption | apply Ext.dn | apply Ext.drew | apply Ext.alloc)) he1
  rcases ho1.form with ⟨rfl, rfl⟩ | ⟨g, cap, rfl, hcap1, hcap2, hg1, hg2⟩
  · refine (DeleteFunc_empty none 0 (by omega) _ _ _ eg).mono ?_
    rintro e w2 ⟨rfl, hd2⟩
    go_wp2
    go_ret
    exact ⟨_, rfl, OwnI.nil _ _, hE1.trans hd2.ext⟩
  · have hsz : (w.alloc (.cells #[.int .i64 n] 3)).heap.size = w.heap.size + 1 := by simp
    have hne : w.heap.size ≠ g := by omega
    have hpa : PredAt Tryz.prog 186 #[.pointer (some ⟨w.heap.size, 0, none⟩)] encI (fun x => absW x == n) w1 := by
      intro W x hb
      exact (withoutVar_lit_any x n _ W (Ext.cell (show Ext w1 W from hb) hc1))
    have hpo : PredOver Tryz.prog 186 #[.pointer (some ⟨w.heap.size, 0, none⟩)] encI (fun x => absW x == n) g 0 c.toArray.size w1 := by
      intro m os dk x hdk
      have hk : dk.toList.map encI = dk.toList.map encI := rfl
      have hs := (ho1.sorted encI dk (ys := dk.toList) rfl (by simpa using hdk) m os).2
      refine withoutVar_lit_any x n _ _ ?_
      exact hs.cell hc1 (by simpa using hne)
    have hcontract := AnyE.slices_DeleteFunc Tryz.delFuncL encI (fun _ => rfl) (fun x => absW x == n) 186 #[.pointer (some ⟨w.heap.size, 0, none⟩)] eg (0 : Int) zeroInt g 0 cap c.toArray w1 hpa hpo (ho1.holds encI c.toArray rfl) (by simpa using by omega) (by simpa using hcap1)
    have hcs : c.toArray.size = c.length := by simp
    rw [hcs] at hcontract
    refine Calls.mono hcontract ?_
    rintro e w2 ⟨rfl, q, rfl⟩
    simp only [List.toList_toArray]
    rw [HFL.out]
    have hs := ho1.sorted encI (withoutL c n ++ List.replicate (c.length - (withoutL c n).length) 0).toArray (ys := withoutL c n ++ List.replicate (c.length - (withoutL c n).length) 0) rfl (by have := withoutL_length c n; simp; omega) q #[]
    have hw2 : sortWorld encI w1 g 0 q (withoutL c n ++ List.replicate (c.length - (withoutL c n).length) 0).toArray #[] = Sort.putRow encI (Sort.ahead w1 q) g 0 (withoutL c n ++ List.replicate (c.length - (withoutL c n).length) 0).toArray := by
      unfold sortWorld; rw [Sort.grow_empty]
    rw [hw2] at hs
    obtain ⟨hs1, hs2⟩ := hs
    have hcut := hs1.cut (by have := withoutL_length c n; simp; omega) (k := (withoutL c n).length) (by simp)
    rw [List.take_left] at hcut
    have hE2 : Ext w (Sort.putRow encI (Sort.ahead w1 q) g 0 (withoutL c n ++ List.replicate (c.length - (withoutL c n).length) 0).toArray) := Below.grown hE1 hs2 hE1.size (fun k hk => by injection hk with hk; omega)
    generalize Sort.putRow encI (Sort.ahead w1 q) g 0 (withoutL c n ++ List.replicate (c.length - (withoutL c n).length) 0).toArray = w2 at hcut hE2 ⊢
    clear hs1 hs2 hw2 hcontract hpa hpo
    go_wp2
    go_ret
    exact ⟨_, rfl, hcut.mono (by omega), hE2⟩
end Go.Proofs.YtfnjhodologfeaaGreat
/- cmp.Compare, cmp.Or, compareLiterals; slices.SortFunc with it; slices.Compact -/
namespace Go.Proofs.YtfnjhodologfeaaGreat
open Go.RowKit

set_option maxHeartbeats 400000 in
theorem isNaN_any (x : Int) (w : World) :
    Calls Tryz.prog 175 #[.int .i64 x] w fun e w' => e = .returned (.bool false) ∧ w = w' := by
  have h : (x != x) = false := by simp
  go_enter Tryz.func175, Tryz.ntmps175
  go_wp2
  go_ret
  exact ⟨rfl, rfl⟩

def sgn (a b : Int) : Int := if a < b then -1 else if b < a then 1 else 0

set_option maxHeartbeats 400000 in
theorem Compare_any (x y : Int) (w : World) :
    Calls Tryz.prog 189 #[.int .i64 x, .int .i64 y] w fun e w' => e = .returned (.int .i64 (sgn x y)) ∧ w = w' := by
  by_cases h1 : x < y
  · go_enter Tryz.func189, Tryz.ntmps189
    go_wp2_with (go_at_call 175; refine (isNaN_any _ _).mono ?_; rintro e w' ⟨rfl, rfl⟩)
    go_ret
    exact ⟨ret_int (by rw [sgn, if_pos (by omega)]), rfl⟩
  · by_cases h2 : y < x
    · go_enter Tryz.func189, Tryz.ntmps189
      go_wp2_with (go_at_call 175; refine (isNaN_any _ _).mono ?_; rintro e w' ⟨rfl, rfl⟩)
      go_ret
      exact ⟨ret_int (by rw [sgn, if_neg (by omega), if_pos (by omega)]), rfl⟩
    · go_enter Tryz.func189, Tryz.ntmps189
      go_wp2_with (go_at_call 175; refine (isNaN_any _ _).mono ?_; rintro e w' ⟨rfl, rfl⟩)
      go_ret
      exact ⟨ret_int (by rw [sgn, if_neg (by omega), if_neg (by omega)]), rfl⟩

set_option maxHeartbeats 400000 in
theorem Or_any (b : Nat) (x y : Int) (w : World) (h0 : w.cell? ⟨b, 0, none⟩ = some (.int .i64 x)) (h1 : w.cell? ⟨b, 1, none⟩ = some (.int .i64 y)) :
    Calls Tryz.prog 188 #[.slice (some ⟨b, 0, none⟩) 2 2] w fun e w' => e = .returned (.int .i64 (if x = 0 then y else x)) ∧ w = w' := by
  cases hx : (x != 0)
  all_goals
    cases hy : (y != 0)
    all_goals
      go_enter Tryz.func188, Tryz.ntmps188
      go_wp2
      go_rounds 3
      all_goals go_ret
      all_goals exact ⟨ret_int (by simp_all), rfl⟩

def cmpL (a b : Int) : Int := if sgn (absI a) (absI b) = 0 then sgn b a else sgn (absI a) (absI b)

set_option maxHeartbeats 400000 in
theorem compareLiterals_any (x y : Int) (w : World) (hx1 : -1000000 ≤ x) (hx2 : x ≤ 1000000) (hy1 : -1000000 ≤ y) (hy2 : y ≤ 1000000) :
    Calls Tryz.prog 184 #[.int .i64 x, .int .i64 y] w fun e w' => e = .returned (.int .i64 (cmpL x y)) ∧ ∃ o, w' = w.alloc o := by
  have HX := Lib.hid (absW_in hx1 hx2)
  have HY := Lib.hid (absW_in hy1 hy2)
  go_enter Tryz.func184, Tryz.ntmps184
  go_wp2_with (first
    | (go_at_call 124; refine (abs_any _ _).mono ?_; rintro e w' ⟨rfl, rfl⟩)
    | (go_at_call 189; refine (Compare_any _ _ _).mono ?_; rintro e w' ⟨rfl, rfl⟩)
    | (go_at_call 188; refine (Or_any _ _ _ _ (by simp; rfl) (by simp; rfl)).mono ?_; rintro e w' ⟨rfl, rfl⟩))
  all_goals
    go_ret
    refine ⟨ret_int ?_, _, rfl⟩
    rw [cmpL, ← HX.out, ← HY.out]
    simp [*]
end Go.Proofs.YtfnjhodologfeaaGreat
