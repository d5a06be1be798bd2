/- Parts of the proof: N2. impl.neededSteps -/
import Derived.Test.YtfnjhodologfeaaGreatG02
import Derived.Test.YtfnjhodologfeaaGreatG16
set_option linter.unusedSimpArgs false
set_option linter.unusedVariables false
/- impl.neededSteps -/
namespace Go.Proofs.YtfnjhodologfeaaGreat
open Go.RowKit Go.Shelf
attribute [local go_sem] Oper.semAt_some

/-- what is needed, after the rounds pre -/
def accT (ss : List RS) (a : List Int × List Int) (x : StIx ss) : List Int × List Int :=
  if (x.1 : Int) = (ss.length : Int) - 1 ∨ (x.1 : Int) ∈ a.2 then (a.1 ++ [(x.1 : Int)], a.2 ++ premL (ss[x.1]'x.2)) else a
def accS (ss : List RS) (pre : List (StIx ss)) : List Int × List Int := pre.foldl (accT ss) ([], [])
theorem accS_snoc (ss : List RS) (pre : List (StIx ss)) (x : StIx ss) : accS ss (pre ++ [x]) = accT ss (accS ss pre) x := by simp [accS]
theorem accT_len (ss : List RS) : ∀ (pre : List (StIx ss)) (a : List Int × List Int), (pre.foldl (accT ss) a).1.length ≤ a.1.length + pre.length
  | [], a => by simp
  | x :: pre, a => by
    have := accT_len ss pre (accT ss a x)
    have h : (accT ss a x).1.length ≤ a.1.length + 1 := by
      unfold accT
      split
      · simp
      · omega
    simp only [List.foldl_cons, List.length_cons]
    omega
theorem accS_len (ss : List RS) (pre : List (StIx ss)) : (accS ss pre).1.length ≤ pre.length := by
  have := accT_len ss pre ([], [])
  simpa [accS] using this
theorem accS_down (ss : List RS) : ∀ k, k ≤ ss.length → accS ss (downTo ss k) = needAcc ss k
  | 0, _ => rfl
  | k + 1, h => by
    have hlt : ss.length - 1 - k < ss.length := by omega
    rw [downTo, dif_pos (by omega), accS_snoc, accS_down ss k (by omega), needAcc, List.getElem?_eq_getElem hlt]
    unfold accT
    have e : (((ss.length - 1 - k : Nat) : Int) = (ss.length : Int) - 1) ↔ k = 0 := by omega
    simp only [e]

theorem KeepsOthers.of_ext {w w' : World} (h : Ext w w') : KeepsOthers w w' := ⟨h.size, fun k o hk _ => (h.block (Array.getElem?_eq_some_iff.1 hk).1).trans hk⟩
theorem box_ext {W W' : World} {B : Nat} {t : TypeId} {v : Value} (h : Boxed W B t v) (hx : Ext W W') : Boxed W' B t v := (hx.block h.lt).trans h
/-- what a row owns stays where a block that is no cells turns -/
theorem own_kept {X Y : World} {n₀ e size k : Nat} {v : Value} {xs : List Value} {row : Option Nat} (hr : X.ownsRow n₀ e size v k xs) (hg : X.grownBy Y row) (hrow : ∀ r, row = some r → ∃ o : Obj, X.heap[r]? = some o ∧ o.isCells = false) : Y.ownsRow n₀ e size v k xs := by
  refine hr.kept hg ?_
  rcases hr.2 with ⟨rfl, _⟩ | ⟨g, cap, cur, rfl, _, hgb, _⟩
  · exact .inl rfl
  · refine .inr fun e' => ?_
    obtain ⟨o, ho, hc⟩ := hrow g (by simpa [Value.ownBlock] using e'.symm)
    rw [hgb] at ho; cases ho; cases hc

/-- the marks of the steps that are needed -/
def BitsOk (ss : List RS) (prem : List Int) (bs : List Bool) : Prop := bs.length = ss.length ∧ ∀ j, j < ss.length → bs[j]? = some (decide ((j : Int) ∈ prem))
theorem BitsOk.start (ss : List RS) : BitsOk ss [] (List.replicate ss.length false) := ⟨by simp, fun j hj => by simp [hj]⟩
theorem BitsOk.mark {ss : List RS} {prem : List Int} {bs : List Bool} (h : BitsOk ss prem bs) {k : Nat} (hk : k < ss.length) : BitsOk ss (prem ++ [(k : Int)]) (bs.set k true) := by
  refine ⟨by simp [h.1], fun j hj => ?_⟩
  by_cases e : k = j
  · subst e
    rw [List.getElem?_set_self (by rw [h.1]; exact hk)]
    simp
  · rw [List.getElem?_set_ne e, h.2 j hj]
    have : ¬ ((j : Int) = (k : Int)) := by omega
    simp [this]

/-- the frame of the walk through the steps: boxes (r: the marks' slice; r + 1: the list that is built; h: the steps; r + 2: the iterator's), the marks' row h + 1 -/
structure NI (h r : Nat) (sl : Value) (ss : List RS) (a : List Int × List Int) (W : World) : Prop where
  o : ∃ v, Boxed W (r + 1) 33 v ∧ OwnI W h v a.1
  i : Boxed W r 76 (.slice (some ⟨h + 1, 0, none⟩) ss.length ss.length)
  p : Boxed W h 27 sl
  b : Boxed W (r + 2) 27 sl
  bits : ∃ bs, BitsOk ss a.2 bs ∧ OwnB W h (.slice (some ⟨h + 1, 0, none⟩) ss.length ss.length) bs
theorem boxed_kept {X Y : World} {B : Nat} {t : TypeId} {v : Value} {row : Option Nat} (hs : Boxed X B t v) (hg : X.grownBy Y row) (hrow : ∀ r, row = some r → ∃ o : Obj, X.heap[r]? = some o ∧ o.isCells = false) : Boxed Y B t v :=
  hs.kept hg (fun e' => by obtain ⟨o, ho, hc⟩ := hrow B e'.symm; rw [show X.heap[B]? = _ from hs] at ho; cases ho; cases hc)
theorem NI.kept {h r : Nat} {sl : Value} {ss : List RS} {a : List Int × List Int} {X Y : World} {row : Option Nat} (k : NI h r sl ss a X) (hg : X.grownBy Y row) (hrow : ∀ r, row = some r → ∃ o : Obj, X.heap[r]? = some o ∧ o.isCells = false) : NI h r sl ss a Y := by
  obtain ⟨⟨v, h1, h2⟩, h3, h4, h5, bs, h6, h7⟩ := k
  exact ⟨⟨v, boxed_kept h1 hg hrow, own_kept h2 hg hrow⟩, boxed_kept h3 hg hrow, boxed_kept h4 hg hrow, boxed_kept h5 hg hrow, bs, h6, own_kept h7 hg hrow⟩
theorem NI.ext {h r : Nat} {sl : Value} {ss : List RS} {a : List Int × List Int} {X Y : World} (k : NI h r sl ss a X) (hx : Ext X Y) : NI h r sl ss a Y := by
  obtain ⟨⟨v, h1, h2⟩, h3, h4, h5, bs, h6, h7⟩ := k
  exact ⟨⟨v, box_ext h1 hx, h2.ext hx⟩, box_ext h3 hx, box_ext h4 hx, box_ext h5 hx, bs, h6, h7.ext hx⟩
theorem ownsRow_ty {w : World} {B e sz n : Nat} {v : Value} {xs : List Value} (h : w.ownsRow B e sz v n xs) : ∀ b, v.ownBlock = some b → ∃ cur fz, w.heap[b]? = some (.cells cur e fz) := by
  rcases h.2 with ⟨rfl, _⟩ | ⟨g, cap, cur, rfl, _, hg, _⟩
  · intro b hb; cases hb
  · intro b hb
    injection hb with hb
    subst hb
    exact ⟨cur, _, hg⟩
theorem NI.mark {h r : Nat} {sl : Value} {ss : List RS} {a : List Int × List Int} {W : World} (k : NI h r sl ss a W) (hr : h + 1 < r) {j : Nat} (hj : j < ss.length) :
    NI h r sl ss (a.1, a.2 ++ [(j : Int)]) (W.setCell ⟨h + 1, j, none⟩ (.bool true)) := by
  obtain ⟨⟨v, h1, h2⟩, h3, h4, h5, bs, h6, h7⟩ := k
  have hg : W.grownBy (W.setCell ⟨h + 1, j, none⟩ (.bool true)) (some (h + 1)) := grown_set W (h + 1) j _
  refine ⟨⟨v, h1.kept hg (by simp; omega), ?_⟩, h3.kept hg (by simp; omega), h4.kept hg (by simp), h5.kept hg (by simp; omega), _, h6.mark hj, h7.set h6.1.symm j true⟩
  refine h2.grown hg (.inr fun e => ?_)
  obtain ⟨cur, fz, e1⟩ := ownsRow_ty h2 _ e
  obtain ⟨cur', fz', e2⟩ := ownsRow_ty h7 (h + 1) rfl
  rw [e1] at e2
  injection e2 with e2
  injection e2 with _ e3 _
  exact absurd e3 (by decide)
theorem NI.push {h r : Nat} {sl : Value} {ss : List RS} {a : List Int × List Int} {W w1 : World} (k : NI h r sl ss a W) {v v' : Value} {tmp : Obj} {x : Int} (hv : Boxed W (r + 1) 33 v) (ho : OwnI W h v a.1) (hb : h ≤ W.heap.size) (hr : h + 1 < r)
    (hown' : OwnI w1 h v' (a.1 ++ [x])) (hgrow : (W.alloc tmp).grownBy w1 v.ownBlock) : NI h r sl ss (a.1 ++ [x], a.2) (w1.setCell ⟨r + 1, 0, none⟩ v') ∧ KeepsOthers W (w1.setCell ⟨r + 1, 0, none⟩ v') ∧ Below h W (w1.setCell ⟨r + 1, 0, none⟩ v') ∧ Boxed w1 (r + 1) 33 v := by
  obtain ⟨_, h3, h4, h5, bs, h6, h7⟩ := k
  obtain ⟨hv1, hv2, hr2, hk2, hb2⟩ := hv.appended (by decide) ho hb (show h ≤ r + 1 by omega) hown' hgrow
  have hne : ∀ {B t u}, Boxed W B t u → t ≠ 3 → some B ≠ v.ownBlock := fun hB ht => hB.not_row ht ho
  have hg2 := grownBy_setCell' w1 (r + 1) v'
  have key : ∀ {B t u}, Boxed W B t u → t ≠ 3 → B ≠ r + 1 → Boxed (w1.setCell ⟨r + 1, 0, none⟩ v') B t u := fun hB ht hn => ((hB.alloc tmp).kept hgrow (hne hB ht)).kept hg2 (fun e => hn (by injection e))
  refine ⟨⟨⟨v', hv2, hr2⟩, key h3 (by decide) (by omega), key h4 (by decide) (by omega), key h5 (by decide) (by omega), bs, h6, ?_⟩, hk2, hb2, hv1⟩
  have hneB : v.ownBlock ≠ some (h + 1) := fun e => by
    obtain ⟨cur, fz, e1⟩ := ownsRow_ty ho _ e
    obtain ⟨cur', fz', e2⟩ := ownsRow_ty h7 (h + 1) rfl
    rw [e1] at e2
    injection e2 with e2
    injection e2 with _ e3 _
    exact absurd e3 (by decide)
  have h8 : OwnB w1 h (.slice (some ⟨h + 1, 0, none⟩) ss.length ss.length) bs := World.ownsRow.kept (World.ownsRow.alloc h7 tmp) hgrow (.inr fun e => hneB e.symm)
  exact World.ownsRow.kept h8 hg2 (.inr fun e => by simp only [Value.ownBlock, Option.map_some, Option.some.injEq] at e; omega)

theorem step_box {W w1 : World} {Bx r : Nat} {cs : Array Value} {tmp : Obj} {h : Nat} {v v' : Value} {xs : List Int} (hX : W.heap[Bx]? = some (.cells cs 40 (0, 0))) (hov : OwnI W h v xs) (hgrow : (W.alloc tmp).grownBy w1 v.ownBlock) (hne : Bx ≠ r) :
    (w1.setCell ⟨r, 0, none⟩ v').heap[Bx]? = some (.cells cs 40 (0, 0)) := by
  have hlt := (Array.getElem?_eq_some_iff.1 hX).1
  have h1 : (W.alloc tmp).heap[Bx]? = some (.cells cs 40 (0, 0)) := (Below.heap_alloc W _ Bx hlt).trans hX
  have h2 := (hgrow.block Bx (by simp; omega) (fun e => by
    obtain ⟨cur, fz, e1⟩ := ownsRow_ty hov _ e.symm
    rw [hX] at e1
    injection e1 with e1
    injection e1 with _ e3 _
    exact absurd e3 (by decide))).trans h1
  exact (heap_setCell_other w1 ⟨r, 0, none⟩ Bx v' hne).trans h2
theorem four_cells {w : World} {b T : Nat} {c0 c1 c2 c3 : Value} (h : w.heap[b]? = some (.cells #[c0, c1, c2, c3] T (0, 0))) : w.cell? ⟨b, 0, none⟩ = some c0 ∧ w.cell? ⟨b, 1, none⟩ = some c1 ∧ w.cell? ⟨b, 2, none⟩ = some c2 ∧ w.cell? ⟨b, 3, none⟩ = some c3 := by
  refine ⟨?_, ?_, ?_, ?_⟩ <;> simp [World.cell?, h]

theorem own_ne_box {W : World} {h g n c B T : Nat} {xs : List Int} {u : Value} (hov : OwnI W h (.slice (some ⟨g, 0, none⟩) n c) xs) (hB : Boxed W B T u) (hT : T ≠ 3) : ¬ (B = g) := by
  rintro rfl
  obtain ⟨cur, fz, e1⟩ := ownsRow_ty hov B rfl
  have hB' : W.heap[B]? = some (.cells #[u] T (0, 0)) := hB
  rw [hB'] at e1
  injection e1 with e1
  injection e1 with _ e3 _
  exact hT e3
set_option maxHeartbeats 1000000 in
theorem Reverse_nil (w : World) : Calls Tryz.prog 104 #[.slice none 0 0] w fun e w' => e = .returned (.tuple #[]) ∧ w = w' := by
  go_enter Tryz.func104, Tryz.ntmps104
  go_wp2
  go_loop [2, 3] (fun i j => i = .int .i64 0 ∧ j = .int .i64 (-1)) (fun _ _ => 0)
  case atStart => exact ⟨rfl, rfl⟩
  case round =>
    obtain ⟨rfl, rfl⟩ := hrel
    go_wp2
    first | (refine bodyPost_ret (results_none rfl _ _ _) rfl ?_; exact ⟨rfl, rfl⟩) | (go_end0; exact ⟨rfl, rfl⟩)

set_option maxRecDepth 100000 in
set_option maxHeartbeats 2000000 in
theorem needed_any (vs : Value) (ss : List RS) (w : World) (hs : Steps w vs ss) (hpre : PreOk ss) (hlen : ss.length ≤ 100000) : Calls Tryz.prog 74 #[vs] w (NewI w (needL ss)) := by
  obtain ⟨base, cap, U, rfl, hc1, hc2, hcell⟩ := hs.cellsAt
  obtain ⟨wA, hwA⟩ : ∃ wA, w.alloc (.cells #[.slice base ss.length cap] 27) = wA := ⟨_, rfl⟩
  have bP : Boxed wA w.heap.size 27 (.slice base ss.length cap) := by rw [← hwA]; exact Boxed.new _ _ _
  have cP := bP.cell
  have hEA : Ext w wA := by rw [← hwA]; exact (by repeat (first | exact Ext.refl _ | assumption | apply Ext.dn | apply Ext.drew | apply Ext.alloc))
  have hsA : wA.heap.size = w.heap.size + 1 := by rw [← hwA]; simp
  refine (callsIn_wide (n := 9)).1 ?_
  refine callsIn_of_wp_marks Tryz.func74 rfl trivial ?_ rfl
  simp only [Tryz.ntmps74, List.size_toArray, List.length_cons, List.length_nil, Nat.reduceAdd, Nat.reduceSub, Array.replicate_succ, Array.replicate_zero, List.push_toArray, List.append_toArray, List.nil_append, List.cons_append]
  refine wpIn_wide.2 ?_
  go_wp2_with (first
    | (refine wpList_makeB rfl _ _ rfl ss.length rfl rfl (by omega) ?_; intro w1 hob1 hE1; have bP1 : Boxed w1 w.heap.size 27 (.slice base ss.length cap) := (hE1.block bP.lt).trans bP; have cP1 := bP1.cell; have cP2 := (fun o o' => ((bP1.alloc o).alloc o').cell))
    | (go_at_call 103; refine (back_any _ _ _ _).mono ?_; rintro e w2 ⟨rfl, rfl⟩))
  obtain ⟨r, hr⟩ : ∃ r, w1.heap.size = r := ⟨_, rfl⟩
  obtain ⟨h, hh⟩ : ∃ h, w.heap.size = h := ⟨_, rfl⟩
  have hs1 := hE1.size
  have hEw1 := hEA.trans hE1
  have hhr : h + 1 < r := by have := (hob1.base).2; omega
  obtain ⟨W0, hW0⟩ : ∃ W0, ((w1.alloc (.cells #[.slice (some ⟨w.heap.size + 1, 0, none⟩) ss.length ss.length] 76)).alloc (.cells #[.slice none 0 0] 33)).alloc (.cells #[.slice base ss.length cap] 27) = W0 := ⟨_, rfl⟩
  have hEW : Ext w1 W0 := by rw [← hW0]; exact (by repeat (first | exact Ext.refl _ | assumption | apply Ext.dn | apply Ext.drew | apply Ext.alloc))
  have hEW0 : Ext w W0 := hEw1.trans hEW
  have hs0 : W0.heap.size = r + 3 := by rw [← hW0]; simp; omega
  have bI : Boxed W0 r 76 (.slice (some ⟨w.heap.size + 1, 0, none⟩) ss.length ss.length) := by
    rw [← hW0, ← hr]; exact ((Boxed.new w1 _ _).alloc _).alloc _
  have bO : Boxed W0 (r + 1) 33 (.slice none 0 0) := by
    have := (Boxed.new (w1.alloc (.cells #[.slice (some ⟨w.heap.size + 1, 0, none⟩) ss.length ss.length] 76)) 33 (.slice none 0 0)).alloc (.cells #[.slice base ss.length cap] 27)
    rw [World.size_alloc, hr] at this
    rw [← hW0]; exact this
  have bB : Boxed W0 (r + 2) 27 (.slice base ss.length cap) := by
    have := Boxed.new ((w1.alloc (.cells #[.slice (some ⟨w.heap.size + 1, 0, none⟩) ss.length ss.length] 76)).alloc (.cells #[.slice none 0 0] 33)) 27 (.slice base ss.length cap)
    rw [World.size_alloc, World.size_alloc, hr] at this
    rw [← hW0]; exact this
  have hNI0 : NI h r (.slice base ss.length cap) ss ([], []) W0 := by
    refine ⟨⟨_, bO, OwnI.nil _ _⟩, ?_, ?_, bB, _, BitsOk.start ss, ?_⟩
    · rw [← hh]; exact bI
    · rw [← hh]; exact box_ext bP1 hEW
    · rw [hsA, hh] at hob1
      exact own_mono (OwnB.ext hob1 hEW) (by omega)
  have HPRE := Lib.hid hpre
  rw [hW0, hr, hh]
  refine (wpIn_wide (n := 9)).1 ?_
  refine wpIn_rangeFunc_ownH rfl (by omega) (gf := 127) (lb := #[.pointer (some ⟨r + 1 + 1, 0, none⟩)]) rfl trivial (enters_of Tryz.func127 (by kernel_rfl) rfl)
    (back_stops Fence.wide _ trivial rfl (by omega) (r + 1 + 1) ss U base cap hc1 hc2 w W0 hEW0 (by omega) bB hcell) kpB_t (kpB_b (by omega) (by omega)) (Below.refl _ _) (fun _ => rfl)
    (fun pre W => NI h r (.slice base ss.length cap) ss (accS ss pre) W ∧ Below h w W)
    (fun _ _ _ => False)
    (OwnFrom.and (Own.from (fun s X Y row hs hg hr => hs.kept hg hr) _) (ownFrom_below (by omega) (by omega)))
    (fun _ _ _ _ _ hs _ _ => hs)
    ⟨hNI0, by rw [← hh]; exact hEW0⟩
    (fun x a' W => ∃ Bx, r + 2 < Bx ∧ W.heap[Bx]? = some (.cells #[.slice (U x.1).1 (ss[x.1]'x.2).clause.length (U x.1).2, .int .i64 (ss[x.1]'x.2).left, .int .i64 (ss[x.1]'x.2).right, .int .i64 (ss[x.1]'x.2).pivot] 40 (0, 0)) ∧ a' = { tmps := #[.slice base ss.length cap, .pointer (some ⟨h, 0, none⟩), .slice none 0 0, .pointer (some ⟨r, 0, none⟩), .pointer (some ⟨r + 1, 0, none⟩), .int .i64 (x.1 : Int), .pointer (some ⟨Bx, 0, none⟩), undef, undef, .slice base ss.length cap, .int .i64 ss.length, .slice (some ⟨h + 1, 0, none⟩) ss.length ss.length, .slice base ss.length cap, .func (.func 127) #[] #[.pointer (some ⟨r + 1 + 1, 0, none⟩)], .int .i64 (x.1 : Int), .agg #[.slice (U x.1).1 (ss[x.1]'x.2).clause.length (U x.1).2, .int .i64 (ss[x.1]'x.2).left, .int .i64 (ss[x.1]'x.2).right, .int .i64 (ss[x.1]'x.2).pivot], undef, undef, undef, undef, undef, undef, undef, undef, undef, undef, undef, undef, undef, undef, undef, undef, undef, undef, undef, undef, undef, undef, undef, undef, undef, undef, undef, undef, undef, undef], defers := [] })
    (fun x a' _ X Y row hs hg hr => by
      obtain ⟨Bx, h1, h2, h3⟩ := hs
      refine ⟨Bx, h1, (hg.block Bx (Array.getElem?_eq_some_iff.1 h2).1 (fun e => ?_)).trans h2, h3⟩
      obtain ⟨_, o, ho, hc⟩ := hr Bx e.symm
      rw [h2] at ho; cases ho; cases hc)
    ?assign ?body ?done ?stop
  case assign =>
    rintro l pre x W K ⟨hN, hB⟩ hK
    simp only [stE]
    gi_wp2
    refine hK _ _ (KeepsOthers.from (KeepsOthers.alloc _ _) _) ⟨(Below.refl _ W).alloc (by have := hB.size; omega) _, Boxed.alloc hN.b _ |>.trans hN.b.symm⟩ ⟨hN.ext ((Ext.refl W).alloc _), hB.alloc (by have := hB.size; omega) _⟩ ⟨W.heap.size, hN.b.lt, World.alloc_heap_new W _, rfl⟩
  case body =>
    rintro l pre ⟨xi, hxi⟩ a' W hl ⟨rec, hrec⟩ ⟨hN, hB⟩ ⟨Bx, hBx, hX, rfl⟩ hlt
    dsimp only at hX ⊢
    have HAC := Lib.hid (accS_snoc ss pre ⟨xi, hxi⟩)
    have hal := accS_len ss pre
    obtain ⟨acc, hacc⟩ : ∃ acc, accS ss pre = acc := ⟨_, rfl⟩
    rw [hacc] at hN HAC hal
    clear hacc
    have hN0 := hN
    obtain ⟨⟨v, hv, hov⟩, hi, hp, hb, bs, hbits, hob⟩ := hN
    have cO := hv.cell
    have cI := hi.cell
    have cP' := hp.cell
    obtain ⟨d0, d1⟩ := hob.at hbits.1.symm (hbits.2 xi hxi)
    have hBs := hB.size
    by_cases hneed : (xi : Int) = (ss.length : Int) - 1 ∨ (xi : Int) ∈ acc.2
    · have HT := Lib.hid (show accT ss acc ⟨xi, hxi⟩ = (acc.1 ++ [(xi : Int)], acc.2 ++ premL ss[xi]) by unfold accT; rw [if_pos hneed])
      have hb2 : (decide ((xi : Int) ∈ acc.2) = true) ∨ (decide ((xi : Int) ∈ acc.2) = false ∧ ¬ (xi : Int) < (ss.length : Int) - 1) := by
        rcases hneed with h1 | h1
        · by_cases h2 : (xi : Int) ∈ acc.2
          · exact .inl (by simp [h2])
          · exact .inr ⟨by simp [h2], by omega⟩
        · exact .inl (by simp [h1])
      clear hneed
      obtain ⟨cb, co, hbase, _, hcs⟩ := hcell (by omega)
      clear hbase
      have HCI := Lib.hid (fun (w' : World) (hx : Ext w w') => (hcs xi hxi w' hx).2.2.2.2)
      obtain ⟨i0, hi0, hz0, hz1, hz2⟩ := info_parts Tryz.infoI
      have HPX := Lib.hid (HPRE.out xi _ (List.getElem?_eq_getElem hxi))
      obtain ⟨bv, hbv⟩ : ∃ bv, decide ((xi : Int) ∈ acc.2) = bv := ⟨_, rfl⟩
      rw [hbv] at d0 hb2
      clear hbv hcs hcell
      rcases hb2 with rfl | ⟨rfl, hl2⟩
      all_goals
        gi_wp2_with (first
          | (gi_at_builtin; refine wpListIn_append_own _ rfl _ _ 33 rfl h 3 i0 (.int .i64 0) 1 8 Tryz.underlying33 hi0 hz0 hz1 hz2 rfl (by decide) _ _ _ rfl (World.ownsRow.alloc hov _) ⟨W.heap.size, 0, none⟩ 1 1 [.int .i64 xi] rfl rfl (cell_one_new _ _ _) (by simp [Value.oneCell']) (by simp only [maxLen]; omega) (by omega) (by simp; omega) ?_; intro v' w2 hown' hgrow _; obtain ⟨g', cap', rfl⟩ := ownsRow_succ hown'; obtain ⟨hN2, hk2, hb2, hv1⟩ := hN0.push (x := (xi : Int)) hv hov (by omega) hhr (by unfold OwnI; simpa using hown') hgrow; have hc1 := hv1.cell; have hf1 := hv1.frozen; have hX2 := step_box hX (hov := hov) hgrow (show Bx ≠ r + 1 by omega) (v' := .slice (some ⟨g', 0, none⟩) (acc.1.length + 1) cap'); obtain ⟨x0, x1, x2, x3⟩ := four_cells hX2; have hE3 : Ext w (w2.setCell ⟨r + 1, 0, none⟩ (.slice (some ⟨g', 0, none⟩) (acc.1.length + 1) cap')) := (show Below w.heap.size w _ by rw [hh]; exact hB.trans hb2))
          | (refine ⟨trivial, ?_⟩; gi_at_call 78; refine (CallsIn.inRound l (callsIn_wide.2 (premises_any _ ss[xi] _ ⟨_, rfl, HCI.out _ hE3⟩))).mono ?_; rintro e w4 ⟨rv, rfl, hor, he4⟩; obtain ⟨rb, rc, rfl, _, _, hrc⟩ := hor.ints.open))
        obtain ⟨L, hL⟩ : ∃ L, premL ss[xi] = L := ⟨_, rfl⟩
        rw [hL] at HT HPX hor hrc ⊢
        clear hL
        have hKF4 : KeepsFrom W0.heap.size W w4 := (hk2.trans (KeepsOthers.of_ext he4)).from _
        have hB4 : Below h W w4 := hb2.trans (Below.mono he4 (by have := hb2.size; omega))
        gi_loopw [8, 35] (fun k i wr => ∃ j : Nat, j ≤ L.length ∧ i = .int .i64 j ∧ NI h r (.slice base ss.length cap) ss (acc.1 ++ [(xi : Int)], acc.2 ++ L.take j) wr ∧ Ints wr (.slice rb L.length rc) L ∧ KeepsFrom W0.heap.size W wr ∧ Below h W wr) (fun _ i _ => L.length - (intOf i).toNat)
        case atStart => exact ⟨0, Nat.zero_le _, rfl, by simpa using hN2.ext he4, hor.ints, hKF4, hB4⟩
        case round =>
          obtain ⟨j, hj, rfl, hNr, hIr, hKr, hBr⟩ := hrel
          by_cases hjl : j < L.length
          · obtain ⟨_, _, eS, _, _, hlc⟩ := hIr.open
            injection eS with e1 _ e3
            subst e1; subst e3
            obtain ⟨b6, off6, rfl, _, hl6⟩ := hlc j hjl
            obtain ⟨y, hy, hyc⟩ := hl6 j hjl
            have hy0 := hyc _ (.refl _)
            obtain ⟨hyp, hyq⟩ := HPX.out y (List.mem_of_getElem? hy)
            obtain ⟨yi, rfl⟩ := Int.eq_ofNat_of_zero_le hyp
            have hyl : yi < ss.length := by omega
            have hNm := hNr.mark hhr hyl
            have HY := Lib.hid hy
            obtain ⟨_, hir, _, _, bs5, hbits5, hob5⟩ := hNr
            have cI5 := hir.cell
            obtain ⟨d2, d3⟩ := hob5.at hbits5.1.symm (hbits5.2 yi hyl)
            have hTY := ownsRow_ty hob5 (h + 1) rfl
            clear hlc hl6 hyc hy
            gi_wp2
            go_roundw
            case rel =>
              refine ⟨j + 1, hjl, by go_num, ?_, ?_, hKr.trans ((KeepsOthers.setCell _ _ _).from _), hBr.setCell (p := ⟨h + 1, yi, none⟩) (by simp) _⟩
              · rw [take_succ_at HY.out, ← List.append_assoc]
                exact hNm
              · exact hIr.turned (grown_set wr (h + 1) yi _) (fun b e => by injection e with e; subst e; obtain ⟨cur, fz, hc⟩ := hTY; exact ⟨cur, fz, _, hc, by decide⟩)
            case measure => simp [intOf]; omega
          · gi_wp2
            rw [List.take_of_length_le (by omega)] at hNr
            exact ⟨hKr, ⟨by rw [hh]; exact hBr, hNr.b.trans hN0.b.symm⟩, by rw [HAC.out, HT.out]; exact hNr, hB.trans hBr⟩
    · have HT := Lib.hid (show accT ss acc ⟨xi, hxi⟩ = acc by unfold accT; rw [if_neg hneed])
      have hb0 : decide ((xi : Int) ∈ acc.2) = false := by simp; exact fun h => hneed (.inr h)
      have hlt1 : (xi : Int) < (ss.length : Int) - 1 := by omega
      rw [hb0] at d0
      clear hb0 hneed
      gi_wp2
      exact ⟨KeepsFrom.refl _ _, ⟨Below.refl _ _, rfl⟩, by rw [HAC.out, HT.out]; exact hN0, hB⟩
  case done =>
    rintro D ys W hD rfl ⟨hN, hB⟩ hK
    rw [accS_down ss _ (Nat.le_refl _)] at hN
    obtain ⟨v, hv, hov⟩ := hN.o
    have cO := hv.cell
    have hnl := needAcc_len ss ss.length
    have HND := Lib.hid (show (needAcc ss ss.length).1.reverse = needL ss from rfl)
    generalize needAcc ss ss.length = acc at *
    rcases hov.form with ⟨rfl, hnil⟩ | ⟨g, c, rfl, hf1, hf2, hf3, hf4⟩
    · go_wp2_with (go_at_call 104; refine (Reverse_nil _).mono ?_; rintro e w5 ⟨rfl, rfl⟩)
      refine ⟨by simp, .inl ⟨_, _, rfl, run_takeDeferred hK, ?_⟩⟩
      refine ⟨_, results_tmp rfl _ _ _, _, rfl, ?_, ?_⟩
      · rw [← HND.out, hnil, hh]
        exact OwnI.nil _ _
      · rw [← hh] at hB
        exact hB.trans (belowK_b (w := w) (Nat.le_refl _) W D _ _ (by omega) hK rfl rfl)
    · go_wp2_with (go_at_call 104; refine (Reverse_own g c h _ acc.1 rfl _ hov (by omega)).mono ?_; rintro e w5 ⟨rfl, hg5, ho5⟩; have cO5 := (hv.kept hg5 (fun e => by injection e with e; exact own_ne_box hov hv (by decide) e)).cell)
      have hlD := (Array.getElem?_eq_some_iff.1 hK).1
      have hgD : D ≠ g := fun e => by
        subst e
        obtain ⟨cur, fz, e1⟩ := ownsRow_ty hov D rfl
        rw [hK] at e1
        cases e1
      have hK5 : w5.heap[D]? = some (.deferred (some [])) := (World.grownBy.block hg5 D hlD (fun e => hgD (by injection e))).trans hK
      refine ⟨by simp, .inl ⟨_, _, rfl, run_takeDeferred hK5, ?_⟩⟩
      refine ⟨_, results_tmp rfl _ _ _, _, rfl, ?_, ?_⟩
      · rw [← HND.out, hh]
        have := ownsRow_putObj ho5 (.deferred none) hK5 rfl
        exact this
      · rw [← hh] at hB
        have hB5 : Below w.heap.size w w5 := Below.grown hB hg5 hB.size (fun k e => by injection e with e; omega)
        exact hB5.trans (belowK_b (w := w) (Nat.le_refl _) w5 D _ _ (by omega) hK5 rfl rfl)
  case stop =>
    rintro D c pre W _ _ h _
    exact h.elim
end Go.Proofs.YtfnjhodologfeaaGreat
