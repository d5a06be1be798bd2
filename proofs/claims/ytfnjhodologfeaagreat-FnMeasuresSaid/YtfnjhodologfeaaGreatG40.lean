/- Parts of the proof: F4, F3. -/
import Derived.Test.YtfnjhodologfeaaGreatG21
import Derived.Test.YtfnjhodologfeaaGreatChecked
import Derived.Test.YtfnjhodologfeaaGreatRows
import Derived.WalkKit
import Derived.ProofKit
import Derived.OpenShut
import Derived.ShutString
import Derived.ChangeOld
import Derived.Below
set_option linter.unusedSimpArgs false
set_option linter.unusedVariables false
/- what came in: a row of bytes, of whatever type its row is -/
namespace Go.Proofs.YtfnjhodologfeaaGreat
open Go.ChangeShapes Go.WideShapes Go.ChangeAt Go.RowKit

theorem own : ownKnob Tryz.prog.godebug = none := by kernel_rfl
theorem laidOut : laidOutB Tryz.prog = true := by kernel_rfl

/-- may a row of e hold a value that fits -/
def mayHold (p : Program) (fits : TypeId → Bool) : Nat → TypeId → Bool
  | 0, _ => false
  | d + 1, e => fits e || (match p.underlying e with
    | some (.struct fs) => fs.any fun f => mayHold p fits d f.type
    | some (.array _ e') => mayHold p fits d e'
    | _ => false)
theorem mayHold_of {p : Program} {fits : TypeId → Bool} : ∀ (d : Nat) (e : TypeId) (c o n : Nat), rowAt p fits d e c o n = true → mayHold p fits d e = true
  | 0, _, _, _, _, h => by simp [rowAt] at h
  | d + 1, e, c, o, n, h => by
    unfold rowAt at h
    unfold mayHold
    by_cases hs : p.cellsOf e = 0
    · rw [if_pos hs] at h
      exact absurd h (by simp)
    · rw [if_neg hs] at h
      dsimp only at h
      rw [Bool.or_eq_true] at h ⊢
      rcases h with h | h
      · rw [Bool.and_eq_true] at h
        exact .inl h.2
      · rw [Bool.and_eq_true] at h
        have h2 := h.2
        right
        revert h2
        cases hu : p.underlying e with
        | none => intro h2; exact absurd h2 (by simp)
        | some u =>
          cases u with
          | struct fs =>
            intro h2
            dsimp only at h2 ⊢
            rw [Bool.and_eq_true] at h2
            obtain ⟨f, hf, h4⟩ := Array.any_eq_true'.1 h2.2
            simp only [Bool.and_eq_true] at h4
            exact Array.any_eq_true'.2 ⟨f, hf, mayHold_of d _ _ _ _ h4.2⟩
          | array m e' =>
            intro h2
            exact mayHold_of d _ _ _ _ h2
          | _ => intro h2; exact absurd h2 (by simp)
theorem noHold : ([3, 33, 40, 26, 63, 4, 9].all fun T => !(mayHold Tryz.prog (sameLayout Tryz.prog Tryz.prog.depth · 5) Tryz.prog.depth T)) = true := by kernel_rfl
theorem goodT_of {T : TypeId} (h : mayHold Tryz.prog (sameLayout Tryz.prog Tryz.prog.depth · 5) Tryz.prog.depth T = true) : goodT T = true := by
  unfold goodT
  rw [Bool.not_eq_true', ← Bool.not_eq_true, List.contains_iff_mem]
  intro hm
  have := List.all_eq_true.1 noHold T hm
  rw [h] at this
  exact absurd this (by decide)
theorem lies_may {p : Program} {T u : TypeId} {k : IntKind} {c o n : Nat} (hu : p.underlying u = some (.int k)) : ∀ d, liesAt p d T c o u n = true → mayHold p (sameLayout p p.depth · u) p.depth T = true
  | 0, h => by simp [liesAt] at h
  | d + 1, h => by
    unfold liesAt at h
    rw [hu] at h
    simp only [Bool.or_false] at h
    exact mayHold_of _ _ _ _ _ h
theorem lies_good {T : TypeId} {c o n d : Nat} (h : liesAt Tryz.prog d T c o 5 n = true) : goodT T = true := goodT_of (lies_may Tryz.underlying5 d h)
theorem byts_nil (w : World) : Byts w (.slice none 0 0) [] := ⟨⟨5, by decide, by simp, none, 0, rfl, by decide, by decide, .inl rfl⟩, by simp⟩
set_option maxRecDepth 100000 in
theorem byts_row {w : World} {base : Nat} {x : Addr} {l c : Nat} {zs : List Int} (hv : Value.okWide Tryz.prog w .any base 22 (.slice (some x) l c)) (hl : l ≤ c) (hm : c ≤ maxLen) (hz : zs.length = c)
    (hcell : ∀ i, i < zs.length → w.cell? (x.add i) = some (.int .u8 (zs.getD i 0))) (hwz : ∀ n ∈ zs, (Lit.int .u8 n).wf = true) : Byts w (.slice (some x) l c) (zs.take l) := by
  simp only [Value.okWide, Tryz.underlying22, Cell.okWide, Cell.ok] at hv
  obtain ⟨_, _, _, hs, row, cells, hsh, hla⟩ := hv
  have hT : goodT row = true := lies_good hla
  obtain ⟨b, off, spot⟩ := x
  simp only at hs
  subst hs
  have hlen : (zs.take l).length = l := by simp; omega
  have hr : ∀ n ∈ zs.take l, 0 ≤ n ∧ n ≤ 255 := by
    intro n hn
    have := hwz n (List.mem_of_mem_take hn)
    simp [Lit.wf, IntKind.min, IntKind.max, IntKind.signed, IntKind.bits] at this
    exact this
  refine ⟨⟨row, hT, ?_⟩, hr⟩
  refine ⟨by simp, some ⟨b, off, none⟩, c, by rw [hlen], by rw [hlen]; exact hl, hm, ?_⟩
  right
  refine ⟨b, off, rfl, ?_⟩
  unfold World.shape? at hsh
  split at hsh
  · rename_i cur elem fz hb
    injection hsh with hsh
    injection hsh with e1 e2
    subst e1
    refine ⟨cur, fz, hb, fun j hj => ?_⟩
    simp only [List.length_map, hlen] at hj
    have h1 := hcell j (by omega)
    have ea : (⟨b, off, none⟩ : Addr).add j = ⟨b, off + j, none⟩ := by
      unfold Addr.add
      by_cases hj0 : j = 0
      · subst hj0
        simp
      · simp [hj0]
    rw [ea] at h1
    simp only at hb
    simp [World.cell?, hb] at h1
    rw [h1]
    simp [List.getElem_map, List.getElem_take, List.getD_eq_getElem?_getD, show j < zs.length by omega]
  · exact absurd hsh (by simp)
end Go.Proofs.YtfnjhodologfeaaGreat
/- the statement FnMeasures: the last frame, given the walk -/
namespace Go.Proofs.YtfnjhodologfeaaGreat
open Go.ChangeShapes Go.WideShapes Go.ChangeAt Go.RowKit

/-- the walk that is wanted -/
def MeasWalk : Prop := ∀ (v : Value) (bs : List Int) (w : World), Byts w v bs → Calls Tryz.prog 3 #[v] w fun e w' => e = .returned (.bool true) ∧ Ext w w'
set_option maxRecDepth 100000 in
theorem lifted_measures (hL : MeasWalk) (os : Os) (started : os.Started) (H : Type) (enc : TypeId × Value → H) :
    ReturnsInHanded {} Tryz.checked os 3 .any (Rows.fnMeasuresSpec.pre6 enc Tryz.prog Tryz.f3 Rows.fnMeasuresRow.domain false) (Rows.fnMeasuresSpec.post enc Tryz.prog Tryz.f3 false true false false) := by
  refine returnsInHanded_of_change (C := Tryz.checked) own started (by kernel_rfl) Tryz.func3
    (ChangeSpec.witness6 (enc := enc) (C := Tryz.checked) false ⟨#[], #[.slice none 0 0], []⟩ 8 (by kernel_rfl) (by kernel_rfl) (by kernel_rfl) (by kernel_rfl)) ?_
  intro W base args ds gs before hval0 hW hcnd _
  have hval : ∀ (j : Nat) t v, Tryz.f3.params[j]? = some t → args[j]? = some v → Value.okWide Tryz.prog W .any base t v := hval0
  have hW' := hW
  obtain ⟨p, q, hA0, hV, rfl, hfz, hnd⟩ := hW
  have hA : DataW.TrodAll enc Tryz.prog W 0 (fun _ => true) true Tryz.f3.params.toList args.toList ds p := hA0
  rw [Tryz.params3] at hA hval
  obtain ⟨v0, vs0, d0, ds0, p0, q0, hargs, rfl, rfl, h0, r0⟩ := trodAll_cons hA
  obtain ⟨rfl, rfl, rfl⟩ := trodAll_nil r0
  obtain rfl : args = #[v0] := by cases args; simp_all
  obtain ⟨rfl, rfl⟩ := trodVars_none hV
  obtain ⟨a0, len0, cap0, rfl⟩ := okWide_slice Tryz.underlying22 (hval 0 22 v0 rfl rfl)
  have k0 := h0
  have lt0 : ∀ x ∈ p0, x.block < W.heap.size := by obtain ⟨m, hm⟩ := k0; exact DataW.trod_lt m _ _ _ hm
  obtain ⟨bs, hb⟩ : ∃ bs, Byts W (.slice a0 len0 cap0) bs := by
    obtain ⟨fuel, hf⟩ := h0
    rcases open_ints Tryz.underlying22 Tryz.underlying5 (by kernel_rfl) hf with ⟨hcs, _⟩ | ⟨x, l, c, zs, hcs, _, hl, hm, hz, _, hcell, hwz⟩
    · simp [Value.cells] at hcs
      obtain ⟨rfl, rfl, rfl⟩ := hcs
      exact ⟨[], byts_nil W⟩
    · simp [Value.cells] at hcs
      obtain ⟨rfl, rfl, rfl⟩ := hcs
      exact ⟨_, byts_row (hval 0 22 _ rfl rfl) hl hm (by simpa using hz) hcell hwz⟩
  clear hA0 hval0
  refine (hL (.slice a0 len0 cap0) bs W hb).mono fun e W' ⟨he, bel0⟩ => ?_
  have bel : Below W.heap.size W W' := bel0
  subst he
  exact ⟨_, rfl, _, _, _, [], _, [], hW', trodAll_mk1 (shut_bool Tryz.underlying4 _), (trodAll_cons_mk (Below.trod laidOut (by kernel_rfl) (of_decide_eq_true (by kernel_rfl)) k0 bel lt0) trodAll_mk0), rfl, bel.frame _, fun h => by cases h⟩

theorem over_measures (hL : MeasWalk) : Rows.fnMeasuresRow.holds Tryz.pinned (OpenSpec.ofChange Rows.fnMeasuresSpec) :=
  OpenClaim.holds_of_wide 3 Tryz.f3 rfl rfl rfl rfl rfl rfl rfl ⟨rfl, rfl, rfl, rfl, rfl⟩ rfl rfl rfl rfl rfl (by kernel_rfl) Tryz.func3 (by kernel_rfl)
    (of_decide_eq_true (by kernel_rfl)) (by unfold Func.isWrapper; first | (rw [if_pos (by decide +kernel)]; kernel_rfl) | (rw [if_neg (by decide +kernel)]; exact ⟨rfl, rfl⟩))
    (fun os started H enc _ => lifted_measures hL os started H enc)

end Go.Proofs.YtfnjhodologfeaaGreat
