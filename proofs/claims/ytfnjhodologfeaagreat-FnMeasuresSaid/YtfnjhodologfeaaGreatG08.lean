/- Parts of the proof: M1, B8, B9. -/
import Derived.Test.YtfnjhodologfeaaGreatG07
import Derived.Test.YtfnjhodologfeaaGreatG06
import Derived.Shelf.SlSortCmp.NoneTotal
import Derived.Lib.AppendZerosOnto
set_option linter.unusedSimpArgs false
set_option linter.unusedVariables false
/- plain: sorting and joining literals -/
namespace Go.Proofs.YtfnjhodologfeaaGreat
open Go.RowKit

def ltL (x y : Int) : Bool := decide (absI x < absI y) || (decide (absI x = absI y) && decide (y < x))
theorem absI_eq {x y : Int} (h : absI x = absI y) : x = y ∨ x = -y := by
  unfold absI at h
  split at h <;> split at h <;> omega
theorem absI_neg (x : Int) : absI (-x) = absI x := by
  unfold absI
  split <;> split <;> omega
theorem ltL_iff {x y : Int} : ltL x y = true ↔ absI x < absI y ∨ (absI x = absI y ∧ y < x) := by simp [ltL]
theorem cmpL_lt (a b : Int) : decide (cmpL a b < 0) = ltL a b := by
  rw [Bool.eq_iff_iff, ltL_iff, decide_eq_true_iff]
  unfold cmpL sgn
  by_cases h1 : absI a < absI b
  · simp [h1]
  · by_cases h2 : absI b < absI a
    · simp [h1, h2]; omega
    · have h3 : absI a = absI b := by omega
      simp only [h1, h2, h3, Int.lt_irrefl, if_true, if_false, false_or, true_and]
      split
      · simp_all
      · split <;> simp_all
theorem ltL_irrefl (x : Int) : ltL x x = false := by simp [ltL]
theorem ltL_trans {x y z : Int} (h1 : ltL x y = true) (h2 : ltL y z = true) : ltL x z = true := by
  rw [ltL_iff] at *
  omega
theorem ltL_ntrans {x y z : Int} (h1 : ltL x y = false) (h2 : ltL y z = false) : ltL x z = false := by
  rw [Bool.eq_false_iff, ne_eq, ltL_iff] at *
  rcases Int.lt_trichotomy (absI x) (absI y) with h | h | h
  · omega
  · rcases Int.lt_trichotomy (absI y) (absI z) with h' | h' | h'
    · omega
    · omega
    · omega
  · omega
theorem ltL_tot {x y : Int} (h1 : ltL x y = false) (h2 : ltL y x = false) : x = y := by
  rw [Bool.eq_false_iff, ne_eq, ltL_iff] at *
  rcases absI_eq (show absI x = absI y by omega) with h | h
  · exact h
  · omega

/-- strictly ascending -/
def SL (zs : List Int) : Prop := zs.Pairwise fun x y => ltL x y = true
def SA (zs : List Int) : Prop := zs.Pairwise fun x y => absI x < absI y

theorem compact_strict (ys : List Int) (h : ∀ i j, i < j → j < ys.length → ltL ys.toArray[j]! ys.toArray[i]! = false) : SL (Lib.compact ys) ∧ ∀ x, x ∈ Lib.compact ys ↔ x ∈ ys := by
  have key : ∀ m, m ≤ ys.length → SL (Lib.compactUpTo ys.toArray m) ∧ ∀ x, x ∈ Lib.compactUpTo ys.toArray m ↔ ∃ i, i < m ∧ x = ys.toArray[i]! := by
    intro m
    induction m with
    | zero => intro _; exact ⟨by simp [Lib.compactUpTo, SL], by simp [Lib.compactUpTo]⟩
    | succ m ih =>
      intro hm
      obtain ⟨h1, h2⟩ := ih (by omega)
      rw [Lib.compactUpTo_succ]
      by_cases hk : Lib.keeps ys.toArray m = true
      · rw [if_pos hk]
        have hk' : m = 0 ∨ ys.toArray[m]! ≠ ys.toArray[m - 1]! := by
          unfold Lib.keeps at hk
          exact of_decide_eq_true hk
        constructor
        · refine List.pairwise_append.2 ⟨h1, by simp, ?_⟩
          intro x hx y hy
          simp only [List.mem_singleton] at hy
          subst hy
          obtain ⟨i, hi, rfl⟩ := (h2 x).1 hx
          cases hlt : ltL ys.toArray[i]! ys.toArray[m]! with
          | true => rfl
          | false =>
            exfalso
            have e1 := ltL_tot hlt (h i m hi (by omega))
            rcases hk' with hk' | hk'
            · omega
            · apply hk'
              by_cases him : i = m - 1
              · subst him; exact e1.symm
              · have n1 := h i (m - 1) (by omega) (by omega)
                have n2 := h (m - 1) m (by omega) (by omega)
                rw [e1] at n1
                exact ltL_tot n2 n1
        · intro x
          rw [List.mem_append, h2, List.mem_singleton]
          constructor
          · rintro (⟨i, hi, rfl⟩ | rfl)
            · exact ⟨i, by omega, rfl⟩
            · exact ⟨m, by omega, rfl⟩
          · rintro ⟨i, hi, rfl⟩
            by_cases him : i = m
            · subst him; exact .inr rfl
            · exact .inl ⟨i, by omega, rfl⟩
      · rw [if_neg hk, List.append_nil]
        have hk' : 0 < m ∧ ys.toArray[m]! = ys.toArray[m - 1]! := by
          unfold Lib.keeps at hk
          simp only [decide_eq_true_iff] at hk
          constructor
          · omega
          · exact Classical.byContradiction fun h => hk (.inr h)
        refine ⟨h1, fun x => ?_⟩
        rw [h2]
        constructor
        · rintro ⟨i, hi, rfl⟩
          exact ⟨i, by omega, rfl⟩
        · rintro ⟨i, hi, rfl⟩
          by_cases him : i = m
          · subst him; exact ⟨i - 1, by omega, hk'.2⟩
          · exact ⟨i, by omega, rfl⟩
  obtain ⟨h1, h2⟩ := key ys.length (Nat.le_refl _)
  refine ⟨h1, fun x => ?_⟩
  rw [Lib.compact, h2]
  constructor
  · rintro ⟨i, hi, rfl⟩
    rw [getElem!_pos ys.toArray i (by simpa using hi)]
    simp
  · intro hx
    obtain ⟨i, hi, rfl⟩ := List.mem_iff_getElem.1 hx
    exact ⟨i, hi, by rw [getElem!_pos ys.toArray i (by simpa using hi)]; simp⟩

/-- two neighbours are opposites -/
def opp (zs : List Int) : Nat → Bool
  | 0 => false
  | 1 => false
  | k + 2 => opp zs (k + 1) || (match zs[k + 1]?, zs[k]? with | some x, some y => x == -y | _, _ => false)
def clauseO (zs : List Int) : Option (List Int) := if opp zs zs.length = true then none else some zs

theorem opp_false {zs : List Int} : ∀ {k : Nat}, opp zs k = false → ∀ j x y, j + 1 < k → zs[j + 1]? = some x → zs[j]? = some y → x ≠ -y
  | 0, _, _, _, _, hj, _, _ => by omega
  | 1, _, _, _, _, hj, _, _ => by omega
  | k + 2, h, j, x, y, hj, hx, hy => by
    simp only [opp, Bool.or_eq_false_iff] at h
    by_cases hjk : j + 1 < k + 1
    · exact opp_false h.1 j x y hjk hx hy
    · obtain rfl : j = k := by omega
      have h2 := h.2
      rw [hx, hy] at h2
      simpa using h2
theorem opp_true {zs : List Int} : ∀ {k : Nat}, opp zs k = true → ∃ j x y, zs[j + 1]? = some x ∧ zs[j]? = some y ∧ x = -y
  | 0, h => by simp [opp] at h
  | 1, h => by simp [opp] at h
  | k + 2, h => by
    simp only [opp, Bool.or_eq_true] at h
    rcases h with h | h
    · exact opp_true h
    · cases hx : zs[k + 1]? with
      | none => simp [hx] at h
      | some x =>
        cases hy : zs[k]? with
        | none => simp [hx, hy] at h
        | some y => exact ⟨k, x, y, hx, hy, by simpa [hx, hy] using h⟩

theorem pairwise_adj {R : Int → Int → Prop} (htr : ∀ x y z, R x y → R y z → R x z) : ∀ (zs : List Int), (∀ j x y, zs[j + 1]? = some x → zs[j]? = some y → R y x) → zs.Pairwise R
  | [], _ => List.Pairwise.nil
  | [a], _ => by simp
  | a :: b :: r, h => by
    have ih := pairwise_adj htr (b :: r) (fun j x y hx hy => h (j + 1) x y hx hy)
    refine List.pairwise_cons.2 ⟨?_, ih⟩
    intro z hz
    have hab := h 0 b a rfl rfl
    rcases List.mem_cons.1 hz with rfl | hz
    · exact hab
    · exact htr _ _ _ hab ((List.pairwise_cons.1 ih).1 z hz)

theorem sl_sa {zs : List Int} (h : SL zs) (ho : opp zs zs.length = false) : SA zs := by
  refine pairwise_adj (fun x y z h1 h2 => by omega) zs ?_
  intro j x y hx hy
  have hj : j + 1 < zs.length := (List.getElem?_eq_some_iff.1 hx).1
  have hne := opp_false ho j x y hj hx hy
  have hlt : ltL y x = true := by
    obtain ⟨h1, rfl⟩ := List.getElem?_eq_some_iff.1 hx
    obtain ⟨h2, rfl⟩ := List.getElem?_eq_some_iff.1 hy
    exact List.pairwise_iff_getElem.1 h j (j + 1) h2 h1 (by omega)
  rw [ltL_iff] at hlt
  rcases hlt with h | ⟨h, h'⟩
  · exact h
  · rcases absI_eq h with e | e
    · omega
    · exact absurd (show x = -y by omega) hne

theorem sa_inj {zs : List Int} (h : SA zs) {x y : Int} (hx : x ∈ zs) (hy : y ∈ zs) (e : absI x = absI y) : x = y := by
  obtain ⟨i, hi, rfl⟩ := List.mem_iff_getElem.1 hx
  obtain ⟨j, hj, rfl⟩ := List.mem_iff_getElem.1 hy
  rcases Nat.lt_trichotomy i j with h1 | h1 | h1
  · have := List.pairwise_iff_getElem.1 h i j hi hj h1; omega
  · subst h1; rfl
  · have := List.pairwise_iff_getElem.1 h j i hj hi h1; omega

theorem sa_unique : ∀ {xs ys : List Int}, SA xs → SA ys → (∀ x, x ∈ xs ↔ x ∈ ys) → xs = ys
  | [], [], _, _, _ => rfl
  | [], y :: ys, _, _, h => by have := (h y).2 (by simp); simp at this
  | x :: xs, [], _, _, h => by have := (h x).1 (by simp); simp at this
  | x :: xs, y :: ys, h1, h2, h => by
    obtain ⟨a1, a2⟩ := List.pairwise_cons.1 h1
    obtain ⟨b1, b2⟩ := List.pairwise_cons.1 h2
    have hxy : x = y := by
      rcases List.mem_cons.1 ((h x).1 (by simp)) with e | e
      · exact e
      · rcases List.mem_cons.1 ((h y).2 (by simp)) with e' | e'
        · exact e'.symm
        · have := a1 _ e'; have := b1 _ e; omega
    subst hxy
    rw [sa_unique a2 b2 (fun z => ?_)]
    constructor
    · intro hz
      rcases List.mem_cons.1 ((h z).1 (by simp [hz])) with e | e
      · subst e; have := a1 _ hz; omega
      · exact e
    · intro hz
      rcases List.mem_cons.1 ((h z).2 (by simp [hz])) with e | e
      · subst e; have := b1 _ hz; omega
      · exact e

theorem putL_mem (c : List Int) (l x : Int) : x ∈ putL c l ↔ x = l ∨ x ∈ c := by
  unfold putL
  have h := List.takeWhile_append_dropWhile (p := fun x => decide (absI x < absI l)) (l := c)
  conv => rhs; rw [← h]
  simp only [List.mem_append, List.mem_cons]
  constructor
  · rintro (h | h | h)
    · exact .inr (.inl h)
    · exact .inl h
    · exact .inr (.inr h)
  · rintro (h | h | h)
    · exact .inr (.inl h)
    · exact .inl h
    · exact .inr (.inr h)

theorem putL_sa : ∀ {c : List Int} {l : Int}, SA c → (∀ x ∈ c, absI x ≠ absI l) → SA (putL c l)
  | [], l, _, _ => by simp [putL, SA]
  | a :: c, l, h, hne => by
    obtain ⟨h1, h2⟩ := List.pairwise_cons.1 h
    by_cases ha : absI a < absI l
    · have e : putL (a :: c) l = a :: putL c l := by simp [putL, ha]
      rw [e]
      refine List.pairwise_cons.2 ⟨?_, putL_sa h2 (fun x hx => hne x (by simp [hx]))⟩
      intro x hx
      rcases (putL_mem c l x).1 hx with rfl | hx
      · exact ha
      · exact h1 x hx
    · have e : putL (a :: c) l = l :: a :: c := by simp [putL, ha]
      rw [e]
      have := hne a (by simp)
      refine List.pairwise_cons.2 ⟨?_, h⟩
      intro x hx
      rcases List.mem_cons.1 hx with rfl | hx
      · omega
      · have := h1 x hx; omega

theorem hasB_iff {c : List Int} {l : Int} : hasB c l = true ↔ l ∈ c := by simp [hasB]

theorem joinL_spec : ∀ (b out : List Int), SA out → match joinL out b with
    | some s => SA s ∧ ∀ x, x ∈ s ↔ x ∈ out ∨ x ∈ b
    | none => ∃ x, (x ∈ out ∨ x ∈ b) ∧ (-x ∈ out ∨ -x ∈ b)
  | [], out, h => by rw [joinL]; exact ⟨h, by simp⟩
  | y :: b, out, h => by
    rw [joinL]
    by_cases h1 : hasB out (-y) = true
    · rw [if_pos h1]
      exact ⟨y, by simp, .inl (hasB_iff.1 h1)⟩
    · rw [if_neg h1]
      by_cases h2 : hasB out y = true
      · rw [if_pos h2]
        have ih := joinL_spec b out h
        revert ih
        have hy := hasB_iff.1 h2
        cases joinL out b with
        | none =>
          rintro ⟨x, hx, hx'⟩
          refine ⟨x, ?_, ?_⟩
          · simp only [List.mem_cons]; grind
          · simp only [List.mem_cons]; grind
        | some s =>
          rintro ⟨hs, hm⟩
          refine ⟨hs, fun x => ?_⟩
          rw [hm]
          simp only [List.mem_cons]
          constructor
          · grind
          · rintro (h | h | h)
            · exact .inl h
            · subst h; exact .inl hy
            · exact .inr h
      · rw [if_neg h2]
        have ih := joinL_spec b (putL out y) (putL_sa h (fun x hx e => by
          rcases absI_eq e with e | e
          · subst e; exact h2 (hasB_iff.2 hx)
          · subst e; exact h1 (hasB_iff.2 hx)))
        revert ih
        cases joinL (putL out y) b with
        | none =>
          rintro ⟨x, hx, hx'⟩
          rw [putL_mem] at hx hx'
          refine ⟨x, ?_, ?_⟩
          · simp only [List.mem_cons]; grind
          · simp only [List.mem_cons]; grind
        | some s =>
          rintro ⟨hs, hm⟩
          refine ⟨hs, fun x => ?_⟩
          rw [hm, putL_mem]
          simp only [List.mem_cons]
          grind

theorem clauseO_join {a b zs : List Int} (ha : SA a) (hz : SL zs) (hm : ∀ x, x ∈ zs ↔ x ∈ a ++ b) (h0 : ∀ x ∈ a ++ b, x ≠ 0) : clauseO zs = joinL a b := by
  have hj := joinL_spec b a ha
  unfold clauseO
  revert hj
  cases joinL a b with
  | none =>
    rintro ⟨x, hx, hx'⟩
    rw [← List.mem_append] at hx hx'
    cases ho : opp zs zs.length with
    | true => simp
    | false =>
      exfalso
      have hsa := sl_sa hz ho
      have := sa_inj hsa ((hm _).2 hx) ((hm _).2 hx') (absI_neg x).symm
      exact h0 x hx (by omega)
  | some s =>
    rintro ⟨hs, hsm⟩
    cases ho : opp zs zs.length with
    | true =>
      exfalso
      obtain ⟨j, x, y, hx, hy, e⟩ := opp_true ho
      have hxs : x ∈ a ++ b := (hm _).1 (List.mem_of_getElem? hx)
      have hys : y ∈ a ++ b := (hm _).1 (List.mem_of_getElem? hy)
      have := sa_inj hs ((hsm _).2 (List.mem_append.1 hxs)) ((hsm _).2 (List.mem_append.1 hys)) (by rw [e, absI_neg])
      exact h0 x hxs (by omega)
    | false =>
      simp only [Bool.false_eq_true, if_false, Option.some.injEq]
      refine sa_unique (sl_sa hz ho) hs (fun x => ?_)
      rw [hm, hsm, List.mem_append]

theorem okTo_sa {vars : Int} {c : List Int} (h : okTo vars c c.length = true) : SA c := by
  refine pairwise_adj (fun x y z h1 h2 => by omega) c ?_
  intro j x y hx hy
  have hj : j + 1 < c.length := (List.getElem?_eq_some_iff.1 hx).1
  have h2 := okTo_mono h (show j + 2 ≤ c.length by omega)
  simp only [okTo, Bool.and_eq_true] at h2
  have h3 := h2.2
  simp only [stepOk, hx, hy, Bool.and_eq_true, decide_eq_true_eq] at h3
  exact h3.2
theorem clauseB_sa {vars : Int} {c : List Int} (h : clauseB vars c = true) : SA c := by
  simp only [clauseB, Bool.and_eq_true] at h
  exact okTo_sa h.2
theorem clauseB_ne {vars : Int} {c : List Int} (h : clauseB vars c = true) : ∀ x ∈ c, x ≠ 0 := by
  intro x hx e
  subst e
  obtain ⟨j, hj, e⟩ := List.mem_iff_getElem.1 hx
  have := (clauseB_lt h j hj).1
  rw [e] at this
  simp [absI] at this
  omega
theorem withoutL_sa {c : List Int} {v : Int} (h : SA c) : SA (withoutL c v) := h.filter _
theorem withoutL_mem {c : List Int} {v x : Int} (h : x ∈ withoutL c v) : x ∈ c := (List.mem_filter.1 h).1
end Go.Proofs.YtfnjhodologfeaaGreat
/- slices.Grow, Concat; slices.SortFunc with compareLiterals; clause; resolve -/
namespace Go.Proofs.YtfnjhodologfeaaGreat
open Go.RowKit

theorem zeroCells_size (z : Array Value) (n : Nat) : (Builtin.zeroCells z n).size = n * z.size := by simp [Builtin.zeroCells]

set_option maxRecDepth 100000 in
set_option maxHeartbeats 1000000 in
theorem Grow_nil (n : Nat) (w : World) (hn : n ≤ 1000000000) :
    Calls Tryz.prog 97 #[.slice none 0 0, .int .i64 n] w (NewI w []) := by
  obtain ⟨i, hi, hz0, hz1, hz2⟩ := info_parts Tryz.infoI
  by_cases h0 : n = 0
  · subst h0
    go_enter Tryz.func97, Tryz.ntmps97
    go_wp2
    go_ret
    exact ⟨_, rfl, OwnI.nil _ _, .refl _⟩
  · have h4 : (n : Int) > 0 := by omega
    have hold : (Builtin.firstCells i.size 0 (.slice none 0 0)).run Tryz.prog w.drew = .ok ([] : List Value).toArray w.drew := run_firstCells_none w.drew i.size 0 0 0
    have h := fun ty => Lib.run_append_grow_zeros (P := Tryz.prog) w 33 3 ty 3 i (.int .i64 0) .i64 .i64 Tryz.underlying33 Tryz.underlying3 hi hz0 none 0 0 [] hold n (by omega) (by rw [hz1]; omega) (by omega) (by omega) (by rw [hz2]; omega) (by
      rw [hz2]; exact growslice_fits (by omega) (by omega))
    have hge : 0 + n ≤ grownCap w (0 + n) 0 3 := grownCap_ge w _ _ _
    have hle := grownCap_le_maxLen w (0 + n) 0 3 (by unfold maxLen; omega)
    generalize grownCap w (0 + n) 0 3 = G at h hge hle
    rw [Nat.zero_add] at h hge
    have hle' : G ≤ 9223372036854775807 := by unfold maxLen at hle; omega
    generalize hX : (([] : List Value).toArray ++ Builtin.zeroCells (Value.int .i64 0).cells n ++ Builtin.zeroCells (Value.int .i64 0).cells (G - n)) = X at h
    have hXs : X.size = G := by
      rw [← hX]
      have h1 : (Value.int .i64 0).cells.size = 1 := rfl
      simp only [Array.size_append, zeroCells_size, h1]
      simp; omega
    clear hold hX
    go_enter Tryz.func97, Tryz.ntmps97
    go_wp2_with (at_builtin; refine Lib.wpList_append_run _ rfl _ _ _ _ rfl _ _ rfl rfl _ _ (h _) ?_)
    go_ret
    refine ⟨_, rfl, ⟨rfl, .inr ⟨_, G, X, rfl, Nat.le_refl _, (show (w.heap.push (.cells X 3))[w.heap.size]? = some (.cells X 3) from Array.getElem?_push_size), by simp, hle, by omega, by simp⟩⟩, (by repeat (first | exact Ext.refl _ | assumption | apply Ext.dn | apply Ext.drew | apply Ext.alloc))⟩

set_option maxHeartbeats 1000000 in
theorem Concat_any (v : Value) (l : List (List Int)) (w : World) (hx : Lists w v l) (hl : l.flatten.length ≤ 1000000000) :
    Calls Tryz.prog 61 #[v] w (NewI w l.flatten) := by
  have hle : ∀ k, (l.take k).flatten.length ≤ l.flatten.length := by
    intro k
    have := congrArg (fun z => z.flatten.length) (List.take_append_drop k l)
    simp only [List.flatten_append, List.length_append] at this
    omega
  have hstep : ∀ (k : Nat) xs, l[k]? = some xs → (l.take (k + 1)).flatten = (l.take k).flatten ++ xs := by
    intro k xs h
    rw [take_succ_at h]; simp
  have HLE := Lib.hid hle
  have HST := Lib.hid hstep
  clear hle hstep
  obtain ⟨base, cap, rfl, hc1, hc2, hcell⟩ := hx.open
  go_enter Tryz.func61, Tryz.ntmps61
  go_wp2
  go_loop [3, 11] (fun n i => ∃ k : Nat, k ≤ l.length ∧ i = .int .i64 k ∧ n = .int .i64 ((l.take k).flatten.length : Nat)) (fun _ i => l.length - (intOf i).toNat)
  case atStart => exact ⟨0, Nat.zero_le _, rfl, rfl⟩
  case round =>
    obtain ⟨k, hk, rfl, rfl⟩ := hrel
    by_cases hlt : k < l.length
    · obtain ⟨b, off, rfl, hb, hcs⟩ := hcell k hlt
      obtain ⟨xs, u, hxk, hci⟩ := hcs k hlt
      obtain ⟨hcu, hcI⟩ := hci w (.refl _)
      obtain ⟨ub, uc, rfl, _, _, _⟩ := hcI.open
      have h1 := HST.out k xs hxk
      have h2 := HLE.out k
      have h3 := HLE.out (k + 1)
      rw [h1, List.length_append] at h3
      have HL2 := Lib.hid (congrArg List.length h1)
      clear hcell hcs hci hxk h1
      generalize hN : (l.take k).flatten.length = N at h2 h3 ⊢
      go_wp2
      refine ⟨⟨k + 1, by omega, by go_num, ?_⟩, by simp [intOf]; omega⟩
      rw [HL2.out, List.length_append, hN]
      go_num
    · have hkl : k = l.length := by omega
      have hN : (l.take k).flatten.length = l.flatten.length := by rw [hkl, List.take_length]
      rw [hN]
      clear hcell
      subst hkl
      generalize hM : l.flatten.length = M at hl ⊢
      go_wp2_with (go_at_call 97; refine (Grow_nil M _ (by omega)).mono ?_; rintro e w1 ⟨r1, rfl, ho1, he1⟩)
      obtain ⟨base, cap, hbv, hc1, hc2, hcell⟩ := hx.open
      injection hbv with hb1 hb2 hb3
      subst hb1 hb3
      clear hb2
      go_loopw [6, 27] (fun o i wr => ∃ k : Nat, k ≤ l.length ∧ i = .int .i64 k ∧ OwnI wr w.heap.size o (l.take k).flatten ∧ Ext w wr) (fun _ i _ => l.length - (intOf i).toNat)
      case atStart => exact ⟨0, Nat.zero_le _, rfl, ho1, he1⟩
      case round =>
        obtain ⟨k, hk, rfl, hown, hext⟩ := hrel
        by_cases hlt : k < l.length
        · obtain ⟨b, off, rfl, hb, hcs⟩ := hcell k hlt
          obtain ⟨xs, u, hxk, hci⟩ := hcs k hlt
          obtain ⟨hcu, hcI⟩ := hci wr hext
          have h1 := HST.out k xs hxk
          have h3 := HLE.out (k + 1)
          rw [h1, List.length_append] at h3
          have HL2 := Lib.hid h1
          clear hcell hcs hci hxk h1
          go_wp2_with (at_builtin; refine wpList_appI rfl _ _ rfl w.heap.size _ _ (l.take k).flatten xs rfl rfl hown hcI (by omega) hext.size ?_; intro v' w2 ho2 hg2 _)
          exact ⟨⟨k + 1, by omega, by go_num, by rw [HL2.out]; exact ho2, below_grown hext hown hext.size hg2⟩, by simp [intOf]; omega⟩
        · have hkl : k = l.length := by omega
          have hN : (l.take k).flatten = l.flatten := by rw [hkl, List.take_length]
          rw [hN] at hown
          clear hcell
          go_wp2
          go_ret
          exact ⟨_, rfl, hown, hext⟩
end Go.Proofs.YtfnjhodologfeaaGreat
/- slices.SortFunc with compareLiterals; clause; resolve -/
namespace Go.Proofs.YtfnjhodologfeaaGreat
open Go.RowKit

abbrev LitS := {x : Int // -1000000 ≤ x ∧ x ≤ 1000000}
instance : Inhabited LitS := ⟨⟨0, by decide⟩⟩
def encS (x : LitS) : Value := .int .i64 x.1
def cfS (x y : LitS) : Int := cmpL x.1 y.1
theorem ltOf_cfS (x y : LitS) : ltOf cfS x y = ltL x.1 y.1 := cmpL_lt x.1 y.1
theorem swoS : Sort.SWO (ltOf cfS) := ⟨fun x => by rw [ltOf_cfS]; exact ltL_irrefl _, fun x y z => by rw [ltOf_cfS, ltOf_cfS, ltOf_cfS]; exact ltL_trans, fun x y z => by rw [ltOf_cfS, ltOf_cfS, ltOf_cfS]; exact ltL_ntrans⟩
def litsOf (xs : List Int) (h : BdI xs) : List LitS := xs.attach.map fun x => ⟨x.1, h x.1 x.2⟩
theorem litsOf_map (xs : List Int) (h : BdI xs) : (litsOf xs h).map (·.1) = xs := by
  unfold litsOf
  rw [List.map_map]
  exact List.attach_map_subtype_val xs
theorem litsOf_enc (xs : List Int) (h : BdI xs) : (litsOf xs h).map encS = xs.map encI := by
  conv => rhs; rw [← litsOf_map xs h, List.map_map]
  rfl

set_option maxHeartbeats 1000000 in
theorem SortFunc_lits (g cap B : Nat) (xs : List Int) (w : World) (h : OwnI w B (.slice (some ⟨g, 0, none⟩) xs.length cap) xs) (hbd : BdI xs) (hl : xs.length ≤ 1000000000) (hg : g < w.heap.size) :
    Calls Tryz.prog 183 #[.slice (some ⟨g, 0, none⟩) xs.length cap, .func (.func 184) #[] #[]] w fun e w' =>
      e = .returned (.tuple #[]) ∧ ∃ ys, ys.length = xs.length ∧ (∀ x, x ∈ ys ↔ x ∈ xs) ∧ (∀ i j, i < j → j < ys.length → ltL ys.toArray[j]! ys.toArray[i]! = false) ∧ w.grownBy w' (some g) ∧ OwnI w' B (.slice (some ⟨g, 0, none⟩) xs.length cap) ys := by
  have eg : ∀ args w, (callFunc 184 args).run Tryz.prog w = .ok (.enter 184 args) w := fun args w => by kernel_rfl
  have hsz : (litsOf xs hbd).toArray.size = xs.length := by have := congrArg List.length (litsOf_map xs hbd); simpa using this
  have hcmp : CmpLays1 Tryz.prog 184 #[] encS cfS g 0 (litsOf xs hbd).toArray.size w := by
    intro m os dk _ x y
    refine (compareLiterals_any x.1 y.1 _ x.2.1 x.2.2 y.2.1 y.2.2).mono ?_
    rintro e w' ⟨rfl, o, rfl⟩
    refine ⟨rfl, 0, #[o], ?_⟩
    rfl
  have hc := Any.slices_SortFunc Tryz.sortFuncL encS (fun _ => rfl) cfS swoS 184 #[] g 0 cap (litsOf xs hbd).toArray w eg hcmp (h.holds encS _ (by simpa using litsOf_enc xs hbd)) hg (by omega)
  rw [hsz] at hc
  refine Calls.mono hc ?_
  rintro e w' ⟨rfl, d', n, os, hp, hs, rfl⟩
  refine ⟨rfl, d'.toList.map (·.1), ?_, ?_, ?_, ?_⟩
  · rw [List.length_map, Array.length_toList, hp.1, hsz]
  · intro x
    obtain ⟨h1, _, h2⟩ := hp
    rw [← hsz] at h2
    have e1 : d'.extract 0 (litsOf xs hbd).toArray.size = d' := by rw [← h1]; simp
    have e2 : (litsOf xs hbd).toArray.extract 0 (litsOf xs hbd).toArray.size = (litsOf xs hbd).toArray := by simp
    rw [e1, e2] at h2
    have h3 := (h2.map (·.1)).mem_iff (a := x)
    rw [h3]
    simp only [List.toList_toArray]
    rw [litsOf_map]
  · intro i j hij hj
    have hj' : j < d'.size := by simpa using hj
    have h2 := hs i j (Nat.zero_le _) hij (by rw [← hsz, ← hp.1]; exact hj')
    rw [ltOf_cfS] at h2
    have e1 : (d'.toList.map (·.1)).toArray[j]! = d'[j]!.1 := by
      rw [getElem!_pos _ j (by simpa using hj'), getElem!_pos d' j hj']; simp
    have e2 : (d'.toList.map (·.1)).toArray[i]! = d'[i]!.1 := by
      rw [getElem!_pos _ i (by simpa using (by omega : i < d'.size)), getElem!_pos d' i (by omega)]; simp
    rw [e1, e2]
    exact h2
  · have := h.sorted encS d' (ys := d'.toList.map (·.1)) (by rw [List.map_map]; rfl) (by rw [List.length_map, Array.length_toList, hp.1, hsz]) n os
    exact ⟨this.2, this.1⟩
end Go.Proofs.YtfnjhodologfeaaGreat
