/- Parts of the proof: K10, M14, E1. -/
import Derived.Test.YtfnjhodologfeaaGreatG33
import Derived.Test.YtfnjhodologfeaaGreatG30
import Derived.Test.YtfnjhodologfeaaGreatG21
set_option linter.unusedSimpArgs false
set_option linter.unusedVariables false
/- own rows of steps whose clauses lie apart from a given block -/
namespace Go.Proofs.YtfnjhodologfeaaGreat
open Go.RowKit

def OwnSG (g : Nat) (w : World) (B : Nat) (v : Value) (ss : List RS) : Prop :=
  ∃ cvs : List Value, cvs.length = ss.length ∧ w.ownsRow B 40 4 v ss.length (flatSteps cvs ss) ∧ (∀ (i : Nat) (u : Value) (s : RS), cvs[i]? = some u → ss[i]? = some s → Ints w u s.clause) ∧ ∀ u ∈ cvs, u.ownBlock ≠ some g
def StepsG (g : Nat) (w : World) (v : Value) (ss : List RS) : Prop :=
  ∃ cvs : List Value, cvs.length = ss.length ∧ Sl w v 40 4 ss.length (flatSteps cvs ss) ∧ (∀ (i : Nat) (u : Value) (s : RS), cvs[i]? = some u → ss[i]? = some s → Ints w u s.clause) ∧ ∀ u ∈ cvs, u.ownBlock ≠ some g
theorem OwnSG.own {g : Nat} {w : World} {B : Nat} {v : Value} {ss : List RS} (h : OwnSG g w B v ss) : OwnS w B v ss := by
  obtain ⟨cvs, h1, h2, h3, _⟩ := h
  exact ⟨cvs, h1, h2, h3⟩
theorem OwnSG.empty {w : World} {B : Nat} {v : Value} (g : Nat) (h : OwnS w B v []) : OwnSG g w B v [] := by
  obtain ⟨cvs, h1, h2, h3⟩ := h
  obtain rfl : cvs = [] := List.eq_nil_of_length_eq_zero (by simpa using h1)
  exact ⟨[], rfl, h2, h3, by simp⟩
theorem OwnSG.ext {g : Nat} {w w' : World} {B : Nat} {v : Value} {ss : List RS} (h : OwnSG g w B v ss) (hx : Ext w w') : OwnSG g w' B v ss := by
  obtain ⟨cvs, h1, h2, h3, h4⟩ := h
  exact ⟨cvs, h1, own_ext h2 hx, fun i u s a b => (h3 i u s a b).ext hx, h4⟩
theorem Ints.setOther {w : World} {u : Value} {c : List Int} {g : Nat} (h : Ints w u c) (hne : u.ownBlock ≠ some g) (j : Nat) (x : Value) : Ints (w.setCell ⟨g, j, none⟩ x) u c := by
  obtain ⟨h1, base, cap, rfl, h3, h4, h5⟩ := h
  refine ⟨h1, base, cap, rfl, h3, h4, ?_⟩
  rcases h5 with h5 | ⟨b, off, rfl, h6⟩
  · exact .inl h5
  · exact .inr ⟨b, off, rfl, h6.of_block (heap_setCell_other w ⟨g, j, none⟩ b x (fun e => hne (by subst e; rfl)))⟩
theorem OwnSG.set {g : Nat} {w : World} {B : Nat} {v : Value} {ss : List RS} (h : OwnSG g w B v ss) (hne : v.ownBlock ≠ some g) (j : Nat) (x : Value) : OwnSG g (w.setCell ⟨g, j, none⟩ x) B v ss := by
  obtain ⟨cvs, h1, h2, h3, h4⟩ := h
  exact ⟨cvs, h1, World.ownsRow.kept h2 (grown_set w g j x) (.inr hne), fun i u s a b => (h3 i u s a b).setOther (h4 u (List.mem_of_getElem? a)) j x, h4⟩
theorem steps_oneG {g : Nat} {w : World} {u : Value} {s : RS} (h : Ints w u s.clause) (hne : u.ownBlock ≠ some g) : StepsG g (w.alloc (.cells #[u, .int .i64 s.left, .int .i64 s.right, .int .i64 s.pivot] 40)) (.slice (some ⟨w.heap.size, 0, none⟩) 1 1) [s] := by
  refine ⟨[u], rfl, own_sl (World.ownsRow_lit (base := w.heap.size) (size := 4) w #[u, .int .i64 s.left, .int .i64 s.right, .int .i64 s.pivot] 1 (Nat.le_refl _) (by simp [maxLen]) rfl), ?_, by simpa using hne⟩
  intro i u' s' hi hs
  match i, hi, hs with
  | 0, hi, hs => simp only [List.getElem?_cons_zero, Option.some.injEq] at hi hs; subst hi; subst hs; exact h.ext (by repeat (first | exact Ext.refl _ | assumption | apply Ext.dn | apply Ext.drew | apply Ext.alloc))
  | n + 1, hi, hs => simp at hi
theorem run_appSG (g : Nat) (w : World) (B : Nat) (ty : TypeId) (v vx : Value) (xs ys : List RS) (hown : OwnSG g w B v xs) (hs : StepsG g w vx ys) (hlen : xs.length + ys.length ≤ 1099511627) (hB : B ≤ w.heap.size) :
    ∃ v' w', (Builtin.append_ #[27, 27] ty #[v, vx]).run Tryz.prog w = .ok v' w' ∧ OwnSG g w' B v' (xs ++ ys) ∧ w.grownBy w' v.ownBlock ∧ (v'.ownBlock = v.ownBlock ∨ v'.ownBlock = some w.heap.size) := by
  obtain ⟨i, hi, hz0, hz1, hz2⟩ := info_parts Tryz.infoS
  obtain ⟨c1, hl1, ho1, hc1, hf1⟩ := hown
  obtain ⟨c2, hl2, ho2, hc2, hf2⟩ := hs
  obtain ⟨v', w', hrun, h2, h3, h4⟩ := run_append_sl (P := Tryz.prog) w B 27 ty 40 i (.agg #[.slice none 0 0, .int .i64 0, .int .i64 0, .int .i64 0]) 4 48 Tryz.underlying27 hi hz0 hz1 hz2 rfl (by decide) v xs.length (flatSteps c1 xs) ho1 vx ys.length 40 (flatSteps c2 ys) ho2
    (flatSteps_one c2 ys hl2 (fun i u s a b => (hc2 i u s a b).one)) (by simp only [maxLen]; omega) (by omega) hB
  refine ⟨v', w', hrun, ⟨c1 ++ c2, by simp [hl1, hl2], ?_, ?_, fun u hu => by
    rcases List.mem_append.1 hu with h | h
    · exact hf1 u h
    · exact hf2 u h⟩, h3, h4⟩
  · rw [List.length_append, flatSteps_append c1 xs c2 ys hl1]
    exact h2
  · have hT : ∀ b, v.ownBlock = some b → ∃ cur fz T, w.heap[b]? = some (.cells cur T fz) ∧ T ≠ 3 := fun b hb => by
      obtain ⟨cur, fz, h⟩ := ownsRow_type ho1 b hb
      exact ⟨cur, fz, _, h, by decide⟩
    intro i u s hu hsi
    by_cases hlt : i < xs.length
    · rw [List.getElem?_append_left (by omega)] at hu
      rw [List.getElem?_append_left hlt] at hsi
      exact (hc1 i u s hu hsi).turned h3 hT
    · rw [List.getElem?_append_right (by omega)] at hu
      rw [List.getElem?_append_right (by omega), ← hl1] at hsi
      exact (hc2 _ u s hu hsi).turned h3 hT
theorem wpList_appSG {w : World} {ops : Array Oper} {rest : List Oper} {o : Oper} {a : Act} {Q : Exit → Act → World → Prop} (hgd : o.guard = none) (s x : Operand)
    (ho : o.op = .call { callee := .builtin .append, args := #[s, x], argTypes := #[27, 27] })
    (g B : Nat) (v vx : Value) (xs ys : List RS) (hsv : a.eval s = v) (hxv : a.eval x = vx) (hown : OwnSG g w B v xs) (hs : StepsG g w vx ys) (hlen : xs.length + ys.length ≤ 1099511627) (hB : B ≤ w.heap.size)
    (h : ∀ v' w', OwnSG g w' B v' (xs ++ ys) → w.grownBy w' v.ownBlock → (v'.ownBlock = v.ownBlock ∨ v'.ownBlock = some w.heap.size) → wpList Tryz.prog ops Q rest (a.put o.dst v') w') : wpList Tryz.prog ops Q (o :: rest) a w := by
  refine wpList_plain hgd fun K hK => ?_
  obtain ⟨v', w', hrun, h2, h3, h4⟩ := run_appSG g w B o.type v vx xs ys hown hs hlen hB
  unfold Oper.wp execOp
  simp only [ho, resolve, invoke, builtin, Sem.run_bind, Sem.run_pure, Result.andThen_ok, List.map_toArray, List.map_cons, List.map_nil, hsv, hxv, hrun]
  exact hK _ _ (h v' w' h2 h3 h4)

/-- make([]int, n) as an equation -/
theorem run_makeI (w : World) (n : Nat) (hn : n ≤ 1099511627776) : ∃ w', (Instr.makeSlice 33 (.int .i64 n) (.int .i64 n)).run Tryz.prog w = .ok (.slice (some ⟨w.heap.size, 0, none⟩) n n) w' ∧ OwnI w' w.heap.size (.slice (some ⟨w.heap.size, 0, none⟩) n n) (List.replicate n 0) ∧ Ext w w' := by
  obtain ⟨i, hi, hz0, hz1, hz2⟩ := info_parts Tryz.infoI
  obtain ⟨w', hrun, r1, r2⟩ := run_make_full (P := Tryz.prog) w w.heap.size 33 3 i (.int .i64 0) 1 Tryz.underlying33 hi hz0 hz1 .i64 .i64 n (by rw [hz2]; omega) (by simp only [maxLen]; omega) (Nat.le_refl _)
  refine ⟨w', hrun, ?_, ?_⟩
  · unfold OwnI
    rw [List.length_replicate, List.map_replicate]
    have : (madeCells (Value.int .i64 0).cells (n * 1)).toList = List.replicate n (encI 0) := by
      rw [Nat.mul_one]; exact toList_madeCells_one _ _
    rw [← this]
    exact r1
  · exact (Below.refl _ _).grown r2 (Nat.le_refl _) (fun k hk => by cases hk)
/-- make([]int, n) in a region that draws its order -/
theorem step_makeI {w : World} {ops : Array Oper} {o : Oper} {a : Act} {K : Act → World → Prop} {Q : Exit → Act → World → Prop} {E : Prop} (hgd : o.guard = none) (l c : Operand)
    (ho : o.op = .makeSlice 33 l c) (n : Nat) (hl : a.eval l = .int .i64 (n : Int)) (hc : a.eval c = .int .i64 (n : Int)) (hn : n ≤ 1099511627776)
    (h : ∀ w', OwnI w' w.heap.size (.slice (some ⟨w.heap.size, 0, none⟩) n n) (List.replicate n 0) → Ext w w' → K (a.put o.dst (.slice (some ⟨w.heap.size, 0, none⟩) n n)) w') :
    if Region.wanted o (yielded ops a.tmps) = true then Oper.wp Tryz.prog o a w K Q else E := by
  have hw : Region.wanted o (yielded ops a.tmps) = true := by simp [Region.wanted, hgd]
  rw [if_pos hw]
  obtain ⟨i, hi, hz0, hz1, hz2⟩ := info_parts Tryz.infoI
  obtain ⟨w', hrun, r1, r2⟩ := run_make_full (P := Tryz.prog) w w.heap.size 33 3 i (.int .i64 0) 1 Tryz.underlying33 hi hz0 hz1 .i64 .i64 n (by rw [hz2]; omega) (by simp only [maxLen]; omega) (Nat.le_refl _)
  unfold Oper.wp
  simp [execOp, ho, hl, hc, hrun, Result.andThen]
  refine h w' ?_ ?_
  · unfold OwnI
    rw [List.length_replicate, List.map_replicate]
    have : (madeCells (Value.int .i64 0).cells (n * 1)).toList = List.replicate n (encI 0) := by
      rw [Nat.mul_one]; exact toList_madeCells_one _ _
    rw [← this]
    exact r1
  · exact (Below.refl _ _).grown r2 (Nat.le_refl _) (fun k hk => by cases hk)
end Go.Proofs.YtfnjhodologfeaaGreat
/- how many clauses there are over few variables -/
namespace Go.Proofs.YtfnjhodologfeaaGreat
open Go.RowKit

/-- all clauses in order over k variables -/
def allCl : Nat → List (List Int)
  | 0 => [[]]
  | k + 1 => allCl k ++ ((allCl k).map (· ++ [((k + 1 : Nat) : Int)]) ++ (allCl k).map (· ++ [-((k + 1 : Nat) : Int)]))
theorem allCl_length : ∀ k, (allCl k).length = 3 ^ k
  | 0 => rfl
  | k + 1 => by
    rw [allCl, List.length_append, List.length_append, List.length_map, List.length_map, allCl_length k, Nat.pow_succ]
    omega
theorem OkC.le {k : Nat} {c : List Int} (h : OkC ((k + 1 : Nat) : Int) c) (hn : ∀ x ∈ c, absI x ≠ ((k + 1 : Nat) : Int)) : OkC (k : Int) c :=
  ⟨fun x hx => by
    have h1 := h.1 x hx
    have h2 := hn x hx
    unfold absI at h2
    split at h2 <;> omega, h.2⟩
theorem mem_allCl : ∀ (k : Nat) (c : List Int), OkC (k : Int) c → c ∈ allCl k
  | 0, c, h => by
    cases c with
    | nil => simp [allCl]
    | cons x c =>
      have := h.1 x (by simp)
      omega
  | k + 1, c, h => by
    rw [allCl]
    rcases List.eq_nil_or_concat c with rfl | ⟨d, x, hc⟩
    · exact List.mem_append_left _ (mem_allCl k [] (OkC.nil _))
    · have hc' : c = d ++ [x] := by rw [hc, List.concat_eq_append]
      subst hc'
      obtain ⟨h1, h2, h3⟩ := List.pairwise_append.1 h.2
      have hx := h.1 x (by simp)
      have hd : ∀ y ∈ d, absI y < absI x := fun y hy => h3 y hy x (by simp)
      have hax : absI x ≤ ((k + 1 : Nat) : Int) := by unfold absI; split <;> omega
      have hOd : OkC ((k + 1 : Nat) : Int) d := ⟨fun y hy => h.1 y (List.mem_append_left _ hy), h1⟩
      by_cases he : absI x = ((k + 1 : Nat) : Int)
      · have hm := mem_allCl k d (hOd.le (fun y hy => by have := hd y hy; omega))
        refine List.mem_append_right _ ?_
        by_cases hn : x < 0
        · have hxe : x = -((k + 1 : Nat) : Int) := by unfold absI at he; rw [if_pos hn] at he; omega
          exact List.mem_append_right _ (List.mem_map.2 ⟨d, hm, by rw [hxe]⟩)
        · have hxe : x = ((k + 1 : Nat) : Int) := by unfold absI at he; rw [if_neg hn] at he; omega
          exact List.mem_append_left _ (List.mem_map.2 ⟨d, hm, by rw [hxe]⟩)
      · refine List.mem_append_left _ (mem_allCl k _ (h.le (fun y hy => ?_)))
        rcases List.mem_append.1 hy with hy | hy
        · have := hd y hy; omega
        · simp at hy; subst hy; exact he
theorem nodup_sub {α : Type} [DecidableEq α] : ∀ (l m : List α), l.Nodup → (∀ x ∈ l, x ∈ m) → l.length ≤ m.length
  | [], m, _, _ => Nat.zero_le _
  | a :: l, m, h, hs => by
    obtain ⟨h1, h2⟩ := List.nodup_cons.1 h
    have ha : a ∈ m := hs a (by simp)
    have := nodup_sub l (m.erase a) h2 (fun x hx => (List.mem_erase_of_ne (fun e => h1 (by rw [← e]; exact hx))).2 (hs x (List.mem_cons_of_mem _ hx)))
    rw [List.length_erase_of_mem ha] at this
    have := List.length_pos_of_mem ha
    simp only [List.length_cons]
    omega
/-- pairwise different clauses over at most three variables: at most 27 -/
theorem few_clauses {n : Int} {l : List (List Int)} (h0 : 0 ≤ n) (h3 : n ≤ 3) (hok : ∀ c ∈ l, OkC n c) (hd : l.Nodup) : l.length ≤ 27 := by
  have := nodup_sub l (allCl 3) hd (fun c hc => mem_allCl 3 c ⟨fun x hx => by have := (hok c hc).1 x hx; omega, (hok c hc).2⟩)
  rw [allCl_length] at this
  exact this
end Go.Proofs.YtfnjhodologfeaaGreat
/- saturation: what l7Saturate builds, and how much of it there can be -/
namespace Go.Proofs.YtfnjhodologfeaaGreat
open Go.RowKit

/-- the axioms of the first clauses -/
def axTo (cl : List (List Int)) : Nat → List RS
  | 0 => []
  | k + 1 => axTo cl k ++ [⟨cl.getD k [], -1, k, 0⟩]
theorem axTo_length (cl : List (List Int)) : ∀ k, (axTo cl k).length = k
  | 0 => rfl
  | k + 1 => by simp [axTo, axTo_length cl k]
theorem axTo_get (cl : List (List Int)) : ∀ (n k : Nat), k < n → (axTo cl n)[k]? = some ⟨cl.getD k [], -1, k, 0⟩
  | 0, k, h => by omega
  | n + 1, k, h => by
    by_cases hk : k < n
    · rw [axTo, List.getElem?_append_left (by rw [axTo_length]; exact hk)]
      exact axTo_get cl n k hk
    · obtain rfl : k = n := by omega
      rw [axTo, List.getElem?_append_right (by rw [axTo_length]; omega), axTo_length]
      simp
theorem axTo_mem {cl : List (List Int)} {n : Nat} (hn : n ≤ cl.length) {s : RS} (hs : s ∈ axTo cl n) : s.clause ∈ cl ∧ s.left = -1 := by
  obtain ⟨k, hk, rfl⟩ := List.mem_iff_getElem.1 hs
  rw [axTo_length] at hk
  have h := axTo_get cl n k hk
  obtain ⟨_, e⟩ := List.getElem?_eq_some_iff.1 h
  rw [e]
  refine ⟨?_, rfl⟩
  show cl.getD k [] ∈ cl
  rw [List.getD, List.getElem?_eq_getElem (by omega)]
  simp

/-- how many steps are no axioms -/
def nx (ss : List RS) : Nat := ss.countP (fun s => !axB s)
theorem nx_append (a b : List RS) : nx (a ++ b) = nx a + nx b := by simp [nx, List.countP_append]
theorem nx_le (a : List RS) : nx a ≤ a.length := List.countP_le_length
theorem nx_axTo (cl : List (List Int)) : ∀ k, nx (axTo cl k) = 0
  | 0 => rfl
  | k + 1 => by
    rw [axTo, nx_append, nx_axTo cl k]
    simp [nx, axB]

theorem subB_iff {a b : List Int} : subB a b = true ↔ ∀ x ∈ a, x ∈ b := by
  unfold subB
  rw [List.all_eq_true]
  exact ⟨fun h x hx => hasB_iff.1 (h x hx), fun h x hx => hasB_iff.2 (h x hx)⟩
theorem subB_refl (a : List Int) : subB a a = true := subB_iff.2 fun x hx => hx
theorem subB_trans {a b c : List Int} (h : subB a b = true) (k : subB b c = true) : subB a c = true :=
  subB_iff.2 fun x hx => subB_iff.1 k x (subB_iff.1 h x hx)

/-- a clause that comes is a resolvent of two of the first ones, or no resolvent of two of these is part of it -/
def KindC (n : Int) (cl0 : List (List Int)) (c : List Int) : Prop :=
  (∃ a ∈ cl0, ∃ b ∈ cl0, ∃ v : Int, 1 ≤ v ∧ v ≤ n ∧ resolveL a b v = some c) ∨
  (∀ a ∈ cl0, ∀ b ∈ cl0, ∀ v : Int, 1 ≤ v → v ≤ n → ∀ r, resolveL a b v = some r → subB r c = false)

/-- steps of a saturation: the axioms, then D -/
structure SatR (f : CNF) (cl0 : List (List Int)) (ss D : List RS) : Prop where
  eq : ss = axTo f.clauses f.clauses.length ++ D
  ok : ∀ s ∈ ss, OkC f.vars s.clause
  pre : Pre7 ss
  nd : (D.map (fun s => s.clause)).Nodup
  no : ∀ s ∈ D, ∀ c ∈ f.clauses, subB c s.clause = false
  kind : ∀ s ∈ D, KindC f.vars cl0 s.clause
theorem SatR.start {f : CNF} (cl0 : List (List Int)) (hg : ∀ c ∈ f.clauses, OkC f.vars c) : SatR f cl0 (axTo f.clauses f.clauses.length) [] where
  eq := by simp
  ok := fun s hs => hg _ (axTo_mem (Nat.le_refl _) hs).1
  pre := by
    intro k s hs x hx
    have h := (axTo_mem (Nat.le_refl _) (List.mem_of_getElem? hs)).2
    simp [uses7, h] at hx
  nd := by simp
  no := by simp
  kind := by simp
theorem SatR.push {f : CNF} {cl0 : List (List Int)} {ss D : List RS} (h : SatR f cl0 ss D) {s : RS} (hok : OkC f.vars s.clause) (hl : 0 ≤ s.left ∧ s.left < (ss.length : Int)) (hr : 0 ≤ s.right ∧ s.right < (ss.length : Int))
    (hno : ∀ t ∈ ss, subB t.clause s.clause = false) (hk : KindC f.vars cl0 s.clause) : SatR f cl0 (ss ++ [s]) (D ++ [s]) where
  eq := by rw [h.eq, List.append_assoc]
  ok := fun t ht => by
    rcases List.mem_append.1 ht with ht | ht
    · exact h.ok t ht
    · simp at ht; subst ht; exact hok
  pre := by
    intro k t hk x hx
    by_cases hlt : k < ss.length
    · rw [List.getElem?_append_left hlt] at hk
      exact h.pre k t hk x hx
    · have hk1 := (List.getElem?_eq_some_iff.1 hk).1
      obtain rfl : k = ss.length := by simp at hk1; omega
      simp at hk
      subst hk
      unfold uses7 at hx
      split at hx
      · simp at hx
      · split at hx
        · simp at hx; omega
        · simp at hx; omega
  nd := by
    rw [List.map_append, List.nodup_append]
    refine ⟨h.nd, by simp, ?_⟩
    intro a ha b hb e
    simp at hb
    subst hb
    obtain ⟨t, ht, rfl⟩ := List.mem_map.1 ha
    have := hno t (by rw [h.eq]; exact List.mem_append_right _ ht)
    rw [e, subB_refl] at this
    cases this
  no := fun t ht c hc => by
    rcases List.mem_append.1 ht with ht | ht
    · exact h.no t ht c hc
    · simp at ht; subst ht
      obtain ⟨k, hk, rfl⟩ := List.mem_iff_getElem.1 hc
      have hm : (⟨f.clauses.getD k [], -1, k, 0⟩ : RS) ∈ axTo f.clauses f.clauses.length := List.mem_of_getElem? (axTo_get _ _ k hk)
      have := hno _ (by rw [h.eq]; exact List.mem_append_left _ hm)
      simpa [List.getD, hk] using this
  kind := fun t ht => by
    rcases List.mem_append.1 ht with ht | ht
    · exact h.kind t ht
    · simp at ht; subst ht; exact hk
theorem SatR.at {f : CNF} {cl0 : List (List Int)} {ss D : List RS} (h : SatR f cl0 ss D) {k : Nat} (hk : k < f.clauses.length) : ∃ s, ss[k]? = some s ∧ s.clause = f.clauses[k] := by
  refine ⟨⟨f.clauses.getD k [], -1, k, 0⟩, ?_, ?_⟩
  · rw [h.eq, List.getElem?_append_left (by rw [axTo_length]; exact hk)]
    exact axTo_get _ _ k hk
  · simp [List.getD, hk]
theorem SatR.len {f : CNF} {cl0 : List (List Int)} {ss D : List RS} (h : SatR f cl0 ss D) : ss.length = f.clauses.length + D.length := by
  rw [h.eq, List.length_append, axTo_length]
theorem SatR.nx {f : CNF} {cl0 : List (List Int)} {ss D : List RS} (h : SatR f cl0 ss D) : nx ss ≤ D.length := by
  rw [h.eq, nx_append, nx_axTo]
  have := nx_le D
  omega

/-- the resolvent that is tried -/
def tryC (a b : List Int) (v : Int) : Option (List Int) := if hasB a (-v) = true then resolveL b a v else resolveL a b v
def Tried (ss : List RS) (i k : Nat) (v : Int) : Prop := ∀ (a b : RS) (c : List Int), ss[i]? = some a → ss[k]? = some b → tryC a.clause b.clause v = some c → ∃ t ∈ ss, subB t.clause c = true
theorem Tried.push {ss : List RS} {i k : Nat} {v : Int} (h : Tried ss i k v) (hi : i < ss.length) (hk : k < ss.length) (s : RS) : Tried (ss ++ [s]) i k v := by
  intro a b c ha hb hc
  rw [List.getElem?_append_left hi] at ha
  rw [List.getElem?_append_left hk] at hb
  obtain ⟨t, ht, hs⟩ := h a b c ha hb hc
  exact ⟨t, List.mem_append_left _ ht, hs⟩
theorem okc_neg {n : Int} {c : List Int} (h : OkC n c) {v : Int} (hv : 1 ≤ v) (h1 : hasB c v = true) : hasB c (-v) = false := by
  cases h2 : hasB c (-v) with
  | false => rfl
  | true =>
    have e := sa_inj h.2 (hasB_iff.1 h1) (hasB_iff.1 h2) (by unfold absI; split <;> split <;> omega)
    omega
theorem resolve_has {a b c : List Int} {v : Int} (h : resolveL a b v = some c) : hasB a v = true ∧ hasB b (-v) = true := by
  unfold resolveL at h
  split at h
  · rename_i h1; exact h1
  · cases h
/-- where all pairs of the first clauses were tried -/
theorem SatR.kind_old {f : CNF} {cl0 ext : List (List Int)} {ss D : List RS} (h : SatR f cl0 ss D) (he : f.clauses = cl0 ++ ext) (hd : ∀ (i k : Nat) (v : Int), i < cl0.length → k < i → 1 ≤ v → v ≤ f.vars → Tried ss i k v)
    {c : List Int} (hno : ∀ t ∈ ss, subB t.clause c = false) : KindC f.vars cl0 c := by
  right
  intro a ha b hb v hv1 hv2 r hr
  cases hs : subB r c with
  | false => rfl
  | true =>
    exfalso
    obtain ⟨ia, hia, rfl⟩ := List.mem_iff_getElem.1 ha
    obtain ⟨ib, hib, rfl⟩ := List.mem_iff_getElem.1 hb
    obtain ⟨sa, h1, h2⟩ := h.at (k := ia) (by rw [he, List.length_append]; omega)
    obtain ⟨sb, h3, h4⟩ := h.at (k := ib) (by rw [he, List.length_append]; omega)
    have e2 : sa.clause = cl0[ia] := by rw [h2]; simp [he, List.getElem_append_left hia]
    have e4 : sb.clause = cl0[ib] := by rw [h4]; simp [he, List.getElem_append_left hib]
    obtain ⟨r1, r2⟩ := resolve_has hr
    rw [← e2] at r1
    rw [← e4] at r2
    have hoa := h.ok _ (List.mem_of_getElem? h1)
    have key : ∃ t ∈ ss, subB t.clause r = true := by
      rcases Nat.lt_trichotomy ia ib with hlt | heq | hgt
      · refine hd ib ia v hib hlt hv1 hv2 sb sa r h3 h1 ?_
        unfold tryC
        rw [if_pos r2, e2, e4]
        exact hr
      · subst heq
        rw [h1] at h3
        injection h3 with h3
        subst h3
        rw [okc_neg hoa hv1 r1] at r2
        cases r2
      · refine hd ia ib v hia hgt hv1 hv2 sa sb r h1 h3 ?_
        unfold tryC
        rw [okc_neg hoa hv1 r1, if_neg (by simp), e2, e4]
        exact hr
    obtain ⟨t, ht, hs2⟩ := key
    have := hno t ht
    rw [subB_trans hs2 hs] at this
    cases this
theorem SatR.kind_new {f : CNF} {cl0 ext : List (List Int)} {ss D : List RS} (h : SatR f cl0 ss D) (he : f.clauses = cl0 ++ ext) {i k : Nat} {a b : RS} {v : Int} {c : List Int} (hi : i < cl0.length) (hk : k < cl0.length)
    (ha : ss[i]? = some a) (hb : ss[k]? = some b) (hv1 : 1 ≤ v) (hv2 : v ≤ f.vars) (hr : resolveL a.clause b.clause v = some c) : KindC f.vars cl0 c := by
  left
  obtain ⟨sa, h1, h2⟩ := h.at (k := i) (by rw [he, List.length_append]; omega)
  obtain ⟨sb, h3, h4⟩ := h.at (k := k) (by rw [he, List.length_append]; omega)
  rw [ha] at h1
  injection h1 with h1
  subst h1
  rw [hb] at h3
  injection h3 with h3
  subst h3
  have e2 : a.clause = cl0[i] := by rw [h2]; simp [he, List.getElem_append_left hi]
  have e4 : b.clause = cl0[k] := by rw [h4]; simp [he, List.getElem_append_left hk]
  exact ⟨_, List.getElem_mem hi, _, List.getElem_mem hk, v, hv1, hv2, by rw [← e2, ← e4]; exact hr⟩

/-- the two formulas of four variables, with signs -/
def four1 : List (List Int) := [[1, 2], [3, 4], [-1, -3], [-2, -4], [-1, -4], [-2, -3]]
def four2 : List (List Int) := [[1], [2], [-1, -2, 3], [-3, 4], [-4]]
def signs4 : List (List Int) := [1, -1].flatMap fun a => [2, -2].flatMap fun b => [3, -3].flatMap fun c => [4, -4].map fun d => [a, b, c, d]
def resAll (cl0 : List (List Int)) : List (List Int) := cl0.flatMap fun a => cl0.flatMap fun b => [1, 2, 3, 4].filterMap fun v => resolveL a b v
def candB (cl0 rs : List (List Int)) (c : List Int) : Bool := cl0.all (fun o => !subB o c) && (rs.elem c || rs.all (fun r => !subB r c))
def fourOk (cl0 : List (List Int)) : Bool := decide (((allCl 4).filter (candB cl0 (resAll cl0))).length ≤ 27)
set_option maxRecDepth 100000 in
theorem four1_ok : signs4.all (fun to => fourOk (four1.map (renC to))) = true := by decide +kernel
set_option maxRecDepth 100000 in
theorem four2_ok : signs4.all (fun to => fourOk (four2.map (renC to))) = true := by decide +kernel
theorem mem_signs4 {to : List Int} (h : RenP to 4) : to ∈ signs4 := by
  obtain ⟨h1, h2⟩ := h
  match to, h1, h2 with
  | [a, b, c, d], _, h2 =>
    have ha := h2 0 a rfl
    have hb := h2 1 b rfl
    have hc := h2 2 c rfl
    have hd := h2 3 d rfl
    simp at ha hb hc hd
    rcases ha with rfl | rfl <;> rcases hb with rfl | rfl <;> rcases hc with rfl | rfl <;> rcases hd with rfl | rfl <;> decide
  | [], h1, _ => simp at h1
  | [_], h1, _ => simp at h1
  | [_, _], h1, _ => simp at h1
  | [_, _, _], h1, _ => simp at h1
  | _ :: _ :: _ :: _ :: _ :: _, h1, _ => simp at h1; omega
/-- what is asked of a Cnf so that saturation stays short -/
def SatP (f : CNF) (cl0 : List (List Int)) : Prop := 0 ≤ f.vars ∧ f.vars ≤ 4 ∧ f.clauses.length ≤ 12 ∧ (∃ ext, f.clauses = cl0 ++ ext) ∧ (f.vars = 4 → fourOk cl0 = true)
theorem HardP.satP {f : CNF} (h : HardP f) : ∃ cl0, SatP f cl0 := by
  obtain ⟨cl, ext, to, h1, h2, h3, h4, h5, h6, h7, h8, h9⟩ := h
  refine ⟨cl.map (renC to), h3, h4, by rw [h1]; simp; omega, ⟨ext, h1⟩, fun h => ?_⟩
  have hm := mem_signs4 (by rw [h] at h2; exact h2)
  rcases h7 h with rfl | rfl
  · exact List.all_eq_true.1 four1_ok _ hm
  · exact List.all_eq_true.1 four2_ok _ hm
theorem SatR.few {f : CNF} {cl0 : List (List Int)} {ss D : List RS} (h : SatR f cl0 ss D) (hp : SatP f cl0) : D.length ≤ 27 := by
  obtain ⟨h0, h4, hl, ⟨ext, he⟩, hf⟩ := hp
  have hD : ∀ s ∈ D, OkC f.vars s.clause := fun s hs => h.ok s (by rw [h.eq]; exact List.mem_append_right _ hs)
  by_cases h3 : f.vars ≤ 3
  · have := few_clauses (l := D.map (fun s => s.clause)) h0 h3 (fun c hc => by
      obtain ⟨s, hs, rfl⟩ := List.mem_map.1 hc
      exact hD s hs) h.nd
    simpa using this
  · have hv : f.vars = 4 := by omega
    have h27 : ((allCl 4).filter (candB cl0 (resAll cl0))).length ≤ 27 := of_decide_eq_true (hf hv)
    have := nodup_sub (D.map (fun s => s.clause)) ((allCl 4).filter (candB cl0 (resAll cl0))) h.nd (fun c hc => by
      obtain ⟨s, hs, rfl⟩ := List.mem_map.1 hc
      refine List.mem_filter.2 ⟨mem_allCl 4 _ (by have := hD s hs; rw [hv] at this; exact this), ?_⟩
      unfold candB
      rw [Bool.and_eq_true]
      refine ⟨List.all_eq_true.2 fun o ho => ?_, ?_⟩
      · rw [h.no s hs o (by rw [he]; exact List.mem_append_left _ ho)]; rfl
      · rw [Bool.or_eq_true]
        rcases h.kind s hs with ⟨a, ha, b, hb, v, hv1, hv2, hr⟩ | hk
        · left
          rw [List.elem_eq_mem, decide_eq_true_eq]
          unfold resAll
          rw [List.mem_flatMap]
          refine ⟨a, ha, ?_⟩
          rw [List.mem_flatMap]
          refine ⟨b, hb, ?_⟩
          rw [List.mem_filterMap]
          refine ⟨v, ?_, hr⟩
          have : v = 1 ∨ v = 2 ∨ v = 3 ∨ v = 4 := by omega
          rcases this with rfl | rfl | rfl | rfl <;> decide
        · right
          rw [List.all_eq_true]
          intro r hr
          unfold resAll at hr
          rw [List.mem_flatMap] at hr
          obtain ⟨a, ha, hr⟩ := hr
          rw [List.mem_flatMap] at hr
          obtain ⟨b, hb, hr⟩ := hr
          rw [List.mem_filterMap] at hr
          obtain ⟨v, hv, hr⟩ := hr
          rw [hk a ha b hb v (by simp at hv; omega) (by simp at hv; omega) r hr]
          rfl)
    rw [List.length_map] at this
    omega
end Go.Proofs.YtfnjhodologfeaaGreat
