/- Parts of the proof: D24. proof -/
import Derived.Test.YtfnjhodologfeaaGreatG37
import Derived.Deep.DeepCutAuto
import Derived.Deep.CutRange
set_option linter.unusedSimpArgs false
set_option linter.unusedVariables false
/- proof -/
namespace Go.Proofs.YtfnjhodologfeaaGreat
open Go.RowKit

/-- what proof draws -/
def ProofE (g m : Nat) (w : World) (e : Ending) (w' : World) : Prop :=
  ∃ (n : Int) (cv pv : Value), e = .returned (.tuple #[.agg #[.int .i64 n, cv], pv]) ∧ ∃ (f : CNF) (ss : List RS), f.vars = n ∧ Lists w' cv f.clauses ∧ Steps w' pv ss ∧ ss.length ≤ 1000 ∧ (takesB f ss = true → rk ss ss.length ≤ 28) ∧ -1 ≤ f.vars ∧ f.vars ≤ 13 ∧ Dr g (m + 10000) w w'
theorem Steps.turned {w w' : World} {v : Value} {ss : List RS} (h : Steps w v ss) {row : Option Nat} (hg : w.grownBy w' row) (hT : ∀ k, row = some k → ∃ cur fz T, w.heap[k]? = some (.cells cur T fz) ∧ T ≠ 3 ∧ T ≠ 40) : Steps w' v ss := by
  obtain ⟨cvs, h1, h2, h3⟩ := h
  exact ⟨cvs, h1, h2.turned hg (fun k hk => by obtain ⟨a, b, c, d, _, e⟩ := hT k hk; exact ⟨a, b, c, d, e⟩), fun i u s a b => (h3 i u s a b).turned hg (fun k hk => by obtain ⟨a, b, c, d, e, _⟩ := hT k hk; exact ⟨a, b, c, d, e⟩)⟩
/-- the result is stored -/
theorem QF.fin {g m : Nat} {w0 wr : World} {b2 b4 : Nat} {f : CNF} {cv : Value} (h : QF g m w0 wr b2 b4 f cv) {v : Value} {ss : List RS} (hs : Steps wr v ss) :
    CBlk ((wr.setCell ⟨b2, 0, none⟩ (.int .i64 f.vars)).setCell ⟨b2, 1, none⟩ cv) b2 f.vars cv ∧ Lists ((wr.setCell ⟨b2, 0, none⟩ (.int .i64 f.vars)).setCell ⟨b2, 1, none⟩ cv) cv f.clauses ∧
    Steps ((wr.setCell ⟨b2, 0, none⟩ (.int .i64 f.vars)).setCell ⟨b2, 1, none⟩ cv) v ss ∧ Dr g m w0 ((wr.setCell ⟨b2, 0, none⟩ (.int .i64 f.vars)).setCell ⟨b2, 1, none⟩ cv) := by
  have hg1 := grown_set wr b2 0 (.int .i64 f.vars)
  have hg2 := grown_set (wr.setCell ⟨b2, 0, none⟩ (.int .i64 f.vars)) b2 1 cv
  have hr1 := h.r2.set0 f.vars
  have hT : ∀ {e : Nat}, 26 ≠ e → ∀ k, some b2 = some k → ∃ cur fz T, wr.heap[k]? = some (.cells cur T fz) ∧ T ≠ e := fun he k hk => h.r2.type he k hk
  have hL : ∀ k, some b2 = some k → ∃ cur fz T, wr.heap[k]? = some (.cells cur T fz) ∧ T ≠ 3 ∧ T ≠ 33 := fun k hk => by injection hk with hk; subst hk; exact ⟨_, _, _, h.r2, by decide, by decide⟩
  have hL1 : ∀ k, some b2 = some k → ∃ cur fz T, (wr.setCell ⟨b2, 0, none⟩ (.int .i64 f.vars)).heap[k]? = some (.cells cur T fz) ∧ T ≠ 3 ∧ T ≠ 33 := fun k hk => by injection hk with hk; subst hk; exact ⟨_, _, _, hr1, by decide, by decide⟩
  have hS : ∀ k, some b2 = some k → ∃ cur fz T, wr.heap[k]? = some (.cells cur T fz) ∧ T ≠ 3 ∧ T ≠ 40 := fun k hk => by injection hk with hk; subst hk; exact ⟨_, _, _, h.r2, by decide, by decide⟩
  have hS1 : ∀ k, some b2 = some k → ∃ cur fz T, (wr.setCell ⟨b2, 0, none⟩ (.int .i64 f.vars)).heap[k]? = some (.cells cur T fz) ∧ T ≠ 3 ∧ T ≠ 40 := fun k hk => by injection hk with hk; subst hk; exact ⟨_, _, _, hr1, by decide, by decide⟩
  exact ⟨hr1.set1 cv, (h.ls.turned hg1 hL).turned hg2 hL1, (hs.turned hg1 hS).turned hg2 hS1, (h.dr.setBlk h.r2 h.g2 0 _).setBlk hr1 h.g2 1 _⟩
theorem rk_nx (ss : List RS) : ∀ k, k ≤ ss.length → rk ss k = nx (ss.take k)
  | 0, _ => by simp [rk, nx]
  | k + 1, h => by
    have hs : ss[k]? = some (ss[k]'(by omega)) := List.getElem?_eq_getElem (by omega)
    rw [rk, rk_nx ss k (by omega), nx_take hs, hs]
    simp only [nx, List.countP_cons, List.countP_nil]
    cases axB (ss[k]'(by omega)) <;> simp
theorem rk_all (ss : List RS) : rk ss ss.length = nx ss := by rw [rk_nx ss _ (Nat.le_refl _), List.take_length]
theorem OwnS.block {w : World} {B : Nat} {v : Value} {ss : List RS} (h : OwnS w B v ss) (hpos : 0 < ss.length) : ∃ g cap, v = .slice (some ⟨g, 0, none⟩) ss.length cap ∧ ss.length ≤ cap ∧ cap ≤ 9223372036854775807 ∧ B ≤ g ∧ ∃ cur, w.heap[g]? = some (.cells cur 40 (0, 0)) := by
  obtain ⟨cvs, h1, h2, h3⟩ := h
  rcases h2.2 with ⟨_, h0⟩ | ⟨g, cap, cur, rfl, h4, h5, h6, h7, h8, h9⟩
  · omega
  · exact ⟨g, cap, rfl, h6, by simpa [maxLen] using h7, h4, cur, h5⟩
theorem OwnS.cellsAt {w : World} {B g n cap : Nat} {ss : List RS} (h : OwnS w B (.slice (some ⟨g, 0, none⟩) n cap) ss) (hn : n = ss.length) {j : Nat} {s : RS} (hs : ss[j]? = some s) :
    ∃ u, w.cell? ⟨g, j * 4, none⟩ = some u ∧ w.cell? ⟨g, j * 4 + 1, none⟩ = some (.int .i64 s.left) ∧ w.cell? ⟨g, j * 4 + 2, none⟩ = some (.int .i64 s.right) ∧ w.cell? ⟨g, j * 4 + 3, none⟩ = some (.int .i64 s.pivot) ∧
      w.frozen? ⟨g, j * 4, none⟩ = false ∧ w.frozen? ⟨g, j * 4 + 1, none⟩ = false ∧ w.frozen? ⟨g, j * 4 + 2, none⟩ = false ∧ w.frozen? ⟨g, j * 4 + 3, none⟩ = false := by
  subst hn
  obtain ⟨cvs, h1, h2, h3⟩ := h
  have hj : j < ss.length := (List.getElem?_eq_some_iff.1 hs).1
  have hcj : cvs[j]? = some (cvs[j]'(by omega)) := List.getElem?_eq_getElem (by omega)
  have key : ∀ i, i < 4 → w.cell? ⟨g, j * 4 + i, none⟩ = (stepCells (cvs[j]'(by omega)) s)[i]? := fun i hi => by
    rw [World.ownsRow.cellAt h2 (j * 4 + i) (by omega), flatSteps_at cvs ss h1 j i _ _ hcj hs hi]
  refine ⟨cvs[j]'(by omega), key 0 (by omega), key 1 (by omega), key 2 (by omega), key 3 (by omega), ?_, ?_, ?_, ?_⟩ <;> exact World.ownsRow.frozenAt h2 _
theorem nx_one (s : RS) : nx [s] ≤ 1 := nx_le [s]
theorem nx_set (ss : List RS) (j : Nat) (s : RS) : nx (ss.set j s) ≤ nx ss + 1 := by
  by_cases hj : j < ss.length
  · have e1 : ss = ss.take j ++ ss[j] :: ss.drop (j + 1) := by rw [List.getElem_cons_drop]; exact (List.take_append_drop j ss).symm
    have e2 : ss.set j s = ss.take j ++ s :: ss.drop (j + 1) := by rw [List.set_eq_take_append_cons_drop, if_pos hj]
    rw [e2]
    have h1 : nx ss = nx (ss.take j) + (nx [ss[j]] + nx (ss.drop (j + 1))) := by
      conv => lhs; rw [e1]
      rw [nx_append, show ss[j] :: ss.drop (j + 1) = [ss[j]] ++ ss.drop (j + 1) from rfl, nx_append]
    rw [nx_append, show s :: ss.drop (j + 1) = [s] ++ ss.drop (j + 1) from rfl, nx_append, h1]
    have := nx_one s
    omega
  · rw [List.set_eq_of_length_le (by omega)]
    omega
theorem OwnS.row {w : World} {B g n cap : Nat} {ss : List RS} (h : OwnS w B (.slice (some ⟨g, 0, none⟩) n cap) ss) : B ≤ g ∧ ∃ cur, w.heap[g]? = some (.cells cur 40 (0, 0)) := by
  obtain ⟨cvs, h1, h2, h3⟩ := h
  rcases h2.2 with ⟨h0, _⟩ | ⟨g', cap', cur, e, h4, h5, _⟩
  · cases h0
  · injection e with e1 _ _
    injection e1 with e1
    injection e1 with e1 _ _
    subst e1
    exact ⟨h4, cur, h5⟩
theorem steps_nil (w : World) (A : Option Addr) (c : Nat) (hc : c ≤ 9223372036854775807) : Steps w (.slice A 0 c) [] := ⟨[], rfl, ⟨rfl, A, c, rfl, Nat.zero_le _, by simpa [maxLen] using hc, .inl rfl⟩, fun i u s h _ => by simp at h⟩
theorem OwnS.tailAny {w : World} {B g n cap : Nat} {ss : List RS} (h : OwnS w B (.slice (some ⟨g, 0, none⟩) n cap) ss) (hn : n = ss.length) (hpos : 0 < ss.length) (hcap : cap ≤ 9223372036854775807) :
    Steps w (.slice (some ⟨g, 4, none⟩) (n - 1) (cap - 1)) ss.tail ∧ (0 < ss.tail.length → OwnSO w B (.slice (some ⟨g, 4, none⟩) (n - 1) (cap - 1)) ss.tail) := by
  subst hn
  cases ss with
  | nil => simp at hpos
  | cons s0 rest =>
    cases rest with
    | nil => exact ⟨steps_nil _ _ _ (by omega), fun h => by simp at h⟩
    | cons s1 rest =>
      obtain ⟨g', cap', e, _, hO⟩ := h.tail (by simp)
      injection e with e1 _ e3
      injection e1 with e1
      injection e1 with e1 _ _
      subst e1; subst e3
      exact ⟨hO.steps, fun _ => hO⟩
theorem nx_tail (ss : List RS) : nx ss.tail ≤ nx ss := by
  cases ss with
  | nil => simp
  | cons a l => simp only [List.tail_cons]; rw [show a :: l = [a] ++ l from rfl, nx_append]; omega
theorem takes_first {f : CNF} {ss : List RS} {s : RS} (h : takesB f ss = true) (hs : ss[0]? = some s) : axB s = true := by
  have h1 := takes_pre h 0 s hs
  unfold axB
  rw [decide_eq_true_eq]
  by_cases hl : s.left < 0
  · exact hl
  · exfalso
    have := h1 s.left (by unfold premL; rw [if_neg hl]; split <;> simp)
    omega
theorem nx_rep (s : RS) (h : axB s = true) : ∀ j, nx (List.replicate j s) = 0
  | 0 => rfl
  | j + 1 => by
    rw [List.replicate_succ, show s :: List.replicate j s = [s] ++ List.replicate j s from rfl, nx_append, nx_rep s h j]
    simp [nx, h]
theorem proof_few {f : CNF} {ss : List RS} {s : RS} {j : Nat} (hs : ss[0]? = some s) (hn : nx ss ≤ 28) (h : takesB f (ss ++ List.replicate j s) = true) : rk (ss ++ List.replicate j s) (ss ++ List.replicate j s).length ≤ 28 := by
  rw [rk_all, nx_append, nx_rep s (takes_first h (by rw [List.getElem?_append_left (List.getElem?_eq_some_iff.1 hs).1]; exact hs))]
  exact hn
def slLen : Value → Nat
  | .slice _ n _ => n
  | _ => 0
theorem OwnSO.row {w : World} {B b o n cap : Nat} {ss : List RS} (h : OwnSO w B (.slice (some ⟨b, o, none⟩) n cap) ss) : B ≤ b ∧ ∃ cur, w.heap[b]? = some (.cells cur 40 (0, 0)) := by
  obtain ⟨b', o', cap', e, h1, _, h3⟩ := h.form
  injection e with e1 _ _
  injection e1 with e1
  injection e1 with e1 _ _
  subst e1
  exact ⟨h1, h3⟩
/-- a step has turned -/
theorem QF.mut {g m m' : Nat} {w0 wr : World} {b2 b4 : Nat} {f : CNF} {cv : Value} (h : QF g m w0 wr b2 b4 f cv) (hm : m ≤ m') {gb n oc : Nat} {ss : List RS} (ho : OwnS wr w0.heap.size (.slice (some ⟨gb, 0, none⟩) n oc) ss) (j : Nat) (x : Value) {zi : Nat} {s' : RS}
    (h8 : OwnS (wr.setCell ⟨gb, j, none⟩ x) w0.heap.size (.slice (some ⟨gb, 0, none⟩) n oc) (ss.set zi s')) (hl : ss.length ≤ 40) (hn : nx ss ≤ 27) :
    ∃ ss' : List RS, QF g m' w0 (wr.setCell ⟨gb, j, none⟩ x) b2 b4 f cv ∧ Steps (wr.setCell ⟨gb, j, none⟩ x) (.slice (some ⟨gb, 0, none⟩) n oc) ss' ∧ (0 < ss'.length → OwnSO (wr.setCell ⟨gb, j, none⟩ x) w0.heap.size (.slice (some ⟨gb, 0, none⟩) n oc) ss') ∧ ss'.length ≤ 40 ∧ nx ss' ≤ 28 := by
  obtain ⟨hge, cur, hcu⟩ := ho.row
  exact ⟨_, (h.turn hcu hge (grown_set wr gb j x)).mono hm, h8.steps, fun h => h8.toO h, by simpa using hl, by have := nx_set ss zi s'; omega⟩
set_option maxRecDepth 100000 in
set_option maxHeartbeats 8000000 in
theorem proof_any (g m : Nat) (w : World) (hc : Cur w g m) (hm : m ≤ 10000) :
    Calls Tryz.prog 54 #[.pointer (some ⟨g, 0, none⟩)] w (ProofE g m w) := by
  have hgl := hc.lt
  obtain ⟨wA, hwA⟩ : ∃ wA, w.alloc (.cells #[.int .i64 0, .slice none 0 0] 26) = wA := ⟨_, rfl⟩
  have hcA : Cur wA g m := by rw [← hwA]; exact hc.ext (by repeat (first | exact Ext.refl _ | assumption | apply Ext.dn | apply Ext.drew | apply Ext.alloc))
  have hR : CBlk wA w.heap.size 0 (.slice none 0 0) := by rw [← hwA]; exact CBlk.made _ _ _
  have hszA : wA.heap.size = w.heap.size + 1 := by rw [← hwA]; simp
  have hEA : Ext w wA := by rw [← hwA]; exact (by repeat (first | exact Ext.refl _ | assumption | apply Ext.dn | apply Ext.drew | apply Ext.alloc))
  go_enter Tryz.func54, Tryz.ntmps54
  go_wp2_with (go_at_call 84; refine (cnf_any g m _ hcA (by omega)).mono ?_; rintro e w1 ⟨n, cv, rfl, f, rfl, hown1, hdr1, hd1⟩; obtain ⟨cb, cc, rfl, _, _⟩ := hown1.form; have hP1 := (hR.grown hd1.keep (fun e => by injection e with e; omega)))
  have hs1 := hd1.size
  obtain ⟨w2, hw2⟩ : ∃ w2, w1.alloc (.cells #[.int .i64 f.vars, .slice cb f.clauses.length cc] 26) = w2 := ⟨_, rfl⟩
  have hE12 : Ext w1 w2 := by rw [← hw2]; exact (by repeat (first | exact Ext.refl _ | assumption | apply Ext.dn | apply Ext.drew | apply Ext.alloc))
  have hQ2 : QF g (m + 2000) w w2 w.heap.size w1.heap.size f (.slice cb f.clauses.length cc) :=
    ⟨((((Dr.start hc).ext hEA).trans hd1).ext hE12), hP1.ext hE12, by rw [← hw2]; exact CBlk.made _ _ _, hown1.lists.ext hE12, Nat.le_refl _, by omega, by omega⟩
  obtain ⟨b4, hb4⟩ : ∃ b4, w1.heap.size = b4 := ⟨_, rfl⟩
  rw [hb4] at hQ2 ⊢
  rw [hw2]
  have hs2 := hQ2.dr.size
  have hfv : -1 ≤ f.vars ∧ f.vars ≤ 13 := ⟨hdr1.1, hdr1.2.1⟩
  clear hw2 hown1 hdr1 hd1 hP1 hE12 hb4 hs1
  refine (derivation_any g (m + 2000) _ _ f hQ2.dr.cur (by omega) ⟨_, rfl, hQ2.ls⟩).mono ?_
  rintro e w3 ⟨r3, rfl, ss, ho3, hder, _, hd3⟩
  have hQ3 := hQ2.drawD hd3
  have HDER := Lib.hid hder
  clear hder
  go_upto_if 13 with (go_at_call 86; refine (one_any g (m + 2000 + 1000) _ _ hQ3.dr.cur (by omega)).mono ?_; rintro e w4 ⟨bb, rfl, hk4, hc4⟩; have hQ4 := hQ3.draw hk4 hc4; have ho4 := ho3.keep hQ3.dr.cur hk4 (by omega))
  go_cut [5] (fun s wx => ∃ (f : CNF) (vb : Option Addr) (vc : Nat) (ss : List RS), QF g (m + 6000) w wx w.heap.size b4 f (.slice vb f.clauses.length vc) ∧ OwnS wx w.heap.size s ss ∧ ss.length ≤ 40 ∧ nx ss ≤ 27 ∧ -1 ≤ f.vars ∧ f.vars ≤ 13)
  case first =>
    go_wp2_with (first
      | (go_at_call 87; refine (hard_any g (m + 2000 + 1000 + 2) _ hQ4.dr.cur (by omega)).mono ?_; rintro e w5 ⟨n5, cv5, rfl, f5, rfl, hown5, hhard, hd5⟩; obtain ⟨vb5, vc5, rfl, _, _⟩ := hown5.form; have hQ5 := hQ4.drawD hd5; obtain ⟨k0, k1⟩ := hQ5.r4.cells; have kf0 := hQ5.r4.frozen 0; have kf1 := hQ5.r4.frozen 1; obtain ⟨hQ6, hg6⟩ := hQ5.store (f' := f5) hown5.lists; obtain ⟨q0, q1⟩ := hQ6.r4.cells; obtain ⟨cl0, hsat⟩ := hhard.satP; have HSAT := Lib.hid hsat; have HDR5 := Lib.hid hhard.drawn; clear hsat)
      | (go_at_call 88; refine (refutation_any _ _ f5 cl0 _ ⟨_, rfl, hQ6.ls⟩ HSAT.out).mono ?_; rintro e w7 ⟨r7, rfl, ss7, ho7, hl7, hn7, hk7, hE7⟩))
    all_goals go_meet
    · have hs6 := hQ6.dr.size
      exact ⟨f5, vb5, vc5, ss7, (hQ6.ext hE7).mono (by omega), ho7.mono hs6, hl7, hn7, HDR5.out.1, HDR5.out.2.1⟩
    · exact ⟨f, cb, cc, ss, hQ4.mono (by omega), ho4.mono (by omega), by have := HDER.out.1; omega, by have := HDER.out.1; have := nx_le ss; omega, hfv.1, hfv.2⟩
  case rest =>
    clear hQ2 hQ3 hd3 ho3 HDER hs2 hfv
    obtain ⟨f, vb, vc, ss, hQ, ho, hl40, hn27, hv0, hv1⟩ := hcut
    obtain ⟨ob, oc, rfl, _, _⟩ := ho.form
    by_cases hpos : 0 < ss.length
    · have hposI : (0 : Int) < ss.length := by omega
      go_upto_if 25 with (go_at_call 86; refine (one_any g (m + 6000) _ _ hQ.dr.cur (by omega)).mono ?_; rintro e w4 ⟨bb, rfl, hk4, hc4⟩; have hQ4 := hQ.draw hk4 hc4; have ho4 := ho.keep hQ.dr.cur hk4 hgl)
      obtain ⟨gb, oc2, eV, hoc1, hoc2, hgb, hcu⟩ := ho.block hpos
      injection eV with eV1 _ eV3
      subst eV1; subst eV3
      go_cut [5, 6, 32, 42, 53, 62, 71] (fun s a6 a32 a42 a53 a62 a71 wx => ∃ (ss' : List RS), QF g (m + 6200) w wx w.heap.size b4 f (.slice vb f.clauses.length vc) ∧ Steps wx s ss' ∧ (0 < ss'.length → OwnSO wx w.heap.size s ss') ∧ ss'.length ≤ 40 ∧ nx ss' ≤ 28)
      case first =>
        by_cases h1 : oc = 1
        · subst h1
          have hl1 : ss.length = 1 := by omega
          have hoc5 : (ss.length : Int) ≤ 1 := by omega
          have hoc4 : (1 : Int) ≤ ss.length := by omega
          have HL1 := Lib.hid hl1
          clear hl1
          go_wp2_with (first
            | (go_at_call 90; refine (anyClause_any g (m + 6000 + 2 + 2 + 2) _ f.vars (hQ6.dr.cur.ext (by repeat (first | exact Ext.refl _ | assumption | apply Ext.dn | apply Ext.drew | apply Ext.alloc))) (by omega) (by omega) (by omega)).mono ?_; rintro e w7 ⟨r7, rfl, c7, ho7, hlen7, hk7, hc7⟩; obtain ⟨xb, xc, rfl, _, _, _⟩ := ho7.ints.open; have hQ7 := hQ6.draw hk7 hc7; have hs7 := ho6.keep hQ6.dr.cur hk7 hgl; obtain ⟨u7, d0, d1, d2, d3, f0, f1, f2, f3⟩ := hs7.cellsAt rfl HSK.out)
            | (go_at_call 91; refine (among_any g (m + 6000 + 2 + 2 + 2) _ _ _ (hQ6.dr.cur.ext (by repeat (first | exact Ext.refl _ | assumption | apply Ext.dn | apply Ext.drew | apply Ext.alloc))) (by omega) (ints_five _ _ _ _ _ _) (by simp)).mono ?_; rintro e w7 ⟨x7, rfl, hx7, hk7, hc7⟩; have hQ7 := (hQ6.ext (by repeat (first | exact Ext.refl _ | assumption | apply Ext.dn | apply Ext.drew | apply Ext.alloc))).draw hk7 hc7; have hs7 := (ho6.ext (by repeat (first | exact Ext.refl _ | assumption | apply Ext.dn | apply Ext.drew | apply Ext.alloc))).keep (hQ6.dr.cur.ext (by repeat (first | exact Ext.refl _ | assumption | apply Ext.dn | apply Ext.drew | apply Ext.alloc))) hk7 hgl; obtain ⟨u7, d0, d1, d2, d3, f0, f1, f2, f3⟩ := hs7.cellsAt rfl HSK.out)
            | (go_at_call 89; refine (pick_any g (m + 6000 + 2 + 2) _ _ hQ5.dr.cur (by omega)).mono ?_; rintro e w6 ⟨q, rfl, hq0, hq1, hk6, hc6⟩; have hQ6 := hQ5.draw hk6 hc6; have ho6 := ho5.keep hQ5.dr.cur hk6 hgl; obtain ⟨z0, z1⟩ := hQ6.r4.cells)
            | (go_at_call 89; refine (pick_any g (m + 6000 + 2) _ _ hQ4.dr.cur (by omega)).mono ?_; rintro e w5 ⟨z, rfl, hz0, hz1, hk5, hc5⟩; have hQ5 := hQ4.draw hk5 hc5; have ho5 := ho4.keep hQ4.dr.cur hk5 hgl; obtain ⟨zi, rfl⟩ := Int.eq_ofNat_of_zero_le hz0; have hzl : zi < ss.length := (by omega); obtain ⟨sk, hsk⟩ : ∃ sk, ss[zi]? = some sk := ⟨_, List.getElem?_eq_getElem hzl⟩; have HSK := Lib.hid hsk; clear hsk))
          all_goals go_meet
          · exact hQ7.mut (by omega) hs7 _ _ (hs7.setClause rfl HSK.out ho7.ints) hl40 hn27
          · exact hQ7.mut (by omega) hs7 _ _ (hs7.setLeft rfl HSK.out _) hl40 hn27
          · exact hQ7.mut (by omega) hs7 _ _ (hs7.setRight rfl HSK.out _) hl40 hn27
          · exact hQ7.mut (by omega) hs7 _ _ (hs7.setPivot rfl HSK.out _) hl40 hn27
          · exact ⟨[], hQ6.mono (by omega), steps_nil _ _ _ (by omega), by simp, by simp, by simp [nx]⟩
          · exact ⟨ss, hQ4.mono (by omega), ho4.steps, fun h => ho4.toO h, hl40, by omega⟩
        · have hoc4 : (1 : Int) ≤ ss.length := by omega
          have hoc5 : (ss.length : Int) ≤ oc := by omega
          go_wp2_with (first
            | (go_at_call 90; refine (anyClause_any g (m + 6000 + 2 + 2 + 2) _ f.vars (hQ6.dr.cur.ext (by repeat (first | exact Ext.refl _ | assumption | apply Ext.dn | apply Ext.drew | apply Ext.alloc))) (by omega) (by omega) (by omega)).mono ?_; rintro e w7 ⟨r7, rfl, c7, ho7, hlen7, hk7, hc7⟩; obtain ⟨xb, xc, rfl, _, _, _⟩ := ho7.ints.open; have hQ7 := hQ6.draw hk7 hc7; have hs7 := ho6.keep hQ6.dr.cur hk7 hgl; obtain ⟨u7, d0, d1, d2, d3, f0, f1, f2, f3⟩ := hs7.cellsAt rfl HSK.out)
            | (go_at_call 91; refine (among_any g (m + 6000 + 2 + 2 + 2) _ _ _ (hQ6.dr.cur.ext (by repeat (first | exact Ext.refl _ | assumption | apply Ext.dn | apply Ext.drew | apply Ext.alloc))) (by omega) (ints_five _ _ _ _ _ _) (by simp)).mono ?_; rintro e w7 ⟨x7, rfl, hx7, hk7, hc7⟩; have hQ7 := (hQ6.ext (by repeat (first | exact Ext.refl _ | assumption | apply Ext.dn | apply Ext.drew | apply Ext.alloc))).draw hk7 hc7; have hs7 := (ho6.ext (by repeat (first | exact Ext.refl _ | assumption | apply Ext.dn | apply Ext.drew | apply Ext.alloc))).keep (hQ6.dr.cur.ext (by repeat (first | exact Ext.refl _ | assumption | apply Ext.dn | apply Ext.drew | apply Ext.alloc))) hk7 hgl; obtain ⟨u7, d0, d1, d2, d3, f0, f1, f2, f3⟩ := hs7.cellsAt rfl HSK.out)
            | (go_at_call 89; refine (pick_any g (m + 6000 + 2 + 2) _ _ hQ5.dr.cur (by omega)).mono ?_; rintro e w6 ⟨q, rfl, hq0, hq1, hk6, hc6⟩; have hQ6 := hQ5.draw hk6 hc6; have ho6 := ho5.keep hQ5.dr.cur hk6 hgl; obtain ⟨z0, z1⟩ := hQ6.r4.cells)
            | (go_at_call 89; refine (pick_any g (m + 6000 + 2) _ _ hQ4.dr.cur (by omega)).mono ?_; rintro e w5 ⟨z, rfl, hz0, hz1, hk5, hc5⟩; have hQ5 := hQ4.draw hk5 hc5; have ho5 := ho4.keep hQ4.dr.cur hk5 hgl; obtain ⟨zi, rfl⟩ := Int.eq_ofNat_of_zero_le hz0; have hzl : zi < ss.length := (by omega); obtain ⟨sk, hsk⟩ : ∃ sk, ss[zi]? = some sk := ⟨_, List.getElem?_eq_getElem hzl⟩; have HSK := Lib.hid hsk; clear hsk))
          all_goals go_meet
          · exact hQ7.mut (by omega) hs7 _ _ (hs7.setClause rfl HSK.out ho7.ints) hl40 hn27
          · exact hQ7.mut (by omega) hs7 _ _ (hs7.setLeft rfl HSK.out _) hl40 hn27
          · exact hQ7.mut (by omega) hs7 _ _ (hs7.setRight rfl HSK.out _) hl40 hn27
          · exact hQ7.mut (by omega) hs7 _ _ (hs7.setPivot rfl HSK.out _) hl40 hn27
          · obtain ⟨ht1, ht2⟩ := ho6.tailAny rfl hpos (by omega)
            exact ⟨ss.tail, hQ6.mono (by omega), ht1, ht2, by simp; omega, by have := nx_tail ss; omega⟩
          · exact ⟨ss, hQ4.mono (by omega), ho4.steps, fun h => ho4.toO h, hl40, by omega⟩
      case rest =>
        clear hQ ho hposI hpos hoc1 hoc2 hgb hcu hl40 hn27
        obtain ⟨ss', hQ, hS, hSO, hl40, hn28⟩ := hcut
        obtain ⟨ob, oc, rfl, _, _, _⟩ := hS.open
        by_cases hpos : 0 < ss'.length
        · have hposI : (0 : Int) < ss'.length := by omega
          have hO := hSO hpos
          clear hSO hS
          obtain ⟨s0, hs0⟩ : ∃ s0, ss'[0]? = some s0 := ⟨_, List.getElem?_eq_getElem hpos⟩
          have HS0 := Lib.hid hs0
          clear hs0
          go_wp2_with (go_at_call 86; refine (one_any g (m + 6200) _ _ hQ.dr.cur (by omega)).mono ?_; rintro e w4 ⟨bb, rfl, hk4, hc4⟩; have hQz := hQ.draw hk4 hc4; have hOz := hO.keep hQ.dr.cur hk4 hgl; have hSz := hOz.steps; (obtain ⟨z0, z1⟩ := hQz.r4.cells; obtain ⟨y0, y1⟩ := hQz.r2.cells; have yf0 := hQz.r2.frozen 0; have yf1 := hQz.r2.frozen 1))
          · go_loopw [5] (fun o wr => ∃ j : Nat, QF g (m + 6202 + 2 * j) w wr w.heap.size b4 f (.slice vb f.clauses.length vc) ∧ OwnSO wr w.heap.size o (ss' ++ List.replicate j s0) ∧ ss'.length + j ≤ 201) (fun o _ => 300 - slLen o)
            case atStart => exact ⟨0, hQz.mono (by omega), by simpa using hOz, by omega⟩
            case round =>
              obtain ⟨j, hQr, hOr, hj⟩ := hrel
              have hlen : (ss' ++ List.replicate j s0).length = ss'.length + j := by simp
              have h00 : (ss' ++ List.replicate j s0)[0]? = some s0 := by rw [List.getElem?_append_left hpos]; exact HS0.out
              obtain ⟨SS, hSS⟩ : ∃ SS, ss' ++ List.replicate j s0 = SS := ⟨_, rfl⟩
              have HSS := Lib.hid hSS
              rw [hSS] at hOr hlen h00
              clear hSS
              have HLEN := Lib.hid hlen
              have hl0 : (0 : Int) < SS.length := by omega
              have hl201 : SS.length ≤ 201 := by omega
              have hj201 : j ≤ 201 := by omega
              have H00 := Lib.hid h00
              clear hlen h00
              obtain ⟨b8, o8, c8, rfl, hb8, hb8l, cur8, hcu8⟩ := hOr.form
              obtain ⟨_, _, e8, _, _, hc8⟩ := hOr.steps.open
              injection e8 with e81 _ e83
              subst e83
              obtain ⟨b9, o9, e9, hb9, hst⟩ := hc8 0 (by omega)
              rw [← e81] at e9
              injection e9 with e9
              injection e9 with e91 e92 _
              subst e91; subst e92
              obtain ⟨t0, u0, ht0, hct⟩ := hst 0 (by omega)
              have hts : t0 = s0 := by have := H00.out; rw [ht0] at this; injection this
              subst hts
              have hne8 : b8 ≠ g := by omega
              obtain ⟨q0, q1, q2, q3, qI⟩ := hct wr (.refl _)
              obtain ⟨ub0, uc0, rfl, _, _, _⟩ := qI.open
              clear hst hc8 ht0 hct e81
              go_wp2_with (first
                | (go_at_call 89; refine (pick_any g (m + 6202 + 2 * j) _ _ hQr.dr.cur (by omega)).mono ?_; rintro e w6 ⟨x, rfl, hx0, hx1, hk6, hc6⟩; have hQz := hQr.draw hk6 hc6; have hO6 := hOr.keep hQr.dr.cur hk6 hgl; have hSz := hO6.steps; (obtain ⟨z0, z1⟩ := hQz.r4.cells; obtain ⟨y0, y1⟩ := hQz.r2.cells; have yf0 := hQz.r2.frozen 0; have yf1 := hQz.r2.frozen 1); have c60 := hk6.cell (p := ⟨b8, o8, none⟩) q0 hne8; have c61 := hk6.cell (p := ⟨b8, o8 + 1, none⟩) q1 hne8; have c62 := hk6.cell (p := ⟨b8, o8 + 2, none⟩) q2 hne8; have c63 := hk6.cell (p := ⟨b8, o8 + 3, none⟩) q3 hne8; have qI6 := hQr.dr.cur.ints hk6 qI)
                | (at_builtin; refine wpList_appSO rfl _ _ rfl w.heap.size _ _ SS t0 rfl rfl (hO6.ext (by repeat (first | exact Ext.refl _ | assumption | apply Ext.dn | apply Ext.drew | apply Ext.alloc))) (steps_one (s := t0) qI6) (by omega) ?_; intro v' w8 hO8 hg8))
              · obtain ⟨hbw, cur9, hcu9⟩ := (hO6.ext ((Ext.refl w6).alloc (.cells #[.slice ub0 t0.clause.length uc0, .int .i64 t0.left, .int .i64 t0.right, .int .i64 t0.pivot] 40))).row
                have hQ8 := (hQz.ext ((Ext.refl w6).alloc (.cells #[.slice ub0 t0.clause.length uc0, .int .i64 t0.left, .int .i64 t0.right, .int .i64 t0.pivot] 40))).turn hcu9 hbw hg8
                obtain ⟨b7, o7, c7, rfl, _⟩ := hO8.form
                have hlt : (SS.length : Int) < 200 + x := by assumption
                refine ⟨⟨j + 1, hQ8.mono (by omega), ?_, by have := HLEN.out; omega⟩, by simp [slLen]; omega⟩
                rw [List.replicate_succ', ← List.append_assoc, HSS.out]
                exact hO8
              · (obtain ⟨hfb, hfl, hfs, hfd⟩ := hQz.fin hSz; refine bodyPost_ret (results_cell_row2 rfl _ _ w.heap.size _ _ _ _ rfl hfb Tryz.underlying26 rfl (by kernel_rfl)) rfl ?_)
                refine ⟨_, _, _, rfl, f, SS, rfl, hfl, hfs, by omega, fun ht => ?_, hv0, hv1, hfd.mono (by omega)⟩
                rw [← HSS.out] at ht ⊢
                exact proof_few HS0.out hn28 ht
          · (obtain ⟨hfb, hfl, hfs, hfd⟩ := hQz.fin hSz; refine bodyPost_ret (results_cell_row2 rfl _ _ w.heap.size _ _ _ _ rfl hfb Tryz.underlying26 rfl (by kernel_rfl)) rfl ?_)
            refine ⟨_, _, _, rfl, f, ss', rfl, hfl, hfs, by omega, fun _ => ?_, hv0, hv1, hfd.mono (by omega)⟩
            rw [rk_all]
            omega
        · have hposI : ¬ (0 : Int) < ss'.length := by omega
          go_wp2_with (go_at_call 86; refine (one_any g (m + 6200) _ _ hQ.dr.cur (by omega)).mono ?_; rintro e w4 ⟨bb, rfl, hk4, hc4⟩; have hQz := hQ.draw hk4 hc4; have hSz := hQ.dr.cur.steps hk4 hS; (obtain ⟨z0, z1⟩ := hQz.r4.cells; obtain ⟨y0, y1⟩ := hQz.r2.cells; have yf0 := hQz.r2.frozen 0; have yf1 := hQz.r2.frozen 1))
          all_goals
            (obtain ⟨hfb, hfl, hfs, hfd⟩ := hQz.fin hSz; refine bodyPost_ret (results_cell_row2 rfl _ _ w.heap.size _ _ _ _ rfl hfb Tryz.underlying26 rfl (by kernel_rfl)) rfl ?_)
            refine ⟨_, _, _, rfl, f, ss', rfl, hfl, hfs, by omega, fun _ => ?_, hv0, hv1, hfd.mono (by omega)⟩
            rw [rk_all]
            omega
    · have hposI : ¬ (0 : Int) < ss.length := by omega
      go_wp2_with (go_at_call 86; refine (one_any g (m + 6000) _ _ hQ.dr.cur (by omega)).mono ?_; rintro e w4 ⟨bb, rfl, hk4, hc4⟩; have hQz := hQ.draw hk4 hc4; have hSz := (ho.keep hQ.dr.cur hk4 hgl).steps; (obtain ⟨z0, z1⟩ := hQz.r4.cells; obtain ⟨y0, y1⟩ := hQz.r2.cells; have yf0 := hQz.r2.frozen 0; have yf1 := hQz.r2.frozen 1))
      all_goals
        (obtain ⟨hfb, hfl, hfs, hfd⟩ := hQz.fin hSz; refine bodyPost_ret (results_cell_row2 rfl _ _ w.heap.size _ _ _ _ rfl hfb Tryz.underlying26 rfl (by kernel_rfl)) rfl ?_)
        refine ⟨_, _, _, rfl, f, ss, rfl, hfl, hfs, by omega, fun _ => ?_, hv0, hv1, hfd.mono (by omega)⟩
        rw [rk_all]
        omega
end Go.Proofs.YtfnjhodologfeaaGreat
