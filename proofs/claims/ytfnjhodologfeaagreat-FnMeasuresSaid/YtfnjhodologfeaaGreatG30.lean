/- Parts of the proof: D15, D16. -/
import Derived.Test.YtfnjhodologfeaaGreatG28
import Derived.Deep.RegionLaw
import Derived.Deep.RegionHeld3
set_option linter.unusedSimpArgs false
set_option linter.unusedVariables false
/- l7Axiom; resolvents of clauses in order -/
namespace Go.Proofs.YtfnjhodologfeaaGreat
open Go.RowKit

/-- a whole step is stored -/
theorem SBlk.store {wr : World} {b : Nat} {u0 u : Value} {l0 r0 p0 l r p : Int} (h : SBlk wr b u0 l0 r0 p0) :
    SBlk ((((wr.setCell ⟨b, 0, none⟩ u).setCell ⟨b, 1, none⟩ (.int .i64 l)).setCell ⟨b, 2, none⟩ (.int .i64 r)).setCell ⟨b, 3, none⟩ (.int .i64 p)) b u l r p ∧
    wr.grownBy ((((wr.setCell ⟨b, 0, none⟩ u).setCell ⟨b, 1, none⟩ (.int .i64 l)).setCell ⟨b, 2, none⟩ (.int .i64 r)).setCell ⟨b, 3, none⟩ (.int .i64 p)) (some b) :=
  ⟨(((h.set0 u).set1 l).set2 r).set3 p, (((grown_set wr b 0 u).trans (grown_set _ b 1 _)).trans (grown_set _ b 2 _)).trans (grown_set _ b 3 _)⟩
theorem SBlk.type {w : World} {b : Nat} {u : Value} {l r p : Int} (h : SBlk w b u l r p) {e : Nat} (he : 40 ≠ e) : ∀ k, some b = some k → ∃ cur fz T, w.heap[k]? = some (.cells cur T fz) ∧ T ≠ e := fun k hk => by
  injection hk with hk
  subst hk
  exact ⟨_, _, _, h, he⟩
/-- an own row of ints while another row turns -/
theorem OwnI.beside {w w' : World} {B b : Nat} {v : Value} {xs : List Int} (h : OwnI w B v xs) (hg : w.grownBy w' (some b)) (hne : v.ownBlock ≠ some b) : OwnI w' B v xs := h.grown hg (.inr hne)

set_option maxRecDepth 100000 in
set_option maxHeartbeats 2000000 in
theorem l7Axiom_any (v : Value) (f : CNF) (k : Nat) (c : List Int) (w : World) (hx : CnfV w v f) (hk : f.clauses[k]? = some c) (hl : c.length ≤ 1000000) :
    Calls Tryz.prog 112 #[v, .int .i64 k] w fun e w' => ∃ b cp, e = .returned (.agg #[.slice b c.length cp, .int .i64 (-1), .int .i64 k, .int .i64 0]) ∧ OwnI w' w.heap.size (.slice b c.length cp) c ∧ Ext w w' := by
  obtain ⟨cv, rfl, hls⟩ := hx
  obtain ⟨base, cap, rfl, hc1, hc2, hcell⟩ := hls.open
  have hlt : k < f.clauses.length := (List.getElem?_eq_some_iff.1 hk).1
  obtain ⟨b, off, rfl, hbl, hcs⟩ := hcell k hlt
  obtain ⟨c', u, hc, hu⟩ := hcs k hlt
  obtain rfl : c' = c := by rw [hk] at hc; injection hc with e; exact e.symm
  have hR : SBlk ((w.alloc (.cells #[.int .i64 f.vars, .slice (some ⟨b, off, none⟩) f.clauses.length cap] 26)).alloc (.cells #[.slice none 0 0, .int .i64 0, .int .i64 0, .int .i64 0] 40)) (w.heap.size + 1) (.slice none 0 0) 0 0 0 := by
    have := SBlk.made (w.alloc (.cells #[.int .i64 f.vars, .slice (some ⟨b, off, none⟩) f.clauses.length cap] 26)) (.slice none 0 0) 0 0 0
    simpa using this
  have hEw : Ext w ((w.alloc (.cells #[.int .i64 f.vars, .slice (some ⟨b, off, none⟩) f.clauses.length cap] 26)).alloc (.cells #[.slice none 0 0, .int .i64 0, .int .i64 0, .int .i64 0] 40)) := (by repeat (first | exact Ext.refl _ | assumption | apply Ext.dn | apply Ext.drew | apply Ext.alloc))
  obtain ⟨hu0, huI⟩ := hu _ hEw
  clear hk hc hcs hcell hu
  go_enter Tryz.func112, Tryz.ntmps112
  go_wp2_with (go_at_call 136; refine (l1Own_any _ c' _ huI (by omega)).mono ?_; rintro e w1 ⟨r1, rfl, ho1, he1⟩; have hR1 := hR.ext he1; obtain ⟨q0, q1, q2, q3⟩ := hR1.cells; have f0 := hR1.frozen 0; have f1 := hR1.frozen 1; have f2 := hR1.frozen 2; have f3 := hR1.frozen 3; have hne : r1.ownBlock ≠ some (w.heap.size + 1) := (fun e => by have := (ho1.lt _ e).1; simp only [World.size_alloc] at this; omega); obtain ⟨ob, oc, rfl, _, _, _⟩ := ho1.ints.open)
  obtain ⟨hs1, hg1⟩ := hR1.store (u := .slice ob c'.length oc) (l := -1) (r := k) (p := 0)
  refine bodyPost_ret (results_cell_row rfl _ _ (w.heap.size + 1) _ _ _ _ rfl hs1 Tryz.underlying40 rfl (by kernel_rfl)) rfl ?_
  have hx1 : Ext w w1 := hEw.trans he1
  exact ⟨_, _, rfl, (ho1.beside hg1 hne).mono (by simp; omega), Below.grown hx1 hg1 hx1.size (fun j hj => by injection hj with hj; omega)⟩

theorem absI_ne {x y : Int} (h1 : y ≠ x) (h2 : y ≠ -x) : absI y ≠ absI x := by
  unfold absI
  split <;> split <;> omega
theorem joinL_ok {vars : Int} : ∀ (b a c : List Int), OkC vars a → (∀ x ∈ b, x ≠ 0 ∧ -vars ≤ x ∧ x ≤ vars) → joinL a b = some c → OkC vars c
  | [], a, c, ha, _, h => by simp [joinL] at h; subst h; exact ha
  | x :: b, a, c, ha, hb, h => by
    rw [joinL] at h
    split at h
    · cases h
    · rename_i h1
      split at h
      · exact joinL_ok b a c ha (fun y hy => hb y (List.mem_cons_of_mem _ hy)) h
      · rename_i h2
        refine joinL_ok b _ c (putL_ok ha (hb x (by simp)) (fun y hy => absI_ne (fun e => h2 ?_) (fun e => h1 ?_))) (fun y hy => hb y (List.mem_cons_of_mem _ hy)) h
        · unfold hasB; rw [List.any_eq_true]; exact ⟨y, hy, by simp [e]⟩
        · unfold hasB; rw [List.any_eq_true]; exact ⟨y, hy, by simp [e]⟩
theorem resolveL_ok {vars v : Int} {a b c : List Int} (ha : OkC vars a) (hb : OkC vars b) (h : resolveL a b v = some c) : OkC vars c := by
  unfold resolveL at h
  split at h
  · exact joinL_ok _ _ _ (ha.without v) (fun x hx => (hb.without v).1 x hx) h
  · cases h
theorem OkC.len {vars : Int} {c : List Int} (h : OkC vars c) (hv : vars ≤ 12) : c.length ≤ 12 := by
  by_cases h0 : 0 ≤ vars
  · exact clauseB_len (clauseB_of h (by simp [inB]; omega))
  · cases c with
    | nil => simp
    | cons x c =>
      have := h.1 x (by simp)
      omega
end Go.Proofs.YtfnjhodologfeaaGreat
/- l7Try -/
namespace Go.Proofs.YtfnjhodologfeaaGreat
open Go.RowKit

theorem own_ne {w : World} {B b : Nat} {v : Value} {xs : List Int} (h : OwnI w B v xs) (hb : b < B) : v.ownBlock ≠ some b := fun e => by have := (h.lt _ e).1; omega
/-- a resolvent of two steps, or none -/
def TryE (n : Int) (len : Nat) (w : World) (e : Ending) (w' : World) : Prop :=
  ∃ (u : Value) (l r p : Int) (ok : Bool), e = .returned (.tuple #[.agg #[u, .int .i64 l, .int .i64 r, .int .i64 p], .bool ok]) ∧ Ext w w' ∧ (∃ b cp c, u = .slice b (List.length c) cp ∧ OwnI w' w.heap.size u c ∧ (ok = true → OkC n c ∧ 0 ≤ l ∧ l < len ∧ 0 ≤ r ∧ r < len ∧ 1 ≤ p ∧ p ≤ n))
set_option maxRecDepth 100000 in
set_option maxHeartbeats 4000000 in
theorem l7Try_any (vs : Value) (ss : List RS) (i k : Nat) (n : Int) (w : World) (hs : Steps w vs ss) (hi : i < ss.length) (hk : k < ss.length) (hok : ∀ s ∈ ss, OkC n s.clause) (hn : n ≤ 12) (hlen : ss.length ≤ 1000) :
    Calls Tryz.prog 114 #[vs, .int .i64 i, .int .i64 k] w (TryE n ss.length w) := by
  obtain ⟨base, cap, rfl, hc1, hc2, hcell⟩ := hs.open
  obtain ⟨b, off, rfl, hbl, hcs⟩ := hcell i hi
  obtain ⟨si, ui, hsi, hui⟩ := hcs i hi
  obtain ⟨sk, uk, hsk, huk⟩ := hcs k hk
  have hoi := hok si (List.mem_of_getElem? hsi)
  have hok' := hok sk (List.mem_of_getElem? hsk)
  have hli := hoi.len hn
  have hlk := hok'.len hn
  have hbi := hoi.bd (by omega)
  have hbk := hok'.bd (by omega)
  have hII : ∀ w', Ext w w' → Ints w' ui si.clause := fun w' h => (hui w' h).2.2.2.2
  have hKI : ∀ w', Ext w w' → Ints w' uk sk.clause := fun w' h => (huk w' h).2.2.2.2
  have hcI : ∀ w', Ext w w' → w'.cell? ⟨b, off + i * 4, none⟩ = some ui := fun w' h => (hui w' h).1
  have hcK : ∀ w', Ext w w' → w'.cell? ⟨b, off + k * 4, none⟩ = some uk := fun w' h => (huk w' h).1
  obtain ⟨ib, ic, rfl, _, _, hix⟩ := (hII w (.refl _)).open
  have HOI := Lib.hid hoi
  have HOK := Lib.hid hok'
  have HIX := Lib.hid hix
  clear hix hui huk hcs hcell hok hsi hsk hoi hok'
  have hR := SBlk.made w (.slice none 0 0) 0 0 0
  have hEA : Ext w (w.alloc (.cells #[.slice none 0 0, .int .i64 0, .int .i64 0, .int .i64 0] 40)) := (by repeat (first | exact Ext.refl _ | assumption | apply Ext.dn | apply Ext.drew | apply Ext.alloc))
  go_enter Tryz.func114, Tryz.ntmps114
  go_wp2
  go_loopw [8, 9, 10, 11, 12, 13] (fun j l le ri c ok wr => ∃ q : Nat, j = .int .i64 q ∧ q ≤ si.clause.length ∧ Ext (w.alloc (.cells #[.slice none 0 0, .int .i64 0, .int .i64 0, .int .i64 0] 40)) wr) (fun j _ _ _ _ _ _ => si.clause.length - (intOf j).toNat)
  case atStart => exact ⟨0, rfl, Nat.zero_le _, .refl _⟩
  case round =>
    obtain ⟨q, rfl, hq, hE⟩ := hrel
    have hEw := hEA.trans hE
    have hci0 := hcI _ hEw
    have hR1 := hR.ext hE
    obtain ⟨r0, r1, r2, r3'⟩ := hR1.cells
    have rf0 := hR1.frozen 0
    have rf1 := hR1.frozen 1
    have rf2 := hR1.frozen 2
    have rf3 := hR1.frozen 3
    by_cases hlt : q < si.clause.length
    · obtain ⟨b3, off3, rfl, hb3, hl3⟩ := HIX.out q hlt
      obtain ⟨y, hy, hyc⟩ := hl3 q hlt
      have hyc0 := hyc _ hEw
      obtain ⟨hy0, hy1, hy2⟩ := HOI.out.1 y (List.mem_of_getElem? hy)
      have hya : 1 ≤ absI y ∧ absI y ≤ n := by unfold absI; split <;> omega
      have hck0 := hcK _ hEw
      clear hl3 hy hyc
      by_cases hneg : y < 0
      · rcases hres : resolveL sk.clause si.clause (absI y) with _ | val
        all_goals
          have HRES := Lib.hid hres
          go_wp2
          go_region_held3 (fun w' => w'.cell? ⟨b, off + i * 4, none⟩ = some (.slice (some ⟨b3, off3, none⟩) si.clause.length ic) ∧ w'.cell? ⟨b, off + k * 4, none⟩ = some uk)
            (first
              | exact ⟨hcI _ hE3, hcK _ hE3⟩
              | exact ⟨hcI _ (hEw.trans (by repeat (first | exact Ext.refl _ | assumption | apply Ext.dn | apply Ext.drew | apply Ext.alloc))), hcK _ (hEw.trans (by repeat (first | exact Ext.refl _ | assumption | apply Ext.dn | apply Ext.drew | apply Ext.alloc)))⟩)
            ((first
              | (go_simp; go_at_call 138; refine (l2Resolve_any _ _ sk.clause si.clause (absI y) _ (hKI _ (hEw.trans (by repeat (first | exact Ext.refl _ | assumption | apply Ext.dn | apply Ext.drew | apply Ext.alloc)))) (hII _ (hEw.trans (by repeat (first | exact Ext.refl _ | assumption | apply Ext.dn | apply Ext.drew | apply Ext.alloc)))) (by omega) (by omega) (HOK.out.bd (by omega)) (HOI.out.bd (by omega)) (by omega) (by omega)).mono ?_; rw [HRES.out]; rintro e w3 ⟨r3, rfl, ho3, he3⟩; have hE3 : Ext w w3 := (hEw.trans (by repeat (first | exact Ext.refl _ | assumption | apply Ext.dn | apply Ext.drew | apply Ext.alloc))).trans he3; have hE3' := (hE.trans (by repeat (first | exact Ext.refl _ | assumption | apply Ext.dn | apply Ext.drew | apply Ext.alloc))).trans he3; obtain ⟨ob, oc, rfl, _, _, _⟩ := ho3.ints.open)
              | (go_simp; go_at_call 139; refine (l2Var_any y _ (by omega) (by omega)).mono ?_; rintro e w2 ⟨rfl, rfl⟩)))
        · go_wp2
          exact ⟨⟨q + 1, rfl, hlt, hE3'⟩, by simp [intOf]; omega⟩
        · have hR3 := hR.ext hE3'
          obtain ⟨x0, x1, x2, x3⟩ := hR3.cells
          have xf0 := hR3.frozen 0
          have xf1 := hR3.frozen 1
          have xf2 := hR3.frozen 2
          have xf3 := hR3.frozen 3
          have hok3 := resolveL_ok HOK.out HOI.out HRES.out
          have hsE := hE.size
          have hne3 := own_ne ho3 (show w.heap.size < _ by simp at hsE ⊢; omega)
          go_wp2_with (go_at_call 139; refine (l2Var_any y _ (by omega) (by omega)).mono ?_; rintro e w2 ⟨rfl, rfl⟩)
          simp only [Option.getD_some] at ho3 hne3
          obtain ⟨hs1, hg1⟩ := hR3.store (u := .slice ob val.length oc) (l := k) (r := i) (p := absI y)
          refine bodyPost_ret (results_cell_row2 rfl _ _ w.heap.size _ _ _ _ rfl hs1 Tryz.underlying40 rfl (by kernel_rfl)) rfl ?_
          refine ⟨_, _, _, _, true, rfl, Below.grown hE3 hg1 hE3.size (fun j hj => by injection hj with hj; omega), ob, oc, val, rfl, (ho3.beside hg1 hne3).mono (by simp at hsE ⊢; omega), fun _ => ⟨hok3, by omega, by omega, by omega, by omega, by omega, by omega⟩⟩
      · rcases hres : resolveL si.clause sk.clause (absI y) with _ | val
        all_goals
          have HRES := Lib.hid hres
          go_wp2
          go_region_held3 (fun w' => w'.cell? ⟨b, off + i * 4, none⟩ = some (.slice (some ⟨b3, off3, none⟩) si.clause.length ic) ∧ w'.cell? ⟨b, off + k * 4, none⟩ = some uk)
            (first
              | exact ⟨hcI _ hE3, hcK _ hE3⟩
              | exact ⟨hcI _ (hEw.trans (by repeat (first | exact Ext.refl _ | assumption | apply Ext.dn | apply Ext.drew | apply Ext.alloc))), hcK _ (hEw.trans (by repeat (first | exact Ext.refl _ | assumption | apply Ext.dn | apply Ext.drew | apply Ext.alloc)))⟩)
            ((first
              | (go_simp; go_at_call 138; refine (l2Resolve_any _ _ si.clause sk.clause (absI y) _ (hII _ (hEw.trans (by repeat (first | exact Ext.refl _ | assumption | apply Ext.dn | apply Ext.drew | apply Ext.alloc)))) (hKI _ (hEw.trans (by repeat (first | exact Ext.refl _ | assumption | apply Ext.dn | apply Ext.drew | apply Ext.alloc)))) (by omega) (by omega) (HOI.out.bd (by omega)) (HOK.out.bd (by omega)) (by omega) (by omega)).mono ?_; rw [HRES.out]; rintro e w3 ⟨r3, rfl, ho3, he3⟩; have hE3 : Ext w w3 := (hEw.trans (by repeat (first | exact Ext.refl _ | assumption | apply Ext.dn | apply Ext.drew | apply Ext.alloc))).trans he3; have hE3' := (hE.trans (by repeat (first | exact Ext.refl _ | assumption | apply Ext.dn | apply Ext.drew | apply Ext.alloc))).trans he3; obtain ⟨ob, oc, rfl, _, _, _⟩ := ho3.ints.open)
              | (go_simp; go_at_call 139; refine (l2Var_any y _ (by omega) (by omega)).mono ?_; rintro e w2 ⟨rfl, rfl⟩)))
        · go_wp2
          exact ⟨⟨q + 1, rfl, hlt, hE3'⟩, by simp [intOf]; omega⟩
        · have hR3 := hR.ext hE3'
          obtain ⟨x0, x1, x2, x3⟩ := hR3.cells
          have xf0 := hR3.frozen 0
          have xf1 := hR3.frozen 1
          have xf2 := hR3.frozen 2
          have xf3 := hR3.frozen 3
          have hok3 := resolveL_ok HOI.out HOK.out HRES.out
          have hsE := hE.size
          have hne3 := own_ne ho3 (show w.heap.size < _ by simp at hsE ⊢; omega)
          go_wp2_with (go_at_call 139; refine (l2Var_any y _ (by omega) (by omega)).mono ?_; rintro e w2 ⟨rfl, rfl⟩)
          simp only [Option.getD_some] at ho3 hne3
          obtain ⟨hs1, hg1⟩ := hR3.store (u := .slice ob val.length oc) (l := i) (r := k) (p := absI y)
          refine bodyPost_ret (results_cell_row2 rfl _ _ w.heap.size _ _ _ _ rfl hs1 Tryz.underlying40 rfl (by kernel_rfl)) rfl ?_
          refine ⟨_, _, _, _, true, rfl, Below.grown hE3 hg1 hE3.size (fun j hj => by injection hj with hj; omega), ob, oc, val, rfl, (ho3.beside hg1 hne3).mono (by simp at hsE ⊢; omega), fun _ => ⟨hok3, by omega, by omega, by omega, by omega, by omega, by omega⟩⟩
    · go_wp2
      obtain ⟨hs1, hg1⟩ := hR1.store (u := .slice none 0 0) (l := 0) (r := 0) (p := 0)
      refine bodyPost_ret (results_cell_row2 rfl _ _ w.heap.size _ _ _ _ rfl hs1 Tryz.underlying40 rfl (by kernel_rfl)) rfl ?_
      exact ⟨_, _, _, _, false, rfl, Below.grown hEw hg1 hEw.size (fun j hj => by injection hj with hj; omega), none, 0, [], rfl, OwnI.nil _ _, by simp⟩
end Go.Proofs.YtfnjhodologfeaaGreat
