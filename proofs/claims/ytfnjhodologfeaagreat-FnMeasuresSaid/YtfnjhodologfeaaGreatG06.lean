/- Parts of the proof: B4, B5. -/
import Derived.Test.YtfnjhodologfeaaGreatG05
set_option linter.unusedSimpArgs false
set_option linter.unusedVariables false
/- earlier, correct, firstWrong, IsDerivation, isProof -/
namespace Go.Proofs.YtfnjhodologfeaaGreat
open Go.RowKit

/-- a clause that is there and whether it is -/
def ClO (w : World) (res : Option (List Int)) (e : Ending) (w' : World) : Prop :=
  ∃ r, e = .returned (.tuple #[r, .bool res.isSome]) ∧ (∀ d, res = some d → Ints w' r d) ∧ Ext w w'

/-- what resolve does -/
def ResolveSaid : Prop := ∀ (va vb : Value) (a b : List Int) (v vars : Int) (w : World), Ints w va a → Ints w vb b → clauseB vars a = true → clauseB vars b = true → 1 ≤ v → v ≤ vars →
  Calls Tryz.prog 160 #[va, vb, .int .i64 v] w (ClO w (resolveL a b v))

def earlierO (f : CNF) (ss : List RS) (k : Nat) (i : Int) : Option (List Int) := if earlierB f ss k i = true then some (clAt ss i) else none

set_option maxHeartbeats 1000000 in
theorem earlier_any (v vs : Value) (f : CNF) (ss : List RS) (k : Nat) (i : Int) (w : World) (hx : CnfV w v f) (hs : Steps w vs ss) (hk : k ≤ ss.length) :
    Calls Tryz.prog 157 #[v, vs, .int .i64 k, .int .i64 i] w (ClO w (earlierO f ss k i)) := by
  obtain ⟨cv, rfl, hl⟩ := hx
  obtain ⟨base, cap, rfl, hc1, hc2, hcell⟩ := hs.open
  cases hi : inB i 0 ((k : Int) - 1)
  · go_enter Tryz.func157, Tryz.ntmps157
    go_wp2
    go_quiet ((go_at_call 156; exact Calls.quiet_of_same ((within_any _ _ _ _).mono (fun _ _ h => ⟨h.1.trans (ret_bool hi), h.2.symm⟩))))
    go_wp2
    go_ret2
    have : earlierO f ss k i = none := by simp [earlierO, earlierB, hi]
    rw [this]
    exact ⟨_, rfl, fun d h => (by cases h), ((Ext.refl _).alloc _).trans (Ext.drewN _ _)⟩
  · have hi2 : 0 ≤ i ∧ i ≤ (k : Int) - 1 := by simpa [inB] using hi
    obtain ⟨hi0, hi1⟩ := hi2
    obtain ⟨j, rfl⟩ : ∃ j : Nat, i = (j : Int) := ⟨i.toNat, by omega⟩
    have hlt : j < ss.length := by omega
    obtain ⟨b, off, rfl, hb, hcs⟩ := hcell j hlt
    obtain ⟨s, u, hsj, hci⟩ := hcs j hlt
    have hcu := (hci w (.refl _)).1
    have hcI : ∀ w', Ext w w' → Ints w' u s.clause := fun w' h => (hci _ h).2.2.2.2
    have HS := Lib.hid (clAt_of (i := (j : Int)) hsj)
    have hjl : (j : Int) < (ss.length : Int) := by omega
    clear hcell hcs hsj hci
    cases hcl : clauseB f.vars s.clause
    all_goals
      go_enter Tryz.func157, Tryz.ntmps157
      go_wp2
      go_quiet (first | (go_at_call 156; exact Calls.quiet_of_same ((within_any _ _ _ _).mono (fun _ _ h => ⟨h.1.trans (ret_bool hi), h.2.symm⟩))) | (go_at_call 128; exact Calls.quiet_of ((IsClause_any _ _ _ _ (hcI _ (((Ext.refl _).alloc _).trans (Ext.drewN _ _)))).mono (fun _ _ h => ⟨h.1.trans (ret_bool hcl), h.2⟩))))
      go_wp2
      go_ret2
    · have : earlierO f ss k (j : Int) = none := by simp [earlierO, earlierB, hi, HS.out, hcl]
      rw [this]
      exact ⟨_, rfl, fun d h => (by cases h), ((Ext.refl _).alloc _).trans (Ext.drewN _ _)⟩
    · have : earlierO f ss k (j : Int) = some s.clause := by simp [earlierO, earlierB, hi, HS.out, hcl]
      rw [this]
      exact ⟨_, rfl, fun d h => (by injection h with h; subst h; exact hcI _ (((Ext.refl _).alloc _).trans (Ext.drewN _ _))), ((Ext.refl _).alloc _).trans (Ext.drewN _ _)⟩

theorem earlierO_some {f : CNF} {ss : List RS} {k : Nat} {i : Int} {c : List Int} (h : earlierO f ss k i = some c) : ∃ j : Nat, i = (j : Int) ∧ j < k ∧ clauseB f.vars c = true ∧ clAt ss i = c ∧ earlierB f ss k i = true := by
  unfold earlierO at h
  split at h
  · rename_i he
    injection h with h
    obtain ⟨j, h1, h2, h3⟩ := earlierB_at he
    exact ⟨j, h1, h2, by rw [← h]; exact h3, h, he⟩
  · cases h
theorem earlierO_none {f : CNF} {ss : List RS} {k : Nat} {i : Int} (h : earlierO f ss k i = none) : earlierB f ss k i = false := by
  unfold earlierO at h
  split at h
  · cases h
  · rename_i he; simpa using he
set_option maxRecDepth 100000 in
set_option maxHeartbeats 2000000 in
theorem correct_of (hRes : ResolveSaid) (v vs : Value) (f : CNF) (ss : List RS) (k : Nat) (w : World) (hx : CnfV w v f) (hs : Steps w vs ss) (hk : k < ss.length) :
    Calls Tryz.prog 130 #[v, vs, .int .i64 k] w (BoolE w (correctB f ss k)) := by
  have HR := Lib.hid hRes
  clear hRes
  have hx0 := hx
  obtain ⟨cv, rfl, hl⟩ := hx
  obtain ⟨base, cap, rfl, hc1, hc2, hcell⟩ := hs.open
  obtain ⟨b, off, rfl, hb, hcs⟩ := hcell k hk
  obtain ⟨⟨c, l, r, p⟩, u, hsk, hci⟩ := hcs k hk
  dsimp only at hci
  obtain ⟨hu0, hu1, hu2, hu3, _⟩ := hci w (.refl _)
  have hcI : ∀ w', Ext w w' → Ints w' u c := fun w' h => (hci _ h).2.2.2.2
  have HF := Lib.hid (show correctB f ss k = correctAt f ss k c l r p by simp [correctB, hsk])
  obtain ⟨ub, uc, rfl, _, _, _⟩ := (hcI w (.refl _)).open
  clear hci hsk hcs hcell
  have hkl : (k : Int) < (ss.length : Int) := by omega
  obtain ⟨lb, lc, rfl, hlc1, hlc2, hlcell⟩ := hl.open
  cases hcl : clauseB f.vars c
  · go_enter Tryz.func130, Tryz.ntmps130
    go_wp2_with (go_at_call 128; refine (IsClause_any _ _ _ _ (hcI _ (by repeat (first | exact Ext.refl _ | assumption | apply Ext.dn | apply Ext.drew | apply Ext.alloc)))).mono ?_; rw [hcl]; rintro e w1 ⟨rfl, hd1⟩; obtain ⟨f0, f1, g0, g1, g2, g3, hE1⟩ := own_cells hd1.ext)
    go_ret
    exact boolE (by rw [HF.out]; simp [correctAt, hcl]) (by repeat (first | exact Ext.refl _ | assumption | apply Ext.dn | apply Ext.drew | apply Ext.alloc))
  · have HC := Lib.hid (show clauseB f.vars c = true from hcl)
    cases hL : (l == -1)
    · cases hEl : earlierO f ss k l with
      | none =>
        go_enter Tryz.func130, Tryz.ntmps130
        go_wp2_with (first | (go_at_call 128; refine (IsClause_any _ _ _ _ (hcI _ (by repeat (first | exact Ext.refl _ | assumption | apply Ext.dn | apply Ext.drew | apply Ext.alloc)))).mono ?_; rw [hcl]; rintro e w1 ⟨rfl, hd1⟩; obtain ⟨f0, f1, g0, g1, g2, g3, hE1⟩ := own_cells hd1.ext) | (go_at_call 157; refine (earlier_any _ _ f ss k _ _ (hx0.ext (by repeat (first | exact Ext.refl _ | assumption | apply Ext.dn | apply Ext.drew | apply Ext.alloc))) (hs.ext (by repeat (first | exact Ext.refl _ | assumption | apply Ext.dn | apply Ext.drew | apply Ext.alloc))) (by omega)).mono ?_; rw [hEl]; rintro e w2 ⟨r2, rfl, hr2, he2⟩; obtain ⟨f0, f1, g0, g1, g2, g3, hE2⟩ := own_cells (hd1.ext.trans he2)))
        go_ret
        exact boolE (by rw [HF.out]; simp [correctAt, HC.out, hL, earlierO_none hEl]) (by repeat (first | exact Ext.refl _ | assumption | apply Ext.dn | apply Ext.drew | apply Ext.alloc))
      | some c1 =>
        obtain ⟨j1, hj, hj1, hc1, hA1, hB1⟩ := earlierO_some hEl
        have HA1 := Lib.hid hA1
        have HB1 := Lib.hid hB1
        have HC1 := Lib.hid hc1
        clear hc1 hA1 hB1 hj
        cases hR : (r == -1)
        · cases hEr : earlierO f ss k r with
          | none =>
            go_enter Tryz.func130, Tryz.ntmps130
            go_wp2_with (first | (go_at_call 128; refine (IsClause_any _ _ _ _ (hcI _ (by repeat (first | exact Ext.refl _ | assumption | apply Ext.dn | apply Ext.drew | apply Ext.alloc)))).mono ?_; rw [hcl]; rintro e w1 ⟨rfl, hd1⟩; obtain ⟨f0, f1, g0, g1, g2, g3, hE1⟩ := own_cells hd1.ext) | (go_at_call 157; refine (earlier_any _ _ f ss k _ _ (hx0.ext (by repeat (first | exact Ext.refl _ | assumption | apply Ext.dn | apply Ext.drew | apply Ext.alloc))) (hs.ext (by repeat (first | exact Ext.refl _ | assumption | apply Ext.dn | apply Ext.drew | apply Ext.alloc))) (by omega)).mono ?_; rw [hEl]; rintro e w2 ⟨r2, rfl, hr2, he2⟩; obtain ⟨f0, f1, g0, g1, g2, g3, hE2⟩ := own_cells (hd1.ext.trans he2)) | (go_at_call 157; refine (earlier_any _ _ f ss k _ _ (hx0.ext (by repeat (first | exact Ext.refl _ | assumption | apply Ext.dn | apply Ext.drew | apply Ext.alloc))) (hs.ext (by repeat (first | exact Ext.refl _ | assumption | apply Ext.dn | apply Ext.drew | apply Ext.alloc))) (by omega)).mono ?_; rw [hEr]; rintro e w3 ⟨r3, rfl, hr3, he3⟩; obtain ⟨f0, f1, g0, g1, g2, g3, hE3⟩ := own_cells ((hd1.ext.trans he2).trans he3)))
            go_ret
            exact boolE (by rw [HF.out]; simp [correctAt, HC.out, hL, HB1.out, hR, earlierO_none hEr]) (by repeat (first | exact Ext.refl _ | assumption | apply Ext.dn | apply Ext.drew | apply Ext.alloc))
          | some c2 =>
            obtain ⟨j2, hj, hj2, hc2, hA2, hB2⟩ := earlierO_some hEr
            have HA2 := Lib.hid hA2
            have HB2 := Lib.hid hB2
            have HC2 := Lib.hid hc2
            clear hc2 hA2 hB2 hj
            cases hPv : inB p 1 f.vars
            · go_enter Tryz.func130, Tryz.ntmps130
              go_wp2_with (first | (go_at_call 128; refine (IsClause_any _ _ _ _ (hcI _ (by repeat (first | exact Ext.refl _ | assumption | apply Ext.dn | apply Ext.drew | apply Ext.alloc)))).mono ?_; rw [hcl]; rintro e w1 ⟨rfl, hd1⟩; obtain ⟨f0, f1, g0, g1, g2, g3, hE1⟩ := own_cells hd1.ext) | (go_at_call 157; refine (earlier_any _ _ f ss k _ _ (hx0.ext (by repeat (first | exact Ext.refl _ | assumption | apply Ext.dn | apply Ext.drew | apply Ext.alloc))) (hs.ext (by repeat (first | exact Ext.refl _ | assumption | apply Ext.dn | apply Ext.drew | apply Ext.alloc))) (by omega)).mono ?_; rw [hEl]; rintro e w2 ⟨r2, rfl, hr2, he2⟩; obtain ⟨f0, f1, g0, g1, g2, g3, hE2⟩ := own_cells (hd1.ext.trans he2)) | (go_at_call 157; refine (earlier_any _ _ f ss k _ _ (hx0.ext (by repeat (first | exact Ext.refl _ | assumption | apply Ext.dn | apply Ext.drew | apply Ext.alloc))) (hs.ext (by repeat (first | exact Ext.refl _ | assumption | apply Ext.dn | apply Ext.drew | apply Ext.alloc))) (by omega)).mono ?_; rw [hEr]; rintro e w3 ⟨r3, rfl, hr3, he3⟩; obtain ⟨f0, f1, g0, g1, g2, g3, hE3⟩ := own_cells ((hd1.ext.trans he2).trans he3)) | (go_at_call 159; refine (isVar_any _ _ _).mono ?_; rw [hPv]; rintro e w4 ⟨rfl, rfl⟩))
              go_ret
              exact boolE (by rw [HF.out]; simp [correctAt, HC.out, hL, HB1.out, hR, HB2.out, hPv]) (by repeat (first | exact Ext.refl _ | assumption | apply Ext.dn | apply Ext.drew | apply Ext.alloc))
            · have hp2 : 1 ≤ p ∧ p ≤ f.vars := by simpa [inB] using hPv
              obtain ⟨hp0, hp1⟩ := hp2
              cases hres : resolveL c1 c2 p with
              | none =>
                go_enter Tryz.func130, Tryz.ntmps130
                go_wp2_with (first | (go_at_call 128; refine (IsClause_any _ _ _ _ (hcI _ (by repeat (first | exact Ext.refl _ | assumption | apply Ext.dn | apply Ext.drew | apply Ext.alloc)))).mono ?_; rw [hcl]; rintro e w1 ⟨rfl, hd1⟩; obtain ⟨f0, f1, g0, g1, g2, g3, hE1⟩ := own_cells hd1.ext) | (go_at_call 157; refine (earlier_any _ _ f ss k _ _ (hx0.ext (by repeat (first | exact Ext.refl _ | assumption | apply Ext.dn | apply Ext.drew | apply Ext.alloc))) (hs.ext (by repeat (first | exact Ext.refl _ | assumption | apply Ext.dn | apply Ext.drew | apply Ext.alloc))) (by omega)).mono ?_; rw [hEl]; rintro e w2 ⟨r2, rfl, hr2, he2⟩; obtain ⟨f0, f1, g0, g1, g2, g3, hE2⟩ := own_cells (hd1.ext.trans he2)) | (go_at_call 157; refine (earlier_any _ _ f ss k _ _ (hx0.ext (by repeat (first | exact Ext.refl _ | assumption | apply Ext.dn | apply Ext.drew | apply Ext.alloc))) (hs.ext (by repeat (first | exact Ext.refl _ | assumption | apply Ext.dn | apply Ext.drew | apply Ext.alloc))) (by omega)).mono ?_; rw [hEr]; rintro e w3 ⟨r3, rfl, hr3, he3⟩; obtain ⟨f0, f1, g0, g1, g2, g3, hE3⟩ := own_cells ((hd1.ext.trans he2).trans he3)) | (go_at_call 159; refine (isVar_any _ _ _).mono ?_; rw [hPv]; rintro e w4 ⟨rfl, rfl⟩) | (go_at_call 160; refine (HR.out _ _ c1 c2 p f.vars _ ((hr2 _ rfl).ext he3) (hr3 _ rfl) HC1.out HC2.out hp0 hp1).mono ?_; rw [hres]; rintro e w5 ⟨r5, rfl, hr5, he5⟩; have hE5 := hE3.trans he5))
                go_ret
                exact boolE (by rw [HF.out]; simp [correctAt, HC.out, hL, HB1.out, hR, HB2.out, hPv, HA1.out, HA2.out, hres]) (by repeat (first | exact Ext.refl _ | assumption | apply Ext.dn | apply Ext.drew | apply Ext.alloc))
              | some d =>
                go_enter Tryz.func130, Tryz.ntmps130
                go_wp2_with (first
                  | (go_at_call 128; refine (IsClause_any _ _ _ _ (hcI _ (by repeat (first | exact Ext.refl _ | assumption | apply Ext.dn | apply Ext.drew | apply Ext.alloc)))).mono ?_; rw [hcl]; rintro e w1 ⟨rfl, hd1⟩; obtain ⟨f0, f1, g0, g1, g2, g3, hE1⟩ := own_cells hd1.ext) | (go_at_call 157; refine (earlier_any _ _ f ss k _ _ (hx0.ext (by repeat (first | exact Ext.refl _ | assumption | apply Ext.dn | apply Ext.drew | apply Ext.alloc))) (hs.ext (by repeat (first | exact Ext.refl _ | assumption | apply Ext.dn | apply Ext.drew | apply Ext.alloc))) (by omega)).mono ?_; rw [hEl]; rintro e w2 ⟨r2, rfl, hr2, he2⟩; obtain ⟨f0, f1, g0, g1, g2, g3, hE2⟩ := own_cells (hd1.ext.trans he2)) | (go_at_call 157; refine (earlier_any _ _ f ss k _ _ (hx0.ext (by repeat (first | exact Ext.refl _ | assumption | apply Ext.dn | apply Ext.drew | apply Ext.alloc))) (hs.ext (by repeat (first | exact Ext.refl _ | assumption | apply Ext.dn | apply Ext.drew | apply Ext.alloc))) (by omega)).mono ?_; rw [hEr]; rintro e w3 ⟨r3, rfl, hr3, he3⟩; obtain ⟨f0, f1, g0, g1, g2, g3, hE3⟩ := own_cells ((hd1.ext.trans he2).trans he3)) | (go_at_call 159; refine (isVar_any _ _ _).mono ?_; rw [hPv]; rintro e w4 ⟨rfl, rfl⟩) | (go_at_call 160; refine (HR.out _ _ c1 c2 p f.vars _ ((hr2 _ rfl).ext he3) (hr3 _ rfl) HC1.out HC2.out hp0 hp1).mono ?_; rw [hres]; rintro e w5 ⟨r5, rfl, hr5, he5⟩; have hE5 := hE3.trans he5; have gg0 := he5.cell g0)
                  | (go_at_call 93; refine (Equal_any _ _ d c _ (hr5 _ rfl) (hcI _ (by repeat (first | exact Ext.refl _ | assumption | apply Ext.dn | apply Ext.drew | apply Ext.alloc)))).mono ?_; rintro e w6 ⟨rfl, hd6⟩; have hE6 := hE5.trans hd6.ext))
                go_ret
                exact boolE (by rw [HF.out]; simp [correctAt, HC.out, hL, HB1.out, hR, HB2.out, hPv, HA1.out, HA2.out, hres]) (by repeat (first | exact Ext.refl _ | assumption | apply Ext.dn | apply Ext.drew | apply Ext.alloc))
        · cases hP : (p == 0)
          · go_enter Tryz.func130, Tryz.ntmps130
            go_wp2_with (first | (go_at_call 128; refine (IsClause_any _ _ _ _ (hcI _ (by repeat (first | exact Ext.refl _ | assumption | apply Ext.dn | apply Ext.drew | apply Ext.alloc)))).mono ?_; rw [hcl]; rintro e w1 ⟨rfl, hd1⟩; obtain ⟨f0, f1, g0, g1, g2, g3, hE1⟩ := own_cells hd1.ext) | (go_at_call 157; refine (earlier_any _ _ f ss k _ _ (hx0.ext (by repeat (first | exact Ext.refl _ | assumption | apply Ext.dn | apply Ext.drew | apply Ext.alloc))) (hs.ext (by repeat (first | exact Ext.refl _ | assumption | apply Ext.dn | apply Ext.drew | apply Ext.alloc))) (by omega)).mono ?_; rw [hEl]; rintro e w2 ⟨r2, rfl, hr2, he2⟩; obtain ⟨f0, f1, g0, g1, g2, g3, hE2⟩ := own_cells (hd1.ext.trans he2)))
            go_ret
            exact boolE (by rw [HF.out]; simp [correctAt, HC.out, hL, HB1.out, hR, hP]) (by repeat (first | exact Ext.refl _ | assumption | apply Ext.dn | apply Ext.drew | apply Ext.alloc))
          · go_enter Tryz.func130, Tryz.ntmps130
            go_wp2_with (first | (go_at_call 128; refine (IsClause_any _ _ _ _ (hcI _ (by repeat (first | exact Ext.refl _ | assumption | apply Ext.dn | apply Ext.drew | apply Ext.alloc)))).mono ?_; rw [hcl]; rintro e w1 ⟨rfl, hd1⟩; obtain ⟨f0, f1, g0, g1, g2, g3, hE1⟩ := own_cells hd1.ext) | (go_at_call 157; refine (earlier_any _ _ f ss k _ _ (hx0.ext (by repeat (first | exact Ext.refl _ | assumption | apply Ext.dn | apply Ext.drew | apply Ext.alloc))) (hs.ext (by repeat (first | exact Ext.refl _ | assumption | apply Ext.dn | apply Ext.drew | apply Ext.alloc))) (by omega)).mono ?_; rw [hEl]; rintro e w2 ⟨r2, rfl, hr2, he2⟩; obtain ⟨f0, f1, g0, g1, g2, g3, hE2⟩ := own_cells (hd1.ext.trans he2)) | (go_at_call 158; refine (part_any _ _ c1 c _ (hr2 _ rfl) (hcI _ (by repeat (first | exact Ext.refl _ | assumption | apply Ext.dn | apply Ext.drew | apply Ext.alloc)))).mono ?_; rintro e w6 ⟨rfl, hd6⟩; have hE6 := hE2.trans hd6))
            go_ret
            exact boolE (by rw [HF.out]; simp [correctAt, HC.out, hL, HB1.out, hR, hP, HA1.out]) (by repeat (first | exact Ext.refl _ | assumption | apply Ext.dn | apply Ext.drew | apply Ext.alloc))
    · cases hP : (p == 0)
      · go_enter Tryz.func130, Tryz.ntmps130
        go_wp2_with (go_at_call 128; refine (IsClause_any _ _ _ _ (hcI _ (by repeat (first | exact Ext.refl _ | assumption | apply Ext.dn | apply Ext.drew | apply Ext.alloc)))).mono ?_; rw [hcl]; rintro e w1 ⟨rfl, hd1⟩; obtain ⟨f0, f1, g0, g1, g2, g3, hE1⟩ := own_cells hd1.ext)
        go_quiet (fail)
        go_wp2
        go_ret
        exact boolE (by rw [HF.out]; simp [correctAt, HC.out, hL, hP]) (by repeat (first | exact Ext.refl _ | assumption | apply Ext.dn | apply Ext.drew | apply Ext.alloc))
      · cases hR : inB r 0 ((f.clauses.length : Int) - 1)
        · go_enter Tryz.func130, Tryz.ntmps130
          go_wp2_with (go_at_call 128; refine (IsClause_any _ _ _ _ (hcI _ (by repeat (first | exact Ext.refl _ | assumption | apply Ext.dn | apply Ext.drew | apply Ext.alloc)))).mono ?_; rw [hcl]; rintro e w1 ⟨rfl, hd1⟩; obtain ⟨f0, f1, g0, g1, g2, g3, hE1⟩ := own_cells hd1.ext)
          go_quiet ((go_at_call 156; exact Calls.quiet_of_same ((within_any _ _ _ _).mono (fun _ _ h => ⟨h.1.trans (ret_bool hR), h.2.symm⟩))))
          go_wp2
          go_ret
          exact boolE (by rw [HF.out]; simp [correctAt, HC.out, hL, hP, hR]) (by repeat (first | exact Ext.refl _ | assumption | apply Ext.dn | apply Ext.drew | apply Ext.alloc))
        · have hR2 : 0 ≤ r ∧ r ≤ (f.clauses.length : Int) - 1 := by simpa [inB] using hR
          obtain ⟨hR0, hR1⟩ := hR2
          obtain ⟨j, rfl⟩ : ∃ j : Nat, r = (j : Int) := ⟨r.toNat, by omega⟩
          have hjl : j < f.clauses.length := by omega
          have hjl' : (j : Int) < (f.clauses.length : Int) := by omega
          obtain ⟨lbb, lboff, rfl, hlb, hlcs⟩ := hlcell j hjl
          obtain ⟨d, du, hdj, hdi⟩ := hlcs j hjl
          have hdu := (hdi w (.refl _)).1
          have hdI : ∀ w', Ext w w' → Ints w' du d := fun w' h => (hdi _ h).2
          have HD := Lib.hid hdj
          clear hlcell hlcs hdj hdi
          go_enter Tryz.func130, Tryz.ntmps130
          go_wp2_with (go_at_call 128; refine (IsClause_any _ _ _ _ (hcI _ (by repeat (first | exact Ext.refl _ | assumption | apply Ext.dn | apply Ext.drew | apply Ext.alloc)))).mono ?_; rw [hcl]; rintro e w1 ⟨rfl, hd1⟩; obtain ⟨f0, f1, g0, g1, g2, g3, hE1⟩ := own_cells hd1.ext)
          have fd := hE1.cell hdu
          go_quiet (first | (go_at_call 156; exact Calls.quiet_of_same ((within_any _ _ _ _).mono (fun _ _ h => ⟨h.1.trans (ret_bool hR), h.2.symm⟩))) | (go_at_call 93; exact Calls.quiet_of ((Equal_any _ _ d c _ (hdI _ (by repeat (first | exact Ext.refl _ | assumption | apply Ext.dn | apply Ext.drew | apply Ext.alloc))) (hcI _ (by repeat (first | exact Ext.refl _ | assumption | apply Ext.dn | apply Ext.drew | apply Ext.alloc)))))))
          go_wp2
          go_ret
          exact boolE (by rw [HF.out]; simp [correctAt, HC.out, hL, hP, hR, HD.out]) (by repeat (first | exact Ext.refl _ | assumption | apply Ext.dn | apply Ext.drew | apply Ext.alloc))
end Go.Proofs.YtfnjhodologfeaaGreat
/- firstWrong, IsDerivation, isProof, last -/
namespace Go.Proofs.YtfnjhodologfeaaGreat
open Go.RowKit

set_option maxHeartbeats 1000000 in
theorem firstWrong_of (hRes : ResolveSaid) (v vs : Value) (f : CNF) (ss : List RS) (w : World) (hx : CnfV w v f) (hs : Steps w vs ss) :
    Calls Tryz.prog 106 #[v, vs] w (IntE w (wrongTo f ss ss.length)) := by
  have HR := Lib.hid hRes
  clear hRes
  have hx0 := hx
  obtain ⟨cv, rfl, hl⟩ := hx
  obtain ⟨base, cap, rfl, hc1, hc2, hcell⟩ := hs.open
  clear hcell
  go_enter Tryz.func106, Tryz.ntmps106
  go_wp2
  go_loopw [8] (fun i wr => ∃ k : Nat, k ≤ ss.length ∧ i = .int .i64 k ∧ corrTo f ss k = true ∧ Ext (w.alloc (.cells #[.int .i64 f.vars, cv] 26)) wr) (fun i _ => ss.length - (intOf i).toNat)
  case atStart => exact ⟨0, Nat.zero_le _, rfl, rfl, Ext.refl _⟩
  case round =>
    obtain ⟨k, hk, rfl, hno, hE⟩ := hrel
    obtain ⟨f0, f1, hE1⟩ := own2_cells hE
    have HN := Lib.hid hno
    clear hno
    by_cases hlt : k < ss.length
    · cases hc : correctB f ss k
      all_goals go_wp2_with (go_at_call 130; refine (correct_of HR.out _ _ f ss k _ (hx0.ext hE1) (hs.ext hE1) hlt).mono ?_; rw [hc]; rintro e w2 ⟨rfl, he2⟩)
      · go_ret
        exact intE (wrongTo_at HN.out hc _ hlt).1.symm (hE1.trans he2)
      · exact ⟨⟨k + 1, by omega, by go_num, by simp [corrTo, HN.out, hc], hE.trans he2⟩, by simp [intOf]; omega⟩
    · go_wp2
      go_ret
      have := HN.out
      rw [show k = ss.length by omega] at this
      exact intE (wrongTo_of this).symm hE1

set_option maxHeartbeats 1000000 in
theorem IsDerivation_of (hRes : ResolveSaid) (v vs : Value) (f : CNF) (ss : List RS) (w : World) (hx : CnfV w v f) (hs : Steps w vs ss) :
    Calls Tryz.prog 77 #[v, vs] w (BoolE w (goodB f ss)) := by
  have HR := Lib.hid hRes
  clear hRes
  have hx0 := hx
  obtain ⟨cv, rfl, hl⟩ := hx
  obtain ⟨base, cap, rfl, hc1, hc2, hcell⟩ := hs.open
  clear hcell
  cases h : goodCnf f
  · go_enter Tryz.func77, Tryz.ntmps77
    go_wp2_with (go_at_call 105; refine (IsCnf_any _ f _ (hx0.ext (by repeat (first | exact Ext.refl _ | assumption | apply Ext.dn | apply Ext.drew | apply Ext.alloc)))).mono ?_; rw [h]; rintro e w2 ⟨rfl, he2⟩; obtain ⟨f0, f1, hE1⟩ := own2_cells he2)
    go_ret
    exact boolE (by simp [goodB, askedB, h]) hE1
  · by_cases h2 : ss.length ≤ 200
    · have h2' : (ss.length : Int) ≤ 200 := by omega
      go_enter Tryz.func77, Tryz.ntmps77
      go_wp2_with (first | (go_at_call 105; refine (IsCnf_any _ f _ (hx0.ext (by repeat (first | exact Ext.refl _ | assumption | apply Ext.dn | apply Ext.drew | apply Ext.alloc)))).mono ?_; rw [h]; rintro e w2 ⟨rfl, he2⟩; obtain ⟨f0, f1, hE1⟩ := own2_cells he2) | (go_at_call 106; refine (firstWrong_of HR.out _ _ f ss _ (hx0.ext hE1) (hs.ext hE1)).mono ?_; rintro e w3 ⟨rfl, he3⟩))
      go_ret
      exact boolE (by simp [goodB, askedB, h, h2, ← wrong_neg]) (hE1.trans he3)
    · have h2' : ¬ (ss.length : Int) ≤ 200 := by omega
      go_enter Tryz.func77, Tryz.ntmps77
      go_wp2_with (first | (go_at_call 105; refine (IsCnf_any _ f _ (hx0.ext (by repeat (first | exact Ext.refl _ | assumption | apply Ext.dn | apply Ext.drew | apply Ext.alloc)))).mono ?_; rw [h]; rintro e w2 ⟨rfl, he2⟩; obtain ⟨f0, f1, hE1⟩ := own2_cells he2))
      go_ret
      exact boolE (by simp [goodB, askedB, h, h2]) hE1

set_option maxHeartbeats 1000000 in
theorem isProof_of (hRes : ResolveSaid) (v vs : Value) (f : CNF) (ss : List RS) (w : World) (hx : CnfV w v f) (hs : Steps w vs ss) :
    Calls Tryz.prog 39 #[v, vs] w (BoolE w (takesB f ss)) := by
  have HR := Lib.hid hRes
  clear hRes
  have hx0 := hx
  obtain ⟨cv, rfl, hl⟩ := hx
  obtain ⟨base, cap, rfl, hc1, hc2, hcell⟩ := hs.open
  clear hcell
  cases h : goodB f ss
  · go_enter Tryz.func39, Tryz.ntmps39
    go_wp2_with (go_at_call 77; refine (IsDerivation_of HR.out _ _ f ss _ (hx0.ext (by repeat (first | exact Ext.refl _ | assumption | apply Ext.dn | apply Ext.drew | apply Ext.alloc))) (hs.ext (by repeat (first | exact Ext.refl _ | assumption | apply Ext.dn | apply Ext.drew | apply Ext.alloc)))).mono ?_; rw [h]; rintro e w2 ⟨rfl, he2⟩)
    go_ret
    exact boolE (by simp [takesB, h]) (Ext.trans (by repeat (first | exact Ext.refl _ | assumption | apply Ext.dn | apply Ext.drew | apply Ext.alloc)) he2)
  · go_enter Tryz.func39, Tryz.ntmps39
    go_wp2_with (go_at_call 77; refine (IsDerivation_of HR.out _ _ f ss _ (hx0.ext (by repeat (first | exact Ext.refl _ | assumption | apply Ext.dn | apply Ext.drew | apply Ext.alloc))) (hs.ext (by repeat (first | exact Ext.refl _ | assumption | apply Ext.dn | apply Ext.drew | apply Ext.alloc)))).mono ?_; rw [h]; rintro e w2 ⟨rfl, he2⟩)
    go_ret
    refine boolE ?_ (Ext.trans (by repeat (first | exact Ext.refl _ | assumption | apply Ext.dn | apply Ext.drew | apply Ext.alloc)) he2)
    have : ((0 : Int) < (ss.length : Int)) ↔ 0 < ss.length := by omega
    simp [takesB, h, this]

set_option maxHeartbeats 400000 in
theorem last_any (v : Value) (xs : List Int) (x : Int) (w : World) (hx : Ints w v xs) (hn : 0 < xs.length) (hl : xs[xs.length - 1]? = some x) :
    Calls Tryz.prog 40 #[v] w fun e w' => e = .returned (.int .i64 x) ∧ w = w' := by
  obtain ⟨base, cap, rfl, hc1, hc2, hcell⟩ := hx.open
  obtain ⟨b, off, rfl, hb, hcs⟩ := hcell (xs.length - 1) (by omega)
  obtain ⟨y, hxk, hci⟩ := hcs (xs.length - 1) (by omega)
  replace hci := hci w (.refl _)
  obtain rfl : y = x := by rw [hl] at hxk; injection hxk with h; exact h.symm
  clear hcell hcs hxk hx hl
  go_enter Tryz.func40, Tryz.ntmps40
  go_wp2
  go_ret
  exact ⟨rfl, rfl⟩
end Go.Proofs.YtfnjhodologfeaaGreat
