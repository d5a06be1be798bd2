/- Parts of the proof: D20, D21. -/
import Derived.Test.YtfnjhodologfeaaGreatG34
import Derived.Deep.RegionHeld3
import Derived.Deep.DeepCutAuto
import Derived.Deep.CutRange
set_option linter.unusedSimpArgs false
set_option linter.unusedVariables false
/- l7Trim -/
namespace Go.Proofs.YtfnjhodologfeaaGreat
open Go.RowKit

theorem OwnB.form {w : World} {B : Nat} {v : Value} {xs : List Bool} (h : OwnB w B v xs) : (v = .slice none 0 0 ∧ xs = []) ∨ ∃ g cap, v = .slice (some ⟨g, 0, none⟩) xs.length cap ∧ xs.length ≤ cap ∧ cap ≤ 9223372036854775807 ∧ B ≤ g ∧ g < w.heap.size := by
  have hb := World.ownsRow.lt h
  rcases h.2 with ⟨rfl, h0⟩ | ⟨g, cap, cur, rfl, h1, h2, h3, h4, _⟩
  · left
    exact ⟨rfl, List.eq_nil_of_length_eq_zero h0⟩
  · right
    obtain ⟨b1, b2⟩ := hb g rfl
    exact ⟨g, cap, rfl, h3, by simpa [maxLen] using h4, b1, b2⟩
theorem moved_ax (tp : List Int) (s : RS) : axB (movedS tp s) = true → axB s = true ∨ axB s = false := fun _ => by cases axB s <;> simp
theorem nx_moved (tp : List Int) (s : RS) : nx [movedS tp s] ≤ nx [s] := by
  unfold nx
  simp only [List.countP_cons, List.countP_nil]
  cases ha : axB s
  · simp; split <;> omega
  · have : axB (movedS tp s) = true := by
      simp only [axB, decide_eq_true_eq] at ha ⊢
      simp only [movedS]
      rw [if_neg (by omega)]
      exact ha
    simp [this]
theorem nx_take {ss : List RS} {k : Nat} {s : RS} (h : ss[k]? = some s) : nx (ss.take (k + 1)) = nx (ss.take k) + nx [s] := by
  rw [take_succ_at h, nx_append]
theorem nx_take_le (ss : List RS) (k : Nat) : nx (ss.take k) ≤ nx ss := by
  have := nx_append (ss.take k) (ss.drop k)
  rw [List.take_append_drop] at this
  omega
theorem ty_ne {w : World} {B1 e1 s1 n1 B2 e2 s2 n2 g : Nat} {v1 v2 : Value} {xs1 xs2 : List Value} (h1 : w.ownsRow B1 e1 s1 v1 n1 xs1) (h2 : w.ownsRow B2 e2 s2 v2 n2 xs2) (hne : e1 ≠ e2) (hg : v2.ownBlock = some g) : v1.ownBlock ≠ some g := fun e => by
  obtain ⟨cur, fz, e3⟩ := ownsRow_type h1 _ e
  obtain ⟨cur', fz', e4⟩ := ownsRow_type h2 _ hg
  rw [e3] at e4
  injection e4 with e4
  injection e4 with _ e5 _
  exact hne e5
theorem beside_ty {w w' : World} {B1 e1 s1 n1 B2 e2 s2 n2 : Nat} {v1 v2 : Value} {xs1 xs2 : List Value} (h1 : w.ownsRow B1 e1 s1 v1 n1 xs1) (h2 : w.ownsRow B2 e2 s2 v2 n2 xs2) (hne : e2 ≠ e1) (hg : w.grownBy w' v2.ownBlock) : w'.ownsRow B1 e1 s1 v1 n1 xs1 := by
  refine World.ownsRow.kept h1 hg ?_
  cases hv : v1.ownBlock with
  | none => exact .inl rfl
  | some g => exact .inr fun e => ty_ne h2 h1 hne hv e.symm
theorem ext_size {a b : World} (h : Ext a b) : a.heap.size ≤ b.heap.size := h.size
theorem OwnB.openN {w : World} {B : Nat} {v : Value} {xs : List Bool} {n : Nat} (h : OwnB w B v xs) (hn : xs.length = n) : ∃ base cap, v = .slice base n cap ∧ n ≤ cap ∧ cap ≤ 9223372036854775807 ∧ (0 < n → ∃ g, base = some ⟨g, 0, none⟩) := by
  subst hn
  rcases h.form with ⟨rfl, rfl⟩ | ⟨g, cap, rfl, h1, h2, _⟩
  · exact ⟨none, 0, rfl, Nat.le_refl _, by omega, fun h => absurd h (by simp)⟩
  · exact ⟨_, cap, rfl, h1, h2, fun _ => ⟨g, rfl⟩⟩
theorem mkrow {mk : World → World} {W : World} {n : Nat} {l : List Int} (h : OwnI (mk W) W.heap.size (.slice (some ⟨W.heap.size, 0, none⟩) n n) l) {g : Nat} (e : W.heap.size = g) : OwnI (mk W) g (.slice (some ⟨g, 0, none⟩) n n) l := e ▸ h
set_option maxRecDepth 100000 in
set_option maxHeartbeats 4000000 in
theorem l7Trim_any (vs : Value) (ss : List RS) (n : Int) (w : World) (hs : Steps w vs ss) (hpre : Pre7 ss) (hok : ∀ s ∈ ss, OkC n s.clause) (hn : n ≤ 12) (hlen : ss.length ≤ 1000) :
    Calls Tryz.prog 143 #[vs] w fun e w' => ∃ r, e = .returned r ∧ ∃ out, OwnS w' w.heap.size r out ∧ out.length ≤ ss.length ∧ nx out ≤ nx ss ∧ (∀ s ∈ out, OkC n s.clause) ∧ Ext w w' := by
  obtain ⟨base, cap, rfl, hc1, hc2, hcell⟩ := hs.open
  have HPRE := Lib.hid hpre
  have HOK := Lib.hid hok
  clear hpre hok
  go_enter Tryz.func143, Tryz.ntmps143
  have hmk0 : ∀ W : World, ∃ W' : World, (Instr.makeSlice 33 (.int .i64 ss.length) (.int .i64 ss.length)).run Tryz.prog W = .ok (.slice (some ⟨W.heap.size, 0, none⟩) ss.length ss.length) W' ∧ OwnI W' W.heap.size (.slice (some ⟨W.heap.size, 0, none⟩) ss.length ss.length) (List.replicate ss.length 0) ∧ Ext W W' := fun W => run_makeI W ss.length (by omega)
  obtain ⟨mk, hmk⟩ := Classical.axiomOfChoice hmk0
  have HMK := Lib.hid (fun W => (hmk W).2)
  have hmk1 := fun W => (hmk W).1
  clear hmk0 hmk
  go_upto_region 1 with fail
  go_cut [3, 4, 5] (fun a b c wx => OwnS wx w.heap.size a [] ∧ (∃ (bs : List Bool) (bb : Option Addr) (bc : Nat), b = .slice bb ss.length bc ∧ bs.length = ss.length ∧ ss.length ≤ bc ∧ bc ≤ 9223372036854775807 ∧ (0 < ss.length → ∃ gb, bb = some ⟨gb, 0, none⟩) ∧ OwnB wx w.heap.size b bs) ∧ (∃ g, c = .slice (some ⟨g, 0, none⟩) ss.length ss.length ∧ OwnI wx w.heap.size c (List.replicate ss.length 0)) ∧ Ext w wx)
  case first =>
    go_region_held3 (fun _ => True) (trivial)
      ((go_simp; go_at_call 168; refine (l7Needed_any _ ss _ (hs.ext (by repeat (first | exact Ext.refl _ | assumption | apply Ext.dn | apply Ext.drew | apply Ext.alloc | refine Ext.trans ?_ he2 | refine Ext.trans ?_ (HMK.out _).2))) HPRE.out (by omega)).mono ?_; rintro e w2 ⟨r2, rfl, bs, hbl, hob, he2⟩))
    all_goals
      go_wp2_with fail
      go_meet
      obtain ⟨bb, bc, rfl, hbc1, hbc2, hbc3⟩ := hob.openN hbl
      refine ⟨?_, ⟨bs, bb, bc, rfl, hbl, hbc1, hbc2, hbc3, OwnB.ext (own_mono hob (ext_size (show Ext w _ from (by repeat (first | exact Ext.refl _ | assumption | apply Ext.dn | apply Ext.drew | apply Ext.alloc | refine Ext.trans ?_ he2 | refine Ext.trans ?_ (HMK.out _).2))))) (by repeat (first | exact Ext.refl _ | assumption | apply Ext.dn | apply Ext.drew | apply Ext.alloc | refine Ext.trans ?_ he2 | refine Ext.trans ?_ (HMK.out _).2))⟩, ?_, (by repeat (first | exact Ext.refl _ | assumption | apply Ext.dn | apply Ext.drew | apply Ext.alloc | refine Ext.trans ?_ he2 | refine Ext.trans ?_ (HMK.out _).2))⟩
      · first
          | exact (OwnS.empty w _ (Nat.le_refl _)).ext (by repeat (first | exact Ext.refl _ | assumption | apply Ext.dn | apply Ext.drew | apply Ext.alloc | refine Ext.trans ?_ he2 | refine Ext.trans ?_ (HMK.out _).2))
          | exact (OwnS.empty w2 _ (ext_size (show Ext w _ from (by repeat (first | exact Ext.refl _ | assumption | apply Ext.dn | apply Ext.drew | apply Ext.alloc | refine Ext.trans ?_ he2 | refine Ext.trans ?_ (HMK.out _).2))))).ext (by repeat (first | exact Ext.refl _ | assumption | apply Ext.dn | apply Ext.drew | apply Ext.alloc | refine Ext.trans ?_ he2 | refine Ext.trans ?_ (HMK.out _).2))
          | exact (OwnS.empty (mk w2) _ (ext_size (show Ext w _ from (by repeat (first | exact Ext.refl _ | assumption | apply Ext.dn | apply Ext.drew | apply Ext.alloc | refine Ext.trans ?_ he2 | refine Ext.trans ?_ (HMK.out _).2))))).ext (by repeat (first | exact Ext.refl _ | assumption | apply Ext.dn | apply Ext.drew | apply Ext.alloc | refine Ext.trans ?_ he2 | refine Ext.trans ?_ (HMK.out _).2))
          | exact (OwnS.empty (mk w.drew) _ (ext_size (show Ext w _ from (by repeat (first | exact Ext.refl _ | assumption | apply Ext.dn | apply Ext.drew | apply Ext.alloc | refine Ext.trans ?_ he2 | refine Ext.trans ?_ (HMK.out _).2))))).ext (by repeat (first | exact Ext.refl _ | assumption | apply Ext.dn | apply Ext.drew | apply Ext.alloc | refine Ext.trans ?_ he2 | refine Ext.trans ?_ (HMK.out _).2))
      · first
          | exact ⟨_, rfl, OwnI.ext (OwnI.mono (mkrow (HMK.out w2).1 rfl) (ext_size (show Ext w w2 from (by repeat (first | exact Ext.refl _ | assumption | apply Ext.dn | apply Ext.drew | apply Ext.alloc | refine Ext.trans ?_ he2 | refine Ext.trans ?_ (HMK.out _).2))))) (by repeat (first | exact Ext.refl _ | assumption | apply Ext.dn | apply Ext.drew | apply Ext.alloc | refine Ext.trans ?_ he2 | refine Ext.trans ?_ (HMK.out _).2))⟩
          | exact ⟨_, rfl, OwnI.ext (OwnI.mono (mkrow (g := w.heap.size + 1) (HMK.out ((w.alloc (.cells #[] 40)).drew)).1 (by simp)) (by omega)) (by repeat (first | exact Ext.refl _ | assumption | apply Ext.dn | apply Ext.drew | apply Ext.alloc | refine Ext.trans ?_ he2 | refine Ext.trans ?_ (HMK.out _).2))⟩
          | exact ⟨_, rfl, OwnI.ext (OwnI.mono (mkrow (g := w2.heap.size + 1) (HMK.out (w2.alloc (.cells #[] 40))).1 (by simp)) (by have := ext_size (show Ext w w2 from (by repeat (first | exact Ext.refl _ | assumption | apply Ext.dn | apply Ext.drew | apply Ext.alloc | refine Ext.trans ?_ he2 | refine Ext.trans ?_ (HMK.out _).2))); omega)) (by repeat (first | exact Ext.refl _ | assumption | apply Ext.dn | apply Ext.drew | apply Ext.alloc | refine Ext.trans ?_ he2 | refine Ext.trans ?_ (HMK.out _).2))⟩
          | exact ⟨_, rfl, OwnI.ext (OwnI.mono (mkrow (g := w.heap.size) (HMK.out w.drew).1 rfl) (Nat.le_refl _)) (by repeat (first | exact Ext.refl _ | assumption | apply Ext.dn | apply Ext.drew | apply Ext.alloc | refine Ext.trans ?_ he2 | refine Ext.trans ?_ (HMK.out _).2))⟩
  case rest =>
    obtain ⟨ho0, ⟨bs, bb, bc, rfl, hbl, hbc1, hbc2, hbc3, hob0⟩, ⟨gt, rfl, hto0⟩, hE0⟩ := hcut
    clear hmk1 HMK
    have ho0' := OwnSG.empty gt ho0
    go_wp2
    go_loopw [3, 6] (fun o i wr => ∃ (k : Nat) (out : List RS) (tp : List Int), i = .int .i64 k ∧ k ≤ ss.length ∧ OwnSG gt wr w.heap.size o out ∧ OwnB wr w.heap.size (.slice bb ss.length bc) bs ∧ OwnI wr w.heap.size (.slice (some ⟨gt, 0, none⟩) ss.length ss.length) tp ∧ tp.length = ss.length ∧ out.length ≤ k ∧ nx out ≤ nx (ss.take k) ∧ (∀ s ∈ out, OkC n s.clause) ∧ Ext w wr) (fun _ i _ => ss.length - (intOf i).toNat)
    case atStart => exact ⟨0, [], _, rfl, Nat.zero_le _, ho0', hob0, hto0, by simp, by simp, by simp [nx], by simp, hE0⟩
    case round =>
      obtain ⟨k, out, tp, rfl, hk, ho, hob, hto, htl, hol, hnx, hokO, hE⟩ := hrel
      have HOO := Lib.hid hokO
      clear hokO
      obtain ⟨ob, oc, rfl, hoc1, hoc2⟩ := ho.own.form
      by_cases hlt : k < ss.length
      · obtain ⟨gb, rfl⟩ := hbc3 (by omega)
        obtain ⟨d0, d1⟩ := hob.at hbl.symm (List.getElem?_eq_getElem (show k < bs.length by omega))
        obtain ⟨d2, d3⟩ := hto.at htl.symm (List.getElem?_eq_getElem (show k < tp.length by omega))
        have hgt := hto.base
        obtain ⟨b, off, rfl, hbl2, hcs⟩ := hcell k hlt
        obtain ⟨s, u, hsk, hci⟩ := hcs k hlt
        have hNX := Lib.hid (nx_take hsk)
        have HP := Lib.hid (HPRE.out k s hsk)
        have hoks := Lib.hid (HOK.out s (List.mem_of_getElem? hsk))
        have hcl := (HOK.out s (List.mem_of_getElem? hsk)).len hn
        cases hbk : bs[k]'(by omega)
        · rw [hbk] at d0
          clear hbk hsk hcs hcell
          go_wp2
          exact ⟨⟨k + 1, out, tp, rfl, hlt, ho, hob, hto, htl, by omega, by have := hNX.out; omega, HOO.out, hE⟩, by simp [intOf]; omega⟩
        · rw [hbk] at d0
          clear hbk hsk hcs hcell
          have hE5 : Ext w (wr.setCell ⟨gt, k, none⟩ (.int .i64 out.length)) := hE.setCell (p := ⟨gt, k, none⟩) hgt.1 _
          have hto5 := hto.set htl.symm k (out.length : Int)
          have hneo : (Value.slice ob out.length oc).ownBlock ≠ some gt := by
            obtain ⟨cvs, _, h2, _⟩ := ho
            exact ty_ne h2 hto (by decide) rfl
          have hneb : (Value.slice (some ⟨gb, 0, none⟩) ss.length bc).ownBlock ≠ some gt := ty_ne hob hto (by decide) rfl
          have ho5 := ho.set hneo k (.int .i64 out.length)
          have hob5 : OwnB (wr.setCell ⟨gt, k, none⟩ (.int .i64 out.length)) w.heap.size (.slice (some ⟨gb, 0, none⟩) ss.length bc) bs := World.ownsRow.kept hob (grown_set wr gt k _) (.inr hneb)
          obtain ⟨c0, c1, c2, c3, cI⟩ := hci _ hE5
          obtain ⟨ub, uc, rfl, _, _, _⟩ := cI.open
          have hsz5 : (wr.setCell ⟨gt, k, none⟩ (.int .i64 out.length)).heap.size = wr.heap.size := by simp
          have htl5 : (tp.set k (out.length : Int)).length = ss.length := by simp [htl]
          generalize tp.set k (out.length : Int) = tq at hto5 htl5
          go_wp2_with (first
            | (go_at_call 169; refine (l7Moved_any _ _ s tq _ ⟨_, rfl, cI⟩ hto5.ints (by omega) (fun h => by have := HP.out s.left (by unfold uses7; rw [if_neg (by omega)]; split <;> simp); omega) (fun h h' => by have := HP.out s.right (by unfold uses7; rw [if_neg (by omega), if_neg (by omega)]; simp); omega)).mono ?_; rintro e w6 ⟨mb, mc, rfl, hI6, hE6, hfr⟩; have hfr6 : (Value.slice mb s.clause.length mc).ownBlock ≠ some gt := (fun e => by have := hfr gt e; omega); have ho6 := ho5.ext hE6; have hob6 := OwnB.ext hob5 hE6; have hto6 := hto5.ext hE6; have hs6 := hE6.size)
            | (at_builtin; refine wpList_appSG rfl _ _ rfl gt w.heap.size _ _ out [movedS tq s] rfl rfl (ho6.ext (by repeat (first | exact Ext.refl _ | assumption | apply Ext.dn | apply Ext.drew | apply Ext.alloc))) (steps_oneG (s := movedS tq s) hI6 hfr6) (by simp; omega) (by have := hE.size; simp; omega) ?_; intro v' w7 ho7 hg7 _))
          obtain ⟨cvs, _, hrow, _⟩ := ho6.ext ((Ext.refl w6).alloc (.cells #[.slice mb s.clause.length mc, .int .i64 (movedS tq s).left, .int .i64 (movedS tq s).right, .int .i64 s.pivot] 40))
          refine ⟨⟨k + 1, out ++ [movedS tq s], tq, by go_num, hlt, ho7, beside_ty (OwnB.ext hob6 (by repeat (first | exact Ext.refl _ | assumption | apply Ext.dn | apply Ext.drew | apply Ext.alloc))) hrow (by decide) hg7, beside_ty (OwnI.ext hto6 (by repeat (first | exact Ext.refl _ | assumption | apply Ext.dn | apply Ext.drew | apply Ext.alloc))) hrow (by decide) hg7, htl5, by simp; omega, ?_, ?_, ?_⟩, by simp [intOf]; omega⟩
          · rw [nx_append, hNX.out]
            have := nx_moved tq s
            omega
          · intro t ht
            rcases List.mem_append.1 ht with ht | ht
            · exact HOO.out t ht
            · simp at ht; subst ht; exact hoks.out
          · exact ext_grown ((hE5.trans hE6).alloc _) (ho6.own.ext (by repeat (first | exact Ext.refl _ | assumption | apply Ext.dn | apply Ext.drew | apply Ext.alloc))) (Nat.le_refl _) hg7
      · go_wp2
        go_ret
        have h1 := nx_take_le ss k
        exact ⟨_, rfl, out, ho.own, by omega, by omega, HOO.out, hE⟩
end Go.Proofs.YtfnjhodologfeaaGreat
/- l7Saturate -/
namespace Go.Proofs.YtfnjhodologfeaaGreat
open Go.RowKit

/-- all pairs ahead of (i, k) were tried with all variables -/
def DoneI (ss : List RS) (n : Int) (i : Nat) : Prop := ∀ (i' k' : Nat) (v : Int), i' < i → k' < i' → 1 ≤ v → v ≤ n → Tried ss i' k' v
def DoneK (ss : List RS) (n : Int) (i k : Nat) : Prop := ∀ (k' : Nat) (v : Int), k' < k → 1 ≤ v → v ≤ n → Tried ss i k' v
def DoneV (ss : List RS) (i k : Nat) (v : Int) : Prop := ∀ v' : Int, 1 ≤ v' → v' < v → Tried ss i k v'
/-- the state of the saturation -/
structure SatS (f : CNF) (cl0 : List (List Int)) (i k : Nat) (v : Int) (ss : List RS) : Prop where
  sat : ∃ D, SatR f cl0 ss D
  di : DoneI ss f.vars i
  dk : DoneK ss f.vars i k
  dv : DoneV ss i k v
theorem SatS.push {f : CNF} {cl0 ext : List (List Int)} {i k : Nat} {v : Int} {ss : List RS} (h : SatS f cl0 i k v ss) (he : f.clauses = cl0 ++ ext) (hi : i < ss.length) (hk : k < i) (hv1 : 1 ≤ v) (hv2 : v ≤ f.vars)
    {a b : RS} (ha : ss[i]? = some a) (hb : ss[k]? = some b) {l r : Nat} {c : List Int} (hc : tryC a.clause b.clause v = some c) (hl : l < ss.length) (hr : r < ss.length) (hlr : (l = i ∧ r = k) ∨ (l = k ∧ r = i)) {sl sr : RS} (hsl : ss[l]? = some sl) (hsr : ss[r]? = some sr) (hres : resolveL sl.clause sr.clause v = some c)
    (hno : ∀ t ∈ ss, subB t.clause c = false) : SatS f cl0 i k (v + 1) (ss ++ [⟨c, l, r, v⟩]) := by
  obtain ⟨⟨D, hD⟩, h1, h2, h3⟩ := h
  have hokc : OkC f.vars c := resolveL_ok (hD.ok _ (List.mem_of_getElem? hsl)) (hD.ok _ (List.mem_of_getElem? hsr)) hres
  have hkind : KindC f.vars cl0 c := by
    by_cases hi0 : i < cl0.length
    · refine hD.kind_new he (i := l) (k := r) (by omega) (by omega) hsl hsr hv1 hv2 hres
    · exact hD.kind_old he (fun i' k' v' e1 e2 e3 e4 => h1 i' k' v' (by omega) e2 e3 e4) hno
  refine ⟨⟨_, hD.push (s := ⟨c, l, r, v⟩) hokc ⟨by simp, by simp; omega⟩ ⟨by simp, by simp; omega⟩ hno hkind⟩, ?_, ?_, ?_⟩
  · intro i' k' v' e1 e2 e3 e4
    exact (h1 i' k' v' e1 e2 e3 e4).push (by omega) (by omega) _
  · intro k' v' e1 e2 e3
    exact (h2 k' v' e1 e2 e3).push hi (by omega) _
  · intro v' e1 e2
    by_cases e : v' < v
    · exact (h3 v' e1 e).push hi (by omega) _
    · obtain rfl : v' = v := by omega
      intro a' b' c' ha' hb' hc'
      rw [List.getElem?_append_left hi, ha] at ha'
      injection ha' with ha'
      subst ha'
      rw [List.getElem?_append_left (by omega), hb] at hb'
      injection hb' with hb'
      subst hb'
      rw [hc] at hc'
      injection hc' with hc'
      subst hc'
      exact ⟨⟨c, l, r, v'⟩, by simp, subB_refl _⟩
theorem SatS.skip {f : CNF} {cl0 : List (List Int)} {i k : Nat} {v : Int} {ss : List RS} (h : SatS f cl0 i k v ss) (ht : Tried ss i k v) : SatS f cl0 i k (v + 1) ss := by
  refine ⟨h.sat, h.di, h.dk, ?_⟩
  intro v' e1 e2
  by_cases e : v' < v
  · exact h.dv v' e1 e
  · obtain rfl : v' = v := by omega
    exact ht
theorem SatS.nextK {f : CNF} {cl0 : List (List Int)} {i k : Nat} {v : Int} {ss : List RS} (h : SatS f cl0 i k v ss) (hv : f.vars < v) : SatS f cl0 i (k + 1) 1 ss := by
  refine ⟨h.sat, h.di, ?_, fun v' e1 e2 => by omega⟩
  intro k' v' e1 e2 e3
  by_cases e : k' < k
  · exact h.dk k' v' e e2 e3
  · obtain rfl : k' = k := by omega
    exact h.dv v' e2 (by omega)
theorem SatS.nextI {f : CNF} {cl0 : List (List Int)} {i k : Nat} {v : Int} {ss : List RS} (h : SatS f cl0 i k v ss) (hk : i ≤ k) : SatS f cl0 (i + 1) 0 1 ss := by
  refine ⟨h.sat, ?_, fun k' v' e1 => by omega, fun v' e1 e2 => by omega⟩
  intro i' k' v' e1 e2 e3 e4
  by_cases e : i' < i
  · exact h.di i' k' v' e e2 e3 e4
  · obtain rfl : i' = i := by omega
    exact h.dk k' v' (by omega) e3 e4
theorem SatS.start {f : CNF} {cl0 : List (List Int)} (hg : ∀ c ∈ f.clauses, OkC f.vars c) : SatS f cl0 0 0 1 (axTo f.clauses f.clauses.length) :=
  ⟨⟨[], SatR.start cl0 hg⟩, fun i' k' v' e1 => by omega, fun k' v' e1 => by omega, fun v' e1 e2 => by omega⟩
theorem SatS.bound {f : CNF} {cl0 : List (List Int)} {i k : Nat} {v : Int} {ss : List RS} (h : SatS f cl0 i k v ss) (hp : SatP f cl0) : ss.length ≤ 39 ∧ nx ss ≤ 27 ∧ Pre7 ss ∧ ∀ s ∈ ss, OkC f.vars s.clause := by
  obtain ⟨⟨D, hD⟩, _⟩ := h
  have h1 := hD.few hp
  have h2 := hD.len
  have h3 := hD.nx
  have h4 := hp.2.2.1
  exact ⟨by omega, by omega, hD.pre, hD.ok⟩
theorem tried_none {ss : List RS} {i k : Nat} {v : Int} {a b : RS} (ha : ss[i]? = some a) (hb : ss[k]? = some b) (h : tryC a.clause b.clause v = none) : Tried ss i k v := by
  intro a' b' c ha' hb' hc
  rw [ha] at ha'; injection ha' with ha'; subst ha'
  rw [hb] at hb'; injection hb' with hb'; subst hb'
  rw [h] at hc
  cases hc
theorem tried_sub {ss : List RS} {i k : Nat} {v : Int} {a b : RS} (ha : ss[i]? = some a) (hb : ss[k]? = some b) {c : List Int} (h : tryC a.clause b.clause v = some c) (hs : ∃ t ∈ ss, subB t.clause c = true) : Tried ss i k v := by
  intro a' b' c' ha' hb' hc
  rw [ha] at ha'; injection ha' with ha'; subst ha'
  rw [hb] at hb'; injection hb' with hb'; subst hb'
  rw [h] at hc
  injection hc with hc
  subst hc
  exact hs
end Go.Proofs.YtfnjhodologfeaaGreat
