/- Parts of the proof: D18. l7Uses, l7Needed -/
import Derived.Test.YtfnjhodologfeaaGreatG31
set_option linter.unusedSimpArgs false
set_option linter.unusedVariables false
/- l7Uses, l7Needed -/
namespace Go.Proofs.YtfnjhodologfeaaGreat
open Go.RowKit

theorem own1_at {w : World} {o : Obj} (x : Int) : OwnI ((w.alloc o).alloc (.cells #[.int .i64 x] 3)) w.heap.size (.slice (some ⟨w.heap.size + 1, 0, none⟩) 1 1) [x] := by
  have h : OwnI ((w.alloc o).alloc (.cells #[.int .i64 x] 3)) w.heap.size (.slice (some ⟨(w.alloc o).heap.size, 0, none⟩) 1 1) [x] := World.ownsRow_lit (w.alloc o) _ 1 (by simp) (by simp [maxLen]) rfl
  rw [World.size_alloc] at h
  exact h
theorem own2_at {w : World} {o : Obj} (x y : Int) : OwnI ((w.alloc o).alloc (.cells #[.int .i64 x, .int .i64 y] 3)) w.heap.size (.slice (some ⟨w.heap.size + 1, 0, none⟩) 2 2) [x, y] := by
  have h : OwnI ((w.alloc o).alloc (.cells #[.int .i64 x, .int .i64 y] 3)) w.heap.size (.slice (some ⟨(w.alloc o).heap.size, 0, none⟩) 2 2) [x, y] := World.ownsRow_lit (w.alloc o) _ 2 (by simp) (by simp [maxLen]) rfl
  rw [World.size_alloc] at h
  exact h
theorem own0_at {w : World} {o : Obj} : OwnI ((w.alloc o).alloc (.cells #[] 3)) w.heap.size (.slice (some ⟨w.heap.size + 1, 0, none⟩) 0 0) [] := by
  have h : OwnI ((w.alloc o).alloc (.cells #[] 3)) w.heap.size (.slice (some ⟨(w.alloc o).heap.size, 0, none⟩) 0 0) [] := World.ownsRow_lit (w.alloc o) _ 0 (by simp) (by simp [maxLen]) rfl
  rw [World.size_alloc] at h
  exact h
def uses7 (s : RS) : List Int := if s.left = -1 then [] else if s.right = -1 then [s.left] else [s.left, s.right]
set_option maxHeartbeats 1000000 in
theorem l7Uses_any (v : Value) (s : RS) (w : World) (hv : StepV w v s) :
    Calls Tryz.prog 181 #[v] w (NewI w (uses7 s)) := by
  obtain ⟨ub, uc, rfl, hi⟩ := hv.open
  by_cases h1 : s.left = -1
  · have hu : uses7 s = [] := by simp [uses7, h1]
    rw [hu]
    go_enter Tryz.func181, Tryz.ntmps181
    go_wp2
    go_ret
    exact ⟨_, rfl, own0_at, (by repeat (first | exact Ext.refl _ | assumption | apply Ext.dn | apply Ext.drew | apply Ext.alloc))⟩
  · have h1' : (s.left == -1) = false := by simpa using h1
    by_cases h2 : s.right = -1
    · have hu : uses7 s = [s.left] := by simp [uses7, h1, h2]
      rw [hu]
      go_enter Tryz.func181, Tryz.ntmps181
      go_wp2
      go_ret
      exact ⟨_, rfl, own1_at _, (by repeat (first | exact Ext.refl _ | assumption | apply Ext.dn | apply Ext.drew | apply Ext.alloc))⟩
    · have h2' : (s.right == -1) = false := by simpa using h2
      have hu : uses7 s = [s.left, s.right] := by simp [uses7, h1, h2]
      rw [hu]
      go_enter Tryz.func181, Tryz.ntmps181
      go_wp2
      go_ret
      exact ⟨_, rfl, own2_at _ _, (by repeat (first | exact Ext.refl _ | assumption | apply Ext.dn | apply Ext.drew | apply Ext.alloc))⟩

/-- the premises of steps lie ahead -/
def Pre7 (ss : List RS) : Prop := ∀ (k : Nat) (s : RS), ss[k]? = some s → ∀ x ∈ uses7 s, 0 ≤ x ∧ x < (k : Int)
set_option maxRecDepth 100000 in
set_option maxHeartbeats 4000000 in
theorem l7Needed_any (vs : Value) (ss : List RS) (w : World) (hs : Steps w vs ss) (hpre : Pre7 ss) (hlen : ss.length ≤ 100000) :
    Calls Tryz.prog 168 #[vs] w fun e w' => ∃ r, e = .returned r ∧ ∃ bs : List Bool, bs.length = ss.length ∧ OwnB w' w.heap.size r bs ∧ Ext w w' := by
  obtain ⟨base, cap, rfl, hc1, hc2, hcell⟩ := hs.open
  have HPRE := Lib.hid hpre
  clear hpre
  go_enter Tryz.func168, Tryz.ntmps168
  go_wp2_with (refine wpList_makeB rfl _ _ rfl ss.length rfl rfl (by omega) ?_; intro w1 ho1 hE1)
  go_loopw [4, 5, 6] (fun k u i wr => ∃ (q : Int) (bs : List Bool), k = .int .i64 q ∧ -1 ≤ q ∧ q < ss.length ∧ bs.length = ss.length ∧ OwnB wr w.heap.size (.slice (some ⟨w.heap.size, 0, none⟩) ss.length ss.length) bs ∧ Ext w wr) (fun k _ _ _ => (intOf k + 1).toNat)
  case atStart => exact ⟨(ss.length : Int) - 1, _, rfl, by omega, by omega, by simp, ho1, hE1⟩
  case round =>
    obtain ⟨q, bs, rfl, hq0, hq1, hbl, hob, hE⟩ := hrel
    by_cases hqn : 0 ≤ q
    · obtain ⟨qi, rfl⟩ := Int.eq_ofNat_of_zero_le hqn
      have hql : qi < ss.length := by omega
      obtain ⟨b, off, rfl, hbl2, hcs⟩ := hcell qi hql
      obtain ⟨s, u, hsk, hci⟩ := hcs qi hql
      obtain ⟨hu0, hu1, hu2, hu3, huI⟩ := hci _ hE
      obtain ⟨ub, uc, rfl, _, _, _⟩ := huI.open
      have hcI : ∀ w', Ext w w' → Ints w' (.slice ub s.clause.length uc) s.clause := fun w' h => (hci w' h).2.2.2.2
      have hci0 : ∀ w', Ext w w' → w'.cell? ⟨b, off + qi * 4, none⟩ = some (.slice ub s.clause.length uc) := fun w' h => (hci w' h).1
      have hci1 : ∀ w', Ext w w' → w'.cell? ⟨b, off + qi * 4 + 1, none⟩ = some (.int .i64 s.left) := fun w' h => (hci w' h).2.1
      have hci2 : ∀ w', Ext w w' → w'.cell? ⟨b, off + qi * 4 + 2, none⟩ = some (.int .i64 s.right) := fun w' h => (hci w' h).2.2.1
      have hci3 : ∀ w', Ext w w' → w'.cell? ⟨b, off + qi * 4 + 3, none⟩ = some (.int .i64 s.pivot) := fun w' h => (hci w' h).2.2.2.1
      have HUS := Lib.hid (HPRE.out qi s hsk)
      have hneb : b ≠ w.heap.size := by omega
      obtain ⟨LU, hLU⟩ : ∃ LU, uses7 s = LU := ⟨_, rfl⟩
      have HLU := Lib.hid hLU
      rw [hLU] at HUS
      clear hci hcs hcell hsk hLU hu0 hu1 hu2 hu3
      by_cases hlast : (qi : Int) = (ss.length : Int) - 1
      · have hl2 : ((qi : Int) == (ss.length : Int) - 1) = true := by simpa using hlast
        clear hlast
        obtain ⟨db0, db1⟩ := hob.at hbl.symm (List.getElem?_eq_getElem (show qi < bs.length by omega))
        have hEk : Ext w (wr.setCell ⟨w.heap.size, qi, none⟩ (.bool true)) := hE.setCell (Nat.le_refl _) _
        have hobk := hob.set hbl.symm qi true
        have hblk : (bs.set qi true).length = ss.length := by simp [hbl]
        have k0 := hci0 _ hEk
        have k1 := hci1 _ hEk
        have k2 := hci2 _ hEk
        have k3 := hci3 _ hEk
        go_wp2_with (go_at_call 181; refine (l7Uses_any _ s _ ⟨_, rfl, (hcI _ hEk)⟩).mono ?_; rw [HLU.out]; rintro e w2 ⟨r2, rfl, ho2, he2⟩; obtain ⟨rb, rc, rfl, _, _, _⟩ := ho2.ints.open)
        have hE2 : Ext w w2 := hEk.trans he2
        have hob2 := OwnB.ext hobk he2
        go_loopw [6] (fun i w5 => ∃ (j : Nat) (bs5 : List Bool), i = .int .i64 j ∧ j ≤ LU.length ∧ bs5.length = ss.length ∧ OwnB w5 w.heap.size (.slice (some ⟨w.heap.size, 0, none⟩) ss.length ss.length) bs5 ∧ Ext w w5 ∧ Ints w5 (.slice rb LU.length rc) LU) (fun i _ => LU.length - (intOf i).toNat)
        case atStart => exact ⟨0, _, rfl, Nat.zero_le _, hblk, hob2, hE2, ho2.ints⟩
        case round =>
          obtain ⟨j, bs5, rfl, hj, hbl5, hob5, hE5, hI5⟩ := hrel
          by_cases hjl : j < LU.length
          · have hq5 : bs5[qi]? = some (bs5[qi]'(by omega)) := List.getElem?_eq_getElem (by omega)
            obtain ⟨d0, d1⟩ := hob5.at hbl5.symm hq5
            obtain ⟨_, _, e, _, _, hlc⟩ := hI5.open
            injection e with e1 _ e3
            subst e1; subst e3
            obtain ⟨b6, off6, rfl, _, hl6⟩ := hlc j hjl
            obtain ⟨x, hx, hxc⟩ := hl6 j hjl
            have hx0 := hxc _ (.refl _)
            obtain ⟨hxp, hxq⟩ := HUS.out x (List.mem_of_getElem? hx)
            obtain ⟨xi, rfl⟩ := Int.eq_ofNat_of_zero_le hxp
            have hxl : xi < ss.length := by omega
            obtain ⟨d2, d3⟩ := hob5.at hbl5.symm (List.getElem?_eq_getElem (show xi < bs5.length by omega))
            clear hlc hl6 hxc hx hq5
            cases hbq : bs5[qi]'(by omega)
            · rw [hbq] at d0
              go_wp2
              exact ⟨⟨(qi : Int) - 1, bs5, rfl, by omega, by omega, hbl5, hob5, hE5⟩, by first | (simp [intOf]; done) | (simp [intOf]; omega)⟩
            · rw [hbq] at d0
              go_wp2
              have hg5 := grown_set wr w.heap.size xi (.bool true)
              exact ⟨⟨j + 1, bs5.set xi true, rfl, hjl, by simp [hbl5], hob5.set hbl5.symm xi true, hE5.setCell (Nat.le_refl _) _, hI5.turned hg5 (fun k hk => by injection hk with hk; subst hk; obtain ⟨cur, fz, h5⟩ := ownsRow_type hob5 _ rfl; exact ⟨cur, fz, _, h5, by decide⟩)⟩, by simp [intOf]; omega⟩
          · go_wp2
            exact ⟨⟨(qi : Int) - 1, bs5, rfl, by omega, by omega, hbl5, hob5, hE5⟩, by first | (simp [intOf]; done) | (simp [intOf]; omega)⟩
      · have hl2 : ((qi : Int) == (ss.length : Int) - 1) = false := by simpa using hlast
        clear hlast
        have hEk := hE
        have hobk := hob
        have hblk := hbl
        have k0 := hci0 _ hEk
        have k1 := hci1 _ hEk
        have k2 := hci2 _ hEk
        have k3 := hci3 _ hEk
        go_wp2_with (go_at_call 181; refine (l7Uses_any _ s _ ⟨_, rfl, (hcI _ hEk)⟩).mono ?_; rw [HLU.out]; rintro e w2 ⟨r2, rfl, ho2, he2⟩; obtain ⟨rb, rc, rfl, _, _, _⟩ := ho2.ints.open)
        have hE2 : Ext w w2 := hEk.trans he2
        have hob2 := OwnB.ext hobk he2
        go_loopw [6] (fun i w5 => ∃ (j : Nat) (bs5 : List Bool), i = .int .i64 j ∧ j ≤ LU.length ∧ bs5.length = ss.length ∧ OwnB w5 w.heap.size (.slice (some ⟨w.heap.size, 0, none⟩) ss.length ss.length) bs5 ∧ Ext w w5 ∧ Ints w5 (.slice rb LU.length rc) LU) (fun i _ => LU.length - (intOf i).toNat)
        case atStart => exact ⟨0, _, rfl, Nat.zero_le _, hblk, hob2, hE2, ho2.ints⟩
        case round =>
          obtain ⟨j, bs5, rfl, hj, hbl5, hob5, hE5, hI5⟩ := hrel
          by_cases hjl : j < LU.length
          · have hq5 : bs5[qi]? = some (bs5[qi]'(by omega)) := List.getElem?_eq_getElem (by omega)
            obtain ⟨d0, d1⟩ := hob5.at hbl5.symm hq5
            obtain ⟨_, _, e, _, _, hlc⟩ := hI5.open
            injection e with e1 _ e3
            subst e1; subst e3
            obtain ⟨b6, off6, rfl, _, hl6⟩ := hlc j hjl
            obtain ⟨x, hx, hxc⟩ := hl6 j hjl
            have hx0 := hxc _ (.refl _)
            obtain ⟨hxp, hxq⟩ := HUS.out x (List.mem_of_getElem? hx)
            obtain ⟨xi, rfl⟩ := Int.eq_ofNat_of_zero_le hxp
            have hxl : xi < ss.length := by omega
            obtain ⟨d2, d3⟩ := hob5.at hbl5.symm (List.getElem?_eq_getElem (show xi < bs5.length by omega))
            clear hlc hl6 hxc hx hq5
            cases hbq : bs5[qi]'(by omega)
            · rw [hbq] at d0
              go_wp2
              exact ⟨⟨(qi : Int) - 1, bs5, rfl, by omega, by omega, hbl5, hob5, hE5⟩, by first | (simp [intOf]; done) | (simp [intOf]; omega)⟩
            · rw [hbq] at d0
              go_wp2
              have hg5 := grown_set wr w.heap.size xi (.bool true)
              exact ⟨⟨j + 1, bs5.set xi true, rfl, hjl, by simp [hbl5], hob5.set hbl5.symm xi true, hE5.setCell (Nat.le_refl _) _, hI5.turned hg5 (fun k hk => by injection hk with hk; subst hk; obtain ⟨cur, fz, h5⟩ := ownsRow_type hob5 _ rfl; exact ⟨cur, fz, _, h5, by decide⟩)⟩, by simp [intOf]; omega⟩
          · go_wp2
            exact ⟨⟨(qi : Int) - 1, bs5, rfl, by omega, by omega, hbl5, hob5, hE5⟩, by first | (simp [intOf]; done) | (simp [intOf]; omega)⟩
    · go_wp2
      go_ret
      exact ⟨_, rfl, bs, hbl, hob, hE⟩
end Go.Proofs.YtfnjhodologfeaaGreat
