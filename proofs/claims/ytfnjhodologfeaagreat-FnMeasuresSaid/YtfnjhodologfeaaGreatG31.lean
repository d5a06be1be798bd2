/- Parts of the proof: D17. derivation -/
import Derived.Test.YtfnjhodologfeaaGreatG29
import Derived.Test.YtfnjhodologfeaaGreatG30
set_option linter.unusedSimpArgs false
set_option linter.unusedVariables false
/- derivation -/
namespace Go.Proofs.YtfnjhodologfeaaGreat
open Go.RowKit

/-- steps that derivation draws -/
def DerP (n : Int) (ss : List RS) : Prop := ss.length ≤ 20 ∧ ∀ s ∈ ss, OkC n s.clause
theorem DerP.push {n : Int} {ss : List RS} (h : DerP n ss) {s : RS} (hs : OkC n s.clause) (hl : ss.length < 20) : DerP n (ss ++ [s]) :=
  ⟨by simp; omega, fun t ht => by rcases List.mem_append.1 ht with ht | ht; exact h.2 t ht; simp at ht; subst ht; exact hs⟩
theorem ints_seven (w : World) (a b c d e f g : Int) : Ints (w.alloc (.cells #[.int .i64 a, .int .i64 b, .int .i64 c, .int .i64 d, .int .i64 e, .int .i64 f, .int .i64 g] 3)) (.slice (some ⟨w.heap.size, 0, none⟩) 7 7) [a, b, c, d, e, f, g] :=
  ⟨rfl, _, _, rfl, Nat.le_refl _, by decide, .inr ⟨_, _, rfl, _, _, heap_alloc_new w _, fun j hj => by
    have : j < 7 := by simpa using hj
    match j, this with
    | 0, _ => rfl
    | 1, _ => rfl
    | 2, _ => rfl
    | 3, _ => rfl
    | 4, _ => rfl
    | 5, _ => rfl
    | 6, _ => rfl⟩⟩
theorem Dr.cnf {g m : Nat} {w0 w : World} (h : Dr g m w0 w) (hc : Cur w0 g 0 ∨ ∃ m, Cur w0 g m) {v : Value} {f : CNF} (hx : CnfV w0 v f) : CnfV w v f := by
  rcases hc with hc | ⟨m', hc⟩
  · exact hc.cnf h.keep hx
  · exact hc.cnf h.keep hx

set_option maxRecDepth 100000 in
set_option maxHeartbeats 4000000 in
theorem derivation_any (g m : Nat) (w : World) (v : Value) (f : CNF) (hc : Cur w g m) (hm : m ≤ 100000) (hx : CnfV w v f) :
    Calls Tryz.prog 85 #[.pointer (some ⟨g, 0, none⟩), v] w fun e w' => ∃ r, e = .returned r ∧ ∃ ss, OwnS w' w.heap.size r ss ∧ DerP f.vars ss ∧ (ss ≠ [] → f.vars ≤ 12) ∧ Dr g (m + 1000) w w' := by
  obtain ⟨cv, rfl, hls⟩ := hx
  have hls0 := hls
  obtain ⟨base, cap, rfl, hc1, hc2, hcell⟩ := hls.open
  clear hls hcell
  obtain ⟨wB, hwB⟩ : ∃ wB, w.alloc (.cells #[.int .i64 f.vars, .slice base f.clauses.length cap] 26) = wB := ⟨_, rfl⟩
  have hEB : Ext w wB := by rw [← hwB]; exact (by repeat (first | exact Ext.refl _ | assumption | apply Ext.dn | apply Ext.drew | apply Ext.alloc))
  have hcB : Cur wB g m := hc.ext hEB
  have hB : CBlk wB w.heap.size f.vars (.slice base f.clauses.length cap) := by rw [← hwB]; exact CBlk.made _ _ _
  have hszB : wB.heap.size = w.heap.size + 1 := by rw [← hwB]; simp
  have hlsB := hls0.ext hEB
  have hgl := hc.lt
  obtain ⟨p0, p1⟩ := hB.cells
  have hO0 : OwnS (wB.alloc (.cells #[] 40)) wB.heap.size (.slice (some ⟨w.heap.size + 1, 0, none⟩) 0 0) [] := by
    have h := OwnS.empty wB wB.heap.size (Nat.le_refl _)
    rw [show (⟨wB.heap.size, 0, none⟩ : Addr) = ⟨w.heap.size + 1, 0, none⟩ by rw [hszB]] at h
    exact h
  have hwle : w.heap.size ≤ wB.heap.size := by omega
  have hDB : Dr g m w wB := (Dr.start hc).ext hEB
  cases hg : goodCnf f
  · go_enter Tryz.func85, Tryz.ntmps85
    go_wp2_with (first | (simp only [hwB]; (go_at_call 111; refine (l2Good_any _ f _ ⟨_, rfl, hlsB.ext (by repeat (first | exact Ext.refl _ | assumption | apply Ext.dn | apply Ext.drew | apply Ext.alloc))⟩).mono ?_; rw [hg]; rintro e w1 ⟨rfl, hE1⟩)) | (go_at_call 111; refine (l2Good_any _ f _ ⟨_, rfl, hlsB.ext (by repeat (first | exact Ext.refl _ | assumption | apply Ext.dn | apply Ext.drew | apply Ext.alloc))⟩).mono ?_; rw [hg]; rintro e w1 ⟨rfl, hE1⟩))
    go_ret
    exact ⟨_, rfl, [], (hO0.ext hE1).mono hwle, ⟨by simp, by simp⟩, by simp, ((hDB.ext (by repeat (first | exact Ext.refl _ | assumption | apply Ext.dn | apply Ext.drew | apply Ext.alloc))).ext hE1).mono (by omega)⟩
  · have hnv : 0 ≤ f.vars ∧ f.vars ≤ 12 := by simp only [goodCnf, Bool.and_eq_true] at hg; have := hg.1.1; simp [inB] at this; omega
    have hgl60 : f.clauses.length ≤ 60 := by simp only [goodCnf, Bool.and_eq_true, decide_eq_true_eq] at hg; exact hg.1.2
    have HGA := Lib.hid (fun (k : Nat) (c : List Int) (hk : f.clauses[k]? = some c) => OkC.of (goodCnf_at hg hk))
    go_enter Tryz.func85, Tryz.ntmps85
    go_wp2_with (first
      | (simp only [hwB]; (go_at_call 111; refine (l2Good_any _ f _ ⟨_, rfl, hlsB.ext (by repeat (first | exact Ext.refl _ | assumption | apply Ext.dn | apply Ext.drew | apply Ext.alloc))⟩).mono ?_; rw [hg]; rintro e w1 ⟨rfl, hE1⟩); have hd1 := ((Dr.start hcB).ext (by repeat (first | exact Ext.refl _ | assumption | apply Ext.dn | apply Ext.drew | apply Ext.alloc))).ext hE1; have ho1 := hO0.ext hE1; obtain ⟨p0', p1'⟩ := (hB.ext (Ext.trans (by repeat (first | exact Ext.refl _ | assumption | apply Ext.dn | apply Ext.drew | apply Ext.alloc)) hE1)).cells; have hI7 := ints_seven w1 3 5 8 12 1 0 20)
      | ((go_at_call 111; refine (l2Good_any _ f _ ⟨_, rfl, hlsB.ext (by repeat (first | exact Ext.refl _ | assumption | apply Ext.dn | apply Ext.drew | apply Ext.alloc))⟩).mono ?_; rw [hg]; rintro e w1 ⟨rfl, hE1⟩); have hd1 := ((Dr.start hcB).ext (by repeat (first | exact Ext.refl _ | assumption | apply Ext.dn | apply Ext.drew | apply Ext.alloc))).ext hE1; have ho1 := hO0.ext hE1; obtain ⟨p0', p1'⟩ := (hB.ext (Ext.trans (by repeat (first | exact Ext.refl _ | assumption | apply Ext.dn | apply Ext.drew | apply Ext.alloc)) hE1)).cells; have hI7 := ints_seven w1 3 5 8 12 1 0 20)
      | (go_at_call 91; refine (among_any g m _ _ [3, 5, 8, 12, 1, 0, 20] (hd1.cur.ext (by repeat (first | exact Ext.refl _ | assumption | apply Ext.dn | apply Ext.drew | apply Ext.alloc))) (by omega) hI7 (by simp)).mono ?_; rintro e w2 ⟨x, rfl, hx, hk2, hc2⟩))
    · go_ret
      exact ⟨_, rfl, [], (hO0.ext hE1).mono hwle, ⟨by simp, by simp⟩, by simp, ((hDB.ext (by repeat (first | exact Ext.refl _ | assumption | apply Ext.dn | apply Ext.drew | apply Ext.alloc))).ext hE1).mono (by omega)⟩
    have hl0 : ¬ f.clauses.length = 0 := by
      have h : ((f.clauses.length : Int) == 0) = false := by assumption
      intro e
      rw [e] at h
      simp at h
    have hx20 : 0 ≤ x ∧ x ≤ 20 := by simp at hx; omega
    have hglB : g < wB.heap.size := by omega
    have hd2 := (hd1.ext (by repeat (first | exact Ext.refl _ | assumption | apply Ext.dn | apply Ext.drew | apply Ext.alloc))).draw hk2 hc2
    have ho2 := (ho1.ext (by repeat (first | exact Ext.refl _ | assumption | apply Ext.dn | apply Ext.drew | apply Ext.alloc))).keep (hd1.cur.ext (by repeat (first | exact Ext.refl _ | assumption | apply Ext.dn | apply Ext.drew | apply Ext.alloc))) hk2 hglB
    go_loopw [5, 6, 7, 8, 9, 10, 11, 12] (fun o i a7 a8 a9 a10 a11 a12 wr => ∃ (p : Int) (ss : List RS), i = .int .i64 p ∧ 0 ≤ p ∧ ss.length + p ≤ 20 ∧ OwnS wr wB.heap.size o ss ∧ DerP f.vars ss ∧ Dr g (m + 2 + 40 * (20 - p).toNat) wB wr) (fun _ i _ _ _ _ _ _ _ => (intOf i).toNat)
    case atStart => exact ⟨x, [], rfl, hx20.1, by simp; omega, ho2, ⟨by simp, by simp⟩, hd2.mono (by omega)⟩
    case round =>
      obtain ⟨p, ss, rfl, hp0, hp2, ho, hder, hdr⟩ := hrel
      have HDER := Lib.hid hder
      clear hder
      obtain ⟨M, hM⟩ : ∃ M, m + 2 + 40 * (20 - p).toNat = M := ⟨_, rfl⟩
      have hMb : M ≤ 200000 := by omega
      rw [hM] at hdr
      obtain ⟨ob, oc, rfl, hoc1, hoc2⟩ := ho.form
      have hBr := hB.grown hdr.keep (fun e => by injection e with e; omega)
      obtain ⟨c0, c1⟩ := hBr.cells
      by_cases hp : p > 0
      · have hsl : ss.length ≤ 19 := by omega
        go_wp2_with (first
          | (go_at_call 86; refine (one_any g (M + 2 + 2) _ _ (hdr4.cur.ext (by repeat (first | exact Ext.refl _ | assumption | apply Ext.dn | apply Ext.drew | apply Ext.alloc))) (by omega)).mono ?_; rintro e w5 ⟨b5, rfl, hk5, hc5⟩; have hdr5 := (hdr4.ext (by repeat (first | exact Ext.refl _ | assumption | apply Ext.dn | apply Ext.drew | apply Ext.alloc))).draw hk5 hc5; have ho5 := (ho4.ext (by repeat (first | exact Ext.refl _ | assumption | apply Ext.dn | apply Ext.drew | apply Ext.alloc))).keep (hdr4.cur.ext (by repeat (first | exact Ext.refl _ | assumption | apply Ext.dn | apply Ext.drew | apply Ext.alloc))) hk5 hglB; have hB5 := hB.grown hdr5.keep (fun e => by injection e with e; omega); obtain ⟨c50, c51⟩ := hB5.cells)
          | (go_at_call 89; refine (pick_any g (M + 2) _ _ (hdr3.cur.ext (by repeat (first | exact Ext.refl _ | assumption | apply Ext.dn | apply Ext.drew | apply Ext.alloc))) (by omega)).mono ?_; rintro e w4 ⟨z, rfl, hz0, hz1, hk4, hc4⟩; have hdr4 := (hdr3.ext (by repeat (first | exact Ext.refl _ | assumption | apply Ext.dn | apply Ext.drew | apply Ext.alloc))).draw hk4 hc4; have ho4 := (ho3.ext (by repeat (first | exact Ext.refl _ | assumption | apply Ext.dn | apply Ext.drew | apply Ext.alloc))).keep (hdr3.cur.ext (by repeat (first | exact Ext.refl _ | assumption | apply Ext.dn | apply Ext.drew | apply Ext.alloc))) hk4 hglB)
          | (go_at_call 86; refine (one_any g M _ _ (hdr.cur.ext (by repeat (first | exact Ext.refl _ | assumption | apply Ext.dn | apply Ext.drew | apply Ext.alloc))) (by omega)).mono ?_; rintro e w3 ⟨b3, rfl, hk3, hc3⟩; have hdr3 := (hdr.ext (by repeat (first | exact Ext.refl _ | assumption | apply Ext.dn | apply Ext.drew | apply Ext.alloc))).draw hk3 hc3; have ho3 := (ho.ext (by repeat (first | exact Ext.refl _ | assumption | apply Ext.dn | apply Ext.drew | apply Ext.alloc))).keep (hdr.cur.ext (by repeat (first | exact Ext.refl _ | assumption | apply Ext.dn | apply Ext.drew | apply Ext.alloc))) hk3 hglB; have hB3 := hB.grown hdr3.keep (fun e => by injection e with e; omega); obtain ⟨c30, c31⟩ := hB3.cells))
        · go_region_law (first | (refine step_appS rfl (.tmp 38) (.tmp 46) rfl wB.heap.size _ _ ss [⟨c9, -1, kz, 0⟩] rfl rfl (ho9.ext (by repeat (first | exact Ext.refl _ | assumption | apply Ext.dn | apply Ext.drew | apply Ext.alloc))) (steps_one (s := ⟨c9, -1, kz, 0⟩) hx9.ints) (by simp; omega) (by have := hdr9.size; simp; omega) ?_; intro v' w10 ho10 hg10 _; have hdr10 := (hdr9.ext (by repeat (first | exact Ext.refl _ | assumption | apply Ext.dn | apply Ext.drew | apply Ext.alloc))).appS (ho9.ext (by repeat (first | exact Ext.refl _ | assumption | apply Ext.dn | apply Ext.drew | apply Ext.alloc))) (Nat.le_refl _) hg10) | (go_simp; go_at_call 112; obtain ⟨c9, hc9⟩ : ∃ c, f.clauses[kz]? = some c := ⟨_, List.getElem?_eq_getElem (show kz < f.clauses.length by omega)⟩; have hok9 := HGA.out kz c9 hc9; have hl9 := hok9.len (by omega); refine (l7Axiom_any _ f kz c9 _ ⟨_, rfl, (hcB.lists hdr8.keep hlsB)⟩ hc9 (by omega)).mono ?_; rintro e w9 ⟨xb, xc, rfl, hx9, he9⟩; have hdr9 := hdr8.ext he9; have ho9 := ho8.ext he9) | (go_simp; go_at_call 89; refine (pick_any g (M + 2) _ _ (hdr3.cur.ext (by repeat (first | exact Ext.refl _ | assumption | apply Ext.dn | apply Ext.drew | apply Ext.alloc))) (by omega)).mono ?_; rintro e w8 ⟨kzi, rfl, hkz0, hkz1, hk8, hc8⟩; obtain ⟨kz, rfl⟩ := Int.eq_ofNat_of_zero_le hkz0; have hdr8 := (hdr3.ext (by repeat (first | exact Ext.refl _ | assumption | apply Ext.dn | apply Ext.drew | apply Ext.alloc))).draw hk8 hc8; have ho8 := (ho3.ext (by repeat (first | exact Ext.refl _ | assumption | apply Ext.dn | apply Ext.drew | apply Ext.alloc))).keep (hdr3.cur.ext (by repeat (first | exact Ext.refl _ | assumption | apply Ext.dn | apply Ext.drew | apply Ext.alloc))) hk8 hglB; have hB8 := hB.grown hdr8.keep (fun e => by injection e with e; omega); obtain ⟨c80, c81⟩ := hB8.cells; have hkzl : kz < f.clauses.length := (by omega); have cA80 := (fun o => (hB8.ext ((Ext.refl w8).alloc o)).cells.1); have cA81 := (fun o => (hB8.ext ((Ext.refl w8).alloc o)).cells.2)))
          all_goals
            go_wp2
            exact ⟨⟨p - 1, ss ++ [⟨c9, -1, kz, 0⟩], rfl, by omega, by simp; omega, ho10, HDER.out.push hok9 (by omega), hdr10.mono (by omega)⟩, by simp [intOf]; omega⟩
        · have hz : 0 ≤ z ∧ z < ss.length := by omega
          obtain ⟨zi, rfl⟩ := Int.eq_ofNat_of_zero_le hz.1
          have hzl : zi < ss.length := by omega
          obtain ⟨_, _, e5, _, _, hcell5⟩ := ho5.steps.open
          injection e5 with e51 _ e53
          subst e51
          subst e53
          obtain ⟨sb, so, rfl, hsb, hst5⟩ := hcell5 zi hzl
          obtain ⟨s5, u5', hs5, hc5'⟩ := hst5 zi hzl
          have hcA : ∀ w', Ext w5 w' → w'.cell? ⟨sb, so + zi * 4, none⟩ = some u5' := fun w' h => (hc5' w' h).1
          have hcI : ∀ w', Ext w5 w' → Ints w' u5' s5.clause := fun w' h => (hc5' w' h).2.2.2.2
          obtain ⟨ub, uc, rfl, _, _, _⟩ := (hcI w5 (.refl _)).open
          have hcA0 := hcA w5 (.refl _)
          have hok5 := HDER.out.2 s5 (List.mem_of_getElem? hs5)
          have hl5 := hok5.len (by omega)
          have hbd5 := hok5.bd (by omega)
          have hneg : sb ≠ g := by
            obtain ⟨cvs5, _, h52, _⟩ := ho5
            have := (h52.lt sb rfl).1
            omega
          have HOK5 := Lib.hid hok5
          have HBD5 := Lib.hid hbd5
          clear hst5 hcell5 hc5' hs5 hok5 hbd5
          go_region_law (first
            | (go_simp; go_at_call 113; refine (l2Join_any _ _ s5.clause c6 _ hI6 (ho6.ints) (by omega) (by omega) HBD5.out (hok6.bd (by omega))).mono ?_; rintro e w7 ⟨r7, rfl, ho7, he7⟩; have hdr7 := hdr6.ext he7; have hoS7 := hoS6.ext he7; obtain ⟨rb, rc, rfl, _, _, _⟩ := ho7.ints.open)
            | (go_simp; go_at_call 110; refine (cclause_any g (M + 2 + 2 + 2) _ _ (hdr5.cur.ext (by repeat (first | exact Ext.refl _ | assumption | apply Ext.dn | apply Ext.drew | apply Ext.alloc))) (by omega) (by omega)).mono ?_; rintro e w6 ⟨r6, rfl, c6, ho6, hok6, hlen6, hk6, hc6⟩; have hdr6 := (hdr5.ext (by repeat (first | exact Ext.refl _ | assumption | apply Ext.dn | apply Ext.drew | apply Ext.alloc))).draw hk6 hc6; have hoS6 := (ho5.ext (by repeat (first | exact Ext.refl _ | assumption | apply Ext.dn | apply Ext.drew | apply Ext.alloc))).keep (hdr5.cur.ext (by repeat (first | exact Ext.refl _ | assumption | apply Ext.dn | apply Ext.drew | apply Ext.alloc))) hk6 hglB; have hI6 := (hdr5.cur.ext ((Ext.refl w5).drew)).ints hk6 (hcI _ ((Ext.refl w5).drew)); have hcA6 := hk6.cell (p := ⟨sb, so + zi * 4, none⟩) (hcA _ ((Ext.refl w5).drew)) hneg; obtain ⟨xb, xc, rfl, _, _, _⟩ := ho6.ints.open))
          all_goals
            rcases hj : joinL s5.clause c6 with _ | cj
            all_goals simp only [hj, Option.isSome_none, Option.isSome_some, Option.getD_none, Option.getD_some, List.length_nil] at ho7 ⊢
            · go_wp2
              exact ⟨⟨p - 1, ss, rfl, by omega, by omega, hoS7, HDER.out, hdr7.mono (by omega)⟩, by simp [intOf]; omega⟩
            · have hokj := joinL_ok _ _ _ HOK5.out (fun x hx => hok6.1 x hx) hj
              clear hj
              go_wp2_with (at_builtin; refine wpList_appS rfl _ _ rfl wB.heap.size _ _ ss [⟨cj, zi, -1, 0⟩] rfl rfl (hoS7.ext (by repeat (first | exact Ext.refl _ | assumption | apply Ext.dn | apply Ext.drew | apply Ext.alloc))) (steps_one (s := ⟨cj, zi, -1, 0⟩) ho7.ints) (by simp; omega) (by have := hdr7.size; simp; omega) ?_; intro v' w10 ho10 hg10 _; have hdr10 := (hdr7.ext (by repeat (first | exact Ext.refl _ | assumption | apply Ext.dn | apply Ext.drew | apply Ext.alloc))).appS (hoS7.ext (by repeat (first | exact Ext.refl _ | assumption | apply Ext.dn | apply Ext.drew | apply Ext.alloc))) (Nat.le_refl _) hg10)
              exact ⟨⟨p - 1, ss ++ [⟨cj, zi, -1, 0⟩], rfl, by omega, by simp; omega, ho10, HDER.out.push hokj (by omega), hdr10.mono (by omega)⟩, by simp [intOf]; omega⟩
        · have hz : 0 ≤ z ∧ z < ss.length := by omega
          obtain ⟨zi, rfl⟩ := Int.eq_ofNat_of_zero_le hz.1
          have hzl : zi < ss.length := by omega
          obtain ⟨_, rfl⟩ : 2 ≤ (ss.length : Int) ∧ b3 = false := by assumption
          obtain rfl : b5 = false := by assumption
          go_loopw [5, 10, 11, 12] (fun o k a b wr' => ∃ (q : Int) (oc' : Nat), k = .int .i64 q ∧ -1 ≤ q ∧ q < ss.length ∧ o = .slice ob ss.length oc ∧ OwnS wr' wB.heap.size (.slice ob ss.length oc) ss ∧ Dr g (M + 2 + 2 + 2) wB wr') (fun _ k _ _ _ => (intOf k + 1).toNat)
          case atStart => exact ⟨(ss.length : Int) - 1, 0, rfl, by omega, by omega, rfl, ho5, hdr5⟩
          case round =>
            obtain ⟨q, _, rfl, hq0, hq1, rfl, hoq, hdrq⟩ := hrel
            by_cases hqn : 0 ≤ q
            · obtain ⟨qi, rfl⟩ := Int.eq_ofNat_of_zero_le hqn
              have hql : qi < ss.length := by omega
              go_wp2_with (first
                | (go_at_call 114; refine (l7Try_any _ ss zi qi f.vars _ hoq.steps hzl hql HDER.out.2 (by omega) (by omega)).mono ?_; rintro e w7 ⟨u7, l7, r7, p7, ok7, rfl, he7, b7, cp7, c7, rfl, ho7, hok7⟩; have hdr7 := hdrq.ext he7; have hoS7 := hoq.ext he7; have HOK7 := Lib.hid hok7; clear hok7; have hST : ∀ o, Steps ((w7.alloc o).alloc (.cells #[.slice b7 c7.length cp7, .int .i64 l7, .int .i64 r7, .int .i64 p7] 40)) (.slice (some ⟨w7.heap.size + 1, 0, none⟩) 1 1) [⟨c7, l7, r7, p7⟩] := (fun o => by have h := steps_one (w := w7.alloc o) (s := ⟨c7, l7, r7, p7⟩) (ho7.ints.ext (by repeat (first | exact Ext.refl _ | assumption | apply Ext.dn | apply Ext.drew | apply Ext.alloc))); rw [World.size_alloc] at h; exact h))
                | (at_builtin; refine wpList_appS rfl _ _ rfl wB.heap.size _ _ ss [⟨c7, l7, r7, p7⟩] rfl rfl (hoS7.ext (by repeat (first | exact Ext.refl _ | assumption | apply Ext.dn | apply Ext.drew | apply Ext.alloc))) (hST _) (by simp; omega) (by have := hdr7.size; simp; omega) ?_; intro v' w10 ho10 hg10 _; have hdr10 := (hdr7.ext (by repeat (first | exact Ext.refl _ | assumption | apply Ext.dn | apply Ext.drew | apply Ext.alloc))).appS (hoS7.ext (by repeat (first | exact Ext.refl _ | assumption | apply Ext.dn | apply Ext.drew | apply Ext.alloc))) (Nat.le_refl _) hg10))
              · have hok7 : ok7 = true := by assumption
                exact ⟨⟨p - 1, ss ++ [⟨c7, l7, r7, p7⟩], rfl, by omega, by simp; omega, ho10, HDER.out.push (HOK7.out hok7).1 (by omega), hdr10.mono (by omega)⟩, by simp [intOf]; omega⟩
              · go_roundw
                case rel => exact ⟨(qi : Int) - 1, 0, rfl, by omega, by omega, rfl, hoS7.ext (by repeat (first | exact Ext.refl _ | assumption | apply Ext.dn | apply Ext.drew | apply Ext.alloc)), hdr7.ext (by repeat (first | exact Ext.refl _ | assumption | apply Ext.dn | apply Ext.drew | apply Ext.alloc))⟩
                case measure => (simp [intOf])
            · go_wp2
              exact ⟨⟨p - 1, ss, rfl, by omega, by omega, hoq, HDER.out, hdrq.mono (by omega)⟩, by simp [intOf]; omega⟩
        · go_region_law (first | (refine step_appS rfl (.tmp 38) (.tmp 46) rfl wB.heap.size _ _ ss [⟨c9, -1, kz, 0⟩] rfl rfl (ho9.ext (by repeat (first | exact Ext.refl _ | assumption | apply Ext.dn | apply Ext.drew | apply Ext.alloc))) (steps_one (s := ⟨c9, -1, kz, 0⟩) hx9.ints) (by simp; omega) (by have := hdr9.size; simp; omega) ?_; intro v' w10 ho10 hg10 _; have hdr10 := (hdr9.ext (by repeat (first | exact Ext.refl _ | assumption | apply Ext.dn | apply Ext.drew | apply Ext.alloc))).appS (ho9.ext (by repeat (first | exact Ext.refl _ | assumption | apply Ext.dn | apply Ext.drew | apply Ext.alloc))) (Nat.le_refl _) hg10) | (go_simp; go_at_call 112; obtain ⟨c9, hc9⟩ : ∃ c, f.clauses[kz]? = some c := ⟨_, List.getElem?_eq_getElem (show kz < f.clauses.length by omega)⟩; have hok9 := HGA.out kz c9 hc9; have hl9 := hok9.len (by omega); refine (l7Axiom_any _ f kz c9 _ ⟨_, rfl, (hcB.lists hdr8.keep hlsB)⟩ hc9 (by omega)).mono ?_; rintro e w9 ⟨xb, xc, rfl, hx9, he9⟩; have hdr9 := hdr8.ext he9; have ho9 := ho8.ext he9) | (go_simp; go_at_call 89; refine (pick_any g M _ _ (hdr.cur.ext (by repeat (first | exact Ext.refl _ | assumption | apply Ext.dn | apply Ext.drew | apply Ext.alloc))) (by omega)).mono ?_; rintro e w8 ⟨kzi, rfl, hkz0, hkz1, hk8, hc8⟩; obtain ⟨kz, rfl⟩ := Int.eq_ofNat_of_zero_le hkz0; have hdr8 := (hdr.ext (by repeat (first | exact Ext.refl _ | assumption | apply Ext.dn | apply Ext.drew | apply Ext.alloc))).draw hk8 hc8; have ho8 := (ho.ext (by repeat (first | exact Ext.refl _ | assumption | apply Ext.dn | apply Ext.drew | apply Ext.alloc))).keep (hdr.cur.ext (by repeat (first | exact Ext.refl _ | assumption | apply Ext.dn | apply Ext.drew | apply Ext.alloc))) hk8 hglB; have hB8 := hB.grown hdr8.keep (fun e => by injection e with e; omega); obtain ⟨c80, c81⟩ := hB8.cells; have hkzl : kz < f.clauses.length := (by omega); have cA80 := (fun o => (hB8.ext ((Ext.refl w8).alloc o)).cells.1); have cA81 := (fun o => (hB8.ext ((Ext.refl w8).alloc o)).cells.2)))
          all_goals
            go_wp2
            exact ⟨⟨p - 1, ss ++ [⟨c9, -1, kz, 0⟩], rfl, by omega, by simp; omega, ho10, HDER.out.push hok9 (by omega), hdr10.mono (by omega)⟩, by simp [intOf]; omega⟩
      · go_wp2
        go_ret
        first
          | exact ⟨_, rfl, ss, ho.mono hwle, HDER.out, fun _ => hnv.2, (hDB.trans hdr).mono (by omega)⟩
          | exact ⟨_, rfl, ss, ho.mono hwle, HDER.out, (hDB.trans hdr).mono (by omega)⟩
end Go.Proofs.YtfnjhodologfeaaGreat
