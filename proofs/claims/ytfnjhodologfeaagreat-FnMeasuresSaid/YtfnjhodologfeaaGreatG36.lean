/- Parts of the proof: D22. l7Saturate: the walk -/
import Derived.Test.YtfnjhodologfeaaGreatG35
set_option linter.unusedSimpArgs false
set_option linter.unusedVariables false
/- l7Saturate: the walk -/
namespace Go.Proofs.YtfnjhodologfeaaGreat
open Go.RowKit

def SatE (f : CNF) (w : World) (e : Ending) (w' : World) : Prop := ∃ r, e = .returned r ∧ ∃ ss : List RS, OwnS w' w.heap.size r ss ∧ ss.length ≤ 40 ∧ nx ss ≤ 27 ∧ (∀ s ∈ ss, OkC f.vars s.clause) ∧ Ext w w'
set_option maxRecDepth 100000 in
set_option maxHeartbeats 8000000 in
theorem l7Saturate_any (v : Value) (f : CNF) (cl0 : List (List Int)) (w : World) (hx : CnfV w v f) (hg : goodCnf f = true) (hp : SatP f cl0) :
    Calls Tryz.prog 119 #[v, .int .i64 120] w (SatE f w) := by
  obtain ⟨cv, rfl, hls⟩ := hx
  obtain ⟨cb, cc, rfl, hcc1, hcc2, _⟩ := hls.open
  have HOKC := Lib.hid (fun (k : Nat) (c : List Int) (hk : f.clauses[k]? = some c) => OkC.of (goodCnf_at hg hk))
  have HP := Lib.hid hp
  have hv0 : 0 ≤ f.vars := hp.1
  have hv4 : f.vars ≤ 4 := hp.2.1
  have hn12 : f.clauses.length ≤ 12 := hp.2.2.1
  obtain ⟨ext, hext⟩ := hp.2.2.2.1
  have HEXT := Lib.hid hext
  clear hp hext
  obtain ⟨wA, hwA⟩ : ∃ wA, w.alloc (.cells #[.int .i64 f.vars, .slice cb f.clauses.length cc] 26) = wA := ⟨_, rfl⟩
  have hEA : Ext w wA := by rw [← hwA]; exact (by repeat (first | exact Ext.refl _ | assumption | apply Ext.dn | apply Ext.drew | apply Ext.alloc))
  have hB : CBlk wA w.heap.size f.vars (.slice cb f.clauses.length cc) := by rw [← hwA]; exact CBlk.made _ _ _
  have hszA : wA.heap.size = w.heap.size + 1 := by rw [← hwA]; simp
  have hlA := hls.ext hEA
  have hO0 : OwnS (wA.alloc (.cells #[] 40)) wA.heap.size (.slice (some ⟨w.heap.size + 1, 0, none⟩) 0 0) [] := by
    have h := OwnS.empty wA wA.heap.size (Nat.le_refl _)
    rw [show (⟨wA.heap.size, 0, none⟩ : Addr) = ⟨w.heap.size + 1, 0, none⟩ by rw [hszA]] at h
    exact h
  go_enter Tryz.func119, Tryz.ntmps119
  go_wp2
  go_loopw [5, 6] (fun o i wr => ∃ k : Nat, i = .int .i64 k ∧ k ≤ f.clauses.length ∧ OwnS wr wA.heap.size o (axTo f.clauses k) ∧ Ext wA wr) (fun _ i _ => f.clauses.length - (intOf i).toNat)
  case atStart => exact ⟨0, rfl, Nat.zero_le _, hO0, (by repeat (first | exact Ext.refl _ | assumption | apply Ext.dn | apply Ext.drew | apply Ext.alloc))⟩
  case round =>
    obtain ⟨k, rfl, hk, ho, hE⟩ := hrel
    obtain ⟨c0, c1⟩ := (hB.ext hE).cells
    by_cases hlt : k < f.clauses.length
    · have hck : f.clauses[k]? = some (f.clauses[k]'hlt) := List.getElem?_eq_getElem hlt
      have hokc := HOKC.out k _ hck
      have hlc := hokc.len (by omega)
      obtain ⟨c, hc⟩ : ∃ c, f.clauses[k]'hlt = c := ⟨_, rfl⟩
      have HAX := Lib.hid (show axTo f.clauses (k + 1) = axTo f.clauses k ++ [⟨c, -1, k, 0⟩] by rw [axTo, ← hc]; simp [List.getD, hlt])
      have hal := axTo_length f.clauses k
      rw [hc] at hck hlc
      have HCK := Lib.hid hck
      clear hck hc hokc
      generalize axTo f.clauses k = AX at ho HAX hal
      have HAL := Lib.hid hal
      clear hal
      go_wp2_with (first
        | (go_at_call 112; refine (l7Axiom_any _ f k c _ ⟨_, rfl, hlA.ext (hE.trans (by repeat (first | exact Ext.refl _ | assumption | apply Ext.dn | apply Ext.drew | apply Ext.alloc)))⟩ HCK.out (by omega)).mono ?_; rintro e w2 ⟨xb, xc, rfl, hx2, he2⟩; have hE2 := hE.trans he2; have ho2 := ho.ext he2)
        | (at_builtin; refine wpList_appS rfl _ _ rfl wA.heap.size _ _ AX [⟨c, -1, k, 0⟩] rfl rfl (ho2.ext (by repeat (first | exact Ext.refl _ | assumption | apply Ext.dn | apply Ext.drew | apply Ext.alloc))) (steps_one (s := ⟨c, -1, k, 0⟩) hx2.ints) (by have := HAL.out; simp; omega) (by have := hE2.size; simp; omega) ?_; intro v' w3 ho3 hg3 _))
      exact ⟨⟨k + 1, by go_num, hlt, by rw [HAX.out]; exact ho3, ext_grown (hE2.alloc _) (ho2.ext (by repeat (first | exact Ext.refl _ | assumption | apply Ext.dn | apply Ext.drew | apply Ext.alloc))) (Nat.le_refl _) hg3⟩, by simp [intOf]; omega⟩
    · obtain rfl : k = f.clauses.length := by omega
      have hS0 := Lib.hid (SatS.start (cl0 := cl0) (fun c hc => by
        obtain ⟨j, hj, rfl⟩ := List.mem_iff_getElem.1 hc
        exact HOKC.out j _ (List.getElem?_eq_getElem hj)))
      generalize axTo f.clauses f.clauses.length = AX at ho hS0
      clear hlt hk
      go_wp2
      go_loopw [5, 7, 8, 9, 10, 11, 12, 13, 14] (fun o i a8 a9 a10 a11 a12 a13 a14 wr => ∃ (k : Nat) (ss : List RS), i = .int .i64 k ∧ k ≤ ss.length ∧ OwnS wr wA.heap.size o ss ∧ SatS f cl0 k 0 1 ss ∧ Ext wA wr) (fun _ i _ _ _ _ _ _ _ _ => 100 - (intOf i).toNat)
      case atStart => exact ⟨0, AX, rfl, Nat.zero_le _, ho, hS0.out, hE⟩
      case round =>
        obtain ⟨i, ss, rfl, hi, ho, hS, hE⟩ := hrel
        have HS := Lib.hid hS
        obtain ⟨hl39, hnx27, hpre, hok⟩ := hS.bound HP.out
        have HPRE := Lib.hid hpre
        have HOK := Lib.hid hok
        clear hS hpre hok
        obtain ⟨ob, oc, rfl, hoc1, hoc2⟩ := ho.form
        by_cases hlt : i < ss.length
        · go_wp2
          go_loopw [5, 8, 9, 10, 11, 12, 13, 14] (fun o k a9 a10 a11 a12 a13 a14 wr => ∃ (k' : Nat) (ss : List RS), k = .int .i64 k' ∧ k' ≤ i ∧ i < ss.length ∧ OwnS wr wA.heap.size o ss ∧ SatS f cl0 i k' 1 ss ∧ Ext wA wr) (fun _ k _ _ _ _ _ _ _ => i - (intOf k).toNat)
          case atStart => exact ⟨0, ss, rfl, Nat.zero_le _, hlt, ho, HS.out, hE⟩
          case round =>
            obtain ⟨k, ss, rfl, hk, hil, ho, hS, hE⟩ := hrel
            have HS := Lib.hid hS
            obtain ⟨hl39, _, _, _⟩ := hS.bound HP.out
            have h120 : (ss.length : Int) < 120 := by omega
            clear hS
            obtain ⟨ob, oc, rfl, hoc1, hoc2⟩ := ho.form
            by_cases hki : k < i
            · go_wp2
              go_loopw [5, 9, 10, 11, 12, 13, 14] (fun o v a10 a11 a12 a13 a14 wr => ∃ (v' : Int) (ss : List RS), v = .int .i64 v' ∧ 1 ≤ v' ∧ v' ≤ f.vars + 1 ∧ i < ss.length ∧ OwnS wr wA.heap.size o ss ∧ SatS f cl0 i k v' ss ∧ Ext wA wr) (fun _ v _ _ _ _ _ _ => (f.vars + 1 - intOf v).toNat)
              case atStart => exact ⟨1, ss, rfl, by omega, by omega, hil, ho, HS.out, hE⟩
              case round =>
                obtain ⟨vv, ss, rfl, hv1, hv2, hil, ho, hS, hE⟩ := hrel
                have HS := Lib.hid hS
                obtain ⟨hl39, hnx27, hpre, hok⟩ := hS.bound HP.out
                have HPRE := Lib.hid hpre
                have HOK := Lib.hid hok
                clear hS hpre hok
                obtain ⟨ob, oc, rfl, hoc1, hoc2⟩ := ho.form
                obtain ⟨c0, c1⟩ := (hB.ext hE).cells
                by_cases hvv : vv ≤ f.vars
                · have hkl : k < ss.length := by omega
                  obtain ⟨_, _, eO, _, _, hcellO⟩ := ho.steps.open
                  injection eO with eO1 _ eO3
                  subst eO1
                  subst eO3
                  obtain ⟨sb, so, rfl, hsbl, hst⟩ := hcellO i hil
                  obtain ⟨a, ua, hsa, hca⟩ := hst i hil
                  obtain ⟨b, ub, hsb, hcb⟩ := hst k hkl
                  have hAC : ∀ w', Ext wr w' → w'.cell? ⟨sb, so + i * 4, none⟩ = some ua := fun w' h => (hca w' h).1
                  have hBC : ∀ w', Ext wr w' → w'.cell? ⟨sb, so + k * 4, none⟩ = some ub := fun w' h => (hcb w' h).1
                  have hAI : ∀ w', Ext wr w' → Ints w' ua a.clause := fun w' h => (hca w' h).2.2.2.2
                  have hBI : ∀ w', Ext wr w' → Ints w' ub b.clause := fun w' h => (hcb w' h).2.2.2.2
                  obtain ⟨uab, uac, rfl, _, _, _⟩ := (hAI wr (.refl _)).open
                  obtain ⟨ubb, ubc, rfl, _, _, _⟩ := (hBI wr (.refl _)).open
                  have hoa := HOK.out a (List.mem_of_getElem? hsa)
                  have hob := HOK.out b (List.mem_of_getElem? hsb)
                  have hla := hoa.len (by omega)
                  have hlb := hob.len (by omega)
                  have HBA := Lib.hid (hoa.bd (by omega))
                  have HBB := Lib.hid (hob.bd (by omega))
                  have HSA := Lib.hid hsa
                  have HSB := Lib.hid hsb
                  have hAC0 := hAC wr (.refl _)
                  have HCELLO := Lib.hid hst
                  clear hcellO hst hca hcb hsa hsb hoa hob
                  have hw64 : IntKind.i64.wrap (-vv) = -vv := IntWalk.i64_in _ ⟨by omega, by omega⟩
                  cases hh : hasB a.clause (-vv)
                  · have HH := Lib.hid hh
                    clear hh
                    have htry : tryC a.clause b.clause vv = resolveL a.clause b.clause vv := by unfold tryC; rw [HH.out]; rfl
                    have HTRY := Lib.hid htry
                    clear htry
                    rcases hres : resolveL a.clause b.clause vv with _ | c
                    · have HRES := Lib.hid hres
                      clear hres
                      go_wp2_with (go_at_call 137; refine (l2Has_any _ a.clause (-vv) _ (hAI _ (.refl _))).mono ?_; rw [HH.out]; rintro e w2 ⟨rfl, rfl⟩)
                      go_region_held3 (fun w' => w'.cell? ⟨sb, so + i * 4, none⟩ = some (.slice uab a.clause.length uac) ∧ w'.cell? ⟨sb, so + k * 4, none⟩ = some (.slice ubb b.clause.length ubc))
                        (first | exact ⟨hAC _ hE3, hBC _ hE3⟩ | exact ⟨hAC _ (by repeat (first | exact Ext.refl _ | assumption | apply Ext.dn | apply Ext.drew | apply Ext.alloc)), hBC _ (by repeat (first | exact Ext.refl _ | assumption | apply Ext.dn | apply Ext.drew | apply Ext.alloc))⟩)
                        ((go_simp; go_at_call 138; refine (l2Resolve_any _ _ a.clause b.clause vv _ (hAI _ (by repeat (first | exact Ext.refl _ | assumption | apply Ext.dn | apply Ext.drew | apply Ext.alloc))) (hBI _ (by repeat (first | exact Ext.refl _ | assumption | apply Ext.dn | apply Ext.drew | apply Ext.alloc))) (by omega) (by omega) HBA.out HBB.out (by omega) (by omega)).mono ?_; rw [HRES.out]; rintro e w3 ⟨r3, rfl, ho3, he3⟩; (try simp only [Option.getD_some] at ho3); have hE3 : Ext wr w3 := Ext.trans (by repeat (first | exact Ext.refl _ | assumption | apply Ext.dn | apply Ext.drew | apply Ext.alloc)) he3; obtain ⟨xb, xc, rfl, _, _, _⟩ := ho3.ints.open))
                      all_goals
                        go_wp2
                        go_loop [13, 14] (fun okv nv => okv = .bool false ∧ nv = .int .i64 0) (fun _ _ => 0)
                        case atStart => exact ⟨rfl, rfl⟩
                        case round =>
                          obtain ⟨rfl, rfl⟩ := hrel
                          go_wp2
                          exact ⟨⟨vv + 1, ss, rfl, by omega, by omega, hil, ho.ext hE3, HS.out.skip (tried_none HSA.out HSB.out (by rw [HTRY.out, HRES.out])), hE.trans hE3⟩, by simp [intOf]; omega⟩
                    · have HRES := Lib.hid hres
                      clear hres
                      go_wp2_with (go_at_call 137; refine (l2Has_any _ a.clause (-vv) _ (hAI _ (.refl _))).mono ?_; rw [HH.out]; rintro e w2 ⟨rfl, rfl⟩)
                      go_region_held3 (fun w' => w'.cell? ⟨sb, so + i * 4, none⟩ = some (.slice uab a.clause.length uac) ∧ w'.cell? ⟨sb, so + k * 4, none⟩ = some (.slice ubb b.clause.length ubc))
                        (first | exact ⟨hAC _ hE3, hBC _ hE3⟩ | exact ⟨hAC _ (by repeat (first | exact Ext.refl _ | assumption | apply Ext.dn | apply Ext.drew | apply Ext.alloc)), hBC _ (by repeat (first | exact Ext.refl _ | assumption | apply Ext.dn | apply Ext.drew | apply Ext.alloc))⟩)
                        ((go_simp; go_at_call 138; refine (l2Resolve_any _ _ a.clause b.clause vv _ (hAI _ (by repeat (first | exact Ext.refl _ | assumption | apply Ext.dn | apply Ext.drew | apply Ext.alloc))) (hBI _ (by repeat (first | exact Ext.refl _ | assumption | apply Ext.dn | apply Ext.drew | apply Ext.alloc))) (by omega) (by omega) HBA.out HBB.out (by omega) (by omega)).mono ?_; rw [HRES.out]; rintro e w3 ⟨r3, rfl, ho3, he3⟩; (try simp only [Option.getD_some] at ho3); have hE3 : Ext wr w3 := Ext.trans (by repeat (first | exact Ext.refl _ | assumption | apply Ext.dn | apply Ext.drew | apply Ext.alloc)) he3; obtain ⟨xb, xc, rfl, _, _, _⟩ := ho3.ints.open))
                      all_goals
                        go_wp2
                        go_loop [13, 14] (fun okv nv => ∃ (q : Nat) (bb : Bool), nv = .int .i64 q ∧ okv = .bool bb ∧ q ≤ ss.length ∧ (bb = true → ∀ t ∈ ss.take q, subB t.clause c = false) ∧ (bb = false → ∃ t ∈ ss, subB t.clause c = true)) (fun _ nv => ss.length - (intOf nv).toNat)
                        case atStart => exact ⟨0, true, rfl, rfl, Nat.zero_le _, by simp, by simp⟩
                        case round =>
                          obtain ⟨q, bb, rfl, rfl, hq, hb1, hb2⟩ := hrel
                          have HB1 := Lib.hid hb1
                          have HB2 := Lib.hid hb2
                          clear hb1 hb2
                          cases bb
                          · go_wp2
                            all_goals exact ⟨⟨vv + 1, ss, rfl, by omega, by omega, hil, ho.ext hE3, HS.out.skip (tried_sub HSA.out HSB.out (by rw [HTRY.out, HRES.out]) (HB2.out (by first | trivial | rfl))), hE.trans hE3⟩, by simp [intOf]; omega⟩
                          · by_cases hql : q < ss.length
                            · obtain ⟨t, ut, ht, hct⟩ := HCELLO.out q hql
                              obtain ⟨t0, _, _, _, tI⟩ := hct _ hE3
                              have HTK := Lib.hid (show ∀ x ∈ ss.take (q + 1), x ∈ ss.take q ∨ x = t from fun x hx => by rw [take_succ_at ht] at hx; simpa using hx)
                              have HTM := Lib.hid (List.mem_of_getElem? ht)
                              clear hct ht
                              cases hsub : subB t.clause c
                              all_goals
                                have HSUB := Lib.hid hsub
                                clear hsub
                                go_wp2_with (go_at_call 142; refine (l2Sub_any _ _ t.clause c _ tI ho3.ints).mono ?_; rw [HSUB.out]; rintro e w9 ⟨rfl, rfl⟩)
                              · exact ⟨⟨q + 1, true, by go_num, rfl, hql, fun _ x hx => by rcases HTK.out x hx with h | rfl; exact HB1.out (by first | trivial | rfl) x h; exact HSUB.out, by simp⟩, by simp [intOf]; omega⟩
                              · exact ⟨⟨q + 1, false, by go_num, rfl, hql, by simp, fun _ => ⟨t, HTM.out, HSUB.out⟩⟩, by simp [intOf]; omega⟩
                            · have hno : ∀ t ∈ ss, subB t.clause c = false := fun t ht => HB1.out (by first | trivial | rfl) t (by rw [List.take_of_length_le (by omega)]; exact ht)
                              have hS4 := HS.out.push HEXT.out hil hki hv1 hvv HSA.out HSB.out (by rw [HTRY.out, HRES.out]) (l := i) (r := k) (by omega) (by omega) (.inl ⟨rfl, rfl⟩) HSA.out HSB.out HRES.out hno
                              have HS4 := Lib.hid hS4
                              have HBD := Lib.hid (hS4.bound HP.out)
                              clear hno hS4
                              have hl4 := HBD.out.1
                              by_cases hc0 : c.length = 0
                              · have h0 : ((c.length : Int) == 0) = true := by simp [hc0]
                                have HC0 := Lib.hid hc0
                                clear hc0
                                go_wp2_with (first
                                  | (at_builtin; refine wpList_appS rfl _ _ rfl wA.heap.size _ _ ss [⟨c, i, k, vv⟩] rfl rfl (ho.ext (Ext.trans hE3 (by repeat (first | exact Ext.refl _ | assumption | apply Ext.dn | apply Ext.drew | apply Ext.alloc)))) (steps_one (s := ⟨c, i, k, vv⟩) ho3.ints) (by simp; omega) (by have := (hE.trans hE3).size; simp; omega) ?_; intro v' w4 ho4 hg4 _; have hE4 := ext_grown ((hE.trans hE3).alloc _) (ho.ext (Ext.trans hE3 (by repeat (first | exact Ext.refl _ | assumption | apply Ext.dn | apply Ext.drew | apply Ext.alloc)))) (Nat.le_refl _) hg4)
                                  | (go_at_call 143; refine (l7Trim_any _ (ss ++ [⟨c, i, k, vv⟩]) f.vars _ ho4.steps HBD.out.2.2.1 HBD.out.2.2.2 (by omega) (by have := HBD.out.1; omega)).mono ?_; rintro e w5 ⟨r5, rfl, out, ho5, hol5, hnx5, hok5, he5⟩))
                                go_ret
                                have hsz4 := hE4.size
                                exact ⟨r5, rfl, out, ho5.mono (by omega), by have := HBD.out.1; omega, by have := HBD.out.2.1; omega, hok5, hEA.trans (hE4.trans he5)⟩
                              · have h0 : ((c.length : Int) == 0) = false := by simp; intro e; exact hc0 (by simp [e])
                                clear hc0
                                go_wp2_with (at_builtin; refine wpList_appS rfl _ _ rfl wA.heap.size _ _ ss [⟨c, i, k, vv⟩] rfl rfl (ho.ext (Ext.trans hE3 (by repeat (first | exact Ext.refl _ | assumption | apply Ext.dn | apply Ext.drew | apply Ext.alloc)))) (steps_one (s := ⟨c, i, k, vv⟩) ho3.ints) (by simp; omega) (by have := (hE.trans hE3).size; simp; omega) ?_; intro v' w4 ho4 hg4 _; have hE4 := ext_grown ((hE.trans hE3).alloc _) (ho.ext (Ext.trans hE3 (by repeat (first | exact Ext.refl _ | assumption | apply Ext.dn | apply Ext.drew | apply Ext.alloc)))) (Nat.le_refl _) hg4)
                                exact ⟨⟨vv + 1, ss ++ [⟨c, i, k, vv⟩], rfl, by omega, by omega, by simp; omega, ho4, HS4.out, hE4⟩, by simp [intOf]; omega⟩
                  · have HH := Lib.hid hh
                    clear hh
                    have htry : tryC a.clause b.clause vv = resolveL b.clause a.clause vv := by unfold tryC; rw [HH.out]; rfl
                    have HTRY := Lib.hid htry
                    clear htry
                    rcases hres : resolveL b.clause a.clause vv with _ | c
                    · have HRES := Lib.hid hres
                      clear hres
                      go_wp2_with (go_at_call 137; refine (l2Has_any _ a.clause (-vv) _ (hAI _ (.refl _))).mono ?_; rw [HH.out]; rintro e w2 ⟨rfl, rfl⟩)
                      go_region_held3 (fun w' => w'.cell? ⟨sb, so + i * 4, none⟩ = some (.slice uab a.clause.length uac) ∧ w'.cell? ⟨sb, so + k * 4, none⟩ = some (.slice ubb b.clause.length ubc))
                        (first | exact ⟨hAC _ hE3, hBC _ hE3⟩ | exact ⟨hAC _ (by repeat (first | exact Ext.refl _ | assumption | apply Ext.dn | apply Ext.drew | apply Ext.alloc)), hBC _ (by repeat (first | exact Ext.refl _ | assumption | apply Ext.dn | apply Ext.drew | apply Ext.alloc))⟩)
                        ((go_simp; go_at_call 138; refine (l2Resolve_any _ _ b.clause a.clause vv _ (hBI _ (by repeat (first | exact Ext.refl _ | assumption | apply Ext.dn | apply Ext.drew | apply Ext.alloc))) (hAI _ (by repeat (first | exact Ext.refl _ | assumption | apply Ext.dn | apply Ext.drew | apply Ext.alloc))) (by omega) (by omega) HBB.out HBA.out (by omega) (by omega)).mono ?_; rw [HRES.out]; rintro e w3 ⟨r3, rfl, ho3, he3⟩; (try simp only [Option.getD_some] at ho3); have hE3 : Ext wr w3 := Ext.trans (by repeat (first | exact Ext.refl _ | assumption | apply Ext.dn | apply Ext.drew | apply Ext.alloc)) he3; obtain ⟨xb, xc, rfl, _, _, _⟩ := ho3.ints.open))
                      all_goals
                        go_wp2
                        go_loop [13, 14] (fun okv nv => okv = .bool false ∧ nv = .int .i64 0) (fun _ _ => 0)
                        case atStart => exact ⟨rfl, rfl⟩
                        case round =>
                          obtain ⟨rfl, rfl⟩ := hrel
                          go_wp2
                          exact ⟨⟨vv + 1, ss, rfl, by omega, by omega, hil, ho.ext hE3, HS.out.skip (tried_none HSA.out HSB.out (by rw [HTRY.out, HRES.out])), hE.trans hE3⟩, by simp [intOf]; omega⟩
                    · have HRES := Lib.hid hres
                      clear hres
                      go_wp2_with (go_at_call 137; refine (l2Has_any _ a.clause (-vv) _ (hAI _ (.refl _))).mono ?_; rw [HH.out]; rintro e w2 ⟨rfl, rfl⟩)
                      go_region_held3 (fun w' => w'.cell? ⟨sb, so + i * 4, none⟩ = some (.slice uab a.clause.length uac) ∧ w'.cell? ⟨sb, so + k * 4, none⟩ = some (.slice ubb b.clause.length ubc))
                        (first | exact ⟨hAC _ hE3, hBC _ hE3⟩ | exact ⟨hAC _ (by repeat (first | exact Ext.refl _ | assumption | apply Ext.dn | apply Ext.drew | apply Ext.alloc)), hBC _ (by repeat (first | exact Ext.refl _ | assumption | apply Ext.dn | apply Ext.drew | apply Ext.alloc))⟩)
                        ((go_simp; go_at_call 138; refine (l2Resolve_any _ _ b.clause a.clause vv _ (hBI _ (by repeat (first | exact Ext.refl _ | assumption | apply Ext.dn | apply Ext.drew | apply Ext.alloc))) (hAI _ (by repeat (first | exact Ext.refl _ | assumption | apply Ext.dn | apply Ext.drew | apply Ext.alloc))) (by omega) (by omega) HBB.out HBA.out (by omega) (by omega)).mono ?_; rw [HRES.out]; rintro e w3 ⟨r3, rfl, ho3, he3⟩; (try simp only [Option.getD_some] at ho3); have hE3 : Ext wr w3 := Ext.trans (by repeat (first | exact Ext.refl _ | assumption | apply Ext.dn | apply Ext.drew | apply Ext.alloc)) he3; obtain ⟨xb, xc, rfl, _, _, _⟩ := ho3.ints.open))
                      all_goals
                        go_wp2
                        go_loop [13, 14] (fun okv nv => ∃ (q : Nat) (bb : Bool), nv = .int .i64 q ∧ okv = .bool bb ∧ q ≤ ss.length ∧ (bb = true → ∀ t ∈ ss.take q, subB t.clause c = false) ∧ (bb = false → ∃ t ∈ ss, subB t.clause c = true)) (fun _ nv => ss.length - (intOf nv).toNat)
                        case atStart => exact ⟨0, true, rfl, rfl, Nat.zero_le _, by simp, by simp⟩
                        case round =>
                          obtain ⟨q, bb, rfl, rfl, hq, hb1, hb2⟩ := hrel
                          have HB1 := Lib.hid hb1
                          have HB2 := Lib.hid hb2
                          clear hb1 hb2
                          cases bb
                          · go_wp2
                            all_goals exact ⟨⟨vv + 1, ss, rfl, by omega, by omega, hil, ho.ext hE3, HS.out.skip (tried_sub HSA.out HSB.out (by rw [HTRY.out, HRES.out]) (HB2.out (by first | trivial | rfl))), hE.trans hE3⟩, by simp [intOf]; omega⟩
                          · by_cases hql : q < ss.length
                            · obtain ⟨t, ut, ht, hct⟩ := HCELLO.out q hql
                              obtain ⟨t0, _, _, _, tI⟩ := hct _ hE3
                              have HTK := Lib.hid (show ∀ x ∈ ss.take (q + 1), x ∈ ss.take q ∨ x = t from fun x hx => by rw [take_succ_at ht] at hx; simpa using hx)
                              have HTM := Lib.hid (List.mem_of_getElem? ht)
                              clear hct ht
                              cases hsub : subB t.clause c
                              all_goals
                                have HSUB := Lib.hid hsub
                                clear hsub
                                go_wp2_with (go_at_call 142; refine (l2Sub_any _ _ t.clause c _ tI ho3.ints).mono ?_; rw [HSUB.out]; rintro e w9 ⟨rfl, rfl⟩)
                              · exact ⟨⟨q + 1, true, by go_num, rfl, hql, fun _ x hx => by rcases HTK.out x hx with h | rfl; exact HB1.out (by first | trivial | rfl) x h; exact HSUB.out, by simp⟩, by simp [intOf]; omega⟩
                              · exact ⟨⟨q + 1, false, by go_num, rfl, hql, by simp, fun _ => ⟨t, HTM.out, HSUB.out⟩⟩, by simp [intOf]; omega⟩
                            · have hno : ∀ t ∈ ss, subB t.clause c = false := fun t ht => HB1.out (by first | trivial | rfl) t (by rw [List.take_of_length_le (by omega)]; exact ht)
                              have hS4 := HS.out.push HEXT.out hil hki hv1 hvv HSA.out HSB.out (by rw [HTRY.out, HRES.out]) (l := k) (r := i) (by omega) (by omega) (.inr ⟨rfl, rfl⟩) HSB.out HSA.out HRES.out hno
                              have HS4 := Lib.hid hS4
                              have HBD := Lib.hid (hS4.bound HP.out)
                              clear hno hS4
                              have hl4 := HBD.out.1
                              by_cases hc0 : c.length = 0
                              · have h0 : ((c.length : Int) == 0) = true := by simp [hc0]
                                have HC0 := Lib.hid hc0
                                clear hc0
                                go_wp2_with (first
                                  | (at_builtin; refine wpList_appS rfl _ _ rfl wA.heap.size _ _ ss [⟨c, k, i, vv⟩] rfl rfl (ho.ext (Ext.trans hE3 (by repeat (first | exact Ext.refl _ | assumption | apply Ext.dn | apply Ext.drew | apply Ext.alloc)))) (steps_one (s := ⟨c, k, i, vv⟩) ho3.ints) (by simp; omega) (by have := (hE.trans hE3).size; simp; omega) ?_; intro v' w4 ho4 hg4 _; have hE4 := ext_grown ((hE.trans hE3).alloc _) (ho.ext (Ext.trans hE3 (by repeat (first | exact Ext.refl _ | assumption | apply Ext.dn | apply Ext.drew | apply Ext.alloc)))) (Nat.le_refl _) hg4)
                                  | (go_at_call 143; refine (l7Trim_any _ (ss ++ [⟨c, k, i, vv⟩]) f.vars _ ho4.steps HBD.out.2.2.1 HBD.out.2.2.2 (by omega) (by have := HBD.out.1; omega)).mono ?_; rintro e w5 ⟨r5, rfl, out, ho5, hol5, hnx5, hok5, he5⟩))
                                go_ret
                                have hsz4 := hE4.size
                                exact ⟨r5, rfl, out, ho5.mono (by omega), by have := HBD.out.1; omega, by have := HBD.out.2.1; omega, hok5, hEA.trans (hE4.trans he5)⟩
                              · have h0 : ((c.length : Int) == 0) = false := by simp; intro e; exact hc0 (by simp [e])
                                clear hc0
                                go_wp2_with (at_builtin; refine wpList_appS rfl _ _ rfl wA.heap.size _ _ ss [⟨c, k, i, vv⟩] rfl rfl (ho.ext (Ext.trans hE3 (by repeat (first | exact Ext.refl _ | assumption | apply Ext.dn | apply Ext.drew | apply Ext.alloc)))) (steps_one (s := ⟨c, k, i, vv⟩) ho3.ints) (by simp; omega) (by have := (hE.trans hE3).size; simp; omega) ?_; intro v' w4 ho4 hg4 _; have hE4 := ext_grown ((hE.trans hE3).alloc _) (ho.ext (Ext.trans hE3 (by repeat (first | exact Ext.refl _ | assumption | apply Ext.dn | apply Ext.drew | apply Ext.alloc)))) (Nat.le_refl _) hg4)
                                exact ⟨⟨vv + 1, ss ++ [⟨c, k, i, vv⟩], rfl, by omega, by omega, by simp; omega, ho4, HS4.out, hE4⟩, by simp [intOf]; omega⟩
                · go_wp2
                  exact ⟨⟨k + 1, ss, by go_num, hki, hil, ho, HS.out.nextK (by omega), hE⟩, by simp [intOf]; omega⟩
            · go_wp2
              exact ⟨⟨i + 1, ss, by go_num, hil, ho, HS.out.nextI (by omega), hE⟩, by simp [intOf]; omega⟩
        · go_wp2
          go_ret
          exact ⟨_, rfl, ss, ho.mono (by omega), by omega, hnx27, HOK.out, hEA.trans hE⟩
end Go.Proofs.YtfnjhodologfeaaGreat
