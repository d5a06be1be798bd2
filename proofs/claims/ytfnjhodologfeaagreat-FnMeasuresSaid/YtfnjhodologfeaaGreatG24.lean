/- Parts of the proof: K7, D9, D10, D11. -/
import Derived.Test.YtfnjhodologfeaaGreatG23
import Derived.Laws.ResultCell
set_option linter.unusedSimpArgs false
set_option linter.unusedVariables false
/- blocks of a Cnf; the frame of a parse -/
namespace Go.Proofs.YtfnjhodologfeaaGreat
open Go.RowKit

theorem results_cell_row2 {P : Program} {fn : Func} {p u : Tmp} {ty : TypeId} (h : fn.results = #[.cell p ty, .tmp u]) (tmps : Array Value) (w : World) (g : Nat) (t : TypeId) (cs : Array Value) (fr : Nat × Nat) (d : TypeDesc)
    (hp : tmps.getD p undef = .pointer (some ⟨g, 0, none⟩)) (hg : w.heap[g]? = some (.cells cs t fr))
    (hu : P.underlying ty = some d) (hd : (match d with | .struct _ | .array _ _ => true | _ => false) = true) (hi : (P.info? ty).map (·.size) = some cs.size) :
    (results fn tmps).run P w = .ok (.tuple #[.agg cs, tmps.getD u undef]) w := by
  rw [results_cell_tmp h tmps P w, hp]
  simp [asAddr, run_loadVar_row w g t ty cs fr d hg hu hd hi]

/-- the block of a Cnf -/
def CBlk (w : World) (b : Nat) (n : Int) (cv : Value) : Prop := w.heap[b]? = some (.cells #[.int .i64 n, cv] 26 (0, 0))
theorem CBlk.cells {w : World} {b : Nat} {n : Int} {cv : Value} (h : CBlk w b n cv) : w.cell? ⟨b, 0, none⟩ = some (.int .i64 n) ∧ w.cell? ⟨b, 1, none⟩ = some cv := by
  unfold CBlk at h
  refine ⟨?_, ?_⟩ <;> simp [World.cell?, h]
theorem CBlk.frozen {w : World} {b : Nat} {n : Int} {cv : Value} (h : CBlk w b n cv) (j : Nat) : w.frozen? ⟨b, j, none⟩ = false := frozen_of_row w b j _ _ h
theorem CBlk.lt {w : World} {b : Nat} {n : Int} {cv : Value} (h : CBlk w b n cv) : b < w.heap.size := (Array.getElem?_eq_some_iff.1 h).1
theorem CBlk.grown {w w' : World} {b : Nat} {n : Int} {cv : Value} (h : CBlk w b n cv) {row : Option Nat} (hg : w.grownBy w' row) (hne : row ≠ some b) : CBlk w' b n cv := by
  unfold CBlk
  rw [World.grownBy.block hg b h.lt (fun e => hne e.symm)]
  exact h
theorem CBlk.ext {w w' : World} {b : Nat} {n : Int} {cv : Value} (h : CBlk w b n cv) (hx : Ext w w') : CBlk w' b n cv := by
  unfold CBlk
  rw [hx.block h.lt]
  exact h
theorem CBlk.made (w : World) (n : Int) (cv : Value) : CBlk (w.alloc (.cells #[.int .i64 n, cv] 26)) w.heap.size n cv := heap_alloc_new w _
theorem CBlk.set0 {w : World} {b : Nat} {n : Int} {cv : Value} (h : CBlk w b n cv) (x : Int) : CBlk (w.setCell ⟨b, 0, none⟩ (.int .i64 x)) b x cv := heap_setCell_same w b 0 _ _ _ h
theorem CBlk.set1 {w : World} {b : Nat} {n : Int} {cv : Value} (h : CBlk w b n cv) (x : Value) : CBlk (w.setCell ⟨b, 1, none⟩ x) b n x := heap_setCell_same w b 1 _ _ _ h
theorem CBlk.type {w : World} {b : Nat} {n : Int} {cv : Value} (h : CBlk w b n cv) {e : Nat} (he : 26 ≠ e) : ∀ k, some b = some k → ∃ cur fz T, w.heap[k]? = some (.cells cur T fz) ∧ T ≠ e := fun k hk => by
  injection hk with hk
  subst hk
  exact ⟨_, _, _, h, he⟩
/-- an own row of lists while another row (of no ints) turns -/
theorem OwnL.beside {w w' : World} {B : Nat} {v : Value} {l : List (List Int)} (h : OwnL w B v l) {row : Option Nat} (hg : w.grownBy w' row) (hne : ∀ k, row = some k → v.ownBlock ≠ some k) (hT : ∀ k, row = some k → ∃ cur fz T, w.heap[k]? = some (.cells cur T fz) ∧ T ≠ 3) : OwnL w' B v l := by
  obtain ⟨cvs, h1, h2, h3⟩ := h
  refine ⟨cvs, h1, World.ownsRow.kept h2 hg ?_, fun i u s a b => (h3 i u s a b).turned hg hT⟩
  cases hr : row with
  | none => cases hv : v.ownBlock with
    | none => exact .inl rfl
    | some k => exact .inr (by simp)
  | some k => exact .inr (hne k hr)

/-- a whole Cnf is stored -/
theorem CBlk.store {wr : World} {B b : Nat} {n0 n : Int} {cv0 cv : Value} {cl : List (List Int)} (h : CBlk wr b n0 cv0) (ho : OwnL wr B cv cl) (hne : cv.ownBlock ≠ some b) :
    CBlk ((wr.setCell ⟨b, 0, none⟩ (.int .i64 n)).setCell ⟨b, 1, none⟩ cv) b n cv ∧ OwnL ((wr.setCell ⟨b, 0, none⟩ (.int .i64 n)).setCell ⟨b, 1, none⟩ cv) B cv cl ∧ wr.grownBy ((wr.setCell ⟨b, 0, none⟩ (.int .i64 n)).setCell ⟨b, 1, none⟩ cv) (some b) := by
  have hg1 := grown_set wr b 0 (.int .i64 n)
  have hr1 := h.set0 n
  have ho1 := ho.beside hg1 (fun k hk => by injection hk with hk; subst hk; exact hne) (h.type (by decide))
  have hg2 := grown_set (wr.setCell ⟨b, 0, none⟩ (.int .i64 n)) b 1 cv
  exact ⟨hr1.set1 cv, ho1.beside hg2 (fun k hk => by injection hk with hk; subst hk; exact hne) (hr1.type (by decide)), hg1.trans hg2⟩

/-- the frame of ParseCnf: since w only new blocks; the result's block b2, the Cnf's block b7, its own list of clauses, the parts -/
structure PF (w wr : World) (b2 b7 : Nat) (n : Int) (cv : Value) (cl : List (List Int)) (vws : Value) (ws : List ByteArray) : Prop where
  ext : Ext w wr
  r2 : CBlk wr b2 0 (.slice none 0 0)
  r7 : CBlk wr b7 n cv
  own : OwnL wr w.heap.size cv cl
  str : Strs wr vws ws
  ge2 : w.heap.size ≤ b2
  ge7 : w.heap.size ≤ b7
  ne : b2 ≠ b7
  ne2 : cv.ownBlock ≠ some b2
  ne7 : cv.ownBlock ≠ some b7
theorem PF.more {w wr wr' : World} {b2 b7 : Nat} {n : Int} {cv vws : Value} {cl : List (List Int)} {ws : List ByteArray} (h : PF w wr b2 b7 n cv cl vws ws) (hx : Ext wr wr') : PF w wr' b2 b7 n cv cl vws ws :=
  ⟨h.ext.trans hx, h.r2.ext hx, h.r7.ext hx, h.own.ext hx, h.str.ext hx, h.ge2, h.ge7, h.ne, h.ne2, h.ne7⟩
theorem PF.push {w wr wr' : World} {b2 b7 : Nat} {n : Int} {cv cv' vws : Value} {cl cl' : List (List Int)} {ws : List ByteArray} (h : PF w wr b2 b7 n cv cl vws ws) (ho : OwnL wr' w.heap.size cv' cl') (hg : wr.grownBy wr' cv.ownBlock) (hb : cv'.ownBlock = cv.ownBlock ∨ cv'.ownBlock = some wr.heap.size) :
    PF w (wr'.setCell ⟨b7, 1, none⟩ cv') b2 b7 n cv' cl' vws ws := by
  have hg7 := grown_set wr' b7 1 cv'
  have r2' := h.r2.grown hg h.ne2
  have r7' := h.r7.grown hg h.ne7
  have ne7' : cv'.ownBlock ≠ some b7 := by
    rcases hb with hb | hb
    · rw [hb]; exact h.ne7
    · rw [hb]; intro e; injection e with e; have := h.r7.lt; omega
  have ne2' : cv'.ownBlock ≠ some b2 := by
    rcases hb with hb | hb
    · rw [hb]; exact h.ne2
    · rw [hb]; intro e; injection e with e; have := h.r2.lt; omega
  have hT : ∀ b, cv.ownBlock = some b → ∃ cur fz T, wr.heap[b]? = some (.cells cur T fz) ∧ T ≠ 9 := by
    obtain ⟨cvs, _, h2, _⟩ := h.own
    intro b hb
    obtain ⟨cur, fz, h5⟩ := ownsRow_type h2 b hb
    exact ⟨cur, fz, _, h5, by decide⟩
  have hx' : Ext w wr' := Below.grown h.ext hg h.ext.size (fun k hk => (h.own.lt k hk).1)
  refine ⟨Below.grown hx' hg7 hx'.size (fun k hk => by injection hk with hk; have := h.ge7; omega), r2'.grown hg7 (fun e => h.ne (by injection e with e; exact e.symm)), r7'.set1 cv', ?_, Sl.turned (Sl.turned h.str hg hT) hg7 (r7'.type (by decide)), h.ge2, h.ge7, h.ne, ne2', ne7'⟩
  exact ho.beside hg7 (fun k hk => by injection hk with hk; subst hk; exact ne7') (r7'.type (by decide))
end Go.Proofs.YtfnjhodologfeaaGreat
/- ParseCnf -/
namespace Go.Proofs.YtfnjhodologfeaaGreat
open Go.RowKit

theorem clauseB_lits {vars : Int} {c : List Int} (h : clauseB vars c = true) : ∀ x ∈ c, x ≠ 0 ∧ -vars ≤ x ∧ x ≤ vars ∧ vars ≤ 12 := by
  intro x hx
  have hne := clauseB_ne h x hx
  obtain ⟨j, hj, rfl⟩ := List.mem_iff_getElem.1 hx
  have h1 := clauseB_lt h j hj
  have h2 : inB vars 0 12 = true := by simp only [clauseB, Bool.and_eq_true] at h; exact h.1
  simp [inB] at h2
  unfold absI at h1
  split at h1 <;> exact ⟨hne, by omega, by omega, by omega⟩
def clsO : List ByteArray → Option (List (List Int))
  | [] => some []
  | s :: l => match parseO (cutB s 1 s.size), clsO l with
    | some n, some m => some (n :: m)
    | _, _ => none
theorem clsO_snoc : ∀ (l : List ByteArray) (s : ByteArray) (m : List (List Int)) (n : List Int), clsO l = some m → parseO (cutB s 1 s.size) = some n → clsO (l ++ [s]) = some (m ++ [n])
  | [], s, m, n, h, h2 => by simp [clsO] at h ⊢; subst h; rw [h2]; rfl
  | t :: l, s, m, n, h, h2 => by
    rw [List.cons_append, clsO]
    rw [clsO] at h
    cases h3 : parseO (cutB t 1 t.size) with
    | none => rw [h3] at h; simp at h
    | some q =>
      cases h4 : clsO l with
      | none => rw [h3, h4] at h; simp at h
      | some q2 =>
        rw [h3, h4] at h
        simp only [Option.some.injEq] at h
        subst h
        rw [clsO_snoc l s q2 n h4 h2]
        rfl
def knownO (s : ByteArray) : Option (Int × List (List Int)) := match splitL s 59 with
  | [] => none
  | p :: l => match readO p, clsO l with
    | some n, some m => some (n, m)
    | _, _ => none
/-- a Cnf is parsed, or not -/
def CnfE (s : ByteArray) (w : World) (e : Ending) (w' : World) : Prop :=
  ∃ (n : Int) (cv : Value) (ok : Bool), e = .returned (.tuple #[.agg #[.int .i64 n, cv], .bool ok]) ∧ Ext w w' ∧
    ((ok = true ∧ ∃ cl, OwnL w' w.heap.size cv cl ∧ knownO s = some (n, cl) ∧ inB n 0 12 = true ∧ (∀ c ∈ cl, clauseB n c = true ∧ c.length ≤ 12) ∧ cl.length ≤ 60) ∨ (ok = false ∧ n = 0 ∧ cv = .slice none 0 0))

set_option maxRecDepth 100000 in
set_option maxHeartbeats 4000000 in
theorem ParseCnf_any (s : ByteArray) (w : World) (hs : s.size ≤ 10000) :
    Calls Tryz.prog 140 #[.string s] w (CnfE s w) := by
  obtain ⟨hwl, hwl2⟩ := splitL_length s 59
  have HWS := Lib.hid (splitL_size s 59)
  have HSP := Lib.hid (fun w => l1Split_any s 59 w (by omega))
  have HKN := Lib.hid (show knownO s = match splitL s 59 with | [] => none | p :: l => match readO p, clsO l with | some n, some m => some (n, m) | _, _ => none from rfl)
  generalize splitL s 59 = ws at hwl hwl2 HWS HKN HSP
  have h0 : ¬ ws.length = 0 := by omega
  go_enter Tryz.func140, Tryz.ntmps140
  go_wp2_with (first | (go_at_call 134; refine (l2Vars_any _ _).mono ?_; rintro e w3 ⟨rfl, rfl⟩) | (go_at_call 165; refine (l1Read_any x _ hxs).mono ?_; rintro e w2 ⟨n, ok, rfl, hr1, hr2, hd2⟩; obtain ⟨nd, rfl⟩ := hd2; have HR := Lib.hid hr1; clear hr1 hr2) | (go_at_call 164; refine (HSP.out _).mono ?_; rintro e w1 ⟨r1, rfl, ho1, he1⟩; obtain ⟨base, cap, rfl, hc1, hc2, hcell⟩ := ho1.strs.open; obtain ⟨b, off, rfl, hbl, hcs⟩ := hcell 0 (by omega); obtain ⟨x, hx, hxc⟩ := hcs 0 (by omega); have hxc0 : w1.cell? ⟨b, off, none⟩ = some (.string x) := (by simpa using hxc w1 (.refl _)); have hxs : x.size ≤ 100000 := Nat.le_trans (HWS.out x (List.mem_of_getElem? hx)) (by omega); have HX := Lib.hid hx; have hE1 : Ext w w1 := Ext.trans (by repeat (first | exact Ext.refl _ | assumption | apply Ext.dn | apply Ext.drew | apply Ext.alloc)) he1; have h20 : CBlk w1 w.heap.size 0 (.slice none 0 0) := (CBlk.made w 0 (.slice none 0 0)).ext he1; have hstr := ho1.strs; obtain ⟨q0, q1⟩ := h20.cells; have fr0 := h20.frozen 0; have fr1 := h20.frozen 1; clear hx hcell hcs hxc))
  all_goals first
    | (refine bodyPost_ret (results_cell_row2 rfl _ _ w.heap.size _ _ _ _ rfl (((h20.ext (by repeat (first | exact Ext.refl _ | assumption | apply Ext.dn | apply Ext.drew | apply Ext.alloc))).set0 0).set1 (.slice none 0 0)) Tryz.underlying26 rfl (by kernel_rfl)) rfl ?_
       exact ⟨0, _, false, rfl, Ext.setCell (Ext.setCell (hE1.trans (by repeat (first | exact Ext.refl _ | assumption | apply Ext.dn | apply Ext.drew | apply Ext.alloc))) (Nat.le_refl _) _) (Nat.le_refl _) _, .inr ⟨rfl, rfl, rfl⟩⟩)
    | skip
  have hin : inB n 0 12 = true := by assumption
  have h61 : (ws.length : Int) ≤ 61 := by assumption
  have hok : ok = true := by assumption
  subst hok
  obtain ⟨hrd, _, _⟩ := HR.out rfl
  have HIN := Lib.hid hin
  have HRD := Lib.hid hrd
  have hEn : Ext w ((w1.drewN nd).alloc (.cells #[] 33)) := hE1.trans (by repeat (first | exact Ext.refl _ | assumption | apply Ext.dn | apply Ext.drew | apply Ext.alloc))
  have hPF0 : PF w (((w1.drewN nd).alloc (.cells #[] 33)).alloc (.cells #[.int .i64 n, .slice (some ⟨w1.heap.size, 0, none⟩) 0 0] 26)) w.heap.size (w1.heap.size + 1) n (.slice (some ⟨w1.heap.size, 0, none⟩) 0 0) [] (.slice (some ⟨b, off, none⟩) ws.length cap) ws := by
    have hs1 := hE1.size
    have hl := h20.lt
    refine ⟨hEn.alloc _, h20.ext (by repeat (first | exact Ext.refl _ | assumption | apply Ext.dn | apply Ext.drew | apply Ext.alloc)), ?_, ?_, hstr.ext (by repeat (first | exact Ext.refl _ | assumption | apply Ext.dn | apply Ext.drew | apply Ext.alloc)), Nat.le_refl _, by omega, by omega, ?_, ?_⟩
    · have := CBlk.made ((w1.drewN nd).alloc (.cells #[] 33)) n (.slice (some ⟨w1.heap.size, 0, none⟩) 0 0)
      simpa using this
    · exact ((OwnL.empty (w1.drewN nd) w.heap.size (by simp; omega)).ext (by repeat (first | exact Ext.refl _ | assumption | apply Ext.dn | apply Ext.drew | apply Ext.alloc)))
    · simp [Value.ownBlock]; omega
    · simp [Value.ownBlock]
  go_loopw [8, 9, 10] (fun i c okk wr => ∃ (k : Nat) (cv : Value) (cl : List (List Int)), i = .int .i64 ((k : Int) + 1) ∧ k + 1 ≤ ws.length ∧ PF w wr w.heap.size (w1.heap.size + 1) n cv cl (.slice (some ⟨b, off, none⟩) ws.length cap) ws ∧ clsO ((ws.drop 1).take k) = some cl ∧ cl.length = k ∧ ∀ c ∈ cl, clauseB n c = true ∧ c.length ≤ 12) (fun i _ _ _ => ws.length - (intOf i).toNat)
  case atStart => exact ⟨0, _, [], rfl, by omega, hPF0, rfl, rfl, by simp⟩
  case round =>
    obtain ⟨k, cv, cl, rfl, hk, hPF, hcl, hcll, hcb⟩ := hrel
    have HCL := Lib.hid hcl
    have HCB := Lib.hid hcb
    have HLL := Lib.hid hcll
    clear hcl hcb hcll
    obtain ⟨_, _, e, _, _, hcell⟩ := hPF.str.open
    injection e with e1 _ e3
    subst e3
    obtain ⟨f0, f1⟩ := hPF.r7.cells
    obtain ⟨g0, g1⟩ := hPF.r2.cells
    have z20 := hPF.r2.frozen 0
    have z21 := hPF.r2.frozen 1
    have z71 := hPF.r7.frozen 1
    have hE := hPF.ext
    by_cases hlt : k + 1 < ws.length
    · obtain ⟨b', off', e1', hbl, hcs⟩ := hcell (k + 1) hlt
      rw [e1'] at e1
      injection e1 with e1
      injection e1 with e1 e2
      subst e1; subst e2
      obtain ⟨y, hy, hyc⟩ := hcs (k + 1) hlt
      have hyc0 := hyc _ (.refl _)
      have hys : y.size ≤ 10000 := Nat.le_trans (HWS.out y (List.mem_of_getElem? hy)) hs
      have HY := Lib.hid (show (ws.drop 1)[k]? = some y by rw [List.getElem?_drop, Nat.add_comm]; exact hy)
      clear hcell hcs hyc hy
      by_cases hy2 : y.size < 2
      · go_wp2
        (refine bodyPost_ret (results_cell_row2 rfl _ _ w.heap.size _ _ _ _ rfl (((hPF.r2.ext (by repeat (first | exact Ext.refl _ | assumption | apply Ext.dn | apply Ext.drew | apply Ext.alloc))).set0 0).set1 (.slice none 0 0)) Tryz.underlying26 rfl (by kernel_rfl)) rfl ?_; exact ⟨0, _, false, rfl, Ext.setCell (Ext.setCell (hE.trans (by repeat (first | exact Ext.refl _ | assumption | apply Ext.dn | apply Ext.drew | apply Ext.alloc))) (Nat.le_refl _) _) (Nat.le_refl _) _, .inr ⟨rfl, rfl, rfl⟩⟩)
      · by_cases hsp : y[0].toNat = 32
        · have hxz : (y.extract 1 y.size).size ≤ 100000 := by rw [ByteArray.size_extract]; omega
          have HXE := Lib.hid (cut_eq y 1 y.size)
          obtain ⟨cb, cc, rfl, hcc1, hcc2⟩ := hPF.own.form
          go_wp2_with (first
            | (go_at_call 166; refine (l2Parse_any n _ _ hxz).mono ?_; rintro e w2 ⟨r2, ok2, rfl, c2, ho2, hr2, hx2⟩; have HR2 := Lib.hid hr2; clear hr2; obtain ⟨rb2, rc2, rfl, _, _, _⟩ := ho2.ints.open; replace hPF := hPF.more hx2; obtain ⟨f0, f1⟩ := hPF.r7.cells; obtain ⟨g0, g1⟩ := hPF.r2.cells; have z20 := hPF.r2.frozen 0; have z21 := hPF.r2.frozen 1; have z71 := hPF.r7.frozen 1; have hE := hPF.ext)
            | (at_builtin; refine wpList_appL rfl _ _ rfl w.heap.size _ _ cl [c2] rfl rfl (hPF.own.ext (by repeat (first | exact Ext.refl _ | assumption | apply Ext.dn | apply Ext.drew | apply Ext.alloc))) (lists_one ho2.ints) (by simp; have := HLL.out; omega) (by have := hE.size; simp; omega) ?_; intro v' w4 ho4 hg4 hat4; obtain ⟨vb, vc, rfl, _, _⟩ := ho4.form; have hP4 := (hPF.more (by repeat (first | exact Ext.refl _ | assumption | apply Ext.dn | apply Ext.drew | apply Ext.alloc))).push ho4 hg4 hat4; have z71' := (hPF.r7.ext (by repeat (first | exact Ext.refl _ | assumption | apply Ext.dn | apply Ext.drew | apply Ext.alloc))).grown hg4 hPF.ne7; have z72 := z71'.frozen 1; obtain ⟨y70, y71⟩ := z71'.cells))
          · (refine bodyPost_ret (results_cell_row2 rfl _ _ w.heap.size _ _ _ _ rfl (((hPF.r2.ext (by repeat (first | exact Ext.refl _ | assumption | apply Ext.dn | apply Ext.drew | apply Ext.alloc))).set0 0).set1 (.slice none 0 0)) Tryz.underlying26 rfl (by kernel_rfl)) rfl ?_; exact ⟨0, _, false, rfl, Ext.setCell (Ext.setCell (hE.trans (by repeat (first | exact Ext.refl _ | assumption | apply Ext.dn | apply Ext.drew | apply Ext.alloc))) (Nat.le_refl _) _) (Nat.le_refl _) _, .inr ⟨rfl, rfl, rfl⟩⟩)
          · have hok2 : ok2 = true := by have h : (!ok2) = false := (by assumption); simpa using h
            obtain ⟨hp1, hp2, hp3⟩ := HR2.out hok2
            refine ⟨⟨k + 1, _, cl ++ [c2], rfl, hlt, (by simpa only [List.length_append, List.length_cons, List.length_nil, Nat.zero_add] using hP4), ?_, ?_, ?_⟩, by simp [intOf]; omega⟩
            · rw [take_succ_at HY.out]; exact clsO_snoc _ _ _ _ HCL.out (by rw [← HXE.out]; exact hp1)
            · rw [List.length_append, HLL.out]; rfl
            · intro c hc
              rcases List.mem_append.1 hc with hc | hc
              · exact HCB.out c hc
              · simp at hc; subst hc; exact ⟨hp2, hp3⟩
        · have hsp2 : ((y[0].toNat : Int) != 32) = true := by simp only [bne_iff_ne, ne_eq]; omega
          go_wp2
          (refine bodyPost_ret (results_cell_row2 rfl _ _ w.heap.size _ _ _ _ rfl (((hPF.r2.ext (by repeat (first | exact Ext.refl _ | assumption | apply Ext.dn | apply Ext.drew | apply Ext.alloc))).set0 0).set1 (.slice none 0 0)) Tryz.underlying26 rfl (by kernel_rfl)) rfl ?_; exact ⟨0, _, false, rfl, Ext.setCell (Ext.setCell (hE.trans (by repeat (first | exact Ext.refl _ | assumption | apply Ext.dn | apply Ext.drew | apply Ext.alloc))) (Nat.le_refl _) _) (Nat.le_refl _) _, .inr ⟨rfl, rfl, rfl⟩⟩)
    · have hkk : k + 1 = ws.length := by omega
      have HKK := Lib.hid hkk
      clear hkk hcell
      obtain ⟨cb, cc, rfl, hcc1, hcc2⟩ := hPF.own.form
      have hn0 : 0 ≤ n ∧ n ≤ 12 := by have := HIN.out; simp [inB] at this; omega
      have hlb : cl.length ≤ 1000 := by have := HLL.out; omega
      go_wp2_with (go_at_call 167; refine (l2TextOf_any _ ⟨n, cl⟩ _ ⟨_, rfl, hPF.own.lists⟩ (by simp; omega) (by simp; omega) (fun c hc => ⟨by have := (HCB.out c hc).2; omega, fun x hx => by have := clauseB_lits (HCB.out c hc).1 x hx; omega⟩) hlb).mono ?_; rintro e w2 ⟨z, rfl, hx2⟩; replace hPF := hPF.more hx2; obtain ⟨f0, f1⟩ := hPF.r7.cells; obtain ⟨g0, g1⟩ := hPF.r2.cells; have z20 := hPF.r2.frozen 0; have z21 := hPF.r2.frozen 1; have hE := hPF.ext)
      · (refine bodyPost_ret (results_cell_row2 rfl _ _ w.heap.size _ _ _ _ rfl (((hPF.r2.ext (by repeat (first | exact Ext.refl _ | assumption | apply Ext.dn | apply Ext.drew | apply Ext.alloc))).set0 0).set1 (.slice none 0 0)) Tryz.underlying26 rfl (by kernel_rfl)) rfl ?_; exact ⟨0, _, false, rfl, Ext.setCell (Ext.setCell (hE.trans (by repeat (first | exact Ext.refl _ | assumption | apply Ext.dn | apply Ext.drew | apply Ext.alloc))) (Nat.le_refl _) _) (Nat.le_refl _) _, .inr ⟨rfl, rfl, rfl⟩⟩)
      · have hkn : knownO s = some (n, cl) := by
          rw [HKN.out]
          have h1 := HX.out
          have h2 := HCL.out
          have h3 := HKK.out
          have h4 := HRD.out
          cases ws with
          | nil => simp at h1
          | cons p r =>
            simp at h1
            subst h1
            simp only [List.drop_succ_cons, List.drop_zero, List.length_cons] at h2 h3
            rw [List.take_of_length_le (by omega)] at h2
            simp only [h4, h2]
        have hl60 : cl.length ≤ 60 := by have := HLL.out; have := HKK.out; omega
        have hg1 := grown_set w2 w.heap.size 0 (.int .i64 n)
        have hr1 := hPF.r2.set0 n
        have ho1' := hPF.own.beside hg1 (fun k hk => by injection hk with hk; subst hk; exact hPF.ne2) (hPF.r2.type (by decide))
        have hg2 := grown_set (w2.setCell ⟨w.heap.size, 0, none⟩ (.int .i64 n)) w.heap.size 1 (.slice cb cl.length cc)
        have ho2' := ho1'.beside hg2 (fun k hk => by injection hk with hk; subst hk; exact hPF.ne2) (hr1.type (by decide))
        refine bodyPost_ret (results_cell_row2 rfl _ _ w.heap.size _ _ _ _ rfl (hr1.set1 (.slice cb cl.length cc)) Tryz.underlying26 rfl (by kernel_rfl)) rfl ?_
        exact ⟨n, _, true, rfl, Ext.setCell (Ext.setCell hE (Nat.le_refl _) _) (Nat.le_refl _) _, .inl ⟨rfl, cl, ho2', hkn, HIN.out, HCB.out, hl60⟩⟩
end Go.Proofs.YtfnjhodologfeaaGreat
/- l2Known, l2Hard, of -/
namespace Go.Proofs.YtfnjhodologfeaaGreat
open Go.RowKit

/-- what a text stands for -/
def KnownP (s : ByteArray) (n : Int) (cl : List (List Int)) : Prop :=
  (knownO s = some (n, cl) ∧ inB n 0 12 = true ∧ (∀ c ∈ cl, clauseB n c = true ∧ c.length ≤ 12) ∧ cl.length ≤ 60) ∨ (n = 0 ∧ cl = [])
set_option maxRecDepth 100000 in
set_option maxHeartbeats 2000000 in
theorem l2Known_any (s : ByteArray) (w : World) (hs : s.size ≤ 10000) :
    Calls Tryz.prog 115 #[.string s] w fun e w' => ∃ (n : Int) (cv : Value), e = .returned (.agg #[.int .i64 n, cv]) ∧ ∃ cl, OwnL w' w.heap.size cv cl ∧ KnownP s n cl ∧ Ext w w' := by
  go_enter Tryz.func115, Tryz.ntmps115
  go_wp2_with (go_at_call 140; refine (ParseCnf_any s _ hs).mono ?_; rintro e w1 ⟨n, cv, ok, rfl, hx, hor⟩; have h20 : CBlk w1 w.heap.size 0 (.slice none 0 0) := (CBlk.made w 0 (.slice none 0 0)).ext hx; have q0 : ∀ o, (w1.alloc o).cell? ⟨w.heap.size, 0, none⟩ = some (.int .i64 0) := (fun o => (h20.ext ((Ext.refl _).alloc o)).cells.1); have q1 : ∀ o, (w1.alloc o).cell? ⟨w.heap.size, 1, none⟩ = some (.slice none 0 0) := (fun o => (h20.ext ((Ext.refl _).alloc o)).cells.2); have fr0 : ∀ o, (w1.alloc o).frozen? ⟨w.heap.size, 0, none⟩ = false := (fun o => (h20.ext ((Ext.refl _).alloc o)).frozen 0); have fr1 : ∀ o, (w1.alloc o).frozen? ⟨w.heap.size, 1, none⟩ = false := (fun o => (h20.ext ((Ext.refl _).alloc o)).frozen 1); obtain ⟨cl, hown, hkp⟩ : ∃ cl, OwnL w1 (w.heap.size + 1) cv cl ∧ KnownP s n cl := (by
    rcases hor with ⟨_, cl, h1, h2, h3, h4, h5⟩ | ⟨_, rfl, rfl⟩
    · exact ⟨cl, h1.mono (by simp), .inl ⟨h2, h3, h4, h5⟩⟩
    · exact ⟨[], OwnL.nil _ _, .inr ⟨rfl, rfl⟩⟩); obtain ⟨cb, cc, rfl, _, _⟩ := hown.form)
  have hne : (Value.slice cb cl.length cc).ownBlock ≠ some w.heap.size := fun e => by have := (hown.lt _ e).1; omega
  obtain ⟨hb, ho, hg⟩ := (h20.ext ((Ext.refl w1).alloc (.cells #[.int .i64 n, .slice cb cl.length cc] 26))).store (n := n) (hown.ext ((Ext.refl w1).alloc _)) hne
  refine bodyPost_ret (results_cell_row rfl _ _ w.heap.size _ _ _ _ rfl hb Tryz.underlying26 rfl (by kernel_rfl)) rfl ?_
  exact ⟨n, _, rfl, cl, ho.mono (by omega), hkp, Ext.setCell (Ext.setCell ((Ext.trans (by repeat (first | exact Ext.refl _ | assumption | apply Ext.dn | apply Ext.drew | apply Ext.alloc)) hx).trans (by repeat (first | exact Ext.refl _ | assumption | apply Ext.dn | apply Ext.drew | apply Ext.alloc))) (Nat.le_refl _) _) (Nat.le_refl _) _⟩

/-- the texts of l2Hard -/
def hardL : List ByteArray := [⟨#[49, 59, 32, 49, 59, 32, 45, 49]⟩, ⟨#[50, 59, 32, 49, 32, 50, 59, 32, 49, 32, 45, 50, 59, 32, 45, 49, 32, 50, 59, 32, 45, 49, 32, 45, 50]⟩, ⟨#[48, 59, 32, 110, 111, 110, 101]⟩, ⟨#[50, 59, 32, 49, 59, 32, 45, 49, 32, 50, 59, 32, 45, 50]⟩, ⟨#[51, 59, 32, 49, 59, 32, 45, 49, 32, 50, 59, 32, 45, 50, 32, 51, 59, 32, 45, 51]⟩, ⟨#[51, 59, 32, 49, 32, 50, 59, 32, 45, 49, 32, 51, 59, 32, 45, 50, 32, 51, 59, 32, 45, 51]⟩, ⟨#[51, 59, 32, 49, 32, 50, 59, 32, 45, 49, 32, 50, 59, 32, 45, 50, 32, 51, 59, 32, 45, 50, 32, 45, 51]⟩, ⟨#[51, 59, 32, 49, 32, 50, 32, 51, 59, 32, 49, 32, 50, 32, 45, 51, 59, 32, 49, 32, 45, 50, 59, 32, 45, 49, 32, 51, 59, 32, 45, 49, 32, 45, 51]⟩, ⟨#[50, 59, 32, 49, 32, 50, 59, 32, 45, 49, 59, 32, 45, 50, 59, 32, 49, 32, 45, 50]⟩, ⟨#[52, 59, 32, 49, 32, 50, 59, 32, 51, 32, 52, 59, 32, 45, 49, 32, 45, 51, 59, 32, 45, 50, 32, 45, 52, 59, 32, 45, 49, 32, 45, 52, 59, 32, 45, 50, 32, 45, 51]⟩, ⟨#[51, 59, 32, 49, 32, 50, 59, 32, 50, 32, 51, 59, 32, 49, 32, 51, 59, 32, 45, 49, 32, 45, 50, 59, 32, 45, 50, 32, 45, 51, 59, 32, 45, 49, 32, 45, 51]⟩, ⟨#[52, 59, 32, 49, 59, 32, 50, 59, 32, 45, 49, 32, 45, 50, 32, 51, 59, 32, 45, 51, 32, 52, 59, 32, 45, 52]⟩, ⟨#[51, 59, 32, 49, 32, 45, 50, 59, 32, 50, 32, 45, 51, 59, 32, 51, 32, 45, 49, 59, 32, 49, 32, 50, 32, 51, 59, 32, 45, 49, 32, 45, 50, 32, 45, 51]⟩, ⟨#[52, 59, 32, 49, 32, 50, 59, 32, 45, 49, 32, 45, 50, 59, 32, 50, 32, 51, 59, 32, 45, 50, 32, 45, 51, 59, 32, 51, 32, 52, 59, 32, 45, 51, 32, 45, 52, 59, 32, 49, 32, 52, 32, 45, 51, 59, 32, 45, 49, 32, 45, 52, 59, 32, 49, 32, 45, 52, 59, 32, 45, 49, 32, 52]⟩, ⟨#[50, 59, 32, 49, 59, 32, 45, 49, 59, 32, 50]⟩]
set_option maxRecDepth 100000 in
set_option maxHeartbeats 2000000 in
theorem l2Hard_any (w : World) : Calls Tryz.prog 117 #[] w fun e w' => ∃ r, e = .returned r ∧ Strs w' r hardL ∧ Ext w w' := by
  go_enter Tryz.func117, Tryz.ntmps117
  go_wp2
  go_ret
  refine ⟨_, rfl, ⟨rfl, _, _, rfl, Nat.le_refl _, by decide, .inr ⟨_, _, rfl, _, _, heap_alloc_new w _, ?_⟩⟩, (by repeat (first | exact Ext.refl _ | assumption | apply Ext.dn | apply Ext.drew | apply Ext.alloc))⟩
  intro j hj
  have : j < 15 := hj
  match j, this with
  | 0, _ => rfl
  | 1, _ => rfl
  | 2, _ => rfl
  | 3, _ => rfl
  | 4, _ => rfl
  | 5, _ => rfl
  | 6, _ => rfl
  | 7, _ => rfl
  | 8, _ => rfl
  | 9, _ => rfl
  | 10, _ => rfl
  | 11, _ => rfl
  | 12, _ => rfl
  | 13, _ => rfl
  | 14, _ => rfl
end Go.Proofs.YtfnjhodologfeaaGreat
/- of; what the hard texts stand for -/
namespace Go.Proofs.YtfnjhodologfeaaGreat
open Go.RowKit

theorem Cur.openStr {w : World} {g m : Nat} (h : Cur w g m) {v : Value} {xs : List ByteArray} (hv : Strs w v xs) : ∃ base cap, v = .slice base xs.length cap ∧ xs.length ≤ cap ∧ cap ≤ 9223372036854775807 ∧
    (∀ j, j < xs.length → ∃ b off, base = some ⟨b, off, none⟩ ∧ b < w.heap.size ∧ b ≠ g ∧ ∀ i, i < xs.length → ∃ x, xs[i]? = some x ∧ ∀ w', Keep g w w' → w'.cell? ⟨b, off + i, none⟩ = some (.string x)) := by
  obtain ⟨u, bs, a, sd, hg, _⟩ := h
  obtain ⟨h1, base, cap, h2, h3, h4, h5⟩ := hv
  refine ⟨base, cap, h2, h3, by simpa [maxLen] using h4, ?_⟩
  intro j hj
  rcases h5 with h5 | ⟨b, off, h5, h6⟩
  · omega
  · have hne : b ≠ g := by
      intro e
      subst e
      obtain ⟨cur', fz', h9, _⟩ := h6
      rw [hg] at h9
      injection h9 with h9
      injection h9 with _ h10 _
      exact absurd h10 (by decide)
    refine ⟨b, off, h5, h6.lt, hne, fun i hi => ⟨xs[i], by simp [hi], fun w' hx => ?_⟩⟩
    have := hx.cell (h6.cell i (by simpa using hi)) hne
    rw [this]
    simp [hi]
set_option maxHeartbeats 1000000 in
theorem of_any (g m : Nat) (w : World) (v : Value) (l : List ByteArray) (hc : Cur w g m) (hm : m ≤ 1000000000) (hl : Strs w v l) (hpos : 0 < l.length) :
    Calls Tryz.prog 116 #[.pointer (some ⟨g, 0, none⟩), v] w fun e w' => ∃ r : ByteArray, e = .returned (.string r) ∧ r ∈ l ∧ Keep g w w' ∧ Cur w' g (m + 2) := by
  obtain ⟨base, cap, rfl, h1, h2, hcell⟩ := hc.openStr hl
  obtain ⟨b, off, rfl, hb, hne, hcs⟩ := hcell 0 hpos
  have HCS := Lib.hid hcs
  clear hcell hcs
  go_enter Tryz.func116, Tryz.ntmps116
  go_wp2_with (go_at_call 89; refine (pick_any g m _ _ hc (by omega)).mono ?_; rintro e w1 ⟨x, rfl, hx0, hx1, hk1, hc1⟩; have hxl : x < (l.length : Int) := (by omega); obtain ⟨k, rfl⟩ := Int.eq_ofNat_of_zero_le hx0; obtain ⟨y, hy, hyc⟩ := HCS.out k (by omega); have hyc1 := hyc w1 hk1)
  go_ret
  exact ⟨y, rfl, List.mem_of_getElem? hy, hk1, hc1⟩

/-- the Cnfs of the texts -/
def hardK : List (Int × List (List Int)) := [(1, [[1], [-1]]), (2, [[1, 2], [1, -2], [-1, 2], [-1, -2]]), (0, [[]]), (2, [[1], [-1, 2], [-2]]), (3, [[1], [-1, 2], [-2, 3], [-3]]), (3, [[1, 2], [-1, 3], [-2, 3], [-3]]),
  (3, [[1, 2], [-1, 2], [-2, 3], [-2, -3]]), (3, [[1, 2, 3], [1, 2, -3], [1, -2], [-1, 3], [-1, -3]]), (2, [[1, 2], [-1], [-2], [1, -2]]), (4, [[1, 2], [3, 4], [-1, -3], [-2, -4], [-1, -4], [-2, -3]]),
  (3, [[1, 2], [2, 3], [1, 3], [-1, -2], [-2, -3], [-1, -3]]), (4, [[1], [2], [-1, -2, 3], [-3, 4], [-4]]), (3, [[1, -2], [2, -3], [3, -1], [1, 2, 3], [-1, -2, -3]]),
  (4, [[1, 2], [-1, -2], [2, 3], [-2, -3], [3, 4], [-3, -4], [1, 4, -3], [-1, -4], [1, -4], [-1, 4]]), (2, [[1], [-1], [2]])]
theorem hardK_eq : hardL.map knownO = hardK.map some := by decide
/-- a text of l2Hard stands for a Cnf of at most four variables; where there are four, it is one of two -/
theorem hard_known {s : ByteArray} (hs : s ∈ hardL) {n : Int} {cl : List (List Int)} (h : KnownP s n cl) :
    0 ≤ n ∧ n ≤ 4 ∧ cl.length ≤ 10 ∧ (∀ c ∈ cl, clauseB n c = true) ∧ (n = 4 → cl = [[1, 2], [3, 4], [-1, -3], [-2, -4], [-1, -4], [-2, -3]] ∨ cl = [[1], [2], [-1, -2, 3], [-3, 4], [-4]]) := by
  rcases h with ⟨h1, h2, h3, h4⟩ | ⟨rfl, rfl⟩
  · have hm : some (n, cl) ∈ hardK.map some := by rw [← hardK_eq, ← h1]; exact List.mem_map_of_mem hs
    have hm2 : (n, cl) ∈ hardK := by simpa using hm
    refine ⟨?_, ?_, ?_, fun c hc => (h3 c hc).1, ?_⟩
    all_goals
      simp only [hardK, List.mem_cons, Prod.mk.injEq, List.not_mem_nil, or_false] at hm2
    · omega
    · omega
    · rcases hm2 with h | h | h | h | h | h | h | h | h | h | h | h | h | h | h <;> rw [h.2] <;> decide
    · intro hn
      rcases hm2 with h | h | h | h | h | h | h | h | h | h | h | h | h | h | h
      all_goals try (exfalso; omega)
      · exact .inl h.2
      · exact .inr h.2
      · exfalso
        have := (h3 [1, 4, -3] (by rw [h.2]; decide)).1
        rw [hn] at this
        revert this
        decide
  · exact ⟨by omega, by omega, by simp, by simp, by omega⟩
end Go.Proofs.YtfnjhodologfeaaGreat
