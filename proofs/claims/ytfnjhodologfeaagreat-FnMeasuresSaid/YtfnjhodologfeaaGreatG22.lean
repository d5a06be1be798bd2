/- Parts of the proof: K6, D3, D4. -/
import Derived.Test.YtfnjhodologfeaaGreatG21
import Derived.ChangeMaps5
set_option linter.unusedSimpArgs false
set_option linter.unusedVariables false
/- drawers: the frame; own rows while the cursor turns; append to an own row of slices -/
namespace Go.Proofs.YtfnjhodologfeaaGreat
open Go.RowKit

/-- a drawer's frame: since w0 only the cursor g and new blocks have turned -/
structure Dr (g m : Nat) (w0 w : World) : Prop where
  lt : g < w0.heap.size
  keep : Keep g w0 w
  cur : Cur w g m
theorem Dr.start {g m : Nat} {w : World} (h : Cur w g m) : Dr g m w w := ⟨h.lt, .refl _ _, h⟩
theorem Dr.draw {g m m' : Nat} {w0 w w' : World} (h : Dr g m w0 w) (hk : Keep g w w') (hc : Cur w' g m') : Dr g m' w0 w' := ⟨h.lt, h.keep.trans hk, hc⟩
theorem Dr.ext {g m : Nat} {w0 w w' : World} (h : Dr g m w0 w) (hx : Ext w w') : Dr g m w0 w' := ⟨h.lt, h.keep.trans (.of_ext hx), h.cur.ext hx⟩
theorem Dr.mono {g m m' : Nat} {w0 w : World} (h : Dr g m w0 w) (hm : m ≤ m') : Dr g m' w0 w := ⟨h.lt, h.keep, h.cur.mono hm⟩
theorem Dr.size {g m : Nat} {w0 w : World} (h : Dr g m w0 w) : w0.heap.size ≤ w.heap.size := h.keep.size
theorem Dr.trans {g m m' : Nat} {w0 w w' : World} (h : Dr g m w0 w) (k : Dr g m' w w') : Dr g m' w0 w' := ⟨h.lt, h.keep.trans k.keep, k.cur⟩
/-- a new row turns -/
theorem Dr.app {g m : Nat} {w0 w w' : World} (h : Dr g m w0 w) {B e sz n : Nat} {v : Value} {xs : List Value} (ho : w.ownsRow B e sz v n xs) (hB : w0.heap.size ≤ B) (he : goodT e = false) (hg : w.grownBy w' v.ownBlock) : Dr g m w0 w' := by
  have hlt := h.lt
  have hne : ∀ b, v.ownBlock = some b → w0.heap.size ≤ b := fun b hb => Nat.le_trans hB (ho.lt b hb).1
  refine ⟨h.lt, ⟨hg.os.trans h.keep.os, hg.tape.trans h.keep.tape, hg.output.trans h.keep.output, Nat.le_trans h.keep.size hg.size, ?_⟩, ?_⟩
  · intro k hk hkg
    have hs := h.keep.size
    rw [World.grownBy.block hg k (Nat.lt_of_lt_of_le hk hs) (fun e => by have := hne k e.symm; omega)]
    exact World.grownBy.block h.keep k hk hkg
  · obtain ⟨u, bs, a, sd, h1, h2, h3, h4⟩ := h.cur
    refine ⟨u, bs, a, sd, ?_, h2.turned hg ?_, h3, h4⟩
    · rw [World.grownBy.block hg g h.cur.lt (fun e => by have := hne g e.symm; omega)]
      exact h1
    · intro T0 hg0 b hb
      obtain ⟨cur, fz, h5⟩ := ownsRow_type ho b hb
      exact ⟨cur, fz, e, h5, goodT_ne hg0 he⟩
theorem Dr.appI {g m : Nat} {w0 w w' : World} (h : Dr g m w0 w) {B : Nat} {v : Value} {xs : List Int} (ho : OwnI w B v xs) (hB : w0.heap.size ≤ B) (hg : w.grownBy w' v.ownBlock) : Dr g m w0 w' := h.app ho hB (by decide) hg
theorem Dr.appL {g m : Nat} {w0 w w' : World} (h : Dr g m w0 w) {B : Nat} {v : Value} {xs : List (List Int)} (ho : OwnL w B v xs) (hB : w0.heap.size ≤ B) (hg : w.grownBy w' v.ownBlock) : Dr g m w0 w' := by
  obtain ⟨cvs, h1, h2, h3⟩ := ho
  exact h.app h2 hB (by decide) hg
theorem Dr.appS {g m : Nat} {w0 w w' : World} (h : Dr g m w0 w) {B : Nat} {v : Value} {xs : List RS} (ho : OwnS w B v xs) (hB : w0.heap.size ≤ B) (hg : w.grownBy w' v.ownBlock) : Dr g m w0 w' := by
  obtain ⟨cvs, h1, h2, h3⟩ := ho
  exact h.app h2 hB (by decide) hg
theorem Dr.setI {g m : Nat} {w0 w : World} (h : Dr g m w0 w) {gb n cap : Nat} {c : List Int} (ho : OwnI w w0.heap.size (.slice (some ⟨gb, 0, none⟩) n cap) c) (hn : n = c.length) (j : Nat) (x : Int) :
    OwnI (w.setCell ⟨gb, j, none⟩ (.int .i64 x)) w0.heap.size (.slice (some ⟨gb, 0, none⟩) n cap) (c.set j x) ∧ Dr g m w0 (w.setCell ⟨gb, j, none⟩ (.int .i64 x)) :=
  ⟨ho.set hn j x, h.appI ho (Nat.le_refl _) (grown_set w gb j _)⟩
theorem ownsRow_keep {w w' : World} {B g e sz n : Nat} {v : Value} {xs : List Value} (h : w.ownsRow B e sz v n xs) (hk : Keep g w w') (hg : g < B) : w'.ownsRow B e sz v n xs := by
  refine World.ownsRow.kept h hk (.inr fun e => ?_)
  have := (h.lt g e).1
  omega
theorem OwnL.keep {w w' : World} {B g m : Nat} {v : Value} {l : List (List Int)} (h : OwnL w B v l) (hc : Cur w g m) (hk : Keep g w w') (hg : g < B) : OwnL w' B v l := by
  obtain ⟨cvs, h1, h2, h3⟩ := h
  exact ⟨cvs, h1, ownsRow_keep h2 hk hg, fun i u s a b => hc.ints hk (h3 i u s a b)⟩
theorem OwnS.keep {w w' : World} {B g m : Nat} {v : Value} {l : List RS} (h : OwnS w B v l) (hc : Cur w g m) (hk : Keep g w w') (hg : g < B) : OwnS w' B v l := by
  obtain ⟨cvs, h1, h2, h3⟩ := h
  exact ⟨cvs, h1, ownsRow_keep h2 hk hg, fun i u s a b => hc.ints hk (h3 i u s a b)⟩

/-- append(v, u..) to an own row of slices -/
theorem wpList_appL {w : World} {ops : Array Oper} {rest : List Oper} {o : Oper} {a : Act} {Q : Exit → Act → World → Prop} (hgd : o.guard = none) (s x : Operand)
    (ho : o.op = .call { callee := .builtin .append, args := #[s, x], argTypes := #[24, 24] })
    (B : Nat) (v vx : Value) (xs ys : List (List Int)) (hsv : a.eval s = v) (hxv : a.eval x = vx) (hown : OwnL w B v xs) (hs : Lists w vx ys) (hlen : xs.length + ys.length ≤ 1099511627776) (hB : B ≤ w.heap.size)
    (h : ∀ v' w', OwnL w' B v' (xs ++ ys) → w.grownBy w' v.ownBlock → (v'.ownBlock = v.ownBlock ∨ v'.ownBlock = some w.heap.size) → wpList Tryz.prog ops Q rest (a.put o.dst v') w') : wpList Tryz.prog ops Q (o :: rest) a w := by
  refine wpList_plain hgd fun K hK => ?_
  obtain ⟨i, hi, hz0, hz1, hz2⟩ := info_parts Tryz.infoL
  obtain ⟨cvs, h1, h2, h3⟩ := hown
  obtain ⟨cys, k1, k2, k3⟩ := hs
  have hone : ∀ x ∈ cys, x.oneCell' = true := by
    intro u hu
    obtain ⟨j, hj, rfl⟩ := List.mem_iff_getElem.1 hu
    exact (k3 j _ _ (List.getElem?_eq_getElem hj) (List.getElem?_eq_getElem (by omega))).one
  obtain ⟨v', w', hrun, g2, g3, g4⟩ := run_append_sl (P := Tryz.prog) w B 24 o.type 33 i (.slice none 0 0) 1 24 Tryz.underlying24 hi hz0 hz1 hz2 rfl (by decide) v xs.length cvs h2 vx ys.length 33 cys k2 hone
    (by simp only [maxLen]; omega) (by omega) hB
  unfold Oper.wp execOp
  simp only [ho, resolve, invoke, builtin, Sem.run_bind, Sem.run_pure, Result.andThen_ok, List.map_toArray, List.map_cons, List.map_nil, hsv, hxv, hrun]
  have hT : ∀ b, v.ownBlock = some b → ∃ cur fz T, w.heap[b]? = some (.cells cur T fz) ∧ T ≠ 3 := fun b hb => by
    obtain ⟨cur, fz, h5⟩ := ownsRow_type h2 b hb
    exact ⟨cur, fz, _, h5, by decide⟩
  refine hK _ _ (h v' w' ⟨cvs ++ cys, by simp [h1, k1], by rw [List.length_append]; exact g2, ?_⟩ g3 g4)
  intro j u l hu hl
  by_cases hj : j < xs.length
  · rw [List.getElem?_append_left (by omega)] at hu
    rw [List.getElem?_append_left (by omega)] at hl
    exact (h3 j u l hu hl).turned g3 hT
  · rw [List.getElem?_append_right (by omega), h1] at hu
    rw [List.getElem?_append_right (by omega)] at hl
    exact (k3 _ u l hu hl).turned g3 hT
end Go.Proofs.YtfnjhodologfeaaGreat
/- clause, anyClause -/
namespace Go.Proofs.YtfnjhodologfeaaGreat
open Go.RowKit

theorem ints_eight (w : World) (a b c d e f g h : Int) : Ints (w.alloc (.cells #[.int .i64 a, .int .i64 b, .int .i64 c, .int .i64 d, .int .i64 e, .int .i64 f, .int .i64 g, .int .i64 h] 3)) (.slice (some ⟨w.heap.size, 0, none⟩) 8 8) [a, b, c, d, e, f, g, h] :=
  ⟨rfl, _, _, rfl, Nat.le_refl _, by decide, .inr ⟨_, _, rfl, _, _, heap_alloc_new w _, fun j hj => by
    have : j < 8 := by simpa using hj
    match j, this with
    | 0, _ => rfl
    | 1, _ => rfl
    | 2, _ => rfl
    | 3, _ => rfl
    | 4, _ => rfl
    | 5, _ => rfl
    | 6, _ => rfl
    | 7, _ => rfl⟩⟩
theorem putL_length (c : List Int) (l : Int) : (putL c l).length = c.length + 1 := by
  have hsplit : c.takeWhile (fun x => decide (absI x < absI l)) ++ c.dropWhile (fun x => decide (absI x < absI l)) = c := List.takeWhile_append_dropWhile
  have := congrArg List.length hsplit
  unfold putL
  simp only [List.length_append, List.length_cons] at this ⊢
  omega

set_option maxRecDepth 100000 in
set_option maxHeartbeats 2000000 in
theorem cclause_any (g m : Nat) (w : World) (vars : Int) (hc : Cur w g m) (hm : m ≤ 100000000) (hv : vars ≤ 1000) :
    Calls Tryz.prog 110 #[.pointer (some ⟨g, 0, none⟩), .int .i64 vars] w fun e w' => ∃ r, e = .returned r ∧ ∃ c, OwnI w' w.heap.size r c ∧ OkC vars c ∧ c.length ≤ 4 ∧ Keep g w w' ∧ Cur w' g (m + 20) := by
  have hgB := hc.lt
  have hI := ints_eight (w.alloc (.cells #[] 3)) 1 2 2 3 3 4 0 2
  simp only [World.size_alloc] at hI
  go_enter Tryz.func110, Tryz.ntmps110
  go_wp2_with (go_at_call 91; refine (among_any g m _ _ [1, 2, 2, 3, 3, 4, 0, 2] (hc.ext (by repeat (first | exact Ext.refl _ | assumption | apply Ext.dn | apply Ext.drew | apply Ext.alloc))) (by omega) hI (by simp)).mono ?_; rintro e w2 ⟨x, rfl, hx, hk2, hc2⟩)
  have hx4 : 0 ≤ x ∧ x ≤ 4 := by simp at hx; omega
  have hkk : Keep g w w2 := (Keep.of_ext (by repeat (first | exact Ext.refl _ | assumption | apply Ext.dn | apply Ext.drew | apply Ext.alloc))).trans hk2
  go_loopw [5, 6] (fun o i wr => ∃ (k : Nat) (n : Int) (c : List Int), i = .int .i64 n ∧ n = x - k ∧ 0 ≤ n ∧ OwnI wr w.heap.size o c ∧ OkC vars c ∧ c.length ≤ k ∧ Keep g w wr ∧ Cur wr g (m + 2 + 4 * k)) (fun _ i _ => (intOf i).toNat)
  case atStart => exact ⟨0, x, [], rfl, by omega, by omega, ((OwnI.empty w w.heap.size (Nat.le_refl _)).ext (by repeat (first | exact Ext.refl _ | assumption | apply Ext.dn | apply Ext.drew | apply Ext.alloc))).keep hk2 hgB, OkC.nil _, by simp, hkk, hc2⟩
  case round =>
    obtain ⟨k, n, c, rfl, hn, hn0, hown, hok, hlen, hK, hcu⟩ := hrel
    obtain ⟨ob, oc, rfl, _, _, _⟩ := hown.ints.open
    by_cases hn1 : n > 0
    · by_cases hv1 : vars > 0
      · go_wp2_with (first | (go_at_call 133; refine (l2Put_any _ _ _ _ ho5.ints (by have := withoutL_length c (1 + y); omega) (hok.without _ |>.bd (by omega)) (by omega) (by omega)).mono ?_; rintro e w6 ⟨r6, rfl, ho6, he6⟩) | (go_at_call 86; refine (one_any g (m + 2 + 4 * k + 2) _ _ hc4 (by omega)).mono ?_; rintro e w5 ⟨b5, rfl, hk5, hc5⟩; have ho5 := ho4.keep hk5 (by have := hc3.lt; omega)) | (go_at_call 132; refine (l2Without_any _ c _ _ (hown.keep hk3 hgB).ints (by omega) (hok.bd (by omega))).mono ?_; rintro e w4 ⟨r4, rfl, ho4, he4⟩; have hc4 := hc3.ext he4) | (go_at_call 89; refine (pick_any g (m + 2 + 4 * k) _ _ hcu (by omega)).mono ?_; rintro e w3 ⟨y, rfl, hy0, hy1, hk3, hc3⟩))
        all_goals
          have ha : absI (1 + y) = 1 + y := by unfold absI; rw [if_neg (by omega)]
          have ha2 : absI (-(1 + y)) = 1 + y := by unfold absI; rw [if_pos (by omega)]; omega
          have hs3 := hk3.size
          have hs4 := he4.size
          have hs5 := hk5.size
          have hs := hK.size
          have hn2 := without_none c (1 + y)
          refine ⟨⟨k + 1, x - k - 1, _, rfl, by omega, by omega, ho6.mono (by omega), putL_ok (hok.without _) (by omega) (by first | rw [ha2]; exact hn2 | rw [ha]; exact hn2), (by rw [putL_length]; have := withoutL_length c (1 + y); omega), hK.trans (hk3.trans ((Keep.of_ext he4).trans (hk5.trans (Keep.of_ext he6)))), (hc5.ext he6).mono (by omega)⟩, by simp [intOf]; omega⟩
      · go_wp2
        go_ret
        exact ⟨_, rfl, _, hown, hok, by omega, hK, hcu.mono (by omega)⟩
    · go_wp2
      go_ret
      exact ⟨_, rfl, _, hown, hok, by omega, hK, hcu.mono (by omega)⟩

theorem ints_four (w : World) (a b c d : Int) : Ints (w.alloc (.cells #[.int .i64 a, .int .i64 b, .int .i64 c, .int .i64 d] 3)) (.slice (some ⟨w.heap.size, 0, none⟩) 4 4) [a, b, c, d] :=
  ⟨rfl, _, _, rfl, Nat.le_refl _, by decide, .inr ⟨_, _, rfl, _, _, heap_alloc_new w _, fun j hj => by
    have : j < 4 := by simpa using hj
    match j, this with
    | 0, _ => rfl
    | 1, _ => rfl
    | 2, _ => rfl
    | 3, _ => rfl⟩⟩
set_option maxRecDepth 100000 in
set_option maxHeartbeats 2000000 in
theorem anyClause_any (g m : Nat) (w : World) (vars : Int) (hc : Cur w g m) (hm : m ≤ 10000000) (hv : vars ≤ 1000) (hv0 : -1000 ≤ vars) :
    Calls Tryz.prog 90 #[.pointer (some ⟨g, 0, none⟩), .int .i64 vars] w fun e w' => ∃ r, e = .returned r ∧ ∃ c, OwnI w' w.heap.size r c ∧ c.length ≤ 5 ∧ Keep g w w' ∧ Cur w' g (m + 40) := by
  have hgB := hc.lt
  go_enter Tryz.func90, Tryz.ntmps90
  go_wp2_with (go_at_call 110; refine (cclause_any g m _ vars hc (by omega) (by omega)).mono ?_; rintro e w1 ⟨r1, rfl, c, ho1, hok, hlen, hk1, hc1⟩; have hd1 := (Dr.start hc).draw hk1 hc1)
  rcases ho1.form with ⟨rfl, rfl⟩ | ⟨gb, cap, rfl, hcap1, hcap2, hgb1, hgb2⟩
  · go_wp2_with (first | (go_at_call 89; refine (pick_any g (m + 20) _ _ hc1 (by omega)).mono ?_; rintro e w2 ⟨y, rfl, hy0, hy1, hk2, hc2⟩; have hd2 := hd1.draw hk2 hc2; have ho2 := ho1.keep hk2 hgB; (try have a0 := ho2.at rfl (j := 0) (x := x0) rfl); (try obtain ⟨a00, a01⟩ := a0); (try have a1 := ho2.at rfl (j := 1) (x := x1) rfl); (try obtain ⟨a10, a11⟩ := a1)) | (go_at_call 121; refine (lit_any g (m + 20 + 2) _ _ hc2 (by omega) (by omega) (by omega)).mono ?_; rintro e w3 ⟨x, rfl, hk3, hc3⟩; have hd3 := hd2.draw hk3 hc3; have ho3 := ho2.keep hk3 hgB) | (at_builtin; refine wpList_appI rfl _ _ rfl w.heap.size _ _ _ [x] rfl rfl (ho3.ext (by repeat (first | exact Ext.refl _ | assumption | apply Ext.dn | apply Ext.drew | apply Ext.alloc))) (ints_one _ _) (by simp <;> omega) (by have := hd3.size; simp; omega) ?_; intro v' w4 ho4 hg4 _; have hd4 := (hd3.ext (by repeat (first | exact Ext.refl _ | assumption | apply Ext.dn | apply Ext.drew | apply Ext.alloc))).appI (ho3.ext (by repeat (first | exact Ext.refl _ | assumption | apply Ext.dn | apply Ext.drew | apply Ext.alloc))) (Nat.le_refl _) hg4))
    all_goals
      go_ret
      first
        | exact ⟨_, rfl, _, ho4, by simp, hd4.keep, hd4.cur.mono (by omega)⟩
        | exact ⟨_, rfl, _, ho2, by simp, hd2.keep, hd2.cur.mono (by omega)⟩
  · rcases c with _ | ⟨x0, _ | ⟨x1, ct⟩⟩
    · simp only [List.length_nil] at ho1 hcap1 ⊢
      go_wp2_with (first | (go_at_call 89; refine (pick_any g (m + 20) _ _ hc1 (by omega)).mono ?_; rintro e w2 ⟨y, rfl, hy0, hy1, hk2, hc2⟩; have hd2 := hd1.draw hk2 hc2; have ho2 := ho1.keep hk2 hgB; (try have a0 := ho2.at rfl (j := 0) (x := x0) rfl); (try obtain ⟨a00, a01⟩ := a0); (try have a1 := ho2.at rfl (j := 1) (x := x1) rfl); (try obtain ⟨a10, a11⟩ := a1)) | (go_at_call 121; refine (lit_any g (m + 20 + 2) _ _ hc2 (by omega) (by omega) (by omega)).mono ?_; rintro e w3 ⟨x, rfl, hk3, hc3⟩; have hd3 := hd2.draw hk3 hc3; have ho3 := ho2.keep hk3 hgB) | (go_at_call 91; refine (among_any g (m + 20 + 2) _ _ [0, vars + 1, -vars - 1, -9223372036854775808] (hc2.ext (by repeat (first | exact Ext.refl _ | assumption | apply Ext.dn | apply Ext.drew | apply Ext.alloc))) (by omega) (ints_four _ _ _ _ _) (by simp)).mono ?_; rintro e w3 ⟨x, rfl, hx, hk3, hc3⟩; have hd3 := (hd2.ext (by repeat (first | exact Ext.refl _ | assumption | apply Ext.dn | apply Ext.drew | apply Ext.alloc))).draw hk3 hc3; have ho3 := (ho2.ext (by repeat (first | exact Ext.refl _ | assumption | apply Ext.dn | apply Ext.drew | apply Ext.alloc))).keep hk3 hgB; (try have b0 := ho3.at rfl (j := 0) (x := x0) rfl); (try obtain ⟨b00, b01⟩ := b0)) | (at_builtin; refine wpList_appI rfl _ _ rfl w.heap.size _ _ _ [x] rfl rfl (ho3.ext (by repeat (first | exact Ext.refl _ | assumption | apply Ext.dn | apply Ext.drew | apply Ext.alloc))) (ints_one _ _) (by simp <;> omega) (by have := hd3.size; simp; omega) ?_; intro v' w4 ho4 hg4 _; have hd4 := (hd3.ext (by repeat (first | exact Ext.refl _ | assumption | apply Ext.dn | apply Ext.drew | apply Ext.alloc))).appI (ho3.ext (by repeat (first | exact Ext.refl _ | assumption | apply Ext.dn | apply Ext.drew | apply Ext.alloc))) (Nat.le_refl _) hg4))
      all_goals
        go_ret
        first
          | exact ⟨_, rfl, _, ho4, by simp, hd4.keep, hd4.cur.mono (by omega)⟩
          | exact ⟨_, rfl, _, ho2, by simp, hd2.keep, hd2.cur.mono (by omega)⟩
    · simp only [List.length_nil, List.length_cons, Nat.zero_add] at ho1 hcap1 ⊢
      go_wp2_with (first | (go_at_call 89; refine (pick_any g (m + 20) _ _ hc1 (by omega)).mono ?_; rintro e w2 ⟨y, rfl, hy0, hy1, hk2, hc2⟩; have hd2 := hd1.draw hk2 hc2; have ho2 := ho1.keep hk2 hgB; (try have a0 := ho2.at rfl (j := 0) (x := x0) rfl); (try obtain ⟨a00, a01⟩ := a0); (try have a1 := ho2.at rfl (j := 1) (x := x1) rfl); (try obtain ⟨a10, a11⟩ := a1)) | (go_at_call 121; refine (lit_any g (m + 20 + 2) _ _ hc2 (by omega) (by omega) (by omega)).mono ?_; rintro e w3 ⟨x, rfl, hk3, hc3⟩; have hd3 := hd2.draw hk3 hc3; have ho3 := ho2.keep hk3 hgB) | (go_at_call 91; refine (among_any g (m + 20 + 2) _ _ [0, vars + 1, -vars - 1, -9223372036854775808] (hc2.ext (by repeat (first | exact Ext.refl _ | assumption | apply Ext.dn | apply Ext.drew | apply Ext.alloc))) (by omega) (ints_four _ _ _ _ _) (by simp)).mono ?_; rintro e w3 ⟨x, rfl, hx, hk3, hc3⟩; have hd3 := (hd2.ext (by repeat (first | exact Ext.refl _ | assumption | apply Ext.dn | apply Ext.drew | apply Ext.alloc))).draw hk3 hc3; have ho3 := (ho2.ext (by repeat (first | exact Ext.refl _ | assumption | apply Ext.dn | apply Ext.drew | apply Ext.alloc))).keep hk3 hgB; (try have b0 := ho3.at rfl (j := 0) (x := x0) rfl); (try obtain ⟨b00, b01⟩ := b0)) | (at_builtin; refine wpList_appI rfl _ _ rfl w.heap.size _ _ _ [x] rfl rfl (ho3.ext (by repeat (first | exact Ext.refl _ | assumption | apply Ext.dn | apply Ext.drew | apply Ext.alloc))) (ints_one _ _) (by simp <;> omega) (by have := hd3.size; simp; omega) ?_; intro v' w4 ho4 hg4 _; have hd4 := (hd3.ext (by repeat (first | exact Ext.refl _ | assumption | apply Ext.dn | apply Ext.drew | apply Ext.alloc))).appI (ho3.ext (by repeat (first | exact Ext.refl _ | assumption | apply Ext.dn | apply Ext.drew | apply Ext.alloc))) (Nat.le_refl _) hg4))
      all_goals
        go_ret
        first
          | exact ⟨_, rfl, _, ho4, by simp, hd4.keep, hd4.cur.mono (by omega)⟩
          | exact ⟨_, rfl, _, (hd3.setI ho3 rfl 0 x).1, by simp, (hd3.setI ho3 rfl 0 x).2.keep, (hd3.setI ho3 rfl 0 x).2.cur.mono (by omega)⟩
          | exact ⟨_, rfl, _, ho2, by simp, hd2.keep, hd2.cur.mono (by omega)⟩
    · simp only [List.length_cons] at ho1 hcap1 hlen ⊢
      go_wp2_with (first | (go_at_call 89; refine (pick_any g (m + 20) _ _ hc1 (by omega)).mono ?_; rintro e w2 ⟨y, rfl, hy0, hy1, hk2, hc2⟩; have hd2 := hd1.draw hk2 hc2; have ho2 := ho1.keep hk2 hgB; (try have a0 := ho2.at rfl (j := 0) (x := x0) rfl); (try obtain ⟨a00, a01⟩ := a0); (try have a1 := ho2.at rfl (j := 1) (x := x1) rfl); (try obtain ⟨a10, a11⟩ := a1)) | (go_at_call 121; refine (lit_any g (m + 20 + 2) _ _ hc2 (by omega) (by omega) (by omega)).mono ?_; rintro e w3 ⟨x, rfl, hk3, hc3⟩; have hd3 := hd2.draw hk3 hc3; have ho3 := ho2.keep hk3 hgB) | (go_at_call 91; refine (among_any g (m + 20 + 2) _ _ [0, vars + 1, -vars - 1, -9223372036854775808] (hc2.ext (by repeat (first | exact Ext.refl _ | assumption | apply Ext.dn | apply Ext.drew | apply Ext.alloc))) (by omega) (ints_four _ _ _ _ _) (by simp)).mono ?_; rintro e w3 ⟨x, rfl, hx, hk3, hc3⟩; have hd3 := (hd2.ext (by repeat (first | exact Ext.refl _ | assumption | apply Ext.dn | apply Ext.drew | apply Ext.alloc))).draw hk3 hc3; have ho3 := (ho2.ext (by repeat (first | exact Ext.refl _ | assumption | apply Ext.dn | apply Ext.drew | apply Ext.alloc))).keep hk3 hgB; (try have b0 := ho3.at rfl (j := 0) (x := x0) rfl); (try obtain ⟨b00, b01⟩ := b0)) | (at_builtin; refine wpList_appI rfl _ _ rfl w.heap.size _ _ _ [x] rfl rfl (ho3.ext (by repeat (first | exact Ext.refl _ | assumption | apply Ext.dn | apply Ext.drew | apply Ext.alloc))) (ints_one _ _) (by simp <;> omega) (by have := hd3.size; simp; omega) ?_; intro v' w4 ho4 hg4 _; have hd4 := (hd3.ext (by repeat (first | exact Ext.refl _ | assumption | apply Ext.dn | apply Ext.drew | apply Ext.alloc))).appI (ho3.ext (by repeat (first | exact Ext.refl _ | assumption | apply Ext.dn | apply Ext.drew | apply Ext.alloc))) (Nat.le_refl _) hg4))
      all_goals
        go_ret
        first
          | exact ⟨_, rfl, _, ho4, by simp; omega, hd4.keep, hd4.cur.mono (by omega)⟩
          | exact ⟨_, rfl, _, (hd3.setI ho3 rfl 0 x).1, by simp; omega, (hd3.setI ho3 rfl 0 x).2.keep, (hd3.setI ho3 rfl 0 x).2.cur.mono (by omega)⟩
          | exact ⟨_, rfl, _, ((hd2.setI ho2 rfl 0 x1).2.setI (hd2.setI ho2 rfl 0 x1).1 rfl 1 x0).1, by simp; omega, ((hd2.setI ho2 rfl 0 x1).2.setI (hd2.setI ho2 rfl 0 x1).1 rfl 1 x0).2.keep, ((hd2.setI ho2 rfl 0 x1).2.setI (hd2.setI ho2 rfl 0 x1).1 rfl 1 x0).2.cur.mono (by omega)⟩
          | exact ⟨_, rfl, _, ho2, by simp; omega, hd2.keep, hd2.cur.mono (by omega)⟩
end Go.Proofs.YtfnjhodologfeaaGreat
/- strings: l1Split -/
namespace Go.Proofs.YtfnjhodologfeaaGreat
open Go.RowKit

theorem Tryz.infoStr : (Tryz.prog.info? 9).map (fun i => (i.zero, i.size, i.bytes)) = some (some (.string ⟨#[]⟩), 1, 16) := by kernel_rfl
abbrev encStr (s : ByteArray) : Value := .string s
def Strs (w : World) (v : Value) (l : List ByteArray) : Prop := Sl w v 9 1 l.length (l.map encStr)
def OwnStr (w : World) (B : Nat) (v : Value) (l : List ByteArray) : Prop := w.ownsRow B 9 1 v l.length (l.map encStr)
theorem OwnStr.strs {w : World} {B : Nat} {v : Value} {l : List ByteArray} (h : OwnStr w B v l) : Strs w v l := own_sl h
theorem OwnStr.ext {w w' : World} {B : Nat} {v : Value} {l : List ByteArray} (h : OwnStr w B v l) (hx : Ext w w') : OwnStr w' B v l := own_ext h hx
theorem OwnStr.empty (w : World) (B : Nat) (hB : B ≤ w.heap.size) : OwnStr (w.alloc (.cells #[] 9)) B (.slice (some ⟨w.heap.size, 0, none⟩) 0 0) [] :=
  World.ownsRow_lit w #[] 0 hB (by simp) rfl
theorem Strs.ext {w w' : World} {v : Value} {l : List ByteArray} (h : Strs w v l) (hx : Ext w w') : Strs w' v l := Sl.ext h hx
theorem Strs.open {w : World} {v : Value} {xs : List ByteArray} (h : Strs w v xs) :
    ∃ base cap, v = .slice base xs.length cap ∧ xs.length ≤ cap ∧ cap ≤ 9223372036854775807 ∧
      (∀ j, j < xs.length → ∃ b off, base = some ⟨b, off, none⟩ ∧ b < w.heap.size ∧ ∀ i, i < xs.length → ∃ x, xs[i]? = some x ∧ ∀ w', Ext w w' → w'.cell? ⟨b, off + i, none⟩ = some (.string x)) := by
  obtain ⟨h1, base, cap, h2, h3, h4, h5⟩ := h
  refine ⟨base, cap, h2, h3, by simpa [maxLen] using h4, ?_⟩
  intro j hj
  rcases h5 with h5 | ⟨b, off, h5, h6⟩
  · omega
  · refine ⟨b, off, h5, h6.lt, fun i hi => ⟨xs[i], by simp [hi], fun w' hx => ?_⟩⟩
    have := (h6.of_block (hx.block h6.lt)).cell i (by simpa using hi)
    rw [this]
    simp [hi]
theorem wpList_appStr {w : World} {ops : Array Oper} {rest : List Oper} {o : Oper} {a : Act} {Q : Exit → Act → World → Prop} (hgd : o.guard = none) (s x : Operand)
    (ho : o.op = .call { callee := .builtin .append, args := #[s, x], argTypes := #[102, 102] })
    (B : Nat) (v vx : Value) (xs ys : List ByteArray) (hsv : a.eval s = v) (hxv : a.eval x = vx) (hown : OwnStr w B v xs) (hs : Strs w vx ys) (hlen : xs.length + ys.length ≤ 109951162777) (hB : B ≤ w.heap.size)
    (h : ∀ v' w', OwnStr w' B v' (xs ++ ys) → w.grownBy w' v.ownBlock → (v'.ownBlock = v.ownBlock ∨ v'.ownBlock = some w.heap.size) → wpList Tryz.prog ops Q rest (a.put o.dst v') w') : wpList Tryz.prog ops Q (o :: rest) a w := by
  refine wpList_plain hgd fun K hK => ?_
  obtain ⟨i, hi, hz0, hz1, hz2⟩ := info_parts Tryz.infoStr
  obtain ⟨v', w', hrun, h2, h3, h4⟩ := run_append_sl (P := Tryz.prog) w B 102 o.type 9 i (.string ⟨#[]⟩) 1 16 Tryz.underlying102 hi hz0 hz1 hz2 rfl (by decide) v xs.length (xs.map encStr) hown vx ys.length 9 (ys.map encStr) hs (by intro u hu; obtain ⟨s, _, rfl⟩ := List.mem_map.1 hu; rfl)
    (by simp only [maxLen]; omega) (by omega) hB
  unfold Oper.wp execOp
  simp only [ho, resolve, invoke, builtin, Sem.run_bind, Sem.run_pure, Result.andThen_ok, List.map_toArray, List.map_cons, List.map_nil, hsv, hxv, hrun]
  refine hK _ _ (h v' w' ?_ h3 h4)
  unfold OwnStr
  rw [List.length_append, List.map_append]
  exact h2
theorem strs_one (w : World) (x : ByteArray) : Strs (w.alloc (.cells #[.string x] 9)) (.slice (some ⟨w.heap.size, 0, none⟩) 1 1) [x] :=
  ⟨rfl, _, _, rfl, Nat.le_refl _, by simp [maxLen], .inr ⟨_, _, rfl, _, _, heap_alloc_new w _, by intro j h; simp at h; subst h; rfl⟩⟩

def byteAt (s : ByteArray) (k : Nat) : Nat := (s.data.toList.getD k 0).toNat
theorem byteAt_eq {s : ByteArray} {k : Nat} (h : k < s.size) : s[k].toNat = byteAt s k := by
  have h2 : k < s.data.toList.length := by rw [Array.length_toList]; exact h
  unfold byteAt List.getD
  rw [List.getElem?_eq_getElem h2]
  rfl
def cutB (s : ByteArray) (a b : Nat) : ByteArray := ⟨⟨(s.data.toList.drop a).take (b - a)⟩⟩
theorem cut_eq (s : ByteArray) (a b : Nat) : s.extract a b = cutB s a b := by
  unfold cutB
  apply ByteArray.ext
  rw [ByteArray.data_extract]
  apply Array.ext'
  rw [Array.toList_extract]
theorem cutB_size (s : ByteArray) (a b : Nat) : (cutB s a b).size ≤ s.size := by
  have : (cutB s a b).size = ((s.data.toList.drop a).take (b - a)).length := rfl
  rw [this, List.length_take, List.length_drop]
  have : s.data.toList.length = s.size := Array.length_toList
  omega
def splitTo (s : ByteArray) (b : Nat) : Nat → List ByteArray × Nat
  | 0 => ([], 0)
  | k + 1 => if byteAt s k = b then ((splitTo s b k).1 ++ [cutB s (splitTo s b k).2 k], k + 1) else splitTo s b k
def splitL (s : ByteArray) (b : Nat) : List ByteArray := (splitTo s b s.size).1 ++ [cutB s (splitTo s b s.size).2 s.size]
theorem splitTo_bd (s : ByteArray) (b : Nat) : ∀ k, (splitTo s b k).2 ≤ k ∧ (splitTo s b k).1.length ≤ k
  | 0 => by simp [splitTo]
  | k + 1 => by
    have := splitTo_bd s b k
    rw [splitTo]
    split
    · simp; omega
    · omega
theorem splitTo_size (s : ByteArray) (b : Nat) : ∀ k, ∀ x ∈ (splitTo s b k).1, x.size ≤ s.size
  | 0, x, h => by simp [splitTo] at h
  | k + 1, x, h => by
    rw [splitTo] at h
    split at h
    · rcases List.mem_append.1 h with h | h
      · exact splitTo_size s b k x h
      · simp at h; subst h; exact cutB_size _ _ _
    · exact splitTo_size s b k x h
theorem splitL_size (s : ByteArray) (b : Nat) : ∀ x ∈ splitL s b, x.size ≤ s.size := by
  intro x h
  rcases List.mem_append.1 h with h | h
  · exact splitTo_size s b _ x h
  · simp at h; subst h; exact cutB_size _ _ _
theorem splitL_length (s : ByteArray) (b : Nat) : 1 ≤ (splitL s b).length ∧ (splitL s b).length ≤ s.size + 1 := by
  have := (splitTo_bd s b s.size).2
  simp [splitL]; omega
def NewStr (w : World) (l : List ByteArray) (e : Ending) (w' : World) : Prop := ∃ r, e = .returned r ∧ OwnStr w' w.heap.size r l ∧ Ext w w'
theorem OwnStr.below {w0 w w' : World} {v : Value} {l : List ByteArray} (h : OwnStr w w0.heap.size v l) (hx : Ext w0 w) (hg : w.grownBy w' v.ownBlock) : Ext w0 w' := below_grown hx h hx.size hg

set_option maxRecDepth 100000 in
set_option maxHeartbeats 2000000 in
theorem l1Split_any (s : ByteArray) (b : Nat) (w : World) (hs : s.size ≤ 100000) :
    Calls Tryz.prog 164 #[.string s, .int .u8 b] w (NewStr w (splitL s b)) := by
  go_enter Tryz.func164, Tryz.ntmps164
  go_wp2
  go_loopw [5, 6, 7] (fun o f i wr => ∃ (k fr : Nat) (l : List ByteArray), i = .int .i64 k ∧ f = .int .i64 fr ∧ k ≤ s.size ∧ fr ≤ k ∧ l.length ≤ k ∧ OwnStr wr w.heap.size o l ∧ Ext w wr ∧ splitTo s b k = (l, fr)) (fun _ _ i _ => s.size - (intOf i).toNat)
  case atStart => exact ⟨0, 0, [], rfl, rfl, by omega, by omega, by simp, OwnStr.empty _ _ (Nat.le_refl _), (by repeat (first | exact Ext.refl _ | assumption | apply Ext.dn | apply Ext.drew | apply Ext.alloc)), rfl⟩
  case round =>
    obtain ⟨k, fr, l, rfl, rfl, hk, hfr, hll, hown, hE, hsp⟩ := hrel
    obtain ⟨ob, oc, rfl, _, _, _⟩ := hown.strs.open
    have hEs := hE.size
    have HSP := Lib.hid hsp
    clear hsp
    by_cases hlt : k < s.size
    · go_wp2_with (at_builtin; refine wpList_appStr rfl _ _ rfl w.heap.size _ _ l [s.extract fr k] rfl rfl (hown.ext (by repeat (first | exact Ext.refl _ | assumption | apply Ext.dn | apply Ext.drew | apply Ext.alloc))) (strs_one _ _) (by simp; omega) (by simp; omega) ?_; intro v' w4 ho4 hg4 _; have hE4 := (hown.ext (by repeat (first | exact Ext.refl _ | assumption | apply Ext.dn | apply Ext.drew | apply Ext.alloc))).below (hE.trans (by repeat (first | exact Ext.refl _ | assumption | apply Ext.dn | apply Ext.drew | apply Ext.alloc))) hg4)
      · have hbt : ((s[k].toNat : Int) == (b : Int)) = true := by assumption
        have hb : byteAt s k = b := by rw [← byteAt_eq hlt]; have := eq_of_beq hbt; omega
        refine ⟨⟨k + 1, k + 1, l ++ [s.extract fr k], rfl, rfl, hlt, Nat.le_refl _, by simp; omega, ho4, hE4, ?_⟩, by simp [intOf]; omega⟩
        rw [splitTo, if_pos hb, HSP.out, cut_eq]
      · have hbt : ((s[k].toNat : Int) == (b : Int)) = false := by assumption
        have hb : ¬ byteAt s k = b := by rw [← byteAt_eq hlt]; intro e; rw [e] at hbt; simp at hbt
        refine ⟨⟨k + 1, fr, l, rfl, rfl, hlt, by omega, by omega, hown, hE, ?_⟩, by simp [intOf]; omega⟩
        rw [splitTo, if_neg hb, HSP.out]
    · obtain rfl : k = s.size := by omega
      go_wp2_with (at_builtin; refine wpList_appStr rfl _ _ rfl w.heap.size _ _ l [s.extract fr s.size] rfl rfl (hown.ext (by repeat (first | exact Ext.refl _ | assumption | apply Ext.dn | apply Ext.drew | apply Ext.alloc))) (strs_one _ _) (by simp; omega) (by simp; omega) ?_; intro v' w4 ho4 hg4 _; have hE4 := (hown.ext (by repeat (first | exact Ext.refl _ | assumption | apply Ext.dn | apply Ext.drew | apply Ext.alloc))).below (hE.trans (by repeat (first | exact Ext.refl _ | assumption | apply Ext.dn | apply Ext.drew | apply Ext.alloc))) hg4)
      go_ret
      refine ⟨_, rfl, ?_, hE4⟩
      rw [splitL, HSP.out, ← cut_eq]
      exact ho4
end Go.Proofs.YtfnjhodologfeaaGreat
