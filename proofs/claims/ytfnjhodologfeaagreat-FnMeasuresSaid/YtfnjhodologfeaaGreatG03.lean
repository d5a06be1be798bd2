/- Parts of the proof: A3, A4, A5. -/
import Derived.Test.YtfnjhodologfeaaGreatG02
import Derived.Test.YtfnjhodologfeaaGreatG01
set_option linter.unusedSimpArgs false
set_option linter.unusedVariables false
/- l1Own, l2Without .. -/
namespace Go.Proofs.YtfnjhodologfeaaGreat
open Go.RowKit

/-- the call hands back a new slice that reads as xs; all that was there is as it was. -/
def NewI (w : World) (xs : List Int) (e : Ending) (w' : World) : Prop := ∃ r, e = .returned r ∧ OwnI w' w.heap.size r xs ∧ Ext w w'

set_option maxHeartbeats 400000 in
theorem l1Own_any (v : Value) (xs : List Int) (w : World) (hx : Ints w v xs) (hl : xs.length ≤ 1000000000) :
    Calls Tryz.prog 136 #[v] w (NewI w xs) := by
  go_enter Tryz.func136, Tryz.ntmps136
  go_wp2_with (at_builtin; refine wpList_appI rfl _ _ rfl w.heap.size _ _ [] xs rfl rfl (OwnI.empty w _ (Nat.le_refl _)) (hx.ext ((Ext.refl _).alloc _)) (by simp; omega) (by simp) ?_; intro v' w1 ho1 hg1 _)
  go_ret
  exact ⟨_, rfl, ho1, below_grown ((Below.refl _ _).alloc (Nat.le_refl _) _) (OwnI.empty w _ (Nat.le_refl _)) (by simp) hg1⟩

/-- bounded numbers: no sign change wraps. -/
def BdI (xs : List Int) : Prop := ∀ x ∈ xs, -1000000 ≤ x ∧ x ≤ 1000000
theorem BdI.at {xs : List Int} (h : BdI xs) {k : Nat} {x : Int} (hx : xs[k]? = some x) : -1000000 ≤ x ∧ x ≤ 1000000 := h x (List.mem_of_getElem? hx)

def withoutL (c : List Int) (v : Int) : List Int := c.filter fun x => absI x != v
theorem withoutL_snoc (c : List Int) (v x : Int) : withoutL (c ++ [x]) v = withoutL c v ++ (if (absI x != v) = true then [x] else []) := by
  simp [withoutL, List.filter_append, List.filter_cons]
theorem withoutL_length (c : List Int) (v : Int) : (withoutL c v).length ≤ c.length := List.length_filter_le _ _

theorem filter_yes {c : List Int} {v : Int} {k : Nat} {x : Int} (hx : c[k]? = some x) (h : (absI x != v) = true) : withoutL (c.take (k + 1)) v = withoutL (c.take k) v ++ [x] := by
  rw [take_succ_at hx, withoutL_snoc, if_pos h]
theorem filter_no {c : List Int} {v : Int} {k : Nat} {x : Int} (hx : c[k]? = some x) (h : (absI x != v) = false) : withoutL (c.take (k + 1)) v = withoutL (c.take k) v := by
  rw [take_succ_at hx, withoutL_snoc, if_neg (by simp [h]), List.append_nil]

set_option maxHeartbeats 400000 in
theorem l2Without_any (v : Value) (c : List Int) (n : Int) (w : World) (hx : Ints w v c) (hl : c.length ≤ 1000000000) (hbd : BdI c) :
    Calls Tryz.prog 132 #[v, .int .i64 n] w (NewI w (withoutL c n)) := by
  obtain ⟨base, cap, rfl, hc1, hc2, hcell⟩ := hx.open
  go_enter Tryz.func132, Tryz.ntmps132
  go_wp2
  go_loopw [5, 6] (fun o i wr => ∃ k : Nat, k ≤ c.length ∧ i = .int .i64 k ∧ OwnI wr w.heap.size o (withoutL (c.take k) n) ∧ Ext w wr) (fun _ i _ => c.length - (intOf i).toNat)
  case atStart => exact ⟨0, Nat.zero_le _, rfl, OwnI.empty w _ (Nat.le_refl _), (Ext.refl _).alloc _⟩
  case round =>
    obtain ⟨k, hk, rfl, hown, hext⟩ := hrel
    by_cases hlt : k < c.length
    · obtain ⟨b, off, rfl, hb, hcs⟩ := hcell k hlt
      obtain ⟨x, hxk, hci⟩ := hcs k hlt
      replace hci := hci wr hext
      have HX := Lib.hid hxk
      obtain ⟨hx1, hx2⟩ := hbd.at hxk
      have hwl : (withoutL (c.take k) n).length ≤ 1000000000 := by have := withoutL_length (c.take k) n; simp at this; omega
      clear hcell hcs hxk hx
      cases he : (absI x != n)
      · go_wp2_with (go_at_call 139; refine (l2Var_any _ _ (by omega) (by omega)).mono ?_; rintro e w' ⟨rfl, rfl⟩)
        exact ⟨⟨k + 1, by omega, by go_num, by rw [filter_no HX.out he]; exact hown, hext⟩, by simp [intOf]; omega⟩
      · go_wp2_with (first | (go_at_call 139; refine (l2Var_any _ _ (by omega) (by omega)).mono ?_; rintro e w' ⟨rfl, rfl⟩) | (at_builtin; refine wpList_appI rfl _ _ rfl w.heap.size _ _ _ [x] rfl rfl (hown.alloc _) (ints_one wr x) (by simp; omega) (by have := hext.size; simp; omega) ?_; intro v' w1 ho1 hg1 _))
        exact ⟨⟨k + 1, by omega, by go_num, by rw [filter_yes HX.out he]; exact ho1, below_grown (hext.alloc _) (hown.alloc _) (by have := hext.size; simp; omega) hg1⟩, by simp [intOf]; omega⟩
    · go_wp2
      go_ret
      rw [List.take_of_length_le (by omega)] at hown
      exact ⟨_, rfl, hown, hext⟩

theorem all_succ {c : List Int} {l : Int} {k : Nat} {x : Int} (h : ∀ j x, j < k → c[j]? = some x → absI x < absI l) (hx : c[k]? = some x) (he : absI x < absI l) : ∀ j x, j < k + 1 → c[j]? = some x → absI x < absI l := by
  intro j y hj hy
  by_cases hjk : j < k
  · exact h j y hjk hy
  · obtain rfl : j = k := by omega
    rw [hx] at hy
    injection hy with hy
    subst hy
    exact he

def putL (c : List Int) (l : Int) : List Int := c.takeWhile (fun x => decide (absI x < absI l)) ++ l :: c.dropWhile (fun x => decide (absI x < absI l))

theorem takeWhile_of {α : Type} {p : α → Bool} : ∀ (c : List α) (k : Nat), k ≤ c.length → (∀ j x, j < k → c[j]? = some x → p x = true) → (k = c.length ∨ ∃ x, c[k]? = some x ∧ p x = false) →
    c.takeWhile p = c.take k ∧ c.dropWhile p = c.drop k
  | [], 0, _, _, _ => ⟨rfl, rfl⟩
  | [], k + 1, h, _, _ => by simp at h
  | a :: c, 0, _, _, h => by
    rcases h with h | ⟨x, hx, hp⟩
    · simp at h
    · simp at hx; subst hx
      simp [List.takeWhile_cons, List.dropWhile_cons, hp]
  | a :: c, k + 1, hk, hall, h => by
    have ha : p a = true := hall 0 a (by omega) rfl
    have := takeWhile_of c k (by simpa using hk) (fun j x hj hx => hall (j + 1) x (by omega) (by simpa using hx)) (by
      rcases h with h | ⟨x, hx, hp⟩
      · left; simpa using h
      · right; exact ⟨x, by simpa using hx, hp⟩)
    simp [List.takeWhile_cons, List.dropWhile_cons, ha, this]

theorem putL_at {c : List Int} {l : Int} {k : Nat} (hk : k ≤ c.length) (h : ∀ j x, j < k → c[j]? = some x → absI x < absI l) (hs : k = c.length ∨ ∃ x, c[k]? = some x ∧ ¬ absI x < absI l) : putL c l = c.take k ++ l :: c.drop k := by
  obtain ⟨h1, h2⟩ := takeWhile_of (p := fun x => decide (absI x < absI l)) c k hk (fun j x hj hx => by simpa using h j x hj hx) (by
    rcases hs with h | ⟨x, hx, hp⟩
    · exact .inl h
    · exact .inr ⟨x, hx, by simpa using hp⟩)
  rw [putL, h1, h2]

set_option maxRecDepth 100000 in
set_option maxHeartbeats 1000000 in
theorem l2Put_any (v : Value) (c : List Int) (l : Int) (w : World) (hx : Ints w v c) (hl : c.length ≤ 1000000000) (hbd : BdI c) (hl1 : -1000000 ≤ l) (hl2 : l ≤ 1000000) :
    Calls Tryz.prog 133 #[v, .int .i64 l] w (NewI w (putL c l)) := by
  obtain ⟨base, cap, rfl, hc1, hc2, hcell⟩ := hx.open
  go_enter Tryz.func133, Tryz.ntmps133
  go_wp2
  go_loop [5] (fun i => ∃ k : Nat, k ≤ c.length ∧ i = .int .i64 k ∧ ∀ j x, j < k → c[j]? = some x → absI x < absI l) (fun i => c.length - (intOf i).toNat)
  case atStart => exact ⟨0, Nat.zero_le _, rfl, fun j x h => by omega⟩
  case round =>
    obtain ⟨k, hk, rfl, hless⟩ := hrel
    have HL := Lib.hid hless
    clear hless
    by_cases hgo : k < c.length ∧ ∀ x, c[k]? = some x → absI x < absI l
    · obtain ⟨hlt, hall⟩ := hgo
      obtain ⟨b, off, rfl, hb, hcs⟩ := hcell k hlt
      obtain ⟨x, hxk, hci⟩ := hcs k hlt
      replace hci := hci w (.refl _)
      have he := hall x hxk
      have HX := Lib.hid hxk
      obtain ⟨hx1, hx2⟩ := hbd.at hxk
      clear hcell hcs hxk hall
      go_wp2_with (go_at_call 139; refine (l2Var_any _ _ (by omega) (by omega)).mono ?_; rintro e w' ⟨rfl, rfl⟩)
      exact ⟨⟨k + 1, by omega, by go_num, all_succ HL.out HX.out he⟩, by simp [intOf]; omega⟩
    · have HP := Lib.hid (putL_at hk HL.out (by
        by_cases h : k = c.length
        · exact .inl h
        · exact .inr ⟨c[k]'(by omega), by simp, fun h2 => hgo ⟨by omega, fun x hx => by
            obtain ⟨_, rfl⟩ := List.getElem?_eq_some_iff.1 hx
            exact h2⟩⟩))
      by_cases hlt : k < c.length
      · obtain ⟨b, off, rfl, hb, hcs⟩ := hcell k hlt
        obtain ⟨x, hxk, hci⟩ := hcs k hlt
        replace hci := hci w (.refl _)
        have he : ¬ absI x < absI l := fun h2 => hgo ⟨hlt, fun y hy => by rw [hxk] at hy; injection hy with hy; subst hy; exact h2⟩
        obtain ⟨hx1, hx2⟩ := hbd.at hxk
        clear hcell hcs hxk hgo
        have hk0 : (0 : Int) ≤ (k : Int) := by omega
        have hkc : (k : Int) ≤ (cap : Int) := by omega
        have hkl : (k : Int) ≤ (c.length : Int) := by omega
        go_wp2_with (go_at_call 139; refine (l2Var_any _ _ (by omega) (by omega)).mono ?_; rintro e w' ⟨rfl, rfl⟩)
        go_region_held3 (fun _ => True) (trivial) (first
          | (go_at_call 136; refine (l1Own_any _ (c.take k) _ (Ints.ext (hx.hi rfl hk) (by first | exact (Ext.refl _).drew | exact ((Ext.refl _).drew).alloc _)) (by simp; omega)).mono ?_; rintro e w1 ⟨r1, rfl, ho1, he1⟩; have hE1 : Ext w w1 := Ext.trans (by first | exact (Ext.refl _).drew | exact ((Ext.refl _).drew).alloc _) he1)
          | (refine step_appI rfl (.tmp 25) (.tmp 27) rfl w.heap.size _ _ (c.take k) [l] rfl rfl (OwnI.mono (by first | exact ho1 | exact ho1.alloc _) (by simp)) (by first | exact ints_one _ _ | exact (ints_one w.drew l).ext he1) (by simp; omega) (by have := hE1.size; simp; omega) ?_; intro v2 w2 ho2 hg2 hat2; have hE2 : Ext w w2 := by first | exact below_grown hE1 (OwnI.mono ho1 (by simp)) hE1.size hg2 | exact below_grown (hE1.alloc _) (OwnI.mono (ho1.alloc _) (by simp)) (hE1.alloc _).size hg2)
          | (refine step_appI rfl (.tmp 28) (.tmp 31) rfl w.heap.size _ _ (c.take k ++ [l]) (c.drop k) rfl rfl ho2 ((hx.lo2 rfl hlt).ext hE2) (by simp; omega) hE2.size ?_; intro v3 w3 ho3 hg3 hat3; have hE3 : Ext w w3 := below_grown hE2 ho2 hE2.size hg3))
        all_goals
          go_wp2
          go_ret
          exact ⟨_, rfl, by rw [HP.out]; simpa using ho3, hE3⟩
      · obtain rfl : k = c.length := by omega
        clear hcell hgo
        have hk0 : (0 : Int) ≤ (c.length : Int) := by omega
        have hkc : (c.length : Int) ≤ (cap : Int) := by omega
        by_cases hcap : cap = c.length
        all_goals
         first | (obtain rfl : cap = c.length := hcap) | skip
         go_wp2
         go_region_held3 (fun _ => True) (trivial) (first
           | (go_at_call 136; refine (l1Own_any _ (c.take c.length) _ (Ints.ext (hx.hi rfl hk) (by first | exact (Ext.refl _).drew | exact ((Ext.refl _).drew).alloc _)) (by simp; omega)).mono ?_; rintro e w1 ⟨r1, rfl, ho1, he1⟩; have hE1 : Ext w w1 := Ext.trans (by first | exact (Ext.refl _).drew | exact ((Ext.refl _).drew).alloc _) he1)
           | (refine step_appI rfl (.tmp 25) (.tmp 27) rfl w.heap.size _ _ (c.take c.length) [l] rfl rfl (OwnI.mono (by first | exact ho1 | exact ho1.alloc _) (by simp)) (by first | exact ints_one _ _ | exact (ints_one w.drew l).ext he1) (by simp; omega) (by have := hE1.size; simp; omega) ?_; intro v2 w2 ho2 hg2 hat2; have hE2 : Ext w w2 := by first | exact below_grown hE1 (OwnI.mono ho1 (by simp)) hE1.size hg2 | exact below_grown (hE1.alloc _) (OwnI.mono (ho1.alloc _) (by simp)) (hE1.alloc _).size hg2)
           | (refine step_appI rfl (.tmp 28) (.tmp 31) rfl w.heap.size _ _ (c.take c.length ++ [l]) (c.drop c.length) rfl rfl ho2 ?_ (by rw [List.length_append, List.length_take, List.length_drop]; simp; omega) hE2.size ?_; (rw [List.drop_length]; exact ints_nil _ _ _ (by omega)); intro v3 w3 ho3 hg3 hat3; have hE3 : Ext w w3 := below_grown hE2 ho2 hE2.size hg3))
         all_goals
           go_wp2
           go_ret
           exact ⟨_, rfl, by rw [HP.out]; simpa using ho3, hE3⟩
end Go.Proofs.YtfnjhodologfeaaGreat
/- l2Join, l2Resolve -/
namespace Go.Proofs.YtfnjhodologfeaaGreat
open Go.RowKit

def joinL : List Int → List Int → Option (List Int)
  | out, [] => some out
  | out, x :: b => if hasB out (-x) = true then none else if hasB out x = true then joinL out b else joinL (putL out x) b

theorem drop_at {α : Type} {b : List α} {k : Nat} {x : α} (h : b[k]? = some x) : b.drop k = x :: b.drop (k + 1) := by
  obtain ⟨hk, rfl⟩ := List.getElem?_eq_some_iff.1 h
  exact List.drop_eq_getElem_cons hk

theorem putL_perm (c : List Int) (l : Int) : (putL c l).length = c.length + 1 ∧ ∀ x, x ∈ putL c l ↔ x = l ∨ x ∈ c := by
  have h := List.takeWhile_append_dropWhile (p := fun x => decide (absI x < absI l)) (l := c)
  constructor
  · have := congrArg List.length h
    rw [List.length_append] at this
    simp only [putL, List.length_append, List.length_cons]
    omega
  · intro x
    have : x ∈ c ↔ x ∈ c.takeWhile (fun x => decide (absI x < absI l)) ∨ x ∈ c.dropWhile (fun x => decide (absI x < absI l)) := by
      rw [← List.mem_append, h]
    rw [this]
    simp only [putL, List.mem_append, List.mem_cons]
    constructor
    · rintro (h | h | h) <;> simp [h]
    · rintro (h | h | h) <;> simp [h]
theorem putL_bd {c : List Int} {l : Int} (h : BdI c) (h1 : -1000000 ≤ l) (h2 : l ≤ 1000000) : BdI (putL c l) := by
  intro x hx
  rcases ((putL_perm c l).2 x).1 hx with rfl | hx
  · exact ⟨h1, h2⟩
  · exact h x hx

/-- two results: a new slice and whether there is one -/
def NewO (w : World) (res : Option (List Int)) (e : Ending) (w' : World) : Prop :=
  ∃ r, e = .returned (.tuple #[r, .bool res.isSome]) ∧ OwnI w' w.heap.size r (res.getD []) ∧ Ext w w'

set_option maxHeartbeats 1000000 in
theorem l2Join_any (va vb : Value) (a b : List Int) (w : World) (hx : Ints w va a) (hy : Ints w vb b) (hl : a.length ≤ 100000000) (hl2 : b.length ≤ 100000000) (hbd : BdI a) (hbd2 : BdI b) :
    Calls Tryz.prog 113 #[va, vb] w (NewO w (joinL a b)) := by
  obtain ⟨base, cap, rfl, hc1, hc2, hcell⟩ := hy.open
  go_enter Tryz.func113, Tryz.ntmps113
  go_wp2_with (go_at_call 136; refine (l1Own_any _ a _ hx (by omega)).mono ?_; rintro e w1 ⟨r1, rfl, ho1, he1⟩)
  go_loopw [6, 7] (fun o i wr => ∃ (k : Nat) (out : List Int), k ≤ b.length ∧ i = .int .i64 k ∧ OwnI wr w.heap.size o out ∧ Ext w wr ∧ BdI out ∧ out.length ≤ a.length + k ∧ joinL a b = joinL out (b.drop k)) (fun _ i _ => b.length - (intOf i).toNat)
  case atStart => exact ⟨0, a, Nat.zero_le _, rfl, ho1, he1, hbd, Nat.le_refl _, rfl⟩
  case round =>
    obtain ⟨k, out, hk, rfl, hown, hext, hbo, hlo, hj⟩ := hrel
    have HJ := Lib.hid hj
    clear hj
    by_cases hlt : k < b.length
    · obtain ⟨b', off, rfl, hb, hcs⟩ := hcell k hlt
      obtain ⟨x, hxk, hci⟩ := hcs k hlt
      replace hci := hci wr hext
      obtain ⟨hx1, hx2⟩ := hbd2.at hxk
      have HX := Lib.hid hxk
      clear hcell hcs hxk
      cases h1 : hasB out (-x)
      · cases h2 : hasB out x
        · go_wp2_with (first | (go_at_call 137; refine (l2Has_any _ out _ _ hown.ints).mono ?_; rintro e w' ⟨rfl, rfl⟩) | (go_at_call 133; refine (l2Put_any _ out _ _ hown.ints (by omega) hbo (by omega) (by omega)).mono ?_; rintro e w2 ⟨r2, rfl, ho2, he2⟩))
          refine ⟨⟨k + 1, putL out x, by omega, by go_num, ho2.mono hext.size, hext.trans he2, putL_bd hbo hx1 hx2, by have := (putL_perm out x).1; omega, ?_⟩, by simp [intOf]; omega⟩
          rw [HJ.out, drop_at HX.out, joinL, if_neg (by simp [h1]), if_neg (by simp [h2])]
        · go_wp2_with (first | (go_at_call 137; refine (l2Has_any _ out _ _ hown.ints).mono ?_; rintro e w' ⟨rfl, rfl⟩))
          refine ⟨⟨k + 1, out, by omega, by go_num, hown, hext, hbo, by omega, ?_⟩, by simp [intOf]; omega⟩
          rw [HJ.out, drop_at HX.out, joinL, if_neg (by simp [h1]), if_pos h2]
      · go_wp2_with (first | (go_at_call 137; refine (l2Has_any _ out _ _ hown.ints).mono ?_; rintro e w' ⟨rfl, rfl⟩))
        go_ret2
        have HN : joinL a b = none := by rw [HJ.out, drop_at HX.out, joinL, if_pos h1]
        rw [HN]
        exact ⟨_, rfl, OwnI.empty wr _ hext.size, hext.alloc _⟩
    · go_wp2
      go_ret2
      have HN : joinL a b = some out := by rw [HJ.out, List.drop_of_length_le (by omega), joinL]
      rw [HN]
      exact ⟨_, rfl, hown, hext⟩

def resolveL (a b : List Int) (v : Int) : Option (List Int) :=
  if hasB a v = true ∧ hasB b (-v) = true then joinL (withoutL a v) (withoutL b v) else none

theorem withoutL_bd {c : List Int} (h : BdI c) (v : Int) : BdI (withoutL c v) := fun x hx => h x (List.mem_filter.1 hx).1

set_option maxHeartbeats 1000000 in
theorem l2Resolve_any (va vb : Value) (a b : List Int) (v : Int) (w : World) (hx : Ints w va a) (hy : Ints w vb b) (hl : a.length ≤ 100000000) (hl2 : b.length ≤ 100000000) (hbd : BdI a) (hbd2 : BdI b)
    (hv1 : -1000000 ≤ v) (hv2 : v ≤ 1000000) :
    Calls Tryz.prog 138 #[va, vb, .int .i64 v] w (NewO w (resolveL a b v)) := by
  have hwa := withoutL_length a v
  have hwb := withoutL_length b v
  cases h1 : hasB a v
  · have HN := Lib.hid (show resolveL a b v = none by simp [resolveL, h1])
    go_enter Tryz.func138, Tryz.ntmps138
    go_wp2_with (first | (go_at_call 137; refine (l2Has_any _ a _ _ hx).mono ?_; rintro e w' ⟨rfl, rfl⟩))
    go_ret2
    rw [HN.out]
    exact ⟨_, rfl, OwnI.empty _ _ (Nat.le_refl _), (Ext.refl _).alloc _⟩
  · cases h2 : hasB b (-v)
    · have HN := Lib.hid (show resolveL a b v = none by simp [resolveL, h2])
      go_enter Tryz.func138, Tryz.ntmps138
      go_wp2_with (first | (go_at_call_of 137 va; refine (l2Has_any _ a _ _ hx).mono ?_; rintro e w' ⟨rfl, rfl⟩) | (go_at_call_of 137 vb; refine (l2Has_any _ b _ _ hy).mono ?_; rintro e w' ⟨rfl, rfl⟩))
      go_ret2
      rw [HN.out]
      exact ⟨_, rfl, OwnI.empty _ _ (Nat.le_refl _), (Ext.refl _).alloc _⟩
    · have HN := Lib.hid (show resolveL a b v = joinL (withoutL a v) (withoutL b v) by simp [resolveL, h1, h2])
      go_enter Tryz.func138, Tryz.ntmps138
      go_wp2_with (first
        | (go_at_call_of 137 va; refine (l2Has_any _ a _ _ hx).mono ?_; rintro e w' ⟨rfl, rfl⟩) | (go_at_call_of 137 vb; refine (l2Has_any _ b _ _ hy).mono ?_; rintro e w' ⟨rfl, rfl⟩)
        | (go_at_call_of 132 va; refine (l2Without_any _ a _ _ hx (by omega) hbd).mono ?_; rintro e w1 ⟨r1, rfl, ho1, he1⟩)
        | (go_at_call_of 132 vb; refine (l2Without_any _ b _ _ (hy.ext he1) (by omega) hbd2).mono ?_; rintro e w2 ⟨r2, rfl, ho2, he2⟩)
        | (go_at_call 113; refine (l2Join_any _ _ _ _ _ (ho1.ints.ext he2) ho2.ints (by omega) (by omega) (withoutL_bd hbd v) (withoutL_bd hbd2 v)).mono ?_; rintro e w3 ⟨r3, rfl, ho3, he3⟩))
      go_ret2
      rw [HN.out]
      exact ⟨_, rfl, ho3.mono (Nat.le_trans he1.size he2.size), (he1.trans he2).trans he3⟩
end Go.Proofs.YtfnjhodologfeaaGreat
/- l2Good, l7Clause, l7Correct, l7Wrong, l7Asked, l7Good, l8Takes -/
namespace Go.Proofs.YtfnjhodologfeaaGreat
open Go.RowKit

def clauseB (vars : Int) (c : List Int) : Bool := inB vars 0 12 && okTo vars c c.length

/-- first k clauses are fine -/
def allTo (vars : Int) (l : List (List Int)) : Nat → Bool
  | 0 => true
  | k + 1 => allTo vars l k && (match l[k]? with | some c => clauseB vars c | none => true)
theorem allTo_false {vars : Int} {l : List (List Int)} {k : Nat} {c : List Int} (hk : l[k]? = some c) (h : clauseB vars c = false) : ∀ n, k < n → allTo vars l n = false := by
  intro n
  induction n with
  | zero => intro h; omega
  | succ n ih =>
    intro hn
    simp only [allTo]
    by_cases hkn : k < n
    · rw [ih hkn]; rfl
    · obtain rfl : k = n := by omega
      rw [hk]
      simp [h]
theorem allTo_succ {vars : Int} {l : List (List Int)} {k : Nat} {c : List Int} (hk : l[k]? = some c) (h : clauseB vars c = true) (ha : allTo vars l k = true) : allTo vars l (k + 1) = true := by
  simp [allTo, ha, hk, h]

def goodCnf (f : CNF) : Bool := inB f.vars 0 12 && decide (f.clauses.length ≤ 60) && allTo f.vars f.clauses f.clauses.length

/-- a bool, and all that was there is as it was -/
def BoolE (w : World) (b : Bool) (e : Ending) (w' : World) : Prop := e = .returned (.bool b) ∧ Ext w w'

theorem boolE {w w' : World} {a b : Bool} (h : a = b) (hx : Ext w w') : BoolE w b (.returned (.bool a)) w' := ⟨ret_bool h, hx⟩

set_option maxHeartbeats 1000000 in
theorem l2Good_any (v : Value) (f : CNF) (w : World) (hx : CnfV w v f) :
    Calls Tryz.prog 111 #[v] w (BoolE w (goodCnf f)) := by
  obtain ⟨cv, rfl, hl⟩ := hx
  obtain ⟨base, cap, rfl, hc1, hc2, hcell⟩ := hl.open
  cases hv : inB f.vars 0 12
  · go_enter Tryz.func111, Tryz.ntmps111
    go_wp2_with (go_at_call 134; refine (l2Vars_any _ _).mono ?_; rintro e w' ⟨rfl, rfl⟩)
    go_ret
    exact boolE (by simp [goodCnf, hv]) ((Ext.refl _).alloc _)
  · by_cases hn : f.clauses.length ≤ 60
    · go_enter Tryz.func111, Tryz.ntmps111
      go_wp2_with (go_at_call 134; refine (l2Vars_any _ _).mono ?_; rintro e w' ⟨rfl, rfl⟩)
      obtain ⟨W0, hW0⟩ : ∃ W0, W0 = w.alloc (.cells #[.int .i64 f.vars, .slice base f.clauses.length cap] 26) := ⟨_, rfl⟩
      go_loopw [3] (fun i wr => ∃ k : Nat, k ≤ f.clauses.length ∧ i = .int .i64 k ∧ Drew W0 wr ∧ allTo f.vars f.clauses k = true) (fun i _ => f.clauses.length - (intOf i).toNat)
      case atStart => exact ⟨0, Nat.zero_le _, rfl, by rw [hW0]; exact .refl _, rfl⟩
      case round =>
        obtain ⟨k, hk, rfl, hdr, hall⟩ := hrel
        have HA := Lib.hid hall
        have hE0 : Ext w W0 := by rw [hW0]; exact (Ext.refl _).alloc _
        have hE : Ext w wr := hE0.trans hdr.ext
        have hb0 : wr.cell? ⟨w.heap.size, 0, none⟩ = some (.int .i64 f.vars) := by obtain ⟨m, rfl⟩ := hdr; rw [hW0]; simp
        have hb1 : wr.cell? ⟨w.heap.size, 1, none⟩ = some (.slice base f.clauses.length cap) := by obtain ⟨m, rfl⟩ := hdr; rw [hW0]; simp
        have HD := Lib.hid hdr
        clear hall hdr
        have HW := Lib.hid hW0
        clear hW0
        by_cases hlt : k < f.clauses.length
        · obtain ⟨b, off, rfl, hb, hcs⟩ := hcell k hlt
          obtain ⟨c, u, hck, hci⟩ := hcs k hlt
          have hcu := (hci wr hE).1
          have hcI : ∀ n, Ints (wr.drewN n) u c := fun n => (hci _ (hE.trans (Ext.drewN _ n))).2
          have HC := Lib.hid hck
          clear hcell hcs hck hci hl
          cases hcl : (inB f.vars 0 12 && okTo f.vars c c.length)
          all_goals
            go_wp2
            go_quiet (first | (go_at_call 135; exact Calls.quiet_of ((l2Clause_any _ _ _ _ (hcI _)).mono (fun _ _ h => ⟨h.1.trans (ret_bool hcl), h.2⟩))))
            go_wp2
          · go_ret
            exact boolE (by simp [goodCnf, hv, hn, allTo_false HC.out hcl _ hlt]) (hE.trans (Ext.drewN _ _))
          · exact ⟨⟨k + 1, by omega, by go_num, HD.out.more _, allTo_succ HC.out hcl HA.out⟩, by simp [intOf]; omega⟩
        · go_wp2
          go_ret
          have := HA.out
          rw [show k = f.clauses.length by omega] at this
          exact boolE (by simp [goodCnf, hv, hn, this]) hE
    · have hn' : ¬ ((f.clauses.length : Int) ≤ 60) := by omega
      go_enter Tryz.func111, Tryz.ntmps111
      go_wp2_with (go_at_call 134; refine (l2Vars_any _ _).mono ?_; rintro e w' ⟨rfl, rfl⟩)
      go_ret
      exact boolE (by simp [goodCnf, hv, hn]) ((Ext.refl _).alloc _)
/-- the clause at an index -/
def clAt (ss : List RS) (i : Int) : List Int := match ss[i.toNat]? with | some s => s.clause | none => []
theorem clAt_of {ss : List RS} {i : Int} {s : RS} (h : ss[i.toNat]? = some s) : clAt ss i = s.clause := by simp [clAt, h]
def earlierB (f : CNF) (ss : List RS) (k : Nat) (i : Int) : Bool := inB i 0 ((k : Int) - 1) && clauseB f.vars (clAt ss i)

theorem CnfV.agg {w : World} {v : Value} {f : CNF} (h : CnfV w v f) : ∃ cv, v = .agg #[.int .i64 f.vars, cv] ∧ Lists w cv f.clauses := h

set_option maxHeartbeats 1000000 in
theorem l7Clause_any (v vs : Value) (f : CNF) (ss : List RS) (k : Nat) (i : Int) (w : World) (hx : CnfV w v f) (hs : Steps w vs ss) (hk : k ≤ ss.length) :
    Calls Tryz.prog 163 #[v, vs, .int .i64 k, .int .i64 i] w (BoolE w (earlierB f ss k i)) := by
  obtain ⟨cv, rfl, hl⟩ := hx
  obtain ⟨base, cap, rfl, hc1, hc2, hcell⟩ := hs.open
  cases hi : inB i 0 ((k : Int) - 1)
  · go_enter Tryz.func163, Tryz.ntmps163
    go_wp2
    go_quiet (first | (go_at_call 161; exact Calls.quiet_of_same ((l1In_any _ _ _ _).mono (fun _ _ h => ⟨h.1.trans (ret_bool hi), h.2.symm⟩))))
    go_wp2
    go_ret
    exact boolE (by simp [earlierB, hi]) (((Ext.refl _).alloc _).trans (Ext.drewN _ _))
  · have hi2 : 0 ≤ i ∧ i ≤ (k : Int) - 1 := by simpa [inB] using hi
    obtain ⟨hi0, hi1⟩ := hi2
    obtain ⟨j, rfl⟩ : ∃ j : Nat, i = (j : Int) := ⟨i.toNat, by omega⟩
    have hlt : j < ss.length := by omega
    obtain ⟨b, off, rfl, hb, hcs⟩ := hcell j hlt
    obtain ⟨s, u, hsj, hci⟩ := hcs j hlt
    have hcu := (hci w (.refl _)).1
    have hcI : ∀ w', Ext w w' → Ints w' u s.clause := fun w' h => (hci _ h).2.2.2.2
    have HS := Lib.hid hsj
    have hjl : (j : Int) < (ss.length : Int) := by omega
    clear hcell hcs hsj hci
    cases hcl : (inB f.vars 0 12 && okTo f.vars s.clause s.clause.length)
    all_goals
      go_enter Tryz.func163, Tryz.ntmps163
      go_wp2
      go_quiet (first | (go_at_call 161; exact Calls.quiet_of_same ((l1In_any _ _ _ _).mono (fun _ _ h => ⟨h.1.trans (ret_bool hi), h.2.symm⟩))) | (go_at_call 135; exact Calls.quiet_of ((l2Clause_any _ _ _ _ (hcI _ (((Ext.refl _).alloc _).trans (Ext.drewN _ _)))).mono (fun _ _ h => ⟨h.1.trans (ret_bool hcl), h.2⟩))))
      go_wp2
      go_ret
      exact boolE (by simp [earlierB, hi, clauseB, clAt_of (i := (j : Int)) HS.out, hcl]) (((Ext.refl _).alloc _).trans (Ext.drewN _ _))

end Go.Proofs.YtfnjhodologfeaaGreat
