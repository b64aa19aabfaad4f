/- The walks, eighteenth text: searches in slices; queues that are right (the program's). -/
import Derived.Test.YtkganhdglmbpoaaGreatWr
set_option linter.unusedVariables false
set_option linter.unusedSimpArgs false
set_option maxRecDepth 100000
set_option maxHeartbeats 8000000
namespace Go.Wl
open Go Go.RowKit Go.Pw Go.Proofs
/-- The place of the first one, or -1. -/
def idx {α : Type} (f : α → Bool) : List α → Int
  | [] => -1
  | x :: l => if f x then 0 else if idx f l < 0 then -1 else idx f l + 1
theorem idx_ge {α : Type} (f : α → Bool) : ∀ l : List α, -1 ≤ idx f l
  | [] => by simp [idx]
  | x :: l => by
    have := idx_ge f l
    simp only [idx]; split
    · omega
    · split <;> omega
theorem idx_at {α : Type} {f : α → Bool} : ∀ {l : List α} {i : Nat} {x : α}, (∀ (j : Nat) (y : α), j < i → l[j]? = some y → f y = false) → l[i]? = some x → f x = true → idx f l = i
  | [], i, x, _, h, _ => by simp at h
  | z :: l, 0, x, _, h, hf => by simp at h; subst h; simp [idx, hf]
  | z :: l, i + 1, x, hn, h, hf => by
    have h1 := hn 0 z (by omega) rfl
    have := idx_at (l := l) (i := i) (x := x) (fun j y hj hy => hn (j + 1) y (by omega) (by simpa using hy)) (by simpa using h) hf
    simp only [idx, h1, this]
    rw [if_neg (by decide), if_neg (by omega)]; omega
theorem idx_none {α : Type} {f : α → Bool} : ∀ {l : List α}, (∀ (j : Nat) (y : α), l[j]? = some y → f y = false) → idx f l = -1
  | [], _ => rfl
  | z :: l, hn => by
    have h1 := hn 0 z rfl
    have := idx_none (l := l) (fun j y hy => hn (j + 1) y (by simpa using hy))
    simp [idx, h1, this]
theorem idx_some {α : Type} {f : α → Bool} : ∀ {l : List α}, 0 ≤ idx f l → ∃ (i : Nat) (x : α), idx f l = i ∧ l[i]? = some x ∧ f x = true ∧ ∀ (j : Nat) (y : α), j < i → l[j]? = some y → f y = false
  | [], h => by simp [idx] at h
  | z :: l, h => by
    simp only [idx] at h ⊢
    split at h
    · rename_i h1
      exact ⟨0, z, by simp [h1], rfl, h1, fun j y hj => by omega⟩
    · rename_i h1
      split at h
      · omega
      · rename_i h2
        obtain ⟨i, x, e1, e2, e3, e4⟩ := idx_some (f := f) (l := l) (by omega)
        refine ⟨i + 1, x, by rw [if_neg h1, if_neg h2, e1]; omega, by simpa using e2, e3, fun j y hj hy => ?_⟩
        cases j with
        | zero => simp at hy; subst hy; simpa using h1
        | succ j => exact e4 j y (by omega) (by simpa using hy)
theorem idx_no {α : Type} {f : α → Bool} : ∀ {l : List α}, idx f l < 0 → ∀ x ∈ l, f x = false
  | [], _, x, hx => by cases hx
  | z :: l, h, x, hx => by
    simp only [idx] at h
    split at h
    · omega
    · rename_i h1
      split at h
      · rename_i h2
        rcases List.mem_cons.1 hx with rfl | hx
        · simpa using h1
        · exact idx_no h2 x hx
      · rename_i h2; omega
theorem idx_any {α : Type} (f : α → Bool) (l : List α) : decide (0 ≤ idx f l) = l.any f := by
  by_cases h : 0 ≤ idx f l
  · obtain ⟨i, x, e1, e2, e3, e4⟩ := idx_some h
    rw [decide_eq_true h]
    exact (List.any_eq_true.2 ⟨x, List.mem_of_getElem? e2, e3⟩).symm
  · rw [decide_eq_false h]
    refine (List.any_eq_false.2 fun x hx => ?_).symm
    rw [idx_no (f := f) (l := l) (by omega) x hx]; simp
/- slices.IndexFunc[[]impl.Item,impl.Item] -/
theorem slices_IndexFunc__impl_Item_impl_Item_spec (q : List Item) (g : Nat) (caps : List PV) (f : Item → Bool) (hc : freeL caps = true) (hq : q.length ≤ 16777216) (hf : ∀ (i : Nat) (x : Item), q[i]? = some x → Pw.Spec Tryz.prog g ([.agg (eItem x)] ++ caps) (fun r => r = eT (f x))) : Pw.Spec Tryz.prog 112 [eItems q, .fn g caps] (fun res_ => res_ = eI (idx f q)) := by
  refine spec_of (n := 19) Tryz.call112 Tryz.func112 rfl rfl (by simp) rfl (by show (true && (freeL caps && true)) = true; rw [hc]; rfl) fun W Z => ?_
  refine PW.seq ?_
  refine PW.region ?_
  refine PL.run 1 rfl ?_
  refine PL.nil ?_
  refine PW.seq ?_
  refine PW.seq ?_
  refine PW.region ?_
  refine PL.run 3 rfl ?_
  refine PL.nil ?_
  refine PW.block ?_
  refine PW.loopAt (α := Nat) (fun i => ⟨[(0, eItems q), (1, .fn g caps), (6, eItems q), (7, eI ((q.map eItem).length : Nat)), (8, eI (i : Int))], PH.none⟩) (fun i => i ≤ q.length ∧ ∀ j y, j < i → q[j]? = some y → f y = false) (fun i => q.length - i) 0 (Le.free ⟨⟨rfl, rfl⟩, ⟨rfl, hc⟩, ⟨rfl, rfl⟩, ⟨rfl, rfl⟩, ⟨rfl, rfl⟩, trivial⟩) ⟨Nat.zero_le _, fun j y h => by omega⟩ (fun i hi => ?_)
  refine PW.seq ?_
  refine PW.region ?_
  refine PL.run 1 rfl ?_
  refine PL.nil ?_
  refine PW.seq ?_
  refine PW.cond rfl (fun h1 => ?_) (fun h1 => ?_)
  ·
    have hlt : i < q.length := by simpa using h1
    clear h1
    obtain ⟨x, hx⟩ : ∃ y, q[i]? = some y := ⟨_, List.getElem?_eq_getElem hlt⟩
    refine PW.skip ?_
    refine PW.seq ?_
    refine PW.block ?_
    refine PW.seq ?_
    refine PW.region ?_
    refine PL.run 2 rfl ?_
    refine PL.nil ?_
    refine PW.seq ?_
    refine PW.region ?_
    refine PL.run 3 rfl ?_
    refine PL.val (OpV.idx rfl rfl rfl (nat_nonneg i) (map_at' hx) rfl rfl rfl rfl) (wantV_ok rfl) rfl ?_
    refine PL.run 1 rfl ?_
    refine PL.call rfl rfl rfl (hf i x hx) (wkl_refl _) (fun p hp => by subst hp; rfl) (wantV_ok rfl) rfl (fun p hp => ?_)
    subst hp
    refine PL.nil ?_
    refine PW.cond rfl (fun h2 => ?_) (fun h2 => ?_)
    ·
      refine PW.seq ?_
      refine PW.region ?_
      refine PL.run 2 rfl ?_
      refine PL.nil ?_
      refine PW.ret ?_
      refine RetOk.free rfl rfl (congrArg eI ?_)
      exact (idx_at hi.2 hx h2).symm
    ·
      refine PW.skip ?_
      refine PW.region ?_
      refine PL.run 2 rfl ?_
      refine PL.nil ?_
      refine ⟨i + 1, Le.free ⟨⟨rfl, rfl⟩, ⟨rfl, hc⟩, ⟨rfl, rfl⟩, ⟨rfl, rfl⟩, ⟨inc_ok (by omega), rfl⟩, trivial⟩, ⟨hlt, fun j y hj hy => ?_⟩, by omega⟩
      by_cases e : j = i
      · subst e; rw [hx] at hy; cases hy; exact h2
      · exact hi.2 j y (by omega) hy
  ·
    refine PW.exit ?_
    refine PW.seq ?_
    refine PW.region ?_
    refine PL.run 1 rfl ?_
    refine PL.nil ?_
    refine PW.ret ?_
    refine RetOk.free rfl rfl (congrArg eI ?_)
    have hge : q.length ≤ i := by simpa using h1
    exact (idx_none fun j y hy => hi.2 j y (by have := (List.getElem?_eq_some_iff.1 hy).1; omega) hy).symm
/- slices.ContainsFunc[[]impl.Item,impl.Item] -/
theorem slices_ContainsFunc__impl_Item_impl_Item_spec (q : List Item) (g : Nat) (caps : List PV) (f : Item → Bool) (hc : freeL caps = true) (hq : q.length ≤ 16777216) (hf : ∀ (i : Nat) (x : Item), q[i]? = some x → Pw.Spec Tryz.prog g ([.agg (eItem x)] ++ caps) (fun r => r = eT (f x))) : Pw.Spec Tryz.prog 73 [eItems q, .fn g caps] (fun res_ => res_ = eT (q.any f)) := by
  refine spec_of (n := 9) Tryz.call73 Tryz.func73 rfl rfl (by simp) rfl (by show (true && (freeL caps && true)) = true; rw [hc]; rfl) fun W Z => ?_
  refine PW.seq ?_
  refine PW.region ?_
  refine PL.run 1 rfl ?_
  refine PL.nil ?_
  refine PW.seq ?_
  refine PW.region ?_
  refine PL.run 2 rfl ?_
  refine PL.call rfl rfl rfl (slices_IndexFunc__impl_Item_impl_Item_spec q g caps f hc hq hf) (.cons (.refl _) <| .cons (.refl _) <| .nil) (fun p hp => by subst hp; rfl) (wantV_ok rfl) rfl (fun p hp => ?_)
  subst hp
  refine PL.run 2 rfl ?_
  refine PL.nil ?_
  refine PW.ret ?_
  refine RetOk.free rfl rfl (congrArg eT ?_)
  exact idx_any f q
/- slices.IndexFunc[[]impl.Wire,impl.Wire] -/
theorem slices_IndexFunc__impl_Wire_impl_Wire_spec (q : List Wire) (g : Nat) (caps : List PV) (f : Wire → Bool) (hc : freeL caps = true) (hq : q.length ≤ 16777216) (hf : ∀ (i : Nat) (x : Wire), q[i]? = some x → Pw.Spec Tryz.prog g ([.agg (eWire x)] ++ caps) (fun r => r = eT (f x))) : Pw.Spec Tryz.prog 95 [eWires q, .fn g caps] (fun res_ => res_ = eI (idx f q)) := by
  refine spec_of (n := 19) Tryz.call95 Tryz.func95 rfl rfl (by simp) rfl (by show (true && (freeL caps && true)) = true; rw [hc]; rfl) fun W Z => ?_
  refine PW.seq ?_
  refine PW.region ?_
  refine PL.run 1 rfl ?_
  refine PL.nil ?_
  refine PW.seq ?_
  refine PW.seq ?_
  refine PW.region ?_
  refine PL.run 3 rfl ?_
  refine PL.nil ?_
  refine PW.block ?_
  refine PW.loopAt (α := Nat) (fun i => ⟨[(0, eWires q), (1, .fn g caps), (6, eWires q), (7, eI ((q.map eWire).length : Nat)), (8, eI (i : Int))], PH.none⟩) (fun i => i ≤ q.length ∧ ∀ j y, j < i → q[j]? = some y → f y = false) (fun i => q.length - i) 0 (Le.free ⟨⟨rfl, rfl⟩, ⟨rfl, hc⟩, ⟨rfl, rfl⟩, ⟨rfl, rfl⟩, ⟨rfl, rfl⟩, trivial⟩) ⟨Nat.zero_le _, fun j y h => by omega⟩ (fun i hi => ?_)
  refine PW.seq ?_
  refine PW.region ?_
  refine PL.run 1 rfl ?_
  refine PL.nil ?_
  refine PW.seq ?_
  refine PW.cond rfl (fun h1 => ?_) (fun h1 => ?_)
  ·
    have hlt : i < q.length := by simpa using h1
    clear h1
    obtain ⟨x, hx⟩ : ∃ y, q[i]? = some y := ⟨_, List.getElem?_eq_getElem hlt⟩
    refine PW.skip ?_
    refine PW.seq ?_
    refine PW.block ?_
    refine PW.seq ?_
    refine PW.region ?_
    refine PL.run 2 rfl ?_
    refine PL.nil ?_
    refine PW.seq ?_
    refine PW.region ?_
    refine PL.run 3 rfl ?_
    refine PL.val (OpV.idx rfl rfl rfl (nat_nonneg i) (map_at' hx) rfl rfl rfl rfl) (wantV_ok rfl) rfl ?_
    refine PL.run 1 rfl ?_
    refine PL.call rfl rfl rfl (hf i x hx) (wkl_refl _) (fun p hp => by subst hp; rfl) (wantV_ok rfl) rfl (fun p hp => ?_)
    subst hp
    refine PL.nil ?_
    refine PW.cond rfl (fun h2 => ?_) (fun h2 => ?_)
    ·
      refine PW.seq ?_
      refine PW.region ?_
      refine PL.run 2 rfl ?_
      refine PL.nil ?_
      refine PW.ret ?_
      refine RetOk.free rfl rfl (congrArg eI ?_)
      exact (idx_at hi.2 hx h2).symm
    ·
      refine PW.skip ?_
      refine PW.region ?_
      refine PL.run 2 rfl ?_
      refine PL.nil ?_
      refine ⟨i + 1, Le.free ⟨⟨rfl, rfl⟩, ⟨rfl, hc⟩, ⟨rfl, rfl⟩, ⟨rfl, rfl⟩, ⟨inc_ok (by omega), rfl⟩, trivial⟩, ⟨hlt, fun j y hj hy => ?_⟩, by omega⟩
      by_cases e : j = i
      · subst e; rw [hx] at hy; cases hy; exact h2
      · exact hi.2 j y (by omega) hy
  ·
    refine PW.exit ?_
    refine PW.seq ?_
    refine PW.region ?_
    refine PL.run 1 rfl ?_
    refine PL.nil ?_
    refine PW.ret ?_
    refine RetOk.free rfl rfl (congrArg eI ?_)
    have hge : q.length ≤ i := by simpa using h1
    exact (idx_none fun j y hy => hi.2 j y (by have := (List.getElem?_eq_some_iff.1 hy).1; omega) hy).symm
/- slices.ContainsFunc[[]impl.Wire,impl.Wire] -/
theorem slices_ContainsFunc__impl_Wire_impl_Wire_spec (q : List Wire) (g : Nat) (caps : List PV) (f : Wire → Bool) (hc : freeL caps = true) (hq : q.length ≤ 16777216) (hf : ∀ (i : Nat) (x : Wire), q[i]? = some x → Pw.Spec Tryz.prog g ([.agg (eWire x)] ++ caps) (fun r => r = eT (f x))) : Pw.Spec Tryz.prog 46 [eWires q, .fn g caps] (fun res_ => res_ = eT (q.any f)) := by
  refine spec_of (n := 9) Tryz.call46 Tryz.func46 rfl rfl (by simp) rfl (by show (true && (freeL caps && true)) = true; rw [hc]; rfl) fun W Z => ?_
  refine PW.seq ?_
  refine PW.region ?_
  refine PL.run 1 rfl ?_
  refine PL.nil ?_
  refine PW.seq ?_
  refine PW.region ?_
  refine PL.run 2 rfl ?_
  refine PL.call rfl rfl rfl (slices_IndexFunc__impl_Wire_impl_Wire_spec q g caps f hc hq hf) (.cons (.refl _) <| .cons (.refl _) <| .nil) (fun p hp => by subst hp; rfl) (wantV_ok rfl) rfl (fun p hp => ?_)
  subst hp
  refine PL.run 2 rfl ?_
  refine PL.nil ?_
  refine PW.ret ?_
  refine RetOk.free rfl rfl (congrArg eT ?_)
  exact idx_any f q
/- slices.IndexFunc[[]impl.Sent,impl.Sent] -/
theorem slices_IndexFunc__impl_Sent_impl_Sent_spec (q : List Sent) (g : Nat) (caps : List PV) (f : Sent → Bool) (hc : freeL caps = true) (hq : q.length ≤ 16777216) (hf : ∀ (i : Nat) (x : Sent), q[i]? = some x → Pw.Spec Tryz.prog g ([.agg (eSent x)] ++ caps) (fun r => r = eT (f x))) : Pw.Spec Tryz.prog 98 [eSents q, .fn g caps] (fun res_ => res_ = eI (idx f q)) := by
  refine spec_of (n := 19) Tryz.call98 Tryz.func98 rfl rfl (by simp) rfl (by show (true && (freeL caps && true)) = true; rw [hc]; rfl) fun W Z => ?_
  refine PW.seq ?_
  refine PW.region ?_
  refine PL.run 1 rfl ?_
  refine PL.nil ?_
  refine PW.seq ?_
  refine PW.seq ?_
  refine PW.region ?_
  refine PL.run 3 rfl ?_
  refine PL.nil ?_
  refine PW.block ?_
  refine PW.loopAt (α := Nat) (fun i => ⟨[(0, eSents q), (1, .fn g caps), (6, eSents q), (7, eI ((q.map eSent).length : Nat)), (8, eI (i : Int))], PH.none⟩) (fun i => i ≤ q.length ∧ ∀ j y, j < i → q[j]? = some y → f y = false) (fun i => q.length - i) 0 (Le.free ⟨⟨rfl, rfl⟩, ⟨rfl, hc⟩, ⟨rfl, rfl⟩, ⟨rfl, rfl⟩, ⟨rfl, rfl⟩, trivial⟩) ⟨Nat.zero_le _, fun j y h => by omega⟩ (fun i hi => ?_)
  refine PW.seq ?_
  refine PW.region ?_
  refine PL.run 1 rfl ?_
  refine PL.nil ?_
  refine PW.seq ?_
  refine PW.cond rfl (fun h1 => ?_) (fun h1 => ?_)
  ·
    have hlt : i < q.length := by simpa using h1
    clear h1
    obtain ⟨x, hx⟩ : ∃ y, q[i]? = some y := ⟨_, List.getElem?_eq_getElem hlt⟩
    refine PW.skip ?_
    refine PW.seq ?_
    refine PW.block ?_
    refine PW.seq ?_
    refine PW.region ?_
    refine PL.run 2 rfl ?_
    refine PL.nil ?_
    refine PW.seq ?_
    refine PW.region ?_
    refine PL.run 3 rfl ?_
    refine PL.val (OpV.idx rfl rfl rfl (nat_nonneg i) (map_at' hx) rfl rfl rfl rfl) (wantV_ok rfl) rfl ?_
    refine PL.run 1 rfl ?_
    refine PL.call rfl rfl rfl (hf i x hx) (wkl_refl _) (fun p hp => by subst hp; rfl) (wantV_ok rfl) rfl (fun p hp => ?_)
    subst hp
    refine PL.nil ?_
    refine PW.cond rfl (fun h2 => ?_) (fun h2 => ?_)
    ·
      refine PW.seq ?_
      refine PW.region ?_
      refine PL.run 2 rfl ?_
      refine PL.nil ?_
      refine PW.ret ?_
      refine RetOk.free rfl rfl (congrArg eI ?_)
      exact (idx_at hi.2 hx h2).symm
    ·
      refine PW.skip ?_
      refine PW.region ?_
      refine PL.run 2 rfl ?_
      refine PL.nil ?_
      refine ⟨i + 1, Le.free ⟨⟨rfl, rfl⟩, ⟨rfl, hc⟩, ⟨rfl, rfl⟩, ⟨rfl, rfl⟩, ⟨inc_ok (by omega), rfl⟩, trivial⟩, ⟨hlt, fun j y hj hy => ?_⟩, by omega⟩
      by_cases e : j = i
      · subst e; rw [hx] at hy; cases hy; exact h2
      · exact hi.2 j y (by omega) hy
  ·
    refine PW.exit ?_
    refine PW.seq ?_
    refine PW.region ?_
    refine PL.run 1 rfl ?_
    refine PL.nil ?_
    refine PW.ret ?_
    refine RetOk.free rfl rfl (congrArg eI ?_)
    have hge : q.length ≤ i := by simpa using h1
    exact (idx_none fun j y hy => hi.2 j y (by have := (List.getElem?_eq_some_iff.1 hy).1; omega) hy).symm
/- slices.ContainsFunc[[]impl.Sent,impl.Sent] -/
theorem slices_ContainsFunc__impl_Sent_impl_Sent_spec (q : List Sent) (g : Nat) (caps : List PV) (f : Sent → Bool) (hc : freeL caps = true) (hq : q.length ≤ 16777216) (hf : ∀ (i : Nat) (x : Sent), q[i]? = some x → Pw.Spec Tryz.prog g ([.agg (eSent x)] ++ caps) (fun r => r = eT (f x))) : Pw.Spec Tryz.prog 49 [eSents q, .fn g caps] (fun res_ => res_ = eT (q.any f)) := by
  refine spec_of (n := 9) Tryz.call49 Tryz.func49 rfl rfl (by simp) rfl (by show (true && (freeL caps && true)) = true; rw [hc]; rfl) fun W Z => ?_
  refine PW.seq ?_
  refine PW.region ?_
  refine PL.run 1 rfl ?_
  refine PL.nil ?_
  refine PW.seq ?_
  refine PW.region ?_
  refine PL.run 2 rfl ?_
  refine PL.call rfl rfl rfl (slices_IndexFunc__impl_Sent_impl_Sent_spec q g caps f hc hq hf) (.cons (.refl _) <| .cons (.refl _) <| .nil) (fun p hp => by subst hp; rfl) (wantV_ok rfl) rfl (fun p hp => ?_)
  subst hp
  refine PL.run 2 rfl ?_
  refine PL.nil ?_
  refine PW.ret ?_
  refine RetOk.free rfl rfl (congrArg eT ?_)
  exact idx_any f q
/- slices.IndexFunc[[][]byte,[]byte] -/
theorem slices_IndexFunc___byte__byte_spec (q : List (List UInt8)) (g : Nat) (caps : List PV) (f : (List UInt8) → Bool) (hc : freeL caps = true) (hq : q.length ≤ 16777216) (hf : ∀ (i : Nat) (x : (List UInt8)), q[i]? = some x → Pw.Spec Tryz.prog g ([eBs x] ++ caps) (fun r => r = eT (f x))) : Pw.Spec Tryz.prog 129 [eBss q, .fn g caps] (fun res_ => res_ = eI (idx f q)) := by
  refine spec_of (n := 19) Tryz.call129 Tryz.func129 rfl rfl (by simp) rfl (by show (true && (freeL caps && true)) = true; rw [hc]; rfl) fun W Z => ?_
  refine PW.seq ?_
  refine PW.region ?_
  refine PL.run 1 rfl ?_
  refine PL.nil ?_
  refine PW.seq ?_
  refine PW.seq ?_
  refine PW.region ?_
  refine PL.run 3 rfl ?_
  refine PL.nil ?_
  refine PW.block ?_
  refine PW.loopAt (α := Nat) (fun i => ⟨[(0, eBss q), (1, .fn g caps), (6, eBss q), (7, eI ((q.map eBss1).length : Nat)), (8, eI (i : Int))], PH.none⟩) (fun i => i ≤ q.length ∧ ∀ j y, j < i → q[j]? = some y → f y = false) (fun i => q.length - i) 0 (Le.free ⟨⟨rfl, rfl⟩, ⟨rfl, hc⟩, ⟨rfl, rfl⟩, ⟨rfl, rfl⟩, ⟨rfl, rfl⟩, trivial⟩) ⟨Nat.zero_le _, fun j y h => by omega⟩ (fun i hi => ?_)
  refine PW.seq ?_
  refine PW.region ?_
  refine PL.run 1 rfl ?_
  refine PL.nil ?_
  refine PW.seq ?_
  refine PW.cond rfl (fun h1 => ?_) (fun h1 => ?_)
  ·
    have hlt : i < q.length := by simpa using h1
    clear h1
    obtain ⟨x, hx⟩ : ∃ y, q[i]? = some y := ⟨_, List.getElem?_eq_getElem hlt⟩
    refine PW.skip ?_
    refine PW.seq ?_
    refine PW.block ?_
    refine PW.seq ?_
    refine PW.region ?_
    refine PL.run 2 rfl ?_
    refine PL.nil ?_
    refine PW.seq ?_
    refine PW.region ?_
    refine PL.run 3 rfl ?_
    refine PL.val (OpV.idx rfl rfl rfl (nat_nonneg i) (map_at' hx) rfl rfl rfl rfl) (wantV_ok rfl) rfl ?_
    refine PL.run 1 rfl ?_
    refine PL.call rfl rfl rfl (hf i x hx) (wkl_refl _) (fun p hp => by subst hp; rfl) (wantV_ok rfl) rfl (fun p hp => ?_)
    subst hp
    refine PL.nil ?_
    refine PW.cond rfl (fun h2 => ?_) (fun h2 => ?_)
    ·
      refine PW.seq ?_
      refine PW.region ?_
      refine PL.run 2 rfl ?_
      refine PL.nil ?_
      refine PW.ret ?_
      refine RetOk.free rfl rfl (congrArg eI ?_)
      exact (idx_at hi.2 hx h2).symm
    ·
      refine PW.skip ?_
      refine PW.region ?_
      refine PL.run 2 rfl ?_
      refine PL.nil ?_
      refine ⟨i + 1, Le.free ⟨⟨rfl, rfl⟩, ⟨rfl, hc⟩, ⟨rfl, rfl⟩, ⟨rfl, rfl⟩, ⟨inc_ok (by omega), rfl⟩, trivial⟩, ⟨hlt, fun j y hj hy => ?_⟩, by omega⟩
      by_cases e : j = i
      · subst e; rw [hx] at hy; cases hy; exact h2
      · exact hi.2 j y (by omega) hy
  ·
    refine PW.exit ?_
    refine PW.seq ?_
    refine PW.region ?_
    refine PL.run 1 rfl ?_
    refine PL.nil ?_
    refine PW.ret ?_
    refine RetOk.free rfl rfl (congrArg eI ?_)
    have hge : q.length ≤ i := by simpa using h1
    exact (idx_none fun j y hy => hi.2 j y (by have := (List.getElem?_eq_some_iff.1 hy).1; omega) hy).symm
/- slices.ContainsFunc[[][]byte,[]byte] -/
theorem slices_ContainsFunc___byte__byte_spec (q : List (List UInt8)) (g : Nat) (caps : List PV) (f : (List UInt8) → Bool) (hc : freeL caps = true) (hq : q.length ≤ 16777216) (hf : ∀ (i : Nat) (x : (List UInt8)), q[i]? = some x → Pw.Spec Tryz.prog g ([eBs x] ++ caps) (fun r => r = eT (f x))) : Pw.Spec Tryz.prog 93 [eBss q, .fn g caps] (fun res_ => res_ = eT (q.any f)) := by
  refine spec_of (n := 9) Tryz.call93 Tryz.func93 rfl rfl (by simp) rfl (by show (true && (freeL caps && true)) = true; rw [hc]; rfl) fun W Z => ?_
  refine PW.seq ?_
  refine PW.region ?_
  refine PL.run 1 rfl ?_
  refine PL.nil ?_
  refine PW.seq ?_
  refine PW.region ?_
  refine PL.run 2 rfl ?_
  refine PL.call rfl rfl rfl (slices_IndexFunc___byte__byte_spec q g caps f hc hq hf) (.cons (.refl _) <| .cons (.refl _) <| .nil) (fun p hp => by subst hp; rfl) (wantV_ok rfl) rfl (fun p hp => ?_)
  subst hp
  refine PL.run 2 rfl ?_
  refine PL.nil ?_
  refine PW.ret ?_
  refine RetOk.free rfl rfl (congrArg eT ?_)
  exact idx_any f q
def same2 (x y : Item) : Bool := decide (y.route = x.route) && decide (y.topic = x.topic)
/- impl.QueueOk$1 -/
theorem impl_QueueOk_1_spec (x y : Item) : Pw.Spec Tryz.prog 121 [.agg (eItem y), .rp (eItem x)] (fun res_ => res_ = eT (same2 x y)) := by
  refine spec_of (n := 16) Tryz.call121 Tryz.func121 rfl rfl (by simp) rfl rfl fun W Z => ?_
  refine PW.seq ?_
  refine PW.region ?_
  refine PL.run 2 rfl ?_
  refine PL.nil ?_
  refine PW.seq ?_
  refine PW.region ?_
  refine PL.run 6 rfl ?_
  refine PL.split (t := 9) rfl (fun h1 => ?_) (fun h1 => ?_)
  ·
    refine PL.run 7 rfl ?_
    refine PL.nil ?_
    refine PW.ret ?_
    refine RetOk.free rfl rfl (congrArg eT ?_)
    simp_all [same2]
  ·
    refine PL.run 7 rfl ?_
    refine PL.nil ?_
    refine PW.ret ?_
    refine RetOk.free rfl rfl (congrArg eT ?_)
    simp_all [same2]
/- impl.Put$1 -/
theorem impl_Put_1_spec (x y : Item) : Pw.Spec Tryz.prog 149 [.agg (eItem y), .rp (eItem x)] (fun res_ => res_ = eT (same2 x y)) := by
  refine spec_of (n := 16) Tryz.call149 Tryz.func149 rfl rfl (by simp) rfl rfl fun W Z => ?_
  refine PW.seq ?_
  refine PW.region ?_
  refine PL.run 2 rfl ?_
  refine PL.nil ?_
  refine PW.seq ?_
  refine PW.region ?_
  refine PL.run 6 rfl ?_
  refine PL.split (t := 9) rfl (fun h1 => ?_) (fun h1 => ?_)
  ·
    refine PL.run 7 rfl ?_
    refine PL.nil ?_
    refine PW.ret ?_
    refine RetOk.free rfl rfl (congrArg eT ?_)
    simp_all [same2]
  ·
    refine PL.run 7 rfl ?_
    refine PL.nil ?_
    refine PW.ret ?_
    refine RetOk.free rfl rfl (congrArg eT ?_)
    simp_all [same2]
/- impl.Due$1 -/
theorem impl_Due_1_spec (now : Int) (y : Item) : Pw.Spec Tryz.prog 153 [.agg (eItem y), .rp [eI now]] (fun res_ => res_ = eT (decide (y.due < now))) := by
  refine spec_of (n := 8) Tryz.call153 Tryz.func153 rfl rfl (by simp) rfl rfl fun W Z => ?_
  refine PW.seq ?_
  refine PW.region ?_
  refine PL.run 2 rfl ?_
  refine PL.nil ?_
  refine PW.seq ?_
  refine PW.region ?_
  refine PL.run 5 rfl ?_
  refine PL.nil ?_
  refine PW.ret ?_
  refine RetOk.free rfl rfl rfl
/- impl.Take$1 -/
theorem impl_Take_1_spec (r : ByteArray) (y : Item) : Pw.Spec Tryz.prog 151 [.agg (eItem y), .rp [eS r]] (fun res_ => res_ = eT (decide (y.route = r))) := by
  refine spec_of (n := 8) Tryz.call151 Tryz.func151 rfl rfl (by simp) rfl rfl fun W Z => ?_
  refine PW.seq ?_
  refine PW.region ?_
  refine PL.run 2 rfl ?_
  refine PL.nil ?_
  refine PW.seq ?_
  refine PW.region ?_
  refine PL.run 5 rfl ?_
  refine PL.nil ?_
  refine PW.ret ?_
  refine RetOk.free rfl rfl rfl
/- impl.sameItems$1 -/
theorem impl_sameItems_1_spec (x y : Item) : Pw.Spec Tryz.prog 128 [.agg (eItem x), .agg (eItem y)] (fun res_ => res_ = eT (sameI x y)) := by
  refine spec_of (n := 31) Tryz.call128 Tryz.func128 rfl rfl (by simp) rfl rfl fun W Z => ?_
  refine PW.seq ?_
  refine PW.region ?_
  refine PL.run 3 rfl ?_
  refine PL.nil ?_
  refine PW.seq ?_
  refine PW.region ?_
  refine PL.run 6 rfl ?_
  refine PL.split (t := 10) rfl (fun h1 => ?_) (fun h1 => ?_)
  ·
    refine PL.run 7 rfl ?_
    refine PL.split (t := 17) rfl (fun h2 => ?_) (fun h2 => ?_)
    ·
      refine PL.run 7 rfl ?_
      refine PL.split (t := 24) rfl (fun h3 => ?_) (fun h3 => ?_)
      ·
        refine PL.run 4 rfl ?_
        refine PL.call rfl rfl rfl (impl_Same_spec x.bytes y.bytes) (.cons (.refl _) <| .cons (.refl _) <| .nil) (fun p hp => by subst hp; rfl) (wantV_ok rfl) rfl (fun p hp => ?_)
        subst hp
        refine PL.run 2 rfl ?_
        refine PL.nil ?_
        refine PW.ret ?_
        refine RetOk.free rfl rfl (congrArg eT ?_)
        simp_all [sameI]
      ·
        refine PL.run 7 rfl ?_
        refine PL.nil ?_
        refine PW.ret ?_
        refine RetOk.free rfl rfl (congrArg eT ?_)
        simp_all [sameI]
    ·
      refine PL.run 14 rfl ?_
      refine PL.nil ?_
      refine PW.ret ?_
      refine RetOk.free rfl rfl (congrArg eT ?_)
      simp_all [sameI]
  ·
    refine PL.run 21 rfl ?_
    refine PL.nil ?_
    refine PW.ret ?_
    refine RetOk.free rfl rfl (congrArg eT ?_)
    simp_all [sameI]
theorem clash_no {q : List Item} {i : Nat} {x : Item} (h : ¬ 0 < x.topic) : ((q.take i).all fun y => !clash x y) = true := by
  rw [List.all_eq_true]; intro y _; simp [clash]; intros; omega
theorem clash_any {q : List Item} {i : Nat} {x : Item} (h : 0 < x.topic) : ((q.take i).all fun y => !clash x y) = !(q.take i).any (same2 x) := by
  have e : clash x = same2 x := by funext y; simp [clash, same2, h]
  rw [e]
  induction q.take i with
  | nil => rfl
  | cons z l ih => simp only [List.all_cons, List.any_cons, ih]; cases same2 x z <;> rfl
theorem good_eq {q : List Item} {i : Nat} {x : Item} (hx : q[i]? = some x) : good q i = (itemOk x && (decide (ofN q x.route ≤ 4) && (q.take i).all fun y => !clash x y)) := by simp [good, hx]
/- impl.QueueOk -/
theorem impl_QueueOk_spec (q : List Item) (hq : Sm q) : Pw.Spec Tryz.prog 89 [eItems q] (fun res_ => res_ = eT (queueOk q)) := by
  refine spec_of (n := 36) Tryz.call89 Tryz.func89 rfl rfl (by simp) rfl rfl fun W Z => ?_
  have hlen := hq.len
  refine PW.seq ?_
  refine PW.region ?_
  refine PL.run 1 rfl ?_
  refine PL.nil ?_
  refine PW.seq ?_
  refine PW.seq ?_
  refine PW.region ?_
  refine PL.run 3 rfl ?_
  refine PL.nil ?_
  refine PW.cond rfl (fun h1 => ?_) (fun h1 => ?_)
  ·
    refine PW.seq ?_
    refine PW.region ?_
    refine PL.run 1 rfl ?_
    refine PL.nil ?_
    refine PW.ret ?_
    refine RetOk.free rfl rfl (congrArg eT ?_)
    have : ¬ q.length ≤ 10 := by simp at h1; omega
    simp [queueOk, this]
  ·
    have h10 : q.length ≤ 10 := by simp at h1; omega
    clear h1
    refine PW.skip ?_
    refine PW.seq ?_
    refine PW.seq ?_
    refine PW.region ?_
    refine PL.run 3 rfl ?_
    refine PL.nil ?_
    refine PW.block ?_
    refine PW.loopAt (α := Nat) (fun i => ⟨[(0, eItems q), (8, eItems q), (9, eI ((q.map eItem).length : Nat)), (10, eI (i : Int))], PH.none⟩) (fun i => i ≤ q.length ∧ (List.range i).all (good q) = true) (fun i => q.length - i) 0 Le.free ⟨Nat.zero_le _, rfl⟩ (fun i hi => ?_)
    refine PW.seq ?_
    refine PW.region ?_
    refine PL.run 1 rfl ?_
    refine PL.nil ?_
    refine PW.seq ?_
    refine PW.cond rfl (fun h2 => ?_) (fun h2 => ?_)
    ·
      have hlt : i < q.length := by simpa using h2
      clear h2
      obtain ⟨x, hx⟩ : ∃ y, q[i]? = some y := ⟨_, List.getElem?_eq_getElem hlt⟩
      have hup : some (PV.lit (.int .i64 (IntKind.i64.wrap ((i : Int) + 1)))) = some (PV.lit (.int .i64 ((i + 1 : Nat) : Int))) := inc_ok (by omega)
      have hbad : good q i = false → queueOk q = false := fun h => queue_bad hlt h
      have hgd := good_eq hx
      refine PW.skip ?_
      refine PW.seq ?_
      refine PW.block ?_
      refine PW.seq ?_
      refine PW.region ?_
      refine PL.run 1 rfl ?_
      refine PL.val (OpV.idx rfl rfl rfl (nat_nonneg i) (map_at' hx) rfl rfl rfl rfl) (wantV_ok rfl) rfl ?_
      refine PL.run 4 rfl ?_
      refine PL.nil ?_
      refine PW.seq ?_
      refine PW.seq ?_
      refine PW.region ?_
      refine PL.run 1 rfl ?_
      refine PL.call rfl rfl rfl (impl_ItemOk_spec x (hq.route i x hx)) (.cons (.refl _) <| .nil) (fun p hp => by subst hp; rfl) (wantV_ok rfl) rfl (fun p hp => ?_)
      subst hp
      refine PL.run 2 rfl ?_
      refine PL.split (t := 18) rfl (fun h3 => ?_) (fun h3 => ?_)
      ·
        refine PL.run 6 rfl ?_
        refine PL.nil ?_
        refine PW.condT rfl ?_
        refine PW.seq ?_
        refine PW.region ?_
        refine PL.run 1 rfl ?_
        refine PL.nil ?_
        refine PW.ret ?_
        refine RetOk.free rfl rfl (congrArg eT ?_)
        rw [hbad (good_bad1 hx (by simpa using h3))]
      ·
        refine PL.run 3 rfl ?_
        refine PL.call rfl rfl rfl (impl_Of_spec q x.route (by omega)) (.cons (.refl _) <| .cons (.refl _) <| .nil) (fun p hp => by subst hp; rfl) (wantV_ok rfl) rfl (fun p hp => ?_)
        subst hp
        refine PL.run 2 rfl ?_
        refine PL.nil ?_
        refine PW.cond rfl (fun h4 => ?_) (fun h4 => ?_)
        ·
          refine PW.seq ?_
          refine PW.region ?_
          refine PL.run 1 rfl ?_
          refine PL.nil ?_
          refine PW.ret ?_
          refine RetOk.free rfl rfl (congrArg eT ?_)
          rw [hbad (good_bad2 hx (by simp at h4; omega))]
        ·
          have h3' : itemOk x = true := by simpa using h3
          have h4' : ofN q x.route ≤ 4 := by simp at h4; omega
          clear h3 h4
          refine PW.skip ?_
          refine PW.seq ?_
          refine PW.region ?_
          refine PL.run 4 rfl ?_
          refine PL.split (t := 28) rfl (fun h5 => ?_) (fun h5 => ?_)
          ·
            refine PL.run 2 rfl ?_
            refine PL.val (OpV.cut rfl rfl rfl rfl rfl rfl (l := 0) (h := i) rfl rfl (Nat.zero_le _) (mapLe hi.1)) (wantV_ok rfl) rfl ?_
            refine PL.le (Le.freezeP (tv := 4) (id := 4) (cs := eItem x) (e := [(28, eT true), (31, .sl 4 (((q.map eItem).take i).drop 0) none), (0, eItems q), (8, eItems q), (9, eI ((q.map eItem).length : Nat)), (10, eI (i : Int))]) rfl rfl rfl) ?_
            refine PL.run 1 rfl ?_
            refine PL.call rfl rfl rfl (slices_ContainsFunc__impl_Item_impl_Item_spec (q.take i) 121 [.rp (eItem x)] (same2 x) rfl (by rw [List.length_take]; omega) (fun j y hy => impl_QueueOk_1_spec x y)) (.cons (wkrow (by simp [List.map_take])) <| .cons (.refl _) <| .nil) (fun p hp => by subst hp; rfl) (wantV_ok rfl) rfl (fun p hp => ?_)
            subst hp
            refine PL.run 1 rfl ?_
            refine PL.nil ?_
            refine PW.cond rfl (fun h6 => ?_) (fun h6 => ?_)
            ·
              refine PW.seq ?_
              refine PW.region ?_
              refine PL.run 1 rfl ?_
              refine PL.nil ?_
              refine PW.ret ?_
              refine RetOk.free rfl rfl (congrArg eT ?_)
              have h5 := of_decide_eq_true h5
              rw [hbad]
              rw [hgd, clash_any h5, h6]; simp
            ·
              refine PW.skip ?_
              refine PW.region ?_
              refine PL.run 2 rfl ?_
              refine PL.nil ?_
              refine ⟨i + 1, Le.free ⟨⟨rfl, rfl⟩, ⟨rfl, rfl⟩, ⟨rfl, rfl⟩, ⟨hup, rfl⟩, trivial⟩, ⟨hlt, range_all hi.2 ?_⟩, by omega⟩
              have h5 := of_decide_eq_true h5
              rw [hgd, clash_any h5, h6, h3']; simp [h4']
          ·
            refine PL.run 6 rfl ?_
            refine PL.nil ?_
            refine PW.condF rfl ?_
            refine PW.skip ?_
            refine PW.region ?_
            refine PL.run 2 rfl ?_
            refine PL.nil ?_
            refine ⟨i + 1, Le.free ⟨⟨rfl, rfl⟩, ⟨rfl, rfl⟩, ⟨rfl, rfl⟩, ⟨hup, rfl⟩, trivial⟩, ⟨hlt, range_all hi.2 ?_⟩, by omega⟩
            have h5 := of_decide_eq_false h5
            rw [hgd, clash_no h5, h3']; simp [h4']
    ·
      refine PW.exit ?_
      refine PW.seq ?_
      refine PW.region ?_
      refine PL.run 1 rfl ?_
      refine PL.nil ?_
      refine PW.ret ?_
      refine RetOk.free rfl rfl (congrArg eT ?_)
      have hge : i = q.length := Nat.le_antisymm hi.1 (by simpa using h2)
      have := hi.2
      rw [hge] at this
      simp [queueOk, this, h10]
theorem sameQ_len {a b : List Item} (h : a.length ≠ b.length) : sameQ a b = false := by
  induction a generalizing b with
  | nil => cases b with
    | nil => exact absurd rfl h
    | cons y b => rfl
  | cons x a ih => cases b with
    | nil => rfl
    | cons y b => simp only [sameQ]; rw [ih (by simpa using h)]; simp
/- slices.EqualFunc[[]impl.Item,[]impl.Item,impl.Item,impl.Item] -/
theorem slices_EqualFunc__impl_Item__impl_Item_impl_Item_impl_Item_spec (a b : List Item) (g : Nat) (ha : a.length ≤ 16777216) (hf : ∀ x y : Item, Pw.Spec Tryz.prog g [.agg (eItem x), .agg (eItem y)] (fun r => r = eT (sameI x y))) : Pw.Spec Tryz.prog 127 [eItems a, eItems b, .fn g []] (fun res_ => res_ = eT (sameQ a b)) := by
  refine spec_of (n := 32) Tryz.call127 Tryz.func127 rfl rfl (by simp) rfl rfl fun W Z => ?_
  refine PW.seq ?_
  refine PW.region ?_
  refine PL.run 1 rfl ?_
  refine PL.nil ?_
  refine PW.seq ?_
  refine PW.seq ?_
  refine PW.region ?_
  refine PL.run 5 rfl ?_
  refine PL.nil ?_
  refine PW.cond rfl (fun h1 => ?_) (fun h1 => ?_)
  ·
    refine PW.seq ?_
    refine PW.region ?_
    refine PL.run 1 rfl ?_
    refine PL.nil ?_
    refine PW.ret ?_
    refine RetOk.free rfl rfl (congrArg eT ?_)
    rw [sameQ_len (by simp at h1; omega)]
  ·
    have hl : a.length = b.length := by simp at h1; omega
    clear h1
    refine PW.skip ?_
    refine PW.seq ?_
    refine PW.seq ?_
    refine PW.region ?_
    refine PL.run 3 rfl ?_
    refine PL.nil ?_
    refine PW.block ?_
    refine PW.loopAt (α := Nat) (fun i => ⟨[(1, eItems b), (2, .fn g []), (15, eItems a), (16, eI ((a.map eItem).length : Nat)), (17, eI (i : Int))], PH.none⟩) (fun i => i ≤ a.length ∧ sameQ (a.drop i) (b.drop i) = sameQ a b) (fun i => a.length - i) 0 Le.free ⟨Nat.zero_le _, rfl⟩ (fun i hi => ?_)
    refine PW.seq ?_
    refine PW.region ?_
    refine PL.run 1 rfl ?_
    refine PL.nil ?_
    refine PW.seq ?_
    refine PW.cond rfl (fun h2 => ?_) (fun h2 => ?_)
    ·
      have hlt : i < a.length := by simpa using h2
      clear h2
      obtain ⟨x, hx⟩ : ∃ y, a[i]? = some y := ⟨_, List.getElem?_eq_getElem hlt⟩
      obtain ⟨y, hy⟩ : ∃ y, b[i]? = some y := ⟨_, List.getElem?_eq_getElem (by omega)⟩
      have hs := sameQ_step hx hy
      rw [hi.2] at hs
      refine PW.skip ?_
      refine PW.seq ?_
      refine PW.block ?_
      refine PW.seq ?_
      refine PW.region ?_
      refine PL.run 1 rfl ?_
      refine PL.val (OpV.idx rfl rfl rfl (nat_nonneg i) (map_at' hx) rfl rfl rfl rfl) (wantV_ok rfl) rfl ?_
      refine PL.run 4 rfl ?_
      refine PL.nil ?_
      refine PW.seq ?_
      refine PW.region ?_
      refine PL.run 2 rfl ?_
      refine PL.val (OpV.idx rfl rfl rfl (nat_nonneg i) (map_at' hy) rfl rfl rfl rfl) (wantV_ok rfl) rfl ?_
      refine PL.run 3 rfl ?_
      refine PL.nil ?_
      refine PW.seq ?_
      refine PW.region ?_
      refine PL.run 3 rfl ?_
      refine PL.call rfl rfl rfl (hf x y) (wkl_refl _) (fun p hp => by subst hp; rfl) (wantV_ok rfl) rfl (fun p hp => ?_)
      subst hp
      refine PL.run 1 rfl ?_
      refine PL.nil ?_
      refine PW.cond rfl (fun h3 => ?_) (fun h3 => ?_)
      ·
        refine PW.seq ?_
        refine PW.region ?_
        refine PL.run 1 rfl ?_
        refine PL.nil ?_
        refine PW.ret ?_
        refine RetOk.free rfl rfl (congrArg eT ?_)
        have : sameI x y = false := by simpa using h3
        rw [hs, this]; rfl
      ·
        refine PW.skip ?_
        refine PW.region ?_
        refine PL.run 2 rfl ?_
        refine PL.nil ?_
        refine ⟨i + 1, Le.free ⟨⟨rfl, rfl⟩, ⟨rfl, rfl⟩, ⟨rfl, rfl⟩, ⟨rfl, rfl⟩, ⟨inc_ok (by omega), rfl⟩, trivial⟩, ⟨hlt, ?_⟩, by omega⟩
        have : sameI x y = true := by simpa using h3
        rw [hs, this]; rfl
    ·
      refine PW.exit ?_
      refine PW.seq ?_
      refine PW.region ?_
      refine PL.run 1 rfl ?_
      refine PL.nil ?_
      refine PW.ret ?_
      refine RetOk.free rfl rfl (congrArg eT ?_)
      have hge : a.length ≤ i := by simpa using h2
      rw [← hi.2, sameQ_end (.inl hge) hi.1 (by omega)]; simp [hl]
/- impl.sameItems -/
theorem impl_sameItems_spec (a b : List Item) (ha : a.length ≤ 16777216) : Pw.Spec Tryz.prog 91 [eItems a, eItems b] (fun res_ => res_ = eT (sameQ a b)) := by
  refine spec_of (n := 8) Tryz.call91 Tryz.func91 rfl rfl (by simp) rfl rfl fun W Z => ?_
  refine PW.seq ?_
  refine PW.region ?_
  refine PL.run 1 rfl ?_
  refine PL.nil ?_
  refine PW.seq ?_
  refine PW.region ?_
  refine PL.run 2 rfl ?_
  refine PL.call rfl rfl rfl (slices_EqualFunc__impl_Item__impl_Item_impl_Item_impl_Item_spec a b 128 ha (fun x y => impl_sameItems_1_spec x y)) (.cons (.refl _) <| .cons (.refl _) <| .cons (.refl _) <| .nil) (fun p hp => by subst hp; rfl) (wantV_ok rfl) rfl (fun p hp => ?_)
  subst hp
  refine PL.run 1 rfl ?_
  refine PL.nil ?_
  refine PW.ret ?_
  refine RetOk.free rfl rfl rfl
end Go.Wl
