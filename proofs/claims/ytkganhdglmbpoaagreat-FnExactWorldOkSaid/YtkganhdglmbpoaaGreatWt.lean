/- The walks, nineteenth text: copies of queues, taking out in place (the program's). -/
import Derived.Test.YtkganhdglmbpoaaGreatWs
set_option linter.unusedVariables false
set_option linter.unusedSimpArgs false
set_option maxRecDepth 100000
set_option maxHeartbeats 8000000
namespace Go.Wl
open Go Go.RowKit Go.Pw Go.Proofs
def rowC (q : List Item) (r : List PV) : List PV := (q.map eItem).flatten ++ r
theorem item_len (q : List Item) : ∀ e ∈ q.map eItem, e.length = 4 := fun e he => by obtain ⟨b, _, rfl⟩ := List.mem_map.1 he; rfl
theorem items_len (q : List Item) : (q.map eItem).flatten.length = q.length * 4 := by rw [flat_len (item_len q), List.length_map]
theorem rowC_len (q : List Item) (r : List PV) : (rowC q r).length = q.length * 4 + r.length := by rw [rowC, List.length_append, items_len]
theorem items_free (q : List Item) : freeL (q.map eItem).flatten = true := freeL_iff.2 fun p hp => by
  obtain ⟨e, he, hp⟩ := List.mem_flatten.1 hp
  obtain ⟨b, _, rfl⟩ := List.mem_map.1 he
  simp only [eItem, List.mem_cons, List.not_mem_nil, or_false] at hp
  rcases hp with rfl | rfl | rfl | rfl <;> rfl
theorem rowC_free {q : List Item} {r : List PV} (h : freeL r = true) : freeL (rowC q r) = true := by rw [rowC, freeL_append, items_free, h]; rfl
theorem rowC_step {q : List Item} {i : Nat} {x : Item} {r : List PV} (h : q[i]? = some x) : (rowC (q.take i) (eItem x ++ r)) = rowC (q.take (i + 1)) r := by
  rw [take_step h, rowC, rowC, List.map_append, List.flatten_append]; simp
theorem rowC_first {q : List Item} {x : Item} {r : List PV} (h : q[0]? = some x) : ([eItem x] : List (List PV)).flatten ++ r = rowC (q.take (0 + 1)) r := by
  rw [← rowC_step h]; simp [rowC]
theorem rowC_take {q : List Item} {i : Nat} {r s : List PV} (h : i = q.length) : (rowC q r).take (i * 4) ++ s = rowC q s := by
  subst h
  rw [rowC, rowC, ← items_len, List.take_left]
/-- What a copy of a queue is. -/
def CloneR (q : List Item) (p : PV) (h : PH) : Prop := (q = [] ∧ p = .lit (.slice none 0 0) ∧ h = PH.none) ∨
  (q ≠ [] ∧ ∃ t cap r, p = .bs 1000 0 (q.map eItem).length cap ∧ h = ⟨[(1000, (t, rowC q r))], []⟩ ∧ freeL r = true ∧ (cap - q.length) * 4 ≤ r.length ∧ q.length ≤ cap ∧ cap ≤ maxLen)
def clSt (q : List Item) : Nat × Nat × Nat × List PV → PS
  | (0, _) => ⟨[(3, .lit (.slice none 0 0)), (0, eItems q), (6, eItems q), (7, eI ((q.map eItem).length : Nat)), (8, eI ((0 : Nat) : Int))], PH.none⟩
  | (j + 1, t, cap, r) => ⟨[(3, .bs 1000 0 (j + 1) cap), (0, eItems q), (6, eItems q), (7, eI ((q.map eItem).length : Nat)), (8, eI ((j + 1 : Nat) : Int))], ⟨[(1000, (t, rowC (q.take (j + 1)) r))], []⟩⟩
structure ClOk (q : List Item) (x : Nat × Nat × Nat × List PV) : Prop where
  le : x.1 ≤ q.length
  free : 0 < x.1 → freeL x.2.2.2 = true
  room : 0 < x.1 → (x.2.2.1 - x.1) * 4 ≤ x.2.2.2.length
  cap : 0 < x.1 → x.1 ≤ x.2.2.1
  max : 0 < x.1 → x.2.2.1 ≤ maxLen
/- impl.cloneItems -/
theorem impl_cloneItems_spec (q : List Item) (hq : Sm q) : Pw.SpecB Tryz.prog 147 [eItems q] (PH.none) (CloneR q) := by
  refine specB_of (n := 19) Tryz.call147 Tryz.func147 rfl rfl (by simp) rfl fun W Z => ?_
  have hlen := hq.len
  refine PW.seq ?_
  refine PW.region ?_
  refine PL.run 1 rfl ?_
  refine PL.nil ?_
  refine PW.seq ?_
  refine PW.region ?_
  refine PL.run 1 rfl ?_
  refine PL.nil ?_
  refine PW.seq ?_
  refine PW.seq ?_
  refine PW.region ?_
  refine PL.run 3 rfl ?_
  refine PL.nil ?_
  refine PW.block ?_
  refine PW.loopAt (clSt q) (ClOk q) (fun x => q.length - x.1) (0, 0, 0, []) Le.free ⟨Nat.zero_le _, fun h => absurd h (Nat.lt_irrefl _), fun h => absurd h (Nat.lt_irrefl _), fun h => absurd h (Nat.lt_irrefl _), fun h => absurd h (Nat.lt_irrefl _)⟩ (fun x hx => ?_)
  obtain ⟨i, t, cap, r⟩ := x
  rcases i with _ | j
  ·
    dsimp only [clSt]
    refine PW.seq ?_
    refine PW.region ?_
    refine PL.run 1 rfl ?_
    refine PL.nil ?_
    refine PW.seq ?_
    refine PW.cond rfl (fun h1 => ?_) (fun h1 => ?_)
    ·
      have hlt : 0 < q.length := by simpa using h1
      clear h1
      obtain ⟨x, hx0⟩ : ∃ y, q[0]? = some y := ⟨_, List.getElem?_eq_getElem hlt⟩
      refine PW.skip ?_
      refine PW.seq ?_
      refine PW.block ?_
      refine PW.seq ?_
      refine PW.region ?_
      refine PL.val (OpV.idx rfl rfl rfl (nat_nonneg 0) (map_at' hx0) rfl rfl rfl rfl) (wantV_ok rfl) rfl ?_
      refine PL.run 3 rfl ?_
      refine PL.nil ?_
      refine PW.region ?_
      refine PL.run 2 rfl ?_
      refine PL.call rfl rfl rfl (impl_cloneItem_spec x (hq.bytes 0 x hx0)) (.cons (.refl _) <| .nil) (fun p hp => by subst hp; rfl) (wantV_ok rfl) rfl (fun p hp => ?_)
      subst hp
      refine PL.run 1 rfl ?_
      refine PL.appNew (sz := 4) (new := [eItem x]) rfl rfl rfl rfl (.inl rfl) (Nat.succ_pos _) rfl rfl rfl rfl rfl rfl rfl (Nat.le_of_ble_eq_true rfl) (Nat.le_of_ble_eq_true rfl) (wantV_ok rfl) rfl (fun cap1 hc1 hc2 => ?_)
      refine PL.run 1 rfl ?_
      refine PL.nil ?_
      refine PW.region ?_
      refine PL.run 2 rfl ?_
      refine PL.nil ?_
      refine ⟨(0 + 1, _, cap1, _), Le.rename 1000 (id := 16) rfl rfl ?_ (rowC_first hx0) ⟨⟨rfl, rfl⟩, ⟨rfl, rfl⟩, ⟨rfl, rfl⟩, ⟨inc_ok (by omega), rfl⟩, trivial⟩, ⟨hlt, fun _ => zrow_free _ _, fun _ => ?_, fun _ => hc1, fun _ => hc2⟩, by simp only; omega⟩
      · exact (congrArg freeL (rowC_first hx0)).trans (rowC_free (zrow_free _ _))
      · show (cap1 - 1) * 4 ≤ (zrow _ (cap1 - 1)).length
        rw [zrow_len]; exact Nat.le_refl _
    ·
      refine PW.exit ?_
      refine PW.seq ?_
      refine PW.region ?_
      refine PL.run 2 rfl ?_
      refine PL.nil ?_
      refine PW.ret ?_
      have h0 : q = [] := List.eq_nil_of_length_eq_zero (by simp at h1; exact h1 ▸ rfl)
      exact ⟨_, rfl, .inl ⟨h0, rfl, rfl⟩⟩
  ·
    dsimp only [clSt]
    refine PW.seq ?_
    refine PW.region ?_
    refine PL.run 1 rfl ?_
    refine PL.nil ?_
    refine PW.seq ?_
    refine PW.cond rfl (fun h2 => ?_) (fun h2 => ?_)
    ·
      have hlt : j + 1 < q.length := by simp at h2; omega
      clear h2
      obtain ⟨x, hx1⟩ : ∃ y, q[j + 1]? = some y := ⟨_, List.getElem?_eq_getElem hlt⟩
      have hf := hx.free (Nat.succ_pos _)
      have hr := hx.room (Nat.succ_pos _)
      have hc := hx.cap (Nat.succ_pos _)
      have hm := hx.max (Nat.succ_pos _)
      simp only at hf hr hc hm
      have htl : (q.take (j + 1)).length = j + 1 := by rw [List.length_take]; omega
      refine PW.skip ?_
      refine PW.seq ?_
      refine PW.block ?_
      refine PW.seq ?_
      refine PW.region ?_
      refine PL.val (OpV.idx rfl rfl rfl (nat_nonneg (j + 1)) (map_at' hx1) rfl rfl rfl rfl) (wantV_ok rfl) rfl ?_
      refine PL.run 3 rfl ?_
      refine PL.nil ?_
      refine PW.region ?_
      refine PL.run 2 rfl ?_
      refine PL.call rfl rfl rfl (impl_cloneItem_spec x (hq.bytes _ x hx1)) (.cons (.refl _) <| .nil) (fun p hp => by subst hp; rfl) (wantV_ok rfl) rfl (fun p hp => ?_)
      subst hp
      refine PL.run 1 rfl ?_
      refine PL.appB (sz := 4) (new := [eItem x]) [(0, eItems q), (6, eItems q), (7, eI ((q.map eItem).length : Nat)), (8, eI ((j + 1 : Nat) : Int))] rfl rfl rfl rfl rfl rfl (by rw [rowC_len, htl]; omega) (rowC_free hf) hc hm rfl rfl rfl rfl rfl rfl (by simp <;> omega) (by simp <;> omega) (wantV_ok rfl) rfl (fun cap1 bt1 sl k1 k2 k3 k4 => ?_)
      refine PL.run 1 rfl ?_
      refine PL.nil ?_
      refine PW.region ?_
      refine PL.run 2 rfl ?_
      refine PL.nil ?_
      refine ⟨(j + 1 + 1, bt1, cap1, sl), Le.rename 1000 (id := 16) rfl rfl ?_ ((rowC_take htl.symm).trans (rowC_step (r := sl) hx1)) ⟨⟨rfl, rfl⟩, ⟨rfl, rfl⟩, ⟨rfl, rfl⟩, ⟨inc_ok (by omega), rfl⟩, trivial⟩, ⟨hlt, fun _ => k4, fun _ => k3, fun _ => k1, fun _ => k2⟩, by simp only; omega⟩
      exact (congrArg freeL ((rowC_take htl.symm).trans (rowC_step (r := sl) hx1))).trans (rowC_free k4)
    ·
      refine PW.exit ?_
      refine PW.seq ?_
      refine PW.region ?_
      refine PL.run 2 rfl ?_
      refine PL.nil ?_
      refine PW.ret ?_
      have hge : j + 1 = q.length := Nat.le_antisymm hx.le (by simp at h2; omega)
      have ht : q.take (j + 1) = q := by rw [hge, List.take_length]
      have hm := hx.max (Nat.succ_pos _)
      refine ⟨_, rfl, .inr ⟨fun e => by rw [e] at hge; simp at hge, t, cap, r, ?_, ?_, hx.free (Nat.succ_pos _), ?_, ?_, hm⟩⟩
      · rw [List.length_map, ← hge]
      · exact congrArg (fun c => (⟨[(1000, (t, rowC c r))], []⟩ : PH)) ht
      · rw [← hge]; exact hx.room (Nat.succ_pos _)
      · rw [← hge]; exact hx.cap (Nat.succ_pos _)
end Go.Wl
