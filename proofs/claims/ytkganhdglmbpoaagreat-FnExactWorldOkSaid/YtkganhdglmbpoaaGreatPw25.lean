/- The engine, twenty-fifth text: what comes in is opened: the reading of a row's arguments gives pure values. -/
import Derived.Test.YtkganhdglmbpoaaGreatPw24
import Derived.ProofKit
set_option linter.unusedVariables false
set_option linter.unusedSimpArgs false
namespace Go.Pw
open Go Go.RowKit
/-- The cells of one value stand for a list of pure values. -/
structure RowRep (Z : Cells) (l : List PV) (cs : List Value) : Prop where
  len : cs.length = l.length
  one : ∀ u ∈ cs, u.oneCell' = true
  rep : ∀ (i : Nat) (p : PV) (v : Value), l[i]? = some p → cs[i]? = some v → Rep Z Mu.emp p v
theorem RowRep.one1 {Z : Cells} {p : PV} {v : Value} (h1 : v.oneCell' = true) (h : Rep Z Mu.emp p v) : RowRep Z [p] [v] :=
  ⟨rfl, fun u hu => by rw [List.mem_singleton.1 hu]; exact h1, fun i q u hq hu => by
    cases i with
    | zero => simp only [List.getElem?_cons_zero, Option.some.injEq] at hq hu; subst hq; subst hu; exact h
    | succ i => simp at hq⟩
theorem RowRep.app {Z : Cells} {l1 l2 : List PV} {c1 c2 : List Value} (h1 : RowRep Z l1 c1) (h2 : RowRep Z l2 c2) : RowRep Z (l1 ++ l2) (c1 ++ c2) :=
  ⟨by rw [List.length_append, List.length_append, h1.len, h2.len], fun u hu => (List.mem_append.1 hu).elim (h1.one u) (h2.one u), fun i p v hp hv => by
    by_cases hi : i < l1.length
    · rw [List.getElem?_append_left hi] at hp
      rw [List.getElem?_append_left (by rw [h1.len]; exact hi)] at hv
      exact h1.rep i p v hp hv
    · rw [List.getElem?_append_right (by omega)] at hp
      rw [List.getElem?_append_right (by rw [h1.len]; omega), h1.len] at hv
      exact h2.rep _ p v hp hv⟩
theorem RowRep.fld {Z : Cells} {l1 l2 : List PV} {cs : List Value} {o s o' : Nat} (h1 : RowRep Z l1 ((cs.drop o).take s)) (ho : o' = o + s) (h2 : RowRep Z l2 (cs.drop o')) : RowRep Z (l1 ++ l2) (cs.drop o) := by
  have e : cs.drop o = (cs.drop o).take s ++ cs.drop o' := by rw [ho, ← List.drop_drop, List.take_append_drop]
  rw [e]
  exact h1.app h2
theorem RowRep.nil {Z : Cells} {cs : List Value} {n : Nat} (h : cs.length = n) : RowRep Z [] (cs.drop n) := by
  rw [List.drop_eq_nil_of_le (by omega)]
  exact ⟨rfl, fun u hu => by simp at hu, fun i p v hp => by simp at hp⟩
theorem RowRep.agg {Z : Cells} {l : List PV} {cs : Array Value} (h : RowRep Z l cs.toList) (μ : Mu) : Rep Z μ (.agg l) (.agg cs) := by
  have := Rep.agg (Z := Z) μ l cs.toList h.len.symm h.one (fun i p v hp hv => (h.rep i p v hp hv).any)
  simpa using this
theorem RowRep.val {Z : Cells} {p : PV} {v : Value} (h : RowRep Z [p] [v]) (μ : Mu) : Rep Z μ p v := (h.rep 0 p v rfl rfl).any
section
variable {H : Type} {enc : TypeId × Value → H} {P : Program} {w : World} {base : Nat} {spare : Nat → Bool} {held : Bool} {fuel : Nat} {t : TypeId} {cs : List Value} {x : DataW H × List MemPlace}
theorem open_st {fs : Array Field} (ht : P.underlying t = some (.struct fs)) (h : DataW.trod enc P w base spare held fuel t cs = some x) :
    cs.length = P.cellsOf t ∧ ∀ (i : Nat) (f : Field), fs[i]? = some f → ∃ m y, DataW.trod enc P w base spare held m f.type ((cs.drop f.offset).take (P.cellsOf f.type)) = some y := by
  obtain ⟨xs, n, _, _, hl, hxs, hf⟩ := DataW.trod_struct ht h
  refine ⟨hl, fun i f hi => ?_⟩
  have h1 := hf i f hi
  have hlt : i < xs.length := by rw [hxs]; exact (Array.getElem?_eq_some_iff.1 hi).1
  rw [List.getElem?_eq_getElem hlt] at h1
  exact ⟨n, _, h1⟩
theorem open_in {k : IntKind} (ht : P.underlying t = some (.int k)) (h : DataW.trod enc P w base spare held fuel t cs = some x) : ∃ n : Int, (Lit.int k n).wf = true ∧ RowRep w.cell? [.lit (.int k n)] cs := by
  obtain ⟨n, rfl, _, hw⟩ := DataW.trod_int ht h
  exact ⟨n, hw, .one1 rfl (.lit _ _)⟩
theorem open_bo (ht : P.underlying t = some .bool) (h : DataW.trod enc P w base spare held fuel t cs = some x) : ∃ b : Bool, RowRep w.cell? [.lit (.bool b)] cs := by
  obtain ⟨b, rfl, _⟩ := DataW.trod_bool ht h
  exact ⟨b, .one1 rfl (.lit _ _)⟩
theorem open_tx (ht : P.underlying t = some .string) (h : DataW.trod enc P w base spare held fuel t cs = some x) : ∃ s : ByteArray, s.size ≤ maxLen ∧ RowRep w.cell? [.lit (.string s)] cs := by
  obtain ⟨s, rfl, _, hs⟩ := DataW.trod_string ht h
  exact ⟨s, hs, .one1 rfl (.lit _ _)⟩
theorem open_sl {α : Type} {e : TypeId} {sz : Nat} (f : α → List PV) (Q : α → Prop) (ht : P.underlying t = some (.slice e)) (hc : P.cellsOf e = sz) (hf : ∀ a, (f a).length = sz)
    (he : ∀ (m : Nat) (cs : List Value) (x : DataW H × List MemPlace), DataW.trod enc P w base spare held m e cs = some x → ∃ a, Q a ∧ RowRep w.cell? (f a) cs) (h : DataW.trod enc P w base spare held fuel t cs = some x) :
    ∃ l : List α, l.length ≤ maxLen ∧ (∀ (i : Nat) (a : α), l[i]? = some a → Q a) ∧ RowRep w.cell? [.sl sz (l.map f) none] cs := by
  rcases DataW.trod_slice ht h with ⟨rfl, _⟩ | ⟨ad, len, cap, elems, rest, n, _, rfl, _, _, hlc, hcm, hlen, hel, _, _⟩
  · exact ⟨[], Nat.zero_le _, fun i a ha => by simp at ha, .one1 rfl (Rep.sl Mu.emp sz [] none 0 (fun _ _ => undef) (Nat.le_refl _) (fun e he => by simp at he) (fun h0 => by simp at h0) (fun i e j p hi => by simp at hi) (fun i e j p hi => by simp at hi))⟩
  · have hA : ∀ i : Fin len, ∃ (a : α) (c : List Value), Q a ∧ RowRep w.cell? (f a) c ∧ ∀ j, j < sz → w.cell? (ad.add (i.1 * sz + j)) = c[j]? := fun i => by
      have h1 := hel i.1 i.2
      rw [List.getElem?_eq_getElem (by rw [hlen]; exact i.2), Option.bind_eq_some_iff] at h1
      obtain ⟨c, hc1, hc2⟩ := h1
      obtain ⟨a, ha, hr⟩ := he _ _ _ hc2
      obtain ⟨_, hcl, hcc⟩ := World.cells?_some hc1
      rw [hc] at hcl hcc
      exact ⟨a, c, ha, hr, fun j hj => by rw [← Addr.add_add]; exact hcc j hj⟩
    obtain ⟨A, hA⟩ := Classical.axiomOfChoice hA
    obtain ⟨C, hA⟩ := Classical.axiomOfChoice hA
    have hQ := fun i => (hA i).1
    have hR := fun i => (hA i).2.1
    have hC := fun i => (hA i).2.2
    have hlA : (List.ofFn A).length = len := List.length_ofFn
    refine ⟨List.ofFn A, by rw [hlA]; exact Nat.le_trans hlc hcm, fun i a ha => ?_, .one1 rfl ?_⟩
    · obtain ⟨hi, rfl⟩ := List.getElem?_eq_some_iff.1 ha
      rw [List.getElem_ofFn]; exact hQ _
    · have key : ∀ (i : Nat) (e : List PV) (j : Nat) (p : PV), ((List.ofFn A).map f)[i]? = some e → e[j]? = some p → ∃ hi : i < len, e = f (A ⟨i, hi⟩) ∧ j < sz ∧ ∃ v, (C ⟨i, hi⟩)[j]? = some v := fun i e j p hi hj => by
        obtain ⟨hi', rfl⟩ := List.getElem?_eq_some_iff.1 hi
        have hlt : i < len := by rw [List.length_map, hlA] at hi'; exact hi'
        have e1 : ((List.ofFn A).map f)[i]'hi' = f (A ⟨i, hlt⟩) := by rw [List.getElem_map, List.getElem_ofFn]
        rw [e1] at hj
        have hjl := (List.getElem?_eq_some_iff.1 hj).1
        rw [hf] at hjl
        exact ⟨hlt, e1, hjl, _, List.getElem?_eq_getElem (by rw [(hR ⟨i, hlt⟩).len, hf]; exact hjl)⟩
      have hval : ∀ (i : Nat) (hi : i < len) (j : Nat) (v : Value), j < sz → (C ⟨i, hi⟩)[j]? = some v → (w.cell? (ad.add (i * sz + j))).getD undef = v := fun i hi j v hj hv => by
        rw [hC ⟨i, hi⟩ j hj, hv]; rfl
      have hs := Rep.sl (Z := w.cell?) Mu.emp sz ((List.ofFn A).map f) (some ad) cap (fun i j => (w.cell? (ad.add (i * sz + j))).getD undef) (by rw [List.length_map, hlA]; exact hlc)
        (fun e he => by obtain ⟨a, _, rfl⟩ := List.mem_map.1 he; exact hf a)
        (fun _ => ⟨ad, rfl, fun i e j p hi hj => by
          obtain ⟨hlt, _, hjl, v, hv⟩ := key i e j p hi hj
          rw [hval i hlt j v hjl hv, hC ⟨i, hlt⟩ j hjl, hv]⟩)
        (fun i e j p hi hj => by
          obtain ⟨hlt, _, hjl, v, hv⟩ := key i e j p hi hj
          show ((w.cell? (ad.add (i * sz + j))).getD undef).oneCell' = true
          rw [hval i hlt j v hjl hv]
          exact (hR ⟨i, hlt⟩).one v (List.mem_of_getElem? hv))
        (fun i e j p hi hj => by
          obtain ⟨hlt, he, hjl, v, hv⟩ := key i e j p hi hj
          show Rep w.cell? Mu.emp p ((w.cell? (ad.add (i * sz + j))).getD undef)
          rw [hval i hlt j v hjl hv]
          rw [he] at hj
          exact (hR ⟨i, hlt⟩).rep j p v hj hv)
      rw [List.length_map, hlA] at hs
      exact hs
end
/-- What a walk of a law gives for the row's post. -/
theorem Done.lit {W : World} {Z : Cells} {q : Value} {v : Value} {W' : World} (h : Done W Z (fun p => p = .lit q) v W') : v = q ∧ Below W.heap.size W W' := by
  obtain ⟨p, Z', μ', hp, hr, _, _, hb, _⟩ := h
  subst hp
  exact ⟨hr.lit_inv, hb⟩
end Go.Pw
