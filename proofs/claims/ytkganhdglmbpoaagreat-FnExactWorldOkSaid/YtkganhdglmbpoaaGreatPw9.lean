/- The engine, ninth text: what a state keeps; loops; ends. -/
import Derived.Test.YtkganhdglmbpoaaGreatPw8
set_option linter.unusedVariables false
set_option linter.unusedSimpArgs false
namespace Go.Pw
open Go Go.RowKit

/-- What a value is when only the boxes B and some rows are kept. -/
abbrev Fz := Option (Nat × (Nat × List PV))
inductive K1 (B : List Nat) (F : Fz) (S : PS) : PV → PV → Rows' → Prop
  | f {p q : PV} {L : Rows'} (h : F1 S p q L) : K1 B F S p q L
  | bx (id off : Nat) (h : B.contains id = true) : K1 B F S (.bx id off) (.bx id off) []
  | bs (id off n cap : Nat) (h : B.contains id = true) : K1 B F S (.bs id off n cap) (.bs id off n cap) []
  | ord (i j : Nat) (h : B.contains i = true ∧ B.contains j = true) : K1 B F S (.ord i j) (.ord i j) []
  | fz (id off t : Nat) (cs : List PV) (h : F = some (id, (t, cs))) : K1 B F S (.bx id off) (.rp (cs.drop off)) []
  | fs (id cap t : Nat) (cs : List PV) (sz : Nat) (es : List (List PV)) (h : F = some (id, (t, cs))) (hz : ∀ e ∈ es, e.length = sz) (hc : ∃ r, cs = es.flatten ++ r) (hn : es.length ≤ cap) : K1 B F S (.bs id 0 es.length cap) (.sl sz es none) []
  | eq {p p' q : PV} {L : Rows'} (e : p = p') (h : K1 B F S p' q L) : K1 B F S p q L
inductive K1L (B : List Nat) (F : Fz) (S : PS) : List PV → List PV → Rows' → Prop
  | nil : K1L B F S [] [] []
  | cons {p q : PV} {l l' : List PV} {L L' : Rows'} (h : K1 B F S p q L) (r : K1L B F S l l' L') : K1L B F S (p :: l) (q :: l') (L ++ L')
inductive K2 (B : List Nat) (F : Fz) (S : PS) : PV → PV → Rows' → Prop
  | leaf {p q : PV} {L : Rows'} (h : K1 B F S p q L) : K2 B F S p q L
  | agg {l l' : List PV} {L : Rows'} (h : K1L B F S l l' L) : K2 B F S (.agg l) (.agg l') L
  | fn {l l' : List PV} {L : Rows'} (f : Nat) (h : K1L B F S l l' L) : K2 B F S (.fn f l) (.fn f l') L
inductive KE (B : List Nat) (F : Fz) (S : PS) : List (Nat × PV) → Rows' → Prop
  | nil : KE B F S [] []
  | cons {t : Nat} {p q : PV} {e : List (Nat × PV)} {L L' : Rows'} (h : may1 (lk S.env t) = some p) (k : K2 B F S p q L) (r : KE B F S e L') : KE B F S ((t, q) :: e) (L ++ L')
inductive KB (B : List Nat) (F : Fz) (S : PS) : List (Nat × (Nat × List PV)) → Rows' → Prop
  | nil : KB B F S [] []
  | cons {id t : Nat} {cs cs' : List PV} {b : List (Nat × (Nat × List PV))} {L L' : Rows'} (h : lk S.h.bx id = some (t, cs)) (k : K1L B F S cs cs' L) (r : KB B F S b L') : KB B F S ((id, (t, cs')) :: b) (L ++ L')
def muK (μ : Mu) (B : List Nat) (L : Rows') : Mu := ⟨fun id => bif B.contains id then μ.bx id else none, (muOf μ L).tk⟩
theorem muK_le (μ : Mu) (B : List Nat) (L : Rows') : (muOf μ L).le (muK μ B L) := ⟨fun _ _ e => (by cases e), fun _ _ _ e => e⟩
/-- The box that is no more written: its cells are among those that stay. -/
def FzOk (Z' : Cells) (μ : Mu) (F : Fz) : Prop := ∀ (id t : Nat) (cs : List PV), F = some (id, (t, cs)) → ∃ (g : Nat) (vs : List Value), μ.bx id = some g ∧ (∀ (j : Nat) (u : Value), vs[j]? = some u → Z' ⟨g, j, none⟩ = some u) ∧ vs.length = cs.length ∧ (∀ u ∈ vs, u.oneCell' = true) ∧ ∀ (j : Nat) (p : PV) (u : Value), cs[j]? = some p → vs[j]? = some u → Rep Z' Mu.emp p u
theorem flat_at {α : Type} {sz : Nat} : ∀ {es : List (List α)} {i j : Nat} {e : List α} {p : α} {r : List α}, (∀ e ∈ es, e.length = sz) → es[i]? = some e → e[j]? = some p → (es.flatten ++ r)[i * sz + j]? = some p
  | [], _, _, _, _, _, _, h, _ => by simp at h
  | x :: l, i, j, e, p, r, hz, hi, hj => by
    have hx := hz x List.mem_cons_self
    cases i with
    | zero =>
      simp at hi
      subst hi
      have := (List.getElem?_eq_some_iff.1 hj).1
      rw [List.flatten_cons, List.append_assoc, Nat.zero_mul, Nat.zero_add, List.getElem?_append_left this]
      exact hj
    | succ i =>
      rw [List.flatten_cons, List.append_assoc, List.getElem?_append_right (by rw [hx, Nat.add_mul]; omega)]
      have e1 : (i + 1) * sz + j - x.length = i * sz + j := by rw [hx, Nat.add_mul]; omega
      rw [e1]
      exact flat_at (fun e he => hz e (List.mem_cons_of_mem _ he)) (by simpa using hi) hj
section
variable {B : List Nat} {F : Fz} {S : PS} {Z Z' : Cells} {μ : Mu} {A : Rows'}
theorem K1.rep (hZ : Z.le Z') (hF : FzOk Z' μ F) {p q : PV} {L : Rows'} (h : K1 B F S p q L) (hA : In L A) {v : Value} (hr : Rep Z μ p v) : Rep Z' (muK μ B A) q v := by
  induction h with
  | f h => exact (h.rep hA hr).mono hZ (muK_le μ B A)
  | bx id off h => cases hr with | bx _ _ _ g hg => exact .bx _ _ _ g (by simp only [muK, h, cond_true]; exact hg)
  | bs id off n cap h => cases hr with | bs _ _ _ _ _ g hg => exact .bs _ _ _ _ _ g (by simp only [muK, h, cond_true]; exact hg)
  | ord i j h => cases hr with | ord _ _ _ gi gj _ hi hj hlt => exact .ord _ i j gi gj _ (by simp only [muK, h.1, cond_true]; exact hi) (by simp only [muK, h.2, cond_true]; exact hj) hlt
  | fz id off t cs h =>
    obtain ⟨g, vs, h1, h2, h3, h4, h5⟩ := hF id t cs h
    cases hr with
    | bx _ _ _ g' hg =>
      rw [h1] at hg; cases hg
      have hv : ∀ (j : Nat) (p : PV), (cs.drop off)[j]? = some p → ∃ u, vs[off + j]? = some u ∧ cs[off + j]? = some p := fun j p e => by
        rw [List.getElem?_drop] at e
        have := (List.getElem?_eq_some_iff.1 e).1
        exact ⟨vs[off + j]'(by omega), List.getElem?_eq_getElem _, e⟩
      refine .rp _ _ _ (fun j => (vs[off + j]?).getD undef) (fun j p hp => ?_) (fun j p hp => ?_) (fun j p hp => ?_)
      · obtain ⟨u, hu, _⟩ := hv j p hp
        rw [Addr.add_lit, hu]; exact h2 _ _ hu
      · obtain ⟨u, hu, _⟩ := hv j p hp
        rw [hu]; exact h4 _ (List.mem_of_getElem? hu)
      · obtain ⟨u, hu, hc⟩ := hv j p hp
        rw [hu]; exact h5 _ _ _ hc hu
  | fs id cap t cs sz es h hz hc hn =>
    obtain ⟨g, vs, h1, h2, h3, h4, h5⟩ := hF id t cs h
    obtain ⟨r, rfl⟩ := hc
    cases hr with
    | bs _ _ _ _ _ g' hg =>
      rw [h1] at hg; cases hg
      have hv : ∀ (i : Nat) (e : List PV) (j : Nat) (p : PV), es[i]? = some e → e[j]? = some p → ∃ u, vs[i * sz + j]? = some u ∧ (es.flatten ++ r)[i * sz + j]? = some p := fun i e j p he hp => by
        have h6 := flat_at (r := r) hz he hp
        have := (List.getElem?_eq_some_iff.1 h6).1
        exact ⟨vs[i * sz + j]'(by omega), List.getElem?_eq_getElem _, h6⟩
      refine .sl _ _ _ _ _ (fun i j => (vs[i * sz + j]?).getD undef) hn hz (fun _ => ⟨_, rfl, fun i e j p he hp => ?_⟩) (fun i e j p he hp => ?_) (fun i e j p he hp => ?_)
      · obtain ⟨u, hu, _⟩ := hv i e j p he hp
        rw [Addr.add_lit, Nat.zero_add, hu]; exact h2 _ _ hu
      · obtain ⟨u, hu, _⟩ := hv i e j p he hp
        rw [hu]; exact h4 _ (List.mem_of_getElem? hu)
      · obtain ⟨u, hu, hc⟩ := hv i e j p he hp
        rw [hu]; exact h5 _ _ _ hc hu
  | eq e _ ih => subst e; exact ih hA hr
theorem K1.has {p q : PV} {L : Rows'} (h : K1 B F S p q L) : Has S L := by
  induction h with
  | f h => exact h.has
  | bx => exact fun x h => by cases h
  | bs => exact fun x h => by cases h
  | ord => exact fun x h => by cases h
  | fz => exact fun x h => by cases h
  | fs => exact fun x h => by cases h
  | eq _ _ ih => exact ih
theorem K1L.rep (hZ : Z.le Z') (hF : FzOk Z' μ F) {l l' : List PV} {L : Rows'} (h : K1L B F S l l' L) : In L A → l.length = l'.length ∧ ∀ (i : Nat) (p q : PV) (v : Value), l[i]? = some p → l'[i]? = some q → Rep Z μ p v → Rep Z' (muK μ B A) q v := by
  induction h with
  | nil => exact fun _ => ⟨rfl, fun i p q v h => by simp at h⟩
  | cons h _ ih =>
    intro hA
    obtain ⟨h1, h2⟩ := ih hA.right
    exact ⟨by simp [h1], fun i p q v hp hq hr => by
      cases i with
      | zero => simp at hp hq; subst hp; subst hq; exact h.rep hZ hF hA.left hr
      | succ i => simp at hp hq; exact h2 i p q v hp hq hr⟩
theorem K1L.has {l l' : List PV} {L : Rows'} (h : K1L B F S l l' L) : Has S L := by
  induction h with
  | nil => exact fun x h => by cases h
  | cons h _ ih => exact h.has.append ih
theorem K2.rep (hZ : Z.le Z') (hF : FzOk Z' μ F) {p q : PV} {L : Rows'} (h : K2 B F S p q L) (hA : In L A) {v : Value} (hr : Rep Z μ p v) : Rep Z' (muK μ B A) q v := by
  cases h with
  | leaf h => exact h.rep hZ hF hA hr
  | agg h =>
    obtain ⟨e, k⟩ := h.rep (μ := μ) hZ hF hA
    cases hr with
    | agg _ _ cs hl h1 hc => exact .agg _ _ cs (by omega) h1 (fun i q v hq hv => by
        have hi := (List.getElem?_eq_some_iff.1 hq).1
        exact k i _ q v (List.getElem?_eq_getElem (by omega)) hq (hc i _ v (List.getElem?_eq_getElem (by omega)) hv))
  | fn f h =>
    obtain ⟨e, k⟩ := h.rep (μ := μ) hZ hF hA
    cases hr with
    | fn _ _ _ cs hl hc => exact .fn _ _ _ cs (by omega) (fun i q v hq hv => by
        have hi := (List.getElem?_eq_some_iff.1 hq).1
        exact k i _ q v (List.getElem?_eq_getElem (by omega)) hq (hc i _ v (List.getElem?_eq_getElem (by omega)) hv))
theorem K2.has {p q : PV} {L : Rows'} (h : K2 B F S p q L) : Has S L := by
  cases h with
  | leaf h => exact h.has
  | agg h => exact h.has
  | fn f h => exact h.has
theorem KE.has {e : List (Nat × PV)} {L : Rows'} (h : KE B F S e L) : Has S L := by
  induction h with
  | nil => exact fun x h => by cases h
  | cons h k _ ih => exact k.has.append ih
theorem KB.has {e : List (Nat × (Nat × List PV))} {L : Rows'} (h : KB B F S e L) : Has S L := by
  induction h with
  | nil => exact fun x h => by cases h
  | cons h k _ ih => exact k.has.append ih
theorem KE.env (hZ : Z.le Z') (hF : FzOk Z' μ F) {cx : Cx} {a : Act} (H : EnvOk Z μ cx.n S.env a) {e : List (Nat × PV)} {L : Rows'} (h : KE B F S e L) : In L A → EnvOk Z' (muK μ B A) cx.n e a := by
  induction h with
  | nil => exact fun _ => ⟨H.df, H.sz, fun t p h => by cases h⟩
  | cons h k _ ih =>
    intro hA
    obtain ⟨h1, h2, h3⟩ := ih hA.right
    refine ⟨h1, h2, fun u p hu => ?_⟩
    rw [lk_cons] at hu
    split at hu
    · rename_i e; subst e; cases hu
      obtain ⟨v, hv, hr⟩ := H.may1 h
      exact ⟨v, hv, k.rep hZ hF hA.left hr⟩
    · exact h3 u p hu
theorem KB.get {e : List (Nat × (Nat × List PV))} {L : Rows'} (h : KB B F S e L) : In L A → ∀ id t cs', lk e id = some (t, cs') → ∃ cs L', lk S.h.bx id = some (t, cs) ∧ K1L B F S cs cs' L' ∧ In L' A := by
  induction h with
  | nil => exact fun _ id t cs' h => by cases h
  | cons h k _ ih =>
    intro hA id t cs' hl
    rw [lk_cons] at hl
    split at hl
    · rename_i e; subst e; cases hl; exact ⟨_, _, h, k, hA.left⟩
    · exact ih hA.right id t cs' hl
end
theorem tk_src {base : Nat} {Z : Cells} {μ : Mu} {S : PS} {W : World} (H : RepH base Z μ S.h W) {L : Rows'} (hh : Has S L) {τ sz n : Nat} {v : Value} {g : Nat} (e : lk (tkOf L) τ = some (sz, n)) (hv : (muOf μ L).tk τ n = some v) (hg : v.ownBlock = some g) : ∃ t, lk S.h.tk t = some (sz, n) ∧ μ.tk t n = some v := by
  rw [lk_tkOf] at e
  cases hl : lk L τ with
  | none => rw [hl] at e; cases e
  | some y =>
    rw [hl] at e
    obtain ⟨y1, s⟩ := y
    cases e
    have hx := hh _ (lk_mem hl)
    simp only [muOf] at hv
    rw [hl] at hv
    cases s with
    | none => simp at hv; subst hv; simp [Value.ownBlock] at hg
    | some t => simp at hv; exact ⟨t, hx, hv⟩
/-- A state that says less. -/
def Le (S S' : PS) : Prop := ∀ cx a W, R cx S a W → R cx S' a W
theorem FzOk.none (Z : Cells) (μ : Mu) : FzOk Z μ none := fun _ _ _ h => by cases h
theorem fin_grow {base : Nat} {Z Z' : Cells} {μ : Mu} {k : List (Nat × (Nat × Nat))} {W : World} (H : RepH base Z μ ⟨[], k⟩ W) (hZ : Z.le Z') (hg : ∀ t sz n v g, lk k t = some (sz, n) → μ.tk t n = some v → v.ownBlock = some g → ∀ off, Z ⟨g, off, Option.none⟩ = Option.none → Z' ⟨g, off, Option.none⟩ = Option.none) : RepH base Z' μ ⟨[], k⟩ W :=
  ⟨fun i t cs e => (by cases e), fun t sz n e => by
    obtain ⟨v, hv, hb⟩ := H.tk t sz n e
    refine ⟨v, hv, ?_⟩
    rcases hb with hb | ⟨g, cap, cur, e', a1, a2, a3, a4, a5, a6, a7⟩
    · exact .inl hb
    · exact .inr ⟨g, cap, cur, e', a1, a2, a3, a4, a5, a6, fun off h => hg t sz n v g e hv (by rw [a1]; rfl) off (a7 off h)⟩, H.bb, H.tt, H.bd, H.td, H.tm, H.bt⟩
/-- A state that keeps some; F: a box that is no more written from here on. -/
theorem Le.keepF {S : PS} {e : List (Nat × PV)} {b : List (Nat × (Nat × List PV))} {L L' : Rows'} (B : List Nat) (F : Fz) (hFz : ∀ id t cs, F = some (id, (t, cs)) → lk S.h.bx id = some (t, cs) ∧ B.contains id = false ∧ freeL cs = true) (hb : KB B F S b L') (he : KE B F S e L) (hB : B = b.map (·.1)) (hn : ((L ++ L').map (·.1)).Nodup) (hs : ((L ++ L').filterMap (·.2.2)).Nodup) : Le S ⟨e, ⟨b, tkOf (L ++ L')⟩⟩ := fun cx a W ⟨Z, μ, hz⟩ => by
  have hA : ∀ x ∈ L ++ L', lk (L ++ L') x.1 = some x.2 := fun x hx => lk_of_mem hn x hx
  have hA1 : In L (L ++ L') := fun x hx => hA x (List.mem_append_left _ hx)
  have hA2 : In L' (L ++ L') := fun x hx => hA x (List.mem_append_right _ hx)
  have hh : Has S (L ++ L') := he.has.append hb.has
  have hf := hz.h.fin hn hs hh
  have hid : ∀ id x, lk b id = some x → B.contains id = true := fun id x hx => by
    rw [hB]
    simp only [List.contains_eq_mem, decide_eq_true_eq]
    exact List.mem_map.2 ⟨(id, x), lk_mem hx, rfl⟩
  have hcore : ∃ Z' : Cells, Z.le Z' ∧ FzOk Z' μ F ∧ Sub Z' W ∧ Grow Z Z' cx.w.heap.size ∧ ∀ g, (∀ off, Z ⟨g, off, Option.none⟩ = Z' ⟨g, off, Option.none⟩) ∨ ∃ id x, F = some (id, x) ∧ μ.bx id = some g := by
    cases hFe : F with
    | none => exact ⟨Z, Cells.le_refl _, FzOk.none _ _, hz.sub, Grow.refl _ _, fun g => .inl fun _ => rfl⟩
    | some x =>
      obtain ⟨id, t, cs⟩ := x
      obtain ⟨h1, h2, h3⟩ := hFz id t cs hFe
      obtain ⟨g, hg, vs, v1, v2, v3, v4, v5, v6⟩ := hz.h.bx id t cs h1
      have hcell : ∀ (j : Nat) (u : Value), vs[j]? = some u → W.cell? ⟨g, j, Option.none⟩ = some u := fun j u hu => by simp [World.cell?, v1, hu]
      refine ⟨Z.add g vs, Cells.le_add _ _ _, fun id' t' cs' he' => ?_, hz.sub.add hcell, ⟨Cells.le_add _ _ _, fun ad v e => (Cells.add_inv e).imp (fun x => x) (fun x => by omega)⟩, fun g' => ?_⟩
      · cases he'
        refine ⟨g, vs, hg, fun j u hu => ?_, v2, v3, fun j p u hp hu => ((v4 j p u hp hu).drop (freeL_mem h3 p (List.mem_of_getElem? hp))).mono (Cells.le_add _ _ _) (Mu.le_refl _)⟩
        unfold Cells.add
        rw [v6 j]
        simp [hu]
      · by_cases hgg : g' = g
        · subst hgg; exact .inr ⟨id, _, rfl, hg⟩
        · refine .inl fun off => ?_
          cases hz' : Z ⟨g', off, Option.none⟩ with
          | some v => simp [Cells.add, hz']
          | none => simp [Cells.add, hz', hgg]
  obtain ⟨Z', hZ, hF, hsub, hgrow, hsame⟩ := hcore
  have hfree : ∀ g, (∀ id x, F = some (id, x) → μ.bx id ≠ some g) → ∀ off, Z ⟨g, off, Option.none⟩ = Option.none → Z' ⟨g, off, Option.none⟩ = Option.none := fun g h off e => by
    rcases hsame g with h1 | ⟨id, x, h1, h2⟩
    · rw [← h1 off]; exact e
    · exact absurd h2 (h id x h1)
  have hf' := fin_grow hf hZ (fun τ sz n v g h1 h2 h3 => hfree g (fun id x hx hg => by
    obtain ⟨t', a1, a2⟩ := tk_src hz.h hh h1 h2 h3
    obtain ⟨t, cs⟩ := x
    exact hz.h.bt id t' _ _ _ v g (hFz id t cs hx).1 a1 hg a2 h3))
  refine ⟨Z', muK μ B (L ++ L'), ⟨he.env (cx := cx) hZ hF hz.env hA1, ⟨fun id t cs' h => ?_, hf'.tk, fun i j x y g h1 h2 h3 h4 => ?_, hf'.tt, fun i g h => ?_, hf'.td, hf'.tm, fun i t x sz n v g h1 h2 h3 h4 h5 => ?_⟩, hsub, hz.le.trans hgrow (Nat.le_refl _), hz.below⟩⟩
  · obtain ⟨cs, L1, h1, h2, h3⟩ := hb.get hA2 id t cs' h
    obtain ⟨g, hg, vs, v1, v2, v3, v4, v5, v6⟩ := hz.h.bx id t cs h1
    obtain ⟨k1, k2⟩ := h2.rep (μ := μ) hZ hF h3
    refine ⟨g, by simp only [muK, hid id _ h, cond_true]; exact hg, vs, v1, by omega, v3, fun i p v hp hv => ?_, v5, fun off => hfree g (fun id' x hx hg' => ?_) off (v6 off)⟩
    · have hi := (List.getElem?_eq_some_iff.1 hp).1
      exact k2 i _ p v (List.getElem?_eq_getElem (by omega)) hp (v4 i _ v (List.getElem?_eq_getElem (by omega)) hv)
    · obtain ⟨t', cs2⟩ := x
      obtain ⟨e1, e2, _⟩ := hFz id' t' cs2 hx
      have := hz.h.bb id' id _ _ g e1 h1 hg' hg
      subst this
      rw [hid id' _ h] at e2; cases e2
  · obtain ⟨x1, x2⟩ := x
    obtain ⟨y1, y2⟩ := y
    obtain ⟨cs, _, e1, _⟩ := hb.get hA2 i x1 x2 h1
    obtain ⟨ds, _, e2, _⟩ := hb.get hA2 j y1 y2 h2
    simp only [muK, hid i _ h1, cond_true] at h3
    simp only [muK, hid j _ h2, cond_true] at h4
    exact hz.h.bb i j _ _ g e1 e2 h3 h4
  · simp only [muK] at h
    cases hc : B.contains i with
    | false => rw [hc] at h; cases h
    | true =>
      rw [hB] at hc
      simp only [List.contains_eq_mem, decide_eq_true_eq] at hc
      obtain ⟨⟨k, y⟩, hy, rfl⟩ := List.mem_map.1 hc
      exact mem_lk _ _ _ hy
  · obtain ⟨x1, x2⟩ := x
    obtain ⟨cs, _, e1, _⟩ := hb.get hA2 i x1 x2 h1
    simp only [muK, hid i _ h1, cond_true] at h3
    obtain ⟨t', a1, a2⟩ := tk_src hz.h hh h2 h4 h5
    exact hz.h.bt i t' _ _ _ v g e1 a1 h3 a2 h5
where
  mem_lk : ∀ (b : List (Nat × (Nat × List PV))) (k : Nat) (y : Nat × List PV), (k, y) ∈ b → lk b k ≠ none
    | [], _, _, h => by cases h
    | (j, z) :: r, k, y, h => by
      rw [lk_cons]
      split
      · exact fun h => by cases h
      · rename_i hne
        rcases List.mem_cons.1 h with h | h
        · cases h; exact absurd rfl hne
        · exact mem_lk r k y h
theorem Le.keep {S : PS} {e : List (Nat × PV)} {b : List (Nat × (Nat × List PV))} {L L' : Rows'} (B : List Nat) (hb : KB B none S b L') (he : KE B none S e L) (hB : B = b.map (·.1)) (hn : ((L ++ L').map (·.1)).Nodup) (hs : ((L ++ L').filterMap (·.2.2)).Nodup) : Le S ⟨e, ⟨b, tkOf (L ++ L')⟩⟩ :=
  Le.keepF B none (fun _ _ _ h => by cases h) hb he hB hn hs
section
variable {cx : Cx} {Q : Post} {S S' : PS}
theorem PW.le {c : Code} (hw : Le S S') (h : PW cx c Q S') : PW cx c Q S := fun a W hr => h a W (hw cx a W hr)
/-- A loop, from a state of its own on. -/
theorem PW.loopAt {c : Code} {α : Type} (st : α → PS) (ok : α → Prop) (m : α → Nat) (x : α) (h0 : Le S (st x)) (hx : ok x) (hr : ∀ x, ok x → PW cx c (thn (fun S' => ∃ y, Le S' (st y) ∧ ok y ∧ m y < m x) Q) (st x)) : PW cx (.loop c) Q S := fun a W hR =>
  wp_loop_ghost (fun n a W => ∃ x, m x = n ∧ ok x ∧ R cx (st x) a W) (m x) ⟨x, rfl, hx, h0 cx a W hR⟩ fun n a W ⟨x, hm, hI, hR⟩ =>
    wp_mono (hr x hI a W hR) fun e a' W' hq => by
      obtain ⟨S', h1, h2⟩ := hq
      cases e with
      | normal =>
        obtain ⟨y, hle, hy, hlt⟩ := h2
        exact ⟨m y, by omega, y, rfl, hy, hle cx a' W' h1⟩
      | exit i => exact ⟨S', h1, h2⟩
      | goto l => exact ⟨S', h1, h2⟩
      | ret => exact ⟨S', h1, h2⟩
      | panic c => exact ⟨S', h1, h2⟩
      | outgrown => exact ⟨S', h1, h2⟩
theorem PW.condT {c : Operand} {x y : Code} (hc : S.ev c = some (.lit (.bool true))) (h : PW cx x Q S) : PW cx (.cond c x y) Q S := .cond hc (fun _ => h) (fun e => by cases e)
theorem PW.condF {c : Operand} {x y : Code} (hc : S.ev c = some (.lit (.bool false))) (h : PW cx y Q S) : PW cx (.cond c x y) Q S := .cond hc (fun e => by cases e) (fun _ => h)
end
section
variable {P : Program} [TC P] {rs : List ResultVar} {F : PV → Prop} {S : PS}
/-- A result without rows of its own. -/
theorem RetOk.free {p : PV} (h : resOf (P := P) S rs = some p) (hf : Pw.free p = true) (hF : F p) : RetOk P rs F S := by
  refine ⟨p, p, [], h, .one (.leaf (.same p hf)), List.nodup_nil, List.nodup_nil, hF⟩
theorem RetOk.of {p q : PV} {L : Rows'} (h : resOf (P := P) S rs = some q) (k : F3 S q p L) (hn : (L.map (·.1)).Nodup) (hs : (L.filterMap (·.2.2)).Nodup) (hF : F p) : RetOk P rs F S := ⟨q, p, L, h, k, hn, hs, hF⟩
end
end Go.Pw
