/- The engine, ninth text: what a state keeps; loops; ends. The engine, tenth text: a region that draws its order. The engine, eleventh text: handy forms; bytes and numbers. The engine, twelfth text: cuts of slices and texts. The engine, thirteenth text: struct literals. The engine, fourteenth text: bytes as a text. The engine, fifteenth text: calls that are handed a box; slices over boxes. The engine, sixteenth text: make, clear, copy, append at boxes. The engine, seventeenth text: append at boxes. The engine, eighteenth text: handy forms for regions that draw their order; boxes become slices. The engine, nineteenth text: a slice held against nil; the library's entries. The engine, twentieth text: a new block of whatever bytes; cuts from the start; bytes in a box. The engine, twenty-first text: a box becomes a row. The engine, twenty-second text: captured variables; one box under another name. The engine, twenty-third text: a call that leaves a box. The engine, twenty-fourth text: which box lies first; a call that is handed one box while another is kept. What the program's values stand for, in plain Lean; the plain laws' functions. -/
import Derived.Test.YtkganhdglmbpoaaGreatBe1
import Derived.Orders
import Derived.Laws.Tables
import Derived.Laws.BytesString
import Derived.Laws.MakeOwn
import Derived.Laws.CopyRow
import Derived.Lib.SliceRun
import Derived.Lib.Bytealg
import Derived.Lib.MakeNoZero
import Derived.Laws.Externs
set_option linter.unusedVariables false
set_option linter.unusedSimpArgs false
namespace Go.Pw
open Go Go.RowKit

/-- What a value is when only the boxes B and some rows are kept. -/
abbrev Fz := Option (Nat × (Nat × List PV))
inductive K1 (B : List Nat) (F : Fz) (S : PS) : PV → PV → Rows' → Prop
  | f {p q : PV} {L : Rows'} (h : F1 S p q L) : K1 B F S p q L
  | bx (id off : Nat) (h : B.contains id = true) : K1 B F S (.bx id off) (.bx id off) []
  | bs (id off n cap : Nat) (h : B.contains id = true) : K1 B F S (.bs id off n cap) (.bs id off n cap) []
  | ord (i j : Nat) (h : B.contains i = true ∧ B.contains j = true) : K1 B F S (.ord i j) (.ord i j) []
  | fz (id off t : Nat) (cs : List PV) (h : F = some (id, (t, cs))) : K1 B F S (.bx id off) (.rp (cs.drop off)) []
  | fs (id cap t : Nat) (cs : List PV) (sz : Nat) (es : List (List PV)) (h : F = some (id, (t, cs))) (hz : ∀ e ∈ es, e.length = sz) (hc : ∃ r, cs = es.flatten ++ r) (hn : es.length ≤ cap) : K1 B F S (.bs id 0 es.length cap) (.sl sz es none) []
  | eq {p p' q : PV} {L : Rows'} (e : p = p') (h : K1 B F S p' q L) : K1 B F S p q L
inductive K1L (B : List Nat) (F : Fz) (S : PS) : List PV → List PV → Rows' → Prop
  | nil : K1L B F S [] [] []
  | cons {p q : PV} {l l' : List PV} {L L' : Rows'} (h : K1 B F S p q L) (r : K1L B F S l l' L') : K1L B F S (p :: l) (q :: l') (L ++ L')
inductive K2 (B : List Nat) (F : Fz) (S : PS) : PV → PV → Rows' → Prop
  | leaf {p q : PV} {L : Rows'} (h : K1 B F S p q L) : K2 B F S p q L
  | agg {l l' : List PV} {L : Rows'} (h : K1L B F S l l' L) : K2 B F S (.agg l) (.agg l') L
  | fn {l l' : List PV} {L : Rows'} (f : Nat) (h : K1L B F S l l' L) : K2 B F S (.fn f l) (.fn f l') L
inductive KE (B : List Nat) (F : Fz) (S : PS) : List (Nat × PV) → Rows' → Prop
  | nil : KE B F S [] []
  | cons {t : Nat} {p q : PV} {e : List (Nat × PV)} {L L' : Rows'} (h : may1 (lk S.env t) = some p) (k : K2 B F S p q L) (r : KE B F S e L') : KE B F S ((t, q) :: e) (L ++ L')
inductive KB (B : List Nat) (F : Fz) (S : PS) : List (Nat × (Nat × List PV)) → Rows' → Prop
  | nil : KB B F S [] []
  | cons {id t : Nat} {cs cs' : List PV} {b : List (Nat × (Nat × List PV))} {L L' : Rows'} (h : lk S.h.bx id = some (t, cs)) (k : K1L B F S cs cs' L) (r : KB B F S b L') : KB B F S ((id, (t, cs')) :: b) (L ++ L')
def muK (μ : Mu) (B : List Nat) (L : Rows') : Mu := ⟨fun id => bif B.contains id then μ.bx id else none, (muOf μ L).tk⟩
theorem muK_le (μ : Mu) (B : List Nat) (L : Rows') : (muOf μ L).le (muK μ B L) := ⟨fun _ _ e => (by cases e), fun _ _ _ e => e⟩
/-- The box that is no more written: its cells are among those that stay. -/
def FzOk (Z' : Cells) (μ : Mu) (F : Fz) : Prop := ∀ (id t : Nat) (cs : List PV), F = some (id, (t, cs)) → ∃ (g : Nat) (vs : List Value), μ.bx id = some g ∧ (∀ (j : Nat) (u : Value), vs[j]? = some u → Z' ⟨g, j, none⟩ = some u) ∧ vs.length = cs.length ∧ (∀ u ∈ vs, u.oneCell' = true) ∧ ∀ (j : Nat) (p : PV) (u : Value), cs[j]? = some p → vs[j]? = some u → Rep Z' Mu.emp p u
theorem flat_at {α : Type} {sz : Nat} : ∀ {es : List (List α)} {i j : Nat} {e : List α} {p : α} {r : List α}, (∀ e ∈ es, e.length = sz) → es[i]? = some e → e[j]? = some p → (es.flatten ++ r)[i * sz + j]? = some p
  | [], _, _, _, _, _, _, h, _ => by simp at h
  | x :: l, i, j, e, p, r, hz, hi, hj => by
    have hx := hz x List.mem_cons_self
    cases i with
    | zero =>
      simp at hi
      subst hi
      have := (List.getElem?_eq_some_iff.1 hj).1
      rw [List.flatten_cons, List.append_assoc, Nat.zero_mul, Nat.zero_add, List.getElem?_append_left this]
      exact hj
    | succ i =>
      rw [List.flatten_cons, List.append_assoc, List.getElem?_append_right (by rw [hx, Nat.add_mul]; omega)]
      have e1 : (i + 1) * sz + j - x.length = i * sz + j := by rw [hx, Nat.add_mul]; omega
      rw [e1]
      exact flat_at (fun e he => hz e (List.mem_cons_of_mem _ he)) (by simpa using hi) hj
section
variable {B : List Nat} {F : Fz} {S : PS} {Z Z' : Cells} {μ : Mu} {A : Rows'}
theorem K1.rep (hZ : Z.le Z') (hF : FzOk Z' μ F) {p q : PV} {L : Rows'} (h : K1 B F S p q L) (hA : In L A) {v : Value} (hr : Rep Z μ p v) : Rep Z' (muK μ B A) q v := by
  induction h with
  | f h => exact (h.rep hA hr).mono hZ (muK_le μ B A)
  | bx id off h => cases hr with | bx _ _ _ g hg => exact .bx _ _ _ g (by simp only [muK, h, cond_true]; exact hg)
  | bs id off n cap h => cases hr with | bs _ _ _ _ _ g hg => exact .bs _ _ _ _ _ g (by simp only [muK, h, cond_true]; exact hg)
  | ord i j h => cases hr with | ord _ _ _ gi gj _ hi hj hlt => exact .ord _ i j gi gj _ (by simp only [muK, h.1, cond_true]; exact hi) (by simp only [muK, h.2, cond_true]; exact hj) hlt
  | fz id off t cs h =>
    obtain ⟨g, vs, h1, h2, h3, h4, h5⟩ := hF id t cs h
    cases hr with
    | bx _ _ _ g' hg =>
      rw [h1] at hg; cases hg
      have hv : ∀ (j : Nat) (p : PV), (cs.drop off)[j]? = some p → ∃ u, vs[off + j]? = some u ∧ cs[off + j]? = some p := fun j p e => by
        rw [List.getElem?_drop] at e
        have := (List.getElem?_eq_some_iff.1 e).1
        exact ⟨vs[off + j]'(by omega), List.getElem?_eq_getElem _, e⟩
      refine .rp _ _ _ (fun j => (vs[off + j]?).getD undef) (fun j p hp => ?_) (fun j p hp => ?_) (fun j p hp => ?_)
      · obtain ⟨u, hu, _⟩ := hv j p hp
        rw [Addr.add_lit, hu]; exact h2 _ _ hu
      · obtain ⟨u, hu, _⟩ := hv j p hp
        rw [hu]; exact h4 _ (List.mem_of_getElem? hu)
      · obtain ⟨u, hu, hc⟩ := hv j p hp
        rw [hu]; exact h5 _ _ _ hc hu
  | fs id cap t cs sz es h hz hc hn =>
    obtain ⟨g, vs, h1, h2, h3, h4, h5⟩ := hF id t cs h
    obtain ⟨r, rfl⟩ := hc
    cases hr with
    | bs _ _ _ _ _ g' hg =>
      rw [h1] at hg; cases hg
      have hv : ∀ (i : Nat) (e : List PV) (j : Nat) (p : PV), es[i]? = some e → e[j]? = some p → ∃ u, vs[i * sz + j]? = some u ∧ (es.flatten ++ r)[i * sz + j]? = some p := fun i e j p he hp => by
        have h6 := flat_at (r := r) hz he hp
        have := (List.getElem?_eq_some_iff.1 h6).1
        exact ⟨vs[i * sz + j]'(by omega), List.getElem?_eq_getElem _, h6⟩
      refine .sl _ _ _ _ _ (fun i j => (vs[i * sz + j]?).getD undef) hn hz (fun _ => ⟨_, rfl, fun i e j p he hp => ?_⟩) (fun i e j p he hp => ?_) (fun i e j p he hp => ?_)
      · obtain ⟨u, hu, _⟩ := hv i e j p he hp
        rw [Addr.add_lit, Nat.zero_add, hu]; exact h2 _ _ hu
      · obtain ⟨u, hu, _⟩ := hv i e j p he hp
        rw [hu]; exact h4 _ (List.mem_of_getElem? hu)
      · obtain ⟨u, hu, hc⟩ := hv i e j p he hp
        rw [hu]; exact h5 _ _ _ hc hu
  | eq e _ ih => subst e; exact ih hA hr
theorem K1.has {p q : PV} {L : Rows'} (h : K1 B F S p q L) : Has S L := by
  induction h with
  | f h => exact h.has
  | bx => exact fun x h => by cases h
  | bs => exact fun x h => by cases h
  | ord => exact fun x h => by cases h
  | fz => exact fun x h => by cases h
  | fs => exact fun x h => by cases h
  | eq _ _ ih => exact ih
theorem K1L.rep (hZ : Z.le Z') (hF : FzOk Z' μ F) {l l' : List PV} {L : Rows'} (h : K1L B F S l l' L) : In L A → l.length = l'.length ∧ ∀ (i : Nat) (p q : PV) (v : Value), l[i]? = some p → l'[i]? = some q → Rep Z μ p v → Rep Z' (muK μ B A) q v := by
  induction h with
  | nil => exact fun _ => ⟨rfl, fun i p q v h => by simp at h⟩
  | cons h _ ih =>
    intro hA
    obtain ⟨h1, h2⟩ := ih hA.right
    exact ⟨by simp [h1], fun i p q v hp hq hr => by
      cases i with
      | zero => simp at hp hq; subst hp; subst hq; exact h.rep hZ hF hA.left hr
      | succ i => simp at hp hq; exact h2 i p q v hp hq hr⟩
theorem K1L.has {l l' : List PV} {L : Rows'} (h : K1L B F S l l' L) : Has S L := by
  induction h with
  | nil => exact fun x h => by cases h
  | cons h _ ih => exact h.has.append ih
theorem K2.rep (hZ : Z.le Z') (hF : FzOk Z' μ F) {p q : PV} {L : Rows'} (h : K2 B F S p q L) (hA : In L A) {v : Value} (hr : Rep Z μ p v) : Rep Z' (muK μ B A) q v := by
  cases h with
  | leaf h => exact h.rep hZ hF hA hr
  | agg h =>
    obtain ⟨e, k⟩ := h.rep (μ := μ) hZ hF hA
    cases hr with
    | agg _ _ cs hl h1 hc => exact .agg _ _ cs (by omega) h1 (fun i q v hq hv => by
        have hi := (List.getElem?_eq_some_iff.1 hq).1
        exact k i _ q v (List.getElem?_eq_getElem (by omega)) hq (hc i _ v (List.getElem?_eq_getElem (by omega)) hv))
  | fn f h =>
    obtain ⟨e, k⟩ := h.rep (μ := μ) hZ hF hA
    cases hr with
    | fn _ _ _ cs hl hc => exact .fn _ _ _ cs (by omega) (fun i q v hq hv => by
        have hi := (List.getElem?_eq_some_iff.1 hq).1
        exact k i _ q v (List.getElem?_eq_getElem (by omega)) hq (hc i _ v (List.getElem?_eq_getElem (by omega)) hv))
theorem K2.has {p q : PV} {L : Rows'} (h : K2 B F S p q L) : Has S L := by
  cases h with
  | leaf h => exact h.has
  | agg h => exact h.has
  | fn f h => exact h.has
theorem KE.has {e : List (Nat × PV)} {L : Rows'} (h : KE B F S e L) : Has S L := by
  induction h with
  | nil => exact fun x h => by cases h
  | cons h k _ ih => exact k.has.append ih
theorem KB.has {e : List (Nat × (Nat × List PV))} {L : Rows'} (h : KB B F S e L) : Has S L := by
  induction h with
  | nil => exact fun x h => by cases h
  | cons h k _ ih => exact k.has.append ih
theorem KE.env (hZ : Z.le Z') (hF : FzOk Z' μ F) {cx : Cx} {a : Act} (H : EnvOk Z μ cx.n S.env a) {e : List (Nat × PV)} {L : Rows'} (h : KE B F S e L) : In L A → EnvOk Z' (muK μ B A) cx.n e a := by
  induction h with
  | nil => exact fun _ => ⟨H.df, H.sz, fun t p h => by cases h⟩
  | cons h k _ ih =>
    intro hA
    obtain ⟨h1, h2, h3⟩ := ih hA.right
    refine ⟨h1, h2, fun u p hu => ?_⟩
    rw [lk_cons] at hu
    split at hu
    · rename_i e; subst e; cases hu
      obtain ⟨v, hv, hr⟩ := H.may1 h
      exact ⟨v, hv, k.rep hZ hF hA.left hr⟩
    · exact h3 u p hu
theorem KB.get {e : List (Nat × (Nat × List PV))} {L : Rows'} (h : KB B F S e L) : In L A → ∀ id t cs', lk e id = some (t, cs') → ∃ cs L', lk S.h.bx id = some (t, cs) ∧ K1L B F S cs cs' L' ∧ In L' A := by
  induction h with
  | nil => exact fun _ id t cs' h => by cases h
  | cons h k _ ih =>
    intro hA id t cs' hl
    rw [lk_cons] at hl
    split at hl
    · rename_i e; subst e; cases hl; exact ⟨_, _, h, k, hA.left⟩
    · exact ih hA.right id t cs' hl
end
theorem tk_src {base : Nat} {Z : Cells} {μ : Mu} {S : PS} {W : World} (H : RepH base Z μ S.h W) {L : Rows'} (hh : Has S L) {τ sz n : Nat} {v : Value} {g : Nat} (e : lk (tkOf L) τ = some (sz, n)) (hv : (muOf μ L).tk τ n = some v) (hg : v.ownBlock = some g) : ∃ t, lk S.h.tk t = some (sz, n) ∧ μ.tk t n = some v := by
  rw [lk_tkOf] at e
  cases hl : lk L τ with
  | none => rw [hl] at e; cases e
  | some y =>
    rw [hl] at e
    obtain ⟨y1, s⟩ := y
    cases e
    have hx := hh _ (lk_mem hl)
    simp only [muOf] at hv
    rw [hl] at hv
    cases s with
    | none => simp at hv; subst hv; simp [Value.ownBlock] at hg
    | some t => simp at hv; exact ⟨t, hx, hv⟩
/-- A state that says less. -/
def Le (S S' : PS) : Prop := ∀ cx a W, R cx S a W → R cx S' a W
theorem FzOk.none (Z : Cells) (μ : Mu) : FzOk Z μ none := fun _ _ _ h => by cases h
theorem fin_grow {base : Nat} {Z Z' : Cells} {μ : Mu} {k : List (Nat × (Nat × Nat))} {W : World} (H : RepH base Z μ ⟨[], k⟩ W) (hZ : Z.le Z') (hg : ∀ t sz n v g, lk k t = some (sz, n) → μ.tk t n = some v → v.ownBlock = some g → ∀ off, Z ⟨g, off, Option.none⟩ = Option.none → Z' ⟨g, off, Option.none⟩ = Option.none) : RepH base Z' μ ⟨[], k⟩ W :=
  ⟨fun i t cs e => (by cases e), fun t sz n e => by
    obtain ⟨v, hv, hb⟩ := H.tk t sz n e
    refine ⟨v, hv, ?_⟩
    rcases hb with hb | ⟨g, cap, cur, e', a1, a2, a3, a4, a5, a6, a7⟩
    · exact .inl hb
    · exact .inr ⟨g, cap, cur, e', a1, a2, a3, a4, a5, a6, fun off h => hg t sz n v g e hv (by rw [a1]; rfl) off (a7 off h)⟩, H.bb, H.tt, H.bd, H.td, H.tm, H.bt⟩
/-- A state that keeps some; F: a box that is no more written from here on. -/
theorem Le.keepF {S : PS} {e : List (Nat × PV)} {b : List (Nat × (Nat × List PV))} {L L' : Rows'} (B : List Nat) (F : Fz) (hFz : ∀ id t cs, F = some (id, (t, cs)) → lk S.h.bx id = some (t, cs) ∧ B.contains id = false ∧ freeL cs = true) (hb : KB B F S b L') (he : KE B F S e L) (hB : B = b.map (·.1)) (hn : ((L ++ L').map (·.1)).Nodup) (hs : ((L ++ L').filterMap (·.2.2)).Nodup) : Le S ⟨e, ⟨b, tkOf (L ++ L')⟩⟩ := fun cx a W ⟨Z, μ, hz⟩ => by
  have hA : ∀ x ∈ L ++ L', lk (L ++ L') x.1 = some x.2 := fun x hx => lk_of_mem hn x hx
  have hA1 : In L (L ++ L') := fun x hx => hA x (List.mem_append_left _ hx)
  have hA2 : In L' (L ++ L') := fun x hx => hA x (List.mem_append_right _ hx)
  have hh : Has S (L ++ L') := he.has.append hb.has
  have hf := hz.h.fin hn hs hh
  have hid : ∀ id x, lk b id = some x → B.contains id = true := fun id x hx => by
    rw [hB]
    simp only [List.contains_eq_mem, decide_eq_true_eq]
    exact List.mem_map.2 ⟨(id, x), lk_mem hx, rfl⟩
  have hcore : ∃ Z' : Cells, Z.le Z' ∧ FzOk Z' μ F ∧ Sub Z' W ∧ Grow Z Z' cx.w.heap.size ∧ ∀ g, (∀ off, Z ⟨g, off, Option.none⟩ = Z' ⟨g, off, Option.none⟩) ∨ ∃ id x, F = some (id, x) ∧ μ.bx id = some g := by
    cases hFe : F with
    | none => exact ⟨Z, Cells.le_refl _, FzOk.none _ _, hz.sub, Grow.refl _ _, fun g => .inl fun _ => rfl⟩
    | some x =>
      obtain ⟨id, t, cs⟩ := x
      obtain ⟨h1, h2, h3⟩ := hFz id t cs hFe
      obtain ⟨g, hg, vs, v1, v2, v3, v4, v5, v6⟩ := hz.h.bx id t cs h1
      have hcell : ∀ (j : Nat) (u : Value), vs[j]? = some u → W.cell? ⟨g, j, Option.none⟩ = some u := fun j u hu => by simp [World.cell?, v1, hu]
      refine ⟨Z.add g vs, Cells.le_add _ _ _, fun id' t' cs' he' => ?_, hz.sub.add hcell, ⟨Cells.le_add _ _ _, fun ad v e => (Cells.add_inv e).imp (fun x => x) (fun x => by omega)⟩, fun g' => ?_⟩
      · cases he'
        refine ⟨g, vs, hg, fun j u hu => ?_, v2, v3, fun j p u hp hu => ((v4 j p u hp hu).drop (freeL_mem h3 p (List.mem_of_getElem? hp))).mono (Cells.le_add _ _ _) (Mu.le_refl _)⟩
        unfold Cells.add
        rw [v6 j]
        simp [hu]
      · by_cases hgg : g' = g
        · subst hgg; exact .inr ⟨id, _, rfl, hg⟩
        · refine .inl fun off => ?_
          cases hz' : Z ⟨g', off, Option.none⟩ with
          | some v => simp [Cells.add, hz']
          | none => simp [Cells.add, hz', hgg]
  obtain ⟨Z', hZ, hF, hsub, hgrow, hsame⟩ := hcore
  have hfree : ∀ g, (∀ id x, F = some (id, x) → μ.bx id ≠ some g) → ∀ off, Z ⟨g, off, Option.none⟩ = Option.none → Z' ⟨g, off, Option.none⟩ = Option.none := fun g h off e => by
    rcases hsame g with h1 | ⟨id, x, h1, h2⟩
    · rw [← h1 off]; exact e
    · exact absurd h2 (h id x h1)
  have hf' := fin_grow hf hZ (fun τ sz n v g h1 h2 h3 => hfree g (fun id x hx hg => by
    obtain ⟨t', a1, a2⟩ := tk_src hz.h hh h1 h2 h3
    obtain ⟨t, cs⟩ := x
    exact hz.h.bt id t' _ _ _ v g (hFz id t cs hx).1 a1 hg a2 h3))
  refine ⟨Z', muK μ B (L ++ L'), ⟨he.env (cx := cx) hZ hF hz.env hA1, ⟨fun id t cs' h => ?_, hf'.tk, fun i j x y g h1 h2 h3 h4 => ?_, hf'.tt, fun i g h => ?_, hf'.td, hf'.tm, fun i t x sz n v g h1 h2 h3 h4 h5 => ?_⟩, hsub, hz.le.trans hgrow (Nat.le_refl _), hz.below⟩⟩
  · obtain ⟨cs, L1, h1, h2, h3⟩ := hb.get hA2 id t cs' h
    obtain ⟨g, hg, vs, v1, v2, v3, v4, v5, v6⟩ := hz.h.bx id t cs h1
    obtain ⟨k1, k2⟩ := h2.rep (μ := μ) hZ hF h3
    refine ⟨g, by simp only [muK, hid id _ h, cond_true]; exact hg, vs, v1, by omega, v3, fun i p v hp hv => ?_, v5, fun off => hfree g (fun id' x hx hg' => ?_) off (v6 off)⟩
    · have hi := (List.getElem?_eq_some_iff.1 hp).1
      exact k2 i _ p v (List.getElem?_eq_getElem (by omega)) hp (v4 i _ v (List.getElem?_eq_getElem (by omega)) hv)
    · obtain ⟨t', cs2⟩ := x
      obtain ⟨e1, e2, _⟩ := hFz id' t' cs2 hx
      have := hz.h.bb id' id _ _ g e1 h1 hg' hg
      subst this
      rw [hid id' _ h] at e2; cases e2
  · obtain ⟨x1, x2⟩ := x
    obtain ⟨y1, y2⟩ := y
    obtain ⟨cs, _, e1, _⟩ := hb.get hA2 i x1 x2 h1
    obtain ⟨ds, _, e2, _⟩ := hb.get hA2 j y1 y2 h2
    simp only [muK, hid i _ h1, cond_true] at h3
    simp only [muK, hid j _ h2, cond_true] at h4
    exact hz.h.bb i j _ _ g e1 e2 h3 h4
  · simp only [muK] at h
    cases hc : B.contains i with
    | false => rw [hc] at h; cases h
    | true =>
      rw [hB] at hc
      simp only [List.contains_eq_mem, decide_eq_true_eq] at hc
      obtain ⟨⟨k, y⟩, hy, rfl⟩ := List.mem_map.1 hc
      exact mem_lk _ _ _ hy
  · obtain ⟨x1, x2⟩ := x
    obtain ⟨cs, _, e1, _⟩ := hb.get hA2 i x1 x2 h1
    simp only [muK, hid i _ h1, cond_true] at h3
    obtain ⟨t', a1, a2⟩ := tk_src hz.h hh h2 h4 h5
    exact hz.h.bt i t' _ _ _ v g e1 a1 h3 a2 h5
 where
  mem_lk : ∀ (b : List (Nat × (Nat × List PV))) (k : Nat) (y : Nat × List PV), (k, y) ∈ b → lk b k ≠ none
    | [], _, _, h => by cases h
    | (j, z) :: r, k, y, h => by
      rw [lk_cons]
      split
      · exact fun h => by cases h
      · rename_i hne
        rcases List.mem_cons.1 h with h | h
        · cases h; exact absurd rfl hne
        · exact mem_lk r k y h
theorem Le.keep {S : PS} {e : List (Nat × PV)} {b : List (Nat × (Nat × List PV))} {L L' : Rows'} (B : List Nat) (hb : KB B none S b L') (he : KE B none S e L) (hB : B = b.map (·.1)) (hn : ((L ++ L').map (·.1)).Nodup) (hs : ((L ++ L').filterMap (·.2.2)).Nodup) : Le S ⟨e, ⟨b, tkOf (L ++ L')⟩⟩ :=
  Le.keepF B none (fun _ _ _ h => by cases h) hb he hB hn hs
section
variable {cx : Cx} {Q : Post} {S S' : PS}
theorem PW.le {c : Code} (hw : Le S S') (h : PW cx c Q S') : PW cx c Q S := fun a W hr => h a W (hw cx a W hr)
/-- A loop, from a state of its own on. -/
theorem PW.loopAt {c : Code} {α : Type} (st : α → PS) (ok : α → Prop) (m : α → Nat) (x : α) (h0 : Le S (st x)) (hx : ok x) (hr : ∀ x, ok x → PW cx c (thn (fun S' => ∃ y, Le S' (st y) ∧ ok y ∧ m y < m x) Q) (st x)) : PW cx (.loop c) Q S := fun a W hR =>
  wp_loop_ghost (fun n a W => ∃ x, m x = n ∧ ok x ∧ R cx (st x) a W) (m x) ⟨x, rfl, hx, h0 cx a W hR⟩ fun n a W ⟨x, hm, hI, hR⟩ =>
    wp_mono (hr x hI a W hR) fun e a' W' hq => by
      obtain ⟨S', h1, h2⟩ := hq
      cases e with
      | normal =>
        obtain ⟨y, hle, hy, hlt⟩ := h2
        exact ⟨m y, by omega, y, rfl, hy, hle cx a' W' h1⟩
      | exit i => exact ⟨S', h1, h2⟩
      | goto l => exact ⟨S', h1, h2⟩
      | ret => exact ⟨S', h1, h2⟩
      | panic c => exact ⟨S', h1, h2⟩
      | outgrown => exact ⟨S', h1, h2⟩
theorem PW.condT {c : Operand} {x y : Code} (hc : S.ev c = some (.lit (.bool true))) (h : PW cx x Q S) : PW cx (.cond c x y) Q S := .cond hc (fun _ => h) (fun e => by cases e)
theorem PW.condF {c : Operand} {x y : Code} (hc : S.ev c = some (.lit (.bool false))) (h : PW cx y Q S) : PW cx (.cond c x y) Q S := .cond hc (fun e => by cases e) (fun _ => h)
end
section
variable {P : Program} [TC P] {rs : List ResultVar} {F : PV → Prop} {S : PS}
/-- A result without rows of its own. -/
theorem RetOk.free {p : PV} (h : resOf (P := P) S rs = some p) (hf : Pw.free p = true) (hF : F p) : RetOk P rs F S := by
  refine ⟨p, p, [], h, .one (.leaf (.same p hf)), List.nodup_nil, List.nodup_nil, hF⟩
theorem RetOk.of {p q : PV} {L : Rows'} (h : resOf (P := P) S rs = some q) (k : F3 S q p L) (hn : (L.map (·.1)).Nodup) (hs : (L.filterMap (·.2.2)).Nodup) (hF : F p) : RetOk P rs F S := ⟨q, p, L, h, k, hn, hs, hF⟩
end
end Go.Pw
set_option linter.unusedVariables false
set_option linter.unusedSimpArgs false
namespace Go.Pw
open Go Go.RowKit

/-- What each operation of the region gives, so far as it has come up. -/
def old (e : List (Nat × PV)) (t : Nat) : PV := match lk e t with | some q => q | none => .junk
def mayL (e0 : List (Nat × PV)) (b : Nat → Bool) : Nat → List (Option Nat × PV) → List (Nat × PV)
  | _, [] => []
  | k, (some t, p) :: r => (t, .may (b k) p (old e0 t)) :: mayL e0 b (k + 1) r
  | k, (none, _) :: r => mayL e0 b (k + 1) r
def upB (b : Nat → Bool) (i : Nat) : Nat → Bool := fun j => if j = i then true else b j
def mayAt (e : List (Nat × PV)) (D : List (Option Nat × PV)) (b : Nat → Bool) : List (Nat × PV) := mayL e b 0 D ++ e
def keysOk : List (Option Nat × PV) → Bool
  | [] => true
  | (some t, _) :: r => (r.all fun x => match x.1 with | some u => !Nat.beq t u | none => true) && keysOk r
  | (none, _) :: r => keysOk r
theorem keysOk_ne {t u : Nat} {q : PV} : ∀ {r : List (Option Nat × PV)} {i : Nat}, (r.all fun x => match x.1 with | some u => !Nat.beq t u | none => true) = true → r[i]? = some (some u, q) → t ≠ u := fun {r i} h hi => by
  have := List.all_eq_true.1 h _ (List.mem_of_getElem? hi)
  simp only [Bool.not_eq_true'] at this
  intro e
  subst e
  simp at this
theorem may_same {e0 : List (Nat × PV)} {b : Nat → Bool} {i : Nat} : ∀ (r : List (Option Nat × PV)) (k : Nat), i < k → mayL e0 (upB b i) k r = mayL e0 b k r
  | [], _, _ => rfl
  | (none, _) :: r, k, h => may_same r (k + 1) (by omega)
  | (some s, x) :: r, k, h => by
    simp only [mayL]
    rw [may_same r (k + 1) (by omega)]
    have : upB b i k = b k := by simp only [upB]; rw [if_neg (by omega)]
    rw [this]
/-- Operation i has come up. -/
theorem may_up {e0 : List (Nat × PV)} {b : Nat → Bool} {i : Nat} {t : Nat} {p : PV} {e : List (Nat × PV)} : ∀ (D : List (Option Nat × PV)) (k : Nat), keysOk D = true → True →
    (∃ j, k + j = i ∧ D[j]? = some (some t, p)) → ∀ u q, lk (mayL e0 (upB b i) k D ++ e) u = some q → (u = t ∧ q = .may true p (old e0 t)) ∨ (u ≠ t ∧ lk (mayL e0 b k D ++ e) u = some q)
  | [], _, _, _, ⟨j, _, h⟩, _, _, _ => by simp at h
  | (none, x) :: r, k, hk, _, ⟨j, hj, h⟩, u, q, hq => by
    cases j with
    | zero => simp at h
    | succ j =>
      exact may_up r (k + 1) hk trivial ⟨j, by omega, by simpa using h⟩ u q hq
  | (some s, x) :: r, k, hk, _, ⟨j, hj, h⟩, u, q, hq => by
    simp only [keysOk, Bool.and_eq_true] at hk
    simp only [mayL, List.cons_append] at hq ⊢
    rw [lk_cons] at hq ⊢
    cases j with
    | zero =>
      simp at h
      obtain ⟨rfl, rfl⟩ := h
      by_cases e1 : s = u
      · subst e1
        rw [if_pos rfl] at hq
        simp only [Option.some.injEq] at hq
        refine .inl ⟨rfl, ?_⟩
        rw [← hq]
        have : upB b i k = true := by simp [upB]; omega
        rw [this]
      · rw [if_neg e1] at hq ⊢
        refine .inr ⟨fun e => e1 e.symm, ?_⟩
        rwa [may_same r (k + 1) (by omega)] at hq
    | succ j =>
      have hst := keysOk_ne hk.1 (i := j) (by simpa using h)
      by_cases e1 : s = u
      · subst e1
        rw [if_pos rfl] at hq ⊢
        refine .inr ⟨hst, ?_⟩
        have : upB b i k = b k := by simp only [upB]; rw [if_neg (by omega)]
        rw [← hq, this]
      · rw [if_neg e1] at hq ⊢
        exact may_up r (k + 1) hk.2 trivial ⟨j, by omega, by simpa using h⟩ u q hq
theorem may_none {e0 : List (Nat × PV)} {b : Nat → Bool} {i : Nat} {p : PV} : ∀ (D : List (Option Nat × PV)) (k : Nat), (∃ j, k + j = i ∧ D[j]? = some (none, p)) → mayL e0 (upB b i) k D = mayL e0 b k D
  | [], _, ⟨j, _, h⟩ => by simp at h
  | (none, x) :: r, k, ⟨j, hj, h⟩ => by
    cases j with
    | zero =>
      have h1 : i < k + 1 := by omega
      simp only [mayL]
      exact may_same r (k + 1) h1
    | succ j => exact may_none r (k + 1) ⟨j, by omega, by simpa using h⟩
  | (some s, x) :: r, k, ⟨j, hj, h⟩ => by
    cases j with
    | zero => simp at h
    | succ j =>
      simp only [mayL]
      rw [may_none r (k + 1) ⟨j, by omega, by simpa using h⟩]
      have : upB b i k = b k := by simp only [upB]; rw [if_neg (by omega)]
      rw [this]
/-- Nothing has come up: nothing is said. -/
theorem may_first {e0 e : List (Nat × PV)} : ∀ (D : List (Option Nat × PV)) (k : Nat) (u : Nat) (q : PV), lk (mayL e0 (fun _ => false) k D ++ e) u = some q → (∃ (p : PV) (i : Nat), D[i]? = some (some u, p) ∧ q = .may false p (old e0 u)) ∨ lk e u = some q
  | [], _, _, _, h => .inr h
  | (none, x) :: r, k, u, q, h => by
    rcases may_first r (k + 1) u q h with ⟨p, i, h1, h2⟩ | h1
    · exact .inl ⟨p, i + 1, by simpa using h1, h2⟩
    · exact .inr h1
  | (some s, x) :: r, k, u, q, h => by
    simp only [mayL, List.cons_append] at h
    rw [lk_cons] at h
    by_cases e1 : s = u
    · rw [if_pos e1] at h
      subst e1
      exact .inl ⟨x, 0, by simp, by simpa using h.symm⟩
    · rw [if_neg e1] at h
      rcases may_first r (k + 1) u q h with ⟨p, i, h1, h2⟩ | h1
      · exact .inl ⟨p, i + 1, by simpa using h1, h2⟩
      · exact .inr h1
/-- The same, told otherwise. -/
theorem R.env {cx : Cx} {e e' : List (Nat × PV)} {h : PH} {a : Act} {W : World} (hR : R cx ⟨e, h⟩ a W) (H : ∀ Z μ, EnvOk Z μ cx.n e a → ∀ u q, lk e' u = some q → ∃ v, a.tmps[u]? = some v ∧ Rep Z μ q v) : R cx ⟨e', h⟩ a W := by
  obtain ⟨Z, μ, hz⟩ := hR
  exact ⟨Z, μ, ⟨⟨hz.env.df, hz.env.sz, H Z μ hz.env⟩, hz.h, hz.sub, hz.le, hz.below⟩⟩

/-! What an operation waits for. -/
def needs (o : Oper) : List Nat := (o.after.toList.filter fun e => Region.binds .any e).map (·.on)
/-- B: for each operation, as bits, some of those that it waits for, at once or through others. -/
def waitOk (B : List Nat) : Nat → List Oper → Bool
  | _, [] => true
  | k, o :: r => ((needs o).all fun j => Nat.blt j k) && (Nat.beq (Nat.lor (B.getD k 0) (reachN B k (needs o))) (reachN B k (needs o)) && waitOk B (k + 1) r)
 where reachN (B : List Nat) (k : Nat) : List Nat → Nat
  | [] => 0
  | j :: r => Nat.lor (Nat.lor (2 ^ j) (B.getD j 0)) (reachN B k r)
def ov (B : List Nat) (i : Nat) (x : Bool) (b : Nat → Bool) : Nat → Bool := fun j => bif Nat.beq j i then x else bif (B.getD i 0).testBit j then true else bif (B.getD j 0).testBit i then false else b j
theorem waitOk_at {B : List Nat} : ∀ {l : List Oper} {k i : Nat} {o : Oper}, waitOk B k l = true → l[i]? = some o → (∀ j ∈ needs o, j < k + i) ∧ ∀ j, (B.getD (k + i) 0).testBit j = true → ∃ m ∈ needs o, m = j ∨ (B.getD m 0).testBit j = true
  | [], _, _, _, _, h => by simp at h
  | x :: r, k, i, o, hw, hi => by
    simp only [waitOk, Bool.and_eq_true] at hw
    cases i with
    | zero =>
      simp at hi
      subst hi
      refine ⟨fun j hj => ?_, fun j hj => ?_⟩
      · have := List.all_eq_true.1 hw.1 j hj
        simp [Nat.blt] at this
        omega
      · have h1 := Nat.eq_of_beq_eq_true hw.2.1
        have h2 : (waitOk.reachN B k (needs x)).testBit j = true := by
          rw [← h1]
          show ((B.getD k 0) ||| _).testBit j = true
          rw [Nat.testBit_or, Bool.or_eq_true]
          exact .inl hj
        exact go (needs x) h2
    | succ i =>
      have := waitOk_at (k := k + 1) hw.2.2 (i := i) (by simpa using hi)
      rw [show k + (i + 1) = k + 1 + i by omega]
      exact this
 where
  go {B : List Nat} {k j : Nat} : ∀ (l : List Nat), (waitOk.reachN B k l).testBit j = true → ∃ m ∈ l, m = j ∨ (B.getD m 0).testBit j = true
    | [], h => by simp [waitOk.reachN] at h
    | m :: r, h => by
      have h : ((2 ^ m ||| B.getD m 0) ||| waitOk.reachN B k r).testBit j = true := h
      rw [Nat.testBit_or, Nat.testBit_or, Bool.or_eq_true, Bool.or_eq_true] at h
      rcases h with (h | h) | h
      · rw [Nat.testBit_two_pow] at h
        exact ⟨m, List.mem_cons_self, .inl (by simpa using h)⟩
      · exact ⟨m, List.mem_cons_self, .inr h⟩
      · obtain ⟨x, hx, h2⟩ := go r h
        exact ⟨x, List.mem_cons_of_mem _ hx, h2⟩
/-- The steps: each operation from a state in which what it waits for has come up, and what waits for it has not. -/
inductive Steps (cx : Cx) (ops : Array Oper) (Q : Post) (B : List Nat) (st : (Nat → Bool) → PS) : Nat → List Oper → List (Option Nat × PV) → Prop
  | nil (k : Nat) : Steps cx ops Q B st k [] []
  | cons {k : Nat} {o : Oper} {t : Option Nat} {p : PV} {l : List Oper} {D : List (Option Nat × PV)} (hd : o.dst = t)
      (h : ∀ b, PL cx ops (thn (fun S' => S' = PS.put ⟨(st (ov B k false b)).env, (st (ov B k true b)).h⟩ t p) Q) [o] (st (ov B k false b))) (r : Steps cx ops Q B st (k + 1) l D) : Steps cx ops Q B st k (o :: l) ((t, p) :: D)
theorem Steps.at_ {cx : Cx} {ops : Array Oper} {Q : Post} {B : List Nat} {st : (Nat → Bool) → PS} : ∀ {l : List Oper} {k : Nat} {D : List (Option Nat × PV)}, Steps cx ops Q B st k l D → ∀ {i : Nat} {o : Oper}, l[i]? = some o →
    ∃ p, D[i]? = some (o.dst, p) ∧ ∀ b, PL cx ops (thn (fun S' => S' = PS.put ⟨(st (ov B (k + i) false b)).env, (st (ov B (k + i) true b)).h⟩ o.dst p) Q) [o] (st (ov B (k + i) false b))
  | [], _, _, _, i, o, h => by simp at h
  | x :: r, k, _, .cons hd hx hr, i, o, h => by
    cases i with
    | zero => simp at h; subst h; subst hd; exact ⟨_, rfl, hx⟩
    | succ i =>
      obtain ⟨p, h1, h2⟩ := Steps.at_ hr (i := i) (o := o) (by simpa using h)
      refine ⟨p, by simpa using h1, ?_⟩
      rw [show k + (i + 1) = k + 1 + i by omega]
      exact h2
theorem wp_swap {P : Program} {o : Oper} {a : Act} {w : World} {K K' : Act → World → Prop} {Q Q' : Exit → Act → World → Prop} (hk : ∀ a w, K a w → K' a w) (hq : ∀ e a w, e ≠ .normal → Q e a w → Q' e a w) (hh : o.wp P a w K Q) : o.wp P a w K' Q' := by
  unfold Oper.wp at *
  generalize (execOp a.eval o).run P w = r at *
  cases r with
  | ok n w' =>
    cases n <;> simp only [Oper.upon] at hh ⊢ <;>
      first
        | exact hk _ _ hh
        | exact Calls.mono hh (fun e w'' he => by
            cases e with
            | returned v => exact hk _ _ he
            | panicked c => exact hq _ _ _ (by simp) he
            | outgrown => obtain ⟨a1, w1, h1⟩ := he; exact ⟨a1, w1, hq _ _ _ (by simp) h1⟩)
        | exact Rows.mono hh (fun _ _ he => hk _ _ he)
  | halt x w' => cases x <;> simp only [Oper.upon] at hh ⊢ <;> first | exact hq _ _ _ (by simp) hh | exact hh
/-- A region that draws its order. D: what each operation gives, in the text's order. -/
theorem PW.drawn {cx : Cx} {Q : Post} {S : PS} {id : Nat} {l : List Oper} (D : List (Option Nat × PV)) (B : List Nat) (h : (Nat → Bool) → PH) (hm : cx.P.follows .mixedOrders = true) (hw : waitOk B 0 l = true) (hB : B.length = l.length) (hk : keysOk D = true) (hd : (l.all fun o => dstOk cx.n o.dst) = true) (h0 : h (fun j => Nat.ble l.length j) = S.h)
    (hs : Steps cx l.toArray Q B (fun b => ⟨mayAt S.env D b, h b⟩) 0 l D) (hend : Q .normal ⟨mayAt S.env D (fun _ => true), h (fun _ => true)⟩) : PW cx (.region id l.toArray true) Q S := fun a W hR => by
  have hw' := fun {i : Nat} {o : Oper} (hi : l[i]? = some o) => waitOk_at hw hi
  have key : ∀ (fuel : Nat) (listed : Array Bool), listed.size = l.length → (listed.toList.filter (!·)).length = fuel → (∀ d o, l[d]? = some o → listed.getD d true = true → ∀ j ∈ needs o, listed.getD j true = true) →
      ∀ a W, R cx ⟨mayAt S.env D (fun j => listed.getD j true), h (fun j => listed.getD j true)⟩ a W → wpAny cx.P .any l.toArray (QC cx Q) fuel listed a W := by
    intro fuel
    induction fuel with
    | zero =>
      intro listed hsz hc hcl a W hR
      have hall : ∀ j, listed.getD j true = true := fun j => by
        cases hj : listed.getD j true with
        | true => rfl
        | false =>
          have hlt : j < listed.size := by
            rcases Nat.lt_or_ge j listed.size with h1 | h1
            · exact h1
            · rw [Array.getD_eq_getD_getElem?, Array.getElem?_eq_none h1] at hj; cases hj
          have : false ∈ listed.toList := by
            rw [Array.getD_eq_getD_getElem?, Array.getElem?_eq_getElem hlt] at hj
            simp only [Option.getD_some] at hj
            rw [← hj]
            exact Array.getElem_mem_toList hlt
          have := List.mem_filter.2 ⟨this, (by rfl : (!false) = true)⟩
          rw [List.eq_nil_of_length_eq_zero hc] at this
          cases this
      refine ⟨List.eq_nil_iff_forall_not_mem.2 (fun i hi => ?_), ?_⟩
      · have := (mem_ready.1 hi).1; rw [hall i] at this; cases this
      · rw [show (fun j => listed.getD j true) = (fun _ => true) from funext hall] at hR
        exact ⟨_, hR, hend⟩
    | succ fuel ih =>
      intro listed hsz hc hcl a W hR
      refine ⟨fun hr => ?_, fun i hi => ?_⟩
      · exfalso
        have hex : ∃ i, i < listed.size ∧ listed.getD i true = false := by
          cases hf : listed.toList.filter (!·) with
          | nil => rw [hf] at hc; simp at hc
          | cons x r =>
            have hx : x ∈ listed.toList.filter (!·) := by rw [hf]; exact List.mem_cons_self
            rw [List.mem_filter] at hx
            obtain ⟨i, hi, e⟩ := List.mem_iff_getElem.1 hx.1
            refine ⟨i, by simpa using hi, ?_⟩
            have hi' : i < listed.size := by simpa using hi
            rw [Array.getD_eq_getD_getElem?, Array.getElem?_eq_getElem hi']
            simp only [Option.getD_some]
            have : listed[i] = x := by rw [← e]; simp
            rw [this]
            simpa using hx.2
        have hmin : ∀ k, (∃ i, i ≤ k ∧ i < listed.size ∧ listed.getD i true = false) → ∃ i, i < listed.size ∧ listed.getD i true = false ∧ ∀ j, j < i → listed.getD j true = true := by
          intro k
          induction k with
          | zero => rintro ⟨i, hi, h1, h2⟩; exact ⟨i, h1, h2, fun j hj => by omega⟩
          | succ k ihk =>
            rintro ⟨i, hi, h1, h2⟩
            by_cases hlow : ∃ j, j ≤ k ∧ j < listed.size ∧ listed.getD j true = false
            · exact ihk hlow
            · refine ⟨i, h1, h2, fun j hj => ?_⟩
              cases hb : listed.getD j true with
              | true => rfl
              | false => exact absurd ⟨j, by omega, by omega, hb⟩ hlow
        obtain ⟨i0, h1, h2⟩ := hex
        obtain ⟨i, hlt, hb, hlow⟩ := hmin i0 ⟨i0, Nat.le_refl _, h1, h2⟩
        have hil : l[i]? = some l[i] := List.getElem?_eq_getElem (by omega)
        have : i ∈ Region.ready .any l.toArray listed := mem_ready.2 ⟨hb, l[i], by rw [List.getElem?_toArray]; exact hil, fun e he hbd => by
          have hj := (hw' hil).1 e.on (List.mem_map.2 ⟨e, List.mem_filter.2 ⟨by simpa using he, hbd⟩, rfl⟩)
          have h3 := hlow e.on (by omega)
          have hlt' : e.on < listed.size := by omega
          rw [Array.getD_eq_getD_getElem?, Array.getElem?_eq_getElem hlt'] at h3 ⊢
          exact h3⟩
        rw [hr] at this
        cases this
      · obtain ⟨hb, o, ho, hall⟩ := mem_ready.1 hi
        have ho : l[i]? = some o := by simpa using ho
        have hlt : i < listed.size := by rw [hsz]; exact (List.getElem?_eq_some_iff.1 ho).1
        have hneed : ∀ j ∈ needs o, listed.getD j true = true := fun j hj => by
          obtain ⟨e, he, rfl⟩ := List.mem_map.1 hj
          rw [List.mem_filter] at he
          have h1 := hall e (by simpa using he.1) he.2
          have hlt' : e.on < listed.size := by
            rcases Nat.lt_or_ge e.on listed.size with h2 | h2
            · exact h2
            · rw [Array.getD_eq_getD_getElem?, Array.getElem?_eq_none h2] at h1; cases h1
          rw [Array.getD_eq_getD_getElem?, Array.getElem?_eq_getElem hlt'] at h1 ⊢
          exact h1
        have down : ∀ (m d : Nat), d ≤ m → d < l.length → listed.getD d true = true → ∀ j, (B.getD d 0).testBit j = true → listed.getD j true = true := by
          intro m
          induction m with
          | zero =>
            intro d hd hl hb j hj
            have hdl : l[d]? = some l[d] := List.getElem?_eq_getElem hl
            obtain ⟨k1, k2⟩ := hw' hdl
            rw [Nat.zero_add] at k1 k2
            obtain ⟨m', hm', _⟩ := k2 j hj
            have := k1 m' hm'
            omega
          | succ m ihm =>
            intro d hd hl hb j hj
            have hdl : l[d]? = some l[d] := List.getElem?_eq_getElem hl
            obtain ⟨k1, k2⟩ := hw' hdl
            rw [Nat.zero_add] at k1 k2
            obtain ⟨m', hm', h3⟩ := k2 j hj
            have h4 := hcl d _ hdl hb m' hm'
            rcases h3 with rfl | h3
            · exact h4
            · have := k1 m' hm'
              exact ihm m' (by omega) (by omega) h4 j h3
        have hov : (fun j => listed.getD j true) = ov B i false (fun j => listed.getD j true) := funext fun j => by
          unfold ov
          by_cases hji : j = i
          · subst hji; rw [show Nat.beq j j = true from Nat.beq_refl j, cond_true]; exact hb
          · rw [beq_ne hji, cond_false]
            cases h1 : (B.getD i 0).testBit j with
            | true =>
              rw [cond_true]
              obtain ⟨k1, k2⟩ := hw' ho
              rw [Nat.zero_add] at k1 k2
              obtain ⟨m', hm', h3⟩ := k2 j h1
              have h4 := hneed m' hm'
              rcases h3 with rfl | h3
              · exact h4
              · exact down m' m' (Nat.le_refl _) (by have := k1 m' hm'; omega) h4 j h3
            | false =>
              rw [cond_false]
              cases h2 : (B.getD j 0).testBit i with
              | false => rw [cond_false]
              | true =>
                rw [cond_true]
                cases h5 : listed.getD j true with
                | false => rfl
                | true =>
                  exfalso
                  rcases Nat.lt_or_ge j l.length with hjl | hjl
                  · have := down j j (Nat.le_refl _) hjl h5 i h2
                    rw [hb] at this; cases this
                  · rw [List.getD_eq_getElem?_getD, List.getElem?_eq_none (by omega)] at h2; simp at h2
        have hup : (fun j => (listed.setIfInBounds i true).getD j true) = upB (fun j => listed.getD j true) i := funext fun j => by
          simp only [upB]
          by_cases hji : j = i
          · subst hji; rw [if_pos rfl, Array.getD_eq_getD_getElem?, Array.getElem?_setIfInBounds_self_of_lt hlt]; rfl
          · rw [if_neg hji, Array.getD_eq_getD_getElem?, Array.getElem?_setIfInBounds_ne (Ne.symm hji), Array.getD_eq_getD_getElem?]
        have hov2 : upB (fun j => listed.getD j true) i = ov B i true (fun j => listed.getD j true) := funext fun j => by
          have h1 := congrFun hov j
          simp only [upB]
          unfold ov at h1 ⊢
          by_cases hji : j = i
          · subst hji; rw [if_pos rfl, show Nat.beq j j = true from Nat.beq_refl j, cond_true]
          · rw [if_neg hji]; rw [beq_ne hji, cond_false] at h1 ⊢; exact h1
        obtain ⟨p, hD, hst⟩ := hs.at_ ho
        rw [Nat.zero_add] at hst
        have h1 := hst (fun j => listed.getD j true) a W (by rw [hov] at hR; exact hR)
        have hcont : ∀ a' W', (∃ S', R cx S' a' W' ∧ S' = PS.put ⟨mayAt S.env D (ov B i false fun j => listed.getD j true), h (ov B i true fun j => listed.getD j true)⟩ o.dst p) → wpAny cx.P .any l.toArray (QC cx Q) fuel (listed.setIfInBounds i true) a' W' := by
          rintro a' W' ⟨S', hR', rfl⟩
          refine ih _ (by simpa using hsz) ?_ ?_ a' W' ?_
          · rw [Array.toList_setIfInBounds]
            have : ∀ (l : List Bool) (i : Nat), l[i]? = some false → ((l.set i true).filter (!·)).length + 1 = (l.filter (!·)).length := by
              intro l
              induction l with
              | nil => intro i h; simp at h
              | cons x r ihr =>
                intro i h
                cases i with
                | zero => simp at h; subst h; simp
                | succ i =>
                  have := ihr i (by simpa using h)
                  rw [List.set_cons_succ, List.filter_cons, List.filter_cons]
                  split
                  · simp only [List.length_cons]; omega
                  · omega
            have h2 := this listed.toList i (by
              rw [Array.getD_eq_getD_getElem?, Array.getElem?_eq_getElem hlt] at hb
              rw [Array.getElem?_toList, Array.getElem?_eq_getElem hlt]
              simpa using hb)
            omega
          · intro d od hod hdl j hj
            have e1 := congrFun hup d
            have e2 := congrFun hup j
            simp only [upB] at e1 e2
            rw [e1] at hdl
            rw [e2]
            by_cases hji : j = i
            · rw [if_pos hji]
            · rw [if_neg hji]
              by_cases hdi : d = i
              · subst hdi; rw [ho] at hod; cases hod; exact hneed j hj
              · rw [if_neg hdi] at hdl; exact hcl d od hod hdl j hj
          · rw [hup, hov2]
            rw [← hov] at hR'
            cases hdst : o.dst with
            | none =>
              rw [hdst] at hR' hD
              have e : mayAt S.env D (ov B i true fun j => listed.getD j true) = mayAt S.env D (fun j => listed.getD j true) := by
                rw [← hov2]; unfold mayAt; rw [may_none D 0 ⟨i, by omega, hD⟩]
              rw [e]
              exact hR'
            | some t =>
              rw [hdst] at hR' hD
              refine R.env hR' (fun Z μ hE u q hu => ?_)
              rw [← hov2] at hu
              rcases may_up D 0 hk trivial ⟨i, by omega, hD⟩ u q hu with ⟨rfl, rfl⟩ | ⟨hne, h3⟩
              · obtain ⟨v, hv, hr⟩ := hE.at_ u p (by rw [lk_cons, if_pos rfl])
                exact ⟨v, hv, .may _ _ _ _ _ (fun _ => hr) (fun e => by cases e)⟩
              · exact hE.at_ u q (by rw [lk_cons, if_neg (Ne.symm hne)]; exact h3)
        unfold wpOp
        rw [show l.toArray[i]? = some o by simpa using ho]
        show (if Region.wanted o (yielded l.toArray a.tmps) = true then _ else _)
        unfold wpList at h1
        split
        · rename_i hwant
          rw [if_pos hwant] at h1
          rcases h1 with h1 | ⟨h1, a1, w1, h2⟩
          · exact .inl (wp_swap (fun a w hh => hcont a w hh) (fun e a w he hh => by
              obtain ⟨S', h3, h4⟩ := hh
              refine ⟨S', h3, ?_⟩
              cases e with
              | normal => exact absurd rfl he
              | exit i => exact h4
              | goto l => exact h4
              | ret => exact h4
              | panic c => exact h4
              | outgrown => exact h4) h1)
          · exact .inr ⟨h1, a1, w1, h2⟩
        · rename_i hwant
          rw [if_neg hwant] at h1
          exact hcont _ _ h1
  have hlow : mayAt S.env D (fun j => Nat.ble l.length j) = mayAt S.env D (fun _ => false) := by
    unfold mayAt; rw [low D 0 (by rw [len hs, Nat.zero_add]; exact Nat.le_refl _)]
  have hR0 : R cx ⟨mayAt S.env D (fun j => Nat.ble l.length j), h (fun j => Nat.ble l.length j)⟩ a { W with drawn := W.drawn + 1 } := by
    rw [h0, hlow]
    obtain ⟨Z, μ, hz⟩ := hR
    have hz2 : RZ cx S a { W with drawn := W.drawn + 1 } Z μ := hz.grow ((Below.refl _ _).drew) (Cells.le_refl _) (fun _ _ e => .inl e) hz.sub
    refine R.env (e := S.env) ⟨Z, μ, hz2⟩ (fun Z μ hE u q hu => ?_)
    rcases may_first D 0 u q hu with ⟨p, i, h1, rfl⟩ | h1
    · have hi := (List.getElem?_eq_some_iff.1 h1).1
      have hlen : D.length = l.length := len hs
      have hil : l[i]? = some (l[i]'(by omega)) := List.getElem?_eq_getElem _
      obtain ⟨p', e, _⟩ := hs.at_ hil
      rw [h1] at e
      simp only [Option.some.injEq, Prod.mk.injEq] at e
      have := List.all_eq_true.1 hd _ (List.mem_of_getElem? hil)
      rw [← e.1] at this
      have hlt : u < cx.n := dst_lt this
      have : u < a.tmps.size := by rw [hE.sz]; exact hlt
      refine ⟨a.tmps[u], Array.getElem?_eq_getElem this, .may _ _ _ _ _ (fun e => by cases e) (fun _ => ?_)⟩
      unfold old
      cases hl0 : lk S.env u with
      | none => exact .junk _ _
      | some q0 =>
        obtain ⟨v, hv, hr⟩ := hE.at_ u q0 hl0
        rw [Array.getElem?_eq_getElem this] at hv
        cases hv
        exact hr
    · exact hE.at_ u q h1
  refine wp_region_any hm ?_
  have hrep : (fun j => (Array.replicate l.toArray.size false).getD j true) = fun j => Nat.ble l.length j := funext fun j => by
    rw [Array.getD_eq_getD_getElem?, Array.getElem?_replicate]
    by_cases h1 : j < l.length
    · rw [if_pos (by simpa using h1)]
      cases hb : Nat.ble l.length j with
      | false => rfl
      | true => have := Nat.le_of_ble_eq_true hb; omega
    · rw [if_neg (by simpa using h1)]
      cases hb : Nat.ble l.length j with
      | false =>
        have h2 : Nat.ble l.length j = true := Nat.ble_eq_true_of_le (Nat.le_of_not_lt h1)
        rw [h2] at hb; cases hb
      | true => rfl
  refine key l.toArray.size _ (by simp) (by simp) (fun d o ho hdl j hj => ?_) a _ (by rw [hrep]; exact hR0)
  have h1 := congrFun hrep d
  have h1 : (Array.replicate l.toArray.size false).getD d true = Nat.ble l.length d := h1
  rw [hdl] at h1
  have := Nat.le_of_ble_eq_true h1.symm
  have := (List.getElem?_eq_some_iff.1 ho).1
  omega
 where
  len {cx : Cx} {ops : Array Oper} {Q : Post} {B : List Nat} {st : (Nat → Bool) → PS} : ∀ {l : List Oper} {k : Nat} {D : List (Option Nat × PV)}, Steps cx ops Q B st k l D → D.length = l.length
    | [], _, _, .nil _ => rfl
    | _ :: _, _, _, .cons _ _ r => by simp [len r]
  dst_lt {n u : Nat} (h : dstOk n (some u) = true) : u < n := by simpa [dstOk] using h
  low {e0 : List (Nat × PV)} {n : Nat} : ∀ (D : List (Option Nat × PV)) (k : Nat), k + D.length ≤ n → mayL e0 (fun j => Nat.ble n j) k D = mayL e0 (fun _ => false) k D
    | [], _, _ => rfl
    | (none, _) :: r, k, h => low r (k + 1) (by simp only [List.length_cons] at h; omega)
    | (some t, p) :: r, k, h => by
      simp only [List.length_cons] at h
      simp only [mayL]
      rw [low r (k + 1) (by omega)]
      cases hb : Nat.ble n k with
      | false => rfl
      | true => have := Nat.le_of_ble_eq_true hb; omega
end Go.Pw
set_option linter.unusedVariables false
set_option linter.unusedSimpArgs false
namespace Go.Pw
open Go Go.RowKit

def KF (S : PS) : List (Nat × PV) → Prop
  | [] => True
  | (t, q) :: r => (may1 (lk S.env t) = some q ∧ free q = true) ∧ KF S r
theorem KF.ke {S : PS} : ∀ {e : List (Nat × PV)}, KF S e → KE [] none S e []
  | [], _ => .nil
  | (t, q) :: r, h => by
    have := KE.cons (L := []) (L' := []) h.1.1 (.leaf (.f (.same q h.1.2))) (KF.ke h.2)
    exact this
/-- Only these are kept; none has a row or a box. -/
theorem Le.free {S : PS} {e : List (Nat × PV)} (h : KF S e := by repeat (first | exact trivial | refine ⟨⟨rfl, rfl⟩, ?_⟩)) : Le S ⟨e, PH.none⟩ :=
  Le.keep (L := []) (L' := []) (b := []) [] .nil h.ke rfl (by simp) (by simp)

/-- One row is kept, the rest has none. -/
theorem Le.row {S : PS} {e : List (Nat × PV)} {tv sz t τ : Nat} {es es' : List (List PV)} (h : KF S e) (hr : may1 (lk S.env tv) = some (.sl sz es' (some t))) (ht : lk S.h.tk t = some (sz, es'.length)) (hes : es' = es) : Le S ⟨(tv, .sl sz es (some τ)) :: e, ⟨[], [(τ, (sz, es.length))]⟩⟩ := by
  subst hes
  exact Le.keep (L := [(τ, ((sz, es'.length), some t))]) (L' := []) (b := []) [] .nil (.cons (L' := []) hr (.leaf (.f (.row sz es' t τ ht))) h.ke) rfl (by simp) (by simp)
theorem Le.rowNil {S : PS} {e : List (Nat × PV)} {tv sz τ : Nat} (h : KF S e) (hr : may1 (lk S.env tv) = some (.lit (.slice none 0 0))) : Le S ⟨(tv, .sl sz [] (some τ)) :: e, ⟨[], [(τ, (sz, 0))]⟩⟩ :=
  Le.keep (L := [(τ, ((sz, 0), none))]) (L' := []) (b := []) [] .nil (.cons (L' := []) hr (.leaf (.f (.nil sz τ))) h.ke) rfl (by simp) (by simp)
/-- Whole numbers within bounds. -/
theorem wrap_id {x : Int} (h0 : -9223372036854775808 ≤ x) (h1 : x ≤ 9223372036854775807) : IntKind.i64.wrap x = x := by
  have hb : IntKind.i64.bits = 64 := rfl
  have hs : IntKind.i64.signed = true := rfl
  simp [IntKind.wrap, hb, hs]
  split <;> omega
theorem inc_ok {x : Nat} (h : x < 9223372036854775807) : some (PV.lit (.int .i64 (IntKind.i64.wrap ((x : Int) + 1)))) = some (PV.lit (.int .i64 ((x + 1 : Nat) : Int))) := by
  rw [wrap_id (by omega) (by omega)]
  rfl

/-- Bytes. -/
def eb (b : UInt8) : List PV := [.lit (.int .u8 (b.toNat : Int))]
def eBs (l : List UInt8) : PV := .sl 1 (l.map eb) none
theorem map_at {α β : Type} {f : α → β} {l : List α} {i : Nat} {x : α} (h : l[i]? = some x) : (l.map f)[i]? = some (f x) := by simp [h]
theorem map_at' {α β : Type} {f : α → β} {l : List α} {i : Nat} {x : α} (h : l[i]? = some x) : (l.map f)[((i : Nat) : Int).toNat]? = some (f x) := by simp [h]
theorem nat_nonneg (i : Nat) : (0 : Int) ≤ (i : Int) := Int.natCast_nonneg i
section
variable {cx : Cx} [TC cx.P] {S : PS} {o : Oper}
theorem OpV.idxS {x y : Operand} {s : ByteArray} {t : Nat} {k : IntKind} {n : Int} {b : UInt8} (ho : o.op = .index t x y) (hx : S.ev x = some (.lit (.string s))) (hy : S.ev y = some (.lit (.int k n))) (h0 : 0 ≤ n) (hb : s.data.toList[n.toNat]? = some b) {i : TI} (ht : lk (TC.T cx.P) t = some i) (hd : i.d = .str) : OpV cx o S (.lit (.int .u8 (b.toNat : Int))) := by
  have h1 : n.toNat < s.size := by
    have := (List.getElem?_eq_some_iff.1 hb).1
    rw [Array.length_toList] at this
    exact this
  have h2 : s[n.toNat]'h1 = b := by
    have h3 := (List.getElem?_eq_some_iff.1 hb).2
    rw [← h3]
    rfl
  have := OpV.idxStr ho hx hy h0 h1 ht hd
  rw [h2] at this
  exact this
end
end Go.Pw
set_option linter.unusedVariables false
set_option linter.unusedSimpArgs false
namespace Go.Pw
open Go Go.RowKit

/-- A bound of a cut: what it is, if it stands there; else d. -/
def bdV (S : PS) (d : Int) : Option Operand → Option Int
  | none => some d
  | some x => match S.ev x with
    | some (.lit (.int _ n)) => some n
    | _ => none
section
variable {cx : Cx} {S : PS} {o : Oper}
theorem bd_run {W : World} {Z : Cells} {μ : Mu} {a : Act} (hz : RZ cx S a W Z μ) {d n : Int} {x : Option Operand} (h : bdV S d x = some n) : (x = none ∧ n = d) ∨ ∃ y k, x = some y ∧ a.eval y = .int k n := by
  unfold bdV at h
  split at h
  · cases h; exact .inl ⟨rfl, rfl⟩
  · split at h
    · rename_i h1; cases h; exact .inr ⟨_, _, rfl, (hz.ev h1).lit_inv⟩
    · cases h
variable [TC cx.P]
theorem OpV.cut {x : Operand} {lo hi : Option Operand} {t e sz l h : Nat} {q : Option Nat} {es : List (List PV)} {i j : TI} (ho : o.op = .slice t x lo hi none) (hx : S.ev x = some (.sl sz es q)) (ht : lk (TC.T cx.P) t = some i) (hd : i.d = .slice e) (he : lk (TC.T cx.P) e = some j) (hj : j.sz = sz)
    (h1 : bdV S 0 lo = some (l : Int)) (h2 : bdV S es.length hi = some (h : Int)) (hlh : l ≤ h) (hh : h ≤ es.length) : OpV cx o S (.sl sz ((es.take h).drop l) none) := fun a W Z μ hz => by
  obtain ⟨A, c, val, hv, hc, hes, hZ, hu1, hu⟩ := (hz.ev hx).sl_inv
  have hun := (TC.at_ ht).und
  rw [hd] at hun
  have hun : cx.P.underlying t = some (.slice e) := hun
  have hs := (TC.at_ he).size
  have hget : ∀ (m : Nat) (el : List PV), ((es.take h).drop l)[m]? = some el → es[l + m]? = some el := fun m el hm => by
    rw [List.getElem?_drop] at hm
    rw [List.getElem?_take] at hm
    split at hm
    · exact hm
    · cases hm
  refine ⟨.slice (if c = l then A else A.map (·.add (l * sz))) (h - l) (c - l), ?_, ?_⟩
  · simp only [execOp, ho, hv]
    rcases bd_run hz h1 with ⟨rfl, e1⟩ | ⟨y1, k1, rfl, e1⟩ <;> rcases bd_run hz h2 with ⟨rfl, e2⟩ | ⟨y2, k2, rfl, e2⟩
    · have : l = 0 := by omega
      subst this
      have : h = es.length := by omega
      subst this
      simp [Instr.sliceAt, Instr.slice, run_underlying hun, Instr.sliceBounds, hs, hj]
    · have : l = 0 := by omega
      subst this
      have g2 : h ≤ c := by omega
      simp [Instr.sliceAt, Instr.slice, run_underlying hun, Instr.sliceBounds, Instr.sliceBound, asIntOf, e2, g2, hs, hj]
    · have : h = es.length := by omega
      subst this
      have g1 : l ≤ es.length := by omega
      simp [Instr.sliceAt, Instr.slice, run_underlying hun, Instr.sliceBounds, Instr.sliceBound, asIntOf, e1, g1, hs, hj]
    · have g2 : h ≤ c := by omega
      have g1 : l ≤ h := by omega
      simp [Instr.sliceAt, Instr.slice, run_underlying hun, Instr.sliceBounds, Instr.sliceBound, asIntOf, e1, e2, g1, g2, hs, hj]
  · have hlen : ((es.take h).drop l).length = h - l := by rw [List.length_drop, List.length_take, Nat.min_eq_left hh]
    rw [← hlen]
    refine .sl _ _ _ _ _ (fun i j => val (l + i) j) (by rw [hlen]; omega) (fun el hel => ?_) (fun h0 => ?_) (fun m el j p hm hp => hu1 _ _ _ _ (hget m el hm) hp) (fun m el j p hm hp => hu _ _ _ _ (hget m el hm) hp)
    · obtain ⟨m, hm⟩ := List.getElem?_of_mem hel
      exact hes el (List.mem_of_getElem? (hget m el hm))
    · rw [hlen] at h0
      obtain ⟨ad, rfl, hZ2⟩ := hZ (by omega)
      refine ⟨ad.add (l * sz), by rw [if_neg (by omega)]; rfl, fun m el j p hm hp => ?_⟩
      rw [add_add, ← hZ2 (l + m) el j p (hget m el hm) hp, Nat.add_mul, Nat.add_assoc]
theorem OpV.cutS {x : Operand} {lo hi : Option Operand} {t l h : Nat} {s : ByteArray} {i : TI} (ho : o.op = .slice t x lo hi none) (hx : S.ev x = some (.lit (.string s))) (ht : lk (TC.T cx.P) t = some i) (hd : i.d = .str)
    (h1 : bdV S 0 lo = some (l : Int)) (h2 : bdV S s.size hi = some (h : Int)) (hlh : l ≤ h) (hh : h ≤ s.size) : OpV cx o S (.lit (.string (s.extract l h))) := fun a W Z μ hz => by
  have hv := (hz.ev hx).lit_inv
  have hun := (TC.at_ ht).und
  rw [hd] at hun
  have hun : cx.P.underlying t = some .string := hun
  refine ⟨_, ?_, .lit _ _⟩
  simp only [execOp, ho, hv]
  rcases bd_run hz h1 with ⟨rfl, e1⟩ | ⟨y1, k1, rfl, e1⟩ <;> rcases bd_run hz h2 with ⟨rfl, e2⟩ | ⟨y2, k2, rfl, e2⟩
  · have : l = 0 := by omega
    subst this
    have : h = s.size := by omega
    subst this
    simp [Instr.sliceAt, Instr.slice, run_underlying hun, Instr.sliceBounds]
  · have : l = 0 := by omega
    subst this
    have g2 : h ≤ s.size := by omega
    simp [Instr.sliceAt, Instr.slice, run_underlying hun, Instr.sliceBounds, Instr.sliceBound, asIntOf, e2, g2]
  · have : h = s.size := by omega
    subst this
    have g1 : l ≤ s.size := by omega
    simp [Instr.sliceAt, Instr.slice, run_underlying hun, Instr.sliceBounds, Instr.sliceBound, asIntOf, e1, g1]
  · have g2 : h ≤ s.size := by omega
    have g1 : l ≤ h := by omega
    simp [Instr.sliceAt, Instr.slice, run_underlying hun, Instr.sliceBounds, Instr.sliceBound, asIntOf, e1, e2, g1, g2]
end
end Go.Pw
set_option linter.unusedVariables false
set_option linter.unusedSimpArgs false
namespace Go.Pw
open Go Go.RowKit

theorem foldl_splice : ∀ (cs : List Value) (o : Nat) (A : Array Value), o + cs.length ≤ A.size → (cs.zipIdx.foldl (fun (A : Array Value) (x : Value × Nat) => A.setIfInBounds (o + x.2) x.1) A).toList = A.toList.take o ++ (cs ++ A.toList.drop (o + cs.length)) := by
  intro cs
  suffices H : ∀ (cs : List Value) (j o : Nat) (A : Array Value), o + j + cs.length ≤ A.size → ((cs.zipIdx j).foldl (fun (A : Array Value) (x : Value × Nat) => A.setIfInBounds (o + x.2) x.1) A).toList = A.toList.take (o + j) ++ (cs ++ A.toList.drop (o + j + cs.length)) from fun o A h => by simpa using H cs 0 o A (by simpa using h)
  intro cs
  induction cs with
  | nil => intro j o A _; simp
  | cons c cs ih =>
    intro j o A h
    simp only [List.length_cons] at h
    rw [List.zipIdx_cons, List.foldl_cons, ih (j + 1) o _ (by simp; omega)]
    rw [Array.toList_setIfInBounds]
    apply List.ext_getElem?
    intro i
    have hl : (A.toList.set (o + j) c).length = A.size := by simp
    rw [getElem?_splice _ _ _ (by rw [hl]; omega), show A.toList.take (o + j) ++ (c :: cs ++ A.toList.drop (o + j + (c :: cs).length)) = A.toList.take (o + j) ++ ((c :: cs) ++ A.toList.drop (o + j + (c :: cs).length)) from rfl, getElem?_splice _ _ _ (by simp; omega)]
    simp only [List.length_cons]
    by_cases h1 : i = o + j
    · subst h1
      rw [if_neg (by omega), if_pos ⟨by omega, by omega⟩, List.getElem?_set_self (by rw [Array.length_toList]; omega)]
      simp
    · rw [List.getElem?_set_ne (fun e => h1 e.symm)]
      by_cases h2 : o + (j + 1) ≤ i ∧ i < o + (j + 1) + cs.length
      · rw [if_pos h2, if_pos ⟨by omega, by omega⟩, show i - (o + j) = i - (o + (j + 1)) + 1 from by omega, List.getElem?_cons_succ]
      · rw [if_neg h2, if_neg (by omega)]
/-- Cells that stand for these. -/
structure CR (Z : Cells) (μ : Mu) (cs : List PV) (A : Array Value) : Prop where
  len : A.size = cs.length
  one : ∀ u ∈ A.toList, u.oneCell' = true
  rep : ∀ (i : Nat) (p : PV) (v : Value), cs[i]? = some p → A.toList[i]? = some v → Rep Z μ p v
def fillP (T : List (Nat × TI)) (fs : List (Nat × Nat)) (S : PS) : List PV → List (Nat × Operand) → Option (List PV)
  | cs, [] => some cs
  | cs, (i, x) :: r => match fs[i]?, S.ev x with
    | some (off, ft), some p => match cellsOf p, lk T ft with
      | some l, some j => bif Nat.beq l.length j.sz && Nat.ble (off + l.length) cs.length then fillP T fs S (writeC cs off l) r else none
      | _, _ => none
    | _, _ => none
section
variable {cx : Cx} [TC cx.P] {S : PS} {o : Oper}
theorem fillP_ok {a : Act} {W : World} {Z : Cells} {μ : Mu} (hz : RZ cx S a W Z μ) {fs : List (Nat × Nat)} {places : Nat → Option (Nat × Nat)} (hpl : ∀ i off ft j, fs[i]? = some (off, ft) → lk (TC.T cx.P) ft = some j → places i = some (off, j.sz)) :
    ∀ (ps : List (Nat × Operand)) (cs : List PV) (A : Array Value) (out : List PV), CR Z μ cs A → fillP (TC.T cx.P) fs S cs ps = some out → ∃ B, Instr.fill places A (ps.map fun q => (q.1, a.eval q.2)) = some B ∧ CR Z μ out B
  | [], cs, A, out, hA, h => by
    simp only [fillP, Option.some.injEq] at h
    subst h
    exact ⟨A, rfl, hA⟩
  | (i, x) :: r, cs, A, out, hA, h => by
    simp only [fillP] at h
    split at h
    · rename_i off ft p hf hx
      split at h
      · rename_i l j hl hj
        cases hb : Nat.beq l.length j.sz && Nat.ble (off + l.length) cs.length with
        | false => rw [hb] at h; cases h
        | true =>
          rw [hb, cond_true] at h
          rw [Bool.and_eq_true] at hb
          have h1 := Nat.eq_of_beq_eq_true hb.1
          have h2 := Nat.le_of_ble_eq_true hb.2
          obtain ⟨c1, c2, c3⟩ := (hz.ev hx).cells hl
          rw [Array.length_toList] at c1
          have hfold : ((a.eval x).cells.zipIdx.foldl (fun cs (c, j) => cs.setIfInBounds (off + j) c) A).toList = A.toList.take off ++ ((a.eval x).cells.toList ++ A.toList.drop (off + (a.eval x).cells.toList.length)) := by
            rw [← Array.foldl_toList, Array.toList_zipIdx]
            exact foldl_splice _ _ _ (by rw [Array.length_toList, c1, hA.len]; exact h2)
          have hcr : CR Z μ (writeC cs off l) ((a.eval x).cells.zipIdx.foldl (fun cs (c, j) => cs.setIfInBounds (off + j) c) A) := by
            refine ⟨?_, fun u hu => ?_, fun k q v hq hv => ?_⟩
            · rw [← Array.length_toList, hfold]
              simp only [writeC, List.length_append, List.length_take, List.length_drop, Array.length_toList, c1, hA.len]
            · rw [hfold] at hu
              rcases List.mem_append.1 hu with h3 | h3
              · exact hA.one u (List.mem_of_mem_take h3)
              · rcases List.mem_append.1 h3 with h3 | h3
                · exact c2 u h3
                · exact hA.one u (List.mem_of_mem_drop h3)
            · rw [hfold, getElem?_splice _ _ _ (by rw [Array.length_toList, Array.length_toList, c1, hA.len]; exact h2)] at hv
              rw [writeC, getElem?_splice _ _ _ h2] at hq
              rw [Array.length_toList, c1] at hv
              by_cases h3 : off ≤ k ∧ k < off + l.length
              · rw [if_pos h3] at hq hv; exact c3 _ q v hq hv
              · rw [if_neg h3] at hq hv; exact hA.rep k q v hq hv
          obtain ⟨B, hB, hR⟩ := fillP_ok hz hpl r _ _ out hcr h
          refine ⟨B, ?_, hR⟩
          simp only [List.map_cons, Instr.fill, hpl i off ft j hf hj]
          rw [if_neg (by simp only [ne_eq, Bool.or_eq_true, decide_eq_true_eq, not_or, Decidable.not_not]; rw [c1, hA.len]; exact ⟨h1, by omega⟩)]
          exact hB
      · cases h
    · cases h
theorem OpV.build {t : Nat} {parts : Array (Nat × Operand)} {i : TI} {fs : List (Nat × Nat)} {out : List PV} (ho : o.op = .build t parts) (ht : lk (TC.T cx.P) t = some i) (hd : i.d = .struct fs) (hall : fs.all (fun f => match lk (TC.T cx.P) f.2 with | some _ => true | none => false) = true) (h1 : i.zero.cells.toList.all Value.oneCell' = true)
    (hf : fillP (TC.T cx.P) fs S (i.zero.cells.toList.map .lit) parts.toList = some out) : OpV cx o S (.agg out) := fun a W Z μ hz => by
  have hi := TC.at_ ht
  obtain ⟨ti, hinfo, hsz, _, hzero⟩ := hi.info
  have hu := hi.und
  rw [hd] at hu
  obtain ⟨F, hF, hm⟩ := hu
  have hplaces : ∃ places : List (Nat × Nat), F.toList.mapM (fun f => (cx.P.info? f.type).map fun i => (f.offset, i.size)) = some places ∧ ∀ (k off ft : Nat) (j : TI), fs[k]? = some (off, ft) → lk (TC.T cx.P) ft = some j → places[k]? = some (off, j.sz) := by
    rw [← hm] at hall ⊢
    generalize F.toList = L at hall ⊢
    induction L with
    | nil => exact ⟨[], rfl, fun k off ft j h => by simp at h⟩
    | cons f r ih =>
      rw [List.map_cons, List.all_cons, Bool.and_eq_true] at hall
      obtain ⟨places, e1, e2⟩ := ih hall.2
      cases hlk : lk (TC.T cx.P) f.type with
      | none => have := hall.1; simp only [hlk] at this; cases this
      | some j =>
        obtain ⟨tj, hj1, hj2, _⟩ := (TC.at_ hlk).info
        refine ⟨(f.offset, tj.size) :: places, by simp [List.mapM_cons, hj1, e1], fun k off ft j' hk hj' => ?_⟩
        cases k with
        | zero =>
          simp at hk
          obtain ⟨rfl, rfl⟩ := hk
          rw [hlk] at hj'; cases hj'
          simp [hj2]
        | succ k => simpa using e2 k off ft j' (by simpa using hk) hj'
  obtain ⟨places, hp1, hp2⟩ := hplaces
  have hcr : CR Z μ (i.zero.cells.toList.map .lit) i.zero.cells := ⟨by simp, fun u hu => by simpa using List.all_eq_true.1 h1 u hu, fun k p v hp hv => by
    rw [List.getElem?_map, hv] at hp
    cases hp
    exact .lit _ _⟩
  obtain ⟨B, hB, hR⟩ := fillP_ok (places := fun k => places[k]?) hz (fun k off ft j h1 h2 => hp2 k off ft j h1 h2) parts.toList _ _ out hcr hf
  refine ⟨.agg B, ?_, ?_⟩
  · have hb : cx.P.built t (parts.map fun q => (q.1, a.eval q.2)).toList = some B := by
      unfold Program.built
      rw [hinfo, hF]
      simp only [hzero, hp1]
      simpa using hB
    have := run_build W t _ B hb
    simp only [execOp, ho]
    simp [this]
  · have hsz' := hR.len
    have hlist : (⟨B.toList⟩ : Array Value) = B := rfl
    rw [← hlist]
    exact .agg _ out B.toList (by rw [Array.length_toList]; exact hsz'.symm) hR.one hR.rep
end

/-! States with boxes. -/
def okB (B : List Nat) : PV → Bool
  | .bx id _ => B.contains id
  | .bs id _ _ _ => B.contains id
  | .ord i j => B.contains i && B.contains j
  | p => free p
def KFB (B : List Nat) (S : PS) : List (Nat × PV) → Prop
  | [] => True
  | (t, q) :: r => (may1 (lk S.env t) = some q ∧ okB B q = true) ∧ KFB B S r
def KBF (S : PS) : List (Nat × (Nat × List PV)) → Prop
  | [] => True
  | (id, x) :: r => (lk S.h.bx id = some x ∧ freeL x.2 = true) ∧ KBF S r
theorem okB_k1 {B : List Nat} {F : Fz} {S : PS} : ∀ {q : PV}, okB B q = true → K1 B F S q q []
  | .bx id off, h => .bx id off h
  | .bs id off n c, h => .bs id off n c h
  | .lit v, h => .f (.same _ h)
  | .agg l, h => .f (.same _ h)
  | .tup l, h => .f (.same _ h)
  | .sl a b c, h => .f (.same _ h)
  | .rp l, h => .f (.same _ h)
  | .fn a b, h => .f (.same _ h)
  | .may a b c, h => .f (.same _ h)
  | .ord i j, h => .ord i j (by simpa [okB] using h)
  | .junk, h => .f (.same _ h)
theorem KFB.ke {B : List Nat} {F : Fz} {S : PS} : ∀ {e : List (Nat × PV)}, KFB B S e → KE B F S e []
  | [], _ => .nil
  | (t, q) :: r, h => by
    have := KE.cons (L := []) (L' := []) h.1.1 (.leaf (okB_k1 (F := F) h.1.2)) (KFB.ke h.2)
    exact this
theorem freeL_k1 {B : List Nat} {F : Fz} {S : PS} : ∀ {l : List PV}, freeL l = true → K1L B F S l l []
  | [], _ => .nil
  | p :: r, h => by
    simp only [freeL, Bool.and_eq_true] at h
    have := K1L.cons (L := []) (L' := []) (.f (.same p h.1)) (freeL_k1 (B := B) (F := F) (S := S) h.2)
    exact this
theorem KBF.kb {B : List Nat} {F : Fz} {S : PS} : ∀ {b : List (Nat × (Nat × List PV))}, KBF S b → KB B F S b []
  | [], _ => .nil
  | (id, (t, cs)) :: r, h => by
    have := KB.cons (L := []) (L' := []) h.1.1 (freeL_k1 (B := B) (F := F) h.1.2) (KBF.kb h.2)
    exact this
theorem Le.boxes {S : PS} {e : List (Nat × PV)} {b : List (Nat × (Nat × List PV))} (hb : KBF S b := by repeat (first | exact trivial | refine ⟨⟨rfl, rfl⟩, ?_⟩)) (h : KFB (b.map (·.1)) S e := by repeat (first | exact trivial | refine ⟨⟨rfl, rfl⟩, ?_⟩)) : Le S ⟨e, ⟨b, []⟩⟩ :=
  Le.keep (L := []) (L' := []) _ hb.kb h.ke rfl (by simp) (by simp)
theorem Le.rowBoxes {S : PS} {e : List (Nat × PV)} {b : List (Nat × (Nat × List PV))} {tv sz t τ : Nat} {es es' : List (List PV)} (hb : KBF S b) (h : KFB (b.map (·.1)) S e) (hr : may1 (lk S.env tv) = some (.sl sz es' (some t))) (ht : lk S.h.tk t = some (sz, es'.length)) (hes : es' = es) : Le S ⟨(tv, .sl sz es (some τ)) :: e, ⟨b, [(τ, (sz, es.length))]⟩⟩ := by
  subst hes
  exact Le.keep (L := [(τ, ((sz, es'.length), some t))]) (L' := []) _ hb.kb (.cons (L' := []) hr (.leaf (.f (.row sz es' t τ ht))) h.ke) rfl (by simp) (by simp)
theorem Le.trans {S S' S'' : PS} (h : Le S S') (k : Le S' S'') : Le S S'' := fun cx a W hr => k cx a W (h cx a W hr)
/-- A box that is no more written becomes cells that stay. -/
theorem Le.freeze {S : PS} {e : List (Nat × PV)} {b : List (Nat × (Nat × List PV))} (id t : Nat) (cs : List PV) (hl : lk S.h.bx id = some (t, cs)) (hn : (b.map (·.1)).contains id = false) (hf : freeL cs = true) (hb : KBF S b) (h : KE (b.map (·.1)) (some (id, (t, cs))) S e []) : Le S ⟨e, ⟨b, []⟩⟩ :=
  Le.keepF (L := []) (L' := []) _ (some (id, (t, cs))) (fun _ _ _ hh => by cases hh; exact ⟨hl, hn, hf⟩) hb.kb h rfl (by simp) (by simp)
theorem PL.le {cx : Cx} {ops : Array Oper} {Q : Post} {l : List Oper} {S S' : PS} (hw : Le S S') (h : PL cx ops Q l S') : PL cx ops Q l S := fun a W hr => h a W (hw cx a W hr)
end Go.Pw
set_option linter.unusedVariables false
set_option linter.unusedSimpArgs false
namespace Go.Pw
open Go Go.RowKit

/-- The text of these bytes. -/
def strOf (l : List UInt8) : ByteArray := ⟨l.toArray⟩
theorem fold_push : ∀ (l : List UInt8) (s : ByteArray), (l.map (fun b => (b.toNat : Int))).foldl (fun r n => r.push (UInt8.ofNat n.toNat)) s = ⟨s.data ++ l.toArray⟩
  | [], s => by simp
  | b :: l, s => by
    rw [List.map_cons, List.foldl_cons, fold_push l]
    have : UInt8.ofNat ((b.toNat : Int)).toNat = b := by rw [Int.toNat_natCast]; simp
    rw [this]
    congr 1
    simp [ByteArray.push]
section
variable {cx : Cx} [TC cx.P] {S : PS} {o : Oper}
theorem OpV.toStr {x : Operand} {src dst e : Nat} {q : Option Nat} {es : List (List PV)} (l : List UInt8) {i j k : TI} (ho : o.op = .convert src dst x) (hx : S.ev x = some (.sl 1 es q)) (hl : es = l.map eb) (hi : lk (TC.T cx.P) src = some i) (hi2 : i.d = .slice e) (hk : lk (TC.T cx.P) e = some k) (hk2 : k.d = .int .u8) (hj : lk (TC.T cx.P) dst = some j) (hj2 : j.d = .str) : OpV cx o S (.lit (.string (strOf l))) := fun a W Z μ hz => by
  subst hl
  obtain ⟨A, c, val, hv, hc, hes, hZ, hu1, hu⟩ := (hz.ev hx).sl_inv
  have h1 := (TC.at_ hi).und
  have h2 := (TC.at_ hk).und
  have h3 := (TC.at_ hj).und
  rw [hi2] at h1
  rw [hk2] at h2
  rw [hj2] at h3
  have h1 : cx.P.underlying src = some (.slice e) := h1
  have h2 : cx.P.underlying e = some (.int .u8) := h2
  have h3 : cx.P.underlying dst = some .string := h3
  refine ⟨_, ?_, .lit _ _⟩
  simp only [execOp, ho, hv]
  rw [Sem.run_bind, run_convert_bytes_string W src dst e A _ _ h1 h2 h3]
  have key : (Conv.bytesToString (.slice A (l.map eb).length c)).run cx.P W = .ok (.string (strOf l)) W := by
    by_cases hl : l = []
    · subst hl
      cases A <;> simp [Conv.bytesToString, strOf] <;> rfl
    · have hlen : 0 < (l.map eb).length := by rw [List.length_map]; exact List.length_pos_iff.2 hl
      obtain ⟨ad, rfl, hZ2⟩ := hZ hlen
      have hc2 := run_cells (P := cx.P) (W := W) ad (l.map fun b => Value.int .u8 (b.toNat : Int)) (fun m v hm => by
        rw [List.getElem?_map] at hm
        obtain ⟨b, hb, rfl⟩ := Option.map_eq_some_iff.1 hm
        have he : (l.map eb)[m]? = some (eb b) := map_at hb
        have h5 := hZ2 m (eb b) 0 _ he rfl
        have h6 := (hu m (eb b) 0 _ he rfl).lit_inv
        rw [h6] at h5
        have := hz.sub _ _ h5
        simpa using this)
      rw [List.length_map] at hc2 ⊢
      have := run_bytesToString (P := cx.P) W ad l.length c (l.map fun b => (b.toNat : Int)) (by rw [hc2]; simp [Function.comp_def])
      rw [this, fold_push]
      simp [strOf]
  rw [key]
  simp
end
end Go.Pw
set_option linter.unusedVariables false
set_option linter.unusedSimpArgs false
namespace Go.Pw
open Go Go.RowKit

/-- Function f, called with values that stand for args by one who owns h0 and no more, returns a value and leaves what is owned then. w: the world when the caller began. -/
structure SpecB (P : Program) (f : FuncId) (args : List PV) (h0 : PH) (F : PV → PH → Prop) : Prop where
  ent : Ent P f
  run : ∀ (w W : World) (Z : Cells) (μ : Mu) (vs : List Value), Sub Z W → RepL Z μ args vs → RepH w.heap.size Z μ h0 W → Below w.heap.size w W →
    Calls P f vs.toArray W fun e W' => ∃ v, e = .returned v ∧ ∃ p h' Z' μ', F p h' ∧ Rep Z' μ' p v ∧ Grow Z Z' w.heap.size ∧ Sub Z' W' ∧ Below w.heap.size w W' ∧ RepH w.heap.size Z' μ' h' W'
def RetQB (P : Program) [TC P] (rs : List ResultVar) (F : PV → PH → Prop) : Post
  | .normal, S => ∃ q, resOf (P := P) S rs = some q ∧ F q S.h
  | .ret, S => ∃ q, resOf (P := P) S rs = some q ∧ F q S.h
  | _, _ => False
theorem specB_of {P : Program} [TC P] {f : FuncId} {fn : Func} {c : Code} {args : List PV} {h0 : PH} {F : PV → PH → Prop} {n : Nat} {rs : List ResultVar} (he : Ent P f) (hf : P.funcs[f]? = some fn) (hb : fn.body = some c) (hn : fn.ntmps = n) (hl : args.length ≤ n) (hrs : fn.results.toList = rs)
    (h : ∀ W Z, PW ⟨P, W, Z, n⟩ c (RetQB P rs F) ⟨numd 0 args, h0⟩) : SpecB P f args h0 F := ⟨he, fun w W Z μ vs hs hr hh hbl => by
  have key : R ⟨P, w, Z, n⟩ ⟨numd 0 args, h0⟩ { tmps := vs.toArray ++ Array.replicate (fn.ntmps - vs.toArray.size) undef, defers := [] } W := by
    refine ⟨Z, μ, ⟨rfl, ?_, fun t p ht => ?_⟩, hh, hs, Grow.refl _ _, hbl⟩
    · simp only [Array.size_append, List.size_toArray, Array.size_replicate]
      have := hr.1; omega
    · obtain ⟨i, rfl, hi⟩ := lk_numd args 0 t p ht
      have hi2 := (List.getElem?_eq_some_iff.1 hi).1
      have hi3 : i < vs.length := by rw [hr.1]; exact hi2
      refine ⟨vs[i], ?_, hr.2 i p _ hi (List.getElem?_eq_getElem hi3)⟩
      rw [Nat.zero_add, Array.getElem?_append_left (by simpa using hi3)]
      simp
  refine calls_of_wp hf hb (wp_mono (h w Z _ _ key) fun e a W' hq => ?_)
  obtain ⟨S, ⟨Z', μ', hz⟩, hQ⟩ := hq
  have fin : (∃ q, resOf (P := P) S rs = some q ∧ F q S.h) → a.defers = [] ∧ ∃ v, (results fn a.tmps).run P W' = .ok v W' ∧ ∃ v', Ending.returned v = .returned v' ∧ ∃ p h' Z' μ', F p h' ∧ Rep Z' μ' p v' ∧ Grow Z Z' w.heap.size ∧ Sub Z' W' ∧ Below w.heap.size w W' ∧ RepH w.heap.size Z' μ' h' W' := fun ⟨q, h1, h2⟩ => by
    obtain ⟨v, hv, hrv⟩ := results_run hz hrs h1
    exact ⟨hz.env.df, v, hv, v, rfl, q, S.h, Z', μ', h2, hrv, hz.le, hz.sub, hz.below, hz.h⟩
  cases e with
  | normal => exact fin hQ
  | ret => exact fin hQ
  | exit i => exact hQ.elim
  | goto l => exact hQ.elim
  | panic c => exact hQ.elim
  | outgrown => exact hQ.elim⟩
theorem KF.at_ {S : PS} : ∀ {e : List (Nat × PV)}, KF S e → ∀ {t : Nat} {q : PV}, lk e t = some q → may1 (lk S.env t) = some q ∧ free q = true
  | [], _, _, _, h => by cases h
  | (u, p) :: r, h, t, q, hl => by
    rw [lk_cons] at hl
    split at hl
    · rename_i e; subst e; cases hl; exact h.1
    · exact KF.at_ h.2 hl
/-- Values that stand whatever stays. -/
def plain : PV → Bool
  | .lit _ => true
  | .tup l => l.all isLit
  | .agg l => l.all isLit
  | _ => false
 where isLit : PV → Bool
  | .lit _ => true
  | _ => false
theorem plain_any {Z Z' : Cells} {μ μ' : Mu} {p : PV} {v : Value} (hp : plain p = true) (h : Rep Z μ p v) : Rep Z' μ' p v := by
  have hl : ∀ {q : PV} {u : Value}, plain.isLit q = true → Rep Z μ q u → Rep Z' μ' q u := fun {q u} hq hr => by
    cases q <;> simp [plain.isLit] at hq
    cases hr; exact .lit _ _
  cases h with
  | lit => exact .lit _ _
  | agg _ l cs hlen h1 h =>
    simp only [plain, List.all_eq_true] at hp
    exact .agg _ l cs hlen h1 (fun i q u a b => hl (hp q (List.mem_of_getElem? a)) (h i q u a b))
  | tup _ l cs hlen h =>
    simp only [plain, List.all_eq_true] at hp
    exact .tup _ l cs hlen (fun i q u a b => hl (hp q (List.mem_of_getElem? a)) (h i q u a b))
  | _ => simp [plain] at hp
section
variable {cx : Cx} {S : PS} {o : Oper} {ops : Array Oper} {rest : List Oper} {Q : Post}
theorem call_args {fo : Operand} {f : Nat} {caps ps : List PV} {xs : Array Operand} {ts : Array TypeId} {a : Act} {W : World} {Z : Cells} {μ : Mu} (ho : o.op = .call { callee := .value fo, args := xs, argTypes := ts }) (hfo : S.ev fo = some (.fn f caps)) (hps : evs S xs.toList = some ps) (hent : Ent cx.P f) (hz : RZ cx S a W Z μ) :
    ∃ vs : List Value, RepL Z μ (ps ++ caps) vs ∧ (execOp a.eval o).run cx.P W = .ok (.enter f vs.toArray) W := by
  have hf := hz.ev hfo
  generalize hv : a.eval fo = v at hf
  cases hf with
  | fn _ _ _ cs hl hc =>
    have hargs := evs_rep hz hps
    refine ⟨xs.toList.map a.eval ++ cs, ⟨by rw [List.length_append, List.length_append, hargs.1, hl], fun i p v hp hv => ?_⟩, ?_⟩
    · have hlen : (xs.toList.map a.eval).length = ps.length := hargs.1
      by_cases hi : i < ps.length
      · rw [List.getElem?_append_left hi] at hp
        rw [List.getElem?_append_left (by omega)] at hv
        exact hargs.2 i p v hp hv
      · rw [List.getElem?_append_right (by omega)] at hp
        rw [List.getElem?_append_right (by omega), hlen] at hv
        exact hc _ p v hp hv
    · simp only [execOp, ho]
      simp [resolve, hv, Deferred.ofValue, invoke]
      have := hent (xs.map a.eval ++ cs.toArray) W
      rw [this]
      congr 2
      apply Array.ext'
      simp
/-- A call that is handed all that the caller owns; of what the caller knows only e' is kept. -/
theorem PL.callB (e' : List (Nat × PV)) {fo : Operand} {f : Nat} {caps ps qs : List PV} {xs : Array Operand} {ts : Array TypeId} {h0 : PH} {F : PV → PH → Prop} (ho : o.op = .call { callee := .value fo, args := xs, argTypes := ts }) (hfo : S.ev fo = some (.fn f caps)) (hps : evs S xs.toList = some ps) (h : SpecB cx.P f qs h0 F) (hS : S.h = h0) (hw2 : WkL (ps ++ caps) qs)
    (hw : Wants cx ops o S true) (hn : dstOk cx.n o.dst = true)
    (k : ∀ p h', F p h' → PL cx ops Q rest (PS.put ⟨e', h'⟩ o.dst p)) (hk : KF S e' := by repeat (first | exact trivial | refine ⟨⟨rfl, rfl⟩, ?_⟩)) : PL cx ops Q (o :: rest) S :=
  PL.cons hw (K := fun S' => ∃ p h', F p h' ∧ S' = PS.put ⟨e', h'⟩ o.dst p) (fun a W hR K' Q' hK => by
    obtain ⟨Z, μ, hz⟩ := hR
    obtain ⟨vs, hall, hrun⟩ := call_args ho hfo hps h.ent hz
    have hcall := h.run cx.w W Z μ _ hz.sub (hw2.rep hall) (hS ▸ hz.h) hz.below
    show o.upon cx.P a K' Q' _
    rw [hrun, Oper.upon_enter]
    refine hcall.mono fun e W' ⟨v, e1, p, h', Z', μ', hF, hr, hg, hs, hb, hh⟩ => ?_
    subst e1
    have hz' : RZ cx ⟨e', h'⟩ a W' Z' μ' := ⟨⟨hz.env.df, hz.env.sz, fun t q ht => by
      obtain ⟨h1, h2⟩ := hk.at_ ht
      obtain ⟨u, hu, hru⟩ := hz.env.may1 h1
      exact ⟨u, hu, ((hru.drop h2).mono hg.1 (Mu.le_refl _)).any⟩⟩, hh, hs, hz.le.trans hg (Nat.le_refl _), hb⟩
    exact hK _ _ _ ⟨p, h', hF, rfl⟩ ⟨Z', μ', hz'.put hn hr⟩) fun S' ⟨p, h', hF, e⟩ => by subst e; exact k p h' hF
/-- A call that reads a box of the caller's. -/
theorem PL.callLend (id t : Nat) (cs : List PV) {fo : Operand} {f : Nat} {caps ps qs : List PV} {xs : Array Operand} {ts : Array TypeId} {F : PV → Prop} (ho : o.op = .call { callee := .value fo, args := xs, argTypes := ts }) (hfo : S.ev fo = some (.fn f caps)) (hps : evs S xs.toList = some ps) (h : Spec cx.P f qs F)
    (hid : lk S.h.bx id = some (t, cs)) (hcs : freeL cs = true) (hw2 : K1L [] (some (id, (t, cs))) S (ps ++ caps) qs [])
    (hfr : ∀ p, F p → plain p = true) (hw : Wants cx ops o S true) (hn : dstOk cx.n o.dst = true)
    (k : ∀ p, F p → PL cx ops Q rest (PS.put S o.dst p)) : PL cx ops Q (o :: rest) S :=
  PL.cons hw (K := fun S' => ∃ p, F p ∧ S' = PS.put S o.dst p) (fun a W hR K' Q' hK => by
    obtain ⟨Z, μ, hz⟩ := hR
    obtain ⟨vs, hall, hrun⟩ := call_args ho hfo hps h.ent hz
    obtain ⟨g, hg, us, v1, v2, v3, v4, v5, v6⟩ := hz.h.bx id t cs hid
    have hcell : ∀ (j : Nat) (u : Value), us[j]? = some u → W.cell? ⟨g, j, Option.none⟩ = some u := fun j u hu => by simp [World.cell?, v1, hu]
    have hF : FzOk (Z.add g us) μ (some (id, (t, cs))) := fun id' t' cs' he' => by
      cases he'
      refine ⟨g, us, hg, fun j u hu => ?_, v2, v3, fun j p u hp hu => ((v4 j p u hp hu).drop (freeL_mem hcs p (List.mem_of_getElem? hp))).mono (Cells.le_add _ _ _) (Mu.le_refl _)⟩
      unfold Cells.add
      rw [v6 j]
      simp [hu]
    obtain ⟨l1, l2⟩ := hw2.rep (μ := μ) (A := []) (Cells.le_add Z g us) hF (fun x hx => by cases hx)
    have hqs : RepL (Z.add g us) (muK μ [] []) qs vs := ⟨by rw [hall.1, l1], fun i q v hq hv => by
      have hi := (List.getElem?_eq_some_iff.1 hq).1
      exact l2 i _ q v (List.getElem?_eq_getElem (by omega)) hq (hall.2 i _ v (List.getElem?_eq_getElem (by omega)) hv)⟩
    have hcall := h.run W _ _ _ (hz.sub.add hcell) hqs
    show o.upon cx.P a K' Q' _
    rw [hrun, Oper.upon_enter]
    refine hcall.mono fun e W' ⟨v, e1, ⟨p, Z', μ', hFp, hr, hg', hs, hb, hh⟩⟩ => ?_
    subst e1
    have hz' := hz.grow hb (Cells.le_refl Z) (fun ad v e => .inl e) (hz.sub.grow hb)
    exact hK _ _ _ ⟨p, hFp, rfl⟩ ⟨Z, μ, hz'.put hn (plain_any (hfr p hFp) hr)⟩) fun S' ⟨p, hFp, e⟩ => by subst e; exact k p hFp
end
section
variable {cx : Cx} [TC cx.P] {S : PS} {o : Oper} {ops : Array Oper} {rest : List Oper} {Q : Post}
theorem OpV.idxB {x y : Operand} {id off m cap : Nat} {t e : Nat} {k : IntKind} {n : Int} {i j : TI} (ho : o.op = .indexAddr t x y) (hx : S.ev x = some (.bs id off m cap)) (hy : S.ev y = some (.lit (.int k n))) (h0 : 0 ≤ n) (hl : n.toNat < m) (ht : lk (TC.T cx.P) t = some i) (hd : i.d = .slice e) (he : lk (TC.T cx.P) e = some j) : OpV cx o S (.bx id (off + n.toNat * j.sz)) := fun a W Z μ hz => by
  have hr := hz.ev hx
  have ey := (hz.ev hy).lit_inv
  generalize hv : a.eval x = v at hr
  cases hr with
  | bs _ _ _ _ _ g hg =>
    have hu := (TC.at_ ht).und
    rw [hd] at hu
    have hu : cx.P.underlying t = some (.slice e) := hu
    have hs := (TC.at_ he).size
    refine ⟨.pointer (some ⟨g, off + n.toNat * j.sz, none⟩), ?_, .bx _ _ _ _ hg⟩
    simp only [execOp, ho]
    have hin : 0 ≤ n ∧ n < (m : Int) := ⟨h0, by omega⟩
    simp [hv, ey, Instr.indexAt, run_underlying hu, asIntOf, hin, hs, Addr.add_lit]
theorem OpV.lenB {x : Operand} {id off m cap : Nat} {t e : Nat} (ho : o.op = .call { callee := .builtin .len, args := #[x], argTypes := #[t] }) (hx : S.ev x = some (.bs id off m cap)) {i : TI} (ht : lk (TC.T cx.P) t = some i) (hd : i.d = .slice e) : OpV cx o S (.lit (.int .i64 m)) := fun a W Z μ hz => by
  have hr := hz.ev hx
  generalize hv : a.eval x = v at hr
  cases hr with
  | bs _ _ _ _ _ g hg =>
    refine ⟨_, ?_, .lit _ _⟩
    have hu := (TC.at_ ht).und
    rw [hd] at hu
    have hu : cx.P.underlying t = some (.slice e) := hu
    simp only [execOp, ho]
    simp [resolve, invoke, builtin, hv, Builtin.len_, run_underlying hu, goInt]
/-- A cut of a slice over a box. mx: the third bound. -/
theorem OpV.cutB {x : Operand} {lo hi mx : Option Operand} {t e l h c' id off m cap : Nat} {i j : TI} (ho : o.op = .slice t x lo hi mx) (hx : S.ev x = some (.bs id off m cap)) (ht : lk (TC.T cx.P) t = some i) (hd : i.d = .slice e) (he : lk (TC.T cx.P) e = some j)
    (h1 : bdV S 0 lo = some (l : Int)) (h2 : bdV S m hi = some (h : Int)) (h3 : bdV S cap mx = some (c' : Int)) (hmx : (mx.isSome && hi.isNone) = false) (hlh : l ≤ h) (hh : h ≤ c') (hc : c' ≤ cap) : OpV cx o S (.bs id (if c' = l then off else off + l * j.sz) (h - l) (c' - l)) := fun a W Z μ hz => by
  have hr := hz.ev hx
  generalize hv : a.eval x = v at hr
  cases hr with
  | bs _ _ _ _ _ g hg =>
    have hun := (TC.at_ ht).und
    rw [hd] at hun
    have hun : cx.P.underlying t = some (.slice e) := hun
    have hs := (TC.at_ he).size
    refine ⟨.slice (some ⟨g, if c' = l then off else off + l * j.sz, none⟩) (h - l) (c' - l), ?_, .bs _ _ _ _ _ _ hg⟩
    have hbase : (if c' = l then (some (⟨g, off, none⟩ : Addr)) else (some (⟨g, off, none⟩ : Addr)).map (·.add (l * j.sz))) = some ⟨g, if c' = l then off else off + l * j.sz, none⟩ := by
      by_cases e : c' = l
      · rw [if_pos e, if_pos e]
      · rw [if_neg e, if_neg e]; simp [Addr.add_lit]
    have hb : (Instr.sliceBounds true m cap (lo.map a.eval) (hi.map a.eval) (mx.map a.eval)).run cx.P W = .ok (l, h, c') W := by
      rcases bd_run hz h1 with ⟨rfl, e1⟩ | ⟨y1, k1, rfl, e1⟩ <;> rcases bd_run hz h2 with ⟨rfl, e2⟩ | ⟨y2, k2, rfl, e2⟩ <;> rcases bd_run hz h3 with ⟨rfl, e3⟩ | ⟨y3, k3, rfl, e3⟩
      · have : l = 0 := by omega
        have : h = m := by omega
        have : c' = cap := by omega
        subst_vars
        simp [Instr.sliceBounds]
      · simp at hmx
      · have : l = 0 := by omega
        have : c' = cap := by omega
        subst_vars
        simp [Instr.sliceBounds, Instr.sliceBound, asIntOf, e2, hh]
      · have : l = 0 := by omega
        subst_vars
        simp [Instr.sliceBounds, Instr.sliceBound, asIntOf, e2, e3, hh, hc]
      · have : h = m := by omega
        have : c' = cap := by omega
        subst_vars
        simp [Instr.sliceBounds, Instr.sliceBound, asIntOf, e1, hlh]
      · simp at hmx
      · have : c' = cap := by omega
        subst_vars
        simp [Instr.sliceBounds, Instr.sliceBound, asIntOf, e1, e2, hh, hlh]
      · simp [Instr.sliceBounds, Instr.sliceBound, asIntOf, e1, e2, e3, hh, hlh, hc]
    simp only [execOp, ho, hv]
    simp only [Instr.sliceAt, Instr.slice, Sem.run_bind, run_underlying hun, Result.andThen_ok, hb, hs, Sem.run_pure]
    rw [hbase]
end
end Go.Pw
set_option linter.unusedVariables false
set_option linter.unusedSimpArgs false
namespace Go.Pw
open Go Go.RowKit

theorem flat_inv {α : Type} {sz : Nat} : ∀ {es : List (List α)} {k : Nat} {p : α}, (∀ e ∈ es, e.length = sz) → es.flatten[k]? = some p → ∃ i e j, es[i]? = some e ∧ e[j]? = some p ∧ k = i * sz + j
  | [], k, p, _, h => by simp at h
  | x :: l, k, p, hz, h => by
    have hx := hz x List.mem_cons_self
    rw [List.flatten_cons] at h
    by_cases hk : k < x.length
    · rw [List.getElem?_append_left hk] at h
      exact ⟨0, x, k, rfl, h, by omega⟩
    · rw [List.getElem?_append_right (by omega)] at h
      obtain ⟨i, e, j, h1, h2, h3⟩ := flat_inv (fun e he => hz e (List.mem_cons_of_mem _ he)) h
      refine ⟨i + 1, e, j, h1, h2, ?_⟩
      rw [Nat.add_mul]; omega
theorem flat_len {α : Type} {sz : Nat} : ∀ {es : List (List α)}, (∀ e ∈ es, e.length = sz) → es.flatten.length = es.length * sz
  | [], _ => by simp
  | x :: l, hz => by
    have hx := hz x List.mem_cons_self
    have := flat_len (es := l) (fun e he => hz e (List.mem_cons_of_mem _ he))
    rw [List.flatten_cons, List.length_append, this, List.length_cons, Nat.add_mul]; omega
theorem CellsOf.flat {Z : Cells} {sz : Nat} {es : List (List PV)} {cs : List Value} (h : CellsOf Z sz es cs) : cs.length = es.flatten.length ∧ ∀ (k : Nat) (q : PV) (u : Value), es.flatten[k]? = some q → cs[k]? = some u → Rep Z Mu.emp q u := by
  refine ⟨by rw [h.len, flat_len h.all], fun k q u hq hu => ?_⟩
  obtain ⟨i, e, j, h1, h2, h3⟩ := flat_inv h.all hq
  obtain ⟨u', hu', hr⟩ := h.at_ i e j q h1 h2
  rw [← h3, hu] at hu'
  cases hu'
  exact hr
/-- n zero elements. -/
def zrow (j : TI) (n : Nat) : List PV := (List.replicate n (j.zero.cells.toList.map PV.lit)).flatten
theorem made_flat (z : Array Value) : ∀ n, (Array.map (fun x => z[x % z.size]!) (Array.range (n * z.size))).toList = (List.replicate n z.toList).flatten := by
  intro n
  induction n with
  | zero => simp
  | succ n ih =>
    rw [List.replicate_succ', List.flatten_append, ← ih, Nat.add_mul, Nat.one_mul]
    simp only [Array.toList_map, Array.toList_range, List.range_add, List.map_append, List.map_map, List.flatten_cons, List.flatten_nil, List.append_nil]
    congr 1
    apply List.ext_getElem
    · simp
    · intro i h1 h2
      have hi : i < z.size := by simpa using h2
      have : (n * z.size + i) % z.size = i := by rw [Nat.mul_comm, Nat.mul_add_mod, Nat.mod_eq_of_lt hi]
      simp [this, hi]
theorem zeroCells_flat (z : Array Value) (n : Nat) : (Builtin.zeroCells z n).toList = (List.replicate n z.toList).flatten := made_flat z n
theorem zrow_rep (j : TI) (n : Nat) {Z : Cells} {μ : Mu} : (zrow j n).length = (List.replicate n j.zero.cells.toList).flatten.length ∧ ∀ (k : Nat) (q : PV) (u : Value), (zrow j n)[k]? = some q → (List.replicate n j.zero.cells.toList).flatten[k]? = some u → Rep Z μ q u := by
  have e : zrow j n = (List.replicate n j.zero.cells.toList).flatten.map PV.lit := by
    simp [zrow, List.map_flatten]
  rw [e]
  refine ⟨by simp, fun k q u hq hu => ?_⟩
  rw [List.getElem?_map, hu] at hq
  cases hq
  exact .lit _ _
theorem zrow_len (j : TI) (n : Nat) : (zrow j n).length = n * j.zero.cells.size := by
  unfold zrow
  rw [flat_len (sz := j.zero.cells.size) (fun e he => by rw [List.eq_of_mem_replicate he]; simp)]
  simp
theorem freeL_append : ∀ {l r : List PV}, freeL (l ++ r) = (freeL l && freeL r)
  | [], r => by simp [freeL]
  | p :: l, r => by simp [freeL, freeL_append, Bool.and_assoc]
theorem freeL_map_lit (l : List Value) : freeL (l.map PV.lit) = true := by
  induction l with
  | nil => rfl
  | cons v l ih => simp [freeL, free, ih]
theorem zrow_free (j : TI) (n : Nat) : freeL (zrow j n) = true := by
  have e : zrow j n = (List.replicate n j.zero.cells.toList).flatten.map PV.lit := by
    simp [zrow, List.map_flatten]
  rw [e]; exact freeL_map_lit _
theorem freeL_iff {l : List PV} : freeL l = true ↔ ∀ p ∈ l, free p = true := by
  induction l with
  | nil => simp [freeL]
  | cons p l ih => simp [freeL, ih]
theorem zcell_one {j : TI} (h1 : j.zero.cells.toList.all Value.oneCell' = true) (n : Nat) : ∀ u ∈ (List.replicate n j.zero.cells.toList).flatten, u.oneCell' = true := fun u hu => by
  obtain ⟨l, hl, hul⟩ := List.mem_flatten.1 hu
  rw [List.eq_of_mem_replicate hl] at hul
  exact List.all_eq_true.1 h1 u hul

section
variable {cx : Cx} {S : PS} {a : Act} {W : World} {Z : Cells} {μ : Mu}
/-- Cells of a box are written. -/
theorem RZ.write (hz : RZ cx S a W Z μ) {id bt g off : Nat} {cs l : List PV} {news : List Value} (hb : lk S.h.bx id = some (bt, cs)) (hg : μ.bx id = some g) (h1 : news.length = l.length) (h2 : ∀ u ∈ news, u.oneCell' = true) (h3 : ∀ (i : Nat) (q : PV) (u : Value), l[i]? = some q → news[i]? = some u → Rep Z μ q u) (hle : off + l.length ≤ cs.length) :
    ∃ W', (storeCells ⟨g, off, none⟩ news).run cx.P W = .ok () W' ∧ RZ cx ⟨S.env, ⟨(id, (bt, writeC cs off l)) :: S.h.bx, S.h.tk⟩⟩ a W' Z μ ∧ W'.heap.size = W.heap.size := by
  obtain ⟨g', hg', vs, hh, hlen, hv1, hrep, hbase, hZ⟩ := hz.h.bx id bt cs hb
  rw [hg] at hg'; cases hg'
  have hst := run_storeCells_at cx.P g off bt news 0 vs.toArray W hh (by simp only [Nat.add_zero, List.size_toArray]; omega) h2
  simp only [Nat.add_zero, List.append_assoc] at hst
  refine ⟨_, hst, ⟨hz.env, ?_, fun ad v e => ?_, hz.le, hz.below.trans ⟨rfl, rfl, rfl, by simp, fun k hk => setRow_other W g k _ (by omega)⟩⟩, by simp⟩
  · refine hz.h.setBx hb hg ⟨_, setRow_heap W g _ _ bt _ hh, ?_, fun u hu => ?_, fun j q u hq hu => ?_, hbase, hZ⟩ (fun k hk => setRow_other W g k _ hk)
    · simp only [writeC, List.length_append, List.length_take, List.length_drop]; omega
    · rcases List.mem_append.1 hu with hu | hu
      · exact hv1 u (List.mem_of_mem_take hu)
      · rcases List.mem_append.1 hu with hu | hu
        · exact h2 u hu
        · exact hv1 u (List.mem_of_mem_drop hu)
    · rw [writeC, getElem?_splice cs l off hle] at hq
      rw [getElem?_splice vs news off (by omega), h1] at hu
      by_cases hin : off ≤ j ∧ j < off + l.length
      · rw [if_pos hin] at hq hu; exact h3 _ q u hq hu
      · rw [if_neg hin] at hq hu; exact hrep j q u hq hu
  · refine (World.cell?_of_block (setRow_other W g ad.block _ (fun e2 => ?_))).trans (hz.sub ad v e)
    have hsp := hz.sub.spot e
    have : ad = ⟨g, ad.off, none⟩ := by cases ad; simp at e2 hsp ⊢; exact ⟨e2, hsp⟩
    rw [this, hZ] at e
    cases e
theorem RZ.drew (hz : RZ cx S a W Z μ) : RZ cx S a W.drew Z μ :=
  hz.grow (Below.drew (Below.refl _ _)) (Cells.le_refl _) (fun ad v e => .inl e) (hz.sub.grow (Below.drew (Below.refl _ _)))
/-- A new block is a box. -/
theorem RZ.newB (h : RZ cx S a W Z μ) {d t : Nat} {cs : List PV} {vs : Array Value} (hd : lk S.h.bx d = none) (hl : vs.toList.length = cs.length) (h1 : ∀ u ∈ vs.toList, u.oneCell' = true)
    (hr : ∀ (i : Nat) (q : PV) (u : Value), cs[i]? = some q → vs.toList[i]? = some u → Rep Z μ q u) :
    ∃ μ', μ'.bx d = some W.heap.size ∧ RZ cx ⟨S.env, ⟨(d, (t, cs)) :: S.h.bx, S.h.tk⟩⟩ a (W.alloc (.cells vs t)) Z μ' := by
  have h' := h.alloc (.cells vs t)
  have hle := Mu.setBx_le (g := W.heap.size) (h.h.bxFree hd)
  refine ⟨μ.setBx d W.heap.size, by simp [Mu.setBx], ⟨h'.env.mono (Cells.le_refl _) hle, ?_, h'.sub, h'.le, h'.below⟩⟩
  refine h'.h.addBx hd ⟨vs.toList, by rw [Array.toArray_toList]; exact heap_alloc_new W _, hl, h1, fun i q u a b => (hr i q u a b).mono (Cells.le_refl _) hle, h.below.size, fun off => ?_⟩ (fun i x e he => ?_) (fun u sz n v e he hv => ?_)
  · cases e : Z ⟨W.heap.size, off, none⟩ with
    | none => rfl
    | some v => exact absurd (h.sub.lt e) (by simp)
  · obtain ⟨g, hg, hb⟩ := h.h.bx i x.1 x.2 e
    rw [he] at hg; cases hg
    exact absurd hb.lt (Nat.lt_irrefl _)
  · obtain ⟨v', hv', hb⟩ := h.h.tk u sz n e
    rw [he] at hv'; cases hv'
    exact absurd (hb.lt hv).1 (Nat.lt_irrefl _)
end
section
variable {cx : Cx} [TC cx.P] {S : PS} {o : Oper} {ops : Array Oper} {rest : List Oper} {Q : Post}
theorem PL.make {x y : Operand} {t d e n : Nat} {k k' : IntKind} {i j : TI} (ho : o.op = .makeSlice t x y) (hdst : o.dst = some d) (hx : S.ev x = some (.lit (.int k (n : Int)))) (hy : S.ev y = some (.lit (.int k' (n : Int)))) (ht : lk (TC.T cx.P) t = some i) (hd : i.d = .slice e) (he : lk (TC.T cx.P) e = some j)
    (h1 : j.zero.cells.toList.all Value.oneCell' = true) (hzs : j.zero.cells.size = j.sz) (hb : j.bytes * n ≤ 281474976710656) (h63 : n ≤ 9223372036854775807) (hf : lk S.h.bx d = none) (hw : Wants cx ops o S true) (hn : dstOk cx.n (some d) = true)
    (kk : PL cx ops Q rest ⟨(d, .bs d 0 n n) :: S.env, ⟨(d, (e, zrow j n)) :: S.h.bx, S.h.tk⟩⟩) : PL cx ops Q (o :: rest) S :=
  PL.cons hw (K := fun S' => S' = ⟨(d, .bs d 0 n n) :: S.env, ⟨(d, (e, zrow j n)) :: S.h.bx, S.h.tk⟩⟩) (fun a W hR K' Q' hK => by
    obtain ⟨Z, μ, hz⟩ := hR
    have ex := (hz.ev hx).lit_inv
    have ey := (hz.ev hy).lit_inv
    have hu := (TC.at_ ht).und
    rw [hd] at hu
    have hu : cx.P.underlying t = some (.slice e) := hu
    obtain ⟨ti, hi, hi1, hi2, hi3⟩ := (TC.at_ he).info
    have hrun := run_make (P := cx.P) W t e ti j.zero hu hi hi3 k k' n n (by omega) (Int.le_refl _) (by rw [hi2]; have : ((j.bytes * n : Nat) : Int) ≤ 281474976710656 := by omega
                                                                                                        rwa [Int.natCast_mul] at this) (by omega)
    have hrr : (execOp a.eval o).run cx.P W = .ok (.value (.slice (some ⟨W.heap.size, 0, none⟩) n n)) (W.alloc (.cells (madeCells j.zero.cells (n * j.sz)) e)) := by
      simp only [execOp, ho, ex, ey]
      rw [hi1] at hrun
      simp only [Int.toNat_natCast] at hrun
      rw [Sem.run_bind, hrun]
      rfl
    have hml : (madeCells j.zero.cells (n * j.sz)).toList = (List.replicate n j.zero.cells.toList).flatten := by rw [← hzs]; exact made_flat j.zero.cells n
    obtain ⟨μ', hm, hz'⟩ := hz.newB (t := e) (cs := zrow j n) (vs := madeCells j.zero.cells (n * j.sz)) hf (by rw [hml]; exact (zrow_rep j n (Z := Z) (μ := μ)).1.symm) (by rw [hml]; exact zcell_one h1 n) (by rw [hml]; exact (zrow_rep j n).2)
    show o.upon cx.P a K' Q' _
    rw [hrr, Oper.upon_value, hdst]
    exact hK _ _ _ rfl ⟨Z, μ', hz'.put (d := some d) hn (.bs _ _ _ _ _ _ hm)⟩) fun S' e => by subst e; exact kk
/-- clear, at a slice over a box. -/
theorem PL.clearB {x : Operand} {t e id off n cap bt : Nat} {cs : List PV} {i j : TI} (ho : o.op = .call { callee := .builtin .clear, args := #[x], argTypes := #[t] }) (hx : S.ev x = some (.bs id off n cap)) (hb : lk S.h.bx id = some (bt, cs)) (ht : lk (TC.T cx.P) t = some i) (hd : i.d = .slice e) (he : lk (TC.T cx.P) e = some j)
    (h1 : j.zero.cells.toList.all Value.oneCell' = true) (hzs : j.zero.cells.size = j.sz) (hle : off + n * j.sz ≤ cs.length ∨ n = 0) (hw : Wants cx ops o S true) (hn : dstOk cx.n o.dst = true)
    (kk : PL cx ops Q rest (PS.put ⟨S.env, ⟨(id, (bt, if n = 0 then cs else writeC cs off (zrow j n))) :: S.h.bx, S.h.tk⟩⟩ o.dst (.tup []))) : PL cx ops Q (o :: rest) S :=
  PL.cons hw (K := fun S' => S' = PS.put ⟨S.env, ⟨(id, (bt, if n = 0 then cs else writeC cs off (zrow j n))) :: S.h.bx, S.h.tk⟩⟩ o.dst (.tup [])) (fun a W hR K' Q' hK => by
    obtain ⟨Z, μ, hz⟩ := hR
    have hr := hz.ev hx
    generalize hv : a.eval x = v at hr
    cases hr with
    | bs _ _ _ _ _ g hg =>
      have hu := (TC.at_ ht).und
      rw [hd] at hu
      have hu : cx.P.underlying t = some (.slice e) := hu
      have htup : Rep Z μ (.tup []) (.tuple #[]) := .tup _ [] [] rfl (fun i p v h => by simp at h)
      show o.upon cx.P a K' Q' _
      by_cases h0 : n = 0
      · subst h0
        have hrr : (execOp a.eval o).run cx.P W = .ok (.value (.tuple #[])) W := by
          simp only [execOp, ho]
          simp [resolve, invoke, builtin, hv, Builtin.clear_, run_underlying hu]
        rw [hrr, Oper.upon_value]
        have hsame : RepH cx.w.heap.size Z μ ⟨(id, (bt, cs)) :: S.h.bx, S.h.tk⟩ W := by
          obtain ⟨g', hg', hbo⟩ := hz.h.bx id bt cs hb
          exact hz.h.setBx hb hg' hbo (fun k hk => rfl)
        exact hK _ _ _ rfl ⟨Z, μ, RZ.put (S := ⟨S.env, ⟨(id, (bt, cs)) :: S.h.bx, S.h.tk⟩⟩) ⟨hz.env, hsame, hz.sub, hz.le, hz.below⟩ hn htup⟩
      · obtain ⟨W', hst, hz', _⟩ := hz.write (off := off) (l := zrow j n) (news := (List.replicate n j.zero.cells.toList).flatten) hb hg (zrow_rep j n (Z := Z) (μ := μ)).1.symm (zcell_one h1 n) (zrow_rep j n).2 (by rw [zrow_len, hzs]; omega)
        have hrr : (execOp a.eval o).run cx.P W = .ok (.value (.tuple #[])) W' := by
          obtain ⟨m, rfl⟩ : ∃ m, n = m + 1 := ⟨n - 1, by omega⟩
          simp only [execOp, ho]
          simp [resolve, invoke, builtin, hv, Builtin.clear_, run_underlying hu, (TC.at_ he).zero, zeroCells_flat, hst]
        rw [hrr, Oper.upon_value]
        refine hK _ _ _ rfl ?_
        rw [if_neg h0]
        exact ⟨Z, μ, hz'.put hn htup⟩) fun S' e => by subst e; exact kk
/-- copy to a slice over a box, of all of a slice that is read. -/
theorem PL.copyB {x y : Operand} {t t2 e id off n cap bt : Nat} {p : PV} {cs : List PV} {new : List (List PV)} {i j : TI} (ho : o.op = .call { callee := .builtin .copy, args := #[x, y], argTypes := #[t, t2] }) (hx : S.ev x = some (.bs id off n cap)) (hy : S.ev y = some p) (hb : lk S.h.bx id = some (bt, cs)) (ht : lk (TC.T cx.P) t = some i) (hd : i.d = .slice e) (he : lk (TC.T cx.P) e = some j)
    (hp : srcOf j.sz p = some new) (hfit : new.length ≤ n) (hle : off + new.flatten.length ≤ cs.length) (hw : Wants cx ops o S true) (hn : dstOk cx.n o.dst = true)
    (kk : PL cx ops Q rest (PS.put ⟨S.env, ⟨(id, (bt, writeC cs off new.flatten)) :: S.h.bx, S.h.tk⟩⟩ o.dst (.lit (.int .i64 new.length)))) : PL cx ops Q (o :: rest) S :=
  PL.cons hw (K := fun S' => S' = PS.put ⟨S.env, ⟨(id, (bt, writeC cs off new.flatten)) :: S.h.bx, S.h.tk⟩⟩ o.dst (.lit (.int .i64 new.length))) (fun a W hR K' Q' hK => by
    obtain ⟨Z, μ, hz⟩ := hR
    have hr := hz.ev hx
    have hyy := (hz.ev hy).src hp
    generalize hv : a.eval x = v at hr
    cases hr with
    | bs _ _ _ _ _ g hg =>
      obtain ⟨A, c, news, hvy, hc, hns, hZn⟩ := hyy.news
      have hu := (TC.at_ ht).und
      rw [hd] at hu
      have hu : cx.P.underlying t = some (.slice e) := hu
      obtain ⟨f1, f2⟩ := hns.flat
      obtain ⟨W', hst, hz', _⟩ := hz.write (off := off) (l := new.flatten) (news := news) hb hg f1 hns.one (fun k q u a b => (f2 k q u a b).any) hle
      have hload : (Builtin.firstCells j.sz new.length (.slice A new.length c)).run cx.P W = .ok news.toArray W := by
        by_cases h0 : 0 < new.length
        · obtain ⟨ad, rfl, hcl⟩ := hZn h0
          exact run_firstCells_some (P := cx.P) W j.sz new.length ad new.length c news hns.len (fun k u hu => hz.sub _ _ (hcl k u hu))
        · have hn0 : news = [] := List.eq_nil_of_length_eq_zero (by rw [hns.len]; have : new.length = 0 := by omega
                                                                    rw [this, Nat.zero_mul])
          have : new.length = 0 := by omega
          rw [this, hn0]
          cases A <;> simp [Builtin.firstCells, loadCells, loadCellsFrom]
      have hrr : (execOp a.eval o).run cx.P W = .ok (.value (.int .i64 new.length)) W' := by
        simp only [execOp, ho]
        have hm : Nat.min new.length n = new.length := Nat.min_eq_left hfit
        simp [resolve, invoke, builtin, hv, hvy, Builtin.copy_, run_underlying hu, Builtin.lenOf, (TC.at_ he).size, hm, hload, hst, goInt]
      show o.upon cx.P a K' Q' _
      rw [hrr, Oper.upon_value]
      exact hK _ _ _ rfl ⟨Z, μ, hz'.put hn (.lit _ _)⟩) fun S' e => by subst e; exact kk
end
end Go.Pw
set_option linter.unusedVariables false
set_option linter.unusedSimpArgs false
namespace Go.Pw
open Go Go.RowKit

/-- What is read as a slice's elements, a slice over a box too. -/
def srcB (S : PS) (sz : Nat) (new : List (List PV)) (p : PV) : Prop :=
  srcOf sz p = some new ∨ ∃ id off cap bt cs, p = .bs id off new.length cap ∧ lk S.h.bx id = some (bt, cs) ∧ (∀ e ∈ new, e.length = sz) ∧ ∃ r, cs.drop off = new.flatten ++ r
theorem src_cells {cx : Cx} {S : PS} {a : Act} {W : World} {Z : Cells} {μ : Mu} (hz : RZ cx S a W Z μ) {sz : Nat} {new : List (List PV)} {p : PV} {v : Value} (hp : srcB S sz new p) (hr : Rep Z μ p v) :
    ∃ (A : Option Addr) (c : Nat) (news : List Value), v = .slice A new.length c ∧ news.length = new.flatten.length ∧ (∀ e ∈ new, e.length = sz) ∧ (∀ u ∈ news, u.oneCell' = true) ∧ (∀ (k : Nat) (q : PV) (u : Value), new.flatten[k]? = some q → news[k]? = some u → Rep Z μ q u) ∧
      (0 < new.length → ∃ ad : Addr, A = some ad ∧ ∀ (j : Nat) (u : Value), news[j]? = some u → W.cell? (ad.add j) = some u) := by
  rcases hp with hp | ⟨id, off, cap, bt, cs, rfl, hb, hall, r, hcs⟩
  · obtain ⟨A, c, news, hv, hc, hns, hZn⟩ := (hr.src hp).news
    obtain ⟨f1, f2⟩ := hns.flat
    exact ⟨A, c, news, hv, f1, hns.all, hns.one, fun k q u x y => (f2 k q u x y).any, fun h0 => by
      obtain ⟨ad, e, hc⟩ := hZn h0
      exact ⟨ad, e, fun j u hu => hz.sub _ _ (hc j u hu)⟩⟩
  · cases hr with
    | bs _ _ _ _ _ g hg =>
      obtain ⟨g', hg', vs, hh, hlen, hv1, hrep, hbase, hZ⟩ := hz.h.bx id bt cs hb
      rw [hg] at hg'; cases hg'
      have hcl : ∀ k q, new.flatten[k]? = some q → cs[off + k]? = some q := fun k q hk => by
        have : (cs.drop off)[k]? = some q := by
          rw [hcs, List.getElem?_append_left (List.getElem?_eq_some_iff.1 hk).1]; exact hk
        rwa [List.getElem?_drop] at this
      have hlen2 : off + new.flatten.length ≤ cs.length ∨ new.flatten.length = 0 := by
        have := congrArg List.length hcs
        rw [List.length_drop, List.length_append] at this
        omega
      refine ⟨_, _, (vs.drop off).take new.flatten.length, rfl, ?_, hall, fun u hu => hv1 u (List.mem_of_mem_drop (List.mem_of_mem_take hu)), fun k q u hq hu => ?_, fun h0 => ⟨_, rfl, fun j u hu => ?_⟩⟩
      · rw [List.length_take, List.length_drop]; omega
      · have hk := (List.getElem?_eq_some_iff.1 hq).1
        rw [List.getElem?_take_of_lt hk, List.getElem?_drop] at hu
        exact hrep _ q u (hcl k q hq) hu
      · have hj : j < new.flatten.length := by
          have := (List.getElem?_eq_some_iff.1 hu).1
          rw [List.length_take] at this; omega
        rw [List.getElem?_take_of_lt hj, List.getElem?_drop] at hu
        rw [Addr.add_lit]
        simp [World.cell?, hh, hu]
/-- One box and no more. -/
theorem RepH.one {base : Nat} {Z : Cells} {μ : Mu} {W : World} {d t g : Nat} {cs : List PV} (hg : μ.bx d = some g) (hx : BxOk base Z μ W t cs g) (hb : ∀ i g, μ.bx i = some g → i = d) (ht : ∀ t n v, μ.tk t n ≠ some v) : RepH base Z μ ⟨[(d, (t, cs))], []⟩ W := by
  have hlk : ∀ i x, lk [(d, (t, cs))] i = some x → i = d ∧ x = (t, cs) := fun i x e => by
    rw [lk_cons] at e
    split at e
    · rename_i h; cases e; exact ⟨h.symm, rfl⟩
    · cases e
  refine ⟨fun i t' cs' e => ?_, fun u s n e => (by cases e), fun i j x y k h1 h2 h3 h4 => ?_, fun t u sz n sz' n' v v' g e => (by cases e), fun i k e => ?_, fun u n v e => absurd e (ht u n v), fun u n v s m e => absurd e (ht u n v), fun i u x s n v k h1 e => (by cases e)⟩
  · obtain ⟨rfl, e2⟩ := hlk i _ e
    cases e2
    exact ⟨g, hg, hx⟩
  · rw [(hlk i x h1).1, (hlk j y h2).1]
  · rw [hb i k e, lk_cons, if_pos rfl]; exact fun h => by cases h
section
variable {cx : Cx} [TC cx.P] {S : PS} {o : Oper} {ops : Array Oper} {rest : List Oper} {Q : Post}
/-- append to a slice over a box, where there is room. -/
theorem PL.appIn {x y : Operand} {t e id n cap bt sz : Nat} {p : PV} {cs : List PV} {new : List (List PV)} {i j : TI} (ho : o.op = .call { callee := .builtin .append, args := #[x, y], argTypes := #[t, t] }) (hx : S.ev x = some (.bs id 0 n cap)) (hy : S.ev y = some p) (hb : lk S.h.bx id = some (bt, cs)) (ht : lk (TC.T cx.P) t = some i) (hd : i.d = .slice e) (he : lk (TC.T cx.P) e = some j) (hj : j.sz = sz)
    (hp : srcB S sz new p) (hfit : n + new.length ≤ cap) (hle : n * sz + new.flatten.length ≤ cs.length) (hw : Wants cx ops o S true) (hn : dstOk cx.n o.dst = true)
    (kk : PL cx ops Q rest (PS.put ⟨S.env, ⟨(id, (bt, writeC cs (n * sz) new.flatten)) :: S.h.bx, S.h.tk⟩⟩ o.dst (.bs id 0 (n + new.length) cap))) : PL cx ops Q (o :: rest) S :=
  PL.cons hw (K := fun S' => S' = PS.put ⟨S.env, ⟨(id, (bt, writeC cs (n * sz) new.flatten)) :: S.h.bx, S.h.tk⟩⟩ o.dst (.bs id 0 (n + new.length) cap)) (fun a W hR K' Q' hK => by
    obtain ⟨Z, μ, hz⟩ := hR
    have hr := hz.ev hx
    have hyy := hz.ev hy
    generalize hv : a.eval x = v at hr
    cases hr with
    | bs _ _ _ _ _ g hg =>
      obtain ⟨A, c, news, hvy, f1, hall, hone, f2, hZn⟩ := src_cells hz hp hyy
      have hu := (TC.at_ ht).und
      rw [hd] at hu
      have hu : cx.P.underlying t = some (.slice e) := hu
      have hnl : news.length = new.length * sz := by rw [f1, flat_len hall]
      obtain ⟨W', hst, hz', _⟩ := hz.write (off := n * sz) (l := new.flatten) (news := news) hb hg f1 hone f2 hle
      have hload : (Builtin.firstCells sz new.length (.slice A new.length c)).run cx.P W = .ok news.toArray W := by
        by_cases h0 : 0 < new.length
        · obtain ⟨ad, rfl, hcl⟩ := hZn h0
          exact run_firstCells_some (P := cx.P) W sz new.length ad new.length c news hnl hcl
        · have h1 : new.length = 0 := by omega
          have hn0 : news = [] := List.eq_nil_of_length_eq_zero (by rw [hnl, h1, Nat.zero_mul])
          rw [h1, hn0]
          cases A <;> simp [Builtin.firstCells, loadCells, loadCellsFrom]
      have hrr : (execOp a.eval o).run cx.P W = .ok (.value (.slice (some ⟨g, 0, none⟩) (n + new.length) cap)) W' := by
        simp only [execOp, ho]
        simp [resolve, invoke, builtin, hv, hvy, Builtin.append_, run_underlying hu, Builtin.lenOf, (TC.at_ he).size, hfit, hload, hst, hj, Addr.add_lit]
      show o.upon cx.P a K' Q' _
      rw [hrr, Oper.upon_value]
      exact hK _ _ _ rfl ⟨Z, μ, hz'.put hn (.bs _ _ _ _ _ _ hg)⟩) fun S' e => by subst e; exact kk
/-- append of something to the nil slice. -/
theorem PL.appNew {x y : Operand} {t e d sz : Nat} {p : PV} {new : List (List PV)} {i j : TI} (ho : o.op = .call { callee := .builtin .append, args := #[x, y], argTypes := #[t, t] }) (hdst : o.dst = some d) (hx : S.ev x = some (.lit (.slice none 0 0))) (hy : S.ev y = some p) (hp : srcB S sz new p) (h0 : 0 < new.length)
    (hfr : lk S.h.bx d = none) (ht : lk (TC.T cx.P) t = some i) (hd : i.d = .slice e) (he : lk (TC.T cx.P) e = some j) (hj : j.sz = sz) (hzs : j.zero.cells.size = sz) (h1 : j.zero.cells.toList.all Value.oneCell' = true) (hb : new.length * j.bytes ≤ 140737488355328) (h63 : new.length ≤ 1099511627776)
    (hw : Wants cx ops o S true) (hn : dstOk cx.n (some d) = true)
    (kk : ∀ cap, new.length ≤ cap → cap ≤ maxLen → PL cx ops Q rest ⟨(d, .bs d 0 new.length cap) :: S.env, ⟨(d, (e, new.flatten ++ zrow j (cap - new.length))) :: S.h.bx, S.h.tk⟩⟩) : PL cx ops Q (o :: rest) S :=
  PL.cons hw (K := fun S' => ∃ cap, new.length ≤ cap ∧ cap ≤ maxLen ∧ S' = ⟨(d, .bs d 0 new.length cap) :: S.env, ⟨(d, (e, new.flatten ++ zrow j (cap - new.length))) :: S.h.bx, S.h.tk⟩⟩) (fun a W hR K' Q' hK => by
    obtain ⟨Z, μ, hz⟩ := hR
    have hv := (hz.ev hx).lit_inv
    obtain ⟨A, c, news, hvy, f1, hall, hone, f2, hZn⟩ := src_cells hz hp (hz.ev hy)
    obtain ⟨ad, rfl, hcl⟩ := hZn h0
    have hu := (TC.at_ ht).und
    rw [hd] at hu
    have hu : cx.P.underlying t = some (.slice e) := hu
    obtain ⟨ti, hi, hi1, hi2, hi3⟩ := (TC.at_ he).info
    have hnl : news.length = new.length * ti.size := by rw [f1, flat_len hall, hi1, hj]
    have hr := run_append_nil (P := cx.P) W t o.type e ti j.zero hu hi hi3 ad new.length c news hnl hcl h0 (by omega) (by rw [hi2]; omega)
    obtain ⟨μ', hm, hz'⟩ := hz.drew.newB (d := d) (t := e) (cs := new.flatten ++ zrow j (grownCap W new.length 0 e - new.length)) (vs := news.toArray ++ Builtin.zeroCells j.zero.cells (grownCap W new.length 0 e - new.length)) hfr
      (by rw [Array.toList_append, zeroCells_flat, List.length_append, List.length_append, (zrow_rep j _ (Z := Z) (μ := μ)).1, ← f1])
      (fun u hu => by
        rw [Array.toList_append, zeroCells_flat] at hu
        rcases List.mem_append.1 hu with hu | hu
        · exact hone u hu
        · exact zcell_one h1 _ u hu)
      (fun k q u hq hu => by
        rw [Array.toList_append, zeroCells_flat] at hu
        by_cases hk : k < new.flatten.length
        · rw [List.getElem?_append_left hk] at hq
          rw [List.getElem?_append_left (by simpa [f1] using hk)] at hu
          exact f2 k q u hq (by simpa using hu)
        · rw [List.getElem?_append_right (by omega)] at hq
          rw [List.getElem?_append_right (by simp; omega)] at hu
          simp only [f1] at hu
          exact (zrow_rep j _).2 _ q u hq hu)
    show o.upon cx.P a K' Q' _
    have hrun : (execOp a.eval o).run cx.P W = .ok (.value (.slice (some ⟨W.heap.size, 0, none⟩) new.length (grownCap W new.length 0 e))) (W.drew.alloc (.cells (news.toArray ++ Builtin.zeroCells j.zero.cells (grownCap W new.length 0 e - new.length)) e)) := by
      simp only [execOp, ho]
      simp [resolve, invoke, builtin, hv, hvy, hr]
    rw [hrun, Oper.upon_value, hdst]
    have hmm : (W.drew).heap.size = W.heap.size := rfl
    rw [hmm] at hm
    exact hK _ _ _ ⟨_, by simpa using grownCap_ge W new.length 0 e, grownCap_le_maxLen W new.length 0 e (by simp only [maxLen]; omega), rfl⟩ ⟨Z, μ', hz'.put (d := some d) hn (.bs _ _ _ _ _ _ hm)⟩) fun S' ⟨cap, ha, hc, e⟩ => by subst e; exact kk cap ha hc
/-- append to a slice over the one box that the call owns; of what it knows e' is kept. -/
theorem PL.appB (e' : List (Nat × PV)) {x y : Operand} {t e d id n cap bt sz : Nat} {p : PV} {cs : List PV} {new : List (List PV)} {i j : TI} (ho : o.op = .call { callee := .builtin .append, args := #[x, y], argTypes := #[t, t] }) (hdst : o.dst = some d) (hx : S.ev x = some (.bs id 0 n cap)) (hy : S.ev y = some p) (hp : srcOf sz p = some new) (hb : lk S.h.bx id = some (bt, cs)) (hcs : cap * sz ≤ cs.length) (hfc : freeL cs = true) (hnc : n ≤ cap) (hcm : cap ≤ maxLen)
    (ht : lk (TC.T cx.P) t = some i) (hd : i.d = .slice e) (he : lk (TC.T cx.P) e = some j) (hj : j.sz = sz) (hzs : j.zero.cells.size = sz) (h1 : j.zero.cells.toList.all Value.oneCell' = true) (hbb : (n + new.length) * j.bytes ≤ 140737488355328) (h63 : n + new.length ≤ 1099511627776)
    (hw : Wants cx ops o S true) (hn : dstOk cx.n (some d) = true)
    (kk : ∀ cap' bt' sl, n + new.length ≤ cap' → cap' ≤ maxLen → (cap' - (n + new.length)) * sz ≤ sl.length → freeL sl = true → PL cx ops Q rest ⟨(d, .bs d 0 (n + new.length) cap') :: e', ⟨[(d, (bt', cs.take (n * sz) ++ (new.flatten ++ sl)))], []⟩⟩)
    (hk : KF S e' := by repeat (first | exact trivial | refine ⟨⟨rfl, rfl⟩, ?_⟩)) : PL cx ops Q (o :: rest) S :=
  PL.cons hw (K := fun S' => ∃ cap' bt' sl, n + new.length ≤ cap' ∧ cap' ≤ maxLen ∧ (cap' - (n + new.length)) * sz ≤ sl.length ∧ freeL sl = true ∧ S' = ⟨(d, .bs d 0 (n + new.length) cap') :: e', ⟨[(d, (bt', cs.take (n * sz) ++ (new.flatten ++ sl)))], []⟩⟩) (fun a W hR K' Q' hK => by
    obtain ⟨Z, μ, hz⟩ := hR
    have hr := hz.ev hx
    generalize hv : a.eval x = v at hr
    cases hr with
    | bs _ _ _ _ _ g hg =>
      obtain ⟨A, c, news, hvy, hc, hns, hZn⟩ := ((hz.ev hy).src hp).news
      obtain ⟨f1, f2⟩ := hns.flat
      have hu := (TC.at_ ht).und
      rw [hd] at hu
      have hu : cx.P.underlying t = some (.slice e) := hu
      have hnl := hns.len
      have henv : ∀ {μ' : Mu}, EnvOk Z μ' cx.n e' a := fun {μ'} => ⟨hz.env.df, hz.env.sz, fun t q ht => by
        obtain ⟨h1, h2⟩ := hk.at_ ht
        obtain ⟨u, hu, hru⟩ := hz.env.may1 h1
        exact ⟨u, hu, (hru.drop h2).any⟩⟩
      obtain ⟨g', hg', vs, hh, hlen, hv1, hrep, hbase, hZ⟩ := hz.h.bx id bt cs hb
      rw [hg] at hg'; cases hg'
      show o.upon cx.P a K' Q' _
      have hflat : new.flatten.length = new.length * sz := flat_len hns.all
      have hload : (Builtin.firstCells sz new.length (.slice A new.length c)).run cx.P W = .ok news.toArray W := by
        by_cases h0 : 0 < new.length
        · obtain ⟨ad, rfl, hcl⟩ := hZn h0
          exact run_firstCells_some (P := cx.P) W sz new.length ad new.length c news hnl (fun k u hu => hz.sub _ _ (hcl k u hu))
        · have h1 : new.length = 0 := by omega
          have hn0 : news = [] := List.eq_nil_of_length_eq_zero (by rw [hnl, h1, Nat.zero_mul])
          rw [h1, hn0]
          cases A <;> simp [Builtin.firstCells, loadCells, loadCellsFrom]
      have hnsz : n * sz ≤ cap * sz := Nat.mul_le_mul_right _ hnc
      have hcells : ∀ (sl : List PV) (us : List Value) (μ' : Mu), us.length = sl.length → (∀ (k : Nat) (q : PV) (u : Value), sl[k]? = some q → us[k]? = some u → Rep Z Mu.emp q u) → ∀ (k : Nat) (q : PV) (u : Value), (cs.take (n * sz) ++ (new.flatten ++ sl))[k]? = some q → (vs.take (n * sz) ++ (news ++ us))[k]? = some u → Rep Z μ' q u := fun sl us μ' hl hs k q u hq hu => by
        have t1 : (cs.take (n * sz)).length = n * sz := by rw [List.length_take]; omega
        have t2 : (vs.take (n * sz)).length = n * sz := by rw [List.length_take]; omega
        by_cases k1 : k < n * sz
        · rw [List.getElem?_append_left (by omega), List.getElem?_take_of_lt k1] at hq
          rw [List.getElem?_append_left (by omega), List.getElem?_take_of_lt k1] at hu
          exact ((hrep k q u hq hu).drop (freeL_mem hfc q (List.mem_of_getElem? hq))).any
        · rw [List.getElem?_append_right (by omega), t1] at hq
          rw [List.getElem?_append_right (by omega), t2] at hu
          by_cases k2 : k - n * sz < new.flatten.length
          · rw [List.getElem?_append_left k2] at hq
            rw [List.getElem?_append_left (by omega)] at hu
            exact (f2 _ q u hq hu).any
          · rw [List.getElem?_append_right (by omega)] at hq
            rw [List.getElem?_append_right (by omega), f1] at hu
            exact (hs _ q u hq hu).any
      have hones : ∀ us : List Value, (∀ u ∈ us, u.oneCell' = true) → ∀ u ∈ vs.take (n * sz) ++ (news ++ us), u.oneCell' = true := fun us h u hu => by
        rcases List.mem_append.1 hu with hu | hu
        · exact hv1 u (List.mem_of_mem_take hu)
        · rcases List.mem_append.1 hu with hu | hu
          · exact hns.one u hu
          · exact h u hu
      have hmuone : ∀ g0 : Nat, ∀ i g, (⟨fun k => if k = d then some g0 else none, fun _ _ => none⟩ : Mu).bx i = some g → i = d := fun g0 i g h => by
        simp only at h
        by_cases e : i = d
        · exact e
        · rw [if_neg e] at h; cases h
      by_cases hfit : n + new.length ≤ cap
      · have hmul : n * sz + new.length * sz ≤ cap * sz := by rw [← Nat.add_mul]; exact Nat.mul_le_mul_right _ hfit
        have hst := run_storeCells_at cx.P g (n * sz) bt news 0 vs.toArray W hh (by simp only [Nat.add_zero, List.size_toArray]; omega) hns.one
        simp only [Nat.add_zero, List.append_assoc] at hst
        have hrr : (execOp a.eval o).run cx.P W = .ok (.value (.slice (some ⟨g, 0, none⟩) (n + new.length) cap)) (W.setRow g (vs.take (n * sz) ++ (news ++ vs.drop (n * sz + news.length))).toArray) := by
          simp only [execOp, ho]
          simp [resolve, invoke, builtin, hv, hvy, Builtin.append_, run_underlying hu, Builtin.lenOf, (TC.at_ he).size, hfit, hload, hj, Addr.add_lit] at hst ⊢
          simp [hst]
        rw [hrr, Oper.upon_value, hdst]
        refine hK _ _ _ ⟨cap, bt, cs.drop (n * sz + new.flatten.length), hfit, hcm, by rw [List.length_drop, hflat, Nat.sub_mul, Nat.add_mul]; omega, freeL_iff.2 (fun p hp => freeL_mem hfc p (List.mem_of_mem_drop hp)), rfl⟩ ⟨Z, ⟨fun k => if k = d then some g else none, fun _ _ => none⟩, RZ.put (S := ⟨e', ⟨[(d, (bt, _))], []⟩⟩) (d := some d) ⟨henv, ?_, ?_, hz.le, ?_⟩ hn (.bs _ _ _ _ _ g (by simp))⟩
        · refine RepH.one (g := g) (by simp) ⟨_, setRow_heap W g _ _ bt _ hh, ?_, hones _ (fun u hu => hv1 u (List.mem_of_mem_drop hu)), hcells _ _ _ ?_ (fun k q u hq hu => ?_), hbase, hZ⟩ (hmuone g) (fun _ _ _ h => by cases h)
          · simp only [List.length_append, List.length_take, List.length_drop]; omega
          · simp only [List.length_drop]; omega
          · rw [List.getElem?_drop] at hq hu
            rw [f1] at hu
            exact (hrep _ q u hq hu).drop (freeL_mem hfc q (List.mem_of_getElem? hq))
        · intro ad v e
          refine (World.cell?_of_block (setRow_other W g ad.block _ (fun e2 => ?_))).trans (hz.sub ad v e)
          have hsp := hz.sub.spot e
          have : ad = ⟨g, ad.off, none⟩ := by cases ad; simp at e2 hsp ⊢; exact ⟨e2, hsp⟩
          rw [this, hZ] at e
          cases e
        · exact hz.below.trans ⟨rfl, rfl, rfl, by simp, fun k hk => setRow_other W g k _ (by omega)⟩
      · obtain ⟨ti, hi, hi1, hi2, hi3⟩ := (TC.at_ he).info
        rw [hj] at hi1
        obtain ⟨ad, rfl, hcl⟩ := hZn (by omega)
        have hvl : (vs.take (n * sz)).length = n * sz := by rw [List.length_take]; omega
        have hr := run_append_grow (P := cx.P) W t o.type e ti j.zero hu hi hi3 ⟨g, 0, none⟩ n cap (vs.take (n * sz)) (by rw [hi1]; exact hvl) (fun k u hk => by
          have hk2 := (List.getElem?_eq_some_iff.1 hk).1
          rw [List.getElem?_take_of_lt (by omega)] at hk
          rw [Addr.add_lit, Nat.zero_add]
          simp [World.cell?, hh, hk]) ad new.length c news (by rw [hi1]; exact hnl) (fun k u hu => hz.sub _ _ (hcl k u hu)) (by omega) (by omega) (growslice_fits (by omega) (by rw [hi2]; exact hbb))
        have hrr : (execOp a.eval o).run cx.P W = .ok (.value (.slice (some ⟨W.heap.size, 0, none⟩) (n + new.length) (grownCap W (n + new.length) cap e))) (W.drew.alloc (.cells ((vs.take (n * sz)).toArray ++ news.toArray ++ Builtin.zeroCells j.zero.cells (grownCap W (n + new.length) cap e - (n + new.length))) e)) := by
          simp only [execOp, ho]
          simp [resolve, invoke, builtin, hv, hvy, hr]
        rw [hrr, Oper.upon_value, hdst]
        have hzl := zrow_rep j (grownCap W (n + new.length) cap e - (n + new.length)) (Z := Z) (μ := Mu.emp)
        have hbl : Below W.heap.size W (W.drew.alloc (.cells ((vs.take (n * sz)).toArray ++ news.toArray ++ Builtin.zeroCells j.zero.cells (grownCap W (n + new.length) cap e - (n + new.length))) e)) := (Below.drew (Below.refl _ _)).alloc (Nat.le_refl _) _
        refine hK _ _ _ ⟨grownCap W (n + new.length) cap e, e, zrow j (grownCap W (n + new.length) cap e - (n + new.length)), grownCap_ge W _ cap e, grownCap_le_maxLen W _ cap e (by simp only [maxLen]; omega), by rw [zrow_len, hzs]; exact Nat.le_refl _, zrow_free _ _, rfl⟩ ⟨Z, ⟨fun k => if k = d then some W.heap.size else none, fun _ _ => none⟩, RZ.put (S := ⟨e', ⟨[(d, (e, _))], []⟩⟩) (d := some d) ⟨henv, ?_, hz.sub.grow hbl, hz.le, hz.below.trans (hbl.mono hz.below.size)⟩ hn (.bs _ _ _ _ _ W.heap.size (by simp))⟩
        refine RepH.one (g := W.heap.size) (by simp) ⟨vs.take (n * sz) ++ (news ++ (List.replicate (grownCap W (n + new.length) cap e - (n + new.length)) j.zero.cells.toList).flatten), ?_, ?_, hones _ (zcell_one h1 _), hcells _ _ _ hzl.1.symm hzl.2, hz.below.size, fun off => ?_⟩ (hmuone _) (fun _ _ _ h => by cases h)
        · have := heap_alloc_new W.drew (.cells ((vs.take (n * sz)).toArray ++ news.toArray ++ Builtin.zeroCells j.zero.cells (grownCap W (n + new.length) cap e - (n + new.length))) e)
          rw [show W.drew.heap.size = W.heap.size from rfl] at this
          rw [this]
          congr 2
          apply Array.ext'
          simp [zeroCells_flat]
        · have := hzl.1
          simp only [List.length_append, List.length_take] at this ⊢
          omega
        · exact hz.sub.free (Nat.le_refl _) off) fun S' ⟨cap', bt', sl, a1, a2, a3, a4, e⟩ => by subst e; exact kk cap' bt' sl a1 a2 a3 a4
end
end Go.Pw
set_option linter.unusedVariables false
set_option linter.unusedSimpArgs false
namespace Go.Pw
open Go Go.RowKit

/-- What has come up, the newest first; each waits for those behind it. -/
def allC {α : Type} : List (Nat × α) → List α → List α
  | [], x => x
  | (_, y) :: r, x => y :: allC r x
def chain {α : Type} (b : Nat → Bool) : List (Nat × α) → List α → List α
  | [], x => x
  | (k, y) :: r, x => bif b k then y :: allC r x else chain b r x
def phs (l : List (Nat × (Nat × (Nat × List PV)))) (x : List (Nat × (Nat × List PV))) (m : List (Nat × (Nat × (Nat × Nat)))) (y : List (Nat × (Nat × Nat))) : (Nat → Bool) → PH := fun b => ⟨chain b l x, chain b m y⟩
/-- A box that is no more written is a slice. -/
theorem Le.freezeS {S : PS} {e : List (Nat × PV)} {tv id t sz n cap : Nat} {cs r : List PV} {es : List (List PV)} (ht : may1 (lk S.env tv) = some (.bs id 0 n cap)) (hl : lk S.h.bx id = some (t, cs)) (hf : freeL cs = true) (hes : cs = es.flatten ++ r) (hn : es.length = n) (hz : ∀ e ∈ es, e.length = sz) (hc : n ≤ cap) (h : KF S e := by repeat (first | exact trivial | refine ⟨⟨rfl, rfl⟩, ?_⟩)) : Le S ⟨(tv, .sl sz es none) :: e, PH.none⟩ := by
  subst hn
  have hke : KE [] (some (id, (t, cs))) S e [] := by
    clear ht
    induction e with
    | nil => exact .nil
    | cons x r ih =>
      obtain ⟨u, q⟩ := x
      exact KE.cons (L := []) (L' := []) h.1.1 (.leaf (.f (.same q h.1.2))) (ih h.2)
  exact Le.keepF (L := []) (L' := []) (b := []) [] (some (id, (t, cs))) (fun _ _ _ hh => by cases hh; exact ⟨hl, rfl, hf⟩) .nil (.cons (L := []) (L' := []) ht (.leaf (.fs id cap t cs sz es rfl hz ⟨r, hes⟩ hc)) hke) rfl (by simp) (by simp)
theorem KFB.kez {S : PS} {B : List Nat} {F : Fz} : ∀ {e : List (Nat × PV)}, KFB B S e → KE B F S e [] := fun h => h.ke
/-- The same, other boxes are kept. -/
theorem Le.freezeBS {S : PS} {e : List (Nat × PV)} {b : List (Nat × (Nat × List PV))} {tv id t sz n cap : Nat} {cs r : List PV} {es : List (List PV)} (ht : may1 (lk S.env tv) = some (.bs id 0 n cap)) (hl : lk S.h.bx id = some (t, cs)) (hf : freeL cs = true) (hes : cs = es.flatten ++ r) (hn : es.length = n) (hz : ∀ e ∈ es, e.length = sz) (hc : n ≤ cap) (hnb : (b.map (·.1)).contains id = false)
    (hb : KBF S b := by repeat (first | exact trivial | refine ⟨⟨rfl, rfl⟩, ?_⟩)) (h : KFB (b.map (·.1)) S e := by repeat (first | exact trivial | refine ⟨⟨rfl, rfl⟩, ?_⟩)) : Le S ⟨(tv, .sl sz es none) :: e, ⟨b, []⟩⟩ := by
  subst hn
  exact Le.freeze id t cs hl hnb hf hb (KE.cons (L := []) (L' := []) ht (.leaf (.fs id cap t cs sz es rfl hz ⟨r, hes⟩ hc)) h.ke)
/-- An equation that 'omega' does not look at. -/
structure Eqq (a b : Int) : Prop where
  h : a = b
theorem idx0 {n : Int} {m : Nat} (e : Eqq n m) : 0 ≤ n := by rw [e.h]; exact Int.natCast_nonneg m
theorem idx1 {α : Type} {es : List α} {l : α} {n : Int} {m : Nat} (e : Eqq n m) (h : es[m]? = some l) : es[n.toNat]? = some l := by rw [e.h]; exact h
theorem eqS {n m : Int} (e : Eqq n m) : some n = some m := congrArg some e.h
theorem eqP {k : IntKind} {n m : Int} (e : Eqq n m) : some (PV.lit (.int k n)) = some (.lit (.int k m)) := by rw [e.h]
theorem mapLe {α β : Type} {f : α → β} {l : List α} {n : Nat} (h : n ≤ l.length) : n ≤ (l.map f).length := by rw [List.length_map]; exact h
/-- What is kept: values without names; rows as slices that are read. -/
inductive KR (S : PS) : List (Nat × PV) → Prop
  | nil : KR S []
  | same {t : Nat} {q : PV} {r : List (Nat × PV)} (h : may1 (lk S.env t) = some q) (hf : free q = true) (k : KR S r) : KR S ((t, q) :: r)
  | ro {t sz : Nat} {es : List (List PV)} {o : Option Nat} {r : List (Nat × PV)} (h : may1 (lk S.env t) = some (.sl sz es o)) (k : KR S r) : KR S ((t, .sl sz es none) :: r)
theorem KR.ke {S : PS} {e : List (Nat × PV)} (h : KR S e) : KE [] none S e [] := by
  induction h with
  | nil => exact .nil
  | same h hf _ ih => exact KE.cons (L := []) (L' := []) h (.leaf (.f (.same _ hf))) ih
  | ro h _ ih => exact KE.cons (L := []) (L' := []) h (.leaf (.f (.ro _ _ _))) ih
theorem Le.ro {S : PS} {e : List (Nat × PV)} (h : KR S e) : Le S ⟨e, PH.none⟩ :=
  Le.keep (L := []) (L' := []) (b := []) [] .nil h.ke rfl (by simp) (by simp)
/-- Between two pieces of code: one state for all ways. -/
theorem PW.cut {cx : Cx} {Q : Post} {S : PS} {x y : Code} (S1 : PS) (h1 : PW cx x (thn (fun S' => Le S' S1) Q) S) (h2 : PW cx y Q S1) : PW cx (x.seq y) Q S :=
  PW.seq fun a W hr => wp_mono (h1 a W hr) fun e a' W' hq => by
    obtain ⟨S', h3, h4⟩ := hq
    cases e with
    | normal => exact ⟨S1, h4 cx a' W' h3, h2⟩
    | exit i => exact ⟨S', h3, h4⟩
    | goto l => exact ⟨S', h3, h4⟩
    | ret => exact ⟨S', h3, h4⟩
    | panic c => exact ⟨S', h3, h4⟩
    | outgrown => exact ⟨S', h3, h4⟩
end Go.Pw
set_option linter.unusedVariables false
set_option linter.unusedSimpArgs false
namespace Go.Pw
open Go Go.RowKit
section
variable {cx : Cx} [TC cx.P] {S : PS} {o : Oper} {ops : Array Oper} {rest : List Oper} {Q : Post}
/-- Is a slice nil? If it holds something it is not; else it may be. -/
theorem PL.isNil {t yt e sz : Nat} {x y : Operand} {q : Option Nat} {es : List (List PV)} {i : TI} (ho : o.op = .binOp .eql t x y yt) (hx : S.ev x = some (.sl sz es q)) (hy : S.ev y = some (.lit (.slice none 0 0))) (ht : lk (TC.T cx.P) t = some i) (hd : i.d = .slice e) (hw : Wants cx ops o S true) (hn : dstOk cx.n o.dst = true)
    (k : ∀ b : Bool, (b = true → es = []) → PL cx ops Q rest (S.put o.dst (.lit (.bool b)))) : PL cx ops Q (o :: rest) S :=
  PL.cons hw (K := fun S' => ∃ b : Bool, (b = true → es = []) ∧ S' = S.put o.dst (.lit (.bool b))) (fun a W hR K' Q' hK => by
    obtain ⟨Z, μ, hz⟩ := hR
    obtain ⟨A, c, val, hv, hc, hes, hZ, _⟩ := (hz.ev hx).sl_inv
    have ey := (hz.ev hy).lit_inv
    have hu := (TC.at_ ht).und
    rw [hd] at hu
    have hu : cx.P.underlying t = some (.slice e) := hu
    show o.upon cx.P a K' Q' _
    have hr : (execOp a.eval o).run cx.P W = .ok (.value (.bool A.isNone)) W := by
      simp only [execOp, ho, hv, ey]
      have hg : (eqGuard .eql t x y (.slice A es.length c) (.slice none 0 0)) = (pure () : Sem Unit) := rfl
      rw [hg]
      simp only [Sem.run_bind, Sem.run_pure, Result.andThen_ok, Lib.run_eql_slice_nil W t e A es.length c 0 0 hu]
    rw [hr, Oper.upon_value]
    refine hK _ _ _ ⟨A.isNone, fun hb => ?_, rfl⟩ ⟨Z, μ, hz.put hn (.lit _ _)⟩
    cases A with
    | some _ => cases hb
    | none =>
      rcases Nat.eq_zero_or_pos es.length with h0 | h0
      · exact List.eq_nil_of_length_eq_zero h0
      · obtain ⟨ad, h1, _⟩ := hZ h0; cases h1) fun S' ⟨b, hb, e⟩ => by subst e; exact k b hb
end
section
variable {cx : Cx} {S : PS} {o : Oper} {ops : Array Oper} {rest : List Oper} {Q : Post}
/-- An entry of the library that gives a number or a text. -/
theorem OpV.ext {fo : Operand} {f : Nat} {xs : Array Operand} {ts : Array TypeId} {vs : List Value} {v : Value} (ho : o.op = .call { callee := .value fo, args := xs, argTypes := ts }) (hfo : S.ev fo = some (.fn f [])) (hps : evs S xs.toList = some (vs.map PV.lit)) (hrun : ∀ W, (callFunc f vs.toArray).run cx.P W = .ok (.value v) W) : OpV cx o S (.lit v) := fun a W Z μ hz => by
  have hf := hz.ev hfo
  generalize hv : a.eval fo = u at hf
  cases hf with
  | fn _ _ _ cs hl hc =>
    have hcs : cs = [] := List.eq_nil_of_length_eq_zero hl.symm
    subst hcs
    have hargs := evs_rep hz hps
    have he : xs.map a.eval = vs.toArray := by
      apply Array.ext'
      rw [Array.toList_map]
      apply List.ext_getElem?
      intro j
      have hlen : (xs.toList.map a.eval).length = vs.length := by rw [hargs.1]; simp
      by_cases hj : j < vs.length
      · have h1 : (vs.map PV.lit)[j]? = some (.lit vs[j]) := by simp [hj]
        have h2 := hargs.2 j _ _ h1 (List.getElem?_eq_getElem (by omega))
        have h3 := h2.lit_inv
        rw [List.getElem?_eq_getElem (by omega), h3]
        simp [hj]
      · rw [List.getElem?_eq_none (by omega), List.getElem?_eq_none (by simpa using hj)]
    refine ⟨v, ?_, .lit _ _⟩
    simp only [execOp, ho]
    simp [resolve, hv, Deferred.ofValue, invoke]
    rw [he]
    exact hrun W
end
end Go.Pw
set_option linter.unusedVariables false
set_option linter.unusedSimpArgs false
namespace Go.Pw
open Go Go.RowKit
theorem one_digits : ∀ (n t : Nat) (acc : Array Value), (∀ u ∈ acc.toList, u.oneCell' = true) → ∀ u ∈ (Extern.BytealgMakeNoZero.digits n t acc).toList, u.oneCell' = true
  | 0, _, _, h => h
  | n + 1, t, acc, h => by
    rw [Extern.BytealgMakeNoZero.digits]
    refine one_digits n _ _ (fun u hu => ?_)
    rw [Array.toList_push] at hu
    rcases List.mem_append.1 hu with hu | hu
    · exact h u hu
    · rw [List.mem_singleton.1 hu]; rfl
theorem run_noZero {P : Program} (w : World) (ps : Array TypeId) (t e : TypeId) (ht : P.underlying t = some (.slice e)) (n : Nat) (hn : n ≤ 16777216) :
    ∃ cs : Array Value, (Extern.BytealgMakeNoZero.makeNoZero ps #[t] #[.int .i64 n]).run P w = .ok (.slice (some ⟨w.heap.size, 0, none⟩) n cs.size) (w.drew.drew.alloc (.cells cs e)) ∧ n ≤ cs.size ∧ cs.size ≤ maxLen ∧ ∀ u ∈ cs.toList, u.oneCell' = true := by
  have hdef : Extern.BytealgMakeNoZero.makeNoZero ps #[t] #[.int .i64 n] =
      (do
        let .slice elem ← underlying t | stuck "bytealg.MakeNoZero: slice type expected"
        if (n : Int) < 0 || (n : Int) > 2 ^ 48 then runtimePanic (.error "makeslice: len out of range")
        let cap ← choose (.appendCap (n : Int).toNat 0 elem)
        askRoom cap
        let bytes ← choose (.extern "internal/bytealg.MakeNoZero.bytes" 0)
        let a ← newRow elem (Extern.BytealgMakeNoZero.digits cap bytes #[])
        pure (.slice (some a) (n : Int).toNat cap)) := rfl
  refine ⟨Extern.BytealgMakeNoZero.digits (grownCap w n 0 e) ((Question.extern "internal/bytealg.MakeNoZero.bytes" 0).cut (w.tape (w.drawn + 1) (.extern "internal/bytealg.MakeNoZero.bytes" 0))) #[], ?_, ?_, ?_, one_digits _ _ _ (fun u hu => by simp at hu)⟩
  · rw [hdef]
    have h1 : ¬ (n : Int) < 0 := by omega
    have h2 : ¬ (281474976710656 : Int) < (n : Int) := by omega
    simp [run_underlying ht, h1, h2, Question.forced, newRow, Lib.size_digits, grownCap]
  · rw [Lib.size_digits]
    simpa using grownCap_ge w n 0 e
  · rw [Lib.size_digits]
    simpa using grownCap_le_maxLen w n 0 e (by simp only [maxLen]; omega)
theorem freeL_junk (n : Nat) : freeL (List.replicate n .junk) = true := freeL_iff.2 fun p hp => by rw [List.eq_of_mem_replicate hp]; rfl
section
variable {cx : Cx} [TC cx.P] {S : PS} {o : Oper} {ops : Array Oper} {rest : List Oper} {Q : Post}
theorem PL.noZero {fo : Operand} {f t e d n : Nat} {x : Operand} {ts ps : Array TypeId} {i : TI} (ho : o.op = .call { callee := .value fo, args := #[x], argTypes := ts }) (hfo : S.ev fo = some (.fn f [])) (hx : S.ev x = some (.lit (.int .i64 (n : Int)))) (hdst : o.dst = some d)
    (hrun : ∀ args W, (callFunc f args).run cx.P W = ((Extern.BytealgMakeNoZero.makeNoZero ps #[t] args).run cx.P W).andThen fun v w' => .ok (.value v) w') (ht : lk (TC.T cx.P) t = some i) (hd : i.d = .slice e) (hn : n ≤ 16777216) (hf : lk S.h.bx d = none) (hw : Wants cx ops o S true) (hdd : dstOk cx.n (some d) = true)
    (kk : ∀ cap, n ≤ cap → cap ≤ maxLen → PL cx ops Q rest ⟨(d, .bs d 0 n cap) :: S.env, ⟨(d, (e, List.replicate cap .junk)) :: S.h.bx, S.h.tk⟩⟩) : PL cx ops Q (o :: rest) S :=
  PL.cons hw (K := fun S' => ∃ cap, n ≤ cap ∧ cap ≤ maxLen ∧ S' = ⟨(d, .bs d 0 n cap) :: S.env, ⟨(d, (e, List.replicate cap .junk)) :: S.h.bx, S.h.tk⟩⟩) (fun a W hR K' Q' hK => by
    obtain ⟨Z, μ, hz⟩ := hR
    have hff := hz.ev hfo
    have ex := (hz.ev hx).lit_inv
    have hu := (TC.at_ ht).und
    rw [hd] at hu
    have hu : cx.P.underlying t = some (.slice e) := hu
    obtain ⟨cs, hr, h1, h2, h3⟩ := run_noZero (P := cx.P) W ps t e hu n hn
    generalize hv : a.eval fo = u at hff
    cases hff with
    | fn _ _ _ caps hl hc =>
      have hcs : caps = [] := List.eq_nil_of_length_eq_zero hl.symm
      subst hcs
      have hrr : (execOp a.eval o).run cx.P W = .ok (.value (.slice (some ⟨W.heap.size, 0, none⟩) n cs.size)) (W.drew.drew.alloc (.cells cs e)) := by
        simp only [execOp, ho]
        simp [resolve, hv, Deferred.ofValue, invoke, ex]
        rw [hrun, hr]
        rfl
      obtain ⟨μ', hm, hz'⟩ := hz.drew.drew.newB (d := d) (t := e) (cs := List.replicate cs.size .junk) (vs := cs) hf (by simp) h3 (fun k q u hq hu => by
        have := List.eq_of_mem_replicate (List.mem_of_getElem? hq)
        rw [this]; exact .junk _ _)
      show o.upon cx.P a K' Q' _
      rw [hrr, Oper.upon_value, hdst]
      have hmm : (W.drew.drew).heap.size = W.heap.size := rfl
      rw [hmm] at hm
      exact hK _ _ _ ⟨cs.size, h1, h2, rfl⟩ ⟨Z, μ', hz'.put (d := some d) hdd (.bs _ _ _ _ _ _ hm)⟩) fun S' ⟨cap, ha, hb, e⟩ => by subst e; exact kk cap ha hb
theorem OpV.cutB0 {x : Operand} {hi mx : Option Operand} {t e h c' id off m cap : Nat} {i j : TI} (ho : o.op = .slice t x none hi mx) (hx : S.ev x = some (.bs id off m cap)) (ht : lk (TC.T cx.P) t = some i) (hd : i.d = .slice e) (he : lk (TC.T cx.P) e = some j)
    (h2 : bdV S m hi = some (h : Int)) (h3 : bdV S cap mx = some (c' : Int)) (hmx : (mx.isSome && hi.isNone) = false) (hh : h ≤ c') (hc : c' ≤ cap) : OpV cx o S (.bs id off h c') := by
  have := OpV.cutB (l := 0) ho hx ht hd he rfl h2 h3 hmx (Nat.zero_le _) hh hc
  simpa using this
end
theorem writeC_mid {pre mid post l : List PV} {off : Nat} (h1 : pre.length = off) (h2 : mid.length = l.length) : writeC (pre ++ (mid ++ post)) off l = pre ++ (l ++ post) := by
  subst h1
  unfold writeC
  rw [List.take_left, ← List.drop_drop, List.drop_left, ← h2, List.drop_left]
theorem writeC_nil (cs : List PV) (off : Nat) : writeC cs off [] = cs := by simp [writeC]
theorem writeC_rep {pre l : List PV} {off k : Nat} {q : PV} (h1 : pre.length = off) (h2 : l.length ≤ k) : writeC (pre ++ List.replicate k q) off l = (pre ++ l) ++ List.replicate (k - l.length) q := by
  have : List.replicate k q = List.replicate l.length q ++ List.replicate (k - l.length) q := by rw [List.replicate_append_replicate]; congr 1; omega
  rw [this, writeC_mid h1 (by simp), List.append_assoc]
theorem packed_flat {es : List (List PV)} {r e : List PV} {sz k : Nat} (hz : ∀ e ∈ es, e.length = sz) (hk : es[k]? = some e) : (es.flatten ++ r).drop (k * sz) = e ++ ((es.drop (k + 1)).flatten ++ r) := by
  have h := (List.getElem?_eq_some_iff.1 hk).1
  have e1 : es = es.take k ++ (e :: es.drop (k + 1)) := by
    conv => lhs; rw [← List.take_append_drop k es]
    rw [List.drop_eq_getElem_cons h, (List.getElem?_eq_some_iff.1 hk).2]
  have e2 : (es.take k).flatten.length = k * sz := by
    rw [flat_len (fun e he => hz e (List.mem_of_mem_take he)), List.length_take, Nat.min_eq_left (by omega)]
  conv => lhs; rw [e1]
  rw [List.flatten_append, List.flatten_cons, List.append_assoc, List.append_assoc, ← e2, List.drop_left]
end Go.Pw
set_option linter.unusedVariables false
set_option linter.unusedSimpArgs false
namespace Go.Pw
open Go Go.RowKit
/-- What stands at the head of a box becomes a row that may be appended to. -/
theorem Le.boxRow {S : PS} {e : List (Nat × PV)} {tv id t sz n cap τ : Nat} {cs r : List PV} {es : List (List PV)} (ht : may1 (lk S.env tv) = some (.bs id 0 n cap)) (hl : lk S.h.bx id = some (t, cs)) (hf : freeL cs = true) (hes : cs = es.flatten ++ r) (hn : es.length = n) (hz : ∀ e ∈ es, e.length = sz) (hc : n ≤ cap) (hcm : cap ≤ maxLen) (hcs : cap * sz ≤ cs.length) (hk : KF S e := by repeat (first | exact trivial | refine ⟨⟨rfl, rfl⟩, ?_⟩)) : Le S ⟨(tv, .sl sz es (some τ)) :: e, ⟨[], [(τ, (sz, n))]⟩⟩ := fun cx a W ⟨Z, μ, hzz⟩ => by
  subst hn
  obtain ⟨g, hg, vs, v1, v2, v3, v4, v5, v6⟩ := hzz.h.bx id t cs hl
  obtain ⟨v, hv, hrv⟩ := hzz.env.may1 ht
  have hfl : es.flatten.length = es.length * sz := flat_len hz
  have hle : es.length * sz ≤ vs.length := by rw [v2, hes, List.length_append, hfl]; omega
  have hcell : ∀ (j : Nat) (u : Value), (vs.take (es.length * sz))[j]? = some u → W.cell? ⟨g, j, Option.none⟩ = some u := fun j u hu => by
    have hj : j < es.length * sz := by have := (List.getElem?_eq_some_iff.1 hu).1; rw [List.length_take] at this; omega
    rw [List.getElem?_take_of_lt hj] at hu
    simp [World.cell?, v1, hu]
  cases hrv with
  | bs _ _ _ _ _ g' hg' =>
    rw [hg] at hg'; cases hg'
    have hsub := hzz.sub.add hcell
    have hzle := Cells.le_add Z g (vs.take (es.length * sz))
    have hco : CellsOf (Z.add g (vs.take (es.length * sz))) sz es (vs.take (es.length * sz)) := by
      refine ⟨by rw [List.length_take]; omega, hz, fun u hu => v3 u (List.mem_of_mem_take hu), fun i e j p he hp => ?_⟩
      have hfa := flat_at (r := r) hz he hp
      have hi := (List.getElem?_eq_some_iff.1 he).1
      have hj := (List.getElem?_eq_some_iff.1 hp).1
      rw [hz e (List.mem_of_getElem? he)] at hj
      have hlt := idx_lt hi hj
      rw [← hes] at hfa
      refine ⟨vs[i * sz + j]'(by omega), ?_, ?_⟩
      · rw [List.getElem?_take_of_lt hlt]; exact List.getElem?_eq_getElem _
      · exact ((v4 _ p _ hfa (List.getElem?_eq_getElem (by omega))).drop (freeL_mem hf p (List.mem_of_getElem? hfa))).mono hzle (Mu.le_refl _)
    have hrep := hco.rep (A := some ⟨g, 0, Option.none⟩) (c := cap) hc (fun _ => ⟨_, rfl, fun j u hu => by rw [Addr.add_lit, Nat.zero_add]; exact Cells.add_at hzz.sub hcell j u hu⟩) ⟨fun _ => Option.none, fun u m => if u = τ ∧ m = es.length then some (.slice (some ⟨g, 0, Option.none⟩) es.length cap) else Option.none⟩
    refine ⟨Z.add g (vs.take (es.length * sz)), ⟨fun _ => Option.none, fun u m => if u = τ ∧ m = es.length then some (.slice (some ⟨g, 0, Option.none⟩) es.length cap) else Option.none⟩, ⟨⟨hzz.env.df, hzz.env.sz, fun u q hu => ?_⟩, ⟨fun i t' c' h => (by cases h), fun u s n h => ?_, fun i j x y k h => (by cases h), fun u1 u2 s1 n1 s2 n2 w1 w2 k h1 h2 h3 h4 h5 h6 => ?_, fun i k h => (by cases h), fun u m w h => ?_, fun u m w s m2 h h2 => ?_, fun i u x s m w k h => (by cases h)⟩, hsub, hzz.le.trans ⟨hzle, fun ad u e => (Cells.add_inv e).imp (fun x => x) (fun x => by omega)⟩ (Nat.le_refl _), hzz.below⟩⟩
    · rw [lk_cons] at hu
      split at hu
      · rename_i e; subst e; cases hu
        exact ⟨_, hv, .own _ _ _ _ _ hrep (by simp)⟩
      · obtain ⟨h1, h2⟩ := hk.at_ hu
        obtain ⟨u2, hu2, hr2⟩ := hzz.env.may1 h1
        exact ⟨u2, hu2, ((hr2.drop h2).mono hzle (Mu.le_refl _)).any⟩
    · rw [lk_cons] at h
      split at h
      · rename_i e; subst e; cases h
        refine ⟨_, by simp, .inr ⟨g, cap, vs.toArray, t, rfl, v1, hc, hcm, by simp only [List.size_toArray]; omega, v5, fun off ho => Cells.add_none (v6 off) (fun _ => ?_)⟩⟩
        rw [List.length_take]; omega
      · cases h
    · rw [lk_cons] at h1 h2
      split at h1
      · rename_i e1
        split at h2
        · rename_i e2; exact e1.symm.trans e2
        · cases h2
      · cases h1
    · simp only at h
      split at h
      · rename_i e; rw [e.1, lk_cons, if_pos rfl]; exact fun x => by cases x
      · cases h
    · simp only at h
      split at h
      · rename_i e
        rw [e.1, lk_cons, if_pos rfl] at h2
        cases h2
        rw [e.2]
        exact Nat.le_refl _
      · cases h
section
variable {cx : Cx} [TC cx.P] {S : PS} {o : Oper} {ops : Array Oper} {rest : List Oper} {Q : Post}
/-- A slice literal that is read only. -/
theorem PL.litRo {t n e : Nat} {ps : Array (Nat × Operand)} {es : List (List PV)} {i j : TI} (ho : o.op = .buildSlice t n ps) (hps : partsAre ps n = true) (hes : evL S ps.toList = some es) (ht : lk (TC.T cx.P) t = some i) (hd : i.d = .slice e) (he : lk (TC.T cx.P) e = some j)
    (hl : es.all (fun x => x.length == j.sz) = true) (hf : es.all freeL = true) (hb : Nat.ble (n * j.sz) 16777216 = true) (hn : dstOk cx.n o.dst = true) (hw : Wants cx ops o S true)
    (k : PL cx ops Q rest (S.put o.dst (.sl j.sz es none))) : PL cx ops Q (o :: rest) S :=
  PL.cons hw (K := fun S' => S' = S.put o.dst (.sl j.sz es none)) (fun a W hR K' Q' hK => by
    obtain ⟨Z, μ, hz⟩ := hR
    have hb := Nat.le_of_ble_eq_true hb
    have hl2 : ∀ e ∈ es, e.length = j.sz := fun e he => by simpa using List.all_eq_true.1 hl e he
    obtain ⟨e1, e2, e3⟩ := evL_vals hz ps.toList es hes hl2 (fun e he => List.all_eq_true.1 hf e he)
    have hpr : ps.toList.map (·.1) = List.range n := by simpa [partsAre] using hps
    have hplen : ps.toList.length = n := by have := congrArg List.length hpr; simpa using this
    have hz2 := zipIdx_of_range ps.toList 0 (by rw [hpr, hplen, List.range_eq_range'])
    have hrun := run_lit (P := cx.P) (W := W) ht hd he (ps.toList.map fun q => a.eval q.2) (by simpa using hplen) e2 hb
    show o.upon cx.P a K' Q' _
    have hr : (execOp a.eval o).run cx.P W = .ok (.value (.slice (some ⟨W.heap.size, 0, none⟩) n n)) (W.alloc (.cells ((ps.toList.map fun q => a.eval q.2).flatMap fun v => v.cells.toList).toArray e)) := by
      have hmap : (ps.map fun (q : Nat × Operand) => (q.1, a.eval q.2)) = (((ps.toList.map fun q => a.eval q.2).zipIdx 0).map fun x => (x.2, x.1)).toArray := by
        have h1 : (ps.toList.map fun q => a.eval q.2) = (ps.toList.map (·.2)).map a.eval := by rw [List.map_map]; rfl
        generalize hL : ps.toList.map (·.2) = L at hz2 h1
        apply Array.ext'
        rw [Array.toList_map, h1, hz2, List.map_map, List.zipIdx_map, List.map_map]
        simp [Function.comp_def]
      simp only [execOp, ho]
      have : (ps.map fun (x : Nat × Operand) => match x with | (i, x) => (i, a.eval x)) = (ps.map fun (q : Nat × Operand) => (q.1, a.eval q.2)) := rfl
      rw [this, hmap, Sem.run_bind, hrun]
      rfl
    rw [hr, Oper.upon_value]
    have hbl : Below W.heap.size W (W.alloc (.cells ((ps.toList.map fun q => a.eval q.2).flatMap fun v => v.cells.toList).toArray e)) := (Below.refl _ _).alloc (Nat.le_refl _) _
    have hcell : ∀ (m : Nat) (u : Value), ((ps.toList.map fun q => a.eval q.2).flatMap fun v => v.cells.toList)[m]? = some u → (W.alloc (.cells ((ps.toList.map fun q => a.eval q.2).flatMap fun v => v.cells.toList).toArray e)).cell? ⟨W.heap.size, m, none⟩ = some u := fun m u hu => by
      rw [World.cell?_alloc_new]; simpa using hu
    have hz' := hz.newZ hbl (Nat.le_refl _) hcell
    have hnl : es.length = n := e1.trans hplen
    have h0 := (e3.mono (Cells.le_add Z W.heap.size _)).rep (A := some ⟨W.heap.size, 0, none⟩) (c := n) (by omega) (fun _ => ⟨_, rfl, fun m u hu => by rw [Addr.add_lit, Nat.zero_add]; exact Cells.add_at (hz.sub.grow hbl) hcell m u hu⟩) μ
    rw [hnl] at h0
    exact hK _ _ _ rfl ⟨_, _, hz'.put hn h0⟩) fun S' e => by subst e; exact k
end
end Go.Pw
set_option linter.unusedVariables false
set_option linter.unusedSimpArgs false
namespace Go.Pw
open Go Go.RowKit
theorem wkl_refl : ∀ l : List PV, WkL l l
  | [] => .nil
  | p :: r => .cons (.refl p) (wkl_refl r)
theorem KF.kef {S : PS} {F : Fz} : ∀ {e : List (Nat × PV)}, KF S e → KE [] F S e []
  | [], _ => .nil
  | (t, q) :: r, h => by
    have := KE.cons (L := []) (L' := []) (F := F) h.1.1 (.leaf (.f (.same q h.1.2))) (KF.kef h.2)
    exact this
/-- A variable that is no more written is read from here on. -/
theorem Le.freezeP {S : PS} {e : List (Nat × PV)} {tv id t : Nat} {cs : List PV} (ht : may1 (lk S.env tv) = some (.bx id 0)) (hl : lk S.h.bx id = some (t, cs)) (hf : freeL cs = true) (h : KF S e := by repeat (first | exact trivial | refine ⟨⟨rfl, rfl⟩, ?_⟩)) : Le S ⟨(tv, .rp cs) :: e, PH.none⟩ :=
  Le.keepF (L := []) (L' := []) (b := []) [] (some (id, (t, cs))) (fun _ _ _ hh => by cases hh; exact ⟨hl, rfl, hf⟩) .nil (.cons (L := []) (L' := []) ht (.leaf (.fz id 0 t cs rfl)) h.kef) rfl (by simp) (by simp)
/-- The same, other boxes are kept. -/
theorem Le.freezePB {S : PS} {e : List (Nat × PV)} {b : List (Nat × (Nat × List PV))} {tv id t : Nat} {cs : List PV} (ht : may1 (lk S.env tv) = some (.bx id 0)) (hl : lk S.h.bx id = some (t, cs)) (hf : freeL cs = true) (hnb : (b.map (·.1)).contains id = false) (hb : KBF S b) (h : KFB (b.map (·.1)) S e) : Le S ⟨(tv, .rp cs) :: e, ⟨b, []⟩⟩ :=
  Le.freeze id t cs hl hnb hf hb (KE.cons (L := []) (L' := []) ht (.leaf (.fz id 0 t cs rfl)) h.ke)
/-- One slice over one box, under another name. -/
theorem Le.rename {S : PS} {e : List (Nat × PV)} {tv id off n cap t : Nat} {cs cs' : List PV} (id' : Nat) (ht : may1 (lk S.env tv) = some (.bs id off n cap)) (hl : lk S.h.bx id = some (t, cs)) (hf : freeL cs = true) (hc : cs = cs') (hk : KF S e := by repeat (first | exact trivial | refine ⟨⟨rfl, rfl⟩, ?_⟩)) : Le S ⟨(tv, .bs id' off n cap) :: e, ⟨[(id', (t, cs'))], []⟩⟩ := fun cx a W ⟨Z, μ, hz⟩ => by
  subst hc
  obtain ⟨g, hg, vs, v1, v2, v3, v4, v5, v6⟩ := hz.h.bx id t cs hl
  obtain ⟨v, hv, hrv⟩ := hz.env.may1 ht
  cases hrv with
  | bs _ _ _ _ _ g' hg' =>
    rw [hg] at hg'; cases hg'
    refine ⟨Z, ⟨fun k => if k = id' then some g else none, fun _ _ => none⟩, ⟨⟨hz.env.df, hz.env.sz, fun u q hu => ?_⟩, ?_, hz.sub, hz.le, hz.below⟩⟩
    · rw [lk_cons] at hu
      split at hu
      · rename_i e; subst e; cases hu
        exact ⟨_, hv, .bs _ _ _ _ _ _ (by simp)⟩
      · obtain ⟨h1, h2⟩ := hk.at_ hu
        obtain ⟨u2, hu2, hr2⟩ := hz.env.may1 h1
        exact ⟨u2, hu2, (hr2.drop h2).any⟩
    · refine RepH.one (g := g) (by simp) ⟨vs, v1, v2, v3, fun i p u hp hu => ((v4 i p u hp hu).drop (freeL_mem hf p (List.mem_of_getElem? hp))).any, v5, v6⟩ (fun i k h => ?_) (fun _ _ _ h => by cases h)
      simp only at h
      by_cases e : i = id'
      · exact e
      · rw [if_neg e] at h; cases h
end Go.Pw
set_option linter.unusedVariables false
set_option linter.unusedSimpArgs false
namespace Go.Pw
open Go Go.RowKit
theorem RZ.joinB {cx : Cx} {S : PS} {a : Act} {W W' : World} {Z Z' : Cells} {μ μ' : Mu} (hz : RZ cx S a W Z μ) {id t off n cap : Nat} {cs : List PV} {v : Value} (hr : Rep Z' μ' (.bs id off n cap) v) (hg : Grow Z Z' W.heap.size) (hs : Sub Z' W') (hb : Below W.heap.size W W') (hh : RepH W.heap.size Z' μ' ⟨[(id, (t, cs))], []⟩ W') (hid : lk S.h.bx id = none) (hcs : freeL cs = true) :
    ∃ μ2, RZ cx ⟨S.env, ⟨(id, (t, cs)) :: S.h.bx, S.h.tk⟩⟩ a W' Z' μ2 ∧ Rep Z' μ2 (.bs id off n cap) v := by
  obtain ⟨g, hgm, vs, v1, v2, v3, v4, v5, v6⟩ := hh.bx id t cs (by rw [lk_cons, if_pos rfl])
  have hz1 := hz.grow hb hg.1 hg.2 hs
  have hle := Mu.setBx_le (g := g) (hz1.h.bxFree hid)
  cases hr with
  | bs _ _ _ _ _ g' hg' =>
    rw [hgm] at hg'; cases hg'
    refine ⟨μ.setBx id g, ⟨hz1.env.mono (Cells.le_refl _) hle, ?_, hz1.sub, hz1.le, hz1.below⟩, .bs _ _ _ _ _ _ (by simp [Mu.setBx])⟩
    refine hz1.h.addBx hid ⟨vs, v1, v2, v3, fun i p u hp hu => ((v4 i p u hp hu).drop (freeL_mem hcs p (List.mem_of_getElem? hp))).any, Nat.le_trans hz.below.size v5, v6⟩ (fun i x e he => ?_) (fun u sz m w e he hv => ?_)
    · obtain ⟨g2, hg2, hb2⟩ := hz.h.bx i x.1 x.2 e
      rw [he] at hg2; cases hg2
      have := hb2.lt; omega
    · obtain ⟨w', hw', hb2⟩ := hz.h.tk u sz m e
      rw [he] at hw'; cases hw'
      have := (hb2.lt hv).1; omega
section
variable {cx : Cx} {S : PS} {o : Oper} {ops : Array Oper} {rest : List Oper} {Q : Post}
/-- A call that is handed nothing and leaves one box, or none. -/
theorem PL.callB0 {fo : Operand} {f : Nat} {caps ps qs : List PV} {xs : Array Operand} {ts : Array TypeId} {F : PV → PH → Prop} (ho : o.op = .call { callee := .value fo, args := xs, argTypes := ts }) (hfo : S.ev fo = some (.fn f caps)) (hps : evs S xs.toList = some ps) (h : SpecB cx.P f qs PH.none F) (hw2 : WkL (ps ++ caps) qs) (hqf : freeL qs = true)
    (hF : ∀ p h', F p h' → (h' = PH.none ∧ plain p = true) ∨ ∃ id t cs off n cap, p = .bs id off n cap ∧ h' = ⟨[(id, (t, cs))], []⟩ ∧ lk S.h.bx id = none ∧ freeL cs = true) (hw : Wants cx ops o S true) (hn : dstOk cx.n o.dst = true)
    (k : ∀ p h', F p h' → PL cx ops Q rest (PS.put ⟨S.env, ⟨h'.bx ++ S.h.bx, S.h.tk⟩⟩ o.dst p)) : PL cx ops Q (o :: rest) S :=
  PL.cons hw (K := fun S' => ∃ p h', F p h' ∧ S' = PS.put ⟨S.env, ⟨h'.bx ++ S.h.bx, S.h.tk⟩⟩ o.dst p) (fun a W hR K' Q' hK => by
    obtain ⟨Z, μ, hz⟩ := hR
    obtain ⟨vs, hall, hrun⟩ := call_args ho hfo hps h.ent hz
    have h0 : RepH W.heap.size Z Mu.emp PH.none W := ⟨fun i t cs e => (by cases e), fun t sz n e => (by cases e), fun i j x y g e => (by cases e), fun t u sz n sz' n' v v' g e => (by cases e), fun i g e => (by cases e), fun t n v e => (by cases e), fun t n v sz m e => (by cases e), fun i t x sz n v g e => (by cases e)⟩
    have hqs := hw2.rep hall
    have hqe : RepL Z Mu.emp qs vs := ⟨hqs.1, fun i p v hp hv => (hqs.2 i p v hp hv).drop (freeL_mem hqf p (List.mem_of_getElem? hp))⟩
    have hcall := h.run W W Z Mu.emp _ hz.sub hqe h0 (Below.refl _ _)
    show o.upon cx.P a K' Q' _
    rw [hrun, Oper.upon_enter]
    refine hcall.mono fun e W' ⟨v, e1, p, h', Z', μ', hFp, hr, hg, hs, hb, hh⟩ => ?_
    subst e1
    rcases hF p h' hFp with ⟨rfl, hpl⟩ | ⟨id, t, cs, off, n, cap, rfl, rfl, hid, hcs⟩
    · have hz' := hz.grow hb hg.1 hg.2 hs
      exact hK _ _ _ ⟨p, _, hFp, rfl⟩ ⟨Z', μ, RZ.put (S := ⟨S.env, ⟨[] ++ S.h.bx, S.h.tk⟩⟩) hz' hn (plain_any hpl hr)⟩
    · obtain ⟨μ2, hz', hr2⟩ := hz.joinB hr hg hs hb hh hid hcs
      exact hK _ _ _ ⟨_, _, hFp, rfl⟩ ⟨Z', μ2, hz'.put hn hr2⟩) fun S' ⟨p, h', hFp, e⟩ => by subst e; exact k p h' hFp
end
/-- A box that is no more written is a slice, under two names. -/
theorem Le.freezeS2 {S : PS} {e : List (Nat × PV)} {tv tw id t sz n cap : Nat} {cs r : List PV} {es : List (List PV)} (ht : may1 (lk S.env tv) = some (.bs id 0 n cap)) (ht2 : may1 (lk S.env tw) = some (.bs id 0 n cap)) (hl : lk S.h.bx id = some (t, cs)) (hf : freeL cs = true) (hes : cs = es.flatten ++ r) (hn : es.length = n) (hz : ∀ e ∈ es, e.length = sz) (hc : n ≤ cap) (h : KF S e := by repeat (first | exact trivial | refine ⟨⟨rfl, rfl⟩, ?_⟩)) : Le S ⟨(tv, .sl sz es none) :: (tw, .sl sz es none) :: e, PH.none⟩ := by
  subst hn
  exact Le.keepF (L := []) (L' := []) (b := []) [] (some (id, (t, cs))) (fun _ _ _ hh => by cases hh; exact ⟨hl, rfl, hf⟩) .nil (.cons (L := []) (L' := []) ht (.leaf (.fs id cap t cs sz es rfl hz ⟨r, hes⟩ hc)) (.cons (L := []) (L' := []) ht2 (.leaf (.fs id cap t cs sz es rfl hz ⟨r, hes⟩ hc)) h.kef)) rfl (by simp) (by simp)
end Go.Pw
set_option linter.unusedVariables false
set_option linter.unusedSimpArgs false
namespace Go.Pw
open Go Go.RowKit
/-- Which box lies behind which. -/
def ordE (tg i0 : Nat) (h' : PH) : List (Nat × PV) := match h'.bx with
  | [(id, _)] => [(tg, .ord i0 id)]
  | _ => []
theorem okB_one {Z Z' : Cells} {μ μ' : Mu} {i : Nat} {p : PV} {v : Value} (h : okB [i] p = true) (hr : Rep Z μ p v) (hz : Z.le Z') (hm : ∀ g, μ.bx i = some g → μ'.bx i = some g) : Rep Z' μ' p v := by
  have hc : ∀ {k : Nat}, [i].contains k = true → k = i := fun {k} hk => by simpa using hk
  cases p with
  | bx id off => cases hr with | bx _ _ _ g hg => have := hc h; subst this; exact .bx _ _ _ g (hm g hg)
  | bs id off n cap => cases hr with | bs _ _ _ _ _ g hg => have := hc h; subst this; exact .bs _ _ _ _ _ g (hm g hg)
  | ord a b =>
    cases hr with
    | ord _ _ _ gi gj _ hi hj hlt =>
      simp only [okB, Bool.and_eq_true] at h
      have h1 := hc h.1
      have h2 := hc h.2
      subst h1; subst h2
      rw [hi] at hj; cases hj
      exact absurd hlt (Nat.lt_irrefl _)
  | _ => exact ((hr.drop h).mono hz (Mu.le_refl _)).any
theorem KFB.at_ {B : List Nat} {S : PS} : ∀ {e : List (Nat × PV)}, KFB B S e → ∀ {t : Nat} {q : PV}, lk e t = some q → may1 (lk S.env t) = some q ∧ okB B q = true
  | [], _, _, _, h => by cases h
  | (u, p) :: r, h, t, q, hl => by
    rw [lk_cons] at hl
    split at hl
    · rename_i e; subst e; cases hl; exact h.1
    · exact KFB.at_ h.2 hl
section
variable {cx : Cx} {S : PS} {o : Oper} {ops : Array Oper} {rest : List Oper} {Q : Post}
/-- A call that is handed nothing and leaves one box, or none; the box lies behind box i0. -/
theorem PL.callB0o (tg i0 : Nat) {x0 : Nat × List PV} {fo : Operand} {f : Nat} {caps ps qs : List PV} {xs : Array Operand} {ts : Array TypeId} {F : PV → PH → Prop} (ho : o.op = .call { callee := .value fo, args := xs, argTypes := ts }) (hfo : S.ev fo = some (.fn f caps)) (hps : evs S xs.toList = some ps) (h : SpecB cx.P f qs PH.none F) (hw2 : WkL (ps ++ caps) qs) (hqf : freeL qs = true)
    (hF : ∀ p h', F p h' → (h' = PH.none ∧ plain p = true) ∨ ∃ id t cs off n cap, p = .bs id off n cap ∧ h' = ⟨[(id, (t, cs))], []⟩ ∧ lk S.h.bx id = none ∧ freeL cs = true) (hi0 : lk S.h.bx i0 = some x0) (hne : ∀ p h', F p h' → lk h'.bx i0 = none) (htg : dstOk cx.n (some tg) = true) (hw : Wants cx ops o S true) (hn : dstOk cx.n o.dst = true)
    (k : ∀ p h', F p h' → PL cx ops Q rest (PS.put ⟨ordE tg i0 h' ++ S.env, ⟨h'.bx ++ S.h.bx, S.h.tk⟩⟩ o.dst p)) : PL cx ops Q (o :: rest) S :=
  PL.cons hw (K := fun S' => ∃ p h', F p h' ∧ S' = PS.put ⟨ordE tg i0 h' ++ S.env, ⟨h'.bx ++ S.h.bx, S.h.tk⟩⟩ o.dst p) (fun a W hR K' Q' hK => by
    obtain ⟨Z, μ, hz⟩ := hR
    obtain ⟨vs, hall, hrun⟩ := call_args ho hfo hps h.ent hz
    have h0 : RepH W.heap.size Z Mu.emp PH.none W := ⟨fun i t cs e => (by cases e), fun t sz n e => (by cases e), fun i j x y g e => (by cases e), fun t u sz n sz' n' v v' g e => (by cases e), fun i g e => (by cases e), fun t n v e => (by cases e), fun t n v sz m e => (by cases e), fun i t x sz n v g e => (by cases e)⟩
    have hqs := hw2.rep hall
    have hqe : RepL Z Mu.emp qs vs := ⟨hqs.1, fun i p v hp hv => (hqs.2 i p v hp hv).drop (freeL_mem hqf p (List.mem_of_getElem? hp))⟩
    have hcall := h.run W W Z Mu.emp _ hz.sub hqe h0 (Below.refl _ _)
    show o.upon cx.P a K' Q' _
    rw [hrun, Oper.upon_enter]
    refine hcall.mono fun e W' ⟨v, e1, p, h', Z', μ', hFp, hr, hg, hs, hb, hh⟩ => ?_
    subst e1
    rcases hF p h' hFp with ⟨rfl, hpl⟩ | ⟨id, t, cs, off, n, cap, rfl, rfl, hid, hcs⟩
    · have hz' := hz.grow hb hg.1 hg.2 hs
      exact hK _ _ _ ⟨p, _, hFp, rfl⟩ ⟨Z', μ, RZ.put (S := ⟨S.env, ⟨[] ++ S.h.bx, S.h.tk⟩⟩) hz' hn (plain_any hpl hr)⟩
    · have hid0 : id ≠ i0 := fun e => by
        have := hne _ _ hFp
        rw [lk_cons, if_pos e] at this; cases this
      obtain ⟨g0, hg0, hb0⟩ := hz.h.bx i0 x0.1 x0.2 hi0
      have hlt0 := hb0.lt
      obtain ⟨g1, hg1, vs1, v1, v2, v3, v4, v5, v6⟩ := hh.bx id t cs (by rw [lk_cons, if_pos rfl])
      have hz1 := hz.grow hb hg.1 hg.2 hs
      have hle := Mu.setBx_le (g := g1) (hz1.h.bxFree hid)
      cases hr with
      | bs _ _ _ _ _ g' hg' =>
        rw [hg1] at hg'; cases hg'
        have hH := hz1.h.addBx (cs := cs) (t := t) (g := g1) hid ⟨vs1, v1, v2, v3, fun i p u hp hu => ((v4 i p u hp hu).drop (freeL_mem hcs p (List.mem_of_getElem? hp))).any, Nat.le_trans hz.below.size v5, v6⟩ (fun i x e he => by
            obtain ⟨g2, hg2, hb2⟩ := hz.h.bx i x.1 x.2 e
            rw [he] at hg2; cases hg2
            have := hb2.lt; omega) (fun u sz m w e he hv => by
            obtain ⟨w', hw', hb2⟩ := hz.h.tk u sz m e
            rw [he] at hw'; cases hw'
            have := (hb2.lt hv).1; omega)
        refine hK _ _ _ ⟨_, _, hFp, rfl⟩ ⟨Z', μ.setBx id g1, RZ.put (S := ⟨ordE tg i0 ⟨[(id, (t, cs))], []⟩ ++ S.env, ⟨(id, (t, cs)) :: S.h.bx, S.h.tk⟩⟩) ⟨⟨hz1.env.df, hz1.env.sz, fun u q hu => ?_⟩, hH, hz1.sub, hz1.le, hz1.below⟩ hn (.bs _ _ _ _ _ g1 (by simp [Mu.setBx]))⟩
        simp only [ordE, List.cons_append, List.nil_append] at hu
        rw [lk_cons] at hu
        split at hu
        · rename_i e; subst e; cases hu
          have hsz := hz1.env.sz
          have htn : tg < cx.n := by simpa [dstOk, Nat.blt_eq] using htg
          refine ⟨_, Array.getElem?_eq_getElem (by omega), .ord _ _ _ g0 g1 _ (hle.1 _ _ hg0) (by simp [Mu.setBx]) (by omega)⟩
        · obtain ⟨u2, hu2, hr2⟩ := hz1.env.at_ u q hu
          exact ⟨u2, hu2, hr2.mono (Cells.le_refl _) hle⟩) fun S' ⟨p, h', hFp, e⟩ => by subst e; exact k p h' hFp
/-- A call that is handed box i1, while box i0 that lies ahead of it is kept. -/
theorem PL.callBK (e' : List (Nat × PV)) (tg : Nat) {i0 i1 : Nat} {x y : Nat × List PV} {fo : Operand} {f : Nat} {caps ps qs : List PV} {xs : Array Operand} {ts : Array TypeId} {F : PV → PH → Prop} (ho : o.op = .call { callee := .value fo, args := xs, argTypes := ts }) (hfo : S.ev fo = some (.fn f caps)) (hps : evs S xs.toList = some ps) (hS : S.h = ⟨[(i1, x), (i0, y)], []⟩) (hord : may1 (lk S.env tg) = some (.ord i0 i1)) (h : SpecB cx.P f qs ⟨[(i1, x)], []⟩ F)
    (hw2 : WkL (ps ++ caps) qs) (hqb : ∀ q ∈ qs, okB [i1] q = true) (hxf : freeL x.2 = true) (hyf : freeL y.2 = true) (hne : i1.beq i0 = false) (hF : ∀ p h', F p h' → ∃ x' off n cap, p = .bs i1 off n cap ∧ h' = ⟨[(i1, x')], []⟩ ∧ freeL x'.2 = true) (hw : Wants cx ops o S true) (hn : dstOk cx.n o.dst = true)
    (k : ∀ p h', F p h' → PL cx ops Q rest (PS.put ⟨e', ⟨h'.bx ++ [(i0, y)], []⟩⟩ o.dst p)) (hk : KFB [i0] S e' := by repeat (first | exact trivial | refine ⟨⟨rfl, rfl⟩, ?_⟩)) : PL cx ops Q (o :: rest) S :=
  PL.cons hw (K := fun S' => ∃ p h', F p h' ∧ S' = PS.put ⟨e', ⟨h'.bx ++ [(i0, y)], []⟩⟩ o.dst p) (fun a W hR K' Q' hK => by
    obtain ⟨Z, μ, hz⟩ := hR
    have hne' : i1 ≠ i0 := fun e => by subst e; simp at hne
    obtain ⟨vs, hall, hrun⟩ := call_args ho hfo hps h.ent hz
    obtain ⟨vo, _, hro⟩ := hz.env.may1 hord
    cases hro with
    | ord _ _ _ g0 g1 _ hg0 hg1 hlt =>
      obtain ⟨x1, x2⟩ := x
      obtain ⟨y1, y2⟩ := y
      obtain ⟨g0', hg0', ys, b1, b2, b3, b4, b5, b6⟩ := hz.h.bx i0 y1 y2 (by rw [hS]; show lk ((i1, (x1, x2)) :: [(i0, (y1, y2))]) i0 = _; rw [lk_cons, if_neg hne', lk_cons, if_pos rfl])
      rw [hg0] at hg0'; cases hg0'
      obtain ⟨g1', hg1', xs1, c1, c2, c3, c4, c5, c6⟩ := hz.h.bx i1 x1 x2 (by rw [hS]; show lk ((i1, (x1, x2)) :: _) i1 = _; rw [lk_cons, if_pos rfl])
      rw [hg1] at hg1'; cases hg1'
      have hg1lt : g1 < W.heap.size := lt_of_heap c1
      let w' : World := { W with heap := W.heap.extract 0 g1 }
      have hsz : w'.heap.size = g1 := by show (W.heap.extract 0 g1).size = g1; simp; omega
      have hblk : ∀ k, k < g1 → W.heap[k]? = w'.heap[k]? := fun k hk => by
        show W.heap[k]? = (W.heap.extract 0 g1)[k]?
        rw [Array.getElem?_extract]; simp [hk]; omega
      have hbw : Below w'.heap.size w' W := ⟨rfl, rfl, rfl, by rw [hsz]; omega, fun k hk => hblk k (by rwa [hsz] at hk)⟩
      let μ1 : Mu := ⟨fun k => if k = i1 then some g1 else none, fun _ _ => none⟩
      have hH1 : RepH w'.heap.size Z μ1 ⟨[(i1, (x1, x2))], []⟩ W := RepH.one (g := g1) (by simp [μ1]) ⟨xs1, c1, c2, c3, fun i p u hp hu => ((c4 i p u hp hu).drop (freeL_mem hxf p (List.mem_of_getElem? hp))).any, by rw [hsz]; exact Nat.le_refl _, c6⟩ (fun i g e => by
        simp only [μ1] at e
        by_cases he : i = i1
        · exact he
        · rw [if_neg he] at e; cases e) (fun _ _ _ e => by cases e)
      have hqs := hw2.rep hall
      have hargs : RepL Z μ1 qs vs := ⟨hqs.1, fun i p v hp hv => okB_one (hqb p (List.mem_of_getElem? hp)) (hqs.2 i p v hp hv) (Cells.le_refl _) (fun g e => by rw [hg1] at e; cases e; simp [μ1])⟩
      have hcall := h.run w' W Z μ1 _ hz.sub hargs hH1 hbw
      show o.upon cx.P a K' Q' _
      rw [hrun, Oper.upon_enter]
      refine hcall.mono fun e W' ⟨v, e1, p, h', Z', μ', hFp, hr, hg, hs, hb, hh⟩ => ?_
      subst e1
      obtain ⟨x', off, n, cap, rfl, rfl, hx'f⟩ := hF p h' hFp
      obtain ⟨x1', x2'⟩ := x'
      obtain ⟨gn, hgn, xs2, d1, d2, d3, d4, d5, d6⟩ := hh.bx i1 x1' x2' (by rw [lk_cons, if_pos rfl])
      rw [hsz] at d5
      have hgnlt := lt_of_heap d1
      have hbase : cx.w.heap.size ≤ g1 := c5
      have hW0 : W'.heap[g0]? = W.heap[g0]? := (hb.block g0 (by rw [hsz]; exact hlt)).trans (hblk g0 hlt).symm
      let μa : Mu := ⟨fun k => if k = i0 then some g0 else none, fun _ _ => none⟩
      have hHa : RepH cx.w.heap.size Z' μa ⟨[(i0, (y1, y2))], []⟩ W' := RepH.one (g := g0) (by simp [μa]) ⟨ys, hW0.trans b1, b2, b3, fun i p u hp hu => (((b4 i p u hp hu).drop (freeL_mem hyf p (List.mem_of_getElem? hp))).mono hg.1 (Mu.le_refl _)).any, b5, fun o => by
        cases e : Z' ⟨g0, o, none⟩ with
        | none => rfl
        | some u =>
          rcases hg.2 _ _ e with h1 | h1
          · rw [b6 o] at h1; cases h1
          · rw [hsz] at h1; simp at h1; omega⟩ (fun i g e => by
        simp only [μa] at e
        by_cases he : i = i0
        · exact he
        · rw [if_neg he] at e; cases e) (fun _ _ _ e => by cases e)
      have hH2 := hHa.addBx (id := i1) (g := gn) (t := x1') (cs := x2') (by rw [lk_cons, if_neg (fun e => hne' e.symm)]; rfl) ⟨xs2, d1, d2, d3, fun i p u hp hu => ((d4 i p u hp hu).drop (freeL_mem hx'f p (List.mem_of_getElem? hp))).any, by omega, d6⟩ (fun i x e he => by
        rw [lk_cons] at e
        split at e
        · rename_i ei
          rw [← ei] at he
          simp [μa] at he
          omega
        · cases e) (fun u sz m w e => by cases e)
      cases hr with
      | bs _ _ _ _ _ g' hg' =>
        rw [hgn] at hg'; cases hg'
        refine hK _ _ _ ⟨_, _, hFp, rfl⟩ ⟨Z', μa.setBx i1 gn, RZ.put (S := ⟨e', ⟨(i1, (x1', x2')) :: [(i0, (y1, y2))], []⟩⟩) ⟨⟨hz.env.df, hz.env.sz, fun u q hu => ?_⟩, hH2, hs, hz.le.trans hg (by rw [hsz]; exact hbase), ?_⟩ hn (.bs _ _ _ _ _ gn (by simp [Mu.setBx]))⟩
        · obtain ⟨h1, h2⟩ := hk.at_ hu
          obtain ⟨u2, hu2, hr2⟩ := hz.env.may1 h1
          exact ⟨u2, hu2, okB_one h2 hr2 hg.1 (fun g e => by rw [hg0] at e; cases e; simp [Mu.setBx, μa]; intro e; exact absurd e.symm hne')⟩
        · exact ⟨hb.os.trans hz.below.os, hb.tape.trans hz.below.tape, hb.output.trans hz.below.output, by omega, fun k hk => ((hb.block k (by rw [hsz]; omega)).trans (hblk k (by omega)).symm).trans (hz.below.block k hk)⟩) fun S' ⟨p, h', hFp, e⟩ => by subst e; exact k p h' hFp
end
end Go.Pw
set_option linter.unusedVariables false
namespace Go.Wl
open Go Go.RowKit Go.Pw

structure Item where
  route : ByteArray
  topic : Int
  due : Int
  bytes : List UInt8
structure Post where
  queue : List Item
  time : Int
  book : List UInt8
  sure : Int
structure Reader where
  seed : List UInt8
  epoch : Int
  seen : List (List UInt8)
  got : List (List UInt8)
structure Wire where
  toPost : Bool
  item : Item
  bytes : List UInt8
structure Sent where
  route : ByteArray
  epoch : Int
  note : List UInt8
  bytes : List UInt8
structure Earth where
  seed : List UInt8
  count : Int
  known : Int
  post : Post
  reader : Reader
  net : List Wire
  sent : List Sent
structure Line where
  kind : Int
  route : ByteArray
  topic : Int
  due : Int
  bytes : List UInt8
abbrev eI (n : Int) : PV := .lit (.int .i64 n)
abbrev eS (s : ByteArray) : PV := .lit (.string s)
abbrev eT (b : Bool) : PV := .lit (.bool b)
def eItem (x : Item) : List PV := [eS x.route, eI x.topic, eI x.due, eBs x.bytes]
def eItems (q : List Item) : PV := .sl 4 (q.map eItem) none
def ePost (p : Post) : List PV := [eItems p.queue, eI p.time, eBs p.book, eI p.sure]
def eBss1 (b : List UInt8) : List PV := [eBs b]
def eBss (l : List (List UInt8)) : PV := .sl 1 (l.map eBss1) none
def eReader (r : Reader) : List PV := [eBs r.seed, eI r.epoch, eBss r.seen, eBss r.got]
def eWire (w : Wire) : List PV := [eT w.toPost, eS w.item.route, eI w.item.topic, eI w.item.due, eBs w.item.bytes, eBs w.bytes]
def eWires (l : List Wire) : PV := .sl 6 (l.map eWire) none
def eSent (s : Sent) : List PV := [eS s.route, eI s.epoch, eBs s.note, eBs s.bytes]
def eSents (l : List Sent) : PV := .sl 4 (l.map eSent) none
def eEarth (w : Earth) : List PV := [eBs w.seed, eI w.count, eI w.known, eItems w.post.queue, eI w.post.time, eBs w.post.book, eI w.post.sure, eBs w.reader.seed, eI w.reader.epoch, eBss w.reader.seen, eBss w.reader.got, eWires w.net, eSents w.sent]
def eLine (l : Line) : List PV := [eI l.kind, eS l.route, eI l.topic, eI l.due, eBs l.bytes]

/-! The plain functions. -/
def inB (n lo hi : Int) : Bool := decide (lo ≤ n) && decide (n ≤ hi)
def sign (b : Int) : Int := if 48 ≤ b ∧ b ≤ 57 then b - 48 else if 97 ≤ b ∧ b ≤ 102 then b - 87 else -1
def bit (b : Bool) : Int := if b then 1 else 0
def unhexL : List UInt8 → Option (List UInt8)
  | [] => some []
  | [_] => none
  | x :: y :: r => if sign x.toNat < 0 ∨ sign y.toNat < 0 then none else match unhexL r with
    | some l => some (UInt8.ofNat (16 * sign x.toNat + sign y.toNat).toNat :: l)
    | none => none
def unhex (s : ByteArray) : Option (List UInt8) := unhexL s.data.toList
def isRoute (s : ByteArray) : Bool := match unhex s with
  | some l => decide (l.length = 8)
  | none => false
def itemOk (x : Item) : Bool := isRoute x.route && (inB x.topic 0 9 && (inB x.due 0 100000 && decide (x.bytes.length ≤ 1560)))
def ofN (q : List Item) (r : ByteArray) : Nat := (q.filter fun x => decide (x.route = r)).length
end Go.Wl
