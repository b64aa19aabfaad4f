/- The engine, seventh text: calls; the end of a call. -/
import Derived.Test.YtkganhdglmbpoaaGreatPw6
set_option linter.unusedVariables false
set_option linter.unusedSimpArgs false
namespace Go.Pw
open Go Go.RowKit

/-- What says less: what a callee is told of an argument. -/
inductive Wk : PV → PV → Prop
  | refl (p : PV) : Wk p p
  | row (sz : Nat) (es : List (List PV)) (t : Option Nat) : Wk (.sl sz es t) (.sl sz es none)
  | nil (sz : Nat) : Wk (.lit (.slice none 0 0)) (.sl sz [] none)
  | agg (l l' : List PV) (hl : l.length = l'.length) (h : ∀ (i : Nat) (p q : PV), l[i]? = some p → l'[i]? = some q → Wk p q) : Wk (.agg l) (.agg l')
  | tup (l l' : List PV) (hl : l.length = l'.length) (h : ∀ (i : Nat) (p q : PV), l[i]? = some p → l'[i]? = some q → Wk p q) : Wk (.tup l) (.tup l')
  | junk (p : PV) : Wk p .junk
theorem Wk.rep {Z : Cells} {μ : Mu} {p q : PV} (h : Wk p q) : ∀ {v : Value}, Rep Z μ p v → Rep Z μ q v := by
  induction h with
  | refl p => exact fun h => h
  | row sz es t => exact fun h => h.src (by simp [srcOf])
  | nil sz => exact fun h => h.src rfl
  | agg l l' hl _ ih =>
    intro v h
    cases h with
    | agg _ _ cs hl2 h1 h => exact .agg _ _ cs (by omega) h1 (fun i q v hq hv => by
        have hi := (List.getElem?_eq_some_iff.1 hq).1
        exact ih i _ q (List.getElem?_eq_getElem (by omega : i < l.length)) hq (h i _ v (List.getElem?_eq_getElem (by omega : i < l.length)) hv))
  | tup l l' hl _ ih =>
    intro v h
    cases h with
    | tup _ _ cs hl2 h => exact .tup _ _ cs (by omega) (fun i q v hq hv => by
        have hi := (List.getElem?_eq_some_iff.1 hq).1
        exact ih i _ q (List.getElem?_eq_getElem (by omega : i < l.length)) hq (h i _ v (List.getElem?_eq_getElem (by omega : i < l.length)) hv))
  | junk p => exact fun _ => .junk _ _
inductive WkL : List PV → List PV → Prop
  | nil : WkL [] []
  | cons {p q : PV} {l l' : List PV} (h : Wk p q) (r : WkL l l') : WkL (p :: l) (q :: l')
theorem WkL.at_ {l l' : List PV} (h : WkL l l') : l.length = l'.length ∧ ∀ (i : Nat) (p q : PV), l[i]? = some p → l'[i]? = some q → Wk p q := by
  induction h with
  | nil => exact ⟨rfl, fun i p q h => by simp at h⟩
  | cons h _ ih => exact ⟨by simp [ih.1], fun i p q hp hq => by
      cases i with
      | zero => simp at hp hq; subst hp; subst hq; exact h
      | succ i => simp at hp hq; exact ih.2 i p q hp hq⟩
theorem WkL.aggd {l l' : List PV} (h : WkL l l') : Wk (.agg l) (.agg l') := .agg l l' h.at_.1 h.at_.2
theorem WkL.rep {Z : Cells} {μ : Mu} {l l' : List PV} (h : WkL l l') {vs : List Value} (k : RepL Z μ l vs) : RepL Z μ l' vs := by
  obtain ⟨hl, hw⟩ := h.at_
  refine ⟨k.1.trans hl, fun i q v hq hv => ?_⟩
  have hi := (List.getElem?_eq_some_iff.1 hq).1
  have hi2 : i < l.length := by omega
  exact (hw i _ q (List.getElem?_eq_getElem hi2) hq).rep (k.2 i _ v (List.getElem?_eq_getElem hi2) hv)
mutual
theorem toks_free : ∀ (p : PV), free p = true → toks p = []
  | .lit _, _ => rfl
  | .sl _ _ none, _ => rfl
  | .sl _ _ (some _), h => by simp [free] at h
  | .agg l, h => by simp only [toks]; exact toksL_free l (by simpa [free] using h)
  | .tup l, h => by simp only [toks]; exact toksL_free l (by simpa [free] using h)
  | .rp _, _ => rfl
  | .bx _ _, _ => rfl
  | .bs _ _ _ _, _ => rfl
  | .fn _ _, _ => rfl
  | .junk, _ => rfl
  | .may _ _ _, _ => rfl
theorem toksL_free : ∀ (l : List PV), freeL l = true → toks.toksL l = []
  | [], _ => rfl
  | p :: r, h => by
    simp only [freeL, Bool.and_eq_true] at h
    simp only [toks.toksL, toks_free p h.1, toksL_free r h.2, List.append_nil]
end
theorem WkL.tupd {l l' : List PV} (h : WkL l l') : Wk (.tup l) (.tup l') := .tup l l' h.at_.1 h.at_.2
theorem wkrow {sz : Nat} {es es' : List (List PV)} {t : Option Nat} (h : es = es') : Wk (.sl sz es t) (.sl sz es' none) := by subst h; exact .row _ _ _
theorem Spec.weak {P : Program} {f : FuncId} {args : List PV} {F G : PV → Prop} (h : Spec P f args F) (k : ∀ p, F p → ∃ q, G q ∧ Wk p q ∧ free q = true) : Spec P f args G := ⟨h.ent, fun W Z μ vs h1 h2 =>
  (h.run W Z μ vs h1 h2).mono fun e W' ⟨v, e1, ⟨p, Z', μ', h3, r, hg, hs, hb, hh⟩⟩ => by
    obtain ⟨q, hq, hw, hf⟩ := k p h3
    refine ⟨v, e1, ⟨q, Z', Mu.emp, hq, (hw.rep r).drop hf, hg, hs, hb, ?_⟩⟩
    rw [toks_free q hf]
    exact ⟨fun i t cs e => (by cases e), fun t sz n e => (by cases e), fun i j x y g e => (by cases e), fun t u sz n sz' n' v v' g e => (by cases e), fun i g e => (by cases e), fun t n v e => (by cases e), fun t n v sz m e => (by cases e), fun i t x sz n v g e => (by cases e)⟩⟩
def evs (S : PS) : List Operand → Option (List PV)
  | [] => some []
  | x :: r => match S.ev x with
    | some p => match evs S r with
      | some l => some (p :: l)
      | none => none
    | none => none
theorem evs_rep {cx : Cx} {S : PS} {a : Act} {W : World} {Z : Cells} {μ : Mu} (hz : RZ cx S a W Z μ) : ∀ {xs : List Operand} {ps : List PV}, evs S xs = some ps → RepL Z μ ps (xs.map a.eval)
  | [], ps, h => by simp only [evs, Option.some.injEq] at h; subst h; exact ⟨rfl, fun i p v h => by simp at h⟩
  | x :: r, ps, h => by
    simp only [evs] at h
    split at h
    · rename_i p hp
      split at h
      · rename_i l hl
        cases h
        obtain ⟨e1, e2⟩ := evs_rep hz hl
        refine ⟨by simp [e1], fun i q v hq hv => ?_⟩
        cases i with
        | zero => simp at hq hv; subst hq; subst hv; exact hz.ev hp
        | succ i => simp only [List.getElem?_cons_succ, List.map_cons] at hq hv; exact e2 i q v hq hv
      · cases h
    · cases h
def fresh (l : List (Nat × (Nat × Nat))) : List (Nat × (Nat × Nat)) → Bool
  | [] => true
  | x :: r => (match lk l x.1 with | none => true | some _ => false) && fresh l r
theorem lk_append {α : Type} : ∀ (l r : List (Nat × α)) (t : Nat), lk (l ++ r) t = match lk l t with | some x => some x | none => lk r t
  | [], r, t => rfl
  | (k, x) :: l, r, t => by
    rw [List.cons_append, lk_cons, lk_cons, lk_append l r t]
    by_cases h : k = t
    · rw [if_pos h, if_pos h]
    · rw [if_neg h, if_neg h]
theorem fresh_lk {l : List (Nat × (Nat × Nat))} : ∀ {r : List (Nat × (Nat × Nat))}, fresh l r = true → ∀ t, lk r t ≠ none → lk l t = none
  | [], _, t, h => absurd rfl h
  | (k, x) :: r, hf, t, h => by
    simp only [fresh, Bool.and_eq_true] at hf
    rw [lk_cons] at h
    by_cases e : k = t
    · subst e
      cases hl : lk l k with
      | none => rfl
      | some y => rw [hl] at hf; simp at hf
    · rw [if_neg e] at h; exact fresh_lk hf.2 t h
/-- What a call leaves is added to what the caller has. -/
theorem RZ.join {cx : Cx} {S : PS} {a : Act} {W W' : World} {Z Z' : Cells} {μ μ' : Mu} (hz : RZ cx S a W Z μ) {T : List (Nat × (Nat × Nat))} {p : PV} {v : Value} (hr : Rep Z' μ' p v) (hg : Grow Z Z' W.heap.size) (hs : Sub Z' W') (hb : Below W.heap.size W W') (hh : RepH W.heap.size Z' μ' ⟨[], T⟩ W') (hf : fresh S.h.tk T = true) :
    ∃ μ2, RZ cx ⟨S.env, ⟨S.h.bx, T ++ S.h.tk⟩⟩ a W' Z' μ2 ∧ Rep Z' μ2 p v := by
  have hfr := fresh_lk hf
  have hbn : ∀ i, μ'.bx i = none := fun i => by
    cases e : μ'.bx i with
    | none => rfl
    | some g => exact absurd rfl (hh.bd i g e)
  let μ2 : Mu := ⟨μ.bx, fun t n => match lk T t with | some _ => μ'.tk t n | none => μ.tk t n⟩
  have h2T : ∀ t n, lk T t ≠ none → μ2.tk t n = μ'.tk t n := fun t n h => by
    show (match lk T t with | some _ => μ'.tk t n | none => μ.tk t n) = _
    cases e : lk T t with
    | none => exact absurd e h
    | some x => rfl
  have h2S : ∀ t n, lk T t = none → μ2.tk t n = μ.tk t n := fun t n h => by
    show (match lk T t with | some _ => μ'.tk t n | none => μ.tk t n) = _
    rw [h]
  have hle : μ.le μ2 := ⟨fun _ _ e => e, fun t n x e => by
    cases hT : lk T t with
    | none => rw [h2S t n hT]; exact e
    | some y =>
      have := hz.h.tkFree (hfr t (by rw [hT]; exact fun h => by cases h)) n
      rw [this] at e; cases e⟩
  have hle' : μ'.le μ2 := ⟨fun i g e => (by rw [hbn] at e; cases e), fun t n x e => (by rw [h2T t n (hh.td t n x e)]; exact e)⟩
  have hz1 : RZ cx S a W' Z' μ := hz.grow hb hg.1 hg.2 hs
  have hlkT : ∀ t, lk T t ≠ none → lk (T ++ S.h.tk) t = lk T t := fun t h => by
    rw [lk_append]
    cases e : lk T t with
    | none => exact absurd e h
    | some x => rfl
  have hlkS : ∀ t, lk T t = none → lk (T ++ S.h.tk) t = lk S.h.tk t := fun t h => by rw [lk_append, h]
  have spl : ∀ t x, lk (T ++ S.h.tk) t = some x → (lk T t = some x) ∨ (lk T t = none ∧ lk S.h.tk t = some x) := fun t x e => by
    rw [lk_append] at e
    cases h : lk T t with
    | none => rw [h] at e; exact .inr ⟨rfl, e⟩
    | some y => rw [h] at e; exact .inl e
  have hltS : ∀ t sz n v g, lk S.h.tk t = some (sz, n) → μ.tk t n = some v → v.ownBlock = some g → g < W.heap.size := fun t sz n v g h1 h2 h3 => by
    obtain ⟨x, hx, hb⟩ := hz.h.tk t sz n h1
    rw [h2] at hx; cases hx
    exact (hb.lt h3).1
  have hltT : ∀ t sz n v g, lk T t = some (sz, n) → μ'.tk t n = some v → v.ownBlock = some g → W.heap.size ≤ g := fun t sz n v g h1 h2 h3 => by
    obtain ⟨x, hx, hb⟩ := hh.tk t sz n h1
    rw [h2] at hx; cases hx
    exact (hb.lt h3).2
  have ne : ∀ {t} {x : Nat × Nat}, lk T t = some x → lk T t ≠ none := fun h e => by rw [h] at e; cases e
  refine ⟨μ2, ⟨hz1.env.mono (Cells.le_refl _) hle, ⟨fun i t cs e => ?_, fun t sz n e => ?_, hz1.h.bb, fun t u sz n sz' n' v1 v2 g h1 h2 h3 h4 => ?_, hz1.h.bd, fun t n x e => ?_, fun t n x sz m e e2 => ?_, fun i t x sz n v1 g h1 h2 h3 h4 => ?_⟩, hz1.sub, hz1.le, hz1.below⟩, hr.mono (Cells.le_refl _) hle'⟩
  · obtain ⟨g, hg2, hx⟩ := hz1.h.bx i t cs e
    refine ⟨g, hg2, hx.move rfl (Cells.le_refl _) hle ?_⟩
    obtain ⟨_, _, _, _, _, _, h2⟩ := hx; exact h2
  · rcases spl t _ e with h | ⟨h0, h⟩
    · obtain ⟨x, hx, hb2⟩ := hh.tk t sz n h
      refine ⟨x, (h2T t n (ne h)).trans hx, ?_⟩
      rcases hb2 with hb2 | ⟨g, cap, cur, e2, a1, a2, a3, a4, a5, a6, a7⟩
      · exact .inl hb2
      · exact .inr ⟨g, cap, cur, e2, a1, a2, a3, a4, a5, Nat.le_trans hz.below.size a6, a7⟩
    · obtain ⟨x, hx, hb2⟩ := hz1.h.tk t sz n h
      exact ⟨x, (h2S t n h0).trans hx, hb2⟩
  · rcases spl t _ h1 with k1 | ⟨k0, k1⟩ <;> rcases spl u _ h2 with l1 | ⟨l0, l1⟩
    · rw [h2T t n (ne k1)] at h3; rw [h2T u n' (ne l1)] at h4; exact hh.tt t u _ _ _ _ _ _ g k1 l1 h3 h4
    · rw [h2T t n (ne k1)] at h3; rw [h2S u n' l0] at h4
      exact fun a b => absurd (hltS u _ _ _ g l1 h4 b) (Nat.not_lt.2 (hltT t _ _ _ g k1 h3 a))
    · rw [h2S t n k0] at h3; rw [h2T u n' (ne l1)] at h4
      exact fun a b => absurd (hltS t _ _ _ g k1 h3 a) (Nat.not_lt.2 (hltT u _ _ _ g l1 h4 b))
    · rw [h2S t n k0] at h3; rw [h2S u n' l0] at h4; exact hz1.h.tt t u _ _ _ _ _ _ g k1 l1 h3 h4
  · show lk (T ++ S.h.tk) t ≠ none
    cases hT : lk T t with
    | none => rw [hlkS t hT]; rw [h2S t n hT] at e; exact hz1.h.td t n x e
    | some y => rw [hlkT t (ne hT), hT]; exact fun h => by cases h
  · rcases spl t _ e2 with h | ⟨h0, h⟩
    · rw [h2T t n (ne h)] at e; exact hh.tm t n x sz m e h
    · rw [h2S t n h0] at e; exact hz1.h.tm t n x sz m e h
  · rcases spl t _ h2 with l1 | ⟨l0, l1⟩
    · rw [h2T t n (ne l1)] at h4
      intro hc
      obtain ⟨g', hg', hb2⟩ := hz.h.bx i x.1 x.2 h1
      rw [h3] at hg'; cases hg'
      exact absurd hb2.lt (Nat.not_lt.2 (hltT t _ _ _ g l1 h4 hc))
    · rw [h2S t n l0] at h4; exact hz1.h.bt i t x _ _ _ g h1 l1 h3 h4
section
variable {cx : Cx} {S : PS} {o : Oper} {ops : Array Oper} {rest : List Oper} {Q : Post}
theorem PL.call {fo : Operand} {f : Nat} {caps ps qs : List PV} {xs : Array Operand} {ts : Array TypeId} {F : PV → Prop} (ho : o.op = .call { callee := .value fo, args := xs, argTypes := ts }) (hfo : S.ev fo = some (.fn f caps)) (hps : evs S xs.toList = some ps) (h : Spec cx.P f qs F) (hw2 : WkL (ps ++ caps) qs)
    (hfr : ∀ p, F p → fresh S.h.tk (toks p) = true) (hw : Wants cx ops o S true) (hn : dstOk cx.n o.dst = true)
    (k : ∀ p, F p → PL cx ops Q rest (PS.put ⟨S.env, ⟨S.h.bx, toks p ++ S.h.tk⟩⟩ o.dst p)) : PL cx ops Q (o :: rest) S :=
  PL.cons hw (K := fun S' => ∃ p, F p ∧ S' = PS.put ⟨S.env, ⟨S.h.bx, toks p ++ S.h.tk⟩⟩ o.dst p) (fun a W hR K' Q' hK => by
    obtain ⟨Z, μ, hz⟩ := hR
    have hf := hz.ev hfo
    generalize hv : a.eval fo = v at hf
    cases hf with
    | fn _ _ _ cs hl hc =>
      have hargs := evs_rep hz hps
      have hall : RepL Z μ (ps ++ caps) (xs.toList.map a.eval ++ cs) := ⟨by rw [List.length_append, List.length_append, hargs.1, hl], fun i p v hp hv => by
        have hlen : (xs.toList.map a.eval).length = ps.length := hargs.1
        by_cases hi : i < ps.length
        · rw [List.getElem?_append_left hi] at hp
          rw [List.getElem?_append_left (by omega)] at hv
          exact hargs.2 i p v hp hv
        · rw [List.getElem?_append_right (by omega)] at hp
          rw [List.getElem?_append_right (by omega), hlen] at hv
          exact hc _ p v hp hv⟩
      have hcall := h.run W Z μ _ hz.sub (hw2.rep hall)
      show o.upon cx.P a K' Q' _
      have hrun : (execOp a.eval o).run cx.P W = .ok (.enter f (xs.toList.map a.eval ++ cs).toArray) W := by
        simp only [execOp, ho]
        simp [resolve, hv, Deferred.ofValue, invoke]
        have := h.ent (xs.map a.eval ++ cs.toArray) W
        rw [this]
        congr 2
        apply Array.ext'
        simp
      rw [hrun, Oper.upon_enter]
      refine hcall.mono fun e W' ⟨v, e1, ⟨p, Z', μ', hF, hr, hg, hs, hb, hh⟩⟩ => ?_
      subst e1
      obtain ⟨μ2, h1, h2⟩ := hz.join hr hg hs hb hh (hfr p hF)
      exact hK _ _ _ ⟨p, hF, rfl⟩ ⟨Z', μ2, h1.put hn h2⟩) fun S' ⟨p, hF, e⟩ => by subst e; exact k p hF
end

/-! The end of a call. -/
/-- Which row of the call's own a row of the result is: its name in the contract, what it holds, its name here (nil has none). -/
abbrev Rows' := List (Nat × ((Nat × Nat) × Option Nat))
/-- What a result is in the end, by its own names and by the contract's. -/
inductive F1 (S : PS) : PV → PV → Rows' → Prop
  | same (p : PV) (hf : free p = true) : F1 S p p []
  | ro (sz : Nat) (es : List (List PV)) (t : Option Nat) : F1 S (.sl sz es t) (.sl sz es none) []
  | nil0 (sz : Nat) : F1 S (.lit (.slice none 0 0)) (.sl sz [] none) []
  | row (sz : Nat) (es : List (List PV)) (t τ : Nat) (h : lk S.h.tk t = some (sz, es.length)) : F1 S (.sl sz es (some t)) (.sl sz es (some τ)) [(τ, ((sz, es.length), some t))]
  | nil (sz τ : Nat) : F1 S (.lit (.slice none 0 0)) (.sl sz [] (some τ)) [(τ, ((sz, 0), none))]
inductive F1L (S : PS) : List PV → List PV → Rows' → Prop
  | nil : F1L S [] [] []
  | cons {p q : PV} {l l' : List PV} {L L' : Rows'} (h : F1 S p q L) (r : F1L S l l' L') : F1L S (p :: l) (q :: l') (L ++ L')
inductive F2 (S : PS) : PV → PV → Rows' → Prop
  | leaf {p q : PV} {L : Rows'} (h : F1 S p q L) : F2 S p q L
  | agg {l l' : List PV} {L : Rows'} (h : F1L S l l' L) : F2 S (.agg l) (.agg l') L
inductive F2L (S : PS) : List PV → List PV → Rows' → Prop
  | nil : F2L S [] [] []
  | cons {p q : PV} {l l' : List PV} {L L' : Rows'} (h : F2 S p q L) (r : F2L S l l' L') : F2L S (p :: l) (q :: l') (L ++ L')
inductive F3 (S : PS) : PV → PV → Rows' → Prop
  | one {p q : PV} {L : Rows'} (h : F2 S p q L) : F3 S p q L
  | tup {l l' : List PV} {L : Rows'} (h : F2L S l l' L) : F3 S (.tup l) (.tup l') L
def tkOf (L : Rows') : List (Nat × (Nat × Nat)) := L.map fun x => (x.1, x.2.1)
theorem F1.toks {S : PS} {p q : PV} {L : Rows'} (h : F1 S p q L) : Pw.toks q = tkOf L := by
  cases h with
  | same _ hf => rw [toks_free _ hf]; rfl
  | ro => rfl
  | nil0 => rfl
  | row => rfl
  | nil => rfl
theorem F1L.toks {S : PS} {l l' : List PV} {L : Rows'} (h : F1L S l l' L) : Pw.toks.toksL l' = tkOf L := by
  induction h with
  | nil => rfl
  | cons h _ ih => simp only [Pw.toks.toksL, h.toks, ih, tkOf, List.map_append]
theorem F2.toks {S : PS} {p q : PV} {L : Rows'} (h : F2 S p q L) : Pw.toks q = tkOf L := by
  cases h with
  | leaf h => exact h.toks
  | agg h => simp only [Pw.toks]; exact h.toks
theorem F2L.toks {S : PS} {l l' : List PV} {L : Rows'} (h : F2L S l l' L) : Pw.toks.toksL l' = tkOf L := by
  induction h with
  | nil => rfl
  | cons h _ ih => simp only [Pw.toks.toksL, h.toks, ih, tkOf, List.map_append]
theorem F3.toks {S : PS} {p q : PV} {L : Rows'} (h : F3 S p q L) : Pw.toks q = tkOf L := by
  cases h with
  | one h => exact h.toks
  | tup h => simp only [Pw.toks]; exact h.toks
def muOf (μ : Mu) (L : Rows') : Mu := ⟨fun _ => none, fun τ n => match lk L τ with
  | some ((_, m), src) => if n = m then (match src with | some t => μ.tk t n | none => some (.slice none 0 0)) else none
  | none => none⟩
/-- The rows of a part are those of the whole. -/
def In (L A : Rows') : Prop := ∀ x ∈ L, lk A x.1 = some x.2
theorem Rep.ro {Z : Cells} {μ μ' : Mu} {sz : Nat} {es : List (List PV)} {t : Option Nat} {v : Value} (h : Rep Z μ (.sl sz es t) v) : Rep Z μ' (.sl sz es none) v := by
  cases h with
  | sl _ _ _ A c val hc hz hZ h1 h => exact .sl _ _ _ A c val hc hz hZ h1 h
  | own _ _ _ _ _ h _ => cases h with | sl _ _ _ A c val hc hz hZ h1 h => exact .sl _ _ _ A c val hc hz hZ h1 h
theorem F1.rep {S : PS} {Z : Cells} {μ : Mu} {A : Rows'} {p q : PV} {L : Rows'} (h : F1 S p q L) (hA : In L A) {v : Value} (hr : Rep Z μ p v) : Rep Z (muOf μ A) q v := by
  cases h with
  | same _ hf => exact (hr.drop hf).any
  | ro => exact hr.ro
  | nil0 sz => exact (hr.src (sz := sz) rfl).ro
  | row sz es t τ hl =>
    have hk := hA _ List.mem_cons_self
    have ht : μ.tk t es.length = some v := by cases hr with | own _ _ _ _ _ _ ht => exact ht
    refine .own _ _ _ _ _ hr.ro ?_
    simp only [muOf]
    rw [hk]
    simp [ht]
  | nil sz τ =>
    have hk := hA _ List.mem_cons_self
    have hv := hr.lit_inv
    refine .own _ _ _ _ _ ((hr.src (sz := sz) rfl).ro) ?_
    simp only [muOf]
    rw [hk, hv]
    simp
theorem In.left {L L' A : Rows'} (h : In (L ++ L') A) : In L A := fun x hx => h x (List.mem_append_left _ hx)
theorem In.right {L L' A : Rows'} (h : In (L ++ L') A) : In L' A := fun x hx => h x (List.mem_append_right _ hx)
theorem F1L.rep {S : PS} {Z : Cells} {μ : Mu} {A : Rows'} {l l' : List PV} {L : Rows'} (h : F1L S l l' L) : In L A → l.length = l'.length ∧ ∀ (i : Nat) (p q : PV) (v : Value), l[i]? = some p → l'[i]? = some q → Rep Z μ p v → Rep Z (muOf μ A) q v := by
  induction h with
  | nil => exact fun _ => ⟨rfl, fun i p q v h => by simp at h⟩
  | cons h _ ih =>
    intro hA
    obtain ⟨h1, h2⟩ := ih hA.right
    exact ⟨by simp [h1], fun i p q v hp hq hr => by
      cases i with
      | zero => simp at hp hq; subst hp; subst hq; exact h.rep hA.left hr
      | succ i => simp at hp hq; exact h2 i p q v hp hq hr⟩
theorem F2.rep {S : PS} {Z : Cells} {μ : Mu} {A : Rows'} {p q : PV} {L : Rows'} (h : F2 S p q L) (hA : In L A) {v : Value} (hr : Rep Z μ p v) : Rep Z (muOf μ A) q v := by
  cases h with
  | leaf h => exact h.rep hA hr
  | agg h =>
    obtain ⟨e, k⟩ := h.rep (Z := Z) (μ := μ) hA
    cases hr with
    | agg _ _ cs hl h1 hc => exact .agg _ _ cs (by omega) h1 (fun i q v hq hv => by
        have hi := (List.getElem?_eq_some_iff.1 hq).1
        exact k i _ q v (List.getElem?_eq_getElem (by omega)) hq (hc i _ v (List.getElem?_eq_getElem (by omega)) hv))
theorem F2L.rep {S : PS} {Z : Cells} {μ : Mu} {A : Rows'} {l l' : List PV} {L : Rows'} (h : F2L S l l' L) : In L A → l.length = l'.length ∧ ∀ (i : Nat) (p q : PV) (v : Value), l[i]? = some p → l'[i]? = some q → Rep Z μ p v → Rep Z (muOf μ A) q v := by
  induction h with
  | nil => exact fun _ => ⟨rfl, fun i p q v h => by simp at h⟩
  | cons h _ ih =>
    intro hA
    obtain ⟨h1, h2⟩ := ih hA.right
    exact ⟨by simp [h1], fun i p q v hp hq hr => by
      cases i with
      | zero => simp at hp hq; subst hp; subst hq; exact h.rep hA.left hr
      | succ i => simp at hp hq; exact h2 i p q v hp hq hr⟩
theorem F3.rep {S : PS} {Z : Cells} {μ : Mu} {A : Rows'} {p q : PV} {L : Rows'} (h : F3 S p q L) (hA : In L A) {v : Value} (hr : Rep Z μ p v) : Rep Z (muOf μ A) q v := by
  cases h with
  | one h => exact h.rep hA hr
  | tup h =>
    obtain ⟨e, k⟩ := h.rep (Z := Z) (μ := μ) hA
    cases hr with
    | tup _ _ cs hl hc => exact .tup _ _ cs (by omega) (fun i q v hq hv => by
        have hi := (List.getElem?_eq_some_iff.1 hq).1
        exact k i _ q v (List.getElem?_eq_getElem (by omega)) hq (hc i _ v (List.getElem?_eq_getElem (by omega)) hv))
/-- Every row of the list is one that the call has. -/
def Has (S : PS) (L : Rows') : Prop := ∀ x ∈ L, match x.2.2 with | some t => lk S.h.tk t = some x.2.1 | none => x.2.1.2 = 0
theorem F1.has {S : PS} {p q : PV} {L : Rows'} (h : F1 S p q L) : Has S L := by
  cases h with
  | same => exact fun x h => by cases h
  | ro => exact fun x h => by cases h
  | nil0 => exact fun x h => by cases h
  | row sz es t τ hl => exact fun x h => by rw [List.mem_singleton] at h; subst h; exact hl
  | nil => exact fun x h => by rw [List.mem_singleton] at h; subst h; rfl
theorem Has.append {S : PS} {L L' : Rows'} (h : Has S L) (k : Has S L') : Has S (L ++ L') := fun x hx => (List.mem_append.1 hx).elim (h x) (k x)
theorem F1L.has {S : PS} {l l' : List PV} {L : Rows'} (h : F1L S l l' L) : Has S L := by
  induction h with
  | nil => exact fun x h => by cases h
  | cons h _ ih => exact h.has.append ih
theorem F2.has {S : PS} {p q : PV} {L : Rows'} (h : F2 S p q L) : Has S L := by cases h with | leaf h => exact h.has | agg h => exact h.has
theorem F2L.has {S : PS} {l l' : List PV} {L : Rows'} (h : F2L S l l' L) : Has S L := by
  induction h with
  | nil => exact fun x h => by cases h
  | cons h _ ih => exact h.has.append ih
theorem F3.has {S : PS} {p q : PV} {L : Rows'} (h : F3 S p q L) : Has S L := by cases h with | one h => exact h.has | tup h => exact h.has
theorem lk_of_mem {α : Type} : ∀ {l : List (Nat × α)}, (l.map (·.1)).Nodup → ∀ x ∈ l, lk l x.1 = some x.2
  | [], _, _, h => by cases h
  | y :: r, hn, x, h => by
    rw [List.map_cons, List.nodup_cons] at hn
    obtain ⟨k, z⟩ := y
    rw [lk_cons]
    rcases List.mem_cons.1 h with rfl | h
    · rw [if_pos rfl]
    · rw [if_neg (fun e => hn.1 (List.mem_map.2 ⟨x, h, e.symm⟩)), lk_of_mem hn.2 x h]
theorem lk_tkOf : ∀ (L : Rows') (t : Nat), lk (tkOf L) t = (lk L t).map (·.1)
  | [], _ => rfl
  | (k, x) :: r, t => by
    show lk ((k, x.1) :: tkOf r) t = _
    rw [lk_cons, lk_cons]
    by_cases h : k = t
    · rw [if_pos h, if_pos h]; rfl
    · rw [if_neg h, if_neg h, lk_tkOf r t]
theorem RepH.fin {base : Nat} {Z : Cells} {μ : Mu} {S : PS} {W : World} (H : RepH base Z μ S.h W) {L : Rows'} (hn : (L.map (·.1)).Nodup) (hs : (L.filterMap (·.2.2)).Nodup) (hh : Has S L) : RepH base Z (muOf μ L) ⟨[], tkOf L⟩ W := by
  have src : ∀ {τ sz n}, lk (tkOf L) τ = some (sz, n) → ∃ s, lk L τ = some ((sz, n), s) ∧ (τ, ((sz, n), s)) ∈ L ∧ ∃ v, (muOf μ L).tk τ n = some v ∧ TkOk base Z W sz n v ∧ (∀ g, v.ownBlock = some g → ∃ t, s = some t ∧ lk S.h.tk t = some (sz, n) ∧ μ.tk t n = some v) := fun {τ sz n} e => by
    rw [lk_tkOf] at e
    cases hl : lk L τ with
    | none => rw [hl] at e; cases e
    | some y =>
      rw [hl] at e
      obtain ⟨y1, s⟩ := y
      cases e
      have hmem := lk_mem hl
      have hx := hh _ hmem
      refine ⟨s, rfl, hmem, ?_⟩
      cases s with
      | none =>
        have hx : n = 0 := hx
        subst hx
        exact ⟨.slice none 0 0, by simp only [muOf]; rw [hl]; simp, .inl ⟨rfl, rfl⟩, fun g h => by simp [Value.ownBlock] at h⟩
      | some t =>
        have hx : lk S.h.tk t = some (sz, n) := hx
        obtain ⟨v, hv, hb⟩ := H.tk t sz n hx
        exact ⟨v, by simp only [muOf]; rw [hl]; simp [hv], hb, fun g _ => ⟨t, rfl, hx, hv⟩⟩
  refine ⟨fun i t cs e => (by cases e), fun τ sz n e => ?_, fun i j x y g h => (by cases h), fun τ u sz n sz' n' v v' g h1 h2 h3 h4 h5 h6 => ?_, fun i g h => (by cases h), fun τ n v e => ?_, fun τ n v sz m e e2 => ?_, fun i τ x sz n v g h => (by cases h)⟩
  · obtain ⟨s, _, _, v, hv, hb, _⟩ := src e; exact ⟨v, hv, hb⟩
  · obtain ⟨s1, _, m1, v1, e1, _, k1⟩ := src h1
    obtain ⟨s2, _, m2, v2, e2, _, k2⟩ := src h2
    rw [h3] at e1; cases e1
    rw [h4] at e2; cases e2
    obtain ⟨t1, rfl, a1, b1⟩ := k1 g h5
    obtain ⟨t2, rfl, a2, b2⟩ := k2 g h6
    have htt := H.tt t1 t2 _ _ _ _ _ _ g a1 a2 b1 b2 h5 h6
    subst htt
    exact uniq L hs _ _ _ _ m1 m2
  · rw [lk_tkOf]
    cases hl : lk L τ with
    | none => simp only [muOf] at e; rw [hl] at e; cases e
    | some y => exact fun h => by cases h
  · obtain ⟨s, hl, _⟩ := src e2
    simp only [muOf] at e
    rw [hl] at e
    simp only at e
    split at e
    · omega
    · cases e
where
  uniq : ∀ (L : Rows'), (L.filterMap (·.2.2)).Nodup → ∀ (τ u : Nat) (x y : Nat × Nat) {t : Nat}, (τ, (x, some t)) ∈ L → (u, (y, some t)) ∈ L → τ = u
    | [], _, _, _, _, _, _, h, _ => by cases h
    | z :: r, hn, τ, u, x, y, t, h1, h2 => by
      rcases List.mem_cons.1 h1 with rfl | h1'
      · rcases List.mem_cons.1 h2 with h2 | h2
        · cases h2; rfl
        · rw [List.filterMap_cons] at hn
          have hn := List.nodup_cons.1 hn
          exact (hn.1 (List.mem_filterMap.2 ⟨(u, (y, some t)), h2, rfl⟩)).elim
      · rcases List.mem_cons.1 h2 with rfl | h2
        · rw [List.filterMap_cons] at hn
          have hn := List.nodup_cons.1 hn
          exact (hn.1 (List.mem_filterMap.2 ⟨(τ, (x, some t)), h1', rfl⟩)).elim
        · refine uniq r ?_ τ u x y h1' h2
          rw [List.filterMap_cons] at hn
          split at hn
          · exact hn
          · exact (List.nodup_cons.1 hn).2
def resv {P : Program} [TC P] (S : PS) : ResultVar → Option PV
  | .tmp t => may1 (lk S.env t)
  | .cell a ty => match may1 (lk S.env a), lk (TC.T P) ty with
    | some (.bx id off), some i => match lk S.h.bx id with
      | some x => packed i.agg i.sz (x.2.drop off)
      | none => none
    | _, _ => none
def resvs {P : Program} [TC P] (S : PS) : List ResultVar → Option (List PV)
  | [] => some []
  | r :: rs => match resv (P := P) S r with
    | some p => match resvs (P := P) S rs with
      | some l => some (p :: l)
      | none => none
    | none => none
def resOf {P : Program} [TC P] (S : PS) (rs : List ResultVar) : Option PV :=
  match resvs (P := P) S rs with
  | some [p] => some p
  | some l => some (.tup l)
  | none => none
structure RetOk (P : Program) [TC P] (rs : List ResultVar) (F : PV → Prop) (S : PS) : Prop where
  out : ∃ q p L, resOf (P := P) S rs = some q ∧ F3 S q p L ∧ (L.map (·.1)).Nodup ∧ (L.filterMap (·.2.2)).Nodup ∧ F p
def RetQ (P : Program) [TC P] (rs : List ResultVar) (F : PV → Prop) : Post
  | .normal, S => RetOk P rs F S
  | .ret, S => RetOk P rs F S
  | _, _ => False
theorem resv_run {cx : Cx} [TC cx.P] {S : PS} {a : Act} {W : World} {Z : Cells} {μ : Mu} (hz : RZ cx S a W Z μ) {r : ResultVar} {p : PV} (h : resv (P := cx.P) S r = some p) : ∃ v, (match r with | .tmp t => (pure (a.tmps.getD t undef) : Sem Value) | .cell x t => do loadVar t (← asAddr (a.tmps.getD x undef))).run cx.P W = .ok v W ∧ Rep Z μ p v := by
  cases r with
  | tmp t =>
    obtain ⟨v, hv, hr⟩ := hz.env.may1 h
    exact ⟨v, by simp [hv], hr⟩
  | cell x ty =>
    simp only [resv] at h
    split at h
    · rename_i id off i h1 h2
      split at h
      · rename_i y h3
        obtain ⟨v, hv, hr⟩ := hz.env.may1 h1
        have hl := OpV.loadB (cx := cx) (S := S) (o := { dst := none, op := .load ty (.tmp x), type := 0, pos := "", after := #[], guard := none }) (x := .tmp x) (t := ty) (cs := y.2) rfl h1 h3 h2 h a W Z μ hz
        obtain ⟨u, hu, hq⟩ := hl
        have he : a.eval (.tmp x) = v := by simp [Act.eval, hv]
        cases hr with
        | bx _ _ _ g hg =>
          refine ⟨u, ?_, hq⟩
          simp only [execOp, he, Instr.loadAt, Instr.sureAddr, Sem.run_bind, Sem.run_pure, Result.andThen_ok] at hu
          have : a.tmps.getD x undef = .pointer (some ⟨g, off, none⟩) := by simp [hv]
          simp only [this, asAddr, Sem.run_bind, Sem.run_pure, Result.andThen_ok]
          cases hl2 : (loadVar ty ⟨g, off, none⟩).run cx.P W with
          | ok u' w' => rw [hl2] at hu; simp at hu; rw [hu.1, hu.2]
          | halt e w' => rw [hl2] at hu; simp [Result.andThen] at hu
      · cases h
    · cases h
theorem results_run {cx : Cx} [TC cx.P] {S : PS} {a : Act} {W : World} {Z : Cells} {μ : Mu} (hz : RZ cx S a W Z μ) {fn : Func} {rs : List ResultVar} (hrs : fn.results.toList = rs) {q : PV} (h : resOf (P := cx.P) S rs = some q) : ∃ v, (results fn a.tmps).run cx.P W = .ok v W ∧ Rep Z μ q v := by
  have key : ∀ (rs : List ResultVar) (ps : List PV), resvs (P := cx.P) S rs = some ps → ∃ vs : List Value, vs.length = ps.length ∧ (∀ (i : Nat) (p : PV) (v : Value), ps[i]? = some p → vs[i]? = some v → Rep Z μ p v) ∧
      (rs.mapM (fun (r : ResultVar) => (match r with | .tmp t => (pure (a.tmps.getD t undef) : Sem Value) | .cell x t => do loadVar t (← asAddr (a.tmps.getD x undef))))).run cx.P W = .ok vs W := by
    intro rs
    induction rs with
    | nil =>
      intro ps h
      simp only [resvs, Option.some.injEq] at h
      subst h
      exact ⟨[], rfl, fun i p v h => by simp at h, by simp⟩
    | cons r rs ih =>
      intro ps h
      simp only [resvs] at h
      split at h
      · rename_i p hp
        split at h
        · rename_i l hl
          cases h
          obtain ⟨v, hv, hr⟩ := resv_run hz hp
          obtain ⟨vs, h1, h2, h3⟩ := ih l hl
          refine ⟨v :: vs, by simp [h1], fun i p v hp hv => ?_, ?_⟩
          · cases i with
            | zero => simp at hp hv; subst hp; subst hv; exact hr
            | succ i => simp at hp hv; exact h2 i p v hp hv
          · rw [List.mapM_cons, Sem.run_bind, hv]
            simp only [Result.andThen_ok, Sem.run_bind]
            rw [h3]
            simp
        · cases h
      · cases h
  have hrun : ∀ (ps : List PV), resvs (P := cx.P) S rs = some ps → ∃ vs : List Value, vs.length = ps.length ∧ (∀ (i : Nat) (p : PV) (v : Value), ps[i]? = some p → vs[i]? = some v → Rep Z μ p v) ∧
      (results fn a.tmps).run cx.P W = .ok (if h : vs.toArray.size = 1 then vs.toArray[0] else .tuple vs.toArray) W := fun ps hps => by
    obtain ⟨vs, h1, h2, h3⟩ := key rs ps hps
    refine ⟨vs, h1, h2, ?_⟩
    unfold results
    rw [Sem.run_bind, Array.mapM_eq_mapM_toList, Sem.run_map, hrs]
    refine Eq.trans (congrArg (fun r => Result.andThen (Result.andThen r _) _) h3) ?_
    rfl
  unfold resOf at h
  split at h
  · rename_i p hp
    cases h
    obtain ⟨vs, h1, h2, h3⟩ := hrun _ hp
    match vs, h1 with
    | [v], _ => exact ⟨v, by rw [h3]; rfl, h2 0 _ v rfl rfl⟩
  · rename_i l hne hl
    cases h
    obtain ⟨vs, h1, h2, h3⟩ := hrun _ hl
    refine ⟨.tuple vs.toArray, ?_, .tup _ _ vs h1.symm h2⟩
    rw [h3, dif_neg]
    intro e
    have hl : l.length = 1 := by rw [← h1]; simpa using e
    match l, hl with
    | [p], _ => exact hne p rfl
  · cases h
def numd : Nat → List PV → List (Nat × PV)
  | _, [] => []
  | k, p :: r => (k, p) :: numd (k + 1) r
theorem lk_numd : ∀ (l : List PV) (k t : Nat) (p : PV), lk (numd k l) t = some p → ∃ i, t = k + i ∧ l[i]? = some p
  | [], _, _, _, h => by cases h
  | q :: r, k, t, p, h => by
    simp only [numd] at h
    rw [lk_cons] at h
    by_cases e : k = t
    · rw [if_pos e] at h; cases h; exact ⟨0, e.symm, rfl⟩
    · rw [if_neg e] at h
      obtain ⟨i, h1, h2⟩ := lk_numd r (k + 1) t p h
      exact ⟨i + 1, by omega, h2⟩
theorem toks_of_ret {cx : Cx} [TC cx.P] {a : Act} {W : World} {Z : Cells} {μ : Mu} {S : PS} (hz : RZ cx S a W Z μ) {fn : Func} {rs : List ResultVar} (hrs : fn.results.toList = rs) {F : PV → Prop} (h : RetOk cx.P rs F S) : ∃ v, (results fn a.tmps).run cx.P W = .ok v W ∧ Done cx.w cx.Z F v W := by
  obtain ⟨q, p, L, h1, h2, h3, h4, h5⟩ := h.out
  obtain ⟨v, hv, hr⟩ := results_run hz hrs h1
  refine ⟨v, hv, ⟨p, Z, muOf μ L, h5, h2.rep (fun x hx => lk_of_mem h3 x hx) hr, hz.le, hz.sub, hz.below, ?_⟩⟩
  rw [h2.toks]
  exact hz.h.fin h3 h4 h2.has
/-- A function whose body is shown answers. -/
theorem spec_of {P : Program} [TC P] {f : FuncId} {fn : Func} {c : Code} {args : List PV} {F : PV → Prop} {n : Nat} {rs : List ResultVar} (he : Ent P f) (hf : P.funcs[f]? = some fn) (hb : fn.body = some c) (hn : fn.ntmps = n) (hl : args.length ≤ n) (hrs : fn.results.toList = rs) (hfr : freeL args = true)
    (h : ∀ W Z, PW ⟨P, W, Z, n⟩ c (RetQ P rs F) ⟨numd 0 args, PH.none⟩) : Spec P f args F := ⟨he, fun W Z μ vs hs hr => by
  have key : R ⟨P, W, Z, n⟩ ⟨numd 0 args, PH.none⟩ { tmps := vs.toArray ++ Array.replicate (fn.ntmps - vs.toArray.size) undef, defers := [] } W := by
    refine ⟨Z, Mu.emp, ⟨rfl, ?_, fun t p ht => ?_⟩, ⟨fun i t cs e => (by cases e), fun t sz n e => (by cases e), fun i j x y g e => (by cases e), fun t u sz n sz' n' v v' g e => (by cases e), fun i g e => (by cases e), fun t n v e => (by cases e), fun t n v sz m e => (by cases e), fun i t x sz n v g e => (by cases e)⟩, hs, Grow.refl _ _, Below.refl _ _⟩
    · simp only [Array.size_append, List.size_toArray, Array.size_replicate]
      have := hr.1; omega
    · obtain ⟨i, rfl, hi⟩ := lk_numd args 0 t p ht
      have hi2 := (List.getElem?_eq_some_iff.1 hi).1
      have hi3 : i < vs.length := by rw [hr.1]; exact hi2
      refine ⟨vs[i], ?_, (hr.2 i p _ hi (List.getElem?_eq_getElem hi3)).drop (freeL_mem hfr p (List.mem_of_getElem? hi))⟩
      rw [Nat.zero_add, Array.getElem?_append_left (by simpa using hi3)]
      simp
  refine calls_of_wp hf hb (wp_mono (h W Z _ _ key) fun e a W' hq => ?_)
  obtain ⟨S, ⟨Z', μ', hz⟩, hQ⟩ := hq
  have fin : RetOk P rs F S → a.defers = [] ∧ ∃ v, (results fn a.tmps).run P W' = .ok v W' ∧ ∃ v', Ending.returned v = .returned v' ∧ Done W Z F v' W' := fun k => by
    obtain ⟨v, h1, h2⟩ := toks_of_ret hz hrs k
    exact ⟨hz.env.df, v, h1, v, rfl, h2⟩
  cases e with
  | normal => exact fin hQ
  | ret => exact fin hQ
  | exit i => exact hQ.elim
  | goto l => exact hQ.elim
  | panic c => exact hQ.elim
  | outgrown => exact hQ.elim⟩
end Go.Pw
