/- The engine, twenty-fourth text: which box lies first; a call that is handed one box while another is kept. -/
import Derived.Test.YtkganhdglmbpoaaGreatPw23
set_option linter.unusedVariables false
set_option linter.unusedSimpArgs false
namespace Go.Pw
open Go Go.RowKit
/-- Which box lies behind which. -/
def ordE (tg i0 : Nat) (h' : PH) : List (Nat × PV) := match h'.bx with
  | [(id, _)] => [(tg, .ord i0 id)]
  | _ => []
theorem okB_one {Z Z' : Cells} {μ μ' : Mu} {i : Nat} {p : PV} {v : Value} (h : okB [i] p = true) (hr : Rep Z μ p v) (hz : Z.le Z') (hm : ∀ g, μ.bx i = some g → μ'.bx i = some g) : Rep Z' μ' p v := by
  have hc : ∀ {k : Nat}, [i].contains k = true → k = i := fun {k} hk => by simpa using hk
  cases p with
  | bx id off => cases hr with | bx _ _ _ g hg => have := hc h; subst this; exact .bx _ _ _ g (hm g hg)
  | bs id off n cap => cases hr with | bs _ _ _ _ _ g hg => have := hc h; subst this; exact .bs _ _ _ _ _ g (hm g hg)
  | ord a b =>
    cases hr with
    | ord _ _ _ gi gj _ hi hj hlt =>
      simp only [okB, Bool.and_eq_true] at h
      have h1 := hc h.1
      have h2 := hc h.2
      subst h1; subst h2
      rw [hi] at hj; cases hj
      exact absurd hlt (Nat.lt_irrefl _)
  | _ => exact ((hr.drop h).mono hz (Mu.le_refl _)).any
theorem KFB.at_ {B : List Nat} {S : PS} : ∀ {e : List (Nat × PV)}, KFB B S e → ∀ {t : Nat} {q : PV}, lk e t = some q → may1 (lk S.env t) = some q ∧ okB B q = true
  | [], _, _, _, h => by cases h
  | (u, p) :: r, h, t, q, hl => by
    rw [lk_cons] at hl
    split at hl
    · rename_i e; subst e; cases hl; exact h.1
    · exact KFB.at_ h.2 hl
section
variable {cx : Cx} {S : PS} {o : Oper} {ops : Array Oper} {rest : List Oper} {Q : Post}
/-- A call that is handed nothing and leaves one box, or none; the box lies behind box i0. -/
theorem PL.callB0o (tg i0 : Nat) {x0 : Nat × List PV} {fo : Operand} {f : Nat} {caps ps qs : List PV} {xs : Array Operand} {ts : Array TypeId} {F : PV → PH → Prop} (ho : o.op = .call { callee := .value fo, args := xs, argTypes := ts }) (hfo : S.ev fo = some (.fn f caps)) (hps : evs S xs.toList = some ps) (h : SpecB cx.P f qs PH.none F) (hw2 : WkL (ps ++ caps) qs) (hqf : freeL qs = true)
    (hF : ∀ p h', F p h' → (h' = PH.none ∧ plain p = true) ∨ ∃ id t cs off n cap, p = .bs id off n cap ∧ h' = ⟨[(id, (t, cs))], []⟩ ∧ lk S.h.bx id = none ∧ freeL cs = true) (hi0 : lk S.h.bx i0 = some x0) (hne : ∀ p h', F p h' → lk h'.bx i0 = none) (htg : dstOk cx.n (some tg) = true) (hw : Wants cx ops o S true) (hn : dstOk cx.n o.dst = true)
    (k : ∀ p h', F p h' → PL cx ops Q rest (PS.put ⟨ordE tg i0 h' ++ S.env, ⟨h'.bx ++ S.h.bx, S.h.tk⟩⟩ o.dst p)) : PL cx ops Q (o :: rest) S :=
  PL.cons hw (K := fun S' => ∃ p h', F p h' ∧ S' = PS.put ⟨ordE tg i0 h' ++ S.env, ⟨h'.bx ++ S.h.bx, S.h.tk⟩⟩ o.dst p) (fun a W hR K' Q' hK => by
    obtain ⟨Z, μ, hz⟩ := hR
    obtain ⟨vs, hall, hrun⟩ := call_args ho hfo hps h.ent hz
    have h0 : RepH W.heap.size Z Mu.emp PH.none W := ⟨fun i t cs e => (by cases e), fun t sz n e => (by cases e), fun i j x y g e => (by cases e), fun t u sz n sz' n' v v' g e => (by cases e), fun i g e => (by cases e), fun t n v e => (by cases e), fun t n v sz m e => (by cases e), fun i t x sz n v g e => (by cases e)⟩
    have hqs := hw2.rep hall
    have hqe : RepL Z Mu.emp qs vs := ⟨hqs.1, fun i p v hp hv => (hqs.2 i p v hp hv).drop (freeL_mem hqf p (List.mem_of_getElem? hp))⟩
    have hcall := h.run W W Z Mu.emp _ hz.sub hqe h0 (Below.refl _ _)
    show o.upon cx.P a K' Q' _
    rw [hrun, Oper.upon_enter]
    refine hcall.mono fun e W' ⟨v, e1, p, h', Z', μ', hFp, hr, hg, hs, hb, hh⟩ => ?_
    subst e1
    rcases hF p h' hFp with ⟨rfl, hpl⟩ | ⟨id, t, cs, off, n, cap, rfl, rfl, hid, hcs⟩
    · have hz' := hz.grow hb hg.1 hg.2 hs
      exact hK _ _ _ ⟨p, _, hFp, rfl⟩ ⟨Z', μ, RZ.put (S := ⟨S.env, ⟨[] ++ S.h.bx, S.h.tk⟩⟩) hz' hn (plain_any hpl hr)⟩
    · have hid0 : id ≠ i0 := fun e => by
        have := hne _ _ hFp
        rw [lk_cons, if_pos e] at this; cases this
      obtain ⟨g0, hg0, hb0⟩ := hz.h.bx i0 x0.1 x0.2 hi0
      have hlt0 := hb0.lt
      obtain ⟨g1, hg1, vs1, v1, v2, v3, v4, v5, v6⟩ := hh.bx id t cs (by rw [lk_cons, if_pos rfl])
      have hz1 := hz.grow hb hg.1 hg.2 hs
      have hle := Mu.setBx_le (g := g1) (hz1.h.bxFree hid)
      cases hr with
      | bs _ _ _ _ _ g' hg' =>
        rw [hg1] at hg'; cases hg'
        have hH := hz1.h.addBx (cs := cs) (t := t) (g := g1) hid ⟨vs1, v1, v2, v3, fun i p u hp hu => ((v4 i p u hp hu).drop (freeL_mem hcs p (List.mem_of_getElem? hp))).any, Nat.le_trans hz.below.size v5, v6⟩ (fun i x e he => by
            obtain ⟨g2, hg2, hb2⟩ := hz.h.bx i x.1 x.2 e
            rw [he] at hg2; cases hg2
            have := hb2.lt; omega) (fun u sz m w e he hv => by
            obtain ⟨w', hw', hb2⟩ := hz.h.tk u sz m e
            rw [he] at hw'; cases hw'
            have := (hb2.lt hv).1; omega)
        refine hK _ _ _ ⟨_, _, hFp, rfl⟩ ⟨Z', μ.setBx id g1, RZ.put (S := ⟨ordE tg i0 ⟨[(id, (t, cs))], []⟩ ++ S.env, ⟨(id, (t, cs)) :: S.h.bx, S.h.tk⟩⟩) ⟨⟨hz1.env.df, hz1.env.sz, fun u q hu => ?_⟩, hH, hz1.sub, hz1.le, hz1.below⟩ hn (.bs _ _ _ _ _ g1 (by simp [Mu.setBx]))⟩
        simp only [ordE, List.cons_append, List.nil_append] at hu
        rw [lk_cons] at hu
        split at hu
        · rename_i e; subst e; cases hu
          have hsz := hz1.env.sz
          have htn : tg < cx.n := by simpa [dstOk, Nat.blt_eq] using htg
          refine ⟨_, Array.getElem?_eq_getElem (by omega), .ord _ _ _ g0 g1 _ (hle.1 _ _ hg0) (by simp [Mu.setBx]) (by omega)⟩
        · obtain ⟨u2, hu2, hr2⟩ := hz1.env.at_ u q hu
          exact ⟨u2, hu2, hr2.mono (Cells.le_refl _) hle⟩) fun S' ⟨p, h', hFp, e⟩ => by subst e; exact k p h' hFp
/-- A call that is handed box i1, while box i0 that lies ahead of it is kept. -/
theorem PL.callBK (e' : List (Nat × PV)) (tg : Nat) {i0 i1 : Nat} {x y : Nat × List PV} {fo : Operand} {f : Nat} {caps ps qs : List PV} {xs : Array Operand} {ts : Array TypeId} {F : PV → PH → Prop} (ho : o.op = .call { callee := .value fo, args := xs, argTypes := ts }) (hfo : S.ev fo = some (.fn f caps)) (hps : evs S xs.toList = some ps) (hS : S.h = ⟨[(i1, x), (i0, y)], []⟩) (hord : may1 (lk S.env tg) = some (.ord i0 i1)) (h : SpecB cx.P f qs ⟨[(i1, x)], []⟩ F)
    (hw2 : WkL (ps ++ caps) qs) (hqb : ∀ q ∈ qs, okB [i1] q = true) (hxf : freeL x.2 = true) (hyf : freeL y.2 = true) (hne : i1.beq i0 = false) (hF : ∀ p h', F p h' → ∃ x' off n cap, p = .bs i1 off n cap ∧ h' = ⟨[(i1, x')], []⟩ ∧ freeL x'.2 = true) (hw : Wants cx ops o S true) (hn : dstOk cx.n o.dst = true)
    (k : ∀ p h', F p h' → PL cx ops Q rest (PS.put ⟨e', ⟨h'.bx ++ [(i0, y)], []⟩⟩ o.dst p)) (hk : KFB [i0] S e' := by repeat (first | exact trivial | refine ⟨⟨rfl, rfl⟩, ?_⟩)) : PL cx ops Q (o :: rest) S :=
  PL.cons hw (K := fun S' => ∃ p h', F p h' ∧ S' = PS.put ⟨e', ⟨h'.bx ++ [(i0, y)], []⟩⟩ o.dst p) (fun a W hR K' Q' hK => by
    obtain ⟨Z, μ, hz⟩ := hR
    have hne' : i1 ≠ i0 := fun e => by subst e; simp at hne
    obtain ⟨vs, hall, hrun⟩ := call_args ho hfo hps h.ent hz
    obtain ⟨vo, _, hro⟩ := hz.env.may1 hord
    cases hro with
    | ord _ _ _ g0 g1 _ hg0 hg1 hlt =>
      obtain ⟨x1, x2⟩ := x
      obtain ⟨y1, y2⟩ := y
      obtain ⟨g0', hg0', ys, b1, b2, b3, b4, b5, b6⟩ := hz.h.bx i0 y1 y2 (by rw [hS]; show lk ((i1, (x1, x2)) :: [(i0, (y1, y2))]) i0 = _; rw [lk_cons, if_neg hne', lk_cons, if_pos rfl])
      rw [hg0] at hg0'; cases hg0'
      obtain ⟨g1', hg1', xs1, c1, c2, c3, c4, c5, c6⟩ := hz.h.bx i1 x1 x2 (by rw [hS]; show lk ((i1, (x1, x2)) :: _) i1 = _; rw [lk_cons, if_pos rfl])
      rw [hg1] at hg1'; cases hg1'
      have hg1lt : g1 < W.heap.size := lt_of_heap c1
      let w' : World := { W with heap := W.heap.extract 0 g1 }
      have hsz : w'.heap.size = g1 := by show (W.heap.extract 0 g1).size = g1; simp; omega
      have hblk : ∀ k, k < g1 → W.heap[k]? = w'.heap[k]? := fun k hk => by
        show W.heap[k]? = (W.heap.extract 0 g1)[k]?
        rw [Array.getElem?_extract]; simp [hk]; omega
      have hbw : Below w'.heap.size w' W := ⟨rfl, rfl, rfl, by rw [hsz]; omega, fun k hk => hblk k (by rwa [hsz] at hk)⟩
      let μ1 : Mu := ⟨fun k => if k = i1 then some g1 else none, fun _ _ => none⟩
      have hH1 : RepH w'.heap.size Z μ1 ⟨[(i1, (x1, x2))], []⟩ W := RepH.one (g := g1) (by simp [μ1]) ⟨xs1, c1, c2, c3, fun i p u hp hu => ((c4 i p u hp hu).drop (freeL_mem hxf p (List.mem_of_getElem? hp))).any, by rw [hsz]; exact Nat.le_refl _, c6⟩ (fun i g e => by
        simp only [μ1] at e
        by_cases he : i = i1
        · exact he
        · rw [if_neg he] at e; cases e) (fun _ _ _ e => by cases e)
      have hqs := hw2.rep hall
      have hargs : RepL Z μ1 qs vs := ⟨hqs.1, fun i p v hp hv => okB_one (hqb p (List.mem_of_getElem? hp)) (hqs.2 i p v hp hv) (Cells.le_refl _) (fun g e => by rw [hg1] at e; cases e; simp [μ1])⟩
      have hcall := h.run w' W Z μ1 _ hz.sub hargs hH1 hbw
      show o.upon cx.P a K' Q' _
      rw [hrun, Oper.upon_enter]
      refine hcall.mono fun e W' ⟨v, e1, p, h', Z', μ', hFp, hr, hg, hs, hb, hh⟩ => ?_
      subst e1
      obtain ⟨x', off, n, cap, rfl, rfl, hx'f⟩ := hF p h' hFp
      obtain ⟨x1', x2'⟩ := x'
      obtain ⟨gn, hgn, xs2, d1, d2, d3, d4, d5, d6⟩ := hh.bx i1 x1' x2' (by rw [lk_cons, if_pos rfl])
      rw [hsz] at d5
      have hgnlt := lt_of_heap d1
      have hbase : cx.w.heap.size ≤ g1 := c5
      have hW0 : W'.heap[g0]? = W.heap[g0]? := (hb.block g0 (by rw [hsz]; exact hlt)).trans (hblk g0 hlt).symm
      let μa : Mu := ⟨fun k => if k = i0 then some g0 else none, fun _ _ => none⟩
      have hHa : RepH cx.w.heap.size Z' μa ⟨[(i0, (y1, y2))], []⟩ W' := RepH.one (g := g0) (by simp [μa]) ⟨ys, hW0.trans b1, b2, b3, fun i p u hp hu => (((b4 i p u hp hu).drop (freeL_mem hyf p (List.mem_of_getElem? hp))).mono hg.1 (Mu.le_refl _)).any, b5, fun o => by
        cases e : Z' ⟨g0, o, none⟩ with
        | none => rfl
        | some u =>
          rcases hg.2 _ _ e with h1 | h1
          · rw [b6 o] at h1; cases h1
          · rw [hsz] at h1; simp at h1; omega⟩ (fun i g e => by
        simp only [μa] at e
        by_cases he : i = i0
        · exact he
        · rw [if_neg he] at e; cases e) (fun _ _ _ e => by cases e)
      have hH2 := hHa.addBx (id := i1) (g := gn) (t := x1') (cs := x2') (by rw [lk_cons, if_neg (fun e => hne' e.symm)]; rfl) ⟨xs2, d1, d2, d3, fun i p u hp hu => ((d4 i p u hp hu).drop (freeL_mem hx'f p (List.mem_of_getElem? hp))).any, by omega, d6⟩ (fun i x e he => by
        rw [lk_cons] at e
        split at e
        · rename_i ei
          rw [← ei] at he
          simp [μa] at he
          omega
        · cases e) (fun u sz m w e => by cases e)
      cases hr with
      | bs _ _ _ _ _ g' hg' =>
        rw [hgn] at hg'; cases hg'
        refine hK _ _ _ ⟨_, _, hFp, rfl⟩ ⟨Z', μa.setBx i1 gn, RZ.put (S := ⟨e', ⟨(i1, (x1', x2')) :: [(i0, (y1, y2))], []⟩⟩) ⟨⟨hz.env.df, hz.env.sz, fun u q hu => ?_⟩, hH2, hs, hz.le.trans hg (by rw [hsz]; exact hbase), ?_⟩ hn (.bs _ _ _ _ _ gn (by simp [Mu.setBx]))⟩
        · obtain ⟨h1, h2⟩ := hk.at_ hu
          obtain ⟨u2, hu2, hr2⟩ := hz.env.may1 h1
          exact ⟨u2, hu2, okB_one h2 hr2 hg.1 (fun g e => by rw [hg0] at e; cases e; simp [Mu.setBx, μa]; intro e; exact absurd e.symm hne')⟩
        · exact ⟨hb.os.trans hz.below.os, hb.tape.trans hz.below.tape, hb.output.trans hz.below.output, by omega, fun k hk => ((hb.block k (by rw [hsz]; omega)).trans (hblk k (by omega)).symm).trans (hz.below.block k hk)⟩) fun S' ⟨p, h', hFp, e⟩ => by subst e; exact k p h' hFp
end
end Go.Pw
