/- The engine, sixth text: append; make; calls; the end of a call. -/
import Derived.Test.YtkganhdglmbpoaaGreatPw5
set_option linter.unusedVariables false
set_option linter.unusedSimpArgs false
namespace Go.Pw
open Go Go.RowKit

theorem Sub.spot {Z : Cells} {W : World} (h : Sub Z W) {a : Addr} {v : Value} (e : Z a = some v) : a.spot = none := by
  have hc := h a v e
  unfold World.cell? at hc
  split at hc
  · cases hs : a.spot with
    | none => rfl
    | some s => simp [hs] at hc
  · cases hc
/-- append to a row of the call's own, of a slice that is read. -/
theorem app_step {cx : Cx} [TC cx.P] {S : PS} {a : Act} {W : World} {Z : Cells} {μ : Mu} (hz : RZ cx S a W Z μ) {tok sz : Nat} {es new : List (List PV)} {v x : Value} {t ty e : Nat} {i j : TI} (hv : Rep Z μ (.sl sz es (some tok)) v) (hx : Rep Z μ (.sl sz new none) x)
    (htk : lk S.h.tk tok = some (sz, es.length)) (ht : lk (TC.T cx.P) t = some i) (hd : i.d = .slice e) (he : lk (TC.T cx.P) e = some j) (hj : j.sz = sz) (hzs : j.zero.cells.size = sz) (hb : (es.length + new.length) * j.bytes ≤ 140737488355328) (h63 : es.length + new.length ≤ 9223372036854775807) :
    ∃ v' W' Z' μ', (Builtin.append_ #[t, t] ty #[v, x]).run cx.P W = .ok v' W' ∧ RZ cx ⟨S.env, ⟨S.h.bx, (tok, (sz, (es ++ new).length)) :: S.h.tk⟩⟩ a W' Z' μ' ∧ Rep Z' μ' (.sl sz (es ++ new) (some tok)) v' := by
  obtain ⟨A0, c0, xs, rfl, hc0, hxs, hZx⟩ := hv.news
  obtain ⟨A, c, news, rfl, hc, hns, hZn⟩ := hx.news
  have hvtk : μ.tk tok es.length = some (.slice A0 es.length c0) := by cases hv with | own _ _ _ _ _ _ ht => exact ht
  obtain ⟨v0, hv0, hok⟩ := hz.h.tk tok sz es.length htk
  rw [hvtk] at hv0
  cases hv0
  have hxcell : ∀ g cap, Value.slice A0 es.length c0 = .slice (some ⟨g, 0, none⟩) es.length cap → ∀ (j : Nat) (u : Value), xs[j]? = some u → W.cell? ⟨g, j, none⟩ = some u := fun g cap e k u hu => by
    cases e
    have hpos : 0 < es.length := by
      rcases Nat.eq_zero_or_pos es.length with h0 | h0
      · have := hxs.len; rw [h0, Nat.zero_mul] at this
        rw [List.eq_nil_of_length_eq_zero this] at hu; simp at hu
      · exact h0
    obtain ⟨ad, e2, hc⟩ := hZx hpos
    cases e2
    have := hz.sub _ _ (hc k u hu)
    rwa [Addr.add_lit, Nat.zero_add] at this
  obtain ⟨v', W', hr, hg⟩ := run_app (ty := ty) (c := c) ht hd he hj hzs hz.below.size hok hxs.len hxcell hns.len hns.one (A := A) (fun h0 => by
    obtain ⟨ad, e2, hc⟩ := hZn h0
    exact ⟨ad, e2, fun k u hu => hz.sub _ _ (hc k u hu)⟩) hb h63
  have hlen : (es ++ new).length = es.length + new.length := List.length_append
  rcases hg.out with ⟨rfl, rfl, hm⟩ | ⟨hpos, g, cap, cur, e', rfl, hh, hcap, hcm, hcs, hbg, hcur, hoth, hwhere⟩
  · have hn : new = [] := List.eq_nil_of_length_eq_zero hm
    subst hn
    refine ⟨_, _, Z, μ, hr, ?_, by rw [List.append_nil]; exact hv⟩
    rw [List.append_nil]
    refine ⟨hz.env, ?_, hz.sub, hz.le, hz.below⟩
    have hsame : ∀ u, lk ((tok, (sz, es.length)) :: S.h.tk) u = lk S.h.tk u := fun u => by
      rw [lk_cons]; by_cases h : tok = u
      · subst h; rw [if_pos rfl, htk]
      · rw [if_neg h]
    exact ⟨hz.h.bx, fun u s n h => hz.h.tk u s n (by rwa [hsame] at h), hz.h.bb, fun p q s n s' n' a b g h1 h2 => hz.h.tt p q s n s' n' a b g (by rwa [hsame] at h1) (by rwa [hsame] at h2), hz.h.bd, fun u n x h => by show lk ((tok, (sz, es.length)) :: S.h.tk) u ≠ none; rw [hsame]; exact hz.h.td u n x h, fun u n x s m h h2 => hz.h.tm u n x s m h (by rwa [hsame] at h2), fun p q x s n b g h1 h2 => hz.h.bt p q x s n b g h1 (by rwa [hsame] at h2)⟩
  · have hcell : ∀ (k : Nat) (u : Value), (xs ++ news)[k]? = some u → W'.cell? ⟨g, k, none⟩ = some u := fun k u hu => by
      rw [cell_of_row W' g k cur e' (0, 0) hh]; exact hcur k u hu
    have hZg : ∀ off, es.length * sz ≤ off → Z ⟨g, off, none⟩ = none := fun off ho => by
      rcases hwhere with h1 | h1
      · rcases hok with ⟨h2, _⟩ | ⟨g2, c2, cur2, e2, h2, _, _, _, _, _, h3⟩
        · rw [h2] at h1; simp [Value.ownBlock] at h1
        · rw [h2] at h1; simp [Value.ownBlock] at h1; subst h1; exact h3 off ho
      · exact hz.sub.free (by omega) off
    have hsub1 : Sub Z W' := fun ad u e => by
      have hlt := hz.sub.lt e
      by_cases hg2 : ad.block = g
      · have hsp := hz.sub.spot e
        have had : ad = ⟨g, ad.off, none⟩ := by cases ad; simp at hg2 hsp ⊢; exact ⟨hg2, hsp⟩
        have hoff : ad.off < es.length * sz := by
          rcases Nat.lt_or_ge ad.off (es.length * sz) with h | h
          · exact h
          · rw [had, hZg _ h] at e; cases e
        rw [had] at e ⊢
        have hin : ad.off < xs.length := by rw [hxs.len]; exact hoff
        have hA0 : A0 = some ⟨g, 0, none⟩ := by
          rcases hwhere with h1 | h1
          · rcases hok with ⟨h2, _⟩ | ⟨g2, c2, cur2, e2, h2, _⟩
            · rw [h2] at h1; simp [Value.ownBlock] at h1
            · rw [h2] at h1; simp [Value.ownBlock] at h1; subst h1; cases h2; rfl
          · omega
        have hx1 := hxcell g c0 (by rw [hA0]) ad.off _ (List.getElem?_eq_getElem hin)
        rw [hz.sub _ _ e] at hx1
        have hx2 := hcell ad.off _ (by rw [List.getElem?_append_left hin]; exact List.getElem?_eq_getElem hin)
        rw [hx2]; exact hx1.symm
      · exact (World.cell?_of_block (hoth ad.block hg2 hlt)).trans (hz.sub ad u e)
    have hsub2 : Sub (Z.add g (xs ++ news)) W' := hsub1.add hcell
    have hle2 : μ.le (μ.setTk tok (es ++ new).length (.slice (some ⟨g, 0, none⟩) (es.length + new.length) cap)) := Mu.setTk_le fun u hu => by
      have hmx := hz.h.tm _ _ _ _ _ hu htk
      omega
    have hR := hz.h.setTk (W' := W') (Z' := Z.add g (xs ++ news)) htk hvtk (by omega : es.length ≤ (es ++ new).length) hle2 (Cells.le_add _ _ _) (.inr ⟨g, cap, cur, e', by rw [hlen], hh, by omega, hcm, hcs, hbg, fun off ho => Cells.add_none (hZg off (Nat.le_trans (Nat.mul_le_mul_right _ (by omega)) ho)) (fun _ => by rw [List.length_append, hxs.len, hns.len, ← Nat.add_mul, ← hlen]; exact ho)⟩) (g := g) rfl hwhere (fun k hk hlt => hoth k hk hlt) (fun k off hk h0 => Cells.add_none h0 (fun e => absurd e hk))
    refine ⟨_, _, _, _, hr, ⟨hz.env.mono (Cells.le_add _ _ _) hle2, hR, hsub2, hz.le.trans ⟨Cells.le_add _ _ _, fun ad u e => (Cells.add_inv e).imp id (fun x => by omega)⟩ (Nat.le_refl _), hz.below.trans ⟨hg.os, hg.tape, hg.output, hg.size, fun k hk => hoth k (by omega) (Nat.lt_of_lt_of_le hk hz.below.size)⟩⟩, ?_⟩
    have hrep := ((hxs.append hns).mono (Cells.le_add Z g (xs ++ news))).rep (A := some ⟨g, 0, none⟩) (c := cap) (by omega) (fun _ => ⟨_, rfl, fun k u hu => by rw [Addr.add_lit, Nat.zero_add]; exact Cells.add_at hsub1 hcell k u hu⟩) (μ.setTk tok (es ++ new).length (.slice (some ⟨g, 0, none⟩) (es.length + new.length) cap))
    rw [hlen] at hrep
    refine .own _ _ _ _ _ (by rw [hlen]; exact hrep) (by simp [Mu.setTk])
/-- What is read as a slice's elements: a slice under whatever name; the nil slice. -/
def srcOf (sz : Nat) : PV → Option (List (List PV))
  | .sl sz' es _ => bif Nat.beq sz' sz then some es else none
  | .lit (.slice none 0 0) => some []
  | _ => none
theorem Rep.src {Z : Cells} {μ : Mu} {p : PV} {v : Value} {sz : Nat} {es : List (List PV)} (h : Rep Z μ p v) (e : srcOf sz p = some es) : Rep Z μ (.sl sz es none) v := by
  cases p with
  | sl sz' es' q =>
    simp only [srcOf] at e
    cases hb : Nat.beq sz' sz with
    | false => rw [hb] at e; cases e
    | true =>
      have := Nat.eq_of_beq_eq_true hb
      subst this
      rw [hb] at e
      simp only [cond_true, Option.some.injEq] at e
      subst e
      cases h with
      | sl _ _ _ A c val hc hz hZ h1 h => exact .sl _ _ _ A c val hc hz hZ h1 h
      | own _ _ _ t _ h ht => exact h
  | lit u =>
    have := h.lit_inv
    subst this
    unfold srcOf at e
    split at e
    · rename_i h1; cases h1
    · rename_i h1
      cases h1
      cases e
      exact .sl _ sz [] none 0 (fun _ _ => undef) (Nat.le_refl _) (fun e h => by cases h) (fun h => absurd h (Nat.lt_irrefl _)) (fun i e j p h => by simp at h) (fun i e j p h => by simp at h)
    · cases e
  | _ => simp [srcOf] at e
section
variable {cx : Cx} [TC cx.P] {S : PS} {o : Oper} {ops : Array Oper} {rest : List Oper} {Q : Post}
theorem PL.app {x y : Operand} {t e tok sz : Nat} {p : PV} {es new : List (List PV)} {i j : TI} (ho : o.op = .call { callee := .builtin .append, args := #[x, y], argTypes := #[t, t] }) (hx : S.ev x = some (.sl sz es (some tok))) (hy : S.ev y = some p) (hp : srcOf sz p = some new)
    (htk : lk S.h.tk tok = some (sz, es.length)) (ht : lk (TC.T cx.P) t = some i) (hd : i.d = .slice e) (he : lk (TC.T cx.P) e = some j) (hj : j.sz = sz) (hzs : j.zero.cells.size = sz) (hb : (es.length + new.length) * j.bytes ≤ 140737488355328) (h63 : es.length + new.length ≤ 9223372036854775807)
    (hw : Wants cx ops o S true) (hn : dstOk cx.n o.dst = true)
    (k : PL cx ops Q rest (PS.put ⟨S.env, ⟨S.h.bx, (tok, (sz, (es ++ new).length)) :: S.h.tk⟩⟩ o.dst (.sl sz (es ++ new) (some tok)))) : PL cx ops Q (o :: rest) S :=
  PL.cons hw (K := fun S' => S' = PS.put ⟨S.env, ⟨S.h.bx, (tok, (sz, (es ++ new).length)) :: S.h.tk⟩⟩ o.dst (.sl sz (es ++ new) (some tok))) (fun a W hR K' Q hK => by
    obtain ⟨Z, μ, hz⟩ := hR
    obtain ⟨v', W', Z', μ', hr, h1, h2⟩ := app_step (ty := o.type) hz (hz.ev hx) ((hz.ev hy).src hp) htk ht hd he hj hzs hb h63
    show o.upon cx.P a K' Q _
    have hrun : (execOp a.eval o).run cx.P W = .ok (.value v') W' := by
      simp only [execOp, ho]
      simp [resolve, invoke, builtin, hr]
    rw [hrun, Oper.upon_value]
    exact hK _ _ _ rfl ⟨Z', μ', h1.put hn h2⟩) fun S' e => by subst e; exact k
/-- append to the nil slice: a row under the name of its place. -/
theorem PL.appNil {x y : Operand} {t e d sz : Nat} {p : PV} {new : List (List PV)} {i j : TI} (ho : o.op = .call { callee := .builtin .append, args := #[x, y], argTypes := #[t, t] }) (hdst : o.dst = some d) (hx : S.ev x = some (.lit (.slice none 0 0))) (hy : S.ev y = some p) (hp : srcOf sz p = some new)
    (hfr : lk S.h.tk d = none) (ht : lk (TC.T cx.P) t = some i) (hd : i.d = .slice e) (he : lk (TC.T cx.P) e = some j) (hj : j.sz = sz) (hzs : j.zero.cells.size = sz) (hb : new.length * j.bytes ≤ 140737488355328) (h63 : new.length ≤ 9223372036854775807)
    (hw : Wants cx ops o S true) (hn : dstOk cx.n (some d) = true)
    (k : PL cx ops Q rest ⟨(d, .sl sz new (some d)) :: S.env, ⟨S.h.bx, (d, (sz, new.length)) :: (d, (sz, 0)) :: S.h.tk⟩⟩) : PL cx ops Q (o :: rest) S :=
  PL.cons hw (K := fun S' => S' = ⟨(d, .sl sz new (some d)) :: S.env, ⟨S.h.bx, (d, (sz, new.length)) :: (d, (sz, 0)) :: S.h.tk⟩⟩) (fun a W hR K' Q hK => by
    obtain ⟨Z, μ, hz⟩ := hR
    have hv := (hz.ev hx).lit_inv
    have hle := Mu.setTk_le (μ := μ) (t := d) (n := 0) (v := .slice none 0 0) (fun u e => by rw [hz.h.tkFree hfr] at e; cases e)
    have hH := hz.h.addTk (t := d) (sz := sz) (n := 0) (v := .slice none 0 0) hfr (.inl ⟨rfl, rfl⟩) (fun _ _ _ _ _ => by simp [Value.ownBlock]) (fun _ _ _ _ _ _ _ _ => by simp [Value.ownBlock])
    have hz2 : RZ cx ⟨S.env, ⟨S.h.bx, (d, (sz, 0)) :: S.h.tk⟩⟩ a W Z (μ.setTk d 0 (.slice none 0 0)) := ⟨hz.env.mono (Cells.le_refl _) hle, hH, hz.sub, hz.le, hz.below⟩
    have hnil : Rep Z (μ.setTk d 0 (.slice none 0 0)) (.sl sz [] (some d)) (.slice none 0 0) := .own _ _ _ _ _ (Rep.src (.lit _ (.slice none 0 0)) rfl) (by simp [Mu.setTk])
    have hy2 : Rep Z (μ.setTk d 0 (.slice none 0 0)) (.sl sz new none) (a.eval y) := ((hz.ev hy).src hp).mono (Cells.le_refl _) hle
    obtain ⟨v', W', Z', μ', hr, h1, h2⟩ := app_step (ty := o.type) hz2 hnil hy2 (by rw [lk_cons, if_pos rfl]; rfl) ht hd he hj hzs (by simpa using hb) (by simpa using h63)
    show o.upon cx.P a K' Q _
    have hrun : (execOp a.eval o).run cx.P W = .ok (.value v') W' := by
      simp only [execOp, ho]
      simp [resolve, invoke, builtin, hr, hv]
    rw [hrun, Oper.upon_value, hdst]
    exact hK _ _ _ rfl ⟨Z', μ', (h1.put (d := some d) hn h2)⟩) fun S' e => by subst e; exact k
end
end Go.Pw
