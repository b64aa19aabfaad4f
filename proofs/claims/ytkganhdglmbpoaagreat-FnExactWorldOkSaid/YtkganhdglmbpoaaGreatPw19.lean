/- The engine, nineteenth text: a slice held against nil; the library's entries. -/
import Derived.Test.YtkganhdglmbpoaaGreatPw18
import Derived.Lib.SliceRun
import Derived.Lib.Bytealg
set_option linter.unusedVariables false
set_option linter.unusedSimpArgs false
namespace Go.Pw
open Go Go.RowKit
section
variable {cx : Cx} [TC cx.P] {S : PS} {o : Oper} {ops : Array Oper} {rest : List Oper} {Q : Post}
/-- Is a slice nil? If it holds something it is not; else it may be. -/
theorem PL.isNil {t yt e sz : Nat} {x y : Operand} {q : Option Nat} {es : List (List PV)} {i : TI} (ho : o.op = .binOp .eql t x y yt) (hx : S.ev x = some (.sl sz es q)) (hy : S.ev y = some (.lit (.slice none 0 0))) (ht : lk (TC.T cx.P) t = some i) (hd : i.d = .slice e) (hw : Wants cx ops o S true) (hn : dstOk cx.n o.dst = true)
    (k : ∀ b : Bool, (b = true → es = []) → PL cx ops Q rest (S.put o.dst (.lit (.bool b)))) : PL cx ops Q (o :: rest) S :=
  PL.cons hw (K := fun S' => ∃ b : Bool, (b = true → es = []) ∧ S' = S.put o.dst (.lit (.bool b))) (fun a W hR K' Q' hK => by
    obtain ⟨Z, μ, hz⟩ := hR
    obtain ⟨A, c, val, hv, hc, hes, hZ, _⟩ := (hz.ev hx).sl_inv
    have ey := (hz.ev hy).lit_inv
    have hu := (TC.at_ ht).und
    rw [hd] at hu
    have hu : cx.P.underlying t = some (.slice e) := hu
    show o.upon cx.P a K' Q' _
    have hr : (execOp a.eval o).run cx.P W = .ok (.value (.bool A.isNone)) W := by
      simp only [execOp, ho, hv, ey]
      have hg : (eqGuard .eql t x y (.slice A es.length c) (.slice none 0 0)) = (pure () : Sem Unit) := rfl
      rw [hg]
      simp only [Sem.run_bind, Sem.run_pure, Result.andThen_ok, Lib.run_eql_slice_nil W t e A es.length c 0 0 hu]
    rw [hr, Oper.upon_value]
    refine hK _ _ _ ⟨A.isNone, fun hb => ?_, rfl⟩ ⟨Z, μ, hz.put hn (.lit _ _)⟩
    cases A with
    | some _ => cases hb
    | none =>
      rcases Nat.eq_zero_or_pos es.length with h0 | h0
      · exact List.eq_nil_of_length_eq_zero h0
      · obtain ⟨ad, h1, _⟩ := hZ h0; cases h1) fun S' ⟨b, hb, e⟩ => by subst e; exact k b hb
omit [TC cx.P] in
/-- An entry of the library that gives a number or a text. -/
theorem OpV.ext {fo : Operand} {f : Nat} {xs : Array Operand} {ts : Array TypeId} {vs : List Value} {v : Value} (ho : o.op = .call { callee := .value fo, args := xs, argTypes := ts }) (hfo : S.ev fo = some (.fn f [])) (hps : evs S xs.toList = some (vs.map PV.lit)) (hrun : ∀ W, (callFunc f vs.toArray).run cx.P W = .ok (.value v) W) : OpV cx o S (.lit v) := fun a W Z μ hz => by
  have hf := hz.ev hfo
  generalize hv : a.eval fo = u at hf
  cases hf with
  | fn _ _ _ cs hl hc =>
    have hcs : cs = [] := List.eq_nil_of_length_eq_zero hl.symm
    subst hcs
    have hargs := evs_rep hz hps
    have he : xs.map a.eval = vs.toArray := by
      apply Array.ext'
      rw [Array.toList_map]
      apply List.ext_getElem?
      intro j
      have hlen : (xs.toList.map a.eval).length = vs.length := by rw [hargs.1]; simp
      by_cases hj : j < vs.length
      · have h1 : (vs.map PV.lit)[j]? = some (.lit vs[j]) := by simp [hj]
        have h2 := hargs.2 j _ _ h1 (List.getElem?_eq_getElem (by omega))
        have h3 := h2.lit_inv
        rw [List.getElem?_eq_getElem (by omega), h3]
        simp [hj]
      · rw [List.getElem?_eq_none (by omega), List.getElem?_eq_none (by simpa using hj)]
    refine ⟨v, ?_, .lit _ _⟩
    simp only [execOp, ho]
    simp [resolve, hv, Deferred.ofValue, invoke]
    rw [he]
    exact hrun W
end
end Go.Pw
