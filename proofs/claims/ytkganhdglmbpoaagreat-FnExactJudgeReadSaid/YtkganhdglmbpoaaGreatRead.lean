/- The law FnExactJudgeRead returns true at every argument and leaves its argument as it was. No condition. -/
import Derived.Test.YtkganhdglmbpoaaGreatRows
import Derived.ProofKit
import Derived.Test.YtkganhdglmbpoaaGreatBe7
namespace Go.Proofs.YtkganhdglmbpoaaGreat
open Go.ChangeShapes Go.WideShapes Go.ChangeAt Go.RowKit
theorem jJudgeRead_holds_own : ownKnob Tryz.prog.godebug = none := by kernel_rfl
theorem jJudgeRead_holds_laidOut : laidOutB Tryz.prog = true := by kernel_rfl
theorem jJudgeRead_holds_readable : Tryz.prog.readableRec 32 = true := by kernel_rfl
theorem jJudgeRead_holds_rowed : 32 < Tryz.prog.types.size := of_decide_eq_true (by kernel_rfl)
set_option maxRecDepth 100000 in
theorem jJudgeRead_holds_lifted (os : Os) (started : os.Started) (H : Type) (enc : TypeId × Value → H) :
    ReturnsInHanded {} Tryz.checked os 6 .any (Rows.fnExactJudgeReadSpec.pre6 enc Tryz.prog Tryz.f6 Rows.fnExactJudgeReadRow.domain false) (Rows.fnExactJudgeReadSpec.post enc Tryz.prog Tryz.f6 false true false false) := by
  refine returnsInHanded_of_change (C := Tryz.checked) jJudgeRead_holds_own started (by kernel_rfl) Tryz.func6
    (ChangeSpec.witness6 (enc := enc) (C := Tryz.checked) false ⟨#[], #[.agg #[.slice none 0 0, .int .i64 0, .int .i64 0, .slice none 0 0, .int .i64 0, .slice none 0 0, .int .i64 0, .slice none 0 0, .int .i64 0, .slice none 0 0, .slice none 0 0, .slice none 0 0, .slice none 0 0]], []⟩ 8 (by kernel_rfl) (by kernel_rfl) (by kernel_rfl) (by kernel_rfl)) ?_
  intro W base args ds gs before hval0 hW hcnd _
  have hval : ∀ (j : Nat) t v, Tryz.f6.params[j]? = some t → args[j]? = some v → Value.okWide Tryz.prog W .any base t v := hval0
  have hW' := hW
  obtain ⟨p, q, hA0, hV, rfl, hfz, hnd⟩ := hW
  have hA : DataW.TrodAll enc Tryz.prog W 0 (fun _ => true) true Tryz.f6.params.toList args.toList ds p := hA0
  rw [Tryz.params6] at hA hval
  obtain ⟨v0, d0, rfl, rfl, h0⟩ := trodAll_one hA
  obtain ⟨rfl, rfl⟩ := trodVars_none hV
  obtain ⟨cs, rfl, hsz⟩ := okWide_struct Tryz.underlying32 (hval 0 32 v0 rfl rfl)
  obtain ⟨m, hm⟩ := h0
  obtain ⟨w, hbg, hrep⟩ := Wl.open_world hm
  clear hA0 hval0
  simp only [List.append_nil] at hW'
  have hrun := (Wl.laws_FnExactJudgeRead_spec w hbg).run W W.cell? Pw.Mu.emp [.agg cs] (fun _ _ h => h) ⟨rfl, fun i q u hq hu => by
    cases i with
    | zero => simp only [List.getElem?_cons_zero, Option.some.injEq] at hq hu; subst hq; subst hu; exact hrep.agg _
    | succ i => simp at hq⟩
  refine hrun.mono fun e W' ⟨v, he, hd⟩ => ?_
  obtain ⟨rfl, hb⟩ := hd.lit
  subst he
  exact ⟨_, rfl, [d0], [], p, [], p, [], hW', trodAll_mk1 (shut_bool Tryz.underlying4 true), trodAll_mk1 (hb.trod jJudgeRead_holds_laidOut jJudgeRead_holds_readable jJudgeRead_holds_rowed ⟨m, hm⟩ (fun x hx => hW'.lt x hx)), rfl, hb.frame _, fun h => by cases h⟩
theorem jJudgeRead_holds : Rows.FnExactJudgeReadSaid :=
  OpenClaim.holds_of_wide 6 Tryz.f6 rfl rfl rfl rfl rfl rfl rfl ⟨rfl, rfl, rfl, rfl, rfl⟩ rfl rfl rfl rfl rfl (by kernel_rfl) Tryz.func6 (by kernel_rfl)
    (of_decide_eq_true (by kernel_rfl)) (by unfold Func.isWrapper; first | (rw [if_pos (by decide +kernel)]; kernel_rfl) | (rw [if_neg (by decide +kernel)]; exact ⟨rfl, rfl⟩))
    (fun os started H enc _ => jJudgeRead_holds_lifted os started H enc)
end Go.Proofs.YtkganhdglmbpoaaGreat
