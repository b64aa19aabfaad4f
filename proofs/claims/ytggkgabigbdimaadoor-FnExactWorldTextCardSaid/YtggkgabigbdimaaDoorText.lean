/- The law FnExactWorldText returns true at every argument and leaves its argument as it was; its tied card. Condition: the library's three listed tables lie as the program's initialisers lay them (tied). -/
import Derived.Test.YtggkgabigbdimaaDoorRows
import Derived.Test.YtggkgabigbdimaaDoorTie
import Derived.Test.YtggkgabigbdimaaDoorCards
import Derived.ProofKit
import Derived.LaidMore
import Derived.Lib.LaidTab
import Derived.Stop.LaidErr
import Derived.Stop.Joined
import Derived.SevenTiedAt
import Derived.Test.YtggkgabigbdimaaDoorBw4
namespace Go.Proofs.YtggkgabigbdimaaDoor
open Go.ChangeShapes Go.WideShapes Go.ChangeAt Go.RowKit
theorem wt_own : ownKnob Tryd.prog.godebug = none := by kernel_rfl
theorem wt_laidOut : laidOutB Tryd.prog = true := by kernel_rfl
theorem wt_readable : Tryd.prog.readableRec 32 = true := by kernel_rfl
theorem wt_rowed : 32 < Tryd.prog.types.size := of_decide_eq_true (by kernel_rfl)
abbrev wt_list : List (String × DataW Unit) := Rows.fnExactWorldTextRow.laid
theorem wt_door (os : Os) (args : Array Value) : laidMetH Tryd.prog wt_list ((World.doorLaid Tryd.prog 24 os).forCall (fun _ _ => 0) ⟨#[], args, []⟩).memory :=
  laidMetH_of_parts3 (fuel := 8) (laidMet_of_run' 8 (by kernel_rfl) (by kernel_rfl)) (by kernel_rfl) (by kernel_rfl)
theorem wt_tab {W : World} (h : laidMetH Tryd.prog wt_list W) : Wl.tabW W := by
  rw [MakeChecks.laidMetH_plain _ _ _ (by kernel_rfl)] at h
  have h3 : laidMet Tryd.prog [("internal/strconv.uint64pow10", Lib.tabData .u64 Lib.pow10Tab)] W := by
    have e : (Rows.laid_internal_strconv_uint64pow10 : DataW Unit) = Lib.tabData .u64 Lib.pow10Tab := by kernel_rfl
    rw [← e]
    exact h.tail.tail
  exact Lib.tabIs_of_head (g := 0) (t := 97) (e := 90) (n := 20) (by kernel_rfl) (by kernel_rfl) Tryd.underlying97 Tryd.underlying90 (by kernel_rfl) (by kernel_rfl) h3
set_option maxRecDepth 100000 in
theorem wt_lifted (os : Os) (started : os.Started) (H : Type) (enc : TypeId × Value → H) :
    ReturnsInHanded {} Tryd.checked os 3 .any (fun w args => (Rows.fnExactWorldTextSpec.pre enc Tryd.prog Tryd.f3 [] false w args ∧ laidMetH Tryd.prog wt_list w) ∧ sizedMet enc Tryd.prog Tryd.f3 (OpenSpec.ofChange Rows.fnExactWorldTextSpec) false w args)
      (Rows.fnExactWorldTextSpec.post enc Tryd.prog Tryd.f3 false true false false) := by
  refine returnsInHanded_of_change_and (C := Tryd.checked) (X := fun w _ => laidMetH Tryd.prog wt_list w) (fun _ _ _ hh h => h.of_heap hh) wt_own started (by kernel_rfl) Tryd.func3
    (ChangeSpec.witness_shaped (enc := enc) (C := Tryd.checked) (os := os) (X := fun w _ => laidMetH Tryd.prog wt_list w) false (World.doorLaid Tryd.prog 24 os) #[.agg #[.slice none 0 0, .int .i64 0, .int .i64 0, .slice none 0 0, .int .i64 0, .slice none 0 0, .int .i64 0, .slice none 0 0, .int .i64 0, .slice none 0 0, .slice none 0 0, .slice none 0 0, .slice none 0 0]] 8 rfl (World.shaped_of_RefB (by kernel_rfl) (by kernel_rfl)) (by kernel_rfl) (by kernel_rfl) (by kernel_rfl) (wt_door os _)) ?_
  intro W base args ds gs before hval0 hW _ _ hL _
  have hval : ∀ (j : Nat) t v, Tryd.f3.params[j]? = some t → args[j]? = some v → Value.okWide Tryd.prog W .any base t v := hval0
  have hW' := hW
  obtain ⟨p, q, hA0, hV, rfl, hfz, hnd⟩ := hW
  have hA : DataW.TrodAll enc Tryd.prog W 0 (fun _ => true) true Tryd.f3.params.toList args.toList ds p := hA0
  rw [Tryd.params3] at hA hval
  obtain ⟨v0, d0, rfl, rfl, h0⟩ := trodAll_one hA
  obtain ⟨rfl, rfl⟩ := trodVars_none hV
  obtain ⟨cs, rfl, hsz⟩ := okWide_struct Tryd.underlying32 (hval 0 32 v0 rfl rfl)
  obtain ⟨m, hm⟩ := h0
  obtain ⟨w, hbg, hrep⟩ := Wl.open_world hm
  have ht := wt_tab hL
  clear hA0 hval0 hL
  simp only [List.append_nil] at hW'
  have hrun := (Wl.laws_FnExactWorldText_spec w hbg).run W W.cell? Pw.Mu.emp [.agg cs] ht (fun _ _ h => h) ⟨rfl, fun i q u hq hu => by
    cases i with
    | zero => simp only [List.getElem?_cons_zero, Option.some.injEq] at hq hu; subst hq; subst hu; exact hrep.agg _
    | succ i => simp at hq⟩
  refine hrun.mono fun e W' ⟨v, he, hd⟩ => ?_
  obtain ⟨rfl, hb⟩ := hd.lit
  subst he
  exact ⟨_, rfl, [d0], [], p, [], p, [], hW', trodAll_mk1 (shut_bool Tryd.underlying4 true), trodAll_mk1 (hb.trod wt_laidOut wt_readable wt_rowed ⟨m, hm⟩ (fun x hx => hW'.lt x hx)), rfl, hb.frame _, fun h => by cases h⟩
theorem worldText_row : Rows.FnExactWorldTextSaid :=
  OpenClaim.holds_of_wide 3 Tryd.f3 rfl rfl rfl rfl rfl rfl rfl ⟨rfl, rfl, rfl, rfl, rfl⟩ rfl rfl rfl rfl rfl (by kernel_rfl) Tryd.func3 (by kernel_rfl)
    (of_decide_eq_true (by kernel_rfl)) (by unfold Func.isWrapper; first | (rw [if_pos (by decide +kernel)]; kernel_rfl) | (rw [if_neg (by decide +kernel)]; exact ⟨rfl, rfl⟩))
    (fun os started H enc _ => wt_lifted os started H enc)
theorem worldText_holds : Rows.FnExactWorldTextCardSaid :=
  Claim7.holds_tied_plain_at .later [] [.data, .data, .data] true (true, "045a296c4eb8eca5972d664fdfbb45aa4664d565e9b6ac4d042a62cb882bdead") false
    worldText_row (fun _ h => by cases h) (by kernel_rfl) (fun _ h => by cases h) fnExactWorldText_row_tie rfl ⟨rfl, rfl⟩ (by kernel_rfl) rfl
    (fun f fn hf hfn => by
      obtain rfl : f = 3 := Option.some.inj ((show Tryd.prog.funcNamed "loop.example/g00473/laws.FnExactWorldText" = some 3 by kernel_rfl).symm.trans hf) |>.symm
      obtain rfl : fn = Tryd.f3 := (Option.some.inj (Tryd.func3.symm.trans hfn)).symm
      exact ⟨by kernel_rfl, fun j t ht => by
        rw [Tryd.params3] at ht
        have hm : t ∈ [32] := by simpa using Array.mem_of_getElem? ht
        have hall : ([32].all fun u => !Tryd.prog.wantsStandIn u) = true := by kernel_rfl
        exact (show Tryd.prog.wantsStandIn t = false by simpa using List.all_eq_true.1 hall t hm)⟩)
    (by kernel_rfl)
end Go.Proofs.YtggkgabigbdimaaDoor
