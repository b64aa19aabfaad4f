/- The engine, twelfth text: cuts of slices and texts. -/
import Derived.Test.YtkganhdglmbpoaaGreatPw11
set_option linter.unusedVariables false
set_option linter.unusedSimpArgs false
namespace Go.Pw
open Go Go.RowKit

/-- A bound of a cut: what it is, if it stands there; else d. -/
def bdV (S : PS) (d : Int) : Option Operand → Option Int
  | none => some d
  | some x => match S.ev x with
    | some (.lit (.int _ n)) => some n
    | _ => none
section
variable {cx : Cx} {S : PS} {o : Oper}
theorem bd_run {W : World} {Z : Cells} {μ : Mu} {a : Act} (hz : RZ cx S a W Z μ) {d n : Int} {x : Option Operand} (h : bdV S d x = some n) : (x = none ∧ n = d) ∨ ∃ y k, x = some y ∧ a.eval y = .int k n := by
  unfold bdV at h
  split at h
  · cases h; exact .inl ⟨rfl, rfl⟩
  · split at h
    · rename_i h1; cases h; exact .inr ⟨_, _, rfl, (hz.ev h1).lit_inv⟩
    · cases h
variable [TC cx.P]
theorem OpV.cut {x : Operand} {lo hi : Option Operand} {t e sz l h : Nat} {q : Option Nat} {es : List (List PV)} {i j : TI} (ho : o.op = .slice t x lo hi none) (hx : S.ev x = some (.sl sz es q)) (ht : lk (TC.T cx.P) t = some i) (hd : i.d = .slice e) (he : lk (TC.T cx.P) e = some j) (hj : j.sz = sz)
    (h1 : bdV S 0 lo = some (l : Int)) (h2 : bdV S es.length hi = some (h : Int)) (hlh : l ≤ h) (hh : h ≤ es.length) : OpV cx o S (.sl sz ((es.take h).drop l) none) := fun a W Z μ hz => by
  obtain ⟨A, c, val, hv, hc, hes, hZ, hu1, hu⟩ := (hz.ev hx).sl_inv
  have hun := (TC.at_ ht).und
  rw [hd] at hun
  have hun : cx.P.underlying t = some (.slice e) := hun
  have hs := (TC.at_ he).size
  have hget : ∀ (m : Nat) (el : List PV), ((es.take h).drop l)[m]? = some el → es[l + m]? = some el := fun m el hm => by
    rw [List.getElem?_drop] at hm
    rw [List.getElem?_take] at hm
    split at hm
    · exact hm
    · cases hm
  refine ⟨.slice (if c = l then A else A.map (·.add (l * sz))) (h - l) (c - l), ?_, ?_⟩
  · simp only [execOp, ho, hv]
    rcases bd_run hz h1 with ⟨rfl, e1⟩ | ⟨y1, k1, rfl, e1⟩ <;> rcases bd_run hz h2 with ⟨rfl, e2⟩ | ⟨y2, k2, rfl, e2⟩
    · have : l = 0 := by omega
      subst this
      have : h = es.length := by omega
      subst this
      simp [Instr.sliceAt, Instr.slice, run_underlying hun, Instr.sliceBounds, hs, hj]
    · have : l = 0 := by omega
      subst this
      have g2 : h ≤ c := by omega
      simp [Instr.sliceAt, Instr.slice, run_underlying hun, Instr.sliceBounds, Instr.sliceBound, asIntOf, e2, g2, hs, hj]
    · have : h = es.length := by omega
      subst this
      have g1 : l ≤ es.length := by omega
      simp [Instr.sliceAt, Instr.slice, run_underlying hun, Instr.sliceBounds, Instr.sliceBound, asIntOf, e1, g1, hs, hj]
    · have g2 : h ≤ c := by omega
      have g1 : l ≤ h := by omega
      simp [Instr.sliceAt, Instr.slice, run_underlying hun, Instr.sliceBounds, Instr.sliceBound, asIntOf, e1, e2, g1, g2, hs, hj]
  · have hlen : ((es.take h).drop l).length = h - l := by rw [List.length_drop, List.length_take, Nat.min_eq_left hh]
    rw [← hlen]
    refine .sl _ _ _ _ _ (fun i j => val (l + i) j) (by rw [hlen]; omega) (fun el hel => ?_) (fun h0 => ?_) (fun m el j p hm hp => hu1 _ _ _ _ (hget m el hm) hp) (fun m el j p hm hp => hu _ _ _ _ (hget m el hm) hp)
    · obtain ⟨m, hm⟩ := List.getElem?_of_mem hel
      exact hes el (List.mem_of_getElem? (hget m el hm))
    · rw [hlen] at h0
      obtain ⟨ad, rfl, hZ2⟩ := hZ (by omega)
      refine ⟨ad.add (l * sz), by rw [if_neg (by omega)]; rfl, fun m el j p hm hp => ?_⟩
      rw [add_add, ← hZ2 (l + m) el j p (hget m el hm) hp, Nat.add_mul, Nat.add_assoc]
theorem OpV.cutS {x : Operand} {lo hi : Option Operand} {t l h : Nat} {s : ByteArray} {i : TI} (ho : o.op = .slice t x lo hi none) (hx : S.ev x = some (.lit (.string s))) (ht : lk (TC.T cx.P) t = some i) (hd : i.d = .str)
    (h1 : bdV S 0 lo = some (l : Int)) (h2 : bdV S s.size hi = some (h : Int)) (hlh : l ≤ h) (hh : h ≤ s.size) : OpV cx o S (.lit (.string (s.extract l h))) := fun a W Z μ hz => by
  have hv := (hz.ev hx).lit_inv
  have hun := (TC.at_ ht).und
  rw [hd] at hun
  have hun : cx.P.underlying t = some .string := hun
  refine ⟨_, ?_, .lit _ _⟩
  simp only [execOp, ho, hv]
  rcases bd_run hz h1 with ⟨rfl, e1⟩ | ⟨y1, k1, rfl, e1⟩ <;> rcases bd_run hz h2 with ⟨rfl, e2⟩ | ⟨y2, k2, rfl, e2⟩
  · have : l = 0 := by omega
    subst this
    have : h = s.size := by omega
    subst this
    simp [Instr.sliceAt, Instr.slice, run_underlying hun, Instr.sliceBounds]
  · have : l = 0 := by omega
    subst this
    have g2 : h ≤ s.size := by omega
    simp [Instr.sliceAt, Instr.slice, run_underlying hun, Instr.sliceBounds, Instr.sliceBound, asIntOf, e2, g2]
  · have : h = s.size := by omega
    subst this
    have g1 : l ≤ s.size := by omega
    simp [Instr.sliceAt, Instr.slice, run_underlying hun, Instr.sliceBounds, Instr.sliceBound, asIntOf, e1, g1]
  · have g2 : h ≤ s.size := by omega
    have g1 : l ≤ h := by omega
    simp [Instr.sliceAt, Instr.slice, run_underlying hun, Instr.sliceBounds, Instr.sliceBound, asIntOf, e1, e2, g1, g2]
end
end Go.Pw
