/- The engine, fourteenth text: bytes as a text. -/
import Derived.Test.YtkganhdglmbpoaaGreatPw13
import Derived.Laws.BytesString
set_option linter.unusedVariables false
set_option linter.unusedSimpArgs false
namespace Go.Pw
open Go Go.RowKit

/-- The text of these bytes. -/
def strOf (l : List UInt8) : ByteArray := ⟨l.toArray⟩
theorem fold_push : ∀ (l : List UInt8) (s : ByteArray), (l.map (fun b => (b.toNat : Int))).foldl (fun r n => r.push (UInt8.ofNat n.toNat)) s = ⟨s.data ++ l.toArray⟩
  | [], s => by simp
  | b :: l, s => by
    rw [List.map_cons, List.foldl_cons, fold_push l]
    have : UInt8.ofNat ((b.toNat : Int)).toNat = b := by rw [Int.toNat_natCast]; simp
    rw [this]
    congr 1
    simp [ByteArray.push]
section
variable {cx : Cx} [TC cx.P] {S : PS} {o : Oper}
theorem OpV.toStr {x : Operand} {src dst e : Nat} {q : Option Nat} {es : List (List PV)} (l : List UInt8) {i j k : TI} (ho : o.op = .convert src dst x) (hx : S.ev x = some (.sl 1 es q)) (hl : es = l.map eb) (hi : lk (TC.T cx.P) src = some i) (hi2 : i.d = .slice e) (hk : lk (TC.T cx.P) e = some k) (hk2 : k.d = .int .u8) (hj : lk (TC.T cx.P) dst = some j) (hj2 : j.d = .str) : OpV cx o S (.lit (.string (strOf l))) := fun a W Z μ hz => by
  subst hl
  obtain ⟨A, c, val, hv, hc, hes, hZ, hu1, hu⟩ := (hz.ev hx).sl_inv
  have h1 := (TC.at_ hi).und
  have h2 := (TC.at_ hk).und
  have h3 := (TC.at_ hj).und
  rw [hi2] at h1
  rw [hk2] at h2
  rw [hj2] at h3
  have h1 : cx.P.underlying src = some (.slice e) := h1
  have h2 : cx.P.underlying e = some (.int .u8) := h2
  have h3 : cx.P.underlying dst = some .string := h3
  refine ⟨_, ?_, .lit _ _⟩
  simp only [execOp, ho, hv]
  rw [Sem.run_bind, run_convert_bytes_string W src dst e A _ _ h1 h2 h3]
  have key : (Conv.bytesToString (.slice A (l.map eb).length c)).run cx.P W = .ok (.string (strOf l)) W := by
    by_cases hl : l = []
    · subst hl
      cases A <;> simp [Conv.bytesToString, strOf] <;> rfl
    · have hlen : 0 < (l.map eb).length := by rw [List.length_map]; exact List.length_pos_iff.2 hl
      obtain ⟨ad, rfl, hZ2⟩ := hZ hlen
      have hc2 := run_cells (P := cx.P) (W := W) ad (l.map fun b => Value.int .u8 (b.toNat : Int)) (fun m v hm => by
        rw [List.getElem?_map] at hm
        obtain ⟨b, hb, rfl⟩ := Option.map_eq_some_iff.1 hm
        have he : (l.map eb)[m]? = some (eb b) := map_at hb
        have h5 := hZ2 m (eb b) 0 _ he rfl
        have h6 := (hu m (eb b) 0 _ he rfl).lit_inv
        rw [h6] at h5
        have := hz.sub _ _ h5
        simpa using this)
      rw [List.length_map] at hc2 ⊢
      have := run_bytesToString (P := cx.P) W ad l.length c (l.map fun b => (b.toNat : Int)) (by rw [hc2]; simp [Function.comp_def])
      rw [this, fold_push]
      simp [strOf]
  rw [key]
  simp
end
end Go.Pw
