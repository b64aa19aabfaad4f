/- The engine, eleventh text: handy forms; bytes and numbers. -/
import Derived.Test.YtkganhdglmbpoaaGreatPw10
set_option linter.unusedVariables false
set_option linter.unusedSimpArgs false
namespace Go.Pw
open Go Go.RowKit

def KF (S : PS) : List (Nat × PV) → Prop
  | [] => True
  | (t, q) :: r => (may1 (lk S.env t) = some q ∧ free q = true) ∧ KF S r
theorem KF.ke {S : PS} : ∀ {e : List (Nat × PV)}, KF S e → KE [] none S e []
  | [], _ => .nil
  | (t, q) :: r, h => by
    have := KE.cons (L := []) (L' := []) h.1.1 (.leaf (.f (.same q h.1.2))) (KF.ke h.2)
    exact this
/-- Only these are kept; none has a row or a box. -/
theorem Le.free {S : PS} {e : List (Nat × PV)} (h : KF S e := by repeat (first | exact trivial | refine ⟨⟨rfl, rfl⟩, ?_⟩)) : Le S ⟨e, PH.none⟩ :=
  Le.keep (L := []) (L' := []) (b := []) [] .nil h.ke rfl (by simp) (by simp)

/-- One row is kept, the rest has none. -/
theorem Le.row {S : PS} {e : List (Nat × PV)} {tv sz t τ : Nat} {es es' : List (List PV)} (h : KF S e) (hr : may1 (lk S.env tv) = some (.sl sz es' (some t))) (ht : lk S.h.tk t = some (sz, es'.length)) (hes : es' = es) : Le S ⟨(tv, .sl sz es (some τ)) :: e, ⟨[], [(τ, (sz, es.length))]⟩⟩ := by
  subst hes
  exact Le.keep (L := [(τ, ((sz, es'.length), some t))]) (L' := []) (b := []) [] .nil (.cons (L' := []) hr (.leaf (.f (.row sz es' t τ ht))) h.ke) rfl (by simp) (by simp)
theorem Le.rowNil {S : PS} {e : List (Nat × PV)} {tv sz τ : Nat} (h : KF S e) (hr : may1 (lk S.env tv) = some (.lit (.slice none 0 0))) : Le S ⟨(tv, .sl sz [] (some τ)) :: e, ⟨[], [(τ, (sz, 0))]⟩⟩ :=
  Le.keep (L := [(τ, ((sz, 0), none))]) (L' := []) (b := []) [] .nil (.cons (L' := []) hr (.leaf (.f (.nil sz τ))) h.ke) rfl (by simp) (by simp)
/-- Whole numbers within bounds. -/
theorem wrap_id {x : Int} (h0 : -9223372036854775808 ≤ x) (h1 : x ≤ 9223372036854775807) : IntKind.i64.wrap x = x := by
  have hb : IntKind.i64.bits = 64 := rfl
  have hs : IntKind.i64.signed = true := rfl
  simp [IntKind.wrap, hb, hs]
  split <;> omega
theorem inc_ok {x : Nat} (h : x < 9223372036854775807) : some (PV.lit (.int .i64 (IntKind.i64.wrap ((x : Int) + 1)))) = some (PV.lit (.int .i64 ((x + 1 : Nat) : Int))) := by
  rw [wrap_id (by omega) (by omega)]
  rfl

/-- Bytes. -/
def eb (b : UInt8) : List PV := [.lit (.int .u8 (b.toNat : Int))]
def eBs (l : List UInt8) : PV := .sl 1 (l.map eb) none
theorem map_at {α β : Type} {f : α → β} {l : List α} {i : Nat} {x : α} (h : l[i]? = some x) : (l.map f)[i]? = some (f x) := by simp [h]
theorem map_at' {α β : Type} {f : α → β} {l : List α} {i : Nat} {x : α} (h : l[i]? = some x) : (l.map f)[((i : Nat) : Int).toNat]? = some (f x) := by simp [h]
theorem nat_nonneg (i : Nat) : (0 : Int) ≤ (i : Int) := Int.natCast_nonneg i
section
variable {cx : Cx} [TC cx.P] {S : PS} {o : Oper}
theorem OpV.idxS {x y : Operand} {s : ByteArray} {t : Nat} {k : IntKind} {n : Int} {b : UInt8} (ho : o.op = .index t x y) (hx : S.ev x = some (.lit (.string s))) (hy : S.ev y = some (.lit (.int k n))) (h0 : 0 ≤ n) (hb : s.data.toList[n.toNat]? = some b) {i : TI} (ht : lk (TC.T cx.P) t = some i) (hd : i.d = .str) : OpV cx o S (.lit (.int .u8 (b.toNat : Int))) := by
  have h1 : n.toNat < s.size := by
    have := (List.getElem?_eq_some_iff.1 hb).1
    rw [Array.length_toList] at this
    exact this
  have h2 : s[n.toNat]'h1 = b := by
    have h3 := (List.getElem?_eq_some_iff.1 hb).2
    rw [← h3]
    rfl
  have := OpV.idxStr ho hx hy h0 h1 ht hd
  rw [h2] at this
  exact this
end
end Go.Pw
