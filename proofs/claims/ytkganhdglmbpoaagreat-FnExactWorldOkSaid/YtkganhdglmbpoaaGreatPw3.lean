/- The engine, third text: operations that give a value and leave the world as it is. -/
import Derived.Test.YtkganhdglmbpoaaGreatPw2
set_option linter.unusedVariables false
set_option linter.unusedSimpArgs false
namespace Go.Pw
open Go Go.RowKit

inductive TD where
  | int (k : IntKind) | bool | str | slice (e : Nat) | struct (fs : List (Nat × Nat)) | array (n e : Nat) | other
structure TI where
  d : TD
  sz : Nat
  agg : Bool
  zero : Value
  bytes : Nat
def TDok (P : Program) (t : Nat) : TD → Prop
  | .int k => P.underlying t = some (.int k)
  | .bool => P.underlying t = some .bool
  | .str => P.underlying t = some .string
  | .slice e => P.underlying t = some (.slice e)
  | .struct fs => ∃ F : Array Field, P.underlying t = some (.struct F) ∧ F.toList.map (fun f => (f.offset, f.type)) = fs
  | .array n e => P.underlying t = some (.array n e)
  | .other => True
structure TIok (P : Program) (t : Nat) (i : TI) : Prop where
  size : ∀ w, (sizeOf t).run P w = .ok i.sz w
  agg : ∀ w, (isAgg t).run P w = .ok i.agg w
  zero : ∀ w, (zeroValue t).run P w = .ok i.zero w
  info : ∃ ti, P.info? t = some ti ∧ ti.size = i.sz ∧ ti.bytes = i.bytes ∧ ti.zero = some i.zero
  und : TDok P t i.d
/-- What is known of a program's types. -/
class TC (P : Program) where
  T : List (Nat × TI)
  ok : ∀ x ∈ T, TIok P x.1 x.2
theorem lk_mem {α : Type} : ∀ {l : List (Nat × α)} {t : Nat} {x : α}, lk l t = some x → (t, x) ∈ l
  | [], _, _, h => by cases h
  | (k, y) :: r, t, x, h => by
    rw [lk_cons] at h
    by_cases e : k = t
    · subst e; rw [if_pos rfl] at h; cases h; exact List.mem_cons_self
    · rw [if_neg e] at h; exact List.mem_cons_of_mem _ (lk_mem h)
theorem TC.at_ {P : Program} [TC P] {t : Nat} {i : TI} (h : lk (TC.T P) t = some i) : TIok P t i := TC.ok (t, i) (lk_mem h)

theorem Rep.lit_inv {Z : Cells} {μ : Mu} {u v : Value} (h : Rep Z μ (.lit u) v) : v = u := by cases h; rfl

section
variable {cx : Cx} {S : PS} {o : Oper}
theorem OpV.move {x : Operand} {p : PV} (ho : o.op = .move x) (h : S.ev x = some p) : OpV cx o S p := fun a W Z μ hz => ⟨a.eval x, by simp [execOp, ho], hz.ev h⟩
theorem OpV.assign {x : Operand} {p : PV} (ho : o.op = .assign x) (h : S.ev x = some p) : OpV cx o S p := fun a W Z μ hz => ⟨a.eval x, by simp [execOp, ho], hz.ev h⟩
theorem OpV.pickT {c x y : Operand} {p : PV} (ho : o.op = .pick c x y) (hc : S.ev c = some (.lit (.bool true))) (h : S.ev x = some p) : OpV cx o S p := fun a W Z μ hz => by
  have e := (hz.ev hc).lit_inv
  exact ⟨a.eval x, by simp [execOp, ho, e, asBool], hz.ev h⟩
theorem OpV.pickF {c x y : Operand} {p : PV} (ho : o.op = .pick c x y) (hc : S.ev c = some (.lit (.bool false))) (h : S.ev y = some p) : OpV cx o S p := fun a W Z μ hz => by
  have e := (hz.ev hc).lit_inv
  exact ⟨a.eval y, by simp [execOp, ho, e, asBool], hz.ev h⟩

/-- Whole numbers. -/
def binI (op : BinOp) (k : IntKind) (a b : Int) : Option Value :=
  match op with
  | .add => some (.int k (k.wrap (a + b)))
  | .sub => some (.int k (k.wrap (a - b)))
  | .mul => some (.int k (k.wrap (a * b)))
  | .lss => some (.bool (decide (a < b)))
  | .leq => some (.bool (decide (a ≤ b)))
  | .gtr => some (.bool (decide (b < a)))
  | .geq => some (.bool (decide (b ≤ a)))
  | .eql => some (.bool (decide (a = b)))
  | .neq => some (.bool (!decide (a = b)))
  | .and | .or | .xor => some (.int k (bits op k a b))
  | _ => none
theorem OpV.bin {op : BinOp} {t : TypeId} {x y : Operand} {yt : TypeId} {k : IntKind} {m n : Int} {v : Value} (ho : o.op = .binOp op t x y yt) (hx : S.ev x = some (.lit (.int k m))) (hy : S.ev y = some (.lit (.int k n))) (hv : binI op k m n = some v) : OpV cx o S (.lit v) := fun a W Z μ hz => by
  have ex := (hz.ev hx).lit_inv
  have ey := (hz.ev hy).lit_inv
  refine ⟨v, ?_, .lit _ v⟩
  cases op <;> simp only [binI, Option.some.injEq, reduceCtorEq] at hv <;> subst hv <;> simp only [execOp, ho, ex, ey] <;> simp [go_sem, binOp, Op.intBits, Int.decEq, bits]
  · exact Bool.eq_iff_iff.2 (by simp)
  · exact Bool.eq_iff_iff.2 (by simp)
theorem OpV.shl {t : TypeId} {x y : Operand} {yt : TypeId} {k k' : IntKind} {m n : Int} (ho : o.op = .binOp .shl t x y yt) (hx : S.ev x = some (.lit (.int k m))) (hy : S.ev y = some (.lit (.int k' n))) (hn : 0 ≤ n) : OpV cx o S (.lit (.int k (k.wrap (m * 2 ^ min n.toNat k.bits)))) := fun a W Z μ hz => by
  have ex := (hz.ev hx).lit_inv
  have ey := (hz.ev hy).lit_inv
  refine ⟨_, ?_, .lit _ _⟩
  have h0 : ¬ n < 0 := by omega
  simp only [execOp, ho, ex, ey]
  simp [go_sem, binOp, Op.shift, h0]
theorem OpV.shr {t : TypeId} {x y : Operand} {yt : TypeId} {k k' : IntKind} {m n : Int} (ho : o.op = .binOp .shr t x y yt) (hx : S.ev x = some (.lit (.int k m))) (hy : S.ev y = some (.lit (.int k' n))) (hn : 0 ≤ n) : OpV cx o S (.lit (.int k (m / 2 ^ min n.toNat k.bits))) := fun a W Z μ hz => by
  have ex := (hz.ev hx).lit_inv
  have ey := (hz.ev hy).lit_inv
  refine ⟨_, ?_, .lit _ _⟩
  have h0 : ¬ n < 0 := by omega
  have hp : (0 : Int) ≤ 2 ^ min n.toNat k.bits := Int.pow_nonneg (by decide)
  rw [← Int.fdiv_eq_ediv_of_nonneg m hp]
  simp only [execOp, ho, ex, ey]
  simp [go_sem, binOp, Op.shift, h0]
theorem OpV.quo {t : TypeId} {x y : Operand} {yt : TypeId} {k : IntKind} {m n : Int} (ho : o.op = .binOp .quo t x y yt) (hx : S.ev x = some (.lit (.int k m))) (hy : S.ev y = some (.lit (.int k n))) (hn : n ≠ 0) : OpV cx o S (.lit (.int k (k.wrap (m.tdiv n)))) := fun a W Z μ hz => by
  have ex := (hz.ev hx).lit_inv
  have ey := (hz.ev hy).lit_inv
  refine ⟨_, ?_, .lit _ _⟩
  simp only [execOp, ho, ex, ey]
  simp [go_sem, binOp, Op.intDiv, hn]
theorem OpV.rem {t : TypeId} {x y : Operand} {yt : TypeId} {k : IntKind} {m n : Int} (ho : o.op = .binOp .rem t x y yt) (hx : S.ev x = some (.lit (.int k m))) (hy : S.ev y = some (.lit (.int k n))) (hn : n ≠ 0) : OpV cx o S (.lit (.int k (m.tmod n))) := fun a W Z μ hz => by
  have ex := (hz.ev hx).lit_inv
  have ey := (hz.ev hy).lit_inv
  refine ⟨_, ?_, .lit _ _⟩
  simp only [execOp, ho, ex, ey]
  simp [go_sem, binOp, Op.intDiv, hn]
/-- Texts. -/
theorem toList_inj {a b : ByteArray} : a.toList = b.toList ↔ a = b := by
  constructor
  · intro h
    have := congrArg List.toArray h
    rw [ByteArray.toList_eq, ByteArray.toList_eq] at h
    cases a; cases b
    simp at h
    exact congrArg _ h
  · rintro rfl; rfl
def strI (op : BinOp) (a b : ByteArray) : Option Value :=
  match op with
  | .eql => some (.bool (decide (a = b)))
  | .neq => some (.bool (!decide (a = b)))
  | _ => none
theorem OpV.str {op : BinOp} {t : TypeId} {x y : Operand} {yt : TypeId} {m n : ByteArray} {v : Value} (ho : o.op = .binOp op t x y yt) (hx : S.ev x = some (.lit (.string m))) (hy : S.ev y = some (.lit (.string n))) (hv : strI op m n = some v) : OpV cx o S (.lit v) := fun a W Z μ hz => by
  have ex := (hz.ev hx).lit_inv
  have ey := (hz.ev hy).lit_inv
  refine ⟨v, ?_, .lit _ v⟩
  have e : (m.toList == n.toList) = decide (m = n) := Bool.eq_iff_iff.2 (by simp [toList_inj])
  cases op <;> simp only [strI, Option.some.injEq, reduceCtorEq] at hv <;> subst hv <;> simp only [execOp, ho, ex, ey] <;> simp [go_sem, binOp, Op.stringOp, e]
theorem OpV.cat {t : TypeId} {x y : Operand} {yt : TypeId} {m n : ByteArray} (ho : o.op = .binOp .add t x y yt) (hx : S.ev x = some (.lit (.string m))) (hy : S.ev y = some (.lit (.string n))) (hn : m.size + n.size ≤ 9223372036854775807) : OpV cx o S (.lit (.string (m ++ n))) := fun a W Z μ hz => by
  have ex := (hz.ev hx).lit_inv
  have ey := (hz.ev hy).lit_inv
  refine ⟨_, ?_, .lit _ _⟩
  simp only [execOp, ho, ex, ey]
  have h : ¬ (((m.size + n.size : Nat) : Int) > IntKind.i64.max) := by simp; omega
  simp only [eqGuard_add, Sem.run_bind, Sem.run_pure, Result.andThen_ok, binOp, Op.stringOp, if_neg h]
theorem OpV.not {t : TypeId} {x : Operand} {b : Bool} (ho : o.op = .unOp .not t x) (hx : S.ev x = some (.lit (.bool b))) : OpV cx o S (.lit (.bool (!b))) := fun a W Z μ hz => by
  have ex := (hz.ev hx).lit_inv
  refine ⟨_, ?_, .lit _ _⟩
  simp only [execOp, ho, ex]
  simp [Op.unary]
theorem OpV.neg {t : TypeId} {x : Operand} {k : IntKind} {n : Int} (ho : o.op = .unOp .neg t x) (hx : S.ev x = some (.lit (.int k n))) : OpV cx o S (.lit (.int k (k.wrap (0 - n)))) := fun a W Z μ hz => by
  have ex := (hz.ev hx).lit_inv
  refine ⟨_, ?_, .lit _ _⟩
  simp only [execOp, ho, ex]
  simp [Op.unary, go_sem]
theorem OpV.extract {x : Operand} {i : Nat} {l : List PV} {p : PV} (ho : o.op = .extract x i) (hx : S.ev x = some (.tup l)) (hi : l[i]? = some p) : OpV cx o S p := fun a W Z μ hz => by
  have hr := hz.ev hx
  generalize hv : a.eval x = v at hr
  cases hr with
  | tup _ _ cs hl h =>
    obtain ⟨u, hu⟩ : ∃ u, cs[i]? = some u := ⟨cs[i]'(by have := (List.getElem?_eq_some_iff.1 hi).1; omega), List.getElem?_eq_getElem _⟩
    refine ⟨u, ?_, h i p u hi hu⟩
    simp only [execOp, ho, hv]
    simp [Instr.extract, hu]
theorem OpV.func {f : Nat} {l : List PV} (caps : Array Operand) (ho : o.op = .makeFunc (.func f) #[] caps) (hl : caps.toList.mapM S.ev = some l) : OpV cx o S (.fn f l) := fun a W Z μ hz => by
  have key : ∀ (cs : List Operand) (l : List PV), cs.mapM S.ev = some l → l.length = (cs.map a.eval).length ∧ ∀ (i : Nat) (p : PV) (v : Value), l[i]? = some p → (cs.map a.eval)[i]? = some v → Rep Z μ p v := by
    intro cs
    induction cs with
    | nil => intro l h; simp at h; subst h; exact ⟨rfl, fun i p v h => by simp at h⟩
    | cons c cs ih =>
      intro l h
      simp only [List.mapM_cons, Option.bind_eq_bind, Option.bind_eq_some_iff] at h
      obtain ⟨p0, h0, l', h1, h2⟩ := h
      simp at h2
      subst h2
      obtain ⟨e1, e2⟩ := ih l' h1
      refine ⟨by simp at e1 ⊢; exact e1, fun i p v hp hv => ?_⟩
      cases i with
      | zero => simp at hp hv; subst hp; subst hv; exact hz.ev h0
      | succ i => simp only [List.getElem?_cons_succ, List.map_cons] at hp hv; exact e2 i p v hp hv
  obtain ⟨e1, e2⟩ := key _ _ hl
  refine ⟨.func (.func f) #[] (caps.toList.map a.eval).toArray, ?_, .fn _ f l _ e1 e2⟩
  simp only [execOp, ho]
  simp [Instr.makeFunc]
  exact (Array.toList_map ..).symm ▸ rfl

/-! Slices that are read. -/
theorem Rep.sl_inv {Z : Cells} {μ : Mu} {sz : Nat} {es : List (List PV)} {q : Option Nat} {v : Value} (h : Rep Z μ (.sl sz es q) v) : ∃ (A : Option Addr) (c : Nat) (val : Nat → Nat → Value), v = .slice A es.length c ∧ es.length ≤ c ∧ (∀ e ∈ es, e.length = sz) ∧
    (0 < es.length → ∃ ad : Addr, A = some ad ∧ ∀ (i : Nat) (e : List PV) (j : Nat) (p : PV), es[i]? = some e → e[j]? = some p → Z (ad.add (i * sz + j)) = some (val i j)) ∧
    (∀ (i : Nat) (e : List PV) (j : Nat) (p : PV), es[i]? = some e → e[j]? = some p → (val i j).oneCell' = true) ∧
    ∀ (i : Nat) (e : List PV) (j : Nat) (p : PV), es[i]? = some e → e[j]? = some p → Rep Z Mu.emp p (val i j) := by
  cases h with
  | sl _ _ _ A c val hc hz hZ h1 h => exact ⟨A, c, val, rfl, hc, hz, hZ, h1, h⟩
  | own _ _ _ t _ h ht =>
    cases h with
    | sl _ _ _ A c val hc hz hZ h1 h => exact ⟨A, c, val, rfl, hc, hz, hZ, h1, h⟩
theorem add_add (a : Addr) (m n : Nat) : (a.add m).add n = a.add (m + n) := by
  unfold Addr.add
  by_cases hn : n = 0
  · subst hn; simp
  · by_cases hm : m = 0
    · subst hm; simp [hn]
    · rw [if_neg hn, if_neg hm, if_neg (by omega)]
      simp [Nat.add_assoc]
end
section
variable {cx : Cx} [TC cx.P] {S : PS} {o : Oper}
theorem OpV.len {x : Operand} {sz : Nat} {es : List (List PV)} {q : Option Nat} {t e : Nat} (ho : o.op = .call { callee := .builtin .len, args := #[x], argTypes := #[t] }) (hx : S.ev x = some (.sl sz es q)) {i : TI} (ht : lk (TC.T cx.P) t = some i) (hd : i.d = .slice e) : OpV cx o S (.lit (.int .i64 es.length)) := fun a W Z μ hz => by
  obtain ⟨A, c, val, hv, _⟩ := (hz.ev hx).sl_inv
  refine ⟨_, ?_, .lit _ _⟩
  have hu := (TC.at_ ht).und
  rw [hd] at hu
  have hu : cx.P.underlying t = some (.slice e) := hu
  simp only [execOp, ho]
  simp [resolve, invoke, builtin, hv, Builtin.len_, run_underlying hu, goInt]
theorem OpV.lenNil {x : Operand} {t e : Nat} (ho : o.op = .call { callee := .builtin .len, args := #[x], argTypes := #[t] }) (hx : S.ev x = some (.lit (.slice none 0 0))) {i : TI} (ht : lk (TC.T cx.P) t = some i) (hd : i.d = .slice e) : OpV cx o S (.lit (.int .i64 0)) := fun a W Z μ hz => by
  have hv := (hz.ev hx).lit_inv
  refine ⟨_, ?_, .lit _ _⟩
  have hu := (TC.at_ ht).und
  rw [hd] at hu
  have hu : cx.P.underlying t = some (.slice e) := hu
  simp only [execOp, ho]
  simp [resolve, invoke, builtin, hv, Builtin.len_, run_underlying hu, goInt]
theorem OpV.lenStr {x : Operand} {s : ByteArray} {t : Nat} (ho : o.op = .call { callee := .builtin .len, args := #[x], argTypes := #[t] }) (hx : S.ev x = some (.lit (.string s))) {i : TI} (ht : lk (TC.T cx.P) t = some i) (hd : i.d = .str) : OpV cx o S (.lit (.int .i64 s.size)) := fun a W Z μ hz => by
  have hv := (hz.ev hx).lit_inv
  refine ⟨_, ?_, .lit _ _⟩
  have hu := (TC.at_ ht).und
  rw [hd] at hu
  have hu : cx.P.underlying t = some .string := hu
  simp only [execOp, ho]
  simp [resolve, invoke, builtin, hv, Builtin.len_, run_underlying hu, goInt]
theorem OpV.idx {x y : Operand} {sz : Nat} {es : List (List PV)} {q : Option Nat} {t e : Nat} {k : IntKind} {n : Int} {l : List PV} (ho : o.op = .indexAddr t x y) (hx : S.ev x = some (.sl sz es q)) (hy : S.ev y = some (.lit (.int k n))) (h0 : 0 ≤ n) (hl : es[n.toNat]? = some l) {i j : TI} (ht : lk (TC.T cx.P) t = some i) (hd : i.d = .slice e) (he : lk (TC.T cx.P) e = some j) (hsz : j.sz = sz) : OpV cx o S (.rp l) := fun a W Z μ hz => by
  obtain ⟨A, c, val, hv, _, hes, hZ, h1, h⟩ := (hz.ev hx).sl_inv
  have ey := (hz.ev hy).lit_inv
  have hlt := (List.getElem?_eq_some_iff.1 hl).1
  obtain ⟨ad, rfl, hZ2⟩ := hZ (by omega)
  have hu := (TC.at_ ht).und
  rw [hd] at hu
  have hu : cx.P.underlying t = some (.slice e) := hu
  have hs := (TC.at_ he).size
  refine ⟨.pointer (some (ad.add (n.toNat * sz))), ?_, .rp _ l _ (fun m => val n.toNat m) (fun m p hp => ?_) (fun m p hp => h1 _ _ _ _ hl hp) (fun m p hp => h _ _ _ _ hl hp)⟩
  · simp only [execOp, ho]
    have hin : 0 ≤ n ∧ n < (es.length : Int) := ⟨h0, by omega⟩
    simp [hv, ey, Instr.indexAt, run_underlying hu, asIntOf, hin, hs, hsz]
  · rw [add_add]
    exact hZ2 _ _ _ _ hl hp
theorem OpV.idxStr {x y : Operand} {s : ByteArray} {t : Nat} {k : IntKind} {n : Int} (ho : o.op = .index t x y) (hx : S.ev x = some (.lit (.string s))) (hy : S.ev y = some (.lit (.int k n))) (h0 : 0 ≤ n) (h1 : n.toNat < s.size) {i : TI} (ht : lk (TC.T cx.P) t = some i) (hd : i.d = .str) : OpV cx o S (.lit (.int .u8 (s[n.toNat]'h1).toNat)) := fun a W Z μ hz => by
  have ex := (hz.ev hx).lit_inv
  have ey := (hz.ev hy).lit_inv
  have hu := (TC.at_ ht).und
  rw [hd] at hu
  have hu : cx.P.underlying t = some .string := hu
  refine ⟨_, ?_, .lit _ _⟩
  simp only [execOp, ho, ex, ey]
  rw [Sem.run_bind, run_index_string W t s k n hu, dif_pos ⟨h0, by omega⟩]
  rfl
/-- A whole variable's cells as a value. -/
def packed (agg : Bool) (sz : Nat) (l : List PV) : Option PV :=
  bif agg then (bif Nat.beq (l.take sz).length sz then some (.agg (l.take sz)) else none) else l.head?
theorem run_cells {P : Program} {W : World} (ad : Addr) (cs : List Value) (h : ∀ j v, cs[j]? = some v → W.cell? (ad.add j) = some v) : (loadCells ad cs.length).run P W = .ok cs.toArray W := run_loadCells_list (P := P) W ad cs h
theorem load_packed {P : Program} [TC P] {W : World} {Z : Cells} {μ : Mu} {t : Nat} {i : TI} (ht : lk (TC.T P) t = some i) {l : List PV} {p : PV} (hp : packed i.agg i.sz l = some p) (ad : Addr) (val : Nat → Value)
    (hv : ∀ (j : Nat) (q : PV), l[j]? = some q → W.cell? (ad.add j) = some (val j)) (h1 : ∀ (j : Nat) (q : PV), l[j]? = some q → (val j).oneCell' = true) (h : ∀ (j : Nat) (q : PV), l[j]? = some q → Rep Z μ q (val j)) :
    ∃ v, (loadVar t ad).run P W = .ok v W ∧ Rep Z μ p v := by
  have hi := TC.at_ ht
  cases hg : i.agg with
  | false =>
    rw [hg] at hp
    cases l with
    | nil => cases hp
    | cons q r =>
      simp only [packed, cond_false, List.head?_cons, Option.some.injEq] at hp
      subst hp
      have hc := hv 0 q rfl
      rw [Addr.add_zero'] at hc
      refine ⟨val 0, ?_, h 0 q rfl⟩
      simp [loadVar, hi.agg, hg, run_load, hc]
  | true =>
    rw [hg] at hp
    simp only [packed, cond_true] at hp
    cases hb : Nat.beq (l.take i.sz).length i.sz with
    | false => rw [hb] at hp; cases hp
    | true =>
      rw [hb] at hp
      simp only [cond_true, Option.some.injEq] at hp
      subst hp
      have hlen := Nat.eq_of_beq_eq_true hb
      have hle : i.sz ≤ l.length := by rw [List.length_take] at hlen; omega
      have hget : ∀ j, j < i.sz → ∃ q, l[j]? = some q ∧ (l.take i.sz)[j]? = some q := fun j hj =>
        ⟨l[j]'(by omega), List.getElem?_eq_getElem _, by rw [List.getElem?_take_of_lt hj]; exact List.getElem?_eq_getElem _⟩
      have hcs : ((List.range i.sz).map val).length = i.sz := by simp
      refine ⟨.agg ((List.range i.sz).map val).toArray, ?_, .agg _ _ _ (by rw [hcs]; exact hlen) (fun u hu => ?_) (fun j q v hq hv' => ?_)⟩
      · have hr := run_cells (P := P) (W := W) ad ((List.range i.sz).map val) (fun j v hj => by
          have hjl : j < i.sz := by have := (List.getElem?_eq_some_iff.1 hj).1; rwa [hcs] at this
          obtain ⟨q, hq, _⟩ := hget j hjl
          rw [List.getElem?_map, List.getElem?_range hjl] at hj
          cases hj
          exact hv j q hq)
        rw [hcs] at hr
        simp [loadVar, hi.agg, hg, hi.size, hr]
      · rw [List.mem_map] at hu
        obtain ⟨j, hj, rfl⟩ := hu
        obtain ⟨q, hq, _⟩ := hget j (List.mem_range.1 hj)
        exact h1 j q hq
      · have hjl : j < i.sz := by have := (List.getElem?_eq_some_iff.1 hv').1; rwa [hcs] at this
        obtain ⟨q', hq', hq2⟩ := hget j hjl
        rw [hq2] at hq
        cases hq
        rw [List.getElem?_map, List.getElem?_range hjl] at hv'
        cases hv'
        exact h j q hq'
theorem OpV.load {x : Operand} {t : Nat} {l : List PV} {p : PV} (ho : o.op = .load t x) (hx : S.ev x = some (.rp l)) {i : TI} (ht : lk (TC.T cx.P) t = some i) (hp : packed i.agg i.sz l = some p) : OpV cx o S p := fun a W Z μ hz => by
  have hr := hz.ev hx
  generalize hv : a.eval x = v at hr
  cases hr with
  | rp _ _ ad val hZ h1 h =>
    obtain ⟨u, hu, hq⟩ := load_packed (μ := μ) ht hp ad val (fun j q e => hz.sub _ _ (hZ j q e)) h1 (fun j q e => (h j q e).any)
    refine ⟨u, ?_, hq⟩
    simp only [execOp, ho]
    simp [hv, Instr.loadAt, Instr.sureAddr, hu]
/-- A variable of the call's own, read from some place on. -/
theorem OpV.loadB {x : Operand} {t id off bt : Nat} {cs : List PV} {p : PV} (ho : o.op = .load t x) (hx : S.ev x = some (.bx id off)) (hb : lk S.h.bx id = some (bt, cs)) {i : TI} (ht : lk (TC.T cx.P) t = some i) (hp : packed i.agg i.sz (cs.drop off) = some p) : OpV cx o S p := fun a W Z μ hz => by
  have hr := hz.ev hx
  generalize hv : a.eval x = v at hr
  cases hr with
  | bx _ _ _ g hg =>
    obtain ⟨g', hg', vs, hh, hlen, h1, hrep, _, _⟩ := hz.h.bx id bt cs hb
    rw [hg] at hg'
    cases hg'
    have hex : ∀ (j : Nat) (q : PV), (cs.drop off)[j]? = some q → ∃ u, vs[off + j]? = some u ∧ cs[off + j]? = some q := fun j q e => by
      rw [List.getElem?_drop] at e
      have := (List.getElem?_eq_some_iff.1 e).1
      exact ⟨vs[off + j]'(by omega), List.getElem?_eq_getElem _, e⟩
    obtain ⟨u, hu, hq⟩ := load_packed (W := W) (μ := μ) ht hp ⟨g, off, none⟩ (fun j => (vs[off + j]?).getD undef) (fun j q e => by
        obtain ⟨u, hu, _⟩ := hex j q e
        rw [Addr.add_lit, hu]
        simp [World.cell?, hh, hu]) (fun j q e => by
        obtain ⟨u, hu, _⟩ := hex j q e
        rw [hu]
        exact h1 _ (List.mem_of_getElem? hu)) (fun j q e => by
        obtain ⟨u, hu, hc⟩ := hex j q e
        rw [hu]
        exact hrep _ _ _ hc hu)
    refine ⟨u, ?_, hq⟩
    simp only [execOp, ho]
    simp [hv, Instr.loadAt, Instr.sureAddr, hu]
theorem field_at {P : Program} [TC P] {s n off ft : Nat} {i j : TI} {fs : List (Nat × Nat)} (hs : lk (TC.T P) s = some i) (hd : i.d = .struct fs) (hf : fs[n]? = some (off, ft)) (hj : lk (TC.T P) ft = some j) (hz : j.sz ≠ 0) (ad : Addr) (W : World) : (Instr.fieldAt s (.pointer (some ad)) n).run P W = .ok (.pointer (some (ad.add off))) W := by
  have hu := (TC.at_ hs).und
  rw [hd] at hu
  obtain ⟨F, hF, hm⟩ := hu
  rw [← hm, List.getElem?_map] at hf
  obtain ⟨f, hf1, hf2⟩ := Option.map_eq_some_iff.1 hf
  cases hf2
  rw [Array.getElem?_toList] at hf1
  simp [Instr.fieldAt, run_underlying hF, hf1, Instr.sureAddr, fieldPlace, (TC.at_ hj).size, hz]
theorem OpV.fld {x : Operand} {s n off ft : Nat} {l : List PV} {i j : TI} {fs : List (Nat × Nat)} (ho : o.op = .fieldAddr s x n) (hx : S.ev x = some (.rp l)) (hs : lk (TC.T cx.P) s = some i) (hd : i.d = .struct fs) (hf : fs[n]? = some (off, ft)) (hj : lk (TC.T cx.P) ft = some j) (hne : j.sz ≠ 0) : OpV cx o S (.rp (l.drop off)) := fun a W Z μ hz => by
  have hr := hz.ev hx
  generalize hv : a.eval x = v at hr
  cases hr with
  | rp _ _ ad val hZ h1 h =>
    refine ⟨.pointer (some (ad.add off)), ?_, .rp _ _ _ (fun m => val (off + m)) (fun m p hp => ?_) (fun m p hp => h1 _ p (by rwa [List.getElem?_drop] at hp)) (fun m p hp => h _ p (by rwa [List.getElem?_drop] at hp))⟩
    · simp only [execOp, ho]
      simp [hv, field_at hs hd hf hj hne]
    · rw [List.getElem?_drop] at hp
      rw [add_add]
      exact hZ _ _ hp
theorem OpV.fldB {x : Operand} {s n off ft id o0 : Nat} {i j : TI} {fs : List (Nat × Nat)} (ho : o.op = .fieldAddr s x n) (hx : S.ev x = some (.bx id o0)) (hs : lk (TC.T cx.P) s = some i) (hd : i.d = .struct fs) (hf : fs[n]? = some (off, ft)) (hj : lk (TC.T cx.P) ft = some j) (hne : j.sz ≠ 0) : OpV cx o S (.bx id (o0 + off)) := fun a W Z μ hz => by
  have hr := hz.ev hx
  generalize hv : a.eval x = v at hr
  cases hr with
  | bx _ _ _ g hg =>
    refine ⟨.pointer (some ⟨g, o0 + off, none⟩), ?_, .bx _ _ _ _ hg⟩
    simp only [execOp, ho]
    simp [hv, field_at hs hd hf hj hne, Addr.add_lit]
omit [TC cx.P] in
theorem OpV.nilc {x : Operand} {l : List PV} (ho : o.op = .nilCheck x) (hx : S.ev x = some (.rp l)) : OpV cx o S (.rp l) := fun a W Z μ hz => by
  have hr := hz.ev hx
  refine ⟨a.eval x, ?_, hr⟩
  generalize hv : a.eval x = v at hr
  cases hr with
  | rp _ _ ad val hZ h1 h =>
    simp only [execOp, ho]
    simp [hv]
omit [TC cx.P] in
theorem OpV.nilcB {x : Operand} {id o0 : Nat} (ho : o.op = .nilCheck x) (hx : S.ev x = some (.bx id o0)) : OpV cx o S (.bx id o0) := fun a W Z μ hz => by
  have hr := hz.ev hx
  refine ⟨a.eval x, ?_, hr⟩
  generalize hv : a.eval x = v at hr
  cases hr with
  | bx _ _ _ g hg =>
    simp only [execOp, ho]
    simp [hv]
theorem OpV.conv {x : Operand} {src dst : Nat} {k k' : IntKind} {n : Int} {i j : TI} (ho : o.op = .convert src dst x) (hx : S.ev x = some (.lit (.int k n))) (hi : lk (TC.T cx.P) src = some i) (hi2 : i.d = .int k) (hj : lk (TC.T cx.P) dst = some j) (hj2 : j.d = .int k') : OpV cx o S (.lit (.int k' (k'.wrap n))) := fun a W Z μ hz => by
  have ex := (hz.ev hx).lit_inv
  have h1 := (TC.at_ hi).und
  have h2 := (TC.at_ hj).und
  rw [hi2] at h1
  rw [hj2] at h2
  have h1 : cx.P.underlying src = some (.int k) := h1
  have h2 : cx.P.underlying dst = some (.int k') := h2
  refine ⟨_, ?_, .lit _ _⟩
  simp only [execOp, ho, ex]
  simp [convert, run_underlying h1, run_underlying h2, Conv.intToInt]
end
end Go.Pw
