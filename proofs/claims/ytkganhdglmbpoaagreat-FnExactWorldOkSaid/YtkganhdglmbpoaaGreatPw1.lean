/- A small engine for walks: pure values that stand for the machine's values. This text: what stands for what. -/
import Derived.WalkKit
import Derived.Below
import Derived.KernelRfl
import Derived.WalkLawsBesides
set_option linter.unusedVariables false
set_option linter.unusedSimpArgs false
namespace Go.Pw
open Go Go.RowKit

/-- A pure value. 'sl sz es o': a slice whose elements (sz cells each) are es; o: the name of a row that may be appended to. 'rp': an address that is only read from. 'bx': an address in a variable of the call's own. 'bs': a slice over such a variable. -/
inductive PV where
  | lit (v : Value)
  | agg (l : List PV)
  | tup (l : List PV)
  | sl (sz : Nat) (es : List (List PV)) (o : Option Nat)
  | rp (l : List PV)
  | bx (id off : Nat)
  | bs (id off n cap : Nat)
  | fn (f : Nat) (l : List PV)
  | may (c : Bool) (p q : PV)
  | ord (i j : Nat)
  | junk

/-- Cells that stay as they are. -/
abbrev Cells := Addr → Option Value
/-- Where the named variables and rows lie. -/
structure Mu where
  bx : Nat → Option Nat
  tk : Nat → Nat → Option Value
def Cells.le (Z Z' : Cells) : Prop := ∀ a v, Z a = some v → Z' a = some v
def Mu.le (μ μ' : Mu) : Prop := (∀ i g, μ.bx i = some g → μ'.bx i = some g) ∧ ∀ t n v, μ.tk t n = some v → μ'.tk t n = some v
def Mu.emp : Mu := ⟨fun _ => none, fun _ _ => none⟩
theorem Cells.le_refl (Z : Cells) : Z.le Z := fun _ _ h => h
theorem Cells.le_trans {a b c : Cells} (h : a.le b) (k : b.le c) : a.le c := fun x v e => k x v (h x v e)
theorem Mu.le_refl (μ : Mu) : μ.le μ := ⟨fun _ _ h => h, fun _ _ _ h => h⟩
theorem Mu.le_trans {a b c : Mu} (h : a.le b) (k : b.le c) : a.le c := ⟨fun i g e => k.1 i g (h.1 i g e), fun t n v e => k.2 t n v (h.2 t n v e)⟩

/-- The value stands for the pure value. -/
inductive Rep (Z : Cells) : Mu → PV → Value → Prop
  | lit (μ : Mu) (v : Value) : Rep Z μ (.lit v) v
  | agg (μ : Mu) (l : List PV) (cs : List Value) (hl : l.length = cs.length) (h1 : ∀ u ∈ cs, u.oneCell' = true) (h : ∀ (i : Nat) (p : PV) (v : Value), l[i]? = some p → cs[i]? = some v → Rep Z μ p v) : Rep Z μ (.agg l) (.agg cs.toArray)
  | tup (μ : Mu) (l : List PV) (cs : List Value) (hl : l.length = cs.length) (h : ∀ (i : Nat) (p : PV) (v : Value), l[i]? = some p → cs[i]? = some v → Rep Z μ p v) : Rep Z μ (.tup l) (.tuple cs.toArray)
  | sl (μ : Mu) (sz : Nat) (es : List (List PV)) (A : Option Addr) (c : Nat) (val : Nat → Nat → Value) (hc : es.length ≤ c) (hz : ∀ e ∈ es, e.length = sz)
      (hZ : 0 < es.length → ∃ ad, A = some ad ∧ ∀ (i : Nat) (e : List PV) (j : Nat) (p : PV), es[i]? = some e → e[j]? = some p → Z (ad.add (i * sz + j)) = some (val i j))
      (h1 : ∀ (i : Nat) (e : List PV) (j : Nat) (p : PV), es[i]? = some e → e[j]? = some p → (val i j).oneCell' = true)
      (h : ∀ (i : Nat) (e : List PV) (j : Nat) (p : PV), es[i]? = some e → e[j]? = some p → Rep Z Mu.emp p (val i j)) : Rep Z μ (.sl sz es none) (.slice A es.length c)
  | own (μ : Mu) (sz : Nat) (es : List (List PV)) (t : Nat) (v : Value) (h : Rep Z μ (.sl sz es none) v) (ht : μ.tk t es.length = some v) : Rep Z μ (.sl sz es (some t)) v
  | rp (μ : Mu) (l : List PV) (ad : Addr) (val : Nat → Value) (hZ : ∀ (j : Nat) (p : PV), l[j]? = some p → Z (ad.add j) = some (val j)) (h1 : ∀ (j : Nat) (p : PV), l[j]? = some p → (val j).oneCell' = true) (h : ∀ (j : Nat) (p : PV), l[j]? = some p → Rep Z Mu.emp p (val j)) : Rep Z μ (.rp l) (.pointer (some ad))
  | bx (μ : Mu) (id off g : Nat) (hg : μ.bx id = some g) : Rep Z μ (.bx id off) (.pointer (some ⟨g, off, none⟩))
  | bs (μ : Mu) (id off n cap g : Nat) (hg : μ.bx id = some g) : Rep Z μ (.bs id off n cap) (.slice (some ⟨g, off, none⟩) n cap)
  | fn (μ : Mu) (f : Nat) (l : List PV) (cs : List Value) (hl : l.length = cs.length) (h : ∀ (i : Nat) (p : PV) (v : Value), l[i]? = some p → cs[i]? = some v → Rep Z μ p v) : Rep Z μ (.fn f l) (.func (.func f) #[] cs.toArray)
  | may (μ : Mu) (c : Bool) (p q : PV) (v : Value) (h : c = true → Rep Z μ p v) (k : c = false → Rep Z μ q v) : Rep Z μ (.may c p q) v
  | ord (μ : Mu) (i j gi gj : Nat) (v : Value) (hi : μ.bx i = some gi) (hj : μ.bx j = some gj) (h : gi < gj) : Rep Z μ (.ord i j) v
  | junk (μ : Mu) (v : Value) : Rep Z μ .junk v

theorem Rep.mono {Z Z' : Cells} {μ μ' : Mu} (hz : Z.le Z') (hm : μ.le μ') {p : PV} {v : Value} (h : Rep Z μ p v) : Rep Z' μ' p v := by
  induction h generalizing μ' with
  | lit μ v => exact .lit _ v
  | agg μ l cs hl h1 _ ih => exact .agg _ l cs hl h1 (fun i p v a b => ih i p v a b hm)
  | tup μ l cs hl _ ih => exact .tup _ l cs hl (fun i p v a b => ih i p v a b hm)
  | sl μ sz es A c val hc hzz hZ h1 _ ih =>
    refine .sl _ sz es A c val hc hzz (fun h0 => ?_) h1 (fun i e j p a b => ih i e j p a b (Mu.le_refl _))
    obtain ⟨ad, rfl, h2⟩ := hZ h0
    exact ⟨ad, rfl, fun i e j p he hp => hz _ _ (h2 i e j p he hp)⟩
  | own μ sz es t v _ ht ih => exact .own _ sz es t v (ih hm) (hm.2 _ _ _ ht)
  | rp μ l ad val hZ h1 _ ih => exact .rp _ l ad val (fun j p hp => hz _ _ (hZ j p hp)) h1 (fun j p a => ih j p a (Mu.le_refl _))
  | bx μ id off g hg => exact .bx _ id off g (hm.1 _ _ hg)
  | bs μ id off n cap g hg => exact .bs _ id off n cap g (hm.1 _ _ hg)
  | fn μ f l cs hl _ ih => exact .fn _ f l cs hl (fun i p v a b => ih i p v a b hm)
  | may μ c p q v _ _ ih ik => exact .may _ c p q v (fun e => ih e hm) (fun e => ik e hm)
  | ord μ i j gi gj v hi hj h => exact .ord _ i j gi gj v (hm.1 _ _ hi) (hm.1 _ _ hj) h
  | junk μ v => exact .junk _ v
theorem Mu.emp_le (μ : Mu) : Mu.emp.le μ := ⟨fun _ _ h => (by cases h), fun _ _ _ h => (by cases h)⟩
theorem Rep.any {Z : Cells} {μ : Mu} {p : PV} {v : Value} (h : Rep Z Mu.emp p v) : Rep Z μ p v := h.mono (Cells.le_refl _) (Mu.emp_le _)

theorem beq_ne {k t : Nat} (h : k ≠ t) : k.beq t = false := by
  cases hb : k.beq t with
  | false => rfl
  | true => exact absurd (Nat.eq_of_beq_eq_true hb) h

/-- Names: a list of pairs, the newest first. -/
def lk {α : Type} : List (Nat × α) → Nat → Option α
  | [], _ => none
  | (k, x) :: r, t => bif k.beq t then some x else lk r t
theorem lk_cons {α : Type} (k t : Nat) (x : α) (r : List (Nat × α)) : lk ((k, x) :: r) t = if k = t then some x else lk r t := by
  simp only [lk]
  by_cases h : k = t
  · subst h; simp
  · rw [if_neg h]; have : k.beq t = false := beq_ne h
    rw [this]; rfl
/-- Without a name. -/
def rm {α : Type} : List (Nat × α) → Nat → List (Nat × α)
  | [], _ => []
  | (k, x) :: r, t => bif k.beq t then rm r t else (k, x) :: rm r t
theorem lk_rm {α : Type} (t u : Nat) : ∀ l : List (Nat × α), lk (rm l t) u = if t = u then none else lk l u
  | [] => by simp [rm, lk]
  | (k, x) :: r => by
    have ih := lk_rm t u r
    simp only [rm]
    by_cases h : k = t
    · subst h
      rw [show (bif k.beq k then rm r k else (k, x) :: rm r k) = rm r k by simp, ih, lk_cons]
      split <;> rfl
    · have hb : k.beq t = false := beq_ne h
      rw [hb]
      simp only [cond_false]
      rw [lk_cons, ih, lk_cons]
      by_cases h2 : k = u
      · subst h2; rw [if_pos rfl, if_neg (fun e => h e.symm), if_pos rfl]
      · rw [if_neg h2, if_neg h2]

/-- What the call owns: its variables in memory (type, cells), its rows that grow (cells an element, how many elements). -/
structure PH where
  bx : List (Nat × (Nat × List PV))
  tk : List (Nat × (Nat × Nat))
def PH.none : PH := ⟨[], []⟩

/-- A row that grows: nil, or the whole of a block of its own, of which nothing behind its end is among the cells that stay. -/
def TkOk (base : Nat) (Z : Cells) (W : World) (sz n : Nat) (v : Value) : Prop :=
  (v = .slice none 0 0 ∧ n = 0) ∨ ∃ g cap cur e, v = .slice (some ⟨g, 0, Option.none⟩) n cap ∧ W.heap[g]? = some (.cells cur e (0, 0)) ∧ n ≤ cap ∧ cap ≤ maxLen ∧ cap * sz ≤ cur.size ∧ base ≤ g ∧ ∀ off, n * sz ≤ off → Z ⟨g, off, Option.none⟩ = Option.none
def BxOk (base : Nat) (Z : Cells) (μ : Mu) (W : World) (t : Nat) (cs : List PV) (g : Nat) : Prop :=
  ∃ vs : List Value, W.heap[g]? = some (.cells vs.toArray t (0, 0)) ∧ vs.length = cs.length ∧ (∀ u ∈ vs, u.oneCell' = true) ∧ (∀ (i : Nat) (p : PV) (v : Value), cs[i]? = some p → vs[i]? = some v → Rep Z μ p v) ∧ base ≤ g ∧ ∀ off, Z ⟨g, off, Option.none⟩ = Option.none
structure RepH (base : Nat) (Z : Cells) (μ : Mu) (h : PH) (W : World) : Prop where
  bx : ∀ id t cs, lk h.bx id = some (t, cs) → ∃ g, μ.bx id = some g ∧ BxOk base Z μ W t cs g
  tk : ∀ t sz n, lk h.tk t = some (sz, n) → ∃ v, μ.tk t n = some v ∧ TkOk base Z W sz n v
  bb : ∀ i j x y g, lk h.bx i = some x → lk h.bx j = some y → μ.bx i = some g → μ.bx j = some g → i = j
  tt : ∀ t u sz n sz' n' v v' g, lk h.tk t = some (sz, n) → lk h.tk u = some (sz', n') → μ.tk t n = some v → μ.tk u n' = some v' → v.ownBlock = some g → v'.ownBlock = some g → t = u
  bd : ∀ i g, μ.bx i = some g → lk h.bx i ≠ Option.none
  td : ∀ t n v, μ.tk t n = some v → lk h.tk t ≠ Option.none
  tm : ∀ t n v sz m, μ.tk t n = some v → lk h.tk t = some (sz, m) → n ≤ m
  bt : ∀ i t x sz n v g, lk h.bx i = some x → lk h.tk t = some (sz, n) → μ.bx i = some g → μ.tk t n = some v → v.ownBlock ≠ some g
def Sub (Z : Cells) (W : World) : Prop := ∀ a v, Z a = some v → W.cell? a = some v

/-- The state of a call: what its temporaries stand for, what it owns. -/
structure PS where
  env : List (Nat × PV)
  h : PH
/-- What is fixed in a call: its program, the world when it began, the cells that stay. -/
structure Cx where
  P : Program
  w : World
  Z : Cells
  n : Nat
/-- More cells stay; what stays anew lies from block n on. -/
def Grow (Z Z' : Cells) (n : Nat) : Prop := Z.le Z' ∧ ∀ a v, Z' a = some v → Z a = some v ∨ n ≤ a.block
theorem Grow.refl (Z : Cells) (n : Nat) : Grow Z Z n := ⟨Cells.le_refl _, fun _ _ e => .inl e⟩
theorem Grow.trans {A B C : Cells} {n m : Nat} (h : Grow A B n) (k : Grow B C m) (hm : n ≤ m) : Grow A C n := ⟨Cells.le_trans h.1 k.1, fun a v e => (k.2 a v e).elim (h.2 a v) (fun x => .inr (Nat.le_trans hm x))⟩
structure EnvOk (Z : Cells) (μ : Mu) (n : Nat) (env : List (Nat × PV)) (a : Act) : Prop where
  df : a.defers = []
  sz : a.tmps.size = n
  at_ : ∀ t p, lk env t = some p → ∃ v, a.tmps[t]? = some v ∧ Rep Z μ p v
def may1 : Option PV → Option PV
  | some (.may true p _) => some p
  | some (.may false _ q) => some q
  | x => x
theorem EnvOk.may1 {Z : Cells} {μ : Mu} {n : Nat} {env : List (Nat × PV)} {a : Act} (h : EnvOk Z μ n env a) {t : Nat} {p : PV} (e : Pw.may1 (lk env t) = some p) : ∃ v, a.tmps[t]? = some v ∧ Rep Z μ p v := by
  cases hl : lk env t with
  | none => rw [hl] at e; cases e
  | some q =>
    rw [hl] at e
    obtain ⟨v, hv, hr⟩ := h.at_ t q hl
    unfold Pw.may1 at e
    split at e
    · rename_i p' h1
      cases h1
      cases e
      refine ⟨v, hv, ?_⟩
      cases hr with | may _ _ _ _ _ h _ => exact h rfl
    · rename_i q' h1
      cases h1
      cases e
      refine ⟨v, hv, ?_⟩
      cases hr with | may _ _ _ _ _ _ h => exact h rfl
    · cases e; exact ⟨v, hv, hr⟩
structure RZ (cx : Cx) (S : PS) (a : Act) (W : World) (Z : Cells) (μ : Mu) : Prop where
  env : EnvOk Z μ cx.n S.env a
  h : RepH cx.w.heap.size Z μ S.h W
  sub : Sub Z W
  le : Grow cx.Z Z cx.w.heap.size
  below : Below cx.w.heap.size cx.w W
def R (cx : Cx) (S : PS) (a : Act) (W : World) : Prop := ∃ Z μ, RZ cx S a W Z μ

/-! What one operation needs. -/
def constOf : Value → Option PV
  | .agg cs => bif cs.toList.all Value.oneCell' then some (.agg (cs.toList.map .lit)) else Option.none
  | v => some (.lit v)
def PS.ev (S : PS) : Operand → Option PV
  | .tmp t => may1 (lk S.env t)
  | .const v => constOf v
  | .func f => some (.fn f [])
  | .global _ => Option.none
def PS.put (S : PS) (d : Option Tmp) (p : PV) : PS := match d with | some t => ⟨(t, p) :: S.env, S.h⟩ | Option.none => S

theorem RZ.ev {cx : Cx} {S : PS} {a : Act} {W : World} {Z : Cells} {μ : Mu} (h : RZ cx S a W Z μ) {x : Operand} {p : PV} (e : S.ev x = some p) : Rep Z μ p (a.eval x) := by
  cases x with
  | tmp t =>
    obtain ⟨v, hv, hr⟩ := h.env.may1 e
    have : a.eval (.tmp t) = v := by simp [Act.eval, hv]
    rw [this]; exact hr
  | const v =>
    show Rep Z μ p v
    have e : constOf v = some p := e
    cases v with
    | agg cs =>
      simp only [constOf] at e
      cases hb : cs.toList.all Value.oneCell' with
      | false => rw [hb] at e; cases e
      | true =>
        rw [hb] at e
        cases e
        have := Rep.agg (Z := Z) μ (cs.toList.map .lit) cs.toList (by simp) (fun u hu => List.all_eq_true.1 hb u hu) (fun i p v hp hv => by
          rw [List.getElem?_map, hv] at hp
          cases hp
          exact .lit _ v)
        simpa using this
    | _ => cases e; exact .lit _ _
  | global g => cases e
  | func f => cases e; exact .fn _ f [] [] rfl (fun i p v h => by simp at h)
theorem EnvOk.put {Z : Cells} {μ : Mu} {n : Nat} {env : List (Nat × PV)} {a : Act} (h : EnvOk Z μ n env a) {t : Tmp} {p : PV} {v : Value} (ht : t < n) (hr : Rep Z μ p v) : EnvOk Z μ n ((t, p) :: env) (a.put (some t) v) := by
  refine ⟨h.df, by simp [Act.put, h.sz], fun u q hu => ?_⟩
  rw [lk_cons] at hu
  by_cases e : t = u
  · subst e
    rw [if_pos rfl] at hu
    cases hu
    exact ⟨v, by simp [Act.put, h.sz, ht], hr⟩
  · rw [if_neg e] at hu
    obtain ⟨x, hx, hq⟩ := h.at_ u q hu
    refine ⟨x, ?_, hq⟩
    simp only [Act.put]
    rw [Array.getElem?_setIfInBounds_ne e]
    exact hx
theorem EnvOk.mono {Z Z' : Cells} {μ μ' : Mu} {n : Nat} {env : List (Nat × PV)} {a : Act} (hz : Z.le Z') (hm : μ.le μ') (h : EnvOk Z μ n env a) : EnvOk Z' μ' n env a :=
  ⟨h.df, h.sz, fun t p e => let ⟨v, hv, hr⟩ := h.at_ t p e; ⟨v, hv, hr.mono hz hm⟩⟩
/-- A destination that lies in the frame (or none). -/
def dstOk (n : Nat) : Option Tmp → Bool
  | some t => Nat.blt t n
  | Option.none => true
theorem RZ.put {cx : Cx} {S : PS} {a : Act} {W : World} {Z : Cells} {μ : Mu} (h : RZ cx S a W Z μ) {d : Option Tmp} (hd : dstOk cx.n d = true) {p : PV} {v : Value} (hr : Rep Z μ p v) : RZ cx (S.put d p) (a.put d v) W Z μ := by
  cases d with
  | none => exact h
  | some t => exact ⟨h.env.put (by simpa [dstOk, Nat.blt_eq] using hd) hr, h.h, h.sub, h.le, h.below⟩

end Go.Pw
