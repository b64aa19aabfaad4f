/- A small engine for walks: pure values that stand for the machine's values. This text: what stands for what. The engine, second text: what a piece of code comes to, over pure states; contracts. The engine, third text: operations that give a value and leave the world as it is. The engine, fourth text: operations that make memory, or write into what the call owns; calls; the end. The engine, fifth text: literals, append, make; calls; the end of a call. The engine, sixth text: append; make; calls; the end of a call. The engine, seventh text: calls; the end of a call. The engine, eighth text: a stretch of operations at once. -/
import Derived.WalkKit
import Derived.Below
import Derived.KernelRfl
import Derived.WalkLawsBesides
import Derived.Deep.LoopGhost
set_option linter.unusedVariables false
set_option linter.unusedSimpArgs false
namespace Go.Pw
open Go Go.RowKit

/-- A pure value. 'sl sz es o': a slice whose elements (sz cells each) are es; o: the name of a row that may be appended to. 'rp': an address that is only read from. 'bx': an address in a variable of the call's own. 'bs': a slice over such a variable. -/
inductive PV where
  | lit (v : Value)
  | agg (l : List PV)
  | tup (l : List PV)
  | sl (sz : Nat) (es : List (List PV)) (o : Option Nat)
  | rp (l : List PV)
  | bx (id off : Nat)
  | bs (id off n cap : Nat)
  | fn (f : Nat) (l : List PV)
  | may (c : Bool) (p q : PV)
  | ord (i j : Nat)
  | junk

/-- Cells that stay as they are. -/
abbrev Cells := Addr → Option Value
/-- Where the named variables and rows lie. -/
structure Mu where
  bx : Nat → Option Nat
  tk : Nat → Nat → Option Value
def Cells.le (Z Z' : Cells) : Prop := ∀ a v, Z a = some v → Z' a = some v
def Mu.le (μ μ' : Mu) : Prop := (∀ i g, μ.bx i = some g → μ'.bx i = some g) ∧ ∀ t n v, μ.tk t n = some v → μ'.tk t n = some v
def Mu.emp : Mu := ⟨fun _ => none, fun _ _ => none⟩
theorem Cells.le_refl (Z : Cells) : Z.le Z := fun _ _ h => h
theorem Cells.le_trans {a b c : Cells} (h : a.le b) (k : b.le c) : a.le c := fun x v e => k x v (h x v e)
theorem Mu.le_refl (μ : Mu) : μ.le μ := ⟨fun _ _ h => h, fun _ _ _ h => h⟩
theorem Mu.le_trans {a b c : Mu} (h : a.le b) (k : b.le c) : a.le c := ⟨fun i g e => k.1 i g (h.1 i g e), fun t n v e => k.2 t n v (h.2 t n v e)⟩

/-- The value stands for the pure value. -/
inductive Rep (Z : Cells) : Mu → PV → Value → Prop
  | lit (μ : Mu) (v : Value) : Rep Z μ (.lit v) v
  | agg (μ : Mu) (l : List PV) (cs : List Value) (hl : l.length = cs.length) (h1 : ∀ u ∈ cs, u.oneCell' = true) (h : ∀ (i : Nat) (p : PV) (v : Value), l[i]? = some p → cs[i]? = some v → Rep Z μ p v) : Rep Z μ (.agg l) (.agg cs.toArray)
  | tup (μ : Mu) (l : List PV) (cs : List Value) (hl : l.length = cs.length) (h : ∀ (i : Nat) (p : PV) (v : Value), l[i]? = some p → cs[i]? = some v → Rep Z μ p v) : Rep Z μ (.tup l) (.tuple cs.toArray)
  | sl (μ : Mu) (sz : Nat) (es : List (List PV)) (A : Option Addr) (c : Nat) (val : Nat → Nat → Value) (hc : es.length ≤ c) (hz : ∀ e ∈ es, e.length = sz)
      (hZ : 0 < es.length → ∃ ad, A = some ad ∧ ∀ (i : Nat) (e : List PV) (j : Nat) (p : PV), es[i]? = some e → e[j]? = some p → Z (ad.add (i * sz + j)) = some (val i j))
      (h1 : ∀ (i : Nat) (e : List PV) (j : Nat) (p : PV), es[i]? = some e → e[j]? = some p → (val i j).oneCell' = true)
      (h : ∀ (i : Nat) (e : List PV) (j : Nat) (p : PV), es[i]? = some e → e[j]? = some p → Rep Z Mu.emp p (val i j)) : Rep Z μ (.sl sz es none) (.slice A es.length c)
  | own (μ : Mu) (sz : Nat) (es : List (List PV)) (t : Nat) (v : Value) (h : Rep Z μ (.sl sz es none) v) (ht : μ.tk t es.length = some v) : Rep Z μ (.sl sz es (some t)) v
  | rp (μ : Mu) (l : List PV) (ad : Addr) (val : Nat → Value) (hZ : ∀ (j : Nat) (p : PV), l[j]? = some p → Z (ad.add j) = some (val j)) (h1 : ∀ (j : Nat) (p : PV), l[j]? = some p → (val j).oneCell' = true) (h : ∀ (j : Nat) (p : PV), l[j]? = some p → Rep Z Mu.emp p (val j)) : Rep Z μ (.rp l) (.pointer (some ad))
  | bx (μ : Mu) (id off g : Nat) (hg : μ.bx id = some g) : Rep Z μ (.bx id off) (.pointer (some ⟨g, off, none⟩))
  | bs (μ : Mu) (id off n cap g : Nat) (hg : μ.bx id = some g) : Rep Z μ (.bs id off n cap) (.slice (some ⟨g, off, none⟩) n cap)
  | fn (μ : Mu) (f : Nat) (l : List PV) (cs : List Value) (hl : l.length = cs.length) (h : ∀ (i : Nat) (p : PV) (v : Value), l[i]? = some p → cs[i]? = some v → Rep Z μ p v) : Rep Z μ (.fn f l) (.func (.func f) #[] cs.toArray)
  | may (μ : Mu) (c : Bool) (p q : PV) (v : Value) (h : c = true → Rep Z μ p v) (k : c = false → Rep Z μ q v) : Rep Z μ (.may c p q) v
  | ord (μ : Mu) (i j gi gj : Nat) (v : Value) (hi : μ.bx i = some gi) (hj : μ.bx j = some gj) (h : gi < gj) : Rep Z μ (.ord i j) v
  | junk (μ : Mu) (v : Value) : Rep Z μ .junk v

theorem Rep.mono {Z Z' : Cells} {μ μ' : Mu} (hz : Z.le Z') (hm : μ.le μ') {p : PV} {v : Value} (h : Rep Z μ p v) : Rep Z' μ' p v := by
  induction h generalizing μ' with
  | lit μ v => exact .lit _ v
  | agg μ l cs hl h1 _ ih => exact .agg _ l cs hl h1 (fun i p v a b => ih i p v a b hm)
  | tup μ l cs hl _ ih => exact .tup _ l cs hl (fun i p v a b => ih i p v a b hm)
  | sl μ sz es A c val hc hzz hZ h1 _ ih =>
    refine .sl _ sz es A c val hc hzz (fun h0 => ?_) h1 (fun i e j p a b => ih i e j p a b (Mu.le_refl _))
    obtain ⟨ad, rfl, h2⟩ := hZ h0
    exact ⟨ad, rfl, fun i e j p he hp => hz _ _ (h2 i e j p he hp)⟩
  | own μ sz es t v _ ht ih => exact .own _ sz es t v (ih hm) (hm.2 _ _ _ ht)
  | rp μ l ad val hZ h1 _ ih => exact .rp _ l ad val (fun j p hp => hz _ _ (hZ j p hp)) h1 (fun j p a => ih j p a (Mu.le_refl _))
  | bx μ id off g hg => exact .bx _ id off g (hm.1 _ _ hg)
  | bs μ id off n cap g hg => exact .bs _ id off n cap g (hm.1 _ _ hg)
  | fn μ f l cs hl _ ih => exact .fn _ f l cs hl (fun i p v a b => ih i p v a b hm)
  | may μ c p q v _ _ ih ik => exact .may _ c p q v (fun e => ih e hm) (fun e => ik e hm)
  | ord μ i j gi gj v hi hj h => exact .ord _ i j gi gj v (hm.1 _ _ hi) (hm.1 _ _ hj) h
  | junk μ v => exact .junk _ v
theorem Mu.emp_le (μ : Mu) : Mu.emp.le μ := ⟨fun _ _ h => (by cases h), fun _ _ _ h => (by cases h)⟩
theorem Rep.any {Z : Cells} {μ : Mu} {p : PV} {v : Value} (h : Rep Z Mu.emp p v) : Rep Z μ p v := h.mono (Cells.le_refl _) (Mu.emp_le _)

theorem beq_ne {k t : Nat} (h : k ≠ t) : k.beq t = false := by
  cases hb : k.beq t with
  | false => rfl
  | true => exact absurd (Nat.eq_of_beq_eq_true hb) h

/-- Names: a list of pairs, the newest first. -/
def lk {α : Type} : List (Nat × α) → Nat → Option α
  | [], _ => none
  | (k, x) :: r, t => bif k.beq t then some x else lk r t
theorem lk_cons {α : Type} (k t : Nat) (x : α) (r : List (Nat × α)) : lk ((k, x) :: r) t = if k = t then some x else lk r t := by
  simp only [lk]
  by_cases h : k = t
  · subst h; simp
  · rw [if_neg h]; have : k.beq t = false := beq_ne h
    rw [this]; rfl
/-- Without a name. -/
def rm {α : Type} : List (Nat × α) → Nat → List (Nat × α)
  | [], _ => []
  | (k, x) :: r, t => bif k.beq t then rm r t else (k, x) :: rm r t
theorem lk_rm {α : Type} (t u : Nat) : ∀ l : List (Nat × α), lk (rm l t) u = if t = u then none else lk l u
  | [] => by simp [rm, lk]
  | (k, x) :: r => by
    have ih := lk_rm t u r
    simp only [rm]
    by_cases h : k = t
    · subst h
      rw [show (bif k.beq k then rm r k else (k, x) :: rm r k) = rm r k by simp, ih, lk_cons]
      split <;> rfl
    · have hb : k.beq t = false := beq_ne h
      rw [hb]
      simp only [cond_false]
      rw [lk_cons, ih, lk_cons]
      by_cases h2 : k = u
      · subst h2; rw [if_pos rfl, if_neg (fun e => h e.symm), if_pos rfl]
      · rw [if_neg h2, if_neg h2]

/-- What the call owns: its variables in memory (type, cells), its rows that grow (cells an element, how many elements). -/
structure PH where
  bx : List (Nat × (Nat × List PV))
  tk : List (Nat × (Nat × Nat))
def PH.none : PH := ⟨[], []⟩

/-- A row that grows: nil, or the whole of a block of its own, of which nothing behind its end is among the cells that stay. -/
def TkOk (base : Nat) (Z : Cells) (W : World) (sz n : Nat) (v : Value) : Prop :=
  (v = .slice none 0 0 ∧ n = 0) ∨ ∃ g cap cur e, v = .slice (some ⟨g, 0, Option.none⟩) n cap ∧ W.heap[g]? = some (.cells cur e (0, 0)) ∧ n ≤ cap ∧ cap ≤ maxLen ∧ cap * sz ≤ cur.size ∧ base ≤ g ∧ ∀ off, n * sz ≤ off → Z ⟨g, off, Option.none⟩ = Option.none
def BxOk (base : Nat) (Z : Cells) (μ : Mu) (W : World) (t : Nat) (cs : List PV) (g : Nat) : Prop :=
  ∃ vs : List Value, W.heap[g]? = some (.cells vs.toArray t (0, 0)) ∧ vs.length = cs.length ∧ (∀ u ∈ vs, u.oneCell' = true) ∧ (∀ (i : Nat) (p : PV) (v : Value), cs[i]? = some p → vs[i]? = some v → Rep Z μ p v) ∧ base ≤ g ∧ ∀ off, Z ⟨g, off, Option.none⟩ = Option.none
structure RepH (base : Nat) (Z : Cells) (μ : Mu) (h : PH) (W : World) : Prop where
  bx : ∀ id t cs, lk h.bx id = some (t, cs) → ∃ g, μ.bx id = some g ∧ BxOk base Z μ W t cs g
  tk : ∀ t sz n, lk h.tk t = some (sz, n) → ∃ v, μ.tk t n = some v ∧ TkOk base Z W sz n v
  bb : ∀ i j x y g, lk h.bx i = some x → lk h.bx j = some y → μ.bx i = some g → μ.bx j = some g → i = j
  tt : ∀ t u sz n sz' n' v v' g, lk h.tk t = some (sz, n) → lk h.tk u = some (sz', n') → μ.tk t n = some v → μ.tk u n' = some v' → v.ownBlock = some g → v'.ownBlock = some g → t = u
  bd : ∀ i g, μ.bx i = some g → lk h.bx i ≠ Option.none
  td : ∀ t n v, μ.tk t n = some v → lk h.tk t ≠ Option.none
  tm : ∀ t n v sz m, μ.tk t n = some v → lk h.tk t = some (sz, m) → n ≤ m
  bt : ∀ i t x sz n v g, lk h.bx i = some x → lk h.tk t = some (sz, n) → μ.bx i = some g → μ.tk t n = some v → v.ownBlock ≠ some g
def Sub (Z : Cells) (W : World) : Prop := ∀ a v, Z a = some v → W.cell? a = some v

/-- The state of a call: what its temporaries stand for, what it owns. -/
structure PS where
  env : List (Nat × PV)
  h : PH
/-- What is fixed in a call: its program, the world when it began, the cells that stay. -/
structure Cx where
  P : Program
  w : World
  Z : Cells
  n : Nat
/-- More cells stay; what stays anew lies from block n on. -/
def Grow (Z Z' : Cells) (n : Nat) : Prop := Z.le Z' ∧ ∀ a v, Z' a = some v → Z a = some v ∨ n ≤ a.block
theorem Grow.refl (Z : Cells) (n : Nat) : Grow Z Z n := ⟨Cells.le_refl _, fun _ _ e => .inl e⟩
theorem Grow.trans {A B C : Cells} {n m : Nat} (h : Grow A B n) (k : Grow B C m) (hm : n ≤ m) : Grow A C n := ⟨Cells.le_trans h.1 k.1, fun a v e => (k.2 a v e).elim (h.2 a v) (fun x => .inr (Nat.le_trans hm x))⟩
structure EnvOk (Z : Cells) (μ : Mu) (n : Nat) (env : List (Nat × PV)) (a : Act) : Prop where
  df : a.defers = []
  sz : a.tmps.size = n
  at_ : ∀ t p, lk env t = some p → ∃ v, a.tmps[t]? = some v ∧ Rep Z μ p v
def may1 : Option PV → Option PV
  | some (.may true p _) => some p
  | some (.may false _ q) => some q
  | x => x
theorem EnvOk.may1 {Z : Cells} {μ : Mu} {n : Nat} {env : List (Nat × PV)} {a : Act} (h : EnvOk Z μ n env a) {t : Nat} {p : PV} (e : Pw.may1 (lk env t) = some p) : ∃ v, a.tmps[t]? = some v ∧ Rep Z μ p v := by
  cases hl : lk env t with
  | none => rw [hl] at e; cases e
  | some q =>
    rw [hl] at e
    obtain ⟨v, hv, hr⟩ := h.at_ t q hl
    unfold Pw.may1 at e
    split at e
    · rename_i p' h1
      cases h1
      cases e
      refine ⟨v, hv, ?_⟩
      cases hr with | may _ _ _ _ _ h _ => exact h rfl
    · rename_i q' h1
      cases h1
      cases e
      refine ⟨v, hv, ?_⟩
      cases hr with | may _ _ _ _ _ _ h => exact h rfl
    · cases e; exact ⟨v, hv, hr⟩
structure RZ (cx : Cx) (S : PS) (a : Act) (W : World) (Z : Cells) (μ : Mu) : Prop where
  env : EnvOk Z μ cx.n S.env a
  h : RepH cx.w.heap.size Z μ S.h W
  sub : Sub Z W
  le : Grow cx.Z Z cx.w.heap.size
  below : Below cx.w.heap.size cx.w W
def R (cx : Cx) (S : PS) (a : Act) (W : World) : Prop := ∃ Z μ, RZ cx S a W Z μ

/-! What one operation needs. -/
def constOf : Value → Option PV
  | .agg cs => bif cs.toList.all Value.oneCell' then some (.agg (cs.toList.map .lit)) else Option.none
  | v => some (.lit v)
def PS.ev (S : PS) : Operand → Option PV
  | .tmp t => may1 (lk S.env t)
  | .const v => constOf v
  | .func f => some (.fn f [])
  | .global _ => Option.none
def PS.put (S : PS) (d : Option Tmp) (p : PV) : PS := match d with | some t => ⟨(t, p) :: S.env, S.h⟩ | Option.none => S

theorem RZ.ev {cx : Cx} {S : PS} {a : Act} {W : World} {Z : Cells} {μ : Mu} (h : RZ cx S a W Z μ) {x : Operand} {p : PV} (e : S.ev x = some p) : Rep Z μ p (a.eval x) := by
  cases x with
  | tmp t =>
    obtain ⟨v, hv, hr⟩ := h.env.may1 e
    have : a.eval (.tmp t) = v := by simp [Act.eval, hv]
    rw [this]; exact hr
  | const v =>
    show Rep Z μ p v
    have e : constOf v = some p := e
    cases v with
    | agg cs =>
      simp only [constOf] at e
      cases hb : cs.toList.all Value.oneCell' with
      | false => rw [hb] at e; cases e
      | true =>
        rw [hb] at e
        cases e
        have := Rep.agg (Z := Z) μ (cs.toList.map .lit) cs.toList (by simp) (fun u hu => List.all_eq_true.1 hb u hu) (fun i p v hp hv => by
          rw [List.getElem?_map, hv] at hp
          cases hp
          exact .lit _ v)
        simpa using this
    | _ => cases e; exact .lit _ _
  | global g => cases e
  | func f => cases e; exact .fn _ f [] [] rfl (fun i p v h => by simp at h)
theorem EnvOk.put {Z : Cells} {μ : Mu} {n : Nat} {env : List (Nat × PV)} {a : Act} (h : EnvOk Z μ n env a) {t : Tmp} {p : PV} {v : Value} (ht : t < n) (hr : Rep Z μ p v) : EnvOk Z μ n ((t, p) :: env) (a.put (some t) v) := by
  refine ⟨h.df, by simp [Act.put, h.sz], fun u q hu => ?_⟩
  rw [lk_cons] at hu
  by_cases e : t = u
  · subst e
    rw [if_pos rfl] at hu
    cases hu
    exact ⟨v, by simp [Act.put, h.sz, ht], hr⟩
  · rw [if_neg e] at hu
    obtain ⟨x, hx, hq⟩ := h.at_ u q hu
    refine ⟨x, ?_, hq⟩
    simp only [Act.put]
    rw [Array.getElem?_setIfInBounds_ne e]
    exact hx
theorem EnvOk.mono {Z Z' : Cells} {μ μ' : Mu} {n : Nat} {env : List (Nat × PV)} {a : Act} (hz : Z.le Z') (hm : μ.le μ') (h : EnvOk Z μ n env a) : EnvOk Z' μ' n env a :=
  ⟨h.df, h.sz, fun t p e => let ⟨v, hv, hr⟩ := h.at_ t p e; ⟨v, hv, hr.mono hz hm⟩⟩
/-- A destination that lies in the frame (or none). -/
def dstOk (n : Nat) : Option Tmp → Bool
  | some t => Nat.blt t n
  | Option.none => true
theorem RZ.put {cx : Cx} {S : PS} {a : Act} {W : World} {Z : Cells} {μ : Mu} (h : RZ cx S a W Z μ) {d : Option Tmp} (hd : dstOk cx.n d = true) {p : PV} {v : Value} (hr : Rep Z μ p v) : RZ cx (S.put d p) (a.put d v) W Z μ := by
  cases d with
  | none => exact h
  | some t => exact ⟨h.env.put (by simpa [dstOk, Nat.blt_eq] using hd) hr, h.h, h.sub, h.le, h.below⟩

end Go.Pw
set_option linter.unusedVariables false
set_option linter.unusedSimpArgs false
namespace Go.Pw
open Go Go.RowKit

abbrev Post := Exit → PS → Prop
def QC (cx : Cx) (Q : Post) : Exit → Act → World → Prop := fun e a W => ∃ S, R cx S a W ∧ Q e S
def PW (cx : Cx) (c : Code) (Q : Post) (S : PS) : Prop := ∀ a W, R cx S a W → c.wp cx.P (QC cx Q) a W
def thn (K : PS → Prop) (Q : Post) : Post
  | .normal, S => K S
  | e, S => Q e S
def inB (id : Nat) (Q : Post) : Post
  | .exit i, S => if i = id then Q .normal S else Q (.exit i) S
  | e, S => Q e S
section
variable {cx : Cx} {Q : Post} {S : PS}
theorem PW.seq {x y : Code} (h : PW cx x (thn (PW cx y Q) Q) S) : PW cx (x.seq y) Q S := fun a W hr =>
  wp_seq (wp_mono (h a W hr) fun e a' W' hq => by
    obtain ⟨S', h1, h2⟩ := hq
    cases e with
    | normal => exact h2 a' W' h1
    | exit i => exact ⟨S', h1, h2⟩
    | goto l => exact ⟨S', h1, h2⟩
    | ret => exact ⟨S', h1, h2⟩
    | panic c => exact ⟨S', h1, h2⟩
    | outgrown => exact ⟨S', h1, h2⟩)
theorem PW.block {id : Nat} {c : Code} (h : PW cx c (inB id Q) S) : PW cx (.block id c) Q S := fun a W hr =>
  wp_block (wp_mono (h a W hr) fun e a' W' hq => by
    obtain ⟨S', h1, h2⟩ := hq
    cases e with
    | normal => exact ⟨S', h1, h2⟩
    | exit i =>
      show (if i = id then QC cx Q .normal a' W' else QC cx Q (.exit i) a' W')
      have h2 : (if i = id then Q .normal S' else Q (.exit i) S') := h2
      by_cases e : i = id
      · rw [if_pos e] at h2 ⊢; exact ⟨S', h1, h2⟩
      · rw [if_neg e] at h2 ⊢; exact ⟨S', h1, h2⟩
    | goto l => exact ⟨S', h1, h2⟩
    | ret => exact ⟨S', h1, h2⟩
    | panic c => exact ⟨S', h1, h2⟩
    | outgrown => exact ⟨S', h1, h2⟩)
theorem PW.skip (h : Q .normal S) : PW cx .skip Q S := fun a W hr => wp_skip ⟨S, hr, h⟩
theorem PW.ret (h : Q .ret S) : PW cx .ret Q S := fun a W hr => wp_ret ⟨S, hr, h⟩
theorem PW.exit {id : Nat} (h : Q (.exit id) S) : PW cx (.exit id) Q S := fun a W hr => wp_exit ⟨S, hr, h⟩
theorem PW.cond {c : Operand} {x y : Code} {b : Bool} (hc : S.ev c = some (.lit (.bool b))) (h1 : b = true → PW cx x Q S) (h2 : b = false → PW cx y Q S) : PW cx (.cond c x y) Q S := fun a W hr => by
  obtain ⟨Z, μ, hz⟩ := hr
  have hv := hz.ev hc
  have hv : a.eval c = .bool b := by generalize a.eval c = v at hv; cases hv; rfl
  exact wp_cond_split hv (fun e => h1 e a W ⟨Z, μ, hz⟩) (fun e => h2 e a W ⟨Z, μ, hz⟩)
theorem PW.loop {c : Code} {α : Type} (I : α → PS → Prop) (m : α → Nat) (x : α) (h0 : I x S) (hr : ∀ x S, I x S → PW cx c (thn (fun S' => ∃ y, I y S' ∧ m y < m x) Q) S) : PW cx (.loop c) Q S := fun a W hR =>
  wp_loop_ghost (fun n a W => ∃ x S, m x = n ∧ I x S ∧ R cx S a W) (m x) ⟨x, S, rfl, h0, hR⟩ fun n a W ⟨x, S, hm, hI, hR⟩ =>
    wp_mono (hr x S hI a W hR) fun e a' W' hq => by
      obtain ⟨S', h1, h2⟩ := hq
      cases e with
      | normal =>
        obtain ⟨y, hy, hlt⟩ := h2
        exact ⟨m y, by omega, y, S', rfl, hy, h1⟩
      | exit i => exact ⟨S', h1, h2⟩
      | goto l => exact ⟨S', h1, h2⟩
      | ret => exact ⟨S', h1, h2⟩
      | panic c => exact ⟨S', h1, h2⟩
      | outgrown => exact ⟨S', h1, h2⟩
/-- Another state that says less: what must hold of it. -/
theorem PW.weak {c : Code} {S' : PS} (hw : ∀ a W, R cx S a W → R cx S' a W) (h : PW cx c Q S') : PW cx c Q S := fun a W hr => h a W (hw a W hr)
end

/-! Lists of operations. -/
def PL (cx : Cx) (ops : Array Oper) (Q : Post) (l : List Oper) (S : PS) : Prop := ∀ a W, R cx S a W → wpList cx.P ops (QC cx Q) l a W
def OpJ (cx : Cx) (o : Oper) (S : PS) (K : PS → Prop) : Prop :=
  ∀ a W, R cx S a W → ∀ (K' : Act → World → Prop) (Q : Exit → Act → World → Prop), (∀ S' a' W', K S' → R cx S' a' W' → K' a' W') → o.wp cx.P a W K' Q
def Wants (cx : Cx) (ops : Array Oper) (o : Oper) (S : PS) (b : Bool) : Prop := ∀ a W, R cx S a W → Region.wanted o (yielded ops a.tmps) = b
section
variable {cx : Cx} {Q : Post} {S : PS} {ops : Array Oper} {o : Oper} {rest : List Oper}
theorem PW.region {id : Nat} {l : List Oper} (h : PL cx l.toArray Q l S) : PW cx (.region id l.toArray false) Q S := fun a W hr => wp_region_lit (h a W hr)
theorem PL.nil (h : Q .normal S) : PL cx ops Q [] S := fun a W hr => ⟨S, hr, h⟩
theorem Wants.free (h : o.guard = none) : Wants cx ops o S true := fun a W _ => by simp [Region.wanted, h]
theorem Wants.is {j : Nat} {w : Bool} {t : Tmp} {b : Bool} (h : o.guard = some (j, w)) (hj : ((ops[j]?).bind (·.dst)) = some t) (ht : may1 (lk S.env t) = some (.lit (.bool b))) : Wants cx ops o S (b == w) := fun a W hR => by
  obtain ⟨Z, μ, hz⟩ := hR
  obtain ⟨v, hv, hr⟩ := hz.env.may1 ht
  cases hr
  simp only [Region.wanted, h, yielded, hj, Option.bind_some, hv]
  cases b <;> cases w <;> rfl
theorem Wants.undef {j : Nat} {w : Bool} {t : Tmp} (h : o.guard = some (j, w)) (hj : ((ops[j]?).bind (·.dst)) = some t) (ht : may1 (lk S.env t) = some (.lit Go.undef)) : Wants cx ops o S false := fun a W hR => by
  obtain ⟨Z, μ, hz⟩ := hR
  obtain ⟨v, hv, hr⟩ := hz.env.may1 ht
  cases hr
  simp only [Region.wanted, h, yielded, hj, Option.bind_some, hv]
  cases w <;> rfl
theorem PL.cons {K : PS → Prop} (hw : Wants cx ops o S true) (h : OpJ cx o S K) (hk : ∀ S', K S' → PL cx ops Q rest S') : PL cx ops Q (o :: rest) S := fun a W hR =>
  wpList_step fun K' hK => by
    rw [hw a W hR, if_pos rfl]
    exact h a W hR K' _ fun S' a' W' h1 h2 => hK a' W' (hk S' h1 a' W' h2)
theorem PL.skip (hw : Wants cx ops o S false) (hd : dstOk cx.n o.dst = true) (h : PL cx ops Q rest (S.put o.dst (.lit undef))) : PL cx ops Q (o :: rest) S := fun a W hR =>
  wpList_step fun K' hK => by
    rw [hw a W hR, if_neg (by decide)]
    obtain ⟨Z, μ, hz⟩ := hR
    exact hK _ _ (h _ _ ⟨Z, μ, hz.put hd (.lit _ _)⟩)
/-- A test whose outcome a guard hangs on: each way for itself. -/
theorem PL.split {l : List Oper} {t : Tmp} {b : Bool} (ht : may1 (lk S.env t) = some (.lit (.bool b))) (h1 : b = true → PL cx ops Q l ⟨(t, .lit (.bool true)) :: S.env, S.h⟩) (h2 : b = false → PL cx ops Q l ⟨(t, .lit (.bool false)) :: S.env, S.h⟩) : PL cx ops Q l S := fun a W hR => by
  obtain ⟨Z, μ, hz⟩ := hR
  have key : R cx ⟨(t, .lit (.bool b)) :: S.env, S.h⟩ a W := ⟨Z, μ, ⟨hz.env.df, hz.env.sz, fun u p hu => by
    rw [lk_cons] at hu
    by_cases e : t = u
    · subst e; rw [if_pos rfl] at hu; cases hu; exact hz.env.may1 ht
    · rw [if_neg e] at hu; exact hz.env.at_ u p hu⟩, hz.h, hz.sub, hz.le, hz.below⟩
  cases b with
  | true => exact h1 rfl a W key
  | false => exact h2 rfl a W key
/-- An operation that gives a value and leaves the world as it is. -/
def OpV (cx : Cx) (o : Oper) (S : PS) (p : PV) : Prop := ∀ a W Z μ, RZ cx S a W Z μ → ∃ v, (execOp a.eval o).run cx.P W = .ok (.value v) W ∧ Rep Z μ p v
theorem OpV.j {p : PV} (hd : dstOk cx.n o.dst = true) (h : OpV cx o S p) : OpJ cx o S (fun S' => S' = S.put o.dst p) := fun a W hR K' Q hK => by
  obtain ⟨Z, μ, hz⟩ := hR
  obtain ⟨v, hv, hr⟩ := h a W Z μ hz
  show o.upon cx.P a K' Q _
  rw [hv]
  exact hK _ _ _ rfl ⟨Z, μ, hz.put hd hr⟩
theorem PL.val {p : PV} (h : OpV cx o S p) (hw : Wants cx ops o S true) (hd : dstOk cx.n o.dst = true) (k : PL cx ops Q rest (S.put o.dst p)) : PL cx ops Q (o :: rest) S :=
  PL.cons hw (h.j hd) fun S' e => by subst e; exact k
end

/-! Contracts. -/
def mapL {α β : Type} (f : α → β) : List α → List β
  | [] => []
  | x :: r => f x :: mapL f r
/-- The rows that a result hands over. -/
def toks : PV → List (Nat × (Nat × Nat))
  | .sl sz es (some t) => [(t, (sz, es.length))]
  | .agg l => toksL l
  | .tup l => toksL l
  | _ => []
 where toksL : List PV → List (Nat × (Nat × Nat))
  | [] => []
  | p :: r => toks p ++ toksL r
structure Done (W : World) (Z : Cells) (F : PV → Prop) (v : Value) (W' : World) : Prop where
  out : ∃ p Z' μ', F p ∧ Rep Z' μ' p v ∧ Grow Z Z' W.heap.size ∧ Sub Z' W' ∧ Below W.heap.size W W' ∧ RepH W.heap.size Z' μ' ⟨[], toks p⟩ W'
def RepL (Z : Cells) (μ : Mu) (ps : List PV) (vs : List Value) : Prop := vs.length = ps.length ∧ ∀ (i : Nat) (p : PV) (v : Value), ps[i]? = some p → vs[i]? = some v → Rep Z μ p v
/-- The function is one that a call goes into. -/
def Ent (P : Program) (f : FuncId) : Prop := ∀ (args : Array Value) (w : World), (callFunc f args).run P w = .ok (.enter f args) w
/-- Function f, called with values that stand for args, returns a value that stands for something of which F is true; of what was there nothing is turned. -/
structure Spec (P : Program) (f : FuncId) (args : List PV) (F : PV → Prop) : Prop where
  ent : Ent P f
  run : ∀ (W : World) (Z : Cells) (μ : Mu) (vs : List Value), Sub Z W → RepL Z μ args vs → Calls P f vs.toArray W fun e W' => ∃ v, e = .returned v ∧ Done W Z F v W'
theorem Spec.mono {P : Program} {f : FuncId} {args : List PV} {F G : PV → Prop} (h : Spec P f args F) (k : ∀ p, F p → G p) : Spec P f args G := ⟨h.ent, fun W Z μ vs h1 h2 =>
  (h.run W Z μ vs h1 h2).mono fun e W' ⟨v, e1, ⟨p, Z', μ', h3, r⟩⟩ => ⟨v, e1, ⟨p, Z', μ', k p h3, r⟩⟩⟩
end Go.Pw
set_option linter.unusedVariables false
set_option linter.unusedSimpArgs false
namespace Go.Pw
open Go Go.RowKit

inductive TD where
  | int (k : IntKind) | bool | str | slice (e : Nat) | struct (fs : List (Nat × Nat)) | array (n e : Nat) | other
structure TI where
  d : TD
  sz : Nat
  agg : Bool
  zero : Value
  bytes : Nat
def TDok (P : Program) (t : Nat) : TD → Prop
  | .int k => P.underlying t = some (.int k)
  | .bool => P.underlying t = some .bool
  | .str => P.underlying t = some .string
  | .slice e => P.underlying t = some (.slice e)
  | .struct fs => ∃ F : Array Field, P.underlying t = some (.struct F) ∧ F.toList.map (fun f => (f.offset, f.type)) = fs
  | .array n e => P.underlying t = some (.array n e)
  | .other => True
structure TIok (P : Program) (t : Nat) (i : TI) : Prop where
  size : ∀ w, (sizeOf t).run P w = .ok i.sz w
  agg : ∀ w, (isAgg t).run P w = .ok i.agg w
  zero : ∀ w, (zeroValue t).run P w = .ok i.zero w
  info : ∃ ti, P.info? t = some ti ∧ ti.size = i.sz ∧ ti.bytes = i.bytes ∧ ti.zero = some i.zero
  und : TDok P t i.d
/-- What is known of a program's types. -/
class TC (P : Program) where
  T : List (Nat × TI)
  ok : ∀ x ∈ T, TIok P x.1 x.2
theorem lk_mem {α : Type} : ∀ {l : List (Nat × α)} {t : Nat} {x : α}, lk l t = some x → (t, x) ∈ l
  | [], _, _, h => by cases h
  | (k, y) :: r, t, x, h => by
    rw [lk_cons] at h
    by_cases e : k = t
    · subst e; rw [if_pos rfl] at h; cases h; exact List.mem_cons_self
    · rw [if_neg e] at h; exact List.mem_cons_of_mem _ (lk_mem h)
theorem TC.at_ {P : Program} [TC P] {t : Nat} {i : TI} (h : lk (TC.T P) t = some i) : TIok P t i := TC.ok (t, i) (lk_mem h)

theorem Rep.lit_inv {Z : Cells} {μ : Mu} {u v : Value} (h : Rep Z μ (.lit u) v) : v = u := by cases h; rfl

section
variable {cx : Cx} {S : PS} {o : Oper}
theorem OpV.move {x : Operand} {p : PV} (ho : o.op = .move x) (h : S.ev x = some p) : OpV cx o S p := fun a W Z μ hz => ⟨a.eval x, by simp [execOp, ho], hz.ev h⟩
theorem OpV.assign {x : Operand} {p : PV} (ho : o.op = .assign x) (h : S.ev x = some p) : OpV cx o S p := fun a W Z μ hz => ⟨a.eval x, by simp [execOp, ho], hz.ev h⟩
theorem OpV.pickT {c x y : Operand} {p : PV} (ho : o.op = .pick c x y) (hc : S.ev c = some (.lit (.bool true))) (h : S.ev x = some p) : OpV cx o S p := fun a W Z μ hz => by
  have e := (hz.ev hc).lit_inv
  exact ⟨a.eval x, by simp [execOp, ho, e, asBool], hz.ev h⟩
theorem OpV.pickF {c x y : Operand} {p : PV} (ho : o.op = .pick c x y) (hc : S.ev c = some (.lit (.bool false))) (h : S.ev y = some p) : OpV cx o S p := fun a W Z μ hz => by
  have e := (hz.ev hc).lit_inv
  exact ⟨a.eval y, by simp [execOp, ho, e, asBool], hz.ev h⟩

/-- Whole numbers. -/
def binI (op : BinOp) (k : IntKind) (a b : Int) : Option Value :=
  match op with
  | .add => some (.int k (k.wrap (a + b)))
  | .sub => some (.int k (k.wrap (a - b)))
  | .mul => some (.int k (k.wrap (a * b)))
  | .lss => some (.bool (decide (a < b)))
  | .leq => some (.bool (decide (a ≤ b)))
  | .gtr => some (.bool (decide (b < a)))
  | .geq => some (.bool (decide (b ≤ a)))
  | .eql => some (.bool (decide (a = b)))
  | .neq => some (.bool (!decide (a = b)))
  | .and | .or | .xor => some (.int k (bits op k a b))
  | _ => none
theorem OpV.bin {op : BinOp} {t : TypeId} {x y : Operand} {yt : TypeId} {k : IntKind} {m n : Int} {v : Value} (ho : o.op = .binOp op t x y yt) (hx : S.ev x = some (.lit (.int k m))) (hy : S.ev y = some (.lit (.int k n))) (hv : binI op k m n = some v) : OpV cx o S (.lit v) := fun a W Z μ hz => by
  have ex := (hz.ev hx).lit_inv
  have ey := (hz.ev hy).lit_inv
  refine ⟨v, ?_, .lit _ v⟩
  cases op <;> simp only [binI, Option.some.injEq, reduceCtorEq] at hv <;> subst hv <;> simp only [execOp, ho, ex, ey] <;> simp [go_sem, binOp, Op.intBits, Int.decEq, bits]
  · exact Bool.eq_iff_iff.2 (by simp)
  · exact Bool.eq_iff_iff.2 (by simp)
theorem OpV.shl {t : TypeId} {x y : Operand} {yt : TypeId} {k k' : IntKind} {m n : Int} (ho : o.op = .binOp .shl t x y yt) (hx : S.ev x = some (.lit (.int k m))) (hy : S.ev y = some (.lit (.int k' n))) (hn : 0 ≤ n) : OpV cx o S (.lit (.int k (k.wrap (m * 2 ^ min n.toNat k.bits)))) := fun a W Z μ hz => by
  have ex := (hz.ev hx).lit_inv
  have ey := (hz.ev hy).lit_inv
  refine ⟨_, ?_, .lit _ _⟩
  have h0 : ¬ n < 0 := by omega
  simp only [execOp, ho, ex, ey]
  simp [go_sem, binOp, Op.shift, h0]
theorem OpV.shr {t : TypeId} {x y : Operand} {yt : TypeId} {k k' : IntKind} {m n : Int} (ho : o.op = .binOp .shr t x y yt) (hx : S.ev x = some (.lit (.int k m))) (hy : S.ev y = some (.lit (.int k' n))) (hn : 0 ≤ n) : OpV cx o S (.lit (.int k (m / 2 ^ min n.toNat k.bits))) := fun a W Z μ hz => by
  have ex := (hz.ev hx).lit_inv
  have ey := (hz.ev hy).lit_inv
  refine ⟨_, ?_, .lit _ _⟩
  have h0 : ¬ n < 0 := by omega
  have hp : (0 : Int) ≤ 2 ^ min n.toNat k.bits := Int.pow_nonneg (by decide)
  rw [← Int.fdiv_eq_ediv_of_nonneg m hp]
  simp only [execOp, ho, ex, ey]
  simp [go_sem, binOp, Op.shift, h0]
theorem OpV.quo {t : TypeId} {x y : Operand} {yt : TypeId} {k : IntKind} {m n : Int} (ho : o.op = .binOp .quo t x y yt) (hx : S.ev x = some (.lit (.int k m))) (hy : S.ev y = some (.lit (.int k n))) (hn : n ≠ 0) : OpV cx o S (.lit (.int k (k.wrap (m.tdiv n)))) := fun a W Z μ hz => by
  have ex := (hz.ev hx).lit_inv
  have ey := (hz.ev hy).lit_inv
  refine ⟨_, ?_, .lit _ _⟩
  simp only [execOp, ho, ex, ey]
  simp [go_sem, binOp, Op.intDiv, hn]
theorem OpV.rem {t : TypeId} {x y : Operand} {yt : TypeId} {k : IntKind} {m n : Int} (ho : o.op = .binOp .rem t x y yt) (hx : S.ev x = some (.lit (.int k m))) (hy : S.ev y = some (.lit (.int k n))) (hn : n ≠ 0) : OpV cx o S (.lit (.int k (m.tmod n))) := fun a W Z μ hz => by
  have ex := (hz.ev hx).lit_inv
  have ey := (hz.ev hy).lit_inv
  refine ⟨_, ?_, .lit _ _⟩
  simp only [execOp, ho, ex, ey]
  simp [go_sem, binOp, Op.intDiv, hn]
/-- Texts. -/
theorem toList_inj {a b : ByteArray} : a.toList = b.toList ↔ a = b := by
  constructor
  · intro h
    have := congrArg List.toArray h
    rw [ByteArray.toList_eq, ByteArray.toList_eq] at h
    cases a; cases b
    simp at h
    exact congrArg _ h
  · rintro rfl; rfl
def strI (op : BinOp) (a b : ByteArray) : Option Value :=
  match op with
  | .eql => some (.bool (decide (a = b)))
  | .neq => some (.bool (!decide (a = b)))
  | _ => none
theorem OpV.str {op : BinOp} {t : TypeId} {x y : Operand} {yt : TypeId} {m n : ByteArray} {v : Value} (ho : o.op = .binOp op t x y yt) (hx : S.ev x = some (.lit (.string m))) (hy : S.ev y = some (.lit (.string n))) (hv : strI op m n = some v) : OpV cx o S (.lit v) := fun a W Z μ hz => by
  have ex := (hz.ev hx).lit_inv
  have ey := (hz.ev hy).lit_inv
  refine ⟨v, ?_, .lit _ v⟩
  have e : (m.toList == n.toList) = decide (m = n) := Bool.eq_iff_iff.2 (by simp [toList_inj])
  cases op <;> simp only [strI, Option.some.injEq, reduceCtorEq] at hv <;> subst hv <;> simp only [execOp, ho, ex, ey] <;> simp [go_sem, binOp, Op.stringOp, e]
theorem OpV.cat {t : TypeId} {x y : Operand} {yt : TypeId} {m n : ByteArray} (ho : o.op = .binOp .add t x y yt) (hx : S.ev x = some (.lit (.string m))) (hy : S.ev y = some (.lit (.string n))) (hn : m.size + n.size ≤ 9223372036854775807) : OpV cx o S (.lit (.string (m ++ n))) := fun a W Z μ hz => by
  have ex := (hz.ev hx).lit_inv
  have ey := (hz.ev hy).lit_inv
  refine ⟨_, ?_, .lit _ _⟩
  simp only [execOp, ho, ex, ey]
  have h : ¬ (((m.size + n.size : Nat) : Int) > IntKind.i64.max) := by simp; omega
  simp only [eqGuard_add, Sem.run_bind, Sem.run_pure, Result.andThen_ok, binOp, Op.stringOp, if_neg h]
theorem OpV.not {t : TypeId} {x : Operand} {b : Bool} (ho : o.op = .unOp .not t x) (hx : S.ev x = some (.lit (.bool b))) : OpV cx o S (.lit (.bool (!b))) := fun a W Z μ hz => by
  have ex := (hz.ev hx).lit_inv
  refine ⟨_, ?_, .lit _ _⟩
  simp only [execOp, ho, ex]
  simp [Op.unary]
theorem OpV.neg {t : TypeId} {x : Operand} {k : IntKind} {n : Int} (ho : o.op = .unOp .neg t x) (hx : S.ev x = some (.lit (.int k n))) : OpV cx o S (.lit (.int k (k.wrap (0 - n)))) := fun a W Z μ hz => by
  have ex := (hz.ev hx).lit_inv
  refine ⟨_, ?_, .lit _ _⟩
  simp only [execOp, ho, ex]
  simp [Op.unary, go_sem]
theorem OpV.extract {x : Operand} {i : Nat} {l : List PV} {p : PV} (ho : o.op = .extract x i) (hx : S.ev x = some (.tup l)) (hi : l[i]? = some p) : OpV cx o S p := fun a W Z μ hz => by
  have hr := hz.ev hx
  generalize hv : a.eval x = v at hr
  cases hr with
  | tup _ _ cs hl h =>
    obtain ⟨u, hu⟩ : ∃ u, cs[i]? = some u := ⟨cs[i]'(by have := (List.getElem?_eq_some_iff.1 hi).1; omega), List.getElem?_eq_getElem _⟩
    refine ⟨u, ?_, h i p u hi hu⟩
    simp only [execOp, ho, hv]
    simp [Instr.extract, hu]
theorem OpV.func {f : Nat} {l : List PV} (caps : Array Operand) (ho : o.op = .makeFunc (.func f) #[] caps) (hl : caps.toList.mapM S.ev = some l) : OpV cx o S (.fn f l) := fun a W Z μ hz => by
  have key : ∀ (cs : List Operand) (l : List PV), cs.mapM S.ev = some l → l.length = (cs.map a.eval).length ∧ ∀ (i : Nat) (p : PV) (v : Value), l[i]? = some p → (cs.map a.eval)[i]? = some v → Rep Z μ p v := by
    intro cs
    induction cs with
    | nil => intro l h; simp at h; subst h; exact ⟨rfl, fun i p v h => by simp at h⟩
    | cons c cs ih =>
      intro l h
      simp only [List.mapM_cons, Option.bind_eq_bind, Option.bind_eq_some_iff] at h
      obtain ⟨p0, h0, l', h1, h2⟩ := h
      simp at h2
      subst h2
      obtain ⟨e1, e2⟩ := ih l' h1
      refine ⟨by simp at e1 ⊢; exact e1, fun i p v hp hv => ?_⟩
      cases i with
      | zero => simp at hp hv; subst hp; subst hv; exact hz.ev h0
      | succ i => simp only [List.getElem?_cons_succ, List.map_cons] at hp hv; exact e2 i p v hp hv
  obtain ⟨e1, e2⟩ := key _ _ hl
  refine ⟨.func (.func f) #[] (caps.toList.map a.eval).toArray, ?_, .fn _ f l _ e1 e2⟩
  simp only [execOp, ho]
  simp [Instr.makeFunc]
  exact (Array.toList_map ..).symm ▸ rfl

/-! Slices that are read. -/
theorem Rep.sl_inv {Z : Cells} {μ : Mu} {sz : Nat} {es : List (List PV)} {q : Option Nat} {v : Value} (h : Rep Z μ (.sl sz es q) v) : ∃ (A : Option Addr) (c : Nat) (val : Nat → Nat → Value), v = .slice A es.length c ∧ es.length ≤ c ∧ (∀ e ∈ es, e.length = sz) ∧
    (0 < es.length → ∃ ad : Addr, A = some ad ∧ ∀ (i : Nat) (e : List PV) (j : Nat) (p : PV), es[i]? = some e → e[j]? = some p → Z (ad.add (i * sz + j)) = some (val i j)) ∧
    (∀ (i : Nat) (e : List PV) (j : Nat) (p : PV), es[i]? = some e → e[j]? = some p → (val i j).oneCell' = true) ∧
    ∀ (i : Nat) (e : List PV) (j : Nat) (p : PV), es[i]? = some e → e[j]? = some p → Rep Z Mu.emp p (val i j) := by
  cases h with
  | sl _ _ _ A c val hc hz hZ h1 h => exact ⟨A, c, val, rfl, hc, hz, hZ, h1, h⟩
  | own _ _ _ t _ h ht =>
    cases h with
    | sl _ _ _ A c val hc hz hZ h1 h => exact ⟨A, c, val, rfl, hc, hz, hZ, h1, h⟩
theorem add_add (a : Addr) (m n : Nat) : (a.add m).add n = a.add (m + n) := by
  unfold Addr.add
  by_cases hn : n = 0
  · subst hn; simp
  · by_cases hm : m = 0
    · subst hm; simp [hn]
    · rw [if_neg hn, if_neg hm, if_neg (by omega)]
      simp [Nat.add_assoc]
end
section
variable {cx : Cx} [TC cx.P] {S : PS} {o : Oper}
theorem OpV.len {x : Operand} {sz : Nat} {es : List (List PV)} {q : Option Nat} {t e : Nat} (ho : o.op = .call { callee := .builtin .len, args := #[x], argTypes := #[t] }) (hx : S.ev x = some (.sl sz es q)) {i : TI} (ht : lk (TC.T cx.P) t = some i) (hd : i.d = .slice e) : OpV cx o S (.lit (.int .i64 es.length)) := fun a W Z μ hz => by
  obtain ⟨A, c, val, hv, _⟩ := (hz.ev hx).sl_inv
  refine ⟨_, ?_, .lit _ _⟩
  have hu := (TC.at_ ht).und
  rw [hd] at hu
  have hu : cx.P.underlying t = some (.slice e) := hu
  simp only [execOp, ho]
  simp [resolve, invoke, builtin, hv, Builtin.len_, run_underlying hu, goInt]
theorem OpV.lenNil {x : Operand} {t e : Nat} (ho : o.op = .call { callee := .builtin .len, args := #[x], argTypes := #[t] }) (hx : S.ev x = some (.lit (.slice none 0 0))) {i : TI} (ht : lk (TC.T cx.P) t = some i) (hd : i.d = .slice e) : OpV cx o S (.lit (.int .i64 0)) := fun a W Z μ hz => by
  have hv := (hz.ev hx).lit_inv
  refine ⟨_, ?_, .lit _ _⟩
  have hu := (TC.at_ ht).und
  rw [hd] at hu
  have hu : cx.P.underlying t = some (.slice e) := hu
  simp only [execOp, ho]
  simp [resolve, invoke, builtin, hv, Builtin.len_, run_underlying hu, goInt]
theorem OpV.lenStr {x : Operand} {s : ByteArray} {t : Nat} (ho : o.op = .call { callee := .builtin .len, args := #[x], argTypes := #[t] }) (hx : S.ev x = some (.lit (.string s))) {i : TI} (ht : lk (TC.T cx.P) t = some i) (hd : i.d = .str) : OpV cx o S (.lit (.int .i64 s.size)) := fun a W Z μ hz => by
  have hv := (hz.ev hx).lit_inv
  refine ⟨_, ?_, .lit _ _⟩
  have hu := (TC.at_ ht).und
  rw [hd] at hu
  have hu : cx.P.underlying t = some .string := hu
  simp only [execOp, ho]
  simp [resolve, invoke, builtin, hv, Builtin.len_, run_underlying hu, goInt]
theorem OpV.idx {x y : Operand} {sz : Nat} {es : List (List PV)} {q : Option Nat} {t e : Nat} {k : IntKind} {n : Int} {l : List PV} (ho : o.op = .indexAddr t x y) (hx : S.ev x = some (.sl sz es q)) (hy : S.ev y = some (.lit (.int k n))) (h0 : 0 ≤ n) (hl : es[n.toNat]? = some l) {i j : TI} (ht : lk (TC.T cx.P) t = some i) (hd : i.d = .slice e) (he : lk (TC.T cx.P) e = some j) (hsz : j.sz = sz) : OpV cx o S (.rp l) := fun a W Z μ hz => by
  obtain ⟨A, c, val, hv, _, hes, hZ, h1, h⟩ := (hz.ev hx).sl_inv
  have ey := (hz.ev hy).lit_inv
  have hlt := (List.getElem?_eq_some_iff.1 hl).1
  obtain ⟨ad, rfl, hZ2⟩ := hZ (by omega)
  have hu := (TC.at_ ht).und
  rw [hd] at hu
  have hu : cx.P.underlying t = some (.slice e) := hu
  have hs := (TC.at_ he).size
  refine ⟨.pointer (some (ad.add (n.toNat * sz))), ?_, .rp _ l _ (fun m => val n.toNat m) (fun m p hp => ?_) (fun m p hp => h1 _ _ _ _ hl hp) (fun m p hp => h _ _ _ _ hl hp)⟩
  · simp only [execOp, ho]
    have hin : 0 ≤ n ∧ n < (es.length : Int) := ⟨h0, by omega⟩
    simp [hv, ey, Instr.indexAt, run_underlying hu, asIntOf, hin, hs, hsz]
  · rw [add_add]
    exact hZ2 _ _ _ _ hl hp
theorem OpV.idxStr {x y : Operand} {s : ByteArray} {t : Nat} {k : IntKind} {n : Int} (ho : o.op = .index t x y) (hx : S.ev x = some (.lit (.string s))) (hy : S.ev y = some (.lit (.int k n))) (h0 : 0 ≤ n) (h1 : n.toNat < s.size) {i : TI} (ht : lk (TC.T cx.P) t = some i) (hd : i.d = .str) : OpV cx o S (.lit (.int .u8 (s[n.toNat]'h1).toNat)) := fun a W Z μ hz => by
  have ex := (hz.ev hx).lit_inv
  have ey := (hz.ev hy).lit_inv
  have hu := (TC.at_ ht).und
  rw [hd] at hu
  have hu : cx.P.underlying t = some .string := hu
  refine ⟨_, ?_, .lit _ _⟩
  simp only [execOp, ho, ex, ey]
  rw [Sem.run_bind, run_index_string W t s k n hu, dif_pos ⟨h0, by omega⟩]
  rfl
/-- A whole variable's cells as a value. -/
def packed (agg : Bool) (sz : Nat) (l : List PV) : Option PV :=
  bif agg then (bif Nat.beq (l.take sz).length sz then some (.agg (l.take sz)) else none) else l.head?
theorem run_cells {P : Program} {W : World} (ad : Addr) (cs : List Value) (h : ∀ j v, cs[j]? = some v → W.cell? (ad.add j) = some v) : (loadCells ad cs.length).run P W = .ok cs.toArray W := run_loadCells_list (P := P) W ad cs h
theorem load_packed {P : Program} [TC P] {W : World} {Z : Cells} {μ : Mu} {t : Nat} {i : TI} (ht : lk (TC.T P) t = some i) {l : List PV} {p : PV} (hp : packed i.agg i.sz l = some p) (ad : Addr) (val : Nat → Value)
    (hv : ∀ (j : Nat) (q : PV), l[j]? = some q → W.cell? (ad.add j) = some (val j)) (h1 : ∀ (j : Nat) (q : PV), l[j]? = some q → (val j).oneCell' = true) (h : ∀ (j : Nat) (q : PV), l[j]? = some q → Rep Z μ q (val j)) :
    ∃ v, (loadVar t ad).run P W = .ok v W ∧ Rep Z μ p v := by
  have hi := TC.at_ ht
  cases hg : i.agg with
  | false =>
    rw [hg] at hp
    cases l with
    | nil => cases hp
    | cons q r =>
      simp only [packed, cond_false, List.head?_cons, Option.some.injEq] at hp
      subst hp
      have hc := hv 0 q rfl
      rw [Addr.add_zero'] at hc
      refine ⟨val 0, ?_, h 0 q rfl⟩
      simp [loadVar, hi.agg, hg, run_load, hc]
  | true =>
    rw [hg] at hp
    simp only [packed, cond_true] at hp
    cases hb : Nat.beq (l.take i.sz).length i.sz with
    | false => rw [hb] at hp; cases hp
    | true =>
      rw [hb] at hp
      simp only [cond_true, Option.some.injEq] at hp
      subst hp
      have hlen := Nat.eq_of_beq_eq_true hb
      have hle : i.sz ≤ l.length := by rw [List.length_take] at hlen; omega
      have hget : ∀ j, j < i.sz → ∃ q, l[j]? = some q ∧ (l.take i.sz)[j]? = some q := fun j hj =>
        ⟨l[j]'(by omega), List.getElem?_eq_getElem _, by rw [List.getElem?_take_of_lt hj]; exact List.getElem?_eq_getElem _⟩
      have hcs : ((List.range i.sz).map val).length = i.sz := by simp
      refine ⟨.agg ((List.range i.sz).map val).toArray, ?_, .agg _ _ _ (by rw [hcs]; exact hlen) (fun u hu => ?_) (fun j q v hq hv' => ?_)⟩
      · have hr := run_cells (P := P) (W := W) ad ((List.range i.sz).map val) (fun j v hj => by
          have hjl : j < i.sz := by have := (List.getElem?_eq_some_iff.1 hj).1; rwa [hcs] at this
          obtain ⟨q, hq, _⟩ := hget j hjl
          rw [List.getElem?_map, List.getElem?_range hjl] at hj
          cases hj
          exact hv j q hq)
        rw [hcs] at hr
        simp [loadVar, hi.agg, hg, hi.size, hr]
      · rw [List.mem_map] at hu
        obtain ⟨j, hj, rfl⟩ := hu
        obtain ⟨q, hq, _⟩ := hget j (List.mem_range.1 hj)
        exact h1 j q hq
      · have hjl : j < i.sz := by have := (List.getElem?_eq_some_iff.1 hv').1; rwa [hcs] at this
        obtain ⟨q', hq', hq2⟩ := hget j hjl
        rw [hq2] at hq
        cases hq
        rw [List.getElem?_map, List.getElem?_range hjl] at hv'
        cases hv'
        exact h j q hq'
theorem OpV.load {x : Operand} {t : Nat} {l : List PV} {p : PV} (ho : o.op = .load t x) (hx : S.ev x = some (.rp l)) {i : TI} (ht : lk (TC.T cx.P) t = some i) (hp : packed i.agg i.sz l = some p) : OpV cx o S p := fun a W Z μ hz => by
  have hr := hz.ev hx
  generalize hv : a.eval x = v at hr
  cases hr with
  | rp _ _ ad val hZ h1 h =>
    obtain ⟨u, hu, hq⟩ := load_packed (μ := μ) ht hp ad val (fun j q e => hz.sub _ _ (hZ j q e)) h1 (fun j q e => (h j q e).any)
    refine ⟨u, ?_, hq⟩
    simp only [execOp, ho]
    simp [hv, Instr.loadAt, Instr.sureAddr, hu]
/-- A variable of the call's own, read from some place on. -/
theorem OpV.loadB {x : Operand} {t id off bt : Nat} {cs : List PV} {p : PV} (ho : o.op = .load t x) (hx : S.ev x = some (.bx id off)) (hb : lk S.h.bx id = some (bt, cs)) {i : TI} (ht : lk (TC.T cx.P) t = some i) (hp : packed i.agg i.sz (cs.drop off) = some p) : OpV cx o S p := fun a W Z μ hz => by
  have hr := hz.ev hx
  generalize hv : a.eval x = v at hr
  cases hr with
  | bx _ _ _ g hg =>
    obtain ⟨g', hg', vs, hh, hlen, h1, hrep, _, _⟩ := hz.h.bx id bt cs hb
    rw [hg] at hg'
    cases hg'
    have hex : ∀ (j : Nat) (q : PV), (cs.drop off)[j]? = some q → ∃ u, vs[off + j]? = some u ∧ cs[off + j]? = some q := fun j q e => by
      rw [List.getElem?_drop] at e
      have := (List.getElem?_eq_some_iff.1 e).1
      exact ⟨vs[off + j]'(by omega), List.getElem?_eq_getElem _, e⟩
    obtain ⟨u, hu, hq⟩ := load_packed (W := W) (μ := μ) ht hp ⟨g, off, none⟩ (fun j => (vs[off + j]?).getD undef) (fun j q e => by
        obtain ⟨u, hu, _⟩ := hex j q e
        rw [Addr.add_lit, hu]
        simp [World.cell?, hh, hu]) (fun j q e => by
        obtain ⟨u, hu, _⟩ := hex j q e
        rw [hu]
        exact h1 _ (List.mem_of_getElem? hu)) (fun j q e => by
        obtain ⟨u, hu, hc⟩ := hex j q e
        rw [hu]
        exact hrep _ _ _ hc hu)
    refine ⟨u, ?_, hq⟩
    simp only [execOp, ho]
    simp [hv, Instr.loadAt, Instr.sureAddr, hu]
theorem field_at {P : Program} [TC P] {s n off ft : Nat} {i j : TI} {fs : List (Nat × Nat)} (hs : lk (TC.T P) s = some i) (hd : i.d = .struct fs) (hf : fs[n]? = some (off, ft)) (hj : lk (TC.T P) ft = some j) (hz : j.sz ≠ 0) (ad : Addr) (W : World) : (Instr.fieldAt s (.pointer (some ad)) n).run P W = .ok (.pointer (some (ad.add off))) W := by
  have hu := (TC.at_ hs).und
  rw [hd] at hu
  obtain ⟨F, hF, hm⟩ := hu
  rw [← hm, List.getElem?_map] at hf
  obtain ⟨f, hf1, hf2⟩ := Option.map_eq_some_iff.1 hf
  cases hf2
  rw [Array.getElem?_toList] at hf1
  simp [Instr.fieldAt, run_underlying hF, hf1, Instr.sureAddr, fieldPlace, (TC.at_ hj).size, hz]
theorem OpV.fld {x : Operand} {s n off ft : Nat} {l : List PV} {i j : TI} {fs : List (Nat × Nat)} (ho : o.op = .fieldAddr s x n) (hx : S.ev x = some (.rp l)) (hs : lk (TC.T cx.P) s = some i) (hd : i.d = .struct fs) (hf : fs[n]? = some (off, ft)) (hj : lk (TC.T cx.P) ft = some j) (hne : j.sz ≠ 0) : OpV cx o S (.rp (l.drop off)) := fun a W Z μ hz => by
  have hr := hz.ev hx
  generalize hv : a.eval x = v at hr
  cases hr with
  | rp _ _ ad val hZ h1 h =>
    refine ⟨.pointer (some (ad.add off)), ?_, .rp _ _ _ (fun m => val (off + m)) (fun m p hp => ?_) (fun m p hp => h1 _ p (by rwa [List.getElem?_drop] at hp)) (fun m p hp => h _ p (by rwa [List.getElem?_drop] at hp))⟩
    · simp only [execOp, ho]
      simp [hv, field_at hs hd hf hj hne]
    · rw [List.getElem?_drop] at hp
      rw [add_add]
      exact hZ _ _ hp
theorem OpV.fldB {x : Operand} {s n off ft id o0 : Nat} {i j : TI} {fs : List (Nat × Nat)} (ho : o.op = .fieldAddr s x n) (hx : S.ev x = some (.bx id o0)) (hs : lk (TC.T cx.P) s = some i) (hd : i.d = .struct fs) (hf : fs[n]? = some (off, ft)) (hj : lk (TC.T cx.P) ft = some j) (hne : j.sz ≠ 0) : OpV cx o S (.bx id (o0 + off)) := fun a W Z μ hz => by
  have hr := hz.ev hx
  generalize hv : a.eval x = v at hr
  cases hr with
  | bx _ _ _ g hg =>
    refine ⟨.pointer (some ⟨g, o0 + off, none⟩), ?_, .bx _ _ _ _ hg⟩
    simp only [execOp, ho]
    simp [hv, field_at hs hd hf hj hne, Addr.add_lit]
end
section
variable {cx : Cx} {S : PS} {o : Oper}
theorem OpV.nilc {x : Operand} {l : List PV} (ho : o.op = .nilCheck x) (hx : S.ev x = some (.rp l)) : OpV cx o S (.rp l) := fun a W Z μ hz => by
  have hr := hz.ev hx
  refine ⟨a.eval x, ?_, hr⟩
  generalize hv : a.eval x = v at hr
  cases hr with
  | rp _ _ ad val hZ h1 h =>
    simp only [execOp, ho]
    simp [hv]
end
section
variable {cx : Cx} [TC cx.P] {S : PS} {o : Oper}
end
section
variable {cx : Cx} {S : PS} {o : Oper}
theorem OpV.nilcB {x : Operand} {id o0 : Nat} (ho : o.op = .nilCheck x) (hx : S.ev x = some (.bx id o0)) : OpV cx o S (.bx id o0) := fun a W Z μ hz => by
  have hr := hz.ev hx
  refine ⟨a.eval x, ?_, hr⟩
  generalize hv : a.eval x = v at hr
  cases hr with
  | bx _ _ _ g hg =>
    simp only [execOp, ho]
    simp [hv]
end
section
variable {cx : Cx} [TC cx.P] {S : PS} {o : Oper}
theorem OpV.conv {x : Operand} {src dst : Nat} {k k' : IntKind} {n : Int} {i j : TI} (ho : o.op = .convert src dst x) (hx : S.ev x = some (.lit (.int k n))) (hi : lk (TC.T cx.P) src = some i) (hi2 : i.d = .int k) (hj : lk (TC.T cx.P) dst = some j) (hj2 : j.d = .int k') : OpV cx o S (.lit (.int k' (k'.wrap n))) := fun a W Z μ hz => by
  have ex := (hz.ev hx).lit_inv
  have h1 := (TC.at_ hi).und
  have h2 := (TC.at_ hj).und
  rw [hi2] at h1
  rw [hj2] at h2
  have h1 : cx.P.underlying src = some (.int k) := h1
  have h2 : cx.P.underlying dst = some (.int k') := h2
  refine ⟨_, ?_, .lit _ _⟩
  simp only [execOp, ho, ex]
  simp [convert, run_underlying h1, run_underlying h2, Conv.intToInt]
end
end Go.Pw
set_option linter.unusedVariables false
set_option linter.unusedSimpArgs false
namespace Go.Pw
open Go Go.RowKit

theorem Sub.lt {Z : Cells} {W : World} (h : Sub Z W) {a : Addr} {v : Value} (e : Z a = some v) : a.block < W.heap.size := World.block_lt_of_cell? W a (h a v e)
theorem lt_of_heap {W : World} {g : Nat} {o : Obj} (h : W.heap[g]? = some o) : g < W.heap.size := (Array.getElem?_eq_some_iff.1 h).1
theorem BxOk.lt {base : Nat} {Z : Cells} {μ : Mu} {W : World} {t : Nat} {cs : List PV} {g : Nat} (h : BxOk base Z μ W t cs g) : g < W.heap.size := by
  obtain ⟨vs, hh, _⟩ := h; exact lt_of_heap hh
theorem BxOk.move {base : Nat} {Z Z' : Cells} {μ μ' : Mu} {W W' : World} {t : Nat} {cs : List PV} {g : Nat} (h : BxOk base Z μ W t cs g) (hw : W'.heap[g]? = W.heap[g]?) (hz : Z.le Z') (hm : μ.le μ') (hn : ∀ off, Z' ⟨g, off, none⟩ = none) : BxOk base Z' μ' W' t cs g := by
  obtain ⟨vs, hh, hl, h1, hr, hb, _⟩ := h
  exact ⟨vs, hw.trans hh, hl, h1, fun i p v a b => (hr i p v a b).mono hz hm, hb, hn⟩
theorem TkOk.lt {base : Nat} {Z : Cells} {W : World} {sz n : Nat} {v : Value} (h : TkOk base Z W sz n v) {g : Nat} (e : v.ownBlock = some g) : g < W.heap.size ∧ base ≤ g := by
  rcases h with ⟨rfl, _⟩ | ⟨g', cap, cur, t, rfl, hh, _, _, _, hb, _⟩
  · simp [Value.ownBlock] at e
  · simp [Value.ownBlock] at e; subst e; exact ⟨lt_of_heap hh, hb⟩
theorem TkOk.move {base : Nat} {Z Z' : Cells} {W W' : World} {sz n : Nat} {v : Value} (h : TkOk base Z W sz n v) (hw : ∀ g, v.ownBlock = some g → W'.heap[g]? = W.heap[g]? ∧ ∀ off, n * sz ≤ off → Z ⟨g, off, none⟩ = none → Z' ⟨g, off, none⟩ = none) : TkOk base Z' W' sz n v := by
  rcases h with h | ⟨g, cap, cur, t, rfl, hh, h1, h2, h3, hb, h4⟩
  · exact .inl h
  · obtain ⟨e, k⟩ := hw g rfl
    exact .inr ⟨g, cap, cur, t, rfl, e.trans hh, h1, h2, h3, hb, fun off ho => k off ho (h4 off ho)⟩
/-- The world has grown: what was there stays; what stays anew lies in new blocks. -/
theorem RepH.grow {base : Nat} {Z Z' : Cells} {μ : Mu} {h : PH} {W W' : World} (H : RepH base Z μ h W) (hb : Below W.heap.size W W') (hz : Z.le Z') (hn : ∀ a v, Z' a = some v → Z a = some v ∨ W.heap.size ≤ a.block) : RepH base Z' μ h W' where
  bx id t cs e := by
    obtain ⟨g, hg, hx⟩ := H.bx id t cs e
    have hlt := hx.lt
    refine ⟨g, hg, hx.move (hb.block g hlt) hz (Mu.le_refl _) (fun off => ?_)⟩
    cases e2 : Z' ⟨g, off, none⟩ with
    | none => rfl
    | some v =>
      rcases hn _ v e2 with h1 | h1
      · obtain ⟨_, _, _, _, _, _, h2⟩ := hx; rw [h2 off] at h1; cases h1
      · exact absurd h1 (by simp; omega)
  tk t sz n e := by
    obtain ⟨v, hv, hx⟩ := H.tk t sz n e
    refine ⟨v, hv, hx.move (fun g hg => ⟨hb.block g (hx.lt hg).1, fun off ho h0 => ?_⟩)⟩
    have hlt := (hx.lt hg).1
    cases e2 : Z' ⟨g, off, none⟩ with
    | none => rfl
    | some v =>
      rcases hn _ v e2 with h1 | h1
      · rw [h0] at h1; cases h1
      · exact absurd h1 (by simp; omega)
  bb := H.bb
  tt := H.tt
  bd := H.bd
  td := H.td
  tm := H.tm
  bt := H.bt
theorem Sub.grow {Z : Cells} {W W' : World} (h : Sub Z W) (hb : Below W.heap.size W W') : Sub Z W' := fun a v e => (hb.cell (h.lt e)).trans (h a v e)
theorem RZ.grow {cx : Cx} {S : PS} {a : Act} {W W' : World} {Z Z' : Cells} {μ : Mu} (h : RZ cx S a W Z μ) (hb : Below W.heap.size W W') (hz : Z.le Z') (hn : ∀ a v, Z' a = some v → Z a = some v ∨ W.heap.size ≤ a.block) (hs : Sub Z' W') : RZ cx S a W' Z' μ :=
  ⟨h.env.mono hz (Mu.le_refl _), h.h.grow hb hz hn, hs, h.le.trans ⟨hz, hn⟩ h.below.size, h.below.trans (hb.mono h.below.size)⟩
def Mu.setBx (μ : Mu) (id g : Nat) : Mu := ⟨fun i => if i = id then some g else μ.bx i, μ.tk⟩
def Mu.setTk (μ : Mu) (t n : Nat) (v : Value) : Mu := ⟨μ.bx, fun u m => if u = t ∧ m = n then some v else μ.tk u m⟩
theorem RepH.bxFree {base : Nat} {Z : Cells} {μ : Mu} {h : PH} {W : World} (H : RepH base Z μ h W) {id : Nat} (e : lk h.bx id = none) : μ.bx id = none := by
  cases hb : μ.bx id with
  | none => rfl
  | some g => exact absurd e (H.bd id g hb)
theorem RepH.tkFree {base : Nat} {Z : Cells} {μ : Mu} {h : PH} {W : World} (H : RepH base Z μ h W) {t : Nat} (e : lk h.tk t = none) (n : Nat) : μ.tk t n = none := by
  cases hb : μ.tk t n with
  | none => rfl
  | some g => exact absurd e (H.td t n g hb)
theorem Mu.setBx_le {μ : Mu} {id g : Nat} (h : μ.bx id = none) : μ.le (μ.setBx id g) := ⟨fun i k e => by
  simp only [Mu.setBx]
  by_cases hi : i = id
  · subst hi; rw [h] at e; cases e
  · rw [if_neg hi]; exact e, fun _ _ _ e => e⟩
theorem Mu.setTk_le {μ : Mu} {t n : Nat} {v : Value} (h : ∀ u, μ.tk t n = some u → u = v) : μ.le (μ.setTk t n v) := ⟨fun _ _ e => e, fun u m x e => by
  simp only [Mu.setTk]
  by_cases hu : u = t ∧ m = n
  · obtain ⟨rfl, rfl⟩ := hu; rw [if_pos ⟨rfl, rfl⟩, h x e]
  · rw [if_neg hu]; exact e⟩
theorem RepH.addBx {base : Nat} {Z : Cells} {μ : Mu} {h : PH} {W : World} (H : RepH base Z μ h W) {id g t : Nat} {cs : List PV} (hid : lk h.bx id = none) (hx : BxOk base Z (μ.setBx id g) W t cs g)
    (hg : ∀ i x, lk h.bx i = some x → μ.bx i ≠ some g) (ht : ∀ u sz n v, lk h.tk u = some (sz, n) → μ.tk u n = some v → v.ownBlock ≠ some g) : RepH base Z (μ.setBx id g) ⟨(id, (t, cs)) :: h.bx, h.tk⟩ W := by
  have hle := Mu.setBx_le (g := g) (H.bxFree hid)
  have hne : ∀ i, i ≠ id → (μ.setBx id g).bx i = μ.bx i := fun i hi => by simp [Mu.setBx, hi]
  have hself : (μ.setBx id g).bx id = some g := by simp [Mu.setBx]
  have hlk : ∀ i x, lk ((id, (t, cs)) :: h.bx) i = some x → (i = id ∧ x = (t, cs)) ∨ (i ≠ id ∧ lk h.bx i = some x) := fun i x e => by
    rw [lk_cons] at e
    by_cases hi : id = i
    · rw [if_pos hi] at e; cases e; exact .inl ⟨hi.symm, rfl⟩
    · rw [if_neg hi] at e; exact .inr ⟨fun k => hi k.symm, e⟩
  refine ⟨fun i t' cs' e => ?_, fun u sz n e => ?_, fun i j x y k hi hj h1 h2 => ?_, H.tt, fun i k e => ?_, H.td, H.tm, fun i u x sz n v k hi hu h1 h2 => ?_⟩
  · rcases hlk i _ e with ⟨rfl, e2⟩ | ⟨hi, e2⟩
    · cases e2; exact ⟨g, hself, hx⟩
    · obtain ⟨k, hk, hb⟩ := H.bx i t' cs' e2
      refine ⟨k, (hne i hi).trans hk, hb.move rfl (Cells.le_refl _) hle ?_⟩
      obtain ⟨_, _, _, _, _, _, h2⟩ := hb
      exact h2
  · exact H.tk u sz n e
  · rcases hlk i _ hi with ⟨rfl, _⟩ | ⟨hi1, hi2⟩ <;> rcases hlk j _ hj with ⟨rfl, _⟩ | ⟨hj1, hj2⟩
    · rfl
    · rw [hself] at h1; cases h1; rw [hne j hj1] at h2; exact absurd h2 (hg j _ hj2)
    · rw [hself] at h2; cases h2; rw [hne i hi1] at h1; exact absurd h1 (hg i _ hi2)
    · rw [hne i hi1] at h1; rw [hne j hj1] at h2; exact H.bb i j _ _ k hi2 hj2 h1 h2
  · rw [lk_cons]
    by_cases hi : id = i
    · rw [if_pos hi]; exact fun e => by cases e
    · rw [if_neg hi]; rw [hne i (fun k => hi k.symm)] at e; exact H.bd i k e
  · rcases hlk i _ hi with ⟨rfl, _⟩ | ⟨hi1, hi2⟩
    · rw [hself] at h1; cases h1; exact ht u sz n v hu h2
    · rw [hne i hi1] at h1; exact H.bt i u x sz n v k hi2 hu h1 h2
theorem RepH.addTk {base : Nat} {Z : Cells} {μ : Mu} {h : PH} {W : World} (H : RepH base Z μ h W) {t sz n : Nat} {v : Value} (hid : lk h.tk t = none) (hx : TkOk base Z W sz n v)
    (hg : ∀ i x k, lk h.bx i = some x → μ.bx i = some k → v.ownBlock ≠ some k) (ht : ∀ u sz' n' v' k, lk h.tk u = some (sz', n') → μ.tk u n' = some v' → v'.ownBlock = some k → v.ownBlock ≠ some k) : RepH base Z (μ.setTk t n v) ⟨h.bx, (t, (sz, n)) :: h.tk⟩ W := by
  have hle := Mu.setTk_le (μ := μ) (t := t) (n := n) (v := v) (fun u e => by rw [H.tkFree hid] at e; cases e)
  have hne : ∀ u m, u ≠ t → (μ.setTk t n v).tk u m = μ.tk u m := fun u m hu => by simp [Mu.setTk, hu]
  have hself : (μ.setTk t n v).tk t n = some v := by simp [Mu.setTk]
  have hlk : ∀ i x, lk ((t, (sz, n)) :: h.tk) i = some x → (i = t ∧ x = (sz, n)) ∨ (i ≠ t ∧ lk h.tk i = some x) := fun i x e => by
    rw [lk_cons] at e
    by_cases hi : t = i
    · rw [if_pos hi] at e; cases e; exact .inl ⟨hi.symm, rfl⟩
    · rw [if_neg hi] at e; exact .inr ⟨fun k => hi k.symm, e⟩
  refine ⟨fun i t' cs' e => ?_, fun u sz n e => ?_, H.bb, fun i j s1 n1 s2 n2 v1 v2 k hi hj h1 h2 => ?_, H.bd, fun i m x e => ?_, fun i m x s1 n1 e e2 => ?_, fun i u x s1 n1 v1 k hi hu h1 h2 => ?_⟩
  · obtain ⟨k, hk, hb⟩ := H.bx i t' cs' e
    refine ⟨k, hk, hb.move rfl (Cells.le_refl _) hle ?_⟩
    obtain ⟨_, _, _, _, _, _, h2⟩ := hb
    exact h2
  · rcases hlk u _ e with ⟨rfl, e2⟩ | ⟨hi, e2⟩
    · cases e2; exact ⟨v, hself, hx⟩
    · obtain ⟨x, h1, h2⟩ := H.tk u sz n e2
      exact ⟨x, (hne u _ hi).trans h1, h2⟩
  · rcases hlk i _ hi with ⟨rfl, e1⟩ | ⟨hi1, hi2⟩ <;> rcases hlk j _ hj with ⟨rfl, e2⟩ | ⟨hj1, hj2⟩
    · exact fun _ _ => rfl
    · cases e1; rw [hself] at h1; cases h1; rw [hne j _ hj1] at h2
      exact fun a b => absurd a (ht j _ _ _ k hj2 h2 b)
    · cases e2; rw [hself] at h2; cases h2; rw [hne i _ hi1] at h1
      exact fun a b => absurd b (ht i _ _ _ k hi2 h1 a)
    · rw [hne i _ hi1] at h1; rw [hne j _ hj1] at h2; exact H.tt i j _ _ _ _ _ _ k hi2 hj2 h1 h2
  · rw [lk_cons]
    by_cases hi : t = i
    · rw [if_pos hi]; exact fun e => by cases e
    · rw [if_neg hi]; rw [hne i _ (fun k => hi k.symm)] at e; exact H.td i m x e
  · rcases hlk i _ e2 with ⟨rfl, e3⟩ | ⟨hi1, hi2⟩
    · cases e3
      simp only [Mu.setTk] at e
      by_cases hm : m = n
      · omega
      · rw [if_neg (fun k => hm k.2), H.tkFree hid] at e; cases e
    · rw [hne i _ hi1] at e; exact H.tm i m x _ _ e hi2
  · rcases hlk u _ hu with ⟨rfl, e1⟩ | ⟨hu1, hu2⟩
    · cases e1; rw [hself] at h2; cases h2; exact hg i x k hi h1
    · rw [hne u _ hu1] at h2; exact H.bt i u x _ _ _ k hi hu2 h1 h2

/-! A new variable. -/
def cellsOf : PV → Option (List PV)
  | .agg l => some l
  | .lit v => bif v.oneCell' then some [.lit v] else none
  | .tup _ => none
  | .junk => none
  | .may _ _ _ => none
  | .ord _ _ => none
  | p => some [p]
theorem Rep.cells {Z : Cells} {μ : Mu} {p : PV} {v : Value} (h : Rep Z μ p v) {l : List PV} (e : cellsOf p = some l) : v.cells.toList.length = l.length ∧ (∀ u ∈ v.cells.toList, u.oneCell' = true) ∧ ∀ (i : Nat) (q : PV) (u : Value), l[i]? = some q → v.cells.toList[i]? = some u → Rep Z μ q u := by
  have one : ∀ {p : PV} {v : Value}, Rep Z μ p v → v.cells = #[v] → v.oneCell' = true → v.cells.toList.length = [p].length ∧ (∀ u ∈ v.cells.toList, u.oneCell' = true) ∧ ∀ (i : Nat) (q : PV) (u : Value), [p][i]? = some q → v.cells.toList[i]? = some u → Rep Z μ q u := by
    intro p v h hc h1
    rw [hc]
    refine ⟨rfl, fun u hu => by simp at hu; subst hu; exact h1, fun i q u hq hu => ?_⟩
    cases i with
    | zero => simp at hq hu; subst hq; subst hu; exact h
    | succ i => simp at hq
  cases p with
  | lit w =>
    have hv := h.lit_inv
    subst hv
    simp only [cellsOf] at e
    cases hb : v.oneCell' with
    | false => rw [hb] at e; cases e
    | true =>
      rw [hb] at e; cases e
      refine one h ?_ hb
      cases v <;> first | rfl | cases hb
  | agg l' =>
    cases e
    generalize hv : v = v' at h
    cases h with
    | agg _ _ cs hl h1 h => exact ⟨by simp [Value.cells, hl], fun u hu => h1 u (by simpa [Value.cells] using hu), fun i q u hq hu => h i q u hq (by simpa [Value.cells] using hu)⟩
  | tup l' => cases e
  | sl sz es q =>
    cases e
    obtain ⟨A, c, val, hv, _⟩ := h.sl_inv
    subst hv
    exact one h rfl rfl
  | rp l' =>
    cases e
    generalize hv : v = v' at h
    cases h with
    | rp _ _ ad val a b c => exact one (.rp _ _ ad val a b c) rfl rfl
  | bx id off =>
    cases e
    generalize hv : v = v' at h
    cases h with
    | bx _ _ _ g a => exact one (.bx _ _ _ g a) rfl rfl
  | bs id off n cap =>
    cases e
    generalize hv : v = v' at h
    cases h with
    | bs _ _ _ _ _ g a => exact one (.bs _ _ _ _ _ g a) rfl rfl
  | fn f l' =>
    cases e
    generalize hv : v = v' at h
    cases h with
    | fn _ _ _ cs a b => exact one (.fn _ _ _ cs a b) rfl rfl
  | may c q r => cases e
  | ord i j => cases e
  | junk => cases e
/-- The world with a block more. -/
theorem RZ.alloc {cx : Cx} {S : PS} {a : Act} {W : World} {Z : Cells} {μ : Mu} (h : RZ cx S a W Z μ) (o : Obj) : RZ cx S a (W.alloc o) Z μ :=
  have hb : Below W.heap.size W (W.alloc o) := (Below.refl _ _).alloc (Nat.le_refl _) o
  h.grow hb (Cells.le_refl _) (fun a v e => .inl e) (h.sub.grow hb)
theorem RZ.newBx {cx : Cx} {S : PS} {a : Act} {W : World} {Z : Cells} {μ : Mu} (h : RZ cx S a W Z μ) {d t : Nat} {cs : List PV} {vs : Array Value} (hd : lk S.h.bx d = none) (hn : d < cx.n) (hl : vs.toList.length = cs.length) (h1 : ∀ u ∈ vs.toList, u.oneCell' = true)
    (hr : ∀ (i : Nat) (q : PV) (u : Value), cs[i]? = some q → vs.toList[i]? = some u → Rep Z μ q u) :
    R cx ⟨(d, .bx d 0) :: S.env, ⟨(d, (t, cs)) :: S.h.bx, S.h.tk⟩⟩ (a.put (some d) (.pointer (some ⟨W.heap.size, 0, none⟩))) (W.alloc (.cells vs t)) := by
  have h' := h.alloc (.cells vs t)
  have hle := Mu.setBx_le (g := W.heap.size) (h.h.bxFree hd)
  refine ⟨Z, μ.setBx d W.heap.size, ⟨(h'.env.mono (Cells.le_refl _) hle).put hn (.bx _ d 0 W.heap.size (by simp [Mu.setBx])), ?_, h'.sub, h'.le, h'.below⟩⟩
  refine h'.h.addBx hd ⟨vs.toList, by rw [Array.toArray_toList]; exact heap_alloc_new W _, hl, h1, fun i q u a b => (hr i q u a b).mono (Cells.le_refl _) hle, h.below.size, fun off => ?_⟩ (fun i x e he => ?_) (fun u sz n v e he hv => ?_)
  · cases e : Z ⟨W.heap.size, off, none⟩ with
    | none => rfl
    | some v => exact absurd (h.sub.lt e) (by simp)
  · obtain ⟨g, hg, hb⟩ := h.h.bx i x.1 x.2 e
    rw [he] at hg; cases hg
    exact absurd hb.lt (Nat.lt_irrefl _)
  · obtain ⟨v', hv', hb⟩ := h.h.tk u sz n e
    rw [he] at hv'; cases hv'
    exact absurd (hb.lt hv).1 (Nat.lt_irrefl _)
section
variable {cx : Cx} [TC cx.P] {S : PS} {o : Oper} {ops : Array Oper} {rest : List Oper} {Q : Post}
end
section
variable {cx : Cx} {S : PS} {o : Oper} {ops : Array Oper} {rest : List Oper} {Q : Post}
theorem PL.box {x : Operand} {t d : Nat} {p : PV} {l : List PV} (ho : o.op = .box t x) (hdst : o.dst = some d) (hx : S.ev x = some p) (hl : cellsOf p = some l) (hf : lk S.h.bx d = none) (hn : dstOk cx.n (some d) = true) (hw : Wants cx ops o S true)
    (k : PL cx ops Q rest ⟨(d, .bx d 0) :: S.env, ⟨(d, (t, l)) :: S.h.bx, S.h.tk⟩⟩) : PL cx ops Q (o :: rest) S :=
  PL.cons hw (K := fun S' => S' = ⟨(d, .bx d 0) :: S.env, ⟨(d, (t, l)) :: S.h.bx, S.h.tk⟩⟩) (fun a W hR K' Q hK => by
    obtain ⟨Z, μ, hz⟩ := hR
    obtain ⟨h1, h2, h3⟩ := (hz.ev hx).cells hl
    show o.upon cx.P a K' Q _
    have hr : (execOp a.eval o).run cx.P W = .ok (.value (.pointer (some ⟨W.heap.size, 0, none⟩))) (W.alloc (.cells (a.eval x).cells t)) := by
      simp only [execOp, ho]
      simp [Instr.box, newVar, newRow]
    rw [hr]
    rw [Oper.upon_value, hdst]
    exact hK _ _ _ rfl (hz.newBx hf (by simpa [dstOk, Nat.blt_eq] using hn) h1 h2 h3)) fun S' e => by subst e; exact k
end
section
variable {cx : Cx} [TC cx.P] {S : PS} {o : Oper} {ops : Array Oper} {rest : List Oper} {Q : Post}
theorem PL.alloc {t d : Nat} {i : TI} (ho : o.op = .alloc t) (hdst : o.dst = some d) (ht : lk (TC.T cx.P) t = some i) (h1 : i.zero.cells.toList.all Value.oneCell' = true) (hf : lk S.h.bx d = none) (hn : dstOk cx.n (some d) = true) (hw : Wants cx ops o S true)
    (k : PL cx ops Q rest ⟨(d, .bx d 0) :: S.env, ⟨(d, (t, i.zero.cells.toList.map .lit)) :: S.h.bx, S.h.tk⟩⟩) : PL cx ops Q (o :: rest) S :=
  PL.cons hw (K := fun S' => S' = ⟨(d, .bx d 0) :: S.env, ⟨(d, (t, i.zero.cells.toList.map .lit)) :: S.h.bx, S.h.tk⟩⟩) (fun a W hR K' Q hK => by
    obtain ⟨Z, μ, hz⟩ := hR
    show o.upon cx.P a K' Q _
    have hr : (execOp a.eval o).run cx.P W = .ok (.value (.pointer (some ⟨W.heap.size, 0, none⟩))) (W.alloc (.cells i.zero.cells t)) := by
      simp only [execOp, ho]
      simp [Instr.alloc, newVar, newRow, (TC.at_ ht).zero]
    rw [hr]
    rw [Oper.upon_value, hdst]
    refine hK _ _ _ rfl (hz.newBx hf (by simpa [dstOk, Nat.blt_eq] using hn) (by simp) (fun u hu => List.all_eq_true.1 h1 u hu) (fun j q u hq hu => ?_))
    rw [List.getElem?_map, hu] at hq
    cases hq
    exact .lit _ _) fun S' e => by subst e; exact k
end

/-! A store into a variable of the call's own. -/
def writeC (cs : List PV) (off : Nat) (l : List PV) : List PV := cs.take off ++ (l ++ cs.drop (off + l.length))
theorem getElem?_splice {α : Type} (xs l : List α) (off : Nat) (h : off + l.length ≤ xs.length) (i : Nat) : (xs.take off ++ (l ++ xs.drop (off + l.length)))[i]? = if off ≤ i ∧ i < off + l.length then l[i - off]? else xs[i]? := by
  have hto : (xs.take off).length = off := by rw [List.length_take]; omega
  by_cases h1 : i < off
  · rw [if_neg (by omega), List.getElem?_append_left (by omega), List.getElem?_take_of_lt h1]
  · rw [List.getElem?_append_right (by omega), hto]
    by_cases h2 : i < off + l.length
    · rw [if_pos ⟨by omega, h2⟩, List.getElem?_append_left (by omega)]
    · rw [if_neg (by omega), List.getElem?_append_right (by omega), List.getElem?_drop]
      congr 1
      omega
theorem RepH.setBx {base : Nat} {Z : Cells} {μ : Mu} {h : PH} {W W' : World} (H : RepH base Z μ h W) {id t g : Nat} {cs cs' : List PV} (hid : lk h.bx id = some (t, cs)) (hg : μ.bx id = some g) (hx : BxOk base Z μ W' t cs' g)
    (hw : ∀ k, k ≠ g → W'.heap[k]? = W.heap[k]?) : RepH base Z μ ⟨(id, (t, cs')) :: h.bx, h.tk⟩ W' := by
  have hlk : ∀ i x, lk ((id, (t, cs')) :: h.bx) i = some x → (i = id ∧ x = (t, cs')) ∨ (i ≠ id ∧ lk h.bx i = some x) := fun i x e => by
    rw [lk_cons] at e
    by_cases hi : id = i
    · rw [if_pos hi] at e; cases e; exact .inl ⟨hi.symm, rfl⟩
    · rw [if_neg hi] at e; exact .inr ⟨fun k => hi k.symm, e⟩
  have hsome : ∀ i x, lk ((id, (t, cs')) :: h.bx) i = some x → ∃ y, lk h.bx i = some y := fun i x e => by
    rcases hlk i x e with ⟨rfl, _⟩ | ⟨_, e⟩
    · exact ⟨_, hid⟩
    · exact ⟨_, e⟩
  refine ⟨fun i t' cs2 e => ?_, fun u sz n e => ?_, fun i j x y k hi hj h1 h2 => ?_, H.tt, fun i k e => ?_, H.td, H.tm, fun i u x sz n v k hi hu h1 h2 => ?_⟩
  · rcases hlk i _ e with ⟨rfl, e2⟩ | ⟨hi, e2⟩
    · cases e2; exact ⟨g, hg, hx⟩
    · obtain ⟨k, hk, hb⟩ := H.bx i t' cs2 e2
      refine ⟨k, hk, hb.move (hw k (fun e => ?_)) (Cells.le_refl _) (Mu.le_refl _) ?_⟩
      · subst e; exact hi (H.bb i id _ _ k e2 hid hk hg)
      · obtain ⟨_, _, _, _, _, _, h2⟩ := hb; exact h2
  · obtain ⟨v, hv, hb⟩ := H.tk u sz n e
    refine ⟨v, hv, hb.move (fun k hk => ⟨hw k (fun e => ?_), fun _ _ e => e⟩)⟩
    subst e; exact H.bt id u _ sz n v k hid e hg hv hk
  · obtain ⟨x', hi'⟩ := hsome i x hi
    obtain ⟨y', hj'⟩ := hsome j y hj
    exact H.bb i j _ _ k hi' hj' h1 h2
  · rw [lk_cons]
    by_cases hi : id = i
    · rw [if_pos hi]; exact fun e => by cases e
    · rw [if_neg hi]; exact H.bd i k e
  · obtain ⟨x', hi'⟩ := hsome i x hi
    exact H.bt i u x' sz n v k hi' hu h1 h2
theorem PL.store {cx : Cx} [TC cx.P] {S : PS} {o : Oper} {ops : Array Oper} {rest : List Oper} {Q : Post} {x y : Operand} {t id off bt : Nat} {p : PV} {l cs : List PV} {i : TI} (ho : o.op = .store t x y) (hx : S.ev x = some (.bx id off)) (hy : S.ev y = some p) (hl : cellsOf p = some l)
    (hb : lk S.h.bx id = some (bt, cs)) (ht : lk (TC.T cx.P) t = some i) (hsz : l.length = i.sz) (hle : off + l.length ≤ cs.length) (hd : o.dst = none) (hw : Wants cx ops o S true)
    (k : PL cx ops Q rest ⟨S.env, ⟨(id, (bt, writeC cs off l)) :: S.h.bx, S.h.tk⟩⟩) : PL cx ops Q (o :: rest) S :=
  PL.cons hw (K := fun S' => S' = ⟨S.env, ⟨(id, (bt, writeC cs off l)) :: S.h.bx, S.h.tk⟩⟩) (fun a W hR K' Q hK => by
    obtain ⟨Z, μ, hz⟩ := hR
    obtain ⟨h1, h2, h3⟩ := (hz.ev hy).cells hl
    show o.upon cx.P a K' Q _
    have hr := hz.ev hx
    generalize hv : a.eval x = v at hr
    cases hr with
    | bx _ _ _ g hg =>
      obtain ⟨g', hg', hbo⟩ := hz.h.bx id bt cs hb
      rw [hg] at hg'; cases hg'
      obtain ⟨vs, hh, hlen, hv1, hrep, hbase, hZ⟩ := hbo
      have hst := run_storeCells_at cx.P g off bt (a.eval y).cells.toList 0 vs.toArray W hh (by simp only [Nat.add_zero, List.size_toArray]; omega) h2
      simp only [Nat.add_zero] at hst
      have hr : (execOp a.eval o).run cx.P W = .ok .skip (W.setRow g (vs.take off ++ ((a.eval y).cells.toList ++ vs.drop (off + (a.eval y).cells.toList.length))).toArray) := by
        have hszz : (a.eval y).cells.size = i.sz := by rw [← hsz, ← h1]; simp
        simp only [execOp, ho]
        simp [hv, Instr.storeAt, Instr.sureAddr, storeVar, (TC.at_ ht).size, hszz] at hst ⊢
        rw [hst]
        rfl
      rw [hr, Oper.upon_skip, hd]
      refine hK _ _ _ rfl ⟨Z, μ, hz.env, ?_, fun ad v e => ?_, hz.le, hz.below.trans ⟨rfl, rfl, rfl, by simp, fun k hk => setRow_other W g k _ (by omega)⟩⟩
      · refine hz.h.setBx hb hg ⟨_, setRow_heap W g _ _ bt _ hh, ?_, fun u hu => ?_, fun j q u hq hu => ?_, hbase, hZ⟩ (fun k hk => setRow_other W g k _ hk)
        · simp only [writeC, List.length_append, List.length_take, List.length_drop]; omega
        · rcases List.mem_append.1 hu with hu | hu
          · exact hv1 u (List.mem_of_mem_take hu)
          · rcases List.mem_append.1 hu with hu | hu
            · exact h2 u hu
            · exact hv1 u (List.mem_of_mem_drop hu)
        · rw [writeC, getElem?_splice cs l off hle] at hq
          rw [getElem?_splice vs _ off (by omega), h1] at hu
          by_cases hin : off ≤ j ∧ j < off + l.length
          · rw [if_pos hin] at hq hu; exact h3 _ q u hq hu
          · rw [if_neg hin] at hq hu; exact hrep j q u hq hu
      · refine (World.cell?_of_block (setRow_other W g ad.block _ (fun e2 => ?_))).trans (hz.sub ad v e)
        have hc := hz.sub ad v e
        have hsp : ad.spot = none := by
          unfold World.cell? at hc
          split at hc
          · cases hs : ad.spot with
            | none => rfl
            | some s => simp [hs] at hc
          · cases hc
        have : ad = ⟨g, ad.off, none⟩ := by cases ad; simp at e2 hsp ⊢; exact ⟨e2, hsp⟩
        rw [this, hZ] at e
        cases e) fun S' e => by subst e; exact k

/-! Rows of cells that stand for elements. -/
structure CellsOf (Z : Cells) (sz : Nat) (es : List (List PV)) (cs : List Value) : Prop where
  len : cs.length = es.length * sz
  all : ∀ e ∈ es, e.length = sz
  one : ∀ u ∈ cs, u.oneCell' = true
  at_ : ∀ (i : Nat) (e : List PV) (j : Nat) (p : PV), es[i]? = some e → e[j]? = some p → ∃ u, cs[i * sz + j]? = some u ∧ Rep Z Mu.emp p u
theorem idx_lt {i j n sz : Nat} (hi : i < n) (hj : j < sz) : i * sz + j < n * sz := by
  have := Nat.mul_le_mul_right sz (show i + 1 ≤ n from hi)
  rw [Nat.add_mul] at this
  omega
theorem CellsOf.mono {Z Z' : Cells} {sz : Nat} {es : List (List PV)} {cs : List Value} (h : CellsOf Z sz es cs) (hz : Z.le Z') : CellsOf Z' sz es cs :=
  ⟨h.len, h.all, h.one, fun i e j p a b => let ⟨u, hu, hr⟩ := h.at_ i e j p a b; ⟨u, hu, hr.mono hz (Mu.le_refl _)⟩⟩
theorem CellsOf.nil (Z : Cells) (sz : Nat) : CellsOf Z sz [] [] := ⟨by simp, fun e h => (by cases h), fun e h => (by cases h), fun i e j p a => (by simp at a)⟩
theorem CellsOf.append {Z : Cells} {sz : Nat} {es es' : List (List PV)} {cs cs' : List Value} (h : CellsOf Z sz es cs) (k : CellsOf Z sz es' cs') : CellsOf Z sz (es ++ es') (cs ++ cs') where
  len := by rw [List.length_append, List.length_append, h.len, k.len, Nat.add_mul]
  all e he := (List.mem_append.1 he).elim (h.all e) (k.all e)
  one u hu := (List.mem_append.1 hu).elim (h.one u) (k.one u)
  at_ i e j p a b := by
    by_cases hi : i < es.length
    · rw [List.getElem?_append_left hi] at a
      obtain ⟨u, hu, hr⟩ := h.at_ i e j p a b
      refine ⟨u, ?_, hr⟩
      rw [List.getElem?_append_left ((List.getElem?_eq_some_iff.1 hu).1)]
      exact hu
    · rw [List.getElem?_append_right (by omega)] at a
      obtain ⟨u, hu, hr⟩ := k.at_ _ e j p a b
      refine ⟨u, ?_, hr⟩
      have hle : es.length * sz ≤ i * sz := Nat.mul_le_mul_right _ (by omega)
      rw [List.getElem?_append_right (by rw [h.len]; omega), h.len]
      rw [Nat.sub_mul] at hu
      rw [show i * sz + j - es.length * sz = i * sz - es.length * sz + j from by omega]
      exact hu
theorem Rep.news {Z : Cells} {μ : Mu} {sz : Nat} {es : List (List PV)} {q : Option Nat} {v : Value} (h : Rep Z μ (.sl sz es q) v) : ∃ A c cs, v = .slice A es.length c ∧ es.length ≤ c ∧ CellsOf Z sz es cs ∧ (0 < es.length → ∃ ad : Addr, A = some ad ∧ ∀ (j : Nat) (u : Value), cs[j]? = some u → Z (ad.add j) = some u) := by
  obtain ⟨A, c, val, hv, hc, hes, hZ, h1, hr⟩ := h.sl_inv
  have get : ∀ j, j < es.length * sz → ∃ e p, es[j / sz]? = some e ∧ e[j % sz]? = some p := fun j hj => by
    have hsz : 0 < sz := by rcases Nat.eq_zero_or_pos sz with e | e; · subst e; omega
                            · exact e
    have hd : j / sz < es.length := (Nat.div_lt_iff_lt_mul hsz).2 hj
    have hm := Nat.mod_lt j hsz
    have hl := hes _ (List.getElem_mem hd)
    exact ⟨es[j / sz], (es[j / sz])[j % sz]'(by omega), List.getElem?_eq_getElem _, List.getElem?_eq_getElem _⟩
  have hcs : ((List.range (es.length * sz)).map fun j => val (j / sz) (j % sz)).length = es.length * sz := by simp
  have hget : ∀ (j : Nat) (u : Value), ((List.range (es.length * sz)).map fun j => val (j / sz) (j % sz))[j]? = some u → j < es.length * sz ∧ u = val (j / sz) (j % sz) := fun j u hu => by
    have hj : j < es.length * sz := by have := (List.getElem?_eq_some_iff.1 hu).1; rwa [hcs] at this
    rw [List.getElem?_map, List.getElem?_range hj] at hu
    cases hu
    exact ⟨hj, rfl⟩
  refine ⟨A, c, (List.range (es.length * sz)).map fun j => val (j / sz) (j % sz), hv, hc, ⟨hcs, hes, fun u hu => ?_, fun i e j p he hp => ?_⟩, fun h0 => ?_⟩
  · obtain ⟨j, hj⟩ := List.mem_iff_getElem?.1 hu
    obtain ⟨hlt, rfl⟩ := hget j u hj
    obtain ⟨e, p, he, hp⟩ := get j hlt
    exact h1 _ _ _ _ he hp
  · have hi := (List.getElem?_eq_some_iff.1 he).1
    have hj := (List.getElem?_eq_some_iff.1 hp).1
    rw [hes e (List.mem_of_getElem? he)] at hj
    have hlt := idx_lt hi hj
    have hdiv : (i * sz + j) / sz = i := by rw [Nat.mul_comm, Nat.mul_add_div (by omega), Nat.div_eq_of_lt hj]; rfl
    have hmod : (i * sz + j) % sz = j := by rw [Nat.mul_comm, Nat.mul_add_mod, Nat.mod_eq_of_lt hj]
    refine ⟨val i j, ?_, hr i e j p he hp⟩
    rw [List.getElem?_map, List.getElem?_range hlt]
    simp only [Option.map_some, hdiv, hmod]
  · obtain ⟨ad, hA, hZ2⟩ := hZ h0
    refine ⟨ad, hA, fun j u hu => ?_⟩
    obtain ⟨hlt, rfl⟩ := hget j u hu
    obtain ⟨e, p, he, hp⟩ := get j hlt
    have := hZ2 _ _ _ _ he hp
    rwa [Nat.div_add_mod' j sz] at this
theorem CellsOf.rep {Z : Cells} {sz : Nat} {es : List (List PV)} {cs : List Value} (h : CellsOf Z sz es cs) {A : Option Addr} {c : Nat} (hc : es.length ≤ c) (hz : 0 < es.length → ∃ ad : Addr, A = some ad ∧ ∀ (j : Nat) (u : Value), cs[j]? = some u → Z (ad.add j) = some u) (μ : Mu) : Rep Z μ (.sl sz es none) (.slice A es.length c) := by
  have hat : ∀ (i : Nat) (e : List PV) (j : Nat) (p : PV), es[i]? = some e → e[j]? = some p → cs[i * sz + j]? = some ((cs[i * sz + j]?).getD undef) ∧ Rep Z Mu.emp p ((cs[i * sz + j]?).getD undef) := fun i e j p he hp => by
    obtain ⟨u, hu, hr⟩ := h.at_ i e j p he hp
    rw [hu]; exact ⟨rfl, hr⟩
  refine .sl μ sz es A c (fun i j => (cs[i * sz + j]?).getD undef) hc h.all (fun h0 => ?_) (fun i e j p he hp => h.one _ (List.mem_of_getElem? (hat i e j p he hp).1)) (fun i e j p he hp => (hat i e j p he hp).2)
  obtain ⟨ad, hA, hZ⟩ := hz h0
  exact ⟨ad, hA, fun i e j p he hp => hZ _ _ (hat i e j p he hp).1⟩
/-- Cells of one more block that stay. -/
def Cells.add (Z : Cells) (g : Nat) (cs : List Value) : Cells := fun a => match Z a with
  | some v => some v
  | none => if a.block = g ∧ a.spot = none then cs[a.off]? else none
theorem Cells.le_add (Z : Cells) (g : Nat) (cs : List Value) : Z.le (Z.add g cs) := fun a v e => by simp [Cells.add, e]
theorem Cells.add_inv {Z : Cells} {g : Nat} {cs : List Value} {a : Addr} {v : Value} (h : Z.add g cs a = some v) : Z a = some v ∨ (a.block = g ∧ a.spot = none ∧ cs[a.off]? = some v) := by
  unfold Cells.add at h
  split at h
  · rename_i u e; cases h; exact .inl e
  · split at h
    · rename_i h1; exact .inr ⟨h1.1, h1.2, h⟩
    · cases h
theorem Cells.add_none {Z : Cells} {g k off : Nat} {cs : List Value} (h : Z ⟨k, off, none⟩ = none) (h2 : k = g → cs.length ≤ off) : Z.add g cs ⟨k, off, none⟩ = none := by
  cases e : Z.add g cs ⟨k, off, none⟩ with
  | none => rfl
  | some v =>
    rcases Cells.add_inv e with h3 | ⟨h3, _, h4⟩
    · rw [h] at h3; cases h3
    · have := h2 h3
      have := (List.getElem?_eq_some_iff.1 h4).1
      simp at this; omega
theorem Cells.add_at {Z : Cells} {W : World} {g : Nat} {cs : List Value} (hs : Sub Z W) (hc : ∀ (j : Nat) (u : Value), cs[j]? = some u → W.cell? ⟨g, j, none⟩ = some u) (j : Nat) (u : Value) (h : cs[j]? = some u) : Z.add g cs ⟨g, j, none⟩ = some u := by
  simp only [Cells.add]
  cases e : Z ⟨g, j, none⟩ with
  | some v => have := hs _ _ e; rw [hc j u h] at this; simp at this ⊢; exact this.symm
  | none => simp [h]
theorem Sub.add {Z : Cells} {W : World} {g : Nat} {cs : List Value} (hs : Sub Z W) (hc : ∀ (j : Nat) (u : Value), cs[j]? = some u → W.cell? ⟨g, j, none⟩ = some u) : Sub (Z.add g cs) W := fun a v e => by
  rcases Cells.add_inv e with h | ⟨h1, h2, h3⟩
  · exact hs a v h
  · have : a = ⟨g, a.off, none⟩ := by cases a; simp at h1 h2 ⊢; exact ⟨h1, h2⟩
    rw [this]; exact hc _ _ h3

/-! What a literal makes. -/
mutual
def free : PV → Bool
  | .lit _ => true
  | .sl _ _ none => true
  | .rp _ => true
  | .junk => true
  | .agg l => freeL l
  | .tup l => freeL l
  | .fn _ l => freeL l
  | .may _ p q => free p && free q
  | .sl _ _ (some _) => false
  | .bx _ _ => false
  | .bs _ _ _ _ => false
  | .ord _ _ => false
def freeL : List PV → Bool
  | [] => true
  | p :: r => free p && freeL r
end
theorem freeL_mem : ∀ {l : List PV}, freeL l = true → ∀ p ∈ l, free p = true
  | [], _, _, h => by cases h
  | q :: r, h, p, hp => by
    simp only [freeL, Bool.and_eq_true] at h
    rcases List.mem_cons.1 hp with rfl | hp
    · exact h.1
    · exact freeL_mem h.2 p hp
/-- What names nothing stands without names. -/
theorem Rep.drop {Z : Cells} {μ : Mu} {p : PV} {v : Value} (h : Rep Z μ p v) (hf : free p = true) : Rep Z Mu.emp p v := by
  induction h with
  | lit μ v => exact .lit _ v
  | agg μ l cs hl h1 _ ih => exact .agg _ l cs hl h1 (fun i p v a b => ih i p v a b (freeL_mem (by simpa [free] using hf) p (List.mem_of_getElem? a)))
  | tup μ l cs hl _ ih => exact .tup _ l cs hl (fun i p v a b => ih i p v a b (freeL_mem (by simpa [free] using hf) p (List.mem_of_getElem? a)))
  | sl μ sz es A c val hc hz hZ h1 h _ => exact .sl _ sz es A c val hc hz hZ h1 h
  | own μ sz es t v _ ht ih => simp [free] at hf
  | rp μ l ad val hZ h1 h _ => exact .rp _ l ad val hZ h1 h
  | bx μ id off g hg => simp [free] at hf
  | bs μ id off n cap g hg => simp [free] at hf
  | fn μ f l cs hl _ ih => exact .fn _ f l cs hl (fun i p v a b => ih i p v a b (freeL_mem (by simpa [free] using hf) p (List.mem_of_getElem? a)))
  | may μ c p q v _ _ ih ik =>
    simp only [free, Bool.and_eq_true] at hf
    exact .may _ c p q v (fun e => ih e hf.1) (fun e => ik e hf.2)
  | ord μ i j gi gj v hi hj h => simp [free] at hf
  | junk μ v => exact .junk _ v
theorem fill_row (size : Nat) : ∀ (vs : List Value) (k : Nat) (pre post : List Value), pre.length = k * size → post.length = vs.length * size → (∀ v ∈ vs, v.cells.size = size) →
    Instr.fill (fun i => some (i * size, size)) (pre ++ post).toArray ((vs.zipIdx k).map fun x => (x.2, x.1)) = some (pre ++ vs.flatMap fun v => v.cells.toList).toArray
  | [], k, pre, post, _, h, _ => by
    have : post = [] := List.eq_nil_of_length_eq_zero (by simpa using h)
    subst this
    simp [Instr.fill]
  | v :: vs, k, pre, post, h1, h2, h3 => by
    have hv : v.cells.size = size := h3 v List.mem_cons_self
    have hlen : size ≤ post.length := by rw [h2, List.length_cons, Nat.add_mul]; omega
    have key : ∀ (cs : List Value) (o : Nat) (A : Array Value), o + cs.length ≤ A.size → (cs.zipIdx.foldl (fun (A : Array Value) (x : Value × Nat) => A.setIfInBounds (o + x.2) x.1) A).toList = A.toList.take o ++ (cs ++ A.toList.drop (o + cs.length)) := by
      intro cs
      suffices H : ∀ (cs : List Value) (j o : Nat) (A : Array Value), o + j + cs.length ≤ A.size → ((cs.zipIdx j).foldl (fun (A : Array Value) (x : Value × Nat) => A.setIfInBounds (o + x.2) x.1) A).toList = A.toList.take (o + j) ++ (cs ++ A.toList.drop (o + j + cs.length)) from fun o A h => by simpa using H cs 0 o A (by simpa using h)
      intro cs
      induction cs with
      | nil => intro j o A _; simp
      | cons c cs ih =>
        intro j o A h
        simp only [List.length_cons] at h
        rw [List.zipIdx_cons, List.foldl_cons, ih (j + 1) o _ (by simp; omega)]
        rw [Array.toList_setIfInBounds]
        apply List.ext_getElem?
        intro i
        have hl : (A.toList.set (o + j) c).length = A.size := by simp
        rw [getElem?_splice' _ _ _ (by rw [hl]; omega), show A.toList.take (o + j) ++ (c :: cs ++ A.toList.drop (o + j + (c :: cs).length)) = A.toList.take (o + j) ++ ((c :: cs) ++ A.toList.drop (o + j + (c :: cs).length)) from rfl, getElem?_splice' _ _ _ (by simp; omega)]
        simp only [List.length_cons]
        by_cases h1 : i = o + j
        · subst h1
          rw [if_neg (by omega), if_pos ⟨by omega, by omega⟩, List.getElem?_set_self (by rw [Array.length_toList]; omega)]
          simp
        · rw [List.getElem?_set_ne (fun e => h1 e.symm)]
          by_cases h2 : o + (j + 1) ≤ i ∧ i < o + (j + 1) + cs.length
          · rw [if_pos h2, if_pos ⟨by omega, by omega⟩, show i - (o + j) = i - (o + (j + 1)) + 1 from by omega, List.getElem?_cons_succ]
          · rw [if_neg h2, if_neg (by omega)]
    rw [List.zipIdx_cons, List.map_cons]
    simp only [Instr.fill]
    rw [if_neg (by simp [hv, List.length_append]; rw [h1]; omega)]
    have e : (v.cells.zipIdx.foldl (fun cs (c, j) => cs.setIfInBounds (k * size + j) c) (pre ++ post).toArray) = ((pre ++ v.cells.toList) ++ post.drop size).toArray := by
      apply Array.ext'
      have := key v.cells.toList (k * size) (pre ++ post).toArray (by simp [hv, h1]; omega)
      rw [← Array.foldl_toList, Array.toList_zipIdx]
      refine this.trans ?_
      rw [← h1]
      simp [hv]
    rw [e, fill_row size vs (k + 1) (pre ++ v.cells.toList) (post.drop size) (by simp [h1, hv, Nat.add_mul]) (by rw [List.length_drop, h2, List.length_cons, Nat.add_mul]; omega) (fun x hx => h3 x (List.mem_cons_of_mem _ hx))]
    simp [List.append_assoc]
 where
  getElem?_splice' {α : Type} (xs l : List α) (off : Nat) (h : off + l.length ≤ xs.length) {i : Nat} : (xs.take off ++ (l ++ xs.drop (off + l.length)))[i]? = if off ≤ i ∧ i < off + l.length then l[i - off]? else xs[i]? := getElem?_splice xs l off h i

/-- The parts of a literal, one behind the other. -/
def partsAre (ps : Array (Nat × Operand)) (n : Nat) : Bool := (ps.toList.map (·.1)) == List.range n
/-- A row, as a slice that is read. -/
def roV : PV → PV
  | .sl sz es (some _) => .sl sz es none
  | p => p
theorem Rep.roV {Z : Cells} {μ : Mu} {p : PV} {v : Value} (h : Rep Z μ p v) : Rep Z μ (Pw.roV p) v := by
  unfold Pw.roV
  split
  · cases h with
    | own _ _ _ _ _ h _ => exact h
  · exact h
def evL (S : PS) : List (Nat × Operand) → Option (List (List PV))
  | [] => some []
  | q :: r => match S.ev q.2 with
    | some p => match cellsOf (roV p) with
      | some l => match evL S r with
        | some ls => some (l :: ls)
        | none => none
      | none => none
    | none => none
theorem evL_vals {cx : Cx} {S : PS} {a : Act} {W : World} {Z : Cells} {μ : Mu} (hz : RZ cx S a W Z μ) {sz : Nat} : ∀ (ps : List (Nat × Operand)) (es : List (List PV)), evL S ps = some es → (∀ e ∈ es, e.length = sz) → (∀ e ∈ es, freeL e = true) →
    es.length = ps.length ∧ (∀ v ∈ ps.map (fun q => a.eval q.2), v.cells.size = sz) ∧ CellsOf Z sz es ((ps.map (fun q => a.eval q.2)).flatMap fun v => v.cells.toList)
  | [], es, h, _, _ => by simp only [evL, Option.some.injEq] at h; subst h; exact ⟨rfl, fun v hv => by simp at hv, CellsOf.nil _ _⟩
  | q :: r, es, h, hl, hf => by
    simp only [evL] at h
    split at h
    · rename_i p hp
      split at h
      · rename_i l hc
        split at h
        · rename_i ls hls
          cases h
          obtain ⟨i1, i2, i3⟩ := evL_vals hz r ls hls (fun e he => hl e (List.mem_cons_of_mem _ he)) (fun e he => hf e (List.mem_cons_of_mem _ he))
          have hr := hz.ev hp
          obtain ⟨c1, c2, c3⟩ := hr.roV.cells hc
          have hlen : l.length = sz := hl l List.mem_cons_self
          have hfr : ∀ p ∈ l, free p = true := freeL_mem (hf l List.mem_cons_self)
          refine ⟨by simp [i1], fun v hv => ?_, ?_⟩
          · rw [List.map_cons, List.mem_cons] at hv
            rcases hv with rfl | hv
            · rw [← Array.length_toList, c1, hlen]
            · exact i2 v hv
          · have h1 : CellsOf Z sz [l] (a.eval q.2).cells.toList := ⟨by simp [c1, hlen], fun e he => by rw [List.mem_singleton] at he; subst he; exact hlen, c2, fun i e j p he hp2 => by
              cases i with
              | zero =>
                simp at he; subst he
                have hj := (List.getElem?_eq_some_iff.1 hp2).1
                have hj2 : j < (a.eval q.2).cells.toList.length := by rw [c1]; exact hj
                refine ⟨(a.eval q.2).cells.toList[j], ?_, (c3 j p _ hp2 (List.getElem?_eq_getElem hj2)).drop (hfr p (List.mem_of_getElem? hp2))⟩
                rw [Nat.zero_mul, Nat.zero_add]
                exact List.getElem?_eq_getElem hj2
              | succ i => simp at he⟩
            simpa using h1.append i3
        · cases h
      · cases h
    · cases h
theorem zipIdx_of_range {α : Type} : ∀ (l : List (Nat × α)) (k : Nat), l.map (·.1) = List.range' k l.length → l = ((l.map (·.2)).zipIdx k).map fun x => (x.2, x.1)
  | [], _, _ => rfl
  | q :: r, k, h => by
    rw [List.map_cons, List.length_cons, List.range'_succ] at h
    simp only [List.cons.injEq] at h
    rw [List.map_cons, List.zipIdx_cons, List.map_cons, ← zipIdx_of_range r (k + 1) h.2, ← h.1]
theorem run_lit {P : Program} [TC P] {W : World} {t e n : Nat} {i j : TI} (ht : lk (TC.T P) t = some i) (hd : i.d = .slice e) (he : lk (TC.T P) e = some j) (vs : List Value) (hn : vs.length = n) (hs : ∀ v ∈ vs, v.cells.size = j.sz) (hb : n * j.sz ≤ 16777216) :
    (Instr.buildSlice t n (((vs.zipIdx 0).map fun x => (x.2, x.1)).toArray)).run P W = .ok (.slice (some ⟨W.heap.size, 0, none⟩) n n) (W.alloc (.cells (vs.flatMap fun v => v.cells.toList).toArray e)) := by
  have hu := (TC.at_ ht).und
  rw [hd] at hu
  have hu : P.underlying t = some (.slice e) := hu
  have hi := TC.at_ he
  have hf := fill_row j.sz vs 0 [] ((Array.range (n * j.sz)).map (fun x => (if n * j.sz = 0 then (#[] : Array Value) else j.zero.cells)[x % (if n * j.sz = 0 then (#[] : Array Value) else j.zero.cells).size]!)).toList (by simp) (by simp [hn]) hs
  simp only [List.nil_append, Array.toArray_toList] at hf
  simp only [Instr.buildSlice, Sem.run_bind, run_underlying hu, Result.andThen_ok, hi.size]
  rw [if_neg (by omega)]
  by_cases h0 : n * j.sz = 0
  · simp only [h0, if_true] at hf ⊢
    simp only [Sem.run_bind, Sem.run_pure, Result.andThen_ok, hf]
    simp [newRow]
  · simp only [h0, if_false] at hf ⊢
    simp only [Sem.run_bind, hi.zero, Sem.run_pure, Result.andThen_ok, hf]
    simp [newRow]
end Go.Pw
set_option linter.unusedVariables false
set_option linter.unusedSimpArgs false
namespace Go.Pw
open Go Go.RowKit

/-- The world has one more block, whose first cells stay. -/
theorem RZ.newZ {cx : Cx} {S : PS} {a : Act} {W W' : World} {Z : Cells} {μ : Mu} (h : RZ cx S a W Z μ) (hb : Below W.heap.size W W') {g : Nat} (hg : W.heap.size ≤ g) {cs : List Value} (hc : ∀ (j : Nat) (u : Value), cs[j]? = some u → W'.cell? ⟨g, j, none⟩ = some u) : RZ cx S a W' (Z.add g cs) μ :=
  h.grow hb (Cells.le_add _ _ _) (fun ad v e => (Cells.add_inv e).imp id (fun x => by omega)) ((h.sub.grow hb).add hc)
theorem Sub.free {Z : Cells} {W : World} (h : Sub Z W) {g : Nat} (hg : W.heap.size ≤ g) (off : Nat) : Z ⟨g, off, none⟩ = none := by
  cases e : Z ⟨g, off, none⟩ with
  | none => rfl
  | some v => have := h.lt e; simp at this; omega
section
variable {cx : Cx} [TC cx.P] {S : PS} {o : Oper} {ops : Array Oper} {rest : List Oper} {Q : Post}
/-- A slice literal: a row of the call's own, under the name of its place. -/
theorem PL.lit {t n d e : Nat} {ps : Array (Nat × Operand)} {es : List (List PV)} {i j : TI} (ho : o.op = .buildSlice t n ps) (hdst : o.dst = some d) (hps : partsAre ps n = true) (hes : evL S ps.toList = some es) (ht : lk (TC.T cx.P) t = some i) (hd : i.d = .slice e) (he : lk (TC.T cx.P) e = some j)
    (hl : es.all (fun x => x.length == j.sz) = true) (hf : es.all freeL = true) (hb : n * j.sz ≤ 16777216) (hnm : n ≤ 16777216) (hfr : lk S.h.tk d = none) (hn : dstOk cx.n (some d) = true) (hw : Wants cx ops o S true)
    (k : PL cx ops Q rest ⟨(d, .sl j.sz es (some d)) :: S.env, ⟨S.h.bx, (d, (j.sz, es.length)) :: S.h.tk⟩⟩) : PL cx ops Q (o :: rest) S :=
  PL.cons hw (K := fun S' => S' = ⟨(d, .sl j.sz es (some d)) :: S.env, ⟨S.h.bx, (d, (j.sz, es.length)) :: S.h.tk⟩⟩) (fun a W hR K' Q hK => by
    obtain ⟨Z, μ, hz⟩ := hR
    have hl2 : ∀ e ∈ es, e.length = j.sz := fun e he => by simpa using List.all_eq_true.1 hl e he
    obtain ⟨e1, e2, e3⟩ := evL_vals hz ps.toList es hes hl2 (fun e he => List.all_eq_true.1 hf e he)
    have hpr : ps.toList.map (·.1) = List.range n := by simpa [partsAre] using hps
    have hplen : ps.toList.length = n := by have := congrArg List.length hpr; simpa using this
    have hz2 := zipIdx_of_range ps.toList 0 (by rw [hpr, hplen, List.range_eq_range'])
    have hrun := run_lit (P := cx.P) (W := W) ht hd he (ps.toList.map fun q => a.eval q.2) (by simpa using hplen) e2 hb
    show o.upon cx.P a K' Q _
    have hr : (execOp a.eval o).run cx.P W = .ok (.value (.slice (some ⟨W.heap.size, 0, none⟩) n n)) (W.alloc (.cells ((ps.toList.map fun q => a.eval q.2).flatMap fun v => v.cells.toList).toArray e)) := by
      have hmap : (ps.map fun (q : Nat × Operand) => (q.1, a.eval q.2)) = (((ps.toList.map fun q => a.eval q.2).zipIdx 0).map fun x => (x.2, x.1)).toArray := by
        have h1 : (ps.toList.map fun q => a.eval q.2) = (ps.toList.map (·.2)).map a.eval := by rw [List.map_map]; rfl
        generalize hL : ps.toList.map (·.2) = L at hz2 h1
        apply Array.ext'
        rw [Array.toList_map, h1, hz2, List.map_map, List.zipIdx_map, List.map_map]
        simp [Function.comp_def]
      simp only [execOp, ho]
      have : (ps.map fun (x : Nat × Operand) => match x with | (i, x) => (i, a.eval x)) = (ps.map fun (q : Nat × Operand) => (q.1, a.eval q.2)) := rfl
      rw [this, hmap, Sem.run_bind, hrun]
      rfl
    rw [hr, Oper.upon_value, hdst]
    have hbl : Below W.heap.size W (W.alloc (.cells ((ps.toList.map fun q => a.eval q.2).flatMap fun v => v.cells.toList).toArray e)) := (Below.refl _ _).alloc (Nat.le_refl _) _
    have hcell : ∀ (m : Nat) (u : Value), ((ps.toList.map fun q => a.eval q.2).flatMap fun v => v.cells.toList)[m]? = some u → (W.alloc (.cells ((ps.toList.map fun q => a.eval q.2).flatMap fun v => v.cells.toList).toArray e)).cell? ⟨W.heap.size, m, none⟩ = some u := fun m u hu => by
      rw [World.cell?_alloc_new]; simpa using hu
    have hz' := hz.newZ hbl (Nat.le_refl _) hcell
    have hle := Mu.setTk_le (μ := μ) (t := d) (n := es.length) (v := .slice (some ⟨W.heap.size, 0, none⟩) n n) (fun u e => by rw [hz.h.tkFree hfr] at e; cases e)
    have hnl : es.length = n := e1.trans hplen
    have hrep : Rep (Z.add W.heap.size ((ps.toList.map fun q => a.eval q.2).flatMap fun v => v.cells.toList)) (μ.setTk d es.length (.slice (some ⟨W.heap.size, 0, none⟩) n n)) (.sl j.sz es (some d)) (.slice (some ⟨W.heap.size, 0, none⟩) n n) := by
      have h0 := (e3.mono (Cells.le_add Z W.heap.size _)).rep (A := some ⟨W.heap.size, 0, none⟩) (c := n) (by omega) (fun _ => ⟨_, rfl, fun m u hu => by rw [Addr.add_lit, Nat.zero_add]; exact Cells.add_at (hz.sub.grow hbl) hcell m u hu⟩) (μ.setTk d es.length (.slice (some ⟨W.heap.size, 0, none⟩) n n))
      rw [hnl] at h0
      refine .own _ _ _ _ _ (by rw [hnl]; exact h0) (by simp [Mu.setTk])
    refine hK _ _ _ rfl ⟨_, _, ⟨(hz'.env.mono (Cells.le_refl _) hle).put (by simpa [dstOk, Nat.blt_eq] using hn) hrep, ?_, hz'.sub, hz'.le, hz'.below⟩⟩
    have hsz : ((ps.toList.map fun q => a.eval q.2).flatMap fun v => v.cells.toList).length = n * j.sz := by rw [e3.len, hnl]
    have hml : n ≤ maxLen := by simp only [maxLen]; omega
    refine hz'.h.addTk hfr (.inr ⟨W.heap.size, n, ((ps.toList.map fun q => a.eval q.2).flatMap fun v => v.cells.toList).toArray, e, by rw [hnl], heap_alloc_new W _, by omega, hml, Nat.le_of_eq (by simpa using hsz.symm), hz.below.size, fun off ho => Cells.add_none (hz.sub.free (Nat.le_refl _) off) (fun _ => by rw [hsz, ← hnl]; exact ho)⟩) (fun i x g hi hg hv => ?_) (fun u sz' n' v' g hu hv hv' hv2 => ?_)
    · obtain ⟨g', hg', hb⟩ := hz.h.bx i x.1 x.2 hi
      rw [hg] at hg'; cases hg'
      simp [Value.ownBlock] at hv
      exact absurd hb.lt (by omega)
    · obtain ⟨v2, h2, hb⟩ := hz.h.tk u sz' n' hu
      rw [hv] at h2; cases h2
      simp [Value.ownBlock] at hv2
      exact absurd (hb.lt hv').1 (by omega)) fun S' e => by subst e; exact k
end

/-- What append does to a row of the call's own. -/
structure Grew (base : Nat) (W : World) (sz : Nat) (v : Value) (n : Nat) (xs news : List Value) (m : Nat) (v' : Value) (W' : World) : Prop where
  os : W'.os = W.os
  tape : W'.tape = W.tape
  output : W'.output = W.output
  size : W.heap.size ≤ W'.heap.size
  out : (v' = v ∧ W' = W ∧ m = 0) ∨ 0 < m ∧ ∃ g cap cur e, v' = .slice (some ⟨g, 0, none⟩) (n + m) cap ∧ W'.heap[g]? = some (.cells cur e (0, 0)) ∧ n + m ≤ cap ∧ cap ≤ maxLen ∧ cap * sz ≤ cur.size ∧ base ≤ g ∧ (∀ (j : Nat) (u : Value), (xs ++ news)[j]? = some u → cur[j]? = some u) ∧
    (∀ k, k ≠ g → k < W.heap.size → W'.heap[k]? = W.heap[k]?) ∧ (v.ownBlock = some g ∨ g = W.heap.size)
theorem run_app {P : Program} [TC P] {W : World} {base : Nat} {Z : Cells} {sz n m c : Nat} {v : Value} {t ty e : Nat} {i j : TI} (ht : lk (TC.T P) t = some i) (hd : i.d = .slice e) (he : lk (TC.T P) e = some j) (hj : j.sz = sz) (hzs : j.zero.cells.size = sz) (hbase : base ≤ W.heap.size)
    (hok : TkOk base Z W sz n v) {xs news : List Value} (hx : xs.length = n * sz) (hxs : ∀ g cap, v = .slice (some ⟨g, 0, none⟩) n cap → ∀ (j : Nat) (u : Value), xs[j]? = some u → W.cell? ⟨g, j, none⟩ = some u)
    (hl : news.length = m * sz) (h1 : ∀ u ∈ news, u.oneCell' = true) {A : Option Addr} (hA : 0 < m → ∃ ad : Addr, A = some ad ∧ ∀ (j : Nat) (u : Value), news[j]? = some u → W.cell? (ad.add j) = some u)
    (hb : (n + m) * j.bytes ≤ 140737488355328) (h63 : n + m ≤ 9223372036854775807) :
    ∃ v' W', (Builtin.append_ #[t, t] ty #[v, .slice A m c]).run P W = .ok v' W' ∧ Grew base W sz v n xs news m v' W' := by
  have hu := (TC.at_ ht).und
  rw [hd] at hu
  have hu : P.underlying t = some (.slice e) := hu
  obtain ⟨ti, hi, hi1, hi2, hi3⟩ := (TC.at_ he).info
  rw [hj] at hi1
  by_cases hm : m = 0
  · subst hm
    have hn0 : news = [] := List.eq_nil_of_length_eq_zero (by simpa using hl)
    subst hn0
    refine ⟨v, W, ?_, ⟨rfl, rfl, rfl, Nat.le_refl _, .inl ⟨rfl, rfl, rfl⟩⟩⟩
    rcases hok with ⟨rfl, rfl⟩ | ⟨g, cap, cur, e', rfl, hh, h2, h3, h4, h5, h6⟩
    · cases A <;> simp [Builtin.append_, run_underlying hu, sizeOf, typeInfo, hi, Builtin.lenOf, Builtin.firstCells, loadCells, loadCellsFrom]
    · cases A <;> simp [Builtin.append_, run_underlying hu, sizeOf, typeInfo, hi, Builtin.lenOf, Builtin.firstCells, loadCells, loadCellsFrom, h2, storeCells]
  · obtain ⟨ad, rfl, hA2⟩ := hA (by omega)
    have hbytes : (n + m) * ti.bytes ≤ 140737488355328 := by rw [hi2]; exact hb
    have hcapm : n + m ≤ maxLen := by simp only [maxLen]; omega
    rcases hok with ⟨rfl, rfl⟩ | ⟨g, cap, cur, e', rfl, hh, h2, h3, h4, h5, h6⟩
    · have hx0 : xs = [] := List.eq_nil_of_length_eq_zero (by simpa using hx)
      subst hx0
      have hr := run_append_nil (P := P) W t ty e ti j.zero hu hi hi3 ad m c news (by rw [hi1]; exact hl) hA2 (by omega) (by omega) (by have := hbytes; simp only [Nat.zero_add] at this; omega)
      refine ⟨_, _, hr, ⟨rfl, rfl, rfl, by simp, .inr ⟨by omega, W.heap.size, _, _, e, by rw [Nat.zero_add], heap_alloc_new W.drew _, by rw [Nat.zero_add]; exact grownCap_ge W m 0 e, grownCap_le_maxLen W m 0 e (by omega), ?_, hbase, fun k u hu => ?_, fun k hk hlt => Below.heap_alloc W.drew _ k hlt, .inr rfl⟩⟩⟩
      · refine Nat.le_of_eq ?_
        simp only [Array.size_append, List.size_toArray, size_zeroCells, hzs, hl, ← Nat.add_mul]
        congr 1
        have := grownCap_ge W m 0 e
        omega
      · rw [List.nil_append] at hu
        rw [Array.getElem?_append_left (by simpa using (List.getElem?_eq_some_iff.1 hu).1)]
        simpa using hu
    · by_cases hroom : n + m ≤ cap
      · have hfit : n * ti.size + news.length ≤ cur.size := by rw [hl, hi1, ← Nat.add_mul]; exact Nat.le_trans (Nat.mul_le_mul_right _ hroom) h4
        have hee : e' = e' := rfl
        have hr : (Builtin.append_ #[t, t] ty #[.slice (some ⟨g, 0, none⟩) n cap, .slice (some ad) m c]).run P W = .ok (.slice (some ⟨g, 0, none⟩) (n + m) cap) (W.setRow g (cur.toList.take (n * ti.size) ++ news ++ cur.toList.drop (n * ti.size + news.length)).toArray) := by
          have hf := run_firstCells_some (P := P) W ti.size m ad m c news (by rw [hi1]; exact hl) hA2
          have hst := run_storeCells_at P g (n * ti.size) e' news 0 cur W hh (by simpa using hfit) h1
          simp only [Nat.add_zero] at hst
          simp [Builtin.append_, run_underlying hu, sizeOf, typeInfo, hi, Builtin.lenOf, hroom, hf, Addr.add_lit, hst]
        have hcur : ∀ (k : Nat) (u : Value), xs[k]? = some u → cur[k]? = some u := fun k u hk => by
          have := hxs g cap rfl k u hk
          rw [cell_of_row W g k cur e' (0, 0) hh] at this
          exact this
        refine ⟨_, _, hr, ⟨rfl, rfl, rfl, by simp, .inr ⟨by omega, g, cap, _, e', rfl, setRow_heap W g cur _ e' _ hh, hroom, h3, ?_, h5, fun k u hk => ?_, fun k hk _ => setRow_other W g k _ hk, .inl rfl⟩⟩⟩
        · simp only [List.size_toArray, List.length_append, List.length_take, List.length_drop, Array.length_toList]
          omega
        · rw [hi1]
          by_cases hkn : k < n * sz
          · rw [List.getElem?_append_left (by omega)] at hk
            have := hcur k u hk
            simp only [List.append_assoc, List.getElem?_toArray]
            rw [List.getElem?_append_left (by rw [List.length_take, Array.length_toList]; have := (Array.getElem?_eq_some_iff.1 this).1; omega), List.getElem?_take_of_lt hkn]
            simpa using this
          · rw [List.getElem?_append_right (by omega), hx] at hk
            have hk2 := (List.getElem?_eq_some_iff.1 hk).1
            simp only [List.append_assoc, List.getElem?_toArray]
            have ht2 : (cur.toList.take (n * sz)).length = n * sz := by rw [List.length_take, Array.length_toList]; rw [hi1] at hfit; omega
            rw [List.getElem?_append_right (by omega), ht2, List.getElem?_append_left (by omega)]
            exact hk
      · have holds : ∀ (j : Nat) (u : Value), xs[j]? = some u → W.cell? ((⟨g, 0, none⟩ : Addr).add j) = some u := fun j u hj => by rw [Addr.add_lit, Nat.zero_add]; exact hxs g cap rfl j u hj
        have hr := run_append_grow (P := P) W t ty e ti j.zero hu hi hi3 ⟨g, 0, none⟩ n cap xs (by rw [hi1]; exact hx) holds ad m c news (by rw [hi1]; exact hl) hA2 (by omega) (by omega) (growslice_fits (by omega) hbytes)
        refine ⟨_, _, hr, ⟨rfl, rfl, rfl, by simp, .inr ⟨by omega, W.heap.size, _, _, e, rfl, heap_alloc_new W.drew _, grownCap_ge W (n + m) cap e, grownCap_le_maxLen W (n + m) cap e hcapm, ?_, hbase, fun k u hu => ?_, fun k hk hlt => Below.heap_alloc W.drew _ k hlt, .inr rfl⟩⟩⟩
        · refine Nat.le_of_eq ?_
          simp only [Array.size_append, List.size_toArray, size_zeroCells, hzs, hl, hx, ← Nat.add_mul]
          congr 1
          have := grownCap_ge W (n + m) cap e
          omega
        · have hk2 := (List.getElem?_eq_some_iff.1 hu).1
          rw [Array.getElem?_append_left (by simpa using hk2)]
          simpa using hu
/-- A row's new length. -/
theorem RepH.setTk {base : Nat} {Z Z' : Cells} {μ : Mu} {h : PH} {W W' : World} (H : RepH base Z μ h W) {t sz n n' : Nat} {v v' : Value} (ht : lk h.tk t = some (sz, n)) (hv : μ.tk t n = some v) (hn : n ≤ n') (hle : μ.le (μ.setTk t n' v')) (hz : Z.le Z') (hx : TkOk base Z' W' sz n' v')
    {g : Nat} (hg : v'.ownBlock = some g) (hnew : v.ownBlock = some g ∨ g = W.heap.size) (hw : ∀ k, k ≠ g → k < W.heap.size → W'.heap[k]? = W.heap[k]?) (hzz : ∀ k off, k ≠ g → Z ⟨k, off, none⟩ = none → Z' ⟨k, off, none⟩ = none) :
    RepH base Z' (μ.setTk t n' v') ⟨h.bx, (t, (sz, n')) :: h.tk⟩ W' := by
  have hne : ∀ u m, u ≠ t → (μ.setTk t n' v').tk u m = μ.tk u m := fun u m hu => by simp [Mu.setTk, hu]
  have hself : (μ.setTk t n' v').tk t n' = some v' := by simp [Mu.setTk]
  have hlk : ∀ i x, lk ((t, (sz, n')) :: h.tk) i = some x → (i = t ∧ x = (sz, n')) ∨ (i ≠ t ∧ lk h.tk i = some x) := fun i x e => by
    rw [lk_cons] at e
    by_cases hi : t = i
    · rw [if_pos hi] at e; cases e; exact .inl ⟨hi.symm, rfl⟩
    · rw [if_neg hi] at e; exact .inr ⟨fun k => hi k.symm, e⟩
  have bxne : ∀ i x k, lk h.bx i = some x → μ.bx i = some k → k ≠ g := fun i x k hi hk e => by
    subst e
    rcases hnew with h1 | h1
    · exact H.bt i t x sz n v k hi ht hk hv h1
    · obtain ⟨g', hg', hb⟩ := H.bx i x.1 x.2 hi
      rw [hk] at hg'; cases hg'
      have := hb.lt; omega
  have tkne : ∀ u s m x k, u ≠ t → lk h.tk u = some (s, m) → μ.tk u m = some x → x.ownBlock = some k → k ≠ g := fun u s m x k hu hl hx hk e => by
    subst e
    rcases hnew with h1 | h1
    · exact hu (H.tt u t _ _ _ _ _ _ k hl ht hx hv hk h1)
    · obtain ⟨y, hy, hb⟩ := H.tk u s m hl
      rw [hx] at hy; cases hy
      have := (hb.lt hk).1; omega
  refine ⟨fun i t' cs' e => ?_, fun u s m e => ?_, H.bb, fun i j s1 n1 s2 n2 v1 v2 k hi hj h1 h2 => ?_, H.bd, fun i m x e => ?_, fun i m x s1 n1 e e2 => ?_, fun i u x s1 n1 v1 k hi hu h1 h2 => ?_⟩
  · obtain ⟨k, hk, hb⟩ := H.bx i t' cs' e
    have hkg := bxne i _ k e hk
    refine ⟨k, hk, hb.move (hw k hkg hb.lt) hz hle (fun off => ?_)⟩
    obtain ⟨_, _, _, _, _, _, h2⟩ := hb
    exact hzz k off hkg (h2 off)
  · rcases hlk u _ e with ⟨rfl, e2⟩ | ⟨hi, e2⟩
    · cases e2; exact ⟨v', hself, hx⟩
    · obtain ⟨x, h1, h2⟩ := H.tk u s m e2
      exact ⟨x, (hne u _ hi).trans h1, h2.move (fun k hk => ⟨hw k (tkne u s m x k hi e2 h1 hk) (h2.lt hk).1, fun off _ h0 => hzz k off (tkne u s m x k hi e2 h1 hk) h0⟩)⟩
  · rcases hlk i _ hi with ⟨rfl, e1⟩ | ⟨hi1, hi2⟩ <;> rcases hlk j _ hj with ⟨rfl, e2⟩ | ⟨hj1, hj2⟩
    · exact fun _ _ => rfl
    · cases e1; rw [hself] at h1; cases h1; rw [hne j _ hj1] at h2
      intro a b
      rw [hg] at a; cases a
      exact absurd rfl (tkne j _ _ _ _ hj1 hj2 h2 b)
    · cases e2; rw [hself] at h2; cases h2; rw [hne i _ hi1] at h1
      intro a b
      rw [hg] at b; cases b
      exact absurd rfl (tkne i _ _ _ _ hi1 hi2 h1 a)
    · rw [hne i _ hi1] at h1; rw [hne j _ hj1] at h2; exact H.tt i j _ _ _ _ _ _ k hi2 hj2 h1 h2
  · rw [lk_cons]
    by_cases hi : t = i
    · rw [if_pos hi]; exact fun e => by cases e
    · rw [if_neg hi]; rw [hne i _ (fun k => hi k.symm)] at e; exact H.td i m x e
  · rcases hlk i _ e2 with ⟨rfl, e3⟩ | ⟨hi1, hi2⟩
    · cases e3
      simp only [Mu.setTk] at e
      by_cases hm : m = n'
      · omega
      · rw [if_neg (fun k => hm k.2)] at e; have := H.tm _ _ _ _ _ e ht; omega
    · rw [hne i _ hi1] at e; exact H.tm i m x _ _ e hi2
  · rcases hlk u _ hu with ⟨rfl, e1⟩ | ⟨hu1, hu2⟩
    · cases e1; rw [hself] at h2; cases h2; rw [hg]; exact fun e => by cases e; exact bxne i x _ hi h1 rfl
    · rw [hne u _ hu1] at h2; exact H.bt i u x _ _ _ k hi hu2 h1 h2
end Go.Pw
set_option linter.unusedVariables false
set_option linter.unusedSimpArgs false
namespace Go.Pw
open Go Go.RowKit

theorem Sub.spot {Z : Cells} {W : World} (h : Sub Z W) {a : Addr} {v : Value} (e : Z a = some v) : a.spot = none := by
  have hc := h a v e
  unfold World.cell? at hc
  split at hc
  · cases hs : a.spot with
    | none => rfl
    | some s => simp [hs] at hc
  · cases hc
/-- append to a row of the call's own, of a slice that is read. -/
theorem app_step {cx : Cx} [TC cx.P] {S : PS} {a : Act} {W : World} {Z : Cells} {μ : Mu} (hz : RZ cx S a W Z μ) {tok sz : Nat} {es new : List (List PV)} {v x : Value} {t ty e : Nat} {i j : TI} (hv : Rep Z μ (.sl sz es (some tok)) v) (hx : Rep Z μ (.sl sz new none) x)
    (htk : lk S.h.tk tok = some (sz, es.length)) (ht : lk (TC.T cx.P) t = some i) (hd : i.d = .slice e) (he : lk (TC.T cx.P) e = some j) (hj : j.sz = sz) (hzs : j.zero.cells.size = sz) (hb : (es.length + new.length) * j.bytes ≤ 140737488355328) (h63 : es.length + new.length ≤ 9223372036854775807) :
    ∃ v' W' Z' μ', (Builtin.append_ #[t, t] ty #[v, x]).run cx.P W = .ok v' W' ∧ RZ cx ⟨S.env, ⟨S.h.bx, (tok, (sz, (es ++ new).length)) :: S.h.tk⟩⟩ a W' Z' μ' ∧ Rep Z' μ' (.sl sz (es ++ new) (some tok)) v' := by
  obtain ⟨A0, c0, xs, rfl, hc0, hxs, hZx⟩ := hv.news
  obtain ⟨A, c, news, rfl, hc, hns, hZn⟩ := hx.news
  have hvtk : μ.tk tok es.length = some (.slice A0 es.length c0) := by cases hv with | own _ _ _ _ _ _ ht => exact ht
  obtain ⟨v0, hv0, hok⟩ := hz.h.tk tok sz es.length htk
  rw [hvtk] at hv0
  cases hv0
  have hxcell : ∀ g cap, Value.slice A0 es.length c0 = .slice (some ⟨g, 0, none⟩) es.length cap → ∀ (j : Nat) (u : Value), xs[j]? = some u → W.cell? ⟨g, j, none⟩ = some u := fun g cap e k u hu => by
    cases e
    have hpos : 0 < es.length := by
      rcases Nat.eq_zero_or_pos es.length with h0 | h0
      · have := hxs.len; rw [h0, Nat.zero_mul] at this
        rw [List.eq_nil_of_length_eq_zero this] at hu; simp at hu
      · exact h0
    obtain ⟨ad, e2, hc⟩ := hZx hpos
    cases e2
    have := hz.sub _ _ (hc k u hu)
    rwa [Addr.add_lit, Nat.zero_add] at this
  obtain ⟨v', W', hr, hg⟩ := run_app (ty := ty) (c := c) ht hd he hj hzs hz.below.size hok hxs.len hxcell hns.len hns.one (A := A) (fun h0 => by
    obtain ⟨ad, e2, hc⟩ := hZn h0
    exact ⟨ad, e2, fun k u hu => hz.sub _ _ (hc k u hu)⟩) hb h63
  have hlen : (es ++ new).length = es.length + new.length := List.length_append
  rcases hg.out with ⟨rfl, rfl, hm⟩ | ⟨hpos, g, cap, cur, e', rfl, hh, hcap, hcm, hcs, hbg, hcur, hoth, hwhere⟩
  · have hn : new = [] := List.eq_nil_of_length_eq_zero hm
    subst hn
    refine ⟨_, _, Z, μ, hr, ?_, by rw [List.append_nil]; exact hv⟩
    rw [List.append_nil]
    refine ⟨hz.env, ?_, hz.sub, hz.le, hz.below⟩
    have hsame : ∀ u, lk ((tok, (sz, es.length)) :: S.h.tk) u = lk S.h.tk u := fun u => by
      rw [lk_cons]; by_cases h : tok = u
      · subst h; rw [if_pos rfl, htk]
      · rw [if_neg h]
    exact ⟨hz.h.bx, fun u s n h => hz.h.tk u s n (by rwa [hsame] at h), hz.h.bb, fun p q s n s' n' a b g h1 h2 => hz.h.tt p q s n s' n' a b g (by rwa [hsame] at h1) (by rwa [hsame] at h2), hz.h.bd, fun u n x h => by show lk ((tok, (sz, es.length)) :: S.h.tk) u ≠ none; rw [hsame]; exact hz.h.td u n x h, fun u n x s m h h2 => hz.h.tm u n x s m h (by rwa [hsame] at h2), fun p q x s n b g h1 h2 => hz.h.bt p q x s n b g h1 (by rwa [hsame] at h2)⟩
  · have hcell : ∀ (k : Nat) (u : Value), (xs ++ news)[k]? = some u → W'.cell? ⟨g, k, none⟩ = some u := fun k u hu => by
      rw [cell_of_row W' g k cur e' (0, 0) hh]; exact hcur k u hu
    have hZg : ∀ off, es.length * sz ≤ off → Z ⟨g, off, none⟩ = none := fun off ho => by
      rcases hwhere with h1 | h1
      · rcases hok with ⟨h2, _⟩ | ⟨g2, c2, cur2, e2, h2, _, _, _, _, _, h3⟩
        · rw [h2] at h1; simp [Value.ownBlock] at h1
        · rw [h2] at h1; simp [Value.ownBlock] at h1; subst h1; exact h3 off ho
      · exact hz.sub.free (by omega) off
    have hsub1 : Sub Z W' := fun ad u e => by
      have hlt := hz.sub.lt e
      by_cases hg2 : ad.block = g
      · have hsp := hz.sub.spot e
        have had : ad = ⟨g, ad.off, none⟩ := by cases ad; simp at hg2 hsp ⊢; exact ⟨hg2, hsp⟩
        have hoff : ad.off < es.length * sz := by
          rcases Nat.lt_or_ge ad.off (es.length * sz) with h | h
          · exact h
          · rw [had, hZg _ h] at e; cases e
        rw [had] at e ⊢
        have hin : ad.off < xs.length := by rw [hxs.len]; exact hoff
        have hA0 : A0 = some ⟨g, 0, none⟩ := by
          rcases hwhere with h1 | h1
          · rcases hok with ⟨h2, _⟩ | ⟨g2, c2, cur2, e2, h2, _⟩
            · rw [h2] at h1; simp [Value.ownBlock] at h1
            · rw [h2] at h1; simp [Value.ownBlock] at h1; subst h1; cases h2; rfl
          · omega
        have hx1 := hxcell g c0 (by rw [hA0]) ad.off _ (List.getElem?_eq_getElem hin)
        rw [hz.sub _ _ e] at hx1
        have hx2 := hcell ad.off _ (by rw [List.getElem?_append_left hin]; exact List.getElem?_eq_getElem hin)
        rw [hx2]; exact hx1.symm
      · exact (World.cell?_of_block (hoth ad.block hg2 hlt)).trans (hz.sub ad u e)
    have hsub2 : Sub (Z.add g (xs ++ news)) W' := hsub1.add hcell
    have hle2 : μ.le (μ.setTk tok (es ++ new).length (.slice (some ⟨g, 0, none⟩) (es.length + new.length) cap)) := Mu.setTk_le fun u hu => by
      have hmx := hz.h.tm _ _ _ _ _ hu htk
      omega
    have hR := hz.h.setTk (W' := W') (Z' := Z.add g (xs ++ news)) htk hvtk (by omega : es.length ≤ (es ++ new).length) hle2 (Cells.le_add _ _ _) (.inr ⟨g, cap, cur, e', by rw [hlen], hh, by omega, hcm, hcs, hbg, fun off ho => Cells.add_none (hZg off (Nat.le_trans (Nat.mul_le_mul_right _ (by omega)) ho)) (fun _ => by rw [List.length_append, hxs.len, hns.len, ← Nat.add_mul, ← hlen]; exact ho)⟩) (g := g) rfl hwhere (fun k hk hlt => hoth k hk hlt) (fun k off hk h0 => Cells.add_none h0 (fun e => absurd e hk))
    refine ⟨_, _, _, _, hr, ⟨hz.env.mono (Cells.le_add _ _ _) hle2, hR, hsub2, hz.le.trans ⟨Cells.le_add _ _ _, fun ad u e => (Cells.add_inv e).imp id (fun x => by omega)⟩ (Nat.le_refl _), hz.below.trans ⟨hg.os, hg.tape, hg.output, hg.size, fun k hk => hoth k (by omega) (Nat.lt_of_lt_of_le hk hz.below.size)⟩⟩, ?_⟩
    have hrep := ((hxs.append hns).mono (Cells.le_add Z g (xs ++ news))).rep (A := some ⟨g, 0, none⟩) (c := cap) (by omega) (fun _ => ⟨_, rfl, fun k u hu => by rw [Addr.add_lit, Nat.zero_add]; exact Cells.add_at hsub1 hcell k u hu⟩) (μ.setTk tok (es ++ new).length (.slice (some ⟨g, 0, none⟩) (es.length + new.length) cap))
    rw [hlen] at hrep
    refine .own _ _ _ _ _ (by rw [hlen]; exact hrep) (by simp [Mu.setTk])
/-- What is read as a slice's elements: a slice under whatever name; the nil slice. -/
def srcOf (sz : Nat) : PV → Option (List (List PV))
  | .sl sz' es _ => bif Nat.beq sz' sz then some es else none
  | .lit (.slice none 0 0) => some []
  | _ => none
theorem Rep.src {Z : Cells} {μ : Mu} {p : PV} {v : Value} {sz : Nat} {es : List (List PV)} (h : Rep Z μ p v) (e : srcOf sz p = some es) : Rep Z μ (.sl sz es none) v := by
  cases p with
  | sl sz' es' q =>
    simp only [srcOf] at e
    cases hb : Nat.beq sz' sz with
    | false => rw [hb] at e; cases e
    | true =>
      have := Nat.eq_of_beq_eq_true hb
      subst this
      rw [hb] at e
      simp only [cond_true, Option.some.injEq] at e
      subst e
      cases h with
      | sl _ _ _ A c val hc hz hZ h1 h => exact .sl _ _ _ A c val hc hz hZ h1 h
      | own _ _ _ t _ h ht => exact h
  | lit u =>
    have := h.lit_inv
    subst this
    unfold srcOf at e
    split at e
    · rename_i h1; cases h1
    · rename_i h1
      cases h1
      cases e
      exact .sl _ sz [] none 0 (fun _ _ => undef) (Nat.le_refl _) (fun e h => by cases h) (fun h => absurd h (Nat.lt_irrefl _)) (fun i e j p h => by simp at h) (fun i e j p h => by simp at h)
    · cases e
  | _ => simp [srcOf] at e
section
variable {cx : Cx} [TC cx.P] {S : PS} {o : Oper} {ops : Array Oper} {rest : List Oper} {Q : Post}
theorem PL.app {x y : Operand} {t e tok sz : Nat} {p : PV} {es new : List (List PV)} {i j : TI} (ho : o.op = .call { callee := .builtin .append, args := #[x, y], argTypes := #[t, t] }) (hx : S.ev x = some (.sl sz es (some tok))) (hy : S.ev y = some p) (hp : srcOf sz p = some new)
    (htk : lk S.h.tk tok = some (sz, es.length)) (ht : lk (TC.T cx.P) t = some i) (hd : i.d = .slice e) (he : lk (TC.T cx.P) e = some j) (hj : j.sz = sz) (hzs : j.zero.cells.size = sz) (hb : (es.length + new.length) * j.bytes ≤ 140737488355328) (h63 : es.length + new.length ≤ 9223372036854775807)
    (hw : Wants cx ops o S true) (hn : dstOk cx.n o.dst = true)
    (k : PL cx ops Q rest (PS.put ⟨S.env, ⟨S.h.bx, (tok, (sz, (es ++ new).length)) :: S.h.tk⟩⟩ o.dst (.sl sz (es ++ new) (some tok)))) : PL cx ops Q (o :: rest) S :=
  PL.cons hw (K := fun S' => S' = PS.put ⟨S.env, ⟨S.h.bx, (tok, (sz, (es ++ new).length)) :: S.h.tk⟩⟩ o.dst (.sl sz (es ++ new) (some tok))) (fun a W hR K' Q hK => by
    obtain ⟨Z, μ, hz⟩ := hR
    obtain ⟨v', W', Z', μ', hr, h1, h2⟩ := app_step (ty := o.type) hz (hz.ev hx) ((hz.ev hy).src hp) htk ht hd he hj hzs hb h63
    show o.upon cx.P a K' Q _
    have hrun : (execOp a.eval o).run cx.P W = .ok (.value v') W' := by
      simp only [execOp, ho]
      simp [resolve, invoke, builtin, hr]
    rw [hrun, Oper.upon_value]
    exact hK _ _ _ rfl ⟨Z', μ', h1.put hn h2⟩) fun S' e => by subst e; exact k
/-- append to the nil slice: a row under the name of its place. -/
theorem PL.appNil {x y : Operand} {t e d sz : Nat} {p : PV} {new : List (List PV)} {i j : TI} (ho : o.op = .call { callee := .builtin .append, args := #[x, y], argTypes := #[t, t] }) (hdst : o.dst = some d) (hx : S.ev x = some (.lit (.slice none 0 0))) (hy : S.ev y = some p) (hp : srcOf sz p = some new)
    (hfr : lk S.h.tk d = none) (ht : lk (TC.T cx.P) t = some i) (hd : i.d = .slice e) (he : lk (TC.T cx.P) e = some j) (hj : j.sz = sz) (hzs : j.zero.cells.size = sz) (hb : new.length * j.bytes ≤ 140737488355328) (h63 : new.length ≤ 9223372036854775807)
    (hw : Wants cx ops o S true) (hn : dstOk cx.n (some d) = true)
    (k : PL cx ops Q rest ⟨(d, .sl sz new (some d)) :: S.env, ⟨S.h.bx, (d, (sz, new.length)) :: (d, (sz, 0)) :: S.h.tk⟩⟩) : PL cx ops Q (o :: rest) S :=
  PL.cons hw (K := fun S' => S' = ⟨(d, .sl sz new (some d)) :: S.env, ⟨S.h.bx, (d, (sz, new.length)) :: (d, (sz, 0)) :: S.h.tk⟩⟩) (fun a W hR K' Q hK => by
    obtain ⟨Z, μ, hz⟩ := hR
    have hv := (hz.ev hx).lit_inv
    have hle := Mu.setTk_le (μ := μ) (t := d) (n := 0) (v := .slice none 0 0) (fun u e => by rw [hz.h.tkFree hfr] at e; cases e)
    have hH := hz.h.addTk (t := d) (sz := sz) (n := 0) (v := .slice none 0 0) hfr (.inl ⟨rfl, rfl⟩) (fun _ _ _ _ _ => by simp [Value.ownBlock]) (fun _ _ _ _ _ _ _ _ => by simp [Value.ownBlock])
    have hz2 : RZ cx ⟨S.env, ⟨S.h.bx, (d, (sz, 0)) :: S.h.tk⟩⟩ a W Z (μ.setTk d 0 (.slice none 0 0)) := ⟨hz.env.mono (Cells.le_refl _) hle, hH, hz.sub, hz.le, hz.below⟩
    have hnil : Rep Z (μ.setTk d 0 (.slice none 0 0)) (.sl sz [] (some d)) (.slice none 0 0) := .own _ _ _ _ _ (Rep.src (.lit _ (.slice none 0 0)) rfl) (by simp [Mu.setTk])
    have hy2 : Rep Z (μ.setTk d 0 (.slice none 0 0)) (.sl sz new none) (a.eval y) := ((hz.ev hy).src hp).mono (Cells.le_refl _) hle
    obtain ⟨v', W', Z', μ', hr, h1, h2⟩ := app_step (ty := o.type) hz2 hnil hy2 (by rw [lk_cons, if_pos rfl]; rfl) ht hd he hj hzs (by simpa using hb) (by simpa using h63)
    show o.upon cx.P a K' Q _
    have hrun : (execOp a.eval o).run cx.P W = .ok (.value v') W' := by
      simp only [execOp, ho]
      simp [resolve, invoke, builtin, hr, hv]
    rw [hrun, Oper.upon_value, hdst]
    exact hK _ _ _ rfl ⟨Z', μ', (h1.put (d := some d) hn h2)⟩) fun S' e => by subst e; exact k
end
end Go.Pw
set_option linter.unusedVariables false
set_option linter.unusedSimpArgs false
namespace Go.Pw
open Go Go.RowKit

/-- What says less: what a callee is told of an argument. -/
inductive Wk : PV → PV → Prop
  | refl (p : PV) : Wk p p
  | row (sz : Nat) (es : List (List PV)) (t : Option Nat) : Wk (.sl sz es t) (.sl sz es none)
  | nil (sz : Nat) : Wk (.lit (.slice none 0 0)) (.sl sz [] none)
  | agg (l l' : List PV) (hl : l.length = l'.length) (h : ∀ (i : Nat) (p q : PV), l[i]? = some p → l'[i]? = some q → Wk p q) : Wk (.agg l) (.agg l')
  | tup (l l' : List PV) (hl : l.length = l'.length) (h : ∀ (i : Nat) (p q : PV), l[i]? = some p → l'[i]? = some q → Wk p q) : Wk (.tup l) (.tup l')
  | junk (p : PV) : Wk p .junk
theorem Wk.rep {Z : Cells} {μ : Mu} {p q : PV} (h : Wk p q) : ∀ {v : Value}, Rep Z μ p v → Rep Z μ q v := by
  induction h with
  | refl p => exact fun h => h
  | row sz es t => exact fun h => h.src (by simp [srcOf])
  | nil sz => exact fun h => h.src rfl
  | agg l l' hl _ ih =>
    intro v h
    cases h with
    | agg _ _ cs hl2 h1 h => exact .agg _ _ cs (by omega) h1 (fun i q v hq hv => by
        have hi := (List.getElem?_eq_some_iff.1 hq).1
        exact ih i _ q (List.getElem?_eq_getElem (by omega : i < l.length)) hq (h i _ v (List.getElem?_eq_getElem (by omega : i < l.length)) hv))
  | tup l l' hl _ ih =>
    intro v h
    cases h with
    | tup _ _ cs hl2 h => exact .tup _ _ cs (by omega) (fun i q v hq hv => by
        have hi := (List.getElem?_eq_some_iff.1 hq).1
        exact ih i _ q (List.getElem?_eq_getElem (by omega : i < l.length)) hq (h i _ v (List.getElem?_eq_getElem (by omega : i < l.length)) hv))
  | junk p => exact fun _ => .junk _ _
inductive WkL : List PV → List PV → Prop
  | nil : WkL [] []
  | cons {p q : PV} {l l' : List PV} (h : Wk p q) (r : WkL l l') : WkL (p :: l) (q :: l')
theorem WkL.at_ {l l' : List PV} (h : WkL l l') : l.length = l'.length ∧ ∀ (i : Nat) (p q : PV), l[i]? = some p → l'[i]? = some q → Wk p q := by
  induction h with
  | nil => exact ⟨rfl, fun i p q h => by simp at h⟩
  | cons h _ ih => exact ⟨by simp [ih.1], fun i p q hp hq => by
      cases i with
      | zero => simp at hp hq; subst hp; subst hq; exact h
      | succ i => simp at hp hq; exact ih.2 i p q hp hq⟩
theorem WkL.aggd {l l' : List PV} (h : WkL l l') : Wk (.agg l) (.agg l') := .agg l l' h.at_.1 h.at_.2
theorem WkL.rep {Z : Cells} {μ : Mu} {l l' : List PV} (h : WkL l l') {vs : List Value} (k : RepL Z μ l vs) : RepL Z μ l' vs := by
  obtain ⟨hl, hw⟩ := h.at_
  refine ⟨k.1.trans hl, fun i q v hq hv => ?_⟩
  have hi := (List.getElem?_eq_some_iff.1 hq).1
  have hi2 : i < l.length := by omega
  exact (hw i _ q (List.getElem?_eq_getElem hi2) hq).rep (k.2 i _ v (List.getElem?_eq_getElem hi2) hv)
mutual
theorem toks_free : ∀ (p : PV), free p = true → toks p = []
  | .lit _, _ => rfl
  | .sl _ _ none, _ => rfl
  | .sl _ _ (some _), h => by simp [free] at h
  | .agg l, h => by simp only [toks]; exact toksL_free l (by simpa [free] using h)
  | .tup l, h => by simp only [toks]; exact toksL_free l (by simpa [free] using h)
  | .rp _, _ => rfl
  | .bx _ _, _ => rfl
  | .bs _ _ _ _, _ => rfl
  | .fn _ _, _ => rfl
  | .junk, _ => rfl
  | .may _ _ _, _ => rfl
theorem toksL_free : ∀ (l : List PV), freeL l = true → toks.toksL l = []
  | [], _ => rfl
  | p :: r, h => by
    simp only [freeL, Bool.and_eq_true] at h
    simp only [toks.toksL, toks_free p h.1, toksL_free r h.2, List.append_nil]
end
theorem WkL.tupd {l l' : List PV} (h : WkL l l') : Wk (.tup l) (.tup l') := .tup l l' h.at_.1 h.at_.2
theorem wkrow {sz : Nat} {es es' : List (List PV)} {t : Option Nat} (h : es = es') : Wk (.sl sz es t) (.sl sz es' none) := by subst h; exact .row _ _ _
theorem Spec.weak {P : Program} {f : FuncId} {args : List PV} {F G : PV → Prop} (h : Spec P f args F) (k : ∀ p, F p → ∃ q, G q ∧ Wk p q ∧ free q = true) : Spec P f args G := ⟨h.ent, fun W Z μ vs h1 h2 =>
  (h.run W Z μ vs h1 h2).mono fun e W' ⟨v, e1, ⟨p, Z', μ', h3, r, hg, hs, hb, hh⟩⟩ => by
    obtain ⟨q, hq, hw, hf⟩ := k p h3
    refine ⟨v, e1, ⟨q, Z', Mu.emp, hq, (hw.rep r).drop hf, hg, hs, hb, ?_⟩⟩
    rw [toks_free q hf]
    exact ⟨fun i t cs e => (by cases e), fun t sz n e => (by cases e), fun i j x y g e => (by cases e), fun t u sz n sz' n' v v' g e => (by cases e), fun i g e => (by cases e), fun t n v e => (by cases e), fun t n v sz m e => (by cases e), fun i t x sz n v g e => (by cases e)⟩⟩
def evs (S : PS) : List Operand → Option (List PV)
  | [] => some []
  | x :: r => match S.ev x with
    | some p => match evs S r with
      | some l => some (p :: l)
      | none => none
    | none => none
theorem evs_rep {cx : Cx} {S : PS} {a : Act} {W : World} {Z : Cells} {μ : Mu} (hz : RZ cx S a W Z μ) : ∀ {xs : List Operand} {ps : List PV}, evs S xs = some ps → RepL Z μ ps (xs.map a.eval)
  | [], ps, h => by simp only [evs, Option.some.injEq] at h; subst h; exact ⟨rfl, fun i p v h => by simp at h⟩
  | x :: r, ps, h => by
    simp only [evs] at h
    split at h
    · rename_i p hp
      split at h
      · rename_i l hl
        cases h
        obtain ⟨e1, e2⟩ := evs_rep hz hl
        refine ⟨by simp [e1], fun i q v hq hv => ?_⟩
        cases i with
        | zero => simp at hq hv; subst hq; subst hv; exact hz.ev hp
        | succ i => simp only [List.getElem?_cons_succ, List.map_cons] at hq hv; exact e2 i q v hq hv
      · cases h
    · cases h
def fresh (l : List (Nat × (Nat × Nat))) : List (Nat × (Nat × Nat)) → Bool
  | [] => true
  | x :: r => (match lk l x.1 with | none => true | some _ => false) && fresh l r
theorem lk_append {α : Type} : ∀ (l r : List (Nat × α)) (t : Nat), lk (l ++ r) t = match lk l t with | some x => some x | none => lk r t
  | [], r, t => rfl
  | (k, x) :: l, r, t => by
    rw [List.cons_append, lk_cons, lk_cons, lk_append l r t]
    by_cases h : k = t
    · rw [if_pos h, if_pos h]
    · rw [if_neg h, if_neg h]
theorem fresh_lk {l : List (Nat × (Nat × Nat))} : ∀ {r : List (Nat × (Nat × Nat))}, fresh l r = true → ∀ t, lk r t ≠ none → lk l t = none
  | [], _, t, h => absurd rfl h
  | (k, x) :: r, hf, t, h => by
    simp only [fresh, Bool.and_eq_true] at hf
    rw [lk_cons] at h
    by_cases e : k = t
    · subst e
      cases hl : lk l k with
      | none => rfl
      | some y => rw [hl] at hf; simp at hf
    · rw [if_neg e] at h; exact fresh_lk hf.2 t h
/-- What a call leaves is added to what the caller has. -/
theorem RZ.join {cx : Cx} {S : PS} {a : Act} {W W' : World} {Z Z' : Cells} {μ μ' : Mu} (hz : RZ cx S a W Z μ) {T : List (Nat × (Nat × Nat))} {p : PV} {v : Value} (hr : Rep Z' μ' p v) (hg : Grow Z Z' W.heap.size) (hs : Sub Z' W') (hb : Below W.heap.size W W') (hh : RepH W.heap.size Z' μ' ⟨[], T⟩ W') (hf : fresh S.h.tk T = true) :
    ∃ μ2, RZ cx ⟨S.env, ⟨S.h.bx, T ++ S.h.tk⟩⟩ a W' Z' μ2 ∧ Rep Z' μ2 p v := by
  have hfr := fresh_lk hf
  have hbn : ∀ i, μ'.bx i = none := fun i => by
    cases e : μ'.bx i with
    | none => rfl
    | some g => exact absurd rfl (hh.bd i g e)
  let μ2 : Mu := ⟨μ.bx, fun t n => match lk T t with | some _ => μ'.tk t n | none => μ.tk t n⟩
  have h2T : ∀ t n, lk T t ≠ none → μ2.tk t n = μ'.tk t n := fun t n h => by
    show (match lk T t with | some _ => μ'.tk t n | none => μ.tk t n) = _
    cases e : lk T t with
    | none => exact absurd e h
    | some x => rfl
  have h2S : ∀ t n, lk T t = none → μ2.tk t n = μ.tk t n := fun t n h => by
    show (match lk T t with | some _ => μ'.tk t n | none => μ.tk t n) = _
    rw [h]
  have hle : μ.le μ2 := ⟨fun _ _ e => e, fun t n x e => by
    cases hT : lk T t with
    | none => rw [h2S t n hT]; exact e
    | some y =>
      have := hz.h.tkFree (hfr t (by rw [hT]; exact fun h => by cases h)) n
      rw [this] at e; cases e⟩
  have hle' : μ'.le μ2 := ⟨fun i g e => (by rw [hbn] at e; cases e), fun t n x e => (by rw [h2T t n (hh.td t n x e)]; exact e)⟩
  have hz1 : RZ cx S a W' Z' μ := hz.grow hb hg.1 hg.2 hs
  have hlkT : ∀ t, lk T t ≠ none → lk (T ++ S.h.tk) t = lk T t := fun t h => by
    rw [lk_append]
    cases e : lk T t with
    | none => exact absurd e h
    | some x => rfl
  have hlkS : ∀ t, lk T t = none → lk (T ++ S.h.tk) t = lk S.h.tk t := fun t h => by rw [lk_append, h]
  have spl : ∀ t x, lk (T ++ S.h.tk) t = some x → (lk T t = some x) ∨ (lk T t = none ∧ lk S.h.tk t = some x) := fun t x e => by
    rw [lk_append] at e
    cases h : lk T t with
    | none => rw [h] at e; exact .inr ⟨rfl, e⟩
    | some y => rw [h] at e; exact .inl e
  have hltS : ∀ t sz n v g, lk S.h.tk t = some (sz, n) → μ.tk t n = some v → v.ownBlock = some g → g < W.heap.size := fun t sz n v g h1 h2 h3 => by
    obtain ⟨x, hx, hb⟩ := hz.h.tk t sz n h1
    rw [h2] at hx; cases hx
    exact (hb.lt h3).1
  have hltT : ∀ t sz n v g, lk T t = some (sz, n) → μ'.tk t n = some v → v.ownBlock = some g → W.heap.size ≤ g := fun t sz n v g h1 h2 h3 => by
    obtain ⟨x, hx, hb⟩ := hh.tk t sz n h1
    rw [h2] at hx; cases hx
    exact (hb.lt h3).2
  have ne : ∀ {t} {x : Nat × Nat}, lk T t = some x → lk T t ≠ none := fun h e => by rw [h] at e; cases e
  refine ⟨μ2, ⟨hz1.env.mono (Cells.le_refl _) hle, ⟨fun i t cs e => ?_, fun t sz n e => ?_, hz1.h.bb, fun t u sz n sz' n' v1 v2 g h1 h2 h3 h4 => ?_, hz1.h.bd, fun t n x e => ?_, fun t n x sz m e e2 => ?_, fun i t x sz n v1 g h1 h2 h3 h4 => ?_⟩, hz1.sub, hz1.le, hz1.below⟩, hr.mono (Cells.le_refl _) hle'⟩
  · obtain ⟨g, hg2, hx⟩ := hz1.h.bx i t cs e
    refine ⟨g, hg2, hx.move rfl (Cells.le_refl _) hle ?_⟩
    obtain ⟨_, _, _, _, _, _, h2⟩ := hx; exact h2
  · rcases spl t _ e with h | ⟨h0, h⟩
    · obtain ⟨x, hx, hb2⟩ := hh.tk t sz n h
      refine ⟨x, (h2T t n (ne h)).trans hx, ?_⟩
      rcases hb2 with hb2 | ⟨g, cap, cur, e2, a1, a2, a3, a4, a5, a6, a7⟩
      · exact .inl hb2
      · exact .inr ⟨g, cap, cur, e2, a1, a2, a3, a4, a5, Nat.le_trans hz.below.size a6, a7⟩
    · obtain ⟨x, hx, hb2⟩ := hz1.h.tk t sz n h
      exact ⟨x, (h2S t n h0).trans hx, hb2⟩
  · rcases spl t _ h1 with k1 | ⟨k0, k1⟩ <;> rcases spl u _ h2 with l1 | ⟨l0, l1⟩
    · rw [h2T t n (ne k1)] at h3; rw [h2T u n' (ne l1)] at h4; exact hh.tt t u _ _ _ _ _ _ g k1 l1 h3 h4
    · rw [h2T t n (ne k1)] at h3; rw [h2S u n' l0] at h4
      exact fun a b => absurd (hltS u _ _ _ g l1 h4 b) (Nat.not_lt.2 (hltT t _ _ _ g k1 h3 a))
    · rw [h2S t n k0] at h3; rw [h2T u n' (ne l1)] at h4
      exact fun a b => absurd (hltS t _ _ _ g k1 h3 a) (Nat.not_lt.2 (hltT u _ _ _ g l1 h4 b))
    · rw [h2S t n k0] at h3; rw [h2S u n' l0] at h4; exact hz1.h.tt t u _ _ _ _ _ _ g k1 l1 h3 h4
  · show lk (T ++ S.h.tk) t ≠ none
    cases hT : lk T t with
    | none => rw [hlkS t hT]; rw [h2S t n hT] at e; exact hz1.h.td t n x e
    | some y => rw [hlkT t (ne hT), hT]; exact fun h => by cases h
  · rcases spl t _ e2 with h | ⟨h0, h⟩
    · rw [h2T t n (ne h)] at e; exact hh.tm t n x sz m e h
    · rw [h2S t n h0] at e; exact hz1.h.tm t n x sz m e h
  · rcases spl t _ h2 with l1 | ⟨l0, l1⟩
    · rw [h2T t n (ne l1)] at h4
      intro hc
      obtain ⟨g', hg', hb2⟩ := hz.h.bx i x.1 x.2 h1
      rw [h3] at hg'; cases hg'
      exact absurd hb2.lt (Nat.not_lt.2 (hltT t _ _ _ g l1 h4 hc))
    · rw [h2S t n l0] at h4; exact hz1.h.bt i t x _ _ _ g h1 l1 h3 h4
section
variable {cx : Cx} {S : PS} {o : Oper} {ops : Array Oper} {rest : List Oper} {Q : Post}
theorem PL.call {fo : Operand} {f : Nat} {caps ps qs : List PV} {xs : Array Operand} {ts : Array TypeId} {F : PV → Prop} (ho : o.op = .call { callee := .value fo, args := xs, argTypes := ts }) (hfo : S.ev fo = some (.fn f caps)) (hps : evs S xs.toList = some ps) (h : Spec cx.P f qs F) (hw2 : WkL (ps ++ caps) qs)
    (hfr : ∀ p, F p → fresh S.h.tk (toks p) = true) (hw : Wants cx ops o S true) (hn : dstOk cx.n o.dst = true)
    (k : ∀ p, F p → PL cx ops Q rest (PS.put ⟨S.env, ⟨S.h.bx, toks p ++ S.h.tk⟩⟩ o.dst p)) : PL cx ops Q (o :: rest) S :=
  PL.cons hw (K := fun S' => ∃ p, F p ∧ S' = PS.put ⟨S.env, ⟨S.h.bx, toks p ++ S.h.tk⟩⟩ o.dst p) (fun a W hR K' Q' hK => by
    obtain ⟨Z, μ, hz⟩ := hR
    have hf := hz.ev hfo
    generalize hv : a.eval fo = v at hf
    cases hf with
    | fn _ _ _ cs hl hc =>
      have hargs := evs_rep hz hps
      have hall : RepL Z μ (ps ++ caps) (xs.toList.map a.eval ++ cs) := ⟨by rw [List.length_append, List.length_append, hargs.1, hl], fun i p v hp hv => by
        have hlen : (xs.toList.map a.eval).length = ps.length := hargs.1
        by_cases hi : i < ps.length
        · rw [List.getElem?_append_left hi] at hp
          rw [List.getElem?_append_left (by omega)] at hv
          exact hargs.2 i p v hp hv
        · rw [List.getElem?_append_right (by omega)] at hp
          rw [List.getElem?_append_right (by omega), hlen] at hv
          exact hc _ p v hp hv⟩
      have hcall := h.run W Z μ _ hz.sub (hw2.rep hall)
      show o.upon cx.P a K' Q' _
      have hrun : (execOp a.eval o).run cx.P W = .ok (.enter f (xs.toList.map a.eval ++ cs).toArray) W := by
        simp only [execOp, ho]
        simp [resolve, hv, Deferred.ofValue, invoke]
        have := h.ent (xs.map a.eval ++ cs.toArray) W
        rw [this]
        congr 2
        apply Array.ext'
        simp
      rw [hrun, Oper.upon_enter]
      refine hcall.mono fun e W' ⟨v, e1, ⟨p, Z', μ', hF, hr, hg, hs, hb, hh⟩⟩ => ?_
      subst e1
      obtain ⟨μ2, h1, h2⟩ := hz.join hr hg hs hb hh (hfr p hF)
      exact hK _ _ _ ⟨p, hF, rfl⟩ ⟨Z', μ2, h1.put hn h2⟩) fun S' ⟨p, hF, e⟩ => by subst e; exact k p hF
end

/-! The end of a call. -/
/-- Which row of the call's own a row of the result is: its name in the contract, what it holds, its name here (nil has none). -/
abbrev Rows' := List (Nat × ((Nat × Nat) × Option Nat))
/-- What a result is in the end, by its own names and by the contract's. -/
inductive F1 (S : PS) : PV → PV → Rows' → Prop
  | same (p : PV) (hf : free p = true) : F1 S p p []
  | ro (sz : Nat) (es : List (List PV)) (t : Option Nat) : F1 S (.sl sz es t) (.sl sz es none) []
  | nil0 (sz : Nat) : F1 S (.lit (.slice none 0 0)) (.sl sz [] none) []
  | row (sz : Nat) (es : List (List PV)) (t τ : Nat) (h : lk S.h.tk t = some (sz, es.length)) : F1 S (.sl sz es (some t)) (.sl sz es (some τ)) [(τ, ((sz, es.length), some t))]
  | nil (sz τ : Nat) : F1 S (.lit (.slice none 0 0)) (.sl sz [] (some τ)) [(τ, ((sz, 0), none))]
inductive F1L (S : PS) : List PV → List PV → Rows' → Prop
  | nil : F1L S [] [] []
  | cons {p q : PV} {l l' : List PV} {L L' : Rows'} (h : F1 S p q L) (r : F1L S l l' L') : F1L S (p :: l) (q :: l') (L ++ L')
inductive F2 (S : PS) : PV → PV → Rows' → Prop
  | leaf {p q : PV} {L : Rows'} (h : F1 S p q L) : F2 S p q L
  | agg {l l' : List PV} {L : Rows'} (h : F1L S l l' L) : F2 S (.agg l) (.agg l') L
inductive F2L (S : PS) : List PV → List PV → Rows' → Prop
  | nil : F2L S [] [] []
  | cons {p q : PV} {l l' : List PV} {L L' : Rows'} (h : F2 S p q L) (r : F2L S l l' L') : F2L S (p :: l) (q :: l') (L ++ L')
inductive F3 (S : PS) : PV → PV → Rows' → Prop
  | one {p q : PV} {L : Rows'} (h : F2 S p q L) : F3 S p q L
  | tup {l l' : List PV} {L : Rows'} (h : F2L S l l' L) : F3 S (.tup l) (.tup l') L
def tkOf (L : Rows') : List (Nat × (Nat × Nat)) := L.map fun x => (x.1, x.2.1)
theorem F1.toks {S : PS} {p q : PV} {L : Rows'} (h : F1 S p q L) : Pw.toks q = tkOf L := by
  cases h with
  | same _ hf => rw [toks_free _ hf]; rfl
  | ro => rfl
  | nil0 => rfl
  | row => rfl
  | nil => rfl
theorem F1L.toks {S : PS} {l l' : List PV} {L : Rows'} (h : F1L S l l' L) : Pw.toks.toksL l' = tkOf L := by
  induction h with
  | nil => rfl
  | cons h _ ih => simp only [Pw.toks.toksL, h.toks, ih, tkOf, List.map_append]
theorem F2.toks {S : PS} {p q : PV} {L : Rows'} (h : F2 S p q L) : Pw.toks q = tkOf L := by
  cases h with
  | leaf h => exact h.toks
  | agg h => simp only [Pw.toks]; exact h.toks
theorem F2L.toks {S : PS} {l l' : List PV} {L : Rows'} (h : F2L S l l' L) : Pw.toks.toksL l' = tkOf L := by
  induction h with
  | nil => rfl
  | cons h _ ih => simp only [Pw.toks.toksL, h.toks, ih, tkOf, List.map_append]
theorem F3.toks {S : PS} {p q : PV} {L : Rows'} (h : F3 S p q L) : Pw.toks q = tkOf L := by
  cases h with
  | one h => exact h.toks
  | tup h => simp only [Pw.toks]; exact h.toks
def muOf (μ : Mu) (L : Rows') : Mu := ⟨fun _ => none, fun τ n => match lk L τ with
  | some ((_, m), src) => if n = m then (match src with | some t => μ.tk t n | none => some (.slice none 0 0)) else none
  | none => none⟩
/-- The rows of a part are those of the whole. -/
def In (L A : Rows') : Prop := ∀ x ∈ L, lk A x.1 = some x.2
theorem Rep.ro {Z : Cells} {μ μ' : Mu} {sz : Nat} {es : List (List PV)} {t : Option Nat} {v : Value} (h : Rep Z μ (.sl sz es t) v) : Rep Z μ' (.sl sz es none) v := by
  cases h with
  | sl _ _ _ A c val hc hz hZ h1 h => exact .sl _ _ _ A c val hc hz hZ h1 h
  | own _ _ _ _ _ h _ => cases h with | sl _ _ _ A c val hc hz hZ h1 h => exact .sl _ _ _ A c val hc hz hZ h1 h
theorem F1.rep {S : PS} {Z : Cells} {μ : Mu} {A : Rows'} {p q : PV} {L : Rows'} (h : F1 S p q L) (hA : In L A) {v : Value} (hr : Rep Z μ p v) : Rep Z (muOf μ A) q v := by
  cases h with
  | same _ hf => exact (hr.drop hf).any
  | ro => exact hr.ro
  | nil0 sz => exact (hr.src (sz := sz) rfl).ro
  | row sz es t τ hl =>
    have hk := hA _ List.mem_cons_self
    have ht : μ.tk t es.length = some v := by cases hr with | own _ _ _ _ _ _ ht => exact ht
    refine .own _ _ _ _ _ hr.ro ?_
    simp only [muOf]
    rw [hk]
    simp [ht]
  | nil sz τ =>
    have hk := hA _ List.mem_cons_self
    have hv := hr.lit_inv
    refine .own _ _ _ _ _ ((hr.src (sz := sz) rfl).ro) ?_
    simp only [muOf]
    rw [hk, hv]
    simp
theorem In.left {L L' A : Rows'} (h : In (L ++ L') A) : In L A := fun x hx => h x (List.mem_append_left _ hx)
theorem In.right {L L' A : Rows'} (h : In (L ++ L') A) : In L' A := fun x hx => h x (List.mem_append_right _ hx)
theorem F1L.rep {S : PS} {Z : Cells} {μ : Mu} {A : Rows'} {l l' : List PV} {L : Rows'} (h : F1L S l l' L) : In L A → l.length = l'.length ∧ ∀ (i : Nat) (p q : PV) (v : Value), l[i]? = some p → l'[i]? = some q → Rep Z μ p v → Rep Z (muOf μ A) q v := by
  induction h with
  | nil => exact fun _ => ⟨rfl, fun i p q v h => by simp at h⟩
  | cons h _ ih =>
    intro hA
    obtain ⟨h1, h2⟩ := ih hA.right
    exact ⟨by simp [h1], fun i p q v hp hq hr => by
      cases i with
      | zero => simp at hp hq; subst hp; subst hq; exact h.rep hA.left hr
      | succ i => simp at hp hq; exact h2 i p q v hp hq hr⟩
theorem F2.rep {S : PS} {Z : Cells} {μ : Mu} {A : Rows'} {p q : PV} {L : Rows'} (h : F2 S p q L) (hA : In L A) {v : Value} (hr : Rep Z μ p v) : Rep Z (muOf μ A) q v := by
  cases h with
  | leaf h => exact h.rep hA hr
  | agg h =>
    obtain ⟨e, k⟩ := h.rep (Z := Z) (μ := μ) hA
    cases hr with
    | agg _ _ cs hl h1 hc => exact .agg _ _ cs (by omega) h1 (fun i q v hq hv => by
        have hi := (List.getElem?_eq_some_iff.1 hq).1
        exact k i _ q v (List.getElem?_eq_getElem (by omega)) hq (hc i _ v (List.getElem?_eq_getElem (by omega)) hv))
theorem F2L.rep {S : PS} {Z : Cells} {μ : Mu} {A : Rows'} {l l' : List PV} {L : Rows'} (h : F2L S l l' L) : In L A → l.length = l'.length ∧ ∀ (i : Nat) (p q : PV) (v : Value), l[i]? = some p → l'[i]? = some q → Rep Z μ p v → Rep Z (muOf μ A) q v := by
  induction h with
  | nil => exact fun _ => ⟨rfl, fun i p q v h => by simp at h⟩
  | cons h _ ih =>
    intro hA
    obtain ⟨h1, h2⟩ := ih hA.right
    exact ⟨by simp [h1], fun i p q v hp hq hr => by
      cases i with
      | zero => simp at hp hq; subst hp; subst hq; exact h.rep hA.left hr
      | succ i => simp at hp hq; exact h2 i p q v hp hq hr⟩
theorem F3.rep {S : PS} {Z : Cells} {μ : Mu} {A : Rows'} {p q : PV} {L : Rows'} (h : F3 S p q L) (hA : In L A) {v : Value} (hr : Rep Z μ p v) : Rep Z (muOf μ A) q v := by
  cases h with
  | one h => exact h.rep hA hr
  | tup h =>
    obtain ⟨e, k⟩ := h.rep (Z := Z) (μ := μ) hA
    cases hr with
    | tup _ _ cs hl hc => exact .tup _ _ cs (by omega) (fun i q v hq hv => by
        have hi := (List.getElem?_eq_some_iff.1 hq).1
        exact k i _ q v (List.getElem?_eq_getElem (by omega)) hq (hc i _ v (List.getElem?_eq_getElem (by omega)) hv))
/-- Every row of the list is one that the call has. -/
def Has (S : PS) (L : Rows') : Prop := ∀ x ∈ L, match x.2.2 with | some t => lk S.h.tk t = some x.2.1 | none => x.2.1.2 = 0
theorem F1.has {S : PS} {p q : PV} {L : Rows'} (h : F1 S p q L) : Has S L := by
  cases h with
  | same => exact fun x h => by cases h
  | ro => exact fun x h => by cases h
  | nil0 => exact fun x h => by cases h
  | row sz es t τ hl => exact fun x h => by rw [List.mem_singleton] at h; subst h; exact hl
  | nil => exact fun x h => by rw [List.mem_singleton] at h; subst h; rfl
theorem Has.append {S : PS} {L L' : Rows'} (h : Has S L) (k : Has S L') : Has S (L ++ L') := fun x hx => (List.mem_append.1 hx).elim (h x) (k x)
theorem F1L.has {S : PS} {l l' : List PV} {L : Rows'} (h : F1L S l l' L) : Has S L := by
  induction h with
  | nil => exact fun x h => by cases h
  | cons h _ ih => exact h.has.append ih
theorem F2.has {S : PS} {p q : PV} {L : Rows'} (h : F2 S p q L) : Has S L := by cases h with | leaf h => exact h.has | agg h => exact h.has
theorem F2L.has {S : PS} {l l' : List PV} {L : Rows'} (h : F2L S l l' L) : Has S L := by
  induction h with
  | nil => exact fun x h => by cases h
  | cons h _ ih => exact h.has.append ih
theorem F3.has {S : PS} {p q : PV} {L : Rows'} (h : F3 S p q L) : Has S L := by cases h with | one h => exact h.has | tup h => exact h.has
theorem lk_of_mem {α : Type} : ∀ {l : List (Nat × α)}, (l.map (·.1)).Nodup → ∀ x ∈ l, lk l x.1 = some x.2
  | [], _, _, h => by cases h
  | y :: r, hn, x, h => by
    rw [List.map_cons, List.nodup_cons] at hn
    obtain ⟨k, z⟩ := y
    rw [lk_cons]
    rcases List.mem_cons.1 h with rfl | h
    · rw [if_pos rfl]
    · rw [if_neg (fun e => hn.1 (List.mem_map.2 ⟨x, h, e.symm⟩)), lk_of_mem hn.2 x h]
theorem lk_tkOf : ∀ (L : Rows') (t : Nat), lk (tkOf L) t = (lk L t).map (·.1)
  | [], _ => rfl
  | (k, x) :: r, t => by
    show lk ((k, x.1) :: tkOf r) t = _
    rw [lk_cons, lk_cons]
    by_cases h : k = t
    · rw [if_pos h, if_pos h]; rfl
    · rw [if_neg h, if_neg h, lk_tkOf r t]
theorem RepH.fin {base : Nat} {Z : Cells} {μ : Mu} {S : PS} {W : World} (H : RepH base Z μ S.h W) {L : Rows'} (hn : (L.map (·.1)).Nodup) (hs : (L.filterMap (·.2.2)).Nodup) (hh : Has S L) : RepH base Z (muOf μ L) ⟨[], tkOf L⟩ W := by
  have src : ∀ {τ sz n}, lk (tkOf L) τ = some (sz, n) → ∃ s, lk L τ = some ((sz, n), s) ∧ (τ, ((sz, n), s)) ∈ L ∧ ∃ v, (muOf μ L).tk τ n = some v ∧ TkOk base Z W sz n v ∧ (∀ g, v.ownBlock = some g → ∃ t, s = some t ∧ lk S.h.tk t = some (sz, n) ∧ μ.tk t n = some v) := fun {τ sz n} e => by
    rw [lk_tkOf] at e
    cases hl : lk L τ with
    | none => rw [hl] at e; cases e
    | some y =>
      rw [hl] at e
      obtain ⟨y1, s⟩ := y
      cases e
      have hmem := lk_mem hl
      have hx := hh _ hmem
      refine ⟨s, rfl, hmem, ?_⟩
      cases s with
      | none =>
        have hx : n = 0 := hx
        subst hx
        exact ⟨.slice none 0 0, by simp only [muOf]; rw [hl]; simp, .inl ⟨rfl, rfl⟩, fun g h => by simp [Value.ownBlock] at h⟩
      | some t =>
        have hx : lk S.h.tk t = some (sz, n) := hx
        obtain ⟨v, hv, hb⟩ := H.tk t sz n hx
        exact ⟨v, by simp only [muOf]; rw [hl]; simp [hv], hb, fun g _ => ⟨t, rfl, hx, hv⟩⟩
  refine ⟨fun i t cs e => (by cases e), fun τ sz n e => ?_, fun i j x y g h => (by cases h), fun τ u sz n sz' n' v v' g h1 h2 h3 h4 h5 h6 => ?_, fun i g h => (by cases h), fun τ n v e => ?_, fun τ n v sz m e e2 => ?_, fun i τ x sz n v g h => (by cases h)⟩
  · obtain ⟨s, _, _, v, hv, hb, _⟩ := src e; exact ⟨v, hv, hb⟩
  · obtain ⟨s1, _, m1, v1, e1, _, k1⟩ := src h1
    obtain ⟨s2, _, m2, v2, e2, _, k2⟩ := src h2
    rw [h3] at e1; cases e1
    rw [h4] at e2; cases e2
    obtain ⟨t1, rfl, a1, b1⟩ := k1 g h5
    obtain ⟨t2, rfl, a2, b2⟩ := k2 g h6
    have htt := H.tt t1 t2 _ _ _ _ _ _ g a1 a2 b1 b2 h5 h6
    subst htt
    exact uniq L hs _ _ _ _ m1 m2
  · rw [lk_tkOf]
    cases hl : lk L τ with
    | none => simp only [muOf] at e; rw [hl] at e; cases e
    | some y => exact fun h => by cases h
  · obtain ⟨s, hl, _⟩ := src e2
    simp only [muOf] at e
    rw [hl] at e
    simp only at e
    split at e
    · omega
    · cases e
 where
  uniq : ∀ (L : Rows'), (L.filterMap (·.2.2)).Nodup → ∀ (τ u : Nat) (x y : Nat × Nat) {t : Nat}, (τ, (x, some t)) ∈ L → (u, (y, some t)) ∈ L → τ = u
    | [], _, _, _, _, _, _, h, _ => by cases h
    | z :: r, hn, τ, u, x, y, t, h1, h2 => by
      rcases List.mem_cons.1 h1 with rfl | h1'
      · rcases List.mem_cons.1 h2 with h2 | h2
        · cases h2; rfl
        · rw [List.filterMap_cons] at hn
          have hn := List.nodup_cons.1 hn
          exact (hn.1 (List.mem_filterMap.2 ⟨(u, (y, some t)), h2, rfl⟩)).elim
      · rcases List.mem_cons.1 h2 with rfl | h2
        · rw [List.filterMap_cons] at hn
          have hn := List.nodup_cons.1 hn
          exact (hn.1 (List.mem_filterMap.2 ⟨(τ, (x, some t)), h1', rfl⟩)).elim
        · refine uniq r ?_ τ u x y h1' h2
          rw [List.filterMap_cons] at hn
          split at hn
          · exact hn
          · exact (List.nodup_cons.1 hn).2
def resv {P : Program} [TC P] (S : PS) : ResultVar → Option PV
  | .tmp t => may1 (lk S.env t)
  | .cell a ty => match may1 (lk S.env a), lk (TC.T P) ty with
    | some (.bx id off), some i => match lk S.h.bx id with
      | some x => packed i.agg i.sz (x.2.drop off)
      | none => none
    | _, _ => none
def resvs {P : Program} [TC P] (S : PS) : List ResultVar → Option (List PV)
  | [] => some []
  | r :: rs => match resv (P := P) S r with
    | some p => match resvs (P := P) S rs with
      | some l => some (p :: l)
      | none => none
    | none => none
def resOf {P : Program} [TC P] (S : PS) (rs : List ResultVar) : Option PV :=
  match resvs (P := P) S rs with
  | some [p] => some p
  | some l => some (.tup l)
  | none => none
structure RetOk (P : Program) [TC P] (rs : List ResultVar) (F : PV → Prop) (S : PS) : Prop where
  out : ∃ q p L, resOf (P := P) S rs = some q ∧ F3 S q p L ∧ (L.map (·.1)).Nodup ∧ (L.filterMap (·.2.2)).Nodup ∧ F p
def RetQ (P : Program) [TC P] (rs : List ResultVar) (F : PV → Prop) : Post
  | .normal, S => RetOk P rs F S
  | .ret, S => RetOk P rs F S
  | _, _ => False
theorem resv_run {cx : Cx} [TC cx.P] {S : PS} {a : Act} {W : World} {Z : Cells} {μ : Mu} (hz : RZ cx S a W Z μ) {r : ResultVar} {p : PV} (h : resv (P := cx.P) S r = some p) : ∃ v, (match r with | .tmp t => (pure (a.tmps.getD t undef) : Sem Value) | .cell x t => do loadVar t (← asAddr (a.tmps.getD x undef))).run cx.P W = .ok v W ∧ Rep Z μ p v := by
  cases r with
  | tmp t =>
    obtain ⟨v, hv, hr⟩ := hz.env.may1 h
    exact ⟨v, by simp [hv], hr⟩
  | cell x ty =>
    simp only [resv] at h
    split at h
    · rename_i id off i h1 h2
      split at h
      · rename_i y h3
        obtain ⟨v, hv, hr⟩ := hz.env.may1 h1
        have hl := OpV.loadB (cx := cx) (S := S) (o := { dst := none, op := .load ty (.tmp x), type := 0, pos := "", after := #[], guard := none }) (x := .tmp x) (t := ty) (cs := y.2) rfl h1 h3 h2 h a W Z μ hz
        obtain ⟨u, hu, hq⟩ := hl
        have he : a.eval (.tmp x) = v := by simp [Act.eval, hv]
        cases hr with
        | bx _ _ _ g hg =>
          refine ⟨u, ?_, hq⟩
          simp only [execOp, he, Instr.loadAt, Instr.sureAddr, Sem.run_bind, Sem.run_pure, Result.andThen_ok] at hu
          have : a.tmps.getD x undef = .pointer (some ⟨g, off, none⟩) := by simp [hv]
          simp only [this, asAddr, Sem.run_bind, Sem.run_pure, Result.andThen_ok]
          cases hl2 : (loadVar ty ⟨g, off, none⟩).run cx.P W with
          | ok u' w' => rw [hl2] at hu; simp at hu; rw [hu.1, hu.2]
          | halt e w' => rw [hl2] at hu; simp [Result.andThen] at hu
      · cases h
    · cases h
theorem results_run {cx : Cx} [TC cx.P] {S : PS} {a : Act} {W : World} {Z : Cells} {μ : Mu} (hz : RZ cx S a W Z μ) {fn : Func} {rs : List ResultVar} (hrs : fn.results.toList = rs) {q : PV} (h : resOf (P := cx.P) S rs = some q) : ∃ v, (results fn a.tmps).run cx.P W = .ok v W ∧ Rep Z μ q v := by
  have key : ∀ (rs : List ResultVar) (ps : List PV), resvs (P := cx.P) S rs = some ps → ∃ vs : List Value, vs.length = ps.length ∧ (∀ (i : Nat) (p : PV) (v : Value), ps[i]? = some p → vs[i]? = some v → Rep Z μ p v) ∧
      (rs.mapM (fun (r : ResultVar) => (match r with | .tmp t => (pure (a.tmps.getD t undef) : Sem Value) | .cell x t => do loadVar t (← asAddr (a.tmps.getD x undef))))).run cx.P W = .ok vs W := by
    intro rs
    induction rs with
    | nil =>
      intro ps h
      simp only [resvs, Option.some.injEq] at h
      subst h
      exact ⟨[], rfl, fun i p v h => by simp at h, by simp⟩
    | cons r rs ih =>
      intro ps h
      simp only [resvs] at h
      split at h
      · rename_i p hp
        split at h
        · rename_i l hl
          cases h
          obtain ⟨v, hv, hr⟩ := resv_run hz hp
          obtain ⟨vs, h1, h2, h3⟩ := ih l hl
          refine ⟨v :: vs, by simp [h1], fun i p v hp hv => ?_, ?_⟩
          · cases i with
            | zero => simp at hp hv; subst hp; subst hv; exact hr
            | succ i => simp at hp hv; exact h2 i p v hp hv
          · rw [List.mapM_cons, Sem.run_bind, hv]
            simp only [Result.andThen_ok, Sem.run_bind]
            rw [h3]
            simp
        · cases h
      · cases h
  have hrun : ∀ (ps : List PV), resvs (P := cx.P) S rs = some ps → ∃ vs : List Value, vs.length = ps.length ∧ (∀ (i : Nat) (p : PV) (v : Value), ps[i]? = some p → vs[i]? = some v → Rep Z μ p v) ∧
      (results fn a.tmps).run cx.P W = .ok (if h : vs.toArray.size = 1 then vs.toArray[0] else .tuple vs.toArray) W := fun ps hps => by
    obtain ⟨vs, h1, h2, h3⟩ := key rs ps hps
    refine ⟨vs, h1, h2, ?_⟩
    unfold results
    rw [Sem.run_bind, Array.mapM_eq_mapM_toList, Sem.run_map, hrs]
    refine Eq.trans (congrArg (fun r => Result.andThen (Result.andThen r _) _) h3) ?_
    rfl
  unfold resOf at h
  split at h
  · rename_i p hp
    cases h
    obtain ⟨vs, h1, h2, h3⟩ := hrun _ hp
    match vs, h1 with
    | [v], _ => exact ⟨v, by rw [h3]; rfl, h2 0 _ v rfl rfl⟩
  · rename_i l hne hl
    cases h
    obtain ⟨vs, h1, h2, h3⟩ := hrun _ hl
    refine ⟨.tuple vs.toArray, ?_, .tup _ _ vs h1.symm h2⟩
    rw [h3, dif_neg]
    intro e
    have hl : l.length = 1 := by rw [← h1]; simpa using e
    match l, hl with
    | [p], _ => exact hne p rfl
  · cases h
def numd : Nat → List PV → List (Nat × PV)
  | _, [] => []
  | k, p :: r => (k, p) :: numd (k + 1) r
theorem lk_numd : ∀ (l : List PV) (k t : Nat) (p : PV), lk (numd k l) t = some p → ∃ i, t = k + i ∧ l[i]? = some p
  | [], _, _, _, h => by cases h
  | q :: r, k, t, p, h => by
    simp only [numd] at h
    rw [lk_cons] at h
    by_cases e : k = t
    · rw [if_pos e] at h; cases h; exact ⟨0, e.symm, rfl⟩
    · rw [if_neg e] at h
      obtain ⟨i, h1, h2⟩ := lk_numd r (k + 1) t p h
      exact ⟨i + 1, by omega, h2⟩
theorem toks_of_ret {cx : Cx} [TC cx.P] {a : Act} {W : World} {Z : Cells} {μ : Mu} {S : PS} (hz : RZ cx S a W Z μ) {fn : Func} {rs : List ResultVar} (hrs : fn.results.toList = rs) {F : PV → Prop} (h : RetOk cx.P rs F S) : ∃ v, (results fn a.tmps).run cx.P W = .ok v W ∧ Done cx.w cx.Z F v W := by
  obtain ⟨q, p, L, h1, h2, h3, h4, h5⟩ := h.out
  obtain ⟨v, hv, hr⟩ := results_run hz hrs h1
  refine ⟨v, hv, ⟨p, Z, muOf μ L, h5, h2.rep (fun x hx => lk_of_mem h3 x hx) hr, hz.le, hz.sub, hz.below, ?_⟩⟩
  rw [h2.toks]
  exact hz.h.fin h3 h4 h2.has
/-- A function whose body is shown answers. -/
theorem spec_of {P : Program} [TC P] {f : FuncId} {fn : Func} {c : Code} {args : List PV} {F : PV → Prop} {n : Nat} {rs : List ResultVar} (he : Ent P f) (hf : P.funcs[f]? = some fn) (hb : fn.body = some c) (hn : fn.ntmps = n) (hl : args.length ≤ n) (hrs : fn.results.toList = rs) (hfr : freeL args = true)
    (h : ∀ W Z, PW ⟨P, W, Z, n⟩ c (RetQ P rs F) ⟨numd 0 args, PH.none⟩) : Spec P f args F := ⟨he, fun W Z μ vs hs hr => by
  have key : R ⟨P, W, Z, n⟩ ⟨numd 0 args, PH.none⟩ { tmps := vs.toArray ++ Array.replicate (fn.ntmps - vs.toArray.size) undef, defers := [] } W := by
    refine ⟨Z, Mu.emp, ⟨rfl, ?_, fun t p ht => ?_⟩, ⟨fun i t cs e => (by cases e), fun t sz n e => (by cases e), fun i j x y g e => (by cases e), fun t u sz n sz' n' v v' g e => (by cases e), fun i g e => (by cases e), fun t n v e => (by cases e), fun t n v sz m e => (by cases e), fun i t x sz n v g e => (by cases e)⟩, hs, Grow.refl _ _, Below.refl _ _⟩
    · simp only [Array.size_append, List.size_toArray, Array.size_replicate]
      have := hr.1; omega
    · obtain ⟨i, rfl, hi⟩ := lk_numd args 0 t p ht
      have hi2 := (List.getElem?_eq_some_iff.1 hi).1
      have hi3 : i < vs.length := by rw [hr.1]; exact hi2
      refine ⟨vs[i], ?_, (hr.2 i p _ hi (List.getElem?_eq_getElem hi3)).drop (freeL_mem hfr p (List.mem_of_getElem? hi))⟩
      rw [Nat.zero_add, Array.getElem?_append_left (by simpa using hi3)]
      simp
  refine calls_of_wp hf hb (wp_mono (h W Z _ _ key) fun e a W' hq => ?_)
  obtain ⟨S, ⟨Z', μ', hz⟩, hQ⟩ := hq
  have fin : RetOk P rs F S → a.defers = [] ∧ ∃ v, (results fn a.tmps).run P W' = .ok v W' ∧ ∃ v', Ending.returned v = .returned v' ∧ Done W Z F v' W' := fun k => by
    obtain ⟨v, h1, h2⟩ := toks_of_ret hz hrs k
    exact ⟨hz.env.df, v, h1, v, rfl, h2⟩
  cases e with
  | normal => exact fin hQ
  | ret => exact fin hQ
  | exit i => exact hQ.elim
  | goto l => exact hQ.elim
  | panic c => exact hQ.elim
  | outgrown => exact hQ.elim⟩
end Go.Pw
set_option linter.unusedVariables false
set_option linter.unusedSimpArgs false
namespace Go.Pw
open Go Go.RowKit

def pickV : Option PV → Option PV → Option PV → Option PV
  | some (.lit (.bool true)), x, _ => x
  | some (.lit (.bool false)), _, y => y
  | _, _, _ => none
def binV (op : BinOp) : Option PV → Option PV → Option PV
  | some (.lit (.int k m)), some (.lit (.int k' n)) => if k = k' then (match binI op k m n with | some v => some (.lit v) | none => none) else none
  | some (.lit (.string a)), some (.lit (.string b)) => match strI op a b with | some v => some (.lit v) | none => none
  | _, _ => none
def unV : UnOp → Option PV → Option PV
  | .not, some (.lit (.bool b)) => some (.lit (.bool (!b)))
  | .neg, some (.lit (.int k n)) => some (.lit (.int k (k.wrap (0 - n))))
  | _, _ => none
def extV : Option PV → Nat → Option PV
  | some (.tup l), i => l[i]?
  | _, _ => none
def lenV (T : List (Nat × TI)) (t : Nat) (p : Option PV) : Option PV :=
  match lk T t with
  | some i => match i.d, p with
    | .slice _, some (.sl _ es _) => some (.lit (.int .i64 es.length))
    | .slice _, some (.lit (.slice none 0 0)) => some (.lit (.int .i64 0))
    | .str, some (.lit (.string s)) => some (.lit (.int .i64 s.size))
    | _, _ => none
  | none => none
def loadV (T : List (Nat × TI)) (S : PS) (t : Nat) (p : Option PV) : Option PV :=
  match lk T t with
  | some i => match p with
    | some (.rp l) => packed i.agg i.sz l
    | some (.bx id off) => match lk S.h.bx id with
      | some x => packed i.agg i.sz (x.2.drop off)
      | none => none
    | _ => none
  | none => none
def fldV (T : List (Nat × TI)) (s n : Nat) (p : Option PV) : Option PV :=
  match lk T s with
  | some i => match i.d with
    | .struct fs => match fs[n]? with
      | some (off, ft) => match lk T ft with
        | some j => if j.sz = 0 then none else (match p with
          | some (.rp l) => some (.rp (l.drop off))
          | some (.bx id o0) => some (.bx id (o0 + off))
          | _ => none)
        | none => none
      | none => none
    | _ => none
  | none => none
def nilV : Option PV → Option PV
  | some (.rp l) => some (.rp l)
  | some (.bx id o) => some (.bx id o)
  | _ => none
def convV (T : List (Nat × TI)) (src dst : Nat) : Option PV → Option PV
  | some (.lit (.int k n)) => match lk T src, lk T dst with
    | some i, some j => match i.d, j.d with
      | .int k1, .int k2 => if k1 = k then some (.lit (.int k2 (k2.wrap n))) else none
      | _, _ => none
    | _, _ => none
  | _ => none
def callV (T : List (Nat × TI)) (S : PS) : Callee → List Operand → List TypeId → Option PV
  | .builtin .len, [x], [t] => lenV T t (S.ev x)
  | _, _, _ => none
def valV (T : List (Nat × TI)) (S : PS) (o : Oper) : Option PV :=
  match o.op with
  | .move x => S.ev x
  | .assign x => S.ev x
  | .pick c x y => pickV (S.ev c) (S.ev x) (S.ev y)
  | .binOp op _ x y _ => binV op (S.ev x) (S.ev y)
  | .unOp op _ x => unV op (S.ev x)
  | .extract x i => extV (S.ev x) i
  | .call c => callV T S c.callee c.args.toList c.argTypes.toList
  | .load t x => loadV T S t (S.ev x)
  | .fieldAddr s x n => fldV T s n (S.ev x)
  | .nilCheck x => nilV (S.ev x)
  | .convert src dst x => convV T src dst (S.ev x)
  | .makeFunc (.func f) b caps => match b.toList, caps.toList.mapM S.ev with | [], some l => some (.fn f l) | _, _ => none
  | _ => none
section
variable {cx : Cx} {S : PS} {o : Oper} {p : PV}
theorem pickV_ok {c x y : Operand} (ho : o.op = .pick c x y) (h : pickV (S.ev c) (S.ev x) (S.ev y) = some p) : OpV cx o S p := by
  unfold pickV at h
  split at h
  · rename_i h1; exact OpV.pickT ho h1 h
  · rename_i h1; exact OpV.pickF ho h1 h
  · cases h
theorem binV_ok {op : BinOp} {t yt : TypeId} {x y : Operand} (ho : o.op = .binOp op t x y yt) (h : binV op (S.ev x) (S.ev y) = some p) : OpV cx o S p := by
  unfold binV at h
  split at h
  · rename_i h1 h2
    split at h
    · rename_i e
      subst e
      split at h
      · rename_i v hv; cases h; exact OpV.bin ho h1 h2 hv
      · cases h
    · cases h
  · rename_i h1 h2
    split at h
    · rename_i v hv; cases h; exact OpV.str ho h1 h2 hv
    · cases h
  · cases h
theorem unV_ok {op : UnOp} {t : TypeId} {x : Operand} (ho : o.op = .unOp op t x) (h : unV op (S.ev x) = some p) : OpV cx o S p := by
  unfold unV at h
  split at h
  · rename_i h1; cases h; exact OpV.not ho h1
  · rename_i h1; cases h; exact OpV.neg ho h1
  · cases h
theorem extV_ok {x : Operand} {i : Nat} (ho : o.op = .extract x i) (h : extV (S.ev x) i = some p) : OpV cx o S p := by
  unfold extV at h
  split at h
  · rename_i h1; exact OpV.extract ho h1 h
  · cases h
theorem nilV_ok {x : Operand} (ho : o.op = .nilCheck x) (h : nilV (S.ev x) = some p) : OpV cx o S p := by
  unfold nilV at h
  split at h
  · rename_i h1; cases h; exact OpV.nilc ho h1
  · rename_i h1; cases h; exact OpV.nilcB ho h1
  · cases h
variable [TC cx.P]
theorem lenV_ok {x : Operand} {t : Nat} (ho : o.op = .call { callee := .builtin .len, args := #[x], argTypes := #[t] }) (h : lenV (TC.T cx.P) t (S.ev x) = some p) : OpV cx o S p := by
  unfold lenV at h
  split at h
  · rename_i i hi
    split at h
    · rename_i hd h1; cases h; exact OpV.len ho h1 hi hd
    · rename_i hd h1; cases h; exact OpV.lenNil ho h1 hi hd
    · rename_i hd h1; cases h; exact OpV.lenStr ho h1 hi hd
    · cases h
  · cases h
theorem callV_ok {c : Call} (ho : o.op = .call c) (h : callV (TC.T cx.P) S c.callee c.args.toList c.argTypes.toList = some p) : OpV cx o S p := by
  obtain ⟨ce, ⟨as⟩, ⟨ts⟩⟩ := c
  simp only at h
  unfold callV at h
  split at h
  · exact lenV_ok ho h
  · cases h
theorem loadV_ok {x : Operand} {t : Nat} (ho : o.op = .load t x) (h : loadV (TC.T cx.P) S t (S.ev x) = some p) : OpV cx o S p := by
  unfold loadV at h
  split at h
  · rename_i i hi
    split at h
    · rename_i h1; exact OpV.load ho h1 hi h
    · rename_i h1
      split at h
      · rename_i y hy; exact OpV.loadB (bt := y.1) (cs := y.2) ho h1 hy hi h
      · cases h
    · cases h
  · cases h
theorem fldV_ok {x : Operand} {s n : Nat} (ho : o.op = .fieldAddr s x n) (h : fldV (TC.T cx.P) s n (S.ev x) = some p) : OpV cx o S p := by
  unfold fldV at h
  split at h
  · rename_i i hi
    split at h
    · rename_i fs hd
      split at h
      · rename_i off ft hf
        split at h
        · rename_i j hj
          split at h
          · cases h
          · rename_i hne
            split at h
            · rename_i h1; cases h; exact OpV.fld ho h1 hi hd hf hj hne
            · rename_i h1; cases h; exact OpV.fldB ho h1 hi hd hf hj hne
            · cases h
        · cases h
      · cases h
    · cases h
  · cases h
theorem convV_ok {x : Operand} {src dst : Nat} (ho : o.op = .convert src dst x) (h : convV (TC.T cx.P) src dst (S.ev x) = some p) : OpV cx o S p := by
  unfold convV at h
  split at h
  · rename_i h1
    split at h
    · rename_i i j hi hj
      split at h
      · rename_i k1 k2 hd1 hd2
        split at h
        · rename_i e; subst e; cases h; exact OpV.conv ho h1 hi hd1 hj hd2
        · cases h
      · cases h
    · cases h
  · cases h
theorem valV_ok (h : valV (TC.T cx.P) S o = some p) : OpV cx o S p := by
  unfold valV at h
  split at h
  · rename_i ho; exact OpV.move ho h
  · rename_i ho; exact OpV.assign ho h
  · rename_i ho; exact pickV_ok ho h
  · rename_i ho; exact binV_ok ho h
  · rename_i ho; exact unV_ok ho h
  · rename_i ho; exact extV_ok ho h
  · rename_i ho; exact callV_ok ho h
  · rename_i ho; exact loadV_ok ho h
  · rename_i ho; exact fldV_ok ho h
  · rename_i ho; exact nilV_ok ho h
  · rename_i ho; exact convV_ok ho h
  · rename_i ho
    split at h
    · rename_i b _ l hb hl
      cases h
      refine OpV.func _ (ho.trans ?_) hl
      congr 1
      exact Array.ext' hb
    · cases h
  · cases h
end
def putO (S : PS) (d : Option Tmp) (p : PV) : Option PS :=
  match S, d with
  | ⟨e, h⟩, some t => some ⟨(t, p) :: e, h⟩
  | ⟨e, h⟩, none => some ⟨e, h⟩
theorem putO_eq (S : PS) (d : Option Tmp) (p : PV) : putO S d p = some (S.put d p) := by cases S; cases d <;> rfl
def outBx (S : PS) (d : Nat) (x : Nat × List PV) : Option PS := match S with | ⟨e, ⟨b, k⟩⟩ => some ⟨(d, .bx d 0) :: e, ⟨(d, x) :: b, k⟩⟩
def outSt (S : PS) (id : Nat) (x : Nat × List PV) : Option PS := match S with | ⟨e, ⟨b, k⟩⟩ => some ⟨e, ⟨(id, x) :: b, k⟩⟩
def outTk (S : PS) (d sz : Nat) (es : List (List PV)) : Option PS := match S with | ⟨e, ⟨b, k⟩⟩ => some ⟨(d, .sl sz es (some d)) :: e, ⟨b, (d, (sz, es.length)) :: k⟩⟩
/-- What an operation makes of a state, where that is a matter of looking. -/
def stepS (T : List (Nat × TI)) (n : Nat) (S : PS) (o : Oper) : Option PS :=
  match o.op with
  | .box t x => match o.dst, S.ev x with
    | some d, some p => match cellsOf p, lk S.h.bx d, dstOk n (some d) with
      | some l, none, true => outBx S d (t, l)
      | _, _, _ => none
    | _, _ => none
  | .alloc t => match o.dst, lk T t with
    | some d, some i => match i.zero.cells.toList.all Value.oneCell', lk S.h.bx d, dstOk n (some d) with
      | true, none, true => outBx S d (t, i.zero.cells.toList.map .lit)
      | _, _, _ => none
    | _, _ => none
  | .store t x y => match o.dst, S.ev x, S.ev y, lk T t with
    | none, some (.bx id off), some p, some i => match cellsOf p, lk S.h.bx id with
      | some l, some y => bif Nat.beq l.length i.sz && Nat.ble (off + l.length) y.2.length then outSt S id (y.1, writeC y.2 off l) else none
      | _, _ => none
    | _, _, _, _ => none
  | .buildSlice t m ps => match o.dst, lk T t with
    | some d, some i => match i.d with
      | .slice e => match lk T e, evL S ps.toList with
        | some j, some es => match partsAre ps m && (es.all (fun x => Nat.beq x.length j.sz) && (es.all freeL && (Nat.ble (m * j.sz) 16777216 && Nat.ble m 16777216))), lk S.h.tk d, dstOk n (some d) with
          | true, none, true => outTk S d j.sz es
          | _, _, _ => none
        | _, _ => none
      | _ => none
    | _, _ => none
  | _ => match valV T S o, dstOk n o.dst with
    | some p, true => putO S o.dst p
    | _, _ => none
section
variable {cx : Cx} [TC cx.P] {S S' : PS} {o : Oper} {ops : Array Oper} {rest : List Oper} {Q : Post}
theorem stepS_ok (h : stepS (TC.T cx.P) cx.n S o = some S') (hw : Wants cx ops o S true) (k : PL cx ops Q rest S') : PL cx ops Q (o :: rest) S := by
  unfold stepS at h
  split at h
  · rename_i t x ho
    split at h
    · rename_i d p hd hp
      split at h
      · rename_i l hl hf hn
        cases S
        cases h
        exact PL.box ho hd hp hl hf hn hw k
      · cases h
    · cases h
  · rename_i t ho
    split at h
    · rename_i d i hd hi
      split at h
      · rename_i h1 hf hn
        cases S
        cases h
        exact PL.alloc ho hd hi h1 hf hn hw k
      · cases h
    · cases h
  · rename_i t x y ho
    split at h
    · rename_i id off p i hd hx hy hi
      split at h
      · rename_i l z hl hz
        cases hb : Nat.beq l.length i.sz && Nat.ble (off + l.length) z.2.length with
        | false => rw [hb] at h; cases h
        | true =>
          rw [hb] at h
          rw [Bool.and_eq_true] at hb
          cases S
          cases h
          exact PL.store (bt := z.1) (cs := z.2) ho hx hy hl hz hi (Nat.eq_of_beq_eq_true hb.1) (Nat.le_of_ble_eq_true hb.2) hd hw k
      · cases h
    · cases h
  · rename_i t m ps ho
    split at h
    · rename_i d i hd hi
      split at h
      · rename_i e he
        split at h
        · rename_i j es hj hes
          split at h
          · rename_i hb hf hn
            cases S
            cases h
            simp only [Bool.and_eq_true] at hb
            exact PL.lit ho hd hb.1 hes hi he hj (by simpa [Nat.beq_eq] using hb.2.1) hb.2.2.1 (Nat.le_of_ble_eq_true hb.2.2.2.1) (Nat.le_of_ble_eq_true hb.2.2.2.2) hf hn hw k
          · cases h
        · cases h
      · cases h
    · cases h
  · split at h
    · rename_i p hp hn
      rw [putO_eq] at h
      cases h
      exact PL.val (valV_ok hp) hw hn k
    · cases h
end
/-- Is the operation wanted, so far as the state tells. -/
def wantV (S : PS) (ops : List Oper) (o : Oper) : Option Bool :=
  match o.guard with
  | none => some true
  | some (j, w) => match (ops[j]?).bind (·.dst) with
    | some t => match may1 (lk S.env t) with
      | some (.lit (.bool true)) => some w
      | some (.lit (.bool false)) => some (!w)
      | some (.lit (.tuple ⟨[]⟩)) => some false
      | _ => none
    | none => none
def runV (T : List (Nat × TI)) (n : Nat) (ops : List Oper) : Nat → List Oper → PS → Option (List Oper × PS)
  | 0, l, S => some (l, S)
  | k + 1, o :: r, S => match wantV S ops o with
    | some true => match stepS T n S o with
      | some S' => runV T n ops k r S'
      | none => none
    | some false => match dstOk n o.dst with
      | true => match putO S o.dst (.lit undef) with
        | some S' => runV T n ops k r S'
        | none => none
      | false => none
    | none => none
  | _ + 1, [], _ => none
section
variable {cx : Cx} [TC cx.P] {S S' : PS} {o : Oper} {ops : List Oper} {rest : List Oper} {Q : Post}
end
section
variable {cx : Cx} {S S' : PS} {o : Oper} {ops : List Oper} {rest : List Oper} {Q : Post}
theorem wantV_ok {b : Bool} (h : wantV S ops o = some b) : Wants cx ops.toArray o S b := by
  unfold wantV at h
  split at h
  · rename_i hg; cases h; exact Wants.free hg
  · rename_i j w hg
    split at h
    · rename_i t ht
      have ht' : ((ops.toArray[j]?).bind (·.dst)) = some t := by simpa using ht
      split at h
      · rename_i h1; cases h; have := Wants.is (cx := cx) (ops := ops.toArray) hg ht' h1; cases b <;> exact this
      · rename_i h1; cases h; have := Wants.is (cx := cx) (ops := ops.toArray) hg ht' h1; cases w <;> exact this
      · rename_i h1; cases h; exact Wants.undef (cx := cx) (ops := ops.toArray) hg ht' h1
      · cases h
    · cases h
end
section
variable {cx : Cx} [TC cx.P] {S S' : PS} {o : Oper} {ops : List Oper} {rest : List Oper} {Q : Post}
theorem PL.run (k : Nat) {l : List Oper} (h : runV (TC.T cx.P) cx.n ops k l S = some (rest, S')) (c : PL cx ops.toArray Q rest S') : PL cx ops.toArray Q l S := by
  induction k generalizing l S with
  | zero => cases h; exact c
  | succ k ih =>
    cases l with
    | nil => cases h
    | cons o r =>
      unfold runV at h
      split at h
      · rename_i hw
        split at h
        · rename_i S1 h1; exact stepS_ok h1 (wantV_ok hw) (ih h)
        · cases h
      · rename_i hw
        split at h
        · rename_i hd; rw [putO_eq] at h; exact PL.skip (wantV_ok hw) hd (ih h)
        · cases h
      · cases h
end
end Go.Pw
