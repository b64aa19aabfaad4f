/- The engine, second text: what a piece of code comes to, over pure states; contracts. -/
import Derived.Test.YtkganhdglmbpoaaGreatPw1
import Derived.Deep.LoopGhost
set_option linter.unusedVariables false
set_option linter.unusedSimpArgs false
namespace Go.Pw
open Go Go.RowKit

abbrev Post := Exit → PS → Prop
def QC (cx : Cx) (Q : Post) : Exit → Act → World → Prop := fun e a W => ∃ S, R cx S a W ∧ Q e S
def PW (cx : Cx) (c : Code) (Q : Post) (S : PS) : Prop := ∀ a W, R cx S a W → c.wp cx.P (QC cx Q) a W
def thn (K : PS → Prop) (Q : Post) : Post
  | .normal, S => K S
  | e, S => Q e S
def inB (id : Nat) (Q : Post) : Post
  | .exit i, S => if i = id then Q .normal S else Q (.exit i) S
  | e, S => Q e S
section
variable {cx : Cx} {Q : Post} {S : PS}
theorem PW.seq {x y : Code} (h : PW cx x (thn (PW cx y Q) Q) S) : PW cx (x.seq y) Q S := fun a W hr =>
  wp_seq (wp_mono (h a W hr) fun e a' W' hq => by
    obtain ⟨S', h1, h2⟩ := hq
    cases e with
    | normal => exact h2 a' W' h1
    | exit i => exact ⟨S', h1, h2⟩
    | goto l => exact ⟨S', h1, h2⟩
    | ret => exact ⟨S', h1, h2⟩
    | panic c => exact ⟨S', h1, h2⟩
    | outgrown => exact ⟨S', h1, h2⟩)
theorem PW.block {id : Nat} {c : Code} (h : PW cx c (inB id Q) S) : PW cx (.block id c) Q S := fun a W hr =>
  wp_block (wp_mono (h a W hr) fun e a' W' hq => by
    obtain ⟨S', h1, h2⟩ := hq
    cases e with
    | normal => exact ⟨S', h1, h2⟩
    | exit i =>
      show (if i = id then QC cx Q .normal a' W' else QC cx Q (.exit i) a' W')
      have h2 : (if i = id then Q .normal S' else Q (.exit i) S') := h2
      by_cases e : i = id
      · rw [if_pos e] at h2 ⊢; exact ⟨S', h1, h2⟩
      · rw [if_neg e] at h2 ⊢; exact ⟨S', h1, h2⟩
    | goto l => exact ⟨S', h1, h2⟩
    | ret => exact ⟨S', h1, h2⟩
    | panic c => exact ⟨S', h1, h2⟩
    | outgrown => exact ⟨S', h1, h2⟩)
theorem PW.skip (h : Q .normal S) : PW cx .skip Q S := fun a W hr => wp_skip ⟨S, hr, h⟩
theorem PW.ret (h : Q .ret S) : PW cx .ret Q S := fun a W hr => wp_ret ⟨S, hr, h⟩
theorem PW.exit {id : Nat} (h : Q (.exit id) S) : PW cx (.exit id) Q S := fun a W hr => wp_exit ⟨S, hr, h⟩
theorem PW.cond {c : Operand} {x y : Code} {b : Bool} (hc : S.ev c = some (.lit (.bool b))) (h1 : b = true → PW cx x Q S) (h2 : b = false → PW cx y Q S) : PW cx (.cond c x y) Q S := fun a W hr => by
  obtain ⟨Z, μ, hz⟩ := hr
  have hv := hz.ev hc
  have hv : a.eval c = .bool b := by generalize a.eval c = v at hv; cases hv; rfl
  exact wp_cond_split hv (fun e => h1 e a W ⟨Z, μ, hz⟩) (fun e => h2 e a W ⟨Z, μ, hz⟩)
theorem PW.loop {c : Code} {α : Type} (I : α → PS → Prop) (m : α → Nat) (x : α) (h0 : I x S) (hr : ∀ x S, I x S → PW cx c (thn (fun S' => ∃ y, I y S' ∧ m y < m x) Q) S) : PW cx (.loop c) Q S := fun a W hR =>
  wp_loop_ghost (fun n a W => ∃ x S, m x = n ∧ I x S ∧ R cx S a W) (m x) ⟨x, S, rfl, h0, hR⟩ fun n a W ⟨x, S, hm, hI, hR⟩ =>
    wp_mono (hr x S hI a W hR) fun e a' W' hq => by
      obtain ⟨S', h1, h2⟩ := hq
      cases e with
      | normal =>
        obtain ⟨y, hy, hlt⟩ := h2
        exact ⟨m y, by omega, y, S', rfl, hy, h1⟩
      | exit i => exact ⟨S', h1, h2⟩
      | goto l => exact ⟨S', h1, h2⟩
      | ret => exact ⟨S', h1, h2⟩
      | panic c => exact ⟨S', h1, h2⟩
      | outgrown => exact ⟨S', h1, h2⟩
/-- Another state that says less: what must hold of it. -/
theorem PW.weak {c : Code} {S' : PS} (hw : ∀ a W, R cx S a W → R cx S' a W) (h : PW cx c Q S') : PW cx c Q S := fun a W hr => h a W (hw a W hr)
end

/-! Lists of operations. -/
def PL (cx : Cx) (ops : Array Oper) (Q : Post) (l : List Oper) (S : PS) : Prop := ∀ a W, R cx S a W → wpList cx.P ops (QC cx Q) l a W
def OpJ (cx : Cx) (o : Oper) (S : PS) (K : PS → Prop) : Prop :=
  ∀ a W, R cx S a W → ∀ (K' : Act → World → Prop) (Q : Exit → Act → World → Prop), (∀ S' a' W', K S' → R cx S' a' W' → K' a' W') → o.wp cx.P a W K' Q
def Wants (cx : Cx) (ops : Array Oper) (o : Oper) (S : PS) (b : Bool) : Prop := ∀ a W, R cx S a W → Region.wanted o (yielded ops a.tmps) = b
section
variable {cx : Cx} {Q : Post} {S : PS} {ops : Array Oper} {o : Oper} {rest : List Oper}
theorem PW.region {id : Nat} {l : List Oper} (h : PL cx l.toArray Q l S) : PW cx (.region id l.toArray false) Q S := fun a W hr => wp_region_lit (h a W hr)
theorem PL.nil (h : Q .normal S) : PL cx ops Q [] S := fun a W hr => ⟨S, hr, h⟩
theorem Wants.free (h : o.guard = none) : Wants cx ops o S true := fun a W _ => by simp [Region.wanted, h]
theorem Wants.is {j : Nat} {w : Bool} {t : Tmp} {b : Bool} (h : o.guard = some (j, w)) (hj : ((ops[j]?).bind (·.dst)) = some t) (ht : may1 (lk S.env t) = some (.lit (.bool b))) : Wants cx ops o S (b == w) := fun a W hR => by
  obtain ⟨Z, μ, hz⟩ := hR
  obtain ⟨v, hv, hr⟩ := hz.env.may1 ht
  cases hr
  simp only [Region.wanted, h, yielded, hj, Option.bind_some, hv]
  cases b <;> cases w <;> rfl
theorem Wants.undef {j : Nat} {w : Bool} {t : Tmp} (h : o.guard = some (j, w)) (hj : ((ops[j]?).bind (·.dst)) = some t) (ht : may1 (lk S.env t) = some (.lit Go.undef)) : Wants cx ops o S false := fun a W hR => by
  obtain ⟨Z, μ, hz⟩ := hR
  obtain ⟨v, hv, hr⟩ := hz.env.may1 ht
  cases hr
  simp only [Region.wanted, h, yielded, hj, Option.bind_some, hv]
  cases w <;> rfl
theorem PL.cons {K : PS → Prop} (hw : Wants cx ops o S true) (h : OpJ cx o S K) (hk : ∀ S', K S' → PL cx ops Q rest S') : PL cx ops Q (o :: rest) S := fun a W hR =>
  wpList_step fun K' hK => by
    rw [hw a W hR, if_pos rfl]
    exact h a W hR K' _ fun S' a' W' h1 h2 => hK a' W' (hk S' h1 a' W' h2)
theorem PL.skip (hw : Wants cx ops o S false) (hd : dstOk cx.n o.dst = true) (h : PL cx ops Q rest (S.put o.dst (.lit undef))) : PL cx ops Q (o :: rest) S := fun a W hR =>
  wpList_step fun K' hK => by
    rw [hw a W hR, if_neg (by decide)]
    obtain ⟨Z, μ, hz⟩ := hR
    exact hK _ _ (h _ _ ⟨Z, μ, hz.put hd (.lit _ _)⟩)
/-- A test whose outcome a guard hangs on: each way for itself. -/
theorem PL.split {l : List Oper} {t : Tmp} {b : Bool} (ht : may1 (lk S.env t) = some (.lit (.bool b))) (h1 : b = true → PL cx ops Q l ⟨(t, .lit (.bool true)) :: S.env, S.h⟩) (h2 : b = false → PL cx ops Q l ⟨(t, .lit (.bool false)) :: S.env, S.h⟩) : PL cx ops Q l S := fun a W hR => by
  obtain ⟨Z, μ, hz⟩ := hR
  have key : R cx ⟨(t, .lit (.bool b)) :: S.env, S.h⟩ a W := ⟨Z, μ, ⟨hz.env.df, hz.env.sz, fun u p hu => by
    rw [lk_cons] at hu
    by_cases e : t = u
    · subst e; rw [if_pos rfl] at hu; cases hu; exact hz.env.may1 ht
    · rw [if_neg e] at hu; exact hz.env.at_ u p hu⟩, hz.h, hz.sub, hz.le, hz.below⟩
  cases b with
  | true => exact h1 rfl a W key
  | false => exact h2 rfl a W key
/-- An operation that gives a value and leaves the world as it is. -/
def OpV (cx : Cx) (o : Oper) (S : PS) (p : PV) : Prop := ∀ a W Z μ, RZ cx S a W Z μ → ∃ v, (execOp a.eval o).run cx.P W = .ok (.value v) W ∧ Rep Z μ p v
theorem OpV.j {p : PV} (hd : dstOk cx.n o.dst = true) (h : OpV cx o S p) : OpJ cx o S (fun S' => S' = S.put o.dst p) := fun a W hR K' Q hK => by
  obtain ⟨Z, μ, hz⟩ := hR
  obtain ⟨v, hv, hr⟩ := h a W Z μ hz
  show o.upon cx.P a K' Q _
  rw [hv]
  exact hK _ _ _ rfl ⟨Z, μ, hz.put hd hr⟩
theorem PL.val {p : PV} (h : OpV cx o S p) (hw : Wants cx ops o S true) (hd : dstOk cx.n o.dst = true) (k : PL cx ops Q rest (S.put o.dst p)) : PL cx ops Q (o :: rest) S :=
  PL.cons hw (h.j hd) fun S' e => by subst e; exact k
end

/-! Contracts. -/
def mapL {α β : Type} (f : α → β) : List α → List β
  | [] => []
  | x :: r => f x :: mapL f r
/-- The rows that a result hands over. -/
def toks : PV → List (Nat × (Nat × Nat))
  | .sl sz es (some t) => [(t, (sz, es.length))]
  | .agg l => toksL l
  | .tup l => toksL l
  | _ => []
where toksL : List PV → List (Nat × (Nat × Nat))
  | [] => []
  | p :: r => toks p ++ toksL r
structure Done (W : World) (Z : Cells) (F : PV → Prop) (v : Value) (W' : World) : Prop where
  out : ∃ p Z' μ', F p ∧ Rep Z' μ' p v ∧ Grow Z Z' W.heap.size ∧ Sub Z' W' ∧ Below W.heap.size W W' ∧ RepH W.heap.size Z' μ' ⟨[], toks p⟩ W'
def RepL (Z : Cells) (μ : Mu) (ps : List PV) (vs : List Value) : Prop := vs.length = ps.length ∧ ∀ (i : Nat) (p : PV) (v : Value), ps[i]? = some p → vs[i]? = some v → Rep Z μ p v
/-- The function is one that a call goes into. -/
def Ent (P : Program) (f : FuncId) : Prop := ∀ (args : Array Value) (w : World), (callFunc f args).run P w = .ok (.enter f args) w
/-- Function f, called with values that stand for args, returns a value that stands for something of which F is true; of what was there nothing is turned. -/
structure Spec (P : Program) (f : FuncId) (args : List PV) (F : PV → Prop) : Prop where
  ent : Ent P f
  run : ∀ (W : World) (Z : Cells) (μ : Mu) (vs : List Value), Sub Z W → RepL Z μ args vs → Calls P f vs.toArray W fun e W' => ∃ v, e = .returned v ∧ Done W Z F v W'
theorem Spec.mono {P : Program} {f : FuncId} {args : List PV} {F G : PV → Prop} (h : Spec P f args F) (k : ∀ p, F p → G p) : Spec P f args G := ⟨h.ent, fun W Z μ vs h1 h2 =>
  (h.run W Z μ vs h1 h2).mono fun e W' ⟨v, e1, ⟨p, Z', μ', h3, r⟩⟩ => ⟨v, e1, ⟨p, Z', μ', k p h3, r⟩⟩⟩
end Go.Pw
