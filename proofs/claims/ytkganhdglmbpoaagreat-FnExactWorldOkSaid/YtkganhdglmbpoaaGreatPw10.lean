/- The engine, tenth text: a region that draws its order. -/
import Derived.Test.YtkganhdglmbpoaaGreatPw9
import Derived.Orders
set_option linter.unusedVariables false
set_option linter.unusedSimpArgs false
namespace Go.Pw
open Go Go.RowKit

/-- What each operation of the region gives, so far as it has come up. -/
def old (e : List (Nat × PV)) (t : Nat) : PV := match lk e t with | some q => q | none => .junk
def mayL (e0 : List (Nat × PV)) (b : Nat → Bool) : Nat → List (Option Nat × PV) → List (Nat × PV)
  | _, [] => []
  | k, (some t, p) :: r => (t, .may (b k) p (old e0 t)) :: mayL e0 b (k + 1) r
  | k, (none, _) :: r => mayL e0 b (k + 1) r
def upB (b : Nat → Bool) (i : Nat) : Nat → Bool := fun j => if j = i then true else b j
def mayAt (e : List (Nat × PV)) (D : List (Option Nat × PV)) (b : Nat → Bool) : List (Nat × PV) := mayL e b 0 D ++ e
def keysOk : List (Option Nat × PV) → Bool
  | [] => true
  | (some t, _) :: r => (r.all fun x => match x.1 with | some u => !Nat.beq t u | none => true) && keysOk r
  | (none, _) :: r => keysOk r
theorem keysOk_ne {t u : Nat} {q : PV} : ∀ {r : List (Option Nat × PV)} {i : Nat}, (r.all fun x => match x.1 with | some u => !Nat.beq t u | none => true) = true → r[i]? = some (some u, q) → t ≠ u := fun {r i} h hi => by
  have := List.all_eq_true.1 h _ (List.mem_of_getElem? hi)
  simp only [Bool.not_eq_true'] at this
  intro e
  subst e
  simp at this
theorem may_same {e0 : List (Nat × PV)} {b : Nat → Bool} {i : Nat} : ∀ (r : List (Option Nat × PV)) (k : Nat), i < k → mayL e0 (upB b i) k r = mayL e0 b k r
  | [], _, _ => rfl
  | (none, _) :: r, k, h => may_same r (k + 1) (by omega)
  | (some s, x) :: r, k, h => by
    simp only [mayL]
    rw [may_same r (k + 1) (by omega)]
    have : upB b i k = b k := by simp only [upB]; rw [if_neg (by omega)]
    rw [this]
/-- Operation i has come up. -/
theorem may_up {e0 : List (Nat × PV)} {b : Nat → Bool} {i : Nat} {t : Nat} {p : PV} {e : List (Nat × PV)} : ∀ (D : List (Option Nat × PV)) (k : Nat), keysOk D = true → True →
    (∃ j, k + j = i ∧ D[j]? = some (some t, p)) → ∀ u q, lk (mayL e0 (upB b i) k D ++ e) u = some q → (u = t ∧ q = .may true p (old e0 t)) ∨ (u ≠ t ∧ lk (mayL e0 b k D ++ e) u = some q)
  | [], _, _, _, ⟨j, _, h⟩, _, _, _ => by simp at h
  | (none, x) :: r, k, hk, _, ⟨j, hj, h⟩, u, q, hq => by
    cases j with
    | zero => simp at h
    | succ j =>
      exact may_up r (k + 1) hk trivial ⟨j, by omega, by simpa using h⟩ u q hq
  | (some s, x) :: r, k, hk, _, ⟨j, hj, h⟩, u, q, hq => by
    simp only [keysOk, Bool.and_eq_true] at hk
    simp only [mayL, List.cons_append] at hq ⊢
    rw [lk_cons] at hq ⊢
    cases j with
    | zero =>
      simp at h
      obtain ⟨rfl, rfl⟩ := h
      by_cases e1 : s = u
      · subst e1
        rw [if_pos rfl] at hq
        simp only [Option.some.injEq] at hq
        refine .inl ⟨rfl, ?_⟩
        rw [← hq]
        have : upB b i k = true := by simp [upB]; omega
        rw [this]
      · rw [if_neg e1] at hq ⊢
        refine .inr ⟨fun e => e1 e.symm, ?_⟩
        rwa [may_same r (k + 1) (by omega)] at hq
    | succ j =>
      have hst := keysOk_ne hk.1 (i := j) (by simpa using h)
      by_cases e1 : s = u
      · subst e1
        rw [if_pos rfl] at hq ⊢
        refine .inr ⟨hst, ?_⟩
        have : upB b i k = b k := by simp only [upB]; rw [if_neg (by omega)]
        rw [← hq, this]
      · rw [if_neg e1] at hq ⊢
        exact may_up r (k + 1) hk.2 trivial ⟨j, by omega, by simpa using h⟩ u q hq
theorem may_none {e0 : List (Nat × PV)} {b : Nat → Bool} {i : Nat} {p : PV} : ∀ (D : List (Option Nat × PV)) (k : Nat), (∃ j, k + j = i ∧ D[j]? = some (none, p)) → mayL e0 (upB b i) k D = mayL e0 b k D
  | [], _, ⟨j, _, h⟩ => by simp at h
  | (none, x) :: r, k, ⟨j, hj, h⟩ => by
    cases j with
    | zero =>
      have h1 : i < k + 1 := by omega
      simp only [mayL]
      exact may_same r (k + 1) h1
    | succ j => exact may_none r (k + 1) ⟨j, by omega, by simpa using h⟩
  | (some s, x) :: r, k, ⟨j, hj, h⟩ => by
    cases j with
    | zero => simp at h
    | succ j =>
      simp only [mayL]
      rw [may_none r (k + 1) ⟨j, by omega, by simpa using h⟩]
      have : upB b i k = b k := by simp only [upB]; rw [if_neg (by omega)]
      rw [this]
/-- Nothing has come up: nothing is said. -/
theorem may_first {e0 e : List (Nat × PV)} : ∀ (D : List (Option Nat × PV)) (k : Nat) (u : Nat) (q : PV), lk (mayL e0 (fun _ => false) k D ++ e) u = some q → (∃ (p : PV) (i : Nat), D[i]? = some (some u, p) ∧ q = .may false p (old e0 u)) ∨ lk e u = some q
  | [], _, _, _, h => .inr h
  | (none, x) :: r, k, u, q, h => by
    rcases may_first r (k + 1) u q h with ⟨p, i, h1, h2⟩ | h1
    · exact .inl ⟨p, i + 1, by simpa using h1, h2⟩
    · exact .inr h1
  | (some s, x) :: r, k, u, q, h => by
    simp only [mayL, List.cons_append] at h
    rw [lk_cons] at h
    by_cases e1 : s = u
    · rw [if_pos e1] at h
      subst e1
      exact .inl ⟨x, 0, by simp, by simpa using h.symm⟩
    · rw [if_neg e1] at h
      rcases may_first r (k + 1) u q h with ⟨p, i, h1, h2⟩ | h1
      · exact .inl ⟨p, i + 1, by simpa using h1, h2⟩
      · exact .inr h1
/-- The same, told otherwise. -/
theorem R.env {cx : Cx} {e e' : List (Nat × PV)} {h : PH} {a : Act} {W : World} (hR : R cx ⟨e, h⟩ a W) (H : ∀ Z μ, EnvOk Z μ cx.n e a → ∀ u q, lk e' u = some q → ∃ v, a.tmps[u]? = some v ∧ Rep Z μ q v) : R cx ⟨e', h⟩ a W := by
  obtain ⟨Z, μ, hz⟩ := hR
  exact ⟨Z, μ, ⟨⟨hz.env.df, hz.env.sz, H Z μ hz.env⟩, hz.h, hz.sub, hz.le, hz.below⟩⟩

/-! What an operation waits for. -/
def needs (o : Oper) : List Nat := (o.after.toList.filter fun e => Region.binds .any e).map (·.on)
/-- B: for each operation, as bits, some of those that it waits for, at once or through others. -/
def waitOk (B : List Nat) : Nat → List Oper → Bool
  | _, [] => true
  | k, o :: r => ((needs o).all fun j => Nat.blt j k) && (Nat.beq (Nat.lor (B.getD k 0) (reachN B k (needs o))) (reachN B k (needs o)) && waitOk B (k + 1) r)
where reachN (B : List Nat) (k : Nat) : List Nat → Nat
  | [] => 0
  | j :: r => Nat.lor (Nat.lor (2 ^ j) (B.getD j 0)) (reachN B k r)
def ov (B : List Nat) (i : Nat) (x : Bool) (b : Nat → Bool) : Nat → Bool := fun j => bif Nat.beq j i then x else bif (B.getD i 0).testBit j then true else bif (B.getD j 0).testBit i then false else b j
theorem waitOk_at {B : List Nat} : ∀ {l : List Oper} {k i : Nat} {o : Oper}, waitOk B k l = true → l[i]? = some o → (∀ j ∈ needs o, j < k + i) ∧ ∀ j, (B.getD (k + i) 0).testBit j = true → ∃ m ∈ needs o, m = j ∨ (B.getD m 0).testBit j = true
  | [], _, _, _, _, h => by simp at h
  | x :: r, k, i, o, hw, hi => by
    simp only [waitOk, Bool.and_eq_true] at hw
    cases i with
    | zero =>
      simp at hi
      subst hi
      refine ⟨fun j hj => ?_, fun j hj => ?_⟩
      · have := List.all_eq_true.1 hw.1 j hj
        simp [Nat.blt] at this
        omega
      · have h1 := Nat.eq_of_beq_eq_true hw.2.1
        have h2 : (waitOk.reachN B k (needs x)).testBit j = true := by
          rw [← h1]
          show ((B.getD k 0) ||| _).testBit j = true
          rw [Nat.testBit_or, Bool.or_eq_true]
          exact .inl hj
        exact go (needs x) h2
    | succ i =>
      have := waitOk_at (k := k + 1) hw.2.2 (i := i) (by simpa using hi)
      rw [show k + (i + 1) = k + 1 + i by omega]
      exact this
where
  go {B : List Nat} {k j : Nat} : ∀ (l : List Nat), (waitOk.reachN B k l).testBit j = true → ∃ m ∈ l, m = j ∨ (B.getD m 0).testBit j = true
    | [], h => by simp [waitOk.reachN] at h
    | m :: r, h => by
      have h : ((2 ^ m ||| B.getD m 0) ||| waitOk.reachN B k r).testBit j = true := h
      rw [Nat.testBit_or, Nat.testBit_or, Bool.or_eq_true, Bool.or_eq_true] at h
      rcases h with (h | h) | h
      · rw [Nat.testBit_two_pow] at h
        exact ⟨m, List.mem_cons_self, .inl (by simpa using h)⟩
      · exact ⟨m, List.mem_cons_self, .inr h⟩
      · obtain ⟨x, hx, h2⟩ := go r h
        exact ⟨x, List.mem_cons_of_mem _ hx, h2⟩
/-- The steps: each operation from a state in which what it waits for has come up, and what waits for it has not. -/
inductive Steps (cx : Cx) (ops : Array Oper) (Q : Post) (B : List Nat) (st : (Nat → Bool) → PS) : Nat → List Oper → List (Option Nat × PV) → Prop
  | nil (k : Nat) : Steps cx ops Q B st k [] []
  | cons {k : Nat} {o : Oper} {t : Option Nat} {p : PV} {l : List Oper} {D : List (Option Nat × PV)} (hd : o.dst = t)
      (h : ∀ b, PL cx ops (thn (fun S' => S' = PS.put ⟨(st (ov B k false b)).env, (st (ov B k true b)).h⟩ t p) Q) [o] (st (ov B k false b))) (r : Steps cx ops Q B st (k + 1) l D) : Steps cx ops Q B st k (o :: l) ((t, p) :: D)
theorem Steps.at_ {cx : Cx} {ops : Array Oper} {Q : Post} {B : List Nat} {st : (Nat → Bool) → PS} : ∀ {l : List Oper} {k : Nat} {D : List (Option Nat × PV)}, Steps cx ops Q B st k l D → ∀ {i : Nat} {o : Oper}, l[i]? = some o →
    ∃ p, D[i]? = some (o.dst, p) ∧ ∀ b, PL cx ops (thn (fun S' => S' = PS.put ⟨(st (ov B (k + i) false b)).env, (st (ov B (k + i) true b)).h⟩ o.dst p) Q) [o] (st (ov B (k + i) false b))
  | [], _, _, _, i, o, h => by simp at h
  | x :: r, k, _, .cons hd hx hr, i, o, h => by
    cases i with
    | zero => simp at h; subst h; subst hd; exact ⟨_, rfl, hx⟩
    | succ i =>
      obtain ⟨p, h1, h2⟩ := Steps.at_ hr (i := i) (o := o) (by simpa using h)
      refine ⟨p, by simpa using h1, ?_⟩
      rw [show k + (i + 1) = k + 1 + i by omega]
      exact h2
theorem wp_swap {P : Program} {o : Oper} {a : Act} {w : World} {K K' : Act → World → Prop} {Q Q' : Exit → Act → World → Prop} (hk : ∀ a w, K a w → K' a w) (hq : ∀ e a w, e ≠ .normal → Q e a w → Q' e a w) (hh : o.wp P a w K Q) : o.wp P a w K' Q' := by
  unfold Oper.wp at *
  generalize (execOp a.eval o).run P w = r at *
  cases r with
  | ok n w' =>
    cases n <;> simp only [Oper.upon] at hh ⊢ <;>
      first
        | exact hk _ _ hh
        | exact Calls.mono hh (fun e w'' he => by
            cases e with
            | returned v => exact hk _ _ he
            | panicked c => exact hq _ _ _ (by simp) he
            | outgrown => obtain ⟨a1, w1, h1⟩ := he; exact ⟨a1, w1, hq _ _ _ (by simp) h1⟩)
        | exact Rows.mono hh (fun _ _ he => hk _ _ he)
  | halt x w' => cases x <;> simp only [Oper.upon] at hh ⊢ <;> first | exact hq _ _ _ (by simp) hh | exact hh
/-- A region that draws its order. D: what each operation gives, in the text's order. -/
theorem PW.drawn {cx : Cx} {Q : Post} {S : PS} {id : Nat} {l : List Oper} (D : List (Option Nat × PV)) (B : List Nat) (h : (Nat → Bool) → PH) (hm : cx.P.follows .mixedOrders = true) (hw : waitOk B 0 l = true) (hB : B.length = l.length) (hk : keysOk D = true) (hd : (l.all fun o => dstOk cx.n o.dst) = true) (h0 : h (fun j => Nat.ble l.length j) = S.h)
    (hs : Steps cx l.toArray Q B (fun b => ⟨mayAt S.env D b, h b⟩) 0 l D) (hend : Q .normal ⟨mayAt S.env D (fun _ => true), h (fun _ => true)⟩) : PW cx (.region id l.toArray true) Q S := fun a W hR => by
  have hw' := fun {i : Nat} {o : Oper} (hi : l[i]? = some o) => waitOk_at hw hi
  have key : ∀ (fuel : Nat) (listed : Array Bool), listed.size = l.length → (listed.toList.filter (!·)).length = fuel → (∀ d o, l[d]? = some o → listed.getD d true = true → ∀ j ∈ needs o, listed.getD j true = true) →
      ∀ a W, R cx ⟨mayAt S.env D (fun j => listed.getD j true), h (fun j => listed.getD j true)⟩ a W → wpAny cx.P .any l.toArray (QC cx Q) fuel listed a W := by
    intro fuel
    induction fuel with
    | zero =>
      intro listed hsz hc hcl a W hR
      have hall : ∀ j, listed.getD j true = true := fun j => by
        cases hj : listed.getD j true with
        | true => rfl
        | false =>
          have hlt : j < listed.size := by
            rcases Nat.lt_or_ge j listed.size with h1 | h1
            · exact h1
            · rw [Array.getD_eq_getD_getElem?, Array.getElem?_eq_none h1] at hj; cases hj
          have : false ∈ listed.toList := by
            rw [Array.getD_eq_getD_getElem?, Array.getElem?_eq_getElem hlt] at hj
            simp only [Option.getD_some] at hj
            rw [← hj]
            exact Array.getElem_mem_toList hlt
          have := List.mem_filter.2 ⟨this, (by rfl : (!false) = true)⟩
          rw [List.eq_nil_of_length_eq_zero hc] at this
          cases this
      refine ⟨List.eq_nil_iff_forall_not_mem.2 (fun i hi => ?_), ?_⟩
      · have := (mem_ready.1 hi).1; rw [hall i] at this; cases this
      · rw [show (fun j => listed.getD j true) = (fun _ => true) from funext hall] at hR
        exact ⟨_, hR, hend⟩
    | succ fuel ih =>
      intro listed hsz hc hcl a W hR
      refine ⟨fun hr => ?_, fun i hi => ?_⟩
      · exfalso
        have hex : ∃ i, i < listed.size ∧ listed.getD i true = false := by
          cases hf : listed.toList.filter (!·) with
          | nil => rw [hf] at hc; simp at hc
          | cons x r =>
            have hx : x ∈ listed.toList.filter (!·) := by rw [hf]; exact List.mem_cons_self
            rw [List.mem_filter] at hx
            obtain ⟨i, hi, e⟩ := List.mem_iff_getElem.1 hx.1
            refine ⟨i, by simpa using hi, ?_⟩
            have hi' : i < listed.size := by simpa using hi
            rw [Array.getD_eq_getD_getElem?, Array.getElem?_eq_getElem hi']
            simp only [Option.getD_some]
            have : listed[i] = x := by rw [← e]; simp
            rw [this]
            simpa using hx.2
        have hmin : ∀ k, (∃ i, i ≤ k ∧ i < listed.size ∧ listed.getD i true = false) → ∃ i, i < listed.size ∧ listed.getD i true = false ∧ ∀ j, j < i → listed.getD j true = true := by
          intro k
          induction k with
          | zero => rintro ⟨i, hi, h1, h2⟩; exact ⟨i, h1, h2, fun j hj => by omega⟩
          | succ k ihk =>
            rintro ⟨i, hi, h1, h2⟩
            by_cases hlow : ∃ j, j ≤ k ∧ j < listed.size ∧ listed.getD j true = false
            · exact ihk hlow
            · refine ⟨i, h1, h2, fun j hj => ?_⟩
              cases hb : listed.getD j true with
              | true => rfl
              | false => exact absurd ⟨j, by omega, by omega, hb⟩ hlow
        obtain ⟨i0, h1, h2⟩ := hex
        obtain ⟨i, hlt, hb, hlow⟩ := hmin i0 ⟨i0, Nat.le_refl _, h1, h2⟩
        have hil : l[i]? = some l[i] := List.getElem?_eq_getElem (by omega)
        have : i ∈ Region.ready .any l.toArray listed := mem_ready.2 ⟨hb, l[i], by rw [List.getElem?_toArray]; exact hil, fun e he hbd => by
          have hj := (hw' hil).1 e.on (List.mem_map.2 ⟨e, List.mem_filter.2 ⟨by simpa using he, hbd⟩, rfl⟩)
          have h3 := hlow e.on (by omega)
          have hlt' : e.on < listed.size := by omega
          rw [Array.getD_eq_getD_getElem?, Array.getElem?_eq_getElem hlt'] at h3 ⊢
          exact h3⟩
        rw [hr] at this
        cases this
      · obtain ⟨hb, o, ho, hall⟩ := mem_ready.1 hi
        have ho : l[i]? = some o := by simpa using ho
        have hlt : i < listed.size := by rw [hsz]; exact (List.getElem?_eq_some_iff.1 ho).1
        have hneed : ∀ j ∈ needs o, listed.getD j true = true := fun j hj => by
          obtain ⟨e, he, rfl⟩ := List.mem_map.1 hj
          rw [List.mem_filter] at he
          have h1 := hall e (by simpa using he.1) he.2
          have hlt' : e.on < listed.size := by
            rcases Nat.lt_or_ge e.on listed.size with h2 | h2
            · exact h2
            · rw [Array.getD_eq_getD_getElem?, Array.getElem?_eq_none h2] at h1; cases h1
          rw [Array.getD_eq_getD_getElem?, Array.getElem?_eq_getElem hlt'] at h1 ⊢
          exact h1
        have down : ∀ (m d : Nat), d ≤ m → d < l.length → listed.getD d true = true → ∀ j, (B.getD d 0).testBit j = true → listed.getD j true = true := by
          intro m
          induction m with
          | zero =>
            intro d hd hl hb j hj
            have hdl : l[d]? = some l[d] := List.getElem?_eq_getElem hl
            obtain ⟨k1, k2⟩ := hw' hdl
            rw [Nat.zero_add] at k1 k2
            obtain ⟨m', hm', _⟩ := k2 j hj
            have := k1 m' hm'
            omega
          | succ m ihm =>
            intro d hd hl hb j hj
            have hdl : l[d]? = some l[d] := List.getElem?_eq_getElem hl
            obtain ⟨k1, k2⟩ := hw' hdl
            rw [Nat.zero_add] at k1 k2
            obtain ⟨m', hm', h3⟩ := k2 j hj
            have h4 := hcl d _ hdl hb m' hm'
            rcases h3 with rfl | h3
            · exact h4
            · have := k1 m' hm'
              exact ihm m' (by omega) (by omega) h4 j h3
        have hov : (fun j => listed.getD j true) = ov B i false (fun j => listed.getD j true) := funext fun j => by
          unfold ov
          by_cases hji : j = i
          · subst hji; rw [show Nat.beq j j = true from Nat.beq_refl j, cond_true]; exact hb
          · rw [beq_ne hji, cond_false]
            cases h1 : (B.getD i 0).testBit j with
            | true =>
              rw [cond_true]
              obtain ⟨k1, k2⟩ := hw' ho
              rw [Nat.zero_add] at k1 k2
              obtain ⟨m', hm', h3⟩ := k2 j h1
              have h4 := hneed m' hm'
              rcases h3 with rfl | h3
              · exact h4
              · exact down m' m' (Nat.le_refl _) (by have := k1 m' hm'; omega) h4 j h3
            | false =>
              rw [cond_false]
              cases h2 : (B.getD j 0).testBit i with
              | false => rw [cond_false]
              | true =>
                rw [cond_true]
                cases h5 : listed.getD j true with
                | false => rfl
                | true =>
                  exfalso
                  rcases Nat.lt_or_ge j l.length with hjl | hjl
                  · have := down j j (Nat.le_refl _) hjl h5 i h2
                    rw [hb] at this; cases this
                  · rw [List.getD_eq_getElem?_getD, List.getElem?_eq_none (by omega)] at h2; simp at h2
        have hup : (fun j => (listed.setIfInBounds i true).getD j true) = upB (fun j => listed.getD j true) i := funext fun j => by
          simp only [upB]
          by_cases hji : j = i
          · subst hji; rw [if_pos rfl, Array.getD_eq_getD_getElem?, Array.getElem?_setIfInBounds_self_of_lt hlt]; rfl
          · rw [if_neg hji, Array.getD_eq_getD_getElem?, Array.getElem?_setIfInBounds_ne (Ne.symm hji), Array.getD_eq_getD_getElem?]
        have hov2 : upB (fun j => listed.getD j true) i = ov B i true (fun j => listed.getD j true) := funext fun j => by
          have h1 := congrFun hov j
          simp only [upB]
          unfold ov at h1 ⊢
          by_cases hji : j = i
          · subst hji; rw [if_pos rfl, show Nat.beq j j = true from Nat.beq_refl j, cond_true]
          · rw [if_neg hji]; rw [beq_ne hji, cond_false] at h1 ⊢; exact h1
        obtain ⟨p, hD, hst⟩ := hs.at_ ho
        rw [Nat.zero_add] at hst
        have h1 := hst (fun j => listed.getD j true) a W (by rw [hov] at hR; exact hR)
        have hcont : ∀ a' W', (∃ S', R cx S' a' W' ∧ S' = PS.put ⟨mayAt S.env D (ov B i false fun j => listed.getD j true), h (ov B i true fun j => listed.getD j true)⟩ o.dst p) → wpAny cx.P .any l.toArray (QC cx Q) fuel (listed.setIfInBounds i true) a' W' := by
          rintro a' W' ⟨S', hR', rfl⟩
          refine ih _ (by simpa using hsz) ?_ ?_ a' W' ?_
          · rw [Array.toList_setIfInBounds]
            have : ∀ (l : List Bool) (i : Nat), l[i]? = some false → ((l.set i true).filter (!·)).length + 1 = (l.filter (!·)).length := by
              intro l
              induction l with
              | nil => intro i h; simp at h
              | cons x r ihr =>
                intro i h
                cases i with
                | zero => simp at h; subst h; simp
                | succ i =>
                  have := ihr i (by simpa using h)
                  rw [List.set_cons_succ, List.filter_cons, List.filter_cons]
                  split
                  · simp only [List.length_cons]; omega
                  · omega
            have h2 := this listed.toList i (by
              rw [Array.getD_eq_getD_getElem?, Array.getElem?_eq_getElem hlt] at hb
              rw [Array.getElem?_toList, Array.getElem?_eq_getElem hlt]
              simpa using hb)
            omega
          · intro d od hod hdl j hj
            have e1 := congrFun hup d
            have e2 := congrFun hup j
            simp only [upB] at e1 e2
            rw [e1] at hdl
            rw [e2]
            by_cases hji : j = i
            · rw [if_pos hji]
            · rw [if_neg hji]
              by_cases hdi : d = i
              · subst hdi; rw [ho] at hod; cases hod; exact hneed j hj
              · rw [if_neg hdi] at hdl; exact hcl d od hod hdl j hj
          · rw [hup, hov2]
            rw [← hov] at hR'
            cases hdst : o.dst with
            | none =>
              rw [hdst] at hR' hD
              have e : mayAt S.env D (ov B i true fun j => listed.getD j true) = mayAt S.env D (fun j => listed.getD j true) := by
                rw [← hov2]; unfold mayAt; rw [may_none D 0 ⟨i, by omega, hD⟩]
              rw [e]
              exact hR'
            | some t =>
              rw [hdst] at hR' hD
              refine R.env hR' (fun Z μ hE u q hu => ?_)
              rw [← hov2] at hu
              rcases may_up D 0 hk trivial ⟨i, by omega, hD⟩ u q hu with ⟨rfl, rfl⟩ | ⟨hne, h3⟩
              · obtain ⟨v, hv, hr⟩ := hE.at_ u p (by rw [lk_cons, if_pos rfl])
                exact ⟨v, hv, .may _ _ _ _ _ (fun _ => hr) (fun e => by cases e)⟩
              · exact hE.at_ u q (by rw [lk_cons, if_neg (Ne.symm hne)]; exact h3)
        unfold wpOp
        rw [show l.toArray[i]? = some o by simpa using ho]
        show (if Region.wanted o (yielded l.toArray a.tmps) = true then _ else _)
        unfold wpList at h1
        split
        · rename_i hwant
          rw [if_pos hwant] at h1
          rcases h1 with h1 | ⟨h1, a1, w1, h2⟩
          · exact .inl (wp_swap (fun a w hh => hcont a w hh) (fun e a w he hh => by
              obtain ⟨S', h3, h4⟩ := hh
              refine ⟨S', h3, ?_⟩
              cases e with
              | normal => exact absurd rfl he
              | exit i => exact h4
              | goto l => exact h4
              | ret => exact h4
              | panic c => exact h4
              | outgrown => exact h4) h1)
          · exact .inr ⟨h1, a1, w1, h2⟩
        · rename_i hwant
          rw [if_neg hwant] at h1
          exact hcont _ _ h1
  have hlow : mayAt S.env D (fun j => Nat.ble l.length j) = mayAt S.env D (fun _ => false) := by
    unfold mayAt; rw [low D 0 (by rw [len hs, Nat.zero_add]; exact Nat.le_refl _)]
  have hR0 : R cx ⟨mayAt S.env D (fun j => Nat.ble l.length j), h (fun j => Nat.ble l.length j)⟩ a { W with drawn := W.drawn + 1 } := by
    rw [h0, hlow]
    obtain ⟨Z, μ, hz⟩ := hR
    have hz2 : RZ cx S a { W with drawn := W.drawn + 1 } Z μ := hz.grow ((Below.refl _ _).drew) (Cells.le_refl _) (fun _ _ e => .inl e) hz.sub
    refine R.env (e := S.env) ⟨Z, μ, hz2⟩ (fun Z μ hE u q hu => ?_)
    rcases may_first D 0 u q hu with ⟨p, i, h1, rfl⟩ | h1
    · have hi := (List.getElem?_eq_some_iff.1 h1).1
      have hlen : D.length = l.length := len hs
      have hil : l[i]? = some (l[i]'(by omega)) := List.getElem?_eq_getElem _
      obtain ⟨p', e, _⟩ := hs.at_ hil
      rw [h1] at e
      simp only [Option.some.injEq, Prod.mk.injEq] at e
      have := List.all_eq_true.1 hd _ (List.mem_of_getElem? hil)
      rw [← e.1] at this
      have hlt : u < cx.n := dst_lt this
      have : u < a.tmps.size := by rw [hE.sz]; exact hlt
      refine ⟨a.tmps[u], Array.getElem?_eq_getElem this, .may _ _ _ _ _ (fun e => by cases e) (fun _ => ?_)⟩
      unfold old
      cases hl0 : lk S.env u with
      | none => exact .junk _ _
      | some q0 =>
        obtain ⟨v, hv, hr⟩ := hE.at_ u q0 hl0
        rw [Array.getElem?_eq_getElem this] at hv
        cases hv
        exact hr
    · exact hE.at_ u q h1
  refine wp_region_any hm ?_
  have hrep : (fun j => (Array.replicate l.toArray.size false).getD j true) = fun j => Nat.ble l.length j := funext fun j => by
    rw [Array.getD_eq_getD_getElem?, Array.getElem?_replicate]
    by_cases h1 : j < l.length
    · rw [if_pos (by simpa using h1)]
      cases hb : Nat.ble l.length j with
      | false => rfl
      | true => have := Nat.le_of_ble_eq_true hb; omega
    · rw [if_neg (by simpa using h1)]
      cases hb : Nat.ble l.length j with
      | false =>
        have h2 : Nat.ble l.length j = true := Nat.ble_eq_true_of_le (Nat.le_of_not_lt h1)
        rw [h2] at hb; cases hb
      | true => rfl
  refine key l.toArray.size _ (by simp) (by simp) (fun d o ho hdl j hj => ?_) a _ (by rw [hrep]; exact hR0)
  have h1 := congrFun hrep d
  have h1 : (Array.replicate l.toArray.size false).getD d true = Nat.ble l.length d := h1
  rw [hdl] at h1
  have := Nat.le_of_ble_eq_true h1.symm
  have := (List.getElem?_eq_some_iff.1 ho).1
  omega
where
  len {cx : Cx} {ops : Array Oper} {Q : Post} {B : List Nat} {st : (Nat → Bool) → PS} : ∀ {l : List Oper} {k : Nat} {D : List (Option Nat × PV)}, Steps cx ops Q B st k l D → D.length = l.length
    | [], _, _, .nil _ => rfl
    | _ :: _, _, _, .cons _ _ r => by simp [len r]
  dst_lt {n u : Nat} (h : dstOk n (some u) = true) : u < n := by simpa [dstOk] using h
  low {e0 : List (Nat × PV)} {n : Nat} : ∀ (D : List (Option Nat × PV)) (k : Nat), k + D.length ≤ n → mayL e0 (fun j => Nat.ble n j) k D = mayL e0 (fun _ => false) k D
    | [], _, _ => rfl
    | (none, _) :: r, k, h => low r (k + 1) (by simp only [List.length_cons] at h; omega)
    | (some t, p) :: r, k, h => by
      simp only [List.length_cons] at h
      simp only [mayL]
      rw [low r (k + 1) (by omega)]
      cases hb : Nat.ble n k with
      | false => rfl
      | true => have := Nat.le_of_ble_eq_true hb; omega
end Go.Pw
