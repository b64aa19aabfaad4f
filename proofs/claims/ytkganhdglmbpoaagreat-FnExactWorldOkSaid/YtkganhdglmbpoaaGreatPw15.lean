/- The engine, fifteenth text: calls that are handed a box; slices over boxes. -/
import Derived.Test.YtkganhdglmbpoaaGreatPw14
import Derived.Laws.MakeOwn
import Derived.Laws.CopyRow
set_option linter.unusedVariables false
set_option linter.unusedSimpArgs false
namespace Go.Pw
open Go Go.RowKit

/-- Function f, called with values that stand for args by one who owns h0 and no more, returns a value and leaves what is owned then. w: the world when the caller began. -/
structure SpecB (P : Program) (f : FuncId) (args : List PV) (h0 : PH) (F : PV → PH → Prop) : Prop where
  ent : Ent P f
  run : ∀ (w W : World) (Z : Cells) (μ : Mu) (vs : List Value), Sub Z W → RepL Z μ args vs → RepH w.heap.size Z μ h0 W → Below w.heap.size w W →
    Calls P f vs.toArray W fun e W' => ∃ v, e = .returned v ∧ ∃ p h' Z' μ', F p h' ∧ Rep Z' μ' p v ∧ Grow Z Z' w.heap.size ∧ Sub Z' W' ∧ Below w.heap.size w W' ∧ RepH w.heap.size Z' μ' h' W'
def RetQB (P : Program) [TC P] (rs : List ResultVar) (F : PV → PH → Prop) : Post
  | .normal, S => ∃ q, resOf (P := P) S rs = some q ∧ F q S.h
  | .ret, S => ∃ q, resOf (P := P) S rs = some q ∧ F q S.h
  | _, _ => False
theorem specB_of {P : Program} [TC P] {f : FuncId} {fn : Func} {c : Code} {args : List PV} {h0 : PH} {F : PV → PH → Prop} {n : Nat} {rs : List ResultVar} (he : Ent P f) (hf : P.funcs[f]? = some fn) (hb : fn.body = some c) (hn : fn.ntmps = n) (hl : args.length ≤ n) (hrs : fn.results.toList = rs)
    (h : ∀ W Z, PW ⟨P, W, Z, n⟩ c (RetQB P rs F) ⟨numd 0 args, h0⟩) : SpecB P f args h0 F := ⟨he, fun w W Z μ vs hs hr hh hbl => by
  have key : R ⟨P, w, Z, n⟩ ⟨numd 0 args, h0⟩ { tmps := vs.toArray ++ Array.replicate (fn.ntmps - vs.toArray.size) undef, defers := [] } W := by
    refine ⟨Z, μ, ⟨rfl, ?_, fun t p ht => ?_⟩, hh, hs, Grow.refl _ _, hbl⟩
    · simp only [Array.size_append, List.size_toArray, Array.size_replicate]
      have := hr.1; omega
    · obtain ⟨i, rfl, hi⟩ := lk_numd args 0 t p ht
      have hi2 := (List.getElem?_eq_some_iff.1 hi).1
      have hi3 : i < vs.length := by rw [hr.1]; exact hi2
      refine ⟨vs[i], ?_, hr.2 i p _ hi (List.getElem?_eq_getElem hi3)⟩
      rw [Nat.zero_add, Array.getElem?_append_left (by simpa using hi3)]
      simp
  refine calls_of_wp hf hb (wp_mono (h w Z _ _ key) fun e a W' hq => ?_)
  obtain ⟨S, ⟨Z', μ', hz⟩, hQ⟩ := hq
  have fin : (∃ q, resOf (P := P) S rs = some q ∧ F q S.h) → a.defers = [] ∧ ∃ v, (results fn a.tmps).run P W' = .ok v W' ∧ ∃ v', Ending.returned v = .returned v' ∧ ∃ p h' Z' μ', F p h' ∧ Rep Z' μ' p v' ∧ Grow Z Z' w.heap.size ∧ Sub Z' W' ∧ Below w.heap.size w W' ∧ RepH w.heap.size Z' μ' h' W' := fun ⟨q, h1, h2⟩ => by
    obtain ⟨v, hv, hrv⟩ := results_run hz hrs h1
    exact ⟨hz.env.df, v, hv, v, rfl, q, S.h, Z', μ', h2, hrv, hz.le, hz.sub, hz.below, hz.h⟩
  cases e with
  | normal => exact fin hQ
  | ret => exact fin hQ
  | exit i => exact hQ.elim
  | goto l => exact hQ.elim
  | panic c => exact hQ.elim
  | outgrown => exact hQ.elim⟩
theorem KF.at_ {S : PS} : ∀ {e : List (Nat × PV)}, KF S e → ∀ {t : Nat} {q : PV}, lk e t = some q → may1 (lk S.env t) = some q ∧ free q = true
  | [], _, _, _, h => by cases h
  | (u, p) :: r, h, t, q, hl => by
    rw [lk_cons] at hl
    split at hl
    · rename_i e; subst e; cases hl; exact h.1
    · exact KF.at_ h.2 hl
/-- Values that stand whatever stays. -/
def plain : PV → Bool
  | .lit _ => true
  | .tup l => l.all isLit
  | .agg l => l.all isLit
  | _ => false
where isLit : PV → Bool
  | .lit _ => true
  | _ => false
theorem plain_any {Z Z' : Cells} {μ μ' : Mu} {p : PV} {v : Value} (hp : plain p = true) (h : Rep Z μ p v) : Rep Z' μ' p v := by
  have hl : ∀ {q : PV} {u : Value}, plain.isLit q = true → Rep Z μ q u → Rep Z' μ' q u := fun {q u} hq hr => by
    cases q <;> simp [plain.isLit] at hq
    cases hr; exact .lit _ _
  cases h with
  | lit => exact .lit _ _
  | agg _ l cs hlen h1 h =>
    simp only [plain, List.all_eq_true] at hp
    exact .agg _ l cs hlen h1 (fun i q u a b => hl (hp q (List.mem_of_getElem? a)) (h i q u a b))
  | tup _ l cs hlen h =>
    simp only [plain, List.all_eq_true] at hp
    exact .tup _ l cs hlen (fun i q u a b => hl (hp q (List.mem_of_getElem? a)) (h i q u a b))
  | _ => simp [plain] at hp
section
variable {cx : Cx} {S : PS} {o : Oper} {ops : Array Oper} {rest : List Oper} {Q : Post}
theorem call_args {fo : Operand} {f : Nat} {caps ps : List PV} {xs : Array Operand} {ts : Array TypeId} {a : Act} {W : World} {Z : Cells} {μ : Mu} (ho : o.op = .call { callee := .value fo, args := xs, argTypes := ts }) (hfo : S.ev fo = some (.fn f caps)) (hps : evs S xs.toList = some ps) (hent : Ent cx.P f) (hz : RZ cx S a W Z μ) :
    ∃ vs : List Value, RepL Z μ (ps ++ caps) vs ∧ (execOp a.eval o).run cx.P W = .ok (.enter f vs.toArray) W := by
  have hf := hz.ev hfo
  generalize hv : a.eval fo = v at hf
  cases hf with
  | fn _ _ _ cs hl hc =>
    have hargs := evs_rep hz hps
    refine ⟨xs.toList.map a.eval ++ cs, ⟨by rw [List.length_append, List.length_append, hargs.1, hl], fun i p v hp hv => ?_⟩, ?_⟩
    · have hlen : (xs.toList.map a.eval).length = ps.length := hargs.1
      by_cases hi : i < ps.length
      · rw [List.getElem?_append_left hi] at hp
        rw [List.getElem?_append_left (by omega)] at hv
        exact hargs.2 i p v hp hv
      · rw [List.getElem?_append_right (by omega)] at hp
        rw [List.getElem?_append_right (by omega), hlen] at hv
        exact hc _ p v hp hv
    · simp only [execOp, ho]
      simp [resolve, hv, Deferred.ofValue, invoke]
      have := hent (xs.map a.eval ++ cs.toArray) W
      rw [this]
      congr 2
      apply Array.ext'
      simp
/-- A call that is handed all that the caller owns; of what the caller knows only e' is kept. -/
theorem PL.callB (e' : List (Nat × PV)) {fo : Operand} {f : Nat} {caps ps qs : List PV} {xs : Array Operand} {ts : Array TypeId} {h0 : PH} {F : PV → PH → Prop} (ho : o.op = .call { callee := .value fo, args := xs, argTypes := ts }) (hfo : S.ev fo = some (.fn f caps)) (hps : evs S xs.toList = some ps) (h : SpecB cx.P f qs h0 F) (hS : S.h = h0) (hw2 : WkL (ps ++ caps) qs)
    (hw : Wants cx ops o S true) (hn : dstOk cx.n o.dst = true)
    (k : ∀ p h', F p h' → PL cx ops Q rest (PS.put ⟨e', h'⟩ o.dst p)) (hk : KF S e' := by repeat (first | exact trivial | refine ⟨⟨rfl, rfl⟩, ?_⟩)) : PL cx ops Q (o :: rest) S :=
  PL.cons hw (K := fun S' => ∃ p h', F p h' ∧ S' = PS.put ⟨e', h'⟩ o.dst p) (fun a W hR K' Q' hK => by
    obtain ⟨Z, μ, hz⟩ := hR
    obtain ⟨vs, hall, hrun⟩ := call_args ho hfo hps h.ent hz
    have hcall := h.run cx.w W Z μ _ hz.sub (hw2.rep hall) (hS ▸ hz.h) hz.below
    show o.upon cx.P a K' Q' _
    rw [hrun, Oper.upon_enter]
    refine hcall.mono fun e W' ⟨v, e1, p, h', Z', μ', hF, hr, hg, hs, hb, hh⟩ => ?_
    subst e1
    have hz' : RZ cx ⟨e', h'⟩ a W' Z' μ' := ⟨⟨hz.env.df, hz.env.sz, fun t q ht => by
      obtain ⟨h1, h2⟩ := hk.at_ ht
      obtain ⟨u, hu, hru⟩ := hz.env.may1 h1
      exact ⟨u, hu, ((hru.drop h2).mono hg.1 (Mu.le_refl _)).any⟩⟩, hh, hs, hz.le.trans hg (Nat.le_refl _), hb⟩
    exact hK _ _ _ ⟨p, h', hF, rfl⟩ ⟨Z', μ', hz'.put hn hr⟩) fun S' ⟨p, h', hF, e⟩ => by subst e; exact k p h' hF
/-- A call that reads a box of the caller's. -/
theorem PL.callLend (id t : Nat) (cs : List PV) {fo : Operand} {f : Nat} {caps ps qs : List PV} {xs : Array Operand} {ts : Array TypeId} {F : PV → Prop} (ho : o.op = .call { callee := .value fo, args := xs, argTypes := ts }) (hfo : S.ev fo = some (.fn f caps)) (hps : evs S xs.toList = some ps) (h : Spec cx.P f qs F)
    (hid : lk S.h.bx id = some (t, cs)) (hcs : freeL cs = true) (hw2 : K1L [] (some (id, (t, cs))) S (ps ++ caps) qs [])
    (hfr : ∀ p, F p → plain p = true) (hw : Wants cx ops o S true) (hn : dstOk cx.n o.dst = true)
    (k : ∀ p, F p → PL cx ops Q rest (PS.put S o.dst p)) : PL cx ops Q (o :: rest) S :=
  PL.cons hw (K := fun S' => ∃ p, F p ∧ S' = PS.put S o.dst p) (fun a W hR K' Q' hK => by
    obtain ⟨Z, μ, hz⟩ := hR
    obtain ⟨vs, hall, hrun⟩ := call_args ho hfo hps h.ent hz
    obtain ⟨g, hg, us, v1, v2, v3, v4, v5, v6⟩ := hz.h.bx id t cs hid
    have hcell : ∀ (j : Nat) (u : Value), us[j]? = some u → W.cell? ⟨g, j, Option.none⟩ = some u := fun j u hu => by simp [World.cell?, v1, hu]
    have hF : FzOk (Z.add g us) μ (some (id, (t, cs))) := fun id' t' cs' he' => by
      cases he'
      refine ⟨g, us, hg, fun j u hu => ?_, v2, v3, fun j p u hp hu => ((v4 j p u hp hu).drop (freeL_mem hcs p (List.mem_of_getElem? hp))).mono (Cells.le_add _ _ _) (Mu.le_refl _)⟩
      unfold Cells.add
      rw [v6 j]
      simp [hu]
    obtain ⟨l1, l2⟩ := hw2.rep (μ := μ) (A := []) (Cells.le_add Z g us) hF (fun x hx => by cases hx)
    have hqs : RepL (Z.add g us) (muK μ [] []) qs vs := ⟨by rw [hall.1, l1], fun i q v hq hv => by
      have hi := (List.getElem?_eq_some_iff.1 hq).1
      exact l2 i _ q v (List.getElem?_eq_getElem (by omega)) hq (hall.2 i _ v (List.getElem?_eq_getElem (by omega)) hv)⟩
    have hcall := h.run W _ _ _ (hz.sub.add hcell) hqs
    show o.upon cx.P a K' Q' _
    rw [hrun, Oper.upon_enter]
    refine hcall.mono fun e W' ⟨v, e1, ⟨p, Z', μ', hFp, hr, hg', hs, hb, hh⟩⟩ => ?_
    subst e1
    have hz' := hz.grow hb (Cells.le_refl Z) (fun ad v e => .inl e) (hz.sub.grow hb)
    exact hK _ _ _ ⟨p, hFp, rfl⟩ ⟨Z, μ, hz'.put hn (plain_any (hfr p hFp) hr)⟩) fun S' ⟨p, hFp, e⟩ => by subst e; exact k p hFp
end
section
variable {cx : Cx} [TC cx.P] {S : PS} {o : Oper} {ops : Array Oper} {rest : List Oper} {Q : Post}
theorem OpV.idxB {x y : Operand} {id off m cap : Nat} {t e : Nat} {k : IntKind} {n : Int} {i j : TI} (ho : o.op = .indexAddr t x y) (hx : S.ev x = some (.bs id off m cap)) (hy : S.ev y = some (.lit (.int k n))) (h0 : 0 ≤ n) (hl : n.toNat < m) (ht : lk (TC.T cx.P) t = some i) (hd : i.d = .slice e) (he : lk (TC.T cx.P) e = some j) : OpV cx o S (.bx id (off + n.toNat * j.sz)) := fun a W Z μ hz => by
  have hr := hz.ev hx
  have ey := (hz.ev hy).lit_inv
  generalize hv : a.eval x = v at hr
  cases hr with
  | bs _ _ _ _ _ g hg =>
    have hu := (TC.at_ ht).und
    rw [hd] at hu
    have hu : cx.P.underlying t = some (.slice e) := hu
    have hs := (TC.at_ he).size
    refine ⟨.pointer (some ⟨g, off + n.toNat * j.sz, none⟩), ?_, .bx _ _ _ _ hg⟩
    simp only [execOp, ho]
    have hin : 0 ≤ n ∧ n < (m : Int) := ⟨h0, by omega⟩
    simp [hv, ey, Instr.indexAt, run_underlying hu, asIntOf, hin, hs, Addr.add_lit]
theorem OpV.lenB {x : Operand} {id off m cap : Nat} {t e : Nat} (ho : o.op = .call { callee := .builtin .len, args := #[x], argTypes := #[t] }) (hx : S.ev x = some (.bs id off m cap)) {i : TI} (ht : lk (TC.T cx.P) t = some i) (hd : i.d = .slice e) : OpV cx o S (.lit (.int .i64 m)) := fun a W Z μ hz => by
  have hr := hz.ev hx
  generalize hv : a.eval x = v at hr
  cases hr with
  | bs _ _ _ _ _ g hg =>
    refine ⟨_, ?_, .lit _ _⟩
    have hu := (TC.at_ ht).und
    rw [hd] at hu
    have hu : cx.P.underlying t = some (.slice e) := hu
    simp only [execOp, ho]
    simp [resolve, invoke, builtin, hv, Builtin.len_, run_underlying hu, goInt]
/-- A cut of a slice over a box. mx: the third bound. -/
theorem OpV.cutB {x : Operand} {lo hi mx : Option Operand} {t e l h c' id off m cap : Nat} {i j : TI} (ho : o.op = .slice t x lo hi mx) (hx : S.ev x = some (.bs id off m cap)) (ht : lk (TC.T cx.P) t = some i) (hd : i.d = .slice e) (he : lk (TC.T cx.P) e = some j)
    (h1 : bdV S 0 lo = some (l : Int)) (h2 : bdV S m hi = some (h : Int)) (h3 : bdV S cap mx = some (c' : Int)) (hmx : (mx.isSome && hi.isNone) = false) (hlh : l ≤ h) (hh : h ≤ c') (hc : c' ≤ cap) : OpV cx o S (.bs id (if c' = l then off else off + l * j.sz) (h - l) (c' - l)) := fun a W Z μ hz => by
  have hr := hz.ev hx
  generalize hv : a.eval x = v at hr
  cases hr with
  | bs _ _ _ _ _ g hg =>
    have hun := (TC.at_ ht).und
    rw [hd] at hun
    have hun : cx.P.underlying t = some (.slice e) := hun
    have hs := (TC.at_ he).size
    refine ⟨.slice (some ⟨g, if c' = l then off else off + l * j.sz, none⟩) (h - l) (c' - l), ?_, .bs _ _ _ _ _ _ hg⟩
    have hbase : (if c' = l then (some (⟨g, off, none⟩ : Addr)) else (some (⟨g, off, none⟩ : Addr)).map (·.add (l * j.sz))) = some ⟨g, if c' = l then off else off + l * j.sz, none⟩ := by
      by_cases e : c' = l
      · rw [if_pos e, if_pos e]
      · rw [if_neg e, if_neg e]; simp [Addr.add_lit]
    have hb : (Instr.sliceBounds true m cap (lo.map a.eval) (hi.map a.eval) (mx.map a.eval)).run cx.P W = .ok (l, h, c') W := by
      rcases bd_run hz h1 with ⟨rfl, e1⟩ | ⟨y1, k1, rfl, e1⟩ <;> rcases bd_run hz h2 with ⟨rfl, e2⟩ | ⟨y2, k2, rfl, e2⟩ <;> rcases bd_run hz h3 with ⟨rfl, e3⟩ | ⟨y3, k3, rfl, e3⟩
      · have : l = 0 := by omega
        have : h = m := by omega
        have : c' = cap := by omega
        subst_vars
        simp [Instr.sliceBounds]
      · simp at hmx
      · have : l = 0 := by omega
        have : c' = cap := by omega
        subst_vars
        simp [Instr.sliceBounds, Instr.sliceBound, asIntOf, e2, hh]
      · have : l = 0 := by omega
        subst_vars
        simp [Instr.sliceBounds, Instr.sliceBound, asIntOf, e2, e3, hh, hc]
      · have : h = m := by omega
        have : c' = cap := by omega
        subst_vars
        simp [Instr.sliceBounds, Instr.sliceBound, asIntOf, e1, hlh]
      · simp at hmx
      · have : c' = cap := by omega
        subst_vars
        simp [Instr.sliceBounds, Instr.sliceBound, asIntOf, e1, e2, hh, hlh]
      · simp [Instr.sliceBounds, Instr.sliceBound, asIntOf, e1, e2, e3, hh, hlh, hc]
    simp only [execOp, ho, hv]
    simp only [Instr.sliceAt, Instr.slice, Sem.run_bind, run_underlying hun, Result.andThen_ok, hb, hs, Sem.run_pure]
    rw [hbase]
end
end Go.Pw
