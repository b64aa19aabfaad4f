/- The engine, sixteenth text: make, clear, copy, append at boxes. -/
import Derived.Test.YtkganhdglmbpoaaGreatPw15
set_option linter.unusedVariables false
set_option linter.unusedSimpArgs false
namespace Go.Pw
open Go Go.RowKit

theorem flat_inv {α : Type} {sz : Nat} : ∀ {es : List (List α)} {k : Nat} {p : α}, (∀ e ∈ es, e.length = sz) → es.flatten[k]? = some p → ∃ i e j, es[i]? = some e ∧ e[j]? = some p ∧ k = i * sz + j
  | [], k, p, _, h => by simp at h
  | x :: l, k, p, hz, h => by
    have hx := hz x List.mem_cons_self
    rw [List.flatten_cons] at h
    by_cases hk : k < x.length
    · rw [List.getElem?_append_left hk] at h
      exact ⟨0, x, k, rfl, h, by omega⟩
    · rw [List.getElem?_append_right (by omega)] at h
      obtain ⟨i, e, j, h1, h2, h3⟩ := flat_inv (fun e he => hz e (List.mem_cons_of_mem _ he)) h
      refine ⟨i + 1, e, j, h1, h2, ?_⟩
      rw [Nat.add_mul]; omega
theorem flat_len {α : Type} {sz : Nat} : ∀ {es : List (List α)}, (∀ e ∈ es, e.length = sz) → es.flatten.length = es.length * sz
  | [], _ => by simp
  | x :: l, hz => by
    have hx := hz x List.mem_cons_self
    have := flat_len (es := l) (fun e he => hz e (List.mem_cons_of_mem _ he))
    rw [List.flatten_cons, List.length_append, this, List.length_cons, Nat.add_mul]; omega
theorem CellsOf.flat {Z : Cells} {sz : Nat} {es : List (List PV)} {cs : List Value} (h : CellsOf Z sz es cs) : cs.length = es.flatten.length ∧ ∀ (k : Nat) (q : PV) (u : Value), es.flatten[k]? = some q → cs[k]? = some u → Rep Z Mu.emp q u := by
  refine ⟨by rw [h.len, flat_len h.all], fun k q u hq hu => ?_⟩
  obtain ⟨i, e, j, h1, h2, h3⟩ := flat_inv h.all hq
  obtain ⟨u', hu', hr⟩ := h.at_ i e j q h1 h2
  rw [← h3, hu] at hu'
  cases hu'
  exact hr
/-- n zero elements. -/
def zrow (j : TI) (n : Nat) : List PV := (List.replicate n (j.zero.cells.toList.map PV.lit)).flatten
theorem made_flat (z : Array Value) : ∀ n, (Array.map (fun x => z[x % z.size]!) (Array.range (n * z.size))).toList = (List.replicate n z.toList).flatten := by
  intro n
  induction n with
  | zero => simp
  | succ n ih =>
    rw [List.replicate_succ', List.flatten_append, ← ih, Nat.add_mul, Nat.one_mul]
    simp only [Array.toList_map, Array.toList_range, List.range_add, List.map_append, List.map_map, List.flatten_cons, List.flatten_nil, List.append_nil]
    congr 1
    apply List.ext_getElem
    · simp
    · intro i h1 h2
      have hi : i < z.size := by simpa using h2
      have : (n * z.size + i) % z.size = i := by rw [Nat.mul_comm, Nat.mul_add_mod, Nat.mod_eq_of_lt hi]
      simp [this, hi]
theorem zeroCells_flat (z : Array Value) (n : Nat) : (Builtin.zeroCells z n).toList = (List.replicate n z.toList).flatten := made_flat z n
theorem zrow_rep (j : TI) (n : Nat) {Z : Cells} {μ : Mu} : (zrow j n).length = (List.replicate n j.zero.cells.toList).flatten.length ∧ ∀ (k : Nat) (q : PV) (u : Value), (zrow j n)[k]? = some q → (List.replicate n j.zero.cells.toList).flatten[k]? = some u → Rep Z μ q u := by
  have e : zrow j n = (List.replicate n j.zero.cells.toList).flatten.map PV.lit := by
    simp [zrow, List.map_flatten]
  rw [e]
  refine ⟨by simp, fun k q u hq hu => ?_⟩
  rw [List.getElem?_map, hu] at hq
  cases hq
  exact .lit _ _
theorem zrow_len (j : TI) (n : Nat) : (zrow j n).length = n * j.zero.cells.size := by
  unfold zrow
  rw [flat_len (sz := j.zero.cells.size) (fun e he => by rw [List.eq_of_mem_replicate he]; simp)]
  simp
theorem freeL_append : ∀ {l r : List PV}, freeL (l ++ r) = (freeL l && freeL r)
  | [], r => by simp [freeL]
  | p :: l, r => by simp [freeL, freeL_append, Bool.and_assoc]
theorem freeL_map_lit (l : List Value) : freeL (l.map PV.lit) = true := by
  induction l with
  | nil => rfl
  | cons v l ih => simp [freeL, free, ih]
theorem zrow_free (j : TI) (n : Nat) : freeL (zrow j n) = true := by
  have e : zrow j n = (List.replicate n j.zero.cells.toList).flatten.map PV.lit := by
    simp [zrow, List.map_flatten]
  rw [e]; exact freeL_map_lit _
theorem freeL_iff {l : List PV} : freeL l = true ↔ ∀ p ∈ l, free p = true := by
  induction l with
  | nil => simp [freeL]
  | cons p l ih => simp [freeL, ih]
theorem zcell_one {j : TI} (h1 : j.zero.cells.toList.all Value.oneCell' = true) (n : Nat) : ∀ u ∈ (List.replicate n j.zero.cells.toList).flatten, u.oneCell' = true := fun u hu => by
  obtain ⟨l, hl, hul⟩ := List.mem_flatten.1 hu
  rw [List.eq_of_mem_replicate hl] at hul
  exact List.all_eq_true.1 h1 u hul

section
variable {cx : Cx} {S : PS} {a : Act} {W : World} {Z : Cells} {μ : Mu}
/-- Cells of a box are written. -/
theorem RZ.write (hz : RZ cx S a W Z μ) {id bt g off : Nat} {cs l : List PV} {news : List Value} (hb : lk S.h.bx id = some (bt, cs)) (hg : μ.bx id = some g) (h1 : news.length = l.length) (h2 : ∀ u ∈ news, u.oneCell' = true) (h3 : ∀ (i : Nat) (q : PV) (u : Value), l[i]? = some q → news[i]? = some u → Rep Z μ q u) (hle : off + l.length ≤ cs.length) :
    ∃ W', (storeCells ⟨g, off, none⟩ news).run cx.P W = .ok () W' ∧ RZ cx ⟨S.env, ⟨(id, (bt, writeC cs off l)) :: S.h.bx, S.h.tk⟩⟩ a W' Z μ ∧ W'.heap.size = W.heap.size := by
  obtain ⟨g', hg', vs, hh, hlen, hv1, hrep, hbase, hZ⟩ := hz.h.bx id bt cs hb
  rw [hg] at hg'; cases hg'
  have hst := run_storeCells_at cx.P g off bt news 0 vs.toArray W hh (by simp only [Nat.add_zero, List.size_toArray]; omega) h2
  simp only [Nat.add_zero, List.append_assoc] at hst
  refine ⟨_, hst, ⟨hz.env, ?_, fun ad v e => ?_, hz.le, hz.below.trans ⟨rfl, rfl, rfl, by simp, fun k hk => setRow_other W g k _ (by omega)⟩⟩, by simp⟩
  · refine hz.h.setBx hb hg ⟨_, setRow_heap W g _ _ bt _ hh, ?_, fun u hu => ?_, fun j q u hq hu => ?_, hbase, hZ⟩ (fun k hk => setRow_other W g k _ hk)
    · simp only [writeC, List.length_append, List.length_take, List.length_drop]; omega
    · rcases List.mem_append.1 hu with hu | hu
      · exact hv1 u (List.mem_of_mem_take hu)
      · rcases List.mem_append.1 hu with hu | hu
        · exact h2 u hu
        · exact hv1 u (List.mem_of_mem_drop hu)
    · rw [writeC, getElem?_splice cs l off hle] at hq
      rw [getElem?_splice vs news off (by omega), h1] at hu
      by_cases hin : off ≤ j ∧ j < off + l.length
      · rw [if_pos hin] at hq hu; exact h3 _ q u hq hu
      · rw [if_neg hin] at hq hu; exact hrep j q u hq hu
  · refine (World.cell?_of_block (setRow_other W g ad.block _ (fun e2 => ?_))).trans (hz.sub ad v e)
    have hsp := hz.sub.spot e
    have : ad = ⟨g, ad.off, none⟩ := by cases ad; simp at e2 hsp ⊢; exact ⟨e2, hsp⟩
    rw [this, hZ] at e
    cases e
theorem RZ.drew (hz : RZ cx S a W Z μ) : RZ cx S a W.drew Z μ :=
  hz.grow (Below.drew (Below.refl _ _)) (Cells.le_refl _) (fun ad v e => .inl e) (hz.sub.grow (Below.drew (Below.refl _ _)))
/-- A new block is a box. -/
theorem RZ.newB (h : RZ cx S a W Z μ) {d t : Nat} {cs : List PV} {vs : Array Value} (hd : lk S.h.bx d = none) (hl : vs.toList.length = cs.length) (h1 : ∀ u ∈ vs.toList, u.oneCell' = true)
    (hr : ∀ (i : Nat) (q : PV) (u : Value), cs[i]? = some q → vs.toList[i]? = some u → Rep Z μ q u) :
    ∃ μ', μ'.bx d = some W.heap.size ∧ RZ cx ⟨S.env, ⟨(d, (t, cs)) :: S.h.bx, S.h.tk⟩⟩ a (W.alloc (.cells vs t)) Z μ' := by
  have h' := h.alloc (.cells vs t)
  have hle := Mu.setBx_le (g := W.heap.size) (h.h.bxFree hd)
  refine ⟨μ.setBx d W.heap.size, by simp [Mu.setBx], ⟨h'.env.mono (Cells.le_refl _) hle, ?_, h'.sub, h'.le, h'.below⟩⟩
  refine h'.h.addBx hd ⟨vs.toList, by rw [Array.toArray_toList]; exact heap_alloc_new W _, hl, h1, fun i q u a b => (hr i q u a b).mono (Cells.le_refl _) hle, h.below.size, fun off => ?_⟩ (fun i x e he => ?_) (fun u sz n v e he hv => ?_)
  · cases e : Z ⟨W.heap.size, off, none⟩ with
    | none => rfl
    | some v => exact absurd (h.sub.lt e) (by simp)
  · obtain ⟨g, hg, hb⟩ := h.h.bx i x.1 x.2 e
    rw [he] at hg; cases hg
    exact absurd hb.lt (Nat.lt_irrefl _)
  · obtain ⟨v', hv', hb⟩ := h.h.tk u sz n e
    rw [he] at hv'; cases hv'
    exact absurd (hb.lt hv).1 (Nat.lt_irrefl _)
end
section
variable {cx : Cx} [TC cx.P] {S : PS} {o : Oper} {ops : Array Oper} {rest : List Oper} {Q : Post}
theorem PL.make {x y : Operand} {t d e n : Nat} {k k' : IntKind} {i j : TI} (ho : o.op = .makeSlice t x y) (hdst : o.dst = some d) (hx : S.ev x = some (.lit (.int k (n : Int)))) (hy : S.ev y = some (.lit (.int k' (n : Int)))) (ht : lk (TC.T cx.P) t = some i) (hd : i.d = .slice e) (he : lk (TC.T cx.P) e = some j)
    (h1 : j.zero.cells.toList.all Value.oneCell' = true) (hzs : j.zero.cells.size = j.sz) (hb : j.bytes * n ≤ 281474976710656) (h63 : n ≤ 9223372036854775807) (hf : lk S.h.bx d = none) (hw : Wants cx ops o S true) (hn : dstOk cx.n (some d) = true)
    (kk : PL cx ops Q rest ⟨(d, .bs d 0 n n) :: S.env, ⟨(d, (e, zrow j n)) :: S.h.bx, S.h.tk⟩⟩) : PL cx ops Q (o :: rest) S :=
  PL.cons hw (K := fun S' => S' = ⟨(d, .bs d 0 n n) :: S.env, ⟨(d, (e, zrow j n)) :: S.h.bx, S.h.tk⟩⟩) (fun a W hR K' Q' hK => by
    obtain ⟨Z, μ, hz⟩ := hR
    have ex := (hz.ev hx).lit_inv
    have ey := (hz.ev hy).lit_inv
    have hu := (TC.at_ ht).und
    rw [hd] at hu
    have hu : cx.P.underlying t = some (.slice e) := hu
    obtain ⟨ti, hi, hi1, hi2, hi3⟩ := (TC.at_ he).info
    have hrun := run_make (P := cx.P) W t e ti j.zero hu hi hi3 k k' n n (by omega) (Int.le_refl _) (by rw [hi2]; have : ((j.bytes * n : Nat) : Int) ≤ 281474976710656 := by omega
                                                                                                        rwa [Int.natCast_mul] at this) (by omega)
    have hrr : (execOp a.eval o).run cx.P W = .ok (.value (.slice (some ⟨W.heap.size, 0, none⟩) n n)) (W.alloc (.cells (madeCells j.zero.cells (n * j.sz)) e)) := by
      simp only [execOp, ho, ex, ey]
      rw [hi1] at hrun
      simp only [Int.toNat_natCast] at hrun
      rw [Sem.run_bind, hrun]
      rfl
    have hml : (madeCells j.zero.cells (n * j.sz)).toList = (List.replicate n j.zero.cells.toList).flatten := by rw [← hzs]; exact made_flat j.zero.cells n
    obtain ⟨μ', hm, hz'⟩ := hz.newB (t := e) (cs := zrow j n) (vs := madeCells j.zero.cells (n * j.sz)) hf (by rw [hml]; exact (zrow_rep j n (Z := Z) (μ := μ)).1.symm) (by rw [hml]; exact zcell_one h1 n) (by rw [hml]; exact (zrow_rep j n).2)
    show o.upon cx.P a K' Q' _
    rw [hrr, Oper.upon_value, hdst]
    exact hK _ _ _ rfl ⟨Z, μ', hz'.put (d := some d) hn (.bs _ _ _ _ _ _ hm)⟩) fun S' e => by subst e; exact kk
/-- clear, at a slice over a box. -/
theorem PL.clearB {x : Operand} {t e id off n cap bt : Nat} {cs : List PV} {i j : TI} (ho : o.op = .call { callee := .builtin .clear, args := #[x], argTypes := #[t] }) (hx : S.ev x = some (.bs id off n cap)) (hb : lk S.h.bx id = some (bt, cs)) (ht : lk (TC.T cx.P) t = some i) (hd : i.d = .slice e) (he : lk (TC.T cx.P) e = some j)
    (h1 : j.zero.cells.toList.all Value.oneCell' = true) (hzs : j.zero.cells.size = j.sz) (hle : off + n * j.sz ≤ cs.length ∨ n = 0) (hw : Wants cx ops o S true) (hn : dstOk cx.n o.dst = true)
    (kk : PL cx ops Q rest (PS.put ⟨S.env, ⟨(id, (bt, if n = 0 then cs else writeC cs off (zrow j n))) :: S.h.bx, S.h.tk⟩⟩ o.dst (.tup []))) : PL cx ops Q (o :: rest) S :=
  PL.cons hw (K := fun S' => S' = PS.put ⟨S.env, ⟨(id, (bt, if n = 0 then cs else writeC cs off (zrow j n))) :: S.h.bx, S.h.tk⟩⟩ o.dst (.tup [])) (fun a W hR K' Q' hK => by
    obtain ⟨Z, μ, hz⟩ := hR
    have hr := hz.ev hx
    generalize hv : a.eval x = v at hr
    cases hr with
    | bs _ _ _ _ _ g hg =>
      have hu := (TC.at_ ht).und
      rw [hd] at hu
      have hu : cx.P.underlying t = some (.slice e) := hu
      have htup : Rep Z μ (.tup []) (.tuple #[]) := .tup _ [] [] rfl (fun i p v h => by simp at h)
      show o.upon cx.P a K' Q' _
      by_cases h0 : n = 0
      · subst h0
        have hrr : (execOp a.eval o).run cx.P W = .ok (.value (.tuple #[])) W := by
          simp only [execOp, ho]
          simp [resolve, invoke, builtin, hv, Builtin.clear_, run_underlying hu]
        rw [hrr, Oper.upon_value]
        have hsame : RepH cx.w.heap.size Z μ ⟨(id, (bt, cs)) :: S.h.bx, S.h.tk⟩ W := by
          obtain ⟨g', hg', hbo⟩ := hz.h.bx id bt cs hb
          exact hz.h.setBx hb hg' hbo (fun k hk => rfl)
        exact hK _ _ _ rfl ⟨Z, μ, RZ.put (S := ⟨S.env, ⟨(id, (bt, cs)) :: S.h.bx, S.h.tk⟩⟩) ⟨hz.env, hsame, hz.sub, hz.le, hz.below⟩ hn htup⟩
      · obtain ⟨W', hst, hz', _⟩ := hz.write (off := off) (l := zrow j n) (news := (List.replicate n j.zero.cells.toList).flatten) hb hg (zrow_rep j n (Z := Z) (μ := μ)).1.symm (zcell_one h1 n) (zrow_rep j n).2 (by rw [zrow_len, hzs]; omega)
        have hrr : (execOp a.eval o).run cx.P W = .ok (.value (.tuple #[])) W' := by
          obtain ⟨m, rfl⟩ : ∃ m, n = m + 1 := ⟨n - 1, by omega⟩
          simp only [execOp, ho]
          simp [resolve, invoke, builtin, hv, Builtin.clear_, run_underlying hu, (TC.at_ he).zero, zeroCells_flat, hst]
        rw [hrr, Oper.upon_value]
        refine hK _ _ _ rfl ?_
        rw [if_neg h0]
        exact ⟨Z, μ, hz'.put hn htup⟩) fun S' e => by subst e; exact kk
/-- copy to a slice over a box, of all of a slice that is read. -/
theorem PL.copyB {x y : Operand} {t t2 e id off n cap bt : Nat} {p : PV} {cs : List PV} {new : List (List PV)} {i j : TI} (ho : o.op = .call { callee := .builtin .copy, args := #[x, y], argTypes := #[t, t2] }) (hx : S.ev x = some (.bs id off n cap)) (hy : S.ev y = some p) (hb : lk S.h.bx id = some (bt, cs)) (ht : lk (TC.T cx.P) t = some i) (hd : i.d = .slice e) (he : lk (TC.T cx.P) e = some j)
    (hp : srcOf j.sz p = some new) (hfit : new.length ≤ n) (hle : off + new.flatten.length ≤ cs.length) (hw : Wants cx ops o S true) (hn : dstOk cx.n o.dst = true)
    (kk : PL cx ops Q rest (PS.put ⟨S.env, ⟨(id, (bt, writeC cs off new.flatten)) :: S.h.bx, S.h.tk⟩⟩ o.dst (.lit (.int .i64 new.length)))) : PL cx ops Q (o :: rest) S :=
  PL.cons hw (K := fun S' => S' = PS.put ⟨S.env, ⟨(id, (bt, writeC cs off new.flatten)) :: S.h.bx, S.h.tk⟩⟩ o.dst (.lit (.int .i64 new.length))) (fun a W hR K' Q' hK => by
    obtain ⟨Z, μ, hz⟩ := hR
    have hr := hz.ev hx
    have hyy := (hz.ev hy).src hp
    generalize hv : a.eval x = v at hr
    cases hr with
    | bs _ _ _ _ _ g hg =>
      obtain ⟨A, c, news, hvy, hc, hns, hZn⟩ := hyy.news
      have hu := (TC.at_ ht).und
      rw [hd] at hu
      have hu : cx.P.underlying t = some (.slice e) := hu
      obtain ⟨f1, f2⟩ := hns.flat
      obtain ⟨W', hst, hz', _⟩ := hz.write (off := off) (l := new.flatten) (news := news) hb hg f1 hns.one (fun k q u a b => (f2 k q u a b).any) hle
      have hload : (Builtin.firstCells j.sz new.length (.slice A new.length c)).run cx.P W = .ok news.toArray W := by
        by_cases h0 : 0 < new.length
        · obtain ⟨ad, rfl, hcl⟩ := hZn h0
          exact run_firstCells_some (P := cx.P) W j.sz new.length ad new.length c news hns.len (fun k u hu => hz.sub _ _ (hcl k u hu))
        · have hn0 : news = [] := List.eq_nil_of_length_eq_zero (by rw [hns.len]; have : new.length = 0 := by omega
                                                                    rw [this, Nat.zero_mul])
          have : new.length = 0 := by omega
          rw [this, hn0]
          cases A <;> simp [Builtin.firstCells, loadCells, loadCellsFrom]
      have hrr : (execOp a.eval o).run cx.P W = .ok (.value (.int .i64 new.length)) W' := by
        simp only [execOp, ho]
        have hm : Nat.min new.length n = new.length := Nat.min_eq_left hfit
        simp [resolve, invoke, builtin, hv, hvy, Builtin.copy_, run_underlying hu, Builtin.lenOf, (TC.at_ he).size, hm, hload, hst, goInt]
      show o.upon cx.P a K' Q' _
      rw [hrr, Oper.upon_value]
      exact hK _ _ _ rfl ⟨Z, μ, hz'.put hn (.lit _ _)⟩) fun S' e => by subst e; exact kk
end
end Go.Pw
