/- The engine, seventeenth text: append at boxes. -/
import Derived.Test.YtkganhdglmbpoaaGreatPw16
set_option linter.unusedVariables false
set_option linter.unusedSimpArgs false
namespace Go.Pw
open Go Go.RowKit

/-- What is read as a slice's elements, a slice over a box too. -/
def srcB (S : PS) (sz : Nat) (new : List (List PV)) (p : PV) : Prop :=
  srcOf sz p = some new ∨ ∃ id off cap bt cs, p = .bs id off new.length cap ∧ lk S.h.bx id = some (bt, cs) ∧ (∀ e ∈ new, e.length = sz) ∧ ∃ r, cs.drop off = new.flatten ++ r
theorem src_cells {cx : Cx} {S : PS} {a : Act} {W : World} {Z : Cells} {μ : Mu} (hz : RZ cx S a W Z μ) {sz : Nat} {new : List (List PV)} {p : PV} {v : Value} (hp : srcB S sz new p) (hr : Rep Z μ p v) :
    ∃ (A : Option Addr) (c : Nat) (news : List Value), v = .slice A new.length c ∧ news.length = new.flatten.length ∧ (∀ e ∈ new, e.length = sz) ∧ (∀ u ∈ news, u.oneCell' = true) ∧ (∀ (k : Nat) (q : PV) (u : Value), new.flatten[k]? = some q → news[k]? = some u → Rep Z μ q u) ∧
      (0 < new.length → ∃ ad : Addr, A = some ad ∧ ∀ (j : Nat) (u : Value), news[j]? = some u → W.cell? (ad.add j) = some u) := by
  rcases hp with hp | ⟨id, off, cap, bt, cs, rfl, hb, hall, r, hcs⟩
  · obtain ⟨A, c, news, hv, hc, hns, hZn⟩ := (hr.src hp).news
    obtain ⟨f1, f2⟩ := hns.flat
    exact ⟨A, c, news, hv, f1, hns.all, hns.one, fun k q u x y => (f2 k q u x y).any, fun h0 => by
      obtain ⟨ad, e, hc⟩ := hZn h0
      exact ⟨ad, e, fun j u hu => hz.sub _ _ (hc j u hu)⟩⟩
  · cases hr with
    | bs _ _ _ _ _ g hg =>
      obtain ⟨g', hg', vs, hh, hlen, hv1, hrep, hbase, hZ⟩ := hz.h.bx id bt cs hb
      rw [hg] at hg'; cases hg'
      have hcl : ∀ k q, new.flatten[k]? = some q → cs[off + k]? = some q := fun k q hk => by
        have : (cs.drop off)[k]? = some q := by
          rw [hcs, List.getElem?_append_left (List.getElem?_eq_some_iff.1 hk).1]; exact hk
        rwa [List.getElem?_drop] at this
      have hlen2 : off + new.flatten.length ≤ cs.length ∨ new.flatten.length = 0 := by
        have := congrArg List.length hcs
        rw [List.length_drop, List.length_append] at this
        omega
      refine ⟨_, _, (vs.drop off).take new.flatten.length, rfl, ?_, hall, fun u hu => hv1 u (List.mem_of_mem_drop (List.mem_of_mem_take hu)), fun k q u hq hu => ?_, fun h0 => ⟨_, rfl, fun j u hu => ?_⟩⟩
      · rw [List.length_take, List.length_drop]; omega
      · have hk := (List.getElem?_eq_some_iff.1 hq).1
        rw [List.getElem?_take_of_lt hk, List.getElem?_drop] at hu
        exact hrep _ q u (hcl k q hq) hu
      · have hj : j < new.flatten.length := by
          have := (List.getElem?_eq_some_iff.1 hu).1
          rw [List.length_take] at this; omega
        rw [List.getElem?_take_of_lt hj, List.getElem?_drop] at hu
        rw [Addr.add_lit]
        simp [World.cell?, hh, hu]
/-- One box and no more. -/
theorem RepH.one {base : Nat} {Z : Cells} {μ : Mu} {W : World} {d t g : Nat} {cs : List PV} (hg : μ.bx d = some g) (hx : BxOk base Z μ W t cs g) (hb : ∀ i g, μ.bx i = some g → i = d) (ht : ∀ t n v, μ.tk t n ≠ some v) : RepH base Z μ ⟨[(d, (t, cs))], []⟩ W := by
  have hlk : ∀ i x, lk [(d, (t, cs))] i = some x → i = d ∧ x = (t, cs) := fun i x e => by
    rw [lk_cons] at e
    split at e
    · rename_i h; cases e; exact ⟨h.symm, rfl⟩
    · cases e
  refine ⟨fun i t' cs' e => ?_, fun u s n e => (by cases e), fun i j x y k h1 h2 h3 h4 => ?_, fun t u sz n sz' n' v v' g e => (by cases e), fun i k e => ?_, fun u n v e => absurd e (ht u n v), fun u n v s m e => absurd e (ht u n v), fun i u x s n v k h1 e => (by cases e)⟩
  · obtain ⟨rfl, e2⟩ := hlk i _ e
    cases e2
    exact ⟨g, hg, hx⟩
  · rw [(hlk i x h1).1, (hlk j y h2).1]
  · rw [hb i k e, lk_cons, if_pos rfl]; exact fun h => by cases h
section
variable {cx : Cx} [TC cx.P] {S : PS} {o : Oper} {ops : Array Oper} {rest : List Oper} {Q : Post}
/-- append to a slice over a box, where there is room. -/
theorem PL.appIn {x y : Operand} {t e id n cap bt sz : Nat} {p : PV} {cs : List PV} {new : List (List PV)} {i j : TI} (ho : o.op = .call { callee := .builtin .append, args := #[x, y], argTypes := #[t, t] }) (hx : S.ev x = some (.bs id 0 n cap)) (hy : S.ev y = some p) (hb : lk S.h.bx id = some (bt, cs)) (ht : lk (TC.T cx.P) t = some i) (hd : i.d = .slice e) (he : lk (TC.T cx.P) e = some j) (hj : j.sz = sz)
    (hp : srcB S sz new p) (hfit : n + new.length ≤ cap) (hle : n * sz + new.flatten.length ≤ cs.length) (hw : Wants cx ops o S true) (hn : dstOk cx.n o.dst = true)
    (kk : PL cx ops Q rest (PS.put ⟨S.env, ⟨(id, (bt, writeC cs (n * sz) new.flatten)) :: S.h.bx, S.h.tk⟩⟩ o.dst (.bs id 0 (n + new.length) cap))) : PL cx ops Q (o :: rest) S :=
  PL.cons hw (K := fun S' => S' = PS.put ⟨S.env, ⟨(id, (bt, writeC cs (n * sz) new.flatten)) :: S.h.bx, S.h.tk⟩⟩ o.dst (.bs id 0 (n + new.length) cap)) (fun a W hR K' Q' hK => by
    obtain ⟨Z, μ, hz⟩ := hR
    have hr := hz.ev hx
    have hyy := hz.ev hy
    generalize hv : a.eval x = v at hr
    cases hr with
    | bs _ _ _ _ _ g hg =>
      obtain ⟨A, c, news, hvy, f1, hall, hone, f2, hZn⟩ := src_cells hz hp hyy
      have hu := (TC.at_ ht).und
      rw [hd] at hu
      have hu : cx.P.underlying t = some (.slice e) := hu
      have hnl : news.length = new.length * sz := by rw [f1, flat_len hall]
      obtain ⟨W', hst, hz', _⟩ := hz.write (off := n * sz) (l := new.flatten) (news := news) hb hg f1 hone f2 hle
      have hload : (Builtin.firstCells sz new.length (.slice A new.length c)).run cx.P W = .ok news.toArray W := by
        by_cases h0 : 0 < new.length
        · obtain ⟨ad, rfl, hcl⟩ := hZn h0
          exact run_firstCells_some (P := cx.P) W sz new.length ad new.length c news hnl hcl
        · have h1 : new.length = 0 := by omega
          have hn0 : news = [] := List.eq_nil_of_length_eq_zero (by rw [hnl, h1, Nat.zero_mul])
          rw [h1, hn0]
          cases A <;> simp [Builtin.firstCells, loadCells, loadCellsFrom]
      have hrr : (execOp a.eval o).run cx.P W = .ok (.value (.slice (some ⟨g, 0, none⟩) (n + new.length) cap)) W' := by
        simp only [execOp, ho]
        simp [resolve, invoke, builtin, hv, hvy, Builtin.append_, run_underlying hu, Builtin.lenOf, (TC.at_ he).size, hfit, hload, hst, hj, Addr.add_lit]
      show o.upon cx.P a K' Q' _
      rw [hrr, Oper.upon_value]
      exact hK _ _ _ rfl ⟨Z, μ, hz'.put hn (.bs _ _ _ _ _ _ hg)⟩) fun S' e => by subst e; exact kk
/-- append of something to the nil slice. -/
theorem PL.appNew {x y : Operand} {t e d sz : Nat} {p : PV} {new : List (List PV)} {i j : TI} (ho : o.op = .call { callee := .builtin .append, args := #[x, y], argTypes := #[t, t] }) (hdst : o.dst = some d) (hx : S.ev x = some (.lit (.slice none 0 0))) (hy : S.ev y = some p) (hp : srcB S sz new p) (h0 : 0 < new.length)
    (hfr : lk S.h.bx d = none) (ht : lk (TC.T cx.P) t = some i) (hd : i.d = .slice e) (he : lk (TC.T cx.P) e = some j) (hj : j.sz = sz) (hzs : j.zero.cells.size = sz) (h1 : j.zero.cells.toList.all Value.oneCell' = true) (hb : new.length * j.bytes ≤ 140737488355328) (h63 : new.length ≤ 1099511627776)
    (hw : Wants cx ops o S true) (hn : dstOk cx.n (some d) = true)
    (kk : ∀ cap, new.length ≤ cap → cap ≤ maxLen → PL cx ops Q rest ⟨(d, .bs d 0 new.length cap) :: S.env, ⟨(d, (e, new.flatten ++ zrow j (cap - new.length))) :: S.h.bx, S.h.tk⟩⟩) : PL cx ops Q (o :: rest) S :=
  PL.cons hw (K := fun S' => ∃ cap, new.length ≤ cap ∧ cap ≤ maxLen ∧ S' = ⟨(d, .bs d 0 new.length cap) :: S.env, ⟨(d, (e, new.flatten ++ zrow j (cap - new.length))) :: S.h.bx, S.h.tk⟩⟩) (fun a W hR K' Q' hK => by
    obtain ⟨Z, μ, hz⟩ := hR
    have hv := (hz.ev hx).lit_inv
    obtain ⟨A, c, news, hvy, f1, hall, hone, f2, hZn⟩ := src_cells hz hp (hz.ev hy)
    obtain ⟨ad, rfl, hcl⟩ := hZn h0
    have hu := (TC.at_ ht).und
    rw [hd] at hu
    have hu : cx.P.underlying t = some (.slice e) := hu
    obtain ⟨ti, hi, hi1, hi2, hi3⟩ := (TC.at_ he).info
    have hnl : news.length = new.length * ti.size := by rw [f1, flat_len hall, hi1, hj]
    have hr := run_append_nil (P := cx.P) W t o.type e ti j.zero hu hi hi3 ad new.length c news hnl hcl h0 (by omega) (by rw [hi2]; omega)
    obtain ⟨μ', hm, hz'⟩ := hz.drew.newB (d := d) (t := e) (cs := new.flatten ++ zrow j (grownCap W new.length 0 e - new.length)) (vs := news.toArray ++ Builtin.zeroCells j.zero.cells (grownCap W new.length 0 e - new.length)) hfr
      (by rw [Array.toList_append, zeroCells_flat, List.length_append, List.length_append, (zrow_rep j _ (Z := Z) (μ := μ)).1, ← f1])
      (fun u hu => by
        rw [Array.toList_append, zeroCells_flat] at hu
        rcases List.mem_append.1 hu with hu | hu
        · exact hone u hu
        · exact zcell_one h1 _ u hu)
      (fun k q u hq hu => by
        rw [Array.toList_append, zeroCells_flat] at hu
        by_cases hk : k < new.flatten.length
        · rw [List.getElem?_append_left hk] at hq
          rw [List.getElem?_append_left (by simpa [f1] using hk)] at hu
          exact f2 k q u hq (by simpa using hu)
        · rw [List.getElem?_append_right (by omega)] at hq
          rw [List.getElem?_append_right (by simp; omega)] at hu
          simp only [f1] at hu
          exact (zrow_rep j _).2 _ q u hq hu)
    show o.upon cx.P a K' Q' _
    have hrun : (execOp a.eval o).run cx.P W = .ok (.value (.slice (some ⟨W.heap.size, 0, none⟩) new.length (grownCap W new.length 0 e))) (W.drew.alloc (.cells (news.toArray ++ Builtin.zeroCells j.zero.cells (grownCap W new.length 0 e - new.length)) e)) := by
      simp only [execOp, ho]
      simp [resolve, invoke, builtin, hv, hvy, hr]
    rw [hrun, Oper.upon_value, hdst]
    have hmm : (W.drew).heap.size = W.heap.size := rfl
    rw [hmm] at hm
    exact hK _ _ _ ⟨_, by simpa using grownCap_ge W new.length 0 e, grownCap_le_maxLen W new.length 0 e (by simp only [maxLen]; omega), rfl⟩ ⟨Z, μ', hz'.put (d := some d) hn (.bs _ _ _ _ _ _ hm)⟩) fun S' ⟨cap, ha, hc, e⟩ => by subst e; exact kk cap ha hc
/-- append to a slice over the one box that the call owns; of what it knows e' is kept. -/
theorem PL.appB (e' : List (Nat × PV)) {x y : Operand} {t e d id n cap bt sz : Nat} {p : PV} {cs : List PV} {new : List (List PV)} {i j : TI} (ho : o.op = .call { callee := .builtin .append, args := #[x, y], argTypes := #[t, t] }) (hdst : o.dst = some d) (hx : S.ev x = some (.bs id 0 n cap)) (hy : S.ev y = some p) (hp : srcOf sz p = some new) (hb : lk S.h.bx id = some (bt, cs)) (hcs : cap * sz ≤ cs.length) (hfc : freeL cs = true) (hnc : n ≤ cap) (hcm : cap ≤ maxLen)
    (ht : lk (TC.T cx.P) t = some i) (hd : i.d = .slice e) (he : lk (TC.T cx.P) e = some j) (hj : j.sz = sz) (hzs : j.zero.cells.size = sz) (h1 : j.zero.cells.toList.all Value.oneCell' = true) (hbb : (n + new.length) * j.bytes ≤ 140737488355328) (h63 : n + new.length ≤ 1099511627776)
    (hw : Wants cx ops o S true) (hn : dstOk cx.n (some d) = true)
    (kk : ∀ cap' bt' sl, n + new.length ≤ cap' → cap' ≤ maxLen → (cap' - (n + new.length)) * sz ≤ sl.length → freeL sl = true → PL cx ops Q rest ⟨(d, .bs d 0 (n + new.length) cap') :: e', ⟨[(d, (bt', cs.take (n * sz) ++ (new.flatten ++ sl)))], []⟩⟩)
    (hk : KF S e' := by repeat (first | exact trivial | refine ⟨⟨rfl, rfl⟩, ?_⟩)) : PL cx ops Q (o :: rest) S :=
  PL.cons hw (K := fun S' => ∃ cap' bt' sl, n + new.length ≤ cap' ∧ cap' ≤ maxLen ∧ (cap' - (n + new.length)) * sz ≤ sl.length ∧ freeL sl = true ∧ S' = ⟨(d, .bs d 0 (n + new.length) cap') :: e', ⟨[(d, (bt', cs.take (n * sz) ++ (new.flatten ++ sl)))], []⟩⟩) (fun a W hR K' Q' hK => by
    obtain ⟨Z, μ, hz⟩ := hR
    have hr := hz.ev hx
    generalize hv : a.eval x = v at hr
    cases hr with
    | bs _ _ _ _ _ g hg =>
      obtain ⟨A, c, news, hvy, hc, hns, hZn⟩ := ((hz.ev hy).src hp).news
      obtain ⟨f1, f2⟩ := hns.flat
      have hu := (TC.at_ ht).und
      rw [hd] at hu
      have hu : cx.P.underlying t = some (.slice e) := hu
      have hnl := hns.len
      have henv : ∀ {μ' : Mu}, EnvOk Z μ' cx.n e' a := fun {μ'} => ⟨hz.env.df, hz.env.sz, fun t q ht => by
        obtain ⟨h1, h2⟩ := hk.at_ ht
        obtain ⟨u, hu, hru⟩ := hz.env.may1 h1
        exact ⟨u, hu, (hru.drop h2).any⟩⟩
      obtain ⟨g', hg', vs, hh, hlen, hv1, hrep, hbase, hZ⟩ := hz.h.bx id bt cs hb
      rw [hg] at hg'; cases hg'
      show o.upon cx.P a K' Q' _
      have hflat : new.flatten.length = new.length * sz := flat_len hns.all
      have hload : (Builtin.firstCells sz new.length (.slice A new.length c)).run cx.P W = .ok news.toArray W := by
        by_cases h0 : 0 < new.length
        · obtain ⟨ad, rfl, hcl⟩ := hZn h0
          exact run_firstCells_some (P := cx.P) W sz new.length ad new.length c news hnl (fun k u hu => hz.sub _ _ (hcl k u hu))
        · have h1 : new.length = 0 := by omega
          have hn0 : news = [] := List.eq_nil_of_length_eq_zero (by rw [hnl, h1, Nat.zero_mul])
          rw [h1, hn0]
          cases A <;> simp [Builtin.firstCells, loadCells, loadCellsFrom]
      have hnsz : n * sz ≤ cap * sz := Nat.mul_le_mul_right _ hnc
      have hcells : ∀ (sl : List PV) (us : List Value) (μ' : Mu), us.length = sl.length → (∀ (k : Nat) (q : PV) (u : Value), sl[k]? = some q → us[k]? = some u → Rep Z Mu.emp q u) → ∀ (k : Nat) (q : PV) (u : Value), (cs.take (n * sz) ++ (new.flatten ++ sl))[k]? = some q → (vs.take (n * sz) ++ (news ++ us))[k]? = some u → Rep Z μ' q u := fun sl us μ' hl hs k q u hq hu => by
        have t1 : (cs.take (n * sz)).length = n * sz := by rw [List.length_take]; omega
        have t2 : (vs.take (n * sz)).length = n * sz := by rw [List.length_take]; omega
        by_cases k1 : k < n * sz
        · rw [List.getElem?_append_left (by omega), List.getElem?_take_of_lt k1] at hq
          rw [List.getElem?_append_left (by omega), List.getElem?_take_of_lt k1] at hu
          exact ((hrep k q u hq hu).drop (freeL_mem hfc q (List.mem_of_getElem? hq))).any
        · rw [List.getElem?_append_right (by omega), t1] at hq
          rw [List.getElem?_append_right (by omega), t2] at hu
          by_cases k2 : k - n * sz < new.flatten.length
          · rw [List.getElem?_append_left k2] at hq
            rw [List.getElem?_append_left (by omega)] at hu
            exact (f2 _ q u hq hu).any
          · rw [List.getElem?_append_right (by omega)] at hq
            rw [List.getElem?_append_right (by omega), f1] at hu
            exact (hs _ q u hq hu).any
      have hones : ∀ us : List Value, (∀ u ∈ us, u.oneCell' = true) → ∀ u ∈ vs.take (n * sz) ++ (news ++ us), u.oneCell' = true := fun us h u hu => by
        rcases List.mem_append.1 hu with hu | hu
        · exact hv1 u (List.mem_of_mem_take hu)
        · rcases List.mem_append.1 hu with hu | hu
          · exact hns.one u hu
          · exact h u hu
      have hmuone : ∀ g0 : Nat, ∀ i g, (⟨fun k => if k = d then some g0 else none, fun _ _ => none⟩ : Mu).bx i = some g → i = d := fun g0 i g h => by
        simp only at h
        by_cases e : i = d
        · exact e
        · rw [if_neg e] at h; cases h
      by_cases hfit : n + new.length ≤ cap
      · have hmul : n * sz + new.length * sz ≤ cap * sz := by rw [← Nat.add_mul]; exact Nat.mul_le_mul_right _ hfit
        have hst := run_storeCells_at cx.P g (n * sz) bt news 0 vs.toArray W hh (by simp only [Nat.add_zero, List.size_toArray]; omega) hns.one
        simp only [Nat.add_zero, List.append_assoc] at hst
        have hrr : (execOp a.eval o).run cx.P W = .ok (.value (.slice (some ⟨g, 0, none⟩) (n + new.length) cap)) (W.setRow g (vs.take (n * sz) ++ (news ++ vs.drop (n * sz + news.length))).toArray) := by
          simp only [execOp, ho]
          simp [resolve, invoke, builtin, hv, hvy, Builtin.append_, run_underlying hu, Builtin.lenOf, (TC.at_ he).size, hfit, hload, hj, Addr.add_lit] at hst ⊢
          simp [hst]
        rw [hrr, Oper.upon_value, hdst]
        refine hK _ _ _ ⟨cap, bt, cs.drop (n * sz + new.flatten.length), hfit, hcm, by rw [List.length_drop, hflat, Nat.sub_mul, Nat.add_mul]; omega, freeL_iff.2 (fun p hp => freeL_mem hfc p (List.mem_of_mem_drop hp)), rfl⟩ ⟨Z, ⟨fun k => if k = d then some g else none, fun _ _ => none⟩, RZ.put (S := ⟨e', ⟨[(d, (bt, _))], []⟩⟩) (d := some d) ⟨henv, ?_, ?_, hz.le, ?_⟩ hn (.bs _ _ _ _ _ g (by simp))⟩
        · refine RepH.one (g := g) (by simp) ⟨_, setRow_heap W g _ _ bt _ hh, ?_, hones _ (fun u hu => hv1 u (List.mem_of_mem_drop hu)), hcells _ _ _ ?_ (fun k q u hq hu => ?_), hbase, hZ⟩ (hmuone g) (fun _ _ _ h => by cases h)
          · simp only [List.length_append, List.length_take, List.length_drop]; omega
          · simp only [List.length_drop]; omega
          · rw [List.getElem?_drop] at hq hu
            rw [f1] at hu
            exact (hrep _ q u hq hu).drop (freeL_mem hfc q (List.mem_of_getElem? hq))
        · intro ad v e
          refine (World.cell?_of_block (setRow_other W g ad.block _ (fun e2 => ?_))).trans (hz.sub ad v e)
          have hsp := hz.sub.spot e
          have : ad = ⟨g, ad.off, none⟩ := by cases ad; simp at e2 hsp ⊢; exact ⟨e2, hsp⟩
          rw [this, hZ] at e
          cases e
        · exact hz.below.trans ⟨rfl, rfl, rfl, by simp, fun k hk => setRow_other W g k _ (by omega)⟩
      · obtain ⟨ti, hi, hi1, hi2, hi3⟩ := (TC.at_ he).info
        rw [hj] at hi1
        obtain ⟨ad, rfl, hcl⟩ := hZn (by omega)
        have hvl : (vs.take (n * sz)).length = n * sz := by rw [List.length_take]; omega
        have hr := run_append_grow (P := cx.P) W t o.type e ti j.zero hu hi hi3 ⟨g, 0, none⟩ n cap (vs.take (n * sz)) (by rw [hi1]; exact hvl) (fun k u hk => by
          have hk2 := (List.getElem?_eq_some_iff.1 hk).1
          rw [List.getElem?_take_of_lt (by omega)] at hk
          rw [Addr.add_lit, Nat.zero_add]
          simp [World.cell?, hh, hk]) ad new.length c news (by rw [hi1]; exact hnl) (fun k u hu => hz.sub _ _ (hcl k u hu)) (by omega) (by omega) (growslice_fits (by omega) (by rw [hi2]; exact hbb))
        have hrr : (execOp a.eval o).run cx.P W = .ok (.value (.slice (some ⟨W.heap.size, 0, none⟩) (n + new.length) (grownCap W (n + new.length) cap e))) (W.drew.alloc (.cells ((vs.take (n * sz)).toArray ++ news.toArray ++ Builtin.zeroCells j.zero.cells (grownCap W (n + new.length) cap e - (n + new.length))) e)) := by
          simp only [execOp, ho]
          simp [resolve, invoke, builtin, hv, hvy, hr]
        rw [hrr, Oper.upon_value, hdst]
        have hzl := zrow_rep j (grownCap W (n + new.length) cap e - (n + new.length)) (Z := Z) (μ := Mu.emp)
        have hbl : Below W.heap.size W (W.drew.alloc (.cells ((vs.take (n * sz)).toArray ++ news.toArray ++ Builtin.zeroCells j.zero.cells (grownCap W (n + new.length) cap e - (n + new.length))) e)) := (Below.drew (Below.refl _ _)).alloc (Nat.le_refl _) _
        refine hK _ _ _ ⟨grownCap W (n + new.length) cap e, e, zrow j (grownCap W (n + new.length) cap e - (n + new.length)), grownCap_ge W _ cap e, grownCap_le_maxLen W _ cap e (by simp only [maxLen]; omega), by rw [zrow_len, hzs]; exact Nat.le_refl _, zrow_free _ _, rfl⟩ ⟨Z, ⟨fun k => if k = d then some W.heap.size else none, fun _ _ => none⟩, RZ.put (S := ⟨e', ⟨[(d, (e, _))], []⟩⟩) (d := some d) ⟨henv, ?_, hz.sub.grow hbl, hz.le, hz.below.trans (hbl.mono hz.below.size)⟩ hn (.bs _ _ _ _ _ W.heap.size (by simp))⟩
        refine RepH.one (g := W.heap.size) (by simp) ⟨vs.take (n * sz) ++ (news ++ (List.replicate (grownCap W (n + new.length) cap e - (n + new.length)) j.zero.cells.toList).flatten), ?_, ?_, hones _ (zcell_one h1 _), hcells _ _ _ hzl.1.symm hzl.2, hz.below.size, fun off => ?_⟩ (hmuone _) (fun _ _ _ h => by cases h)
        · have := heap_alloc_new W.drew (.cells ((vs.take (n * sz)).toArray ++ news.toArray ++ Builtin.zeroCells j.zero.cells (grownCap W (n + new.length) cap e - (n + new.length))) e)
          rw [show W.drew.heap.size = W.heap.size from rfl] at this
          rw [this]
          congr 2
          apply Array.ext'
          simp [zeroCells_flat]
        · have := hzl.1
          simp only [List.length_append, List.length_take] at this ⊢
          omega
        · exact hz.sub.free (Nat.le_refl _) off) fun S' ⟨cap', bt', sl, a1, a2, a3, a4, e⟩ => by subst e; exact kk cap' bt' sl a1 a2 a3 a4
end
end Go.Pw
