/- The engine, fifth text: literals, append, make; calls; the end of a call. -/
import Derived.Test.YtkganhdglmbpoaaGreatPw4
set_option linter.unusedVariables false
set_option linter.unusedSimpArgs false
namespace Go.Pw
open Go Go.RowKit

/-- The world has one more block, whose first cells stay. -/
theorem RZ.newZ {cx : Cx} {S : PS} {a : Act} {W W' : World} {Z : Cells} {μ : Mu} (h : RZ cx S a W Z μ) (hb : Below W.heap.size W W') {g : Nat} (hg : W.heap.size ≤ g) {cs : List Value} (hc : ∀ (j : Nat) (u : Value), cs[j]? = some u → W'.cell? ⟨g, j, none⟩ = some u) : RZ cx S a W' (Z.add g cs) μ :=
  h.grow hb (Cells.le_add _ _ _) (fun ad v e => (Cells.add_inv e).imp id (fun x => by omega)) ((h.sub.grow hb).add hc)
theorem Sub.free {Z : Cells} {W : World} (h : Sub Z W) {g : Nat} (hg : W.heap.size ≤ g) (off : Nat) : Z ⟨g, off, none⟩ = none := by
  cases e : Z ⟨g, off, none⟩ with
  | none => rfl
  | some v => have := h.lt e; simp at this; omega
section
variable {cx : Cx} [TC cx.P] {S : PS} {o : Oper} {ops : Array Oper} {rest : List Oper} {Q : Post}
/-- A slice literal: a row of the call's own, under the name of its place. -/
theorem PL.lit {t n d e : Nat} {ps : Array (Nat × Operand)} {es : List (List PV)} {i j : TI} (ho : o.op = .buildSlice t n ps) (hdst : o.dst = some d) (hps : partsAre ps n = true) (hes : evL S ps.toList = some es) (ht : lk (TC.T cx.P) t = some i) (hd : i.d = .slice e) (he : lk (TC.T cx.P) e = some j)
    (hl : es.all (fun x => x.length == j.sz) = true) (hf : es.all freeL = true) (hb : n * j.sz ≤ 16777216) (hnm : n ≤ 16777216) (hfr : lk S.h.tk d = none) (hn : dstOk cx.n (some d) = true) (hw : Wants cx ops o S true)
    (k : PL cx ops Q rest ⟨(d, .sl j.sz es (some d)) :: S.env, ⟨S.h.bx, (d, (j.sz, es.length)) :: S.h.tk⟩⟩) : PL cx ops Q (o :: rest) S :=
  PL.cons hw (K := fun S' => S' = ⟨(d, .sl j.sz es (some d)) :: S.env, ⟨S.h.bx, (d, (j.sz, es.length)) :: S.h.tk⟩⟩) (fun a W hR K' Q hK => by
    obtain ⟨Z, μ, hz⟩ := hR
    have hl2 : ∀ e ∈ es, e.length = j.sz := fun e he => by simpa using List.all_eq_true.1 hl e he
    obtain ⟨e1, e2, e3⟩ := evL_vals hz ps.toList es hes hl2 (fun e he => List.all_eq_true.1 hf e he)
    have hpr : ps.toList.map (·.1) = List.range n := by simpa [partsAre] using hps
    have hplen : ps.toList.length = n := by have := congrArg List.length hpr; simpa using this
    have hz2 := zipIdx_of_range ps.toList 0 (by rw [hpr, hplen, List.range_eq_range'])
    have hrun := run_lit (P := cx.P) (W := W) ht hd he (ps.toList.map fun q => a.eval q.2) (by simpa using hplen) e2 hb
    show o.upon cx.P a K' Q _
    have hr : (execOp a.eval o).run cx.P W = .ok (.value (.slice (some ⟨W.heap.size, 0, none⟩) n n)) (W.alloc (.cells ((ps.toList.map fun q => a.eval q.2).flatMap fun v => v.cells.toList).toArray e)) := by
      have hmap : (ps.map fun (q : Nat × Operand) => (q.1, a.eval q.2)) = (((ps.toList.map fun q => a.eval q.2).zipIdx 0).map fun x => (x.2, x.1)).toArray := by
        have h1 : (ps.toList.map fun q => a.eval q.2) = (ps.toList.map (·.2)).map a.eval := by rw [List.map_map]; rfl
        generalize hL : ps.toList.map (·.2) = L at hz2 h1
        apply Array.ext'
        rw [Array.toList_map, h1, hz2, List.map_map, List.zipIdx_map, List.map_map]
        simp [Function.comp_def]
      simp only [execOp, ho]
      have : (ps.map fun (x : Nat × Operand) => match x with | (i, x) => (i, a.eval x)) = (ps.map fun (q : Nat × Operand) => (q.1, a.eval q.2)) := rfl
      rw [this, hmap, Sem.run_bind, hrun]
      rfl
    rw [hr, Oper.upon_value, hdst]
    have hbl : Below W.heap.size W (W.alloc (.cells ((ps.toList.map fun q => a.eval q.2).flatMap fun v => v.cells.toList).toArray e)) := (Below.refl _ _).alloc (Nat.le_refl _) _
    have hcell : ∀ (m : Nat) (u : Value), ((ps.toList.map fun q => a.eval q.2).flatMap fun v => v.cells.toList)[m]? = some u → (W.alloc (.cells ((ps.toList.map fun q => a.eval q.2).flatMap fun v => v.cells.toList).toArray e)).cell? ⟨W.heap.size, m, none⟩ = some u := fun m u hu => by
      rw [World.cell?_alloc_new]; simpa using hu
    have hz' := hz.newZ hbl (Nat.le_refl _) hcell
    have hle := Mu.setTk_le (μ := μ) (t := d) (n := es.length) (v := .slice (some ⟨W.heap.size, 0, none⟩) n n) (fun u e => by rw [hz.h.tkFree hfr] at e; cases e)
    have hnl : es.length = n := e1.trans hplen
    have hrep : Rep (Z.add W.heap.size ((ps.toList.map fun q => a.eval q.2).flatMap fun v => v.cells.toList)) (μ.setTk d es.length (.slice (some ⟨W.heap.size, 0, none⟩) n n)) (.sl j.sz es (some d)) (.slice (some ⟨W.heap.size, 0, none⟩) n n) := by
      have h0 := (e3.mono (Cells.le_add Z W.heap.size _)).rep (A := some ⟨W.heap.size, 0, none⟩) (c := n) (by omega) (fun _ => ⟨_, rfl, fun m u hu => by rw [Addr.add_lit, Nat.zero_add]; exact Cells.add_at (hz.sub.grow hbl) hcell m u hu⟩) (μ.setTk d es.length (.slice (some ⟨W.heap.size, 0, none⟩) n n))
      rw [hnl] at h0
      refine .own _ _ _ _ _ (by rw [hnl]; exact h0) (by simp [Mu.setTk])
    refine hK _ _ _ rfl ⟨_, _, ⟨(hz'.env.mono (Cells.le_refl _) hle).put (by simpa [dstOk, Nat.blt_eq] using hn) hrep, ?_, hz'.sub, hz'.le, hz'.below⟩⟩
    have hsz : ((ps.toList.map fun q => a.eval q.2).flatMap fun v => v.cells.toList).length = n * j.sz := by rw [e3.len, hnl]
    have hml : n ≤ maxLen := by simp only [maxLen]; omega
    refine hz'.h.addTk hfr (.inr ⟨W.heap.size, n, ((ps.toList.map fun q => a.eval q.2).flatMap fun v => v.cells.toList).toArray, e, by rw [hnl], heap_alloc_new W _, by omega, hml, Nat.le_of_eq (by simpa using hsz.symm), hz.below.size, fun off ho => Cells.add_none (hz.sub.free (Nat.le_refl _) off) (fun _ => by rw [hsz, ← hnl]; exact ho)⟩) (fun i x g hi hg hv => ?_) (fun u sz' n' v' g hu hv hv' hv2 => ?_)
    · obtain ⟨g', hg', hb⟩ := hz.h.bx i x.1 x.2 hi
      rw [hg] at hg'; cases hg'
      simp [Value.ownBlock] at hv
      exact absurd hb.lt (by omega)
    · obtain ⟨v2, h2, hb⟩ := hz.h.tk u sz' n' hu
      rw [hv] at h2; cases h2
      simp [Value.ownBlock] at hv2
      exact absurd (hb.lt hv').1 (by omega)) fun S' e => by subst e; exact k
end

/-- What append does to a row of the call's own. -/
structure Grew (base : Nat) (W : World) (sz : Nat) (v : Value) (n : Nat) (xs news : List Value) (m : Nat) (v' : Value) (W' : World) : Prop where
  os : W'.os = W.os
  tape : W'.tape = W.tape
  output : W'.output = W.output
  size : W.heap.size ≤ W'.heap.size
  out : (v' = v ∧ W' = W ∧ m = 0) ∨ 0 < m ∧ ∃ g cap cur e, v' = .slice (some ⟨g, 0, none⟩) (n + m) cap ∧ W'.heap[g]? = some (.cells cur e (0, 0)) ∧ n + m ≤ cap ∧ cap ≤ maxLen ∧ cap * sz ≤ cur.size ∧ base ≤ g ∧ (∀ (j : Nat) (u : Value), (xs ++ news)[j]? = some u → cur[j]? = some u) ∧
    (∀ k, k ≠ g → k < W.heap.size → W'.heap[k]? = W.heap[k]?) ∧ (v.ownBlock = some g ∨ g = W.heap.size)
theorem run_app {P : Program} [TC P] {W : World} {base : Nat} {Z : Cells} {sz n m c : Nat} {v : Value} {t ty e : Nat} {i j : TI} (ht : lk (TC.T P) t = some i) (hd : i.d = .slice e) (he : lk (TC.T P) e = some j) (hj : j.sz = sz) (hzs : j.zero.cells.size = sz) (hbase : base ≤ W.heap.size)
    (hok : TkOk base Z W sz n v) {xs news : List Value} (hx : xs.length = n * sz) (hxs : ∀ g cap, v = .slice (some ⟨g, 0, none⟩) n cap → ∀ (j : Nat) (u : Value), xs[j]? = some u → W.cell? ⟨g, j, none⟩ = some u)
    (hl : news.length = m * sz) (h1 : ∀ u ∈ news, u.oneCell' = true) {A : Option Addr} (hA : 0 < m → ∃ ad : Addr, A = some ad ∧ ∀ (j : Nat) (u : Value), news[j]? = some u → W.cell? (ad.add j) = some u)
    (hb : (n + m) * j.bytes ≤ 140737488355328) (h63 : n + m ≤ 9223372036854775807) :
    ∃ v' W', (Builtin.append_ #[t, t] ty #[v, .slice A m c]).run P W = .ok v' W' ∧ Grew base W sz v n xs news m v' W' := by
  have hu := (TC.at_ ht).und
  rw [hd] at hu
  have hu : P.underlying t = some (.slice e) := hu
  obtain ⟨ti, hi, hi1, hi2, hi3⟩ := (TC.at_ he).info
  rw [hj] at hi1
  by_cases hm : m = 0
  · subst hm
    have hn0 : news = [] := List.eq_nil_of_length_eq_zero (by simpa using hl)
    subst hn0
    refine ⟨v, W, ?_, ⟨rfl, rfl, rfl, Nat.le_refl _, .inl ⟨rfl, rfl, rfl⟩⟩⟩
    rcases hok with ⟨rfl, rfl⟩ | ⟨g, cap, cur, e', rfl, hh, h2, h3, h4, h5, h6⟩
    · cases A <;> simp [Builtin.append_, run_underlying hu, sizeOf, typeInfo, hi, Builtin.lenOf, Builtin.firstCells, loadCells, loadCellsFrom]
    · cases A <;> simp [Builtin.append_, run_underlying hu, sizeOf, typeInfo, hi, Builtin.lenOf, Builtin.firstCells, loadCells, loadCellsFrom, h2, storeCells]
  · obtain ⟨ad, rfl, hA2⟩ := hA (by omega)
    have hbytes : (n + m) * ti.bytes ≤ 140737488355328 := by rw [hi2]; exact hb
    have hcapm : n + m ≤ maxLen := by simp only [maxLen]; omega
    rcases hok with ⟨rfl, rfl⟩ | ⟨g, cap, cur, e', rfl, hh, h2, h3, h4, h5, h6⟩
    · have hx0 : xs = [] := List.eq_nil_of_length_eq_zero (by simpa using hx)
      subst hx0
      have hr := run_append_nil (P := P) W t ty e ti j.zero hu hi hi3 ad m c news (by rw [hi1]; exact hl) hA2 (by omega) (by omega) (by have := hbytes; simp only [Nat.zero_add] at this; omega)
      refine ⟨_, _, hr, ⟨rfl, rfl, rfl, by simp, .inr ⟨by omega, W.heap.size, _, _, e, by rw [Nat.zero_add], heap_alloc_new W.drew _, by rw [Nat.zero_add]; exact grownCap_ge W m 0 e, grownCap_le_maxLen W m 0 e (by omega), ?_, hbase, fun k u hu => ?_, fun k hk hlt => Below.heap_alloc W.drew _ k hlt, .inr rfl⟩⟩⟩
      · refine Nat.le_of_eq ?_
        simp only [Array.size_append, List.size_toArray, size_zeroCells, hzs, hl, ← Nat.add_mul]
        congr 1
        have := grownCap_ge W m 0 e
        omega
      · rw [List.nil_append] at hu
        rw [Array.getElem?_append_left (by simpa using (List.getElem?_eq_some_iff.1 hu).1)]
        simpa using hu
    · by_cases hroom : n + m ≤ cap
      · have hfit : n * ti.size + news.length ≤ cur.size := by rw [hl, hi1, ← Nat.add_mul]; exact Nat.le_trans (Nat.mul_le_mul_right _ hroom) h4
        have hee : e' = e' := rfl
        have hr : (Builtin.append_ #[t, t] ty #[.slice (some ⟨g, 0, none⟩) n cap, .slice (some ad) m c]).run P W = .ok (.slice (some ⟨g, 0, none⟩) (n + m) cap) (W.setRow g (cur.toList.take (n * ti.size) ++ news ++ cur.toList.drop (n * ti.size + news.length)).toArray) := by
          have hf := run_firstCells_some (P := P) W ti.size m ad m c news (by rw [hi1]; exact hl) hA2
          have hst := run_storeCells_at P g (n * ti.size) e' news 0 cur W hh (by simpa using hfit) h1
          simp only [Nat.add_zero] at hst
          simp [Builtin.append_, run_underlying hu, sizeOf, typeInfo, hi, Builtin.lenOf, hroom, hf, Addr.add_lit, hst]
        have hcur : ∀ (k : Nat) (u : Value), xs[k]? = some u → cur[k]? = some u := fun k u hk => by
          have := hxs g cap rfl k u hk
          rw [cell_of_row W g k cur e' (0, 0) hh] at this
          exact this
        refine ⟨_, _, hr, ⟨rfl, rfl, rfl, by simp, .inr ⟨by omega, g, cap, _, e', rfl, setRow_heap W g cur _ e' _ hh, hroom, h3, ?_, h5, fun k u hk => ?_, fun k hk _ => setRow_other W g k _ hk, .inl rfl⟩⟩⟩
        · simp only [List.size_toArray, List.length_append, List.length_take, List.length_drop, Array.length_toList]
          omega
        · rw [hi1]
          by_cases hkn : k < n * sz
          · rw [List.getElem?_append_left (by omega)] at hk
            have := hcur k u hk
            simp only [List.append_assoc, List.getElem?_toArray]
            rw [List.getElem?_append_left (by rw [List.length_take, Array.length_toList]; have := (Array.getElem?_eq_some_iff.1 this).1; omega), List.getElem?_take_of_lt hkn]
            simpa using this
          · rw [List.getElem?_append_right (by omega), hx] at hk
            have hk2 := (List.getElem?_eq_some_iff.1 hk).1
            simp only [List.append_assoc, List.getElem?_toArray]
            have ht2 : (cur.toList.take (n * sz)).length = n * sz := by rw [List.length_take, Array.length_toList]; rw [hi1] at hfit; omega
            rw [List.getElem?_append_right (by omega), ht2, List.getElem?_append_left (by omega)]
            exact hk
      · have holds : ∀ (j : Nat) (u : Value), xs[j]? = some u → W.cell? ((⟨g, 0, none⟩ : Addr).add j) = some u := fun j u hj => by rw [Addr.add_lit, Nat.zero_add]; exact hxs g cap rfl j u hj
        have hr := run_append_grow (P := P) W t ty e ti j.zero hu hi hi3 ⟨g, 0, none⟩ n cap xs (by rw [hi1]; exact hx) holds ad m c news (by rw [hi1]; exact hl) hA2 (by omega) (by omega) (growslice_fits (by omega) hbytes)
        refine ⟨_, _, hr, ⟨rfl, rfl, rfl, by simp, .inr ⟨by omega, W.heap.size, _, _, e, rfl, heap_alloc_new W.drew _, grownCap_ge W (n + m) cap e, grownCap_le_maxLen W (n + m) cap e hcapm, ?_, hbase, fun k u hu => ?_, fun k hk hlt => Below.heap_alloc W.drew _ k hlt, .inr rfl⟩⟩⟩
        · refine Nat.le_of_eq ?_
          simp only [Array.size_append, List.size_toArray, size_zeroCells, hzs, hl, hx, ← Nat.add_mul]
          congr 1
          have := grownCap_ge W (n + m) cap e
          omega
        · have hk2 := (List.getElem?_eq_some_iff.1 hu).1
          rw [Array.getElem?_append_left (by simpa using hk2)]
          simpa using hu
/-- A row's new length. -/
theorem RepH.setTk {base : Nat} {Z Z' : Cells} {μ : Mu} {h : PH} {W W' : World} (H : RepH base Z μ h W) {t sz n n' : Nat} {v v' : Value} (ht : lk h.tk t = some (sz, n)) (hv : μ.tk t n = some v) (hn : n ≤ n') (hle : μ.le (μ.setTk t n' v')) (hz : Z.le Z') (hx : TkOk base Z' W' sz n' v')
    {g : Nat} (hg : v'.ownBlock = some g) (hnew : v.ownBlock = some g ∨ g = W.heap.size) (hw : ∀ k, k ≠ g → k < W.heap.size → W'.heap[k]? = W.heap[k]?) (hzz : ∀ k off, k ≠ g → Z ⟨k, off, none⟩ = none → Z' ⟨k, off, none⟩ = none) :
    RepH base Z' (μ.setTk t n' v') ⟨h.bx, (t, (sz, n')) :: h.tk⟩ W' := by
  have hne : ∀ u m, u ≠ t → (μ.setTk t n' v').tk u m = μ.tk u m := fun u m hu => by simp [Mu.setTk, hu]
  have hself : (μ.setTk t n' v').tk t n' = some v' := by simp [Mu.setTk]
  have hlk : ∀ i x, lk ((t, (sz, n')) :: h.tk) i = some x → (i = t ∧ x = (sz, n')) ∨ (i ≠ t ∧ lk h.tk i = some x) := fun i x e => by
    rw [lk_cons] at e
    by_cases hi : t = i
    · rw [if_pos hi] at e; cases e; exact .inl ⟨hi.symm, rfl⟩
    · rw [if_neg hi] at e; exact .inr ⟨fun k => hi k.symm, e⟩
  have bxne : ∀ i x k, lk h.bx i = some x → μ.bx i = some k → k ≠ g := fun i x k hi hk e => by
    subst e
    rcases hnew with h1 | h1
    · exact H.bt i t x sz n v k hi ht hk hv h1
    · obtain ⟨g', hg', hb⟩ := H.bx i x.1 x.2 hi
      rw [hk] at hg'; cases hg'
      have := hb.lt; omega
  have tkne : ∀ u s m x k, u ≠ t → lk h.tk u = some (s, m) → μ.tk u m = some x → x.ownBlock = some k → k ≠ g := fun u s m x k hu hl hx hk e => by
    subst e
    rcases hnew with h1 | h1
    · exact hu (H.tt u t _ _ _ _ _ _ k hl ht hx hv hk h1)
    · obtain ⟨y, hy, hb⟩ := H.tk u s m hl
      rw [hx] at hy; cases hy
      have := (hb.lt hk).1; omega
  refine ⟨fun i t' cs' e => ?_, fun u s m e => ?_, H.bb, fun i j s1 n1 s2 n2 v1 v2 k hi hj h1 h2 => ?_, H.bd, fun i m x e => ?_, fun i m x s1 n1 e e2 => ?_, fun i u x s1 n1 v1 k hi hu h1 h2 => ?_⟩
  · obtain ⟨k, hk, hb⟩ := H.bx i t' cs' e
    have hkg := bxne i _ k e hk
    refine ⟨k, hk, hb.move (hw k hkg hb.lt) hz hle (fun off => ?_)⟩
    obtain ⟨_, _, _, _, _, _, h2⟩ := hb
    exact hzz k off hkg (h2 off)
  · rcases hlk u _ e with ⟨rfl, e2⟩ | ⟨hi, e2⟩
    · cases e2; exact ⟨v', hself, hx⟩
    · obtain ⟨x, h1, h2⟩ := H.tk u s m e2
      exact ⟨x, (hne u _ hi).trans h1, h2.move (fun k hk => ⟨hw k (tkne u s m x k hi e2 h1 hk) (h2.lt hk).1, fun off _ h0 => hzz k off (tkne u s m x k hi e2 h1 hk) h0⟩)⟩
  · rcases hlk i _ hi with ⟨rfl, e1⟩ | ⟨hi1, hi2⟩ <;> rcases hlk j _ hj with ⟨rfl, e2⟩ | ⟨hj1, hj2⟩
    · exact fun _ _ => rfl
    · cases e1; rw [hself] at h1; cases h1; rw [hne j _ hj1] at h2
      intro a b
      rw [hg] at a; cases a
      exact absurd rfl (tkne j _ _ _ _ hj1 hj2 h2 b)
    · cases e2; rw [hself] at h2; cases h2; rw [hne i _ hi1] at h1
      intro a b
      rw [hg] at b; cases b
      exact absurd rfl (tkne i _ _ _ _ hi1 hi2 h1 a)
    · rw [hne i _ hi1] at h1; rw [hne j _ hj1] at h2; exact H.tt i j _ _ _ _ _ _ k hi2 hj2 h1 h2
  · rw [lk_cons]
    by_cases hi : t = i
    · rw [if_pos hi]; exact fun e => by cases e
    · rw [if_neg hi]; rw [hne i _ (fun k => hi k.symm)] at e; exact H.td i m x e
  · rcases hlk i _ e2 with ⟨rfl, e3⟩ | ⟨hi1, hi2⟩
    · cases e3
      simp only [Mu.setTk] at e
      by_cases hm : m = n'
      · omega
      · rw [if_neg (fun k => hm k.2)] at e; have := H.tm _ _ _ _ _ e ht; omega
    · rw [hne i _ hi1] at e; exact H.tm i m x _ _ e hi2
  · rcases hlk u _ hu with ⟨rfl, e1⟩ | ⟨hu1, hu2⟩
    · cases e1; rw [hself] at h2; cases h2; rw [hg]; exact fun e => by cases e; exact bxne i x _ hi h1 rfl
    · rw [hne u _ hu1] at h2; exact H.bt i u x _ _ _ k hi hu2 h1 h2
end Go.Pw
