/- The engine, twenty-first text: a box becomes a row. -/
import Derived.Test.YtkganhdglmbpoaaGreatPw20
set_option linter.unusedVariables false
set_option linter.unusedSimpArgs false
namespace Go.Pw
open Go Go.RowKit
/-- What stands at the head of a box becomes a row that may be appended to. -/
theorem Le.boxRow {S : PS} {e : List (Nat × PV)} {tv id t sz n cap τ : Nat} {cs r : List PV} {es : List (List PV)} (ht : may1 (lk S.env tv) = some (.bs id 0 n cap)) (hl : lk S.h.bx id = some (t, cs)) (hf : freeL cs = true) (hes : cs = es.flatten ++ r) (hn : es.length = n) (hz : ∀ e ∈ es, e.length = sz) (hc : n ≤ cap) (hcm : cap ≤ maxLen) (hcs : cap * sz ≤ cs.length) (hk : KF S e := by repeat (first | exact trivial | refine ⟨⟨rfl, rfl⟩, ?_⟩)) : Le S ⟨(tv, .sl sz es (some τ)) :: e, ⟨[], [(τ, (sz, n))]⟩⟩ := fun cx a W ⟨Z, μ, hzz⟩ => by
  subst hn
  obtain ⟨g, hg, vs, v1, v2, v3, v4, v5, v6⟩ := hzz.h.bx id t cs hl
  obtain ⟨v, hv, hrv⟩ := hzz.env.may1 ht
  have hfl : es.flatten.length = es.length * sz := flat_len hz
  have hle : es.length * sz ≤ vs.length := by rw [v2, hes, List.length_append, hfl]; omega
  have hcell : ∀ (j : Nat) (u : Value), (vs.take (es.length * sz))[j]? = some u → W.cell? ⟨g, j, Option.none⟩ = some u := fun j u hu => by
    have hj : j < es.length * sz := by have := (List.getElem?_eq_some_iff.1 hu).1; rw [List.length_take] at this; omega
    rw [List.getElem?_take_of_lt hj] at hu
    simp [World.cell?, v1, hu]
  cases hrv with
  | bs _ _ _ _ _ g' hg' =>
    rw [hg] at hg'; cases hg'
    have hsub := hzz.sub.add hcell
    have hzle := Cells.le_add Z g (vs.take (es.length * sz))
    have hco : CellsOf (Z.add g (vs.take (es.length * sz))) sz es (vs.take (es.length * sz)) := by
      refine ⟨by rw [List.length_take]; omega, hz, fun u hu => v3 u (List.mem_of_mem_take hu), fun i e j p he hp => ?_⟩
      have hfa := flat_at (r := r) hz he hp
      have hi := (List.getElem?_eq_some_iff.1 he).1
      have hj := (List.getElem?_eq_some_iff.1 hp).1
      rw [hz e (List.mem_of_getElem? he)] at hj
      have hlt := idx_lt hi hj
      rw [← hes] at hfa
      refine ⟨vs[i * sz + j]'(by omega), ?_, ?_⟩
      · rw [List.getElem?_take_of_lt hlt]; exact List.getElem?_eq_getElem _
      · exact ((v4 _ p _ hfa (List.getElem?_eq_getElem (by omega))).drop (freeL_mem hf p (List.mem_of_getElem? hfa))).mono hzle (Mu.le_refl _)
    have hrep := hco.rep (A := some ⟨g, 0, Option.none⟩) (c := cap) hc (fun _ => ⟨_, rfl, fun j u hu => by rw [Addr.add_lit, Nat.zero_add]; exact Cells.add_at hzz.sub hcell j u hu⟩) ⟨fun _ => Option.none, fun u m => if u = τ ∧ m = es.length then some (.slice (some ⟨g, 0, Option.none⟩) es.length cap) else Option.none⟩
    refine ⟨Z.add g (vs.take (es.length * sz)), ⟨fun _ => Option.none, fun u m => if u = τ ∧ m = es.length then some (.slice (some ⟨g, 0, Option.none⟩) es.length cap) else Option.none⟩, ⟨⟨hzz.env.df, hzz.env.sz, fun u q hu => ?_⟩, ⟨fun i t' c' h => (by cases h), fun u s n h => ?_, fun i j x y k h => (by cases h), fun u1 u2 s1 n1 s2 n2 w1 w2 k h1 h2 h3 h4 h5 h6 => ?_, fun i k h => (by cases h), fun u m w h => ?_, fun u m w s m2 h h2 => ?_, fun i u x s m w k h => (by cases h)⟩, hsub, hzz.le.trans ⟨hzle, fun ad u e => (Cells.add_inv e).imp (fun x => x) (fun x => by omega)⟩ (Nat.le_refl _), hzz.below⟩⟩
    · rw [lk_cons] at hu
      split at hu
      · rename_i e; subst e; cases hu
        exact ⟨_, hv, .own _ _ _ _ _ hrep (by simp)⟩
      · obtain ⟨h1, h2⟩ := hk.at_ hu
        obtain ⟨u2, hu2, hr2⟩ := hzz.env.may1 h1
        exact ⟨u2, hu2, ((hr2.drop h2).mono hzle (Mu.le_refl _)).any⟩
    · rw [lk_cons] at h
      split at h
      · rename_i e; subst e; cases h
        refine ⟨_, by simp, .inr ⟨g, cap, vs.toArray, t, rfl, v1, hc, hcm, by simp only [List.size_toArray]; omega, v5, fun off ho => Cells.add_none (v6 off) (fun _ => ?_)⟩⟩
        rw [List.length_take]; omega
      · cases h
    · rw [lk_cons] at h1 h2
      split at h1
      · rename_i e1
        split at h2
        · rename_i e2; exact e1.symm.trans e2
        · cases h2
      · cases h1
    · simp only at h
      split at h
      · rename_i e; rw [e.1, lk_cons, if_pos rfl]; exact fun x => by cases x
      · cases h
    · simp only at h
      split at h
      · rename_i e
        rw [e.1, lk_cons, if_pos rfl] at h2
        cases h2
        rw [e.2]
        exact Nat.le_refl _
      · cases h
section
variable {cx : Cx} [TC cx.P] {S : PS} {o : Oper} {ops : Array Oper} {rest : List Oper} {Q : Post}
/-- A slice literal that is read only. -/
theorem PL.litRo {t n e : Nat} {ps : Array (Nat × Operand)} {es : List (List PV)} {i j : TI} (ho : o.op = .buildSlice t n ps) (hps : partsAre ps n = true) (hes : evL S ps.toList = some es) (ht : lk (TC.T cx.P) t = some i) (hd : i.d = .slice e) (he : lk (TC.T cx.P) e = some j)
    (hl : es.all (fun x => x.length == j.sz) = true) (hf : es.all freeL = true) (hb : Nat.ble (n * j.sz) 16777216 = true) (hn : dstOk cx.n o.dst = true) (hw : Wants cx ops o S true)
    (k : PL cx ops Q rest (S.put o.dst (.sl j.sz es none))) : PL cx ops Q (o :: rest) S :=
  PL.cons hw (K := fun S' => S' = S.put o.dst (.sl j.sz es none)) (fun a W hR K' Q' hK => by
    obtain ⟨Z, μ, hz⟩ := hR
    have hb := Nat.le_of_ble_eq_true hb
    have hl2 : ∀ e ∈ es, e.length = j.sz := fun e he => by simpa using List.all_eq_true.1 hl e he
    obtain ⟨e1, e2, e3⟩ := evL_vals hz ps.toList es hes hl2 (fun e he => List.all_eq_true.1 hf e he)
    have hpr : ps.toList.map (·.1) = List.range n := by simpa [partsAre] using hps
    have hplen : ps.toList.length = n := by have := congrArg List.length hpr; simpa using this
    have hz2 := zipIdx_of_range ps.toList 0 (by rw [hpr, hplen, List.range_eq_range'])
    have hrun := run_lit (P := cx.P) (W := W) ht hd he (ps.toList.map fun q => a.eval q.2) (by simpa using hplen) e2 hb
    show o.upon cx.P a K' Q' _
    have hr : (execOp a.eval o).run cx.P W = .ok (.value (.slice (some ⟨W.heap.size, 0, none⟩) n n)) (W.alloc (.cells ((ps.toList.map fun q => a.eval q.2).flatMap fun v => v.cells.toList).toArray e)) := by
      have hmap : (ps.map fun (q : Nat × Operand) => (q.1, a.eval q.2)) = (((ps.toList.map fun q => a.eval q.2).zipIdx 0).map fun x => (x.2, x.1)).toArray := by
        have h1 : (ps.toList.map fun q => a.eval q.2) = (ps.toList.map (·.2)).map a.eval := by rw [List.map_map]; rfl
        generalize hL : ps.toList.map (·.2) = L at hz2 h1
        apply Array.ext'
        rw [Array.toList_map, h1, hz2, List.map_map, List.zipIdx_map, List.map_map]
        simp [Function.comp_def]
      simp only [execOp, ho]
      have : (ps.map fun (x : Nat × Operand) => match x with | (i, x) => (i, a.eval x)) = (ps.map fun (q : Nat × Operand) => (q.1, a.eval q.2)) := rfl
      rw [this, hmap, Sem.run_bind, hrun]
      rfl
    rw [hr, Oper.upon_value]
    have hbl : Below W.heap.size W (W.alloc (.cells ((ps.toList.map fun q => a.eval q.2).flatMap fun v => v.cells.toList).toArray e)) := (Below.refl _ _).alloc (Nat.le_refl _) _
    have hcell : ∀ (m : Nat) (u : Value), ((ps.toList.map fun q => a.eval q.2).flatMap fun v => v.cells.toList)[m]? = some u → (W.alloc (.cells ((ps.toList.map fun q => a.eval q.2).flatMap fun v => v.cells.toList).toArray e)).cell? ⟨W.heap.size, m, none⟩ = some u := fun m u hu => by
      rw [World.cell?_alloc_new]; simpa using hu
    have hz' := hz.newZ hbl (Nat.le_refl _) hcell
    have hnl : es.length = n := e1.trans hplen
    have h0 := (e3.mono (Cells.le_add Z W.heap.size _)).rep (A := some ⟨W.heap.size, 0, none⟩) (c := n) (by omega) (fun _ => ⟨_, rfl, fun m u hu => by rw [Addr.add_lit, Nat.zero_add]; exact Cells.add_at (hz.sub.grow hbl) hcell m u hu⟩) μ
    rw [hnl] at h0
    exact hK _ _ _ rfl ⟨_, _, hz'.put hn h0⟩) fun S' e => by subst e; exact k
end
end Go.Pw
