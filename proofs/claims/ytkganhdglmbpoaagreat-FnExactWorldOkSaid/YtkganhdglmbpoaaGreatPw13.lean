/- The engine, thirteenth text: struct literals. -/
import Derived.Test.YtkganhdglmbpoaaGreatPw12
import Derived.Laws.Tables
set_option linter.unusedVariables false
set_option linter.unusedSimpArgs false
namespace Go.Pw
open Go Go.RowKit

theorem foldl_splice : ∀ (cs : List Value) (o : Nat) (A : Array Value), o + cs.length ≤ A.size → (cs.zipIdx.foldl (fun (A : Array Value) (x : Value × Nat) => A.setIfInBounds (o + x.2) x.1) A).toList = A.toList.take o ++ (cs ++ A.toList.drop (o + cs.length)) := by
  intro cs
  suffices H : ∀ (cs : List Value) (j o : Nat) (A : Array Value), o + j + cs.length ≤ A.size → ((cs.zipIdx j).foldl (fun (A : Array Value) (x : Value × Nat) => A.setIfInBounds (o + x.2) x.1) A).toList = A.toList.take (o + j) ++ (cs ++ A.toList.drop (o + j + cs.length)) from fun o A h => by simpa using H cs 0 o A (by simpa using h)
  intro cs
  induction cs with
  | nil => intro j o A _; simp
  | cons c cs ih =>
    intro j o A h
    simp only [List.length_cons] at h
    rw [List.zipIdx_cons, List.foldl_cons, ih (j + 1) o _ (by simp; omega)]
    rw [Array.toList_setIfInBounds]
    apply List.ext_getElem?
    intro i
    have hl : (A.toList.set (o + j) c).length = A.size := by simp
    rw [getElem?_splice _ _ _ (by rw [hl]; omega), show A.toList.take (o + j) ++ (c :: cs ++ A.toList.drop (o + j + (c :: cs).length)) = A.toList.take (o + j) ++ ((c :: cs) ++ A.toList.drop (o + j + (c :: cs).length)) from rfl, getElem?_splice _ _ _ (by simp; omega)]
    simp only [List.length_cons]
    by_cases h1 : i = o + j
    · subst h1
      rw [if_neg (by omega), if_pos ⟨by omega, by omega⟩, List.getElem?_set_self (by rw [Array.length_toList]; omega)]
      simp
    · rw [List.getElem?_set_ne (fun e => h1 e.symm)]
      by_cases h2 : o + (j + 1) ≤ i ∧ i < o + (j + 1) + cs.length
      · rw [if_pos h2, if_pos ⟨by omega, by omega⟩, show i - (o + j) = i - (o + (j + 1)) + 1 from by omega, List.getElem?_cons_succ]
      · rw [if_neg h2, if_neg (by omega)]
/-- Cells that stand for these. -/
structure CR (Z : Cells) (μ : Mu) (cs : List PV) (A : Array Value) : Prop where
  len : A.size = cs.length
  one : ∀ u ∈ A.toList, u.oneCell' = true
  rep : ∀ (i : Nat) (p : PV) (v : Value), cs[i]? = some p → A.toList[i]? = some v → Rep Z μ p v
def fillP (T : List (Nat × TI)) (fs : List (Nat × Nat)) (S : PS) : List PV → List (Nat × Operand) → Option (List PV)
  | cs, [] => some cs
  | cs, (i, x) :: r => match fs[i]?, S.ev x with
    | some (off, ft), some p => match cellsOf p, lk T ft with
      | some l, some j => bif Nat.beq l.length j.sz && Nat.ble (off + l.length) cs.length then fillP T fs S (writeC cs off l) r else none
      | _, _ => none
    | _, _ => none
section
variable {cx : Cx} [TC cx.P] {S : PS} {o : Oper}
theorem fillP_ok {a : Act} {W : World} {Z : Cells} {μ : Mu} (hz : RZ cx S a W Z μ) {fs : List (Nat × Nat)} {places : Nat → Option (Nat × Nat)} (hpl : ∀ i off ft j, fs[i]? = some (off, ft) → lk (TC.T cx.P) ft = some j → places i = some (off, j.sz)) :
    ∀ (ps : List (Nat × Operand)) (cs : List PV) (A : Array Value) (out : List PV), CR Z μ cs A → fillP (TC.T cx.P) fs S cs ps = some out → ∃ B, Instr.fill places A (ps.map fun q => (q.1, a.eval q.2)) = some B ∧ CR Z μ out B
  | [], cs, A, out, hA, h => by
    simp only [fillP, Option.some.injEq] at h
    subst h
    exact ⟨A, rfl, hA⟩
  | (i, x) :: r, cs, A, out, hA, h => by
    simp only [fillP] at h
    split at h
    · rename_i off ft p hf hx
      split at h
      · rename_i l j hl hj
        cases hb : Nat.beq l.length j.sz && Nat.ble (off + l.length) cs.length with
        | false => rw [hb] at h; cases h
        | true =>
          rw [hb, cond_true] at h
          rw [Bool.and_eq_true] at hb
          have h1 := Nat.eq_of_beq_eq_true hb.1
          have h2 := Nat.le_of_ble_eq_true hb.2
          obtain ⟨c1, c2, c3⟩ := (hz.ev hx).cells hl
          rw [Array.length_toList] at c1
          have hfold : ((a.eval x).cells.zipIdx.foldl (fun cs (c, j) => cs.setIfInBounds (off + j) c) A).toList = A.toList.take off ++ ((a.eval x).cells.toList ++ A.toList.drop (off + (a.eval x).cells.toList.length)) := by
            rw [← Array.foldl_toList, Array.toList_zipIdx]
            exact foldl_splice _ _ _ (by rw [Array.length_toList, c1, hA.len]; exact h2)
          have hcr : CR Z μ (writeC cs off l) ((a.eval x).cells.zipIdx.foldl (fun cs (c, j) => cs.setIfInBounds (off + j) c) A) := by
            refine ⟨?_, fun u hu => ?_, fun k q v hq hv => ?_⟩
            · rw [← Array.length_toList, hfold]
              simp only [writeC, List.length_append, List.length_take, List.length_drop, Array.length_toList, c1, hA.len]
            · rw [hfold] at hu
              rcases List.mem_append.1 hu with h3 | h3
              · exact hA.one u (List.mem_of_mem_take h3)
              · rcases List.mem_append.1 h3 with h3 | h3
                · exact c2 u h3
                · exact hA.one u (List.mem_of_mem_drop h3)
            · rw [hfold, getElem?_splice _ _ _ (by rw [Array.length_toList, Array.length_toList, c1, hA.len]; exact h2)] at hv
              rw [writeC, getElem?_splice _ _ _ h2] at hq
              rw [Array.length_toList, c1] at hv
              by_cases h3 : off ≤ k ∧ k < off + l.length
              · rw [if_pos h3] at hq hv; exact c3 _ q v hq hv
              · rw [if_neg h3] at hq hv; exact hA.rep k q v hq hv
          obtain ⟨B, hB, hR⟩ := fillP_ok hz hpl r _ _ out hcr h
          refine ⟨B, ?_, hR⟩
          simp only [List.map_cons, Instr.fill, hpl i off ft j hf hj]
          rw [if_neg (by simp only [ne_eq, Bool.or_eq_true, decide_eq_true_eq, not_or, Decidable.not_not]; rw [c1, hA.len]; exact ⟨h1, by omega⟩)]
          exact hB
      · cases h
    · cases h
theorem OpV.build {t : Nat} {parts : Array (Nat × Operand)} {i : TI} {fs : List (Nat × Nat)} {out : List PV} (ho : o.op = .build t parts) (ht : lk (TC.T cx.P) t = some i) (hd : i.d = .struct fs) (hall : fs.all (fun f => match lk (TC.T cx.P) f.2 with | some _ => true | none => false) = true) (h1 : i.zero.cells.toList.all Value.oneCell' = true)
    (hf : fillP (TC.T cx.P) fs S (i.zero.cells.toList.map .lit) parts.toList = some out) : OpV cx o S (.agg out) := fun a W Z μ hz => by
  have hi := TC.at_ ht
  obtain ⟨ti, hinfo, hsz, _, hzero⟩ := hi.info
  have hu := hi.und
  rw [hd] at hu
  obtain ⟨F, hF, hm⟩ := hu
  have hplaces : ∃ places : List (Nat × Nat), F.toList.mapM (fun f => (cx.P.info? f.type).map fun i => (f.offset, i.size)) = some places ∧ ∀ (k off ft : Nat) (j : TI), fs[k]? = some (off, ft) → lk (TC.T cx.P) ft = some j → places[k]? = some (off, j.sz) := by
    rw [← hm] at hall ⊢
    generalize F.toList = L at hall ⊢
    induction L with
    | nil => exact ⟨[], rfl, fun k off ft j h => by simp at h⟩
    | cons f r ih =>
      rw [List.map_cons, List.all_cons, Bool.and_eq_true] at hall
      obtain ⟨places, e1, e2⟩ := ih hall.2
      cases hlk : lk (TC.T cx.P) f.type with
      | none => have := hall.1; simp only [hlk] at this; cases this
      | some j =>
        obtain ⟨tj, hj1, hj2, _⟩ := (TC.at_ hlk).info
        refine ⟨(f.offset, tj.size) :: places, by simp [List.mapM_cons, hj1, e1], fun k off ft j' hk hj' => ?_⟩
        cases k with
        | zero =>
          simp at hk
          obtain ⟨rfl, rfl⟩ := hk
          rw [hlk] at hj'; cases hj'
          simp [hj2]
        | succ k => simpa using e2 k off ft j' (by simpa using hk) hj'
  obtain ⟨places, hp1, hp2⟩ := hplaces
  have hcr : CR Z μ (i.zero.cells.toList.map .lit) i.zero.cells := ⟨by simp, fun u hu => by simpa using List.all_eq_true.1 h1 u hu, fun k p v hp hv => by
    rw [List.getElem?_map, hv] at hp
    cases hp
    exact .lit _ _⟩
  obtain ⟨B, hB, hR⟩ := fillP_ok (places := fun k => places[k]?) hz (fun k off ft j h1 h2 => hp2 k off ft j h1 h2) parts.toList _ _ out hcr hf
  refine ⟨.agg B, ?_, ?_⟩
  · have hb : cx.P.built t (parts.map fun q => (q.1, a.eval q.2)).toList = some B := by
      unfold Program.built
      rw [hinfo, hF]
      simp only [hzero, hp1]
      simpa using hB
    have := run_build W t _ B hb
    simp only [execOp, ho]
    simp [this]
  · have hsz' := hR.len
    have hlist : (⟨B.toList⟩ : Array Value) = B := rfl
    rw [← hlist]
    exact .agg _ out B.toList (by rw [Array.length_toList]; exact hsz'.symm) hR.one hR.rep
end

/-! States with boxes. -/
def okB (B : List Nat) : PV → Bool
  | .bx id _ => B.contains id
  | .bs id _ _ _ => B.contains id
  | .ord i j => B.contains i && B.contains j
  | p => free p
def KFB (B : List Nat) (S : PS) : List (Nat × PV) → Prop
  | [] => True
  | (t, q) :: r => (may1 (lk S.env t) = some q ∧ okB B q = true) ∧ KFB B S r
def KBF (S : PS) : List (Nat × (Nat × List PV)) → Prop
  | [] => True
  | (id, x) :: r => (lk S.h.bx id = some x ∧ freeL x.2 = true) ∧ KBF S r
theorem okB_k1 {B : List Nat} {F : Fz} {S : PS} : ∀ {q : PV}, okB B q = true → K1 B F S q q []
  | .bx id off, h => .bx id off h
  | .bs id off n c, h => .bs id off n c h
  | .lit v, h => .f (.same _ h)
  | .agg l, h => .f (.same _ h)
  | .tup l, h => .f (.same _ h)
  | .sl a b c, h => .f (.same _ h)
  | .rp l, h => .f (.same _ h)
  | .fn a b, h => .f (.same _ h)
  | .may a b c, h => .f (.same _ h)
  | .ord i j, h => .ord i j (by simpa [okB] using h)
  | .junk, h => .f (.same _ h)
theorem KFB.ke {B : List Nat} {F : Fz} {S : PS} : ∀ {e : List (Nat × PV)}, KFB B S e → KE B F S e []
  | [], _ => .nil
  | (t, q) :: r, h => by
    have := KE.cons (L := []) (L' := []) h.1.1 (.leaf (okB_k1 (F := F) h.1.2)) (KFB.ke h.2)
    exact this
theorem freeL_k1 {B : List Nat} {F : Fz} {S : PS} : ∀ {l : List PV}, freeL l = true → K1L B F S l l []
  | [], _ => .nil
  | p :: r, h => by
    simp only [freeL, Bool.and_eq_true] at h
    have := K1L.cons (L := []) (L' := []) (.f (.same p h.1)) (freeL_k1 (B := B) (F := F) (S := S) h.2)
    exact this
theorem KBF.kb {B : List Nat} {F : Fz} {S : PS} : ∀ {b : List (Nat × (Nat × List PV))}, KBF S b → KB B F S b []
  | [], _ => .nil
  | (id, (t, cs)) :: r, h => by
    have := KB.cons (L := []) (L' := []) h.1.1 (freeL_k1 (B := B) (F := F) h.1.2) (KBF.kb h.2)
    exact this
theorem Le.boxes {S : PS} {e : List (Nat × PV)} {b : List (Nat × (Nat × List PV))} (hb : KBF S b := by repeat (first | exact trivial | refine ⟨⟨rfl, rfl⟩, ?_⟩)) (h : KFB (b.map (·.1)) S e := by repeat (first | exact trivial | refine ⟨⟨rfl, rfl⟩, ?_⟩)) : Le S ⟨e, ⟨b, []⟩⟩ :=
  Le.keep (L := []) (L' := []) _ hb.kb h.ke rfl (by simp) (by simp)
theorem Le.rowBoxes {S : PS} {e : List (Nat × PV)} {b : List (Nat × (Nat × List PV))} {tv sz t τ : Nat} {es es' : List (List PV)} (hb : KBF S b) (h : KFB (b.map (·.1)) S e) (hr : may1 (lk S.env tv) = some (.sl sz es' (some t))) (ht : lk S.h.tk t = some (sz, es'.length)) (hes : es' = es) : Le S ⟨(tv, .sl sz es (some τ)) :: e, ⟨b, [(τ, (sz, es.length))]⟩⟩ := by
  subst hes
  exact Le.keep (L := [(τ, ((sz, es'.length), some t))]) (L' := []) _ hb.kb (.cons (L' := []) hr (.leaf (.f (.row sz es' t τ ht))) h.ke) rfl (by simp) (by simp)
theorem Le.trans {S S' S'' : PS} (h : Le S S') (k : Le S' S'') : Le S S'' := fun cx a W hr => k cx a W (h cx a W hr)
/-- A box that is no more written becomes cells that stay. -/
theorem Le.freeze {S : PS} {e : List (Nat × PV)} {b : List (Nat × (Nat × List PV))} (id t : Nat) (cs : List PV) (hl : lk S.h.bx id = some (t, cs)) (hn : (b.map (·.1)).contains id = false) (hf : freeL cs = true) (hb : KBF S b) (h : KE (b.map (·.1)) (some (id, (t, cs))) S e []) : Le S ⟨e, ⟨b, []⟩⟩ :=
  Le.keepF (L := []) (L' := []) _ (some (id, (t, cs))) (fun _ _ _ hh => by cases hh; exact ⟨hl, hn, hf⟩) hb.kb h rfl (by simp) (by simp)
theorem PL.le {cx : Cx} {ops : Array Oper} {Q : Post} {l : List Oper} {S S' : PS} (hw : Le S S') (h : PL cx ops Q l S') : PL cx ops Q l S := fun a W hr => h a W (hw cx a W hr)
end Go.Pw
