/- The engine, fourth text: operations that make memory, or write into what the call owns; calls; the end. -/
import Derived.Test.YtkganhdglmbpoaaGreatPw3
set_option linter.unusedVariables false
set_option linter.unusedSimpArgs false
namespace Go.Pw
open Go Go.RowKit

theorem Sub.lt {Z : Cells} {W : World} (h : Sub Z W) {a : Addr} {v : Value} (e : Z a = some v) : a.block < W.heap.size := World.block_lt_of_cell? W a (h a v e)
theorem lt_of_heap {W : World} {g : Nat} {o : Obj} (h : W.heap[g]? = some o) : g < W.heap.size := (Array.getElem?_eq_some_iff.1 h).1
theorem BxOk.lt {base : Nat} {Z : Cells} {μ : Mu} {W : World} {t : Nat} {cs : List PV} {g : Nat} (h : BxOk base Z μ W t cs g) : g < W.heap.size := by
  obtain ⟨vs, hh, _⟩ := h; exact lt_of_heap hh
theorem BxOk.move {base : Nat} {Z Z' : Cells} {μ μ' : Mu} {W W' : World} {t : Nat} {cs : List PV} {g : Nat} (h : BxOk base Z μ W t cs g) (hw : W'.heap[g]? = W.heap[g]?) (hz : Z.le Z') (hm : μ.le μ') (hn : ∀ off, Z' ⟨g, off, none⟩ = none) : BxOk base Z' μ' W' t cs g := by
  obtain ⟨vs, hh, hl, h1, hr, hb, _⟩ := h
  exact ⟨vs, hw.trans hh, hl, h1, fun i p v a b => (hr i p v a b).mono hz hm, hb, hn⟩
theorem TkOk.lt {base : Nat} {Z : Cells} {W : World} {sz n : Nat} {v : Value} (h : TkOk base Z W sz n v) {g : Nat} (e : v.ownBlock = some g) : g < W.heap.size ∧ base ≤ g := by
  rcases h with ⟨rfl, _⟩ | ⟨g', cap, cur, t, rfl, hh, _, _, _, hb, _⟩
  · simp [Value.ownBlock] at e
  · simp [Value.ownBlock] at e; subst e; exact ⟨lt_of_heap hh, hb⟩
theorem TkOk.move {base : Nat} {Z Z' : Cells} {W W' : World} {sz n : Nat} {v : Value} (h : TkOk base Z W sz n v) (hw : ∀ g, v.ownBlock = some g → W'.heap[g]? = W.heap[g]? ∧ ∀ off, n * sz ≤ off → Z ⟨g, off, none⟩ = none → Z' ⟨g, off, none⟩ = none) : TkOk base Z' W' sz n v := by
  rcases h with h | ⟨g, cap, cur, t, rfl, hh, h1, h2, h3, hb, h4⟩
  · exact .inl h
  · obtain ⟨e, k⟩ := hw g rfl
    exact .inr ⟨g, cap, cur, t, rfl, e.trans hh, h1, h2, h3, hb, fun off ho => k off ho (h4 off ho)⟩
/-- The world has grown: what was there stays; what stays anew lies in new blocks. -/
theorem RepH.grow {base : Nat} {Z Z' : Cells} {μ : Mu} {h : PH} {W W' : World} (H : RepH base Z μ h W) (hb : Below W.heap.size W W') (hz : Z.le Z') (hn : ∀ a v, Z' a = some v → Z a = some v ∨ W.heap.size ≤ a.block) : RepH base Z' μ h W' where
  bx id t cs e := by
    obtain ⟨g, hg, hx⟩ := H.bx id t cs e
    have hlt := hx.lt
    refine ⟨g, hg, hx.move (hb.block g hlt) hz (Mu.le_refl _) (fun off => ?_)⟩
    cases e2 : Z' ⟨g, off, none⟩ with
    | none => rfl
    | some v =>
      rcases hn _ v e2 with h1 | h1
      · obtain ⟨_, _, _, _, _, _, h2⟩ := hx; rw [h2 off] at h1; cases h1
      · exact absurd h1 (by simp; omega)
  tk t sz n e := by
    obtain ⟨v, hv, hx⟩ := H.tk t sz n e
    refine ⟨v, hv, hx.move (fun g hg => ⟨hb.block g (hx.lt hg).1, fun off ho h0 => ?_⟩)⟩
    have hlt := (hx.lt hg).1
    cases e2 : Z' ⟨g, off, none⟩ with
    | none => rfl
    | some v =>
      rcases hn _ v e2 with h1 | h1
      · rw [h0] at h1; cases h1
      · exact absurd h1 (by simp; omega)
  bb := H.bb
  tt := H.tt
  bd := H.bd
  td := H.td
  tm := H.tm
  bt := H.bt
theorem Sub.grow {Z : Cells} {W W' : World} (h : Sub Z W) (hb : Below W.heap.size W W') : Sub Z W' := fun a v e => (hb.cell (h.lt e)).trans (h a v e)
theorem RZ.grow {cx : Cx} {S : PS} {a : Act} {W W' : World} {Z Z' : Cells} {μ : Mu} (h : RZ cx S a W Z μ) (hb : Below W.heap.size W W') (hz : Z.le Z') (hn : ∀ a v, Z' a = some v → Z a = some v ∨ W.heap.size ≤ a.block) (hs : Sub Z' W') : RZ cx S a W' Z' μ :=
  ⟨h.env.mono hz (Mu.le_refl _), h.h.grow hb hz hn, hs, h.le.trans ⟨hz, hn⟩ h.below.size, h.below.trans (hb.mono h.below.size)⟩
def Mu.setBx (μ : Mu) (id g : Nat) : Mu := ⟨fun i => if i = id then some g else μ.bx i, μ.tk⟩
def Mu.setTk (μ : Mu) (t n : Nat) (v : Value) : Mu := ⟨μ.bx, fun u m => if u = t ∧ m = n then some v else μ.tk u m⟩
theorem RepH.bxFree {base : Nat} {Z : Cells} {μ : Mu} {h : PH} {W : World} (H : RepH base Z μ h W) {id : Nat} (e : lk h.bx id = none) : μ.bx id = none := by
  cases hb : μ.bx id with
  | none => rfl
  | some g => exact absurd e (H.bd id g hb)
theorem RepH.tkFree {base : Nat} {Z : Cells} {μ : Mu} {h : PH} {W : World} (H : RepH base Z μ h W) {t : Nat} (e : lk h.tk t = none) (n : Nat) : μ.tk t n = none := by
  cases hb : μ.tk t n with
  | none => rfl
  | some g => exact absurd e (H.td t n g hb)
theorem Mu.setBx_le {μ : Mu} {id g : Nat} (h : μ.bx id = none) : μ.le (μ.setBx id g) := ⟨fun i k e => by
  simp only [Mu.setBx]
  by_cases hi : i = id
  · subst hi; rw [h] at e; cases e
  · rw [if_neg hi]; exact e, fun _ _ _ e => e⟩
theorem Mu.setTk_le {μ : Mu} {t n : Nat} {v : Value} (h : ∀ u, μ.tk t n = some u → u = v) : μ.le (μ.setTk t n v) := ⟨fun _ _ e => e, fun u m x e => by
  simp only [Mu.setTk]
  by_cases hu : u = t ∧ m = n
  · obtain ⟨rfl, rfl⟩ := hu; rw [if_pos ⟨rfl, rfl⟩, h x e]
  · rw [if_neg hu]; exact e⟩
theorem RepH.addBx {base : Nat} {Z : Cells} {μ : Mu} {h : PH} {W : World} (H : RepH base Z μ h W) {id g t : Nat} {cs : List PV} (hid : lk h.bx id = none) (hx : BxOk base Z (μ.setBx id g) W t cs g)
    (hg : ∀ i x, lk h.bx i = some x → μ.bx i ≠ some g) (ht : ∀ u sz n v, lk h.tk u = some (sz, n) → μ.tk u n = some v → v.ownBlock ≠ some g) : RepH base Z (μ.setBx id g) ⟨(id, (t, cs)) :: h.bx, h.tk⟩ W := by
  have hle := Mu.setBx_le (g := g) (H.bxFree hid)
  have hne : ∀ i, i ≠ id → (μ.setBx id g).bx i = μ.bx i := fun i hi => by simp [Mu.setBx, hi]
  have hself : (μ.setBx id g).bx id = some g := by simp [Mu.setBx]
  have hlk : ∀ i x, lk ((id, (t, cs)) :: h.bx) i = some x → (i = id ∧ x = (t, cs)) ∨ (i ≠ id ∧ lk h.bx i = some x) := fun i x e => by
    rw [lk_cons] at e
    by_cases hi : id = i
    · rw [if_pos hi] at e; cases e; exact .inl ⟨hi.symm, rfl⟩
    · rw [if_neg hi] at e; exact .inr ⟨fun k => hi k.symm, e⟩
  refine ⟨fun i t' cs' e => ?_, fun u sz n e => ?_, fun i j x y k hi hj h1 h2 => ?_, H.tt, fun i k e => ?_, H.td, H.tm, fun i u x sz n v k hi hu h1 h2 => ?_⟩
  · rcases hlk i _ e with ⟨rfl, e2⟩ | ⟨hi, e2⟩
    · cases e2; exact ⟨g, hself, hx⟩
    · obtain ⟨k, hk, hb⟩ := H.bx i t' cs' e2
      refine ⟨k, (hne i hi).trans hk, hb.move rfl (Cells.le_refl _) hle ?_⟩
      obtain ⟨_, _, _, _, _, _, h2⟩ := hb
      exact h2
  · exact H.tk u sz n e
  · rcases hlk i _ hi with ⟨rfl, _⟩ | ⟨hi1, hi2⟩ <;> rcases hlk j _ hj with ⟨rfl, _⟩ | ⟨hj1, hj2⟩
    · rfl
    · rw [hself] at h1; cases h1; rw [hne j hj1] at h2; exact absurd h2 (hg j _ hj2)
    · rw [hself] at h2; cases h2; rw [hne i hi1] at h1; exact absurd h1 (hg i _ hi2)
    · rw [hne i hi1] at h1; rw [hne j hj1] at h2; exact H.bb i j _ _ k hi2 hj2 h1 h2
  · rw [lk_cons]
    by_cases hi : id = i
    · rw [if_pos hi]; exact fun e => by cases e
    · rw [if_neg hi]; rw [hne i (fun k => hi k.symm)] at e; exact H.bd i k e
  · rcases hlk i _ hi with ⟨rfl, _⟩ | ⟨hi1, hi2⟩
    · rw [hself] at h1; cases h1; exact ht u sz n v hu h2
    · rw [hne i hi1] at h1; exact H.bt i u x sz n v k hi2 hu h1 h2
theorem RepH.addTk {base : Nat} {Z : Cells} {μ : Mu} {h : PH} {W : World} (H : RepH base Z μ h W) {t sz n : Nat} {v : Value} (hid : lk h.tk t = none) (hx : TkOk base Z W sz n v)
    (hg : ∀ i x k, lk h.bx i = some x → μ.bx i = some k → v.ownBlock ≠ some k) (ht : ∀ u sz' n' v' k, lk h.tk u = some (sz', n') → μ.tk u n' = some v' → v'.ownBlock = some k → v.ownBlock ≠ some k) : RepH base Z (μ.setTk t n v) ⟨h.bx, (t, (sz, n)) :: h.tk⟩ W := by
  have hle := Mu.setTk_le (μ := μ) (t := t) (n := n) (v := v) (fun u e => by rw [H.tkFree hid] at e; cases e)
  have hne : ∀ u m, u ≠ t → (μ.setTk t n v).tk u m = μ.tk u m := fun u m hu => by simp [Mu.setTk, hu]
  have hself : (μ.setTk t n v).tk t n = some v := by simp [Mu.setTk]
  have hlk : ∀ i x, lk ((t, (sz, n)) :: h.tk) i = some x → (i = t ∧ x = (sz, n)) ∨ (i ≠ t ∧ lk h.tk i = some x) := fun i x e => by
    rw [lk_cons] at e
    by_cases hi : t = i
    · rw [if_pos hi] at e; cases e; exact .inl ⟨hi.symm, rfl⟩
    · rw [if_neg hi] at e; exact .inr ⟨fun k => hi k.symm, e⟩
  refine ⟨fun i t' cs' e => ?_, fun u sz n e => ?_, H.bb, fun i j s1 n1 s2 n2 v1 v2 k hi hj h1 h2 => ?_, H.bd, fun i m x e => ?_, fun i m x s1 n1 e e2 => ?_, fun i u x s1 n1 v1 k hi hu h1 h2 => ?_⟩
  · obtain ⟨k, hk, hb⟩ := H.bx i t' cs' e
    refine ⟨k, hk, hb.move rfl (Cells.le_refl _) hle ?_⟩
    obtain ⟨_, _, _, _, _, _, h2⟩ := hb
    exact h2
  · rcases hlk u _ e with ⟨rfl, e2⟩ | ⟨hi, e2⟩
    · cases e2; exact ⟨v, hself, hx⟩
    · obtain ⟨x, h1, h2⟩ := H.tk u sz n e2
      exact ⟨x, (hne u _ hi).trans h1, h2⟩
  · rcases hlk i _ hi with ⟨rfl, e1⟩ | ⟨hi1, hi2⟩ <;> rcases hlk j _ hj with ⟨rfl, e2⟩ | ⟨hj1, hj2⟩
    · exact fun _ _ => rfl
    · cases e1; rw [hself] at h1; cases h1; rw [hne j _ hj1] at h2
      exact fun a b => absurd a (ht j _ _ _ k hj2 h2 b)
    · cases e2; rw [hself] at h2; cases h2; rw [hne i _ hi1] at h1
      exact fun a b => absurd b (ht i _ _ _ k hi2 h1 a)
    · rw [hne i _ hi1] at h1; rw [hne j _ hj1] at h2; exact H.tt i j _ _ _ _ _ _ k hi2 hj2 h1 h2
  · rw [lk_cons]
    by_cases hi : t = i
    · rw [if_pos hi]; exact fun e => by cases e
    · rw [if_neg hi]; rw [hne i _ (fun k => hi k.symm)] at e; exact H.td i m x e
  · rcases hlk i _ e2 with ⟨rfl, e3⟩ | ⟨hi1, hi2⟩
    · cases e3
      simp only [Mu.setTk] at e
      by_cases hm : m = n
      · omega
      · rw [if_neg (fun k => hm k.2), H.tkFree hid] at e; cases e
    · rw [hne i _ hi1] at e; exact H.tm i m x _ _ e hi2
  · rcases hlk u _ hu with ⟨rfl, e1⟩ | ⟨hu1, hu2⟩
    · cases e1; rw [hself] at h2; cases h2; exact hg i x k hi h1
    · rw [hne u _ hu1] at h2; exact H.bt i u x _ _ _ k hi hu2 h1 h2

/-! A new variable. -/
def cellsOf : PV → Option (List PV)
  | .agg l => some l
  | .lit v => bif v.oneCell' then some [.lit v] else none
  | .tup _ => none
  | .junk => none
  | .may _ _ _ => none
  | .ord _ _ => none
  | p => some [p]
theorem Rep.cells {Z : Cells} {μ : Mu} {p : PV} {v : Value} (h : Rep Z μ p v) {l : List PV} (e : cellsOf p = some l) : v.cells.toList.length = l.length ∧ (∀ u ∈ v.cells.toList, u.oneCell' = true) ∧ ∀ (i : Nat) (q : PV) (u : Value), l[i]? = some q → v.cells.toList[i]? = some u → Rep Z μ q u := by
  have one : ∀ {p : PV} {v : Value}, Rep Z μ p v → v.cells = #[v] → v.oneCell' = true → v.cells.toList.length = [p].length ∧ (∀ u ∈ v.cells.toList, u.oneCell' = true) ∧ ∀ (i : Nat) (q : PV) (u : Value), [p][i]? = some q → v.cells.toList[i]? = some u → Rep Z μ q u := by
    intro p v h hc h1
    rw [hc]
    refine ⟨rfl, fun u hu => by simp at hu; subst hu; exact h1, fun i q u hq hu => ?_⟩
    cases i with
    | zero => simp at hq hu; subst hq; subst hu; exact h
    | succ i => simp at hq
  cases p with
  | lit w =>
    have hv := h.lit_inv
    subst hv
    simp only [cellsOf] at e
    cases hb : v.oneCell' with
    | false => rw [hb] at e; cases e
    | true =>
      rw [hb] at e; cases e
      refine one h ?_ hb
      cases v <;> first | rfl | cases hb
  | agg l' =>
    cases e
    generalize hv : v = v' at h
    cases h with
    | agg _ _ cs hl h1 h => exact ⟨by simp [Value.cells, hl], fun u hu => h1 u (by simpa [Value.cells] using hu), fun i q u hq hu => h i q u hq (by simpa [Value.cells] using hu)⟩
  | tup l' => cases e
  | sl sz es q =>
    cases e
    obtain ⟨A, c, val, hv, _⟩ := h.sl_inv
    subst hv
    exact one h rfl rfl
  | rp l' =>
    cases e
    generalize hv : v = v' at h
    cases h with
    | rp _ _ ad val a b c => exact one (.rp _ _ ad val a b c) rfl rfl
  | bx id off =>
    cases e
    generalize hv : v = v' at h
    cases h with
    | bx _ _ _ g a => exact one (.bx _ _ _ g a) rfl rfl
  | bs id off n cap =>
    cases e
    generalize hv : v = v' at h
    cases h with
    | bs _ _ _ _ _ g a => exact one (.bs _ _ _ _ _ g a) rfl rfl
  | fn f l' =>
    cases e
    generalize hv : v = v' at h
    cases h with
    | fn _ _ _ cs a b => exact one (.fn _ _ _ cs a b) rfl rfl
  | may c q r => cases e
  | ord i j => cases e
  | junk => cases e
/-- The world with a block more. -/
theorem RZ.alloc {cx : Cx} {S : PS} {a : Act} {W : World} {Z : Cells} {μ : Mu} (h : RZ cx S a W Z μ) (o : Obj) : RZ cx S a (W.alloc o) Z μ :=
  have hb : Below W.heap.size W (W.alloc o) := (Below.refl _ _).alloc (Nat.le_refl _) o
  h.grow hb (Cells.le_refl _) (fun a v e => .inl e) (h.sub.grow hb)
theorem RZ.newBx {cx : Cx} {S : PS} {a : Act} {W : World} {Z : Cells} {μ : Mu} (h : RZ cx S a W Z μ) {d t : Nat} {cs : List PV} {vs : Array Value} (hd : lk S.h.bx d = none) (hn : d < cx.n) (hl : vs.toList.length = cs.length) (h1 : ∀ u ∈ vs.toList, u.oneCell' = true)
    (hr : ∀ (i : Nat) (q : PV) (u : Value), cs[i]? = some q → vs.toList[i]? = some u → Rep Z μ q u) :
    R cx ⟨(d, .bx d 0) :: S.env, ⟨(d, (t, cs)) :: S.h.bx, S.h.tk⟩⟩ (a.put (some d) (.pointer (some ⟨W.heap.size, 0, none⟩))) (W.alloc (.cells vs t)) := by
  have h' := h.alloc (.cells vs t)
  have hle := Mu.setBx_le (g := W.heap.size) (h.h.bxFree hd)
  refine ⟨Z, μ.setBx d W.heap.size, ⟨(h'.env.mono (Cells.le_refl _) hle).put hn (.bx _ d 0 W.heap.size (by simp [Mu.setBx])), ?_, h'.sub, h'.le, h'.below⟩⟩
  refine h'.h.addBx hd ⟨vs.toList, by rw [Array.toArray_toList]; exact heap_alloc_new W _, hl, h1, fun i q u a b => (hr i q u a b).mono (Cells.le_refl _) hle, h.below.size, fun off => ?_⟩ (fun i x e he => ?_) (fun u sz n v e he hv => ?_)
  · cases e : Z ⟨W.heap.size, off, none⟩ with
    | none => rfl
    | some v => exact absurd (h.sub.lt e) (by simp)
  · obtain ⟨g, hg, hb⟩ := h.h.bx i x.1 x.2 e
    rw [he] at hg; cases hg
    exact absurd hb.lt (Nat.lt_irrefl _)
  · obtain ⟨v', hv', hb⟩ := h.h.tk u sz n e
    rw [he] at hv'; cases hv'
    exact absurd (hb.lt hv).1 (Nat.lt_irrefl _)
section
variable {cx : Cx} [TC cx.P] {S : PS} {o : Oper} {ops : Array Oper} {rest : List Oper} {Q : Post}
omit [TC cx.P] in
theorem PL.box {x : Operand} {t d : Nat} {p : PV} {l : List PV} (ho : o.op = .box t x) (hdst : o.dst = some d) (hx : S.ev x = some p) (hl : cellsOf p = some l) (hf : lk S.h.bx d = none) (hn : dstOk cx.n (some d) = true) (hw : Wants cx ops o S true)
    (k : PL cx ops Q rest ⟨(d, .bx d 0) :: S.env, ⟨(d, (t, l)) :: S.h.bx, S.h.tk⟩⟩) : PL cx ops Q (o :: rest) S :=
  PL.cons hw (K := fun S' => S' = ⟨(d, .bx d 0) :: S.env, ⟨(d, (t, l)) :: S.h.bx, S.h.tk⟩⟩) (fun a W hR K' Q hK => by
    obtain ⟨Z, μ, hz⟩ := hR
    obtain ⟨h1, h2, h3⟩ := (hz.ev hx).cells hl
    show o.upon cx.P a K' Q _
    have hr : (execOp a.eval o).run cx.P W = .ok (.value (.pointer (some ⟨W.heap.size, 0, none⟩))) (W.alloc (.cells (a.eval x).cells t)) := by
      simp only [execOp, ho]
      simp [Instr.box, newVar, newRow]
    rw [hr]
    rw [Oper.upon_value, hdst]
    exact hK _ _ _ rfl (hz.newBx hf (by simpa [dstOk, Nat.blt_eq] using hn) h1 h2 h3)) fun S' e => by subst e; exact k
theorem PL.alloc {t d : Nat} {i : TI} (ho : o.op = .alloc t) (hdst : o.dst = some d) (ht : lk (TC.T cx.P) t = some i) (h1 : i.zero.cells.toList.all Value.oneCell' = true) (hf : lk S.h.bx d = none) (hn : dstOk cx.n (some d) = true) (hw : Wants cx ops o S true)
    (k : PL cx ops Q rest ⟨(d, .bx d 0) :: S.env, ⟨(d, (t, i.zero.cells.toList.map .lit)) :: S.h.bx, S.h.tk⟩⟩) : PL cx ops Q (o :: rest) S :=
  PL.cons hw (K := fun S' => S' = ⟨(d, .bx d 0) :: S.env, ⟨(d, (t, i.zero.cells.toList.map .lit)) :: S.h.bx, S.h.tk⟩⟩) (fun a W hR K' Q hK => by
    obtain ⟨Z, μ, hz⟩ := hR
    show o.upon cx.P a K' Q _
    have hr : (execOp a.eval o).run cx.P W = .ok (.value (.pointer (some ⟨W.heap.size, 0, none⟩))) (W.alloc (.cells i.zero.cells t)) := by
      simp only [execOp, ho]
      simp [Instr.alloc, newVar, newRow, (TC.at_ ht).zero]
    rw [hr]
    rw [Oper.upon_value, hdst]
    refine hK _ _ _ rfl (hz.newBx hf (by simpa [dstOk, Nat.blt_eq] using hn) (by simp) (fun u hu => List.all_eq_true.1 h1 u hu) (fun j q u hq hu => ?_))
    rw [List.getElem?_map, hu] at hq
    cases hq
    exact .lit _ _) fun S' e => by subst e; exact k
end

/-! A store into a variable of the call's own. -/
def writeC (cs : List PV) (off : Nat) (l : List PV) : List PV := cs.take off ++ (l ++ cs.drop (off + l.length))
theorem getElem?_splice {α : Type} (xs l : List α) (off : Nat) (h : off + l.length ≤ xs.length) (i : Nat) : (xs.take off ++ (l ++ xs.drop (off + l.length)))[i]? = if off ≤ i ∧ i < off + l.length then l[i - off]? else xs[i]? := by
  have hto : (xs.take off).length = off := by rw [List.length_take]; omega
  by_cases h1 : i < off
  · rw [if_neg (by omega), List.getElem?_append_left (by omega), List.getElem?_take_of_lt h1]
  · rw [List.getElem?_append_right (by omega), hto]
    by_cases h2 : i < off + l.length
    · rw [if_pos ⟨by omega, h2⟩, List.getElem?_append_left (by omega)]
    · rw [if_neg (by omega), List.getElem?_append_right (by omega), List.getElem?_drop]
      congr 1
      omega
theorem RepH.setBx {base : Nat} {Z : Cells} {μ : Mu} {h : PH} {W W' : World} (H : RepH base Z μ h W) {id t g : Nat} {cs cs' : List PV} (hid : lk h.bx id = some (t, cs)) (hg : μ.bx id = some g) (hx : BxOk base Z μ W' t cs' g)
    (hw : ∀ k, k ≠ g → W'.heap[k]? = W.heap[k]?) : RepH base Z μ ⟨(id, (t, cs')) :: h.bx, h.tk⟩ W' := by
  have hlk : ∀ i x, lk ((id, (t, cs')) :: h.bx) i = some x → (i = id ∧ x = (t, cs')) ∨ (i ≠ id ∧ lk h.bx i = some x) := fun i x e => by
    rw [lk_cons] at e
    by_cases hi : id = i
    · rw [if_pos hi] at e; cases e; exact .inl ⟨hi.symm, rfl⟩
    · rw [if_neg hi] at e; exact .inr ⟨fun k => hi k.symm, e⟩
  have hsome : ∀ i x, lk ((id, (t, cs')) :: h.bx) i = some x → ∃ y, lk h.bx i = some y := fun i x e => by
    rcases hlk i x e with ⟨rfl, _⟩ | ⟨_, e⟩
    · exact ⟨_, hid⟩
    · exact ⟨_, e⟩
  refine ⟨fun i t' cs2 e => ?_, fun u sz n e => ?_, fun i j x y k hi hj h1 h2 => ?_, H.tt, fun i k e => ?_, H.td, H.tm, fun i u x sz n v k hi hu h1 h2 => ?_⟩
  · rcases hlk i _ e with ⟨rfl, e2⟩ | ⟨hi, e2⟩
    · cases e2; exact ⟨g, hg, hx⟩
    · obtain ⟨k, hk, hb⟩ := H.bx i t' cs2 e2
      refine ⟨k, hk, hb.move (hw k (fun e => ?_)) (Cells.le_refl _) (Mu.le_refl _) ?_⟩
      · subst e; exact hi (H.bb i id _ _ k e2 hid hk hg)
      · obtain ⟨_, _, _, _, _, _, h2⟩ := hb; exact h2
  · obtain ⟨v, hv, hb⟩ := H.tk u sz n e
    refine ⟨v, hv, hb.move (fun k hk => ⟨hw k (fun e => ?_), fun _ _ e => e⟩)⟩
    subst e; exact H.bt id u _ sz n v k hid e hg hv hk
  · obtain ⟨x', hi'⟩ := hsome i x hi
    obtain ⟨y', hj'⟩ := hsome j y hj
    exact H.bb i j _ _ k hi' hj' h1 h2
  · rw [lk_cons]
    by_cases hi : id = i
    · rw [if_pos hi]; exact fun e => by cases e
    · rw [if_neg hi]; exact H.bd i k e
  · obtain ⟨x', hi'⟩ := hsome i x hi
    exact H.bt i u x' sz n v k hi' hu h1 h2
theorem PL.store {cx : Cx} [TC cx.P] {S : PS} {o : Oper} {ops : Array Oper} {rest : List Oper} {Q : Post} {x y : Operand} {t id off bt : Nat} {p : PV} {l cs : List PV} {i : TI} (ho : o.op = .store t x y) (hx : S.ev x = some (.bx id off)) (hy : S.ev y = some p) (hl : cellsOf p = some l)
    (hb : lk S.h.bx id = some (bt, cs)) (ht : lk (TC.T cx.P) t = some i) (hsz : l.length = i.sz) (hle : off + l.length ≤ cs.length) (hd : o.dst = none) (hw : Wants cx ops o S true)
    (k : PL cx ops Q rest ⟨S.env, ⟨(id, (bt, writeC cs off l)) :: S.h.bx, S.h.tk⟩⟩) : PL cx ops Q (o :: rest) S :=
  PL.cons hw (K := fun S' => S' = ⟨S.env, ⟨(id, (bt, writeC cs off l)) :: S.h.bx, S.h.tk⟩⟩) (fun a W hR K' Q hK => by
    obtain ⟨Z, μ, hz⟩ := hR
    obtain ⟨h1, h2, h3⟩ := (hz.ev hy).cells hl
    show o.upon cx.P a K' Q _
    have hr := hz.ev hx
    generalize hv : a.eval x = v at hr
    cases hr with
    | bx _ _ _ g hg =>
      obtain ⟨g', hg', hbo⟩ := hz.h.bx id bt cs hb
      rw [hg] at hg'; cases hg'
      obtain ⟨vs, hh, hlen, hv1, hrep, hbase, hZ⟩ := hbo
      have hst := run_storeCells_at cx.P g off bt (a.eval y).cells.toList 0 vs.toArray W hh (by simp only [Nat.add_zero, List.size_toArray]; omega) h2
      simp only [Nat.add_zero] at hst
      have hr : (execOp a.eval o).run cx.P W = .ok .skip (W.setRow g (vs.take off ++ ((a.eval y).cells.toList ++ vs.drop (off + (a.eval y).cells.toList.length))).toArray) := by
        have hszz : (a.eval y).cells.size = i.sz := by rw [← hsz, ← h1]; simp
        simp only [execOp, ho]
        simp [hv, Instr.storeAt, Instr.sureAddr, storeVar, (TC.at_ ht).size, hszz] at hst ⊢
        rw [hst]
        rfl
      rw [hr, Oper.upon_skip, hd]
      refine hK _ _ _ rfl ⟨Z, μ, hz.env, ?_, fun ad v e => ?_, hz.le, hz.below.trans ⟨rfl, rfl, rfl, by simp, fun k hk => setRow_other W g k _ (by omega)⟩⟩
      · refine hz.h.setBx hb hg ⟨_, setRow_heap W g _ _ bt _ hh, ?_, fun u hu => ?_, fun j q u hq hu => ?_, hbase, hZ⟩ (fun k hk => setRow_other W g k _ hk)
        · simp only [writeC, List.length_append, List.length_take, List.length_drop]; omega
        · rcases List.mem_append.1 hu with hu | hu
          · exact hv1 u (List.mem_of_mem_take hu)
          · rcases List.mem_append.1 hu with hu | hu
            · exact h2 u hu
            · exact hv1 u (List.mem_of_mem_drop hu)
        · rw [writeC, getElem?_splice cs l off hle] at hq
          rw [getElem?_splice vs _ off (by omega), h1] at hu
          by_cases hin : off ≤ j ∧ j < off + l.length
          · rw [if_pos hin] at hq hu; exact h3 _ q u hq hu
          · rw [if_neg hin] at hq hu; exact hrep j q u hq hu
      · refine (World.cell?_of_block (setRow_other W g ad.block _ (fun e2 => ?_))).trans (hz.sub ad v e)
        have hc := hz.sub ad v e
        have hsp : ad.spot = none := by
          unfold World.cell? at hc
          split at hc
          · cases hs : ad.spot with
            | none => rfl
            | some s => simp [hs] at hc
          · cases hc
        have : ad = ⟨g, ad.off, none⟩ := by cases ad; simp at e2 hsp ⊢; exact ⟨e2, hsp⟩
        rw [this, hZ] at e
        cases e) fun S' e => by subst e; exact k

/-! Rows of cells that stand for elements. -/
structure CellsOf (Z : Cells) (sz : Nat) (es : List (List PV)) (cs : List Value) : Prop where
  len : cs.length = es.length * sz
  all : ∀ e ∈ es, e.length = sz
  one : ∀ u ∈ cs, u.oneCell' = true
  at_ : ∀ (i : Nat) (e : List PV) (j : Nat) (p : PV), es[i]? = some e → e[j]? = some p → ∃ u, cs[i * sz + j]? = some u ∧ Rep Z Mu.emp p u
theorem idx_lt {i j n sz : Nat} (hi : i < n) (hj : j < sz) : i * sz + j < n * sz := by
  have := Nat.mul_le_mul_right sz (show i + 1 ≤ n from hi)
  rw [Nat.add_mul] at this
  omega
theorem CellsOf.mono {Z Z' : Cells} {sz : Nat} {es : List (List PV)} {cs : List Value} (h : CellsOf Z sz es cs) (hz : Z.le Z') : CellsOf Z' sz es cs :=
  ⟨h.len, h.all, h.one, fun i e j p a b => let ⟨u, hu, hr⟩ := h.at_ i e j p a b; ⟨u, hu, hr.mono hz (Mu.le_refl _)⟩⟩
theorem CellsOf.nil (Z : Cells) (sz : Nat) : CellsOf Z sz [] [] := ⟨by simp, fun e h => (by cases h), fun e h => (by cases h), fun i e j p a => (by simp at a)⟩
theorem CellsOf.append {Z : Cells} {sz : Nat} {es es' : List (List PV)} {cs cs' : List Value} (h : CellsOf Z sz es cs) (k : CellsOf Z sz es' cs') : CellsOf Z sz (es ++ es') (cs ++ cs') where
  len := by rw [List.length_append, List.length_append, h.len, k.len, Nat.add_mul]
  all e he := (List.mem_append.1 he).elim (h.all e) (k.all e)
  one u hu := (List.mem_append.1 hu).elim (h.one u) (k.one u)
  at_ i e j p a b := by
    by_cases hi : i < es.length
    · rw [List.getElem?_append_left hi] at a
      obtain ⟨u, hu, hr⟩ := h.at_ i e j p a b
      refine ⟨u, ?_, hr⟩
      rw [List.getElem?_append_left ((List.getElem?_eq_some_iff.1 hu).1)]
      exact hu
    · rw [List.getElem?_append_right (by omega)] at a
      obtain ⟨u, hu, hr⟩ := k.at_ _ e j p a b
      refine ⟨u, ?_, hr⟩
      have hle : es.length * sz ≤ i * sz := Nat.mul_le_mul_right _ (by omega)
      rw [List.getElem?_append_right (by rw [h.len]; omega), h.len]
      rw [Nat.sub_mul] at hu
      rw [show i * sz + j - es.length * sz = i * sz - es.length * sz + j from by omega]
      exact hu
theorem Rep.news {Z : Cells} {μ : Mu} {sz : Nat} {es : List (List PV)} {q : Option Nat} {v : Value} (h : Rep Z μ (.sl sz es q) v) : ∃ A c cs, v = .slice A es.length c ∧ es.length ≤ c ∧ CellsOf Z sz es cs ∧ (0 < es.length → ∃ ad : Addr, A = some ad ∧ ∀ (j : Nat) (u : Value), cs[j]? = some u → Z (ad.add j) = some u) := by
  obtain ⟨A, c, val, hv, hc, hes, hZ, h1, hr⟩ := h.sl_inv
  have get : ∀ j, j < es.length * sz → ∃ e p, es[j / sz]? = some e ∧ e[j % sz]? = some p := fun j hj => by
    have hsz : 0 < sz := by rcases Nat.eq_zero_or_pos sz with e | e; · subst e; omega
                            · exact e
    have hd : j / sz < es.length := (Nat.div_lt_iff_lt_mul hsz).2 hj
    have hm := Nat.mod_lt j hsz
    have hl := hes _ (List.getElem_mem hd)
    exact ⟨es[j / sz], (es[j / sz])[j % sz]'(by omega), List.getElem?_eq_getElem _, List.getElem?_eq_getElem _⟩
  have hcs : ((List.range (es.length * sz)).map fun j => val (j / sz) (j % sz)).length = es.length * sz := by simp
  have hget : ∀ (j : Nat) (u : Value), ((List.range (es.length * sz)).map fun j => val (j / sz) (j % sz))[j]? = some u → j < es.length * sz ∧ u = val (j / sz) (j % sz) := fun j u hu => by
    have hj : j < es.length * sz := by have := (List.getElem?_eq_some_iff.1 hu).1; rwa [hcs] at this
    rw [List.getElem?_map, List.getElem?_range hj] at hu
    cases hu
    exact ⟨hj, rfl⟩
  refine ⟨A, c, (List.range (es.length * sz)).map fun j => val (j / sz) (j % sz), hv, hc, ⟨hcs, hes, fun u hu => ?_, fun i e j p he hp => ?_⟩, fun h0 => ?_⟩
  · obtain ⟨j, hj⟩ := List.mem_iff_getElem?.1 hu
    obtain ⟨hlt, rfl⟩ := hget j u hj
    obtain ⟨e, p, he, hp⟩ := get j hlt
    exact h1 _ _ _ _ he hp
  · have hi := (List.getElem?_eq_some_iff.1 he).1
    have hj := (List.getElem?_eq_some_iff.1 hp).1
    rw [hes e (List.mem_of_getElem? he)] at hj
    have hlt := idx_lt hi hj
    have hdiv : (i * sz + j) / sz = i := by rw [Nat.mul_comm, Nat.mul_add_div (by omega), Nat.div_eq_of_lt hj]; rfl
    have hmod : (i * sz + j) % sz = j := by rw [Nat.mul_comm, Nat.mul_add_mod, Nat.mod_eq_of_lt hj]
    refine ⟨val i j, ?_, hr i e j p he hp⟩
    rw [List.getElem?_map, List.getElem?_range hlt]
    simp only [Option.map_some, hdiv, hmod]
  · obtain ⟨ad, hA, hZ2⟩ := hZ h0
    refine ⟨ad, hA, fun j u hu => ?_⟩
    obtain ⟨hlt, rfl⟩ := hget j u hu
    obtain ⟨e, p, he, hp⟩ := get j hlt
    have := hZ2 _ _ _ _ he hp
    rwa [Nat.div_add_mod' j sz] at this
theorem CellsOf.rep {Z : Cells} {sz : Nat} {es : List (List PV)} {cs : List Value} (h : CellsOf Z sz es cs) {A : Option Addr} {c : Nat} (hc : es.length ≤ c) (hz : 0 < es.length → ∃ ad : Addr, A = some ad ∧ ∀ (j : Nat) (u : Value), cs[j]? = some u → Z (ad.add j) = some u) (μ : Mu) : Rep Z μ (.sl sz es none) (.slice A es.length c) := by
  have hat : ∀ (i : Nat) (e : List PV) (j : Nat) (p : PV), es[i]? = some e → e[j]? = some p → cs[i * sz + j]? = some ((cs[i * sz + j]?).getD undef) ∧ Rep Z Mu.emp p ((cs[i * sz + j]?).getD undef) := fun i e j p he hp => by
    obtain ⟨u, hu, hr⟩ := h.at_ i e j p he hp
    rw [hu]; exact ⟨rfl, hr⟩
  refine .sl μ sz es A c (fun i j => (cs[i * sz + j]?).getD undef) hc h.all (fun h0 => ?_) (fun i e j p he hp => h.one _ (List.mem_of_getElem? (hat i e j p he hp).1)) (fun i e j p he hp => (hat i e j p he hp).2)
  obtain ⟨ad, hA, hZ⟩ := hz h0
  exact ⟨ad, hA, fun i e j p he hp => hZ _ _ (hat i e j p he hp).1⟩
/-- Cells of one more block that stay. -/
def Cells.add (Z : Cells) (g : Nat) (cs : List Value) : Cells := fun a => match Z a with
  | some v => some v
  | none => if a.block = g ∧ a.spot = none then cs[a.off]? else none
theorem Cells.le_add (Z : Cells) (g : Nat) (cs : List Value) : Z.le (Z.add g cs) := fun a v e => by simp [Cells.add, e]
theorem Cells.add_inv {Z : Cells} {g : Nat} {cs : List Value} {a : Addr} {v : Value} (h : Z.add g cs a = some v) : Z a = some v ∨ (a.block = g ∧ a.spot = none ∧ cs[a.off]? = some v) := by
  unfold Cells.add at h
  split at h
  · rename_i u e; cases h; exact .inl e
  · split at h
    · rename_i h1; exact .inr ⟨h1.1, h1.2, h⟩
    · cases h
theorem Cells.add_none {Z : Cells} {g k off : Nat} {cs : List Value} (h : Z ⟨k, off, none⟩ = none) (h2 : k = g → cs.length ≤ off) : Z.add g cs ⟨k, off, none⟩ = none := by
  cases e : Z.add g cs ⟨k, off, none⟩ with
  | none => rfl
  | some v =>
    rcases Cells.add_inv e with h3 | ⟨h3, _, h4⟩
    · rw [h] at h3; cases h3
    · have := h2 h3
      have := (List.getElem?_eq_some_iff.1 h4).1
      simp at this; omega
theorem Cells.add_at {Z : Cells} {W : World} {g : Nat} {cs : List Value} (hs : Sub Z W) (hc : ∀ (j : Nat) (u : Value), cs[j]? = some u → W.cell? ⟨g, j, none⟩ = some u) (j : Nat) (u : Value) (h : cs[j]? = some u) : Z.add g cs ⟨g, j, none⟩ = some u := by
  simp only [Cells.add]
  cases e : Z ⟨g, j, none⟩ with
  | some v => have := hs _ _ e; rw [hc j u h] at this; simp at this ⊢; exact this.symm
  | none => simp [h]
theorem Sub.add {Z : Cells} {W : World} {g : Nat} {cs : List Value} (hs : Sub Z W) (hc : ∀ (j : Nat) (u : Value), cs[j]? = some u → W.cell? ⟨g, j, none⟩ = some u) : Sub (Z.add g cs) W := fun a v e => by
  rcases Cells.add_inv e with h | ⟨h1, h2, h3⟩
  · exact hs a v h
  · have : a = ⟨g, a.off, none⟩ := by cases a; simp at h1 h2 ⊢; exact ⟨h1, h2⟩
    rw [this]; exact hc _ _ h3

/-! What a literal makes. -/
mutual
def free : PV → Bool
  | .lit _ => true
  | .sl _ _ none => true
  | .rp _ => true
  | .junk => true
  | .agg l => freeL l
  | .tup l => freeL l
  | .fn _ l => freeL l
  | .may _ p q => free p && free q
  | .sl _ _ (some _) => false
  | .bx _ _ => false
  | .bs _ _ _ _ => false
  | .ord _ _ => false
def freeL : List PV → Bool
  | [] => true
  | p :: r => free p && freeL r
end
theorem freeL_mem : ∀ {l : List PV}, freeL l = true → ∀ p ∈ l, free p = true
  | [], _, _, h => by cases h
  | q :: r, h, p, hp => by
    simp only [freeL, Bool.and_eq_true] at h
    rcases List.mem_cons.1 hp with rfl | hp
    · exact h.1
    · exact freeL_mem h.2 p hp
/-- What names nothing stands without names. -/
theorem Rep.drop {Z : Cells} {μ : Mu} {p : PV} {v : Value} (h : Rep Z μ p v) (hf : free p = true) : Rep Z Mu.emp p v := by
  induction h with
  | lit μ v => exact .lit _ v
  | agg μ l cs hl h1 _ ih => exact .agg _ l cs hl h1 (fun i p v a b => ih i p v a b (freeL_mem (by simpa [free] using hf) p (List.mem_of_getElem? a)))
  | tup μ l cs hl _ ih => exact .tup _ l cs hl (fun i p v a b => ih i p v a b (freeL_mem (by simpa [free] using hf) p (List.mem_of_getElem? a)))
  | sl μ sz es A c val hc hz hZ h1 h _ => exact .sl _ sz es A c val hc hz hZ h1 h
  | own μ sz es t v _ ht ih => simp [free] at hf
  | rp μ l ad val hZ h1 h _ => exact .rp _ l ad val hZ h1 h
  | bx μ id off g hg => simp [free] at hf
  | bs μ id off n cap g hg => simp [free] at hf
  | fn μ f l cs hl _ ih => exact .fn _ f l cs hl (fun i p v a b => ih i p v a b (freeL_mem (by simpa [free] using hf) p (List.mem_of_getElem? a)))
  | may μ c p q v _ _ ih ik =>
    simp only [free, Bool.and_eq_true] at hf
    exact .may _ c p q v (fun e => ih e hf.1) (fun e => ik e hf.2)
  | ord μ i j gi gj v hi hj h => simp [free] at hf
  | junk μ v => exact .junk _ v
theorem fill_row (size : Nat) : ∀ (vs : List Value) (k : Nat) (pre post : List Value), pre.length = k * size → post.length = vs.length * size → (∀ v ∈ vs, v.cells.size = size) →
    Instr.fill (fun i => some (i * size, size)) (pre ++ post).toArray ((vs.zipIdx k).map fun x => (x.2, x.1)) = some (pre ++ vs.flatMap fun v => v.cells.toList).toArray
  | [], k, pre, post, _, h, _ => by
    have : post = [] := List.eq_nil_of_length_eq_zero (by simpa using h)
    subst this
    simp [Instr.fill]
  | v :: vs, k, pre, post, h1, h2, h3 => by
    have hv : v.cells.size = size := h3 v List.mem_cons_self
    have hlen : size ≤ post.length := by rw [h2, List.length_cons, Nat.add_mul]; omega
    have key : ∀ (cs : List Value) (o : Nat) (A : Array Value), o + cs.length ≤ A.size → (cs.zipIdx.foldl (fun (A : Array Value) (x : Value × Nat) => A.setIfInBounds (o + x.2) x.1) A).toList = A.toList.take o ++ (cs ++ A.toList.drop (o + cs.length)) := by
      intro cs
      suffices H : ∀ (cs : List Value) (j o : Nat) (A : Array Value), o + j + cs.length ≤ A.size → ((cs.zipIdx j).foldl (fun (A : Array Value) (x : Value × Nat) => A.setIfInBounds (o + x.2) x.1) A).toList = A.toList.take (o + j) ++ (cs ++ A.toList.drop (o + j + cs.length)) from fun o A h => by simpa using H cs 0 o A (by simpa using h)
      intro cs
      induction cs with
      | nil => intro j o A _; simp
      | cons c cs ih =>
        intro j o A h
        simp only [List.length_cons] at h
        rw [List.zipIdx_cons, List.foldl_cons, ih (j + 1) o _ (by simp; omega)]
        rw [Array.toList_setIfInBounds]
        apply List.ext_getElem?
        intro i
        have hl : (A.toList.set (o + j) c).length = A.size := by simp
        rw [getElem?_splice' _ _ _ (by rw [hl]; omega), show A.toList.take (o + j) ++ (c :: cs ++ A.toList.drop (o + j + (c :: cs).length)) = A.toList.take (o + j) ++ ((c :: cs) ++ A.toList.drop (o + j + (c :: cs).length)) from rfl, getElem?_splice' _ _ _ (by simp; omega)]
        simp only [List.length_cons]
        by_cases h1 : i = o + j
        · subst h1
          rw [if_neg (by omega), if_pos ⟨by omega, by omega⟩, List.getElem?_set_self (by rw [Array.length_toList]; omega)]
          simp
        · rw [List.getElem?_set_ne (fun e => h1 e.symm)]
          by_cases h2 : o + (j + 1) ≤ i ∧ i < o + (j + 1) + cs.length
          · rw [if_pos h2, if_pos ⟨by omega, by omega⟩, show i - (o + j) = i - (o + (j + 1)) + 1 from by omega, List.getElem?_cons_succ]
          · rw [if_neg h2, if_neg (by omega)]
    rw [List.zipIdx_cons, List.map_cons]
    simp only [Instr.fill]
    rw [if_neg (by simp [hv, List.length_append]; rw [h1]; omega)]
    have e : (v.cells.zipIdx.foldl (fun cs (c, j) => cs.setIfInBounds (k * size + j) c) (pre ++ post).toArray) = ((pre ++ v.cells.toList) ++ post.drop size).toArray := by
      apply Array.ext'
      have := key v.cells.toList (k * size) (pre ++ post).toArray (by simp [hv, h1]; omega)
      rw [← Array.foldl_toList, Array.toList_zipIdx]
      refine this.trans ?_
      rw [← h1]
      simp [hv]
    rw [e, fill_row size vs (k + 1) (pre ++ v.cells.toList) (post.drop size) (by simp [h1, hv, Nat.add_mul]) (by rw [List.length_drop, h2, List.length_cons, Nat.add_mul]; omega) (fun x hx => h3 x (List.mem_cons_of_mem _ hx))]
    simp [List.append_assoc]
where
  getElem?_splice' {α : Type} (xs l : List α) (off : Nat) (h : off + l.length ≤ xs.length) {i : Nat} : (xs.take off ++ (l ++ xs.drop (off + l.length)))[i]? = if off ≤ i ∧ i < off + l.length then l[i - off]? else xs[i]? := getElem?_splice xs l off h i

/-- The parts of a literal, one behind the other. -/
def partsAre (ps : Array (Nat × Operand)) (n : Nat) : Bool := (ps.toList.map (·.1)) == List.range n
/-- A row, as a slice that is read. -/
def roV : PV → PV
  | .sl sz es (some _) => .sl sz es none
  | p => p
theorem Rep.roV {Z : Cells} {μ : Mu} {p : PV} {v : Value} (h : Rep Z μ p v) : Rep Z μ (Pw.roV p) v := by
  unfold Pw.roV
  split
  · cases h with
    | own _ _ _ _ _ h _ => exact h
  · exact h
def evL (S : PS) : List (Nat × Operand) → Option (List (List PV))
  | [] => some []
  | q :: r => match S.ev q.2 with
    | some p => match cellsOf (roV p) with
      | some l => match evL S r with
        | some ls => some (l :: ls)
        | none => none
      | none => none
    | none => none
theorem evL_vals {cx : Cx} {S : PS} {a : Act} {W : World} {Z : Cells} {μ : Mu} (hz : RZ cx S a W Z μ) {sz : Nat} : ∀ (ps : List (Nat × Operand)) (es : List (List PV)), evL S ps = some es → (∀ e ∈ es, e.length = sz) → (∀ e ∈ es, freeL e = true) →
    es.length = ps.length ∧ (∀ v ∈ ps.map (fun q => a.eval q.2), v.cells.size = sz) ∧ CellsOf Z sz es ((ps.map (fun q => a.eval q.2)).flatMap fun v => v.cells.toList)
  | [], es, h, _, _ => by simp only [evL, Option.some.injEq] at h; subst h; exact ⟨rfl, fun v hv => by simp at hv, CellsOf.nil _ _⟩
  | q :: r, es, h, hl, hf => by
    simp only [evL] at h
    split at h
    · rename_i p hp
      split at h
      · rename_i l hc
        split at h
        · rename_i ls hls
          cases h
          obtain ⟨i1, i2, i3⟩ := evL_vals hz r ls hls (fun e he => hl e (List.mem_cons_of_mem _ he)) (fun e he => hf e (List.mem_cons_of_mem _ he))
          have hr := hz.ev hp
          obtain ⟨c1, c2, c3⟩ := hr.roV.cells hc
          have hlen : l.length = sz := hl l List.mem_cons_self
          have hfr : ∀ p ∈ l, free p = true := freeL_mem (hf l List.mem_cons_self)
          refine ⟨by simp [i1], fun v hv => ?_, ?_⟩
          · rw [List.map_cons, List.mem_cons] at hv
            rcases hv with rfl | hv
            · rw [← Array.length_toList, c1, hlen]
            · exact i2 v hv
          · have h1 : CellsOf Z sz [l] (a.eval q.2).cells.toList := ⟨by simp [c1, hlen], fun e he => by rw [List.mem_singleton] at he; subst he; exact hlen, c2, fun i e j p he hp2 => by
              cases i with
              | zero =>
                simp at he; subst he
                have hj := (List.getElem?_eq_some_iff.1 hp2).1
                have hj2 : j < (a.eval q.2).cells.toList.length := by rw [c1]; exact hj
                refine ⟨(a.eval q.2).cells.toList[j], ?_, (c3 j p _ hp2 (List.getElem?_eq_getElem hj2)).drop (hfr p (List.mem_of_getElem? hp2))⟩
                rw [Nat.zero_mul, Nat.zero_add]
                exact List.getElem?_eq_getElem hj2
              | succ i => simp at he⟩
            simpa using h1.append i3
        · cases h
      · cases h
    · cases h
theorem zipIdx_of_range {α : Type} : ∀ (l : List (Nat × α)) (k : Nat), l.map (·.1) = List.range' k l.length → l = ((l.map (·.2)).zipIdx k).map fun x => (x.2, x.1)
  | [], _, _ => rfl
  | q :: r, k, h => by
    rw [List.map_cons, List.length_cons, List.range'_succ] at h
    simp only [List.cons.injEq] at h
    rw [List.map_cons, List.zipIdx_cons, List.map_cons, ← zipIdx_of_range r (k + 1) h.2, ← h.1]
theorem run_lit {P : Program} [TC P] {W : World} {t e n : Nat} {i j : TI} (ht : lk (TC.T P) t = some i) (hd : i.d = .slice e) (he : lk (TC.T P) e = some j) (vs : List Value) (hn : vs.length = n) (hs : ∀ v ∈ vs, v.cells.size = j.sz) (hb : n * j.sz ≤ 16777216) :
    (Instr.buildSlice t n (((vs.zipIdx 0).map fun x => (x.2, x.1)).toArray)).run P W = .ok (.slice (some ⟨W.heap.size, 0, none⟩) n n) (W.alloc (.cells (vs.flatMap fun v => v.cells.toList).toArray e)) := by
  have hu := (TC.at_ ht).und
  rw [hd] at hu
  have hu : P.underlying t = some (.slice e) := hu
  have hi := TC.at_ he
  have hf := fill_row j.sz vs 0 [] ((Array.range (n * j.sz)).map (fun x => (if n * j.sz = 0 then (#[] : Array Value) else j.zero.cells)[x % (if n * j.sz = 0 then (#[] : Array Value) else j.zero.cells).size]!)).toList (by simp) (by simp [hn]) hs
  simp only [List.nil_append, Array.toArray_toList] at hf
  simp only [Instr.buildSlice, Sem.run_bind, run_underlying hu, Result.andThen_ok, hi.size]
  rw [if_neg (by omega)]
  by_cases h0 : n * j.sz = 0
  · simp only [h0, if_true] at hf ⊢
    simp only [Sem.run_bind, Sem.run_pure, Result.andThen_ok, hf]
    simp [newRow]
  · simp only [h0, if_false] at hf ⊢
    simp only [Sem.run_bind, hi.zero, Sem.run_pure, Result.andThen_ok, hf]
    simp [newRow]
end Go.Pw
