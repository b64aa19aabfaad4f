/- The engine, eighteenth text: handy forms for regions that draw their order; boxes become slices. -/
import Derived.Test.YtkganhdglmbpoaaGreatPw17
set_option linter.unusedVariables false
set_option linter.unusedSimpArgs false
namespace Go.Pw
open Go Go.RowKit

/-- What has come up, the newest first; each waits for those behind it. -/
def allC {α : Type} : List (Nat × α) → List α → List α
  | [], x => x
  | (_, y) :: r, x => y :: allC r x
def chain {α : Type} (b : Nat → Bool) : List (Nat × α) → List α → List α
  | [], x => x
  | (k, y) :: r, x => bif b k then y :: allC r x else chain b r x
def phs (l : List (Nat × (Nat × (Nat × List PV)))) (x : List (Nat × (Nat × List PV))) (m : List (Nat × (Nat × (Nat × Nat)))) (y : List (Nat × (Nat × Nat))) : (Nat → Bool) → PH := fun b => ⟨chain b l x, chain b m y⟩
/-- A box that is no more written is a slice. -/
theorem Le.freezeS {S : PS} {e : List (Nat × PV)} {tv id t sz n cap : Nat} {cs r : List PV} {es : List (List PV)} (ht : may1 (lk S.env tv) = some (.bs id 0 n cap)) (hl : lk S.h.bx id = some (t, cs)) (hf : freeL cs = true) (hes : cs = es.flatten ++ r) (hn : es.length = n) (hz : ∀ e ∈ es, e.length = sz) (hc : n ≤ cap) (h : KF S e := by repeat (first | exact trivial | refine ⟨⟨rfl, rfl⟩, ?_⟩)) : Le S ⟨(tv, .sl sz es none) :: e, PH.none⟩ := by
  subst hn
  have hke : KE [] (some (id, (t, cs))) S e [] := by
    clear ht
    induction e with
    | nil => exact .nil
    | cons x r ih =>
      obtain ⟨u, q⟩ := x
      exact KE.cons (L := []) (L' := []) h.1.1 (.leaf (.f (.same q h.1.2))) (ih h.2)
  exact Le.keepF (L := []) (L' := []) (b := []) [] (some (id, (t, cs))) (fun _ _ _ hh => by cases hh; exact ⟨hl, rfl, hf⟩) .nil (.cons (L := []) (L' := []) ht (.leaf (.fs id cap t cs sz es rfl hz ⟨r, hes⟩ hc)) hke) rfl (by simp) (by simp)
theorem KFB.kez {S : PS} {B : List Nat} {F : Fz} : ∀ {e : List (Nat × PV)}, KFB B S e → KE B F S e [] := fun h => h.ke
/-- The same, other boxes are kept. -/
theorem Le.freezeBS {S : PS} {e : List (Nat × PV)} {b : List (Nat × (Nat × List PV))} {tv id t sz n cap : Nat} {cs r : List PV} {es : List (List PV)} (ht : may1 (lk S.env tv) = some (.bs id 0 n cap)) (hl : lk S.h.bx id = some (t, cs)) (hf : freeL cs = true) (hes : cs = es.flatten ++ r) (hn : es.length = n) (hz : ∀ e ∈ es, e.length = sz) (hc : n ≤ cap) (hnb : (b.map (·.1)).contains id = false)
    (hb : KBF S b := by repeat (first | exact trivial | refine ⟨⟨rfl, rfl⟩, ?_⟩)) (h : KFB (b.map (·.1)) S e := by repeat (first | exact trivial | refine ⟨⟨rfl, rfl⟩, ?_⟩)) : Le S ⟨(tv, .sl sz es none) :: e, ⟨b, []⟩⟩ := by
  subst hn
  exact Le.freeze id t cs hl hnb hf hb (KE.cons (L := []) (L' := []) ht (.leaf (.fs id cap t cs sz es rfl hz ⟨r, hes⟩ hc)) h.ke)
/-- An equation that 'omega' does not look at. -/
structure Eqq (a b : Int) : Prop where
  h : a = b
theorem idx0 {n : Int} {m : Nat} (e : Eqq n m) : 0 ≤ n := by rw [e.h]; exact Int.natCast_nonneg m
theorem idx1 {α : Type} {es : List α} {l : α} {n : Int} {m : Nat} (e : Eqq n m) (h : es[m]? = some l) : es[n.toNat]? = some l := by rw [e.h]; exact h
theorem eqS {n m : Int} (e : Eqq n m) : some n = some m := congrArg some e.h
theorem eqP {k : IntKind} {n m : Int} (e : Eqq n m) : some (PV.lit (.int k n)) = some (.lit (.int k m)) := by rw [e.h]
theorem mapLe {α β : Type} {f : α → β} {l : List α} {n : Nat} (h : n ≤ l.length) : n ≤ (l.map f).length := by rw [List.length_map]; exact h
/-- What is kept: values without names; rows as slices that are read. -/
inductive KR (S : PS) : List (Nat × PV) → Prop
  | nil : KR S []
  | same {t : Nat} {q : PV} {r : List (Nat × PV)} (h : may1 (lk S.env t) = some q) (hf : free q = true) (k : KR S r) : KR S ((t, q) :: r)
  | ro {t sz : Nat} {es : List (List PV)} {o : Option Nat} {r : List (Nat × PV)} (h : may1 (lk S.env t) = some (.sl sz es o)) (k : KR S r) : KR S ((t, .sl sz es none) :: r)
theorem KR.ke {S : PS} {e : List (Nat × PV)} (h : KR S e) : KE [] none S e [] := by
  induction h with
  | nil => exact .nil
  | same h hf _ ih => exact KE.cons (L := []) (L' := []) h (.leaf (.f (.same _ hf))) ih
  | ro h _ ih => exact KE.cons (L := []) (L' := []) h (.leaf (.f (.ro _ _ _))) ih
theorem Le.ro {S : PS} {e : List (Nat × PV)} (h : KR S e) : Le S ⟨e, PH.none⟩ :=
  Le.keep (L := []) (L' := []) (b := []) [] .nil h.ke rfl (by simp) (by simp)
/-- Between two pieces of code: one state for all ways. -/
theorem PW.cut {cx : Cx} {Q : Post} {S : PS} {x y : Code} (S1 : PS) (h1 : PW cx x (thn (fun S' => Le S' S1) Q) S) (h2 : PW cx y Q S1) : PW cx (x.seq y) Q S :=
  PW.seq fun a W hr => wp_mono (h1 a W hr) fun e a' W' hq => by
    obtain ⟨S', h3, h4⟩ := hq
    cases e with
    | normal => exact ⟨S1, h4 cx a' W' h3, h2⟩
    | exit i => exact ⟨S', h3, h4⟩
    | goto l => exact ⟨S', h3, h4⟩
    | ret => exact ⟨S', h3, h4⟩
    | panic c => exact ⟨S', h3, h4⟩
    | outgrown => exact ⟨S', h3, h4⟩
end Go.Pw
