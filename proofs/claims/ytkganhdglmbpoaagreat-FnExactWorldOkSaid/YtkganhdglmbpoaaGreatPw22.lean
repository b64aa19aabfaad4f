/- The engine, twenty-second text: captured variables; one box under another name. -/
import Derived.Test.YtkganhdglmbpoaaGreatPw21
set_option linter.unusedVariables false
set_option linter.unusedSimpArgs false
namespace Go.Pw
open Go Go.RowKit
theorem wkl_refl : ∀ l : List PV, WkL l l
  | [] => .nil
  | p :: r => .cons (.refl p) (wkl_refl r)
theorem KF.kef {S : PS} {F : Fz} : ∀ {e : List (Nat × PV)}, KF S e → KE [] F S e []
  | [], _ => .nil
  | (t, q) :: r, h => by
    have := KE.cons (L := []) (L' := []) (F := F) h.1.1 (.leaf (.f (.same q h.1.2))) (KF.kef h.2)
    exact this
/-- A variable that is no more written is read from here on. -/
theorem Le.freezeP {S : PS} {e : List (Nat × PV)} {tv id t : Nat} {cs : List PV} (ht : may1 (lk S.env tv) = some (.bx id 0)) (hl : lk S.h.bx id = some (t, cs)) (hf : freeL cs = true) (h : KF S e := by repeat (first | exact trivial | refine ⟨⟨rfl, rfl⟩, ?_⟩)) : Le S ⟨(tv, .rp cs) :: e, PH.none⟩ :=
  Le.keepF (L := []) (L' := []) (b := []) [] (some (id, (t, cs))) (fun _ _ _ hh => by cases hh; exact ⟨hl, rfl, hf⟩) .nil (.cons (L := []) (L' := []) ht (.leaf (.fz id 0 t cs rfl)) h.kef) rfl (by simp) (by simp)
/-- The same, other boxes are kept. -/
theorem Le.freezePB {S : PS} {e : List (Nat × PV)} {b : List (Nat × (Nat × List PV))} {tv id t : Nat} {cs : List PV} (ht : may1 (lk S.env tv) = some (.bx id 0)) (hl : lk S.h.bx id = some (t, cs)) (hf : freeL cs = true) (hnb : (b.map (·.1)).contains id = false) (hb : KBF S b) (h : KFB (b.map (·.1)) S e) : Le S ⟨(tv, .rp cs) :: e, ⟨b, []⟩⟩ :=
  Le.freeze id t cs hl hnb hf hb (KE.cons (L := []) (L' := []) ht (.leaf (.fz id 0 t cs rfl)) h.ke)
/-- One slice over one box, under another name. -/
theorem Le.rename {S : PS} {e : List (Nat × PV)} {tv id off n cap t : Nat} {cs cs' : List PV} (id' : Nat) (ht : may1 (lk S.env tv) = some (.bs id off n cap)) (hl : lk S.h.bx id = some (t, cs)) (hf : freeL cs = true) (hc : cs = cs') (hk : KF S e := by repeat (first | exact trivial | refine ⟨⟨rfl, rfl⟩, ?_⟩)) : Le S ⟨(tv, .bs id' off n cap) :: e, ⟨[(id', (t, cs'))], []⟩⟩ := fun cx a W ⟨Z, μ, hz⟩ => by
  subst hc
  obtain ⟨g, hg, vs, v1, v2, v3, v4, v5, v6⟩ := hz.h.bx id t cs hl
  obtain ⟨v, hv, hrv⟩ := hz.env.may1 ht
  cases hrv with
  | bs _ _ _ _ _ g' hg' =>
    rw [hg] at hg'; cases hg'
    refine ⟨Z, ⟨fun k => if k = id' then some g else none, fun _ _ => none⟩, ⟨⟨hz.env.df, hz.env.sz, fun u q hu => ?_⟩, ?_, hz.sub, hz.le, hz.below⟩⟩
    · rw [lk_cons] at hu
      split at hu
      · rename_i e; subst e; cases hu
        exact ⟨_, hv, .bs _ _ _ _ _ _ (by simp)⟩
      · obtain ⟨h1, h2⟩ := hk.at_ hu
        obtain ⟨u2, hu2, hr2⟩ := hz.env.may1 h1
        exact ⟨u2, hu2, (hr2.drop h2).any⟩
    · refine RepH.one (g := g) (by simp) ⟨vs, v1, v2, v3, fun i p u hp hu => ((v4 i p u hp hu).drop (freeL_mem hf p (List.mem_of_getElem? hp))).any, v5, v6⟩ (fun i k h => ?_) (fun _ _ _ h => by cases h)
      simp only at h
      by_cases e : i = id'
      · exact e
      · rw [if_neg e] at h; cases h
end Go.Pw
