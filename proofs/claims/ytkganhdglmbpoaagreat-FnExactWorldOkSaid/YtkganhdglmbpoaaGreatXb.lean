/- The walks: the law of WorldOk. -/
import Derived.Test.YtkganhdglmbpoaaGreatXa
set_option linter.unusedVariables false
set_option linter.unusedSimpArgs false
set_option maxRecDepth 100000
set_option maxHeartbeats 4000000
namespace Go.Wl
open Go Go.RowKit Go.Pw Go.Proofs
theorem mL_of {α : Type} {f : α → Nat} {l : List α} {n : Nat} (h : mL f l ≤ n) : l.length ≤ n ∧ ∀ (i : Nat) (x : α), l[i]? = some x → f x ≤ n := by
  have h : l.length + (l.map f).sum ≤ n := h
  refine ⟨by omega, fun i x hx => ?_⟩
  have h1 := sumT_step (f := f) hx
  have h2 := sumT_le (f := f) (l := l) (i + 1)
  omega
theorem mEarth_few {w : Earth} (h : mEarth w ≤ 1048576) : FewE w := by
  have h : w.seed.length + (mL mItem w.post.queue + w.post.book.length) + (w.reader.seed.length + mL List.length w.reader.seen + mL List.length w.reader.got) + mL mWire w.net + mL mSent w.sent ≤ 1048576 := h
  have q := mL_of (f := mItem) (l := w.post.queue) (n := 1048576) (by omega)
  have s := mL_of (f := List.length) (l := w.reader.seen) (n := 1048576) (by omega)
  have g := mL_of (f := List.length) (l := w.reader.got) (n := 1048576) (by omega)
  have n := mL_of (f := mWire) (l := w.net) (n := 1048576) (by omega)
  have t := mL_of (f := mSent) (l := w.sent) (n := 1048576) (by omega)
  exact ⟨by unfold FewB; omega, ⟨⟨q.1, fun i x hx => by have := q.2 i x hx; unfold mItem at this; unfold FewI FewB; omega⟩, by unfold FewB; omega⟩,
    ⟨by unfold FewB; omega, ⟨s.1, s.2⟩, ⟨g.1, g.2⟩⟩,
    ⟨n.1, fun i x hx => by have := n.2 i x hx; unfold mWire mItem at this; exact ⟨by unfold FewI FewB; omega, by unfold FewB; omega⟩⟩,
    ⟨t.1, fun i x hx => by have := t.2 i x hx; unfold mSent at this; exact ⟨by unfold FewB; omega, by unfold FewB; omega⟩⟩⟩
theorem mEarth_sm {w : Earth} (h : mEarth w ≤ 1048576) : SmW w := by
  have h : w.seed.length + (mL mItem w.post.queue + w.post.book.length) + (w.reader.seed.length + mL List.length w.reader.seen + mL List.length w.reader.got) + mL mWire w.net + mL mSent w.sent ≤ 1048576 := h
  have q := mL_of (f := mItem) (l := w.post.queue) (n := 1048576) (by omega)
  have s := mL_of (f := List.length) (l := w.reader.seen) (n := 1048576) (by omega)
  have g := mL_of (f := List.length) (l := w.reader.got) (n := 1048576) (by omega)
  have n := mL_of (f := mWire) (l := w.net) (n := 1048576) (by omega)
  have t := mL_of (f := mSent) (l := w.sent) (n := 1048576) (by omega)
  refine ⟨⟨⟨?_, ?_, ?_⟩, by omega⟩, ⟨by omega, by omega, by omega, ?_, ?_⟩, ⟨by omega, ?_, ?_, ?_⟩, by omega, by omega, ?_, ?_, ?_⟩
  · omega
  · intro i x hx; have := q.2 i x hx; unfold mItem at this; omega
  · intro i x hx; have := q.2 i x hx; unfold mItem at this; omega
  · intro i x hx; have := s.2 i x hx; omega
  · intro i x hx; have := g.2 i x hx; omega
  · intro i x hx; have := n.2 i x hx; unfold mWire mItem at this; omega
  · intro i x hx; have := n.2 i x hx; unfold mWire mItem at this; omega
  · intro i x hx; have := n.2 i x hx; unfold mWire mItem at this; omega
  · intro i x hx; have := t.2 i x hx; unfold mSent at this; omega
  · intro i x hx; have := t.2 i x hx; unfold mSent at this; omega
  · intro i x hx; have := t.2 i x hx; unfold mSent at this; omega
/- laws.FnExactWorldOk -/
theorem laws_FnExactWorldOk_spec (w : Earth) (hw : BgE w) : Pw.Spec Tryz.prog 3 [.agg (eEarth w)] (fun res_ => res_ = eT true) := by
  refine spec_of (n := 27) Tryz.call3 Tryz.func3 rfl rfl (by simp) rfl rfl fun W Z => ?_
  refine PW.seq ?_
  refine PW.region ?_
  refine PL.run 2 rfl ?_
  refine PL.nil ?_
  refine PW.seq ?_
  refine PW.region ?_
  refine PL.run 1 rfl ?_
  refine PL.nil ?_
  refine PW.seq ?_
  refine PW.region ?_
  refine PL.run 2 rfl ?_
  refine PL.call rfl rfl rfl (laws_szWorld_spec w 1048576 (by decide) (by decide) hw) (.cons (.refl _) <| .cons (.refl _) <| .nil) (fun p hp => by subst hp; rfl) (wantV_ok rfl) rfl (fun p hp => ?_)
  subst hp
  refine PL.run 1 rfl ?_
  refine PL.nil ?_
  refine PW.seq ?_
  refine PW.seq ?_
  refine PW.region ?_
  refine PL.run 2 rfl ?_
  refine PL.nil ?_
  refine PW.cond rfl (fun h1 => ?_) (fun h1 => ?_)
  ·
    refine PW.seq ?_
    refine PW.region ?_
    refine PL.run 1 rfl ?_
    refine PL.nil ?_
    refine PW.ret ?_
    refine RetOk.free rfl rfl rfl
  ·
    have k := szf_or (mEarth w) 1048576
    have hm : mEarth w ≤ 1048576 := by simp only [decide_eq_false_iff_not] at h1; omega
    have hf := mEarth_few hm
    have hs := mEarth_sm hm
    clear h1 k
    refine PW.skip ?_
    refine PW.seq ?_
    refine PW.region ?_
    refine PL.run 1 rfl ?_
    refine PL.call rfl rfl rfl (laws_toWorld_spec w hf) (.cons (.refl _) <| .nil) (fun p hp => by subst hp; rfl) (wantV_ok rfl) rfl (fun p hp => ?_)
    subst hp
    refine PL.call rfl rfl rfl (spec_WorldOk_spec w hs) (.cons (.refl _) <| .nil) (fun p hp => by subst hp; rfl) (wantV_ok rfl) rfl (fun p hp => ?_)
    subst hp
    refine PL.run 1 rfl ?_
    refine PL.nil ?_
    refine PW.seq ?_
    refine PW.region ?_
    refine PL.run 1 rfl ?_
    refine PL.call rfl rfl rfl (laws_toWorld_spec w hf) (.cons (.refl _) <| .nil) (fun p hp => by subst hp; rfl) (wantV_ok rfl) rfl (fun p hp => ?_)
    subst hp
    refine PL.run 2 rfl ?_
    refine PL.nil ?_
    refine PW.seq ?_
    refine PW.region ?_
    refine PL.run 1 rfl ?_
    refine PL.call rfl rfl rfl (impl_WorldOk_spec w hs) (.cons (.refl _) <| .nil) (fun p hp => by subst hp; rfl) (wantV_ok rfl) rfl (fun p hp => ?_)
    subst hp
    refine PL.run 1 rfl ?_
    refine PL.nil ?_
    refine PW.seq ?_
    refine PW.seq ?_
    refine PW.region ?_
    refine PL.run 2 rfl ?_
    refine PL.val (OpV.neqT rfl rfl rfl rfl rfl) (wantV_ok rfl) rfl ?_
    refine PL.nil ?_
    refine PW.cond rfl (fun h2 => ?_) (fun h2 => ?_)
    ·
      simp at h2
    ·
      refine PW.skip ?_
      refine PW.seq ?_
      refine PW.seq ?_
      refine PW.drawn ((some 22, _) :: (some 23, _) :: (some 24, _) :: (some 25, _) :: (some 26, _) :: []) (0 :: 0 :: 2 :: 7 :: 15 :: []) (fun _ => _) mixed rfl rfl rfl rfl rfl
        (.cons rfl (fun ρ => PL.run 1 rfl (PL.nil rfl)) <|
        .cons rfl (fun ρ => PL.run 1 rfl (PL.nil rfl)) <|
        .cons rfl (fun ρ => PL.call rfl rfl rfl (laws_toWorld_spec w hf) (.cons (.refl _) <| .nil) (fun p hp => by subst hp; rfl) (wantV_ok rfl) rfl (fun p hp => by subst hp; exact PL.nil rfl)) <|
        .cons rfl (fun ρ => PL.call rfl rfl rfl (laws_eqWorld_spec w hf) (.cons (.refl _) <| .cons (.refl _) <| .nil) (fun p hp => by subst hp; rfl) (wantV_ok rfl) rfl (fun p hp => by subst hp; exact PL.nil rfl)) <|
        .cons rfl (fun ρ => PL.run 1 rfl (PL.nil rfl)) <|
        .nil _) ?_
      refine PW.cond rfl (fun h3 => ?_) (fun h3 => ?_)
      ·
        simp at h3
      ·
        refine PW.skip ?_
        refine PW.seq ?_
        refine PW.region ?_
        refine PL.run 1 rfl ?_
        refine PL.nil ?_
        refine PW.ret ?_
        refine RetOk.free rfl rfl rfl
end Go.Wl
