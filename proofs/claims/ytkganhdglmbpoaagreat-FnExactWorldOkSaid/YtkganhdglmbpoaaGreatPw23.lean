/- The engine, twenty-third text: a call that leaves a box. -/
import Derived.Test.YtkganhdglmbpoaaGreatPw22
set_option linter.unusedVariables false
set_option linter.unusedSimpArgs false
namespace Go.Pw
open Go Go.RowKit
theorem RZ.joinB {cx : Cx} {S : PS} {a : Act} {W W' : World} {Z Z' : Cells} {μ μ' : Mu} (hz : RZ cx S a W Z μ) {id t off n cap : Nat} {cs : List PV} {v : Value} (hr : Rep Z' μ' (.bs id off n cap) v) (hg : Grow Z Z' W.heap.size) (hs : Sub Z' W') (hb : Below W.heap.size W W') (hh : RepH W.heap.size Z' μ' ⟨[(id, (t, cs))], []⟩ W') (hid : lk S.h.bx id = none) (hcs : freeL cs = true) :
    ∃ μ2, RZ cx ⟨S.env, ⟨(id, (t, cs)) :: S.h.bx, S.h.tk⟩⟩ a W' Z' μ2 ∧ Rep Z' μ2 (.bs id off n cap) v := by
  obtain ⟨g, hgm, vs, v1, v2, v3, v4, v5, v6⟩ := hh.bx id t cs (by rw [lk_cons, if_pos rfl])
  have hz1 := hz.grow hb hg.1 hg.2 hs
  have hle := Mu.setBx_le (g := g) (hz1.h.bxFree hid)
  cases hr with
  | bs _ _ _ _ _ g' hg' =>
    rw [hgm] at hg'; cases hg'
    refine ⟨μ.setBx id g, ⟨hz1.env.mono (Cells.le_refl _) hle, ?_, hz1.sub, hz1.le, hz1.below⟩, .bs _ _ _ _ _ _ (by simp [Mu.setBx])⟩
    refine hz1.h.addBx hid ⟨vs, v1, v2, v3, fun i p u hp hu => ((v4 i p u hp hu).drop (freeL_mem hcs p (List.mem_of_getElem? hp))).any, Nat.le_trans hz.below.size v5, v6⟩ (fun i x e he => ?_) (fun u sz m w e he hv => ?_)
    · obtain ⟨g2, hg2, hb2⟩ := hz.h.bx i x.1 x.2 e
      rw [he] at hg2; cases hg2
      have := hb2.lt; omega
    · obtain ⟨w', hw', hb2⟩ := hz.h.tk u sz m e
      rw [he] at hw'; cases hw'
      have := (hb2.lt hv).1; omega
section
variable {cx : Cx} {S : PS} {o : Oper} {ops : Array Oper} {rest : List Oper} {Q : Post}
/-- A call that is handed nothing and leaves one box, or none. -/
theorem PL.callB0 {fo : Operand} {f : Nat} {caps ps qs : List PV} {xs : Array Operand} {ts : Array TypeId} {F : PV → PH → Prop} (ho : o.op = .call { callee := .value fo, args := xs, argTypes := ts }) (hfo : S.ev fo = some (.fn f caps)) (hps : evs S xs.toList = some ps) (h : SpecB cx.P f qs PH.none F) (hw2 : WkL (ps ++ caps) qs) (hqf : freeL qs = true)
    (hF : ∀ p h', F p h' → (h' = PH.none ∧ plain p = true) ∨ ∃ id t cs off n cap, p = .bs id off n cap ∧ h' = ⟨[(id, (t, cs))], []⟩ ∧ lk S.h.bx id = none ∧ freeL cs = true) (hw : Wants cx ops o S true) (hn : dstOk cx.n o.dst = true)
    (k : ∀ p h', F p h' → PL cx ops Q rest (PS.put ⟨S.env, ⟨h'.bx ++ S.h.bx, S.h.tk⟩⟩ o.dst p)) : PL cx ops Q (o :: rest) S :=
  PL.cons hw (K := fun S' => ∃ p h', F p h' ∧ S' = PS.put ⟨S.env, ⟨h'.bx ++ S.h.bx, S.h.tk⟩⟩ o.dst p) (fun a W hR K' Q' hK => by
    obtain ⟨Z, μ, hz⟩ := hR
    obtain ⟨vs, hall, hrun⟩ := call_args ho hfo hps h.ent hz
    have h0 : RepH W.heap.size Z Mu.emp PH.none W := ⟨fun i t cs e => (by cases e), fun t sz n e => (by cases e), fun i j x y g e => (by cases e), fun t u sz n sz' n' v v' g e => (by cases e), fun i g e => (by cases e), fun t n v e => (by cases e), fun t n v sz m e => (by cases e), fun i t x sz n v g e => (by cases e)⟩
    have hqs := hw2.rep hall
    have hqe : RepL Z Mu.emp qs vs := ⟨hqs.1, fun i p v hp hv => (hqs.2 i p v hp hv).drop (freeL_mem hqf p (List.mem_of_getElem? hp))⟩
    have hcall := h.run W W Z Mu.emp _ hz.sub hqe h0 (Below.refl _ _)
    show o.upon cx.P a K' Q' _
    rw [hrun, Oper.upon_enter]
    refine hcall.mono fun e W' ⟨v, e1, p, h', Z', μ', hFp, hr, hg, hs, hb, hh⟩ => ?_
    subst e1
    rcases hF p h' hFp with ⟨rfl, hpl⟩ | ⟨id, t, cs, off, n, cap, rfl, rfl, hid, hcs⟩
    · have hz' := hz.grow hb hg.1 hg.2 hs
      exact hK _ _ _ ⟨p, _, hFp, rfl⟩ ⟨Z', μ, RZ.put (S := ⟨S.env, ⟨[] ++ S.h.bx, S.h.tk⟩⟩) hz' hn (plain_any hpl hr)⟩
    · obtain ⟨μ2, hz', hr2⟩ := hz.joinB hr hg hs hb hh hid hcs
      exact hK _ _ _ ⟨_, _, hFp, rfl⟩ ⟨Z', μ2, hz'.put hn hr2⟩) fun S' ⟨p, h', hFp, e⟩ => by subst e; exact k p h' hFp
end
/-- A box that is no more written is a slice, under two names. -/
theorem Le.freezeS2 {S : PS} {e : List (Nat × PV)} {tv tw id t sz n cap : Nat} {cs r : List PV} {es : List (List PV)} (ht : may1 (lk S.env tv) = some (.bs id 0 n cap)) (ht2 : may1 (lk S.env tw) = some (.bs id 0 n cap)) (hl : lk S.h.bx id = some (t, cs)) (hf : freeL cs = true) (hes : cs = es.flatten ++ r) (hn : es.length = n) (hz : ∀ e ∈ es, e.length = sz) (hc : n ≤ cap) (h : KF S e := by repeat (first | exact trivial | refine ⟨⟨rfl, rfl⟩, ?_⟩)) : Le S ⟨(tv, .sl sz es none) :: (tw, .sl sz es none) :: e, PH.none⟩ := by
  subst hn
  exact Le.keepF (L := []) (L' := []) (b := []) [] (some (id, (t, cs))) (fun _ _ _ hh => by cases hh; exact ⟨hl, rfl, hf⟩) .nil (.cons (L := []) (L' := []) ht (.leaf (.fs id cap t cs sz es rfl hz ⟨r, hes⟩ hc)) (.cons (L := []) (L' := []) ht2 (.leaf (.fs id cap t cs sz es rfl hz ⟨r, hes⟩ hc)) h.kef)) rfl (by simp) (by simp)
end Go.Pw
