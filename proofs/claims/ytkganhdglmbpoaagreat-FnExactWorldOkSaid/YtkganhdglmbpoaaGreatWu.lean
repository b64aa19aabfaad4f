/- The walks, twentieth text: taking out in place (the program's). -/
import Derived.Test.YtkganhdglmbpoaaGreatWt
set_option linter.unusedVariables false
set_option linter.unusedSimpArgs false
set_option maxRecDepth 100000
set_option maxHeartbeats 8000000
namespace Go.Wl
open Go Go.RowKit Go.Pw Go.Proofs
/-- What is left of a queue in its own block. -/
def DelR (k : List Item) (t cap n : Nat) (p : PV) (h : PH) : Prop := ∃ r', p = .bs 1000 0 (k.map eItem).length cap ∧ h = ⟨[(1000, (t, rowC k r'))], []⟩ ∧ freeL r' = true ∧ (rowC k r').length = n
/- slices.DeleteFunc[[]impl.Item,impl.Item] -/
theorem deleteFunc_nil (g : Nat) (caps : List PV) (f : Item → Bool) (hc : freeL caps = true) (hf : ∀ x : Item, Pw.Spec Tryz.prog g ([.agg (eItem x)] ++ caps) (fun r => r = eT (f x))) : Pw.Spec Tryz.prog 148 [.lit (.slice none 0 0), .fn g caps] (fun res_ => res_ = .lit (.slice none 0 0)) := by
  refine spec_of (n := 42) Tryz.call148 Tryz.func148 rfl rfl (by simp) rfl (by show (true && (freeL caps && true)) = true; rw [hc]; rfl) fun W Z => ?_
  refine PW.seq ?_
  refine PW.region ?_
  refine PL.run 1 rfl ?_
  refine PL.nil ?_
  refine PW.seq ?_
  refine PW.region ?_
  refine PL.run 2 rfl ?_
  refine PL.call rfl rfl rfl (slices_IndexFunc__impl_Item_impl_Item_spec [] g caps f hc (Nat.zero_le _) (fun i x hx => by simp at hx)) (.cons (.nil 4) (.cons (.refl _) .nil)) (fun p hp => by subst hp; rfl) (wantV_ok rfl) rfl (fun p hp => ?_)
  subst hp
  refine PL.run 1 rfl ?_
  refine PL.nil ?_
  refine PW.seq ?_
  refine PW.seq ?_
  refine PW.region ?_
  refine PL.run 2 rfl ?_
  refine PL.nil ?_
  refine PW.cond rfl (fun h1 => ?_) (fun h1 => ?_)
  ·
    refine PW.seq ?_
    refine PW.region ?_
    refine PL.run 2 rfl ?_
    refine PL.nil ?_
    refine PW.ret ?_
    refine RetOk.free rfl rfl rfl
  ·
    exact absurd h1 (by simp [idx])
def kept (f : Item → Bool) (q : List Item) : List Item := q.filter fun x => !f x
theorem kept_step {f : Item → Bool} {q : List Item} {j : Nat} {x : Item} (h : q[j]? = some x) (hf : f x = false) : kept f (q.take (j + 1)) = kept f (q.take j) ++ [x] := by
  rw [kept, take_step h, List.filter_append]; simp [kept, hf]
theorem kept_skip {f : Item → Bool} {q : List Item} {j : Nat} {x : Item} (h : q[j]? = some x) (hf : f x = true) : kept f (q.take (j + 1)) = kept f (q.take j) := by
  rw [kept, take_step h, List.filter_append]; simp [kept, hf]
theorem kept_all {f : Item → Bool} {q : List Item} (h : ∀ x ∈ q, f x = false) : kept f q = q := List.filter_eq_self.2 fun x hx => by simp [h x hx]
theorem kept_le (f : Item → Bool) (q : List Item) (j : Nat) : (kept f (q.take j)).length ≤ j := Nat.le_trans (List.length_filter_le _ _) (by rw [List.length_take]; exact Nat.min_le_left _ _)
theorem rowC_drop {q : List Item} {j : Nat} {x : Item} {r : List PV} (h : q[j]? = some x) : rowC (q.drop j) r = eItem x ++ rowC (q.drop (j + 1)) r := by
  rw [List.drop_eq_getElem_cons (List.getElem?_eq_some_iff.1 h).1, (List.getElem?_eq_some_iff.1 h).2]; simp [rowC]
theorem rowC_split (q : List Item) (j : Nat) (r : List PV) : rowC q r = rowC (q.take j) (rowC (q.drop j) r) := by
  conv => lhs; rw [← List.take_append_drop j q]
  rw [rowC, rowC, rowC, List.map_append, List.flatten_append, List.append_assoc]
theorem rowC_app (k : List Item) (x : Item) (r : List PV) : rowC (k ++ [x]) r = rowC k (eItem x ++ r) := by simp [rowC]
theorem rowC_at {k : List Item} {M r : List PV} {o : Nat} (h : o = k.length * 4 + M.length) : (rowC k (M ++ r)).drop o = r := by
  subst h
  rw [rowC, ← List.append_assoc, ← items_len, ← List.length_append, List.drop_left]
theorem rowC_write {k : List Item} {M r l : List PV} {o : Nat} (h : o = k.length * 4) (h4 : l.length = 4) (hM : 4 ≤ (M ++ r).length) : writeC (rowC k (M ++ r)) o l = rowC k (l ++ (M ++ r).drop 4) := by
  subst h
  have e : M ++ r = (M ++ r).take 4 ++ (M ++ r).drop 4 := (List.take_append_drop 4 _).symm
  rw [rowC, e, writeC_mid (items_len k) (by rw [List.length_take]; omega), rowC, ← e]
structure DfOk (f : Item → Bool) (q : List Item) (x : Nat × List PV) : Prop where
  le : x.1 ≤ q.length
  lt : (kept f (q.take x.1)).length < x.1
  len : x.2.length = (x.1 - (kept f (q.take x.1)).length) * 4
  free : freeL x.2 = true
/- slices.DeleteFunc[[]impl.Item,impl.Item] -/
theorem deleteFunc_box (q : List Item) (g : Nat) (caps : List PV) (f : Item → Bool) (hc : freeL caps = true) (hq : q.length ≤ 16777216) (hf : ∀ x : Item, Pw.Spec Tryz.prog g ([.agg (eItem x)] ++ caps) (fun r => r = eT (f x))) (t cap : Nat) (r : List PV) (hr : freeL r = true) (hcap : q.length ≤ cap) : Pw.SpecB Tryz.prog 148 [.bs 1000 0 (q.map eItem).length cap, .fn g caps] (⟨[(1000, (t, rowC q r))], []⟩) (DelR (kept f q) t cap (rowC q r).length) := by
  refine specB_of (n := 42) Tryz.call148 Tryz.func148 rfl rfl (by simp) rfl fun W Z => ?_
  have hml : (q.map eItem).length = q.length := List.length_map ..
  refine PW.seq ?_
  refine PW.region ?_
  refine PL.run 1 rfl ?_
  refine PL.nil ?_
  refine PW.seq ?_
  refine PW.region ?_
  refine PL.run 2 rfl ?_
  refine PL.callLend 1000 t (rowC q r) rfl rfl rfl (slices_IndexFunc__impl_Item_impl_Item_spec q g caps f hc hq (fun i x _ => hf x)) rfl (rowC_free hr) (.cons (L := []) (L' := []) (.fs 1000 cap t (rowC q r) 4 (q.map eItem) rfl (item_len q) ⟨r, rfl⟩ (by rw [hml]; exact hcap)) (.cons (L := []) (L' := []) (.f (.same (.fn g caps) hc)) .nil)) (fun p hp => by subst hp; rfl) (wantV_ok rfl) rfl (fun p hp => ?_)
  subst hp
  refine PL.run 1 rfl ?_
  refine PL.nil ?_
  refine PW.seq ?_
  refine PW.seq ?_
  refine PW.region ?_
  refine PL.run 2 rfl ?_
  refine PL.nil ?_
  refine PW.cond rfl (fun h1 => ?_) (fun h1 => ?_)
  ·
    refine PW.seq ?_
    refine PW.region ?_
    refine PL.run 2 rfl ?_
    refine PL.nil ?_
    skip
    refine PW.ret ?_
    have h1 := of_decide_eq_true h1
    have hk : kept f q = q := kept_all (idx_no (f := f) (l := q) (by omega))
    exact ⟨_, rfl, r, by rw [hk], by rw [hk], hr, by rw [hk]⟩
  ·
    have h1 := of_decide_eq_false h1
    have hge := idx_ge f q
    obtain ⟨i0, x0, e0, hx0, hf0, hb0⟩ := idx_some (f := f) (l := q) (by omega)
    clear h1
    have hi0 := (List.getElem?_eq_some_iff.1 hx0).1
    have hk0 : kept f (q.take i0) = q.take i0 := kept_all fun x hx => by
     obtain ⟨j, hj⟩ := List.getElem?_of_mem hx
     have hj2 := (List.getElem?_eq_some_iff.1 hj).1
     rw [List.length_take] at hj2
     rw [List.getElem?_take_of_lt (by omega)] at hj
     exact hb0 j x (by omega) hj
    have hk1 := kept_skip hx0 hf0
    rw [hk0] at hk1
    have hl0 : (q.take i0).length = i0 := by rw [List.length_take]; omega
    refine PW.skip ?_
    refine PW.seq ?_
    refine PW.seq ?_
    refine PW.region ?_
    refine PL.run 3 rfl ?_
    refine PL.nil ?_
    refine PW.block ?_
    refine PW.loopAt (α := Nat × List PV) (fun x => ⟨[(0, .bs 1000 0 (q.map eItem).length cap), (1, .fn g caps), (5, eI ((kept f (q.take x.1)).length : Nat)), (6, eI (x.1 : Nat))], ⟨[(1000, (t, rowC (kept f (q.take x.1)) (x.2 ++ rowC (q.drop x.1) r)))], []⟩⟩) (DfOk f q) (fun x => q.length - x.1) (i0 + 1, eItem x0) (Le.boxes ⟨⟨congrArg (fun c => some (t, c)) ?_, rowC_free ?_⟩, trivial⟩ ⟨⟨rfl, rfl⟩, ⟨rfl, hc⟩, ⟨congrArg (fun n => some (eI n)) ?_, rfl⟩, ⟨congrArg (fun n => some (eI n)) ?_, rfl⟩, trivial⟩) ⟨by simp only; omega, by simp only [hk1, hl0]; omega, by simp only [hk1, hl0]; rw [show i0 + 1 - i0 = 1 by omega]; rfl, rfl⟩ (fun x hx => ?_)
    · simp only [hk1]
      rw [← rowC_drop hx0, ← rowC_split]
    · simp only
      rw [freeL_append, rowC_free hr]; rfl
    · rw [e0]; simp only [hk1, hl0]
    · rw [e0, wrap_id (by omega) (by omega)]; simp only; omega
    obtain ⟨j, M⟩ := x
    have hjl := hx.le
    have hkl := hx.lt
    have hM := hx.len
    have hMf := hx.free
    simp only at hjl hkl hM hMf ⊢
    refine PW.seq ?_
    refine PW.seq ?_
    refine PW.region ?_
    refine PL.run 2 rfl ?_
    refine PL.val (OpV.lenB rfl rfl rfl rfl) (wantV_ok rfl) rfl ?_
    refine PL.run 1 rfl ?_
    refine PL.nil ?_
    refine PW.cond rfl (fun h2 => ?_) (fun h2 => ?_)
    ·
      have hlt : j < q.length := by simpa using h2
      clear h2
      obtain ⟨x, hx1⟩ : ∃ y, q[j]? = some y := ⟨_, List.getElem?_eq_getElem hlt⟩
      have hdr := rowC_drop (r := r) hx1
      have hlen : (rowC (kept f (q.take j)) (M ++ rowC (q.drop j) r)).length = (rowC q r).length := by
       rw [rowC_len, rowC_len, List.length_append, rowC_len, List.length_drop, hM]; omega
      have hup : some (PV.lit (.int .i64 (IntKind.i64.wrap ((j : Int) + 1)))) = some (PV.lit (.int .i64 ((j + 1 : Nat) : Int))) := inc_ok (by omega)
      refine PW.skip ?_
      refine PW.seq ?_
      refine PW.block ?_
      refine PW.seq ?_
      refine PW.region ?_
      refine PL.run 2 rfl ?_
      refine PL.val (OpV.idxB rfl rfl rfl (nat_nonneg j) (by rw [Int.toNat_natCast, hml]; exact hlt) rfl rfl rfl) (wantV_ok rfl) rfl ?_
      refine PL.val (OpV.loadB (p := .agg (eItem x)) rfl rfl rfl rfl ?_) (wantV_ok rfl) rfl ?_
      · have e : (rowC (kept f (q.take j)) (M ++ rowC (q.drop j) r)).drop (0 + ((j : Nat) : Int).toNat * 4) = eItem x ++ rowC (q.drop (j + 1)) r := by
          rw [rowC_at (by rw [Int.toNat_natCast, hM]; omega), hdr]
        exact (congrArg (packed true 4) e).trans rfl
      refine PL.run 1 rfl ?_
      refine PL.run 1 rfl ?_
      refine PL.nil ?_
      refine PW.seq ?_
      refine PW.region ?_
      refine PL.run 2 rfl ?_
      refine PL.call rfl rfl rfl (hf x) (wkl_refl _) (fun p hp => by subst hp; rfl) (wantV_ok rfl) rfl (fun p hp => ?_)
      subst hp
      refine PL.run 1 rfl ?_
      refine PL.nil ?_
      refine PW.cond rfl (fun h3 => ?_) (fun h3 => ?_)
      ·
        refine PW.seq ?_
        refine PW.region ?_
        refine PL.run 3 rfl ?_
        refine PL.val (OpV.idxB rfl rfl rfl (nat_nonneg _) (by rw [Int.toNat_natCast, hml]; omega) rfl rfl rfl) (wantV_ok rfl) rfl ?_
        refine PL.store rfl rfl rfl rfl rfl rfl rfl (by rw [hlen, rowC_len]; show 0 + (((kept f (q.take j)).length : Nat) : Int).toNat * 4 + 4 ≤ _; rw [Int.toNat_natCast]; omega) rfl (wantV_ok rfl) ?_
        refine PL.nil ?_
        refine PW.region ?_
        refine PL.run 3 rfl ?_
        refine PL.nil ?_
        refine PW.region ?_
        refine PL.run 3 rfl ?_
        refine PL.nil ?_
        have hfx : f x = false := by simpa using h3
        have hks := kept_step hx1 hfx
        have hM4 : 4 ≤ M.length := by rw [hM]; omega
        have ew : writeC (rowC (kept f (q.take j)) (M ++ rowC (q.drop j) r)) (0 + (((kept f (q.take j)).length : Nat) : Int).toNat * 4) (eItem x) = rowC (kept f (q.take (j + 1))) ((M.drop 4 ++ eItem x) ++ rowC (q.drop (j + 1)) r) := by
         rw [rowC_write (by rw [Int.toNat_natCast]; omega) rfl (by rw [List.length_append]; omega), hks, rowC_app, hdr, List.drop_append_of_le_length hM4, List.append_assoc]
        have hfr : freeL (M.drop 4 ++ eItem x) = true := by rw [freeL_append, freeL_iff.2 (fun p hp => freeL_mem hMf p (List.mem_of_mem_drop hp))]; rfl
        refine ⟨(j + 1, M.drop 4 ++ eItem x), Le.boxes ⟨⟨congrArg (fun c => some (t, c)) ew, rowC_free ?_⟩, trivial⟩ ⟨⟨rfl, rfl⟩, ⟨rfl, hc⟩, ⟨congrArg (fun n => some (eI n)) ?_, rfl⟩, ⟨hup, rfl⟩, trivial⟩, ⟨hlt, ?_, ?_, hfr⟩, by simp only; omega⟩
        · simp only; rw [freeL_append, hfr, rowC_free hr]; rfl
        · simp only; rw [hks, List.length_append, wrap_id (by omega) (by omega)]; rfl
        · simp only; rw [hks, List.length_append]; simp; omega
        · simp only; rw [hks, List.length_append, List.length_append, List.length_drop, hM]; simp [eItem]; omega
      ·
        refine PW.skip ?_
        refine PW.region ?_
        refine PL.run 3 rfl ?_
        refine PL.nil ?_
        have hfx : f x = true := by simpa using h3
        have hks := kept_skip hx1 hfx
        have hfr : freeL (M ++ eItem x) = true := by rw [freeL_append, hMf]; rfl
        refine ⟨(j + 1, M ++ eItem x), Le.boxes ⟨⟨congrArg (fun c => some (t, c)) ?_, rowC_free ?_⟩, trivial⟩ ⟨⟨rfl, rfl⟩, ⟨rfl, hc⟩, ⟨congrArg (fun n => some (eI n)) ?_, rfl⟩, ⟨hup, rfl⟩, trivial⟩, ⟨hlt, ?_, ?_, hfr⟩, by simp only; omega⟩
        · simp only; rw [hks, hdr, List.append_assoc]
        · simp only; rw [freeL_append, hfr, rowC_free hr]; rfl
        · simp only; rw [hks]
        · simp only; rw [hks]; omega
        · simp only; rw [hks, List.length_append, hM]; simp [eItem]; omega
    ·
      have hge2 : j = q.length := Nat.le_antisymm hjl (by simpa using h2)
      clear h2
      have hkq : kept f (q.take j) = kept f q := by rw [hge2, List.take_length]
      have hdq : rowC (q.drop j) r = r := by rw [hge2, List.drop_length]; rfl
      have hne : ¬ cap = (kept f (q.take j)).length := by omega
      refine PW.exit ?_
      refine PW.seq ?_
      refine PW.region ?_
      refine PL.run 2 rfl ?_
      refine PL.val (OpV.cutB (l := (kept f (q.take j)).length) (h := (q.map eItem).length) (c' := cap) rfl rfl rfl rfl rfl rfl rfl rfl rfl (by omega) (by omega) (Nat.le_refl _)) (wantV_ok rfl) rfl ?_
      refine PL.clearB rfl rfl rfl rfl rfl rfl rfl rfl (.inl ?_) (wantV_ok rfl) rfl ?_
      · rw [if_neg hne, rowC_len, List.length_append, hM, hml]
        show 0 + (kept f (q.take j)).length * 4 + (q.length - (kept f (q.take j)).length) * 4 ≤ _
        omega
      refine PL.nil ?_
      refine PW.seq ?_
      refine PW.region ?_
      refine PL.run 2 rfl ?_
      refine PL.val (OpV.cutB0 (h := (kept f (q.take j)).length) (c' := cap) rfl rfl rfl rfl rfl rfl rfl rfl (by omega) (Nat.le_refl _)) (wantV_ok rfl) rfl ?_
      refine PL.run 1 rfl ?_
      refine PL.nil ?_
      have hz : ∀ ti : TI, ti.zero.cells.size = 4 → (if (q.map eItem).length - (kept f (q.take j)).length = 0 then rowC (kept f (q.take j)) (M ++ rowC (q.drop j) r) else writeC (rowC (kept f (q.take j)) (M ++ rowC (q.drop j) r)) (if cap = (kept f (q.take j)).length then 0 else 0 + (kept f (q.take j)).length * 4) (zrow ti ((q.map eItem).length - (kept f (q.take j)).length))) = rowC (kept f q) (zrow ti ((q.map eItem).length - (kept f (q.take j)).length) ++ r) := fun ti h4 => by
       rw [if_neg (by omega), if_neg hne, hdq, hkq, rowC, rowC, writeC_mid (by rw [items_len, ← hkq]; omega) (by rw [zrow_len, h4, hM, hml, hge2, ← hge2, hkq])]
      refine PW.le (Le.boxes (b := [(1000, (t, rowC (kept f q) (zrow _ _ ++ r)))]) (e := [(4, .bs 1000 0 (kept f (q.take j)).length cap)]) ⟨⟨congrArg (fun c => some (t, c)) (hz _ rfl), rowC_free (by rw [freeL_append, zrow_free, hr]; rfl)⟩, trivial⟩ ⟨⟨rfl, rfl⟩, trivial⟩) ?_
      refine PW.ret ?_
      refine ⟨_, rfl, _, ?_, rfl, by rw [freeL_append, zrow_free, hr]; rfl, ?_⟩
      · rw [List.length_map, hkq]
      · rw [rowC_len, rowC_len, List.length_append, zrow_len, hkq, hml]
        show (kept f q).length * 4 + ((q.length - (kept f q).length) * 4 + r.length) = q.length * 4 + r.length
        rw [← hkq]; omega
end Go.Wl
