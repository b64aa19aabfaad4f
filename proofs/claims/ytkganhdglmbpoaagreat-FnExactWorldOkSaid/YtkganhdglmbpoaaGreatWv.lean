/- The walks, twenty-first text: put, take, due (the program's). -/
import Derived.Test.YtkganhdglmbpoaaGreatWu
set_option linter.unusedVariables false
set_option linter.unusedSimpArgs false
set_option maxRecDepth 100000
set_option maxHeartbeats 8000000
namespace Go.Wl
open Go Go.RowKit Go.Pw Go.Proofs
theorem rowC_items (q : List Item) (n : Nat) (r : List PV) (l : List PV) (o : Nat) (h : o = n * 4) (hn : n ≤ q.length) (hl : n * 4 + l.length ≤ (rowC q r).length) : writeC (rowC q r) o l = rowC (q.take n) (l ++ (rowC q r).drop (n * 4 + l.length)) := by
  subst h
  have e : (rowC q r).take (n * 4) = ((q.take n).map eItem).flatten := by
    rw [rowC_split q n r, rowC]
    have : n * 4 = ((q.take n).map eItem).flatten.length := by rw [items_len, List.length_take, Nat.min_eq_left hn]
    rw [this, List.take_left]
  rw [writeC, e]; rfl
theorem tail_ex {q : List Item} {i cap : Nat} {r : List PV} (hi : i < q.length) (hcap : q.length ≤ cap) : ∃ r', (rowC q r).drop (if cap = i + 1 then 0 else 0 + (i + 1) * 4) = ((q.drop (i + 1)).map eItem).flatten ++ r' := by
  by_cases h : cap = i + 1
  · have hd : q.drop (i + 1) = [] := List.drop_eq_nil_of_le (by omega)
    rw [if_pos h, hd]
    exact ⟨_, rfl⟩
  · rw [if_neg h, rowC_split q (i + 1) r, Nat.zero_add]
    have : (i + 1) * 4 = ((q.take (i + 1)).map eItem).flatten.length := by rw [items_len, List.length_take, Nat.min_eq_left hi]
    rw [this, rowC, List.drop_left]
    exact ⟨r, rfl⟩
/- slices.Delete[[]impl.Item,impl.Item] -/
theorem slices_Delete__impl_Item_impl_Item_spec (q : List Item) (i : Nat) (hi : i < q.length) (hq : q.length ≤ 16777216) (t cap : Nat) (r : List PV) (hr : freeL r = true) (hcap : q.length ≤ cap) : Pw.SpecB Tryz.prog 152 [.bs 1000 0 (q.map eItem).length cap, eI (i : Nat), eI ((i + 1 : Nat) : Int)] (⟨[(1000, (t, rowC q r))], []⟩) (DelR (q.take i ++ q.drop (i + 1)) t cap (rowC q r).length) := by
  refine specB_of (n := 33) Tryz.call152 Tryz.func152 rfl rfl (by simp) rfl fun W Z => ?_
  have hml : (q.map eItem).length = q.length := List.length_map ..
  have hnl : ((q.drop (i + 1)).map eItem).length = q.length - (i + 1) := by rw [List.length_map, List.length_drop]
  have hfl := items_len (q.drop (i + 1))
  rw [List.length_drop] at hfl
  have hrl := rowC_len q r
  refine PW.seq ?_
  refine PW.region ?_
  refine PL.run 1 rfl ?_
  refine PL.nil ?_
  refine PW.seq ?_
  refine PW.region ?_
  refine PL.run 4 rfl ?_
  refine PL.val (OpV.lenB rfl rfl rfl rfl) (wantV_ok rfl) rfl ?_
  refine PL.val (OpV.cutB (l := i) (h := i + 1) (c' := (q.map eItem).length) rfl rfl rfl rfl rfl rfl rfl rfl rfl (by omega) (by omega) (by omega)) (wantV_ok rfl) rfl ?_
  refine PL.nil ?_
  refine PW.seq ?_
  refine PW.seq ?_
  refine PW.region ?_
  refine PL.run 3 rfl ?_
  refine PL.nil ?_
  refine PW.cond rfl (fun h1 => ?_) (fun h1 => ?_)
  ·
    exact absurd (of_decide_eq_true h1) (by omega)
  ·
    refine PW.skip ?_
    refine PW.seq ?_
    refine PW.region ?_
    refine PL.run 1 rfl ?_
    refine PL.val (OpV.lenB rfl rfl rfl rfl) (wantV_ok rfl) rfl ?_
    refine PL.run 1 rfl ?_
    refine PL.nil ?_
    refine PW.seq ?_
    refine PW.drawn ((some 20, _) :: (some 21, _) :: (some 22, _) :: (some 23, _) :: (some 24, _) :: (some 25, _) :: (some 26, _) :: (some 0, _) :: []) (0 :: 0 :: 3 :: 0 :: 0 :: 24 :: 63 :: 127 :: []) (phs [(6, _)] _ [] _) mixed rfl rfl rfl rfl rfl
      (.cons rfl (fun ρ => PL.run 1 rfl (PL.nil rfl)) <|
      .cons rfl (fun ρ => PL.run 1 rfl (PL.nil rfl)) <|
      .cons rfl (fun ρ => PL.val (OpV.cutB0 (h := i) (c' := cap) rfl rfl rfl rfl rfl rfl rfl rfl (by omega) (Nat.le_refl _)) (wantV_ok rfl) rfl (PL.nil rfl)) <|
      .cons rfl (fun ρ => PL.run 1 rfl (PL.nil rfl)) <|
      .cons rfl (fun ρ => PL.run 1 rfl (PL.nil rfl)) <|
      .cons rfl (fun ρ => PL.val (OpV.cutB (l := i + 1) (h := (q.map eItem).length) (c' := cap) rfl rfl rfl rfl rfl rfl rfl rfl rfl (by omega) (by omega) (Nat.le_refl _)) (wantV_ok rfl) rfl (PL.nil rfl)) <|
      .cons rfl (fun ρ => PL.appIn (sz := 4) (new := (q.drop (i + 1)).map eItem) rfl rfl rfl rfl rfl rfl rfl rfl (.inr ⟨1000, (if cap = i + 1 then 0 else 0 + (i + 1) * 4), cap - (i + 1), t, rowC q r, (by rw [hnl, hml]), rfl, item_len _, tail_ex hi hcap⟩) (by rw [hnl]; omega) (by rw [hfl, hrl]; omega) (wantV_ok rfl) rfl (PL.nil rfl)) <|
      .cons rfl (fun ρ => PL.run 1 rfl (PL.nil rfl)) <|
      .nil _) ?_
    refine PW.seq ?_
    refine PW.region ?_
    refine PL.run 2 rfl ?_
    refine PL.val (OpV.lenB rfl rfl rfl rfl) (wantV_ok rfl) rfl ?_
    refine PL.run 1 rfl ?_
    refine PL.val (OpV.cutB (l := i + ((q.drop (i + 1)).map eItem).length) (h := (q.map eItem).length) (c' := cap) rfl rfl rfl rfl rfl rfl rfl rfl rfl (by omega) (by omega) (Nat.le_refl _)) (wantV_ok rfl) rfl ?_
    refine PL.clearB rfl rfl rfl rfl rfl rfl rfl rfl (.inl ?_) (wantV_ok rfl) rfl ?_
    · rw [if_neg (by omega), writeC, List.length_append, List.length_append, List.length_take, List.length_drop, hrl, hfl, hnl, hml]
      show 0 + (i + (q.length - (i + 1))) * 4 + (q.length - (i + (q.length - (i + 1)))) * 4 ≤ _
      omega
    refine PL.nil ?_
    refine PW.seq ?_
    refine PW.region ?_
    refine PL.run 2 rfl ?_
    refine PL.nil ?_
    have hz : ∀ ti : TI, ti.zero.cells.size = 4 → (if (q.map eItem).length - (i + ((q.drop (i + 1)).map eItem).length) = 0 then writeC (rowC q r) (i * 4) ((q.drop (i + 1)).map eItem).flatten else writeC (writeC (rowC q r) (i * 4) ((q.drop (i + 1)).map eItem).flatten) (if cap = i + ((q.drop (i + 1)).map eItem).length then 0 else 0 + (i + ((q.drop (i + 1)).map eItem).length) * 4) (zrow ti ((q.map eItem).length - (i + ((q.drop (i + 1)).map eItem).length)))) = rowC (q.take i ++ q.drop (i + 1)) (zrow ti ((q.map eItem).length - (i + ((q.drop (i + 1)).map eItem).length)) ++ r) := fun ti h4 => by
     have e1 : writeC (rowC q r) (i * 4) ((q.drop (i + 1)).map eItem).flatten = rowC (q.take i ++ q.drop (i + 1)) ((rowC q r).drop (i * 4 + ((q.drop (i + 1)).map eItem).flatten.length)) := by
       rw [rowC_items q i r _ _ rfl (by omega) (by rw [hfl, hrl]; omega)]
       simp [rowC]
     have e2 : ∃ mid : List PV, mid.length = 4 ∧ (rowC q r).drop (i * 4 + ((q.drop (i + 1)).map eItem).flatten.length) = mid ++ r := by
       refine ⟨((rowC q r).drop (i * 4 + ((q.drop (i + 1)).map eItem).flatten.length)).take 4, ?_, ?_⟩
       · rw [List.length_take, List.length_drop, hrl, hfl]; omega
       · conv => lhs; rw [← List.take_append_drop 4 ((rowC q r).drop _)]
         congr 1
         rw [List.drop_drop, rowC, List.drop_append_of_le_length (by rw [items_len, items_len, List.length_drop]; omega), List.drop_eq_nil_of_le (by rw [items_len, items_len, List.length_drop]; omega)]; rfl
     obtain ⟨mid, m1, m2⟩ := e2
     rw [if_neg (by omega), if_neg (by omega), e1, m2, rowC, rowC, writeC_mid (by rw [items_len, List.length_append, List.length_take, List.length_drop, hnl]; omega) (by rw [m1, zrow_len, h4, hnl, hml]; omega)]
    refine PW.le (Le.boxes (b := [(1000, (t, rowC (q.take i ++ q.drop (i + 1)) (zrow _ _ ++ r)))]) (e := [(6, .bs 1000 0 (i + ((q.drop (i + 1)).map eItem).length) cap)]) ⟨⟨congrArg (fun c => some (t, c)) (hz _ rfl), rowC_free (by rw [freeL_append, zrow_free, hr]; rfl)⟩, trivial⟩ ⟨⟨rfl, rfl⟩, trivial⟩) ?_
    refine PW.ret ?_
    refine ⟨_, rfl, _, ?_, rfl, by rw [freeL_append, zrow_free, hr]; rfl, ?_⟩
    · rw [hnl, List.length_map, List.length_append, List.length_take, List.length_drop]; congr 1; omega
    · simp only [rowC_len, List.length_append, zrow_len, hnl, hml, List.length_take, List.length_drop]
      show (min i q.length + (q.length - (i + 1))) * 4 + ((q.length - (i + (q.length - (i + 1)))) * 4 + r.length) = q.length * 4 + r.length
      omega
theorem clone_fresh {S : PS} {q : List Item} (h : lk S.h.bx 1000 = none) : ∀ p h', CloneR q p h' → (h' = PH.none ∧ plain p = true) ∨ ∃ id t cs off n cap, p = .bs id off n cap ∧ h' = ⟨[(id, (t, cs))], []⟩ ∧ lk S.h.bx id = none ∧ freeL cs = true := fun p h' hp => by
  rcases hp with ⟨_, rfl, rfl⟩ | ⟨_, t, cap, r, rfl, rfl, hr, _⟩
  · exact .inl ⟨rfl, rfl⟩
  · exact .inr ⟨1000, t, _, _, _, cap, rfl, rfl, h, rowC_free hr⟩
theorem due_kept (q : List Item) (now : Int) : kept (fun y => decide (y.due < now)) q = dueL q now := by
  unfold kept dueL
  congr 1
  funext y
  by_cases h : y.due < now <;> simp [h] <;> omega
/- impl.Due -/
theorem impl_Due_spec (q : List Item) (now : Int) (hq : Sm q) : Pw.Spec Tryz.prog 126 [eItems q, eI now] (fun res_ => res_ = eItems (dueL q now)) := by
  refine spec_of (n := 9) Tryz.call126 Tryz.func126 rfl rfl (by simp) rfl rfl fun W Z => ?_
  refine PW.seq ?_
  refine PW.region ?_
  refine PL.run 2 rfl ?_
  refine PL.nil ?_
  refine PW.seq ?_
  refine PW.region ?_
  refine PL.run 1 rfl ?_
  refine PL.le (Le.freezeP (tv := 3) (id := 3) (e := [(5, eItems q)]) rfl rfl rfl) ?_
  refine PL.callB0 rfl rfl rfl (impl_cloneItems_spec q hq) (wkl_refl _) rfl (clone_fresh rfl) (wantV_ok rfl) rfl (fun p h hp => ?_)
  have hlen := hq.len
  rcases hp with ⟨hnil, rfl, rfl⟩ | ⟨hne, t, cap, r, rfl, rfl, hr, hroom, hcap, hmax⟩
  ·
    refine PL.run 1 rfl ?_
    refine PL.call rfl rfl rfl (deleteFunc_nil 153 [.rp [eI now]] (fun y => decide (y.due < now)) rfl (fun y => impl_Due_1_spec now y)) (wkl_refl _) (fun p hp => by subst hp; rfl) (wantV_ok rfl) rfl (fun p hp => ?_)
    subst hp
    refine PL.run 1 rfl ?_
    refine PL.nil ?_
    skip
    refine PW.ret ?_
    refine RetOk.of rfl (.one (.leaf (.nil0 4))) (by simp) (by simp) ?_
    subst hnil; rfl
  ·
    refine PL.run 1 rfl ?_
    refine PL.callB [] rfl rfl rfl (deleteFunc_box q 153 [.rp [eI now]] (fun y => decide (y.due < now)) rfl hlen (fun y => impl_Due_1_spec now y) t cap r hr hcap) rfl (wkl_refl _) (wantV_ok rfl) rfl (fun p h hp => ?_)
    obtain ⟨r2, rfl, rfl, hr2, hl2⟩ := hp
    rw [due_kept]
    refine PL.run 1 rfl ?_
    refine PL.nil ?_
    have hk : (dueL q now).length ≤ cap := Nat.le_trans (List.length_filter_le _ _) hcap
    refine PW.le (Le.freezeS (tv := 4) (sz := 4) (es := (dueL q now).map eItem) (r := r2) (e := []) rfl rfl (rowC_free hr2) rfl rfl (item_len _) (by rw [List.length_map]; exact hk)) ?_
    refine PW.ret ?_
    refine RetOk.free rfl rfl rfl
end Go.Wl
