/- The walks, fourth text: queues (the specification's). -/
import Derived.Test.YtkganhdglmbpoaaGreatWd
set_option linter.unusedVariables false
set_option linter.unusedSimpArgs false
set_option maxRecDepth 100000
namespace Go.Wl
open Go Go.RowKit Go.Pw Go.Proofs
theorem map_step {α : Type} {f : α → List PV} {l : List α} {i : Nat} {x : α} (h : l[i]? = some x) : (l.take i).map f ++ [f x] = (l.take (i + 1)).map f := by
  rw [take_step h, List.map_append]; rfl
theorem filt_step {α : Type} {f : α → List PV} {p : α → Bool} {l : List α} {i : Nat} {x : α} (h : l[i]? = some x) (hp : p x = true) : ((l.take i).filter p).map f ++ [f x] = ((l.take (i + 1)).filter p).map f := by
  rw [take_step h, List.filter_append, List.map_append]; simp [hp]
theorem filt_skip {α : Type} {f : α → List PV} {p : α → Bool} {l : List α} {i : Nat} {x : α} (h : l[i]? = some x) (hp : p x = false) : ((l.take i).filter p).map f = ((l.take (i + 1)).filter p).map f := by
  rw [take_step h, List.filter_append, List.map_append]; simp [hp]
theorem filt_len {α : Type} (p : α → Bool) (l : List α) (i : Nat) : ((l.take i).filter p).length ≤ i := Nat.le_trans (List.length_filter_le _ _) (by rw [List.length_take]; exact Nat.min_le_left _ _)
def dueL (q : List Item) (now : Int) : List Item := q.filter fun y => decide (now ≤ y.due)
def keepB (x y : Item) : Bool := decide (x.topic ≤ 0) || (!decide (y.route = x.route) || !decide (y.topic = x.topic))
def putL (q : List Item) (x : Item) : List Item := q.filter (keepB x) ++ [x]
def putQ (q : List Item) (x : Item) : List Item := if queueOk (putL q x) then putL q x else q
theorem Sm.put {q : List Item} {x : Item} (hq : Sm q) (hl : q.length < 16777216) (hr : x.route.size ≤ 1099511627776) (hb : x.bytes.length ≤ 16777216) : Sm (putL q x) := by
  have hm : ∀ (i : Nat) (y : Item), (putL q x)[i]? = some y → y ∈ q ∨ y = x := fun i y h => by
    have := List.mem_of_getElem? h
    rcases List.mem_append.1 this with h1 | h1
    · exact .inl (List.mem_filter.1 h1).1
    · exact .inr (by simpa using h1)
  refine ⟨?_, fun i y h => ?_, fun i y h => ?_⟩
  · have := List.length_filter_le (keepB x) q
    simp [putL]; omega
  · rcases hm i y h with h1 | rfl
    · obtain ⟨j, hj⟩ := List.getElem?_of_mem h1; exact hq.route j y hj
    · exact hr
  · rcases hm i y h with h1 | rfl
    · obtain ⟨j, hj⟩ := List.getElem?_of_mem h1; exact hq.bytes j y hj
    · exact hb
/- spec.l13Queue -/
theorem spec_l13Queue_spec (q : List Item) (hq : Sm q) (τ : Nat) : Pw.Spec Tryz.prog 161 [eItems q] (fun res_ => res_ = .sl 4 (q.map eItem) (some τ)) := by
  refine spec_of (n := 21) Tryz.call161 Tryz.func161 rfl rfl (by simp) rfl rfl fun W Z => ?_
  have hlen := hq.len
  refine PW.seq ?_
  refine PW.region ?_
  refine PL.run 1 rfl ?_
  refine PL.nil ?_
  refine PW.seq ?_
  refine PW.region ?_
  refine PL.run 2 rfl ?_
  refine PL.nil ?_
  refine PW.seq ?_
  refine PW.seq ?_
  refine PW.region ?_
  refine PL.run 1 rfl ?_
  refine PL.nil ?_
  refine PW.block ?_
  refine PW.loopAt (α := Nat) (fun i => ⟨[(3, .sl 4 ((q.take i).map eItem) (some 5)), (0, eItems q), (4, eI (i : Int))], ⟨[], [(5, (4, ((q.take i).map eItem).length))]⟩⟩) (fun i => i ≤ q.length) (fun i => q.length - i) 0 (Le.row ⟨⟨rfl, rfl⟩, ⟨rfl, rfl⟩, trivial⟩ rfl rfl rfl) (Nat.zero_le _) (fun i hi => ?_)
  refine PW.seq ?_
  refine PW.seq ?_
  refine PW.region ?_
  refine PL.run 4 rfl ?_
  refine PL.nil ?_
  refine PW.cond rfl (fun h1 => ?_) (fun h1 => ?_)
  ·
    have hlt : i < q.length := by simpa using h1
    obtain ⟨x, hx⟩ : ∃ y, q[i]? = some y := ⟨_, List.getElem?_eq_getElem hlt⟩
    refine PW.skip ?_
    refine PW.seq ?_
    refine PW.block ?_
    refine PW.region ?_
    refine PL.run 3 rfl ?_
    refine PL.val (OpV.idx rfl rfl rfl (nat_nonneg i) (map_at' hx) rfl rfl rfl rfl) (wantV_ok rfl) rfl ?_
    refine PL.run 1 rfl ?_
    refine PL.call rfl rfl rfl (spec_l13Item_spec x (hq.bytes i x hx)) (.cons (.refl _) <| .nil) (fun p hp => by subst hp; rfl) (wantV_ok rfl) rfl (fun p hp => ?_)
    subst hp
    refine PL.run 1 rfl ?_
    refine PL.app rfl rfl rfl rfl rfl rfl rfl rfl rfl rfl (by simp <;> omega) (by simp <;> omega) (wantV_ok rfl) rfl ?_
    refine PL.run 1 rfl ?_
    refine PL.nil ?_
    refine PW.region ?_
    refine PL.run 3 rfl ?_
    refine PL.nil ?_
    exact ⟨i + 1, Le.row ⟨⟨rfl, rfl⟩, ⟨inc_ok (by omega), rfl⟩, trivial⟩ rfl rfl (map_step hx), hlt, by omega⟩
  ·
    have hge : q.length ≤ i := by simpa using h1
    refine PW.exit ?_
    refine PW.seq ?_
    refine PW.region ?_
    refine PL.run 2 rfl ?_
    refine PL.nil ?_
    refine PW.ret ?_
    refine RetOk.of rfl (.one (.leaf (.row _ _ _ τ rfl))) (by simp) (by simp) ?_
    rw [List.take_of_length_le hge]
/- spec.Due -/
theorem spec_Due_spec (q : List Item) (now : Int) (hq : Sm q) (τ : Nat) : Pw.Spec Tryz.prog 142 [eItems q, eI now] (fun res_ => res_ = .sl 4 ((dueL q now).map eItem) (some τ)) := by
  refine spec_of (n := 30) Tryz.call142 Tryz.func142 rfl rfl (by simp) rfl rfl fun W Z => ?_
  have hlen := hq.len
  refine PW.seq ?_
  refine PW.region ?_
  refine PL.run 1 rfl ?_
  refine PL.nil ?_
  refine PW.seq ?_
  refine PW.region ?_
  refine PL.run 2 rfl ?_
  refine PL.nil ?_
  refine PW.seq ?_
  refine PW.seq ?_
  refine PW.region ?_
  refine PL.run 1 rfl ?_
  refine PL.nil ?_
  refine PW.block ?_
  refine PW.loopAt (α := Nat) (fun i => ⟨[(5, .sl 4 (((q.take i).filter fun y => decide (now ≤ y.due)).map eItem) (some 7)), (0, eItems q), (1, eI now), (6, eI (i : Int))], ⟨[], [(7, (4, (((q.take i).filter fun y => decide (now ≤ y.due)).map eItem).length))]⟩⟩) (fun i => i ≤ q.length) (fun i => q.length - i) 0 (Le.row ⟨⟨rfl, rfl⟩, ⟨rfl, rfl⟩, ⟨rfl, rfl⟩, trivial⟩ rfl rfl rfl) (Nat.zero_le _) (fun i hi => ?_)
  refine PW.seq ?_
  refine PW.seq ?_
  refine PW.region ?_
  refine PL.run 4 rfl ?_
  refine PL.nil ?_
  refine PW.cond rfl (fun h1 => ?_) (fun h1 => ?_)
  ·
    have hlt : i < q.length := by simpa using h1
    obtain ⟨x, hx⟩ : ∃ y, q[i]? = some y := ⟨_, List.getElem?_eq_getElem hlt⟩
    have hf := filt_len (fun y : Item => decide (now ≤ y.due)) q i
    refine PW.skip ?_
    refine PW.seq ?_
    refine PW.block ?_
    refine PW.seq ?_
    refine PW.region ?_
    refine PL.run 2 rfl ?_
    refine PL.val (OpV.idx rfl rfl rfl (nat_nonneg i) (map_at' hx) rfl rfl rfl rfl) (wantV_ok rfl) rfl ?_
    refine PL.run 4 rfl ?_
    refine PL.nil ?_
    refine PW.cond rfl (fun h2 => ?_) (fun h2 => ?_)
    ·
      refine PW.region ?_
      refine PL.run 3 rfl ?_
      refine PL.val (OpV.idx rfl rfl rfl (nat_nonneg i) (map_at' hx) rfl rfl rfl rfl) (wantV_ok rfl) rfl ?_
      refine PL.run 1 rfl ?_
      refine PL.call rfl rfl rfl (spec_l13Item_spec x (hq.bytes i x hx)) (.cons (.refl _) <| .nil) (fun p hp => by subst hp; rfl) (wantV_ok rfl) rfl (fun p hp => ?_)
      subst hp
      refine PL.run 1 rfl ?_
      refine PL.app rfl rfl rfl rfl rfl rfl rfl rfl rfl rfl (by simp <;> omega) (by simp <;> omega) (wantV_ok rfl) rfl ?_
      refine PL.run 1 rfl ?_
      refine PL.nil ?_
      refine PW.region ?_
      refine PL.run 3 rfl ?_
      refine PL.nil ?_
      exact ⟨i + 1, Le.row ⟨⟨rfl, rfl⟩, ⟨rfl, rfl⟩, ⟨inc_ok (by omega), rfl⟩, trivial⟩ rfl rfl (filt_step hx h2), hlt, by omega⟩
    ·
      refine PW.skip ?_
      refine PW.region ?_
      refine PL.run 3 rfl ?_
      refine PL.nil ?_
      exact ⟨i + 1, Le.row ⟨⟨rfl, rfl⟩, ⟨rfl, rfl⟩, ⟨inc_ok (by omega), rfl⟩, trivial⟩ rfl rfl (filt_skip hx h2), hlt, by omega⟩
  ·
    have hge : q.length ≤ i := by simpa using h1
    refine PW.exit ?_
    refine PW.seq ?_
    refine PW.region ?_
    refine PL.run 2 rfl ?_
    refine PL.nil ?_
    refine PW.ret ?_
    refine RetOk.of rfl (.one (.leaf (.row _ _ _ τ rfl))) (by simp) (by simp) ?_
    rw [List.take_of_length_le hge]; rfl
/- spec.Put -/
theorem spec_Put_spec (q : List Item) (x : Item) (hq : Sm q) (hl : q.length < 16777216) (hr : x.route.size ≤ 1099511627776) (hb : x.bytes.length ≤ 16777216) (τ : Nat) : Pw.Spec Tryz.prog 139 [eItems q, .agg (eItem x)] (fun res_ => res_ = .tup [.sl 4 ((putQ q x).map eItem) (some τ), eT (queueOk (putL q x))]) := by
  refine spec_of (n := 57) Tryz.call139 Tryz.func139 rfl rfl (by simp) rfl rfl fun W Z => ?_
  refine PW.seq ?_
  refine PW.region ?_
  refine PL.run 3 rfl ?_
  refine PL.nil ?_
  refine PW.seq ?_
  refine PW.region ?_
  refine PL.run 2 rfl ?_
  refine PL.nil ?_
  refine PW.seq ?_
  refine PW.seq ?_
  refine PW.region ?_
  refine PL.run 1 rfl ?_
  refine PL.nil ?_
  refine PW.block ?_
  refine PW.loopAt (α := Nat) (fun i => ⟨[(6, .sl 4 (((q.take i).filter (keepB x)).map eItem) (some 8)), (0, eItems q), (3, .rp (eItem x)), (7, eI (i : Int))], ⟨[], [(8, (4, (((q.take i).filter (keepB x)).map eItem).length))]⟩⟩) (fun i => i ≤ q.length) (fun i => q.length - i) 0
    (Le.keepF (L := [(8, ((4, 0), some 8))]) (L' := []) (b := []) [] (some (3, (64, eItem x))) (fun _ _ _ h => by cases h; exact ⟨rfl, rfl, rfl⟩) .nil (.cons (L' := []) rfl (.leaf (.f (.row 4 [] 8 8 rfl))) (.cons (L := []) (L' := []) rfl (.leaf (.f (.same _ rfl))) (.cons (L := []) (L' := []) rfl (.leaf (.fz 3 0 64 (eItem x) rfl)) (.cons (L := []) (L' := []) rfl (.leaf (.f (.same _ rfl))) .nil)))) rfl (by simp) (by simp))
    (Nat.zero_le _) (fun i hi => ?_)
  refine PW.seq ?_
  refine PW.seq ?_
  refine PW.region ?_
  refine PL.run 4 rfl ?_
  refine PL.nil ?_
  refine PW.cond rfl (fun h1 => ?_) (fun h1 => ?_)
  ·
    have hlt : i < q.length := by simpa using h1
    obtain ⟨y, hy⟩ : ∃ y, q[i]? = some y := ⟨_, List.getElem?_eq_getElem hlt⟩
    have hf := filt_len (keepB x) q i
    refine PW.skip ?_
    refine PW.seq ?_
    refine PW.block ?_
    refine PW.seq ?_
    rcases Bool.eq_false_or_eq_true (decide (x.topic ≤ 0)) with h2 | h2
    ·
      refine PW.drawn ((some 15, _) :: (some 16, _) :: (some 17, _) :: (some 18, .lit (.bool true)) :: (some 19, _) :: (some 20, _) :: (some 21, _) :: (some 22, _) :: (some 23, _) :: (some 24, _) :: (some 25, _) :: (some 26, _) :: (some 27, _) :: (some 28, _) :: (some 29, _) :: (some 30, _) :: (some 31, _) :: (some 32, _) :: (some 33, _) :: (some 34, _) :: (some 35, _) :: (some 36, _) :: (some 37, _) :: []) (0 :: 1 :: 3 :: 7 :: 15 :: 15 :: 63 :: 127 :: 255 :: 15 :: 527 :: 2047 :: 4095 :: 8191 :: 16383 :: 16383 :: 65535 :: 131071 :: 262143 :: 16383 :: 540671 :: 2097151 :: 4194303 :: []) (fun _ => _) mixed rfl rfl rfl rfl rfl
        (.cons rfl (fun ρ => PL.run 1 rfl (PL.nil rfl)) <|
        .cons rfl (fun ρ => PL.run 1 rfl (PL.nil rfl)) <|
        .cons rfl (fun ρ => PL.run 1 rfl (PL.nil rfl)) <|
        .cons rfl (fun ρ => PL.run 1 rfl (PL.nil (putb h2))) <|
        .cons rfl (fun ρ => PL.run 1 rfl (PL.nil rfl)) <|
        .cons rfl (fun ρ => PL.run 1 rfl (PL.nil rfl)) <|
        .cons rfl (fun ρ => PL.run 1 rfl (PL.nil rfl)) <|
        .cons rfl (fun ρ => PL.run 1 rfl (PL.nil rfl)) <|
        .cons rfl (fun ρ => PL.run 1 rfl (PL.nil rfl)) <|
        .cons rfl (fun ρ => PL.run 1 rfl (PL.nil rfl)) <|
        .cons rfl (fun ρ => PL.run 1 rfl (PL.nil rfl)) <|
        .cons rfl (fun ρ => PL.run 1 rfl (PL.nil rfl)) <|
        .cons rfl (fun ρ => PL.run 1 rfl (PL.nil rfl)) <|
        .cons rfl (fun ρ => PL.run 1 rfl (PL.nil rfl)) <|
        .cons rfl (fun ρ => PL.run 1 rfl (PL.nil rfl)) <|
        .cons rfl (fun ρ => PL.run 1 rfl (PL.nil rfl)) <|
        .cons rfl (fun ρ => PL.run 1 rfl (PL.nil rfl)) <|
        .cons rfl (fun ρ => PL.run 1 rfl (PL.nil rfl)) <|
        .cons rfl (fun ρ => PL.run 1 rfl (PL.nil rfl)) <|
        .cons rfl (fun ρ => PL.run 1 rfl (PL.nil rfl)) <|
        .cons rfl (fun ρ => PL.run 1 rfl (PL.nil rfl)) <|
        .cons rfl (fun ρ => PL.run 1 rfl (PL.nil rfl)) <|
        .cons rfl (fun ρ => PL.run 1 rfl (PL.nil rfl)) <|
        .nil _) ?_
      refine PW.condT rfl ?_
      refine PW.region ?_
      refine PL.run 3 rfl ?_
      refine PL.val (OpV.idx rfl rfl rfl (nat_nonneg i) (map_at' hy) rfl rfl rfl rfl) (wantV_ok rfl) rfl ?_
      refine PL.run 1 rfl ?_
      refine PL.call rfl rfl rfl (spec_l13Item_spec y (hq.bytes i y hy)) (.cons (.refl _) <| .nil) (fun p hp => by subst hp; rfl) (wantV_ok rfl) rfl (fun p hp => ?_)
      subst hp
      refine PL.run 1 rfl ?_
      refine PL.app rfl rfl rfl rfl rfl rfl rfl rfl rfl rfl (by simp <;> omega) (by simp <;> omega) (wantV_ok rfl) rfl ?_
      refine PL.run 1 rfl ?_
      refine PL.nil ?_
      refine PW.region ?_
      refine PL.run 3 rfl ?_
      refine PL.nil ?_
      exact ⟨i + 1, Le.row ⟨⟨rfl, rfl⟩, ⟨rfl, rfl⟩, ⟨inc_ok (by omega), rfl⟩, trivial⟩ rfl rfl (filt_step hy (by simp_all [keepB])), hlt, by omega⟩
    ·
      rcases Bool.eq_false_or_eq_true (!decide (y.route = x.route)) with h3 | h3
      ·
        refine PW.drawn ((some 15, _) :: (some 16, _) :: (some 17, _) :: (some 18, .lit (.bool false)) :: (some 19, _) :: (some 20, _) :: (some 21, _) :: (some 22, _) :: (some 23, _) :: (some 24, _) :: (some 25, _) :: (some 26, _) :: (some 27, _) :: (some 28, .lit (.bool true)) :: (some 29, _) :: (some 30, _) :: (some 31, _) :: (some 32, _) :: (some 33, _) :: (some 34, _) :: (some 35, _) :: (some 36, _) :: (some 37, _) :: []) (0 :: 1 :: 3 :: 7 :: 15 :: 15 :: 63 :: 127 :: 255 :: 15 :: 527 :: 2047 :: 4095 :: 8191 :: 16383 :: 16383 :: 65535 :: 131071 :: 262143 :: 16383 :: 540671 :: 2097151 :: 4194303 :: []) (fun _ => _) mixed rfl rfl rfl rfl rfl
          (.cons rfl (fun ρ => PL.run 1 rfl (PL.nil rfl)) <|
          .cons rfl (fun ρ => PL.run 1 rfl (PL.nil rfl)) <|
          .cons rfl (fun ρ => PL.run 1 rfl (PL.nil rfl)) <|
          .cons rfl (fun ρ => PL.run 1 rfl (PL.nil (putb h2))) <|
          .cons rfl (fun ρ => PL.run 1 rfl (PL.nil rfl)) <|
          .cons rfl (fun ρ => PL.run 1 rfl (PL.nil rfl)) <|
          .cons rfl (fun ρ => PL.val (OpV.idx rfl rfl rfl (nat_nonneg i) (map_at' hy) rfl rfl rfl rfl) (wantV_ok rfl) rfl (PL.nil rfl)) <|
          .cons rfl (fun ρ => PL.run 1 rfl (PL.nil rfl)) <|
          .cons rfl (fun ρ => PL.run 1 rfl (PL.nil rfl)) <|
          .cons rfl (fun ρ => PL.run 1 rfl (PL.nil rfl)) <|
          .cons rfl (fun ρ => PL.run 1 rfl (PL.nil rfl)) <|
          .cons rfl (fun ρ => PL.run 1 rfl (PL.nil rfl)) <|
          .cons rfl (fun ρ => PL.run 1 rfl (PL.nil rfl)) <|
          .cons rfl (fun ρ => PL.run 1 rfl (PL.nil (putb h3))) <|
          .cons rfl (fun ρ => PL.run 1 rfl (PL.nil rfl)) <|
          .cons rfl (fun ρ => PL.run 1 rfl (PL.nil rfl)) <|
          .cons rfl (fun ρ => PL.run 1 rfl (PL.nil rfl)) <|
          .cons rfl (fun ρ => PL.run 1 rfl (PL.nil rfl)) <|
          .cons rfl (fun ρ => PL.run 1 rfl (PL.nil rfl)) <|
          .cons rfl (fun ρ => PL.run 1 rfl (PL.nil rfl)) <|
          .cons rfl (fun ρ => PL.run 1 rfl (PL.nil rfl)) <|
          .cons rfl (fun ρ => PL.run 1 rfl (PL.nil rfl)) <|
          .cons rfl (fun ρ => PL.run 1 rfl (PL.nil rfl)) <|
          .nil _) ?_
        refine PW.condT rfl ?_
        refine PW.region ?_
        refine PL.run 3 rfl ?_
        refine PL.val (OpV.idx rfl rfl rfl (nat_nonneg i) (map_at' hy) rfl rfl rfl rfl) (wantV_ok rfl) rfl ?_
        refine PL.run 1 rfl ?_
        refine PL.call rfl rfl rfl (spec_l13Item_spec y (hq.bytes i y hy)) (.cons (.refl _) <| .nil) (fun p hp => by subst hp; rfl) (wantV_ok rfl) rfl (fun p hp => ?_)
        subst hp
        refine PL.run 1 rfl ?_
        refine PL.app rfl rfl rfl rfl rfl rfl rfl rfl rfl rfl (by simp <;> omega) (by simp <;> omega) (wantV_ok rfl) rfl ?_
        refine PL.run 1 rfl ?_
        refine PL.nil ?_
        refine PW.region ?_
        refine PL.run 3 rfl ?_
        refine PL.nil ?_
        exact ⟨i + 1, Le.row ⟨⟨rfl, rfl⟩, ⟨rfl, rfl⟩, ⟨inc_ok (by omega), rfl⟩, trivial⟩ rfl rfl (filt_step hy (by simp_all [keepB])), hlt, by omega⟩
      ·
        refine PW.drawn ((some 15, _) :: (some 16, _) :: (some 17, _) :: (some 18, .lit (.bool false)) :: (some 19, _) :: (some 20, _) :: (some 21, _) :: (some 22, _) :: (some 23, _) :: (some 24, _) :: (some 25, _) :: (some 26, _) :: (some 27, _) :: (some 28, .lit (.bool false)) :: (some 29, _) :: (some 30, _) :: (some 31, _) :: (some 32, _) :: (some 33, _) :: (some 34, _) :: (some 35, _) :: (some 36, _) :: (some 37, _) :: []) (0 :: 1 :: 3 :: 7 :: 15 :: 15 :: 63 :: 127 :: 255 :: 15 :: 527 :: 2047 :: 4095 :: 8191 :: 16383 :: 16383 :: 65535 :: 131071 :: 262143 :: 16383 :: 540671 :: 2097151 :: 4194303 :: []) (fun _ => _) mixed rfl rfl rfl rfl rfl
          (.cons rfl (fun ρ => PL.run 1 rfl (PL.nil rfl)) <|
          .cons rfl (fun ρ => PL.run 1 rfl (PL.nil rfl)) <|
          .cons rfl (fun ρ => PL.run 1 rfl (PL.nil rfl)) <|
          .cons rfl (fun ρ => PL.run 1 rfl (PL.nil (putb h2))) <|
          .cons rfl (fun ρ => PL.run 1 rfl (PL.nil rfl)) <|
          .cons rfl (fun ρ => PL.run 1 rfl (PL.nil rfl)) <|
          .cons rfl (fun ρ => PL.val (OpV.idx rfl rfl rfl (nat_nonneg i) (map_at' hy) rfl rfl rfl rfl) (wantV_ok rfl) rfl (PL.nil rfl)) <|
          .cons rfl (fun ρ => PL.run 1 rfl (PL.nil rfl)) <|
          .cons rfl (fun ρ => PL.run 1 rfl (PL.nil rfl)) <|
          .cons rfl (fun ρ => PL.run 1 rfl (PL.nil rfl)) <|
          .cons rfl (fun ρ => PL.run 1 rfl (PL.nil rfl)) <|
          .cons rfl (fun ρ => PL.run 1 rfl (PL.nil rfl)) <|
          .cons rfl (fun ρ => PL.run 1 rfl (PL.nil rfl)) <|
          .cons rfl (fun ρ => PL.run 1 rfl (PL.nil (putb h3))) <|
          .cons rfl (fun ρ => PL.run 1 rfl (PL.nil rfl)) <|
          .cons rfl (fun ρ => PL.run 1 rfl (PL.nil rfl)) <|
          .cons rfl (fun ρ => PL.val (OpV.idx rfl rfl rfl (nat_nonneg i) (map_at' hy) rfl rfl rfl rfl) (wantV_ok rfl) rfl (PL.nil rfl)) <|
          .cons rfl (fun ρ => PL.run 1 rfl (PL.nil rfl)) <|
          .cons rfl (fun ρ => PL.run 1 rfl (PL.nil rfl)) <|
          .cons rfl (fun ρ => PL.run 1 rfl (PL.nil rfl)) <|
          .cons rfl (fun ρ => PL.run 1 rfl (PL.nil rfl)) <|
          .cons rfl (fun ρ => PL.run 1 rfl (PL.nil rfl)) <|
          .cons rfl (fun ρ => PL.run 1 rfl (PL.nil rfl)) <|
          .nil _) ?_
        refine PW.cond rfl (fun h4 => ?_) (fun h4 => ?_)
        ·
          refine PW.region ?_
          refine PL.run 3 rfl ?_
          refine PL.val (OpV.idx rfl rfl rfl (nat_nonneg i) (map_at' hy) rfl rfl rfl rfl) (wantV_ok rfl) rfl ?_
          refine PL.run 1 rfl ?_
          refine PL.call rfl rfl rfl (spec_l13Item_spec y (hq.bytes i y hy)) (.cons (.refl _) <| .nil) (fun p hp => by subst hp; rfl) (wantV_ok rfl) rfl (fun p hp => ?_)
          subst hp
          refine PL.run 1 rfl ?_
          refine PL.app rfl rfl rfl rfl rfl rfl rfl rfl rfl rfl (by simp <;> omega) (by simp <;> omega) (wantV_ok rfl) rfl ?_
          refine PL.run 1 rfl ?_
          refine PL.nil ?_
          refine PW.region ?_
          refine PL.run 3 rfl ?_
          refine PL.nil ?_
          exact ⟨i + 1, Le.row ⟨⟨rfl, rfl⟩, ⟨rfl, rfl⟩, ⟨inc_ok (by omega), rfl⟩, trivial⟩ rfl rfl (filt_step hy (by simp_all [keepB])), hlt, by omega⟩
        ·
          refine PW.skip ?_
          refine PW.region ?_
          refine PL.run 3 rfl ?_
          refine PL.nil ?_
          exact ⟨i + 1, Le.row ⟨⟨rfl, rfl⟩, ⟨rfl, rfl⟩, ⟨inc_ok (by omega), rfl⟩, trivial⟩ rfl rfl (filt_skip hy (by simp_all [keepB])), hlt, by omega⟩
  ·
    have hge : q.length ≤ i := by simpa using h1
    have hf := filt_len (keepB x) q i
    have E : ((q.take i).filter (keepB x)).map eItem ++ [eItem x] = (putL q x).map eItem := by rw [List.take_of_length_le hge]; simp [putL]
    refine PW.exit ?_
    refine PW.seq ?_
    refine PW.region ?_
    refine PL.run 2 rfl ?_
    refine PL.call rfl rfl rfl (spec_l13Item_spec x hb) (.cons (.refl _) <| .nil) (fun p hp => by subst hp; rfl) (wantV_ok rfl) rfl (fun p hp => ?_)
    subst hp
    refine PL.run 1 rfl ?_
    refine PL.app rfl rfl rfl rfl rfl rfl rfl rfl rfl rfl (by simp <;> omega) (by simp <;> omega) (wantV_ok rfl) rfl ?_
    refine PL.run 1 rfl ?_
    refine PL.nil ?_
    refine PW.seq ?_
    refine PW.seq ?_
    refine PW.region ?_
    refine PL.run 1 rfl ?_
    refine PL.call rfl rfl rfl (spec_QueueOk_spec (putL q x) (hq.put hl hr hb)) (.cons (wkrow E) .nil) (fun p hp => by subst hp; rfl) (wantV_ok rfl) rfl (fun p hp => ?_)
    subst hp
    refine PL.run 1 rfl ?_
    refine PL.nil ?_
    refine PW.cond rfl (fun h5 => ?_) (fun h5 => ?_)
    ·
      refine PW.seq ?_
      refine PW.region ?_
      refine PL.run 1 rfl ?_
      refine PL.call rfl rfl rfl (spec_l13Queue_spec q hq 1001) (.cons (.refl _) <| .nil) (fun p hp => by subst hp; rfl) (wantV_ok rfl) rfl (fun p hp => ?_)
      subst hp
      refine PL.run 2 rfl ?_
      refine PL.nil ?_
      refine PW.ret ?_
      refine RetOk.of rfl (.tup (.cons (.leaf (.row _ _ 1001 τ rfl)) (.cons (.leaf (.same _ rfl)) .nil))) (by simp) (by simp) ?_
      have hno : queueOk (putL q x) = false := by simpa using h5
      simp [putQ, hno]
    ·
      refine PW.skip ?_
      refine PW.seq ?_
      refine PW.region ?_
      refine PL.run 3 rfl ?_
      refine PL.nil ?_
      refine PW.ret ?_
      refine RetOk.of rfl (.tup (.cons (.leaf (.row _ _ 8 τ rfl)) (.cons (.leaf (.same _ rfl)) .nil))) (by simp) (by simp) ?_
      have hyes : queueOk (putL q x) = true := by simpa using h5
      simp only [putQ, hyes, if_true]
      exact congrArg (fun e => PV.tup [.sl 4 e (some τ), eT true]) E
end Go.Wl
