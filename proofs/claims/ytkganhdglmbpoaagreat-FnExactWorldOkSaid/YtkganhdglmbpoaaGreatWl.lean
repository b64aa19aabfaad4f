/- The walks, eleventh text: a book is played (the specification's); posts. -/
import Derived.Test.YtkganhdglmbpoaaGreatWk
set_option linter.unusedVariables false
set_option linter.unusedSimpArgs false
set_option maxRecDepth 100000
set_option maxHeartbeats 8000000
namespace Go.Wl
open Go Go.RowKit Go.Pw Go.Proofs
def playQ (q : List Item) (now : Int) (l : Line) : List Item :=
  if l.kind = 1 then putQ q (itemOf l) else if l.kind = 2 then takeR q l.route else if l.kind = 3 then (if now ≤ l.due then dueL q l.due else q) else q
def playT (now : Int) (l : Line) : Int := if l.kind = 3 then (if now ≤ l.due then l.due else now) else now
/- spec.l14Play -/
theorem spec_l14Play_spec (q : List Item) (now : Int) (l : Line) (hq : Sm q) (hl : q.length < 16777216) (hs : l.route.size ≤ 1099511627776) (h : l.bytes.length ≤ 16777216) : Pw.Spec Tryz.prog 117 [eItems q, eI now, .agg (eLine l)] (fun res_ => res_ = .tup [eItems (playQ q now l), eI (playT now l)]) := by
  refine spec_of (n := 43) Tryz.call117 Tryz.func117 rfl rfl (by simp) rfl rfl fun W Z => ?_
  refine PW.seq ?_
  refine PW.region ?_
  refine PL.run 3 rfl ?_
  refine PL.nil ?_
  refine PW.seq ?_
  refine PW.seq ?_
  refine PW.region ?_
  refine PL.run 2 rfl ?_
  refine PL.nil ?_
  refine PW.block ?_
  refine PW.seq ?_
  refine PW.region ?_
  refine PL.run 2 rfl ?_
  refine PL.nil ?_
  refine PW.cond rfl (fun h1 => ?_) (fun h1 => ?_)
  ·
    refine PW.region ?_
    refine PL.run 2 rfl ?_
    refine PL.call rfl rfl rfl (spec_l14Item_spec l h) (.cons (.refl _) <| .nil) (fun p hp => by subst hp; rfl) (wantV_ok rfl) rfl (fun p hp => ?_)
    subst hp
    refine PL.call rfl rfl rfl (spec_Put_spec q (itemOf l) hq hl hs h 900) (.cons (.refl _) <| .cons (.refl _) <| .nil) (fun p hp => by subst hp; rfl) (wantV_ok rfl) rfl (fun p hp => ?_)
    subst hp
    refine PL.run 4 rfl ?_
    refine PL.nil ?_
    refine PW.seq ?_
    refine PW.region ?_
    refine PL.run 4 rfl ?_
    refine PL.nil ?_
    refine PW.ret ?_
    refine RetOk.of rfl (.tup (.cons (.leaf (.ro _ _ _)) (.cons (.leaf (.same _ rfl)) .nil))) (by simp) (by simp) ?_
    have h1 := of_decide_eq_true h1
    simp [playQ, playT, h1, eItems]
  ·
    refine PW.seq ?_
    refine PW.region ?_
    refine PL.run 2 rfl ?_
    refine PL.nil ?_
    refine PW.cond rfl (fun h2 => ?_) (fun h2 => ?_)
    ·
      refine PW.region ?_
      refine PL.run 3 rfl ?_
      refine PL.call rfl rfl rfl (spec_Take_spec q l.route hq 901) (.cons (.refl _) <| .cons (.refl _) <| .nil) (fun p hp => by subst hp; rfl) (wantV_ok rfl) rfl (fun p hp => ?_)
      subst hp
      refine PL.run 5 rfl ?_
      refine PL.nil ?_
      refine PW.seq ?_
      refine PW.region ?_
      refine PL.run 4 rfl ?_
      refine PL.nil ?_
      refine PW.ret ?_
      refine RetOk.of rfl (.tup (.cons (.leaf (.ro _ _ _)) (.cons (.leaf (.same _ rfl)) .nil))) (by simp) (by simp) ?_
      have h2 := of_decide_eq_true h2
      simp [playQ, playT, h2, eItems]
    ·
      refine PW.seq ?_
      refine PW.region ?_
      refine PL.run 2 rfl ?_
      refine PL.nil ?_
      refine PW.cond rfl (fun h3 => ?_) (fun h3 => ?_)
      ·
        refine PW.seq ?_
        refine PW.region ?_
        refine PL.run 4 rfl ?_
        refine PL.nil ?_
        refine PW.cond rfl (fun h4 => ?_) (fun h4 => ?_)
        ·
          refine PW.seq ?_
          refine PW.drawn ((some 35, _) :: (some 36, _) :: (some 37, _) :: (some 38, _) :: (some 39, _) :: (some 40, _) :: (some 6, _) :: (some 7, _) :: []) (0 :: 0 :: 2 :: 7 :: 0 :: 16 :: 15 :: 127 :: []) (phs [] _ [(3, _)] _) mixed rfl rfl rfl rfl rfl
            (.cons rfl (fun ρ => PL.run 1 rfl (PL.nil rfl)) <|
            .cons rfl (fun ρ => PL.run 1 rfl (PL.nil rfl)) <|
            .cons rfl (fun ρ => PL.run 1 rfl (PL.nil rfl)) <|
            .cons rfl (fun ρ => PL.call rfl rfl rfl (spec_Due_spec q l.due hq 902) (.cons (.refl _) <| .cons (.refl _) <| .nil) (fun p hp => by subst hp; rfl) (wantV_ok rfl) rfl (fun p hp => by subst hp; exact PL.nil rfl)) <|
            .cons rfl (fun ρ => PL.run 1 rfl (PL.nil rfl)) <|
            .cons rfl (fun ρ => PL.run 1 rfl (PL.nil rfl)) <|
            .cons rfl (fun ρ => PL.run 1 rfl (PL.nil rfl)) <|
            .cons rfl (fun ρ => PL.run 1 rfl (PL.nil rfl)) <|
            .nil _) ?_
          refine PW.ret ?_
          refine RetOk.of rfl (.tup (.cons (.leaf (.ro _ _ _)) (.cons (.leaf (.same _ rfl)) .nil))) (by simp) (by simp) ?_
          have h3 := of_decide_eq_true h3
          have h4 := of_decide_eq_true h4
          simp [playQ, playT, h3, h4, eItems]
        ·
          refine PW.skip ?_
          refine PW.seq ?_
          refine PW.region ?_
          refine PL.run 4 rfl ?_
          refine PL.nil ?_
          refine PW.ret ?_
          refine RetOk.free rfl rfl ?_
          have h3 := of_decide_eq_true h3
          have h4 := of_decide_eq_false h4
          simp [playQ, playT, h3, h4]
      ·
        refine PW.skip ?_
        refine PW.seq ?_
        refine PW.region ?_
        refine PL.run 4 rfl ?_
        refine PL.nil ?_
        refine PW.ret ?_
        refine RetOk.free rfl rfl ?_
        have h1 := of_decide_eq_false h1
        have h2 := of_decide_eq_false h2
        have h3 := of_decide_eq_false h3
        simp [playQ, playT, h1, h2, h3]
def playF (b : List UInt8) : Nat → List Item → Int → Nat → List Item × Int × Nat
  | 0, q, now, i => (q, now, i)
  | k + 1, q, now, i => match lineOf b i with
    | some (l, n) => playF b k (playQ q now l) (playT now l) n
    | none => (q, now, i)
def play (b : List UInt8) : List Item × Int × Nat := playF b (b.length + 1) [] 0 0
theorem takeQ_sub {r : ByteArray} : ∀ {q : List Item} {x : Item} {l : List Item}, takeQ r q = some (x, l) → x ∈ q ∧ (∀ y ∈ l, y ∈ q) ∧ l.length ≤ q.length
  | [], _, _, h => by simp [takeQ] at h
  | z :: q, x, l, h => by
    simp only [takeQ] at h
    split at h
    · cases h
      exact ⟨List.mem_cons_self, fun y hy => List.mem_cons_of_mem _ hy, by simp⟩
    · split at h
      · rename_i y l' hl
        cases h
        obtain ⟨h1, h2, h3⟩ := takeQ_sub hl
        refine ⟨List.mem_cons_of_mem _ h1, fun y hy => ?_, by simp; omega⟩
        rcases List.mem_cons.1 hy with rfl | hy
        · exact List.mem_cons_self
        · exact List.mem_cons_of_mem _ (h2 y hy)
      · cases h
theorem takeR_sub (q : List Item) (r : ByteArray) : (∀ y ∈ takeR q r, y ∈ q) ∧ (takeR q r).length ≤ q.length := by
  unfold takeR
  split
  · rename_i h; exact (takeQ_sub h).2
  · exact ⟨fun y hy => hy, Nat.le_refl _⟩
theorem queueOk_len {q : List Item} (h : queueOk q = true) : q.length ≤ 10 := by
  simp only [queueOk, Bool.and_eq_true, decide_eq_true_eq] at h; exact h.1
theorem playQ_sm {q : List Item} {now : Int} {l : Line} (hq : Sm q) (hl : q.length ≤ 10) (hs : l.route.size ≤ 1099511627776) (h : l.bytes.length ≤ 16777216) : Sm (playQ q now l) ∧ (playQ q now l).length ≤ 10 := by
  unfold playQ
  split
  · unfold putQ
    split
    · rename_i h2
      exact ⟨hq.put (by omega) hs h, queueOk_len h2⟩
    · exact ⟨hq, hl⟩
  · split
    · have := takeR_sub q l.route
      exact ⟨hq.sub this.1 this.2, by omega⟩
    · split
      · split
        · have := List.length_filter_le (fun y : Item => decide (l.due ≤ y.due)) q
          exact ⟨hq.sub (fun y hy => (List.mem_filter.1 hy).1) this, by unfold dueL; omega⟩
        · exact ⟨hq, hl⟩
      · exact ⟨hq, hl⟩
theorem lineOf_some {b : List UInt8} {i n : Nat} {l : Line} (h : lineOf b i = some (l, n)) : i < n ∧ n ≤ b.length ∧ l = lineAt b i ∧ i + 9 ≤ b.length := by
  unfold lineOf at h
  split at h
  · split at h
    · split at h
      · cases h
        exact ⟨by omega, by omega, rfl, by omega⟩
      · cases h
    · cases h
  · cases h
theorem Sm.nil : Sm [] := ⟨Nat.zero_le _, fun i x h => by simp at h, fun i x h => by simp at h⟩
structure PlOk (b : List UInt8) (x : Nat × List Item × Int × Nat) : Prop where
  le : x.2.2.2 ≤ b.length
  lt : b.length < x.2.2.2 + x.1
  sm : Sm x.2.1
  len : x.2.1.length ≤ 10
  eq : playF b x.1 x.2.1 x.2.2.1 x.2.2.2 = play b
def playR (p : List Item × Int × Nat) : PV := .tup [eItems p.1, eI p.2.1, eI ((p.2.2 : Nat) : Int)]
/- spec.Play -/
theorem spec_Play_spec (b : List UInt8) (hb : b.length ≤ 16777216) : Pw.Spec Tryz.prog 82 [eBs b] (fun res_ => res_ = playR (play b)) := by
  refine spec_of (n := 32) Tryz.call82 Tryz.func82 rfl rfl (by simp) rfl rfl fun W Z => ?_
  refine PW.seq ?_
  refine PW.region ?_
  refine PL.run 3 rfl ?_
  refine PL.nil ?_
  refine PW.seq ?_
  refine PW.region ?_
  refine PL.run 2 rfl ?_
  refine PL.nil ?_
  refine PW.seq ?_
  refine PW.region ?_
  refine PL.run 1 rfl ?_
  refine PL.nil ?_
  refine PW.seq ?_
  refine PW.region ?_
  refine PL.run 1 rfl ?_
  refine PL.nil ?_
  refine PW.block ?_
  refine PW.loopAt (α := Nat × List Item × Int × Nat) (fun x => ⟨[(5, eItems x.2.1), (0, eBs b), (6, eI x.2.2.1), (7, eI ((x.2.2.2 : Nat) : Int))], PH.none⟩) (PlOk b) (fun x => x.1) (b.length + 1, [], 0, 0) (Le.ro (.ro rfl <| .same rfl rfl <| .same rfl rfl <| .same rfl rfl .nil)) ⟨Nat.zero_le _, by simp, Sm.nil, Nat.zero_le _, rfl⟩ (fun x hx => ?_)
  obtain ⟨k, q, now, i⟩ := x
  have hi := hx.le
  have hk := hx.lt
  have hq := hx.sm
  have hl := hx.len
  have he := hx.eq
  simp only at hi hk hq hl he ⊢
  refine PW.block ?_
  refine PW.seq ?_
  refine PW.region ?_
  refine PL.run 2 rfl ?_
  refine PL.call rfl rfl rfl (spec_LineOf_spec b i hb hi) (.cons (.refl _) <| .cons (.refl _) <| .nil) (fun p hp => by subst hp; rfl) (wantV_ok rfl) rfl (fun p hp => ?_)
  subst hp
  refine PL.run 8 rfl ?_
  refine PL.nil ?_
  refine PW.seq ?_
  refine PW.seq ?_
  refine PW.region ?_
  refine PL.run 2 rfl ?_
  refine PL.nil ?_
  refine PW.cond rfl (fun h1 => ?_) (fun h1 => ?_)
  ·
    have hn : lineOf b i = none := by simpa using h1
    refine PW.seq ?_
    refine PW.region ?_
    refine PL.run 6 rfl ?_
    refine PL.nil ?_
    refine PW.ret ?_
    obtain ⟨j, rfl⟩ : ∃ j, k = j + 1 := ⟨k - 1, by omega⟩
    simp only [playF, hn] at he
    refine RetOk.free rfl rfl ?_
    rw [← he]; rfl
  ·
    obtain ⟨⟨l, n⟩, hn⟩ : ∃ p, lineOf b i = some p := Option.isSome_iff_exists.1 (by simpa using h1)
    obtain ⟨e1, e2, e3, e4⟩ := lineOf_some hn
    have e5 := lineAt_len b i
    have e6 := lineAt_size b i e4
    rw [← e3] at e5 e6
    have g1 : l.route.size ≤ 1099511627776 := by omega
    have g2 : l.bytes.length ≤ 16777216 := by omega
    refine PW.skip ?_
    refine PW.seq ?_
    refine PW.region ?_
    refine PL.run 3 rfl ?_
    refine PL.call rfl rfl rfl (spec_l14Play_spec q now l hq (by omega) g1 g2) (.cons (.refl _) <| .cons (.refl _) <| .cons (wkeq (by rw [hn]; rfl)) .nil) (fun p hp => by subst hp; rfl) (wantV_ok rfl) rfl (fun p hp => ?_)
    subst hp
    refine PL.run 5 rfl ?_
    refine PL.nil ?_
    refine PW.region ?_
    refine PL.run 2 rfl ?_
    refine PL.nil ?_
    obtain ⟨j, rfl⟩ : ∃ j, k = j + 1 := ⟨k - 1, by omega⟩
    obtain ⟨g3, g4⟩ := playQ_sm (now := now) hq hl g1 g2
    simp only [playF, hn] at he
    refine ⟨(j, playQ q now l, playT now l, n), Le.ro (.same rfl rfl <| .same rfl rfl <| .same rfl rfl <| .same ?_ rfl .nil), ⟨e2, by simp only; omega, g3, g4, he⟩, Nat.lt_succ_self _⟩
    rw [hn]; rfl
def sameI (x y : Item) : Bool := decide (x.route = y.route) && (decide (x.topic = y.topic) && (decide (x.due = y.due) && decide (x.bytes = y.bytes)))
def sameQ : List Item → List Item → Bool
  | [], [] => true
  | x :: a, y :: b => sameI x y && sameQ a b
  | _, _ => false
theorem sameQ_step {a b : List Item} {i : Nat} {x y : Item} (hx : a[i]? = some x) (hy : b[i]? = some y) : sameQ (a.drop i) (b.drop i) = (sameI x y && sameQ (a.drop (i + 1)) (b.drop (i + 1))) := by
  rw [List.drop_eq_getElem_cons (List.getElem?_eq_some_iff.1 hx).1, (List.getElem?_eq_some_iff.1 hx).2, List.drop_eq_getElem_cons (List.getElem?_eq_some_iff.1 hy).1, (List.getElem?_eq_some_iff.1 hy).2]
  rfl
theorem sameQ_end {a b : List Item} {i : Nat} (h : a.length ≤ i ∨ b.length ≤ i) (ha : i ≤ a.length) (hb : i ≤ b.length) : sameQ (a.drop i) (b.drop i) = decide (a.length = b.length) := by
  rcases h with h | h
  · have : i = a.length := by omega
    subst this
    rw [List.drop_length]
    by_cases e : a.length = b.length
    · rw [e, List.drop_length]; simp [sameQ]
    · rw [List.drop_eq_getElem_cons (by omega)]; simp [sameQ, e]
  · have : i = b.length := by omega
    subst this
    rw [List.drop_length]
    by_cases e : a.length = b.length
    · rw [← e, List.drop_length]; simp [sameQ]
    · rw [List.drop_eq_getElem_cons (by omega)]; simp [sameQ, e]
/- spec.l15Queues -/
theorem spec_l15Queues_spec (a b : List Item) (ha : a.length ≤ 16777216) (hb : b.length ≤ 16777216) : Pw.Spec Tryz.prog 83 [eItems a, eItems b] (fun res_ => res_ = eT (sameQ a b)) := by
  refine spec_of (n := 74) Tryz.call83 Tryz.func83 rfl rfl (by simp) rfl rfl fun W Z => ?_
  refine PW.seq ?_
  refine PW.region ?_
  refine PL.run 1 rfl ?_
  refine PL.nil ?_
  refine PW.seq ?_
  refine PW.seq ?_
  refine PW.region ?_
  refine PL.run 1 rfl ?_
  refine PL.nil ?_
  refine PW.block ?_
  refine PW.loopAt (α := Nat) (fun i => ⟨[(0, eItems a), (1, eItems b), (5, eI (i : Int))], PH.none⟩) (fun i => i ≤ a.length ∧ i ≤ b.length ∧ sameQ (a.drop i) (b.drop i) = sameQ a b) (fun i => a.length - i) 0 Le.free ⟨Nat.zero_le _, Nat.zero_le _, rfl⟩ (fun i hi => ?_)
  refine PW.seq ?_
  refine PW.seq ?_
  refine PW.region ?_
  refine PL.run 5 rfl ?_
  refine PL.split (t := 10) rfl (fun h1 => ?_) (fun h1 => ?_)
  ·
    refine PL.run 5 rfl ?_
    refine PL.nil ?_
    refine PW.cond rfl (fun h2 => ?_) (fun h2 => ?_)
    ·
      have hlb : i < b.length := by simpa using h2
      have hla : i < a.length := by simpa using h1
      clear h1 h2
      obtain ⟨x, hx⟩ : ∃ y, a[i]? = some y := ⟨_, List.getElem?_eq_getElem hla⟩
      obtain ⟨y, hy⟩ : ∃ y, b[i]? = some y := ⟨_, List.getElem?_eq_getElem hlb⟩
      have hs := sameQ_step hx hy
      rw [hi.2.2] at hs
      refine PW.skip ?_
      refine PW.seq ?_
      refine PW.block ?_
      refine PW.seq ?_
      rcases Bool.eq_false_or_eq_true (!decide (x.route = y.route)) with h3 | h3
      ·
        refine PW.drawn ((some 18, _) :: (some 19, _) :: (some 20, _) :: (some 21, _) :: (some 22, _) :: (some 23, _) :: (some 24, _) :: (some 25, _) :: (some 26, _) :: (some 27, _) :: (some 28, _) :: (some 29, .lit (.bool true)) :: (some 30, _) :: (some 31, _) :: (some 32, _) :: (some 33, _) :: (some 34, _) :: (some 35, _) :: (some 36, _) :: (some 37, _) :: (some 38, _) :: (some 39, _) :: (some 40, _) :: (some 41, _) :: (some 42, _) :: (some 43, _) :: (some 44, _) :: (some 45, _) :: (some 46, _) :: (some 47, _) :: (some 48, _) :: (some 49, _) :: (some 50, _) :: (some 51, _) :: (some 52, _) :: (some 53, _) :: (some 54, _) :: (some 55, _) :: (some 56, _) :: (some 57, _) :: (some 58, _) :: (some 59, _) :: (some 60, _) :: (some 61, _) :: (some 62, _) :: (some 63, _) :: (some 64, _) :: (some 65, _) :: (some 66, _) :: (some 67, _) :: (some 68, _) :: []) (0 :: 0 :: 3 :: 7 :: 15 :: 0 :: 0 :: 96 :: 224 :: 480 :: 1023 :: 2047 :: 4095 :: 4095 :: 16383 :: 32767 :: 65535 :: 4095 :: 4095 :: 397311 :: 921599 :: 1970175 :: 4194303 :: 8388607 :: 16777215 :: 33554431 :: 33554431 :: 134217727 :: 268435455 :: 536870911 :: 33554431 :: 33554431 :: 3254779903 :: 7549747199 :: 16139681791 :: 34359738367 :: 68719476735 :: 137438953471 :: 274877906943 :: 274877906943 :: 1099511627775 :: 2199023255551 :: 4398046511103 :: 274877906943 :: 274877906943 :: 26663156973567 :: 61847529062399 :: 132216273240063 :: 281474976710655 :: 562949953421311 :: 1125899906842623 :: []) (fun _ => _) mixed rfl rfl rfl rfl rfl
          (.cons rfl (fun ρ => PL.run 1 rfl (PL.nil rfl)) <|
          .cons rfl (fun ρ => PL.run 1 rfl (PL.nil rfl)) <|
          .cons rfl (fun ρ => PL.val (OpV.idx rfl rfl rfl (nat_nonneg i) (map_at' hx) rfl rfl rfl rfl) (wantV_ok rfl) rfl (PL.nil rfl)) <|
          .cons rfl (fun ρ => PL.run 1 rfl (PL.nil rfl)) <|
          .cons rfl (fun ρ => PL.run 1 rfl (PL.nil rfl)) <|
          .cons rfl (fun ρ => PL.run 1 rfl (PL.nil rfl)) <|
          .cons rfl (fun ρ => PL.run 1 rfl (PL.nil rfl)) <|
          .cons rfl (fun ρ => PL.val (OpV.idx rfl rfl rfl (nat_nonneg i) (map_at' hy) rfl rfl rfl rfl) (wantV_ok rfl) rfl (PL.nil rfl)) <|
          .cons rfl (fun ρ => PL.run 1 rfl (PL.nil rfl)) <|
          .cons rfl (fun ρ => PL.run 1 rfl (PL.nil rfl)) <|
          .cons rfl (fun ρ => PL.run 1 rfl (PL.nil rfl)) <|
          .cons rfl (fun ρ => PL.run 1 rfl (PL.nil (putb h3))) <|
          .cons rfl (fun ρ => PL.run 1 rfl (PL.nil rfl)) <|
          .cons rfl (fun ρ => PL.run 1 rfl (PL.nil rfl)) <|
          .cons rfl (fun ρ => PL.run 1 rfl (PL.nil rfl)) <|
          .cons rfl (fun ρ => PL.run 1 rfl (PL.nil rfl)) <|
          .cons rfl (fun ρ => PL.run 1 rfl (PL.nil rfl)) <|
          .cons rfl (fun ρ => PL.run 1 rfl (PL.nil rfl)) <|
          .cons rfl (fun ρ => PL.run 1 rfl (PL.nil rfl)) <|
          .cons rfl (fun ρ => PL.run 1 rfl (PL.nil rfl)) <|
          .cons rfl (fun ρ => PL.run 1 rfl (PL.nil rfl)) <|
          .cons rfl (fun ρ => PL.run 1 rfl (PL.nil rfl)) <|
          .cons rfl (fun ρ => PL.run 1 rfl (PL.nil rfl)) <|
          .cons rfl (fun ρ => PL.run 1 rfl (PL.nil rfl)) <|
          .cons rfl (fun ρ => PL.run 1 rfl (PL.nil rfl)) <|
          .cons rfl (fun ρ => PL.run 1 rfl (PL.nil rfl)) <|
          .cons rfl (fun ρ => PL.run 1 rfl (PL.nil rfl)) <|
          .cons rfl (fun ρ => PL.run 1 rfl (PL.nil rfl)) <|
          .cons rfl (fun ρ => PL.run 1 rfl (PL.nil rfl)) <|
          .cons rfl (fun ρ => PL.run 1 rfl (PL.nil rfl)) <|
          .cons rfl (fun ρ => PL.run 1 rfl (PL.nil rfl)) <|
          .cons rfl (fun ρ => PL.run 1 rfl (PL.nil rfl)) <|
          .cons rfl (fun ρ => PL.run 1 rfl (PL.nil rfl)) <|
          .cons rfl (fun ρ => PL.run 1 rfl (PL.nil rfl)) <|
          .cons rfl (fun ρ => PL.run 1 rfl (PL.nil rfl)) <|
          .cons rfl (fun ρ => PL.run 1 rfl (PL.nil rfl)) <|
          .cons rfl (fun ρ => PL.run 1 rfl (PL.nil rfl)) <|
          .cons rfl (fun ρ => PL.run 1 rfl (PL.nil rfl)) <|
          .cons rfl (fun ρ => PL.run 1 rfl (PL.nil rfl)) <|
          .cons rfl (fun ρ => PL.run 1 rfl (PL.nil rfl)) <|
          .cons rfl (fun ρ => PL.run 1 rfl (PL.nil rfl)) <|
          .cons rfl (fun ρ => PL.run 1 rfl (PL.nil rfl)) <|
          .cons rfl (fun ρ => PL.run 1 rfl (PL.nil rfl)) <|
          .cons rfl (fun ρ => PL.run 1 rfl (PL.nil rfl)) <|
          .cons rfl (fun ρ => PL.run 1 rfl (PL.nil rfl)) <|
          .cons rfl (fun ρ => PL.run 1 rfl (PL.nil rfl)) <|
          .cons rfl (fun ρ => PL.run 1 rfl (PL.nil rfl)) <|
          .cons rfl (fun ρ => PL.run 1 rfl (PL.nil rfl)) <|
          .cons rfl (fun ρ => PL.run 1 rfl (PL.nil rfl)) <|
          .cons rfl (fun ρ => PL.run 1 rfl (PL.nil rfl)) <|
          .cons rfl (fun ρ => PL.run 1 rfl (PL.nil rfl)) <|
          .nil _) ?_
        refine PW.condT rfl ?_
        refine PW.seq ?_
        refine PW.region ?_
        refine PL.run 1 rfl ?_
        refine PL.nil ?_
        refine PW.ret ?_
        refine RetOk.free rfl rfl (congrArg eT ?_)
        rw [hs]; simp_all [sameI]
      ·
        rcases Bool.eq_false_or_eq_true (!decide (x.topic = y.topic)) with h4 | h4
        ·
          refine PW.drawn ((some 18, _) :: (some 19, _) :: (some 20, _) :: (some 21, _) :: (some 22, _) :: (some 23, _) :: (some 24, _) :: (some 25, _) :: (some 26, _) :: (some 27, _) :: (some 28, _) :: (some 29, .lit (.bool false)) :: (some 30, _) :: (some 31, _) :: (some 32, _) :: (some 33, _) :: (some 34, _) :: (some 35, _) :: (some 36, _) :: (some 37, _) :: (some 38, _) :: (some 39, _) :: (some 40, _) :: (some 41, _) :: (some 42, .lit (.bool true)) :: (some 43, _) :: (some 44, _) :: (some 45, _) :: (some 46, _) :: (some 47, _) :: (some 48, _) :: (some 49, _) :: (some 50, _) :: (some 51, _) :: (some 52, _) :: (some 53, _) :: (some 54, _) :: (some 55, _) :: (some 56, _) :: (some 57, _) :: (some 58, _) :: (some 59, _) :: (some 60, _) :: (some 61, _) :: (some 62, _) :: (some 63, _) :: (some 64, _) :: (some 65, _) :: (some 66, _) :: (some 67, _) :: (some 68, _) :: []) (0 :: 0 :: 3 :: 7 :: 15 :: 0 :: 0 :: 96 :: 224 :: 480 :: 1023 :: 2047 :: 4095 :: 4095 :: 16383 :: 32767 :: 65535 :: 4095 :: 4095 :: 397311 :: 921599 :: 1970175 :: 4194303 :: 8388607 :: 16777215 :: 33554431 :: 33554431 :: 134217727 :: 268435455 :: 536870911 :: 33554431 :: 33554431 :: 3254779903 :: 7549747199 :: 16139681791 :: 34359738367 :: 68719476735 :: 137438953471 :: 274877906943 :: 274877906943 :: 1099511627775 :: 2199023255551 :: 4398046511103 :: 274877906943 :: 274877906943 :: 26663156973567 :: 61847529062399 :: 132216273240063 :: 281474976710655 :: 562949953421311 :: 1125899906842623 :: []) (fun _ => _) mixed rfl rfl rfl rfl rfl
            (.cons rfl (fun ρ => PL.run 1 rfl (PL.nil rfl)) <|
            .cons rfl (fun ρ => PL.run 1 rfl (PL.nil rfl)) <|
            .cons rfl (fun ρ => PL.val (OpV.idx rfl rfl rfl (nat_nonneg i) (map_at' hx) rfl rfl rfl rfl) (wantV_ok rfl) rfl (PL.nil rfl)) <|
            .cons rfl (fun ρ => PL.run 1 rfl (PL.nil rfl)) <|
            .cons rfl (fun ρ => PL.run 1 rfl (PL.nil rfl)) <|
            .cons rfl (fun ρ => PL.run 1 rfl (PL.nil rfl)) <|
            .cons rfl (fun ρ => PL.run 1 rfl (PL.nil rfl)) <|
            .cons rfl (fun ρ => PL.val (OpV.idx rfl rfl rfl (nat_nonneg i) (map_at' hy) rfl rfl rfl rfl) (wantV_ok rfl) rfl (PL.nil rfl)) <|
            .cons rfl (fun ρ => PL.run 1 rfl (PL.nil rfl)) <|
            .cons rfl (fun ρ => PL.run 1 rfl (PL.nil rfl)) <|
            .cons rfl (fun ρ => PL.run 1 rfl (PL.nil rfl)) <|
            .cons rfl (fun ρ => PL.run 1 rfl (PL.nil (putb h3))) <|
            .cons rfl (fun ρ => PL.run 1 rfl (PL.nil rfl)) <|
            .cons rfl (fun ρ => PL.run 1 rfl (PL.nil rfl)) <|
            .cons rfl (fun ρ => PL.val (OpV.idx rfl rfl rfl (nat_nonneg i) (map_at' hx) rfl rfl rfl rfl) (wantV_ok rfl) rfl (PL.nil rfl)) <|
            .cons rfl (fun ρ => PL.run 1 rfl (PL.nil rfl)) <|
            .cons rfl (fun ρ => PL.run 1 rfl (PL.nil rfl)) <|
            .cons rfl (fun ρ => PL.run 1 rfl (PL.nil rfl)) <|
            .cons rfl (fun ρ => PL.run 1 rfl (PL.nil rfl)) <|
            .cons rfl (fun ρ => PL.val (OpV.idx rfl rfl rfl (nat_nonneg i) (map_at' hy) rfl rfl rfl rfl) (wantV_ok rfl) rfl (PL.nil rfl)) <|
            .cons rfl (fun ρ => PL.run 1 rfl (PL.nil rfl)) <|
            .cons rfl (fun ρ => PL.run 1 rfl (PL.nil rfl)) <|
            .cons rfl (fun ρ => PL.run 1 rfl (PL.nil rfl)) <|
            .cons rfl (fun ρ => PL.run 1 rfl (PL.nil rfl)) <|
            .cons rfl (fun ρ => PL.run 1 rfl (PL.nil (putb h4))) <|
            .cons rfl (fun ρ => PL.run 1 rfl (PL.nil rfl)) <|
            .cons rfl (fun ρ => PL.run 1 rfl (PL.nil rfl)) <|
            .cons rfl (fun ρ => PL.run 1 rfl (PL.nil rfl)) <|
            .cons rfl (fun ρ => PL.run 1 rfl (PL.nil rfl)) <|
            .cons rfl (fun ρ => PL.run 1 rfl (PL.nil rfl)) <|
            .cons rfl (fun ρ => PL.run 1 rfl (PL.nil rfl)) <|
            .cons rfl (fun ρ => PL.run 1 rfl (PL.nil rfl)) <|
            .cons rfl (fun ρ => PL.run 1 rfl (PL.nil rfl)) <|
            .cons rfl (fun ρ => PL.run 1 rfl (PL.nil rfl)) <|
            .cons rfl (fun ρ => PL.run 1 rfl (PL.nil rfl)) <|
            .cons rfl (fun ρ => PL.run 1 rfl (PL.nil rfl)) <|
            .cons rfl (fun ρ => PL.run 1 rfl (PL.nil rfl)) <|
            .cons rfl (fun ρ => PL.run 1 rfl (PL.nil rfl)) <|
            .cons rfl (fun ρ => PL.run 1 rfl (PL.nil rfl)) <|
            .cons rfl (fun ρ => PL.run 1 rfl (PL.nil rfl)) <|
            .cons rfl (fun ρ => PL.run 1 rfl (PL.nil rfl)) <|
            .cons rfl (fun ρ => PL.run 1 rfl (PL.nil rfl)) <|
            .cons rfl (fun ρ => PL.run 1 rfl (PL.nil rfl)) <|
            .cons rfl (fun ρ => PL.run 1 rfl (PL.nil rfl)) <|
            .cons rfl (fun ρ => PL.run 1 rfl (PL.nil rfl)) <|
            .cons rfl (fun ρ => PL.run 1 rfl (PL.nil rfl)) <|
            .cons rfl (fun ρ => PL.run 1 rfl (PL.nil rfl)) <|
            .cons rfl (fun ρ => PL.run 1 rfl (PL.nil rfl)) <|
            .cons rfl (fun ρ => PL.run 1 rfl (PL.nil rfl)) <|
            .cons rfl (fun ρ => PL.run 1 rfl (PL.nil rfl)) <|
            .cons rfl (fun ρ => PL.run 1 rfl (PL.nil rfl)) <|
            .nil _) ?_
          refine PW.condT rfl ?_
          refine PW.seq ?_
          refine PW.region ?_
          refine PL.run 1 rfl ?_
          refine PL.nil ?_
          refine PW.ret ?_
          refine RetOk.free rfl rfl (congrArg eT ?_)
          rw [hs]; simp_all [sameI]
        ·
          rcases Bool.eq_false_or_eq_true (!decide (x.due = y.due)) with h5 | h5
          ·
            refine PW.drawn ((some 18, _) :: (some 19, _) :: (some 20, _) :: (some 21, _) :: (some 22, _) :: (some 23, _) :: (some 24, _) :: (some 25, _) :: (some 26, _) :: (some 27, _) :: (some 28, _) :: (some 29, .lit (.bool false)) :: (some 30, _) :: (some 31, _) :: (some 32, _) :: (some 33, _) :: (some 34, _) :: (some 35, _) :: (some 36, _) :: (some 37, _) :: (some 38, _) :: (some 39, _) :: (some 40, _) :: (some 41, _) :: (some 42, .lit (.bool false)) :: (some 43, _) :: (some 44, _) :: (some 45, _) :: (some 46, _) :: (some 47, _) :: (some 48, _) :: (some 49, _) :: (some 50, _) :: (some 51, _) :: (some 52, _) :: (some 53, _) :: (some 54, _) :: (some 55, .lit (.bool true)) :: (some 56, _) :: (some 57, _) :: (some 58, _) :: (some 59, _) :: (some 60, _) :: (some 61, _) :: (some 62, _) :: (some 63, _) :: (some 64, _) :: (some 65, _) :: (some 66, _) :: (some 67, _) :: (some 68, _) :: []) (0 :: 0 :: 3 :: 7 :: 15 :: 0 :: 0 :: 96 :: 224 :: 480 :: 1023 :: 2047 :: 4095 :: 4095 :: 16383 :: 32767 :: 65535 :: 4095 :: 4095 :: 397311 :: 921599 :: 1970175 :: 4194303 :: 8388607 :: 16777215 :: 33554431 :: 33554431 :: 134217727 :: 268435455 :: 536870911 :: 33554431 :: 33554431 :: 3254779903 :: 7549747199 :: 16139681791 :: 34359738367 :: 68719476735 :: 137438953471 :: 274877906943 :: 274877906943 :: 1099511627775 :: 2199023255551 :: 4398046511103 :: 274877906943 :: 274877906943 :: 26663156973567 :: 61847529062399 :: 132216273240063 :: 281474976710655 :: 562949953421311 :: 1125899906842623 :: []) (fun _ => _) mixed rfl rfl rfl rfl rfl
              (.cons rfl (fun ρ => PL.run 1 rfl (PL.nil rfl)) <|
              .cons rfl (fun ρ => PL.run 1 rfl (PL.nil rfl)) <|
              .cons rfl (fun ρ => PL.val (OpV.idx rfl rfl rfl (nat_nonneg i) (map_at' hx) rfl rfl rfl rfl) (wantV_ok rfl) rfl (PL.nil rfl)) <|
              .cons rfl (fun ρ => PL.run 1 rfl (PL.nil rfl)) <|
              .cons rfl (fun ρ => PL.run 1 rfl (PL.nil rfl)) <|
              .cons rfl (fun ρ => PL.run 1 rfl (PL.nil rfl)) <|
              .cons rfl (fun ρ => PL.run 1 rfl (PL.nil rfl)) <|
              .cons rfl (fun ρ => PL.val (OpV.idx rfl rfl rfl (nat_nonneg i) (map_at' hy) rfl rfl rfl rfl) (wantV_ok rfl) rfl (PL.nil rfl)) <|
              .cons rfl (fun ρ => PL.run 1 rfl (PL.nil rfl)) <|
              .cons rfl (fun ρ => PL.run 1 rfl (PL.nil rfl)) <|
              .cons rfl (fun ρ => PL.run 1 rfl (PL.nil rfl)) <|
              .cons rfl (fun ρ => PL.run 1 rfl (PL.nil (putb h3))) <|
              .cons rfl (fun ρ => PL.run 1 rfl (PL.nil rfl)) <|
              .cons rfl (fun ρ => PL.run 1 rfl (PL.nil rfl)) <|
              .cons rfl (fun ρ => PL.val (OpV.idx rfl rfl rfl (nat_nonneg i) (map_at' hx) rfl rfl rfl rfl) (wantV_ok rfl) rfl (PL.nil rfl)) <|
              .cons rfl (fun ρ => PL.run 1 rfl (PL.nil rfl)) <|
              .cons rfl (fun ρ => PL.run 1 rfl (PL.nil rfl)) <|
              .cons rfl (fun ρ => PL.run 1 rfl (PL.nil rfl)) <|
              .cons rfl (fun ρ => PL.run 1 rfl (PL.nil rfl)) <|
              .cons rfl (fun ρ => PL.val (OpV.idx rfl rfl rfl (nat_nonneg i) (map_at' hy) rfl rfl rfl rfl) (wantV_ok rfl) rfl (PL.nil rfl)) <|
              .cons rfl (fun ρ => PL.run 1 rfl (PL.nil rfl)) <|
              .cons rfl (fun ρ => PL.run 1 rfl (PL.nil rfl)) <|
              .cons rfl (fun ρ => PL.run 1 rfl (PL.nil rfl)) <|
              .cons rfl (fun ρ => PL.run 1 rfl (PL.nil rfl)) <|
              .cons rfl (fun ρ => PL.run 1 rfl (PL.nil (putb h4))) <|
              .cons rfl (fun ρ => PL.run 1 rfl (PL.nil rfl)) <|
              .cons rfl (fun ρ => PL.run 1 rfl (PL.nil rfl)) <|
              .cons rfl (fun ρ => PL.val (OpV.idx rfl rfl rfl (nat_nonneg i) (map_at' hx) rfl rfl rfl rfl) (wantV_ok rfl) rfl (PL.nil rfl)) <|
              .cons rfl (fun ρ => PL.run 1 rfl (PL.nil rfl)) <|
              .cons rfl (fun ρ => PL.run 1 rfl (PL.nil rfl)) <|
              .cons rfl (fun ρ => PL.run 1 rfl (PL.nil rfl)) <|
              .cons rfl (fun ρ => PL.run 1 rfl (PL.nil rfl)) <|
              .cons rfl (fun ρ => PL.val (OpV.idx rfl rfl rfl (nat_nonneg i) (map_at' hy) rfl rfl rfl rfl) (wantV_ok rfl) rfl (PL.nil rfl)) <|
              .cons rfl (fun ρ => PL.run 1 rfl (PL.nil rfl)) <|
              .cons rfl (fun ρ => PL.run 1 rfl (PL.nil rfl)) <|
              .cons rfl (fun ρ => PL.run 1 rfl (PL.nil rfl)) <|
              .cons rfl (fun ρ => PL.run 1 rfl (PL.nil rfl)) <|
              .cons rfl (fun ρ => PL.run 1 rfl (PL.nil (putb h5))) <|
              .cons rfl (fun ρ => PL.run 1 rfl (PL.nil rfl)) <|
              .cons rfl (fun ρ => PL.run 1 rfl (PL.nil rfl)) <|
              .cons rfl (fun ρ => PL.run 1 rfl (PL.nil rfl)) <|
              .cons rfl (fun ρ => PL.run 1 rfl (PL.nil rfl)) <|
              .cons rfl (fun ρ => PL.run 1 rfl (PL.nil rfl)) <|
              .cons rfl (fun ρ => PL.run 1 rfl (PL.nil rfl)) <|
              .cons rfl (fun ρ => PL.run 1 rfl (PL.nil rfl)) <|
              .cons rfl (fun ρ => PL.run 1 rfl (PL.nil rfl)) <|
              .cons rfl (fun ρ => PL.run 1 rfl (PL.nil rfl)) <|
              .cons rfl (fun ρ => PL.run 1 rfl (PL.nil rfl)) <|
              .cons rfl (fun ρ => PL.run 1 rfl (PL.nil rfl)) <|
              .cons rfl (fun ρ => PL.run 1 rfl (PL.nil rfl)) <|
              .cons rfl (fun ρ => PL.run 1 rfl (PL.nil rfl)) <|
              .nil _) ?_
            refine PW.condT rfl ?_
            refine PW.seq ?_
            refine PW.region ?_
            refine PL.run 1 rfl ?_
            refine PL.nil ?_
            refine PW.ret ?_
            refine RetOk.free rfl rfl (congrArg eT ?_)
            rw [hs]; simp_all [sameI]
          ·
            refine PW.drawn ((some 18, _) :: (some 19, _) :: (some 20, _) :: (some 21, _) :: (some 22, _) :: (some 23, _) :: (some 24, _) :: (some 25, _) :: (some 26, _) :: (some 27, _) :: (some 28, _) :: (some 29, .lit (.bool false)) :: (some 30, _) :: (some 31, _) :: (some 32, _) :: (some 33, _) :: (some 34, _) :: (some 35, _) :: (some 36, _) :: (some 37, _) :: (some 38, _) :: (some 39, _) :: (some 40, _) :: (some 41, _) :: (some 42, .lit (.bool false)) :: (some 43, _) :: (some 44, _) :: (some 45, _) :: (some 46, _) :: (some 47, _) :: (some 48, _) :: (some 49, _) :: (some 50, _) :: (some 51, _) :: (some 52, _) :: (some 53, _) :: (some 54, _) :: (some 55, .lit (.bool false)) :: (some 56, _) :: (some 57, _) :: (some 58, _) :: (some 59, _) :: (some 60, _) :: (some 61, _) :: (some 62, _) :: (some 63, _) :: (some 64, _) :: (some 65, _) :: (some 66, _) :: (some 67, _) :: (some 68, _) :: []) (0 :: 0 :: 3 :: 7 :: 15 :: 0 :: 0 :: 96 :: 224 :: 480 :: 1023 :: 2047 :: 4095 :: 4095 :: 16383 :: 32767 :: 65535 :: 4095 :: 4095 :: 397311 :: 921599 :: 1970175 :: 4194303 :: 8388607 :: 16777215 :: 33554431 :: 33554431 :: 134217727 :: 268435455 :: 536870911 :: 33554431 :: 33554431 :: 3254779903 :: 7549747199 :: 16139681791 :: 34359738367 :: 68719476735 :: 137438953471 :: 274877906943 :: 274877906943 :: 1099511627775 :: 2199023255551 :: 4398046511103 :: 274877906943 :: 274877906943 :: 26663156973567 :: 61847529062399 :: 132216273240063 :: 281474976710655 :: 562949953421311 :: 1125899906842623 :: []) (fun _ => _) mixed rfl rfl rfl rfl rfl
              (.cons rfl (fun ρ => PL.run 1 rfl (PL.nil rfl)) <|
              .cons rfl (fun ρ => PL.run 1 rfl (PL.nil rfl)) <|
              .cons rfl (fun ρ => PL.val (OpV.idx rfl rfl rfl (nat_nonneg i) (map_at' hx) rfl rfl rfl rfl) (wantV_ok rfl) rfl (PL.nil rfl)) <|
              .cons rfl (fun ρ => PL.run 1 rfl (PL.nil rfl)) <|
              .cons rfl (fun ρ => PL.run 1 rfl (PL.nil rfl)) <|
              .cons rfl (fun ρ => PL.run 1 rfl (PL.nil rfl)) <|
              .cons rfl (fun ρ => PL.run 1 rfl (PL.nil rfl)) <|
              .cons rfl (fun ρ => PL.val (OpV.idx rfl rfl rfl (nat_nonneg i) (map_at' hy) rfl rfl rfl rfl) (wantV_ok rfl) rfl (PL.nil rfl)) <|
              .cons rfl (fun ρ => PL.run 1 rfl (PL.nil rfl)) <|
              .cons rfl (fun ρ => PL.run 1 rfl (PL.nil rfl)) <|
              .cons rfl (fun ρ => PL.run 1 rfl (PL.nil rfl)) <|
              .cons rfl (fun ρ => PL.run 1 rfl (PL.nil (putb h3))) <|
              .cons rfl (fun ρ => PL.run 1 rfl (PL.nil rfl)) <|
              .cons rfl (fun ρ => PL.run 1 rfl (PL.nil rfl)) <|
              .cons rfl (fun ρ => PL.val (OpV.idx rfl rfl rfl (nat_nonneg i) (map_at' hx) rfl rfl rfl rfl) (wantV_ok rfl) rfl (PL.nil rfl)) <|
              .cons rfl (fun ρ => PL.run 1 rfl (PL.nil rfl)) <|
              .cons rfl (fun ρ => PL.run 1 rfl (PL.nil rfl)) <|
              .cons rfl (fun ρ => PL.run 1 rfl (PL.nil rfl)) <|
              .cons rfl (fun ρ => PL.run 1 rfl (PL.nil rfl)) <|
              .cons rfl (fun ρ => PL.val (OpV.idx rfl rfl rfl (nat_nonneg i) (map_at' hy) rfl rfl rfl rfl) (wantV_ok rfl) rfl (PL.nil rfl)) <|
              .cons rfl (fun ρ => PL.run 1 rfl (PL.nil rfl)) <|
              .cons rfl (fun ρ => PL.run 1 rfl (PL.nil rfl)) <|
              .cons rfl (fun ρ => PL.run 1 rfl (PL.nil rfl)) <|
              .cons rfl (fun ρ => PL.run 1 rfl (PL.nil rfl)) <|
              .cons rfl (fun ρ => PL.run 1 rfl (PL.nil (putb h4))) <|
              .cons rfl (fun ρ => PL.run 1 rfl (PL.nil rfl)) <|
              .cons rfl (fun ρ => PL.run 1 rfl (PL.nil rfl)) <|
              .cons rfl (fun ρ => PL.val (OpV.idx rfl rfl rfl (nat_nonneg i) (map_at' hx) rfl rfl rfl rfl) (wantV_ok rfl) rfl (PL.nil rfl)) <|
              .cons rfl (fun ρ => PL.run 1 rfl (PL.nil rfl)) <|
              .cons rfl (fun ρ => PL.run 1 rfl (PL.nil rfl)) <|
              .cons rfl (fun ρ => PL.run 1 rfl (PL.nil rfl)) <|
              .cons rfl (fun ρ => PL.run 1 rfl (PL.nil rfl)) <|
              .cons rfl (fun ρ => PL.val (OpV.idx rfl rfl rfl (nat_nonneg i) (map_at' hy) rfl rfl rfl rfl) (wantV_ok rfl) rfl (PL.nil rfl)) <|
              .cons rfl (fun ρ => PL.run 1 rfl (PL.nil rfl)) <|
              .cons rfl (fun ρ => PL.run 1 rfl (PL.nil rfl)) <|
              .cons rfl (fun ρ => PL.run 1 rfl (PL.nil rfl)) <|
              .cons rfl (fun ρ => PL.run 1 rfl (PL.nil rfl)) <|
              .cons rfl (fun ρ => PL.run 1 rfl (PL.nil (putb h5))) <|
              .cons rfl (fun ρ => PL.run 1 rfl (PL.nil rfl)) <|
              .cons rfl (fun ρ => PL.run 1 rfl (PL.nil rfl)) <|
              .cons rfl (fun ρ => PL.val (OpV.idx rfl rfl rfl (nat_nonneg i) (map_at' hx) rfl rfl rfl rfl) (wantV_ok rfl) rfl (PL.nil rfl)) <|
              .cons rfl (fun ρ => PL.run 1 rfl (PL.nil rfl)) <|
              .cons rfl (fun ρ => PL.run 1 rfl (PL.nil rfl)) <|
              .cons rfl (fun ρ => PL.run 1 rfl (PL.nil rfl)) <|
              .cons rfl (fun ρ => PL.run 1 rfl (PL.nil rfl)) <|
              .cons rfl (fun ρ => PL.val (OpV.idx rfl rfl rfl (nat_nonneg i) (map_at' hy) rfl rfl rfl rfl) (wantV_ok rfl) rfl (PL.nil rfl)) <|
              .cons rfl (fun ρ => PL.run 1 rfl (PL.nil rfl)) <|
              .cons rfl (fun ρ => PL.run 1 rfl (PL.nil rfl)) <|
              .cons rfl (fun ρ => PL.call rfl rfl rfl (spec_Same_spec x.bytes y.bytes) (.cons (.refl _) <| .cons (.refl _) <| .nil) (fun p hp => by subst hp; rfl) (wantV_ok rfl) rfl (fun p hp => by subst hp; exact PL.nil rfl)) <|
              .cons rfl (fun ρ => PL.run 1 rfl (PL.nil rfl)) <|
              .cons rfl (fun ρ => PL.run 1 rfl (PL.nil rfl)) <|
              .nil _) ?_
            refine PW.cond rfl (fun h6 => ?_) (fun h6 => ?_)
            ·
              refine PW.seq ?_
              refine PW.region ?_
              refine PL.run 1 rfl ?_
              refine PL.nil ?_
              refine PW.ret ?_
              refine RetOk.free rfl rfl (congrArg eT ?_)
              rw [hs]; simp_all [sameI]
            ·
              refine PW.skip ?_
              refine PW.region ?_
              refine PL.run 3 rfl ?_
              refine PL.nil ?_
              refine ⟨i + 1, Le.free ⟨⟨rfl, rfl⟩, ⟨rfl, rfl⟩, ⟨inc_ok (by omega), rfl⟩, trivial⟩, ⟨hla, hlb, ?_⟩, by omega⟩
              rw [hs]; simp_all [sameI]
    ·
      refine PW.exit ?_
      refine PW.seq ?_
      refine PW.region ?_
      refine PL.run 6 rfl ?_
      refine PL.nil ?_
      refine PW.ret ?_
      refine RetOk.free rfl rfl (congrArg eT ?_)
      rw [← hi.2.2, sameQ_end (.inr (by simpa using h2)) hi.1 hi.2.1]; simp
      try omega
  ·
    refine PL.run 5 rfl ?_
    refine PL.nil ?_
    refine PW.condF rfl ?_
    refine PW.exit ?_
    refine PW.seq ?_
    refine PW.region ?_
    refine PL.run 6 rfl ?_
    refine PL.nil ?_
    refine PW.ret ?_
    refine RetOk.free rfl rfl (congrArg eT ?_)
    rw [← hi.2.2, sameQ_end (.inl (by simpa using h1)) hi.1 hi.2.1]; simp
    try omega
end Go.Wl
