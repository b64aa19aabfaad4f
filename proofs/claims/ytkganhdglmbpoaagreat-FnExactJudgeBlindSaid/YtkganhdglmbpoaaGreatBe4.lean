/- The walks, eleventh text: a book is played (the specification's); posts. The walks, twelfth text: posts, readers, worlds (the specification's). The walks, thirteenth text: what is on its way; worlds (the specification's). The walks, fourteenth text: bytes, routes, items, lines (the program's). The walks, fifteenth text: signs, numbers as bytes, bytes joined (the program's). The walks, sixteenth text: bytes joined; lines as bytes (the program's). -/
import Derived.Test.YtkganhdglmbpoaaGreatBe3
import Derived.Laws.Externs
set_option linter.unusedVariables false
set_option linter.unusedSimpArgs false
set_option maxRecDepth 100000
set_option maxHeartbeats 8000000
namespace Go.Wl
open Go Go.RowKit Go.Pw Go.Proofs
def playQ (q : List Item) (now : Int) (l : Line) : List Item :=
  if l.kind = 1 then putQ q (itemOf l) else if l.kind = 2 then takeR q l.route else if l.kind = 3 then (if now ≤ l.due then dueL q l.due else q) else q
def playT (now : Int) (l : Line) : Int := if l.kind = 3 then (if now ≤ l.due then l.due else now) else now
/- spec.l14Play -/
theorem spec_l14Play_spec (q : List Item) (now : Int) (l : Line) (hq : Sm q) (hl : q.length < 16777216) (hs : l.route.size ≤ 1099511627776) (h : l.bytes.length ≤ 16777216) : Pw.Spec Tryz.prog 117 [eItems q, eI now, .agg (eLine l)] (fun res_ => res_ = .tup [eItems (playQ q now l), eI (playT now l)]) := by
  refine spec_of (n := 43) Tryz.call117 Tryz.func117 rfl rfl (by simp) rfl rfl fun W Z => ?_
  refine PW.seq ?_
  refine PW.region ?_
  refine PL.run 3 rfl ?_
  refine PL.nil ?_
  refine PW.seq ?_
  refine PW.seq ?_
  refine PW.region ?_
  refine PL.run 2 rfl ?_
  refine PL.nil ?_
  refine PW.block ?_
  refine PW.seq ?_
  refine PW.region ?_
  refine PL.run 2 rfl ?_
  refine PL.nil ?_
  refine PW.cond rfl (fun h1 => ?_) (fun h1 => ?_)
  ·
    refine PW.region ?_
    refine PL.run 2 rfl ?_
    refine PL.call rfl rfl rfl (spec_l14Item_spec l h) (.cons (.refl _) <| .nil) (fun p hp => by subst hp; rfl) (wantV_ok rfl) rfl (fun p hp => ?_)
    subst hp
    refine PL.call rfl rfl rfl (spec_Put_spec q (itemOf l) hq hl hs h 900) (.cons (.refl _) <| .cons (.refl _) <| .nil) (fun p hp => by subst hp; rfl) (wantV_ok rfl) rfl (fun p hp => ?_)
    subst hp
    refine PL.run 4 rfl ?_
    refine PL.nil ?_
    refine PW.seq ?_
    refine PW.region ?_
    refine PL.run 4 rfl ?_
    refine PL.nil ?_
    refine PW.ret ?_
    refine RetOk.of rfl (.tup (.cons (.leaf (.ro _ _ _)) (.cons (.leaf (.same _ rfl)) .nil))) (by simp) (by simp) ?_
    have h1 := of_decide_eq_true h1
    simp [playQ, playT, h1, eItems]
  ·
    refine PW.seq ?_
    refine PW.region ?_
    refine PL.run 2 rfl ?_
    refine PL.nil ?_
    refine PW.cond rfl (fun h2 => ?_) (fun h2 => ?_)
    ·
      refine PW.region ?_
      refine PL.run 3 rfl ?_
      refine PL.call rfl rfl rfl (spec_Take_spec q l.route hq 901) (.cons (.refl _) <| .cons (.refl _) <| .nil) (fun p hp => by subst hp; rfl) (wantV_ok rfl) rfl (fun p hp => ?_)
      subst hp
      refine PL.run 5 rfl ?_
      refine PL.nil ?_
      refine PW.seq ?_
      refine PW.region ?_
      refine PL.run 4 rfl ?_
      refine PL.nil ?_
      refine PW.ret ?_
      refine RetOk.of rfl (.tup (.cons (.leaf (.ro _ _ _)) (.cons (.leaf (.same _ rfl)) .nil))) (by simp) (by simp) ?_
      have h2 := of_decide_eq_true h2
      simp [playQ, playT, h2, eItems]
    ·
      refine PW.seq ?_
      refine PW.region ?_
      refine PL.run 2 rfl ?_
      refine PL.nil ?_
      refine PW.cond rfl (fun h3 => ?_) (fun h3 => ?_)
      ·
        refine PW.seq ?_
        refine PW.region ?_
        refine PL.run 4 rfl ?_
        refine PL.nil ?_
        refine PW.cond rfl (fun h4 => ?_) (fun h4 => ?_)
        ·
          refine PW.seq ?_
          refine PW.drawn ((some 35, _) :: (some 36, _) :: (some 37, _) :: (some 38, _) :: (some 39, _) :: (some 40, _) :: (some 6, _) :: (some 7, _) :: []) (0 :: 0 :: 2 :: 7 :: 0 :: 16 :: 15 :: 127 :: []) (phs [] _ [(3, _)] _) mixed rfl rfl rfl rfl rfl
            (.cons rfl (fun ρ => PL.run 1 rfl (PL.nil rfl)) <|
            .cons rfl (fun ρ => PL.run 1 rfl (PL.nil rfl)) <|
            .cons rfl (fun ρ => PL.run 1 rfl (PL.nil rfl)) <|
            .cons rfl (fun ρ => PL.call rfl rfl rfl (spec_Due_spec q l.due hq 902) (.cons (.refl _) <| .cons (.refl _) <| .nil) (fun p hp => by subst hp; rfl) (wantV_ok rfl) rfl (fun p hp => by subst hp; exact PL.nil rfl)) <|
            .cons rfl (fun ρ => PL.run 1 rfl (PL.nil rfl)) <|
            .cons rfl (fun ρ => PL.run 1 rfl (PL.nil rfl)) <|
            .cons rfl (fun ρ => PL.run 1 rfl (PL.nil rfl)) <|
            .cons rfl (fun ρ => PL.run 1 rfl (PL.nil rfl)) <|
            .nil _) ?_
          refine PW.ret ?_
          refine RetOk.of rfl (.tup (.cons (.leaf (.ro _ _ _)) (.cons (.leaf (.same _ rfl)) .nil))) (by simp) (by simp) ?_
          have h3 := of_decide_eq_true h3
          have h4 := of_decide_eq_true h4
          simp [playQ, playT, h3, h4, eItems]
        ·
          refine PW.skip ?_
          refine PW.seq ?_
          refine PW.region ?_
          refine PL.run 4 rfl ?_
          refine PL.nil ?_
          refine PW.ret ?_
          refine RetOk.free rfl rfl ?_
          have h3 := of_decide_eq_true h3
          have h4 := of_decide_eq_false h4
          simp [playQ, playT, h3, h4]
      ·
        refine PW.skip ?_
        refine PW.seq ?_
        refine PW.region ?_
        refine PL.run 4 rfl ?_
        refine PL.nil ?_
        refine PW.ret ?_
        refine RetOk.free rfl rfl ?_
        have h1 := of_decide_eq_false h1
        have h2 := of_decide_eq_false h2
        have h3 := of_decide_eq_false h3
        simp [playQ, playT, h1, h2, h3]
def playF (b : List UInt8) : Nat → List Item → Int → Nat → List Item × Int × Nat
  | 0, q, now, i => (q, now, i)
  | k + 1, q, now, i => match lineOf b i with
    | some (l, n) => playF b k (playQ q now l) (playT now l) n
    | none => (q, now, i)
def play (b : List UInt8) : List Item × Int × Nat := playF b (b.length + 1) [] 0 0
theorem takeQ_sub {r : ByteArray} : ∀ {q : List Item} {x : Item} {l : List Item}, takeQ r q = some (x, l) → x ∈ q ∧ (∀ y ∈ l, y ∈ q) ∧ l.length ≤ q.length
  | [], _, _, h => by simp [takeQ] at h
  | z :: q, x, l, h => by
    simp only [takeQ] at h
    split at h
    · cases h
      exact ⟨List.mem_cons_self, fun y hy => List.mem_cons_of_mem _ hy, by simp⟩
    · split at h
      · rename_i y l' hl
        cases h
        obtain ⟨h1, h2, h3⟩ := takeQ_sub hl
        refine ⟨List.mem_cons_of_mem _ h1, fun y hy => ?_, by simp; omega⟩
        rcases List.mem_cons.1 hy with rfl | hy
        · exact List.mem_cons_self
        · exact List.mem_cons_of_mem _ (h2 y hy)
      · cases h
theorem takeR_sub (q : List Item) (r : ByteArray) : (∀ y ∈ takeR q r, y ∈ q) ∧ (takeR q r).length ≤ q.length := by
  unfold takeR
  split
  · rename_i h; exact (takeQ_sub h).2
  · exact ⟨fun y hy => hy, Nat.le_refl _⟩
theorem queueOk_len {q : List Item} (h : queueOk q = true) : q.length ≤ 10 := by
  simp only [queueOk, Bool.and_eq_true, decide_eq_true_eq] at h; exact h.1
theorem playQ_sm {q : List Item} {now : Int} {l : Line} (hq : Sm q) (hl : q.length ≤ 10) (hs : l.route.size ≤ 1099511627776) (h : l.bytes.length ≤ 16777216) : Sm (playQ q now l) ∧ (playQ q now l).length ≤ 10 := by
  unfold playQ
  split
  · unfold putQ
    split
    · rename_i h2
      exact ⟨hq.put (by omega) hs h, queueOk_len h2⟩
    · exact ⟨hq, hl⟩
  · split
    · have := takeR_sub q l.route
      exact ⟨hq.sub this.1 this.2, by omega⟩
    · split
      · split
        · have := List.length_filter_le (fun y : Item => decide (l.due ≤ y.due)) q
          exact ⟨hq.sub (fun y hy => (List.mem_filter.1 hy).1) this, by unfold dueL; omega⟩
        · exact ⟨hq, hl⟩
      · exact ⟨hq, hl⟩
theorem lineOf_some {b : List UInt8} {i n : Nat} {l : Line} (h : lineOf b i = some (l, n)) : i < n ∧ n ≤ b.length ∧ l = lineAt b i ∧ i + 9 ≤ b.length := by
  unfold lineOf at h
  split at h
  · split at h
    · split at h
      · cases h
        exact ⟨by omega, by omega, rfl, by omega⟩
      · cases h
    · cases h
  · cases h
theorem Sm.nil : Sm [] := ⟨Nat.zero_le _, fun i x h => by simp at h, fun i x h => by simp at h⟩
structure PlOk (b : List UInt8) (x : Nat × List Item × Int × Nat) : Prop where
  le : x.2.2.2 ≤ b.length
  lt : b.length < x.2.2.2 + x.1
  sm : Sm x.2.1
  len : x.2.1.length ≤ 10
  eq : playF b x.1 x.2.1 x.2.2.1 x.2.2.2 = play b
def playR (p : List Item × Int × Nat) : PV := .tup [eItems p.1, eI p.2.1, eI ((p.2.2 : Nat) : Int)]
/- spec.Play -/
theorem spec_Play_spec (b : List UInt8) (hb : b.length ≤ 16777216) : Pw.Spec Tryz.prog 82 [eBs b] (fun res_ => res_ = playR (play b)) := by
  refine spec_of (n := 32) Tryz.call82 Tryz.func82 rfl rfl (by simp) rfl rfl fun W Z => ?_
  refine PW.seq ?_
  refine PW.region ?_
  refine PL.run 3 rfl ?_
  refine PL.nil ?_
  refine PW.seq ?_
  refine PW.region ?_
  refine PL.run 2 rfl ?_
  refine PL.nil ?_
  refine PW.seq ?_
  refine PW.region ?_
  refine PL.run 1 rfl ?_
  refine PL.nil ?_
  refine PW.seq ?_
  refine PW.region ?_
  refine PL.run 1 rfl ?_
  refine PL.nil ?_
  refine PW.block ?_
  refine PW.loopAt (α := Nat × List Item × Int × Nat) (fun x => ⟨[(5, eItems x.2.1), (0, eBs b), (6, eI x.2.2.1), (7, eI ((x.2.2.2 : Nat) : Int))], PH.none⟩) (PlOk b) (fun x => x.1) (b.length + 1, [], 0, 0) (Le.ro (.ro rfl <| .same rfl rfl <| .same rfl rfl <| .same rfl rfl .nil)) ⟨Nat.zero_le _, by simp, Sm.nil, Nat.zero_le _, rfl⟩ (fun x hx => ?_)
  obtain ⟨k, q, now, i⟩ := x
  have hi := hx.le
  have hk := hx.lt
  have hq := hx.sm
  have hl := hx.len
  have he := hx.eq
  simp only at hi hk hq hl he ⊢
  refine PW.block ?_
  refine PW.seq ?_
  refine PW.region ?_
  refine PL.run 2 rfl ?_
  refine PL.call rfl rfl rfl (spec_LineOf_spec b i hb hi) (.cons (.refl _) <| .cons (.refl _) <| .nil) (fun p hp => by subst hp; rfl) (wantV_ok rfl) rfl (fun p hp => ?_)
  subst hp
  refine PL.run 8 rfl ?_
  refine PL.nil ?_
  refine PW.seq ?_
  refine PW.seq ?_
  refine PW.region ?_
  refine PL.run 2 rfl ?_
  refine PL.nil ?_
  refine PW.cond rfl (fun h1 => ?_) (fun h1 => ?_)
  ·
    have hn : lineOf b i = none := by simpa using h1
    refine PW.seq ?_
    refine PW.region ?_
    refine PL.run 6 rfl ?_
    refine PL.nil ?_
    refine PW.ret ?_
    obtain ⟨j, rfl⟩ : ∃ j, k = j + 1 := ⟨k - 1, by omega⟩
    simp only [playF, hn] at he
    refine RetOk.free rfl rfl ?_
    rw [← he]; rfl
  ·
    obtain ⟨⟨l, n⟩, hn⟩ : ∃ p, lineOf b i = some p := Option.isSome_iff_exists.1 (by simpa using h1)
    obtain ⟨e1, e2, e3, e4⟩ := lineOf_some hn
    have e5 := lineAt_len b i
    have e6 := lineAt_size b i e4
    rw [← e3] at e5 e6
    have g1 : l.route.size ≤ 1099511627776 := by omega
    have g2 : l.bytes.length ≤ 16777216 := by omega
    refine PW.skip ?_
    refine PW.seq ?_
    refine PW.region ?_
    refine PL.run 3 rfl ?_
    refine PL.call rfl rfl rfl (spec_l14Play_spec q now l hq (by omega) g1 g2) (.cons (.refl _) <| .cons (.refl _) <| .cons (wkeq (by rw [hn]; rfl)) .nil) (fun p hp => by subst hp; rfl) (wantV_ok rfl) rfl (fun p hp => ?_)
    subst hp
    refine PL.run 5 rfl ?_
    refine PL.nil ?_
    refine PW.region ?_
    refine PL.run 2 rfl ?_
    refine PL.nil ?_
    obtain ⟨j, rfl⟩ : ∃ j, k = j + 1 := ⟨k - 1, by omega⟩
    obtain ⟨g3, g4⟩ := playQ_sm (now := now) hq hl g1 g2
    simp only [playF, hn] at he
    refine ⟨(j, playQ q now l, playT now l, n), Le.ro (.same rfl rfl <| .same rfl rfl <| .same rfl rfl <| .same ?_ rfl .nil), ⟨e2, by simp only; omega, g3, g4, he⟩, Nat.lt_succ_self _⟩
    rw [hn]; rfl
def sameI (x y : Item) : Bool := decide (x.route = y.route) && (decide (x.topic = y.topic) && (decide (x.due = y.due) && decide (x.bytes = y.bytes)))
def sameQ : List Item → List Item → Bool
  | [], [] => true
  | x :: a, y :: b => sameI x y && sameQ a b
  | _, _ => false
theorem sameQ_step {a b : List Item} {i : Nat} {x y : Item} (hx : a[i]? = some x) (hy : b[i]? = some y) : sameQ (a.drop i) (b.drop i) = (sameI x y && sameQ (a.drop (i + 1)) (b.drop (i + 1))) := by
  rw [List.drop_eq_getElem_cons (List.getElem?_eq_some_iff.1 hx).1, (List.getElem?_eq_some_iff.1 hx).2, List.drop_eq_getElem_cons (List.getElem?_eq_some_iff.1 hy).1, (List.getElem?_eq_some_iff.1 hy).2]
  rfl
theorem sameQ_end {a b : List Item} {i : Nat} (h : a.length ≤ i ∨ b.length ≤ i) (ha : i ≤ a.length) (hb : i ≤ b.length) : sameQ (a.drop i) (b.drop i) = decide (a.length = b.length) := by
  rcases h with h | h
  · have : i = a.length := by omega
    subst this
    rw [List.drop_length]
    by_cases e : a.length = b.length
    · rw [e, List.drop_length]; simp [sameQ]
    · rw [List.drop_eq_getElem_cons (by omega)]; simp [sameQ, e]
  · have : i = b.length := by omega
    subst this
    rw [List.drop_length]
    by_cases e : a.length = b.length
    · rw [← e, List.drop_length]; simp [sameQ]
    · rw [List.drop_eq_getElem_cons (by omega)]; simp [sameQ, e]
/- spec.l15Queues -/
theorem spec_l15Queues_spec (a b : List Item) (ha : a.length ≤ 16777216) (hb : b.length ≤ 16777216) : Pw.Spec Tryz.prog 83 [eItems a, eItems b] (fun res_ => res_ = eT (sameQ a b)) := by
  refine spec_of (n := 74) Tryz.call83 Tryz.func83 rfl rfl (by simp) rfl rfl fun W Z => ?_
  refine PW.seq ?_
  refine PW.region ?_
  refine PL.run 1 rfl ?_
  refine PL.nil ?_
  refine PW.seq ?_
  refine PW.seq ?_
  refine PW.region ?_
  refine PL.run 1 rfl ?_
  refine PL.nil ?_
  refine PW.block ?_
  refine PW.loopAt (α := Nat) (fun i => ⟨[(0, eItems a), (1, eItems b), (5, eI (i : Int))], PH.none⟩) (fun i => i ≤ a.length ∧ i ≤ b.length ∧ sameQ (a.drop i) (b.drop i) = sameQ a b) (fun i => a.length - i) 0 Le.free ⟨Nat.zero_le _, Nat.zero_le _, rfl⟩ (fun i hi => ?_)
  refine PW.seq ?_
  refine PW.seq ?_
  refine PW.region ?_
  refine PL.run 5 rfl ?_
  refine PL.split (t := 10) rfl (fun h1 => ?_) (fun h1 => ?_)
  ·
    refine PL.run 5 rfl ?_
    refine PL.nil ?_
    refine PW.cond rfl (fun h2 => ?_) (fun h2 => ?_)
    ·
      have hlb : i < b.length := by simpa using h2
      have hla : i < a.length := by simpa using h1
      clear h1 h2
      obtain ⟨x, hx⟩ : ∃ y, a[i]? = some y := ⟨_, List.getElem?_eq_getElem hla⟩
      obtain ⟨y, hy⟩ : ∃ y, b[i]? = some y := ⟨_, List.getElem?_eq_getElem hlb⟩
      have hs := sameQ_step hx hy
      rw [hi.2.2] at hs
      refine PW.skip ?_
      refine PW.seq ?_
      refine PW.block ?_
      refine PW.seq ?_
      rcases Bool.eq_false_or_eq_true (!decide (x.route = y.route)) with h3 | h3
      ·
        refine PW.drawn ((some 18, _) :: (some 19, _) :: (some 20, _) :: (some 21, _) :: (some 22, _) :: (some 23, _) :: (some 24, _) :: (some 25, _) :: (some 26, _) :: (some 27, _) :: (some 28, _) :: (some 29, .lit (.bool true)) :: (some 30, _) :: (some 31, _) :: (some 32, _) :: (some 33, _) :: (some 34, _) :: (some 35, _) :: (some 36, _) :: (some 37, _) :: (some 38, _) :: (some 39, _) :: (some 40, _) :: (some 41, _) :: (some 42, _) :: (some 43, _) :: (some 44, _) :: (some 45, _) :: (some 46, _) :: (some 47, _) :: (some 48, _) :: (some 49, _) :: (some 50, _) :: (some 51, _) :: (some 52, _) :: (some 53, _) :: (some 54, _) :: (some 55, _) :: (some 56, _) :: (some 57, _) :: (some 58, _) :: (some 59, _) :: (some 60, _) :: (some 61, _) :: (some 62, _) :: (some 63, _) :: (some 64, _) :: (some 65, _) :: (some 66, _) :: (some 67, _) :: (some 68, _) :: []) (0 :: 0 :: 3 :: 7 :: 15 :: 0 :: 0 :: 96 :: 224 :: 480 :: 1023 :: 2047 :: 4095 :: 4095 :: 16383 :: 32767 :: 65535 :: 4095 :: 4095 :: 397311 :: 921599 :: 1970175 :: 4194303 :: 8388607 :: 16777215 :: 33554431 :: 33554431 :: 134217727 :: 268435455 :: 536870911 :: 33554431 :: 33554431 :: 3254779903 :: 7549747199 :: 16139681791 :: 34359738367 :: 68719476735 :: 137438953471 :: 274877906943 :: 274877906943 :: 1099511627775 :: 2199023255551 :: 4398046511103 :: 274877906943 :: 274877906943 :: 26663156973567 :: 61847529062399 :: 132216273240063 :: 281474976710655 :: 562949953421311 :: 1125899906842623 :: []) (fun _ => _) mixed rfl rfl rfl rfl rfl
          (.cons rfl (fun ρ => PL.run 1 rfl (PL.nil rfl)) <|
          .cons rfl (fun ρ => PL.run 1 rfl (PL.nil rfl)) <|
          .cons rfl (fun ρ => PL.val (OpV.idx rfl rfl rfl (nat_nonneg i) (map_at' hx) rfl rfl rfl rfl) (wantV_ok rfl) rfl (PL.nil rfl)) <|
          .cons rfl (fun ρ => PL.run 1 rfl (PL.nil rfl)) <|
          .cons rfl (fun ρ => PL.run 1 rfl (PL.nil rfl)) <|
          .cons rfl (fun ρ => PL.run 1 rfl (PL.nil rfl)) <|
          .cons rfl (fun ρ => PL.run 1 rfl (PL.nil rfl)) <|
          .cons rfl (fun ρ => PL.val (OpV.idx rfl rfl rfl (nat_nonneg i) (map_at' hy) rfl rfl rfl rfl) (wantV_ok rfl) rfl (PL.nil rfl)) <|
          .cons rfl (fun ρ => PL.run 1 rfl (PL.nil rfl)) <|
          .cons rfl (fun ρ => PL.run 1 rfl (PL.nil rfl)) <|
          .cons rfl (fun ρ => PL.run 1 rfl (PL.nil rfl)) <|
          .cons rfl (fun ρ => PL.run 1 rfl (PL.nil (putb h3))) <|
          .cons rfl (fun ρ => PL.run 1 rfl (PL.nil rfl)) <|
          .cons rfl (fun ρ => PL.run 1 rfl (PL.nil rfl)) <|
          .cons rfl (fun ρ => PL.run 1 rfl (PL.nil rfl)) <|
          .cons rfl (fun ρ => PL.run 1 rfl (PL.nil rfl)) <|
          .cons rfl (fun ρ => PL.run 1 rfl (PL.nil rfl)) <|
          .cons rfl (fun ρ => PL.run 1 rfl (PL.nil rfl)) <|
          .cons rfl (fun ρ => PL.run 1 rfl (PL.nil rfl)) <|
          .cons rfl (fun ρ => PL.run 1 rfl (PL.nil rfl)) <|
          .cons rfl (fun ρ => PL.run 1 rfl (PL.nil rfl)) <|
          .cons rfl (fun ρ => PL.run 1 rfl (PL.nil rfl)) <|
          .cons rfl (fun ρ => PL.run 1 rfl (PL.nil rfl)) <|
          .cons rfl (fun ρ => PL.run 1 rfl (PL.nil rfl)) <|
          .cons rfl (fun ρ => PL.run 1 rfl (PL.nil rfl)) <|
          .cons rfl (fun ρ => PL.run 1 rfl (PL.nil rfl)) <|
          .cons rfl (fun ρ => PL.run 1 rfl (PL.nil rfl)) <|
          .cons rfl (fun ρ => PL.run 1 rfl (PL.nil rfl)) <|
          .cons rfl (fun ρ => PL.run 1 rfl (PL.nil rfl)) <|
          .cons rfl (fun ρ => PL.run 1 rfl (PL.nil rfl)) <|
          .cons rfl (fun ρ => PL.run 1 rfl (PL.nil rfl)) <|
          .cons rfl (fun ρ => PL.run 1 rfl (PL.nil rfl)) <|
          .cons rfl (fun ρ => PL.run 1 rfl (PL.nil rfl)) <|
          .cons rfl (fun ρ => PL.run 1 rfl (PL.nil rfl)) <|
          .cons rfl (fun ρ => PL.run 1 rfl (PL.nil rfl)) <|
          .cons rfl (fun ρ => PL.run 1 rfl (PL.nil rfl)) <|
          .cons rfl (fun ρ => PL.run 1 rfl (PL.nil rfl)) <|
          .cons rfl (fun ρ => PL.run 1 rfl (PL.nil rfl)) <|
          .cons rfl (fun ρ => PL.run 1 rfl (PL.nil rfl)) <|
          .cons rfl (fun ρ => PL.run 1 rfl (PL.nil rfl)) <|
          .cons rfl (fun ρ => PL.run 1 rfl (PL.nil rfl)) <|
          .cons rfl (fun ρ => PL.run 1 rfl (PL.nil rfl)) <|
          .cons rfl (fun ρ => PL.run 1 rfl (PL.nil rfl)) <|
          .cons rfl (fun ρ => PL.run 1 rfl (PL.nil rfl)) <|
          .cons rfl (fun ρ => PL.run 1 rfl (PL.nil rfl)) <|
          .cons rfl (fun ρ => PL.run 1 rfl (PL.nil rfl)) <|
          .cons rfl (fun ρ => PL.run 1 rfl (PL.nil rfl)) <|
          .cons rfl (fun ρ => PL.run 1 rfl (PL.nil rfl)) <|
          .cons rfl (fun ρ => PL.run 1 rfl (PL.nil rfl)) <|
          .cons rfl (fun ρ => PL.run 1 rfl (PL.nil rfl)) <|
          .cons rfl (fun ρ => PL.run 1 rfl (PL.nil rfl)) <|
          .nil _) ?_
        refine PW.condT rfl ?_
        refine PW.seq ?_
        refine PW.region ?_
        refine PL.run 1 rfl ?_
        refine PL.nil ?_
        refine PW.ret ?_
        refine RetOk.free rfl rfl (congrArg eT ?_)
        rw [hs]; simp_all [sameI]
      ·
        rcases Bool.eq_false_or_eq_true (!decide (x.topic = y.topic)) with h4 | h4
        ·
          refine PW.drawn ((some 18, _) :: (some 19, _) :: (some 20, _) :: (some 21, _) :: (some 22, _) :: (some 23, _) :: (some 24, _) :: (some 25, _) :: (some 26, _) :: (some 27, _) :: (some 28, _) :: (some 29, .lit (.bool false)) :: (some 30, _) :: (some 31, _) :: (some 32, _) :: (some 33, _) :: (some 34, _) :: (some 35, _) :: (some 36, _) :: (some 37, _) :: (some 38, _) :: (some 39, _) :: (some 40, _) :: (some 41, _) :: (some 42, .lit (.bool true)) :: (some 43, _) :: (some 44, _) :: (some 45, _) :: (some 46, _) :: (some 47, _) :: (some 48, _) :: (some 49, _) :: (some 50, _) :: (some 51, _) :: (some 52, _) :: (some 53, _) :: (some 54, _) :: (some 55, _) :: (some 56, _) :: (some 57, _) :: (some 58, _) :: (some 59, _) :: (some 60, _) :: (some 61, _) :: (some 62, _) :: (some 63, _) :: (some 64, _) :: (some 65, _) :: (some 66, _) :: (some 67, _) :: (some 68, _) :: []) (0 :: 0 :: 3 :: 7 :: 15 :: 0 :: 0 :: 96 :: 224 :: 480 :: 1023 :: 2047 :: 4095 :: 4095 :: 16383 :: 32767 :: 65535 :: 4095 :: 4095 :: 397311 :: 921599 :: 1970175 :: 4194303 :: 8388607 :: 16777215 :: 33554431 :: 33554431 :: 134217727 :: 268435455 :: 536870911 :: 33554431 :: 33554431 :: 3254779903 :: 7549747199 :: 16139681791 :: 34359738367 :: 68719476735 :: 137438953471 :: 274877906943 :: 274877906943 :: 1099511627775 :: 2199023255551 :: 4398046511103 :: 274877906943 :: 274877906943 :: 26663156973567 :: 61847529062399 :: 132216273240063 :: 281474976710655 :: 562949953421311 :: 1125899906842623 :: []) (fun _ => _) mixed rfl rfl rfl rfl rfl
            (.cons rfl (fun ρ => PL.run 1 rfl (PL.nil rfl)) <|
            .cons rfl (fun ρ => PL.run 1 rfl (PL.nil rfl)) <|
            .cons rfl (fun ρ => PL.val (OpV.idx rfl rfl rfl (nat_nonneg i) (map_at' hx) rfl rfl rfl rfl) (wantV_ok rfl) rfl (PL.nil rfl)) <|
            .cons rfl (fun ρ => PL.run 1 rfl (PL.nil rfl)) <|
            .cons rfl (fun ρ => PL.run 1 rfl (PL.nil rfl)) <|
            .cons rfl (fun ρ => PL.run 1 rfl (PL.nil rfl)) <|
            .cons rfl (fun ρ => PL.run 1 rfl (PL.nil rfl)) <|
            .cons rfl (fun ρ => PL.val (OpV.idx rfl rfl rfl (nat_nonneg i) (map_at' hy) rfl rfl rfl rfl) (wantV_ok rfl) rfl (PL.nil rfl)) <|
            .cons rfl (fun ρ => PL.run 1 rfl (PL.nil rfl)) <|
            .cons rfl (fun ρ => PL.run 1 rfl (PL.nil rfl)) <|
            .cons rfl (fun ρ => PL.run 1 rfl (PL.nil rfl)) <|
            .cons rfl (fun ρ => PL.run 1 rfl (PL.nil (putb h3))) <|
            .cons rfl (fun ρ => PL.run 1 rfl (PL.nil rfl)) <|
            .cons rfl (fun ρ => PL.run 1 rfl (PL.nil rfl)) <|
            .cons rfl (fun ρ => PL.val (OpV.idx rfl rfl rfl (nat_nonneg i) (map_at' hx) rfl rfl rfl rfl) (wantV_ok rfl) rfl (PL.nil rfl)) <|
            .cons rfl (fun ρ => PL.run 1 rfl (PL.nil rfl)) <|
            .cons rfl (fun ρ => PL.run 1 rfl (PL.nil rfl)) <|
            .cons rfl (fun ρ => PL.run 1 rfl (PL.nil rfl)) <|
            .cons rfl (fun ρ => PL.run 1 rfl (PL.nil rfl)) <|
            .cons rfl (fun ρ => PL.val (OpV.idx rfl rfl rfl (nat_nonneg i) (map_at' hy) rfl rfl rfl rfl) (wantV_ok rfl) rfl (PL.nil rfl)) <|
            .cons rfl (fun ρ => PL.run 1 rfl (PL.nil rfl)) <|
            .cons rfl (fun ρ => PL.run 1 rfl (PL.nil rfl)) <|
            .cons rfl (fun ρ => PL.run 1 rfl (PL.nil rfl)) <|
            .cons rfl (fun ρ => PL.run 1 rfl (PL.nil rfl)) <|
            .cons rfl (fun ρ => PL.run 1 rfl (PL.nil (putb h4))) <|
            .cons rfl (fun ρ => PL.run 1 rfl (PL.nil rfl)) <|
            .cons rfl (fun ρ => PL.run 1 rfl (PL.nil rfl)) <|
            .cons rfl (fun ρ => PL.run 1 rfl (PL.nil rfl)) <|
            .cons rfl (fun ρ => PL.run 1 rfl (PL.nil rfl)) <|
            .cons rfl (fun ρ => PL.run 1 rfl (PL.nil rfl)) <|
            .cons rfl (fun ρ => PL.run 1 rfl (PL.nil rfl)) <|
            .cons rfl (fun ρ => PL.run 1 rfl (PL.nil rfl)) <|
            .cons rfl (fun ρ => PL.run 1 rfl (PL.nil rfl)) <|
            .cons rfl (fun ρ => PL.run 1 rfl (PL.nil rfl)) <|
            .cons rfl (fun ρ => PL.run 1 rfl (PL.nil rfl)) <|
            .cons rfl (fun ρ => PL.run 1 rfl (PL.nil rfl)) <|
            .cons rfl (fun ρ => PL.run 1 rfl (PL.nil rfl)) <|
            .cons rfl (fun ρ => PL.run 1 rfl (PL.nil rfl)) <|
            .cons rfl (fun ρ => PL.run 1 rfl (PL.nil rfl)) <|
            .cons rfl (fun ρ => PL.run 1 rfl (PL.nil rfl)) <|
            .cons rfl (fun ρ => PL.run 1 rfl (PL.nil rfl)) <|
            .cons rfl (fun ρ => PL.run 1 rfl (PL.nil rfl)) <|
            .cons rfl (fun ρ => PL.run 1 rfl (PL.nil rfl)) <|
            .cons rfl (fun ρ => PL.run 1 rfl (PL.nil rfl)) <|
            .cons rfl (fun ρ => PL.run 1 rfl (PL.nil rfl)) <|
            .cons rfl (fun ρ => PL.run 1 rfl (PL.nil rfl)) <|
            .cons rfl (fun ρ => PL.run 1 rfl (PL.nil rfl)) <|
            .cons rfl (fun ρ => PL.run 1 rfl (PL.nil rfl)) <|
            .cons rfl (fun ρ => PL.run 1 rfl (PL.nil rfl)) <|
            .cons rfl (fun ρ => PL.run 1 rfl (PL.nil rfl)) <|
            .cons rfl (fun ρ => PL.run 1 rfl (PL.nil rfl)) <|
            .nil _) ?_
          refine PW.condT rfl ?_
          refine PW.seq ?_
          refine PW.region ?_
          refine PL.run 1 rfl ?_
          refine PL.nil ?_
          refine PW.ret ?_
          refine RetOk.free rfl rfl (congrArg eT ?_)
          rw [hs]; simp_all [sameI]
        ·
          rcases Bool.eq_false_or_eq_true (!decide (x.due = y.due)) with h5 | h5
          ·
            refine PW.drawn ((some 18, _) :: (some 19, _) :: (some 20, _) :: (some 21, _) :: (some 22, _) :: (some 23, _) :: (some 24, _) :: (some 25, _) :: (some 26, _) :: (some 27, _) :: (some 28, _) :: (some 29, .lit (.bool false)) :: (some 30, _) :: (some 31, _) :: (some 32, _) :: (some 33, _) :: (some 34, _) :: (some 35, _) :: (some 36, _) :: (some 37, _) :: (some 38, _) :: (some 39, _) :: (some 40, _) :: (some 41, _) :: (some 42, .lit (.bool false)) :: (some 43, _) :: (some 44, _) :: (some 45, _) :: (some 46, _) :: (some 47, _) :: (some 48, _) :: (some 49, _) :: (some 50, _) :: (some 51, _) :: (some 52, _) :: (some 53, _) :: (some 54, _) :: (some 55, .lit (.bool true)) :: (some 56, _) :: (some 57, _) :: (some 58, _) :: (some 59, _) :: (some 60, _) :: (some 61, _) :: (some 62, _) :: (some 63, _) :: (some 64, _) :: (some 65, _) :: (some 66, _) :: (some 67, _) :: (some 68, _) :: []) (0 :: 0 :: 3 :: 7 :: 15 :: 0 :: 0 :: 96 :: 224 :: 480 :: 1023 :: 2047 :: 4095 :: 4095 :: 16383 :: 32767 :: 65535 :: 4095 :: 4095 :: 397311 :: 921599 :: 1970175 :: 4194303 :: 8388607 :: 16777215 :: 33554431 :: 33554431 :: 134217727 :: 268435455 :: 536870911 :: 33554431 :: 33554431 :: 3254779903 :: 7549747199 :: 16139681791 :: 34359738367 :: 68719476735 :: 137438953471 :: 274877906943 :: 274877906943 :: 1099511627775 :: 2199023255551 :: 4398046511103 :: 274877906943 :: 274877906943 :: 26663156973567 :: 61847529062399 :: 132216273240063 :: 281474976710655 :: 562949953421311 :: 1125899906842623 :: []) (fun _ => _) mixed rfl rfl rfl rfl rfl
              (.cons rfl (fun ρ => PL.run 1 rfl (PL.nil rfl)) <|
              .cons rfl (fun ρ => PL.run 1 rfl (PL.nil rfl)) <|
              .cons rfl (fun ρ => PL.val (OpV.idx rfl rfl rfl (nat_nonneg i) (map_at' hx) rfl rfl rfl rfl) (wantV_ok rfl) rfl (PL.nil rfl)) <|
              .cons rfl (fun ρ => PL.run 1 rfl (PL.nil rfl)) <|
              .cons rfl (fun ρ => PL.run 1 rfl (PL.nil rfl)) <|
              .cons rfl (fun ρ => PL.run 1 rfl (PL.nil rfl)) <|
              .cons rfl (fun ρ => PL.run 1 rfl (PL.nil rfl)) <|
              .cons rfl (fun ρ => PL.val (OpV.idx rfl rfl rfl (nat_nonneg i) (map_at' hy) rfl rfl rfl rfl) (wantV_ok rfl) rfl (PL.nil rfl)) <|
              .cons rfl (fun ρ => PL.run 1 rfl (PL.nil rfl)) <|
              .cons rfl (fun ρ => PL.run 1 rfl (PL.nil rfl)) <|
              .cons rfl (fun ρ => PL.run 1 rfl (PL.nil rfl)) <|
              .cons rfl (fun ρ => PL.run 1 rfl (PL.nil (putb h3))) <|
              .cons rfl (fun ρ => PL.run 1 rfl (PL.nil rfl)) <|
              .cons rfl (fun ρ => PL.run 1 rfl (PL.nil rfl)) <|
              .cons rfl (fun ρ => PL.val (OpV.idx rfl rfl rfl (nat_nonneg i) (map_at' hx) rfl rfl rfl rfl) (wantV_ok rfl) rfl (PL.nil rfl)) <|
              .cons rfl (fun ρ => PL.run 1 rfl (PL.nil rfl)) <|
              .cons rfl (fun ρ => PL.run 1 rfl (PL.nil rfl)) <|
              .cons rfl (fun ρ => PL.run 1 rfl (PL.nil rfl)) <|
              .cons rfl (fun ρ => PL.run 1 rfl (PL.nil rfl)) <|
              .cons rfl (fun ρ => PL.val (OpV.idx rfl rfl rfl (nat_nonneg i) (map_at' hy) rfl rfl rfl rfl) (wantV_ok rfl) rfl (PL.nil rfl)) <|
              .cons rfl (fun ρ => PL.run 1 rfl (PL.nil rfl)) <|
              .cons rfl (fun ρ => PL.run 1 rfl (PL.nil rfl)) <|
              .cons rfl (fun ρ => PL.run 1 rfl (PL.nil rfl)) <|
              .cons rfl (fun ρ => PL.run 1 rfl (PL.nil rfl)) <|
              .cons rfl (fun ρ => PL.run 1 rfl (PL.nil (putb h4))) <|
              .cons rfl (fun ρ => PL.run 1 rfl (PL.nil rfl)) <|
              .cons rfl (fun ρ => PL.run 1 rfl (PL.nil rfl)) <|
              .cons rfl (fun ρ => PL.val (OpV.idx rfl rfl rfl (nat_nonneg i) (map_at' hx) rfl rfl rfl rfl) (wantV_ok rfl) rfl (PL.nil rfl)) <|
              .cons rfl (fun ρ => PL.run 1 rfl (PL.nil rfl)) <|
              .cons rfl (fun ρ => PL.run 1 rfl (PL.nil rfl)) <|
              .cons rfl (fun ρ => PL.run 1 rfl (PL.nil rfl)) <|
              .cons rfl (fun ρ => PL.run 1 rfl (PL.nil rfl)) <|
              .cons rfl (fun ρ => PL.val (OpV.idx rfl rfl rfl (nat_nonneg i) (map_at' hy) rfl rfl rfl rfl) (wantV_ok rfl) rfl (PL.nil rfl)) <|
              .cons rfl (fun ρ => PL.run 1 rfl (PL.nil rfl)) <|
              .cons rfl (fun ρ => PL.run 1 rfl (PL.nil rfl)) <|
              .cons rfl (fun ρ => PL.run 1 rfl (PL.nil rfl)) <|
              .cons rfl (fun ρ => PL.run 1 rfl (PL.nil rfl)) <|
              .cons rfl (fun ρ => PL.run 1 rfl (PL.nil (putb h5))) <|
              .cons rfl (fun ρ => PL.run 1 rfl (PL.nil rfl)) <|
              .cons rfl (fun ρ => PL.run 1 rfl (PL.nil rfl)) <|
              .cons rfl (fun ρ => PL.run 1 rfl (PL.nil rfl)) <|
              .cons rfl (fun ρ => PL.run 1 rfl (PL.nil rfl)) <|
              .cons rfl (fun ρ => PL.run 1 rfl (PL.nil rfl)) <|
              .cons rfl (fun ρ => PL.run 1 rfl (PL.nil rfl)) <|
              .cons rfl (fun ρ => PL.run 1 rfl (PL.nil rfl)) <|
              .cons rfl (fun ρ => PL.run 1 rfl (PL.nil rfl)) <|
              .cons rfl (fun ρ => PL.run 1 rfl (PL.nil rfl)) <|
              .cons rfl (fun ρ => PL.run 1 rfl (PL.nil rfl)) <|
              .cons rfl (fun ρ => PL.run 1 rfl (PL.nil rfl)) <|
              .cons rfl (fun ρ => PL.run 1 rfl (PL.nil rfl)) <|
              .cons rfl (fun ρ => PL.run 1 rfl (PL.nil rfl)) <|
              .nil _) ?_
            refine PW.condT rfl ?_
            refine PW.seq ?_
            refine PW.region ?_
            refine PL.run 1 rfl ?_
            refine PL.nil ?_
            refine PW.ret ?_
            refine RetOk.free rfl rfl (congrArg eT ?_)
            rw [hs]; simp_all [sameI]
          ·
            refine PW.drawn ((some 18, _) :: (some 19, _) :: (some 20, _) :: (some 21, _) :: (some 22, _) :: (some 23, _) :: (some 24, _) :: (some 25, _) :: (some 26, _) :: (some 27, _) :: (some 28, _) :: (some 29, .lit (.bool false)) :: (some 30, _) :: (some 31, _) :: (some 32, _) :: (some 33, _) :: (some 34, _) :: (some 35, _) :: (some 36, _) :: (some 37, _) :: (some 38, _) :: (some 39, _) :: (some 40, _) :: (some 41, _) :: (some 42, .lit (.bool false)) :: (some 43, _) :: (some 44, _) :: (some 45, _) :: (some 46, _) :: (some 47, _) :: (some 48, _) :: (some 49, _) :: (some 50, _) :: (some 51, _) :: (some 52, _) :: (some 53, _) :: (some 54, _) :: (some 55, .lit (.bool false)) :: (some 56, _) :: (some 57, _) :: (some 58, _) :: (some 59, _) :: (some 60, _) :: (some 61, _) :: (some 62, _) :: (some 63, _) :: (some 64, _) :: (some 65, _) :: (some 66, _) :: (some 67, _) :: (some 68, _) :: []) (0 :: 0 :: 3 :: 7 :: 15 :: 0 :: 0 :: 96 :: 224 :: 480 :: 1023 :: 2047 :: 4095 :: 4095 :: 16383 :: 32767 :: 65535 :: 4095 :: 4095 :: 397311 :: 921599 :: 1970175 :: 4194303 :: 8388607 :: 16777215 :: 33554431 :: 33554431 :: 134217727 :: 268435455 :: 536870911 :: 33554431 :: 33554431 :: 3254779903 :: 7549747199 :: 16139681791 :: 34359738367 :: 68719476735 :: 137438953471 :: 274877906943 :: 274877906943 :: 1099511627775 :: 2199023255551 :: 4398046511103 :: 274877906943 :: 274877906943 :: 26663156973567 :: 61847529062399 :: 132216273240063 :: 281474976710655 :: 562949953421311 :: 1125899906842623 :: []) (fun _ => _) mixed rfl rfl rfl rfl rfl
              (.cons rfl (fun ρ => PL.run 1 rfl (PL.nil rfl)) <|
              .cons rfl (fun ρ => PL.run 1 rfl (PL.nil rfl)) <|
              .cons rfl (fun ρ => PL.val (OpV.idx rfl rfl rfl (nat_nonneg i) (map_at' hx) rfl rfl rfl rfl) (wantV_ok rfl) rfl (PL.nil rfl)) <|
              .cons rfl (fun ρ => PL.run 1 rfl (PL.nil rfl)) <|
              .cons rfl (fun ρ => PL.run 1 rfl (PL.nil rfl)) <|
              .cons rfl (fun ρ => PL.run 1 rfl (PL.nil rfl)) <|
              .cons rfl (fun ρ => PL.run 1 rfl (PL.nil rfl)) <|
              .cons rfl (fun ρ => PL.val (OpV.idx rfl rfl rfl (nat_nonneg i) (map_at' hy) rfl rfl rfl rfl) (wantV_ok rfl) rfl (PL.nil rfl)) <|
              .cons rfl (fun ρ => PL.run 1 rfl (PL.nil rfl)) <|
              .cons rfl (fun ρ => PL.run 1 rfl (PL.nil rfl)) <|
              .cons rfl (fun ρ => PL.run 1 rfl (PL.nil rfl)) <|
              .cons rfl (fun ρ => PL.run 1 rfl (PL.nil (putb h3))) <|
              .cons rfl (fun ρ => PL.run 1 rfl (PL.nil rfl)) <|
              .cons rfl (fun ρ => PL.run 1 rfl (PL.nil rfl)) <|
              .cons rfl (fun ρ => PL.val (OpV.idx rfl rfl rfl (nat_nonneg i) (map_at' hx) rfl rfl rfl rfl) (wantV_ok rfl) rfl (PL.nil rfl)) <|
              .cons rfl (fun ρ => PL.run 1 rfl (PL.nil rfl)) <|
              .cons rfl (fun ρ => PL.run 1 rfl (PL.nil rfl)) <|
              .cons rfl (fun ρ => PL.run 1 rfl (PL.nil rfl)) <|
              .cons rfl (fun ρ => PL.run 1 rfl (PL.nil rfl)) <|
              .cons rfl (fun ρ => PL.val (OpV.idx rfl rfl rfl (nat_nonneg i) (map_at' hy) rfl rfl rfl rfl) (wantV_ok rfl) rfl (PL.nil rfl)) <|
              .cons rfl (fun ρ => PL.run 1 rfl (PL.nil rfl)) <|
              .cons rfl (fun ρ => PL.run 1 rfl (PL.nil rfl)) <|
              .cons rfl (fun ρ => PL.run 1 rfl (PL.nil rfl)) <|
              .cons rfl (fun ρ => PL.run 1 rfl (PL.nil rfl)) <|
              .cons rfl (fun ρ => PL.run 1 rfl (PL.nil (putb h4))) <|
              .cons rfl (fun ρ => PL.run 1 rfl (PL.nil rfl)) <|
              .cons rfl (fun ρ => PL.run 1 rfl (PL.nil rfl)) <|
              .cons rfl (fun ρ => PL.val (OpV.idx rfl rfl rfl (nat_nonneg i) (map_at' hx) rfl rfl rfl rfl) (wantV_ok rfl) rfl (PL.nil rfl)) <|
              .cons rfl (fun ρ => PL.run 1 rfl (PL.nil rfl)) <|
              .cons rfl (fun ρ => PL.run 1 rfl (PL.nil rfl)) <|
              .cons rfl (fun ρ => PL.run 1 rfl (PL.nil rfl)) <|
              .cons rfl (fun ρ => PL.run 1 rfl (PL.nil rfl)) <|
              .cons rfl (fun ρ => PL.val (OpV.idx rfl rfl rfl (nat_nonneg i) (map_at' hy) rfl rfl rfl rfl) (wantV_ok rfl) rfl (PL.nil rfl)) <|
              .cons rfl (fun ρ => PL.run 1 rfl (PL.nil rfl)) <|
              .cons rfl (fun ρ => PL.run 1 rfl (PL.nil rfl)) <|
              .cons rfl (fun ρ => PL.run 1 rfl (PL.nil rfl)) <|
              .cons rfl (fun ρ => PL.run 1 rfl (PL.nil rfl)) <|
              .cons rfl (fun ρ => PL.run 1 rfl (PL.nil (putb h5))) <|
              .cons rfl (fun ρ => PL.run 1 rfl (PL.nil rfl)) <|
              .cons rfl (fun ρ => PL.run 1 rfl (PL.nil rfl)) <|
              .cons rfl (fun ρ => PL.val (OpV.idx rfl rfl rfl (nat_nonneg i) (map_at' hx) rfl rfl rfl rfl) (wantV_ok rfl) rfl (PL.nil rfl)) <|
              .cons rfl (fun ρ => PL.run 1 rfl (PL.nil rfl)) <|
              .cons rfl (fun ρ => PL.run 1 rfl (PL.nil rfl)) <|
              .cons rfl (fun ρ => PL.run 1 rfl (PL.nil rfl)) <|
              .cons rfl (fun ρ => PL.run 1 rfl (PL.nil rfl)) <|
              .cons rfl (fun ρ => PL.val (OpV.idx rfl rfl rfl (nat_nonneg i) (map_at' hy) rfl rfl rfl rfl) (wantV_ok rfl) rfl (PL.nil rfl)) <|
              .cons rfl (fun ρ => PL.run 1 rfl (PL.nil rfl)) <|
              .cons rfl (fun ρ => PL.run 1 rfl (PL.nil rfl)) <|
              .cons rfl (fun ρ => PL.call rfl rfl rfl (spec_Same_spec x.bytes y.bytes) (.cons (.refl _) <| .cons (.refl _) <| .nil) (fun p hp => by subst hp; rfl) (wantV_ok rfl) rfl (fun p hp => by subst hp; exact PL.nil rfl)) <|
              .cons rfl (fun ρ => PL.run 1 rfl (PL.nil rfl)) <|
              .cons rfl (fun ρ => PL.run 1 rfl (PL.nil rfl)) <|
              .nil _) ?_
            refine PW.cond rfl (fun h6 => ?_) (fun h6 => ?_)
            ·
              refine PW.seq ?_
              refine PW.region ?_
              refine PL.run 1 rfl ?_
              refine PL.nil ?_
              refine PW.ret ?_
              refine RetOk.free rfl rfl (congrArg eT ?_)
              rw [hs]; simp_all [sameI]
            ·
              refine PW.skip ?_
              refine PW.region ?_
              refine PL.run 3 rfl ?_
              refine PL.nil ?_
              refine ⟨i + 1, Le.free ⟨⟨rfl, rfl⟩, ⟨rfl, rfl⟩, ⟨inc_ok (by omega), rfl⟩, trivial⟩, ⟨hla, hlb, ?_⟩, by omega⟩
              rw [hs]; simp_all [sameI]
    ·
      refine PW.exit ?_
      refine PW.seq ?_
      refine PW.region ?_
      refine PL.run 6 rfl ?_
      refine PL.nil ?_
      refine PW.ret ?_
      refine RetOk.free rfl rfl (congrArg eT ?_)
      rw [← hi.2.2, sameQ_end (.inr (by simpa using h2)) hi.1 hi.2.1]; simp
      try omega
  ·
    refine PL.run 5 rfl ?_
    refine PL.nil ?_
    refine PW.condF rfl ?_
    refine PW.exit ?_
    refine PW.seq ?_
    refine PW.region ?_
    refine PL.run 6 rfl ?_
    refine PL.nil ?_
    refine PW.ret ?_
    refine RetOk.free rfl rfl (congrArg eT ?_)
    rw [← hi.2.2, sameQ_end (.inl (by simpa using h1)) hi.1 hi.2.1]; simp
    try omega
end Go.Wl
set_option linter.unusedVariables false
set_option linter.unusedSimpArgs false
set_option maxRecDepth 100000
set_option maxHeartbeats 8000000
namespace Go.Wl
open Go Go.RowKit Go.Pw Go.Proofs
def postOk (p : Post) : Bool := queueOk p.queue && (inB p.time 0 100000 && (decide (p.book.length ≤ 12000) && (inB p.sure 0 (p.book.length : Nat) && (decide ((play p.book).2.2 = p.book.length) && (decide ((play p.book).2.1 = p.time) && sameQ (play p.book).1 p.queue)))))
theorem playF_len {b : List UInt8} (hb : b.length ≤ 16777216) : ∀ (k : Nat) (q : List Item) (now : Int) (i : Nat), Sm q → q.length ≤ 10 → (playF b k q now i).1.length ≤ 10
  | 0, q, now, i, _, h => h
  | k + 1, q, now, i, hq, h => by
    simp only [playF]
    split
    · rename_i l n hn
      obtain ⟨e1, e2, e3, e4⟩ := lineOf_some hn
      have e5 := lineAt_len b i
      have e6 := lineAt_size b i e4
      rw [← e3] at e5 e6
      have := playQ_sm (now := now) hq h (by omega) (by omega : l.bytes.length ≤ 16777216)
      exact playF_len hb k _ _ _ this.1 this.2
    · exact h
theorem play_len {b : List UInt8} (hb : b.length ≤ 16777216) : (play b).1.length ≤ 10 := playF_len hb _ _ _ _ Sm.nil (Nat.zero_le _)
structure SmP (p : Post) : Prop where
  q : Sm p.queue
  b : p.book.length ≤ 16777216
/- spec.PostOk -/
theorem spec_PostOk_spec (p : Post) (hp : SmP p) : Pw.Spec Tryz.prog 35 [.agg (ePost p)] (fun res_ => res_ = eT (postOk p)) := by
  refine spec_of (n := 55) Tryz.call35 Tryz.func35 rfl rfl (by simp) rfl rfl fun W Z => ?_
  refine PW.seq ?_
  refine PW.region ?_
  refine PL.run 2 rfl ?_
  refine PL.nil ?_
  refine PW.seq ?_
  refine PW.seq ?_
  refine PW.region ?_
  refine PL.run 2 rfl ?_
  refine PL.call rfl rfl rfl (spec_QueueOk_spec p.queue hp.q) (.cons (.refl _) <| .nil) (fun p hp => by subst hp; rfl) (wantV_ok rfl) rfl (fun p hp => ?_)
  subst hp
  refine PL.run 2 rfl ?_
  refine PL.split (t := 10) rfl (fun h1 => ?_) (fun h1 => ?_)
  ·
    refine PL.run 20 rfl ?_
    refine PL.nil ?_
    refine PW.condT rfl ?_
    refine PW.seq ?_
    refine PW.region ?_
    refine PL.run 1 rfl ?_
    refine PL.nil ?_
    refine PW.ret ?_
    refine RetOk.free rfl rfl (congrArg eT ?_)
    simp_all [postOk]
    try omega
  ·
    refine PL.run 2 rfl ?_
    refine PL.call rfl rfl rfl (spec_l1In_spec p.time 0 100000) (.cons (.refl _) <| .cons (.refl _) <| .cons (.refl _) <| .nil) (fun p hp => by subst hp; rfl) (wantV_ok rfl) rfl (fun p hp => ?_)
    subst hp
    refine PL.run 3 rfl ?_
    refine PL.split (t := 16) rfl (fun h2 => ?_) (fun h2 => ?_)
    ·
      refine PL.run 14 rfl ?_
      refine PL.nil ?_
      refine PW.condT rfl ?_
      refine PW.seq ?_
      refine PW.region ?_
      refine PL.run 1 rfl ?_
      refine PL.nil ?_
      refine PW.ret ?_
      refine RetOk.free rfl rfl (congrArg eT ?_)
      simp_all [postOk]
      try omega
    ·
      refine PL.run 6 rfl ?_
      refine PL.split (t := 22) rfl (fun h3 => ?_) (fun h3 => ?_)
      ·
        refine PL.run 8 rfl ?_
        refine PL.nil ?_
        refine PW.condT rfl ?_
        refine PW.seq ?_
        refine PW.region ?_
        refine PL.run 1 rfl ?_
        refine PL.nil ?_
        refine PW.ret ?_
        refine RetOk.free rfl rfl (congrArg eT ?_)
        have g3 : ¬ p.book.length ≤ 12000 := by simp at h3; omega
        simp [postOk, g3]
      ·
        refine PL.run 5 rfl ?_
        refine PL.call rfl rfl rfl (spec_l1In_spec p.sure 0 (((p.book.map eb).length : Nat) : Int)) (.cons (.refl _) <| .cons (.refl _) <| .cons (.refl _) <| .nil) (fun p hp => by subst hp; rfl) (wantV_ok rfl) rfl (fun p hp => ?_)
        subst hp
        refine PL.run 2 rfl ?_
        refine PL.nil ?_
        refine PW.cond rfl (fun h4 => ?_) (fun h4 => ?_)
        ·
          refine PW.seq ?_
          refine PW.region ?_
          refine PL.run 1 rfl ?_
          refine PL.nil ?_
          refine PW.ret ?_
          refine RetOk.free rfl rfl (congrArg eT ?_)
          simp_all [postOk]
          try omega
        ·
          refine PW.skip ?_
          refine PW.seq ?_
          refine PW.region ?_
          refine PL.run 2 rfl ?_
          refine PL.call rfl rfl rfl (spec_Play_spec p.book hp.b) (.cons (.refl _) <| .nil) (fun p hp => by subst hp; rfl) (wantV_ok rfl) rfl (fun p hp => ?_)
          subst hp
          refine PL.run 7 rfl ?_
          refine PL.nil ?_
          refine PW.seq ?_
          refine PW.region ?_
          refine PL.run 6 rfl ?_
          refine PL.split (t := 43) rfl (fun h5 => ?_) (fun h5 => ?_)
          ·
            refine PL.run 6 rfl ?_
            refine PL.split (t := 49) rfl (fun h6 => ?_) (fun h6 => ?_)
            ·
              refine PL.run 3 rfl ?_
              refine PL.call rfl rfl rfl (spec_l15Queues_spec (play p.book).1 p.queue (Nat.le_trans (play_len hp.b) (by decide)) hp.q.len) (.cons (.refl _) <| .cons (.refl _) <| .nil) (fun p hp => by subst hp; rfl) (wantV_ok rfl) rfl (fun p hp => ?_)
              subst hp
              refine PL.run 2 rfl ?_
              refine PL.nil ?_
              refine PW.ret ?_
              refine RetOk.free rfl rfl (congrArg eT ?_)
              have g3 : p.book.length ≤ 12000 := by simp at h3; omega
              have g5 : (play p.book).2.2 = p.book.length := by simp at h5; omega
              clear h3 h5
              simp_all [postOk]
            ·
              refine PL.run 6 rfl ?_
              refine PL.nil ?_
              refine PW.ret ?_
              refine RetOk.free rfl rfl (congrArg eT ?_)
              simp_all [postOk]
              try omega
          ·
            refine PL.run 12 rfl ?_
            refine PL.nil ?_
            refine PW.ret ?_
            refine RetOk.free rfl rfl (congrArg eT ?_)
            have g5 : ¬ (play p.book).2.2 = p.book.length := by simp at h5; omega
            simp [postOk, g5]
def seenOk (r : Reader) (i : Nat) : Bool := match r.seen[i]?, r.got[i]? with
  | some s, some g => decide (s.length ≤ 1560) && (decide (g.length ≤ 200) && (r.seen.take i).all fun t => !decide (t = s))
  | _, _ => true
def readerOk (r : Reader) : Bool := decide (r.seed.length = 32) && (inB r.epoch 0 40 && (decide (r.seen.length ≤ 20) && (decide (r.got.length = r.seen.length) && (List.range r.seen.length).all (seenOk r))))
structure SmR (r : Reader) : Prop where
  seed : r.seed.length ≤ 16777216
  seen : r.seen.length ≤ 16777216
  got : r.got.length ≤ 16777216
  s : ∀ (i : Nat) (x : List UInt8), r.seen[i]? = some x → x.length ≤ 16777216
  g : ∀ (i : Nat) (x : List UInt8), r.got[i]? = some x → x.length ≤ 16777216
theorem range_bad {p : Nat → Bool} {n i : Nat} (h : i < n) (hp : p i = false) : (List.range n).all p = false := by
  rw [List.all_eq_false]
  exact ⟨i, List.mem_range.2 h, by simp [hp]⟩
theorem take_allG {α : Type} {p : α → Bool} {q : List α} {k : Nat} {y : α} (h : (q.take k).all p = true) (hy : q[k]? = some y) (hp : p y = true) : (q.take (k + 1)).all p = true := by
  rw [take_step hy, List.all_append, h]; simp [hp]
theorem take_bad {α : Type} {p : α → Bool} {q : List α} {k i : Nat} {y : α} (hy : q[k]? = some y) (hk : k < i) (hp : p y = false) : (q.take i).all p = false := by
  rw [List.all_eq_false]
  exact ⟨y, List.mem_of_getElem? (i := k) (by rw [List.getElem?_take_of_lt hk]; exact hy), by simp [hp]⟩
/- spec.ReaderOk -/
theorem spec_ReaderOk_spec (r : Reader) (hr : SmR r) : Pw.Spec Tryz.prog 36 [.agg (eReader r)] (fun res_ => res_ = eT (readerOk r)) := by
  refine spec_of (n := 69) Tryz.call36 Tryz.func36 rfl rfl (by simp) rfl rfl fun W Z => ?_
  refine PW.seq ?_
  refine PW.region ?_
  refine PL.run 2 rfl ?_
  refine PL.nil ?_
  refine PW.seq ?_
  refine PW.seq ?_
  refine PW.region ?_
  refine PL.run 5 rfl ?_
  refine PL.split (t := 9) rfl (fun h1 => ?_) (fun h1 => ?_)
  ·
    refine PL.run 20 rfl ?_
    refine PL.nil ?_
    refine PW.condT rfl ?_
    refine PW.seq ?_
    refine PW.region ?_
    refine PL.run 1 rfl ?_
    refine PL.nil ?_
    refine PW.ret ?_
    refine RetOk.free rfl rfl (congrArg eT ?_)
    have : ¬ r.seed.length = 32 := by simp at h1; omega
    simp [readerOk, this]
  ·
    refine PL.run 2 rfl ?_
    refine PL.call rfl rfl rfl (spec_l1In_spec r.epoch 0 40) (.cons (.refl _) <| .cons (.refl _) <| .cons (.refl _) <| .nil) (fun p hp => by subst hp; rfl) (wantV_ok rfl) rfl (fun p hp => ?_)
    subst hp
    refine PL.run 3 rfl ?_
    refine PL.split (t := 15) rfl (fun h2 => ?_) (fun h2 => ?_)
    ·
      refine PL.run 14 rfl ?_
      refine PL.nil ?_
      refine PW.condT rfl ?_
      refine PW.seq ?_
      refine PW.region ?_
      refine PL.run 1 rfl ?_
      refine PL.nil ?_
      refine PW.ret ?_
      refine RetOk.free rfl rfl (congrArg eT ?_)
      simp_all [readerOk]
    ·
      refine PL.run 6 rfl ?_
      refine PL.split (t := 21) rfl (fun h3 => ?_) (fun h3 => ?_)
      ·
        refine PL.run 8 rfl ?_
        refine PL.nil ?_
        refine PW.condT rfl ?_
        refine PW.seq ?_
        refine PW.region ?_
        refine PL.run 1 rfl ?_
        refine PL.nil ?_
        refine PW.ret ?_
        refine RetOk.free rfl rfl (congrArg eT ?_)
        have : ¬ r.seen.length ≤ 20 := by simp at h3; omega
        simp [readerOk, this]
      ·
        refine PL.run 8 rfl ?_
        refine PL.nil ?_
        refine PW.cond rfl (fun h4 => ?_) (fun h4 => ?_)
        ·
          refine PW.seq ?_
          refine PW.region ?_
          refine PL.run 1 rfl ?_
          refine PL.nil ?_
          refine PW.ret ?_
          refine RetOk.free rfl rfl (congrArg eT ?_)
          have : ¬ r.got.length = r.seen.length := by simp at h4; omega
          simp [readerOk, this]
        ·
          have hg : r.got.length = r.seen.length := by simp at h4; omega
          have hs := hr.seen
          refine PW.skip ?_
          refine PW.seq ?_
          refine PW.seq ?_
          refine PW.region ?_
          refine PL.run 1 rfl ?_
          refine PL.nil ?_
          refine PW.block ?_
          refine PW.loopAt (α := Nat) (fun i => ⟨[(1, .bx 1 0), (3, eI (i : Int))], ⟨[(1, (38, eReader r))], []⟩⟩) (fun i => i ≤ r.seen.length ∧ (List.range i).all (seenOk r) = true) (fun i => r.seen.length - i) 0 Le.boxes ⟨Nat.zero_le _, rfl⟩ (fun i hi => ?_)
          refine PW.seq ?_
          refine PW.seq ?_
          refine PW.region ?_
          refine PL.run 5 rfl ?_
          refine PL.nil ?_
          refine PW.cond rfl (fun h5 => ?_) (fun h5 => ?_)
          ·
            have hlt : i < r.seen.length := by simpa using h5
            obtain ⟨x, hx⟩ : ∃ y, r.seen[i]? = some y := ⟨_, List.getElem?_eq_getElem hlt⟩
            obtain ⟨g, hgx⟩ : ∃ y, r.got[i]? = some y := ⟨_, List.getElem?_eq_getElem (by omega)⟩
            have hbad : seenOk r i = false → readerOk r = false := fun h => by simp [readerOk, range_bad hlt h]
            refine PW.skip ?_
            refine PW.seq ?_
            refine PW.block ?_
            refine PW.seq ?_
            refine PW.seq ?_
            refine PW.region ?_
            refine PL.run 3 rfl ?_
            refine PL.val (OpV.idx rfl rfl rfl (nat_nonneg i) (map_at' hx) rfl rfl rfl rfl) (wantV_ok rfl) rfl ?_
            refine PL.run 4 rfl ?_
            refine PL.split (t := 44) rfl (fun h6 => ?_) (fun h6 => ?_)
            ·
              refine PL.run 8 rfl ?_
              refine PL.nil ?_
              refine PW.condT rfl ?_
              refine PW.seq ?_
              refine PW.region ?_
              refine PL.run 1 rfl ?_
              refine PL.nil ?_
              refine PW.ret ?_
              refine RetOk.free rfl rfl (congrArg eT ?_)
              have : ¬ x.length ≤ 1560 := by simp at h6; omega
              rw [hbad (by simp [seenOk, hx, hgx, this])]
            ·
              refine PL.run 3 rfl ?_
              refine PL.val (OpV.idx rfl rfl rfl (nat_nonneg i) (map_at' hgx) rfl rfl rfl rfl) (wantV_ok rfl) rfl ?_
              refine PL.run 4 rfl ?_
              refine PL.nil ?_
              refine PW.cond rfl (fun h7 => ?_) (fun h7 => ?_)
              ·
                refine PW.seq ?_
                refine PW.region ?_
                refine PL.run 1 rfl ?_
                refine PL.nil ?_
                refine PW.ret ?_
                refine RetOk.free rfl rfl (congrArg eT ?_)
                have : ¬ g.length ≤ 200 := by simp at h7; omega
                rw [hbad (by simp [seenOk, hx, hgx, this])]
              ·
                refine PW.skip ?_
                refine PW.seq ?_
                refine PW.region ?_
                refine PL.run 1 rfl ?_
                refine PL.nil ?_
                refine PW.block ?_
                refine PW.loopAt (α := Nat) (fun k => ⟨[(1, .bx 1 0), (3, eI (i : Int)), (4, eI (k : Int))], ⟨[(1, (38, eReader r))], []⟩⟩) (fun k => k ≤ i ∧ ((r.seen.take k).all fun t => !decide (t = x)) = true) (fun k => i - k) 0 Le.boxes ⟨Nat.zero_le _, rfl⟩ (fun k hk => ?_)
                refine PW.seq ?_
                refine PW.seq ?_
                refine PW.region ?_
                refine PL.run 3 rfl ?_
                refine PL.nil ?_
                refine PW.cond rfl (fun h8 => ?_) (fun h8 => ?_)
                ·
                  have hlt2 : k < i := by simpa using h8
                  obtain ⟨y, hy⟩ : ∃ y, r.seen[k]? = some y := ⟨_, List.getElem?_eq_getElem (by omega)⟩
                  refine PW.skip ?_
                  refine PW.seq ?_
                  refine PW.block ?_
                  refine PW.seq ?_
                  refine PW.drawn ((some 58, _) :: (some 59, _) :: (some 60, _) :: (some 61, _) :: (some 62, _) :: (some 63, _) :: (some 64, _) :: (some 65, _) :: (some 66, _) :: (some 67, _) :: (some 68, _) :: []) (0 :: 1 :: 0 :: 7 :: 15 :: 0 :: 32 :: 0 :: 224 :: 480 :: 1023 :: []) (fun _ => _) mixed rfl rfl rfl rfl rfl
                    (.cons rfl (fun ρ => PL.run 1 rfl (PL.nil rfl)) <|
                    .cons rfl (fun ρ => PL.run 1 rfl (PL.nil rfl)) <|
                    .cons rfl (fun ρ => PL.run 1 rfl (PL.nil rfl)) <|
                    .cons rfl (fun ρ => PL.val (OpV.idx rfl rfl rfl (nat_nonneg k) (map_at' hy) rfl rfl rfl rfl) (wantV_ok rfl) rfl (PL.nil rfl)) <|
                    .cons rfl (fun ρ => PL.run 1 rfl (PL.nil rfl)) <|
                    .cons rfl (fun ρ => PL.run 1 rfl (PL.nil rfl)) <|
                    .cons rfl (fun ρ => PL.run 1 rfl (PL.nil rfl)) <|
                    .cons rfl (fun ρ => PL.run 1 rfl (PL.nil rfl)) <|
                    .cons rfl (fun ρ => PL.val (OpV.idx rfl rfl rfl (nat_nonneg i) (map_at' hx) rfl rfl rfl rfl) (wantV_ok rfl) rfl (PL.nil rfl)) <|
                    .cons rfl (fun ρ => PL.run 1 rfl (PL.nil rfl)) <|
                    .cons rfl (fun ρ => PL.call rfl rfl rfl (spec_Same_spec y x) (.cons (.refl _) <| .cons (.refl _) <| .nil) (fun p hp => by subst hp; rfl) (wantV_ok rfl) rfl (fun p hp => by subst hp; exact PL.nil rfl)) <|
                    .nil _) ?_
                  refine PW.cond rfl (fun h9 => ?_) (fun h9 => ?_)
                  ·
                    refine PW.seq ?_
                    refine PW.region ?_
                    refine PL.run 1 rfl ?_
                    refine PL.nil ?_
                    refine PW.ret ?_
                    refine RetOk.free rfl rfl (congrArg eT ?_)
                    rw [hbad (by simp only [seenOk, hx, hgx, take_bad (p := fun t => !decide (t = x)) hy hlt2 (by simpa using h9)]; simp)]
                  ·
                    refine PW.skip ?_
                    refine PW.region ?_
                    refine PL.run 3 rfl ?_
                    refine PL.nil ?_
                    exact ⟨k + 1, Le.boxes ⟨⟨rfl, rfl⟩, trivial⟩ ⟨⟨rfl, rfl⟩, ⟨rfl, rfl⟩, ⟨inc_ok (by omega), rfl⟩, trivial⟩, ⟨hlt2, take_allG hk.2 hy (by simpa using h9)⟩, by omega⟩
                ·
                  refine PW.exit ?_
                  refine PW.region ?_
                  refine PL.run 3 rfl ?_
                  refine PL.nil ?_
                  have hge : k = i := by have := hk.1; simp at h8; omega
                  subst hge
                  have h6 : x.length ≤ 1560 := by simp at h6; omega
                  have h7 : g.length ≤ 200 := by simp at h7; omega
                  exact ⟨k + 1, Le.boxes ⟨⟨rfl, rfl⟩, trivial⟩ ⟨⟨rfl, rfl⟩, ⟨inc_ok (by omega), rfl⟩, trivial⟩, ⟨hlt, range_all hi.2 (by simp only [seenOk, hx, hgx, hk.2, h6, h7, decide_true, Bool.and_true])⟩, by omega⟩
          ·
            refine PW.exit ?_
            refine PW.seq ?_
            refine PW.region ?_
            refine PL.run 1 rfl ?_
            refine PL.nil ?_
            refine PW.ret ?_
            refine RetOk.free rfl rfl (congrArg eT ?_)
            have hge : i = r.seen.length := by have := hi.1; simp at h5; omega
            have h3 : r.seen.length ≤ 20 := by simp at h3; omega
            have h1 : r.seed.length = 32 := by simp at h1; omega
            have h2 : inB r.epoch 0 40 = true := by simpa using h2
            simp only [readerOk, ← hge, hi.2, h1, h2, hg]
            simp; omega
end Go.Wl
set_option linter.unusedVariables false
set_option linter.unusedSimpArgs false
set_option maxRecDepth 100000
set_option maxHeartbeats 8000000
namespace Go.Wl
open Go Go.RowKit Go.Pw Go.Proofs
def noItem (x : Item) : Bool := decide (x.route = noText) && (decide (x.topic = 0) && (decide (x.due = 0) && decide (x.bytes.length = 0)))
def wireOk (w : Wire) : Bool := if w.toPost then itemOk w.item && decide (w.bytes.length = 0) else noItem w.item && decide (w.bytes.length ≤ 1560)
def netOk (net : List Wire) : Bool := net.all wireOk && decide (net.length ≤ 12)
structure SmN (net : List Wire) : Prop where
  len : net.length ≤ 16777216
  route : ∀ (i : Nat) (x : Wire), net[i]? = some x → x.item.route.size ≤ 1099511627776
  ib : ∀ (i : Nat) (x : Wire), net[i]? = some x → x.item.bytes.length ≤ 16777216
  b : ∀ (i : Nat) (x : Wire), net[i]? = some x → x.bytes.length ≤ 16777216
theorem all_bad {α : Type} {p : α → Bool} {l : List α} {i : Nat} {x : α} (hx : l[i]? = some x) (h : p x = false) : l.all p = false := by
  rw [List.all_eq_false]
  exact ⟨x, List.mem_of_getElem? hx, by simp [h]⟩
theorem dlen0 (l : List UInt8) : decide (((l.map eb).length : Int) = 0) = decide (l.length = 0) := by
  by_cases h : l.length = 0 <;> simp [h] <;> omega
theorem dlenp (l : List UInt8) : decide ((0 : Int) < ((l.map eb).length : Int)) = !decide (l.length = 0) := by
  by_cases h : l.length = 0 <;> simp [h] <;> omega
theorem dlenm (l : List UInt8) (m : Nat) : decide ((m : Int) < ((l.map eb).length : Int)) = !decide (l.length ≤ m) := by
  by_cases h : l.length ≤ m <;> simp [h] <;> omega
/- spec.l17Net -/
theorem spec_l17Net_spec (net : List Wire) (hn : SmN net) : Pw.Spec Tryz.prog 37 [eWires net] (fun res_ => res_ = eT (netOk net)) := by
  refine spec_of (n := 71) Tryz.call37 Tryz.func37 rfl rfl (by simp) rfl rfl fun W Z => ?_
  have hlen := hn.len
  refine PW.seq ?_
  refine PW.region ?_
  refine PL.run 1 rfl ?_
  refine PL.nil ?_
  refine PW.seq ?_
  refine PW.seq ?_
  refine PW.region ?_
  refine PL.run 1 rfl ?_
  refine PL.nil ?_
  refine PW.block ?_
  refine PW.loopAt (α := Nat) (fun i => ⟨[(0, eWires net), (3, eI (i : Int))], PH.none⟩) (fun i => i ≤ net.length ∧ (net.take i).all wireOk = true) (fun i => net.length - i) 0 Le.free ⟨Nat.zero_le _, rfl⟩ (fun i hi => ?_)
  refine PW.seq ?_
  refine PW.seq ?_
  refine PW.region ?_
  refine PL.run 4 rfl ?_
  refine PL.nil ?_
  refine PW.cond rfl (fun h1 => ?_) (fun h1 => ?_)
  ·
    have hlt : i < net.length := by simpa using h1
    clear h1
    obtain ⟨x, hx⟩ : ∃ y, net[i]? = some y := ⟨_, List.getElem?_eq_getElem hlt⟩
    have hbad : wireOk x = false → netOk net = false := fun h => by simp [netOk, all_bad hx h]
    have hgood := fun h => take_allG hi.2 hx h
    have hup : some (PV.lit (.int .i64 (IntKind.i64.wrap ((i : Int) + 1)))) = some (PV.lit (.int .i64 ((i + 1 : Nat) : Int))) := inc_ok (by omega)
    have hdn : net.length - (i + 1) < net.length - i := by omega
    refine PW.skip ?_
    refine PW.seq ?_
    refine PW.block ?_
    refine PW.seq ?_
    refine PW.region ?_
    refine PL.run 2 rfl ?_
    refine PL.val (OpV.idx rfl rfl rfl (nat_nonneg i) (map_at' hx) rfl rfl rfl rfl) (wantV_ok rfl) rfl ?_
    refine PL.run 3 rfl ?_
    refine PL.nil ?_
    refine PW.cut (⟨[(0, eWires net), (3, eI (i : Int)), (4, .bx 4 0), (5, eT (noItem x.item))], ⟨[(4, (71, eWire x))], []⟩⟩) ?_ ?_
    ·
      refine PW.region ?_
      refine PL.run 5 rfl ?_
      refine PL.split (t := 20) rfl (fun h2 => ?_) (fun h2 => ?_)
      ·
        refine PL.run 6 rfl ?_
        refine PL.split (t := 26) rfl (fun h3 => ?_) (fun h3 => ?_)
        ·
          refine PL.run 6 rfl ?_
          refine PL.split (t := 32) rfl (fun h4 => ?_) (fun h4 => ?_)
          ·
            refine PL.run 7 rfl ?_
            refine PL.nil ?_
            refine Le.boxes ⟨⟨rfl, rfl⟩, trivial⟩ ⟨⟨rfl, rfl⟩, ⟨rfl, rfl⟩, ⟨rfl, rfl⟩, ⟨congrArg (fun b => some (eT b)) ?_, rfl⟩, trivial⟩
            try simp only [dlen0] at *
            simp_all [noItem, noText]
          ·
            refine PL.run 7 rfl ?_
            refine PL.nil ?_
            refine Le.boxes ⟨⟨rfl, rfl⟩, trivial⟩ ⟨⟨rfl, rfl⟩, ⟨rfl, rfl⟩, ⟨rfl, rfl⟩, ⟨congrArg (fun b => some (eT b)) ?_, rfl⟩, trivial⟩
            try simp only [dlen0] at *
            simp_all [noItem, noText]
        ·
          refine PL.run 13 rfl ?_
          refine PL.nil ?_
          refine Le.boxes ⟨⟨rfl, rfl⟩, trivial⟩ ⟨⟨rfl, rfl⟩, ⟨rfl, rfl⟩, ⟨rfl, rfl⟩, ⟨congrArg (fun b => some (eT b)) ?_, rfl⟩, trivial⟩
          try simp only [dlen0] at *
          simp_all [noItem, noText]
      ·
        refine PL.run 19 rfl ?_
        refine PL.nil ?_
        refine Le.boxes ⟨⟨rfl, rfl⟩, trivial⟩ ⟨⟨rfl, rfl⟩, ⟨rfl, rfl⟩, ⟨rfl, rfl⟩, ⟨congrArg (fun b => some (eT b)) ?_, rfl⟩, trivial⟩
        try simp only [dlen0] at *
        simp_all [noItem, noText]
    ·
      refine PW.seq ?_
      refine PW.region ?_
      refine PL.run 3 rfl ?_
      refine PL.split (t := 41) rfl (fun h5 => ?_) (fun h5 => ?_)
      ·
        refine PL.run 2 rfl ?_
        refine PL.call rfl rfl rfl (spec_ItemOk_spec x.item (hn.route i x hx)) (.cons (.refl _) <| .nil) (fun p hp => by subst hp; rfl) (wantV_ok rfl) rfl (fun p hp => ?_)
        subst hp
        refine PL.run 2 rfl ?_
        refine PL.split (t := 46) rfl (fun h6 => ?_) (fun h6 => ?_)
        ·
          refine PL.run 21 rfl ?_
          refine PL.nil ?_
          refine PW.condT rfl ?_
          refine PW.seq ?_
          refine PW.region ?_
          refine PL.run 1 rfl ?_
          refine PL.nil ?_
          refine PW.ret ?_
          refine RetOk.free rfl rfl (congrArg eT ?_)
          rw [hbad]
          try simp only [dlen0, dlenp, dlenm x.bytes 1560] at *
          clear hbad hgood hup hdn
          simp_all [wireOk]
          try omega
        ·
          refine PL.run 7 rfl ?_
          refine PL.split (t := 53) rfl (fun h7 => ?_) (fun h7 => ?_)
          ·
            refine PL.run 14 rfl ?_
            refine PL.nil ?_
            refine PW.condT rfl ?_
            refine PW.seq ?_
            refine PW.region ?_
            refine PL.run 1 rfl ?_
            refine PL.nil ?_
            refine PW.ret ?_
            refine RetOk.free rfl rfl (congrArg eT ?_)
            rw [hbad]
            try simp only [dlen0, dlenp, dlenm x.bytes 1560] at *
            clear hbad hgood hup hdn
            simp_all [wireOk]
            try omega
          ·
            refine PL.run 4 rfl ?_
            refine PL.split (t := 57) rfl (fun h8 => ?_) (fun h8 => ?_)
            ·
              refine PL.run 3 rfl ?_
              refine PL.split (t := 60) rfl (fun h9 => ?_) (fun h9 => ?_)
              ·
                refine PL.run 7 rfl ?_
                refine PL.nil ?_
                refine PW.condT rfl ?_
                refine PW.seq ?_
                refine PW.region ?_
                refine PL.run 1 rfl ?_
                refine PL.nil ?_
                refine PW.ret ?_
                refine RetOk.free rfl rfl (congrArg eT ?_)
                rw [hbad]
                try simp only [dlen0, dlenp, dlenm x.bytes 1560] at *
                clear hbad hgood hup hdn
                simp_all [wireOk]
                try omega
              ·
                refine PL.run 7 rfl ?_
                refine PL.nil ?_
                refine PW.cond rfl (fun h10 => ?_) (fun h10 => ?_)
                ·
                  refine PW.seq ?_
                  refine PW.region ?_
                  refine PL.run 1 rfl ?_
                  refine PL.nil ?_
                  refine PW.ret ?_
                  refine RetOk.free rfl rfl (congrArg eT ?_)
                  rw [hbad]
                  try simp only [dlen0, dlenp, dlenm x.bytes 1560] at *
                  clear hbad hgood hup hdn
                  simp_all [wireOk]
                  try omega
                ·
                  refine PW.skip ?_
                  refine PW.region ?_
                  refine PL.run 3 rfl ?_
                  refine PL.nil ?_
                  refine ⟨i + 1, Le.free ⟨⟨rfl, rfl⟩, ⟨hup, rfl⟩, trivial⟩, ⟨hlt, hgood ?_⟩, hdn⟩
                  clear hbad hgood hup hdn
                  try simp only [dlen0, dlenp, dlenm x.bytes 1560] at *
                  simp_all [wireOk]
                  try omega
            ·
              refine PL.run 10 rfl ?_
              refine PL.nil ?_
              refine PW.condF rfl ?_
              refine PW.skip ?_
              refine PW.region ?_
              refine PL.run 3 rfl ?_
              refine PL.nil ?_
              refine ⟨i + 1, Le.free ⟨⟨rfl, rfl⟩, ⟨hup, rfl⟩, trivial⟩, ⟨hlt, hgood ?_⟩, hdn⟩
              clear hbad hgood hup hdn
              try simp only [dlen0, dlenp, dlenm x.bytes 1560] at *
              simp_all [wireOk]
              try omega
      ·
        refine PL.run 16 rfl ?_
        refine PL.split (t := 57) rfl (fun h11 => ?_) (fun h11 => ?_)
        ·
          refine PL.run 3 rfl ?_
          refine PL.split (t := 60) rfl (fun h12 => ?_) (fun h12 => ?_)
          ·
            refine PL.run 7 rfl ?_
            refine PL.nil ?_
            refine PW.condT rfl ?_
            refine PW.seq ?_
            refine PW.region ?_
            refine PL.run 1 rfl ?_
            refine PL.nil ?_
            refine PW.ret ?_
            refine RetOk.free rfl rfl (congrArg eT ?_)
            rw [hbad]
            try simp only [dlen0, dlenp, dlenm x.bytes 1560] at *
            clear hbad hgood hup hdn
            simp_all [wireOk]
            try omega
          ·
            refine PL.run 7 rfl ?_
            refine PL.nil ?_
            refine PW.cond rfl (fun h13 => ?_) (fun h13 => ?_)
            ·
              refine PW.seq ?_
              refine PW.region ?_
              refine PL.run 1 rfl ?_
              refine PL.nil ?_
              refine PW.ret ?_
              refine RetOk.free rfl rfl (congrArg eT ?_)
              rw [hbad]
              try simp only [dlen0, dlenp, dlenm x.bytes 1560] at *
              clear hbad hgood hup hdn
              simp_all [wireOk]
              try omega
            ·
              refine PW.skip ?_
              refine PW.region ?_
              refine PL.run 3 rfl ?_
              refine PL.nil ?_
              refine ⟨i + 1, Le.free ⟨⟨rfl, rfl⟩, ⟨hup, rfl⟩, trivial⟩, ⟨hlt, hgood ?_⟩, hdn⟩
              clear hbad hgood hup hdn
              try simp only [dlen0, dlenp, dlenm x.bytes 1560] at *
              simp_all [wireOk]
              try omega
        ·
          refine PL.run 10 rfl ?_
          refine PL.nil ?_
          refine PW.condF rfl ?_
          refine PW.skip ?_
          refine PW.region ?_
          refine PL.run 3 rfl ?_
          refine PL.nil ?_
          refine ⟨i + 1, Le.free ⟨⟨rfl, rfl⟩, ⟨hup, rfl⟩, trivial⟩, ⟨hlt, hgood ?_⟩, hdn⟩
          clear hbad hgood hup hdn
          try simp only [dlen0, dlenp, dlenm x.bytes 1560] at *
          simp_all [wireOk]
          try omega
  ·
    refine PW.exit ?_
    refine PW.seq ?_
    refine PW.region ?_
    refine PL.run 4 rfl ?_
    refine PL.nil ?_
    refine PW.ret ?_
    refine RetOk.free rfl rfl (congrArg eT ?_)
    have hge : i = net.length := by have := hi.1; simp at h1; omega
    have h2 := hi.2
    rw [hge, List.take_length] at h2
    rw [netOk, h2]
    simp only [Bool.true_and, List.length_map]
    exact decide_eq_decide.2 (by omega)
def sentOk (s : Sent) : Bool := itemOk ⟨s.route, 0, 0, s.bytes⟩ && (decide (s.note.length ≤ 200) && inB s.epoch 0 40)
def worldOk (w : Earth) : Bool := decide (w.seed.length = 32) && (inB w.count 0 12 && (inB w.known 0 40 && (postOk w.post && (readerOk w.reader && (netOk w.net && (decide ((w.sent.length : Int) = w.count) && w.sent.all sentOk))))))
structure SmW (w : Earth) : Prop where
  p : SmP w.post
  r : SmR w.reader
  n : SmN w.net
  seed : w.seed.length ≤ 16777216
  sent : w.sent.length ≤ 16777216
  sr : ∀ (i : Nat) (x : Sent), w.sent[i]? = some x → x.route.size ≤ 1099511627776
  sb : ∀ (i : Nat) (x : Sent), w.sent[i]? = some x → x.bytes.length ≤ 16777216
  sn : ∀ (i : Nat) (x : Sent), w.sent[i]? = some x → x.note.length ≤ 16777216
/- spec.WorldOk -/
theorem spec_WorldOk_spec (w : Earth) (hw : SmW w) : Pw.Spec Tryz.prog 10 [.agg (eEarth w)] (fun res_ => res_ = eT (worldOk w)) := by
  refine spec_of (n := 78) Tryz.call10 Tryz.func10 rfl rfl (by simp) rfl rfl fun W Z => ?_
  have hsent := hw.sent
  refine PW.seq ?_
  refine PW.region ?_
  refine PL.run 2 rfl ?_
  refine PL.nil ?_
  refine PW.seq ?_
  refine PW.seq ?_
  refine PW.region ?_
  refine PL.run 5 rfl ?_
  refine PL.split (t := 9) rfl (fun h1 => ?_) (fun h1 => ?_)
  ·
    refine PL.run 37 rfl ?_
    refine PL.nil ?_
    refine PW.condT rfl ?_
    refine PW.seq ?_
    refine PW.region ?_
    refine PL.run 1 rfl ?_
    refine PL.nil ?_
    refine PW.ret ?_
    refine RetOk.free rfl rfl (congrArg eT ?_)
    have : ¬ w.seed.length = 32 := by simp at h1; omega
    simp [worldOk, this]
  ·
    refine PL.run 2 rfl ?_
    refine PL.call rfl rfl rfl (spec_l1In_spec w.count 0 12) (.cons (.refl _) <| .cons (.refl _) <| .cons (.refl _) <| .nil) (fun p hp => by subst hp; rfl) (wantV_ok rfl) rfl (fun p hp => ?_)
    subst hp
    refine PL.run 3 rfl ?_
    refine PL.split (t := 15) rfl (fun h2 => ?_) (fun h2 => ?_)
    ·
      refine PL.run 31 rfl ?_
      refine PL.nil ?_
      refine PW.condT rfl ?_
      refine PW.seq ?_
      refine PW.region ?_
      refine PL.run 1 rfl ?_
      refine PL.nil ?_
      refine PW.ret ?_
      refine RetOk.free rfl rfl (congrArg eT ?_)
      have : inB w.count 0 12 = false := by simpa using h2
      simp [worldOk, this]
    ·
      refine PL.run 2 rfl ?_
      refine PL.call rfl rfl rfl (spec_l1In_spec w.known 0 40) (.cons (.refl _) <| .cons (.refl _) <| .cons (.refl _) <| .nil) (fun p hp => by subst hp; rfl) (wantV_ok rfl) rfl (fun p hp => ?_)
      subst hp
      refine PL.run 3 rfl ?_
      refine PL.split (t := 21) rfl (fun h3 => ?_) (fun h3 => ?_)
      ·
        refine PL.run 25 rfl ?_
        refine PL.nil ?_
        refine PW.condT rfl ?_
        refine PW.seq ?_
        refine PW.region ?_
        refine PL.run 1 rfl ?_
        refine PL.nil ?_
        refine PW.ret ?_
        refine RetOk.free rfl rfl (congrArg eT ?_)
        have : inB w.known 0 40 = false := by simpa using h3
        simp [worldOk, this]
      ·
        refine PL.run 2 rfl ?_
        refine PL.call rfl rfl rfl (spec_PostOk_spec w.post hw.p) (.cons (.refl _) <| .nil) (fun p hp => by subst hp; rfl) (wantV_ok rfl) rfl (fun p hp => ?_)
        subst hp
        refine PL.run 3 rfl ?_
        refine PL.split (t := 27) rfl (fun h4 => ?_) (fun h4 => ?_)
        ·
          refine PL.run 19 rfl ?_
          refine PL.nil ?_
          refine PW.condT rfl ?_
          refine PW.seq ?_
          refine PW.region ?_
          refine PL.run 1 rfl ?_
          refine PL.nil ?_
          refine PW.ret ?_
          refine RetOk.free rfl rfl (congrArg eT ?_)
          have : postOk w.post = false := by simpa using h4
          simp [worldOk, this]
        ·
          refine PL.run 2 rfl ?_
          refine PL.call rfl rfl rfl (spec_ReaderOk_spec w.reader hw.r) (.cons (.refl _) <| .nil) (fun p hp => by subst hp; rfl) (wantV_ok rfl) rfl (fun p hp => ?_)
          subst hp
          refine PL.run 3 rfl ?_
          refine PL.split (t := 33) rfl (fun h5 => ?_) (fun h5 => ?_)
          ·
            refine PL.run 13 rfl ?_
            refine PL.nil ?_
            refine PW.condT rfl ?_
            refine PW.seq ?_
            refine PW.region ?_
            refine PL.run 1 rfl ?_
            refine PL.nil ?_
            refine PW.ret ?_
            refine RetOk.free rfl rfl (congrArg eT ?_)
            have : readerOk w.reader = false := by simpa using h5
            simp [worldOk, this]
          ·
            refine PL.run 2 rfl ?_
            refine PL.call rfl rfl rfl (spec_l17Net_spec w.net hw.n) (.cons (.refl _) <| .nil) (fun p hp => by subst hp; rfl) (wantV_ok rfl) rfl (fun p hp => ?_)
            subst hp
            refine PL.run 3 rfl ?_
            refine PL.split (t := 39) rfl (fun h6 => ?_) (fun h6 => ?_)
            ·
              refine PL.run 7 rfl ?_
              refine PL.nil ?_
              refine PW.condT rfl ?_
              refine PW.seq ?_
              refine PW.region ?_
              refine PL.run 1 rfl ?_
              refine PL.nil ?_
              refine PW.ret ?_
              refine RetOk.free rfl rfl (congrArg eT ?_)
              have : netOk w.net = false := by simpa using h6
              simp [worldOk, this]
            ·
              refine PL.run 7 rfl ?_
              refine PL.nil ?_
              refine PW.cond rfl (fun h7 => ?_) (fun h7 => ?_)
              ·
                refine PW.seq ?_
                refine PW.region ?_
                refine PL.run 1 rfl ?_
                refine PL.nil ?_
                refine PW.ret ?_
                refine RetOk.free rfl rfl (congrArg eT ?_)
                have : ¬ (w.sent.length : Int) = w.count := by simpa using h7
                simp [worldOk, this]
              ·
                have k1 : w.seed.length = 32 := by simp at h1; omega
                have k2 : inB w.count 0 12 = true := by simpa using h2
                have k3 : inB w.known 0 40 = true := by simpa using h3
                have k4 : postOk w.post = true := by simpa using h4
                have k5 : readerOk w.reader = true := by simpa using h5
                have k6 : netOk w.net = true := by simpa using h6
                have k7 : (w.sent.length : Int) = w.count := by simpa using h7
                have kk : worldOk w = w.sent.all sentOk := by simp [worldOk, k1, k2, k3, k4, k5, k6, k7]
                clear h1 h2 h3 h4 h5 h6 h7 k1 k2 k3 k4 k5 k6 k7
                refine PW.skip ?_
                refine PW.seq ?_
                refine PW.seq ?_
                refine PW.region ?_
                refine PL.run 1 rfl ?_
                refine PL.nil ?_
                refine PW.block ?_
                refine PW.loopAt (α := Nat) (fun i => ⟨[(1, .bx 1 0), (3, eI (i : Int))], ⟨[(1, (42, eEarth w))], []⟩⟩) (fun i => i ≤ w.sent.length ∧ (w.sent.take i).all sentOk = true) (fun i => w.sent.length - i) 0 Le.boxes ⟨Nat.zero_le _, rfl⟩ (fun i hi => ?_)
                refine PW.seq ?_
                refine PW.seq ?_
                refine PW.region ?_
                refine PL.run 5 rfl ?_
                refine PL.nil ?_
                refine PW.cond rfl (fun h8 => ?_) (fun h8 => ?_)
                ·
                  have hlt : i < w.sent.length := by simpa using h8
                  clear h8
                  obtain ⟨x, hx⟩ : ∃ y, w.sent[i]? = some y := ⟨_, List.getElem?_eq_getElem hlt⟩
                  have hbad : sentOk x = false → worldOk w = false := fun h => by rw [kk, all_bad hx h]
                  refine PW.skip ?_
                  refine PW.seq ?_
                  refine PW.block ?_
                  refine PW.seq ?_
                  refine PW.region ?_
                  refine PL.run 3 rfl ?_
                  refine PL.val (OpV.idx rfl rfl rfl (nat_nonneg i) (map_at' hx) rfl rfl rfl rfl) (wantV_ok rfl) rfl ?_
                  refine PL.run 3 rfl ?_
                  refine PL.nil ?_
                  refine PW.seq ?_
                  refine PW.region ?_
                  refine PL.run 4 rfl ?_
                  refine PL.val (OpV.build rfl rfl rfl rfl rfl rfl) (wantV_ok rfl) rfl ?_
                  refine PL.call rfl rfl rfl (spec_ItemOk_spec ⟨x.route, 0, 0, x.bytes⟩ (hw.sr i x hx)) (.cons (.refl _) <| .nil) (fun p hp => by subst hp; rfl) (wantV_ok rfl) rfl (fun p hp => ?_)
                  subst hp
                  refine PL.run 2 rfl ?_
                  refine PL.split (t := 66) rfl (fun h9 => ?_) (fun h9 => ?_)
                  ·
                    refine PL.run 11 rfl ?_
                    refine PL.nil ?_
                    refine PW.condT rfl ?_
                    refine PW.seq ?_
                    refine PW.region ?_
                    refine PL.run 1 rfl ?_
                    refine PL.nil ?_
                    refine PW.ret ?_
                    refine RetOk.free rfl rfl (congrArg eT ?_)
                    rw [hbad]
                    have : itemOk ⟨x.route, 0, 0, x.bytes⟩ = false := by simpa using h9
                    simp [sentOk, this]
                  ·
                    refine PL.run 6 rfl ?_
                    refine PL.split (t := 72) rfl (fun h10 => ?_) (fun h10 => ?_)
                    ·
                      refine PL.run 5 rfl ?_
                      refine PL.nil ?_
                      refine PW.condT rfl ?_
                      refine PW.seq ?_
                      refine PW.region ?_
                      refine PL.run 1 rfl ?_
                      refine PL.nil ?_
                      refine PW.ret ?_
                      refine RetOk.free rfl rfl (congrArg eT ?_)
                      rw [hbad]
                      have : ¬ x.note.length ≤ 200 := by simp at h10; omega
                      simp [sentOk, this]
                    ·
                      refine PL.run 2 rfl ?_
                      refine PL.call rfl rfl rfl (spec_l1In_spec x.epoch 0 40) (.cons (.refl _) <| .cons (.refl _) <| .cons (.refl _) <| .nil) (fun p hp => by subst hp; rfl) (wantV_ok rfl) rfl (fun p hp => ?_)
                      subst hp
                      refine PL.run 2 rfl ?_
                      refine PL.nil ?_
                      refine PW.cond rfl (fun h11 => ?_) (fun h11 => ?_)
                      ·
                        refine PW.seq ?_
                        refine PW.region ?_
                        refine PL.run 1 rfl ?_
                        refine PL.nil ?_
                        refine PW.ret ?_
                        refine RetOk.free rfl rfl (congrArg eT ?_)
                        rw [hbad]
                        have : inB x.epoch 0 40 = false := by simpa using h11
                        simp [sentOk, this]
                      ·
                        refine PW.skip ?_
                        refine PW.region ?_
                        refine PL.run 3 rfl ?_
                        refine PL.nil ?_
                        refine ⟨i + 1, Le.boxes ⟨⟨rfl, rfl⟩, trivial⟩ ⟨⟨rfl, rfl⟩, ⟨inc_ok (by omega), rfl⟩, trivial⟩, ⟨hlt, take_allG hi.2 hx ?_⟩, by omega⟩
                        have g1 : itemOk ⟨x.route, 0, 0, x.bytes⟩ = true := by simpa using h9
                        have g2 : x.note.length ≤ 200 := by simp at h10; omega
                        have g3 : inB x.epoch 0 40 = true := by simpa using h11
                        simp [sentOk, g1, g2, g3]
                ·
                  refine PW.exit ?_
                  refine PW.seq ?_
                  refine PW.region ?_
                  refine PL.run 1 rfl ?_
                  refine PL.nil ?_
                  refine PW.ret ?_
                  refine RetOk.free rfl rfl (congrArg eT ?_)
                  have hge : i = w.sent.length := by have := hi.1; simp at h8; omega
                  have h2 := hi.2
                  rw [hge, List.take_length] at h2
                  rw [kk, h2]
end Go.Wl
set_option linter.unusedVariables false
set_option linter.unusedSimpArgs false
set_option maxRecDepth 100000
set_option maxHeartbeats 8000000
namespace Go.Wl
open Go Go.RowKit Go.Pw Go.Proofs
theorem byte_back (c : UInt8) : ((c.toNat : Nat) : Int).toNat.toUInt8 = c := by simp
theorem idx_run (s : ByteArray) (c : UInt8) : ∀ W, (callFunc 165 ([Value.string s, Value.int .u8 (c.toNat : Int)] : List Value).toArray).run Tryz.prog W = .ok (.value (.int .i64 (Lib.indexByte s.data.toList c))) W := fun W => by
  have := run_callFunc_extern Tryz.func165 (by kernel_rfl) (by kernel_rfl) (by kernel_rfl) (e := Extern.BytealgIndexByte.indexByte) (by kernel_rfl) #[Value.string s, Value.int .u8 (c.toNat : Int)] W
  rw [Lib.run_indexByteString, byte_back] at this
  exact this
/- internal/stringslite.IndexByte -/
theorem internal_stringslite_IndexByte_spec (s : ByteArray) (c : UInt8) : Pw.Spec Tryz.prog 163 [eS s, .lit (.int .u8 (c.toNat : Int))] (fun res_ => res_ = eI (Lib.indexByte s.data.toList c)) := by
  refine spec_of (n := 8) Tryz.call163 Tryz.func163 rfl rfl (by simp) rfl rfl fun W Z => ?_
  refine PW.seq ?_
  refine PW.region ?_
  refine PL.run 1 rfl ?_
  refine PL.nil ?_
  refine PW.seq ?_
  refine PW.region ?_
  refine PL.run 2 rfl ?_
  refine PL.val (OpV.ext (vs := [.string s, .int .u8 (c.toNat : Int)]) rfl rfl rfl (idx_run s c)) (wantV_ok rfl) rfl ?_
  refine PL.run 1 rfl ?_
  refine PL.nil ?_
  refine PW.ret ?_
  refine RetOk.free rfl rfl rfl
/- strings.IndexByte -/
theorem strings_IndexByte_spec (s : ByteArray) (c : UInt8) : Pw.Spec Tryz.prog 154 [eS s, .lit (.int .u8 (c.toNat : Int))] (fun res_ => res_ = eI (Lib.indexByte s.data.toList c)) := by
  refine spec_of (n := 8) Tryz.call154 Tryz.func154 rfl rfl (by simp) rfl rfl fun W Z => ?_
  refine PW.seq ?_
  refine PW.region ?_
  refine PL.run 1 rfl ?_
  refine PL.nil ?_
  refine PW.seq ?_
  refine PW.region ?_
  refine PL.run 2 rfl ?_
  refine PL.call rfl rfl rfl (internal_stringslite_IndexByte_spec s c) (.cons (.refl _) <| .cons (.refl _) <| .nil) (fun p hp => by subst hp; rfl) (wantV_ok rfl) rfl (fun p hp => ?_)
  subst hp
  refine PL.run 1 rfl ?_
  refine PL.nil ?_
  refine PW.ret ?_
  refine RetOk.free rfl rfl rfl
theorem idx_signsN : ∀ n : Nat, n < 256 → Lib.indexByte signs.data.toList (UInt8.ofNat n) = sign n := by decide +kernel
theorem idx_signs (c : UInt8) : Lib.indexByte signs.data.toList c = sign c.toNat := by
  have := idx_signsN c.toNat c.toNat_lt
  rwa [UInt8.ofNat_toNat] at this
theorem impl_idx (c : UInt8) : Pw.Spec Tryz.prog 154 [eS signs, .lit (.int .u8 (c.toNat : Int))] (fun r => r = eI (sign c.toNat)) :=
  (strings_IndexByte_spec signs c).mono fun p hp => by rw [hp, idx_signs]
theorem nib2N : ∀ a : Nat, a < 16 → ∀ b : Nat, b < 16 → IntKind.u8.wrap (bits .or .i64 (IntKind.i64.wrap ((a : Int) * 2 ^ min (4 : Int).toNat IntKind.i64.bits)) (b : Int)) = ((16 * a + b : Nat) : Int) := by decide +kernel
theorem nib2 {l : List UInt8} {a b : Int} (ha : 0 ≤ a ∧ a ≤ 15) (hb : 0 ≤ b ∧ b ≤ 15) : l.map eb ++ [[PV.lit (.int .u8 (IntKind.u8.wrap (bits .or .i64 (IntKind.i64.wrap (a * 2 ^ min (4 : Int).toNat IntKind.i64.bits)) b)))]] = (l ++ [UInt8.ofNat (16 * a + b).toNat]).map eb := by
  obtain ⟨m, rfl⟩ : ∃ m : Nat, a = m := ⟨a.toNat, by omega⟩
  obtain ⟨n, rfl⟩ : ∃ m : Nat, b = m := ⟨b.toNat, by omega⟩
  rw [nib2N m (by omega) n (by omega), List.map_append]
  congr 1
  simp only [List.map_cons, List.map_nil, eb]
  congr 5
  rw [UInt8.toNat_ofNat', Nat.mod_eq_of_lt (by omega)]
  omega
theorem unhexL_even : ∀ (b l : List UInt8), unhexL b = some l → b.length = 2 * l.length
  | [], l, h => by simp [unhexL] at h; subst h; rfl
  | [_], l, h => by simp [unhexL] at h
  | x :: y :: r, l, h => by
    simp only [unhexL] at h
    split at h
    · cases h
    · split at h
      · rename_i l' hl
        cases h
        have := unhexL_even r l' hl
        simp; omega
      · cases h
theorem unhex_odd {s : ByteArray} (h : s.size % 2 ≠ 0) : unhex s = none := by
  cases hu : unhex s with
  | none => rfl
  | some l =>
    have := unhexL_even _ l hu
    have hsz : s.data.toList.length = s.size := by rw [Array.length_toList]; rfl
    omega
/- impl.Unhex -/
theorem impl_Unhex_spec (s : ByteArray) (hs : s.size ≤ 1099511627776) : Pw.Spec Tryz.prog 130 [eS s] (fun res_ => res_ = unhexR s) := by
  refine spec_of (n := 43) Tryz.call130 Tryz.func130 rfl rfl (by simp) rfl rfl fun W Z => ?_
  have hsz : s.data.toList.length = s.size := by rw [Array.length_toList]; rfl
  refine PW.seq ?_
  refine PW.region ?_
  refine PL.run 2 rfl ?_
  refine PL.nil ?_
  refine PW.seq ?_
  refine PW.seq ?_
  refine PW.region ?_
  refine PL.run 2 rfl ?_
  refine PL.val (OpV.rem rfl rfl rfl (by decide)) (wantV_ok rfl) rfl ?_
  refine PL.run 1 rfl ?_
  refine PL.nil ?_
  refine PW.cond rfl (fun h1 => ?_) (fun h1 => ?_)
  ·
    refine PW.seq ?_
    refine PW.region ?_
    refine PL.run 2 rfl ?_
    refine PL.nil ?_
    refine PW.ret ?_
    refine RetOk.of rfl (.tup (.cons (.leaf (.nil0 1)) (.cons (.leaf (.same _ rfl)) .nil))) (by simp) (by simp) ?_
    have : unhex s = none := unhex_odd (by simp only [Bool.not_eq_true', decide_eq_false_iff_not] at h1; rw [Int.tmod_eq_emod_of_nonneg (by omega)] at h1; omega)
    simp [unhexR, this, eBs]
  ·
    have heven : s.size % 2 = 0 := by
     simp only [Bool.not_eq_false', decide_eq_true_eq] at h1
     rw [Int.tmod_eq_emod_of_nonneg (by omega)] at h1
     omega
    clear h1
    refine PW.skip ?_
    refine PW.seq ?_
    refine PW.region ?_
    refine PL.run 2 rfl ?_
    refine PL.nil ?_
    refine PW.seq ?_
    refine PW.seq ?_
    refine PW.region ?_
    refine PL.run 1 rfl ?_
    refine PL.nil ?_
    refine PW.block ?_
    refine PW.loopAt (α := List UInt8) (fun l => ⟨[(4, .sl 1 (l.map eb) (some 12)), (0, eS s), (5, eI ((2 * l.length : Nat) : Int))], ⟨[], [(12, (1, (l.map eb).length))]⟩⟩) (fun l => unOk s.data.toList l) (fun l => s.size - 2 * l.length) [] (Le.row ⟨⟨rfl, rfl⟩, ⟨rfl, rfl⟩, trivial⟩ rfl rfl rfl) ⟨Nat.zero_le _, by simp; cases unhexL s.data.toList <;> rfl⟩ (fun l hl => ?_)
    refine PW.seq ?_
    refine PW.seq ?_
    refine PW.region ?_
    refine PL.run 4 rfl ?_
    refine PL.nil ?_
    refine PW.cond rfl (fun h2 => ?_) (fun h2 => ?_)
    ·
      have hlt : 2 * l.length + 1 < s.size := by
       have := hl.1
       have := of_decide_eq_true h2
       omega
      clear h2
      obtain ⟨x, hx⟩ : ∃ x, s.data.toList[2 * l.length]? = some x := ⟨_, List.getElem?_eq_getElem (by omega)⟩
      obtain ⟨y, hy⟩ : ∃ x, s.data.toList[2 * l.length + 1]? = some x := ⟨_, List.getElem?_eq_getElem (by omega)⟩
      have e1 : IntKind.i64.wrap (((2 * l.length : Nat) : Int) + 1) = ((2 * l.length + 1 : Nat) : Int) := by rw [wrap_id (by omega) (by omega)]; rfl
      refine PW.skip ?_
      refine PW.seq ?_
      refine PW.block ?_
      refine PW.seq ?_
      refine PW.drawn ((some 19, _) :: (some 20, _) :: (some 21, _) :: (some 22, _) :: (some 23, _) :: (some 24, _) :: (some 25, _) :: (some 26, _) :: (some 27, _) :: (some 6, _) :: (some 7, _) :: []) (0 :: 0 :: 3 :: 7 :: 0 :: 0 :: 32 :: 112 :: 255 :: 511 :: 1023 :: []) (fun _ => _) mixed rfl rfl rfl rfl rfl
        (.cons rfl (fun ρ => PL.run 1 rfl (PL.nil rfl)) <|
        .cons rfl (fun ρ => PL.run 1 rfl (PL.nil rfl)) <|
        .cons rfl (fun ρ => PL.val (OpV.idxS rfl rfl rfl (b := x) (nat_nonneg _) hx rfl rfl) (wantV_ok rfl) rfl (PL.nil rfl)) <|
        .cons rfl (fun ρ => PL.call rfl rfl rfl (impl_idx x) (.cons (.refl _) <| .cons (.refl _) <| .nil) (fun p hp => by subst hp; rfl) (wantV_ok rfl) rfl (fun p hp => by subst hp; exact PL.nil rfl)) <|
        .cons rfl (fun ρ => PL.run 1 rfl (PL.nil rfl)) <|
        .cons rfl (fun ρ => PL.run 1 rfl (PL.nil rfl)) <|
        .cons rfl (fun ρ => PL.run 1 rfl (PL.nil rfl)) <|
        .cons rfl (fun ρ => PL.val (OpV.idxS rfl rfl rfl (b := y) (by rw [e1]; exact nat_nonneg _) (by rw [e1]; exact hy) rfl rfl) (wantV_ok rfl) rfl (PL.nil rfl)) <|
        .cons rfl (fun ρ => PL.call rfl rfl rfl (impl_idx y) (.cons (.refl _) <| .cons (.refl _) <| .nil) (fun p hp => by subst hp; rfl) (wantV_ok rfl) rfl (fun p hp => by subst hp; exact PL.nil rfl)) <|
        .cons rfl (fun ρ => PL.run 1 rfl (PL.nil rfl)) <|
        .cons rfl (fun ρ => PL.run 1 rfl (PL.nil rfl)) <|
        .nil _) ?_
      refine PW.seq ?_
      refine PW.seq ?_
      refine PW.region ?_
      refine PL.run 3 rfl ?_
      refine PL.split (t := 30) rfl (fun h3 => ?_) (fun h3 => ?_)
      ·
        refine PL.run 3 rfl ?_
        refine PL.nil ?_
        refine PW.condT rfl ?_
        refine PW.seq ?_
        refine PW.region ?_
        refine PL.run 2 rfl ?_
        refine PL.nil ?_
        refine PW.ret ?_
        refine RetOk.of rfl (.tup (.cons (.leaf (.nil0 1)) (.cons (.leaf (.same _ rfl)) .nil))) (by simp) (by simp) ?_
        simp only [decide_eq_true_eq] at h3
        simp [unhexR, unhex, unOk_bad hl hx hy (.inl h3), eBs]
      ·
        refine PL.run 3 rfl ?_
        refine PL.nil ?_
        refine PW.cond rfl (fun h4 => ?_) (fun h4 => ?_)
        ·
          refine PW.seq ?_
          refine PW.region ?_
          refine PL.run 2 rfl ?_
          refine PL.nil ?_
          refine PW.ret ?_
          refine RetOk.of rfl (.tup (.cons (.leaf (.nil0 1)) (.cons (.leaf (.same _ rfl)) .nil))) (by simp) (by simp) ?_
          simp only [decide_eq_true_eq] at h4
          simp [unhexR, unhex, unOk_bad hl hx hy (.inr h4), eBs]
        ·
          refine PW.skip ?_
          refine PW.region ?_
          refine PL.run 2 rfl ?_
          refine PL.val (OpV.shl rfl rfl rfl (by decide)) (wantV_ok rfl) rfl ?_
          refine PL.run 4 rfl ?_
          refine PL.app rfl rfl rfl rfl rfl rfl rfl rfl rfl rfl (by simp <;> omega) (by simp <;> omega) (wantV_ok rfl) rfl ?_
          refine PL.run 1 rfl ?_
          refine PL.nil ?_
          refine PW.region ?_
          refine PL.run 3 rfl ?_
          refine PL.nil ?_
          simp only [decide_eq_false_iff_not] at h3 h4
          have g1 := sign_le x
          have g2 := sign_le y
          refine ⟨l ++ [UInt8.ofNat (16 * sign x.toNat + sign y.toNat).toNat], Le.row ⟨⟨rfl, rfl⟩, ⟨?_, rfl⟩, trivial⟩ rfl rfl (nib2 (by omega) (by omega)), unOk_step hl hx hy h3 h4, by simp; omega⟩
          refine Eq.trans (b := some (eI ((2 * l.length + 2 : Nat) : Int))) ?_ (by simp; omega)
          exact congrArg (fun n => some (PV.lit (.int .i64 n))) (by rw [wrap_id (by omega) (by omega)]; rfl)
    ·
      refine PW.exit ?_
      refine PW.seq ?_
      refine PW.region ?_
      refine PL.run 3 rfl ?_
      refine PL.nil ?_
      refine PW.ret ?_
      refine RetOk.of rfl (.tup (.cons (.leaf (.ro _ _ _)) (.cons (.leaf (.same _ rfl)) .nil))) (by simp) (by simp) ?_
      have hge : s.size ≤ 2 * l.length := by
       have := of_decide_eq_false h2
       omega
      have hfin := unOk_end hl (by omega)
      rw [if_pos (by have := hl.1; omega)] at hfin
      simp [unhexR, unhex, hfin, eBs]
/- impl.isRoute -/
theorem impl_isRoute_spec (s : ByteArray) (hs : s.size ≤ 1099511627776) : Pw.Spec Tryz.prog 99 [eS s] (fun res_ => res_ = eT (isRoute s)) := by
  refine spec_of (n := 16) Tryz.call99 Tryz.func99 rfl rfl (by simp) rfl rfl fun W Z => ?_
  have hsz : s.data.toList.length = s.size := by rw [Array.length_toList]; rfl
  refine PW.seq ?_
  refine PW.region ?_
  refine PL.run 1 rfl ?_
  refine PL.nil ?_
  refine PW.seq ?_
  refine PW.region ?_
  refine PL.run 1 rfl ?_
  refine PL.call rfl rfl rfl (impl_Unhex_spec s hs) (.cons (.refl _) <| .nil) (fun p hp => by subst hp; rfl) (wantV_ok rfl) rfl (fun p hp => ?_)
  subst hp
  refine PL.run 5 rfl ?_
  refine PL.nil ?_
  refine PW.seq ?_
  refine PW.region ?_
  refine PL.run 2 rfl ?_
  refine PL.split (t := 11) rfl (fun h1 => ?_) (fun h1 => ?_)
  ·
    refine PL.run 5 rfl ?_
    refine PL.nil ?_
    refine PW.ret ?_
    refine RetOk.free rfl rfl (congrArg eT ?_)
    rcases hu : unhex s with _ | l
    · simp_all [isRoute]
    · have := unhexL_even _ l hu
      simp_all [isRoute]
      try omega
  ·
    refine PL.run 5 rfl ?_
    refine PL.nil ?_
    refine PW.ret ?_
    refine RetOk.free rfl rfl (congrArg eT ?_)
    rcases hu : unhex s with _ | l
    · simp_all [isRoute]
    · have := unhexL_even _ l hu
      simp_all [isRoute]
      try omega
/- impl.ItemOk -/
theorem impl_ItemOk_spec (x : Item) (hs : x.route.size ≤ 1099511627776) : Pw.Spec Tryz.prog 96 [.agg (eItem x)] (fun res_ => res_ = eT (itemOk x)) := by
  refine spec_of (n := 22) Tryz.call96 Tryz.func96 rfl rfl (by simp) rfl rfl fun W Z => ?_
  refine PW.seq ?_
  refine PW.region ?_
  refine PL.run 2 rfl ?_
  refine PL.nil ?_
  refine PW.seq ?_
  refine PW.region ?_
  refine PL.run 2 rfl ?_
  refine PL.call rfl rfl rfl (impl_isRoute_spec x.route hs) (.cons (.refl _) <| .nil) (fun p hp => by subst hp; rfl) (wantV_ok rfl) rfl (fun p hp => ?_)
  subst hp
  refine PL.run 1 rfl ?_
  refine PL.split (t := 6) rfl (fun h1 => ?_) (fun h1 => ?_)
  ·
    refine PL.run 2 rfl ?_
    refine PL.call rfl rfl rfl (impl_in_spec x.topic 0 9) (.cons (.refl _) <| .cons (.refl _) <| .cons (.refl _) <| .nil) (fun p hp => by subst hp; rfl) (wantV_ok rfl) rfl (fun p hp => ?_)
    subst hp
    refine PL.run 2 rfl ?_
    refine PL.split (t := 11) rfl (fun h2 => ?_) (fun h2 => ?_)
    ·
      refine PL.run 2 rfl ?_
      refine PL.call rfl rfl rfl (impl_in_spec x.due 0 100000) (.cons (.refl _) <| .cons (.refl _) <| .cons (.refl _) <| .nil) (fun p hp => by subst hp; rfl) (wantV_ok rfl) rfl (fun p hp => ?_)
      subst hp
      refine PL.run 2 rfl ?_
      refine PL.split (t := 16) rfl (fun h3 => ?_) (fun h3 => ?_)
      ·
        refine PL.run 6 rfl ?_
        refine PL.nil ?_
        refine PW.ret ?_
        refine RetOk.free rfl rfl (congrArg eT ?_)
        simp_all [itemOk]
        try omega
      ·
        refine PL.run 6 rfl ?_
        refine PL.nil ?_
        refine PW.ret ?_
        refine RetOk.free rfl rfl (congrArg eT ?_)
        simp_all [itemOk]
        try omega
    ·
      refine PL.run 11 rfl ?_
      refine PL.nil ?_
      refine PW.ret ?_
      refine RetOk.free rfl rfl (congrArg eT ?_)
      simp_all [itemOk]
      try omega
  ·
    refine PL.run 16 rfl ?_
    refine PL.nil ?_
    refine PW.ret ?_
    refine RetOk.free rfl rfl (congrArg eT ?_)
    simp_all [itemOk]
    try omega
/- impl.Of -/
theorem impl_Of_spec (q : List Item) (r : ByteArray) (hq : q.length ≤ 1099511627776) : Pw.Spec Tryz.prog 120 [eItems q, eS r] (fun res_ => res_ = eI (ofN q r : Nat)) := by
  refine spec_of (n := 22) Tryz.call120 Tryz.func120 rfl rfl (by simp) rfl rfl fun W Z => ?_
  refine PW.seq ?_
  refine PW.region ?_
  refine PL.run 1 rfl ?_
  refine PL.nil ?_
  refine PW.seq ?_
  refine PW.region ?_
  refine PL.run 1 rfl ?_
  refine PL.nil ?_
  refine PW.seq ?_
  refine PW.seq ?_
  refine PW.region ?_
  refine PL.run 3 rfl ?_
  refine PL.nil ?_
  refine PW.block ?_
  refine PW.loopAt (α := Nat) (fun i => ⟨[(8, eItems q), (9, eI ((q.map eItem).length : Nat)), (1, eS r), (5, eI (ofN (q.take i) r : Nat)), (10, eI (i : Int))], PH.none⟩) (fun i => i ≤ q.length) (fun i => q.length - i) 0 Le.free (Nat.zero_le _) (fun i hi => ?_)
  refine PW.seq ?_
  refine PW.region ?_
  refine PL.run 1 rfl ?_
  refine PL.nil ?_
  refine PW.seq ?_
  refine PW.cond rfl (fun h1 => ?_) (fun h1 => ?_)
  ·
    have hlt : i < q.length := by simpa using h1
    obtain ⟨y, hy⟩ : ∃ y, q[i]? = some y := ⟨_, List.getElem?_eq_getElem hlt⟩
    have hb := ofN_le q r i
    refine PW.skip ?_
    refine PW.seq ?_
    refine PW.block ?_
    refine PW.seq ?_
    refine PW.region ?_
    refine PL.val (OpV.idx rfl rfl rfl (nat_nonneg i) (map_at' hy) rfl rfl rfl rfl) (wantV_ok rfl) rfl ?_
    refine PL.run 3 rfl ?_
    refine PL.nil ?_
    refine PW.seq ?_
    refine PW.region ?_
    refine PL.run 4 rfl ?_
    refine PL.nil ?_
    refine PW.cond rfl (fun h2 => ?_) (fun h2 => ?_)
    ·
      refine PW.region ?_
      refine PL.run 3 rfl ?_
      refine PL.nil ?_
      refine PW.region ?_
      refine PL.run 2 rfl ?_
      refine PL.nil ?_
      refine ⟨i + 1, Le.free ⟨⟨rfl, rfl⟩, ⟨rfl, rfl⟩, ⟨rfl, rfl⟩, ⟨?_, rfl⟩, ⟨inc_ok (by omega), rfl⟩, trivial⟩, hlt, by omega⟩
      have := ofN_step (r := r) hy (by omega)
      rw [h2] at this
      exact this
    ·
      refine PW.skip ?_
      refine PW.region ?_
      refine PL.run 2 rfl ?_
      refine PL.nil ?_
      refine ⟨i + 1, Le.free ⟨⟨rfl, rfl⟩, ⟨rfl, rfl⟩, ⟨rfl, rfl⟩, ⟨?_, rfl⟩, ⟨inc_ok (by omega), rfl⟩, trivial⟩, hlt, by omega⟩
      have := ofN_step (r := r) hy (by omega)
      rw [h2] at this
      refine Eq.trans ?_ this
      exact congrArg (fun n => some (PV.lit (.int .i64 n))) (by simp only [bit]; rw [wrap_id (by simp <;> omega) (by simp <;> omega)]; simp)
  ·
    have hge : q.length ≤ i := by simpa using h1
    refine PW.exit ?_
    refine PW.seq ?_
    refine PW.region ?_
    refine PL.run 2 rfl ?_
    refine PL.nil ?_
    refine PW.ret ?_
    refine RetOk.free rfl rfl ?_
    rw [List.take_of_length_le hge]
/- impl.noItem -/
theorem impl_noItem_spec (x : Item) : Pw.Spec Tryz.prog 97 [.agg (eItem x)] (fun res_ => res_ = eT (noItem x)) := by
  refine spec_of (n := 22) Tryz.call97 Tryz.func97 rfl rfl (by simp) rfl rfl fun W Z => ?_
  refine PW.seq ?_
  refine PW.region ?_
  refine PL.run 2 rfl ?_
  refine PL.nil ?_
  refine PW.seq ?_
  refine PW.region ?_
  refine PL.run 4 rfl ?_
  refine PL.split (t := 6) rfl (fun h1 => ?_) (fun h1 => ?_)
  ·
    refine PL.run 5 rfl ?_
    refine PL.split (t := 11) rfl (fun h2 => ?_) (fun h2 => ?_)
    ·
      refine PL.run 5 rfl ?_
      refine PL.split (t := 16) rfl (fun h3 => ?_) (fun h3 => ?_)
      ·
        refine PL.run 6 rfl ?_
        refine PL.nil ?_
        refine PW.ret ?_
        refine RetOk.free rfl rfl (congrArg eT ?_)
        try simp only [dlen0] at *
        simp_all [noItem, noText]
      ·
        refine PL.run 6 rfl ?_
        refine PL.nil ?_
        refine PW.ret ?_
        refine RetOk.free rfl rfl (congrArg eT ?_)
        try simp only [dlen0] at *
        simp_all [noItem, noText]
    ·
      refine PL.run 11 rfl ?_
      refine PL.nil ?_
      refine PW.ret ?_
      refine RetOk.free rfl rfl (congrArg eT ?_)
      try simp only [dlen0] at *
      simp_all [noItem, noText]
  ·
    refine PL.run 16 rfl ?_
    refine PL.nil ?_
    refine PW.ret ?_
    refine RetOk.free rfl rfl (congrArg eT ?_)
    try simp only [dlen0] at *
    simp_all [noItem, noText]
/- impl.keyOf -/
theorem impl_keyOf_spec (s : List UInt8) (n : Int) : Pw.Spec Tryz.prog 92 [eBs s, eI n] (fun res_ => res_ = eT (decide (s.length = 32) && inB n 0 40)) := by
  refine spec_of (n := 12) Tryz.call92 Tryz.func92 rfl rfl (by simp) rfl rfl fun W Z => ?_
  refine PW.seq ?_
  refine PW.region ?_
  refine PL.run 1 rfl ?_
  refine PL.nil ?_
  refine PW.seq ?_
  refine PW.region ?_
  refine PL.run 4 rfl ?_
  refine PL.split (t := 8) rfl (fun h1 => ?_) (fun h1 => ?_)
  ·
    refine PL.run 1 rfl ?_
    refine PL.call rfl rfl rfl (impl_in_spec n 0 40) (.cons (.refl _) <| .cons (.refl _) <| .cons (.refl _) <| .nil) (fun p hp => by subst hp; rfl) (wantV_ok rfl) rfl (fun p hp => ?_)
    subst hp
    refine PL.run 2 rfl ?_
    refine PL.nil ?_
    refine PW.ret ?_
    refine RetOk.free rfl rfl (congrArg eT ?_)
    have : s.length = 32 := by simp at h1; omega
    simp [this]
  ·
    refine PL.run 4 rfl ?_
    refine PL.nil ?_
    refine PW.ret ?_
    refine RetOk.free rfl rfl (congrArg eT ?_)
    have : ¬ s.length = 32 := by simp at h1; omega
    simp [this]
/- bytes.Equal -/
theorem bytes_Equal_spec (a b : List UInt8) : Pw.Spec Tryz.prog 110 [eBs a, eBs b] (fun res_ => res_ = eT (decide (a = b))) := by
  refine spec_of (n := 10) Tryz.call110 Tryz.func110 rfl rfl (by simp) rfl rfl fun W Z => ?_
  refine PW.seq ?_
  refine PW.region ?_
  refine PL.run 1 rfl ?_
  refine PL.nil ?_
  refine PW.seq ?_
  refine PW.region ?_
  refine PL.run 1 rfl ?_
  refine PL.val (OpV.toStr a rfl rfl rfl rfl rfl rfl rfl rfl rfl) (wantV_ok rfl) rfl ?_
  refine PL.run 1 rfl ?_
  refine PL.val (OpV.toStr b rfl rfl rfl rfl rfl rfl rfl rfl rfl) (wantV_ok rfl) rfl ?_
  refine PL.run 2 rfl ?_
  refine PL.nil ?_
  refine PW.ret ?_
  refine RetOk.free rfl rfl ?_
  simp [strOf_inj]
/- impl.Same -/
theorem impl_Same_spec (a b : List UInt8) : Pw.Spec Tryz.prog 71 [eBs a, eBs b] (fun res_ => res_ = eT (decide (a = b))) := by
  refine spec_of (n := 8) Tryz.call71 Tryz.func71 rfl rfl (by simp) rfl rfl fun W Z => ?_
  refine PW.seq ?_
  refine PW.region ?_
  refine PL.run 1 rfl ?_
  refine PL.nil ?_
  refine PW.seq ?_
  refine PW.region ?_
  refine PL.run 2 rfl ?_
  refine PL.call rfl rfl rfl (bytes_Equal_spec a b) (.cons (.refl _) <| .cons (.refl _) <| .nil) (fun p hp => by subst hp; rfl) (wantV_ok rfl) rfl (fun p hp => ?_)
  subst hp
  refine PL.run 1 rfl ?_
  refine PL.nil ?_
  refine PW.ret ?_
  refine RetOk.free rfl rfl rfl
/- slices.Clone[[]byte,byte] -/
theorem slices_Clone__byte_byte_spec (l : List UInt8) (h : l.length ≤ 16777216) : Pw.Spec Tryz.prog 58 [eBs l] (fun res_ => res_ = eBs l) := by
  refine spec_of (n := 8) Tryz.call58 Tryz.func58 rfl rfl (by simp) rfl rfl fun W Z => ?_
  refine PW.seq ?_
  refine PW.region ?_
  refine PL.run 1 rfl ?_
  refine PL.nil ?_
  refine PW.seq ?_
  refine PW.seq ?_
  refine PW.region ?_
  refine PL.run 1 rfl ?_
  refine PL.isNil rfl rfl rfl rfl rfl (wantV_ok rfl) rfl (fun b1 hb1 => ?_)
  refine PL.nil ?_
  refine PW.cond rfl (fun h1 => ?_) (fun h1 => ?_)
  ·
    refine PW.seq ?_
    refine PW.region ?_
    refine PL.run 1 rfl ?_
    refine PL.nil ?_
    refine PW.ret ?_
    refine RetOk.of rfl (.one (.leaf (.nil0 1))) (by simp) (by simp) ?_
    have := hb1 h1
    simp at this
    subst this; rfl
  ·
    refine PW.skip ?_
    refine PW.seq ?_
    refine PW.region ?_
    refine PL.run 2 rfl ?_
    refine PL.app rfl rfl rfl rfl rfl rfl rfl rfl rfl rfl (by simp <;> omega) (by simp <;> omega) (wantV_ok rfl) rfl ?_
    refine PL.run 1 rfl ?_
    refine PL.nil ?_
    refine PW.ret ?_
    refine RetOk.of rfl (.one (.leaf (.ro _ _ _))) (by simp) (by simp) rfl
/- impl.cloneItem -/
theorem impl_cloneItem_spec (x : Item) (h : x.bytes.length ≤ 16777216) : Pw.Spec Tryz.prog 150 [.agg (eItem x)] (fun res_ => res_ = .agg (eItem x)) := by
  refine spec_of (n := 8) Tryz.call150 Tryz.func150 rfl rfl (by simp) rfl rfl fun W Z => ?_
  refine PW.seq ?_
  refine PW.region ?_
  refine PL.run 2 rfl ?_
  refine PL.nil ?_
  refine PW.seq ?_
  refine PW.region ?_
  refine PL.run 2 rfl ?_
  refine PL.call rfl rfl rfl (slices_Clone__byte_byte_spec x.bytes h) (.cons (.refl _) <| .nil) (fun p hp => by subst hp; rfl) (wantV_ok rfl) rfl (fun p hp => ?_)
  subst hp
  refine PL.run 2 rfl ?_
  refine PL.nil ?_
  refine PW.seq ?_
  refine PW.region ?_
  refine PL.run 2 rfl ?_
  refine PL.nil ?_
  refine PW.ret ?_
  refine RetOk.free rfl rfl rfl
/- impl.itemOf -/
theorem impl_itemOf_spec (l : Line) (h : l.bytes.length ≤ 16777216) : Pw.Spec Tryz.prog 124 [.agg (eLine l)] (fun res_ => res_ = .agg (eItem (itemOf l))) := by
  refine spec_of (n := 13) Tryz.call124 Tryz.func124 rfl rfl (by simp) rfl rfl fun W Z => ?_
  refine PW.seq ?_
  refine PW.region ?_
  refine PL.run 2 rfl ?_
  refine PL.nil ?_
  refine PW.seq ?_
  refine PW.drawn ((some 3, _) :: (some 4, _) :: (some 5, _) :: (some 6, _) :: (some 7, _) :: (some 8, _) :: (some 9, _) :: (some 10, _) :: (some 11, _) :: (some 12, _) :: (none, .junk) :: []) (0 :: 1 :: 0 :: 4 :: 0 :: 16 :: 0 :: 64 :: 192 :: 511 :: 1023 :: []) (phs [(10, _)] _ [] _) mixed rfl rfl rfl rfl rfl
    (.cons rfl (fun ρ => PL.run 1 rfl (PL.nil rfl)) <|
    .cons rfl (fun ρ => PL.run 1 rfl (PL.nil rfl)) <|
    .cons rfl (fun ρ => PL.run 1 rfl (PL.nil rfl)) <|
    .cons rfl (fun ρ => PL.run 1 rfl (PL.nil rfl)) <|
    .cons rfl (fun ρ => PL.run 1 rfl (PL.nil rfl)) <|
    .cons rfl (fun ρ => PL.run 1 rfl (PL.nil rfl)) <|
    .cons rfl (fun ρ => PL.run 1 rfl (PL.nil rfl)) <|
    .cons rfl (fun ρ => PL.run 1 rfl (PL.nil rfl)) <|
    .cons rfl (fun ρ => PL.call rfl rfl rfl (slices_Clone__byte_byte_spec l.bytes h) (.cons (.refl _) <| .nil) (fun p hp => by subst hp; rfl) (wantV_ok rfl) rfl (fun p hp => by subst hp; exact PL.nil rfl)) <|
    .cons rfl (fun ρ => PL.val (OpV.build rfl rfl rfl rfl rfl rfl) (wantV_ok rfl) rfl (PL.nil rfl)) <|
    .cons rfl (fun ρ => PL.run 1 rfl (PL.nil rfl)) <|
    .nil _) ?_
  refine PW.ret ?_
  refine RetOk.free rfl rfl rfl
/- impl.LineOk -/
theorem impl_LineOk_spec (l : Line) (h : l.bytes.length ≤ 16777216) (hs : l.route.size ≤ 1099511627776) : Pw.Spec Tryz.prog 162 [.agg (eLine l)] (fun res_ => res_ = eT (lineOk l)) := by
  refine spec_of (n := 52) Tryz.call162 Tryz.func162 rfl rfl (by simp) rfl rfl fun W Z => ?_
  refine PW.seq ?_
  refine PW.region ?_
  refine PL.run 2 rfl ?_
  refine PL.nil ?_
  refine PW.seq ?_
  refine PW.seq ?_
  refine PW.region ?_
  refine PL.run 2 rfl ?_
  refine PL.nil ?_
  refine PW.block ?_
  refine PW.seq ?_
  refine PW.region ?_
  refine PL.run 2 rfl ?_
  refine PL.nil ?_
  refine PW.cond rfl (fun h1 => ?_) (fun h1 => ?_)
  ·
    refine PW.seq ?_
    refine PW.region ?_
    refine PL.run 1 rfl ?_
    refine PL.call rfl rfl rfl (impl_itemOf_spec l h) (.cons (.refl _) <| .nil) (fun p hp => by subst hp; rfl) (wantV_ok rfl) rfl (fun p hp => ?_)
    subst hp
    refine PL.call rfl rfl rfl (impl_ItemOk_spec (itemOf l) hs) (.cons (.refl _) <| .nil) (fun p hp => by subst hp; rfl) (wantV_ok rfl) rfl (fun p hp => ?_)
    subst hp
    refine PL.run 1 rfl ?_
    refine PL.nil ?_
    refine PW.ret ?_
    refine RetOk.free rfl rfl (congrArg eT ?_)
    try simp only [dlen0] at *
    simp_all [lineOk, noText]
  ·
    refine PW.seq ?_
    refine PW.region ?_
    refine PL.run 2 rfl ?_
    refine PL.nil ?_
    refine PW.cond rfl (fun h2 => ?_) (fun h2 => ?_)
    ·
      refine PW.seq ?_
      refine PW.region ?_
      refine PL.run 2 rfl ?_
      refine PL.call rfl rfl rfl (impl_isRoute_spec l.route hs) (.cons (.refl _) <| .nil) (fun p hp => by subst hp; rfl) (wantV_ok rfl) rfl (fun p hp => ?_)
      subst hp
      refine PL.run 1 rfl ?_
      refine PL.split (t := 15) rfl (fun h3 => ?_) (fun h3 => ?_)
      ·
        refine PL.run 5 rfl ?_
        refine PL.split (t := 20) rfl (fun h4 => ?_) (fun h4 => ?_)
        ·
          refine PL.run 5 rfl ?_
          refine PL.split (t := 25) rfl (fun h5 => ?_) (fun h5 => ?_)
          ·
            refine PL.run 6 rfl ?_
            refine PL.nil ?_
            refine PW.ret ?_
            refine RetOk.free rfl rfl (congrArg eT ?_)
            try simp only [dlen0] at *
            simp_all [lineOk, noText]
          ·
            refine PL.run 6 rfl ?_
            refine PL.nil ?_
            refine PW.ret ?_
            refine RetOk.free rfl rfl (congrArg eT ?_)
            try simp only [dlen0] at *
            simp_all [lineOk, noText]
        ·
          refine PL.run 11 rfl ?_
          refine PL.nil ?_
          refine PW.ret ?_
          refine RetOk.free rfl rfl (congrArg eT ?_)
          try simp only [dlen0] at *
          simp_all [lineOk, noText]
      ·
        refine PL.run 16 rfl ?_
        refine PL.nil ?_
        refine PW.ret ?_
        refine RetOk.free rfl rfl (congrArg eT ?_)
        try simp only [dlen0] at *
        simp_all [lineOk, noText]
    ·
      refine PW.seq ?_
      refine PW.region ?_
      refine PL.run 2 rfl ?_
      refine PL.nil ?_
      refine PW.cond rfl (fun h6 => ?_) (fun h6 => ?_)
      ·
        refine PW.seq ?_
        refine PW.region ?_
        refine PL.run 2 rfl ?_
        refine PL.call rfl rfl rfl (impl_in_spec l.due 0 100000) (.cons (.refl _) <| .cons (.refl _) <| .cons (.refl _) <| .nil) (fun p hp => by subst hp; rfl) (wantV_ok rfl) rfl (fun p hp => ?_)
        subst hp
        refine PL.run 1 rfl ?_
        refine PL.split (t := 36) rfl (fun h7 => ?_) (fun h7 => ?_)
        ·
          refine PL.run 5 rfl ?_
          refine PL.split (t := 41) rfl (fun h8 => ?_) (fun h8 => ?_)
          ·
            refine PL.run 5 rfl ?_
            refine PL.split (t := 46) rfl (fun h9 => ?_) (fun h9 => ?_)
            ·
              refine PL.run 6 rfl ?_
              refine PL.nil ?_
              refine PW.ret ?_
              refine RetOk.free rfl rfl (congrArg eT ?_)
              try simp only [dlen0] at *
              simp_all [lineOk, noText]
            ·
              refine PL.run 6 rfl ?_
              refine PL.nil ?_
              refine PW.ret ?_
              refine RetOk.free rfl rfl (congrArg eT ?_)
              try simp only [dlen0] at *
              simp_all [lineOk, noText]
          ·
            refine PL.run 11 rfl ?_
            refine PL.nil ?_
            refine PW.ret ?_
            refine RetOk.free rfl rfl (congrArg eT ?_)
            try simp only [dlen0] at *
            simp_all [lineOk, noText]
        ·
          refine PL.run 16 rfl ?_
          refine PL.nil ?_
          refine PW.ret ?_
          refine RetOk.free rfl rfl (congrArg eT ?_)
          try simp only [dlen0] at *
          simp_all [lineOk, noText]
      ·
        refine PW.skip ?_
        refine PW.seq ?_
        refine PW.region ?_
        refine PL.run 1 rfl ?_
        refine PL.nil ?_
        refine PW.ret ?_
        refine RetOk.free rfl rfl (congrArg eT ?_)
        try simp only [dlen0] at *
        simp_all [lineOk, noText]
end Go.Wl
set_option linter.unusedVariables false
set_option linter.unusedSimpArgs false
set_option maxRecDepth 100000
set_option maxHeartbeats 8000000
namespace Go.Wl
open Go Go.RowKit Go.Pw Go.Proofs
/- impl.Hex -/
theorem impl_Hex_spec (l : List UInt8) (hl : l.length ≤ 1099511627776) : Pw.Spec Tryz.prog 144 [eBs l] (fun res_ => res_ = eS (hex l)) := by
  refine spec_of (n := 25) Tryz.call144 Tryz.func144 rfl rfl (by simp) rfl rfl fun W Z => ?_
  refine PW.seq ?_
  refine PW.region ?_
  refine PL.run 1 rfl ?_
  refine PL.nil ?_
  refine PW.seq ?_
  refine PW.region ?_
  refine PL.run 2 rfl ?_
  refine PL.nil ?_
  refine PW.seq ?_
  refine PW.seq ?_
  refine PW.region ?_
  refine PL.run 3 rfl ?_
  refine PL.nil ?_
  refine PW.block ?_
  refine PW.loopAt (α := Nat) (fun i => ⟨[(3, .sl 1 ((hexL (l.take i)).map eb) (some 6)), (7, eBs l), (8, eI ((l.map eb).length : Nat)), (9, eI (i : Int))], ⟨[], [(6, (1, ((hexL (l.take i)).map eb).length))]⟩⟩) (fun i => i ≤ l.length) (fun i => l.length - i) 0 (Le.row ⟨⟨rfl, rfl⟩, ⟨rfl, rfl⟩, ⟨rfl, rfl⟩, trivial⟩ rfl rfl rfl) (Nat.zero_le _) (fun i hi => ?_)
  refine PW.seq ?_
  refine PW.region ?_
  refine PL.run 1 rfl ?_
  refine PL.nil ?_
  refine PW.seq ?_
  refine PW.cond rfl (fun h1 => ?_) (fun h1 => ?_)
  ·
    have hlt : i < l.length := by simpa using h1
    clear h1
    obtain ⟨x, hx⟩ : ∃ y, l[i]? = some y := ⟨_, List.getElem?_eq_getElem hlt⟩
    have hn := hexL_len (l.take i)
    rw [List.length_take] at hn
    refine PW.skip ?_
    refine PW.seq ?_
    refine PW.block ?_
    refine PW.seq ?_
    refine PW.region ?_
    refine PL.val (OpV.idx rfl rfl rfl (nat_nonneg i) (map_at' hx) rfl rfl rfl rfl) (wantV_ok rfl) rfl ?_
    refine PL.run 2 rfl ?_
    refine PL.nil ?_
    refine PW.drawn ((some 13, _) :: (some 14, _) :: (some 15, _) :: (some 16, _) :: (some 17, _) :: (some 18, _) :: (some 19, _) :: (some 20, _) :: (some 21, _) :: (some 3, _) :: []) (0 :: 0 :: 2 :: 6 :: 0 :: 16 :: 48 :: 126 :: 255 :: 511 :: []) (phs [] _ [(8, _), (7, _)] _) mixed rfl rfl rfl rfl rfl
      (.cons rfl (fun ρ => PL.run 1 rfl (PL.nil rfl)) <|
      .cons rfl (fun ρ => PL.run 1 rfl (PL.nil rfl)) <|
      .cons rfl (fun ρ => PL.val (OpV.shr rfl rfl rfl (by decide)) (wantV_ok rfl) rfl (PL.nil rfl)) <|
      .cons rfl (fun ρ => PL.val (OpV.idxS rfl rfl rfl (b := hexC (x.toNat / 16)) (Int.ediv_nonneg (nat_nonneg _) (by decide)) (hi_at x) rfl rfl) (wantV_ok rfl) rfl (PL.nil rfl)) <|
      .cons rfl (fun ρ => PL.run 1 rfl (PL.nil rfl)) <|
      .cons rfl (fun ρ => PL.run 1 rfl (PL.nil rfl)) <|
      .cons rfl (fun ρ => PL.val (OpV.idxS rfl rfl rfl (b := hexC (x.toNat % 16)) (by rw [and15 _ x.toNat_lt]; exact nat_nonneg _) (lo_at x) rfl rfl) (wantV_ok rfl) rfl (PL.nil rfl)) <|
      .cons rfl (fun ρ => PL.run 1 rfl (PL.nil rfl)) <|
      .cons rfl (fun ρ => PL.app rfl rfl rfl rfl rfl rfl rfl rfl rfl rfl (by simp <;> omega) (by simp <;> omega) (wantV_ok rfl) rfl (PL.nil rfl)) <|
      .cons rfl (fun ρ => PL.run 1 rfl (PL.nil rfl)) <|
      .nil _) ?_
    refine PW.region ?_
    refine PL.run 2 rfl ?_
    refine PL.nil ?_
    exact ⟨i + 1, Le.row ⟨⟨rfl, rfl⟩, ⟨rfl, rfl⟩, ⟨inc_ok (by omega), rfl⟩, trivial⟩ rfl rfl (hexL_step hx), hlt, by omega⟩
  ·
    have hge : l.length ≤ i := by simpa using h1
    refine PW.exit ?_
    refine PW.seq ?_
    refine PW.region ?_
    refine PL.run 1 rfl ?_
    refine PL.val (OpV.toStr (hexL (l.take i)) rfl rfl rfl rfl rfl rfl rfl rfl rfl) (wantV_ok rfl) rfl ?_
    refine PL.run 1 rfl ?_
    refine PL.nil ?_
    refine PW.ret ?_
    refine RetOk.free rfl rfl ?_
    rw [List.take_of_length_le hge]; rfl
theorem u8_mod (n : Nat) : IntKind.u8.wrap (n : Int) = ((n % 256 : Nat) : Int) := by
  have hb : IntKind.u8.bits = 8 := rfl
  have hs : IntKind.u8.signed = false := rfl
  simp [IntKind.wrap, hb, hs]
theorem little_es2 (n : Nat) (i : Nat) : (littleL n i).map eb ++ [[PV.lit (.int .u8 (IntKind.u8.wrap ((n / 256 ^ i : Nat) : Int)))]] = (littleL n (i + 1)).map eb := by
  rw [u8_mod]
  simp only [littleL, List.map_append, List.map_cons, List.map_nil, eb]
  congr 5
  rw [UInt8.toNat_ofNat', show (2 : Nat) ^ 8 = 256 from rfl, Nat.mod_mod]
/- impl.Little -/
theorem impl_Little_spec (n many : Int) : Pw.Spec Tryz.prog 158 [eI n, eI many] (fun res_ => res_ = eBs (little n many)) := by
  refine spec_of (n := 26) Tryz.call158 Tryz.func158 rfl rfl (by simp) rfl rfl fun W Z => ?_
  refine PW.seq ?_
  refine PW.region ?_
  refine PL.run 1 rfl ?_
  refine PL.nil ?_
  refine PW.seq ?_
  refine PW.seq ?_
  refine PW.region ?_
  refine PL.run 3 rfl ?_
  refine PL.split (t := 8) rfl (fun h1 => ?_) (fun h1 => ?_)
  ·
    refine PL.run 4 rfl ?_
    refine PL.nil ?_
    refine PW.condT rfl ?_
    refine PW.seq ?_
    refine PW.region ?_
    refine PL.run 1 rfl ?_
    refine PL.nil ?_
    refine PW.ret ?_
    refine RetOk.of rfl (.one (.leaf (.nil0 1))) (by simp) (by simp) ?_
    have : n < 0 := by simpa using h1
    simp [little, this, eBs]
  ·
    refine PL.run 1 rfl ?_
    refine PL.call rfl rfl rfl (impl_in_spec many 1 8) (.cons (.refl _) <| .cons (.refl _) <| .cons (.refl _) <| .nil) (fun p hp => by subst hp; rfl) (wantV_ok rfl) rfl (fun p hp => ?_)
    subst hp
    refine PL.run 2 rfl ?_
    refine PL.nil ?_
    refine PW.cond rfl (fun h2 => ?_) (fun h2 => ?_)
    ·
      refine PW.seq ?_
      refine PW.region ?_
      refine PL.run 1 rfl ?_
      refine PL.nil ?_
      refine PW.ret ?_
      refine RetOk.of rfl (.one (.leaf (.nil0 1))) (by simp) (by simp) ?_
      have : n < 0 ∨ many < 1 ∨ 8 < many := by simp [inB] at h2; omega
      simp [little, this, eBs]
    ·
      have h0 : 0 ≤ n := by simpa using h1
      have hm : 1 ≤ many ∧ many ≤ 8 := by simp [inB] at h2; omega
      clear h1 h2
      refine PW.skip ?_
      refine PW.seq ?_
      refine PW.region ?_
      refine PL.run 2 rfl ?_
      refine PL.nil ?_
      refine PW.seq ?_
      refine PW.seq ?_
      refine PW.region ?_
      refine PL.run 2 rfl ?_
      refine PL.nil ?_
      refine PW.block ?_
      refine PW.loopAt (α := Nat) (fun i => ⟨[(5, .sl 1 ((littleL n.toNat i).map eb) (some 13)), (0, eI ((n.toNat / 256 ^ i : Nat) : Int)), (14, eI many), (15, eI (i : Int))], ⟨[], [(13, (1, ((littleL n.toNat i).map eb).length))]⟩⟩) (fun i => i ≤ many.toNat) (fun i => many.toNat - i) 0 (Le.row ⟨⟨congrArg (fun n => some (eI n)) (by simp; omega), rfl⟩, ⟨rfl, rfl⟩, ⟨rfl, rfl⟩, trivial⟩ rfl rfl rfl) (Nat.zero_le _) (fun i hi => ?_)
      refine PW.seq ?_
      refine PW.region ?_
      refine PL.run 1 rfl ?_
      refine PL.nil ?_
      refine PW.seq ?_
      refine PW.cond rfl (fun h3 => ?_) (fun h3 => ?_)
      ·
        have hlt : (i : Int) < many := by simpa using h3
        have hl := littleL_len n.toNat i
        refine PW.skip ?_
        refine PW.seq ?_
        refine PW.block ?_
        refine PW.seq ?_
        refine PW.region ?_
        refine PL.run 4 rfl ?_
        refine PL.app rfl rfl rfl rfl rfl rfl rfl rfl rfl rfl (by simp <;> omega) (by simp <;> omega) (wantV_ok rfl) rfl ?_
        refine PL.run 1 rfl ?_
        refine PL.nil ?_
        refine PW.region ?_
        refine PL.run 1 rfl ?_
        refine PL.val (OpV.shr rfl rfl rfl (by decide)) (wantV_ok rfl) rfl ?_
        refine PL.run 1 rfl ?_
        refine PL.nil ?_
        refine PW.region ?_
        refine PL.run 2 rfl ?_
        refine PL.nil ?_
        exact ⟨i + 1, Le.row ⟨⟨little_sh i, rfl⟩, ⟨rfl, rfl⟩, ⟨inc_ok (by omega), rfl⟩, trivial⟩ rfl rfl (little_es2 _ i), by omega, by omega⟩
      ·
        have hge : many ≤ (i : Int) := by simpa using h3
        refine PW.exit ?_
        refine PW.seq ?_
        refine PW.region ?_
        refine PL.run 2 rfl ?_
        refine PL.nil ?_
        refine PW.ret ?_
        refine RetOk.of rfl (.one (.leaf (.ro _ _ _))) (by simp) (by simp) ?_
        have e : ¬ (n < 0 ∨ many < 1 ∨ 8 < many) := by omega
        have e2 : i = many.toNat := by omega
        rw [little, if_neg e, e2]; rfl
def z8 : PV := .lit (.int .u8 0)
def turnC (l : List UInt8) (i : Nat) : List PV := List.replicate (l.length - i) z8 ++ ((l.take i).reverse.map eb).flatten
theorem eb_len (l : List UInt8) : (l.map eb).flatten.length = l.length := by
  rw [flat_len (sz := 1) (fun e he => by obtain ⟨b, _, rfl⟩ := List.mem_map.1 he; rfl)]; simp
theorem eb_free (l : List UInt8) : freeL (l.map eb).flatten = true := freeL_iff.2 fun p hp => by
  obtain ⟨e, he, hp⟩ := List.mem_flatten.1 hp
  obtain ⟨b, _, rfl⟩ := List.mem_map.1 he
  rw [List.mem_singleton.1 hp]; rfl
theorem turnC_free (l : List UInt8) (i : Nat) : freeL (turnC l i) = true := by
  rw [turnC, freeL_append, eb_free, Bool.and_true]
  exact freeL_iff.2 fun p hp => by rw [List.eq_of_mem_replicate hp]; rfl
theorem turnC_len {l : List UInt8} {i : Nat} (h : i ≤ l.length) : (turnC l i).length = l.length := by
  rw [turnC, List.length_append, eb_len, List.length_reverse, List.length_take, List.length_replicate]; omega
theorem turnC_step {l : List UInt8} {i off : Nat} {x : UInt8} (hx : l[i]? = some x) (ho : off = l.length - 1 - i) : writeC (turnC l i) off (eb x) = turnC l (i + 1) := by
  have h := (List.getElem?_eq_some_iff.1 hx).1
  subst ho
  have e1 : List.replicate (l.length - i) z8 = List.replicate (l.length - 1 - i) z8 ++ [z8] := by
    rw [← List.replicate_succ']; congr 1; omega
  rw [turnC, e1, List.append_assoc, writeC_mid (by simp) (by rfl), turnC, take_step hx]
  rw [show l.length - (i + 1) = l.length - 1 - i by omega]
  simp [eb]
theorem zrow_z8 (j : TI) (n m : Nat) (hj : j.zero.cells.toList.map PV.lit = [z8]) (hm : n = m) : zrow j n = List.replicate m z8 := by
  subst hm
  rw [zrow, hj]
  induction n with
  | zero => rfl
  | succ n ih => rw [List.replicate_succ, List.flatten_cons, ih, List.replicate_succ]; rfl
/- impl.turned -/
theorem impl_turned_spec (l : List UInt8) (hl : l.length ≤ 16777216) : Pw.Spec Tryz.prog 157 [eBs l] (fun res_ => res_ = eBs l.reverse) := by
  refine spec_of (n := 26) Tryz.call157 Tryz.func157 rfl rfl (by simp) rfl rfl fun W Z => ?_
  have hll : (l.map eb).length = l.length := List.length_map ..
  refine PW.seq ?_
  refine PW.region ?_
  refine PL.run 1 rfl ?_
  refine PL.nil ?_
  refine PW.seq ?_
  refine PW.region ?_
  refine PL.run 2 rfl ?_
  refine PL.make rfl rfl rfl rfl rfl rfl rfl rfl rfl (by simp <;> omega) (by simp <;> omega) rfl (wantV_ok rfl) rfl ?_
  refine PL.run 1 rfl ?_
  refine PL.nil ?_
  refine PW.seq ?_
  refine PW.seq ?_
  refine PW.region ?_
  refine PL.run 3 rfl ?_
  refine PL.nil ?_
  refine PW.block ?_
  refine PW.loopAt (α := Nat) (fun i => ⟨[(3, .bs 8 0 (l.map eb).length (l.map eb).length), (0, eBs l), (9, eBs l), (10, eI ((l.map eb).length : Nat)), (11, eI (i : Int))], ⟨[(8, (5, turnC l i))], []⟩⟩) (fun i => i ≤ l.length) (fun i => l.length - i) 0 (Le.boxes ⟨⟨congrArg (fun c => some (_, c)) (by rw [zrow_z8 _ _ l.length rfl hll]; simp [turnC]), turnC_free l 0⟩, trivial⟩ ⟨⟨rfl, rfl⟩, ⟨rfl, rfl⟩, ⟨rfl, rfl⟩, ⟨rfl, rfl⟩, ⟨rfl, rfl⟩, trivial⟩) (Nat.zero_le _) (fun i hi => ?_)
  refine PW.seq ?_
  refine PW.region ?_
  refine PL.run 1 rfl ?_
  refine PL.nil ?_
  refine PW.seq ?_
  refine PW.cond rfl (fun h1 => ?_) (fun h1 => ?_)
  ·
    have hlt : i < l.length := by simpa using h1
    clear h1
    obtain ⟨x, hx⟩ : ∃ y, l[i]? = some y := ⟨_, List.getElem?_eq_getElem hlt⟩
    have e1 : Eqq (IntKind.i64.wrap (IntKind.i64.wrap (((l.map eb).length : Nat) - 1 : Int) - (i : Int))) ((l.length - 1 - i : Nat) : Int) := ⟨by rw [hll, wrap_id (x := ((l.length : Nat) : Int) - 1) (by omega) (by omega), wrap_id (by omega) (by omega)]; omega⟩
    have hoff : 0 + (IntKind.i64.wrap (IntKind.i64.wrap (((l.map eb).length : Nat) - 1 : Int) - (i : Int))).toNat * 1 = l.length - 1 - i := by rw [e1.h, Int.toNat_natCast]; omega
    have hup : some (PV.lit (.int .i64 (IntKind.i64.wrap ((i : Int) + 1)))) = some (PV.lit (.int .i64 ((i + 1 : Nat) : Int))) := inc_ok (by omega)
    refine PW.skip ?_
    refine PW.seq ?_
    refine PW.block ?_
    refine PW.seq ?_
    refine PW.region ?_
    refine PL.run 1 rfl ?_
    refine PL.val (OpV.idx rfl rfl rfl (nat_nonneg i) (map_at' hx) rfl rfl rfl rfl) (wantV_ok rfl) rfl ?_
    refine PL.run 3 rfl ?_
    refine PL.nil ?_
    refine PW.region ?_
    refine PL.run 7 rfl ?_
    refine PL.val (OpV.idxB rfl rfl rfl (idx0 e1) (by rw [e1.h, Int.toNat_natCast, hll]; omega) rfl rfl rfl) (wantV_ok rfl) rfl ?_
    refine PL.store rfl rfl rfl rfl rfl rfl rfl (by rw [turnC_len (Nat.le_of_lt hlt)]; show 0 + (IntKind.i64.wrap (IntKind.i64.wrap (((l.map eb).length : Nat) - 1 : Int) - (i : Int))).toNat * 1 + 1 ≤ l.length; omega) rfl (wantV_ok rfl) ?_
    refine PL.nil ?_
    refine PW.region ?_
    refine PL.run 2 rfl ?_
    refine PL.nil ?_
    refine ⟨i + 1, Le.boxes ⟨⟨congrArg (fun c => some (_, c)) (turnC_step hx hoff), turnC_free l (i + 1)⟩, trivial⟩ ⟨⟨rfl, rfl⟩, ⟨rfl, rfl⟩, ⟨rfl, rfl⟩, ⟨rfl, rfl⟩, ⟨hup, rfl⟩, trivial⟩, hlt, by omega⟩
  ·
    have hge : i = l.length := Nat.le_antisymm hi (by simpa using h1)
    refine PW.exit ?_
    refine PW.seq ?_
    refine PW.region ?_
    refine PL.run 2 rfl ?_
    refine PL.nil ?_
    refine PW.le (Le.freezeS (tv := 2) (sz := 1) (es := l.reverse.map eb) (r := []) (e := []) rfl rfl (turnC_free l i) (by subst hge; simp [turnC]) (by simp) (by simp [eb]) (Nat.le_refl _)) ?_
    refine PW.ret ?_
    refine RetOk.free rfl rfl rfl
/- impl.Great -/
theorem impl_Great_spec (n many : Int) : Pw.Spec Tryz.prog 134 [eI n, eI many] (fun res_ => res_ = eBs (great n many)) := by
  refine spec_of (n := 9) Tryz.call134 Tryz.func134 rfl rfl (by simp) rfl rfl fun W Z => ?_
  have hlen := little_len n many
  refine PW.seq ?_
  refine PW.region ?_
  refine PL.run 1 rfl ?_
  refine PL.nil ?_
  refine PW.seq ?_
  refine PW.region ?_
  refine PL.run 2 rfl ?_
  refine PL.call rfl rfl rfl (impl_Little_spec n many) (.cons (.refl _) <| .cons (.refl _) <| .nil) (fun p hp => by subst hp; rfl) (wantV_ok rfl) rfl (fun p hp => ?_)
  subst hp
  refine PL.call rfl rfl rfl (impl_turned_spec (little n many) (by omega)) (.cons (.refl _) <| .nil) (fun p hp => by subst hp; rfl) (wantV_ok rfl) rfl (fun p hp => ?_)
  subst hp
  refine PL.run 1 rfl ?_
  refine PL.nil ?_
  refine PW.ret ?_
  refine RetOk.free rfl rfl rfl
end Go.Wl
set_option linter.unusedVariables false
set_option linter.unusedSimpArgs false
set_option maxRecDepth 100000
set_option maxHeartbeats 8000000
namespace Go.Wl
open Go Go.RowKit Go.Pw Go.Proofs
theorem nz_run : ∀ (args : Array Value) W, (callFunc 164 args).run Tryz.prog W = ((Extern.BytealgMakeNoZero.makeNoZero #[3] #[22] args).run Tryz.prog W).andThen fun v w' => .ok (.value v) w' := fun args W =>
  run_callFunc_extern Tryz.func164 (by kernel_rfl) (by kernel_rfl) (by kernel_rfl) (e := Extern.BytealgMakeNoZero.makeNoZero #[3] #[22]) (by kernel_rfl) args W
theorem eb_one (l : List UInt8) : ∀ e ∈ l.map eb, e.length = 1 := fun e he => by obtain ⟨b, _, rfl⟩ := List.mem_map.1 he; rfl
def joinC (parts : List (List UInt8)) (cap k : Nat) : List PV := ((parts.take k).flatten.map eb).flatten ++ List.replicate (cap - (parts.take k).flatten.length) .junk
theorem joinC_free (parts : List (List UInt8)) (cap k : Nat) : freeL (joinC parts cap k) = true := by
  rw [joinC, freeL_append, eb_free, freeL_junk]; rfl
theorem tf_step {parts : List (List UInt8)} {k : Nat} {x : List UInt8} (hx : parts[k]? = some x) : (parts.take (k + 1)).flatten = (parts.take k).flatten ++ x := by
  rw [take_step hx]; simp
theorem tf_le (parts : List (List UInt8)) (k : Nat) : (parts.take k).flatten.length ≤ parts.flatten.length := by
  conv => rhs; rw [← List.take_append_drop k parts]
  rw [List.flatten_append, List.length_append]; omega
theorem joinC_len {parts : List (List UInt8)} {cap k : Nat} (h : (parts.take k).flatten.length ≤ cap) : (joinC parts cap k).length = cap := by
  rw [joinC, List.length_append, eb_len, List.length_replicate]; omega
theorem joinC_start {parts : List (List UInt8)} {cap : Nat} {x : List UInt8} (hx : parts[0]? = some x) (h : parts.flatten.length ≤ cap) : writeC (List.replicate cap .junk) 0 (x.map eb).flatten = joinC parts cap 1 := by
  have h1 := tf_le parts 1
  have e := tf_step hx
  simp only [List.take_zero, List.flatten_nil, List.nil_append] at e
  have := writeC_rep (pre := []) (l := (x.map eb).flatten) (off := 0) (k := cap) (q := .junk) rfl (by rw [eb_len]; rw [e] at h1; omega)
  rw [List.nil_append, List.nil_append] at this
  rw [this, joinC, e, eb_len]
theorem joinC_step {parts : List (List UInt8)} {cap k o1 o2 : Nat} {x : List UInt8} (hx : parts[k]? = some x) (h : parts.flatten.length ≤ cap) (ho : o2 = (parts.take k).flatten.length ∨ x = []) : writeC (writeC (joinC parts cap k) o1 []) o2 (x.map eb).flatten = joinC parts cap (k + 1) := by
  have h1 := tf_le parts (k + 1)
  have e := tf_step hx
  rw [writeC_nil]
  rcases ho with rfl | rfl
  · rw [joinC, writeC_rep (eb_len _) (by rw [eb_len]; rw [e, List.length_append] at h1; omega), joinC, e, List.map_append, List.flatten_append, eb_len, List.length_append]
    congr 2; omega
  · rw [List.append_nil] at e
    simp only [List.map_nil, List.flatten_nil, writeC_nil]
    rw [joinC, joinC, e]
theorem rest_at {parts : List (List UInt8)} {i : Nat} {y : List UInt8} (h : parts[i + 1]? = some y) : (((parts.map eBss1).take (parts.map eBss1).length).drop 1)[((i : Nat) : Int).toNat]? = some (eBss1 y) := by
  rw [List.take_length, Int.toNat_natCast, List.getElem?_drop, Nat.add_comm, List.getElem?_map, h]; rfl
/- bytes.Join -/
theorem bytes_Join_spec (parts : List (List UInt8)) (h2 : 2 ≤ parts.length) (hp : parts.length ≤ 16777216) (hf : parts.flatten.length ≤ 16777216) (τ : Nat) : Pw.Spec Tryz.prog 156 [eBss parts, .lit (.slice none 0 0)] (fun res_ => res_ = .sl 1 (parts.flatten.map eb) (some τ)) := by
  refine spec_of (n := 92) Tryz.call156 Tryz.func156 rfl rfl (by simp) rfl rfl fun W Z => ?_
  have hml : (parts.map eBss1).length = parts.length := List.length_map ..
  refine PW.seq ?_
  refine PW.region ?_
  refine PL.run 1 rfl ?_
  refine PL.nil ?_
  refine PW.seq ?_
  refine PW.seq ?_
  refine PW.region ?_
  refine PL.run 3 rfl ?_
  refine PL.nil ?_
  refine PW.cond rfl (fun h1 => ?_) (fun h1 => ?_)
  ·
    exact absurd (of_decide_eq_true h1) (by rw [List.length_map]; omega)
  ·
    refine PW.skip ?_
    refine PW.seq ?_
    refine PW.seq ?_
    refine PW.region ?_
    refine PL.run 3 rfl ?_
    refine PL.nil ?_
    refine PW.cond rfl (fun h2 => ?_) (fun h2 => ?_)
    ·
      exact absurd (of_decide_eq_true h2) (by rw [List.length_map]; omega)
    ·
      refine PW.skip ?_
      refine PW.seq ?_
      refine PW.region ?_
      refine PL.run 1 rfl ?_
      refine PL.nil ?_
      refine PW.seq ?_
      refine PW.seq ?_
      refine PW.region ?_
      refine PL.run 3 rfl ?_
      refine PL.nil ?_
      refine PW.cond rfl (fun h3 => ?_) (fun h3 => ?_)
      ·
        exact absurd h3 (by decide)
      ·
        refine PW.skip ?_
        refine PW.seq ?_
        refine PW.seq ?_
        refine PW.region ?_
        refine PL.run 3 rfl ?_
        refine PL.nil ?_
        refine PW.block ?_
        refine PW.loopAt (α := Nat) (fun i => ⟨[(42, eBss parts), (43, eI ((parts.map eBss1).length : Nat)), (0, eBss parts), (1, .lit (.slice none 0 0)), (5, eI ((parts.take i).flatten.length : Nat)), (44, eI (i : Int))], PH.none⟩) (fun i => i ≤ parts.length) (fun i => parts.length - i) 0 Le.free (Nat.zero_le _) (fun i hi => ?_)
        have hS := tf_le parts i
        refine PW.seq ?_
        refine PW.region ?_
        refine PL.run 1 rfl ?_
        refine PL.nil ?_
        refine PW.seq ?_
        refine PW.cond rfl (fun h4 => ?_) (fun h4 => ?_)
        ·
          have hlt : i < parts.length := by simpa using h4
          clear h1 h2 h3 h4
          obtain ⟨x, hx⟩ : ∃ y, parts[i]? = some y := ⟨_, List.getElem?_eq_getElem hlt⟩
          have hS2 := tf_le parts (i + 1)
          rw [tf_step hx, List.length_append] at hS2
          refine PW.skip ?_
          refine PW.seq ?_
          refine PW.block ?_
          refine PW.seq ?_
          refine PW.region ?_
          refine PL.val (OpV.idx rfl rfl rfl (nat_nonneg i) (map_at' hx) rfl rfl rfl rfl) (wantV_ok rfl) rfl ?_
          refine PL.run 2 rfl ?_
          refine PL.nil ?_
          refine PW.seq ?_
          refine PW.seq ?_
          refine PW.region ?_
          refine PL.run 5 rfl ?_
          refine PL.nil ?_
          refine PW.cond rfl (fun h5 => ?_) (fun h5 => ?_)
          ·
            exact absurd (of_decide_eq_true h5) (by rw [List.length_map, wrap_id (by omega) (by omega)]; omega)
          ·
            refine PW.skip ?_
            refine PW.region ?_
            refine PL.run 5 rfl ?_
            refine PL.nil ?_
            refine PW.region ?_
            refine PL.run 2 rfl ?_
            refine PL.nil ?_
            refine ⟨i + 1, Le.free ⟨⟨rfl, rfl⟩, ⟨rfl, rfl⟩, ⟨rfl, rfl⟩, ⟨rfl, rfl⟩, ⟨congrArg (fun n => some (eI n)) ?_, rfl⟩, ⟨inc_ok (by omega), rfl⟩, trivial⟩, hlt, by omega⟩
            rw [List.length_map, tf_step hx, List.length_append, wrap_id (by omega) (by omega)]; omega
        ·
          have hge : i = parts.length := Nat.le_antisymm hi (by simpa using h4)
          clear h1 h2 h3 h4
          obtain ⟨x0, h0⟩ : ∃ y, parts[0]? = some y := ⟨_, List.getElem?_eq_getElem (by omega)⟩
          have hT : (parts.take i).flatten.length = parts.flatten.length := by rw [hge, List.take_length]
          have hS1 := tf_le parts 1
          have e0 := tf_step h0
          simp only [List.take_zero, List.flatten_nil, List.nil_append] at e0
          refine PW.exit ?_
          refine PW.seq ?_
          refine PW.region ?_
          refine PL.run 1 rfl ?_
          refine PL.noZero (n := (parts.take i).flatten.length) rfl rfl rfl rfl nz_run rfl rfl (by omega) rfl (wantV_ok rfl) rfl (fun cap hc1 hc2 => ?_)
          refine PL.run 2 rfl ?_
          refine PL.val (OpV.cutB0 rfl rfl rfl rfl rfl rfl rfl rfl (Nat.le_refl _) hc1) (wantV_ok rfl) rfl ?_
          refine PL.run 1 rfl ?_
          refine PL.nil ?_
          refine PW.seq ?_
          refine PW.region ?_
          refine PL.run 2 rfl ?_
          refine PL.val (OpV.idx rfl rfl rfl (Int.le_refl 0) (map_at h0) rfl rfl rfl rfl) (wantV_ok rfl) rfl ?_
          refine PL.run 1 rfl ?_
          refine PL.copyB (new := x0.map eb) rfl rfl rfl rfl rfl rfl rfl rfl (by rw [List.length_map]; rw [e0] at hS1; omega) (by rw [eb_len, List.length_replicate]; rw [e0] at hS1; omega) (wantV_ok rfl) rfl ?_
          refine PL.run 1 rfl ?_
          refine PL.nil ?_
          refine PW.seq ?_
          refine PW.seq ?_
          refine PW.region ?_
          refine PL.run 1 rfl ?_
          refine PL.val (OpV.cut rfl rfl rfl rfl rfl rfl (l := 1) (h := (parts.map eBss1).length) rfl rfl (by omega) (Nat.le_refl _)) (wantV_ok rfl) rfl ?_
          refine PL.run 2 rfl ?_
          refine PL.nil ?_
          refine PW.block ?_
          refine PW.loopAt (α := Nat) (fun k => ⟨[(70, .sl 1 (((parts.map eBss1).take (parts.map eBss1).length).drop 1) none), (71, eI ((((parts.map eBss1).take (parts.map eBss1).length).drop 1).length : Nat)), (72, eI (k : Int)), (9, eI ((parts.take (k + 1)).flatten.length : Nat)), (8, .bs 60 0 (parts.take i).flatten.length (parts.take i).flatten.length), (1, .lit (.slice none 0 0))], ⟨[(60, (5, joinC parts cap (k + 1)))], []⟩⟩) (fun k => k + 1 ≤ parts.length) (fun k => parts.length - k) 0 (Le.boxes ⟨⟨congrArg (fun c => some (_, c)) (joinC_start h0 (by omega)), joinC_free _ _ _⟩, trivial⟩ ⟨⟨rfl, rfl⟩, ⟨rfl, rfl⟩, ⟨rfl, rfl⟩, ⟨congrArg (fun n => some (eI n)) (by rw [e0, List.length_map]), rfl⟩, ⟨rfl, rfl⟩, ⟨rfl, rfl⟩, trivial⟩) (by omega) (fun k hk => ?_)
          have hB := tf_le parts (k + 1)
          refine PW.seq ?_
          refine PW.region ?_
          refine PL.run 1 rfl ?_
          refine PL.nil ?_
          refine PW.seq ?_
          refine PW.cond rfl (fun h6 => ?_) (fun h6 => ?_)
          ·
            have hlt : k + 1 < parts.length := by simp at h6; omega
            clear h6
            obtain ⟨y, hy⟩ : ∃ y, parts[k + 1]? = some y := ⟨_, List.getElem?_eq_getElem hlt⟩
            have hB2 := tf_le parts (k + 1 + 1)
            have ey := tf_step hy
            rw [ey, List.length_append] at hB2
            have e9 : Eqq (IntKind.i64.wrap (((parts.take (k + 1)).flatten.length : Nat) + (([] : List (List PV)).length : Nat) : Int)) ((parts.take (k + 1)).flatten.length : Nat) := ⟨by rw [List.length_nil, wrap_id (by omega) (by omega)]; omega⟩
            have hlen := joinC_len (parts := parts) (cap := cap) (k := k + 1) (by omega)
            refine PW.skip ?_
            refine PW.seq ?_
            refine PW.block ?_
            refine PW.seq ?_
            refine PW.region ?_
            refine PL.val (OpV.idx rfl rfl rfl (nat_nonneg k) (rest_at hy) rfl rfl rfl rfl) (wantV_ok rfl) rfl ?_
            refine PL.run 2 rfl ?_
            refine PL.nil ?_
            refine PW.seq ?_
            refine PW.region ?_
            refine PL.run 3 rfl ?_
            refine PL.val (OpV.cutB (l := (parts.take (k + 1)).flatten.length) (h := (parts.take i).flatten.length) (c' := (parts.take i).flatten.length) rfl rfl rfl rfl rfl rfl rfl rfl rfl (by omega) (Nat.le_refl _) (Nat.le_refl _)) (wantV_ok rfl) rfl ?_
            refine PL.run 1 rfl ?_
            refine PL.copyB (new := []) rfl rfl rfl rfl rfl rfl rfl rfl (Nat.zero_le _) (by rw [hlen]; simp only [List.flatten_nil, List.length_nil]; split <;> (try simp only [Nat.zero_add, Nat.mul_one]) <;> omega) (wantV_ok rfl) rfl ?_
            refine PL.run 2 rfl ?_
            refine PL.nil ?_
            refine PW.region ?_
            refine PL.run 3 rfl ?_
            refine PL.val (OpV.cutB (l := (parts.take (k + 1)).flatten.length) (h := (parts.take i).flatten.length) (c' := (parts.take i).flatten.length) rfl rfl rfl rfl rfl (eqS e9) rfl rfl rfl (by omega) (Nat.le_refl _) (Nat.le_refl _)) (wantV_ok rfl) rfl ?_
            refine PL.run 1 rfl ?_
            refine PL.copyB (new := y.map eb) rfl rfl rfl rfl rfl rfl rfl rfl (by rw [List.length_map]; omega) (by rw [List.flatten_nil, writeC_nil, hlen, eb_len]; split <;> (try simp only [Nat.zero_add, Nat.mul_one]) <;> omega) (wantV_ok rfl) rfl ?_
            refine PL.run 2 rfl ?_
            refine PL.nil ?_
            refine PW.region ?_
            refine PL.run 2 rfl ?_
            refine PL.nil ?_
            refine ⟨k + 1, Le.boxes ⟨⟨congrArg (fun c => some (_, c)) (joinC_step hy (by omega) ?_), joinC_free _ _ _⟩, trivial⟩ ⟨⟨rfl, rfl⟩, ⟨rfl, rfl⟩, ⟨inc_ok (by omega), rfl⟩, ⟨congrArg (fun n => some (eI n)) ?_, rfl⟩, ⟨rfl, rfl⟩, ⟨rfl, rfl⟩, trivial⟩, hlt, by omega⟩
            · by_cases hy0 : y = []
              · exact .inr hy0
              · have : 0 < y.length := List.length_pos_iff.2 hy0
                exact .inl (by rw [if_neg (by omega)]; simp)
            · rw [e9.h, List.length_map, ey, List.length_append, wrap_id (by omega) (by omega)]; omega
          ·
            refine PW.exit ?_
            refine PW.seq ?_
            refine PW.region ?_
            refine PL.run 2 rfl ?_
            refine PL.nil ?_
            have hge2 : k + 1 = parts.length := by simp at h6; omega
            have hfull : joinC parts cap (k + 1) = (parts.flatten.map eb).flatten ++ List.replicate (cap - parts.flatten.length) .junk := by rw [joinC, hge2, List.take_length]
            refine PW.le (Le.boxRow (tv := 4) (τ := 7) (sz := 1) (es := parts.flatten.map eb) (r := List.replicate (cap - parts.flatten.length) .junk) (e := []) rfl rfl (joinC_free _ _ _) hfull (by rw [List.length_map, hT]) (eb_one _) (Nat.le_refl _) (by omega) (by rw [joinC_len (by omega)]; omega)) ?_
            refine PW.ret ?_
            refine RetOk.of rfl (.one (.leaf (.row _ _ 7 τ (by rw [List.length_map, hT]; rfl)))) (by simp) (by simp) rfl
/- impl.joined -/
theorem impl_joined_spec (parts : List (List UInt8)) (h2 : 2 ≤ parts.length) (hp : parts.length ≤ 16777216) (hf : parts.flatten.length ≤ 16777216) (τ : Nat) : Pw.Spec Tryz.prog 133 [eBss parts] (fun res_ => res_ = .sl 1 (parts.flatten.map eb) (some τ)) := by
  refine spec_of (n := 5) Tryz.call133 Tryz.func133 rfl rfl (by simp) rfl rfl fun W Z => ?_
  refine PW.seq ?_
  refine PW.region ?_
  refine PL.run 1 rfl ?_
  refine PL.nil ?_
  refine PW.seq ?_
  refine PW.region ?_
  refine PL.run 1 rfl ?_
  refine PL.call rfl rfl rfl (bytes_Join_spec parts h2 hp hf 7) (.cons (.refl _) <| .cons (.refl _) <| .nil) (fun p hp => by subst hp; rfl) (wantV_ok rfl) rfl (fun p hp => ?_)
  subst hp
  refine PL.run 1 rfl ?_
  refine PL.nil ?_
  refine PW.ret ?_
  refine RetOk.of rfl (.one (.leaf (.row _ _ 7 τ rfl))) (by simp) (by simp) rfl
/- impl.wordOf -/
theorem impl_wordOf_spec (b : List UInt8) (g : Bool) (hb : 4 ≤ b.length) : Pw.Spec Tryz.prog 145 [eBs b, eT g] (fun res_ => res_ = eI (wordAt g b 0)) := by
  refine spec_of (n := 50) Tryz.call145 Tryz.func145 rfl rfl (by simp) rfl rfl fun W Z => ?_
  refine PW.seq ?_
  refine PW.region ?_
  refine PL.run 1 rfl ?_
  refine PL.nil ?_
  refine PW.seq ?_
  refine PW.seq ?_
  refine PW.region ?_
  refine PL.run 1 rfl ?_
  refine PL.nil ?_
  refine PW.cond rfl (fun h1 => ?_) (fun h1 => ?_)
  ·
    subst h1
    refine PW.seq ?_
    refine PW.drawn ((some 6, _) :: (some 7, _) :: (some 8, _) :: (some 9, _) :: (some 10, _) :: (some 11, _) :: (some 12, _) :: (some 13, _) :: (some 14, _) :: (some 15, _) :: (some 16, _) :: (some 17, _) :: (some 18, _) :: (some 19, _) :: (some 20, _) :: (some 21, _) :: (some 22, _) :: (some 23, _) :: (some 24, _) :: (some 25, _) :: (some 26, _) :: (some 27, _) :: (some 4, _) :: []) (0 :: 1 :: 3 :: 7 :: 15 :: 0 :: 32 :: 96 :: 224 :: 480 :: 1023 :: 0 :: 2048 :: 6144 :: 14336 :: 30720 :: 65535 :: 0 :: 131072 :: 393216 :: 917504 :: 2097151 :: 4194303 :: []) (fun _ => _) mixed rfl rfl rfl rfl rfl
      (.cons rfl (fun ρ => PL.run 1 rfl (PL.nil rfl)) <|
      .cons rfl (fun ρ => PL.val (OpV.idx rfl rfl rfl (by decide) (map_at (getD_at (by simp <;> omega))) rfl rfl rfl rfl) (wantV_ok rfl) rfl (PL.nil rfl)) <|
      .cons rfl (fun ρ => PL.run 1 rfl (PL.nil rfl)) <|
      .cons rfl (fun ρ => PL.run 1 rfl (PL.nil rfl)) <|
      .cons rfl (fun ρ => PL.val (OpV.shl rfl rfl rfl (by decide)) (wantV_ok rfl) rfl (PL.nil rfl)) <|
      .cons rfl (fun ρ => PL.run 1 rfl (PL.nil rfl)) <|
      .cons rfl (fun ρ => PL.val (OpV.idx rfl rfl rfl (by decide) (map_at (getD_at (by simp <;> omega))) rfl rfl rfl rfl) (wantV_ok rfl) rfl (PL.nil rfl)) <|
      .cons rfl (fun ρ => PL.run 1 rfl (PL.nil rfl)) <|
      .cons rfl (fun ρ => PL.run 1 rfl (PL.nil rfl)) <|
      .cons rfl (fun ρ => PL.val (OpV.shl rfl rfl rfl (by decide)) (wantV_ok rfl) rfl (PL.nil rfl)) <|
      .cons rfl (fun ρ => PL.run 1 rfl (PL.nil rfl)) <|
      .cons rfl (fun ρ => PL.run 1 rfl (PL.nil rfl)) <|
      .cons rfl (fun ρ => PL.val (OpV.idx rfl rfl rfl (by decide) (map_at (getD_at (by simp <;> omega))) rfl rfl rfl rfl) (wantV_ok rfl) rfl (PL.nil rfl)) <|
      .cons rfl (fun ρ => PL.run 1 rfl (PL.nil rfl)) <|
      .cons rfl (fun ρ => PL.run 1 rfl (PL.nil rfl)) <|
      .cons rfl (fun ρ => PL.val (OpV.shl rfl rfl rfl (by decide)) (wantV_ok rfl) rfl (PL.nil rfl)) <|
      .cons rfl (fun ρ => PL.run 1 rfl (PL.nil rfl)) <|
      .cons rfl (fun ρ => PL.run 1 rfl (PL.nil rfl)) <|
      .cons rfl (fun ρ => PL.val (OpV.idx rfl rfl rfl (by decide) (map_at (getD_at (by simp <;> omega))) rfl rfl rfl rfl) (wantV_ok rfl) rfl (PL.nil rfl)) <|
      .cons rfl (fun ρ => PL.run 1 rfl (PL.nil rfl)) <|
      .cons rfl (fun ρ => PL.run 1 rfl (PL.nil rfl)) <|
      .cons rfl (fun ρ => PL.run 1 rfl (PL.nil rfl)) <|
      .cons rfl (fun ρ => PL.run 1 rfl (PL.nil rfl)) <|
      .nil _) ?_
    refine PW.ret ?_
    refine RetOk.free rfl rfl rfl
  ·
    subst h1
    refine PW.skip ?_
    refine PW.seq ?_
    refine PW.drawn ((some 28, _) :: (some 29, _) :: (some 30, _) :: (some 31, _) :: (some 32, _) :: (some 33, _) :: (some 34, _) :: (some 35, _) :: (some 36, _) :: (some 37, _) :: (some 38, _) :: (some 39, _) :: (some 40, _) :: (some 41, _) :: (some 42, _) :: (some 43, _) :: (some 44, _) :: (some 45, _) :: (some 46, _) :: (some 47, _) :: (some 48, _) :: (some 49, _) :: (some 4, _) :: []) (0 :: 1 :: 3 :: 7 :: 15 :: 0 :: 32 :: 96 :: 224 :: 480 :: 1023 :: 0 :: 2048 :: 6144 :: 14336 :: 30720 :: 65535 :: 0 :: 131072 :: 393216 :: 917504 :: 2097151 :: 4194303 :: []) (fun _ => _) mixed rfl rfl rfl rfl rfl
      (.cons rfl (fun ρ => PL.run 1 rfl (PL.nil rfl)) <|
      .cons rfl (fun ρ => PL.val (OpV.idx rfl rfl rfl (by decide) (map_at (getD_at (by simp <;> omega))) rfl rfl rfl rfl) (wantV_ok rfl) rfl (PL.nil rfl)) <|
      .cons rfl (fun ρ => PL.run 1 rfl (PL.nil rfl)) <|
      .cons rfl (fun ρ => PL.run 1 rfl (PL.nil rfl)) <|
      .cons rfl (fun ρ => PL.val (OpV.shl rfl rfl rfl (by decide)) (wantV_ok rfl) rfl (PL.nil rfl)) <|
      .cons rfl (fun ρ => PL.run 1 rfl (PL.nil rfl)) <|
      .cons rfl (fun ρ => PL.val (OpV.idx rfl rfl rfl (by decide) (map_at (getD_at (by simp <;> omega))) rfl rfl rfl rfl) (wantV_ok rfl) rfl (PL.nil rfl)) <|
      .cons rfl (fun ρ => PL.run 1 rfl (PL.nil rfl)) <|
      .cons rfl (fun ρ => PL.run 1 rfl (PL.nil rfl)) <|
      .cons rfl (fun ρ => PL.val (OpV.shl rfl rfl rfl (by decide)) (wantV_ok rfl) rfl (PL.nil rfl)) <|
      .cons rfl (fun ρ => PL.run 1 rfl (PL.nil rfl)) <|
      .cons rfl (fun ρ => PL.run 1 rfl (PL.nil rfl)) <|
      .cons rfl (fun ρ => PL.val (OpV.idx rfl rfl rfl (by decide) (map_at (getD_at (by simp <;> omega))) rfl rfl rfl rfl) (wantV_ok rfl) rfl (PL.nil rfl)) <|
      .cons rfl (fun ρ => PL.run 1 rfl (PL.nil rfl)) <|
      .cons rfl (fun ρ => PL.run 1 rfl (PL.nil rfl)) <|
      .cons rfl (fun ρ => PL.val (OpV.shl rfl rfl rfl (by decide)) (wantV_ok rfl) rfl (PL.nil rfl)) <|
      .cons rfl (fun ρ => PL.run 1 rfl (PL.nil rfl)) <|
      .cons rfl (fun ρ => PL.run 1 rfl (PL.nil rfl)) <|
      .cons rfl (fun ρ => PL.val (OpV.idx rfl rfl rfl (by decide) (map_at (getD_at (by simp <;> omega))) rfl rfl rfl rfl) (wantV_ok rfl) rfl (PL.nil rfl)) <|
      .cons rfl (fun ρ => PL.run 1 rfl (PL.nil rfl)) <|
      .cons rfl (fun ρ => PL.run 1 rfl (PL.nil rfl)) <|
      .cons rfl (fun ρ => PL.run 1 rfl (PL.nil rfl)) <|
      .cons rfl (fun ρ => PL.run 1 rfl (PL.nil rfl)) <|
      .nil _) ?_
    refine PW.ret ?_
    refine RetOk.free rfl rfl rfl
end Go.Wl
