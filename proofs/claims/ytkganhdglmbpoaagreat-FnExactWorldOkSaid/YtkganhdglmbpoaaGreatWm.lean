/- The walks, twelfth text: posts, readers, worlds (the specification's). -/
import Derived.Test.YtkganhdglmbpoaaGreatWl
set_option linter.unusedVariables false
set_option linter.unusedSimpArgs false
set_option maxRecDepth 100000
set_option maxHeartbeats 8000000
namespace Go.Wl
open Go Go.RowKit Go.Pw Go.Proofs
def postOk (p : Post) : Bool := queueOk p.queue && (inB p.time 0 100000 && (decide (p.book.length ≤ 12000) && (inB p.sure 0 (p.book.length : Nat) && (decide ((play p.book).2.2 = p.book.length) && (decide ((play p.book).2.1 = p.time) && sameQ (play p.book).1 p.queue)))))
theorem playF_len {b : List UInt8} (hb : b.length ≤ 16777216) : ∀ (k : Nat) (q : List Item) (now : Int) (i : Nat), Sm q → q.length ≤ 10 → (playF b k q now i).1.length ≤ 10
  | 0, q, now, i, _, h => h
  | k + 1, q, now, i, hq, h => by
    simp only [playF]
    split
    · rename_i l n hn
      obtain ⟨e1, e2, e3, e4⟩ := lineOf_some hn
      have e5 := lineAt_len b i
      have e6 := lineAt_size b i e4
      rw [← e3] at e5 e6
      have := playQ_sm (now := now) hq h (by omega) (by omega : l.bytes.length ≤ 16777216)
      exact playF_len hb k _ _ _ this.1 this.2
    · exact h
theorem play_len {b : List UInt8} (hb : b.length ≤ 16777216) : (play b).1.length ≤ 10 := playF_len hb _ _ _ _ Sm.nil (Nat.zero_le _)
structure SmP (p : Post) : Prop where
  q : Sm p.queue
  b : p.book.length ≤ 16777216
/- spec.PostOk -/
theorem spec_PostOk_spec (p : Post) (hp : SmP p) : Pw.Spec Tryz.prog 35 [.agg (ePost p)] (fun res_ => res_ = eT (postOk p)) := by
  refine spec_of (n := 55) Tryz.call35 Tryz.func35 rfl rfl (by simp) rfl rfl fun W Z => ?_
  refine PW.seq ?_
  refine PW.region ?_
  refine PL.run 2 rfl ?_
  refine PL.nil ?_
  refine PW.seq ?_
  refine PW.seq ?_
  refine PW.region ?_
  refine PL.run 2 rfl ?_
  refine PL.call rfl rfl rfl (spec_QueueOk_spec p.queue hp.q) (.cons (.refl _) <| .nil) (fun p hp => by subst hp; rfl) (wantV_ok rfl) rfl (fun p hp => ?_)
  subst hp
  refine PL.run 2 rfl ?_
  refine PL.split (t := 10) rfl (fun h1 => ?_) (fun h1 => ?_)
  ·
    refine PL.run 20 rfl ?_
    refine PL.nil ?_
    refine PW.condT rfl ?_
    refine PW.seq ?_
    refine PW.region ?_
    refine PL.run 1 rfl ?_
    refine PL.nil ?_
    refine PW.ret ?_
    refine RetOk.free rfl rfl (congrArg eT ?_)
    simp_all [postOk]
    try omega
  ·
    refine PL.run 2 rfl ?_
    refine PL.call rfl rfl rfl (spec_l1In_spec p.time 0 100000) (.cons (.refl _) <| .cons (.refl _) <| .cons (.refl _) <| .nil) (fun p hp => by subst hp; rfl) (wantV_ok rfl) rfl (fun p hp => ?_)
    subst hp
    refine PL.run 3 rfl ?_
    refine PL.split (t := 16) rfl (fun h2 => ?_) (fun h2 => ?_)
    ·
      refine PL.run 14 rfl ?_
      refine PL.nil ?_
      refine PW.condT rfl ?_
      refine PW.seq ?_
      refine PW.region ?_
      refine PL.run 1 rfl ?_
      refine PL.nil ?_
      refine PW.ret ?_
      refine RetOk.free rfl rfl (congrArg eT ?_)
      simp_all [postOk]
      try omega
    ·
      refine PL.run 6 rfl ?_
      refine PL.split (t := 22) rfl (fun h3 => ?_) (fun h3 => ?_)
      ·
        refine PL.run 8 rfl ?_
        refine PL.nil ?_
        refine PW.condT rfl ?_
        refine PW.seq ?_
        refine PW.region ?_
        refine PL.run 1 rfl ?_
        refine PL.nil ?_
        refine PW.ret ?_
        refine RetOk.free rfl rfl (congrArg eT ?_)
        have g3 : ¬ p.book.length ≤ 12000 := by simp at h3; omega
        simp [postOk, g3]
      ·
        refine PL.run 5 rfl ?_
        refine PL.call rfl rfl rfl (spec_l1In_spec p.sure 0 (((p.book.map eb).length : Nat) : Int)) (.cons (.refl _) <| .cons (.refl _) <| .cons (.refl _) <| .nil) (fun p hp => by subst hp; rfl) (wantV_ok rfl) rfl (fun p hp => ?_)
        subst hp
        refine PL.run 2 rfl ?_
        refine PL.nil ?_
        refine PW.cond rfl (fun h4 => ?_) (fun h4 => ?_)
        ·
          refine PW.seq ?_
          refine PW.region ?_
          refine PL.run 1 rfl ?_
          refine PL.nil ?_
          refine PW.ret ?_
          refine RetOk.free rfl rfl (congrArg eT ?_)
          simp_all [postOk]
          try omega
        ·
          refine PW.skip ?_
          refine PW.seq ?_
          refine PW.region ?_
          refine PL.run 2 rfl ?_
          refine PL.call rfl rfl rfl (spec_Play_spec p.book hp.b) (.cons (.refl _) <| .nil) (fun p hp => by subst hp; rfl) (wantV_ok rfl) rfl (fun p hp => ?_)
          subst hp
          refine PL.run 7 rfl ?_
          refine PL.nil ?_
          refine PW.seq ?_
          refine PW.region ?_
          refine PL.run 6 rfl ?_
          refine PL.split (t := 43) rfl (fun h5 => ?_) (fun h5 => ?_)
          ·
            refine PL.run 6 rfl ?_
            refine PL.split (t := 49) rfl (fun h6 => ?_) (fun h6 => ?_)
            ·
              refine PL.run 3 rfl ?_
              refine PL.call rfl rfl rfl (spec_l15Queues_spec (play p.book).1 p.queue (Nat.le_trans (play_len hp.b) (by decide)) hp.q.len) (.cons (.refl _) <| .cons (.refl _) <| .nil) (fun p hp => by subst hp; rfl) (wantV_ok rfl) rfl (fun p hp => ?_)
              subst hp
              refine PL.run 2 rfl ?_
              refine PL.nil ?_
              refine PW.ret ?_
              refine RetOk.free rfl rfl (congrArg eT ?_)
              have g3 : p.book.length ≤ 12000 := by simp at h3; omega
              have g5 : (play p.book).2.2 = p.book.length := by simp at h5; omega
              clear h3 h5
              simp_all [postOk]
            ·
              refine PL.run 6 rfl ?_
              refine PL.nil ?_
              refine PW.ret ?_
              refine RetOk.free rfl rfl (congrArg eT ?_)
              simp_all [postOk]
              try omega
          ·
            refine PL.run 12 rfl ?_
            refine PL.nil ?_
            refine PW.ret ?_
            refine RetOk.free rfl rfl (congrArg eT ?_)
            have g5 : ¬ (play p.book).2.2 = p.book.length := by simp at h5; omega
            simp [postOk, g5]
def seenOk (r : Reader) (i : Nat) : Bool := match r.seen[i]?, r.got[i]? with
  | some s, some g => decide (s.length ≤ 1560) && (decide (g.length ≤ 200) && (r.seen.take i).all fun t => !decide (t = s))
  | _, _ => true
def readerOk (r : Reader) : Bool := decide (r.seed.length = 32) && (inB r.epoch 0 40 && (decide (r.seen.length ≤ 20) && (decide (r.got.length = r.seen.length) && (List.range r.seen.length).all (seenOk r))))
structure SmR (r : Reader) : Prop where
  seed : r.seed.length ≤ 16777216
  seen : r.seen.length ≤ 16777216
  got : r.got.length ≤ 16777216
  s : ∀ (i : Nat) (x : List UInt8), r.seen[i]? = some x → x.length ≤ 16777216
  g : ∀ (i : Nat) (x : List UInt8), r.got[i]? = some x → x.length ≤ 16777216
theorem range_bad {p : Nat → Bool} {n i : Nat} (h : i < n) (hp : p i = false) : (List.range n).all p = false := by
  rw [List.all_eq_false]
  exact ⟨i, List.mem_range.2 h, by simp [hp]⟩
theorem take_allG {α : Type} {p : α → Bool} {q : List α} {k : Nat} {y : α} (h : (q.take k).all p = true) (hy : q[k]? = some y) (hp : p y = true) : (q.take (k + 1)).all p = true := by
  rw [take_step hy, List.all_append, h]; simp [hp]
theorem take_bad {α : Type} {p : α → Bool} {q : List α} {k i : Nat} {y : α} (hy : q[k]? = some y) (hk : k < i) (hp : p y = false) : (q.take i).all p = false := by
  rw [List.all_eq_false]
  exact ⟨y, List.mem_of_getElem? (i := k) (by rw [List.getElem?_take_of_lt hk]; exact hy), by simp [hp]⟩
/- spec.ReaderOk -/
theorem spec_ReaderOk_spec (r : Reader) (hr : SmR r) : Pw.Spec Tryz.prog 36 [.agg (eReader r)] (fun res_ => res_ = eT (readerOk r)) := by
  refine spec_of (n := 69) Tryz.call36 Tryz.func36 rfl rfl (by simp) rfl rfl fun W Z => ?_
  refine PW.seq ?_
  refine PW.region ?_
  refine PL.run 2 rfl ?_
  refine PL.nil ?_
  refine PW.seq ?_
  refine PW.seq ?_
  refine PW.region ?_
  refine PL.run 5 rfl ?_
  refine PL.split (t := 9) rfl (fun h1 => ?_) (fun h1 => ?_)
  ·
    refine PL.run 20 rfl ?_
    refine PL.nil ?_
    refine PW.condT rfl ?_
    refine PW.seq ?_
    refine PW.region ?_
    refine PL.run 1 rfl ?_
    refine PL.nil ?_
    refine PW.ret ?_
    refine RetOk.free rfl rfl (congrArg eT ?_)
    have : ¬ r.seed.length = 32 := by simp at h1; omega
    simp [readerOk, this]
  ·
    refine PL.run 2 rfl ?_
    refine PL.call rfl rfl rfl (spec_l1In_spec r.epoch 0 40) (.cons (.refl _) <| .cons (.refl _) <| .cons (.refl _) <| .nil) (fun p hp => by subst hp; rfl) (wantV_ok rfl) rfl (fun p hp => ?_)
    subst hp
    refine PL.run 3 rfl ?_
    refine PL.split (t := 15) rfl (fun h2 => ?_) (fun h2 => ?_)
    ·
      refine PL.run 14 rfl ?_
      refine PL.nil ?_
      refine PW.condT rfl ?_
      refine PW.seq ?_
      refine PW.region ?_
      refine PL.run 1 rfl ?_
      refine PL.nil ?_
      refine PW.ret ?_
      refine RetOk.free rfl rfl (congrArg eT ?_)
      simp_all [readerOk]
    ·
      refine PL.run 6 rfl ?_
      refine PL.split (t := 21) rfl (fun h3 => ?_) (fun h3 => ?_)
      ·
        refine PL.run 8 rfl ?_
        refine PL.nil ?_
        refine PW.condT rfl ?_
        refine PW.seq ?_
        refine PW.region ?_
        refine PL.run 1 rfl ?_
        refine PL.nil ?_
        refine PW.ret ?_
        refine RetOk.free rfl rfl (congrArg eT ?_)
        have : ¬ r.seen.length ≤ 20 := by simp at h3; omega
        simp [readerOk, this]
      ·
        refine PL.run 8 rfl ?_
        refine PL.nil ?_
        refine PW.cond rfl (fun h4 => ?_) (fun h4 => ?_)
        ·
          refine PW.seq ?_
          refine PW.region ?_
          refine PL.run 1 rfl ?_
          refine PL.nil ?_
          refine PW.ret ?_
          refine RetOk.free rfl rfl (congrArg eT ?_)
          have : ¬ r.got.length = r.seen.length := by simp at h4; omega
          simp [readerOk, this]
        ·
          have hg : r.got.length = r.seen.length := by simp at h4; omega
          have hs := hr.seen
          refine PW.skip ?_
          refine PW.seq ?_
          refine PW.seq ?_
          refine PW.region ?_
          refine PL.run 1 rfl ?_
          refine PL.nil ?_
          refine PW.block ?_
          refine PW.loopAt (α := Nat) (fun i => ⟨[(1, .bx 1 0), (3, eI (i : Int))], ⟨[(1, (38, eReader r))], []⟩⟩) (fun i => i ≤ r.seen.length ∧ (List.range i).all (seenOk r) = true) (fun i => r.seen.length - i) 0 Le.boxes ⟨Nat.zero_le _, rfl⟩ (fun i hi => ?_)
          refine PW.seq ?_
          refine PW.seq ?_
          refine PW.region ?_
          refine PL.run 5 rfl ?_
          refine PL.nil ?_
          refine PW.cond rfl (fun h5 => ?_) (fun h5 => ?_)
          ·
            have hlt : i < r.seen.length := by simpa using h5
            obtain ⟨x, hx⟩ : ∃ y, r.seen[i]? = some y := ⟨_, List.getElem?_eq_getElem hlt⟩
            obtain ⟨g, hgx⟩ : ∃ y, r.got[i]? = some y := ⟨_, List.getElem?_eq_getElem (by omega)⟩
            have hbad : seenOk r i = false → readerOk r = false := fun h => by simp [readerOk, range_bad hlt h]
            refine PW.skip ?_
            refine PW.seq ?_
            refine PW.block ?_
            refine PW.seq ?_
            refine PW.seq ?_
            refine PW.region ?_
            refine PL.run 3 rfl ?_
            refine PL.val (OpV.idx rfl rfl rfl (nat_nonneg i) (map_at' hx) rfl rfl rfl rfl) (wantV_ok rfl) rfl ?_
            refine PL.run 4 rfl ?_
            refine PL.split (t := 44) rfl (fun h6 => ?_) (fun h6 => ?_)
            ·
              refine PL.run 8 rfl ?_
              refine PL.nil ?_
              refine PW.condT rfl ?_
              refine PW.seq ?_
              refine PW.region ?_
              refine PL.run 1 rfl ?_
              refine PL.nil ?_
              refine PW.ret ?_
              refine RetOk.free rfl rfl (congrArg eT ?_)
              have : ¬ x.length ≤ 1560 := by simp at h6; omega
              rw [hbad (by simp [seenOk, hx, hgx, this])]
            ·
              refine PL.run 3 rfl ?_
              refine PL.val (OpV.idx rfl rfl rfl (nat_nonneg i) (map_at' hgx) rfl rfl rfl rfl) (wantV_ok rfl) rfl ?_
              refine PL.run 4 rfl ?_
              refine PL.nil ?_
              refine PW.cond rfl (fun h7 => ?_) (fun h7 => ?_)
              ·
                refine PW.seq ?_
                refine PW.region ?_
                refine PL.run 1 rfl ?_
                refine PL.nil ?_
                refine PW.ret ?_
                refine RetOk.free rfl rfl (congrArg eT ?_)
                have : ¬ g.length ≤ 200 := by simp at h7; omega
                rw [hbad (by simp [seenOk, hx, hgx, this])]
              ·
                refine PW.skip ?_
                refine PW.seq ?_
                refine PW.region ?_
                refine PL.run 1 rfl ?_
                refine PL.nil ?_
                refine PW.block ?_
                refine PW.loopAt (α := Nat) (fun k => ⟨[(1, .bx 1 0), (3, eI (i : Int)), (4, eI (k : Int))], ⟨[(1, (38, eReader r))], []⟩⟩) (fun k => k ≤ i ∧ ((r.seen.take k).all fun t => !decide (t = x)) = true) (fun k => i - k) 0 Le.boxes ⟨Nat.zero_le _, rfl⟩ (fun k hk => ?_)
                refine PW.seq ?_
                refine PW.seq ?_
                refine PW.region ?_
                refine PL.run 3 rfl ?_
                refine PL.nil ?_
                refine PW.cond rfl (fun h8 => ?_) (fun h8 => ?_)
                ·
                  have hlt2 : k < i := by simpa using h8
                  obtain ⟨y, hy⟩ : ∃ y, r.seen[k]? = some y := ⟨_, List.getElem?_eq_getElem (by omega)⟩
                  refine PW.skip ?_
                  refine PW.seq ?_
                  refine PW.block ?_
                  refine PW.seq ?_
                  refine PW.drawn ((some 58, _) :: (some 59, _) :: (some 60, _) :: (some 61, _) :: (some 62, _) :: (some 63, _) :: (some 64, _) :: (some 65, _) :: (some 66, _) :: (some 67, _) :: (some 68, _) :: []) (0 :: 1 :: 0 :: 7 :: 15 :: 0 :: 32 :: 0 :: 224 :: 480 :: 1023 :: []) (fun _ => _) mixed rfl rfl rfl rfl rfl
                    (.cons rfl (fun ρ => PL.run 1 rfl (PL.nil rfl)) <|
                    .cons rfl (fun ρ => PL.run 1 rfl (PL.nil rfl)) <|
                    .cons rfl (fun ρ => PL.run 1 rfl (PL.nil rfl)) <|
                    .cons rfl (fun ρ => PL.val (OpV.idx rfl rfl rfl (nat_nonneg k) (map_at' hy) rfl rfl rfl rfl) (wantV_ok rfl) rfl (PL.nil rfl)) <|
                    .cons rfl (fun ρ => PL.run 1 rfl (PL.nil rfl)) <|
                    .cons rfl (fun ρ => PL.run 1 rfl (PL.nil rfl)) <|
                    .cons rfl (fun ρ => PL.run 1 rfl (PL.nil rfl)) <|
                    .cons rfl (fun ρ => PL.run 1 rfl (PL.nil rfl)) <|
                    .cons rfl (fun ρ => PL.val (OpV.idx rfl rfl rfl (nat_nonneg i) (map_at' hx) rfl rfl rfl rfl) (wantV_ok rfl) rfl (PL.nil rfl)) <|
                    .cons rfl (fun ρ => PL.run 1 rfl (PL.nil rfl)) <|
                    .cons rfl (fun ρ => PL.call rfl rfl rfl (spec_Same_spec y x) (.cons (.refl _) <| .cons (.refl _) <| .nil) (fun p hp => by subst hp; rfl) (wantV_ok rfl) rfl (fun p hp => by subst hp; exact PL.nil rfl)) <|
                    .nil _) ?_
                  refine PW.cond rfl (fun h9 => ?_) (fun h9 => ?_)
                  ·
                    refine PW.seq ?_
                    refine PW.region ?_
                    refine PL.run 1 rfl ?_
                    refine PL.nil ?_
                    refine PW.ret ?_
                    refine RetOk.free rfl rfl (congrArg eT ?_)
                    rw [hbad (by simp only [seenOk, hx, hgx, take_bad (p := fun t => !decide (t = x)) hy hlt2 (by simpa using h9)]; simp)]
                  ·
                    refine PW.skip ?_
                    refine PW.region ?_
                    refine PL.run 3 rfl ?_
                    refine PL.nil ?_
                    exact ⟨k + 1, Le.boxes ⟨⟨rfl, rfl⟩, trivial⟩ ⟨⟨rfl, rfl⟩, ⟨rfl, rfl⟩, ⟨inc_ok (by omega), rfl⟩, trivial⟩, ⟨hlt2, take_allG hk.2 hy (by simpa using h9)⟩, by omega⟩
                ·
                  refine PW.exit ?_
                  refine PW.region ?_
                  refine PL.run 3 rfl ?_
                  refine PL.nil ?_
                  have hge : k = i := by have := hk.1; simp at h8; omega
                  subst hge
                  have h6 : x.length ≤ 1560 := by simp at h6; omega
                  have h7 : g.length ≤ 200 := by simp at h7; omega
                  exact ⟨k + 1, Le.boxes ⟨⟨rfl, rfl⟩, trivial⟩ ⟨⟨rfl, rfl⟩, ⟨inc_ok (by omega), rfl⟩, trivial⟩, ⟨hlt, range_all hi.2 (by simp only [seenOk, hx, hgx, hk.2, h6, h7, decide_true, Bool.and_true])⟩, by omega⟩
          ·
            refine PW.exit ?_
            refine PW.seq ?_
            refine PW.region ?_
            refine PL.run 1 rfl ?_
            refine PL.nil ?_
            refine PW.ret ?_
            refine RetOk.free rfl rfl (congrArg eT ?_)
            have hge : i = r.seen.length := by have := hi.1; simp at h5; omega
            have h3 : r.seen.length ≤ 20 := by simp at h3; omega
            have h1 : r.seed.length = 32 := by simp at h1; omega
            have h2 : inB r.epoch 0 40 = true := by simpa using h2
            simp only [readerOk, ← hge, hi.2, h1, h2, hg]
            simp; omega
end Go.Wl
