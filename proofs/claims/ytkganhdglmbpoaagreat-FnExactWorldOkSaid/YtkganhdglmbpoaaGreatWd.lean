/- The walks, third text: queues that are right (the specification's). -/
import Derived.Test.YtkganhdglmbpoaaGreatWc
set_option linter.unusedVariables false
set_option linter.unusedSimpArgs false
set_option maxRecDepth 100000
namespace Go.Wl
open Go Go.RowKit Go.Pw Go.Proofs
def clash (x y : Item) : Bool := decide (y.route = x.route) && (decide (y.topic = x.topic) && decide (0 < x.topic))
def good (q : List Item) (i : Nat) : Bool := match q[i]? with
  | some x => itemOk x && (decide (ofN q x.route ≤ 4) && (q.take i).all fun y => !clash x y)
  | none => true
def queueOk (q : List Item) : Bool := decide (q.length ≤ 10) && (List.range q.length).all (good q)
theorem good_bad1 {q : List Item} {i : Nat} {x : Item} (hx : q[i]? = some x) (h : itemOk x = false) : good q i = false := by simp [good, hx, h]
theorem good_bad2 {q : List Item} {i : Nat} {x : Item} (hx : q[i]? = some x) (h : ¬ ofN q x.route ≤ 4) : good q i = false := by simp [good, hx, h]
theorem good_bad3 {q : List Item} {i k : Nat} {x y : Item} (hx : q[i]? = some x) (hk : k < i) (hy : q[k]? = some y) (hc : clash x y = true) : good q i = false := by
  have hm : y ∈ q.take i := List.mem_of_getElem? (i := k) (by rw [List.getElem?_take_of_lt hk]; exact hy)
  have : ((q.take i).all fun y => !clash x y) = false := by
    rw [List.all_eq_false]
    exact ⟨y, hm, by simp [hc]⟩
  simp [good, hx, this]
theorem good_ok {q : List Item} {i : Nat} {x : Item} (hx : q[i]? = some x) (h1 : itemOk x = true) (h2 : ofN q x.route ≤ 4) (h3 : ((q.take i).all fun y => !clash x y) = true) : good q i = true := by simp [good, hx, h1, h2, h3]
theorem range_all {p : Nat → Bool} {i : Nat} (h : (List.range i).all p = true) (hi : p i = true) : (List.range (i + 1)).all p = true := by
  rw [List.range_succ, List.all_append, h]; simp [hi]
theorem queue_bad {q : List Item} {i : Nat} (h : i < q.length) (hg : good q i = false) : queueOk q = false := by
  have : (List.range q.length).all (good q) = false := by
    rw [List.all_eq_false]
    exact ⟨i, List.mem_range.2 h, by simp [hg]⟩
  simp [queueOk, this]
theorem take_all {p : Item → Bool} {q : List Item} {k : Nat} {y : Item} (h : (q.take k).all p = true) (hy : q[k]? = some y) (hp : p y = true) : (q.take (k + 1)).all p = true := by
  rw [take_step hy, List.all_append, h]; simp [hp]
/-- Small enough: texts of routes, and the queue's length. -/
structure Sm (q : List Item) : Prop where
  len : q.length ≤ 16777216
  route : ∀ (i : Nat) (x : Item), q[i]? = some x → x.route.size ≤ 1099511627776
  bytes : ∀ (i : Nat) (x : Item), q[i]? = some x → x.bytes.length ≤ 16777216
/- spec.QueueOk -/
theorem spec_QueueOk_spec (q : List Item) (hq : Sm q) : Pw.Spec Tryz.prog 81 [eItems q] (fun res_ => res_ = eT (queueOk q)) := by
  refine spec_of (n := 67) Tryz.call81 Tryz.func81 rfl rfl (by simp) rfl rfl fun W Z => ?_
  have hlen := hq.len
  refine PW.seq ?_
  refine PW.region ?_
  refine PL.run 1 rfl ?_
  refine PL.nil ?_
  refine PW.seq ?_
  refine PW.seq ?_
  refine PW.region ?_
  refine PL.run 1 rfl ?_
  refine PL.nil ?_
  refine PW.block ?_
  refine PW.loopAt (α := Nat) (fun i => ⟨[(0, eItems q), (3, eI (i : Int))], PH.none⟩) (fun i => i ≤ q.length ∧ (List.range i).all (good q) = true) (fun i => q.length - i) 0 Le.free ⟨Nat.zero_le _, rfl⟩ (fun i hi => ?_)
  refine PW.seq ?_
  refine PW.seq ?_
  refine PW.region ?_
  refine PL.run 4 rfl ?_
  refine PL.nil ?_
  refine PW.cond rfl (fun h1 => ?_) (fun h1 => ?_)
  ·
    have hlt : i < q.length := by simpa using h1
    obtain ⟨x, hx⟩ : ∃ y, q[i]? = some y := ⟨_, List.getElem?_eq_getElem hlt⟩
    refine PW.skip ?_
    refine PW.seq ?_
    refine PW.block ?_
    refine PW.seq ?_
    refine PW.seq ?_
    refine PW.region ?_
    refine PL.run 2 rfl ?_
    refine PL.val (OpV.idx rfl rfl rfl (nat_nonneg i) (map_at' hx) rfl rfl rfl rfl) (wantV_ok rfl) rfl ?_
    refine PL.run 1 rfl ?_
    refine PL.call rfl rfl rfl (spec_ItemOk_spec x (hq.route i x hx)) (.cons (.refl _) <| .nil) (fun p hp => by subst hp; rfl) (wantV_ok rfl) rfl (fun p hp => ?_)
    subst hp
    refine PL.run 2 rfl ?_
    refine PL.split (t := 17) rfl (fun h2 => ?_) (fun h2 => ?_)
    ·
      refine PL.run 9 rfl ?_
      refine PL.nil ?_
      refine PW.condT rfl ?_
      refine PW.seq ?_
      refine PW.region ?_
      refine PL.run 1 rfl ?_
      refine PL.nil ?_
      refine PW.ret ?_
      refine RetOk.free rfl rfl ?_
      rw [queue_bad hlt (good_bad1 hx (by simpa using h2))]
    ·
      refine PL.run 3 rfl ?_
      refine PL.val (OpV.idx rfl rfl rfl (nat_nonneg i) (map_at' hx) rfl rfl rfl rfl) (wantV_ok rfl) rfl ?_
      refine PL.run 2 rfl ?_
      refine PL.call rfl rfl rfl (spec_Of_spec q x.route (by omega)) (.cons (.refl _) <| .cons (.refl _) <| .nil) (fun p hp => by subst hp; rfl) (wantV_ok rfl) rfl (fun p hp => ?_)
      subst hp
      refine PL.run 2 rfl ?_
      refine PL.nil ?_
      refine PW.cond rfl (fun h3 => ?_) (fun h3 => ?_)
      ·
        refine PW.seq ?_
        refine PW.region ?_
        refine PL.run 1 rfl ?_
        refine PL.nil ?_
        refine PW.ret ?_
        refine RetOk.free rfl rfl ?_
        rw [queue_bad hlt (good_bad2 hx (by simp at h3; omega))]
      ·
        refine PW.skip ?_
        refine PW.seq ?_
        refine PW.region ?_
        refine PL.run 1 rfl ?_
        refine PL.nil ?_
        refine PW.block ?_
        refine PW.loopAt (α := Nat) (fun k => ⟨[(0, eItems q), (3, eI (i : Int)), (4, eI (k : Int))], PH.none⟩) (fun k => k ≤ i ∧ ((q.take k).all fun y => !clash x y) = true) (fun k => i - k) 0 Le.free ⟨Nat.zero_le _, rfl⟩ (fun k hk => ?_)
        refine PW.seq ?_
        refine PW.seq ?_
        refine PW.region ?_
        refine PL.run 3 rfl ?_
        refine PL.nil ?_
        refine PW.cond rfl (fun h4 => ?_) (fun h4 => ?_)
        ·
          have hlt2 : k < i := by simpa using h4
          obtain ⟨y, hy⟩ : ∃ y, q[k]? = some y := ⟨_, List.getElem?_eq_getElem (by omega)⟩
          refine PW.skip ?_
          refine PW.seq ?_
          refine PW.block ?_
          refine PW.seq ?_
          rcases Bool.eq_false_or_eq_true (decide (y.route = x.route)) with h5 | h5
          ·
            rcases Bool.eq_false_or_eq_true (decide (y.topic = x.topic)) with h6 | h6
            ·
              refine PW.drawn ((some 32, _) :: (some 33, _) :: (some 34, _) :: (some 35, _) :: (some 36, _) :: (some 37, _) :: (some 38, _) :: (some 39, _) :: (some 40, _) :: (some 41, _) :: (some 42, _) :: (some 43, .lit (.bool true)) :: (some 44, _) :: (some 45, _) :: (some 46, _) :: (some 47, _) :: (some 48, _) :: (some 49, _) :: (some 50, _) :: (some 51, _) :: (some 52, _) :: (some 53, _) :: (some 54, _) :: (some 55, _) :: (some 56, .lit (.bool true)) :: (some 57, _) :: (some 58, _) :: (some 59, _) :: (some 60, _) :: (some 61, _) :: (some 62, _) :: (some 63, _) :: []) (0 :: 0 :: 3 :: 7 :: 15 :: 0 :: 0 :: 96 :: 224 :: 480 :: 1023 :: 2047 :: 4095 :: 4095 :: 16383 :: 32767 :: 65535 :: 4095 :: 4095 :: 397311 :: 921599 :: 1970175 :: 4194303 :: 8388607 :: 16777215 :: 33554431 :: 33554431 :: 134217727 :: 268435455 :: 536870911 :: 1073741823 :: 2147483647 :: []) (fun _ => _) mixed rfl rfl rfl rfl rfl
                (.cons rfl (fun ρ => PL.run 1 rfl (PL.nil rfl)) <|
                .cons rfl (fun ρ => PL.run 1 rfl (PL.nil rfl)) <|
                .cons rfl (fun ρ => PL.val (OpV.idx rfl rfl rfl (nat_nonneg k) (map_at' hy) rfl rfl rfl rfl) (wantV_ok rfl) rfl (PL.nil rfl)) <|
                .cons rfl (fun ρ => PL.run 1 rfl (PL.nil rfl)) <|
                .cons rfl (fun ρ => PL.run 1 rfl (PL.nil rfl)) <|
                .cons rfl (fun ρ => PL.run 1 rfl (PL.nil rfl)) <|
                .cons rfl (fun ρ => PL.run 1 rfl (PL.nil rfl)) <|
                .cons rfl (fun ρ => PL.val (OpV.idx rfl rfl rfl (nat_nonneg i) (map_at' hx) rfl rfl rfl rfl) (wantV_ok rfl) rfl (PL.nil rfl)) <|
                .cons rfl (fun ρ => PL.run 1 rfl (PL.nil rfl)) <|
                .cons rfl (fun ρ => PL.run 1 rfl (PL.nil rfl)) <|
                .cons rfl (fun ρ => PL.run 1 rfl (PL.nil rfl)) <|
                .cons rfl (fun ρ => PL.run 1 rfl (PL.nil (putb h5))) <|
                .cons rfl (fun ρ => PL.run 1 rfl (PL.nil rfl)) <|
                .cons rfl (fun ρ => PL.run 1 rfl (PL.nil rfl)) <|
                .cons rfl (fun ρ => PL.val (OpV.idx rfl rfl rfl (nat_nonneg k) (map_at' hy) rfl rfl rfl rfl) (wantV_ok rfl) rfl (PL.nil rfl)) <|
                .cons rfl (fun ρ => PL.run 1 rfl (PL.nil rfl)) <|
                .cons rfl (fun ρ => PL.run 1 rfl (PL.nil rfl)) <|
                .cons rfl (fun ρ => PL.run 1 rfl (PL.nil rfl)) <|
                .cons rfl (fun ρ => PL.run 1 rfl (PL.nil rfl)) <|
                .cons rfl (fun ρ => PL.val (OpV.idx rfl rfl rfl (nat_nonneg i) (map_at' hx) rfl rfl rfl rfl) (wantV_ok rfl) rfl (PL.nil rfl)) <|
                .cons rfl (fun ρ => PL.run 1 rfl (PL.nil rfl)) <|
                .cons rfl (fun ρ => PL.run 1 rfl (PL.nil rfl)) <|
                .cons rfl (fun ρ => PL.run 1 rfl (PL.nil rfl)) <|
                .cons rfl (fun ρ => PL.run 1 rfl (PL.nil rfl)) <|
                .cons rfl (fun ρ => PL.run 1 rfl (PL.nil (putb h6))) <|
                .cons rfl (fun ρ => PL.run 1 rfl (PL.nil rfl)) <|
                .cons rfl (fun ρ => PL.run 1 rfl (PL.nil rfl)) <|
                .cons rfl (fun ρ => PL.val (OpV.idx rfl rfl rfl (nat_nonneg i) (map_at' hx) rfl rfl rfl rfl) (wantV_ok rfl) rfl (PL.nil rfl)) <|
                .cons rfl (fun ρ => PL.run 1 rfl (PL.nil rfl)) <|
                .cons rfl (fun ρ => PL.run 1 rfl (PL.nil rfl)) <|
                .cons rfl (fun ρ => PL.run 1 rfl (PL.nil rfl)) <|
                .cons rfl (fun ρ => PL.run 1 rfl (PL.nil rfl)) <|
                .nil _) ?_
              refine PW.cond rfl (fun h7 => ?_) (fun h7 => ?_)
              ·
                refine PW.seq ?_
                refine PW.region ?_
                refine PL.run 1 rfl ?_
                refine PL.nil ?_
                refine PW.ret ?_
                refine RetOk.free rfl rfl ?_
                rw [queue_bad hlt (good_bad3 hx hlt2 hy (by simp_all [clash]))]
              ·
                refine PW.skip ?_
                refine PW.region ?_
                refine PL.run 3 rfl ?_
                refine PL.nil ?_
                exact ⟨k + 1, Le.free ⟨⟨rfl, rfl⟩, ⟨rfl, rfl⟩, ⟨inc_ok (by omega), rfl⟩, trivial⟩, ⟨hlt2, take_all hk.2 hy (by simp_all [clash])⟩, by omega⟩
            ·
              refine PW.drawn ((some 32, _) :: (some 33, _) :: (some 34, _) :: (some 35, _) :: (some 36, _) :: (some 37, _) :: (some 38, _) :: (some 39, _) :: (some 40, _) :: (some 41, _) :: (some 42, _) :: (some 43, .lit (.bool true)) :: (some 44, _) :: (some 45, _) :: (some 46, _) :: (some 47, _) :: (some 48, _) :: (some 49, _) :: (some 50, _) :: (some 51, _) :: (some 52, _) :: (some 53, _) :: (some 54, _) :: (some 55, _) :: (some 56, .lit (.bool false)) :: (some 57, _) :: (some 58, _) :: (some 59, _) :: (some 60, _) :: (some 61, _) :: (some 62, _) :: (some 63, _) :: []) (0 :: 0 :: 3 :: 7 :: 15 :: 0 :: 0 :: 96 :: 224 :: 480 :: 1023 :: 2047 :: 4095 :: 4095 :: 16383 :: 32767 :: 65535 :: 4095 :: 4095 :: 397311 :: 921599 :: 1970175 :: 4194303 :: 8388607 :: 16777215 :: 33554431 :: 33554431 :: 134217727 :: 268435455 :: 536870911 :: 1073741823 :: 2147483647 :: []) (fun _ => _) mixed rfl rfl rfl rfl rfl
                (.cons rfl (fun ρ => PL.run 1 rfl (PL.nil rfl)) <|
                .cons rfl (fun ρ => PL.run 1 rfl (PL.nil rfl)) <|
                .cons rfl (fun ρ => PL.val (OpV.idx rfl rfl rfl (nat_nonneg k) (map_at' hy) rfl rfl rfl rfl) (wantV_ok rfl) rfl (PL.nil rfl)) <|
                .cons rfl (fun ρ => PL.run 1 rfl (PL.nil rfl)) <|
                .cons rfl (fun ρ => PL.run 1 rfl (PL.nil rfl)) <|
                .cons rfl (fun ρ => PL.run 1 rfl (PL.nil rfl)) <|
                .cons rfl (fun ρ => PL.run 1 rfl (PL.nil rfl)) <|
                .cons rfl (fun ρ => PL.val (OpV.idx rfl rfl rfl (nat_nonneg i) (map_at' hx) rfl rfl rfl rfl) (wantV_ok rfl) rfl (PL.nil rfl)) <|
                .cons rfl (fun ρ => PL.run 1 rfl (PL.nil rfl)) <|
                .cons rfl (fun ρ => PL.run 1 rfl (PL.nil rfl)) <|
                .cons rfl (fun ρ => PL.run 1 rfl (PL.nil rfl)) <|
                .cons rfl (fun ρ => PL.run 1 rfl (PL.nil (putb h5))) <|
                .cons rfl (fun ρ => PL.run 1 rfl (PL.nil rfl)) <|
                .cons rfl (fun ρ => PL.run 1 rfl (PL.nil rfl)) <|
                .cons rfl (fun ρ => PL.val (OpV.idx rfl rfl rfl (nat_nonneg k) (map_at' hy) rfl rfl rfl rfl) (wantV_ok rfl) rfl (PL.nil rfl)) <|
                .cons rfl (fun ρ => PL.run 1 rfl (PL.nil rfl)) <|
                .cons rfl (fun ρ => PL.run 1 rfl (PL.nil rfl)) <|
                .cons rfl (fun ρ => PL.run 1 rfl (PL.nil rfl)) <|
                .cons rfl (fun ρ => PL.run 1 rfl (PL.nil rfl)) <|
                .cons rfl (fun ρ => PL.val (OpV.idx rfl rfl rfl (nat_nonneg i) (map_at' hx) rfl rfl rfl rfl) (wantV_ok rfl) rfl (PL.nil rfl)) <|
                .cons rfl (fun ρ => PL.run 1 rfl (PL.nil rfl)) <|
                .cons rfl (fun ρ => PL.run 1 rfl (PL.nil rfl)) <|
                .cons rfl (fun ρ => PL.run 1 rfl (PL.nil rfl)) <|
                .cons rfl (fun ρ => PL.run 1 rfl (PL.nil rfl)) <|
                .cons rfl (fun ρ => PL.run 1 rfl (PL.nil (putb h6))) <|
                .cons rfl (fun ρ => PL.run 1 rfl (PL.nil rfl)) <|
                .cons rfl (fun ρ => PL.run 1 rfl (PL.nil rfl)) <|
                .cons rfl (fun ρ => PL.run 1 rfl (PL.nil rfl)) <|
                .cons rfl (fun ρ => PL.run 1 rfl (PL.nil rfl)) <|
                .cons rfl (fun ρ => PL.run 1 rfl (PL.nil rfl)) <|
                .cons rfl (fun ρ => PL.run 1 rfl (PL.nil rfl)) <|
                .cons rfl (fun ρ => PL.run 1 rfl (PL.nil rfl)) <|
                .nil _) ?_
              refine PW.condF rfl ?_
              refine PW.skip ?_
              refine PW.region ?_
              refine PL.run 3 rfl ?_
              refine PL.nil ?_
              exact ⟨k + 1, Le.free ⟨⟨rfl, rfl⟩, ⟨rfl, rfl⟩, ⟨inc_ok (by omega), rfl⟩, trivial⟩, ⟨hlt2, take_all hk.2 hy (by simp_all [clash])⟩, by omega⟩
          ·
            refine PW.drawn ((some 32, _) :: (some 33, _) :: (some 34, _) :: (some 35, _) :: (some 36, _) :: (some 37, _) :: (some 38, _) :: (some 39, _) :: (some 40, _) :: (some 41, _) :: (some 42, _) :: (some 43, .lit (.bool false)) :: (some 44, _) :: (some 45, _) :: (some 46, _) :: (some 47, _) :: (some 48, _) :: (some 49, _) :: (some 50, _) :: (some 51, _) :: (some 52, _) :: (some 53, _) :: (some 54, _) :: (some 55, _) :: (some 56, _) :: (some 57, _) :: (some 58, _) :: (some 59, _) :: (some 60, _) :: (some 61, _) :: (some 62, _) :: (some 63, _) :: []) (0 :: 0 :: 3 :: 7 :: 15 :: 0 :: 0 :: 96 :: 224 :: 480 :: 1023 :: 2047 :: 4095 :: 4095 :: 16383 :: 32767 :: 65535 :: 4095 :: 4095 :: 397311 :: 921599 :: 1970175 :: 4194303 :: 8388607 :: 16777215 :: 33554431 :: 33554431 :: 134217727 :: 268435455 :: 536870911 :: 1073741823 :: 2147483647 :: []) (fun _ => _) mixed rfl rfl rfl rfl rfl
              (.cons rfl (fun ρ => PL.run 1 rfl (PL.nil rfl)) <|
              .cons rfl (fun ρ => PL.run 1 rfl (PL.nil rfl)) <|
              .cons rfl (fun ρ => PL.val (OpV.idx rfl rfl rfl (nat_nonneg k) (map_at' hy) rfl rfl rfl rfl) (wantV_ok rfl) rfl (PL.nil rfl)) <|
              .cons rfl (fun ρ => PL.run 1 rfl (PL.nil rfl)) <|
              .cons rfl (fun ρ => PL.run 1 rfl (PL.nil rfl)) <|
              .cons rfl (fun ρ => PL.run 1 rfl (PL.nil rfl)) <|
              .cons rfl (fun ρ => PL.run 1 rfl (PL.nil rfl)) <|
              .cons rfl (fun ρ => PL.val (OpV.idx rfl rfl rfl (nat_nonneg i) (map_at' hx) rfl rfl rfl rfl) (wantV_ok rfl) rfl (PL.nil rfl)) <|
              .cons rfl (fun ρ => PL.run 1 rfl (PL.nil rfl)) <|
              .cons rfl (fun ρ => PL.run 1 rfl (PL.nil rfl)) <|
              .cons rfl (fun ρ => PL.run 1 rfl (PL.nil rfl)) <|
              .cons rfl (fun ρ => PL.run 1 rfl (PL.nil (putb h5))) <|
              .cons rfl (fun ρ => PL.run 1 rfl (PL.nil rfl)) <|
              .cons rfl (fun ρ => PL.run 1 rfl (PL.nil rfl)) <|
              .cons rfl (fun ρ => PL.run 1 rfl (PL.nil rfl)) <|
              .cons rfl (fun ρ => PL.run 1 rfl (PL.nil rfl)) <|
              .cons rfl (fun ρ => PL.run 1 rfl (PL.nil rfl)) <|
              .cons rfl (fun ρ => PL.run 1 rfl (PL.nil rfl)) <|
              .cons rfl (fun ρ => PL.run 1 rfl (PL.nil rfl)) <|
              .cons rfl (fun ρ => PL.run 1 rfl (PL.nil rfl)) <|
              .cons rfl (fun ρ => PL.run 1 rfl (PL.nil rfl)) <|
              .cons rfl (fun ρ => PL.run 1 rfl (PL.nil rfl)) <|
              .cons rfl (fun ρ => PL.run 1 rfl (PL.nil rfl)) <|
              .cons rfl (fun ρ => PL.run 1 rfl (PL.nil rfl)) <|
              .cons rfl (fun ρ => PL.run 1 rfl (PL.nil rfl)) <|
              .cons rfl (fun ρ => PL.run 1 rfl (PL.nil rfl)) <|
              .cons rfl (fun ρ => PL.run 1 rfl (PL.nil rfl)) <|
              .cons rfl (fun ρ => PL.run 1 rfl (PL.nil rfl)) <|
              .cons rfl (fun ρ => PL.run 1 rfl (PL.nil rfl)) <|
              .cons rfl (fun ρ => PL.run 1 rfl (PL.nil rfl)) <|
              .cons rfl (fun ρ => PL.run 1 rfl (PL.nil rfl)) <|
              .cons rfl (fun ρ => PL.run 1 rfl (PL.nil rfl)) <|
              .nil _) ?_
            refine PW.condF rfl ?_
            refine PW.skip ?_
            refine PW.region ?_
            refine PL.run 3 rfl ?_
            refine PL.nil ?_
            exact ⟨k + 1, Le.free ⟨⟨rfl, rfl⟩, ⟨rfl, rfl⟩, ⟨inc_ok (by omega), rfl⟩, trivial⟩, ⟨hlt2, take_all hk.2 hy (by simp_all [clash])⟩, by omega⟩
        ·
          refine PW.exit ?_
          refine PW.region ?_
          refine PL.run 3 rfl ?_
          refine PL.nil ?_
          have hge : k = i := by have := hk.1; simp at h4; omega
          subst hge
          exact ⟨k + 1, Le.free ⟨⟨rfl, rfl⟩, ⟨inc_ok (by omega), rfl⟩, trivial⟩, ⟨hlt, range_all hi.2 (good_ok hx (by simpa using h2) (by simp at h3; omega) hk.2)⟩, by omega⟩
  ·
    refine PW.exit ?_
    refine PW.seq ?_
    refine PW.region ?_
    refine PL.run 4 rfl ?_
    refine PL.nil ?_
    refine PW.ret ?_
    refine RetOk.free rfl rfl ?_
    have hge : i = q.length := by have := hi.1; simp at h1; omega
    subst hge
    simp [queueOk, hi.2]
    try omega
end Go.Wl
