/- The walks, fifth text: what is taken from a queue (the specification's). -/
import Derived.Test.YtkganhdglmbpoaaGreatWe
set_option linter.unusedVariables false
set_option linter.unusedSimpArgs false
set_option maxRecDepth 100000
namespace Go.Wl
open Go Go.RowKit Go.Pw Go.Proofs
theorem Sm.sub {q l : List Item} (hq : Sm q) (h : ∀ y ∈ l, y ∈ q) (hl : l.length ≤ q.length) : Sm l :=
  ⟨Nat.le_trans hl hq.len, fun i x hx => by obtain ⟨j, hj⟩ := List.getElem?_of_mem (h x (List.mem_of_getElem? hx)); exact hq.route j x hj,
   fun i x hx => by obtain ⟨j, hj⟩ := List.getElem?_of_mem (h x (List.mem_of_getElem? hx)); exact hq.bytes j x hj⟩
theorem Sm.take {q : List Item} (hq : Sm q) (i : Nat) : Sm (q.take i) := hq.sub (fun y h => List.mem_of_mem_take h) (by rw [List.length_take]; omega)
theorem Sm.drop {q : List Item} (hq : Sm q) (i : Nat) : Sm (q.drop i) := hq.sub (fun y h => List.mem_of_mem_drop h) (by rw [List.length_drop]; omega)
theorem l13Queue_ro (q : List Item) (hq : Sm q) : Pw.Spec Tryz.prog 161 [eItems q] (fun p => p = eItems q) :=
  (spec_l13Queue_spec q hq 0).weak fun p hp => ⟨_, rfl, by subst hp; exact .row _ _ _, rfl⟩
def item0 : Item := ⟨ByteArray.empty, 0, 0, []⟩
/-- The first item of a route, and the rest. -/
def takeQ (r : ByteArray) : List Item → Option (Item × List Item)
  | [] => none
  | x :: q => if x.route = r then some (x, q) else match takeQ r q with
    | some (y, l) => some (y, x :: l)
    | none => none
def takeX (q : List Item) (r : ByteArray) : Item := match takeQ r q with | some (y, _) => y | none => item0
def takeR (q : List Item) (r : ByteArray) : List Item := match takeQ r q with | some (_, l) => l | none => q
theorem takeQ_at {r : ByteArray} : ∀ {q : List Item} {i : Nat} {x : Item}, (∀ (j : Nat) (y : Item), j < i → q[j]? = some y → y.route ≠ r) → q[i]? = some x → x.route = r → takeQ r q = some (x, q.take i ++ q.drop (i + 1))
  | [], i, x, _, hx, _ => by simp at hx
  | z :: q, 0, x, _, hx, hr => by
    simp at hx; subst hx
    simp [takeQ, hr]
  | z :: q, i + 1, x, hn, hx, hr => by
    have h1 := hn 0 z (by omega) rfl
    have := takeQ_at (q := q) (i := i) (x := x) (fun j y hj hy => hn (j + 1) y (by omega) (by simpa using hy)) (by simpa using hx) hr
    simp [takeQ, h1, this]
theorem takeQ_none {r : ByteArray} : ∀ {q : List Item}, (∀ (j : Nat) (y : Item), q[j]? = some y → y.route ≠ r) → takeQ r q = none
  | [], _ => rfl
  | z :: q, hn => by
    have h1 := hn 0 z rfl
    have := takeQ_none (q := q) (fun j y hy => hn (j + 1) y (by simpa using hy))
    simp [takeQ, h1, this]
def zI : List PV := [.lit (.string { data := #[] }), eI 0, eI 0, .lit (.slice none 0 0)]
/- spec.Take -/
theorem spec_Take_spec (q : List Item) (r : ByteArray) (hq : Sm q) (τ : Nat) : Pw.Spec Tryz.prog 141 [eItems q, eS r] (fun res_ => res_ = .tup [.agg (eItem (takeX q r)), .sl 4 ((takeR q r).map eItem) (some τ), eT (takeQ r q).isSome]) := by
  refine spec_of (n := 41) Tryz.call141 Tryz.func141 rfl rfl (by simp) rfl rfl fun W Z => ?_
  have hlen := hq.len
  refine PW.seq ?_
  refine PW.region ?_
  refine PL.run 3 rfl ?_
  refine PL.nil ?_
  refine PW.seq ?_
  refine PW.seq ?_
  refine PW.region ?_
  refine PL.run 1 rfl ?_
  refine PL.nil ?_
  refine PW.block ?_
  refine PW.loopAt (α := Nat) (fun i => ⟨[(0, eItems q), (1, eS r), (4, .bx 4 0), (7, eI (i : Int))], ⟨[(4, (64, zI))], []⟩⟩) (fun i => i ≤ q.length ∧ ∀ j y, j < i → q[j]? = some y → y.route ≠ r) (fun i => q.length - i) 0 Le.boxes ⟨Nat.zero_le _, fun j y h => by omega⟩ (fun i hi => ?_)
  refine PW.seq ?_
  refine PW.seq ?_
  refine PW.region ?_
  refine PL.run 4 rfl ?_
  refine PL.nil ?_
  refine PW.cond rfl (fun h1 => ?_) (fun h1 => ?_)
  ·
    have hlt : i < q.length := by simpa using h1
    obtain ⟨x, hx⟩ : ∃ y, q[i]? = some y := ⟨_, List.getElem?_eq_getElem hlt⟩
    have e1 : IntKind.i64.wrap ((i : Int) + 1) = ((i + 1 : Nat) : Int) := by rw [wrap_id (by omega) (by omega)]; rfl
    refine PW.skip ?_
    refine PW.seq ?_
    refine PW.block ?_
    refine PW.seq ?_
    refine PW.region ?_
    refine PL.run 2 rfl ?_
    refine PL.val (OpV.idx rfl rfl rfl (nat_nonneg i) (map_at' hx) rfl rfl rfl rfl) (wantV_ok rfl) rfl ?_
    refine PL.run 4 rfl ?_
    refine PL.nil ?_
    refine PW.cond rfl (fun h2 => ?_) (fun h2 => ?_)
    ·
      refine PW.seq ?_
      refine PW.drawn ((some 22, _) :: (some 23, _) :: (some 24, _) :: (some 25, _) :: (some 26, _) :: (some 27, _) :: (some 28, _) :: (some 29, _) :: (some 30, _) :: (some 31, _) :: (some 8, _) :: []) (0 :: 0 :: 3 :: 7 :: 0 :: 0 :: 32 :: 112 :: 255 :: 511 :: 1023 :: []) (fun b => ⟨[(4, (64, zI))], bif b 9 then [(25, (4, ((q.take i).map eItem ++ (q.drop (i + 1)).map eItem).length)), (25, (4, ((q.take i).map eItem).length))] else bif b 3 then [(25, (4, ((q.take i).map eItem).length))] else []⟩) mixed rfl rfl rfl rfl rfl
        (.cons rfl (fun ρ => PL.run 1 rfl (PL.nil rfl)) <|
        .cons rfl (fun ρ => PL.run 1 rfl (PL.nil rfl)) <|
        .cons rfl (fun ρ => PL.val (OpV.cut rfl rfl rfl rfl rfl rfl (l := 0) (h := i) rfl rfl (Nat.zero_le _) (by simp; omega)) (wantV_ok rfl) rfl (PL.nil rfl)) <|
        .cons rfl (fun ρ => PL.call rfl rfl rfl (spec_l13Queue_spec (q.take i) (hq.take i) 25) (.cons (wkrow (by simp [List.map_take])) .nil) (fun p hp => by subst hp; rfl) (wantV_ok rfl) rfl (fun p hp => by subst hp; exact PL.nil rfl)) <|
        .cons rfl (fun ρ => PL.run 1 rfl (PL.nil rfl)) <|
        .cons rfl (fun ρ => PL.run 1 rfl (PL.nil rfl)) <|
        .cons rfl (fun ρ => PL.run 1 rfl (PL.nil rfl)) <|
        .cons rfl (fun ρ => PL.val (OpV.cut rfl rfl rfl rfl rfl rfl (l := i + 1) (h := (q.map eItem).length) (congrArg some e1) rfl (by simp; omega) (Nat.le_refl _)) (wantV_ok rfl) rfl (PL.nil rfl)) <|
        .cons rfl (fun ρ => PL.call rfl rfl rfl (l13Queue_ro (q.drop (i + 1)) (hq.drop (i + 1))) (.cons (wkrow (by rw [List.take_length, List.map_drop])) .nil) (fun p hp => by subst hp; rfl) (wantV_ok rfl) rfl (fun p hp => by subst hp; exact PL.nil rfl)) <|
        .cons rfl (fun ρ => PL.app rfl rfl rfl rfl rfl rfl rfl rfl rfl rfl (by simp <;> omega) (by simp <;> omega) (wantV_ok rfl) rfl (PL.nil rfl)) <|
        .cons rfl (fun ρ => PL.run 1 rfl (PL.nil rfl)) <|
        .nil _) ?_
      refine PW.seq ?_
      refine PW.region ?_
      refine PL.run 2 rfl ?_
      refine PL.val (OpV.idx rfl rfl rfl (nat_nonneg i) (map_at' hx) rfl rfl rfl rfl) (wantV_ok rfl) rfl ?_
      refine PL.run 1 rfl ?_
      refine PL.call rfl rfl rfl (spec_l13Item_spec x (hq.bytes i x hx)) (.cons (.refl _) <| .nil) (fun p hp => by subst hp; rfl) (wantV_ok rfl) rfl (fun p hp => ?_)
      subst hp
      refine PL.run 4 rfl ?_
      refine PL.nil ?_
      refine PW.ret ?_
      refine RetOk.of rfl (.tup (.cons (.agg (.cons (.same _ rfl) (.cons (.same _ rfl) (.cons (.same _ rfl) (.cons (.same _ rfl) .nil))))) (.cons (.leaf (.row _ _ 25 τ rfl)) (.cons (.leaf (.same _ rfl)) .nil)))) (by simp) (by simp) ?_
      have ht := takeQ_at (r := r) hi.2 hx (by simpa using h2)
      simp [takeX, takeR, ht, eItem]
    ·
      refine PW.skip ?_
      refine PW.region ?_
      refine PL.run 3 rfl ?_
      refine PL.nil ?_
      refine ⟨i + 1, Le.boxes ⟨⟨rfl, rfl⟩, trivial⟩ ⟨⟨rfl, rfl⟩, ⟨rfl, rfl⟩, ⟨rfl, rfl⟩, ⟨inc_ok (by omega), rfl⟩, trivial⟩, ⟨hlt, fun j y hj hy => ?_⟩, by omega⟩
      by_cases e : j = i
      · subst e; rw [hx] at hy; cases hy; simpa using h2
      · exact hi.2 j y (by omega) hy
  ·
    have hge : q.length ≤ i := by simpa using h1
    have hno : takeQ r q = none := takeQ_none (fun j y hy => hi.2 j y (by have := (List.getElem?_eq_some_iff.1 hy).1; omega) hy)
    refine PW.exit ?_
    refine PW.seq ?_
    refine PW.region ?_
    refine PL.val (OpV.build rfl rfl rfl rfl rfl rfl) (wantV_ok rfl) rfl ?_
    refine PL.run 1 rfl ?_
    refine PL.call rfl rfl rfl (spec_l13Queue_spec q hq 1001) (.cons (.refl _) <| .nil) (fun p hp => by subst hp; rfl) (wantV_ok rfl) rfl (fun p hp => ?_)
    subst hp
    refine PL.run 3 rfl ?_
    refine PL.nil ?_
    refine PW.ret ?_
    refine RetOk.of rfl (.tup (.cons (.agg (.cons (.same _ rfl) (.cons (.same _ rfl) (.cons (.same _ rfl) (.cons (.nil0 1) .nil))))) (.cons (.leaf (.row _ _ 1001 τ rfl)) (.cons (.leaf (.same _ rfl)) .nil)))) (by simp) (by simp) ?_
    simp [takeX, takeR, hno, eItem, item0, eBs]
    rfl
end Go.Wl
