/- The walks, second text: routes, items, queues (the specification's). -/
import Derived.Test.YtkganhdglmbpoaaGreatWb
set_option linter.unusedVariables false
set_option linter.unusedSimpArgs false
set_option maxRecDepth 100000
namespace Go.Wl
open Go Go.RowKit Go.Pw Go.Proofs
theorem take_step {α : Type} {l : List α} {i : Nat} {x : α} (h : l[i]? = some x) : l.take (i + 1) = l.take i ++ [x] := by
  rw [List.take_add_one, h]; rfl
theorem ofN_le (q : List Item) (r : ByteArray) (i : Nat) : ofN (q.take i) r ≤ i := by
  unfold ofN
  exact Nat.le_trans (List.length_filter_le _ _) (by rw [List.length_take]; exact Nat.min_le_left _ _)
theorem ofN_step {q : List Item} {r : ByteArray} {i : Nat} {y : Item} (h : q[i]? = some y) (hi : i ≤ 4611686018427387904) : some (PV.lit (.int .i64 (IntKind.i64.wrap ((ofN (q.take i) r : Nat) + bit (decide (y.route = r)))))) = some (eI (ofN (q.take (i + 1)) r : Nat)) := by
  have h1 := ofN_le q r i
  have h2 : ofN (q.take (i + 1)) r = ofN (q.take i) r + (if y.route = r then 1 else 0) := by
    unfold ofN
    rw [take_step h, List.filter_append, List.length_append]
    by_cases e : y.route = r <;> simp [e]
  rw [h2]
  by_cases e : y.route = r <;> simp only [e, decide_true, decide_false, bit, if_true, if_false, Bool.false_eq_true] <;> rw [wrap_id (by omega) (by omega)] <;> simp [eI]
/- spec.Of -/
theorem spec_Of_spec (q : List Item) (r : ByteArray) (hq : q.length ≤ 1099511627776) : Pw.Spec Tryz.prog 115 [eItems q, eS r] (fun res_ => res_ = eI (ofN q r : Nat)) := by
  refine spec_of (n := 24) Tryz.call115 Tryz.func115 rfl rfl (by simp) rfl rfl fun W Z => ?_
  refine PW.seq ?_
  refine PW.region ?_
  refine PL.run 1 rfl ?_
  refine PL.nil ?_
  refine PW.seq ?_
  refine PW.region ?_
  refine PL.run 1 rfl ?_
  refine PL.nil ?_
  refine PW.seq ?_
  refine PW.seq ?_
  refine PW.region ?_
  refine PL.run 1 rfl ?_
  refine PL.nil ?_
  refine PW.block ?_
  refine PW.loopAt (α := Nat) (fun i => ⟨[(0, eItems q), (1, eS r), (5, eI (ofN (q.take i) r : Nat)), (6, eI (i : Int))], PH.none⟩) (fun i => i ≤ q.length) (fun i => q.length - i) 0 Le.free (Nat.zero_le _) (fun x hx => ?_)
  refine PW.seq ?_
  refine PW.seq ?_
  refine PW.region ?_
  refine PL.run 4 rfl ?_
  refine PL.nil ?_
  refine PW.cond rfl (fun h1 => ?_) (fun h1 => ?_)
  ·
    have hlt : x < q.length := by simpa using h1
    obtain ⟨y, hy⟩ : ∃ y, q[x]? = some y := ⟨_, List.getElem?_eq_getElem hlt⟩
    refine PW.skip ?_
    refine PW.seq ?_
    refine PW.block ?_
    refine PW.region ?_
    refine PL.run 3 rfl ?_
    refine PL.val (OpV.idx rfl rfl rfl (nat_nonneg x) (map_at' hy) rfl rfl rfl rfl) (wantV_ok rfl) rfl ?_
    refine PL.run 4 rfl ?_
    refine PL.call rfl rfl rfl (spec_l1Bit_spec ..) (.cons (.refl _) <| .nil) (fun p hp => by subst hp; rfl) (wantV_ok rfl) rfl (fun p hp => ?_)
    subst hp
    refine PL.run 2 rfl ?_
    refine PL.nil ?_
    refine PW.region ?_
    refine PL.run 3 rfl ?_
    refine PL.nil ?_
    exact ⟨x + 1, Le.free ⟨⟨rfl, rfl⟩, ⟨rfl, rfl⟩, ⟨ofN_step hy (by omega), rfl⟩, ⟨inc_ok (by omega), rfl⟩, trivial⟩, hlt, by omega⟩
  ·
    have hge : q.length ≤ x := by simpa using h1
    refine PW.exit ?_
    refine PW.seq ?_
    refine PW.region ?_
    refine PL.run 2 rfl ?_
    refine PL.nil ?_
    refine PW.ret ?_
    refine RetOk.free rfl rfl ?_
    rw [List.take_of_length_le hge]
def unhexR (s : ByteArray) : PV := .tup [eBs ((unhex s).getD []), eT (unhex s).isSome]
theorem unhexL_two {b : List UInt8} {k : Nat} {x y : UInt8} (hx : b[k]? = some x) (hy : b[k + 1]? = some y) : b.drop k = x :: y :: b.drop (k + 2) := by
  rw [List.drop_eq_getElem_cons (List.getElem?_eq_some_iff.1 hx).1, List.drop_eq_getElem_cons (List.getElem?_eq_some_iff.1 hy).1, (List.getElem?_eq_some_iff.1 hx).2, (List.getElem?_eq_some_iff.1 hy).2]
/-- What is decoded of the first signs, and what the whole is then. -/
def unOk (b l : List UInt8) : Prop := 2 * l.length ≤ b.length ∧ unhexL b = match unhexL (b.drop (2 * l.length)) with
  | some r => some (l ++ r)
  | none => none
theorem unOk_bad {b l : List UInt8} {x y : UInt8} (h : unOk b l) (hx : b[2 * l.length]? = some x) (hy : b[2 * l.length + 1]? = some y) (hs : sign x.toNat < 0 ∨ sign y.toNat < 0) : unhexL b = none := by
  rw [h.2, unhexL_two hx hy]
  simp [unhexL, hs]
theorem unOk_step {b l : List UInt8} {x y : UInt8} (h : unOk b l) (hx : b[2 * l.length]? = some x) (hy : b[2 * l.length + 1]? = some y) (h1 : ¬ sign x.toNat < 0) (h2 : ¬ sign y.toNat < 0) : unOk b (l ++ [UInt8.ofNat (16 * sign x.toNat + sign y.toNat).toNat]) := by
  have hl := (List.getElem?_eq_some_iff.1 hy).1
  refine ⟨by simp; omega, ?_⟩
  rw [h.2, unhexL_two hx hy]
  have e : 2 * (l ++ [UInt8.ofNat (16 * sign x.toNat + sign y.toNat).toNat]).length = 2 * l.length + 2 := by simp; omega
  rw [e]
  simp only [unhexL, h1, h2, or_self, if_false]
  cases unhexL (b.drop (2 * l.length + 2)) <;> simp
theorem unOk_end {b l : List UInt8} (h : unOk b l) (he : b.length ≤ 2 * l.length + 1) : unhexL b = if b.length = 2 * l.length then some l else none := by
  rw [h.2]
  by_cases e : b.length = 2 * l.length
  · rw [if_pos e, List.drop_eq_nil_of_le (by omega)]
    simp [unhexL]
  · rw [if_neg e]
    have h1 : (b.drop (2 * l.length)).length = 1 := by rw [List.length_drop]; have := h.1; omega
    match hd : b.drop (2 * l.length), h1 with
    | [x], _ => simp [unhexL]
theorem sign_le (b : UInt8) : sign b.toNat ≤ 15 ∧ -1 ≤ sign b.toNat := by
  unfold sign
  split
  · omega
  · split <;> omega
theorem nib_eb {l : List UInt8} {a b : Int} (ha : 0 ≤ a ∧ a ≤ 15) (hb : 0 ≤ b ∧ b ≤ 15) : l.map eb ++ [[PV.lit (.int .u8 (IntKind.u8.wrap (IntKind.i64.wrap (IntKind.i64.wrap (16 * a) + b))))]] = (l ++ [UInt8.ofNat (16 * a + b).toNat]).map eb := by
  rw [wrap_id (x := 16 * a) (by omega) (by omega), wrap_id (by omega) (by omega)]
  have h1 : IntKind.u8.wrap (16 * a + b) = 16 * a + b := by
    have hb : IntKind.u8.bits = 8 := rfl
    have hs : IntKind.u8.signed = false := rfl
    simp [IntKind.wrap, hb, hs]
    omega
  rw [h1, List.map_append]
  congr 1
  simp only [List.map_cons, List.map_nil, eb]
  congr 5
  rw [UInt8.toNat_ofNat', Nat.mod_eq_of_lt (by omega)]
  omega
/- spec.Unhex -/
theorem spec_Unhex_spec (s : ByteArray) (hs : s.size ≤ 1099511627776) : Pw.Spec Tryz.prog 118 [eS s] (fun res_ => res_ = unhexR s) := by
  refine spec_of (n := 46) Tryz.call118 Tryz.func118 rfl rfl (by simp) rfl rfl fun W Z => ?_
  have hsz : s.data.toList.length = s.size := by rw [Array.length_toList]; rfl
  refine PW.seq ?_
  refine PW.region ?_
  refine PL.run 2 rfl ?_
  refine PL.nil ?_
  refine PW.seq ?_
  refine PW.region ?_
  refine PL.run 2 rfl ?_
  refine PL.nil ?_
  refine PW.seq ?_
  refine PW.seq ?_
  refine PW.region ?_
  refine PL.run 1 rfl ?_
  refine PL.nil ?_
  refine PW.block ?_
  refine PW.loopAt (α := List UInt8) (fun l => ⟨[(4, .sl 1 (l.map eb) (some 8)), (0, eS s), (5, eI ((2 * l.length : Nat) : Int))], ⟨[], [(8, (1, (l.map eb).length))]⟩⟩) (fun l => unOk s.data.toList l) (fun l => s.size - 2 * l.length) [] (Le.row ⟨⟨rfl, rfl⟩, ⟨rfl, rfl⟩, trivial⟩ rfl rfl rfl) ⟨Nat.zero_le _, by simp; cases unhexL s.data.toList <;> rfl⟩ (fun l hl => ?_)
  refine PW.seq ?_
  refine PW.seq ?_
  refine PW.region ?_
  refine PL.run 5 rfl ?_
  refine PL.nil ?_
  refine PW.cond rfl (fun h1 => ?_) (fun h1 => ?_)
  ·
    have hlt : 2 * l.length + 1 < s.size := by
     have := hl.1
     simp only [decide_eq_true_eq] at h1
     rw [wrap_id (by omega) (by omega)] at h1
     omega
    obtain ⟨x, hx⟩ : ∃ x, s.data.toList[2 * l.length]? = some x := ⟨_, List.getElem?_eq_getElem (by omega)⟩
    obtain ⟨y, hy⟩ : ∃ x, s.data.toList[2 * l.length + 1]? = some x := ⟨_, List.getElem?_eq_getElem (by omega)⟩
    have e1 : IntKind.i64.wrap (((2 * l.length : Nat) : Int) + 1) = ((2 * l.length + 1 : Nat) : Int) := by rw [wrap_id (by omega) (by omega)]; rfl
    refine PW.skip ?_
    refine PW.seq ?_
    refine PW.block ?_
    refine PW.seq ?_
    refine PW.drawn ((some 16, _) :: (some 17, _) :: (some 18, _) :: (some 19, _) :: (some 20, _) :: (some 21, _) :: (some 22, _) :: (some 23, _) :: (some 24, _) :: (some 6, _) :: (some 7, _) :: []) (0 :: 0 :: 3 :: 7 :: 0 :: 0 :: 32 :: 112 :: 255 :: 511 :: 1023 :: []) (fun _ => _) mixed rfl rfl rfl rfl rfl
      (.cons rfl (fun ρ => PL.run 1 rfl (PL.nil rfl)) <|
      .cons rfl (fun ρ => PL.run 1 rfl (PL.nil rfl)) <|
      .cons rfl (fun ρ => PL.val (OpV.idxS rfl rfl rfl (b := x) (nat_nonneg _) hx rfl rfl) (wantV_ok rfl) rfl (PL.nil rfl)) <|
      .cons rfl (fun ρ => PL.call rfl rfl rfl (spec_l1Sign_spec ..) (.cons (.refl _) <| .nil) (fun p hp => by subst hp; rfl) (wantV_ok rfl) rfl (fun p hp => by subst hp; exact PL.nil rfl)) <|
      .cons rfl (fun ρ => PL.run 1 rfl (PL.nil rfl)) <|
      .cons rfl (fun ρ => PL.run 1 rfl (PL.nil rfl)) <|
      .cons rfl (fun ρ => PL.run 1 rfl (PL.nil rfl)) <|
      .cons rfl (fun ρ => PL.val (OpV.idxS rfl rfl rfl (b := y) (by rw [e1]; exact nat_nonneg _) (by rw [e1]; exact hy) rfl rfl) (wantV_ok rfl) rfl (PL.nil rfl)) <|
      .cons rfl (fun ρ => PL.call rfl rfl rfl (spec_l1Sign_spec ..) (.cons (.refl _) <| .nil) (fun p hp => by subst hp; rfl) (wantV_ok rfl) rfl (fun p hp => by subst hp; exact PL.nil rfl)) <|
      .cons rfl (fun ρ => PL.run 1 rfl (PL.nil rfl)) <|
      .cons rfl (fun ρ => PL.run 1 rfl (PL.nil rfl)) <|
      .nil _) ?_
    refine PW.seq ?_
    refine PW.seq ?_
    refine PW.region ?_
    refine PL.run 3 rfl ?_
    refine PL.split (t := 27) rfl (fun h2 => ?_) (fun h2 => ?_)
    ·
      refine PL.run 3 rfl ?_
      refine PL.nil ?_
      refine PW.condT rfl ?_
      refine PW.seq ?_
      refine PW.region ?_
      refine PL.run 3 rfl ?_
      refine PL.nil ?_
      refine PW.ret ?_
      refine RetOk.of rfl (.tup (.cons (.leaf (.ro _ _ _)) (.cons (.leaf (.same _ rfl)) .nil))) (by simp) (by simp) ?_
      simp only [decide_eq_true_eq] at h2
      simp [unhexR, unhex, unOk_bad hl hx hy (.inl h2), eBs]
    ·
      refine PL.run 3 rfl ?_
      refine PL.nil ?_
      refine PW.cond rfl (fun h3 => ?_) (fun h3 => ?_)
      ·
        refine PW.seq ?_
        refine PW.region ?_
        refine PL.run 3 rfl ?_
        refine PL.nil ?_
        refine PW.ret ?_
        refine RetOk.of rfl (.tup (.cons (.leaf (.ro _ _ _)) (.cons (.leaf (.same _ rfl)) .nil))) (by simp) (by simp) ?_
        simp only [decide_eq_true_eq] at h3
        simp [unhexR, unhex, unOk_bad hl hx hy (.inr h3), eBs]
      ·
        refine PW.skip ?_
        refine PW.region ?_
        refine PL.run 7 rfl ?_
        refine PL.app rfl rfl rfl rfl rfl rfl rfl rfl rfl rfl (by simp <;> omega) (by simp <;> omega) (wantV_ok rfl) rfl ?_
        refine PL.run 1 rfl ?_
        refine PL.nil ?_
        refine PW.region ?_
        refine PL.run 3 rfl ?_
        refine PL.nil ?_
        simp only [decide_eq_false_iff_not] at h2 h3
        have g1 := sign_le x
        have g2 := sign_le y
        refine ⟨l ++ [UInt8.ofNat (16 * sign x.toNat + sign y.toNat).toNat], Le.row ⟨⟨rfl, rfl⟩, ⟨?_, rfl⟩, trivial⟩ rfl rfl (nib_eb (by omega) (by omega)), unOk_step hl hx hy h2 h3, by simp; omega⟩
        refine Eq.trans (b := some (eI ((2 * l.length + 2 : Nat) : Int))) ?_ (by simp; omega)
        exact congrArg (fun n => some (PV.lit (.int .i64 n))) (by rw [wrap_id (by omega) (by omega)]; rfl)
  ·
    have hge : s.size ≤ 2 * l.length + 1 := by
     have := hl.1
     simp only [decide_eq_false_iff_not] at h1
     rw [wrap_id (by omega) (by omega)] at h1
     omega
    refine PW.exit ?_
    refine PW.seq ?_
    refine PW.seq ?_
    refine PW.region ?_
    refine PL.run 2 rfl ?_
    refine PL.val (OpV.rem rfl rfl rfl (by decide)) (wantV_ok rfl) rfl ?_
    refine PL.run 1 rfl ?_
    refine PL.nil ?_
    refine PW.cond rfl (fun h4 => ?_) (fun h4 => ?_)
    ·
      refine PW.seq ?_
      refine PW.region ?_
      refine PL.run 3 rfl ?_
      refine PL.nil ?_
      refine PW.ret ?_
      refine RetOk.of rfl (.tup (.cons (.leaf (.ro _ _ _)) (.cons (.leaf (.same _ rfl)) .nil))) (by simp) (by simp) ?_
      have hfin := unOk_end hl (by omega)
      simp only [Bool.not_eq_true', decide_eq_false_iff_not] at h4
      rw [Int.tmod_eq_emod_of_nonneg (by omega)] at h4
      rw [if_neg (by omega)] at hfin
      simp [unhexR, unhex, hfin, eBs]
    ·
      refine PW.skip ?_
      refine PW.seq ?_
      refine PW.region ?_
      refine PL.run 3 rfl ?_
      refine PL.nil ?_
      refine PW.ret ?_
      refine RetOk.of rfl (.tup (.cons (.leaf (.ro _ _ _)) (.cons (.leaf (.same _ rfl)) .nil))) (by simp) (by simp) ?_
      have hfin := unOk_end hl (by omega)
      simp only [Bool.not_eq_false', decide_eq_true_eq] at h4
      rw [Int.tmod_eq_emod_of_nonneg (by omega)] at h4
      rw [if_pos (by have := hl.1; omega)] at hfin
      simp [unhexR, unhex, hfin, eBs]
/- spec.l13Route -/
theorem spec_l13Route_spec (s : ByteArray) (hs : s.size ≤ 1099511627776) : Pw.Spec Tryz.prog 84 [eS s] (fun res_ => res_ = eT (isRoute s)) := by
  refine spec_of (n := 16) Tryz.call84 Tryz.func84 rfl rfl (by simp) rfl rfl fun W Z => ?_
  refine PW.seq ?_
  refine PW.region ?_
  refine PL.run 1 rfl ?_
  refine PL.nil ?_
  refine PW.seq ?_
  refine PW.region ?_
  refine PL.run 1 rfl ?_
  refine PL.call rfl rfl rfl (spec_Unhex_spec s hs) (.cons (.refl _) <| .nil) (fun p hp => by subst hp; rfl) (wantV_ok rfl) rfl (fun p hp => ?_)
  subst hp
  refine PL.run 5 rfl ?_
  refine PL.nil ?_
  refine PW.seq ?_
  refine PW.region ?_
  refine PL.run 2 rfl ?_
  refine PL.split (t := 11) rfl (fun h1 => ?_) (fun h1 => ?_)
  ·
    refine PL.run 5 rfl ?_
    refine PL.nil ?_
    refine PW.ret ?_
    refine RetOk.free rfl rfl ?_
    rcases hu : unhex s with _ | l <;> simp_all [isRoute] <;> omega
  ·
    refine PL.run 5 rfl ?_
    refine PL.nil ?_
    refine PW.ret ?_
    refine RetOk.free rfl rfl ?_
    rcases hu : unhex s with _ | l <;> simp_all [isRoute] <;> omega
/- spec.ItemOk -/
theorem spec_ItemOk_spec (x : Item) (hs : x.route.size ≤ 1099511627776) : Pw.Spec Tryz.prog 38 [.agg (eItem x)] (fun res_ => res_ = eT (itemOk x)) := by
  refine spec_of (n := 22) Tryz.call38 Tryz.func38 rfl rfl (by simp) rfl rfl fun W Z => ?_
  refine PW.seq ?_
  refine PW.region ?_
  refine PL.run 2 rfl ?_
  refine PL.nil ?_
  refine PW.seq ?_
  refine PW.region ?_
  refine PL.run 2 rfl ?_
  refine PL.call rfl rfl rfl (spec_l13Route_spec x.route hs) (.cons (.refl _) <| .nil) (fun p hp => by subst hp; rfl) (wantV_ok rfl) rfl (fun p hp => ?_)
  subst hp
  refine PL.run 1 rfl ?_
  refine PL.split (t := 6) rfl (fun h1 => ?_) (fun h1 => ?_)
  ·
    refine PL.run 2 rfl ?_
    refine PL.call rfl rfl rfl (spec_l1In_spec x.topic 0 9) (.cons (.refl _) <| .cons (.refl _) <| .cons (.refl _) <| .nil) (fun p hp => by subst hp; rfl) (wantV_ok rfl) rfl (fun p hp => ?_)
    subst hp
    refine PL.run 2 rfl ?_
    refine PL.split (t := 11) rfl (fun h2 => ?_) (fun h2 => ?_)
    ·
      refine PL.run 2 rfl ?_
      refine PL.call rfl rfl rfl (spec_l1In_spec x.due 0 100000) (.cons (.refl _) <| .cons (.refl _) <| .cons (.refl _) <| .nil) (fun p hp => by subst hp; rfl) (wantV_ok rfl) rfl (fun p hp => ?_)
      subst hp
      refine PL.run 2 rfl ?_
      refine PL.split (t := 16) rfl (fun h3 => ?_) (fun h3 => ?_)
      ·
        refine PL.run 6 rfl ?_
        refine PL.nil ?_
        refine PW.ret ?_
        refine RetOk.free rfl rfl ?_
        simp_all [itemOk] <;> omega
      ·
        refine PL.run 6 rfl ?_
        refine PL.nil ?_
        refine PW.ret ?_
        refine RetOk.free rfl rfl ?_
        simp_all [itemOk] <;> omega
    ·
      refine PL.run 11 rfl ?_
      refine PL.nil ?_
      refine PW.ret ?_
      refine RetOk.free rfl rfl ?_
      simp_all [itemOk] <;> omega
  ·
    refine PL.run 16 rfl ?_
    refine PL.nil ?_
    refine PW.ret ?_
    refine RetOk.free rfl rfl ?_
    simp_all [itemOk] <;> omega
/- spec.l13Item -/
theorem spec_l13Item_spec (x : Item) (h : x.bytes.length ≤ 16777216) : Pw.Spec Tryz.prog 160 [.agg (eItem x)] (fun res_ => res_ = .agg (eItem x)) := by
  refine spec_of (n := 9) Tryz.call160 Tryz.func160 rfl rfl (by simp) rfl rfl fun W Z => ?_
  refine PW.seq ?_
  refine PW.region ?_
  refine PL.run 2 rfl ?_
  refine PL.nil ?_
  refine PW.seq ?_
  refine PW.region ?_
  refine PL.run 3 rfl ?_
  refine PL.app rfl rfl rfl rfl rfl rfl rfl rfl rfl rfl (by simp <;> omega) (by simp <;> omega) (wantV_ok rfl) rfl ?_
  refine PL.run 2 rfl ?_
  refine PL.nil ?_
  refine PW.seq ?_
  refine PW.region ?_
  refine PL.run 2 rfl ?_
  refine PL.nil ?_
  refine PW.ret ?_
  refine RetOk.of rfl (.one (.agg (.cons (.same _ rfl) (.cons (.same _ rfl) (.cons (.same _ rfl) (.cons (.ro _ _ _) .nil)))))) (by simp) (by simp) ?_
  simp [eItem, eBs]
end Go.Wl
