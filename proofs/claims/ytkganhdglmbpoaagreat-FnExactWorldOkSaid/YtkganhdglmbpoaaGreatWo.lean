/- The walks, fourteenth text: bytes, routes, items, lines (the program's). -/
import Derived.Test.YtkganhdglmbpoaaGreatWn
import Derived.Laws.Externs
set_option linter.unusedVariables false
set_option linter.unusedSimpArgs false
set_option maxRecDepth 100000
set_option maxHeartbeats 8000000
namespace Go.Wl
open Go Go.RowKit Go.Pw Go.Proofs
theorem byte_back (c : UInt8) : ((c.toNat : Nat) : Int).toNat.toUInt8 = c := by simp
theorem idx_run (s : ByteArray) (c : UInt8) : ∀ W, (callFunc 165 ([Value.string s, Value.int .u8 (c.toNat : Int)] : List Value).toArray).run Tryz.prog W = .ok (.value (.int .i64 (Lib.indexByte s.data.toList c))) W := fun W => by
  have := run_callFunc_extern Tryz.func165 (by kernel_rfl) (by kernel_rfl) (by kernel_rfl) (e := Extern.BytealgIndexByte.indexByte) (by kernel_rfl) #[Value.string s, Value.int .u8 (c.toNat : Int)] W
  rw [Lib.run_indexByteString, byte_back] at this
  exact this
/- internal/stringslite.IndexByte -/
theorem internal_stringslite_IndexByte_spec (s : ByteArray) (c : UInt8) : Pw.Spec Tryz.prog 163 [eS s, .lit (.int .u8 (c.toNat : Int))] (fun res_ => res_ = eI (Lib.indexByte s.data.toList c)) := by
  refine spec_of (n := 8) Tryz.call163 Tryz.func163 rfl rfl (by simp) rfl rfl fun W Z => ?_
  refine PW.seq ?_
  refine PW.region ?_
  refine PL.run 1 rfl ?_
  refine PL.nil ?_
  refine PW.seq ?_
  refine PW.region ?_
  refine PL.run 2 rfl ?_
  refine PL.val (OpV.ext (vs := [.string s, .int .u8 (c.toNat : Int)]) rfl rfl rfl (idx_run s c)) (wantV_ok rfl) rfl ?_
  refine PL.run 1 rfl ?_
  refine PL.nil ?_
  refine PW.ret ?_
  refine RetOk.free rfl rfl rfl
/- strings.IndexByte -/
theorem strings_IndexByte_spec (s : ByteArray) (c : UInt8) : Pw.Spec Tryz.prog 154 [eS s, .lit (.int .u8 (c.toNat : Int))] (fun res_ => res_ = eI (Lib.indexByte s.data.toList c)) := by
  refine spec_of (n := 8) Tryz.call154 Tryz.func154 rfl rfl (by simp) rfl rfl fun W Z => ?_
  refine PW.seq ?_
  refine PW.region ?_
  refine PL.run 1 rfl ?_
  refine PL.nil ?_
  refine PW.seq ?_
  refine PW.region ?_
  refine PL.run 2 rfl ?_
  refine PL.call rfl rfl rfl (internal_stringslite_IndexByte_spec s c) (.cons (.refl _) <| .cons (.refl _) <| .nil) (fun p hp => by subst hp; rfl) (wantV_ok rfl) rfl (fun p hp => ?_)
  subst hp
  refine PL.run 1 rfl ?_
  refine PL.nil ?_
  refine PW.ret ?_
  refine RetOk.free rfl rfl rfl
theorem idx_signsN : ∀ n : Nat, n < 256 → Lib.indexByte signs.data.toList (UInt8.ofNat n) = sign n := by decide +kernel
theorem idx_signs (c : UInt8) : Lib.indexByte signs.data.toList c = sign c.toNat := by
  have := idx_signsN c.toNat c.toNat_lt
  rwa [UInt8.ofNat_toNat] at this
theorem impl_idx (c : UInt8) : Pw.Spec Tryz.prog 154 [eS signs, .lit (.int .u8 (c.toNat : Int))] (fun r => r = eI (sign c.toNat)) :=
  (strings_IndexByte_spec signs c).mono fun p hp => by rw [hp, idx_signs]
theorem nib2N : ∀ a : Nat, a < 16 → ∀ b : Nat, b < 16 → IntKind.u8.wrap (bits .or .i64 (IntKind.i64.wrap ((a : Int) * 2 ^ min (4 : Int).toNat IntKind.i64.bits)) (b : Int)) = ((16 * a + b : Nat) : Int) := by decide +kernel
theorem nib2 {l : List UInt8} {a b : Int} (ha : 0 ≤ a ∧ a ≤ 15) (hb : 0 ≤ b ∧ b ≤ 15) : l.map eb ++ [[PV.lit (.int .u8 (IntKind.u8.wrap (bits .or .i64 (IntKind.i64.wrap (a * 2 ^ min (4 : Int).toNat IntKind.i64.bits)) b)))]] = (l ++ [UInt8.ofNat (16 * a + b).toNat]).map eb := by
  obtain ⟨m, rfl⟩ : ∃ m : Nat, a = m := ⟨a.toNat, by omega⟩
  obtain ⟨n, rfl⟩ : ∃ m : Nat, b = m := ⟨b.toNat, by omega⟩
  rw [nib2N m (by omega) n (by omega), List.map_append]
  congr 1
  simp only [List.map_cons, List.map_nil, eb]
  congr 5
  rw [UInt8.toNat_ofNat', Nat.mod_eq_of_lt (by omega)]
  omega
theorem unhexL_even : ∀ (b l : List UInt8), unhexL b = some l → b.length = 2 * l.length
  | [], l, h => by simp [unhexL] at h; subst h; rfl
  | [_], l, h => by simp [unhexL] at h
  | x :: y :: r, l, h => by
    simp only [unhexL] at h
    split at h
    · cases h
    · split at h
      · rename_i l' hl
        cases h
        have := unhexL_even r l' hl
        simp; omega
      · cases h
theorem unhex_odd {s : ByteArray} (h : s.size % 2 ≠ 0) : unhex s = none := by
  cases hu : unhex s with
  | none => rfl
  | some l =>
    have := unhexL_even _ l hu
    have hsz : s.data.toList.length = s.size := by rw [Array.length_toList]; rfl
    omega
/- impl.Unhex -/
theorem impl_Unhex_spec (s : ByteArray) (hs : s.size ≤ 1099511627776) : Pw.Spec Tryz.prog 130 [eS s] (fun res_ => res_ = unhexR s) := by
  refine spec_of (n := 43) Tryz.call130 Tryz.func130 rfl rfl (by simp) rfl rfl fun W Z => ?_
  have hsz : s.data.toList.length = s.size := by rw [Array.length_toList]; rfl
  refine PW.seq ?_
  refine PW.region ?_
  refine PL.run 2 rfl ?_
  refine PL.nil ?_
  refine PW.seq ?_
  refine PW.seq ?_
  refine PW.region ?_
  refine PL.run 2 rfl ?_
  refine PL.val (OpV.rem rfl rfl rfl (by decide)) (wantV_ok rfl) rfl ?_
  refine PL.run 1 rfl ?_
  refine PL.nil ?_
  refine PW.cond rfl (fun h1 => ?_) (fun h1 => ?_)
  ·
    refine PW.seq ?_
    refine PW.region ?_
    refine PL.run 2 rfl ?_
    refine PL.nil ?_
    refine PW.ret ?_
    refine RetOk.of rfl (.tup (.cons (.leaf (.nil0 1)) (.cons (.leaf (.same _ rfl)) .nil))) (by simp) (by simp) ?_
    have : unhex s = none := unhex_odd (by simp only [Bool.not_eq_true', decide_eq_false_iff_not] at h1; rw [Int.tmod_eq_emod_of_nonneg (by omega)] at h1; omega)
    simp [unhexR, this, eBs]
  ·
    have heven : s.size % 2 = 0 := by
     simp only [Bool.not_eq_false', decide_eq_true_eq] at h1
     rw [Int.tmod_eq_emod_of_nonneg (by omega)] at h1
     omega
    clear h1
    refine PW.skip ?_
    refine PW.seq ?_
    refine PW.region ?_
    refine PL.run 2 rfl ?_
    refine PL.nil ?_
    refine PW.seq ?_
    refine PW.seq ?_
    refine PW.region ?_
    refine PL.run 1 rfl ?_
    refine PL.nil ?_
    refine PW.block ?_
    refine PW.loopAt (α := List UInt8) (fun l => ⟨[(4, .sl 1 (l.map eb) (some 12)), (0, eS s), (5, eI ((2 * l.length : Nat) : Int))], ⟨[], [(12, (1, (l.map eb).length))]⟩⟩) (fun l => unOk s.data.toList l) (fun l => s.size - 2 * l.length) [] (Le.row ⟨⟨rfl, rfl⟩, ⟨rfl, rfl⟩, trivial⟩ rfl rfl rfl) ⟨Nat.zero_le _, by simp; cases unhexL s.data.toList <;> rfl⟩ (fun l hl => ?_)
    refine PW.seq ?_
    refine PW.seq ?_
    refine PW.region ?_
    refine PL.run 4 rfl ?_
    refine PL.nil ?_
    refine PW.cond rfl (fun h2 => ?_) (fun h2 => ?_)
    ·
      have hlt : 2 * l.length + 1 < s.size := by
       have := hl.1
       have := of_decide_eq_true h2
       omega
      clear h2
      obtain ⟨x, hx⟩ : ∃ x, s.data.toList[2 * l.length]? = some x := ⟨_, List.getElem?_eq_getElem (by omega)⟩
      obtain ⟨y, hy⟩ : ∃ x, s.data.toList[2 * l.length + 1]? = some x := ⟨_, List.getElem?_eq_getElem (by omega)⟩
      have e1 : IntKind.i64.wrap (((2 * l.length : Nat) : Int) + 1) = ((2 * l.length + 1 : Nat) : Int) := by rw [wrap_id (by omega) (by omega)]; rfl
      refine PW.skip ?_
      refine PW.seq ?_
      refine PW.block ?_
      refine PW.seq ?_
      refine PW.drawn ((some 19, _) :: (some 20, _) :: (some 21, _) :: (some 22, _) :: (some 23, _) :: (some 24, _) :: (some 25, _) :: (some 26, _) :: (some 27, _) :: (some 6, _) :: (some 7, _) :: []) (0 :: 0 :: 3 :: 7 :: 0 :: 0 :: 32 :: 112 :: 255 :: 511 :: 1023 :: []) (fun _ => _) mixed rfl rfl rfl rfl rfl
        (.cons rfl (fun ρ => PL.run 1 rfl (PL.nil rfl)) <|
        .cons rfl (fun ρ => PL.run 1 rfl (PL.nil rfl)) <|
        .cons rfl (fun ρ => PL.val (OpV.idxS rfl rfl rfl (b := x) (nat_nonneg _) hx rfl rfl) (wantV_ok rfl) rfl (PL.nil rfl)) <|
        .cons rfl (fun ρ => PL.call rfl rfl rfl (impl_idx x) (.cons (.refl _) <| .cons (.refl _) <| .nil) (fun p hp => by subst hp; rfl) (wantV_ok rfl) rfl (fun p hp => by subst hp; exact PL.nil rfl)) <|
        .cons rfl (fun ρ => PL.run 1 rfl (PL.nil rfl)) <|
        .cons rfl (fun ρ => PL.run 1 rfl (PL.nil rfl)) <|
        .cons rfl (fun ρ => PL.run 1 rfl (PL.nil rfl)) <|
        .cons rfl (fun ρ => PL.val (OpV.idxS rfl rfl rfl (b := y) (by rw [e1]; exact nat_nonneg _) (by rw [e1]; exact hy) rfl rfl) (wantV_ok rfl) rfl (PL.nil rfl)) <|
        .cons rfl (fun ρ => PL.call rfl rfl rfl (impl_idx y) (.cons (.refl _) <| .cons (.refl _) <| .nil) (fun p hp => by subst hp; rfl) (wantV_ok rfl) rfl (fun p hp => by subst hp; exact PL.nil rfl)) <|
        .cons rfl (fun ρ => PL.run 1 rfl (PL.nil rfl)) <|
        .cons rfl (fun ρ => PL.run 1 rfl (PL.nil rfl)) <|
        .nil _) ?_
      refine PW.seq ?_
      refine PW.seq ?_
      refine PW.region ?_
      refine PL.run 3 rfl ?_
      refine PL.split (t := 30) rfl (fun h3 => ?_) (fun h3 => ?_)
      ·
        refine PL.run 3 rfl ?_
        refine PL.nil ?_
        refine PW.condT rfl ?_
        refine PW.seq ?_
        refine PW.region ?_
        refine PL.run 2 rfl ?_
        refine PL.nil ?_
        refine PW.ret ?_
        refine RetOk.of rfl (.tup (.cons (.leaf (.nil0 1)) (.cons (.leaf (.same _ rfl)) .nil))) (by simp) (by simp) ?_
        simp only [decide_eq_true_eq] at h3
        simp [unhexR, unhex, unOk_bad hl hx hy (.inl h3), eBs]
      ·
        refine PL.run 3 rfl ?_
        refine PL.nil ?_
        refine PW.cond rfl (fun h4 => ?_) (fun h4 => ?_)
        ·
          refine PW.seq ?_
          refine PW.region ?_
          refine PL.run 2 rfl ?_
          refine PL.nil ?_
          refine PW.ret ?_
          refine RetOk.of rfl (.tup (.cons (.leaf (.nil0 1)) (.cons (.leaf (.same _ rfl)) .nil))) (by simp) (by simp) ?_
          simp only [decide_eq_true_eq] at h4
          simp [unhexR, unhex, unOk_bad hl hx hy (.inr h4), eBs]
        ·
          refine PW.skip ?_
          refine PW.region ?_
          refine PL.run 2 rfl ?_
          refine PL.val (OpV.shl rfl rfl rfl (by decide)) (wantV_ok rfl) rfl ?_
          refine PL.run 4 rfl ?_
          refine PL.app rfl rfl rfl rfl rfl rfl rfl rfl rfl rfl (by simp <;> omega) (by simp <;> omega) (wantV_ok rfl) rfl ?_
          refine PL.run 1 rfl ?_
          refine PL.nil ?_
          refine PW.region ?_
          refine PL.run 3 rfl ?_
          refine PL.nil ?_
          simp only [decide_eq_false_iff_not] at h3 h4
          have g1 := sign_le x
          have g2 := sign_le y
          refine ⟨l ++ [UInt8.ofNat (16 * sign x.toNat + sign y.toNat).toNat], Le.row ⟨⟨rfl, rfl⟩, ⟨?_, rfl⟩, trivial⟩ rfl rfl (nib2 (by omega) (by omega)), unOk_step hl hx hy h3 h4, by simp; omega⟩
          refine Eq.trans (b := some (eI ((2 * l.length + 2 : Nat) : Int))) ?_ (by simp; omega)
          exact congrArg (fun n => some (PV.lit (.int .i64 n))) (by rw [wrap_id (by omega) (by omega)]; rfl)
    ·
      refine PW.exit ?_
      refine PW.seq ?_
      refine PW.region ?_
      refine PL.run 3 rfl ?_
      refine PL.nil ?_
      refine PW.ret ?_
      refine RetOk.of rfl (.tup (.cons (.leaf (.ro _ _ _)) (.cons (.leaf (.same _ rfl)) .nil))) (by simp) (by simp) ?_
      have hge : s.size ≤ 2 * l.length := by
       have := of_decide_eq_false h2
       omega
      have hfin := unOk_end hl (by omega)
      rw [if_pos (by have := hl.1; omega)] at hfin
      simp [unhexR, unhex, hfin, eBs]
/- impl.isRoute -/
theorem impl_isRoute_spec (s : ByteArray) (hs : s.size ≤ 1099511627776) : Pw.Spec Tryz.prog 99 [eS s] (fun res_ => res_ = eT (isRoute s)) := by
  refine spec_of (n := 16) Tryz.call99 Tryz.func99 rfl rfl (by simp) rfl rfl fun W Z => ?_
  have hsz : s.data.toList.length = s.size := by rw [Array.length_toList]; rfl
  refine PW.seq ?_
  refine PW.region ?_
  refine PL.run 1 rfl ?_
  refine PL.nil ?_
  refine PW.seq ?_
  refine PW.region ?_
  refine PL.run 1 rfl ?_
  refine PL.call rfl rfl rfl (impl_Unhex_spec s hs) (.cons (.refl _) <| .nil) (fun p hp => by subst hp; rfl) (wantV_ok rfl) rfl (fun p hp => ?_)
  subst hp
  refine PL.run 5 rfl ?_
  refine PL.nil ?_
  refine PW.seq ?_
  refine PW.region ?_
  refine PL.run 2 rfl ?_
  refine PL.split (t := 11) rfl (fun h1 => ?_) (fun h1 => ?_)
  ·
    refine PL.run 5 rfl ?_
    refine PL.nil ?_
    refine PW.ret ?_
    refine RetOk.free rfl rfl (congrArg eT ?_)
    rcases hu : unhex s with _ | l
    · simp_all [isRoute]
    · have := unhexL_even _ l hu
      simp_all [isRoute]
      try omega
  ·
    refine PL.run 5 rfl ?_
    refine PL.nil ?_
    refine PW.ret ?_
    refine RetOk.free rfl rfl (congrArg eT ?_)
    rcases hu : unhex s with _ | l
    · simp_all [isRoute]
    · have := unhexL_even _ l hu
      simp_all [isRoute]
      try omega
/- impl.ItemOk -/
theorem impl_ItemOk_spec (x : Item) (hs : x.route.size ≤ 1099511627776) : Pw.Spec Tryz.prog 96 [.agg (eItem x)] (fun res_ => res_ = eT (itemOk x)) := by
  refine spec_of (n := 22) Tryz.call96 Tryz.func96 rfl rfl (by simp) rfl rfl fun W Z => ?_
  refine PW.seq ?_
  refine PW.region ?_
  refine PL.run 2 rfl ?_
  refine PL.nil ?_
  refine PW.seq ?_
  refine PW.region ?_
  refine PL.run 2 rfl ?_
  refine PL.call rfl rfl rfl (impl_isRoute_spec x.route hs) (.cons (.refl _) <| .nil) (fun p hp => by subst hp; rfl) (wantV_ok rfl) rfl (fun p hp => ?_)
  subst hp
  refine PL.run 1 rfl ?_
  refine PL.split (t := 6) rfl (fun h1 => ?_) (fun h1 => ?_)
  ·
    refine PL.run 2 rfl ?_
    refine PL.call rfl rfl rfl (impl_in_spec x.topic 0 9) (.cons (.refl _) <| .cons (.refl _) <| .cons (.refl _) <| .nil) (fun p hp => by subst hp; rfl) (wantV_ok rfl) rfl (fun p hp => ?_)
    subst hp
    refine PL.run 2 rfl ?_
    refine PL.split (t := 11) rfl (fun h2 => ?_) (fun h2 => ?_)
    ·
      refine PL.run 2 rfl ?_
      refine PL.call rfl rfl rfl (impl_in_spec x.due 0 100000) (.cons (.refl _) <| .cons (.refl _) <| .cons (.refl _) <| .nil) (fun p hp => by subst hp; rfl) (wantV_ok rfl) rfl (fun p hp => ?_)
      subst hp
      refine PL.run 2 rfl ?_
      refine PL.split (t := 16) rfl (fun h3 => ?_) (fun h3 => ?_)
      ·
        refine PL.run 6 rfl ?_
        refine PL.nil ?_
        refine PW.ret ?_
        refine RetOk.free rfl rfl (congrArg eT ?_)
        simp_all [itemOk]
        try omega
      ·
        refine PL.run 6 rfl ?_
        refine PL.nil ?_
        refine PW.ret ?_
        refine RetOk.free rfl rfl (congrArg eT ?_)
        simp_all [itemOk]
        try omega
    ·
      refine PL.run 11 rfl ?_
      refine PL.nil ?_
      refine PW.ret ?_
      refine RetOk.free rfl rfl (congrArg eT ?_)
      simp_all [itemOk]
      try omega
  ·
    refine PL.run 16 rfl ?_
    refine PL.nil ?_
    refine PW.ret ?_
    refine RetOk.free rfl rfl (congrArg eT ?_)
    simp_all [itemOk]
    try omega
/- impl.Of -/
theorem impl_Of_spec (q : List Item) (r : ByteArray) (hq : q.length ≤ 1099511627776) : Pw.Spec Tryz.prog 120 [eItems q, eS r] (fun res_ => res_ = eI (ofN q r : Nat)) := by
  refine spec_of (n := 22) Tryz.call120 Tryz.func120 rfl rfl (by simp) rfl rfl fun W Z => ?_
  refine PW.seq ?_
  refine PW.region ?_
  refine PL.run 1 rfl ?_
  refine PL.nil ?_
  refine PW.seq ?_
  refine PW.region ?_
  refine PL.run 1 rfl ?_
  refine PL.nil ?_
  refine PW.seq ?_
  refine PW.seq ?_
  refine PW.region ?_
  refine PL.run 3 rfl ?_
  refine PL.nil ?_
  refine PW.block ?_
  refine PW.loopAt (α := Nat) (fun i => ⟨[(8, eItems q), (9, eI ((q.map eItem).length : Nat)), (1, eS r), (5, eI (ofN (q.take i) r : Nat)), (10, eI (i : Int))], PH.none⟩) (fun i => i ≤ q.length) (fun i => q.length - i) 0 Le.free (Nat.zero_le _) (fun i hi => ?_)
  refine PW.seq ?_
  refine PW.region ?_
  refine PL.run 1 rfl ?_
  refine PL.nil ?_
  refine PW.seq ?_
  refine PW.cond rfl (fun h1 => ?_) (fun h1 => ?_)
  ·
    have hlt : i < q.length := by simpa using h1
    obtain ⟨y, hy⟩ : ∃ y, q[i]? = some y := ⟨_, List.getElem?_eq_getElem hlt⟩
    have hb := ofN_le q r i
    refine PW.skip ?_
    refine PW.seq ?_
    refine PW.block ?_
    refine PW.seq ?_
    refine PW.region ?_
    refine PL.val (OpV.idx rfl rfl rfl (nat_nonneg i) (map_at' hy) rfl rfl rfl rfl) (wantV_ok rfl) rfl ?_
    refine PL.run 3 rfl ?_
    refine PL.nil ?_
    refine PW.seq ?_
    refine PW.region ?_
    refine PL.run 4 rfl ?_
    refine PL.nil ?_
    refine PW.cond rfl (fun h2 => ?_) (fun h2 => ?_)
    ·
      refine PW.region ?_
      refine PL.run 3 rfl ?_
      refine PL.nil ?_
      refine PW.region ?_
      refine PL.run 2 rfl ?_
      refine PL.nil ?_
      refine ⟨i + 1, Le.free ⟨⟨rfl, rfl⟩, ⟨rfl, rfl⟩, ⟨rfl, rfl⟩, ⟨?_, rfl⟩, ⟨inc_ok (by omega), rfl⟩, trivial⟩, hlt, by omega⟩
      have := ofN_step (r := r) hy (by omega)
      rw [h2] at this
      exact this
    ·
      refine PW.skip ?_
      refine PW.region ?_
      refine PL.run 2 rfl ?_
      refine PL.nil ?_
      refine ⟨i + 1, Le.free ⟨⟨rfl, rfl⟩, ⟨rfl, rfl⟩, ⟨rfl, rfl⟩, ⟨?_, rfl⟩, ⟨inc_ok (by omega), rfl⟩, trivial⟩, hlt, by omega⟩
      have := ofN_step (r := r) hy (by omega)
      rw [h2] at this
      refine Eq.trans ?_ this
      exact congrArg (fun n => some (PV.lit (.int .i64 n))) (by simp only [bit]; rw [wrap_id (by simp <;> omega) (by simp <;> omega)]; simp)
  ·
    have hge : q.length ≤ i := by simpa using h1
    refine PW.exit ?_
    refine PW.seq ?_
    refine PW.region ?_
    refine PL.run 2 rfl ?_
    refine PL.nil ?_
    refine PW.ret ?_
    refine RetOk.free rfl rfl ?_
    rw [List.take_of_length_le hge]
/- impl.noItem -/
theorem impl_noItem_spec (x : Item) : Pw.Spec Tryz.prog 97 [.agg (eItem x)] (fun res_ => res_ = eT (noItem x)) := by
  refine spec_of (n := 22) Tryz.call97 Tryz.func97 rfl rfl (by simp) rfl rfl fun W Z => ?_
  refine PW.seq ?_
  refine PW.region ?_
  refine PL.run 2 rfl ?_
  refine PL.nil ?_
  refine PW.seq ?_
  refine PW.region ?_
  refine PL.run 4 rfl ?_
  refine PL.split (t := 6) rfl (fun h1 => ?_) (fun h1 => ?_)
  ·
    refine PL.run 5 rfl ?_
    refine PL.split (t := 11) rfl (fun h2 => ?_) (fun h2 => ?_)
    ·
      refine PL.run 5 rfl ?_
      refine PL.split (t := 16) rfl (fun h3 => ?_) (fun h3 => ?_)
      ·
        refine PL.run 6 rfl ?_
        refine PL.nil ?_
        refine PW.ret ?_
        refine RetOk.free rfl rfl (congrArg eT ?_)
        try simp only [dlen0] at *
        simp_all [noItem, noText]
      ·
        refine PL.run 6 rfl ?_
        refine PL.nil ?_
        refine PW.ret ?_
        refine RetOk.free rfl rfl (congrArg eT ?_)
        try simp only [dlen0] at *
        simp_all [noItem, noText]
    ·
      refine PL.run 11 rfl ?_
      refine PL.nil ?_
      refine PW.ret ?_
      refine RetOk.free rfl rfl (congrArg eT ?_)
      try simp only [dlen0] at *
      simp_all [noItem, noText]
  ·
    refine PL.run 16 rfl ?_
    refine PL.nil ?_
    refine PW.ret ?_
    refine RetOk.free rfl rfl (congrArg eT ?_)
    try simp only [dlen0] at *
    simp_all [noItem, noText]
/- impl.keyOf -/
theorem impl_keyOf_spec (s : List UInt8) (n : Int) : Pw.Spec Tryz.prog 92 [eBs s, eI n] (fun res_ => res_ = eT (decide (s.length = 32) && inB n 0 40)) := by
  refine spec_of (n := 12) Tryz.call92 Tryz.func92 rfl rfl (by simp) rfl rfl fun W Z => ?_
  refine PW.seq ?_
  refine PW.region ?_
  refine PL.run 1 rfl ?_
  refine PL.nil ?_
  refine PW.seq ?_
  refine PW.region ?_
  refine PL.run 4 rfl ?_
  refine PL.split (t := 8) rfl (fun h1 => ?_) (fun h1 => ?_)
  ·
    refine PL.run 1 rfl ?_
    refine PL.call rfl rfl rfl (impl_in_spec n 0 40) (.cons (.refl _) <| .cons (.refl _) <| .cons (.refl _) <| .nil) (fun p hp => by subst hp; rfl) (wantV_ok rfl) rfl (fun p hp => ?_)
    subst hp
    refine PL.run 2 rfl ?_
    refine PL.nil ?_
    refine PW.ret ?_
    refine RetOk.free rfl rfl (congrArg eT ?_)
    have : s.length = 32 := by simp at h1; omega
    simp [this]
  ·
    refine PL.run 4 rfl ?_
    refine PL.nil ?_
    refine PW.ret ?_
    refine RetOk.free rfl rfl (congrArg eT ?_)
    have : ¬ s.length = 32 := by simp at h1; omega
    simp [this]
/- bytes.Equal -/
theorem bytes_Equal_spec (a b : List UInt8) : Pw.Spec Tryz.prog 110 [eBs a, eBs b] (fun res_ => res_ = eT (decide (a = b))) := by
  refine spec_of (n := 10) Tryz.call110 Tryz.func110 rfl rfl (by simp) rfl rfl fun W Z => ?_
  refine PW.seq ?_
  refine PW.region ?_
  refine PL.run 1 rfl ?_
  refine PL.nil ?_
  refine PW.seq ?_
  refine PW.region ?_
  refine PL.run 1 rfl ?_
  refine PL.val (OpV.toStr a rfl rfl rfl rfl rfl rfl rfl rfl rfl) (wantV_ok rfl) rfl ?_
  refine PL.run 1 rfl ?_
  refine PL.val (OpV.toStr b rfl rfl rfl rfl rfl rfl rfl rfl rfl) (wantV_ok rfl) rfl ?_
  refine PL.run 2 rfl ?_
  refine PL.nil ?_
  refine PW.ret ?_
  refine RetOk.free rfl rfl ?_
  simp [strOf_inj]
/- impl.Same -/
theorem impl_Same_spec (a b : List UInt8) : Pw.Spec Tryz.prog 71 [eBs a, eBs b] (fun res_ => res_ = eT (decide (a = b))) := by
  refine spec_of (n := 8) Tryz.call71 Tryz.func71 rfl rfl (by simp) rfl rfl fun W Z => ?_
  refine PW.seq ?_
  refine PW.region ?_
  refine PL.run 1 rfl ?_
  refine PL.nil ?_
  refine PW.seq ?_
  refine PW.region ?_
  refine PL.run 2 rfl ?_
  refine PL.call rfl rfl rfl (bytes_Equal_spec a b) (.cons (.refl _) <| .cons (.refl _) <| .nil) (fun p hp => by subst hp; rfl) (wantV_ok rfl) rfl (fun p hp => ?_)
  subst hp
  refine PL.run 1 rfl ?_
  refine PL.nil ?_
  refine PW.ret ?_
  refine RetOk.free rfl rfl rfl
/- slices.Clone[[]byte,byte] -/
theorem slices_Clone__byte_byte_spec (l : List UInt8) (h : l.length ≤ 16777216) : Pw.Spec Tryz.prog 58 [eBs l] (fun res_ => res_ = eBs l) := by
  refine spec_of (n := 8) Tryz.call58 Tryz.func58 rfl rfl (by simp) rfl rfl fun W Z => ?_
  refine PW.seq ?_
  refine PW.region ?_
  refine PL.run 1 rfl ?_
  refine PL.nil ?_
  refine PW.seq ?_
  refine PW.seq ?_
  refine PW.region ?_
  refine PL.run 1 rfl ?_
  refine PL.isNil rfl rfl rfl rfl rfl (wantV_ok rfl) rfl (fun b1 hb1 => ?_)
  refine PL.nil ?_
  refine PW.cond rfl (fun h1 => ?_) (fun h1 => ?_)
  ·
    refine PW.seq ?_
    refine PW.region ?_
    refine PL.run 1 rfl ?_
    refine PL.nil ?_
    refine PW.ret ?_
    refine RetOk.of rfl (.one (.leaf (.nil0 1))) (by simp) (by simp) ?_
    have := hb1 h1
    simp at this
    subst this; rfl
  ·
    refine PW.skip ?_
    refine PW.seq ?_
    refine PW.region ?_
    refine PL.run 2 rfl ?_
    refine PL.app rfl rfl rfl rfl rfl rfl rfl rfl rfl rfl (by simp <;> omega) (by simp <;> omega) (wantV_ok rfl) rfl ?_
    refine PL.run 1 rfl ?_
    refine PL.nil ?_
    refine PW.ret ?_
    refine RetOk.of rfl (.one (.leaf (.ro _ _ _))) (by simp) (by simp) rfl
/- impl.cloneItem -/
theorem impl_cloneItem_spec (x : Item) (h : x.bytes.length ≤ 16777216) : Pw.Spec Tryz.prog 150 [.agg (eItem x)] (fun res_ => res_ = .agg (eItem x)) := by
  refine spec_of (n := 8) Tryz.call150 Tryz.func150 rfl rfl (by simp) rfl rfl fun W Z => ?_
  refine PW.seq ?_
  refine PW.region ?_
  refine PL.run 2 rfl ?_
  refine PL.nil ?_
  refine PW.seq ?_
  refine PW.region ?_
  refine PL.run 2 rfl ?_
  refine PL.call rfl rfl rfl (slices_Clone__byte_byte_spec x.bytes h) (.cons (.refl _) <| .nil) (fun p hp => by subst hp; rfl) (wantV_ok rfl) rfl (fun p hp => ?_)
  subst hp
  refine PL.run 2 rfl ?_
  refine PL.nil ?_
  refine PW.seq ?_
  refine PW.region ?_
  refine PL.run 2 rfl ?_
  refine PL.nil ?_
  refine PW.ret ?_
  refine RetOk.free rfl rfl rfl
/- impl.itemOf -/
theorem impl_itemOf_spec (l : Line) (h : l.bytes.length ≤ 16777216) : Pw.Spec Tryz.prog 124 [.agg (eLine l)] (fun res_ => res_ = .agg (eItem (itemOf l))) := by
  refine spec_of (n := 13) Tryz.call124 Tryz.func124 rfl rfl (by simp) rfl rfl fun W Z => ?_
  refine PW.seq ?_
  refine PW.region ?_
  refine PL.run 2 rfl ?_
  refine PL.nil ?_
  refine PW.seq ?_
  refine PW.drawn ((some 3, _) :: (some 4, _) :: (some 5, _) :: (some 6, _) :: (some 7, _) :: (some 8, _) :: (some 9, _) :: (some 10, _) :: (some 11, _) :: (some 12, _) :: (none, .junk) :: []) (0 :: 1 :: 0 :: 4 :: 0 :: 16 :: 0 :: 64 :: 192 :: 511 :: 1023 :: []) (phs [(10, _)] _ [] _) mixed rfl rfl rfl rfl rfl
    (.cons rfl (fun ρ => PL.run 1 rfl (PL.nil rfl)) <|
    .cons rfl (fun ρ => PL.run 1 rfl (PL.nil rfl)) <|
    .cons rfl (fun ρ => PL.run 1 rfl (PL.nil rfl)) <|
    .cons rfl (fun ρ => PL.run 1 rfl (PL.nil rfl)) <|
    .cons rfl (fun ρ => PL.run 1 rfl (PL.nil rfl)) <|
    .cons rfl (fun ρ => PL.run 1 rfl (PL.nil rfl)) <|
    .cons rfl (fun ρ => PL.run 1 rfl (PL.nil rfl)) <|
    .cons rfl (fun ρ => PL.run 1 rfl (PL.nil rfl)) <|
    .cons rfl (fun ρ => PL.call rfl rfl rfl (slices_Clone__byte_byte_spec l.bytes h) (.cons (.refl _) <| .nil) (fun p hp => by subst hp; rfl) (wantV_ok rfl) rfl (fun p hp => by subst hp; exact PL.nil rfl)) <|
    .cons rfl (fun ρ => PL.val (OpV.build rfl rfl rfl rfl rfl rfl) (wantV_ok rfl) rfl (PL.nil rfl)) <|
    .cons rfl (fun ρ => PL.run 1 rfl (PL.nil rfl)) <|
    .nil _) ?_
  refine PW.ret ?_
  refine RetOk.free rfl rfl rfl
/- impl.LineOk -/
theorem impl_LineOk_spec (l : Line) (h : l.bytes.length ≤ 16777216) (hs : l.route.size ≤ 1099511627776) : Pw.Spec Tryz.prog 162 [.agg (eLine l)] (fun res_ => res_ = eT (lineOk l)) := by
  refine spec_of (n := 52) Tryz.call162 Tryz.func162 rfl rfl (by simp) rfl rfl fun W Z => ?_
  refine PW.seq ?_
  refine PW.region ?_
  refine PL.run 2 rfl ?_
  refine PL.nil ?_
  refine PW.seq ?_
  refine PW.seq ?_
  refine PW.region ?_
  refine PL.run 2 rfl ?_
  refine PL.nil ?_
  refine PW.block ?_
  refine PW.seq ?_
  refine PW.region ?_
  refine PL.run 2 rfl ?_
  refine PL.nil ?_
  refine PW.cond rfl (fun h1 => ?_) (fun h1 => ?_)
  ·
    refine PW.seq ?_
    refine PW.region ?_
    refine PL.run 1 rfl ?_
    refine PL.call rfl rfl rfl (impl_itemOf_spec l h) (.cons (.refl _) <| .nil) (fun p hp => by subst hp; rfl) (wantV_ok rfl) rfl (fun p hp => ?_)
    subst hp
    refine PL.call rfl rfl rfl (impl_ItemOk_spec (itemOf l) hs) (.cons (.refl _) <| .nil) (fun p hp => by subst hp; rfl) (wantV_ok rfl) rfl (fun p hp => ?_)
    subst hp
    refine PL.run 1 rfl ?_
    refine PL.nil ?_
    refine PW.ret ?_
    refine RetOk.free rfl rfl (congrArg eT ?_)
    try simp only [dlen0] at *
    simp_all [lineOk, noText]
  ·
    refine PW.seq ?_
    refine PW.region ?_
    refine PL.run 2 rfl ?_
    refine PL.nil ?_
    refine PW.cond rfl (fun h2 => ?_) (fun h2 => ?_)
    ·
      refine PW.seq ?_
      refine PW.region ?_
      refine PL.run 2 rfl ?_
      refine PL.call rfl rfl rfl (impl_isRoute_spec l.route hs) (.cons (.refl _) <| .nil) (fun p hp => by subst hp; rfl) (wantV_ok rfl) rfl (fun p hp => ?_)
      subst hp
      refine PL.run 1 rfl ?_
      refine PL.split (t := 15) rfl (fun h3 => ?_) (fun h3 => ?_)
      ·
        refine PL.run 5 rfl ?_
        refine PL.split (t := 20) rfl (fun h4 => ?_) (fun h4 => ?_)
        ·
          refine PL.run 5 rfl ?_
          refine PL.split (t := 25) rfl (fun h5 => ?_) (fun h5 => ?_)
          ·
            refine PL.run 6 rfl ?_
            refine PL.nil ?_
            refine PW.ret ?_
            refine RetOk.free rfl rfl (congrArg eT ?_)
            try simp only [dlen0] at *
            simp_all [lineOk, noText]
          ·
            refine PL.run 6 rfl ?_
            refine PL.nil ?_
            refine PW.ret ?_
            refine RetOk.free rfl rfl (congrArg eT ?_)
            try simp only [dlen0] at *
            simp_all [lineOk, noText]
        ·
          refine PL.run 11 rfl ?_
          refine PL.nil ?_
          refine PW.ret ?_
          refine RetOk.free rfl rfl (congrArg eT ?_)
          try simp only [dlen0] at *
          simp_all [lineOk, noText]
      ·
        refine PL.run 16 rfl ?_
        refine PL.nil ?_
        refine PW.ret ?_
        refine RetOk.free rfl rfl (congrArg eT ?_)
        try simp only [dlen0] at *
        simp_all [lineOk, noText]
    ·
      refine PW.seq ?_
      refine PW.region ?_
      refine PL.run 2 rfl ?_
      refine PL.nil ?_
      refine PW.cond rfl (fun h6 => ?_) (fun h6 => ?_)
      ·
        refine PW.seq ?_
        refine PW.region ?_
        refine PL.run 2 rfl ?_
        refine PL.call rfl rfl rfl (impl_in_spec l.due 0 100000) (.cons (.refl _) <| .cons (.refl _) <| .cons (.refl _) <| .nil) (fun p hp => by subst hp; rfl) (wantV_ok rfl) rfl (fun p hp => ?_)
        subst hp
        refine PL.run 1 rfl ?_
        refine PL.split (t := 36) rfl (fun h7 => ?_) (fun h7 => ?_)
        ·
          refine PL.run 5 rfl ?_
          refine PL.split (t := 41) rfl (fun h8 => ?_) (fun h8 => ?_)
          ·
            refine PL.run 5 rfl ?_
            refine PL.split (t := 46) rfl (fun h9 => ?_) (fun h9 => ?_)
            ·
              refine PL.run 6 rfl ?_
              refine PL.nil ?_
              refine PW.ret ?_
              refine RetOk.free rfl rfl (congrArg eT ?_)
              try simp only [dlen0] at *
              simp_all [lineOk, noText]
            ·
              refine PL.run 6 rfl ?_
              refine PL.nil ?_
              refine PW.ret ?_
              refine RetOk.free rfl rfl (congrArg eT ?_)
              try simp only [dlen0] at *
              simp_all [lineOk, noText]
          ·
            refine PL.run 11 rfl ?_
            refine PL.nil ?_
            refine PW.ret ?_
            refine RetOk.free rfl rfl (congrArg eT ?_)
            try simp only [dlen0] at *
            simp_all [lineOk, noText]
        ·
          refine PL.run 16 rfl ?_
          refine PL.nil ?_
          refine PW.ret ?_
          refine RetOk.free rfl rfl (congrArg eT ?_)
          try simp only [dlen0] at *
          simp_all [lineOk, noText]
      ·
        refine PW.skip ?_
        refine PW.seq ?_
        refine PW.region ?_
        refine PL.run 1 rfl ?_
        refine PL.nil ?_
        refine PW.ret ?_
        refine RetOk.free rfl rfl (congrArg eT ?_)
        try simp only [dlen0] at *
        simp_all [lineOk, noText]
end Go.Wl
