/- The walks, sixth text: bytes (the specification's). -/
import Derived.Test.YtkganhdglmbpoaaGreatWf
set_option linter.unusedVariables false
set_option linter.unusedSimpArgs false
set_option maxRecDepth 100000
namespace Go.Wl
open Go Go.RowKit Go.Pw Go.Proofs
theorem strOf_inj {a b : List UInt8} : strOf a = strOf b ↔ a = b := by
  constructor
  · intro h
    have := congrArg (fun s : ByteArray => s.data.toList) h
    simpa [strOf] using this
  · rintro rfl; rfl
/- spec.Same -/
theorem spec_Same_spec (a b : List UInt8) : Pw.Spec Tryz.prog 69 [eBs a, eBs b] (fun res_ => res_ = eT (decide (a = b))) := by
  refine spec_of (n := 10) Tryz.call69 Tryz.func69 rfl rfl (by simp) rfl rfl fun W Z => ?_
  refine PW.seq ?_
  refine PW.region ?_
  refine PL.run 1 rfl ?_
  refine PL.nil ?_
  refine PW.seq ?_
  refine PW.region ?_
  refine PL.run 1 rfl ?_
  refine PL.val (OpV.toStr a rfl rfl rfl rfl rfl rfl rfl rfl rfl) (wantV_ok rfl) rfl ?_
  refine PL.run 1 rfl ?_
  refine PL.val (OpV.toStr b rfl rfl rfl rfl rfl rfl rfl rfl rfl) (wantV_ok rfl) rfl ?_
  refine PL.run 2 rfl ?_
  refine PL.nil ?_
  refine PW.ret ?_
  refine RetOk.free rfl rfl ?_
  simp [strOf_inj]
def signs : ByteArray := { data := #[48, 49, 50, 51, 52, 53, 54, 55, 56, 57, 97, 98, 99, 100, 101, 102] }
def hexC (n : Nat) : UInt8 := UInt8.ofNat (if n < 10 then 48 + n else 87 + n)
def hexB (b : UInt8) : List UInt8 := [hexC (b.toNat / 16), hexC (b.toNat % 16)]
def hexL (l : List UInt8) : List UInt8 := l.flatMap hexB
def hex (l : List UInt8) : ByteArray := strOf (hexL l)
theorem signs_at : ∀ n, n < 16 → signs.data.toList[n]? = some (hexC n) := by decide
theorem hi_at (b : UInt8) : signs.data.toList[((b.toNat : Int) / 2 ^ min (4 : Int).toNat IntKind.u8.bits).toNat]? = some (hexC (b.toNat / 16)) := by
  have h := b.toNat_lt
  have e : ((b.toNat : Int) / 2 ^ min (4 : Int).toNat IntKind.u8.bits).toNat = b.toNat / 16 := by
    have : (2 : Int) ^ min (4 : Int).toNat IntKind.u8.bits = 16 := by decide
    rw [this]; omega
  rw [e]
  exact signs_at _ (by omega)
theorem and15 : ∀ n : Nat, n < 256 → bits .and .u8 (n : Int) 15 = ((n % 16 : Nat) : Int) := by decide
theorem lo_at (b : UInt8) : signs.data.toList[(bits .and .u8 (b.toNat : Int) 15).toNat]? = some (hexC (b.toNat % 16)) := by
  rw [and15 _ b.toNat_lt, Int.toNat_natCast]
  exact signs_at _ (by omega)
theorem hexL_len (l : List UInt8) : (hexL l).length = 2 * l.length := by
  induction l with
  | nil => rfl
  | cons b l ih => simp [hexL, hexB] at ih ⊢; omega
theorem hexL_step {l : List UInt8} {i : Nat} {b : UInt8} (h : l[i]? = some b) : (hexL (l.take i)).map eb ++ (hexB b).map eb = (hexL (l.take (i + 1))).map eb := by
  rw [take_step h]; simp [hexL, List.flatMap_append]
/- spec.Hex -/
theorem spec_Hex_spec (l : List UInt8) (hl : l.length ≤ 1099511627776) : Pw.Spec Tryz.prog 137 [eBs l] (fun res_ => res_ = eS (hex l)) := by
  refine spec_of (n := 32) Tryz.call137 Tryz.func137 rfl rfl (by simp) rfl rfl fun W Z => ?_
  refine PW.seq ?_
  refine PW.region ?_
  refine PL.run 1 rfl ?_
  refine PL.nil ?_
  refine PW.seq ?_
  refine PW.region ?_
  refine PL.run 1 rfl ?_
  refine PL.nil ?_
  refine PW.seq ?_
  refine PW.region ?_
  refine PL.run 2 rfl ?_
  refine PL.nil ?_
  refine PW.seq ?_
  refine PW.seq ?_
  refine PW.region ?_
  refine PL.run 1 rfl ?_
  refine PL.nil ?_
  refine PW.block ?_
  refine PW.loopAt (α := Nat) (fun i => ⟨[(4, .sl 1 ((hexL (l.take i)).map eb) (some 6)), (0, eBs l), (3, eS signs), (5, eI (i : Int))], ⟨[], [(6, (1, ((hexL (l.take i)).map eb).length))]⟩⟩) (fun i => i ≤ l.length) (fun i => l.length - i) 0 (Le.row ⟨⟨rfl, rfl⟩, ⟨rfl, rfl⟩, ⟨rfl, rfl⟩, trivial⟩ rfl rfl rfl) (Nat.zero_le _) (fun i hi => ?_)
  refine PW.seq ?_
  refine PW.seq ?_
  refine PW.region ?_
  refine PL.run 4 rfl ?_
  refine PL.nil ?_
  refine PW.cond rfl (fun h1 => ?_) (fun h1 => ?_)
  ·
    have hlt : i < l.length := by simpa using h1
    obtain ⟨x, hx⟩ : ∃ y, l[i]? = some y := ⟨_, List.getElem?_eq_getElem hlt⟩
    have hn := hexL_len (l.take i)
    rw [List.length_take] at hn
    refine PW.skip ?_
    refine PW.seq ?_
    refine PW.block ?_
    refine PW.drawn ((some 13, _) :: (some 14, _) :: (some 15, _) :: (some 16, _) :: (some 17, _) :: (some 18, _) :: (some 19, _) :: (some 20, _) :: (some 21, _) :: (some 22, _) :: (some 23, _) :: (some 24, _) :: (some 25, _) :: (some 26, _) :: (some 27, _) :: (some 28, _) :: (some 29, _) :: (some 4, _) :: []) (0 :: 0 :: 0 :: 0 :: 12 :: 28 :: 60 :: 126 :: 0 :: 0 :: 0 :: 1536 :: 3584 :: 7680 :: 16128 :: 32766 :: 65535 :: 131071 :: []) (phs [] _ [(16, _), (15, _)] _) mixed rfl rfl rfl rfl rfl
      (.cons rfl (fun ρ => PL.run 1 rfl (PL.nil rfl)) <|
      .cons rfl (fun ρ => PL.run 1 rfl (PL.nil rfl)) <|
      .cons rfl (fun ρ => PL.run 1 rfl (PL.nil rfl)) <|
      .cons rfl (fun ρ => PL.run 1 rfl (PL.nil rfl)) <|
      .cons rfl (fun ρ => PL.val (OpV.idx rfl rfl rfl (nat_nonneg i) (map_at' hx) rfl rfl rfl rfl) (wantV_ok rfl) rfl (PL.nil rfl)) <|
      .cons rfl (fun ρ => PL.run 1 rfl (PL.nil rfl)) <|
      .cons rfl (fun ρ => PL.val (OpV.shr rfl rfl rfl (by decide)) (wantV_ok rfl) rfl (PL.nil rfl)) <|
      .cons rfl (fun ρ => PL.val (OpV.idxS rfl rfl rfl (b := hexC (x.toNat / 16)) (Int.ediv_nonneg (nat_nonneg _) (by decide)) (hi_at x) rfl rfl) (wantV_ok rfl) rfl (PL.nil rfl)) <|
      .cons rfl (fun ρ => PL.run 1 rfl (PL.nil rfl)) <|
      .cons rfl (fun ρ => PL.run 1 rfl (PL.nil rfl)) <|
      .cons rfl (fun ρ => PL.run 1 rfl (PL.nil rfl)) <|
      .cons rfl (fun ρ => PL.val (OpV.idx rfl rfl rfl (nat_nonneg i) (map_at' hx) rfl rfl rfl rfl) (wantV_ok rfl) rfl (PL.nil rfl)) <|
      .cons rfl (fun ρ => PL.run 1 rfl (PL.nil rfl)) <|
      .cons rfl (fun ρ => PL.run 1 rfl (PL.nil rfl)) <|
      .cons rfl (fun ρ => PL.val (OpV.idxS rfl rfl rfl (b := hexC (x.toNat % 16)) (by rw [and15 _ x.toNat_lt]; exact nat_nonneg _) (lo_at x) rfl rfl) (wantV_ok rfl) rfl (PL.nil rfl)) <|
      .cons rfl (fun ρ => PL.run 1 rfl (PL.nil rfl)) <|
      .cons rfl (fun ρ => PL.app rfl rfl rfl rfl rfl rfl rfl rfl rfl rfl (by simp <;> omega) (by simp <;> omega) (wantV_ok rfl) rfl (PL.nil rfl)) <|
      .cons rfl (fun ρ => PL.run 1 rfl (PL.nil rfl)) <|
      .nil _) ?_
    refine PW.region ?_
    refine PL.run 3 rfl ?_
    refine PL.nil ?_
    exact ⟨i + 1, Le.row ⟨⟨rfl, rfl⟩, ⟨rfl, rfl⟩, ⟨inc_ok (by omega), rfl⟩, trivial⟩ rfl rfl (hexL_step hx), hlt, by omega⟩
  ·
    have hge : l.length ≤ i := by simpa using h1
    refine PW.exit ?_
    refine PW.seq ?_
    refine PW.region ?_
    refine PL.run 1 rfl ?_
    refine PL.val (OpV.toStr (hexL (l.take i)) rfl rfl rfl rfl rfl rfl rfl rfl rfl) (wantV_ok rfl) rfl ?_
    refine PL.run 1 rfl ?_
    refine PL.nil ?_
    refine PW.ret ?_
    refine RetOk.free rfl rfl ?_
    rw [List.take_of_length_le hge]; rfl
end Go.Wl
