/- The walks, fifteenth text: signs, numbers as bytes, bytes joined (the program's). -/
import Derived.Test.YtkganhdglmbpoaaGreatWo
set_option linter.unusedVariables false
set_option linter.unusedSimpArgs false
set_option maxRecDepth 100000
set_option maxHeartbeats 8000000
namespace Go.Wl
open Go Go.RowKit Go.Pw Go.Proofs
/- impl.Hex -/
theorem impl_Hex_spec (l : List UInt8) (hl : l.length ≤ 1099511627776) : Pw.Spec Tryz.prog 144 [eBs l] (fun res_ => res_ = eS (hex l)) := by
  refine spec_of (n := 25) Tryz.call144 Tryz.func144 rfl rfl (by simp) rfl rfl fun W Z => ?_
  refine PW.seq ?_
  refine PW.region ?_
  refine PL.run 1 rfl ?_
  refine PL.nil ?_
  refine PW.seq ?_
  refine PW.region ?_
  refine PL.run 2 rfl ?_
  refine PL.nil ?_
  refine PW.seq ?_
  refine PW.seq ?_
  refine PW.region ?_
  refine PL.run 3 rfl ?_
  refine PL.nil ?_
  refine PW.block ?_
  refine PW.loopAt (α := Nat) (fun i => ⟨[(3, .sl 1 ((hexL (l.take i)).map eb) (some 6)), (7, eBs l), (8, eI ((l.map eb).length : Nat)), (9, eI (i : Int))], ⟨[], [(6, (1, ((hexL (l.take i)).map eb).length))]⟩⟩) (fun i => i ≤ l.length) (fun i => l.length - i) 0 (Le.row ⟨⟨rfl, rfl⟩, ⟨rfl, rfl⟩, ⟨rfl, rfl⟩, trivial⟩ rfl rfl rfl) (Nat.zero_le _) (fun i hi => ?_)
  refine PW.seq ?_
  refine PW.region ?_
  refine PL.run 1 rfl ?_
  refine PL.nil ?_
  refine PW.seq ?_
  refine PW.cond rfl (fun h1 => ?_) (fun h1 => ?_)
  ·
    have hlt : i < l.length := by simpa using h1
    clear h1
    obtain ⟨x, hx⟩ : ∃ y, l[i]? = some y := ⟨_, List.getElem?_eq_getElem hlt⟩
    have hn := hexL_len (l.take i)
    rw [List.length_take] at hn
    refine PW.skip ?_
    refine PW.seq ?_
    refine PW.block ?_
    refine PW.seq ?_
    refine PW.region ?_
    refine PL.val (OpV.idx rfl rfl rfl (nat_nonneg i) (map_at' hx) rfl rfl rfl rfl) (wantV_ok rfl) rfl ?_
    refine PL.run 2 rfl ?_
    refine PL.nil ?_
    refine PW.drawn ((some 13, _) :: (some 14, _) :: (some 15, _) :: (some 16, _) :: (some 17, _) :: (some 18, _) :: (some 19, _) :: (some 20, _) :: (some 21, _) :: (some 3, _) :: []) (0 :: 0 :: 2 :: 6 :: 0 :: 16 :: 48 :: 126 :: 255 :: 511 :: []) (phs [] _ [(8, _), (7, _)] _) mixed rfl rfl rfl rfl rfl
      (.cons rfl (fun ρ => PL.run 1 rfl (PL.nil rfl)) <|
      .cons rfl (fun ρ => PL.run 1 rfl (PL.nil rfl)) <|
      .cons rfl (fun ρ => PL.val (OpV.shr rfl rfl rfl (by decide)) (wantV_ok rfl) rfl (PL.nil rfl)) <|
      .cons rfl (fun ρ => PL.val (OpV.idxS rfl rfl rfl (b := hexC (x.toNat / 16)) (Int.ediv_nonneg (nat_nonneg _) (by decide)) (hi_at x) rfl rfl) (wantV_ok rfl) rfl (PL.nil rfl)) <|
      .cons rfl (fun ρ => PL.run 1 rfl (PL.nil rfl)) <|
      .cons rfl (fun ρ => PL.run 1 rfl (PL.nil rfl)) <|
      .cons rfl (fun ρ => PL.val (OpV.idxS rfl rfl rfl (b := hexC (x.toNat % 16)) (by rw [and15 _ x.toNat_lt]; exact nat_nonneg _) (lo_at x) rfl rfl) (wantV_ok rfl) rfl (PL.nil rfl)) <|
      .cons rfl (fun ρ => PL.run 1 rfl (PL.nil rfl)) <|
      .cons rfl (fun ρ => PL.app rfl rfl rfl rfl rfl rfl rfl rfl rfl rfl (by simp <;> omega) (by simp <;> omega) (wantV_ok rfl) rfl (PL.nil rfl)) <|
      .cons rfl (fun ρ => PL.run 1 rfl (PL.nil rfl)) <|
      .nil _) ?_
    refine PW.region ?_
    refine PL.run 2 rfl ?_
    refine PL.nil ?_
    exact ⟨i + 1, Le.row ⟨⟨rfl, rfl⟩, ⟨rfl, rfl⟩, ⟨inc_ok (by omega), rfl⟩, trivial⟩ rfl rfl (hexL_step hx), hlt, by omega⟩
  ·
    have hge : l.length ≤ i := by simpa using h1
    refine PW.exit ?_
    refine PW.seq ?_
    refine PW.region ?_
    refine PL.run 1 rfl ?_
    refine PL.val (OpV.toStr (hexL (l.take i)) rfl rfl rfl rfl rfl rfl rfl rfl rfl) (wantV_ok rfl) rfl ?_
    refine PL.run 1 rfl ?_
    refine PL.nil ?_
    refine PW.ret ?_
    refine RetOk.free rfl rfl ?_
    rw [List.take_of_length_le hge]; rfl
theorem u8_mod (n : Nat) : IntKind.u8.wrap (n : Int) = ((n % 256 : Nat) : Int) := by
  have hb : IntKind.u8.bits = 8 := rfl
  have hs : IntKind.u8.signed = false := rfl
  simp [IntKind.wrap, hb, hs]
theorem little_es2 (n : Nat) (i : Nat) : (littleL n i).map eb ++ [[PV.lit (.int .u8 (IntKind.u8.wrap ((n / 256 ^ i : Nat) : Int)))]] = (littleL n (i + 1)).map eb := by
  rw [u8_mod]
  simp only [littleL, List.map_append, List.map_cons, List.map_nil, eb]
  congr 5
  rw [UInt8.toNat_ofNat', show (2 : Nat) ^ 8 = 256 from rfl, Nat.mod_mod]
/- impl.Little -/
theorem impl_Little_spec (n many : Int) : Pw.Spec Tryz.prog 158 [eI n, eI many] (fun res_ => res_ = eBs (little n many)) := by
  refine spec_of (n := 26) Tryz.call158 Tryz.func158 rfl rfl (by simp) rfl rfl fun W Z => ?_
  refine PW.seq ?_
  refine PW.region ?_
  refine PL.run 1 rfl ?_
  refine PL.nil ?_
  refine PW.seq ?_
  refine PW.seq ?_
  refine PW.region ?_
  refine PL.run 3 rfl ?_
  refine PL.split (t := 8) rfl (fun h1 => ?_) (fun h1 => ?_)
  ·
    refine PL.run 4 rfl ?_
    refine PL.nil ?_
    refine PW.condT rfl ?_
    refine PW.seq ?_
    refine PW.region ?_
    refine PL.run 1 rfl ?_
    refine PL.nil ?_
    refine PW.ret ?_
    refine RetOk.of rfl (.one (.leaf (.nil0 1))) (by simp) (by simp) ?_
    have : n < 0 := by simpa using h1
    simp [little, this, eBs]
  ·
    refine PL.run 1 rfl ?_
    refine PL.call rfl rfl rfl (impl_in_spec many 1 8) (.cons (.refl _) <| .cons (.refl _) <| .cons (.refl _) <| .nil) (fun p hp => by subst hp; rfl) (wantV_ok rfl) rfl (fun p hp => ?_)
    subst hp
    refine PL.run 2 rfl ?_
    refine PL.nil ?_
    refine PW.cond rfl (fun h2 => ?_) (fun h2 => ?_)
    ·
      refine PW.seq ?_
      refine PW.region ?_
      refine PL.run 1 rfl ?_
      refine PL.nil ?_
      refine PW.ret ?_
      refine RetOk.of rfl (.one (.leaf (.nil0 1))) (by simp) (by simp) ?_
      have : n < 0 ∨ many < 1 ∨ 8 < many := by simp [inB] at h2; omega
      simp [little, this, eBs]
    ·
      have h0 : 0 ≤ n := by simpa using h1
      have hm : 1 ≤ many ∧ many ≤ 8 := by simp [inB] at h2; omega
      clear h1 h2
      refine PW.skip ?_
      refine PW.seq ?_
      refine PW.region ?_
      refine PL.run 2 rfl ?_
      refine PL.nil ?_
      refine PW.seq ?_
      refine PW.seq ?_
      refine PW.region ?_
      refine PL.run 2 rfl ?_
      refine PL.nil ?_
      refine PW.block ?_
      refine PW.loopAt (α := Nat) (fun i => ⟨[(5, .sl 1 ((littleL n.toNat i).map eb) (some 13)), (0, eI ((n.toNat / 256 ^ i : Nat) : Int)), (14, eI many), (15, eI (i : Int))], ⟨[], [(13, (1, ((littleL n.toNat i).map eb).length))]⟩⟩) (fun i => i ≤ many.toNat) (fun i => many.toNat - i) 0 (Le.row ⟨⟨congrArg (fun n => some (eI n)) (by simp; omega), rfl⟩, ⟨rfl, rfl⟩, ⟨rfl, rfl⟩, trivial⟩ rfl rfl rfl) (Nat.zero_le _) (fun i hi => ?_)
      refine PW.seq ?_
      refine PW.region ?_
      refine PL.run 1 rfl ?_
      refine PL.nil ?_
      refine PW.seq ?_
      refine PW.cond rfl (fun h3 => ?_) (fun h3 => ?_)
      ·
        have hlt : (i : Int) < many := by simpa using h3
        have hl := littleL_len n.toNat i
        refine PW.skip ?_
        refine PW.seq ?_
        refine PW.block ?_
        refine PW.seq ?_
        refine PW.region ?_
        refine PL.run 4 rfl ?_
        refine PL.app rfl rfl rfl rfl rfl rfl rfl rfl rfl rfl (by simp <;> omega) (by simp <;> omega) (wantV_ok rfl) rfl ?_
        refine PL.run 1 rfl ?_
        refine PL.nil ?_
        refine PW.region ?_
        refine PL.run 1 rfl ?_
        refine PL.val (OpV.shr rfl rfl rfl (by decide)) (wantV_ok rfl) rfl ?_
        refine PL.run 1 rfl ?_
        refine PL.nil ?_
        refine PW.region ?_
        refine PL.run 2 rfl ?_
        refine PL.nil ?_
        exact ⟨i + 1, Le.row ⟨⟨little_sh i, rfl⟩, ⟨rfl, rfl⟩, ⟨inc_ok (by omega), rfl⟩, trivial⟩ rfl rfl (little_es2 _ i), by omega, by omega⟩
      ·
        have hge : many ≤ (i : Int) := by simpa using h3
        refine PW.exit ?_
        refine PW.seq ?_
        refine PW.region ?_
        refine PL.run 2 rfl ?_
        refine PL.nil ?_
        refine PW.ret ?_
        refine RetOk.of rfl (.one (.leaf (.ro _ _ _))) (by simp) (by simp) ?_
        have e : ¬ (n < 0 ∨ many < 1 ∨ 8 < many) := by omega
        have e2 : i = many.toNat := by omega
        rw [little, if_neg e, e2]; rfl
def z8 : PV := .lit (.int .u8 0)
def turnC (l : List UInt8) (i : Nat) : List PV := List.replicate (l.length - i) z8 ++ ((l.take i).reverse.map eb).flatten
theorem eb_len (l : List UInt8) : (l.map eb).flatten.length = l.length := by
  rw [flat_len (sz := 1) (fun e he => by obtain ⟨b, _, rfl⟩ := List.mem_map.1 he; rfl)]; simp
theorem eb_free (l : List UInt8) : freeL (l.map eb).flatten = true := freeL_iff.2 fun p hp => by
  obtain ⟨e, he, hp⟩ := List.mem_flatten.1 hp
  obtain ⟨b, _, rfl⟩ := List.mem_map.1 he
  rw [List.mem_singleton.1 hp]; rfl
theorem turnC_free (l : List UInt8) (i : Nat) : freeL (turnC l i) = true := by
  rw [turnC, freeL_append, eb_free, Bool.and_true]
  exact freeL_iff.2 fun p hp => by rw [List.eq_of_mem_replicate hp]; rfl
theorem turnC_len {l : List UInt8} {i : Nat} (h : i ≤ l.length) : (turnC l i).length = l.length := by
  rw [turnC, List.length_append, eb_len, List.length_reverse, List.length_take, List.length_replicate]; omega
theorem turnC_step {l : List UInt8} {i off : Nat} {x : UInt8} (hx : l[i]? = some x) (ho : off = l.length - 1 - i) : writeC (turnC l i) off (eb x) = turnC l (i + 1) := by
  have h := (List.getElem?_eq_some_iff.1 hx).1
  subst ho
  have e1 : List.replicate (l.length - i) z8 = List.replicate (l.length - 1 - i) z8 ++ [z8] := by
    rw [← List.replicate_succ']; congr 1; omega
  rw [turnC, e1, List.append_assoc, writeC_mid (by simp) (by rfl), turnC, take_step hx]
  rw [show l.length - (i + 1) = l.length - 1 - i by omega]
  simp [eb]
theorem zrow_z8 (j : TI) (n m : Nat) (hj : j.zero.cells.toList.map PV.lit = [z8]) (hm : n = m) : zrow j n = List.replicate m z8 := by
  subst hm
  rw [zrow, hj]
  induction n with
  | zero => rfl
  | succ n ih => rw [List.replicate_succ, List.flatten_cons, ih, List.replicate_succ]; rfl
/- impl.turned -/
theorem impl_turned_spec (l : List UInt8) (hl : l.length ≤ 16777216) : Pw.Spec Tryz.prog 157 [eBs l] (fun res_ => res_ = eBs l.reverse) := by
  refine spec_of (n := 26) Tryz.call157 Tryz.func157 rfl rfl (by simp) rfl rfl fun W Z => ?_
  have hll : (l.map eb).length = l.length := List.length_map ..
  refine PW.seq ?_
  refine PW.region ?_
  refine PL.run 1 rfl ?_
  refine PL.nil ?_
  refine PW.seq ?_
  refine PW.region ?_
  refine PL.run 2 rfl ?_
  refine PL.make rfl rfl rfl rfl rfl rfl rfl rfl rfl (by simp <;> omega) (by simp <;> omega) rfl (wantV_ok rfl) rfl ?_
  refine PL.run 1 rfl ?_
  refine PL.nil ?_
  refine PW.seq ?_
  refine PW.seq ?_
  refine PW.region ?_
  refine PL.run 3 rfl ?_
  refine PL.nil ?_
  refine PW.block ?_
  refine PW.loopAt (α := Nat) (fun i => ⟨[(3, .bs 8 0 (l.map eb).length (l.map eb).length), (0, eBs l), (9, eBs l), (10, eI ((l.map eb).length : Nat)), (11, eI (i : Int))], ⟨[(8, (5, turnC l i))], []⟩⟩) (fun i => i ≤ l.length) (fun i => l.length - i) 0 (Le.boxes ⟨⟨congrArg (fun c => some (_, c)) (by rw [zrow_z8 _ _ l.length rfl hll]; simp [turnC]), turnC_free l 0⟩, trivial⟩ ⟨⟨rfl, rfl⟩, ⟨rfl, rfl⟩, ⟨rfl, rfl⟩, ⟨rfl, rfl⟩, ⟨rfl, rfl⟩, trivial⟩) (Nat.zero_le _) (fun i hi => ?_)
  refine PW.seq ?_
  refine PW.region ?_
  refine PL.run 1 rfl ?_
  refine PL.nil ?_
  refine PW.seq ?_
  refine PW.cond rfl (fun h1 => ?_) (fun h1 => ?_)
  ·
    have hlt : i < l.length := by simpa using h1
    clear h1
    obtain ⟨x, hx⟩ : ∃ y, l[i]? = some y := ⟨_, List.getElem?_eq_getElem hlt⟩
    have e1 : Eqq (IntKind.i64.wrap (IntKind.i64.wrap (((l.map eb).length : Nat) - 1 : Int) - (i : Int))) ((l.length - 1 - i : Nat) : Int) := ⟨by rw [hll, wrap_id (x := ((l.length : Nat) : Int) - 1) (by omega) (by omega), wrap_id (by omega) (by omega)]; omega⟩
    have hoff : 0 + (IntKind.i64.wrap (IntKind.i64.wrap (((l.map eb).length : Nat) - 1 : Int) - (i : Int))).toNat * 1 = l.length - 1 - i := by rw [e1.h, Int.toNat_natCast]; omega
    have hup : some (PV.lit (.int .i64 (IntKind.i64.wrap ((i : Int) + 1)))) = some (PV.lit (.int .i64 ((i + 1 : Nat) : Int))) := inc_ok (by omega)
    refine PW.skip ?_
    refine PW.seq ?_
    refine PW.block ?_
    refine PW.seq ?_
    refine PW.region ?_
    refine PL.run 1 rfl ?_
    refine PL.val (OpV.idx rfl rfl rfl (nat_nonneg i) (map_at' hx) rfl rfl rfl rfl) (wantV_ok rfl) rfl ?_
    refine PL.run 3 rfl ?_
    refine PL.nil ?_
    refine PW.region ?_
    refine PL.run 7 rfl ?_
    refine PL.val (OpV.idxB rfl rfl rfl (idx0 e1) (by rw [e1.h, Int.toNat_natCast, hll]; omega) rfl rfl rfl) (wantV_ok rfl) rfl ?_
    refine PL.store rfl rfl rfl rfl rfl rfl rfl (by rw [turnC_len (Nat.le_of_lt hlt)]; show 0 + (IntKind.i64.wrap (IntKind.i64.wrap (((l.map eb).length : Nat) - 1 : Int) - (i : Int))).toNat * 1 + 1 ≤ l.length; omega) rfl (wantV_ok rfl) ?_
    refine PL.nil ?_
    refine PW.region ?_
    refine PL.run 2 rfl ?_
    refine PL.nil ?_
    refine ⟨i + 1, Le.boxes ⟨⟨congrArg (fun c => some (_, c)) (turnC_step hx hoff), turnC_free l (i + 1)⟩, trivial⟩ ⟨⟨rfl, rfl⟩, ⟨rfl, rfl⟩, ⟨rfl, rfl⟩, ⟨rfl, rfl⟩, ⟨hup, rfl⟩, trivial⟩, hlt, by omega⟩
  ·
    have hge : i = l.length := Nat.le_antisymm hi (by simpa using h1)
    refine PW.exit ?_
    refine PW.seq ?_
    refine PW.region ?_
    refine PL.run 2 rfl ?_
    refine PL.nil ?_
    refine PW.le (Le.freezeS (tv := 2) (sz := 1) (es := l.reverse.map eb) (r := []) (e := []) rfl rfl (turnC_free l i) (by subst hge; simp [turnC]) (by simp) (by simp [eb]) (Nat.le_refl _)) ?_
    refine PW.ret ?_
    refine RetOk.free rfl rfl rfl
/- impl.Great -/
theorem impl_Great_spec (n many : Int) : Pw.Spec Tryz.prog 134 [eI n, eI many] (fun res_ => res_ = eBs (great n many)) := by
  refine spec_of (n := 9) Tryz.call134 Tryz.func134 rfl rfl (by simp) rfl rfl fun W Z => ?_
  have hlen := little_len n many
  refine PW.seq ?_
  refine PW.region ?_
  refine PL.run 1 rfl ?_
  refine PL.nil ?_
  refine PW.seq ?_
  refine PW.region ?_
  refine PL.run 2 rfl ?_
  refine PL.call rfl rfl rfl (impl_Little_spec n many) (.cons (.refl _) <| .cons (.refl _) <| .nil) (fun p hp => by subst hp; rfl) (wantV_ok rfl) rfl (fun p hp => ?_)
  subst hp
  refine PL.call rfl rfl rfl (impl_turned_spec (little n many) (by omega)) (.cons (.refl _) <| .nil) (fun p hp => by subst hp; rfl) (wantV_ok rfl) rfl (fun p hp => ?_)
  subst hp
  refine PL.run 1 rfl ?_
  refine PL.nil ?_
  refine PW.ret ?_
  refine RetOk.free rfl rfl rfl
end Go.Wl
