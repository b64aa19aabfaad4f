/- The walks, seventh text: numbers as bytes (the specification's). -/
import Derived.Test.YtkganhdglmbpoaaGreatWg
import Derived.Laws.BitsLemmas
set_option linter.unusedVariables false
set_option linter.unusedSimpArgs false
set_option maxRecDepth 100000
namespace Go.Wl
open Go Go.RowKit Go.Pw Go.Proofs
theorem wraps63 (n : Int) (h₀ : 0 ≤ n) (h₁ : n < 2 ^ 63) : IntKind.i64.wrap n = n := wrap_id (by omega) (by omega)
theorem and255 {n : Nat} (h : n < 9223372036854775808) : bits .and .i64 (n : Int) 255 = ((n % 256 : Nat) : Int) := by
  have h := bits_mask .i64 63 (by decide) wraps63 8 (by decide) (n : Int) (by omega) (by omega)
  have e : ((2 : Int) ^ 8 - 1) = 255 := by decide
  have e2 : ((2 : Int) ^ 8) = 256 := by decide
  rw [e, e2] at h
  rw [h]
  omega
def littleL (n : Nat) : Nat → List UInt8
  | 0 => []
  | k + 1 => littleL n k ++ [UInt8.ofNat (n / 256 ^ k % 256)]
def little (n many : Int) : List UInt8 := if n < 0 ∨ many < 1 ∨ 8 < many then [] else littleL n.toNat many.toNat
def great (n many : Int) : List UInt8 := (little n many).reverse
theorem littleL_len (n : Nat) : ∀ k, (littleL n k).length = k
  | 0 => rfl
  | k + 1 => by simp [littleL, littleL_len n k]
theorem little_len (n many : Int) : (little n many).length ≤ 8 := by
  unfold little
  split
  · simp
  · rw [littleL_len]; omega
theorem u8_wrap {n : Nat} (h : n < 256) : IntKind.u8.wrap (n : Int) = (n : Int) := by
  have hb : IntKind.u8.bits = 8 := rfl
  have hs : IntKind.u8.signed = false := rfl
  simp [IntKind.wrap, hb, hs]
  omega
theorem div_le_self' (n k : Nat) : n / 256 ^ k ≤ n := Nat.div_le_self _ _
theorem little_es {n : Nat} (hn : n < 9223372036854775808) (i : Nat) : (littleL n i).map eb ++ [[PV.lit (.int .u8 (IntKind.u8.wrap (bits .and .i64 ((n / 256 ^ i : Nat) : Int) 255)))]] = (littleL n (i + 1)).map eb := by
  have h1 := div_le_self' n i
  rw [and255 (by omega), u8_wrap (Nat.mod_lt _ (by decide))]
  simp only [littleL, List.map_append, List.map_cons, List.map_nil, eb]
  congr 5
  rw [UInt8.toNat_ofNat', show (2 : Nat) ^ 8 = 256 from rfl, Nat.mod_mod]
theorem little_sh {n : Nat} (i : Nat) : some (PV.lit (.int .i64 (((n / 256 ^ i : Nat) : Int) / 2 ^ min (8 : Int).toNat IntKind.i64.bits))) = some (eI ((n / 256 ^ (i + 1) : Nat) : Int)) := by
  have : (2 : Int) ^ min (8 : Int).toNat IntKind.i64.bits = 256 := by decide
  rw [this, Nat.pow_succ, ← Nat.div_div_eq_div_mul]
  rfl
/- spec.Little -/
theorem spec_Little_spec (n many : Int) (hn : n < 9223372036854775808) (τ : Nat) : Pw.Spec Tryz.prog 155 [eI n, eI many] (fun res_ => res_ = .sl 1 ((little n many).map eb) (some τ)) := by
  refine spec_of (n := 30) Tryz.call155 Tryz.func155 rfl rfl (by simp) rfl rfl fun W Z => ?_
  refine PW.seq ?_
  refine PW.region ?_
  refine PL.run 1 rfl ?_
  refine PL.nil ?_
  refine PW.seq ?_
  refine PW.region ?_
  refine PL.run 2 rfl ?_
  refine PL.nil ?_
  refine PW.seq ?_
  refine PW.seq ?_
  refine PW.region ?_
  refine PL.run 3 rfl ?_
  refine PL.split (t := 10) rfl (fun h1 => ?_) (fun h1 => ?_)
  ·
    refine PL.run 4 rfl ?_
    refine PL.nil ?_
    refine PW.condT rfl ?_
    refine PW.seq ?_
    refine PW.region ?_
    refine PL.run 2 rfl ?_
    refine PL.nil ?_
    refine PW.ret ?_
    refine RetOk.of rfl (.one (.leaf (.row _ _ 7 τ rfl))) (by simp) (by simp) ?_
    have : n < 0 := by simpa using h1
    simp [little, this]
  ·
    refine PL.run 1 rfl ?_
    refine PL.call rfl rfl rfl (spec_l1In_spec many 1 8) (.cons (.refl _) <| .cons (.refl _) <| .cons (.refl _) <| .nil) (fun p hp => by subst hp; rfl) (wantV_ok rfl) rfl (fun p hp => ?_)
    subst hp
    refine PL.run 2 rfl ?_
    refine PL.nil ?_
    refine PW.cond rfl (fun h2 => ?_) (fun h2 => ?_)
    ·
      refine PW.seq ?_
      refine PW.region ?_
      refine PL.run 2 rfl ?_
      refine PL.nil ?_
      refine PW.ret ?_
      refine RetOk.of rfl (.one (.leaf (.row _ _ 7 τ rfl))) (by simp) (by simp) ?_
      have : n < 0 ∨ many < 1 ∨ 8 < many := by simp [inB] at h2; omega
      simp [little, this]
    ·
      have h0 : 0 ≤ n := by simpa using h1
      have hm : 1 ≤ many ∧ many ≤ 8 := by simp [inB] at h2; omega
      refine PW.skip ?_
      refine PW.seq ?_
      refine PW.seq ?_
      refine PW.region ?_
      refine PL.run 1 rfl ?_
      refine PL.nil ?_
      refine PW.block ?_
      refine PW.loopAt (α := Nat) (fun i => ⟨[(5, .sl 1 ((littleL n.toNat i).map eb) (some 7)), (0, eI ((n.toNat / 256 ^ i : Nat) : Int)), (1, eI many), (6, eI (i : Int))], ⟨[], [(7, (1, ((littleL n.toNat i).map eb).length))]⟩⟩) (fun i => i ≤ many.toNat) (fun i => many.toNat - i) 0 (Le.row ⟨⟨congrArg (fun n => some (eI n)) (by simp; omega), rfl⟩, ⟨rfl, rfl⟩, ⟨rfl, rfl⟩, trivial⟩ rfl rfl rfl) (Nat.zero_le _) (fun i hi => ?_)
      refine PW.seq ?_
      refine PW.seq ?_
      refine PW.region ?_
      refine PL.run 3 rfl ?_
      refine PL.nil ?_
      refine PW.cond rfl (fun h3 => ?_) (fun h3 => ?_)
      ·
        have hlt : (i : Int) < many := by simpa using h3
        have hl := littleL_len n.toNat i
        refine PW.skip ?_
        refine PW.seq ?_
        refine PW.block ?_
        refine PW.seq ?_
        refine PW.region ?_
        refine PL.run 5 rfl ?_
        refine PL.app rfl rfl rfl rfl rfl rfl rfl rfl rfl rfl (by simp <;> omega) (by simp <;> omega) (wantV_ok rfl) rfl ?_
        refine PL.run 1 rfl ?_
        refine PL.nil ?_
        refine PW.region ?_
        refine PL.run 1 rfl ?_
        refine PL.val (OpV.shr rfl rfl rfl (by decide)) (wantV_ok rfl) rfl ?_
        refine PL.run 1 rfl ?_
        refine PL.nil ?_
        refine PW.region ?_
        refine PL.run 3 rfl ?_
        refine PL.nil ?_
        exact ⟨i + 1, Le.row ⟨⟨little_sh i, rfl⟩, ⟨rfl, rfl⟩, ⟨inc_ok (by omega), rfl⟩, trivial⟩ rfl rfl (little_es (by omega) i), by omega, by omega⟩
      ·
        have hge : many ≤ (i : Int) := by simpa using h3
        refine PW.exit ?_
        refine PW.seq ?_
        refine PW.region ?_
        refine PL.run 2 rfl ?_
        refine PL.nil ?_
        refine PW.ret ?_
        refine RetOk.of rfl (.one (.leaf (.row _ _ 7 τ rfl))) (by simp) (by simp) ?_
        have e : ¬ (n < 0 ∨ many < 1 ∨ 8 < many) := by omega
        have e2 : i = many.toNat := by omega
        rw [little, if_neg e, e2]
theorem spec_Little_ro (n many : Int) (hn : n < 9223372036854775808) : Pw.Spec Tryz.prog 155 [eI n, eI many] (fun p => p = eBs (little n many)) :=
  (spec_Little_spec n many hn 0).weak fun p hp => ⟨_, rfl, by subst hp; exact .row _ _ _, rfl⟩
theorem rev_at {l : List UInt8} {k : Nat} {b : UInt8} (h : l[k]? = some b) : (l.drop (k + 1)).reverse ++ [b] = (l.drop k).reverse := by
  rw [List.drop_eq_getElem_cons (List.getElem?_eq_some_iff.1 h).1, (List.getElem?_eq_some_iff.1 h).2, List.reverse_cons]
/- spec.Great -/
theorem spec_Great_spec (n many : Int) (hn : n < 9223372036854775808) (τ : Nat) : Pw.Spec Tryz.prog 132 [eI n, eI many] (fun res_ => res_ = .sl 1 ((great n many).map eb) (some τ)) := by
  refine spec_of (n := 27) Tryz.call132 Tryz.func132 rfl rfl (by simp) rfl rfl fun W Z => ?_
  have hlen := little_len n many
  refine PW.seq ?_
  refine PW.region ?_
  refine PL.run 1 rfl ?_
  refine PL.nil ?_
  refine PW.seq ?_
  refine PW.region ?_
  refine PL.run 2 rfl ?_
  refine PL.call rfl rfl rfl (spec_Little_ro n many hn) (.cons (.refl _) <| .cons (.refl _) <| .nil) (fun p hp => by subst hp; rfl) (wantV_ok rfl) rfl (fun p hp => ?_)
  subst hp
  refine PL.run 1 rfl ?_
  refine PL.nil ?_
  refine PW.seq ?_
  refine PW.region ?_
  refine PL.run 2 rfl ?_
  refine PL.nil ?_
  refine PW.seq ?_
  refine PW.seq ?_
  refine PW.region ?_
  refine PL.run 4 rfl ?_
  refine PL.nil ?_
  refine PW.block ?_
  refine PW.loopAt (α := Nat) (fun k => ⟨[(6, .sl 1 ((((little n many).drop k).reverse).map eb) (some 11)), (5, eBs (little n many)), (7, eI ((k : Int) - 1))], ⟨[], [(11, (1, ((((little n many).drop k).reverse).map eb).length))]⟩⟩) (fun k => k ≤ (little n many).length) (fun k => k) (little n many).length
    (Le.row ⟨⟨rfl, rfl⟩, ⟨congrArg (fun n => some (eI n)) (by rw [wrap_id (by simp; omega) (by simp; omega)]; simp), rfl⟩, trivial⟩ rfl rfl (by simp)) (Nat.le_refl _) (fun k hk => ?_)
  refine PW.seq ?_
  refine PW.seq ?_
  refine PW.region ?_
  refine PL.run 2 rfl ?_
  refine PL.nil ?_
  refine PW.cond rfl (fun h1 => ?_) (fun h1 => ?_)
  ·
    obtain ⟨j, rfl⟩ : ∃ j, k = j + 1 := ⟨k - 1, by simp at h1; omega⟩
    obtain ⟨x, hx⟩ : ∃ x, (little n many)[j]? = some x := ⟨_, List.getElem?_eq_getElem (by omega)⟩
    have ej : (((j + 1 : Nat) : Int) - 1) = (j : Int) := by omega
    refine PW.skip ?_
    refine PW.seq ?_
    refine PW.block ?_
    refine PW.region ?_
    refine PL.run 3 rfl ?_
    refine PL.val (OpV.idx rfl rfl rfl (by rw [ej]; exact nat_nonneg _) (map_at (by rw [ej, Int.toNat_natCast]; exact hx)) rfl rfl rfl rfl) (wantV_ok rfl) rfl ?_
    refine PL.run 2 rfl ?_
    refine PL.app rfl rfl rfl rfl rfl rfl rfl rfl rfl rfl (by simp <;> omega) (by simp <;> omega) (wantV_ok rfl) rfl ?_
    refine PL.run 1 rfl ?_
    refine PL.nil ?_
    refine PW.region ?_
    refine PL.run 3 rfl ?_
    refine PL.nil ?_
    refine ⟨j, Le.row ⟨⟨rfl, rfl⟩, ⟨congrArg (fun n => some (eI n)) ?_, rfl⟩, trivial⟩ rfl rfl ?_, by omega, by omega⟩
    · rw [wrap_id (by omega) (by omega)]; omega
    · rw [← rev_at hx, List.map_append]; rfl
  ·
    have k0 : k = 0 := by simp at h1; omega
    refine PW.exit ?_
    refine PW.seq ?_
    refine PW.region ?_
    refine PL.run 2 rfl ?_
    refine PL.nil ?_
    refine PW.ret ?_
    refine RetOk.of rfl (.one (.leaf (.row _ _ 11 τ rfl))) (by simp) (by simp) ?_
    subst k0; rfl
end Go.Wl
