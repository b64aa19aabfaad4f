/- The walks, tenth text: a line is read from bytes (the specification's). -/
import Derived.Test.YtkganhdglmbpoaaGreatWj
set_option linter.unusedVariables false
set_option linter.unusedSimpArgs false
set_option maxRecDepth 100000
set_option maxHeartbeats 8000000
namespace Go.Wl
open Go Go.RowKit Go.Pw Go.Proofs
def lineN (b : List UInt8) (i : Nat) : Nat := 256 * (b.getD (i + 14) 0).toNat + (b.getD (i + 15) 0).toNat
def lineAt (b : List UInt8) (i : Nat) : Line :=
  ⟨((b.getD i 0).toNat : Nat), if (b.getD i 0).toNat = 3 then noText else hex ((b.take (i + 9)).drop (i + 1)), ((b.getD (i + 9) 0).toNat : Nat), or4 (b.getD (i + 10) 0) (b.getD (i + 11) 0) (b.getD (i + 12) 0) (b.getD (i + 13) 0), (b.take (i + 16 + lineN b i)).drop (i + 16)⟩
def lineOf (b : List UInt8) (i : Nat) : Option (Line × Nat) :=
  if i + 18 ≤ b.length then
    if i + 18 + lineN b i ≤ b.length then
      if lineBytes (lineAt b i) = (b.take (i + 18 + lineN b i)).drop i then some (lineAt b i, i + 18 + lineN b i) else none
    else none
  else none
def line0 : Line := ⟨0, noText, 0, 0, []⟩
def lineR (o : Option (Line × Nat)) : PV := .tup [.agg (eLine (o.getD (line0, 0)).1), eI ((o.getD (line0, 0)).2 : Nat), eT o.isSome]
theorem u8_wrap64 (x : UInt8) : IntKind.i64.wrap (x.toNat : Int) = (x.toNat : Int) := by
  have := x.toNat_lt
  exact wrap_id (by omega) (by omega)
theorem lineN_wrap (b : List UInt8) (i : Nat) : IntKind.i64.wrap (IntKind.i64.wrap (256 * IntKind.i64.wrap ((b.getD (i + 14) 0).toNat : Int)) + IntKind.i64.wrap ((b.getD (i + 15) 0).toNat : Int)) = ((lineN b i : Nat) : Int) := by
  have h1 := (b.getD (i + 14) 0).toNat_lt
  have h2 := (b.getD (i + 15) 0).toNat_lt
  rw [u8_wrap64, u8_wrap64, wrap_id (x := 256 * _) (by omega) (by omega), wrap_id (by omega) (by omega)]
  simp [lineN]
theorem lineN_lt (b : List UInt8) (i : Nat) : lineN b i < 65536 := by
  have h1 := (b.getD (i + 14) 0).toNat_lt
  have h2 := (b.getD (i + 15) 0).toNat_lt
  unfold lineN; omega
theorem words_four {b : List UInt8} {i : Nat} (h : i + 14 ≤ b.length) : wordsL true ((b.take (i + 14)).drop (i + 10)) = [or4 (b.getD (i + 10) 0) (b.getD (i + 11) 0) (b.getD (i + 12) 0) (b.getD (i + 13) 0)] := by
  have hl : ((b.take (i + 14)).drop (i + 10)).length = 4 := by rw [List.length_drop, List.length_take]; omega
  have hg : ∀ j, j < 4 → ((b.take (i + 14)).drop (i + 10)).getD j 0 = b.getD (i + 10 + j) 0 := fun j hj => by
    simp only [List.getD_eq_getElem?_getD, List.getElem?_drop]
    rw [List.getElem?_take_of_lt (by omega)]
  simp only [wordsL, hl]
  simp only [show 4 / 4 = 1 from rfl, List.range_one, List.map_cons, List.map_nil, wordAt, if_true]
  rw [hg _ (by decide), hg _ (by decide), hg _ (by decide), hg _ (by decide)]
theorem cut_map (b : List UInt8) (h l : Nat) : ((b.map eb).take h).drop l = (((b.take h).drop l)).map eb := by simp [List.map_take, List.map_drop]
theorem lineAt_len (b : List UInt8) (i : Nat) : (lineAt b i).bytes.length ≤ b.length := by
  simp only [lineAt, List.length_drop, List.length_take]; omega
theorem hex_size (l : List UInt8) : (hex l).size = 2 * l.length := by
  rw [← hexL_len]; simp [hex, strOf, ByteArray.size]
theorem lineAt_size (b : List UInt8) (i : Nat) (h : i + 9 ≤ b.length) : (lineAt b i).route.size ≤ 16 := by
  simp only [lineAt]
  split
  · simp [noText, ByteArray.size]
  · rw [hex_size, List.length_drop, List.length_take]; omega
theorem wkeq {p q : PV} (h : p = q) : Wk p q := h ▸ .refl _
/- spec.LineOf -/
theorem spec_LineOf_spec (b : List UInt8) (i : Nat) (hb : b.length ≤ 16777216) (hat : i ≤ b.length) : Pw.Spec Tryz.prog 116 [eBs b, eI (i : Int)] (fun res_ => res_ = lineR (lineOf b i)) := by
  refine spec_of (n := 102) Tryz.call116 Tryz.func116 rfl rfl (by simp) rfl rfl fun W Z => ?_
  have a1 : Eqq (IntKind.i64.wrap ((i : Int) + 1)) ((i + 1 : Nat) : Int) := ⟨wadd 1 (by omega)⟩
  have a9 : Eqq (IntKind.i64.wrap ((i : Int) + 9)) ((i + 9 : Nat) : Int) := ⟨wadd 9 (by omega)⟩
  have a10 : Eqq (IntKind.i64.wrap ((i : Int) + 10)) ((i + 10 : Nat) : Int) := ⟨wadd 10 (by omega)⟩
  have a14 : Eqq (IntKind.i64.wrap ((i : Int) + 14)) ((i + 14 : Nat) : Int) := ⟨wadd 14 (by omega)⟩
  have a15 : Eqq (IntKind.i64.wrap ((i : Int) + 15)) ((i + 15 : Nat) : Int) := ⟨wadd 15 (by omega)⟩
  have a16 : Eqq (IntKind.i64.wrap ((i : Int) + 16)) ((i + 16 : Nat) : Int) := ⟨wadd 16 (by omega)⟩
  have a18 : Eqq (IntKind.i64.wrap ((i : Int) + 18)) ((i + 18 : Nat) : Int) := ⟨wadd 18 (by omega)⟩
  have hN := lineN_lt b i
  have b16 : Eqq (IntKind.i64.wrap (IntKind.i64.wrap ((i : Int) + 16) + ((lineN b i : Nat) : Int))) ((i + 16 + lineN b i : Nat) : Int) := ⟨by rw [a16.h]; exact wadd _ (by omega)⟩
  have b18 : Eqq (IntKind.i64.wrap (IntKind.i64.wrap ((i : Int) + 18) + ((lineN b i : Nat) : Int))) ((i + 18 + lineN b i : Nat) : Int) := ⟨by rw [a18.h]; exact wadd _ (by omega)⟩
  refine PW.seq ?_
  refine PW.region ?_
  refine PL.run 3 rfl ?_
  refine PL.nil ?_
  refine PW.seq ?_
  refine PW.seq ?_
  refine PW.region ?_
  refine PL.run 3 rfl ?_
  refine PL.split (t := 12) rfl (fun h1 => ?_) (fun h1 => ?_)
  ·
    refine PL.run 6 rfl ?_
    refine PL.nil ?_
    refine PW.condT rfl ?_
    refine PW.seq ?_
    refine PW.region ?_
    refine PL.val (OpV.build rfl rfl rfl rfl rfl rfl) (wantV_ok rfl) rfl ?_
    refine PL.run 3 rfl ?_
    refine PL.nil ?_
    refine PW.ret ?_
    exact absurd (of_decide_eq_true h1) (by omega)
  ·
    refine PL.run 6 rfl ?_
    refine PL.nil ?_
    refine PW.cond rfl (fun h2 => ?_) (fun h2 => ?_)
    ·
      refine PW.seq ?_
      refine PW.region ?_
      refine PL.val (OpV.build rfl rfl rfl rfl rfl rfl) (wantV_ok rfl) rfl ?_
      refine PL.run 3 rfl ?_
      refine PL.nil ?_
      refine PW.ret ?_
      have h2 := of_decide_eq_true h2
      rw [List.length_map, wrap_id (by omega) (by omega)] at h2
      have e : lineOf b i = none := by unfold lineOf; rw [if_neg (by omega)]
      refine RetOk.of rfl (.tup (.cons (.agg (.cons (.same _ rfl) (.cons (.same _ rfl) (.cons (.same _ rfl) (.cons (.same _ rfl) (.cons (.nil0 1) .nil)))))) (.cons (.leaf (.same _ rfl)) (.cons (.leaf (.same _ rfl)) .nil)))) (by simp) (by simp) ?_
      rw [e]; rfl
    ·
      have h2' : i + 18 ≤ b.length := by
       have h2 := of_decide_eq_false h2
       rw [List.length_map, wrap_id (by omega) (by omega)] at h2
       omega
      clear h1 h2
      have q0 : i < b.length := by omega
      have q9 : i + 9 < b.length := by omega
      have q14 : i + 14 < b.length := by omega
      have q15 : i + 15 < b.length := by omega
      have s1 : i + 1 ≤ i + 9 := by omega
      have s10 : i + 10 ≤ i + 14 := by omega
      have s16 : i + 16 ≤ i + 16 + lineN b i := by omega
      have s18 : i ≤ i + 18 + lineN b i := by omega
      have lw : ((b.take (i + 14)).drop (i + 10)).length ≤ 1099511627776 := by rw [List.length_drop, List.length_take]; omega
      have lh : ((b.take (i + 9)).drop (i + 1)).length ≤ 1099511627776 := by rw [List.length_drop, List.length_take]; omega
      refine PW.skip ?_
      refine PW.seq ?_
      refine PW.drawn ((some 20, _) :: (some 21, _) :: (some 22, _) :: (some 23, _) :: (some 24, _) :: (some 25, _) :: (some 26, _) :: (some 27, _) :: (some 28, _) :: (some 29, _) :: (some 30, _) :: (some 31, _) :: (some 32, _) :: (some 33, _) :: (some 7, _) :: []) (0 :: 0 :: 2 :: 7 :: 15 :: 31 :: 63 :: 0 :: 0 :: 256 :: 896 :: 1920 :: 3968 :: 8191 :: 16383 :: []) (fun _ => _) mixed rfl rfl rfl rfl rfl
        (.cons rfl (fun ρ => PL.run 1 rfl (PL.nil rfl)) <|
        .cons rfl (fun ρ => PL.run 1 rfl (PL.nil rfl)) <|
        .cons rfl (fun ρ => PL.run 1 rfl (PL.nil rfl)) <|
        .cons rfl (fun ρ => PL.val (OpV.idx rfl rfl rfl (idx0 a14) (idx1 a14 (map_at (getD_at q14))) rfl rfl rfl rfl) (wantV_ok rfl) rfl (PL.nil rfl)) <|
        .cons rfl (fun ρ => PL.run 1 rfl (PL.nil rfl)) <|
        .cons rfl (fun ρ => PL.run 1 rfl (PL.nil rfl)) <|
        .cons rfl (fun ρ => PL.run 1 rfl (PL.nil rfl)) <|
        .cons rfl (fun ρ => PL.run 1 rfl (PL.nil rfl)) <|
        .cons rfl (fun ρ => PL.run 1 rfl (PL.nil rfl)) <|
        .cons rfl (fun ρ => PL.run 1 rfl (PL.nil rfl)) <|
        .cons rfl (fun ρ => PL.val (OpV.idx rfl rfl rfl (idx0 a15) (idx1 a15 (map_at (getD_at q15))) rfl rfl rfl rfl) (wantV_ok rfl) rfl (PL.nil rfl)) <|
        .cons rfl (fun ρ => PL.run 1 rfl (PL.nil rfl)) <|
        .cons rfl (fun ρ => PL.run 1 rfl (PL.nil rfl)) <|
        .cons rfl (fun ρ => PL.run 1 rfl (PL.nil rfl)) <|
        .cons rfl (fun ρ => PL.run 1 rfl (PL.nil rfl)) <|
        .nil _) ?_
      refine PW.seq ?_
      refine PW.seq ?_
      refine PW.region ?_
      refine PL.run 7 rfl ?_
      refine PL.nil ?_
      refine PW.cond rfl (fun h3 => ?_) (fun h3 => ?_)
      ·
        have h3' : ¬ i + 18 + lineN b i ≤ b.length := by
         have h3 := of_decide_eq_true h3
         rw [lineN_wrap, List.length_map, wrap_id (x := (_ : Int) - (i : Int)) (by omega) (by omega), wrap_id (by omega) (by omega)] at h3
         omega
        refine PW.seq ?_
        refine PW.region ?_
        refine PL.val (OpV.build rfl rfl rfl rfl rfl rfl) (wantV_ok rfl) rfl ?_
        refine PL.run 3 rfl ?_
        refine PL.nil ?_
        refine PW.ret ?_
        have e : lineOf b i = none := by unfold lineOf; rw [if_pos h2', if_neg h3']
        refine RetOk.of rfl (.tup (.cons (.agg (.cons (.same _ rfl) (.cons (.same _ rfl) (.cons (.same _ rfl) (.cons (.same _ rfl) (.cons (.nil0 1) .nil)))))) (.cons (.leaf (.same _ rfl)) (.cons (.leaf (.same _ rfl)) .nil)))) (by simp) (by simp) ?_
        rw [e]; rfl
      ·
        have h3' : i + 18 + lineN b i ≤ b.length := by
         have h3 := of_decide_eq_false h3
         rw [lineN_wrap, List.length_map, wrap_id (x := (_ : Int) - (i : Int)) (by omega) (by omega), wrap_id (by omega) (by omega)] at h3
         omega
        clear h3
        have q16 : i + 16 + lineN b i ≤ b.length := by omega
        have c16 : Eqq _ _ := ⟨(congrArg (fun n => IntKind.i64.wrap (IntKind.i64.wrap ((i : Int) + 16) + n)) (lineN_wrap b i)).trans b16.h⟩
        have c18 : Eqq _ _ := ⟨(congrArg (fun n => IntKind.i64.wrap (IntKind.i64.wrap ((i : Int) + 18) + n)) (lineN_wrap b i)).trans b18.h⟩
        have hlo := lineAt_len b i
        have hls := lineAt_size b i (by omega)
        have hlo' : (lineAt b i).bytes.length ≤ 16777216 := by omega
        have hls' : (lineAt b i).route.size ≤ 1099511627776 := by omega
        refine PW.skip ?_
        refine PW.seq ?_
        refine PW.region ?_
        refine PL.run 5 rfl ?_
        refine PL.val (OpV.cut rfl rfl rfl rfl rfl rfl (l := i + 10) (h := i + 14) (eqS a10) (eqS a14) s10 (mapLe (Nat.le_of_lt q14))) (wantV_ok rfl) rfl ?_
        refine PL.call rfl rfl rfl (spec_Words_ro ((b.take (i + 14)).drop (i + 10)) true lw) (.cons (wkrow (cut_map _ _ _)) <| .cons (.refl _) <| .nil) (fun p hp => by subst hp; rfl) (wantV_ok rfl) rfl (fun p hp => ?_)
        subst hp
        refine PL.run 1 rfl ?_
        refine PL.nil ?_
        refine PW.seq ?_
        refine PW.drawn ((some 49, _) :: (some 50, _) :: (some 51, _) :: (some 52, _) :: (some 53, _) :: (some 54, _) :: (some 55, _) :: (some 56, _) :: (some 57, _) :: (some 58, _) :: (some 59, _) :: (some 60, _) :: (some 61, _) :: (some 62, _) :: (some 63, _) :: (some 64, _) :: (some 65, _) :: (some 66, _) :: (some 67, _) :: (some 68, _) :: (some 69, _) :: (some 70, _) :: (some 71, _) :: (some 72, _) :: (some 73, _) :: (some 74, _) :: (some 75, _) :: (some 76, _) :: (some 77, _) :: (some 78, _) :: (some 79, _) :: (some 80, _) :: (some 9, _) :: (none, .junk) :: []) (0 :: 0 :: 3 :: 7 :: 15 :: 0 :: 0 :: 64 :: 0 :: 256 :: 992 :: 2016 :: 0 :: 0 :: 8192 :: 28672 :: 61440 :: 126976 :: 0 :: 262144 :: 786432 :: 0 :: 0 :: 0 :: 8388608 :: 0 :: 33554432 :: 0 :: 234881024 :: 532676608 :: 1071648736 :: 2147483647 :: 0 :: 8589934591 :: []) (phs [(33, _), (32, _)] _ [(30, _), (21, _)] _) mixed rfl rfl rfl rfl rfl
          (.cons rfl (fun ρ => PL.run 1 rfl (PL.nil rfl)) <|
          .cons rfl (fun ρ => PL.run 1 rfl (PL.nil rfl)) <|
          .cons rfl (fun ρ => PL.val (OpV.idx rfl rfl rfl (nat_nonneg _) (map_at' (getD_at q0)) rfl rfl rfl rfl) (wantV_ok rfl) rfl (PL.nil rfl)) <|
          .cons rfl (fun ρ => PL.run 1 rfl (PL.nil rfl)) <|
          .cons rfl (fun ρ => PL.run 1 rfl (PL.nil rfl)) <|
          .cons rfl (fun ρ => PL.run 1 rfl (PL.nil rfl)) <|
          .cons rfl (fun ρ => PL.run 1 rfl (PL.nil rfl)) <|
          .cons rfl (fun ρ => PL.run 1 rfl (PL.nil rfl)) <|
          .cons rfl (fun ρ => PL.run 1 rfl (PL.nil rfl)) <|
          .cons rfl (fun ρ => PL.run 1 rfl (PL.nil rfl)) <|
          .cons rfl (fun ρ => PL.val (OpV.cut rfl rfl rfl rfl rfl rfl (l := i + 1) (h := i + 9) (eqS a1) (eqS a9) s1 (mapLe (Nat.le_of_lt q9))) (wantV_ok rfl) rfl (PL.nil rfl)) <|
          .cons rfl (fun ρ => PL.call rfl rfl rfl (spec_Hex_spec ((b.take (i + 9)).drop (i + 1)) lh) (.cons (wkrow (cut_map _ _ _)) .nil) (fun p hp => by subst hp; rfl) (wantV_ok rfl) rfl (fun p hp => by subst hp; exact PL.nil rfl)) <|
          .cons rfl (fun ρ => PL.run 1 rfl (PL.nil rfl)) <|
          .cons rfl (fun ρ => PL.run 1 rfl (PL.nil rfl)) <|
          .cons rfl (fun ρ => PL.run 1 rfl (PL.nil rfl)) <|
          .cons rfl (fun ρ => PL.val (OpV.idx rfl rfl rfl (idx0 a9) (idx1 a9 (map_at (getD_at q9))) rfl rfl rfl rfl) (wantV_ok rfl) rfl (PL.nil rfl)) <|
          .cons rfl (fun ρ => PL.run 1 rfl (PL.nil rfl)) <|
          .cons rfl (fun ρ => PL.run 1 rfl (PL.nil rfl)) <|
          .cons rfl (fun ρ => PL.run 1 rfl (PL.nil rfl)) <|
          .cons rfl (fun ρ => PL.val (OpV.idx rfl rfl rfl (l := [eI (or4 (b.getD (i + 10) 0) (b.getD (i + 11) 0) (b.getD (i + 12) 0) (b.getD (i + 13) 0))]) (Int.le_refl 0) (by rw [words_four (Nat.le_of_lt q14)]; rfl) rfl rfl rfl rfl) (wantV_ok rfl) rfl (PL.nil rfl)) <|
          .cons rfl (fun ρ => PL.run 1 rfl (PL.nil rfl)) <|
          .cons rfl (fun ρ => PL.run 1 rfl (PL.nil rfl)) <|
          .cons rfl (fun ρ => PL.run 1 rfl (PL.nil rfl)) <|
          .cons rfl (fun ρ => PL.run 1 rfl (PL.nil rfl)) <|
          .cons rfl (fun ρ => PL.run 1 rfl (PL.nil rfl)) <|
          .cons rfl (fun ρ => PL.run 1 rfl (PL.nil rfl)) <|
          .cons rfl (fun ρ => PL.run 1 rfl (PL.nil rfl)) <|
          .cons rfl (fun ρ => PL.run 1 rfl (PL.nil rfl)) <|
          .cons rfl (fun ρ => PL.run 1 rfl (PL.nil rfl)) <|
          .cons rfl (fun ρ => PL.val (OpV.cut rfl rfl rfl rfl rfl rfl (l := i + 16) (h := i + 16 + lineN b i) (eqS a16) (eqS c16) s16 (mapLe q16)) (wantV_ok rfl) rfl (PL.nil rfl)) <|
          .cons rfl (fun ρ => PL.app rfl rfl rfl rfl rfl rfl rfl rfl rfl rfl (by simp <;> omega) (by simp <;> omega) (wantV_ok rfl) rfl (PL.nil rfl)) <|
          .cons rfl (fun ρ => PL.val (OpV.build rfl rfl rfl rfl rfl rfl) (wantV_ok rfl) rfl (PL.nil rfl)) <|
          .cons rfl (fun ρ => PL.run 1 rfl (PL.nil rfl)) <|
          .cons rfl (fun ρ => PL.run 1 rfl (PL.nil rfl)) <|
          .nil _) ?_
        refine PW.seq ?_
        refine PW.seq ?_
        refine PW.region ?_
        refine PL.run 3 rfl ?_
        refine PL.nil ?_
        refine PW.cond rfl (fun h4 => ?_) (fun h4 => ?_)
        ·
          have kr : noText = (lineAt b i).route := by
           have h4 := of_decide_eq_true h4
           rw [u8_wrap64] at h4
           have : (b.getD i 0).toNat = 3 := by omega
           simp only [lineAt]; rw [if_pos this]
          refine PW.region ?_
          refine PL.run 2 rfl ?_
          refine PL.nil ?_
          refine PW.seq ?_
          refine PW.seq ?_
          refine PW.drawn ((some 85, _) :: (some 86, _) :: (some 87, _) :: (some 88, _) :: (some 89, _) :: (some 90, _) :: (some 91, _) :: (some 92, _) :: (some 93, _) :: (some 94, _) :: (some 95, _) :: []) (0 :: 1 :: 0 :: 0 :: 0 :: 16 :: 0 :: 112 :: 252 :: 511 :: 1023 :: []) (fun _ => _) mixed rfl rfl rfl rfl rfl
            (.cons rfl (fun ρ => PL.run 1 rfl (PL.nil rfl)) <|
            .cons rfl (fun ρ => PL.call rfl rfl rfl (spec_LineBytes_spec (lineAt b i) hlo' hls') (.cons (WkL.aggd (.cons (wkeq (congrArg eI (u8_wrap64 _))) <| .cons (wkeq (congrArg eS kr)) <| .cons (wkeq (congrArg eI (u8_wrap64 _))) <| .cons (.refl _) <| .cons (wkrow (cut_map _ _ _)) .nil)) .nil) (fun p hp => by subst hp; rfl) (wantV_ok rfl) rfl (fun p hp => by subst hp; exact PL.nil rfl)) <|
            .cons rfl (fun ρ => PL.run 1 rfl (PL.nil rfl)) <|
            .cons rfl (fun ρ => PL.run 1 rfl (PL.nil rfl)) <|
            .cons rfl (fun ρ => PL.run 1 rfl (PL.nil rfl)) <|
            .cons rfl (fun ρ => PL.run 1 rfl (PL.nil rfl)) <|
            .cons rfl (fun ρ => PL.run 1 rfl (PL.nil rfl)) <|
            .cons rfl (fun ρ => PL.run 1 rfl (PL.nil rfl)) <|
            .cons rfl (fun ρ => PL.val (OpV.cut rfl rfl rfl rfl rfl rfl (l := i) (h := i + 18 + lineN b i) rfl (eqS c18) s18 (mapLe h3')) (wantV_ok rfl) rfl (PL.nil rfl)) <|
            .cons rfl (fun ρ => PL.call rfl rfl rfl (spec_Same_spec (lineBytes (lineAt b i)) ((b.take (i + 18 + lineN b i)).drop i)) (.cons (.refl _) <| .cons (wkrow (cut_map _ _ _)) <| .nil) (fun p hp => by subst hp; rfl) (wantV_ok rfl) rfl (fun p hp => by subst hp; exact PL.nil rfl)) <|
            .cons rfl (fun ρ => PL.run 1 rfl (PL.nil rfl)) <|
            .nil _) ?_
          refine PW.cond rfl (fun h5 => ?_) (fun h5 => ?_)
          ·
            refine PW.seq ?_
            refine PW.region ?_
            refine PL.val (OpV.build rfl rfl rfl rfl rfl rfl) (wantV_ok rfl) rfl ?_
            refine PL.run 3 rfl ?_
            refine PL.nil ?_
            refine PW.ret ?_
            have e : lineOf b i = none := by unfold lineOf; rw [if_pos h2', if_pos h3', if_neg (by simpa using h5)]
            refine RetOk.of rfl (.tup (.cons (.agg (.cons (.same _ rfl) (.cons (.same _ rfl) (.cons (.same _ rfl) (.cons (.same _ rfl) (.cons (.nil0 1) .nil)))))) (.cons (.leaf (.same _ rfl)) (.cons (.leaf (.same _ rfl)) .nil)))) (by simp) (by simp) ?_
            rw [e]; rfl
          ·
            refine PW.skip ?_
            refine PW.seq ?_
            refine PW.region ?_
            refine PL.run 8 rfl ?_
            refine PL.nil ?_
            refine PW.ret ?_
            have e : lineOf b i = some (lineAt b i, i + 18 + lineN b i) := by unfold lineOf; rw [if_pos h2', if_pos h3', if_pos (by simpa using h5)]
            refine RetOk.of rfl (.tup (.cons (.agg (.cons (.same _ rfl) (.cons (.same _ rfl) (.cons (.same _ rfl) (.cons (.same _ rfl) (.cons (.ro _ _ _) .nil)))))) (.cons (.leaf (.same _ rfl)) (.cons (.leaf (.same _ rfl)) .nil)))) (by simp) (by simp) ?_
            rw [e]
            show PV.tup [.agg [eI _, eS noText, eI _, eI _, .sl 1 _ none], eI _, eT true] = PV.tup [.agg (eLine (lineAt b i)), eI _, eT true]
            rw [c18.h, u8_wrap64, u8_wrap64, kr, cut_map]; rfl
        ·
          have kr : hex ((b.take (i + 9)).drop (i + 1)) = (lineAt b i).route := by
           have h4 := of_decide_eq_false h4
           rw [u8_wrap64] at h4
           have : (b.getD i 0).toNat ≠ 3 := by omega
           simp only [lineAt]; rw [if_neg this]
          refine PW.skip ?_
          refine PW.seq ?_
          refine PW.seq ?_
          refine PW.drawn ((some 85, _) :: (some 86, _) :: (some 87, _) :: (some 88, _) :: (some 89, _) :: (some 90, _) :: (some 91, _) :: (some 92, _) :: (some 93, _) :: (some 94, _) :: (some 95, _) :: []) (0 :: 1 :: 0 :: 0 :: 0 :: 16 :: 0 :: 112 :: 252 :: 511 :: 1023 :: []) (fun _ => _) mixed rfl rfl rfl rfl rfl
            (.cons rfl (fun ρ => PL.run 1 rfl (PL.nil rfl)) <|
            .cons rfl (fun ρ => PL.call rfl rfl rfl (spec_LineBytes_spec (lineAt b i) hlo' hls') (.cons (WkL.aggd (.cons (wkeq (congrArg eI (u8_wrap64 _))) <| .cons (wkeq (congrArg eS kr)) <| .cons (wkeq (congrArg eI (u8_wrap64 _))) <| .cons (.refl _) <| .cons (wkrow (cut_map _ _ _)) .nil)) .nil) (fun p hp => by subst hp; rfl) (wantV_ok rfl) rfl (fun p hp => by subst hp; exact PL.nil rfl)) <|
            .cons rfl (fun ρ => PL.run 1 rfl (PL.nil rfl)) <|
            .cons rfl (fun ρ => PL.run 1 rfl (PL.nil rfl)) <|
            .cons rfl (fun ρ => PL.run 1 rfl (PL.nil rfl)) <|
            .cons rfl (fun ρ => PL.run 1 rfl (PL.nil rfl)) <|
            .cons rfl (fun ρ => PL.run 1 rfl (PL.nil rfl)) <|
            .cons rfl (fun ρ => PL.run 1 rfl (PL.nil rfl)) <|
            .cons rfl (fun ρ => PL.val (OpV.cut rfl rfl rfl rfl rfl rfl (l := i) (h := i + 18 + lineN b i) rfl (eqS c18) s18 (mapLe h3')) (wantV_ok rfl) rfl (PL.nil rfl)) <|
            .cons rfl (fun ρ => PL.call rfl rfl rfl (spec_Same_spec (lineBytes (lineAt b i)) ((b.take (i + 18 + lineN b i)).drop i)) (.cons (.refl _) <| .cons (wkrow (cut_map _ _ _)) <| .nil) (fun p hp => by subst hp; rfl) (wantV_ok rfl) rfl (fun p hp => by subst hp; exact PL.nil rfl)) <|
            .cons rfl (fun ρ => PL.run 1 rfl (PL.nil rfl)) <|
            .nil _) ?_
          refine PW.cond rfl (fun h6 => ?_) (fun h6 => ?_)
          ·
            refine PW.seq ?_
            refine PW.region ?_
            refine PL.val (OpV.build rfl rfl rfl rfl rfl rfl) (wantV_ok rfl) rfl ?_
            refine PL.run 3 rfl ?_
            refine PL.nil ?_
            refine PW.ret ?_
            have e : lineOf b i = none := by unfold lineOf; rw [if_pos h2', if_pos h3', if_neg (by simpa using h6)]
            refine RetOk.of rfl (.tup (.cons (.agg (.cons (.same _ rfl) (.cons (.same _ rfl) (.cons (.same _ rfl) (.cons (.same _ rfl) (.cons (.nil0 1) .nil)))))) (.cons (.leaf (.same _ rfl)) (.cons (.leaf (.same _ rfl)) .nil)))) (by simp) (by simp) ?_
            rw [e]; rfl
          ·
            refine PW.skip ?_
            refine PW.seq ?_
            refine PW.region ?_
            refine PL.run 8 rfl ?_
            refine PL.nil ?_
            refine PW.ret ?_
            have e : lineOf b i = some (lineAt b i, i + 18 + lineN b i) := by unfold lineOf; rw [if_pos h2', if_pos h3', if_pos (by simpa using h6)]
            refine RetOk.of rfl (.tup (.cons (.agg (.cons (.same _ rfl) (.cons (.same _ rfl) (.cons (.same _ rfl) (.cons (.same _ rfl) (.cons (.ro _ _ _) .nil)))))) (.cons (.leaf (.same _ rfl)) (.cons (.leaf (.same _ rfl)) .nil)))) (by simp) (by simp) ?_
            rw [e]
            show PV.tup [.agg [eI _, eS (hex ((b.take (i + 9)).drop (i + 1))), eI _, eI _, .sl 1 _ none], eI _, eT true] = PV.tup [.agg (eLine (lineAt b i)), eI _, eT true]
            rw [c18.h, u8_wrap64, u8_wrap64, kr, cut_map]; rfl
end Go.Wl
