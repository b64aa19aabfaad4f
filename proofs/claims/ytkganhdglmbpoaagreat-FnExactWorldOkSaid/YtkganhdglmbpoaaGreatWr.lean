/- The walks, seventeenth text: lines as bytes, a line is read (the program's). -/
import Derived.Test.YtkganhdglmbpoaaGreatWq
import Derived.Laws.BitsLemmas
set_option linter.unusedVariables false
set_option linter.unusedSimpArgs false
set_option maxRecDepth 100000
set_option maxHeartbeats 8000000
namespace Go.Wl
open Go Go.RowKit Go.Pw Go.Proofs
def lineParts (l : Line) : List (List UInt8) := [[u8 l.kind], lineRoute l, [u8 l.topic], great l.due 4, great (l.bytes.length : Nat) 2, l.bytes]
theorem lineParts_body (l : Line) : (lineParts l).flatten = lineBody l := by simp [lineParts, lineBody]
theorem lineBody_len {l : Line} (h : l.bytes.length ≤ 16000000) (hs : (lineRoute l).length ≤ 4096) : (lineBody l).length ≤ 16010000 := by
  have g4 := great_len l.due 4
  have g2 := great_len (l.bytes.length : Nat) 2
  simp only [lineBody, List.length_cons, List.length_append]; omega
theorem lineRoute_len2 {l : Line} (h : l.route.size ≤ 4096) : (lineRoute l).length ≤ 4096 := by
  unfold lineRoute
  split
  · simp
  · exact Nat.le_trans (unhex_len _) h
def eLP (l : Line) : List (List PV) := [[.sl 1 [[.lit (.int .u8 (IntKind.u8.wrap l.kind))]] none], [eBs (lineRoute l)], [.sl 1 [[.lit (.int .u8 (IntKind.u8.wrap l.topic))]] none], [eBs (great l.due 4)], [eBs (great (((l.bytes.map eb).length : Nat) : Int) 2)], [eBs l.bytes]]
theorem eLP_eq (l : Line) : (.sl 1 (eLP l) none : PV) = eBss (lineParts l) := by
  simp [eLP, lineParts, eBss, eBss1, eBs, u8_eb]
theorem wkrow2 {sz : Nat} {es : List (List PV)} {t : Option Nat} {q : PV} (h : (.sl sz es none : PV) = q) : Wk (.sl sz es t) q := h ▸ .row _ _ _
/- impl.LineBytes -/
theorem impl_LineBytes_spec (l : Line) (h : l.bytes.length ≤ 16000000) (hs : l.route.size ≤ 4096) : Pw.Spec Tryz.prog 146 [.agg (eLine l)] (fun res_ => res_ = eBs (lineBytes l)) := by
  refine spec_of (n := 43) Tryz.call146 Tryz.func146 rfl rfl (by simp) rfl rfl fun W Z => ?_
  refine PW.seq ?_
  refine PW.region ?_
  refine PL.run 2 rfl ?_
  refine PL.nil ?_
  refine PW.seq ?_
  refine PW.seq ?_
  refine PW.region ?_
  refine PL.run 1 rfl ?_
  refine PL.call rfl rfl rfl (impl_LineOk_spec l (by omega) (by omega)) (.cons (.refl _) <| .nil) (fun p hp => by subst hp; rfl) (wantV_ok rfl) rfl (fun p hp => ?_)
  subst hp
  refine PL.run 1 rfl ?_
  refine PL.nil ?_
  refine PW.cond rfl (fun h1 => ?_) (fun h1 => ?_)
  ·
    refine PW.seq ?_
    refine PW.region ?_
    refine PL.run 1 rfl ?_
    refine PL.nil ?_
    refine PW.ret ?_
    refine RetOk.of rfl (.one (.leaf (.nil0 1))) (by simp) (by simp) ?_
    have : lineOk l = false := by simpa using h1
    simp [lineBytes, this, eBs]
  ·
    have hok : lineOk l = true := by simpa using h1
    clear h1
    have hdue := lineOk_due hok
    have hr := lineRoute_len2 hs
    have hbl := lineBody_len h hr
    refine PW.skip ?_
    refine PW.seq ?_
    refine PW.region ?_
    refine PL.make rfl rfl rfl rfl rfl rfl rfl rfl rfl (by decide) (by decide) rfl (wantV_ok rfl) rfl ?_
    refine PL.le (Le.freezeBS (tv := 8) (sz := 1) (es := (List.replicate 8 (0 : UInt8)).map eb) (r := []) (b := [(1, (120, eLine l))]) (e := [(1, .bx 1 0)]) rfl rfl rfl rfl rfl (by simp [eb]) (by decide) rfl) ?_
    refine PL.run 1 rfl ?_
    refine PL.nil ?_
    refine PW.seq ?_
    refine PW.seq ?_
    refine PW.region ?_
    refine PL.run 3 rfl ?_
    refine PL.nil ?_
    refine PW.cond rfl (fun h2 => ?_) (fun h2 => ?_)
    ·
      have hk : l.kind ≠ 3 := by simpa using h2
      clear h2
      have er : (unhex l.route).getD [] = lineRoute l := by simp [lineRoute, hk]
      refine PW.region ?_
      refine PL.run 2 rfl ?_
      refine PL.call rfl rfl rfl (impl_Unhex_spec l.route (by omega)) (.cons (.refl _) <| .nil) (fun p hp => by subst hp; rfl) (wantV_ok rfl) rfl (fun p hp => ?_)
      subst hp
      refine PL.run 4 rfl ?_
      refine PL.nil ?_
      refine PW.seq ?_
      refine PW.drawn ((some 18, _) :: (some 19, _) :: (some 20, _) :: (some 21, _) :: (some 22, _) :: (some 23, _) :: (some 24, _) :: (some 25, _) :: (some 26, _) :: (some 27, _) :: (some 28, _) :: (some 29, _) :: (some 30, _) :: (some 31, _) :: (some 32, _) :: (some 33, _) :: (some 34, _) :: (some 35, _) :: (some 36, _) :: (some 37, _) :: (some 4, _) :: []) (0 :: 1 :: 3 :: 7 :: 0 :: 0 :: 32 :: 96 :: 224 :: 0 :: 512 :: 1536 :: 0 :: 4096 :: 12288 :: 32256 :: 0 :: 65536 :: 262143 :: 524287 :: 1048575 :: []) (phs [] _ [(19, _)] _) mixed rfl rfl rfl rfl rfl
        (.cons rfl (fun ρ => PL.run 1 rfl (PL.nil rfl)) <|
        .cons rfl (fun ρ => PL.run 1 rfl (PL.nil rfl)) <|
        .cons rfl (fun ρ => PL.run 1 rfl (PL.nil rfl)) <|
        .cons rfl (fun ρ => PL.litRo rfl rfl rfl rfl rfl rfl rfl rfl rfl rfl (wantV_ok rfl) (PL.nil rfl)) <|
        .cons rfl (fun ρ => PL.run 1 rfl (PL.nil rfl)) <|
        .cons rfl (fun ρ => PL.run 1 rfl (PL.nil rfl)) <|
        .cons rfl (fun ρ => PL.run 1 rfl (PL.nil rfl)) <|
        .cons rfl (fun ρ => PL.run 1 rfl (PL.nil rfl)) <|
        .cons rfl (fun ρ => PL.litRo rfl rfl rfl rfl rfl rfl rfl rfl rfl rfl (wantV_ok rfl) (PL.nil rfl)) <|
        .cons rfl (fun ρ => PL.run 1 rfl (PL.nil rfl)) <|
        .cons rfl (fun ρ => PL.run 1 rfl (PL.nil rfl)) <|
        .cons rfl (fun ρ => PL.call rfl rfl rfl (impl_Great_spec l.due 4) (.cons (.refl _) <| .cons (.refl _) <| .nil) (fun p hp => by subst hp; rfl) (wantV_ok rfl) rfl (fun p hp => by subst hp; exact PL.nil rfl)) <|
        .cons rfl (fun ρ => PL.run 1 rfl (PL.nil rfl)) <|
        .cons rfl (fun ρ => PL.run 1 rfl (PL.nil rfl)) <|
        .cons rfl (fun ρ => PL.run 1 rfl (PL.nil rfl)) <|
        .cons rfl (fun ρ => PL.call rfl rfl rfl (impl_Great_spec (((l.bytes.map eb).length : Nat) : Int) 2) (.cons (.refl _) <| .cons (.refl _) <| .nil) (fun p hp => by subst hp; rfl) (wantV_ok rfl) rfl (fun p hp => by subst hp; exact PL.nil rfl)) <|
        .cons rfl (fun ρ => PL.run 1 rfl (PL.nil rfl)) <|
        .cons rfl (fun ρ => PL.run 1 rfl (PL.nil rfl)) <|
        .cons rfl (fun ρ => PL.litRo rfl rfl rfl rfl rfl rfl rfl rfl rfl rfl (wantV_ok rfl) (PL.nil rfl)) <|
        .cons rfl (fun ρ => PL.call rfl rfl rfl (impl_joined_spec (lineParts l) (by simp [lineParts]) (by simp [lineParts]) (by rw [lineParts_body]; omega) 900) (.cons (wkeq (by rw [er]; exact eLP_eq l)) .nil) (fun p hp => by subst hp; rfl) (wantV_ok rfl) rfl (fun p hp => by subst hp; exact PL.nil rfl)) <|
        .cons rfl (fun ρ => PL.run 1 rfl (PL.nil rfl)) <|
        .nil _) ?_
      refine PW.seq ?_
      refine PW.region ?_
      refine PL.run 3 rfl ?_
      refine PL.call rfl rfl rfl (impl_Great_spec _ 2) (.cons (.refl _) <| .cons (.refl _) <| .nil) (fun p hp => by subst hp; rfl) (wantV_ok rfl) rfl (fun p hp => ?_)
      subst hp
      refine PL.app rfl rfl rfl rfl rfl rfl rfl rfl rfl rfl (bndG (by rw [List.length_map, lineParts_body]; simp <;> omega)) (bndG' (by rw [List.length_map, lineParts_body]; omega)) (wantV_ok rfl) rfl ?_
      refine PL.run 1 rfl ?_
      refine PL.nil ?_
      refine PW.ret ?_
      refine RetOk.of rfl (.one (.leaf (.ro _ _ _))) (by simp) (by simp) ?_
      simp only [lineBytes, hok, if_true, lineParts_body]
      simp [eBs, List.map_append]
    ·
      have hk : l.kind = 3 := by simpa using h2
      clear h2
      have er : List.replicate 8 0 = lineRoute l := by simp [lineRoute, hk]
      refine PW.skip ?_
      refine PW.seq ?_
      refine PW.drawn ((some 18, _) :: (some 19, _) :: (some 20, _) :: (some 21, _) :: (some 22, _) :: (some 23, _) :: (some 24, _) :: (some 25, _) :: (some 26, _) :: (some 27, _) :: (some 28, _) :: (some 29, _) :: (some 30, _) :: (some 31, _) :: (some 32, _) :: (some 33, _) :: (some 34, _) :: (some 35, _) :: (some 36, _) :: (some 37, _) :: (some 4, _) :: []) (0 :: 1 :: 3 :: 7 :: 0 :: 0 :: 32 :: 96 :: 224 :: 0 :: 512 :: 1536 :: 0 :: 4096 :: 12288 :: 32256 :: 0 :: 65536 :: 262143 :: 524287 :: 1048575 :: []) (phs [] _ [(19, _)] _) mixed rfl rfl rfl rfl rfl
        (.cons rfl (fun ρ => PL.run 1 rfl (PL.nil rfl)) <|
        .cons rfl (fun ρ => PL.run 1 rfl (PL.nil rfl)) <|
        .cons rfl (fun ρ => PL.run 1 rfl (PL.nil rfl)) <|
        .cons rfl (fun ρ => PL.litRo rfl rfl rfl rfl rfl rfl rfl rfl rfl rfl (wantV_ok rfl) (PL.nil rfl)) <|
        .cons rfl (fun ρ => PL.run 1 rfl (PL.nil rfl)) <|
        .cons rfl (fun ρ => PL.run 1 rfl (PL.nil rfl)) <|
        .cons rfl (fun ρ => PL.run 1 rfl (PL.nil rfl)) <|
        .cons rfl (fun ρ => PL.run 1 rfl (PL.nil rfl)) <|
        .cons rfl (fun ρ => PL.litRo rfl rfl rfl rfl rfl rfl rfl rfl rfl rfl (wantV_ok rfl) (PL.nil rfl)) <|
        .cons rfl (fun ρ => PL.run 1 rfl (PL.nil rfl)) <|
        .cons rfl (fun ρ => PL.run 1 rfl (PL.nil rfl)) <|
        .cons rfl (fun ρ => PL.call rfl rfl rfl (impl_Great_spec l.due 4) (.cons (.refl _) <| .cons (.refl _) <| .nil) (fun p hp => by subst hp; rfl) (wantV_ok rfl) rfl (fun p hp => by subst hp; exact PL.nil rfl)) <|
        .cons rfl (fun ρ => PL.run 1 rfl (PL.nil rfl)) <|
        .cons rfl (fun ρ => PL.run 1 rfl (PL.nil rfl)) <|
        .cons rfl (fun ρ => PL.run 1 rfl (PL.nil rfl)) <|
        .cons rfl (fun ρ => PL.call rfl rfl rfl (impl_Great_spec (((l.bytes.map eb).length : Nat) : Int) 2) (.cons (.refl _) <| .cons (.refl _) <| .nil) (fun p hp => by subst hp; rfl) (wantV_ok rfl) rfl (fun p hp => by subst hp; exact PL.nil rfl)) <|
        .cons rfl (fun ρ => PL.run 1 rfl (PL.nil rfl)) <|
        .cons rfl (fun ρ => PL.run 1 rfl (PL.nil rfl)) <|
        .cons rfl (fun ρ => PL.litRo rfl rfl rfl rfl rfl rfl rfl rfl rfl rfl (wantV_ok rfl) (PL.nil rfl)) <|
        .cons rfl (fun ρ => PL.call rfl rfl rfl (impl_joined_spec (lineParts l) (by simp [lineParts]) (by simp [lineParts]) (by rw [lineParts_body]; omega) 900) (.cons (wkeq (by rw [er]; exact eLP_eq l)) .nil) (fun p hp => by subst hp; rfl) (wantV_ok rfl) rfl (fun p hp => by subst hp; exact PL.nil rfl)) <|
        .cons rfl (fun ρ => PL.run 1 rfl (PL.nil rfl)) <|
        .nil _) ?_
      refine PW.seq ?_
      refine PW.region ?_
      refine PL.run 3 rfl ?_
      refine PL.call rfl rfl rfl (impl_Great_spec _ 2) (.cons (.refl _) <| .cons (.refl _) <| .nil) (fun p hp => by subst hp; rfl) (wantV_ok rfl) rfl (fun p hp => ?_)
      subst hp
      refine PL.app rfl rfl rfl rfl rfl rfl rfl rfl rfl rfl (bndG (by rw [List.length_map, lineParts_body]; simp <;> omega)) (bndG' (by rw [List.length_map, lineParts_body]; omega)) (wantV_ok rfl) rfl ?_
      refine PL.run 1 rfl ?_
      refine PL.nil ?_
      refine PW.ret ?_
      refine RetOk.of rfl (.one (.leaf (.ro _ _ _))) (by simp) (by simp) ?_
      simp only [lineBytes, hok, if_true, lineParts_body]
      simp [eBs, List.map_append]
def zL : List PV := [eI 0, .lit (.string { data := #[] }), eI 0, eI 0, .lit (.slice none 0 0)]
theorem or_n (x y : UInt8) : bits .or .i64 (sh x 8) (IntKind.i64.wrap (y.toNat : Int)) = ((256 * x.toNat + y.toNat : Nat) : Int) := by
  have hx := x.toNat_lt
  have hy := y.toNat_lt
  have e : sh x 8 = ((256 * x.toNat : Nat) : Int) := by
    have h : (2 : Int) ^ min (8 : Int).toNat IntKind.i64.bits = 256 := by decide
    simp only [sh, h]
    rw [u8_wrap64, wrap_id (by omega) (by omega)]; omega
  have h8 : (2 : Int) ^ 8 = 256 := by decide
  have h63 : (2 : Int) ^ 63 = 9223372036854775808 := by decide
  rw [e, u8_wrap64, bits_join .i64 63 (by decide) wraps63 8 _ _ (by omega) (by rw [h8]; omega) (by rw [h63]; omega) (by omega) (by rw [h8]; omega) (by rw [h63]; omega)]
  omega
theorem drop_cut (b : List UInt8) (i n m : Nat) : ((b.drop i).take n).drop m = (b.take (i + n)).drop (i + m) := by
  rw [List.take_drop, List.drop_drop]
theorem getD_drop (b : List UInt8) (i j : Nat) : (b.drop i).getD j 0 = b.getD (i + j) 0 := by
  simp only [List.getD_eq_getElem?_getD, List.getElem?_drop]
theorem word_cut {b : List UInt8} {i : Nat} : wordAt true (((b.drop i).take 14).drop 10) 0 = or4 (b.getD (i + 10) 0) (b.getD (i + 11) 0) (b.getD (i + 12) 0) (b.getD (i + 13) 0) := by
  have hg : ∀ j, j < 4 → (((b.drop i).take 14).drop 10).getD j 0 = b.getD (i + 10 + j) 0 := fun j hj => by
    simp only [List.getD_eq_getElem?_getD, List.getElem?_drop]
    rw [List.getElem?_take_of_lt (by omega), List.getElem?_drop]; congr 2; omega
  simp only [wordAt, if_true]
  rw [hg _ (by decide), hg _ (by decide), hg _ (by decide), hg _ (by decide)]
/- impl.LineOf -/
theorem impl_LineOf_spec (b : List UInt8) (i : Nat) (hb : b.length ≤ 16000000) (hat : i ≤ b.length) : Pw.Spec Tryz.prog 122 [eBs b, eI (i : Int)] (fun res_ => res_ = lineR (lineOf b i)) := by
  refine spec_of (n := 78) Tryz.call122 Tryz.func122 rfl rfl (by simp) rfl rfl fun W Z => ?_
  have hX : Eqq (IntKind.i64.wrap (IntKind.i64.wrap (((b.map eb).length : Nat) - 16 : Int) - 2)) ((b.length : Int) - 18) := ⟨by rw [List.length_map, wrap_id (x := ((b.length : Nat) : Int) - 16) (by omega) (by omega), wrap_id (by omega) (by omega)]; omega⟩
  refine PW.seq ?_
  refine PW.region ?_
  refine PL.run 3 rfl ?_
  refine PL.nil ?_
  refine PW.seq ?_
  refine PW.seq ?_
  refine PW.region ?_
  refine PL.run 5 rfl ?_
  refine PL.call rfl rfl rfl (impl_in_spec (i : Int) 0 _) (.cons (.refl _) <| .cons (.refl _) <| .cons (.refl _) <| .nil) (fun p hp => by subst hp; rfl) (wantV_ok rfl) rfl (fun p hp => ?_)
  subst hp
  refine PL.run 1 rfl ?_
  refine PL.nil ?_
  refine PW.cond rfl (fun h1 => ?_) (fun h1 => ?_)
  ·
    have h2' : ¬ i + 18 ≤ b.length := by
     rw [hX.h] at h1
     simp [inB] at h1
     omega
    clear h1
    refine PW.seq ?_
    refine PW.region ?_
    refine PL.val (OpV.build rfl rfl rfl rfl rfl rfl) (wantV_ok rfl) rfl ?_
    refine PL.run 3 rfl ?_
    refine PL.nil ?_
    refine PW.ret ?_
    have e : lineOf b i = none := by unfold lineOf; rw [if_neg h2']
    refine RetOk.of rfl (.tup (.cons (.agg (.cons (.same _ rfl) (.cons (.same _ rfl) (.cons (.same _ rfl) (.cons (.same _ rfl) (.cons (.nil0 1) .nil)))))) (.cons (.leaf (.same _ rfl)) (.cons (.leaf (.same _ rfl)) .nil)))) (by simp) (by simp) ?_
    rw [e]; rfl
  ·
    have h2' : i + 18 ≤ b.length := by
     rw [hX.h] at h1
     simp [inB] at h1
     omega
    clear h1
    have hdl : (b.drop i).length = b.length - i := List.length_drop ..
    have q0 : 0 < (b.drop i).length := by omega
    have q9 : 9 < (b.drop i).length := by omega
    have q14 : 14 < (b.drop i).length := by omega
    have q15 : 15 < (b.drop i).length := by omega
    have hN := lineN_lt b i
    have eN : Eqq (bits .or .i64 (sh ((b.drop i).getD 14 0) 8) (IntKind.i64.wrap (((b.drop i).getD 15 0).toNat : Int))) (lineN b i : Nat) := ⟨by rw [or_n, getD_drop, getD_drop]; rfl⟩
    have hY : Eqq (IntKind.i64.wrap (IntKind.i64.wrap ((((b.drop i).map eb).length : Nat) - 16 : Int) - 2)) ((b.length : Int) - i - 18) := ⟨by rw [List.length_map, hdl, wrap_id (x := ((b.length - i : Nat) : Int) - 16) (by omega) (by omega), wrap_id (by omega) (by omega)]; omega⟩
    have lh : (((b.drop i).take 9).drop 1).length ≤ 1099511627776 := by rw [List.length_drop, List.length_take]; omega
    have lw : 4 ≤ (((b.drop i).take 14).drop 10).length := by rw [List.length_drop, List.length_take]; omega
    have lb : (((b.drop i).take (16 + lineN b i)).drop 16).length ≤ 16777216 := by rw [List.length_drop, List.length_take]; omega
    have hls := lineAt_size b i (by omega)
    have hlo := lineAt_len b i
    have hls' : (lineAt b i).route.size ≤ 4096 := by omega
    have hlo' : (lineAt b i).bytes.length ≤ 16000000 := by omega
    refine PW.skip ?_
    refine PW.seq ?_
    refine PW.region ?_
    refine PL.run 2 rfl ?_
    refine PL.val (OpV.cut (l := i) (h := (b.map eb).length) rfl rfl rfl rfl rfl rfl rfl rfl (mapLe hat) (Nat.le_refl _)) (wantV_ok rfl) rfl ?_
    refine PL.le (Le.boxes (b := [(4, (120, zL))]) (e := [(21, eBs (b.drop i)), (1, eI (i : Int)), (4, .bx 4 0), (5, eI 0), (6, eT false)]) ⟨⟨rfl, rfl⟩, trivial⟩ ⟨⟨congrArg (fun l => some (PV.sl 1 l none)) (by rw [List.take_length, List.map_drop]), rfl⟩, ⟨rfl, rfl⟩, ⟨rfl, rfl⟩, ⟨rfl, rfl⟩, ⟨rfl, rfl⟩, trivial⟩) ?_
    refine PL.run 1 rfl ?_
    refine PL.nil ?_
    refine PW.seq ?_
    refine PW.drawn ((some 22, _) :: (some 23, _) :: (some 24, _) :: (some 25, _) :: (some 26, _) :: (some 27, _) :: (some 28, _) :: (some 29, _) :: (some 30, _) :: (some 31, _) :: (some 8, _) :: []) (0 :: 1 :: 3 :: 7 :: 15 :: 0 :: 32 :: 96 :: 224 :: 511 :: 1023 :: []) (fun _ => _) mixed rfl rfl rfl rfl rfl
      (.cons rfl (fun ρ => PL.run 1 rfl (PL.nil rfl)) <|
      .cons rfl (fun ρ => PL.val (OpV.idx rfl rfl rfl (by decide) (map_at (getD_at q14)) rfl rfl rfl rfl) (wantV_ok rfl) rfl (PL.nil rfl)) <|
      .cons rfl (fun ρ => PL.run 1 rfl (PL.nil rfl)) <|
      .cons rfl (fun ρ => PL.run 1 rfl (PL.nil rfl)) <|
      .cons rfl (fun ρ => PL.val (OpV.shl rfl rfl rfl (by decide)) (wantV_ok rfl) rfl (PL.nil rfl)) <|
      .cons rfl (fun ρ => PL.run 1 rfl (PL.nil rfl)) <|
      .cons rfl (fun ρ => PL.val (OpV.idx rfl rfl rfl (by decide) (map_at (getD_at q15)) rfl rfl rfl rfl) (wantV_ok rfl) rfl (PL.nil rfl)) <|
      .cons rfl (fun ρ => PL.run 1 rfl (PL.nil rfl)) <|
      .cons rfl (fun ρ => PL.run 1 rfl (PL.nil rfl)) <|
      .cons rfl (fun ρ => PL.run 1 rfl (PL.nil rfl)) <|
      .cons rfl (fun ρ => PL.run 1 rfl (PL.nil rfl)) <|
      .nil _) ?_
    refine PW.seq ?_
    refine PW.seq ?_
    refine PW.region ?_
    refine PL.run 6 rfl ?_
    refine PL.nil ?_
    refine PW.cond rfl (fun h2 => ?_) (fun h2 => ?_)
    ·
      have h3' : ¬ i + 18 + lineN b i ≤ b.length := by
       have h2 := of_decide_eq_true h2
       rw [hY.h] at h2
       have h2 : (b.length : Int) - i - 18 < bits .or .i64 (sh ((b.drop i).getD 14 0) 8) (IntKind.i64.wrap (((b.drop i).getD 15 0).toNat : Int)) := h2
       rw [eN.h] at h2
       omega
      clear h2
      refine PW.seq ?_
      refine PW.region ?_
      refine PL.val (OpV.build rfl rfl rfl rfl rfl rfl) (wantV_ok rfl) rfl ?_
      refine PL.run 3 rfl ?_
      refine PL.nil ?_
      refine PW.ret ?_
      have e : lineOf b i = none := by unfold lineOf; rw [if_pos h2', if_neg h3']
      refine RetOk.of rfl (.tup (.cons (.agg (.cons (.same _ rfl) (.cons (.same _ rfl) (.cons (.same _ rfl) (.cons (.same _ rfl) (.cons (.nil0 1) .nil)))))) (.cons (.leaf (.same _ rfl)) (.cons (.leaf (.same _ rfl)) .nil)))) (by simp) (by simp) ?_
      rw [e]; rfl
    ·
      have h3' : i + 18 + lineN b i ≤ b.length := by
       have h2 := of_decide_eq_false h2
       rw [hY.h] at h2
       have h2 : ¬ (b.length : Int) - i - 18 < bits .or .i64 (sh ((b.drop i).getD 14 0) 8) (IntKind.i64.wrap (((b.drop i).getD 15 0).toNat : Int)) := h2
       rw [eN.h] at h2
       omega
      clear h2
      have c16 : Eqq (IntKind.i64.wrap (16 + bits .or .i64 (sh ((b.drop i).getD 14 0) 8) (IntKind.i64.wrap (((b.drop i).getD 15 0).toNat : Int)))) ((16 + lineN b i : Nat) : Int) := ⟨by rw [eN.h, wrap_id (by omega) (by omega)]; omega⟩
      have c18 : Eqq (IntKind.i64.wrap (IntKind.i64.wrap (16 + bits .or .i64 (sh ((b.drop i).getD 14 0) 8) (IntKind.i64.wrap (((b.drop i).getD 15 0).toNat : Int))) + 2)) ((18 + lineN b i : Nat) : Int) := ⟨by rw [c16.h, wrap_id (by omega) (by omega)]; omega⟩
      have cN : Eqq (IntKind.i64.wrap ((i : Int) + IntKind.i64.wrap (IntKind.i64.wrap (16 + bits .or .i64 (sh ((b.drop i).getD 14 0) 8) (IntKind.i64.wrap (((b.drop i).getD 15 0).toNat : Int))) + 2))) ((i + 18 + lineN b i : Nat) : Int) := ⟨by rw [c18.h, wrap_id (by omega) (by omega)]; omega⟩
      have s16 : 16 ≤ 16 + lineN b i := by omega
      have q16 : 16 + lineN b i ≤ (b.drop i).length := by omega
      have q18 : 18 + lineN b i ≤ (b.drop i).length := by omega
      have kk : eI (IntKind.i64.wrap (((b.drop i).getD 0 0).toNat : Int)) = eI (lineAt b i).kind := congrArg eI (by rw [u8_wrap64, getD_drop]; rfl)
      have kt : eI (IntKind.i64.wrap (((b.drop i).getD 9 0).toNat : Int)) = eI (lineAt b i).topic := congrArg eI (by rw [u8_wrap64, getD_drop]; rfl)
      have kd : eI (wordAt true (((b.drop i).take 14).drop 10) 0) = eI (lineAt b i).due := congrArg eI (by rw [word_cut]; rfl)
      have kb : eBs (((b.drop i).take (16 + lineN b i)).drop 16) = eBs (lineAt b i).bytes := congrArg eBs (by rw [drop_cut, ← Nat.add_assoc]; rfl)
      have kc : (.sl 1 ((((b.drop i).map eb).take (18 + lineN b i)).drop 0) none : PV) = eBs ((b.take (i + 18 + lineN b i)).drop i) := by rw [cut_map, drop_cut, ← Nat.add_assoc, Nat.add_zero]; rfl
      refine PW.skip ?_
      refine PW.seq ?_
      refine PW.drawn ((some 39, _) :: (some 40, _) :: (some 41, _) :: (some 42, _) :: (some 43, _) :: (some 44, _) :: (some 45, _) :: (some 46, _) :: (some 47, _) :: (some 48, _) :: (some 49, _) :: (some 50, _) :: (some 51, _) :: (some 52, _) :: (some 53, _) :: (some 54, _) :: (some 55, _) :: (some 56, _) :: (some 57, _) :: (some 58, _) :: (some 9, _) :: (none, .junk) :: []) (0 :: 1 :: 3 :: 7 :: 0 :: 16 :: 48 :: 0 :: 128 :: 384 :: 896 :: 0 :: 2048 :: 6256 :: 0 :: 0 :: 32768 :: 114688 :: 260208 :: 524287 :: 0 :: 2097151 :: []) (phs [(21, _), (20, _)] _ [] _) mixed rfl rfl rfl rfl rfl
        (.cons rfl (fun ρ => PL.run 1 rfl (PL.nil rfl)) <|
        .cons rfl (fun ρ => PL.val (OpV.idx rfl rfl rfl (by decide) (map_at (getD_at q0)) rfl rfl rfl rfl) (wantV_ok rfl) rfl (PL.nil rfl)) <|
        .cons rfl (fun ρ => PL.run 1 rfl (PL.nil rfl)) <|
        .cons rfl (fun ρ => PL.run 1 rfl (PL.nil rfl)) <|
        .cons rfl (fun ρ => PL.run 1 rfl (PL.nil rfl)) <|
        .cons rfl (fun ρ => PL.val (OpV.cut rfl rfl rfl rfl rfl rfl (l := 1) (h := 9) rfl rfl (by decide) (mapLe (Nat.le_of_lt q9))) (wantV_ok rfl) rfl (PL.nil rfl)) <|
        .cons rfl (fun ρ => PL.call rfl rfl rfl (impl_Hex_spec (((b.drop i).take 9).drop 1) lh) (.cons (wkrow (cut_map _ _ _)) .nil) (fun p hp => by subst hp; rfl) (wantV_ok rfl) rfl (fun p hp => by subst hp; exact PL.nil rfl)) <|
        .cons rfl (fun ρ => PL.run 1 rfl (PL.nil rfl)) <|
        .cons rfl (fun ρ => PL.val (OpV.idx rfl rfl rfl (by decide) (map_at (getD_at q9)) rfl rfl rfl rfl) (wantV_ok rfl) rfl (PL.nil rfl)) <|
        .cons rfl (fun ρ => PL.run 1 rfl (PL.nil rfl)) <|
        .cons rfl (fun ρ => PL.run 1 rfl (PL.nil rfl)) <|
        .cons rfl (fun ρ => PL.run 1 rfl (PL.nil rfl)) <|
        .cons rfl (fun ρ => PL.val (OpV.cut rfl rfl rfl rfl rfl rfl (l := 10) (h := 14) rfl rfl (by decide) (mapLe (Nat.le_of_lt q14))) (wantV_ok rfl) rfl (PL.nil rfl)) <|
        .cons rfl (fun ρ => PL.call rfl rfl rfl (impl_wordOf_spec (((b.drop i).take 14).drop 10) true lw) (.cons (wkrow (cut_map _ _ _)) <| .cons (.refl _) .nil) (fun p hp => by subst hp; rfl) (wantV_ok rfl) rfl (fun p hp => by subst hp; exact PL.nil rfl)) <|
        .cons rfl (fun ρ => PL.run 1 rfl (PL.nil rfl)) <|
        .cons rfl (fun ρ => PL.run 1 rfl (PL.nil rfl)) <|
        .cons rfl (fun ρ => PL.run 1 rfl (PL.nil rfl)) <|
        .cons rfl (fun ρ => PL.val (OpV.cut rfl rfl rfl rfl rfl rfl (l := 16) (h := 16 + lineN b i) rfl (eqS c16) s16 (mapLe q16)) (wantV_ok rfl) rfl (PL.nil rfl)) <|
        .cons rfl (fun ρ => PL.call rfl rfl rfl (slices_Clone__byte_byte_spec (((b.drop i).take (16 + lineN b i)).drop 16) lb) (.cons (wkrow (cut_map _ _ _)) .nil) (fun p hp => by subst hp; rfl) (wantV_ok rfl) rfl (fun p hp => by subst hp; exact PL.nil rfl)) <|
        .cons rfl (fun ρ => PL.val (OpV.build rfl rfl rfl rfl rfl rfl) (wantV_ok rfl) rfl (PL.nil rfl)) <|
        .cons rfl (fun ρ => PL.run 1 rfl (PL.nil rfl)) <|
        .cons rfl (fun ρ => PL.run 1 rfl (PL.nil rfl)) <|
        .nil _) ?_
      refine PW.seq ?_
      refine PW.seq ?_
      refine PW.region ?_
      refine PL.run 3 rfl ?_
      refine PL.nil ?_
      refine PW.cond rfl (fun h3 => ?_) (fun h3 => ?_)
      ·
        have h3 := of_decide_eq_true h3
        have kr : noText = (lineAt b i).route := by
         have h3 : IntKind.i64.wrap (((b.drop i).getD 0 0).toNat : Int) = 3 := h3
         rw [u8_wrap64, getD_drop] at h3
         have : (b.getD i 0).toNat = 3 := by simp only [Nat.add_zero] at h3; omega
         simp only [lineAt]; rw [if_pos this]
        refine PW.region ?_
        refine PL.run 2 rfl ?_
        refine PL.nil ?_
        refine PW.seq ?_
        refine PW.region ?_
        refine PL.run 4 rfl ?_
        refine PL.nil ?_
        refine PW.seq ?_
        refine PW.seq ?_
        refine PW.drawn ((some 66, _) :: (some 67, _) :: (some 68, _) :: (some 69, _) :: (some 70, _) :: (some 71, _) :: (some 72, _) :: []) (0 :: 1 :: 0 :: 0 :: 12 :: 31 :: 63 :: []) (fun _ => _) mixed rfl rfl rfl rfl rfl
          (.cons rfl (fun ρ => PL.run 1 rfl (PL.nil rfl)) <|
          .cons rfl (fun ρ => PL.call rfl rfl rfl (impl_LineBytes_spec (lineAt b i) hlo' hls') (.cons (WkL.aggd (.cons (wkeq kk) <| .cons (wkeq (congrArg eS kr)) <| .cons (wkeq kt) <| .cons (wkeq kd) <| .cons (wkeq kb) .nil)) .nil) (fun p hp => by subst hp; rfl) (wantV_ok rfl) rfl (fun p hp => by subst hp; exact PL.nil rfl)) <|
          .cons rfl (fun ρ => PL.run 1 rfl (PL.nil rfl)) <|
          .cons rfl (fun ρ => PL.run 1 rfl (PL.nil rfl)) <|
          .cons rfl (fun ρ => PL.val (OpV.cut rfl rfl rfl rfl rfl rfl (l := 0) (h := 18 + lineN b i) rfl (eqS c18) (Nat.zero_le _) (mapLe q18)) (wantV_ok rfl) rfl (PL.nil rfl)) <|
          .cons rfl (fun ρ => PL.call rfl rfl rfl (impl_Same_spec (lineBytes (lineAt b i)) ((b.take (i + 18 + lineN b i)).drop i)) (.cons (.refl _) <| .cons (wkeq kc) <| .nil) (fun p hp => by subst hp; rfl) (wantV_ok rfl) rfl (fun p hp => by subst hp; exact PL.nil rfl)) <|
          .cons rfl (fun ρ => PL.run 1 rfl (PL.nil rfl)) <|
          .nil _) ?_
        refine PW.cond rfl (fun h4 => ?_) (fun h4 => ?_)
        ·
          refine PW.seq ?_
          refine PW.region ?_
          refine PL.val (OpV.build rfl rfl rfl rfl rfl rfl) (wantV_ok rfl) rfl ?_
          refine PL.run 3 rfl ?_
          refine PL.nil ?_
          refine PW.ret ?_
          have e : lineOf b i = none := by unfold lineOf; rw [if_pos h2', if_pos h3', if_neg (by simpa using h4)]
          refine RetOk.of rfl (.tup (.cons (.agg (.cons (.same _ rfl) (.cons (.same _ rfl) (.cons (.same _ rfl) (.cons (.same _ rfl) (.cons (.nil0 1) .nil)))))) (.cons (.leaf (.same _ rfl)) (.cons (.leaf (.same _ rfl)) .nil)))) (by simp) (by simp) ?_
          rw [e]; rfl
        ·
          refine PW.skip ?_
          refine PW.seq ?_
          refine PW.region ?_
          refine PL.run 7 rfl ?_
          refine PL.nil ?_
          refine PW.ret ?_
          have e : lineOf b i = some (lineAt b i, i + 18 + lineN b i) := by unfold lineOf; rw [if_pos h2', if_pos h3', if_pos (by simpa using h4)]
          refine RetOk.free rfl rfl ?_
          rw [e]
          show PV.tup [.agg [eI _, eS noText, eI _, eI _, eBs _], eI _, eT true] = PV.tup [.agg [eI (lineAt b i).kind, eS (lineAt b i).route, eI (lineAt b i).topic, eI (lineAt b i).due, eBs (lineAt b i).bytes], eI _, eT true]
          rw [← kk, ← kt, ← kd, ← kb, ← kr]
          exact congrArg (fun n => PV.tup [_, eI n, _]) cN.h
      ·
        have h3 := of_decide_eq_false h3
        have kr : hex (((b.drop i).take 9).drop 1) = (lineAt b i).route := by
         have h3 : ¬ IntKind.i64.wrap (((b.drop i).getD 0 0).toNat : Int) = 3 := h3
         rw [u8_wrap64, getD_drop] at h3
         have : (b.getD i 0).toNat ≠ 3 := by simp only [Nat.add_zero] at h3; omega
         simp only [lineAt]; rw [if_neg this, drop_cut]
        refine PW.skip ?_
        refine PW.seq ?_
        refine PW.region ?_
        refine PL.run 4 rfl ?_
        refine PL.nil ?_
        refine PW.seq ?_
        refine PW.seq ?_
        refine PW.drawn ((some 66, _) :: (some 67, _) :: (some 68, _) :: (some 69, _) :: (some 70, _) :: (some 71, _) :: (some 72, _) :: []) (0 :: 1 :: 0 :: 0 :: 12 :: 31 :: 63 :: []) (fun _ => _) mixed rfl rfl rfl rfl rfl
          (.cons rfl (fun ρ => PL.run 1 rfl (PL.nil rfl)) <|
          .cons rfl (fun ρ => PL.call rfl rfl rfl (impl_LineBytes_spec (lineAt b i) hlo' hls') (.cons (WkL.aggd (.cons (wkeq kk) <| .cons (wkeq (congrArg eS kr)) <| .cons (wkeq kt) <| .cons (wkeq kd) <| .cons (wkeq kb) .nil)) .nil) (fun p hp => by subst hp; rfl) (wantV_ok rfl) rfl (fun p hp => by subst hp; exact PL.nil rfl)) <|
          .cons rfl (fun ρ => PL.run 1 rfl (PL.nil rfl)) <|
          .cons rfl (fun ρ => PL.run 1 rfl (PL.nil rfl)) <|
          .cons rfl (fun ρ => PL.val (OpV.cut rfl rfl rfl rfl rfl rfl (l := 0) (h := 18 + lineN b i) rfl (eqS c18) (Nat.zero_le _) (mapLe q18)) (wantV_ok rfl) rfl (PL.nil rfl)) <|
          .cons rfl (fun ρ => PL.call rfl rfl rfl (impl_Same_spec (lineBytes (lineAt b i)) ((b.take (i + 18 + lineN b i)).drop i)) (.cons (.refl _) <| .cons (wkeq kc) <| .nil) (fun p hp => by subst hp; rfl) (wantV_ok rfl) rfl (fun p hp => by subst hp; exact PL.nil rfl)) <|
          .cons rfl (fun ρ => PL.run 1 rfl (PL.nil rfl)) <|
          .nil _) ?_
        refine PW.cond rfl (fun h5 => ?_) (fun h5 => ?_)
        ·
          refine PW.seq ?_
          refine PW.region ?_
          refine PL.val (OpV.build rfl rfl rfl rfl rfl rfl) (wantV_ok rfl) rfl ?_
          refine PL.run 3 rfl ?_
          refine PL.nil ?_
          refine PW.ret ?_
          have e : lineOf b i = none := by unfold lineOf; rw [if_pos h2', if_pos h3', if_neg (by simpa using h5)]
          refine RetOk.of rfl (.tup (.cons (.agg (.cons (.same _ rfl) (.cons (.same _ rfl) (.cons (.same _ rfl) (.cons (.same _ rfl) (.cons (.nil0 1) .nil)))))) (.cons (.leaf (.same _ rfl)) (.cons (.leaf (.same _ rfl)) .nil)))) (by simp) (by simp) ?_
          rw [e]; rfl
        ·
          refine PW.skip ?_
          refine PW.seq ?_
          refine PW.region ?_
          refine PL.run 7 rfl ?_
          refine PL.nil ?_
          refine PW.ret ?_
          have e : lineOf b i = some (lineAt b i, i + 18 + lineN b i) := by unfold lineOf; rw [if_pos h2', if_pos h3', if_pos (by simpa using h5)]
          refine RetOk.free rfl rfl ?_
          rw [e]
          show PV.tup [.agg [eI _, eS (hex (((b.drop i).take 9).drop 1)), eI _, eI _, eBs _], eI _, eT true] = PV.tup [.agg [eI (lineAt b i).kind, eS (lineAt b i).route, eI (lineAt b i).topic, eI (lineAt b i).due, eBs (lineAt b i).bytes], eI _, eT true]
          rw [← kk, ← kt, ← kd, ← kb, ← kr]
          exact congrArg (fun n => PV.tup [_, eI n, _]) cN.h
end Go.Wl
