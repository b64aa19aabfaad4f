/- The walks, seventeenth text: lines as bytes, a line is read (the program's). The walks, eighteenth text: searches in slices; queues that are right (the program's). The walks, nineteenth text: copies of queues, taking out in place (the program's). The walks, twentieth text: taking out in place (the program's). The walks, twenty-first text: put, take, due (the program's). The walks, twenty-second text: put, take, play (the program's). The walks, twenty-third text: posts, readers, worlds (the program's). -/
import Derived.Test.YtkganhdglmbpoaaGreatBe4
import Derived.Laws.BitsLemmas
set_option linter.unusedVariables false
set_option linter.unusedSimpArgs false
set_option maxRecDepth 100000
set_option maxHeartbeats 8000000
namespace Go.Wl
open Go Go.RowKit Go.Pw Go.Proofs
def lineParts (l : Line) : List (List UInt8) := [[u8 l.kind], lineRoute l, [u8 l.topic], great l.due 4, great (l.bytes.length : Nat) 2, l.bytes]
theorem lineParts_body (l : Line) : (lineParts l).flatten = lineBody l := by simp [lineParts, lineBody]
theorem lineBody_len {l : Line} (h : l.bytes.length ≤ 16000000) (hs : (lineRoute l).length ≤ 4096) : (lineBody l).length ≤ 16010000 := by
  have g4 := great_len l.due 4
  have g2 := great_len (l.bytes.length : Nat) 2
  simp only [lineBody, List.length_cons, List.length_append]; omega
theorem lineRoute_len2 {l : Line} (h : l.route.size ≤ 4096) : (lineRoute l).length ≤ 4096 := by
  unfold lineRoute
  split
  · simp
  · exact Nat.le_trans (unhex_len _) h
def eLP (l : Line) : List (List PV) := [[.sl 1 [[.lit (.int .u8 (IntKind.u8.wrap l.kind))]] none], [eBs (lineRoute l)], [.sl 1 [[.lit (.int .u8 (IntKind.u8.wrap l.topic))]] none], [eBs (great l.due 4)], [eBs (great (((l.bytes.map eb).length : Nat) : Int) 2)], [eBs l.bytes]]
theorem eLP_eq (l : Line) : (.sl 1 (eLP l) none : PV) = eBss (lineParts l) := by
  simp [eLP, lineParts, eBss, eBss1, eBs, u8_eb]
theorem wkrow2 {sz : Nat} {es : List (List PV)} {t : Option Nat} {q : PV} (h : (.sl sz es none : PV) = q) : Wk (.sl sz es t) q := h ▸ .row _ _ _
/- impl.LineBytes -/
theorem impl_LineBytes_spec (l : Line) (h : l.bytes.length ≤ 16000000) (hs : l.route.size ≤ 4096) : Pw.Spec Tryz.prog 146 [.agg (eLine l)] (fun res_ => res_ = eBs (lineBytes l)) := by
  refine spec_of (n := 43) Tryz.call146 Tryz.func146 rfl rfl (by simp) rfl rfl fun W Z => ?_
  refine PW.seq ?_
  refine PW.region ?_
  refine PL.run 2 rfl ?_
  refine PL.nil ?_
  refine PW.seq ?_
  refine PW.seq ?_
  refine PW.region ?_
  refine PL.run 1 rfl ?_
  refine PL.call rfl rfl rfl (impl_LineOk_spec l (by omega) (by omega)) (.cons (.refl _) <| .nil) (fun p hp => by subst hp; rfl) (wantV_ok rfl) rfl (fun p hp => ?_)
  subst hp
  refine PL.run 1 rfl ?_
  refine PL.nil ?_
  refine PW.cond rfl (fun h1 => ?_) (fun h1 => ?_)
  ·
    refine PW.seq ?_
    refine PW.region ?_
    refine PL.run 1 rfl ?_
    refine PL.nil ?_
    refine PW.ret ?_
    refine RetOk.of rfl (.one (.leaf (.nil0 1))) (by simp) (by simp) ?_
    have : lineOk l = false := by simpa using h1
    simp [lineBytes, this, eBs]
  ·
    have hok : lineOk l = true := by simpa using h1
    clear h1
    have hdue := lineOk_due hok
    have hr := lineRoute_len2 hs
    have hbl := lineBody_len h hr
    refine PW.skip ?_
    refine PW.seq ?_
    refine PW.region ?_
    refine PL.make rfl rfl rfl rfl rfl rfl rfl rfl rfl (by decide) (by decide) rfl (wantV_ok rfl) rfl ?_
    refine PL.le (Le.freezeBS (tv := 8) (sz := 1) (es := (List.replicate 8 (0 : UInt8)).map eb) (r := []) (b := [(1, (120, eLine l))]) (e := [(1, .bx 1 0)]) rfl rfl rfl rfl rfl (by simp [eb]) (by decide) rfl) ?_
    refine PL.run 1 rfl ?_
    refine PL.nil ?_
    refine PW.seq ?_
    refine PW.seq ?_
    refine PW.region ?_
    refine PL.run 3 rfl ?_
    refine PL.nil ?_
    refine PW.cond rfl (fun h2 => ?_) (fun h2 => ?_)
    ·
      have hk : l.kind ≠ 3 := by simpa using h2
      clear h2
      have er : (unhex l.route).getD [] = lineRoute l := by simp [lineRoute, hk]
      refine PW.region ?_
      refine PL.run 2 rfl ?_
      refine PL.call rfl rfl rfl (impl_Unhex_spec l.route (by omega)) (.cons (.refl _) <| .nil) (fun p hp => by subst hp; rfl) (wantV_ok rfl) rfl (fun p hp => ?_)
      subst hp
      refine PL.run 4 rfl ?_
      refine PL.nil ?_
      refine PW.seq ?_
      refine PW.drawn ((some 18, _) :: (some 19, _) :: (some 20, _) :: (some 21, _) :: (some 22, _) :: (some 23, _) :: (some 24, _) :: (some 25, _) :: (some 26, _) :: (some 27, _) :: (some 28, _) :: (some 29, _) :: (some 30, _) :: (some 31, _) :: (some 32, _) :: (some 33, _) :: (some 34, _) :: (some 35, _) :: (some 36, _) :: (some 37, _) :: (some 4, _) :: []) (0 :: 1 :: 3 :: 7 :: 0 :: 0 :: 32 :: 96 :: 224 :: 0 :: 512 :: 1536 :: 0 :: 4096 :: 12288 :: 32256 :: 0 :: 65536 :: 262143 :: 524287 :: 1048575 :: []) (phs [] _ [(19, _)] _) mixed rfl rfl rfl rfl rfl
        (.cons rfl (fun ρ => PL.run 1 rfl (PL.nil rfl)) <|
        .cons rfl (fun ρ => PL.run 1 rfl (PL.nil rfl)) <|
        .cons rfl (fun ρ => PL.run 1 rfl (PL.nil rfl)) <|
        .cons rfl (fun ρ => PL.litRo rfl rfl rfl rfl rfl rfl rfl rfl rfl rfl (wantV_ok rfl) (PL.nil rfl)) <|
        .cons rfl (fun ρ => PL.run 1 rfl (PL.nil rfl)) <|
        .cons rfl (fun ρ => PL.run 1 rfl (PL.nil rfl)) <|
        .cons rfl (fun ρ => PL.run 1 rfl (PL.nil rfl)) <|
        .cons rfl (fun ρ => PL.run 1 rfl (PL.nil rfl)) <|
        .cons rfl (fun ρ => PL.litRo rfl rfl rfl rfl rfl rfl rfl rfl rfl rfl (wantV_ok rfl) (PL.nil rfl)) <|
        .cons rfl (fun ρ => PL.run 1 rfl (PL.nil rfl)) <|
        .cons rfl (fun ρ => PL.run 1 rfl (PL.nil rfl)) <|
        .cons rfl (fun ρ => PL.call rfl rfl rfl (impl_Great_spec l.due 4) (.cons (.refl _) <| .cons (.refl _) <| .nil) (fun p hp => by subst hp; rfl) (wantV_ok rfl) rfl (fun p hp => by subst hp; exact PL.nil rfl)) <|
        .cons rfl (fun ρ => PL.run 1 rfl (PL.nil rfl)) <|
        .cons rfl (fun ρ => PL.run 1 rfl (PL.nil rfl)) <|
        .cons rfl (fun ρ => PL.run 1 rfl (PL.nil rfl)) <|
        .cons rfl (fun ρ => PL.call rfl rfl rfl (impl_Great_spec (((l.bytes.map eb).length : Nat) : Int) 2) (.cons (.refl _) <| .cons (.refl _) <| .nil) (fun p hp => by subst hp; rfl) (wantV_ok rfl) rfl (fun p hp => by subst hp; exact PL.nil rfl)) <|
        .cons rfl (fun ρ => PL.run 1 rfl (PL.nil rfl)) <|
        .cons rfl (fun ρ => PL.run 1 rfl (PL.nil rfl)) <|
        .cons rfl (fun ρ => PL.litRo rfl rfl rfl rfl rfl rfl rfl rfl rfl rfl (wantV_ok rfl) (PL.nil rfl)) <|
        .cons rfl (fun ρ => PL.call rfl rfl rfl (impl_joined_spec (lineParts l) (by simp [lineParts]) (by simp [lineParts]) (by rw [lineParts_body]; omega) 900) (.cons (wkeq (by rw [er]; exact eLP_eq l)) .nil) (fun p hp => by subst hp; rfl) (wantV_ok rfl) rfl (fun p hp => by subst hp; exact PL.nil rfl)) <|
        .cons rfl (fun ρ => PL.run 1 rfl (PL.nil rfl)) <|
        .nil _) ?_
      refine PW.seq ?_
      refine PW.region ?_
      refine PL.run 3 rfl ?_
      refine PL.call rfl rfl rfl (impl_Great_spec _ 2) (.cons (.refl _) <| .cons (.refl _) <| .nil) (fun p hp => by subst hp; rfl) (wantV_ok rfl) rfl (fun p hp => ?_)
      subst hp
      refine PL.app rfl rfl rfl rfl rfl rfl rfl rfl rfl rfl (bndG (by rw [List.length_map, lineParts_body]; simp <;> omega)) (bndG' (by rw [List.length_map, lineParts_body]; omega)) (wantV_ok rfl) rfl ?_
      refine PL.run 1 rfl ?_
      refine PL.nil ?_
      refine PW.ret ?_
      refine RetOk.of rfl (.one (.leaf (.ro _ _ _))) (by simp) (by simp) ?_
      simp only [lineBytes, hok, if_true, lineParts_body]
      simp [eBs, List.map_append]
    ·
      have hk : l.kind = 3 := by simpa using h2
      clear h2
      have er : List.replicate 8 0 = lineRoute l := by simp [lineRoute, hk]
      refine PW.skip ?_
      refine PW.seq ?_
      refine PW.drawn ((some 18, _) :: (some 19, _) :: (some 20, _) :: (some 21, _) :: (some 22, _) :: (some 23, _) :: (some 24, _) :: (some 25, _) :: (some 26, _) :: (some 27, _) :: (some 28, _) :: (some 29, _) :: (some 30, _) :: (some 31, _) :: (some 32, _) :: (some 33, _) :: (some 34, _) :: (some 35, _) :: (some 36, _) :: (some 37, _) :: (some 4, _) :: []) (0 :: 1 :: 3 :: 7 :: 0 :: 0 :: 32 :: 96 :: 224 :: 0 :: 512 :: 1536 :: 0 :: 4096 :: 12288 :: 32256 :: 0 :: 65536 :: 262143 :: 524287 :: 1048575 :: []) (phs [] _ [(19, _)] _) mixed rfl rfl rfl rfl rfl
        (.cons rfl (fun ρ => PL.run 1 rfl (PL.nil rfl)) <|
        .cons rfl (fun ρ => PL.run 1 rfl (PL.nil rfl)) <|
        .cons rfl (fun ρ => PL.run 1 rfl (PL.nil rfl)) <|
        .cons rfl (fun ρ => PL.litRo rfl rfl rfl rfl rfl rfl rfl rfl rfl rfl (wantV_ok rfl) (PL.nil rfl)) <|
        .cons rfl (fun ρ => PL.run 1 rfl (PL.nil rfl)) <|
        .cons rfl (fun ρ => PL.run 1 rfl (PL.nil rfl)) <|
        .cons rfl (fun ρ => PL.run 1 rfl (PL.nil rfl)) <|
        .cons rfl (fun ρ => PL.run 1 rfl (PL.nil rfl)) <|
        .cons rfl (fun ρ => PL.litRo rfl rfl rfl rfl rfl rfl rfl rfl rfl rfl (wantV_ok rfl) (PL.nil rfl)) <|
        .cons rfl (fun ρ => PL.run 1 rfl (PL.nil rfl)) <|
        .cons rfl (fun ρ => PL.run 1 rfl (PL.nil rfl)) <|
        .cons rfl (fun ρ => PL.call rfl rfl rfl (impl_Great_spec l.due 4) (.cons (.refl _) <| .cons (.refl _) <| .nil) (fun p hp => by subst hp; rfl) (wantV_ok rfl) rfl (fun p hp => by subst hp; exact PL.nil rfl)) <|
        .cons rfl (fun ρ => PL.run 1 rfl (PL.nil rfl)) <|
        .cons rfl (fun ρ => PL.run 1 rfl (PL.nil rfl)) <|
        .cons rfl (fun ρ => PL.run 1 rfl (PL.nil rfl)) <|
        .cons rfl (fun ρ => PL.call rfl rfl rfl (impl_Great_spec (((l.bytes.map eb).length : Nat) : Int) 2) (.cons (.refl _) <| .cons (.refl _) <| .nil) (fun p hp => by subst hp; rfl) (wantV_ok rfl) rfl (fun p hp => by subst hp; exact PL.nil rfl)) <|
        .cons rfl (fun ρ => PL.run 1 rfl (PL.nil rfl)) <|
        .cons rfl (fun ρ => PL.run 1 rfl (PL.nil rfl)) <|
        .cons rfl (fun ρ => PL.litRo rfl rfl rfl rfl rfl rfl rfl rfl rfl rfl (wantV_ok rfl) (PL.nil rfl)) <|
        .cons rfl (fun ρ => PL.call rfl rfl rfl (impl_joined_spec (lineParts l) (by simp [lineParts]) (by simp [lineParts]) (by rw [lineParts_body]; omega) 900) (.cons (wkeq (by rw [er]; exact eLP_eq l)) .nil) (fun p hp => by subst hp; rfl) (wantV_ok rfl) rfl (fun p hp => by subst hp; exact PL.nil rfl)) <|
        .cons rfl (fun ρ => PL.run 1 rfl (PL.nil rfl)) <|
        .nil _) ?_
      refine PW.seq ?_
      refine PW.region ?_
      refine PL.run 3 rfl ?_
      refine PL.call rfl rfl rfl (impl_Great_spec _ 2) (.cons (.refl _) <| .cons (.refl _) <| .nil) (fun p hp => by subst hp; rfl) (wantV_ok rfl) rfl (fun p hp => ?_)
      subst hp
      refine PL.app rfl rfl rfl rfl rfl rfl rfl rfl rfl rfl (bndG (by rw [List.length_map, lineParts_body]; simp <;> omega)) (bndG' (by rw [List.length_map, lineParts_body]; omega)) (wantV_ok rfl) rfl ?_
      refine PL.run 1 rfl ?_
      refine PL.nil ?_
      refine PW.ret ?_
      refine RetOk.of rfl (.one (.leaf (.ro _ _ _))) (by simp) (by simp) ?_
      simp only [lineBytes, hok, if_true, lineParts_body]
      simp [eBs, List.map_append]
def zL : List PV := [eI 0, .lit (.string { data := #[] }), eI 0, eI 0, .lit (.slice none 0 0)]
theorem or_n (x y : UInt8) : bits .or .i64 (sh x 8) (IntKind.i64.wrap (y.toNat : Int)) = ((256 * x.toNat + y.toNat : Nat) : Int) := by
  have hx := x.toNat_lt
  have hy := y.toNat_lt
  have e : sh x 8 = ((256 * x.toNat : Nat) : Int) := by
    have h : (2 : Int) ^ min (8 : Int).toNat IntKind.i64.bits = 256 := by decide
    simp only [sh, h]
    rw [u8_wrap64, wrap_id (by omega) (by omega)]; omega
  have h8 : (2 : Int) ^ 8 = 256 := by decide
  have h63 : (2 : Int) ^ 63 = 9223372036854775808 := by decide
  rw [e, u8_wrap64, bits_join .i64 63 (by decide) wraps63 8 _ _ (by omega) (by rw [h8]; omega) (by rw [h63]; omega) (by omega) (by rw [h8]; omega) (by rw [h63]; omega)]
  omega
theorem drop_cut (b : List UInt8) (i n m : Nat) : ((b.drop i).take n).drop m = (b.take (i + n)).drop (i + m) := by
  rw [List.take_drop, List.drop_drop]
theorem getD_drop (b : List UInt8) (i j : Nat) : (b.drop i).getD j 0 = b.getD (i + j) 0 := by
  simp only [List.getD_eq_getElem?_getD, List.getElem?_drop]
theorem word_cut {b : List UInt8} {i : Nat} : wordAt true (((b.drop i).take 14).drop 10) 0 = or4 (b.getD (i + 10) 0) (b.getD (i + 11) 0) (b.getD (i + 12) 0) (b.getD (i + 13) 0) := by
  have hg : ∀ j, j < 4 → (((b.drop i).take 14).drop 10).getD j 0 = b.getD (i + 10 + j) 0 := fun j hj => by
    simp only [List.getD_eq_getElem?_getD, List.getElem?_drop]
    rw [List.getElem?_take_of_lt (by omega), List.getElem?_drop]; congr 2; omega
  simp only [wordAt, if_true]
  rw [hg _ (by decide), hg _ (by decide), hg _ (by decide), hg _ (by decide)]
/- impl.LineOf -/
theorem impl_LineOf_spec (b : List UInt8) (i : Nat) (hb : b.length ≤ 16000000) (hat : i ≤ b.length) : Pw.Spec Tryz.prog 122 [eBs b, eI (i : Int)] (fun res_ => res_ = lineR (lineOf b i)) := by
  refine spec_of (n := 78) Tryz.call122 Tryz.func122 rfl rfl (by simp) rfl rfl fun W Z => ?_
  have hX : Eqq (IntKind.i64.wrap (IntKind.i64.wrap (((b.map eb).length : Nat) - 16 : Int) - 2)) ((b.length : Int) - 18) := ⟨by rw [List.length_map, wrap_id (x := ((b.length : Nat) : Int) - 16) (by omega) (by omega), wrap_id (by omega) (by omega)]; omega⟩
  refine PW.seq ?_
  refine PW.region ?_
  refine PL.run 3 rfl ?_
  refine PL.nil ?_
  refine PW.seq ?_
  refine PW.seq ?_
  refine PW.region ?_
  refine PL.run 5 rfl ?_
  refine PL.call rfl rfl rfl (impl_in_spec (i : Int) 0 _) (.cons (.refl _) <| .cons (.refl _) <| .cons (.refl _) <| .nil) (fun p hp => by subst hp; rfl) (wantV_ok rfl) rfl (fun p hp => ?_)
  subst hp
  refine PL.run 1 rfl ?_
  refine PL.nil ?_
  refine PW.cond rfl (fun h1 => ?_) (fun h1 => ?_)
  ·
    have h2' : ¬ i + 18 ≤ b.length := by
     rw [hX.h] at h1
     simp [inB] at h1
     omega
    clear h1
    refine PW.seq ?_
    refine PW.region ?_
    refine PL.val (OpV.build rfl rfl rfl rfl rfl rfl) (wantV_ok rfl) rfl ?_
    refine PL.run 3 rfl ?_
    refine PL.nil ?_
    refine PW.ret ?_
    have e : lineOf b i = none := by unfold lineOf; rw [if_neg h2']
    refine RetOk.of rfl (.tup (.cons (.agg (.cons (.same _ rfl) (.cons (.same _ rfl) (.cons (.same _ rfl) (.cons (.same _ rfl) (.cons (.nil0 1) .nil)))))) (.cons (.leaf (.same _ rfl)) (.cons (.leaf (.same _ rfl)) .nil)))) (by simp) (by simp) ?_
    rw [e]; rfl
  ·
    have h2' : i + 18 ≤ b.length := by
     rw [hX.h] at h1
     simp [inB] at h1
     omega
    clear h1
    have hdl : (b.drop i).length = b.length - i := List.length_drop ..
    have q0 : 0 < (b.drop i).length := by omega
    have q9 : 9 < (b.drop i).length := by omega
    have q14 : 14 < (b.drop i).length := by omega
    have q15 : 15 < (b.drop i).length := by omega
    have hN := lineN_lt b i
    have eN : Eqq (bits .or .i64 (sh ((b.drop i).getD 14 0) 8) (IntKind.i64.wrap (((b.drop i).getD 15 0).toNat : Int))) (lineN b i : Nat) := ⟨by rw [or_n, getD_drop, getD_drop]; rfl⟩
    have hY : Eqq (IntKind.i64.wrap (IntKind.i64.wrap ((((b.drop i).map eb).length : Nat) - 16 : Int) - 2)) ((b.length : Int) - i - 18) := ⟨by rw [List.length_map, hdl, wrap_id (x := ((b.length - i : Nat) : Int) - 16) (by omega) (by omega), wrap_id (by omega) (by omega)]; omega⟩
    have lh : (((b.drop i).take 9).drop 1).length ≤ 1099511627776 := by rw [List.length_drop, List.length_take]; omega
    have lw : 4 ≤ (((b.drop i).take 14).drop 10).length := by rw [List.length_drop, List.length_take]; omega
    have lb : (((b.drop i).take (16 + lineN b i)).drop 16).length ≤ 16777216 := by rw [List.length_drop, List.length_take]; omega
    have hls := lineAt_size b i (by omega)
    have hlo := lineAt_len b i
    have hls' : (lineAt b i).route.size ≤ 4096 := by omega
    have hlo' : (lineAt b i).bytes.length ≤ 16000000 := by omega
    refine PW.skip ?_
    refine PW.seq ?_
    refine PW.region ?_
    refine PL.run 2 rfl ?_
    refine PL.val (OpV.cut (l := i) (h := (b.map eb).length) rfl rfl rfl rfl rfl rfl rfl rfl (mapLe hat) (Nat.le_refl _)) (wantV_ok rfl) rfl ?_
    refine PL.le (Le.boxes (b := [(4, (120, zL))]) (e := [(21, eBs (b.drop i)), (1, eI (i : Int)), (4, .bx 4 0), (5, eI 0), (6, eT false)]) ⟨⟨rfl, rfl⟩, trivial⟩ ⟨⟨congrArg (fun l => some (PV.sl 1 l none)) (by rw [List.take_length, List.map_drop]), rfl⟩, ⟨rfl, rfl⟩, ⟨rfl, rfl⟩, ⟨rfl, rfl⟩, ⟨rfl, rfl⟩, trivial⟩) ?_
    refine PL.run 1 rfl ?_
    refine PL.nil ?_
    refine PW.seq ?_
    refine PW.drawn ((some 22, _) :: (some 23, _) :: (some 24, _) :: (some 25, _) :: (some 26, _) :: (some 27, _) :: (some 28, _) :: (some 29, _) :: (some 30, _) :: (some 31, _) :: (some 8, _) :: []) (0 :: 1 :: 3 :: 7 :: 15 :: 0 :: 32 :: 96 :: 224 :: 511 :: 1023 :: []) (fun _ => _) mixed rfl rfl rfl rfl rfl
      (.cons rfl (fun ρ => PL.run 1 rfl (PL.nil rfl)) <|
      .cons rfl (fun ρ => PL.val (OpV.idx rfl rfl rfl (by decide) (map_at (getD_at q14)) rfl rfl rfl rfl) (wantV_ok rfl) rfl (PL.nil rfl)) <|
      .cons rfl (fun ρ => PL.run 1 rfl (PL.nil rfl)) <|
      .cons rfl (fun ρ => PL.run 1 rfl (PL.nil rfl)) <|
      .cons rfl (fun ρ => PL.val (OpV.shl rfl rfl rfl (by decide)) (wantV_ok rfl) rfl (PL.nil rfl)) <|
      .cons rfl (fun ρ => PL.run 1 rfl (PL.nil rfl)) <|
      .cons rfl (fun ρ => PL.val (OpV.idx rfl rfl rfl (by decide) (map_at (getD_at q15)) rfl rfl rfl rfl) (wantV_ok rfl) rfl (PL.nil rfl)) <|
      .cons rfl (fun ρ => PL.run 1 rfl (PL.nil rfl)) <|
      .cons rfl (fun ρ => PL.run 1 rfl (PL.nil rfl)) <|
      .cons rfl (fun ρ => PL.run 1 rfl (PL.nil rfl)) <|
      .cons rfl (fun ρ => PL.run 1 rfl (PL.nil rfl)) <|
      .nil _) ?_
    refine PW.seq ?_
    refine PW.seq ?_
    refine PW.region ?_
    refine PL.run 6 rfl ?_
    refine PL.nil ?_
    refine PW.cond rfl (fun h2 => ?_) (fun h2 => ?_)
    ·
      have h3' : ¬ i + 18 + lineN b i ≤ b.length := by
       have h2 := of_decide_eq_true h2
       rw [hY.h] at h2
       have h2 : (b.length : Int) - i - 18 < bits .or .i64 (sh ((b.drop i).getD 14 0) 8) (IntKind.i64.wrap (((b.drop i).getD 15 0).toNat : Int)) := h2
       rw [eN.h] at h2
       omega
      clear h2
      refine PW.seq ?_
      refine PW.region ?_
      refine PL.val (OpV.build rfl rfl rfl rfl rfl rfl) (wantV_ok rfl) rfl ?_
      refine PL.run 3 rfl ?_
      refine PL.nil ?_
      refine PW.ret ?_
      have e : lineOf b i = none := by unfold lineOf; rw [if_pos h2', if_neg h3']
      refine RetOk.of rfl (.tup (.cons (.agg (.cons (.same _ rfl) (.cons (.same _ rfl) (.cons (.same _ rfl) (.cons (.same _ rfl) (.cons (.nil0 1) .nil)))))) (.cons (.leaf (.same _ rfl)) (.cons (.leaf (.same _ rfl)) .nil)))) (by simp) (by simp) ?_
      rw [e]; rfl
    ·
      have h3' : i + 18 + lineN b i ≤ b.length := by
       have h2 := of_decide_eq_false h2
       rw [hY.h] at h2
       have h2 : ¬ (b.length : Int) - i - 18 < bits .or .i64 (sh ((b.drop i).getD 14 0) 8) (IntKind.i64.wrap (((b.drop i).getD 15 0).toNat : Int)) := h2
       rw [eN.h] at h2
       omega
      clear h2
      have c16 : Eqq (IntKind.i64.wrap (16 + bits .or .i64 (sh ((b.drop i).getD 14 0) 8) (IntKind.i64.wrap (((b.drop i).getD 15 0).toNat : Int)))) ((16 + lineN b i : Nat) : Int) := ⟨by rw [eN.h, wrap_id (by omega) (by omega)]; omega⟩
      have c18 : Eqq (IntKind.i64.wrap (IntKind.i64.wrap (16 + bits .or .i64 (sh ((b.drop i).getD 14 0) 8) (IntKind.i64.wrap (((b.drop i).getD 15 0).toNat : Int))) + 2)) ((18 + lineN b i : Nat) : Int) := ⟨by rw [c16.h, wrap_id (by omega) (by omega)]; omega⟩
      have cN : Eqq (IntKind.i64.wrap ((i : Int) + IntKind.i64.wrap (IntKind.i64.wrap (16 + bits .or .i64 (sh ((b.drop i).getD 14 0) 8) (IntKind.i64.wrap (((b.drop i).getD 15 0).toNat : Int))) + 2))) ((i + 18 + lineN b i : Nat) : Int) := ⟨by rw [c18.h, wrap_id (by omega) (by omega)]; omega⟩
      have s16 : 16 ≤ 16 + lineN b i := by omega
      have q16 : 16 + lineN b i ≤ (b.drop i).length := by omega
      have q18 : 18 + lineN b i ≤ (b.drop i).length := by omega
      have kk : eI (IntKind.i64.wrap (((b.drop i).getD 0 0).toNat : Int)) = eI (lineAt b i).kind := congrArg eI (by rw [u8_wrap64, getD_drop]; rfl)
      have kt : eI (IntKind.i64.wrap (((b.drop i).getD 9 0).toNat : Int)) = eI (lineAt b i).topic := congrArg eI (by rw [u8_wrap64, getD_drop]; rfl)
      have kd : eI (wordAt true (((b.drop i).take 14).drop 10) 0) = eI (lineAt b i).due := congrArg eI (by rw [word_cut]; rfl)
      have kb : eBs (((b.drop i).take (16 + lineN b i)).drop 16) = eBs (lineAt b i).bytes := congrArg eBs (by rw [drop_cut, ← Nat.add_assoc]; rfl)
      have kc : (.sl 1 ((((b.drop i).map eb).take (18 + lineN b i)).drop 0) none : PV) = eBs ((b.take (i + 18 + lineN b i)).drop i) := by rw [cut_map, drop_cut, ← Nat.add_assoc, Nat.add_zero]; rfl
      refine PW.skip ?_
      refine PW.seq ?_
      refine PW.drawn ((some 39, _) :: (some 40, _) :: (some 41, _) :: (some 42, _) :: (some 43, _) :: (some 44, _) :: (some 45, _) :: (some 46, _) :: (some 47, _) :: (some 48, _) :: (some 49, _) :: (some 50, _) :: (some 51, _) :: (some 52, _) :: (some 53, _) :: (some 54, _) :: (some 55, _) :: (some 56, _) :: (some 57, _) :: (some 58, _) :: (some 9, _) :: (none, .junk) :: []) (0 :: 1 :: 3 :: 7 :: 0 :: 16 :: 48 :: 0 :: 128 :: 384 :: 896 :: 0 :: 2048 :: 6256 :: 0 :: 0 :: 32768 :: 114688 :: 260208 :: 524287 :: 0 :: 2097151 :: []) (phs [(21, _), (20, _)] _ [] _) mixed rfl rfl rfl rfl rfl
        (.cons rfl (fun ρ => PL.run 1 rfl (PL.nil rfl)) <|
        .cons rfl (fun ρ => PL.val (OpV.idx rfl rfl rfl (by decide) (map_at (getD_at q0)) rfl rfl rfl rfl) (wantV_ok rfl) rfl (PL.nil rfl)) <|
        .cons rfl (fun ρ => PL.run 1 rfl (PL.nil rfl)) <|
        .cons rfl (fun ρ => PL.run 1 rfl (PL.nil rfl)) <|
        .cons rfl (fun ρ => PL.run 1 rfl (PL.nil rfl)) <|
        .cons rfl (fun ρ => PL.val (OpV.cut rfl rfl rfl rfl rfl rfl (l := 1) (h := 9) rfl rfl (by decide) (mapLe (Nat.le_of_lt q9))) (wantV_ok rfl) rfl (PL.nil rfl)) <|
        .cons rfl (fun ρ => PL.call rfl rfl rfl (impl_Hex_spec (((b.drop i).take 9).drop 1) lh) (.cons (wkrow (cut_map _ _ _)) .nil) (fun p hp => by subst hp; rfl) (wantV_ok rfl) rfl (fun p hp => by subst hp; exact PL.nil rfl)) <|
        .cons rfl (fun ρ => PL.run 1 rfl (PL.nil rfl)) <|
        .cons rfl (fun ρ => PL.val (OpV.idx rfl rfl rfl (by decide) (map_at (getD_at q9)) rfl rfl rfl rfl) (wantV_ok rfl) rfl (PL.nil rfl)) <|
        .cons rfl (fun ρ => PL.run 1 rfl (PL.nil rfl)) <|
        .cons rfl (fun ρ => PL.run 1 rfl (PL.nil rfl)) <|
        .cons rfl (fun ρ => PL.run 1 rfl (PL.nil rfl)) <|
        .cons rfl (fun ρ => PL.val (OpV.cut rfl rfl rfl rfl rfl rfl (l := 10) (h := 14) rfl rfl (by decide) (mapLe (Nat.le_of_lt q14))) (wantV_ok rfl) rfl (PL.nil rfl)) <|
        .cons rfl (fun ρ => PL.call rfl rfl rfl (impl_wordOf_spec (((b.drop i).take 14).drop 10) true lw) (.cons (wkrow (cut_map _ _ _)) <| .cons (.refl _) .nil) (fun p hp => by subst hp; rfl) (wantV_ok rfl) rfl (fun p hp => by subst hp; exact PL.nil rfl)) <|
        .cons rfl (fun ρ => PL.run 1 rfl (PL.nil rfl)) <|
        .cons rfl (fun ρ => PL.run 1 rfl (PL.nil rfl)) <|
        .cons rfl (fun ρ => PL.run 1 rfl (PL.nil rfl)) <|
        .cons rfl (fun ρ => PL.val (OpV.cut rfl rfl rfl rfl rfl rfl (l := 16) (h := 16 + lineN b i) rfl (eqS c16) s16 (mapLe q16)) (wantV_ok rfl) rfl (PL.nil rfl)) <|
        .cons rfl (fun ρ => PL.call rfl rfl rfl (slices_Clone__byte_byte_spec (((b.drop i).take (16 + lineN b i)).drop 16) lb) (.cons (wkrow (cut_map _ _ _)) .nil) (fun p hp => by subst hp; rfl) (wantV_ok rfl) rfl (fun p hp => by subst hp; exact PL.nil rfl)) <|
        .cons rfl (fun ρ => PL.val (OpV.build rfl rfl rfl rfl rfl rfl) (wantV_ok rfl) rfl (PL.nil rfl)) <|
        .cons rfl (fun ρ => PL.run 1 rfl (PL.nil rfl)) <|
        .cons rfl (fun ρ => PL.run 1 rfl (PL.nil rfl)) <|
        .nil _) ?_
      refine PW.seq ?_
      refine PW.seq ?_
      refine PW.region ?_
      refine PL.run 3 rfl ?_
      refine PL.nil ?_
      refine PW.cond rfl (fun h3 => ?_) (fun h3 => ?_)
      ·
        have h3 := of_decide_eq_true h3
        have kr : noText = (lineAt b i).route := by
         have h3 : IntKind.i64.wrap (((b.drop i).getD 0 0).toNat : Int) = 3 := h3
         rw [u8_wrap64, getD_drop] at h3
         have : (b.getD i 0).toNat = 3 := by simp only [Nat.add_zero] at h3; omega
         simp only [lineAt]; rw [if_pos this]
        refine PW.region ?_
        refine PL.run 2 rfl ?_
        refine PL.nil ?_
        refine PW.seq ?_
        refine PW.region ?_
        refine PL.run 4 rfl ?_
        refine PL.nil ?_
        refine PW.seq ?_
        refine PW.seq ?_
        refine PW.drawn ((some 66, _) :: (some 67, _) :: (some 68, _) :: (some 69, _) :: (some 70, _) :: (some 71, _) :: (some 72, _) :: []) (0 :: 1 :: 0 :: 0 :: 12 :: 31 :: 63 :: []) (fun _ => _) mixed rfl rfl rfl rfl rfl
          (.cons rfl (fun ρ => PL.run 1 rfl (PL.nil rfl)) <|
          .cons rfl (fun ρ => PL.call rfl rfl rfl (impl_LineBytes_spec (lineAt b i) hlo' hls') (.cons (WkL.aggd (.cons (wkeq kk) <| .cons (wkeq (congrArg eS kr)) <| .cons (wkeq kt) <| .cons (wkeq kd) <| .cons (wkeq kb) .nil)) .nil) (fun p hp => by subst hp; rfl) (wantV_ok rfl) rfl (fun p hp => by subst hp; exact PL.nil rfl)) <|
          .cons rfl (fun ρ => PL.run 1 rfl (PL.nil rfl)) <|
          .cons rfl (fun ρ => PL.run 1 rfl (PL.nil rfl)) <|
          .cons rfl (fun ρ => PL.val (OpV.cut rfl rfl rfl rfl rfl rfl (l := 0) (h := 18 + lineN b i) rfl (eqS c18) (Nat.zero_le _) (mapLe q18)) (wantV_ok rfl) rfl (PL.nil rfl)) <|
          .cons rfl (fun ρ => PL.call rfl rfl rfl (impl_Same_spec (lineBytes (lineAt b i)) ((b.take (i + 18 + lineN b i)).drop i)) (.cons (.refl _) <| .cons (wkeq kc) <| .nil) (fun p hp => by subst hp; rfl) (wantV_ok rfl) rfl (fun p hp => by subst hp; exact PL.nil rfl)) <|
          .cons rfl (fun ρ => PL.run 1 rfl (PL.nil rfl)) <|
          .nil _) ?_
        refine PW.cond rfl (fun h4 => ?_) (fun h4 => ?_)
        ·
          refine PW.seq ?_
          refine PW.region ?_
          refine PL.val (OpV.build rfl rfl rfl rfl rfl rfl) (wantV_ok rfl) rfl ?_
          refine PL.run 3 rfl ?_
          refine PL.nil ?_
          refine PW.ret ?_
          have e : lineOf b i = none := by unfold lineOf; rw [if_pos h2', if_pos h3', if_neg (by simpa using h4)]
          refine RetOk.of rfl (.tup (.cons (.agg (.cons (.same _ rfl) (.cons (.same _ rfl) (.cons (.same _ rfl) (.cons (.same _ rfl) (.cons (.nil0 1) .nil)))))) (.cons (.leaf (.same _ rfl)) (.cons (.leaf (.same _ rfl)) .nil)))) (by simp) (by simp) ?_
          rw [e]; rfl
        ·
          refine PW.skip ?_
          refine PW.seq ?_
          refine PW.region ?_
          refine PL.run 7 rfl ?_
          refine PL.nil ?_
          refine PW.ret ?_
          have e : lineOf b i = some (lineAt b i, i + 18 + lineN b i) := by unfold lineOf; rw [if_pos h2', if_pos h3', if_pos (by simpa using h4)]
          refine RetOk.free rfl rfl ?_
          rw [e]
          show PV.tup [.agg [eI _, eS noText, eI _, eI _, eBs _], eI _, eT true] = PV.tup [.agg [eI (lineAt b i).kind, eS (lineAt b i).route, eI (lineAt b i).topic, eI (lineAt b i).due, eBs (lineAt b i).bytes], eI _, eT true]
          rw [← kk, ← kt, ← kd, ← kb, ← kr]
          exact congrArg (fun n => PV.tup [_, eI n, _]) cN.h
      ·
        have h3 := of_decide_eq_false h3
        have kr : hex (((b.drop i).take 9).drop 1) = (lineAt b i).route := by
         have h3 : ¬ IntKind.i64.wrap (((b.drop i).getD 0 0).toNat : Int) = 3 := h3
         rw [u8_wrap64, getD_drop] at h3
         have : (b.getD i 0).toNat ≠ 3 := by simp only [Nat.add_zero] at h3; omega
         simp only [lineAt]; rw [if_neg this, drop_cut]
        refine PW.skip ?_
        refine PW.seq ?_
        refine PW.region ?_
        refine PL.run 4 rfl ?_
        refine PL.nil ?_
        refine PW.seq ?_
        refine PW.seq ?_
        refine PW.drawn ((some 66, _) :: (some 67, _) :: (some 68, _) :: (some 69, _) :: (some 70, _) :: (some 71, _) :: (some 72, _) :: []) (0 :: 1 :: 0 :: 0 :: 12 :: 31 :: 63 :: []) (fun _ => _) mixed rfl rfl rfl rfl rfl
          (.cons rfl (fun ρ => PL.run 1 rfl (PL.nil rfl)) <|
          .cons rfl (fun ρ => PL.call rfl rfl rfl (impl_LineBytes_spec (lineAt b i) hlo' hls') (.cons (WkL.aggd (.cons (wkeq kk) <| .cons (wkeq (congrArg eS kr)) <| .cons (wkeq kt) <| .cons (wkeq kd) <| .cons (wkeq kb) .nil)) .nil) (fun p hp => by subst hp; rfl) (wantV_ok rfl) rfl (fun p hp => by subst hp; exact PL.nil rfl)) <|
          .cons rfl (fun ρ => PL.run 1 rfl (PL.nil rfl)) <|
          .cons rfl (fun ρ => PL.run 1 rfl (PL.nil rfl)) <|
          .cons rfl (fun ρ => PL.val (OpV.cut rfl rfl rfl rfl rfl rfl (l := 0) (h := 18 + lineN b i) rfl (eqS c18) (Nat.zero_le _) (mapLe q18)) (wantV_ok rfl) rfl (PL.nil rfl)) <|
          .cons rfl (fun ρ => PL.call rfl rfl rfl (impl_Same_spec (lineBytes (lineAt b i)) ((b.take (i + 18 + lineN b i)).drop i)) (.cons (.refl _) <| .cons (wkeq kc) <| .nil) (fun p hp => by subst hp; rfl) (wantV_ok rfl) rfl (fun p hp => by subst hp; exact PL.nil rfl)) <|
          .cons rfl (fun ρ => PL.run 1 rfl (PL.nil rfl)) <|
          .nil _) ?_
        refine PW.cond rfl (fun h5 => ?_) (fun h5 => ?_)
        ·
          refine PW.seq ?_
          refine PW.region ?_
          refine PL.val (OpV.build rfl rfl rfl rfl rfl rfl) (wantV_ok rfl) rfl ?_
          refine PL.run 3 rfl ?_
          refine PL.nil ?_
          refine PW.ret ?_
          have e : lineOf b i = none := by unfold lineOf; rw [if_pos h2', if_pos h3', if_neg (by simpa using h5)]
          refine RetOk.of rfl (.tup (.cons (.agg (.cons (.same _ rfl) (.cons (.same _ rfl) (.cons (.same _ rfl) (.cons (.same _ rfl) (.cons (.nil0 1) .nil)))))) (.cons (.leaf (.same _ rfl)) (.cons (.leaf (.same _ rfl)) .nil)))) (by simp) (by simp) ?_
          rw [e]; rfl
        ·
          refine PW.skip ?_
          refine PW.seq ?_
          refine PW.region ?_
          refine PL.run 7 rfl ?_
          refine PL.nil ?_
          refine PW.ret ?_
          have e : lineOf b i = some (lineAt b i, i + 18 + lineN b i) := by unfold lineOf; rw [if_pos h2', if_pos h3', if_pos (by simpa using h5)]
          refine RetOk.free rfl rfl ?_
          rw [e]
          show PV.tup [.agg [eI _, eS (hex (((b.drop i).take 9).drop 1)), eI _, eI _, eBs _], eI _, eT true] = PV.tup [.agg [eI (lineAt b i).kind, eS (lineAt b i).route, eI (lineAt b i).topic, eI (lineAt b i).due, eBs (lineAt b i).bytes], eI _, eT true]
          rw [← kk, ← kt, ← kd, ← kb, ← kr]
          exact congrArg (fun n => PV.tup [_, eI n, _]) cN.h
end Go.Wl
set_option linter.unusedVariables false
set_option linter.unusedSimpArgs false
set_option maxRecDepth 100000
set_option maxHeartbeats 8000000
namespace Go.Wl
open Go Go.RowKit Go.Pw Go.Proofs
/-- The place of the first one, or -1. -/
def idx {α : Type} (f : α → Bool) : List α → Int
  | [] => -1
  | x :: l => if f x then 0 else if idx f l < 0 then -1 else idx f l + 1
theorem idx_ge {α : Type} (f : α → Bool) : ∀ l : List α, -1 ≤ idx f l
  | [] => by simp [idx]
  | x :: l => by
    have := idx_ge f l
    simp only [idx]; split
    · omega
    · split <;> omega
theorem idx_at {α : Type} {f : α → Bool} : ∀ {l : List α} {i : Nat} {x : α}, (∀ (j : Nat) (y : α), j < i → l[j]? = some y → f y = false) → l[i]? = some x → f x = true → idx f l = i
  | [], i, x, _, h, _ => by simp at h
  | z :: l, 0, x, _, h, hf => by simp at h; subst h; simp [idx, hf]
  | z :: l, i + 1, x, hn, h, hf => by
    have h1 := hn 0 z (by omega) rfl
    have := idx_at (l := l) (i := i) (x := x) (fun j y hj hy => hn (j + 1) y (by omega) (by simpa using hy)) (by simpa using h) hf
    simp only [idx, h1, this]
    rw [if_neg (by decide), if_neg (by omega)]; omega
theorem idx_none {α : Type} {f : α → Bool} : ∀ {l : List α}, (∀ (j : Nat) (y : α), l[j]? = some y → f y = false) → idx f l = -1
  | [], _ => rfl
  | z :: l, hn => by
    have h1 := hn 0 z rfl
    have := idx_none (l := l) (fun j y hy => hn (j + 1) y (by simpa using hy))
    simp [idx, h1, this]
theorem idx_some {α : Type} {f : α → Bool} : ∀ {l : List α}, 0 ≤ idx f l → ∃ (i : Nat) (x : α), idx f l = i ∧ l[i]? = some x ∧ f x = true ∧ ∀ (j : Nat) (y : α), j < i → l[j]? = some y → f y = false
  | [], h => by simp [idx] at h
  | z :: l, h => by
    simp only [idx] at h ⊢
    split at h
    · rename_i h1
      exact ⟨0, z, by simp [h1], rfl, h1, fun j y hj => by omega⟩
    · rename_i h1
      split at h
      · omega
      · rename_i h2
        obtain ⟨i, x, e1, e2, e3, e4⟩ := idx_some (f := f) (l := l) (by omega)
        refine ⟨i + 1, x, by rw [if_neg h1, if_neg h2, e1]; omega, by simpa using e2, e3, fun j y hj hy => ?_⟩
        cases j with
        | zero => simp at hy; subst hy; simpa using h1
        | succ j => exact e4 j y (by omega) (by simpa using hy)
theorem idx_no {α : Type} {f : α → Bool} : ∀ {l : List α}, idx f l < 0 → ∀ x ∈ l, f x = false
  | [], _, x, hx => by cases hx
  | z :: l, h, x, hx => by
    simp only [idx] at h
    split at h
    · omega
    · rename_i h1
      split at h
      · rename_i h2
        rcases List.mem_cons.1 hx with rfl | hx
        · simpa using h1
        · exact idx_no h2 x hx
      · rename_i h2; omega
theorem idx_any {α : Type} (f : α → Bool) (l : List α) : decide (0 ≤ idx f l) = l.any f := by
  by_cases h : 0 ≤ idx f l
  · obtain ⟨i, x, e1, e2, e3, e4⟩ := idx_some h
    rw [decide_eq_true h]
    exact (List.any_eq_true.2 ⟨x, List.mem_of_getElem? e2, e3⟩).symm
  · rw [decide_eq_false h]
    refine (List.any_eq_false.2 fun x hx => ?_).symm
    rw [idx_no (f := f) (l := l) (by omega) x hx]; simp
/- slices.IndexFunc[[]impl.Item,impl.Item] -/
theorem slices_IndexFunc__impl_Item_impl_Item_spec (q : List Item) (g : Nat) (caps : List PV) (f : Item → Bool) (hc : freeL caps = true) (hq : q.length ≤ 16777216) (hf : ∀ (i : Nat) (x : Item), q[i]? = some x → Pw.Spec Tryz.prog g ([.agg (eItem x)] ++ caps) (fun r => r = eT (f x))) : Pw.Spec Tryz.prog 112 [eItems q, .fn g caps] (fun res_ => res_ = eI (idx f q)) := by
  refine spec_of (n := 19) Tryz.call112 Tryz.func112 rfl rfl (by simp) rfl (by show (true && (freeL caps && true)) = true; rw [hc]; rfl) fun W Z => ?_
  refine PW.seq ?_
  refine PW.region ?_
  refine PL.run 1 rfl ?_
  refine PL.nil ?_
  refine PW.seq ?_
  refine PW.seq ?_
  refine PW.region ?_
  refine PL.run 3 rfl ?_
  refine PL.nil ?_
  refine PW.block ?_
  refine PW.loopAt (α := Nat) (fun i => ⟨[(0, eItems q), (1, .fn g caps), (6, eItems q), (7, eI ((q.map eItem).length : Nat)), (8, eI (i : Int))], PH.none⟩) (fun i => i ≤ q.length ∧ ∀ j y, j < i → q[j]? = some y → f y = false) (fun i => q.length - i) 0 (Le.free ⟨⟨rfl, rfl⟩, ⟨rfl, hc⟩, ⟨rfl, rfl⟩, ⟨rfl, rfl⟩, ⟨rfl, rfl⟩, trivial⟩) ⟨Nat.zero_le _, fun j y h => by omega⟩ (fun i hi => ?_)
  refine PW.seq ?_
  refine PW.region ?_
  refine PL.run 1 rfl ?_
  refine PL.nil ?_
  refine PW.seq ?_
  refine PW.cond rfl (fun h1 => ?_) (fun h1 => ?_)
  ·
    have hlt : i < q.length := by simpa using h1
    clear h1
    obtain ⟨x, hx⟩ : ∃ y, q[i]? = some y := ⟨_, List.getElem?_eq_getElem hlt⟩
    refine PW.skip ?_
    refine PW.seq ?_
    refine PW.block ?_
    refine PW.seq ?_
    refine PW.region ?_
    refine PL.run 2 rfl ?_
    refine PL.nil ?_
    refine PW.seq ?_
    refine PW.region ?_
    refine PL.run 3 rfl ?_
    refine PL.val (OpV.idx rfl rfl rfl (nat_nonneg i) (map_at' hx) rfl rfl rfl rfl) (wantV_ok rfl) rfl ?_
    refine PL.run 1 rfl ?_
    refine PL.call rfl rfl rfl (hf i x hx) (wkl_refl _) (fun p hp => by subst hp; rfl) (wantV_ok rfl) rfl (fun p hp => ?_)
    subst hp
    refine PL.nil ?_
    refine PW.cond rfl (fun h2 => ?_) (fun h2 => ?_)
    ·
      refine PW.seq ?_
      refine PW.region ?_
      refine PL.run 2 rfl ?_
      refine PL.nil ?_
      refine PW.ret ?_
      refine RetOk.free rfl rfl (congrArg eI ?_)
      exact (idx_at hi.2 hx h2).symm
    ·
      refine PW.skip ?_
      refine PW.region ?_
      refine PL.run 2 rfl ?_
      refine PL.nil ?_
      refine ⟨i + 1, Le.free ⟨⟨rfl, rfl⟩, ⟨rfl, hc⟩, ⟨rfl, rfl⟩, ⟨rfl, rfl⟩, ⟨inc_ok (by omega), rfl⟩, trivial⟩, ⟨hlt, fun j y hj hy => ?_⟩, by omega⟩
      by_cases e : j = i
      · subst e; rw [hx] at hy; cases hy; exact h2
      · exact hi.2 j y (by omega) hy
  ·
    refine PW.exit ?_
    refine PW.seq ?_
    refine PW.region ?_
    refine PL.run 1 rfl ?_
    refine PL.nil ?_
    refine PW.ret ?_
    refine RetOk.free rfl rfl (congrArg eI ?_)
    have hge : q.length ≤ i := by simpa using h1
    exact (idx_none fun j y hy => hi.2 j y (by have := (List.getElem?_eq_some_iff.1 hy).1; omega) hy).symm
/- slices.ContainsFunc[[]impl.Item,impl.Item] -/
theorem slices_ContainsFunc__impl_Item_impl_Item_spec (q : List Item) (g : Nat) (caps : List PV) (f : Item → Bool) (hc : freeL caps = true) (hq : q.length ≤ 16777216) (hf : ∀ (i : Nat) (x : Item), q[i]? = some x → Pw.Spec Tryz.prog g ([.agg (eItem x)] ++ caps) (fun r => r = eT (f x))) : Pw.Spec Tryz.prog 73 [eItems q, .fn g caps] (fun res_ => res_ = eT (q.any f)) := by
  refine spec_of (n := 9) Tryz.call73 Tryz.func73 rfl rfl (by simp) rfl (by show (true && (freeL caps && true)) = true; rw [hc]; rfl) fun W Z => ?_
  refine PW.seq ?_
  refine PW.region ?_
  refine PL.run 1 rfl ?_
  refine PL.nil ?_
  refine PW.seq ?_
  refine PW.region ?_
  refine PL.run 2 rfl ?_
  refine PL.call rfl rfl rfl (slices_IndexFunc__impl_Item_impl_Item_spec q g caps f hc hq hf) (.cons (.refl _) <| .cons (.refl _) <| .nil) (fun p hp => by subst hp; rfl) (wantV_ok rfl) rfl (fun p hp => ?_)
  subst hp
  refine PL.run 2 rfl ?_
  refine PL.nil ?_
  refine PW.ret ?_
  refine RetOk.free rfl rfl (congrArg eT ?_)
  exact idx_any f q
/- slices.IndexFunc[[]impl.Wire,impl.Wire] -/
theorem slices_IndexFunc__impl_Wire_impl_Wire_spec (q : List Wire) (g : Nat) (caps : List PV) (f : Wire → Bool) (hc : freeL caps = true) (hq : q.length ≤ 16777216) (hf : ∀ (i : Nat) (x : Wire), q[i]? = some x → Pw.Spec Tryz.prog g ([.agg (eWire x)] ++ caps) (fun r => r = eT (f x))) : Pw.Spec Tryz.prog 95 [eWires q, .fn g caps] (fun res_ => res_ = eI (idx f q)) := by
  refine spec_of (n := 19) Tryz.call95 Tryz.func95 rfl rfl (by simp) rfl (by show (true && (freeL caps && true)) = true; rw [hc]; rfl) fun W Z => ?_
  refine PW.seq ?_
  refine PW.region ?_
  refine PL.run 1 rfl ?_
  refine PL.nil ?_
  refine PW.seq ?_
  refine PW.seq ?_
  refine PW.region ?_
  refine PL.run 3 rfl ?_
  refine PL.nil ?_
  refine PW.block ?_
  refine PW.loopAt (α := Nat) (fun i => ⟨[(0, eWires q), (1, .fn g caps), (6, eWires q), (7, eI ((q.map eWire).length : Nat)), (8, eI (i : Int))], PH.none⟩) (fun i => i ≤ q.length ∧ ∀ j y, j < i → q[j]? = some y → f y = false) (fun i => q.length - i) 0 (Le.free ⟨⟨rfl, rfl⟩, ⟨rfl, hc⟩, ⟨rfl, rfl⟩, ⟨rfl, rfl⟩, ⟨rfl, rfl⟩, trivial⟩) ⟨Nat.zero_le _, fun j y h => by omega⟩ (fun i hi => ?_)
  refine PW.seq ?_
  refine PW.region ?_
  refine PL.run 1 rfl ?_
  refine PL.nil ?_
  refine PW.seq ?_
  refine PW.cond rfl (fun h1 => ?_) (fun h1 => ?_)
  ·
    have hlt : i < q.length := by simpa using h1
    clear h1
    obtain ⟨x, hx⟩ : ∃ y, q[i]? = some y := ⟨_, List.getElem?_eq_getElem hlt⟩
    refine PW.skip ?_
    refine PW.seq ?_
    refine PW.block ?_
    refine PW.seq ?_
    refine PW.region ?_
    refine PL.run 2 rfl ?_
    refine PL.nil ?_
    refine PW.seq ?_
    refine PW.region ?_
    refine PL.run 3 rfl ?_
    refine PL.val (OpV.idx rfl rfl rfl (nat_nonneg i) (map_at' hx) rfl rfl rfl rfl) (wantV_ok rfl) rfl ?_
    refine PL.run 1 rfl ?_
    refine PL.call rfl rfl rfl (hf i x hx) (wkl_refl _) (fun p hp => by subst hp; rfl) (wantV_ok rfl) rfl (fun p hp => ?_)
    subst hp
    refine PL.nil ?_
    refine PW.cond rfl (fun h2 => ?_) (fun h2 => ?_)
    ·
      refine PW.seq ?_
      refine PW.region ?_
      refine PL.run 2 rfl ?_
      refine PL.nil ?_
      refine PW.ret ?_
      refine RetOk.free rfl rfl (congrArg eI ?_)
      exact (idx_at hi.2 hx h2).symm
    ·
      refine PW.skip ?_
      refine PW.region ?_
      refine PL.run 2 rfl ?_
      refine PL.nil ?_
      refine ⟨i + 1, Le.free ⟨⟨rfl, rfl⟩, ⟨rfl, hc⟩, ⟨rfl, rfl⟩, ⟨rfl, rfl⟩, ⟨inc_ok (by omega), rfl⟩, trivial⟩, ⟨hlt, fun j y hj hy => ?_⟩, by omega⟩
      by_cases e : j = i
      · subst e; rw [hx] at hy; cases hy; exact h2
      · exact hi.2 j y (by omega) hy
  ·
    refine PW.exit ?_
    refine PW.seq ?_
    refine PW.region ?_
    refine PL.run 1 rfl ?_
    refine PL.nil ?_
    refine PW.ret ?_
    refine RetOk.free rfl rfl (congrArg eI ?_)
    have hge : q.length ≤ i := by simpa using h1
    exact (idx_none fun j y hy => hi.2 j y (by have := (List.getElem?_eq_some_iff.1 hy).1; omega) hy).symm
/- slices.ContainsFunc[[]impl.Wire,impl.Wire] -/
theorem slices_ContainsFunc__impl_Wire_impl_Wire_spec (q : List Wire) (g : Nat) (caps : List PV) (f : Wire → Bool) (hc : freeL caps = true) (hq : q.length ≤ 16777216) (hf : ∀ (i : Nat) (x : Wire), q[i]? = some x → Pw.Spec Tryz.prog g ([.agg (eWire x)] ++ caps) (fun r => r = eT (f x))) : Pw.Spec Tryz.prog 46 [eWires q, .fn g caps] (fun res_ => res_ = eT (q.any f)) := by
  refine spec_of (n := 9) Tryz.call46 Tryz.func46 rfl rfl (by simp) rfl (by show (true && (freeL caps && true)) = true; rw [hc]; rfl) fun W Z => ?_
  refine PW.seq ?_
  refine PW.region ?_
  refine PL.run 1 rfl ?_
  refine PL.nil ?_
  refine PW.seq ?_
  refine PW.region ?_
  refine PL.run 2 rfl ?_
  refine PL.call rfl rfl rfl (slices_IndexFunc__impl_Wire_impl_Wire_spec q g caps f hc hq hf) (.cons (.refl _) <| .cons (.refl _) <| .nil) (fun p hp => by subst hp; rfl) (wantV_ok rfl) rfl (fun p hp => ?_)
  subst hp
  refine PL.run 2 rfl ?_
  refine PL.nil ?_
  refine PW.ret ?_
  refine RetOk.free rfl rfl (congrArg eT ?_)
  exact idx_any f q
/- slices.IndexFunc[[]impl.Sent,impl.Sent] -/
theorem slices_IndexFunc__impl_Sent_impl_Sent_spec (q : List Sent) (g : Nat) (caps : List PV) (f : Sent → Bool) (hc : freeL caps = true) (hq : q.length ≤ 16777216) (hf : ∀ (i : Nat) (x : Sent), q[i]? = some x → Pw.Spec Tryz.prog g ([.agg (eSent x)] ++ caps) (fun r => r = eT (f x))) : Pw.Spec Tryz.prog 98 [eSents q, .fn g caps] (fun res_ => res_ = eI (idx f q)) := by
  refine spec_of (n := 19) Tryz.call98 Tryz.func98 rfl rfl (by simp) rfl (by show (true && (freeL caps && true)) = true; rw [hc]; rfl) fun W Z => ?_
  refine PW.seq ?_
  refine PW.region ?_
  refine PL.run 1 rfl ?_
  refine PL.nil ?_
  refine PW.seq ?_
  refine PW.seq ?_
  refine PW.region ?_
  refine PL.run 3 rfl ?_
  refine PL.nil ?_
  refine PW.block ?_
  refine PW.loopAt (α := Nat) (fun i => ⟨[(0, eSents q), (1, .fn g caps), (6, eSents q), (7, eI ((q.map eSent).length : Nat)), (8, eI (i : Int))], PH.none⟩) (fun i => i ≤ q.length ∧ ∀ j y, j < i → q[j]? = some y → f y = false) (fun i => q.length - i) 0 (Le.free ⟨⟨rfl, rfl⟩, ⟨rfl, hc⟩, ⟨rfl, rfl⟩, ⟨rfl, rfl⟩, ⟨rfl, rfl⟩, trivial⟩) ⟨Nat.zero_le _, fun j y h => by omega⟩ (fun i hi => ?_)
  refine PW.seq ?_
  refine PW.region ?_
  refine PL.run 1 rfl ?_
  refine PL.nil ?_
  refine PW.seq ?_
  refine PW.cond rfl (fun h1 => ?_) (fun h1 => ?_)
  ·
    have hlt : i < q.length := by simpa using h1
    clear h1
    obtain ⟨x, hx⟩ : ∃ y, q[i]? = some y := ⟨_, List.getElem?_eq_getElem hlt⟩
    refine PW.skip ?_
    refine PW.seq ?_
    refine PW.block ?_
    refine PW.seq ?_
    refine PW.region ?_
    refine PL.run 2 rfl ?_
    refine PL.nil ?_
    refine PW.seq ?_
    refine PW.region ?_
    refine PL.run 3 rfl ?_
    refine PL.val (OpV.idx rfl rfl rfl (nat_nonneg i) (map_at' hx) rfl rfl rfl rfl) (wantV_ok rfl) rfl ?_
    refine PL.run 1 rfl ?_
    refine PL.call rfl rfl rfl (hf i x hx) (wkl_refl _) (fun p hp => by subst hp; rfl) (wantV_ok rfl) rfl (fun p hp => ?_)
    subst hp
    refine PL.nil ?_
    refine PW.cond rfl (fun h2 => ?_) (fun h2 => ?_)
    ·
      refine PW.seq ?_
      refine PW.region ?_
      refine PL.run 2 rfl ?_
      refine PL.nil ?_
      refine PW.ret ?_
      refine RetOk.free rfl rfl (congrArg eI ?_)
      exact (idx_at hi.2 hx h2).symm
    ·
      refine PW.skip ?_
      refine PW.region ?_
      refine PL.run 2 rfl ?_
      refine PL.nil ?_
      refine ⟨i + 1, Le.free ⟨⟨rfl, rfl⟩, ⟨rfl, hc⟩, ⟨rfl, rfl⟩, ⟨rfl, rfl⟩, ⟨inc_ok (by omega), rfl⟩, trivial⟩, ⟨hlt, fun j y hj hy => ?_⟩, by omega⟩
      by_cases e : j = i
      · subst e; rw [hx] at hy; cases hy; exact h2
      · exact hi.2 j y (by omega) hy
  ·
    refine PW.exit ?_
    refine PW.seq ?_
    refine PW.region ?_
    refine PL.run 1 rfl ?_
    refine PL.nil ?_
    refine PW.ret ?_
    refine RetOk.free rfl rfl (congrArg eI ?_)
    have hge : q.length ≤ i := by simpa using h1
    exact (idx_none fun j y hy => hi.2 j y (by have := (List.getElem?_eq_some_iff.1 hy).1; omega) hy).symm
/- slices.ContainsFunc[[]impl.Sent,impl.Sent] -/
theorem slices_ContainsFunc__impl_Sent_impl_Sent_spec (q : List Sent) (g : Nat) (caps : List PV) (f : Sent → Bool) (hc : freeL caps = true) (hq : q.length ≤ 16777216) (hf : ∀ (i : Nat) (x : Sent), q[i]? = some x → Pw.Spec Tryz.prog g ([.agg (eSent x)] ++ caps) (fun r => r = eT (f x))) : Pw.Spec Tryz.prog 49 [eSents q, .fn g caps] (fun res_ => res_ = eT (q.any f)) := by
  refine spec_of (n := 9) Tryz.call49 Tryz.func49 rfl rfl (by simp) rfl (by show (true && (freeL caps && true)) = true; rw [hc]; rfl) fun W Z => ?_
  refine PW.seq ?_
  refine PW.region ?_
  refine PL.run 1 rfl ?_
  refine PL.nil ?_
  refine PW.seq ?_
  refine PW.region ?_
  refine PL.run 2 rfl ?_
  refine PL.call rfl rfl rfl (slices_IndexFunc__impl_Sent_impl_Sent_spec q g caps f hc hq hf) (.cons (.refl _) <| .cons (.refl _) <| .nil) (fun p hp => by subst hp; rfl) (wantV_ok rfl) rfl (fun p hp => ?_)
  subst hp
  refine PL.run 2 rfl ?_
  refine PL.nil ?_
  refine PW.ret ?_
  refine RetOk.free rfl rfl (congrArg eT ?_)
  exact idx_any f q
/- slices.IndexFunc[[][]byte,[]byte] -/
theorem slices_IndexFunc___byte__byte_spec (q : List (List UInt8)) (g : Nat) (caps : List PV) (f : (List UInt8) → Bool) (hc : freeL caps = true) (hq : q.length ≤ 16777216) (hf : ∀ (i : Nat) (x : (List UInt8)), q[i]? = some x → Pw.Spec Tryz.prog g ([eBs x] ++ caps) (fun r => r = eT (f x))) : Pw.Spec Tryz.prog 129 [eBss q, .fn g caps] (fun res_ => res_ = eI (idx f q)) := by
  refine spec_of (n := 19) Tryz.call129 Tryz.func129 rfl rfl (by simp) rfl (by show (true && (freeL caps && true)) = true; rw [hc]; rfl) fun W Z => ?_
  refine PW.seq ?_
  refine PW.region ?_
  refine PL.run 1 rfl ?_
  refine PL.nil ?_
  refine PW.seq ?_
  refine PW.seq ?_
  refine PW.region ?_
  refine PL.run 3 rfl ?_
  refine PL.nil ?_
  refine PW.block ?_
  refine PW.loopAt (α := Nat) (fun i => ⟨[(0, eBss q), (1, .fn g caps), (6, eBss q), (7, eI ((q.map eBss1).length : Nat)), (8, eI (i : Int))], PH.none⟩) (fun i => i ≤ q.length ∧ ∀ j y, j < i → q[j]? = some y → f y = false) (fun i => q.length - i) 0 (Le.free ⟨⟨rfl, rfl⟩, ⟨rfl, hc⟩, ⟨rfl, rfl⟩, ⟨rfl, rfl⟩, ⟨rfl, rfl⟩, trivial⟩) ⟨Nat.zero_le _, fun j y h => by omega⟩ (fun i hi => ?_)
  refine PW.seq ?_
  refine PW.region ?_
  refine PL.run 1 rfl ?_
  refine PL.nil ?_
  refine PW.seq ?_
  refine PW.cond rfl (fun h1 => ?_) (fun h1 => ?_)
  ·
    have hlt : i < q.length := by simpa using h1
    clear h1
    obtain ⟨x, hx⟩ : ∃ y, q[i]? = some y := ⟨_, List.getElem?_eq_getElem hlt⟩
    refine PW.skip ?_
    refine PW.seq ?_
    refine PW.block ?_
    refine PW.seq ?_
    refine PW.region ?_
    refine PL.run 2 rfl ?_
    refine PL.nil ?_
    refine PW.seq ?_
    refine PW.region ?_
    refine PL.run 3 rfl ?_
    refine PL.val (OpV.idx rfl rfl rfl (nat_nonneg i) (map_at' hx) rfl rfl rfl rfl) (wantV_ok rfl) rfl ?_
    refine PL.run 1 rfl ?_
    refine PL.call rfl rfl rfl (hf i x hx) (wkl_refl _) (fun p hp => by subst hp; rfl) (wantV_ok rfl) rfl (fun p hp => ?_)
    subst hp
    refine PL.nil ?_
    refine PW.cond rfl (fun h2 => ?_) (fun h2 => ?_)
    ·
      refine PW.seq ?_
      refine PW.region ?_
      refine PL.run 2 rfl ?_
      refine PL.nil ?_
      refine PW.ret ?_
      refine RetOk.free rfl rfl (congrArg eI ?_)
      exact (idx_at hi.2 hx h2).symm
    ·
      refine PW.skip ?_
      refine PW.region ?_
      refine PL.run 2 rfl ?_
      refine PL.nil ?_
      refine ⟨i + 1, Le.free ⟨⟨rfl, rfl⟩, ⟨rfl, hc⟩, ⟨rfl, rfl⟩, ⟨rfl, rfl⟩, ⟨inc_ok (by omega), rfl⟩, trivial⟩, ⟨hlt, fun j y hj hy => ?_⟩, by omega⟩
      by_cases e : j = i
      · subst e; rw [hx] at hy; cases hy; exact h2
      · exact hi.2 j y (by omega) hy
  ·
    refine PW.exit ?_
    refine PW.seq ?_
    refine PW.region ?_
    refine PL.run 1 rfl ?_
    refine PL.nil ?_
    refine PW.ret ?_
    refine RetOk.free rfl rfl (congrArg eI ?_)
    have hge : q.length ≤ i := by simpa using h1
    exact (idx_none fun j y hy => hi.2 j y (by have := (List.getElem?_eq_some_iff.1 hy).1; omega) hy).symm
/- slices.ContainsFunc[[][]byte,[]byte] -/
theorem slices_ContainsFunc___byte__byte_spec (q : List (List UInt8)) (g : Nat) (caps : List PV) (f : (List UInt8) → Bool) (hc : freeL caps = true) (hq : q.length ≤ 16777216) (hf : ∀ (i : Nat) (x : (List UInt8)), q[i]? = some x → Pw.Spec Tryz.prog g ([eBs x] ++ caps) (fun r => r = eT (f x))) : Pw.Spec Tryz.prog 93 [eBss q, .fn g caps] (fun res_ => res_ = eT (q.any f)) := by
  refine spec_of (n := 9) Tryz.call93 Tryz.func93 rfl rfl (by simp) rfl (by show (true && (freeL caps && true)) = true; rw [hc]; rfl) fun W Z => ?_
  refine PW.seq ?_
  refine PW.region ?_
  refine PL.run 1 rfl ?_
  refine PL.nil ?_
  refine PW.seq ?_
  refine PW.region ?_
  refine PL.run 2 rfl ?_
  refine PL.call rfl rfl rfl (slices_IndexFunc___byte__byte_spec q g caps f hc hq hf) (.cons (.refl _) <| .cons (.refl _) <| .nil) (fun p hp => by subst hp; rfl) (wantV_ok rfl) rfl (fun p hp => ?_)
  subst hp
  refine PL.run 2 rfl ?_
  refine PL.nil ?_
  refine PW.ret ?_
  refine RetOk.free rfl rfl (congrArg eT ?_)
  exact idx_any f q
def same2 (x y : Item) : Bool := decide (y.route = x.route) && decide (y.topic = x.topic)
/- impl.QueueOk$1 -/
theorem impl_QueueOk_1_spec (x y : Item) : Pw.Spec Tryz.prog 121 [.agg (eItem y), .rp (eItem x)] (fun res_ => res_ = eT (same2 x y)) := by
  refine spec_of (n := 16) Tryz.call121 Tryz.func121 rfl rfl (by simp) rfl rfl fun W Z => ?_
  refine PW.seq ?_
  refine PW.region ?_
  refine PL.run 2 rfl ?_
  refine PL.nil ?_
  refine PW.seq ?_
  refine PW.region ?_
  refine PL.run 6 rfl ?_
  refine PL.split (t := 9) rfl (fun h1 => ?_) (fun h1 => ?_)
  ·
    refine PL.run 7 rfl ?_
    refine PL.nil ?_
    refine PW.ret ?_
    refine RetOk.free rfl rfl (congrArg eT ?_)
    simp_all [same2]
  ·
    refine PL.run 7 rfl ?_
    refine PL.nil ?_
    refine PW.ret ?_
    refine RetOk.free rfl rfl (congrArg eT ?_)
    simp_all [same2]
/- impl.Put$1 -/
theorem impl_Put_1_spec (x y : Item) : Pw.Spec Tryz.prog 149 [.agg (eItem y), .rp (eItem x)] (fun res_ => res_ = eT (same2 x y)) := by
  refine spec_of (n := 16) Tryz.call149 Tryz.func149 rfl rfl (by simp) rfl rfl fun W Z => ?_
  refine PW.seq ?_
  refine PW.region ?_
  refine PL.run 2 rfl ?_
  refine PL.nil ?_
  refine PW.seq ?_
  refine PW.region ?_
  refine PL.run 6 rfl ?_
  refine PL.split (t := 9) rfl (fun h1 => ?_) (fun h1 => ?_)
  ·
    refine PL.run 7 rfl ?_
    refine PL.nil ?_
    refine PW.ret ?_
    refine RetOk.free rfl rfl (congrArg eT ?_)
    simp_all [same2]
  ·
    refine PL.run 7 rfl ?_
    refine PL.nil ?_
    refine PW.ret ?_
    refine RetOk.free rfl rfl (congrArg eT ?_)
    simp_all [same2]
/- impl.Due$1 -/
theorem impl_Due_1_spec (now : Int) (y : Item) : Pw.Spec Tryz.prog 153 [.agg (eItem y), .rp [eI now]] (fun res_ => res_ = eT (decide (y.due < now))) := by
  refine spec_of (n := 8) Tryz.call153 Tryz.func153 rfl rfl (by simp) rfl rfl fun W Z => ?_
  refine PW.seq ?_
  refine PW.region ?_
  refine PL.run 2 rfl ?_
  refine PL.nil ?_
  refine PW.seq ?_
  refine PW.region ?_
  refine PL.run 5 rfl ?_
  refine PL.nil ?_
  refine PW.ret ?_
  refine RetOk.free rfl rfl rfl
/- impl.Take$1 -/
theorem impl_Take_1_spec (r : ByteArray) (y : Item) : Pw.Spec Tryz.prog 151 [.agg (eItem y), .rp [eS r]] (fun res_ => res_ = eT (decide (y.route = r))) := by
  refine spec_of (n := 8) Tryz.call151 Tryz.func151 rfl rfl (by simp) rfl rfl fun W Z => ?_
  refine PW.seq ?_
  refine PW.region ?_
  refine PL.run 2 rfl ?_
  refine PL.nil ?_
  refine PW.seq ?_
  refine PW.region ?_
  refine PL.run 5 rfl ?_
  refine PL.nil ?_
  refine PW.ret ?_
  refine RetOk.free rfl rfl rfl
/- impl.sameItems$1 -/
theorem impl_sameItems_1_spec (x y : Item) : Pw.Spec Tryz.prog 128 [.agg (eItem x), .agg (eItem y)] (fun res_ => res_ = eT (sameI x y)) := by
  refine spec_of (n := 31) Tryz.call128 Tryz.func128 rfl rfl (by simp) rfl rfl fun W Z => ?_
  refine PW.seq ?_
  refine PW.region ?_
  refine PL.run 3 rfl ?_
  refine PL.nil ?_
  refine PW.seq ?_
  refine PW.region ?_
  refine PL.run 6 rfl ?_
  refine PL.split (t := 10) rfl (fun h1 => ?_) (fun h1 => ?_)
  ·
    refine PL.run 7 rfl ?_
    refine PL.split (t := 17) rfl (fun h2 => ?_) (fun h2 => ?_)
    ·
      refine PL.run 7 rfl ?_
      refine PL.split (t := 24) rfl (fun h3 => ?_) (fun h3 => ?_)
      ·
        refine PL.run 4 rfl ?_
        refine PL.call rfl rfl rfl (impl_Same_spec x.bytes y.bytes) (.cons (.refl _) <| .cons (.refl _) <| .nil) (fun p hp => by subst hp; rfl) (wantV_ok rfl) rfl (fun p hp => ?_)
        subst hp
        refine PL.run 2 rfl ?_
        refine PL.nil ?_
        refine PW.ret ?_
        refine RetOk.free rfl rfl (congrArg eT ?_)
        simp_all [sameI]
      ·
        refine PL.run 7 rfl ?_
        refine PL.nil ?_
        refine PW.ret ?_
        refine RetOk.free rfl rfl (congrArg eT ?_)
        simp_all [sameI]
    ·
      refine PL.run 14 rfl ?_
      refine PL.nil ?_
      refine PW.ret ?_
      refine RetOk.free rfl rfl (congrArg eT ?_)
      simp_all [sameI]
  ·
    refine PL.run 21 rfl ?_
    refine PL.nil ?_
    refine PW.ret ?_
    refine RetOk.free rfl rfl (congrArg eT ?_)
    simp_all [sameI]
theorem clash_no {q : List Item} {i : Nat} {x : Item} (h : ¬ 0 < x.topic) : ((q.take i).all fun y => !clash x y) = true := by
  rw [List.all_eq_true]; intro y _; simp [clash]; intros; omega
theorem clash_any {q : List Item} {i : Nat} {x : Item} (h : 0 < x.topic) : ((q.take i).all fun y => !clash x y) = !(q.take i).any (same2 x) := by
  have e : clash x = same2 x := by funext y; simp [clash, same2, h]
  rw [e]
  induction q.take i with
  | nil => rfl
  | cons z l ih => simp only [List.all_cons, List.any_cons, ih]; cases same2 x z <;> rfl
theorem good_eq {q : List Item} {i : Nat} {x : Item} (hx : q[i]? = some x) : good q i = (itemOk x && (decide (ofN q x.route ≤ 4) && (q.take i).all fun y => !clash x y)) := by simp [good, hx]
/- impl.QueueOk -/
theorem impl_QueueOk_spec (q : List Item) (hq : Sm q) : Pw.Spec Tryz.prog 89 [eItems q] (fun res_ => res_ = eT (queueOk q)) := by
  refine spec_of (n := 36) Tryz.call89 Tryz.func89 rfl rfl (by simp) rfl rfl fun W Z => ?_
  have hlen := hq.len
  refine PW.seq ?_
  refine PW.region ?_
  refine PL.run 1 rfl ?_
  refine PL.nil ?_
  refine PW.seq ?_
  refine PW.seq ?_
  refine PW.region ?_
  refine PL.run 3 rfl ?_
  refine PL.nil ?_
  refine PW.cond rfl (fun h1 => ?_) (fun h1 => ?_)
  ·
    refine PW.seq ?_
    refine PW.region ?_
    refine PL.run 1 rfl ?_
    refine PL.nil ?_
    refine PW.ret ?_
    refine RetOk.free rfl rfl (congrArg eT ?_)
    have : ¬ q.length ≤ 10 := by simp at h1; omega
    simp [queueOk, this]
  ·
    have h10 : q.length ≤ 10 := by simp at h1; omega
    clear h1
    refine PW.skip ?_
    refine PW.seq ?_
    refine PW.seq ?_
    refine PW.region ?_
    refine PL.run 3 rfl ?_
    refine PL.nil ?_
    refine PW.block ?_
    refine PW.loopAt (α := Nat) (fun i => ⟨[(0, eItems q), (8, eItems q), (9, eI ((q.map eItem).length : Nat)), (10, eI (i : Int))], PH.none⟩) (fun i => i ≤ q.length ∧ (List.range i).all (good q) = true) (fun i => q.length - i) 0 Le.free ⟨Nat.zero_le _, rfl⟩ (fun i hi => ?_)
    refine PW.seq ?_
    refine PW.region ?_
    refine PL.run 1 rfl ?_
    refine PL.nil ?_
    refine PW.seq ?_
    refine PW.cond rfl (fun h2 => ?_) (fun h2 => ?_)
    ·
      have hlt : i < q.length := by simpa using h2
      clear h2
      obtain ⟨x, hx⟩ : ∃ y, q[i]? = some y := ⟨_, List.getElem?_eq_getElem hlt⟩
      have hup : some (PV.lit (.int .i64 (IntKind.i64.wrap ((i : Int) + 1)))) = some (PV.lit (.int .i64 ((i + 1 : Nat) : Int))) := inc_ok (by omega)
      have hbad : good q i = false → queueOk q = false := fun h => queue_bad hlt h
      have hgd := good_eq hx
      refine PW.skip ?_
      refine PW.seq ?_
      refine PW.block ?_
      refine PW.seq ?_
      refine PW.region ?_
      refine PL.run 1 rfl ?_
      refine PL.val (OpV.idx rfl rfl rfl (nat_nonneg i) (map_at' hx) rfl rfl rfl rfl) (wantV_ok rfl) rfl ?_
      refine PL.run 4 rfl ?_
      refine PL.nil ?_
      refine PW.seq ?_
      refine PW.seq ?_
      refine PW.region ?_
      refine PL.run 1 rfl ?_
      refine PL.call rfl rfl rfl (impl_ItemOk_spec x (hq.route i x hx)) (.cons (.refl _) <| .nil) (fun p hp => by subst hp; rfl) (wantV_ok rfl) rfl (fun p hp => ?_)
      subst hp
      refine PL.run 2 rfl ?_
      refine PL.split (t := 18) rfl (fun h3 => ?_) (fun h3 => ?_)
      ·
        refine PL.run 6 rfl ?_
        refine PL.nil ?_
        refine PW.condT rfl ?_
        refine PW.seq ?_
        refine PW.region ?_
        refine PL.run 1 rfl ?_
        refine PL.nil ?_
        refine PW.ret ?_
        refine RetOk.free rfl rfl (congrArg eT ?_)
        rw [hbad (good_bad1 hx (by simpa using h3))]
      ·
        refine PL.run 3 rfl ?_
        refine PL.call rfl rfl rfl (impl_Of_spec q x.route (by omega)) (.cons (.refl _) <| .cons (.refl _) <| .nil) (fun p hp => by subst hp; rfl) (wantV_ok rfl) rfl (fun p hp => ?_)
        subst hp
        refine PL.run 2 rfl ?_
        refine PL.nil ?_
        refine PW.cond rfl (fun h4 => ?_) (fun h4 => ?_)
        ·
          refine PW.seq ?_
          refine PW.region ?_
          refine PL.run 1 rfl ?_
          refine PL.nil ?_
          refine PW.ret ?_
          refine RetOk.free rfl rfl (congrArg eT ?_)
          rw [hbad (good_bad2 hx (by simp at h4; omega))]
        ·
          have h3' : itemOk x = true := by simpa using h3
          have h4' : ofN q x.route ≤ 4 := by simp at h4; omega
          clear h3 h4
          refine PW.skip ?_
          refine PW.seq ?_
          refine PW.region ?_
          refine PL.run 4 rfl ?_
          refine PL.split (t := 28) rfl (fun h5 => ?_) (fun h5 => ?_)
          ·
            refine PL.run 2 rfl ?_
            refine PL.val (OpV.cut rfl rfl rfl rfl rfl rfl (l := 0) (h := i) rfl rfl (Nat.zero_le _) (mapLe hi.1)) (wantV_ok rfl) rfl ?_
            refine PL.le (Le.freezeP (tv := 4) (id := 4) (cs := eItem x) (e := [(28, eT true), (31, .sl 4 (((q.map eItem).take i).drop 0) none), (0, eItems q), (8, eItems q), (9, eI ((q.map eItem).length : Nat)), (10, eI (i : Int))]) rfl rfl rfl) ?_
            refine PL.run 1 rfl ?_
            refine PL.call rfl rfl rfl (slices_ContainsFunc__impl_Item_impl_Item_spec (q.take i) 121 [.rp (eItem x)] (same2 x) rfl (by rw [List.length_take]; omega) (fun j y hy => impl_QueueOk_1_spec x y)) (.cons (wkrow (by simp [List.map_take])) <| .cons (.refl _) <| .nil) (fun p hp => by subst hp; rfl) (wantV_ok rfl) rfl (fun p hp => ?_)
            subst hp
            refine PL.run 1 rfl ?_
            refine PL.nil ?_
            refine PW.cond rfl (fun h6 => ?_) (fun h6 => ?_)
            ·
              refine PW.seq ?_
              refine PW.region ?_
              refine PL.run 1 rfl ?_
              refine PL.nil ?_
              refine PW.ret ?_
              refine RetOk.free rfl rfl (congrArg eT ?_)
              have h5 := of_decide_eq_true h5
              rw [hbad]
              rw [hgd, clash_any h5, h6]; simp
            ·
              refine PW.skip ?_
              refine PW.region ?_
              refine PL.run 2 rfl ?_
              refine PL.nil ?_
              refine ⟨i + 1, Le.free ⟨⟨rfl, rfl⟩, ⟨rfl, rfl⟩, ⟨rfl, rfl⟩, ⟨hup, rfl⟩, trivial⟩, ⟨hlt, range_all hi.2 ?_⟩, by omega⟩
              have h5 := of_decide_eq_true h5
              rw [hgd, clash_any h5, h6, h3']; simp [h4']
          ·
            refine PL.run 6 rfl ?_
            refine PL.nil ?_
            refine PW.condF rfl ?_
            refine PW.skip ?_
            refine PW.region ?_
            refine PL.run 2 rfl ?_
            refine PL.nil ?_
            refine ⟨i + 1, Le.free ⟨⟨rfl, rfl⟩, ⟨rfl, rfl⟩, ⟨rfl, rfl⟩, ⟨hup, rfl⟩, trivial⟩, ⟨hlt, range_all hi.2 ?_⟩, by omega⟩
            have h5 := of_decide_eq_false h5
            rw [hgd, clash_no h5, h3']; simp [h4']
    ·
      refine PW.exit ?_
      refine PW.seq ?_
      refine PW.region ?_
      refine PL.run 1 rfl ?_
      refine PL.nil ?_
      refine PW.ret ?_
      refine RetOk.free rfl rfl (congrArg eT ?_)
      have hge : i = q.length := Nat.le_antisymm hi.1 (by simpa using h2)
      have := hi.2
      rw [hge] at this
      simp [queueOk, this, h10]
theorem sameQ_len {a b : List Item} (h : a.length ≠ b.length) : sameQ a b = false := by
  induction a generalizing b with
  | nil => cases b with
    | nil => exact absurd rfl h
    | cons y b => rfl
  | cons x a ih => cases b with
    | nil => rfl
    | cons y b => simp only [sameQ]; rw [ih (by simpa using h)]; simp
/- slices.EqualFunc[[]impl.Item,[]impl.Item,impl.Item,impl.Item] -/
theorem slices_EqualFunc__impl_Item__impl_Item_impl_Item_impl_Item_spec (a b : List Item) (g : Nat) (ha : a.length ≤ 16777216) (hf : ∀ x y : Item, Pw.Spec Tryz.prog g [.agg (eItem x), .agg (eItem y)] (fun r => r = eT (sameI x y))) : Pw.Spec Tryz.prog 127 [eItems a, eItems b, .fn g []] (fun res_ => res_ = eT (sameQ a b)) := by
  refine spec_of (n := 32) Tryz.call127 Tryz.func127 rfl rfl (by simp) rfl rfl fun W Z => ?_
  refine PW.seq ?_
  refine PW.region ?_
  refine PL.run 1 rfl ?_
  refine PL.nil ?_
  refine PW.seq ?_
  refine PW.seq ?_
  refine PW.region ?_
  refine PL.run 5 rfl ?_
  refine PL.nil ?_
  refine PW.cond rfl (fun h1 => ?_) (fun h1 => ?_)
  ·
    refine PW.seq ?_
    refine PW.region ?_
    refine PL.run 1 rfl ?_
    refine PL.nil ?_
    refine PW.ret ?_
    refine RetOk.free rfl rfl (congrArg eT ?_)
    rw [sameQ_len (by simp at h1; omega)]
  ·
    have hl : a.length = b.length := by simp at h1; omega
    clear h1
    refine PW.skip ?_
    refine PW.seq ?_
    refine PW.seq ?_
    refine PW.region ?_
    refine PL.run 3 rfl ?_
    refine PL.nil ?_
    refine PW.block ?_
    refine PW.loopAt (α := Nat) (fun i => ⟨[(1, eItems b), (2, .fn g []), (15, eItems a), (16, eI ((a.map eItem).length : Nat)), (17, eI (i : Int))], PH.none⟩) (fun i => i ≤ a.length ∧ sameQ (a.drop i) (b.drop i) = sameQ a b) (fun i => a.length - i) 0 Le.free ⟨Nat.zero_le _, rfl⟩ (fun i hi => ?_)
    refine PW.seq ?_
    refine PW.region ?_
    refine PL.run 1 rfl ?_
    refine PL.nil ?_
    refine PW.seq ?_
    refine PW.cond rfl (fun h2 => ?_) (fun h2 => ?_)
    ·
      have hlt : i < a.length := by simpa using h2
      clear h2
      obtain ⟨x, hx⟩ : ∃ y, a[i]? = some y := ⟨_, List.getElem?_eq_getElem hlt⟩
      obtain ⟨y, hy⟩ : ∃ y, b[i]? = some y := ⟨_, List.getElem?_eq_getElem (by omega)⟩
      have hs := sameQ_step hx hy
      rw [hi.2] at hs
      refine PW.skip ?_
      refine PW.seq ?_
      refine PW.block ?_
      refine PW.seq ?_
      refine PW.region ?_
      refine PL.run 1 rfl ?_
      refine PL.val (OpV.idx rfl rfl rfl (nat_nonneg i) (map_at' hx) rfl rfl rfl rfl) (wantV_ok rfl) rfl ?_
      refine PL.run 4 rfl ?_
      refine PL.nil ?_
      refine PW.seq ?_
      refine PW.region ?_
      refine PL.run 2 rfl ?_
      refine PL.val (OpV.idx rfl rfl rfl (nat_nonneg i) (map_at' hy) rfl rfl rfl rfl) (wantV_ok rfl) rfl ?_
      refine PL.run 3 rfl ?_
      refine PL.nil ?_
      refine PW.seq ?_
      refine PW.region ?_
      refine PL.run 3 rfl ?_
      refine PL.call rfl rfl rfl (hf x y) (wkl_refl _) (fun p hp => by subst hp; rfl) (wantV_ok rfl) rfl (fun p hp => ?_)
      subst hp
      refine PL.run 1 rfl ?_
      refine PL.nil ?_
      refine PW.cond rfl (fun h3 => ?_) (fun h3 => ?_)
      ·
        refine PW.seq ?_
        refine PW.region ?_
        refine PL.run 1 rfl ?_
        refine PL.nil ?_
        refine PW.ret ?_
        refine RetOk.free rfl rfl (congrArg eT ?_)
        have : sameI x y = false := by simpa using h3
        rw [hs, this]; rfl
      ·
        refine PW.skip ?_
        refine PW.region ?_
        refine PL.run 2 rfl ?_
        refine PL.nil ?_
        refine ⟨i + 1, Le.free ⟨⟨rfl, rfl⟩, ⟨rfl, rfl⟩, ⟨rfl, rfl⟩, ⟨rfl, rfl⟩, ⟨inc_ok (by omega), rfl⟩, trivial⟩, ⟨hlt, ?_⟩, by omega⟩
        have : sameI x y = true := by simpa using h3
        rw [hs, this]; rfl
    ·
      refine PW.exit ?_
      refine PW.seq ?_
      refine PW.region ?_
      refine PL.run 1 rfl ?_
      refine PL.nil ?_
      refine PW.ret ?_
      refine RetOk.free rfl rfl (congrArg eT ?_)
      have hge : a.length ≤ i := by simpa using h2
      rw [← hi.2, sameQ_end (.inl hge) hi.1 (by omega)]; simp [hl]
/- impl.sameItems -/
theorem impl_sameItems_spec (a b : List Item) (ha : a.length ≤ 16777216) : Pw.Spec Tryz.prog 91 [eItems a, eItems b] (fun res_ => res_ = eT (sameQ a b)) := by
  refine spec_of (n := 8) Tryz.call91 Tryz.func91 rfl rfl (by simp) rfl rfl fun W Z => ?_
  refine PW.seq ?_
  refine PW.region ?_
  refine PL.run 1 rfl ?_
  refine PL.nil ?_
  refine PW.seq ?_
  refine PW.region ?_
  refine PL.run 2 rfl ?_
  refine PL.call rfl rfl rfl (slices_EqualFunc__impl_Item__impl_Item_impl_Item_impl_Item_spec a b 128 ha (fun x y => impl_sameItems_1_spec x y)) (.cons (.refl _) <| .cons (.refl _) <| .cons (.refl _) <| .nil) (fun p hp => by subst hp; rfl) (wantV_ok rfl) rfl (fun p hp => ?_)
  subst hp
  refine PL.run 1 rfl ?_
  refine PL.nil ?_
  refine PW.ret ?_
  refine RetOk.free rfl rfl rfl
end Go.Wl
set_option linter.unusedVariables false
set_option linter.unusedSimpArgs false
set_option maxRecDepth 100000
set_option maxHeartbeats 8000000
namespace Go.Wl
open Go Go.RowKit Go.Pw Go.Proofs
def rowC (q : List Item) (r : List PV) : List PV := (q.map eItem).flatten ++ r
theorem item_len (q : List Item) : ∀ e ∈ q.map eItem, e.length = 4 := fun e he => by obtain ⟨b, _, rfl⟩ := List.mem_map.1 he; rfl
theorem items_len (q : List Item) : (q.map eItem).flatten.length = q.length * 4 := by rw [flat_len (item_len q), List.length_map]
theorem rowC_len (q : List Item) (r : List PV) : (rowC q r).length = q.length * 4 + r.length := by rw [rowC, List.length_append, items_len]
theorem items_free (q : List Item) : freeL (q.map eItem).flatten = true := freeL_iff.2 fun p hp => by
  obtain ⟨e, he, hp⟩ := List.mem_flatten.1 hp
  obtain ⟨b, _, rfl⟩ := List.mem_map.1 he
  simp only [eItem, List.mem_cons, List.not_mem_nil, or_false] at hp
  rcases hp with rfl | rfl | rfl | rfl <;> rfl
theorem rowC_free {q : List Item} {r : List PV} (h : freeL r = true) : freeL (rowC q r) = true := by rw [rowC, freeL_append, items_free, h]; rfl
theorem rowC_step {q : List Item} {i : Nat} {x : Item} {r : List PV} (h : q[i]? = some x) : (rowC (q.take i) (eItem x ++ r)) = rowC (q.take (i + 1)) r := by
  rw [take_step h, rowC, rowC, List.map_append, List.flatten_append]; simp
theorem rowC_first {q : List Item} {x : Item} {r : List PV} (h : q[0]? = some x) : ([eItem x] : List (List PV)).flatten ++ r = rowC (q.take (0 + 1)) r := by
  rw [← rowC_step h]; simp [rowC]
theorem rowC_take {q : List Item} {i : Nat} {r s : List PV} (h : i = q.length) : (rowC q r).take (i * 4) ++ s = rowC q s := by
  subst h
  rw [rowC, rowC, ← items_len, List.take_left]
/-- What a copy of a queue is. -/
def CloneR (q : List Item) (p : PV) (h : PH) : Prop := (q = [] ∧ p = .lit (.slice none 0 0) ∧ h = PH.none) ∨
  (q ≠ [] ∧ ∃ t cap r, p = .bs 1000 0 (q.map eItem).length cap ∧ h = ⟨[(1000, (t, rowC q r))], []⟩ ∧ freeL r = true ∧ (cap - q.length) * 4 ≤ r.length ∧ q.length ≤ cap ∧ cap ≤ maxLen)
def clSt (q : List Item) : Nat × Nat × Nat × List PV → PS
  | (0, _) => ⟨[(3, .lit (.slice none 0 0)), (0, eItems q), (6, eItems q), (7, eI ((q.map eItem).length : Nat)), (8, eI ((0 : Nat) : Int))], PH.none⟩
  | (j + 1, t, cap, r) => ⟨[(3, .bs 1000 0 (j + 1) cap), (0, eItems q), (6, eItems q), (7, eI ((q.map eItem).length : Nat)), (8, eI ((j + 1 : Nat) : Int))], ⟨[(1000, (t, rowC (q.take (j + 1)) r))], []⟩⟩
structure ClOk (q : List Item) (x : Nat × Nat × Nat × List PV) : Prop where
  le : x.1 ≤ q.length
  free : 0 < x.1 → freeL x.2.2.2 = true
  room : 0 < x.1 → (x.2.2.1 - x.1) * 4 ≤ x.2.2.2.length
  cap : 0 < x.1 → x.1 ≤ x.2.2.1
  max : 0 < x.1 → x.2.2.1 ≤ maxLen
/- impl.cloneItems -/
theorem impl_cloneItems_spec (q : List Item) (hq : Sm q) : Pw.SpecB Tryz.prog 147 [eItems q] (PH.none) (CloneR q) := by
  refine specB_of (n := 19) Tryz.call147 Tryz.func147 rfl rfl (by simp) rfl fun W Z => ?_
  have hlen := hq.len
  refine PW.seq ?_
  refine PW.region ?_
  refine PL.run 1 rfl ?_
  refine PL.nil ?_
  refine PW.seq ?_
  refine PW.region ?_
  refine PL.run 1 rfl ?_
  refine PL.nil ?_
  refine PW.seq ?_
  refine PW.seq ?_
  refine PW.region ?_
  refine PL.run 3 rfl ?_
  refine PL.nil ?_
  refine PW.block ?_
  refine PW.loopAt (clSt q) (ClOk q) (fun x => q.length - x.1) (0, 0, 0, []) Le.free ⟨Nat.zero_le _, fun h => absurd h (Nat.lt_irrefl _), fun h => absurd h (Nat.lt_irrefl _), fun h => absurd h (Nat.lt_irrefl _), fun h => absurd h (Nat.lt_irrefl _)⟩ (fun x hx => ?_)
  obtain ⟨i, t, cap, r⟩ := x
  rcases i with _ | j
  ·
    dsimp only [clSt]
    refine PW.seq ?_
    refine PW.region ?_
    refine PL.run 1 rfl ?_
    refine PL.nil ?_
    refine PW.seq ?_
    refine PW.cond rfl (fun h1 => ?_) (fun h1 => ?_)
    ·
      have hlt : 0 < q.length := by simpa using h1
      clear h1
      obtain ⟨x, hx0⟩ : ∃ y, q[0]? = some y := ⟨_, List.getElem?_eq_getElem hlt⟩
      refine PW.skip ?_
      refine PW.seq ?_
      refine PW.block ?_
      refine PW.seq ?_
      refine PW.region ?_
      refine PL.val (OpV.idx rfl rfl rfl (nat_nonneg 0) (map_at' hx0) rfl rfl rfl rfl) (wantV_ok rfl) rfl ?_
      refine PL.run 3 rfl ?_
      refine PL.nil ?_
      refine PW.region ?_
      refine PL.run 2 rfl ?_
      refine PL.call rfl rfl rfl (impl_cloneItem_spec x (hq.bytes 0 x hx0)) (.cons (.refl _) <| .nil) (fun p hp => by subst hp; rfl) (wantV_ok rfl) rfl (fun p hp => ?_)
      subst hp
      refine PL.run 1 rfl ?_
      refine PL.appNew (sz := 4) (new := [eItem x]) rfl rfl rfl rfl (.inl rfl) (Nat.succ_pos _) rfl rfl rfl rfl rfl rfl rfl (Nat.le_of_ble_eq_true rfl) (Nat.le_of_ble_eq_true rfl) (wantV_ok rfl) rfl (fun cap1 hc1 hc2 => ?_)
      refine PL.run 1 rfl ?_
      refine PL.nil ?_
      refine PW.region ?_
      refine PL.run 2 rfl ?_
      refine PL.nil ?_
      refine ⟨(0 + 1, _, cap1, _), Le.rename 1000 (id := 16) rfl rfl ?_ (rowC_first hx0) ⟨⟨rfl, rfl⟩, ⟨rfl, rfl⟩, ⟨rfl, rfl⟩, ⟨inc_ok (by omega), rfl⟩, trivial⟩, ⟨hlt, fun _ => zrow_free _ _, fun _ => ?_, fun _ => hc1, fun _ => hc2⟩, by simp only; omega⟩
      · exact (congrArg freeL (rowC_first hx0)).trans (rowC_free (zrow_free _ _))
      · show (cap1 - 1) * 4 ≤ (zrow _ (cap1 - 1)).length
        rw [zrow_len]; exact Nat.le_refl _
    ·
      refine PW.exit ?_
      refine PW.seq ?_
      refine PW.region ?_
      refine PL.run 2 rfl ?_
      refine PL.nil ?_
      refine PW.ret ?_
      have h0 : q = [] := List.eq_nil_of_length_eq_zero (by simp at h1; exact h1 ▸ rfl)
      exact ⟨_, rfl, .inl ⟨h0, rfl, rfl⟩⟩
  ·
    dsimp only [clSt]
    refine PW.seq ?_
    refine PW.region ?_
    refine PL.run 1 rfl ?_
    refine PL.nil ?_
    refine PW.seq ?_
    refine PW.cond rfl (fun h2 => ?_) (fun h2 => ?_)
    ·
      have hlt : j + 1 < q.length := by simp at h2; omega
      clear h2
      obtain ⟨x, hx1⟩ : ∃ y, q[j + 1]? = some y := ⟨_, List.getElem?_eq_getElem hlt⟩
      have hf := hx.free (Nat.succ_pos _)
      have hr := hx.room (Nat.succ_pos _)
      have hc := hx.cap (Nat.succ_pos _)
      have hm := hx.max (Nat.succ_pos _)
      simp only at hf hr hc hm
      have htl : (q.take (j + 1)).length = j + 1 := by rw [List.length_take]; omega
      refine PW.skip ?_
      refine PW.seq ?_
      refine PW.block ?_
      refine PW.seq ?_
      refine PW.region ?_
      refine PL.val (OpV.idx rfl rfl rfl (nat_nonneg (j + 1)) (map_at' hx1) rfl rfl rfl rfl) (wantV_ok rfl) rfl ?_
      refine PL.run 3 rfl ?_
      refine PL.nil ?_
      refine PW.region ?_
      refine PL.run 2 rfl ?_
      refine PL.call rfl rfl rfl (impl_cloneItem_spec x (hq.bytes _ x hx1)) (.cons (.refl _) <| .nil) (fun p hp => by subst hp; rfl) (wantV_ok rfl) rfl (fun p hp => ?_)
      subst hp
      refine PL.run 1 rfl ?_
      refine PL.appB (sz := 4) (new := [eItem x]) [(0, eItems q), (6, eItems q), (7, eI ((q.map eItem).length : Nat)), (8, eI ((j + 1 : Nat) : Int))] rfl rfl rfl rfl rfl rfl (by rw [rowC_len, htl]; omega) (rowC_free hf) hc hm rfl rfl rfl rfl rfl rfl (by simp <;> omega) (by simp <;> omega) (wantV_ok rfl) rfl (fun cap1 bt1 sl k1 k2 k3 k4 => ?_)
      refine PL.run 1 rfl ?_
      refine PL.nil ?_
      refine PW.region ?_
      refine PL.run 2 rfl ?_
      refine PL.nil ?_
      refine ⟨(j + 1 + 1, bt1, cap1, sl), Le.rename 1000 (id := 16) rfl rfl ?_ ((rowC_take htl.symm).trans (rowC_step (r := sl) hx1)) ⟨⟨rfl, rfl⟩, ⟨rfl, rfl⟩, ⟨rfl, rfl⟩, ⟨inc_ok (by omega), rfl⟩, trivial⟩, ⟨hlt, fun _ => k4, fun _ => k3, fun _ => k1, fun _ => k2⟩, by simp only; omega⟩
      exact (congrArg freeL ((rowC_take htl.symm).trans (rowC_step (r := sl) hx1))).trans (rowC_free k4)
    ·
      refine PW.exit ?_
      refine PW.seq ?_
      refine PW.region ?_
      refine PL.run 2 rfl ?_
      refine PL.nil ?_
      refine PW.ret ?_
      have hge : j + 1 = q.length := Nat.le_antisymm hx.le (by simp at h2; omega)
      have ht : q.take (j + 1) = q := by rw [hge, List.take_length]
      have hm := hx.max (Nat.succ_pos _)
      refine ⟨_, rfl, .inr ⟨fun e => by rw [e] at hge; simp at hge, t, cap, r, ?_, ?_, hx.free (Nat.succ_pos _), ?_, ?_, hm⟩⟩
      · rw [List.length_map, ← hge]
      · exact congrArg (fun c => (⟨[(1000, (t, rowC c r))], []⟩ : PH)) ht
      · rw [← hge]; exact hx.room (Nat.succ_pos _)
      · rw [← hge]; exact hx.cap (Nat.succ_pos _)
end Go.Wl
set_option linter.unusedVariables false
set_option linter.unusedSimpArgs false
set_option maxRecDepth 100000
set_option maxHeartbeats 8000000
namespace Go.Wl
open Go Go.RowKit Go.Pw Go.Proofs
/-- What is left of a queue in its own block. -/
def DelR (k : List Item) (t cap n : Nat) (p : PV) (h : PH) : Prop := ∃ r', p = .bs 1000 0 (k.map eItem).length cap ∧ h = ⟨[(1000, (t, rowC k r'))], []⟩ ∧ freeL r' = true ∧ (rowC k r').length = n
/- slices.DeleteFunc[[]impl.Item,impl.Item] -/
theorem deleteFunc_nil (g : Nat) (caps : List PV) (f : Item → Bool) (hc : freeL caps = true) (hf : ∀ x : Item, Pw.Spec Tryz.prog g ([.agg (eItem x)] ++ caps) (fun r => r = eT (f x))) : Pw.Spec Tryz.prog 148 [.lit (.slice none 0 0), .fn g caps] (fun res_ => res_ = .lit (.slice none 0 0)) := by
  refine spec_of (n := 42) Tryz.call148 Tryz.func148 rfl rfl (by simp) rfl (by show (true && (freeL caps && true)) = true; rw [hc]; rfl) fun W Z => ?_
  refine PW.seq ?_
  refine PW.region ?_
  refine PL.run 1 rfl ?_
  refine PL.nil ?_
  refine PW.seq ?_
  refine PW.region ?_
  refine PL.run 2 rfl ?_
  refine PL.call rfl rfl rfl (slices_IndexFunc__impl_Item_impl_Item_spec [] g caps f hc (Nat.zero_le _) (fun i x hx => by simp at hx)) (.cons (.nil 4) (.cons (.refl _) .nil)) (fun p hp => by subst hp; rfl) (wantV_ok rfl) rfl (fun p hp => ?_)
  subst hp
  refine PL.run 1 rfl ?_
  refine PL.nil ?_
  refine PW.seq ?_
  refine PW.seq ?_
  refine PW.region ?_
  refine PL.run 2 rfl ?_
  refine PL.nil ?_
  refine PW.cond rfl (fun h1 => ?_) (fun h1 => ?_)
  ·
    refine PW.seq ?_
    refine PW.region ?_
    refine PL.run 2 rfl ?_
    refine PL.nil ?_
    refine PW.ret ?_
    refine RetOk.free rfl rfl rfl
  ·
    exact absurd h1 (by simp [idx])
def kept (f : Item → Bool) (q : List Item) : List Item := q.filter fun x => !f x
theorem kept_step {f : Item → Bool} {q : List Item} {j : Nat} {x : Item} (h : q[j]? = some x) (hf : f x = false) : kept f (q.take (j + 1)) = kept f (q.take j) ++ [x] := by
  rw [kept, take_step h, List.filter_append]; simp [kept, hf]
theorem kept_skip {f : Item → Bool} {q : List Item} {j : Nat} {x : Item} (h : q[j]? = some x) (hf : f x = true) : kept f (q.take (j + 1)) = kept f (q.take j) := by
  rw [kept, take_step h, List.filter_append]; simp [kept, hf]
theorem kept_all {f : Item → Bool} {q : List Item} (h : ∀ x ∈ q, f x = false) : kept f q = q := List.filter_eq_self.2 fun x hx => by simp [h x hx]
theorem kept_le (f : Item → Bool) (q : List Item) (j : Nat) : (kept f (q.take j)).length ≤ j := Nat.le_trans (List.length_filter_le _ _) (by rw [List.length_take]; exact Nat.min_le_left _ _)
theorem rowC_drop {q : List Item} {j : Nat} {x : Item} {r : List PV} (h : q[j]? = some x) : rowC (q.drop j) r = eItem x ++ rowC (q.drop (j + 1)) r := by
  rw [List.drop_eq_getElem_cons (List.getElem?_eq_some_iff.1 h).1, (List.getElem?_eq_some_iff.1 h).2]; simp [rowC]
theorem rowC_split (q : List Item) (j : Nat) (r : List PV) : rowC q r = rowC (q.take j) (rowC (q.drop j) r) := by
  conv => lhs; rw [← List.take_append_drop j q]
  rw [rowC, rowC, rowC, List.map_append, List.flatten_append, List.append_assoc]
theorem rowC_app (k : List Item) (x : Item) (r : List PV) : rowC (k ++ [x]) r = rowC k (eItem x ++ r) := by simp [rowC]
theorem rowC_at {k : List Item} {M r : List PV} {o : Nat} (h : o = k.length * 4 + M.length) : (rowC k (M ++ r)).drop o = r := by
  subst h
  rw [rowC, ← List.append_assoc, ← items_len, ← List.length_append, List.drop_left]
theorem rowC_write {k : List Item} {M r l : List PV} {o : Nat} (h : o = k.length * 4) (h4 : l.length = 4) (hM : 4 ≤ (M ++ r).length) : writeC (rowC k (M ++ r)) o l = rowC k (l ++ (M ++ r).drop 4) := by
  subst h
  have e : M ++ r = (M ++ r).take 4 ++ (M ++ r).drop 4 := (List.take_append_drop 4 _).symm
  rw [rowC, e, writeC_mid (items_len k) (by rw [List.length_take]; omega), rowC, ← e]
structure DfOk (f : Item → Bool) (q : List Item) (x : Nat × List PV) : Prop where
  le : x.1 ≤ q.length
  lt : (kept f (q.take x.1)).length < x.1
  len : x.2.length = (x.1 - (kept f (q.take x.1)).length) * 4
  free : freeL x.2 = true
/- slices.DeleteFunc[[]impl.Item,impl.Item] -/
theorem deleteFunc_box (q : List Item) (g : Nat) (caps : List PV) (f : Item → Bool) (hc : freeL caps = true) (hq : q.length ≤ 16777216) (hf : ∀ x : Item, Pw.Spec Tryz.prog g ([.agg (eItem x)] ++ caps) (fun r => r = eT (f x))) (t cap : Nat) (r : List PV) (hr : freeL r = true) (hcap : q.length ≤ cap) : Pw.SpecB Tryz.prog 148 [.bs 1000 0 (q.map eItem).length cap, .fn g caps] (⟨[(1000, (t, rowC q r))], []⟩) (DelR (kept f q) t cap (rowC q r).length) := by
  refine specB_of (n := 42) Tryz.call148 Tryz.func148 rfl rfl (by simp) rfl fun W Z => ?_
  have hml : (q.map eItem).length = q.length := List.length_map ..
  refine PW.seq ?_
  refine PW.region ?_
  refine PL.run 1 rfl ?_
  refine PL.nil ?_
  refine PW.seq ?_
  refine PW.region ?_
  refine PL.run 2 rfl ?_
  refine PL.callLend 1000 t (rowC q r) rfl rfl rfl (slices_IndexFunc__impl_Item_impl_Item_spec q g caps f hc hq (fun i x _ => hf x)) rfl (rowC_free hr) (.cons (L := []) (L' := []) (.fs 1000 cap t (rowC q r) 4 (q.map eItem) rfl (item_len q) ⟨r, rfl⟩ (by rw [hml]; exact hcap)) (.cons (L := []) (L' := []) (.f (.same (.fn g caps) hc)) .nil)) (fun p hp => by subst hp; rfl) (wantV_ok rfl) rfl (fun p hp => ?_)
  subst hp
  refine PL.run 1 rfl ?_
  refine PL.nil ?_
  refine PW.seq ?_
  refine PW.seq ?_
  refine PW.region ?_
  refine PL.run 2 rfl ?_
  refine PL.nil ?_
  refine PW.cond rfl (fun h1 => ?_) (fun h1 => ?_)
  ·
    refine PW.seq ?_
    refine PW.region ?_
    refine PL.run 2 rfl ?_
    refine PL.nil ?_
    skip
    refine PW.ret ?_
    have h1 := of_decide_eq_true h1
    have hk : kept f q = q := kept_all (idx_no (f := f) (l := q) (by omega))
    exact ⟨_, rfl, r, by rw [hk], by rw [hk], hr, by rw [hk]⟩
  ·
    have h1 := of_decide_eq_false h1
    have hge := idx_ge f q
    obtain ⟨i0, x0, e0, hx0, hf0, hb0⟩ := idx_some (f := f) (l := q) (by omega)
    clear h1
    have hi0 := (List.getElem?_eq_some_iff.1 hx0).1
    have hk0 : kept f (q.take i0) = q.take i0 := kept_all fun x hx => by
     obtain ⟨j, hj⟩ := List.getElem?_of_mem hx
     have hj2 := (List.getElem?_eq_some_iff.1 hj).1
     rw [List.length_take] at hj2
     rw [List.getElem?_take_of_lt (by omega)] at hj
     exact hb0 j x (by omega) hj
    have hk1 := kept_skip hx0 hf0
    rw [hk0] at hk1
    have hl0 : (q.take i0).length = i0 := by rw [List.length_take]; omega
    refine PW.skip ?_
    refine PW.seq ?_
    refine PW.seq ?_
    refine PW.region ?_
    refine PL.run 3 rfl ?_
    refine PL.nil ?_
    refine PW.block ?_
    refine PW.loopAt (α := Nat × List PV) (fun x => ⟨[(0, .bs 1000 0 (q.map eItem).length cap), (1, .fn g caps), (5, eI ((kept f (q.take x.1)).length : Nat)), (6, eI (x.1 : Nat))], ⟨[(1000, (t, rowC (kept f (q.take x.1)) (x.2 ++ rowC (q.drop x.1) r)))], []⟩⟩) (DfOk f q) (fun x => q.length - x.1) (i0 + 1, eItem x0) (Le.boxes ⟨⟨congrArg (fun c => some (t, c)) ?_, rowC_free ?_⟩, trivial⟩ ⟨⟨rfl, rfl⟩, ⟨rfl, hc⟩, ⟨congrArg (fun n => some (eI n)) ?_, rfl⟩, ⟨congrArg (fun n => some (eI n)) ?_, rfl⟩, trivial⟩) ⟨by simp only; omega, by simp only [hk1, hl0]; omega, by simp only [hk1, hl0]; rw [show i0 + 1 - i0 = 1 by omega]; rfl, rfl⟩ (fun x hx => ?_)
    · simp only [hk1]
      rw [← rowC_drop hx0, ← rowC_split]
    · simp only
      rw [freeL_append, rowC_free hr]; rfl
    · rw [e0]; simp only [hk1, hl0]
    · rw [e0, wrap_id (by omega) (by omega)]; simp only; omega
    obtain ⟨j, M⟩ := x
    have hjl := hx.le
    have hkl := hx.lt
    have hM := hx.len
    have hMf := hx.free
    simp only at hjl hkl hM hMf ⊢
    refine PW.seq ?_
    refine PW.seq ?_
    refine PW.region ?_
    refine PL.run 2 rfl ?_
    refine PL.val (OpV.lenB rfl rfl rfl rfl) (wantV_ok rfl) rfl ?_
    refine PL.run 1 rfl ?_
    refine PL.nil ?_
    refine PW.cond rfl (fun h2 => ?_) (fun h2 => ?_)
    ·
      have hlt : j < q.length := by simpa using h2
      clear h2
      obtain ⟨x, hx1⟩ : ∃ y, q[j]? = some y := ⟨_, List.getElem?_eq_getElem hlt⟩
      have hdr := rowC_drop (r := r) hx1
      have hlen : (rowC (kept f (q.take j)) (M ++ rowC (q.drop j) r)).length = (rowC q r).length := by
       rw [rowC_len, rowC_len, List.length_append, rowC_len, List.length_drop, hM]; omega
      have hup : some (PV.lit (.int .i64 (IntKind.i64.wrap ((j : Int) + 1)))) = some (PV.lit (.int .i64 ((j + 1 : Nat) : Int))) := inc_ok (by omega)
      refine PW.skip ?_
      refine PW.seq ?_
      refine PW.block ?_
      refine PW.seq ?_
      refine PW.region ?_
      refine PL.run 2 rfl ?_
      refine PL.val (OpV.idxB rfl rfl rfl (nat_nonneg j) (by rw [Int.toNat_natCast, hml]; exact hlt) rfl rfl rfl) (wantV_ok rfl) rfl ?_
      refine PL.val (OpV.loadB (p := .agg (eItem x)) rfl rfl rfl rfl ?_) (wantV_ok rfl) rfl ?_
      · have e : (rowC (kept f (q.take j)) (M ++ rowC (q.drop j) r)).drop (0 + ((j : Nat) : Int).toNat * 4) = eItem x ++ rowC (q.drop (j + 1)) r := by
          rw [rowC_at (by rw [Int.toNat_natCast, hM]; omega), hdr]
        exact (congrArg (packed true 4) e).trans rfl
      refine PL.run 1 rfl ?_
      refine PL.run 1 rfl ?_
      refine PL.nil ?_
      refine PW.seq ?_
      refine PW.region ?_
      refine PL.run 2 rfl ?_
      refine PL.call rfl rfl rfl (hf x) (wkl_refl _) (fun p hp => by subst hp; rfl) (wantV_ok rfl) rfl (fun p hp => ?_)
      subst hp
      refine PL.run 1 rfl ?_
      refine PL.nil ?_
      refine PW.cond rfl (fun h3 => ?_) (fun h3 => ?_)
      ·
        refine PW.seq ?_
        refine PW.region ?_
        refine PL.run 3 rfl ?_
        refine PL.val (OpV.idxB rfl rfl rfl (nat_nonneg _) (by rw [Int.toNat_natCast, hml]; omega) rfl rfl rfl) (wantV_ok rfl) rfl ?_
        refine PL.store rfl rfl rfl rfl rfl rfl rfl (by rw [hlen, rowC_len]; show 0 + (((kept f (q.take j)).length : Nat) : Int).toNat * 4 + 4 ≤ _; rw [Int.toNat_natCast]; omega) rfl (wantV_ok rfl) ?_
        refine PL.nil ?_
        refine PW.region ?_
        refine PL.run 3 rfl ?_
        refine PL.nil ?_
        refine PW.region ?_
        refine PL.run 3 rfl ?_
        refine PL.nil ?_
        have hfx : f x = false := by simpa using h3
        have hks := kept_step hx1 hfx
        have hM4 : 4 ≤ M.length := by rw [hM]; omega
        have ew : writeC (rowC (kept f (q.take j)) (M ++ rowC (q.drop j) r)) (0 + (((kept f (q.take j)).length : Nat) : Int).toNat * 4) (eItem x) = rowC (kept f (q.take (j + 1))) ((M.drop 4 ++ eItem x) ++ rowC (q.drop (j + 1)) r) := by
         rw [rowC_write (by rw [Int.toNat_natCast]; omega) rfl (by rw [List.length_append]; omega), hks, rowC_app, hdr, List.drop_append_of_le_length hM4, List.append_assoc]
        have hfr : freeL (M.drop 4 ++ eItem x) = true := by rw [freeL_append, freeL_iff.2 (fun p hp => freeL_mem hMf p (List.mem_of_mem_drop hp))]; rfl
        refine ⟨(j + 1, M.drop 4 ++ eItem x), Le.boxes ⟨⟨congrArg (fun c => some (t, c)) ew, rowC_free ?_⟩, trivial⟩ ⟨⟨rfl, rfl⟩, ⟨rfl, hc⟩, ⟨congrArg (fun n => some (eI n)) ?_, rfl⟩, ⟨hup, rfl⟩, trivial⟩, ⟨hlt, ?_, ?_, hfr⟩, by simp only; omega⟩
        · simp only; rw [freeL_append, hfr, rowC_free hr]; rfl
        · simp only; rw [hks, List.length_append, wrap_id (by omega) (by omega)]; rfl
        · simp only; rw [hks, List.length_append]; simp; omega
        · simp only; rw [hks, List.length_append, List.length_append, List.length_drop, hM]; simp [eItem]; omega
      ·
        refine PW.skip ?_
        refine PW.region ?_
        refine PL.run 3 rfl ?_
        refine PL.nil ?_
        have hfx : f x = true := by simpa using h3
        have hks := kept_skip hx1 hfx
        have hfr : freeL (M ++ eItem x) = true := by rw [freeL_append, hMf]; rfl
        refine ⟨(j + 1, M ++ eItem x), Le.boxes ⟨⟨congrArg (fun c => some (t, c)) ?_, rowC_free ?_⟩, trivial⟩ ⟨⟨rfl, rfl⟩, ⟨rfl, hc⟩, ⟨congrArg (fun n => some (eI n)) ?_, rfl⟩, ⟨hup, rfl⟩, trivial⟩, ⟨hlt, ?_, ?_, hfr⟩, by simp only; omega⟩
        · simp only; rw [hks, hdr, List.append_assoc]
        · simp only; rw [freeL_append, hfr, rowC_free hr]; rfl
        · simp only; rw [hks]
        · simp only; rw [hks]; omega
        · simp only; rw [hks, List.length_append, hM]; simp [eItem]; omega
    ·
      have hge2 : j = q.length := Nat.le_antisymm hjl (by simpa using h2)
      clear h2
      have hkq : kept f (q.take j) = kept f q := by rw [hge2, List.take_length]
      have hdq : rowC (q.drop j) r = r := by rw [hge2, List.drop_length]; rfl
      have hne : ¬ cap = (kept f (q.take j)).length := by omega
      refine PW.exit ?_
      refine PW.seq ?_
      refine PW.region ?_
      refine PL.run 2 rfl ?_
      refine PL.val (OpV.cutB (l := (kept f (q.take j)).length) (h := (q.map eItem).length) (c' := cap) rfl rfl rfl rfl rfl rfl rfl rfl rfl (by omega) (by omega) (Nat.le_refl _)) (wantV_ok rfl) rfl ?_
      refine PL.clearB rfl rfl rfl rfl rfl rfl rfl rfl (.inl ?_) (wantV_ok rfl) rfl ?_
      · rw [if_neg hne, rowC_len, List.length_append, hM, hml]
        show 0 + (kept f (q.take j)).length * 4 + (q.length - (kept f (q.take j)).length) * 4 ≤ _
        omega
      refine PL.nil ?_
      refine PW.seq ?_
      refine PW.region ?_
      refine PL.run 2 rfl ?_
      refine PL.val (OpV.cutB0 (h := (kept f (q.take j)).length) (c' := cap) rfl rfl rfl rfl rfl rfl rfl rfl (by omega) (Nat.le_refl _)) (wantV_ok rfl) rfl ?_
      refine PL.run 1 rfl ?_
      refine PL.nil ?_
      have hz : ∀ ti : TI, ti.zero.cells.size = 4 → (if (q.map eItem).length - (kept f (q.take j)).length = 0 then rowC (kept f (q.take j)) (M ++ rowC (q.drop j) r) else writeC (rowC (kept f (q.take j)) (M ++ rowC (q.drop j) r)) (if cap = (kept f (q.take j)).length then 0 else 0 + (kept f (q.take j)).length * 4) (zrow ti ((q.map eItem).length - (kept f (q.take j)).length))) = rowC (kept f q) (zrow ti ((q.map eItem).length - (kept f (q.take j)).length) ++ r) := fun ti h4 => by
       rw [if_neg (by omega), if_neg hne, hdq, hkq, rowC, rowC, writeC_mid (by rw [items_len, ← hkq]; omega) (by rw [zrow_len, h4, hM, hml, hge2, ← hge2, hkq])]
      refine PW.le (Le.boxes (b := [(1000, (t, rowC (kept f q) (zrow _ _ ++ r)))]) (e := [(4, .bs 1000 0 (kept f (q.take j)).length cap)]) ⟨⟨congrArg (fun c => some (t, c)) (hz _ rfl), rowC_free (by rw [freeL_append, zrow_free, hr]; rfl)⟩, trivial⟩ ⟨⟨rfl, rfl⟩, trivial⟩) ?_
      refine PW.ret ?_
      refine ⟨_, rfl, _, ?_, rfl, by rw [freeL_append, zrow_free, hr]; rfl, ?_⟩
      · rw [List.length_map, hkq]
      · rw [rowC_len, rowC_len, List.length_append, zrow_len, hkq, hml]
        show (kept f q).length * 4 + ((q.length - (kept f q).length) * 4 + r.length) = q.length * 4 + r.length
        rw [← hkq]; omega
end Go.Wl
set_option linter.unusedVariables false
set_option linter.unusedSimpArgs false
set_option maxRecDepth 100000
set_option maxHeartbeats 8000000
namespace Go.Wl
open Go Go.RowKit Go.Pw Go.Proofs
theorem rowC_items (q : List Item) (n : Nat) (r : List PV) (l : List PV) (o : Nat) (h : o = n * 4) (hn : n ≤ q.length) (hl : n * 4 + l.length ≤ (rowC q r).length) : writeC (rowC q r) o l = rowC (q.take n) (l ++ (rowC q r).drop (n * 4 + l.length)) := by
  subst h
  have e : (rowC q r).take (n * 4) = ((q.take n).map eItem).flatten := by
    rw [rowC_split q n r, rowC]
    have : n * 4 = ((q.take n).map eItem).flatten.length := by rw [items_len, List.length_take, Nat.min_eq_left hn]
    rw [this, List.take_left]
  rw [writeC, e]; rfl
theorem tail_ex {q : List Item} {i cap : Nat} {r : List PV} (hi : i < q.length) (hcap : q.length ≤ cap) : ∃ r', (rowC q r).drop (if cap = i + 1 then 0 else 0 + (i + 1) * 4) = ((q.drop (i + 1)).map eItem).flatten ++ r' := by
  by_cases h : cap = i + 1
  · have hd : q.drop (i + 1) = [] := List.drop_eq_nil_of_le (by omega)
    rw [if_pos h, hd]
    exact ⟨_, rfl⟩
  · rw [if_neg h, rowC_split q (i + 1) r, Nat.zero_add]
    have : (i + 1) * 4 = ((q.take (i + 1)).map eItem).flatten.length := by rw [items_len, List.length_take, Nat.min_eq_left hi]
    rw [this, rowC, List.drop_left]
    exact ⟨r, rfl⟩
/- slices.Delete[[]impl.Item,impl.Item] -/
theorem slices_Delete__impl_Item_impl_Item_spec (q : List Item) (i : Nat) (hi : i < q.length) (hq : q.length ≤ 16777216) (t cap : Nat) (r : List PV) (hr : freeL r = true) (hcap : q.length ≤ cap) : Pw.SpecB Tryz.prog 152 [.bs 1000 0 (q.map eItem).length cap, eI (i : Nat), eI ((i + 1 : Nat) : Int)] (⟨[(1000, (t, rowC q r))], []⟩) (DelR (q.take i ++ q.drop (i + 1)) t cap (rowC q r).length) := by
  refine specB_of (n := 33) Tryz.call152 Tryz.func152 rfl rfl (by simp) rfl fun W Z => ?_
  have hml : (q.map eItem).length = q.length := List.length_map ..
  have hnl : ((q.drop (i + 1)).map eItem).length = q.length - (i + 1) := by rw [List.length_map, List.length_drop]
  have hfl := items_len (q.drop (i + 1))
  rw [List.length_drop] at hfl
  have hrl := rowC_len q r
  refine PW.seq ?_
  refine PW.region ?_
  refine PL.run 1 rfl ?_
  refine PL.nil ?_
  refine PW.seq ?_
  refine PW.region ?_
  refine PL.run 4 rfl ?_
  refine PL.val (OpV.lenB rfl rfl rfl rfl) (wantV_ok rfl) rfl ?_
  refine PL.val (OpV.cutB (l := i) (h := i + 1) (c' := (q.map eItem).length) rfl rfl rfl rfl rfl rfl rfl rfl rfl (by omega) (by omega) (by omega)) (wantV_ok rfl) rfl ?_
  refine PL.nil ?_
  refine PW.seq ?_
  refine PW.seq ?_
  refine PW.region ?_
  refine PL.run 3 rfl ?_
  refine PL.nil ?_
  refine PW.cond rfl (fun h1 => ?_) (fun h1 => ?_)
  ·
    exact absurd (of_decide_eq_true h1) (by omega)
  ·
    refine PW.skip ?_
    refine PW.seq ?_
    refine PW.region ?_
    refine PL.run 1 rfl ?_
    refine PL.val (OpV.lenB rfl rfl rfl rfl) (wantV_ok rfl) rfl ?_
    refine PL.run 1 rfl ?_
    refine PL.nil ?_
    refine PW.seq ?_
    refine PW.drawn ((some 20, _) :: (some 21, _) :: (some 22, _) :: (some 23, _) :: (some 24, _) :: (some 25, _) :: (some 26, _) :: (some 0, _) :: []) (0 :: 0 :: 3 :: 0 :: 0 :: 24 :: 63 :: 127 :: []) (phs [(6, _)] _ [] _) mixed rfl rfl rfl rfl rfl
      (.cons rfl (fun ρ => PL.run 1 rfl (PL.nil rfl)) <|
      .cons rfl (fun ρ => PL.run 1 rfl (PL.nil rfl)) <|
      .cons rfl (fun ρ => PL.val (OpV.cutB0 (h := i) (c' := cap) rfl rfl rfl rfl rfl rfl rfl rfl (by omega) (Nat.le_refl _)) (wantV_ok rfl) rfl (PL.nil rfl)) <|
      .cons rfl (fun ρ => PL.run 1 rfl (PL.nil rfl)) <|
      .cons rfl (fun ρ => PL.run 1 rfl (PL.nil rfl)) <|
      .cons rfl (fun ρ => PL.val (OpV.cutB (l := i + 1) (h := (q.map eItem).length) (c' := cap) rfl rfl rfl rfl rfl rfl rfl rfl rfl (by omega) (by omega) (Nat.le_refl _)) (wantV_ok rfl) rfl (PL.nil rfl)) <|
      .cons rfl (fun ρ => PL.appIn (sz := 4) (new := (q.drop (i + 1)).map eItem) rfl rfl rfl rfl rfl rfl rfl rfl (.inr ⟨1000, (if cap = i + 1 then 0 else 0 + (i + 1) * 4), cap - (i + 1), t, rowC q r, (by rw [hnl, hml]), rfl, item_len _, tail_ex hi hcap⟩) (by rw [hnl]; omega) (by rw [hfl, hrl]; omega) (wantV_ok rfl) rfl (PL.nil rfl)) <|
      .cons rfl (fun ρ => PL.run 1 rfl (PL.nil rfl)) <|
      .nil _) ?_
    refine PW.seq ?_
    refine PW.region ?_
    refine PL.run 2 rfl ?_
    refine PL.val (OpV.lenB rfl rfl rfl rfl) (wantV_ok rfl) rfl ?_
    refine PL.run 1 rfl ?_
    refine PL.val (OpV.cutB (l := i + ((q.drop (i + 1)).map eItem).length) (h := (q.map eItem).length) (c' := cap) rfl rfl rfl rfl rfl rfl rfl rfl rfl (by omega) (by omega) (Nat.le_refl _)) (wantV_ok rfl) rfl ?_
    refine PL.clearB rfl rfl rfl rfl rfl rfl rfl rfl (.inl ?_) (wantV_ok rfl) rfl ?_
    · rw [if_neg (by omega), writeC, List.length_append, List.length_append, List.length_take, List.length_drop, hrl, hfl, hnl, hml]
      show 0 + (i + (q.length - (i + 1))) * 4 + (q.length - (i + (q.length - (i + 1)))) * 4 ≤ _
      omega
    refine PL.nil ?_
    refine PW.seq ?_
    refine PW.region ?_
    refine PL.run 2 rfl ?_
    refine PL.nil ?_
    have hz : ∀ ti : TI, ti.zero.cells.size = 4 → (if (q.map eItem).length - (i + ((q.drop (i + 1)).map eItem).length) = 0 then writeC (rowC q r) (i * 4) ((q.drop (i + 1)).map eItem).flatten else writeC (writeC (rowC q r) (i * 4) ((q.drop (i + 1)).map eItem).flatten) (if cap = i + ((q.drop (i + 1)).map eItem).length then 0 else 0 + (i + ((q.drop (i + 1)).map eItem).length) * 4) (zrow ti ((q.map eItem).length - (i + ((q.drop (i + 1)).map eItem).length)))) = rowC (q.take i ++ q.drop (i + 1)) (zrow ti ((q.map eItem).length - (i + ((q.drop (i + 1)).map eItem).length)) ++ r) := fun ti h4 => by
     have e1 : writeC (rowC q r) (i * 4) ((q.drop (i + 1)).map eItem).flatten = rowC (q.take i ++ q.drop (i + 1)) ((rowC q r).drop (i * 4 + ((q.drop (i + 1)).map eItem).flatten.length)) := by
       rw [rowC_items q i r _ _ rfl (by omega) (by rw [hfl, hrl]; omega)]
       simp [rowC]
     have e2 : ∃ mid : List PV, mid.length = 4 ∧ (rowC q r).drop (i * 4 + ((q.drop (i + 1)).map eItem).flatten.length) = mid ++ r := by
       refine ⟨((rowC q r).drop (i * 4 + ((q.drop (i + 1)).map eItem).flatten.length)).take 4, ?_, ?_⟩
       · rw [List.length_take, List.length_drop, hrl, hfl]; omega
       · conv => lhs; rw [← List.take_append_drop 4 ((rowC q r).drop _)]
         congr 1
         rw [List.drop_drop, rowC, List.drop_append_of_le_length (by rw [items_len, items_len, List.length_drop]; omega), List.drop_eq_nil_of_le (by rw [items_len, items_len, List.length_drop]; omega)]; rfl
     obtain ⟨mid, m1, m2⟩ := e2
     rw [if_neg (by omega), if_neg (by omega), e1, m2, rowC, rowC, writeC_mid (by rw [items_len, List.length_append, List.length_take, List.length_drop, hnl]; omega) (by rw [m1, zrow_len, h4, hnl, hml]; omega)]
    refine PW.le (Le.boxes (b := [(1000, (t, rowC (q.take i ++ q.drop (i + 1)) (zrow _ _ ++ r)))]) (e := [(6, .bs 1000 0 (i + ((q.drop (i + 1)).map eItem).length) cap)]) ⟨⟨congrArg (fun c => some (t, c)) (hz _ rfl), rowC_free (by rw [freeL_append, zrow_free, hr]; rfl)⟩, trivial⟩ ⟨⟨rfl, rfl⟩, trivial⟩) ?_
    refine PW.ret ?_
    refine ⟨_, rfl, _, ?_, rfl, by rw [freeL_append, zrow_free, hr]; rfl, ?_⟩
    · rw [hnl, List.length_map, List.length_append, List.length_take, List.length_drop]; congr 1; omega
    · simp only [rowC_len, List.length_append, zrow_len, hnl, hml, List.length_take, List.length_drop]
      show (min i q.length + (q.length - (i + 1))) * 4 + ((q.length - (i + (q.length - (i + 1)))) * 4 + r.length) = q.length * 4 + r.length
      omega
theorem clone_fresh {S : PS} {q : List Item} (h : lk S.h.bx 1000 = none) : ∀ p h', CloneR q p h' → (h' = PH.none ∧ plain p = true) ∨ ∃ id t cs off n cap, p = .bs id off n cap ∧ h' = ⟨[(id, (t, cs))], []⟩ ∧ lk S.h.bx id = none ∧ freeL cs = true := fun p h' hp => by
  rcases hp with ⟨_, rfl, rfl⟩ | ⟨_, t, cap, r, rfl, rfl, hr, _⟩
  · exact .inl ⟨rfl, rfl⟩
  · exact .inr ⟨1000, t, _, _, _, cap, rfl, rfl, h, rowC_free hr⟩
theorem due_kept (q : List Item) (now : Int) : kept (fun y => decide (y.due < now)) q = dueL q now := by
  unfold kept dueL
  congr 1
  funext y
  by_cases h : y.due < now <;> simp [h] <;> omega
/- impl.Due -/
theorem impl_Due_spec (q : List Item) (now : Int) (hq : Sm q) : Pw.Spec Tryz.prog 126 [eItems q, eI now] (fun res_ => res_ = eItems (dueL q now)) := by
  refine spec_of (n := 9) Tryz.call126 Tryz.func126 rfl rfl (by simp) rfl rfl fun W Z => ?_
  refine PW.seq ?_
  refine PW.region ?_
  refine PL.run 2 rfl ?_
  refine PL.nil ?_
  refine PW.seq ?_
  refine PW.region ?_
  refine PL.run 1 rfl ?_
  refine PL.le (Le.freezeP (tv := 3) (id := 3) (e := [(5, eItems q)]) rfl rfl rfl) ?_
  refine PL.callB0 rfl rfl rfl (impl_cloneItems_spec q hq) (wkl_refl _) rfl (clone_fresh rfl) (wantV_ok rfl) rfl (fun p h hp => ?_)
  have hlen := hq.len
  rcases hp with ⟨hnil, rfl, rfl⟩ | ⟨hne, t, cap, r, rfl, rfl, hr, hroom, hcap, hmax⟩
  ·
    refine PL.run 1 rfl ?_
    refine PL.call rfl rfl rfl (deleteFunc_nil 153 [.rp [eI now]] (fun y => decide (y.due < now)) rfl (fun y => impl_Due_1_spec now y)) (wkl_refl _) (fun p hp => by subst hp; rfl) (wantV_ok rfl) rfl (fun p hp => ?_)
    subst hp
    refine PL.run 1 rfl ?_
    refine PL.nil ?_
    skip
    refine PW.ret ?_
    refine RetOk.of rfl (.one (.leaf (.nil0 4))) (by simp) (by simp) ?_
    subst hnil; rfl
  ·
    refine PL.run 1 rfl ?_
    refine PL.callB [] rfl rfl rfl (deleteFunc_box q 153 [.rp [eI now]] (fun y => decide (y.due < now)) rfl hlen (fun y => impl_Due_1_spec now y) t cap r hr hcap) rfl (wkl_refl _) (wantV_ok rfl) rfl (fun p h hp => ?_)
    obtain ⟨r2, rfl, rfl, hr2, hl2⟩ := hp
    rw [due_kept]
    refine PL.run 1 rfl ?_
    refine PL.nil ?_
    have hk : (dueL q now).length ≤ cap := Nat.le_trans (List.length_filter_le _ _) hcap
    refine PW.le (Le.freezeS (tv := 4) (sz := 4) (es := (dueL q now).map eItem) (r := r2) (e := []) rfl rfl (rowC_free hr2) rfl rfl (item_len _) (by rw [List.length_map]; exact hk)) ?_
    refine PW.ret ?_
    refine RetOk.free rfl rfl rfl
end Go.Wl
set_option linter.unusedVariables false
set_option linter.unusedSimpArgs false
set_option maxRecDepth 100000
set_option maxHeartbeats 8000000
namespace Go.Wl
open Go Go.RowKit Go.Pw Go.Proofs
theorem keep_pos {x : Item} (h : 0 < x.topic) (q : List Item) : kept (same2 x) q = q.filter (keepB x) := by
  unfold kept
  congr 1
  funext y
  have : ¬ x.topic ≤ 0 := by omega
  simp [same2, keepB, this]
theorem keep_neg {x : Item} (h : ¬ 0 < x.topic) (q : List Item) : q.filter (keepB x) = q :=
  List.filter_eq_self.2 fun y _ => by have : x.topic ≤ 0 := by omega
                                      simp [keepB, this]
/- impl.Put -/
theorem impl_Put_spec (q : List Item) (x : Item) (hq : Sm q) (hl : q.length < 16777216) (hr : x.route.size ≤ 1099511627776) (hb : x.bytes.length ≤ 16777216) : Pw.Spec Tryz.prog 123 [eItems q, .agg (eItem x)] (fun res_ => res_ = .tup [eItems (putQ q x), eT (queueOk (putL q x))]) := by
  refine spec_of (n := 26) Tryz.call123 Tryz.func123 rfl rfl (by simp) rfl rfl fun W Z => ?_
  have hsp := hq.put hl hr hb
  refine PW.seq ?_
  refine PW.region ?_
  refine PL.run 3 rfl ?_
  refine PL.nil ?_
  refine PW.seq ?_
  refine PW.region ?_
  refine PL.run 1 rfl ?_
  refine PL.le (Le.freezeP (tv := 3) (id := 3) (cs := eItem x) (e := [(7, eItems q), (0, eItems q)]) rfl rfl rfl) ?_
  refine PL.callB0 rfl rfl rfl (impl_cloneItems_spec q hq) (wkl_refl _) rfl (clone_fresh rfl) (wantV_ok rfl) rfl (fun p h hp => ?_)
  rcases hp with ⟨hnil, rfl, rfl⟩ | ⟨hne, t, cap, r, rfl, rfl, hrf, hroom, hcap, hmax⟩
  ·
    refine PL.run 1 rfl ?_
    refine PL.nil ?_
    refine PW.seq ?_
    refine PW.seq ?_
    refine PW.region ?_
    refine PL.run 3 rfl ?_
    refine PL.nil ?_
    refine PW.cond rfl (fun h1 => ?_) (fun h1 => ?_)
    ·
      have hput : [x] = putL q x := by rw [hnil]; rfl
      refine PW.region ?_
      refine PL.run 2 rfl ?_
      refine PL.call rfl rfl rfl (deleteFunc_nil 149 [.rp (eItem x)] (same2 x) rfl (fun y => impl_Put_1_spec x y)) (wkl_refl _) (fun p hp => by subst hp; rfl) (wantV_ok rfl) rfl (fun p hp => ?_)
      subst hp
      refine PL.run 1 rfl ?_
      refine PL.nil ?_
      refine PW.seq ?_
      refine PW.region ?_
      refine PL.run 2 rfl ?_
      refine PL.call rfl rfl rfl (impl_cloneItem_spec x hb) (.cons (.refl _) <| .nil) (fun p hp => by subst hp; rfl) (wantV_ok rfl) rfl (fun p hp => ?_)
      subst hp
      refine PL.run 1 rfl ?_
      refine PL.appNew (sz := 4) (new := [eItem x]) rfl rfl rfl rfl (.inl rfl) (Nat.succ_pos _) rfl rfl rfl rfl rfl rfl rfl (Nat.le_of_ble_eq_true rfl) (Nat.le_of_ble_eq_true rfl) (wantV_ok rfl) rfl (fun cap1 hc1 hc2 => ?_)
      refine PL.run 1 rfl ?_
      refine PL.nil ?_
      refine PW.seq ?_
      refine PW.seq ?_
      refine PW.region ?_
      refine PL.run 1 rfl ?_
      refine PL.le (Le.freezeS2 (tv := 6) (tw := 20) (id := 19) (sz := 4) (es := [eItem x]) (r := zrow _ (cap1 - 1)) (e := [(0, eItems q)]) rfl rfl rfl (by rw [freeL_append, zrow_free]; rfl) rfl rfl (item_len [x]) hc1) ?_
      refine PL.call rfl rfl rfl (impl_QueueOk_spec (putL q x) hsp) (.cons (wkrow (by rw [← hput]; rfl)) .nil) (fun p hp => by subst hp; rfl) (wantV_ok rfl) rfl (fun p hp => ?_)
      subst hp
      refine PL.run 1 rfl ?_
      refine PL.nil ?_
      refine PW.cond rfl (fun h2 => ?_) (fun h2 => ?_)
      ·
        refine PW.seq ?_
        refine PW.region ?_
        refine PL.run 1 rfl ?_
        refine PL.callB0 rfl rfl rfl (impl_cloneItems_spec q hq) (wkl_refl _) rfl (clone_fresh rfl) (wantV_ok rfl) rfl (fun p h hp => ?_)
        rcases hp with ⟨hnil2, rfl, rfl⟩ | ⟨hne2, t2, cap2, r3, rfl, rfl, hrf2, hroom2, hcap3, hmax2⟩
        ·
          refine PL.run 2 rfl ?_
          refine PL.nil ?_
          skip
          refine PW.ret ?_
          refine RetOk.of rfl (.tup (.cons (.leaf (.nil0 4)) (.cons (.leaf (.same _ rfl)) .nil))) (by simp) (by simp) ?_
          have hno : queueOk (putL q x) = false := by simpa using h2
          have e : putQ q x = q := by simp [putQ, hno]
          rw [e, hno, hnil2]; rfl
        ·
          refine PL.run 2 rfl ?_
          refine PL.nil ?_
          refine PW.le (Le.freezeS (tv := 4) (sz := 4) (es := q.map eItem) (r := r3) (e := [(5, eT false)]) rfl rfl (rowC_free hrf2) rfl rfl (item_len _) (by rw [List.length_map]; exact hcap3)) ?_
          refine PW.ret ?_
          refine RetOk.free rfl rfl ?_
          have hno : queueOk (putL q x) = false := by simpa using h2
          have e : putQ q x = q := by simp [putQ, hno]
          rw [e, hno]; rfl
      ·
        refine PW.skip ?_
        refine PW.seq ?_
        refine PW.region ?_
        refine PL.run 3 rfl ?_
        refine PL.nil ?_
        skip
        refine PW.ret ?_
        refine RetOk.free rfl rfl ?_
        have hyes : queueOk (putL q x) = true := by simpa using h2
        have e : putQ q x = putL q x := by simp [putQ, hyes]
        rw [e, hyes, ← hput]; rfl
    ·
      have hput : [x] = putL q x := by rw [hnil]; rfl
      refine PW.skip ?_
      refine PW.seq ?_
      refine PW.region ?_
      refine PL.run 2 rfl ?_
      refine PL.call rfl rfl rfl (impl_cloneItem_spec x hb) (.cons (.refl _) <| .nil) (fun p hp => by subst hp; rfl) (wantV_ok rfl) rfl (fun p hp => ?_)
      subst hp
      refine PL.run 1 rfl ?_
      refine PL.appNew (sz := 4) (new := [eItem x]) rfl rfl rfl rfl (.inl rfl) (Nat.succ_pos _) rfl rfl rfl rfl rfl rfl rfl (Nat.le_of_ble_eq_true rfl) (Nat.le_of_ble_eq_true rfl) (wantV_ok rfl) rfl (fun cap1 hc1 hc2 => ?_)
      refine PL.run 1 rfl ?_
      refine PL.nil ?_
      refine PW.seq ?_
      refine PW.seq ?_
      refine PW.region ?_
      refine PL.run 1 rfl ?_
      refine PL.le (Le.freezeS2 (tv := 6) (tw := 20) (id := 19) (sz := 4) (es := [eItem x]) (r := zrow _ (cap1 - 1)) (e := [(0, eItems q)]) rfl rfl rfl (by rw [freeL_append, zrow_free]; rfl) rfl rfl (item_len [x]) hc1) ?_
      refine PL.call rfl rfl rfl (impl_QueueOk_spec (putL q x) hsp) (.cons (wkrow (by rw [← hput]; rfl)) .nil) (fun p hp => by subst hp; rfl) (wantV_ok rfl) rfl (fun p hp => ?_)
      subst hp
      refine PL.run 1 rfl ?_
      refine PL.nil ?_
      refine PW.cond rfl (fun h3 => ?_) (fun h3 => ?_)
      ·
        refine PW.seq ?_
        refine PW.region ?_
        refine PL.run 1 rfl ?_
        refine PL.callB0 rfl rfl rfl (impl_cloneItems_spec q hq) (wkl_refl _) rfl (clone_fresh rfl) (wantV_ok rfl) rfl (fun p h hp => ?_)
        rcases hp with ⟨hnil2, rfl, rfl⟩ | ⟨hne2, t2, cap2, r3, rfl, rfl, hrf2, hroom2, hcap3, hmax2⟩
        ·
          refine PL.run 2 rfl ?_
          refine PL.nil ?_
          skip
          refine PW.ret ?_
          refine RetOk.of rfl (.tup (.cons (.leaf (.nil0 4)) (.cons (.leaf (.same _ rfl)) .nil))) (by simp) (by simp) ?_
          have hno : queueOk (putL q x) = false := by simpa using h3
          have e : putQ q x = q := by simp [putQ, hno]
          rw [e, hno, hnil2]; rfl
        ·
          refine PL.run 2 rfl ?_
          refine PL.nil ?_
          refine PW.le (Le.freezeS (tv := 4) (sz := 4) (es := q.map eItem) (r := r3) (e := [(5, eT false)]) rfl rfl (rowC_free hrf2) rfl rfl (item_len _) (by rw [List.length_map]; exact hcap3)) ?_
          refine PW.ret ?_
          refine RetOk.free rfl rfl ?_
          have hno : queueOk (putL q x) = false := by simpa using h3
          have e : putQ q x = q := by simp [putQ, hno]
          rw [e, hno]; rfl
      ·
        refine PW.skip ?_
        refine PW.seq ?_
        refine PW.region ?_
        refine PL.run 3 rfl ?_
        refine PL.nil ?_
        skip
        refine PW.ret ?_
        refine RetOk.free rfl rfl ?_
        have hyes : queueOk (putL q x) = true := by simpa using h3
        have e : putQ q x = putL q x := by simp [putQ, hyes]
        rw [e, hyes, ← hput]; rfl
  ·
    refine PL.run 1 rfl ?_
    refine PL.nil ?_
    refine PW.seq ?_
    refine PW.seq ?_
    refine PW.region ?_
    refine PL.run 3 rfl ?_
    refine PL.nil ?_
    refine PW.cond rfl (fun h4 => ?_) (fun h4 => ?_)
    ·
      have hput : q.filter (keepB x) ++ [x] = putL q x := rfl
      refine PW.region ?_
      refine PL.run 2 rfl ?_
      refine PL.callB [(0, eItems q), (3, .rp (eItem x))] rfl rfl rfl (deleteFunc_box q 149 [.rp (eItem x)] (same2 x) rfl (by omega) (fun y => impl_Put_1_spec x y) t cap r hrf hcap) rfl (wkl_refl _) (wantV_ok rfl) rfl (fun p h hp => ?_)
      obtain ⟨r2, rfl, rfl, hr2, hl2⟩ := hp
      rw [keep_pos (of_decide_eq_true h4)] at hl2 ⊢
      have hk := List.length_filter_le (keepB x) q
      have hcap2 : cap * 4 ≤ (rowC (q.filter (keepB x)) r2).length := by rw [hl2, rowC_len]; omega
      refine PL.run 1 rfl ?_
      refine PL.nil ?_
      refine PW.seq ?_
      refine PW.region ?_
      refine PL.run 2 rfl ?_
      refine PL.call rfl rfl rfl (impl_cloneItem_spec x hb) (.cons (.refl _) <| .nil) (fun p hp => by subst hp; rfl) (wantV_ok rfl) rfl (fun p hp => ?_)
      subst hp
      refine PL.run 1 rfl ?_
      refine PL.appB (sz := 4) (new := [eItem x]) [(0, eItems q)] rfl rfl rfl rfl rfl rfl hcap2 (rowC_free hr2) (by rw [List.length_map]; omega) hmax rfl rfl rfl rfl rfl rfl (by simp <;> omega) (by simp <;> omega) (wantV_ok rfl) rfl (fun cap1 bt1 sl k1 k2 k3 k4 => ?_)
      refine PL.run 1 rfl ?_
      refine PL.nil ?_
      refine PW.seq ?_
      refine PW.seq ?_
      refine PW.region ?_
      refine PL.run 1 rfl ?_
      have ec : (rowC (q.filter (keepB x)) r2).take (((q.filter (keepB x)).map eItem).length * 4) ++ (([eItem x] : List (List PV)).flatten ++ sl) = ((((q.filter (keepB x)) ++ [x]).map eItem).flatten ++ sl) := by
       rw [rowC_take (List.length_map ..)]; simp [rowC]
      refine PL.le (Le.freezeS2 (tv := 6) (tw := 20) (id := 19) (sz := 4) (es := ((q.filter (keepB x)) ++ [x]).map eItem) (r := sl) (e := [(0, eItems q)]) rfl rfl rfl ((congrArg freeL ec).trans (by rw [freeL_append, items_free, k4]; rfl)) ec (by simp) (item_len _) k1) ?_
      refine PL.call rfl rfl rfl (impl_QueueOk_spec (putL q x) hsp) (.cons (wkrow (by rw [← hput])) .nil) (fun p hp => by subst hp; rfl) (wantV_ok rfl) rfl (fun p hp => ?_)
      subst hp
      refine PL.run 1 rfl ?_
      refine PL.nil ?_
      refine PW.cond rfl (fun h5 => ?_) (fun h5 => ?_)
      ·
        refine PW.seq ?_
        refine PW.region ?_
        refine PL.run 1 rfl ?_
        refine PL.callB0 rfl rfl rfl (impl_cloneItems_spec q hq) (wkl_refl _) rfl (clone_fresh rfl) (wantV_ok rfl) rfl (fun p h hp => ?_)
        rcases hp with ⟨hnil2, rfl, rfl⟩ | ⟨hne2, t2, cap2, r3, rfl, rfl, hrf2, hroom2, hcap3, hmax2⟩
        ·
          refine PL.run 2 rfl ?_
          refine PL.nil ?_
          skip
          refine PW.ret ?_
          refine RetOk.of rfl (.tup (.cons (.leaf (.nil0 4)) (.cons (.leaf (.same _ rfl)) .nil))) (by simp) (by simp) ?_
          have hno : queueOk (putL q x) = false := by simpa using h5
          have e : putQ q x = q := by simp [putQ, hno]
          rw [e, hno, hnil2]; rfl
        ·
          refine PL.run 2 rfl ?_
          refine PL.nil ?_
          refine PW.le (Le.freezeS (tv := 4) (sz := 4) (es := q.map eItem) (r := r3) (e := [(5, eT false)]) rfl rfl (rowC_free hrf2) rfl rfl (item_len _) (by rw [List.length_map]; exact hcap3)) ?_
          refine PW.ret ?_
          refine RetOk.free rfl rfl ?_
          have hno : queueOk (putL q x) = false := by simpa using h5
          have e : putQ q x = q := by simp [putQ, hno]
          rw [e, hno]; rfl
      ·
        refine PW.skip ?_
        refine PW.seq ?_
        refine PW.region ?_
        refine PL.run 3 rfl ?_
        refine PL.nil ?_
        skip
        refine PW.ret ?_
        refine RetOk.free rfl rfl ?_
        have hyes : queueOk (putL q x) = true := by simpa using h5
        have e : putQ q x = putL q x := by simp [putQ, hyes]
        rw [e, hyes, ← hput]; rfl
    ·
      have hput : q ++ [x] = putL q x := by rw [putL, keep_neg (of_decide_eq_false h4)]
      refine PW.skip ?_
      refine PW.seq ?_
      refine PW.region ?_
      refine PL.run 2 rfl ?_
      refine PL.call rfl rfl rfl (impl_cloneItem_spec x hb) (.cons (.refl _) <| .nil) (fun p hp => by subst hp; rfl) (wantV_ok rfl) rfl (fun p hp => ?_)
      subst hp
      refine PL.run 1 rfl ?_
      refine PL.appB (sz := 4) (new := [eItem x]) [(0, eItems q)] rfl rfl rfl rfl rfl rfl (by rw [rowC_len]; omega) (rowC_free hrf) (by rw [List.length_map]; omega) hmax rfl rfl rfl rfl rfl rfl (by simp <;> omega) (by simp <;> omega) (wantV_ok rfl) rfl (fun cap1 bt1 sl k1 k2 k3 k4 => ?_)
      refine PL.run 1 rfl ?_
      refine PL.nil ?_
      refine PW.seq ?_
      refine PW.seq ?_
      refine PW.region ?_
      refine PL.run 1 rfl ?_
      have ec : (rowC (q) r).take (((q).map eItem).length * 4) ++ (([eItem x] : List (List PV)).flatten ++ sl) = ((((q) ++ [x]).map eItem).flatten ++ sl) := by
       rw [rowC_take (List.length_map ..)]; simp [rowC]
      refine PL.le (Le.freezeS2 (tv := 6) (tw := 20) (id := 19) (sz := 4) (es := ((q) ++ [x]).map eItem) (r := sl) (e := [(0, eItems q)]) rfl rfl rfl ((congrArg freeL ec).trans (by rw [freeL_append, items_free, k4]; rfl)) ec (by simp) (item_len _) k1) ?_
      refine PL.call rfl rfl rfl (impl_QueueOk_spec (putL q x) hsp) (.cons (wkrow (by rw [← hput])) .nil) (fun p hp => by subst hp; rfl) (wantV_ok rfl) rfl (fun p hp => ?_)
      subst hp
      refine PL.run 1 rfl ?_
      refine PL.nil ?_
      refine PW.cond rfl (fun h6 => ?_) (fun h6 => ?_)
      ·
        refine PW.seq ?_
        refine PW.region ?_
        refine PL.run 1 rfl ?_
        refine PL.callB0 rfl rfl rfl (impl_cloneItems_spec q hq) (wkl_refl _) rfl (clone_fresh rfl) (wantV_ok rfl) rfl (fun p h hp => ?_)
        rcases hp with ⟨hnil2, rfl, rfl⟩ | ⟨hne2, t2, cap2, r3, rfl, rfl, hrf2, hroom2, hcap3, hmax2⟩
        ·
          refine PL.run 2 rfl ?_
          refine PL.nil ?_
          skip
          refine PW.ret ?_
          refine RetOk.of rfl (.tup (.cons (.leaf (.nil0 4)) (.cons (.leaf (.same _ rfl)) .nil))) (by simp) (by simp) ?_
          have hno : queueOk (putL q x) = false := by simpa using h6
          have e : putQ q x = q := by simp [putQ, hno]
          rw [e, hno, hnil2]; rfl
        ·
          refine PL.run 2 rfl ?_
          refine PL.nil ?_
          refine PW.le (Le.freezeS (tv := 4) (sz := 4) (es := q.map eItem) (r := r3) (e := [(5, eT false)]) rfl rfl (rowC_free hrf2) rfl rfl (item_len _) (by rw [List.length_map]; exact hcap3)) ?_
          refine PW.ret ?_
          refine RetOk.free rfl rfl ?_
          have hno : queueOk (putL q x) = false := by simpa using h6
          have e : putQ q x = q := by simp [putQ, hno]
          rw [e, hno]; rfl
      ·
        refine PW.skip ?_
        refine PW.seq ?_
        refine PW.region ?_
        refine PL.run 3 rfl ?_
        refine PL.nil ?_
        skip
        refine PW.ret ?_
        refine RetOk.free rfl rfl ?_
        have hyes : queueOk (putL q x) = true := by simpa using h6
        have e : putQ q x = putL q x := by simp [putQ, hyes]
        rw [e, hyes, ← hput]; rfl
theorem clone_ne {i : Nat} {q : List Item} (h : i ≠ 1000) : ∀ p h', CloneR q p h' → lk h'.bx i = none := fun p h' hp => by
  rcases hp with ⟨_, rfl, rfl⟩ | ⟨_, t, cap, r, rfl, rfl, _⟩
  · rfl
  · rw [lk_cons, if_neg (fun e => h e.symm)]; rfl
theorem del_one {k : List Item} {t cap n : Nat} : ∀ p h', DelR k t cap n p h' → ∃ x' off m cap', p = .bs 1000 off m cap' ∧ h' = ⟨[(1000, x')], []⟩ ∧ freeL x'.2 = true := fun p h' hp => by
  obtain ⟨r', rfl, rfl, hr, _⟩ := hp
  exact ⟨_, _, _, _, rfl, rfl, rowC_free hr⟩
theorem take_idx_some {q : List Item} {r : ByteArray} {i : Nat} {x : Item} (h : q[i]? = some x) (hf : (decide (x.route = r)) = true) (hb : ∀ (j : Nat) (y : Item), j < i → q[j]? = some y → decide (y.route = r) = false) : takeQ r q = some (x, q.take i ++ q.drop (i + 1)) :=
  takeQ_at (fun j y hj hy => by simpa using hb j y hj hy) h (by simpa using hf)
/- impl.Take -/
theorem impl_Take_spec (q : List Item) (r : ByteArray) (hq : Sm q) : Pw.Spec Tryz.prog 125 [eItems q, eS r] (fun res_ => res_ = .tup [.agg (eItem (takeX q r)), eItems (takeR q r), eT (takeQ r q).isSome]) := by
  refine spec_of (n := 28) Tryz.call125 Tryz.func125 rfl rfl (by simp) rfl rfl fun W Z => ?_
  have hlen := hq.len
  refine PW.seq ?_
  refine PW.region ?_
  refine PL.run 4 rfl ?_
  refine PL.nil ?_
  refine PW.seq ?_
  refine PW.region ?_
  refine PL.run 1 rfl ?_
  refine PL.le (Le.freezePB (tv := 3) (id := 3) (cs := [eS r]) (b := [(4, (64, zI))]) (e := [(9, eItems q), (0, eItems q), (4, .bx 4 0)]) rfl rfl rfl rfl ⟨⟨rfl, rfl⟩, trivial⟩ ⟨⟨rfl, rfl⟩, ⟨rfl, rfl⟩, ⟨rfl, rfl⟩, trivial⟩) ?_
  refine PL.callB0o 2 4 rfl rfl rfl (impl_cloneItems_spec q hq) (wkl_refl _) rfl (clone_fresh rfl) rfl (clone_ne (by decide)) rfl (wantV_ok rfl) rfl (fun p h hp => ?_)
  rcases hp with ⟨hnil, rfl, rfl⟩ | ⟨hne, t, cap, r2, rfl, rfl, hrf, hroom, hcap, hmax⟩
  ·
    refine PL.run 1 rfl ?_
    refine PL.nil ?_
    refine PW.seq ?_
    refine PW.region ?_
    refine PL.run 2 rfl ?_
    refine PL.call rfl rfl rfl (slices_IndexFunc__impl_Item_impl_Item_spec q 151 [.rp [eS r]] (fun y => decide (y.route = r)) rfl hlen (fun i y _ => impl_Take_1_spec r y)) (wkl_refl _) (fun p hp => by subst hp; rfl) (wantV_ok rfl) rfl (fun p hp => ?_)
    subst hp
    refine PL.run 1 rfl ?_
    refine PL.nil ?_
    refine PW.seq ?_
    refine PW.seq ?_
    refine PW.region ?_
    refine PL.run 2 rfl ?_
    refine PL.nil ?_
    refine PW.cond rfl (fun h1 => ?_) (fun h1 => ?_)
    ·
      skip
      refine PW.seq ?_
      refine PW.region ?_
      refine PL.val (OpV.build rfl rfl rfl rfl rfl rfl) (wantV_ok rfl) rfl ?_
      refine PL.run 4 rfl ?_
      refine PL.nil ?_
      skip
      refine PW.ret ?_
      refine RetOk.of rfl (.tup (.cons (.agg (.cons (.same _ rfl) (.cons (.same _ rfl) (.cons (.same _ rfl) (.cons (.nil0 1) .nil))))) (.cons (.leaf (.nil0 4)) (.cons (.leaf (.same _ rfl)) .nil)))) (by simp) (by simp) ?_
      subst hnil; rfl
    ·
      exact absurd h1 (by subst hnil; simp [idx])
  ·
    refine PL.run 1 rfl ?_
    refine PL.nil ?_
    refine PW.seq ?_
    refine PW.region ?_
    refine PL.run 2 rfl ?_
    refine PL.call rfl rfl rfl (slices_IndexFunc__impl_Item_impl_Item_spec q 151 [.rp [eS r]] (fun y => decide (y.route = r)) rfl hlen (fun i y _ => impl_Take_1_spec r y)) (wkl_refl _) (fun p hp => by subst hp; rfl) (wantV_ok rfl) rfl (fun p hp => ?_)
    subst hp
    refine PL.run 1 rfl ?_
    refine PL.nil ?_
    refine PW.seq ?_
    refine PW.seq ?_
    refine PW.region ?_
    refine PL.run 2 rfl ?_
    refine PL.nil ?_
    refine PW.cond rfl (fun h2 => ?_) (fun h2 => ?_)
    ·
      refine PW.seq ?_
      refine PW.region ?_
      refine PL.val (OpV.build rfl rfl rfl rfl rfl rfl) (wantV_ok rfl) rfl ?_
      refine PL.run 4 rfl ?_
      refine PL.nil ?_
      refine PW.le (Le.freezeBS (tv := 5) (id := 1000) (sz := 4) (es := q.map eItem) (r := r2) (b := [(4, (64, zI))]) (e := [(4, .bx 4 0), (6, eT false)]) rfl rfl (rowC_free hrf) rfl rfl (item_len _) (by rw [List.length_map]; exact hcap) rfl) ?_
      refine PW.ret ?_
      have h2 := of_decide_eq_true h2
      have hno : takeQ r q = none := takeQ_none (fun j y hy => by simpa using idx_no (f := fun y : Item => decide (y.route = r)) h2 y (List.mem_of_getElem? hy))
      refine RetOk.of rfl (.tup (.cons (.agg (.cons (.same _ rfl) (.cons (.same _ rfl) (.cons (.same _ rfl) (.cons (.nil0 1) .nil))))) (.cons (.leaf (.same _ rfl)) (.cons (.leaf (.same _ rfl)) .nil)))) (by simp) (by simp) ?_
      simp [takeX, takeR, hno, eItem, item0, eBs, eItems]
      rfl
    ·
      obtain ⟨i, x, ei, hx, hfx, hbx⟩ := idx_some (f := fun y : Item => decide (y.route = r)) (l := q) (by have := of_decide_eq_false h2; omega)
      clear h2
      have hi := (List.getElem?_eq_some_iff.1 hx).1
      have htk := take_idx_some hx hfx hbx
      refine PW.skip ?_
      refine PW.seq ?_
      refine PW.region ?_
      refine PL.run 2 rfl ?_
      refine PL.val (OpV.idx rfl rfl rfl (by rw [ei]; exact nat_nonneg i) (by rw [ei]; exact map_at' hx) rfl rfl rfl rfl) (wantV_ok rfl) rfl ?_
      refine PL.run 1 rfl ?_
      refine PL.call rfl rfl rfl (impl_cloneItem_spec x (hq.bytes i x hx)) (.cons (.refl _) <| .nil) (fun p hp => by subst hp; rfl) (wantV_ok rfl) rfl (fun p hp => ?_)
      subst hp
      refine PL.run 4 rfl ?_
      refine PL.le (Le.boxes (b := [(1000, (t, rowC q r2)), (4, (64, zI))]) (e := [(23, .bs 1000 0 (q.map eItem).length cap), (24, eI (i : Nat)), (26, eI ((i + 1 : Nat) : Int)), (22, .agg (eItem x)), (4, .bx 4 0), (2, .ord 4 1000)]) ⟨⟨rfl, rowC_free hrf⟩, ⟨rfl, rfl⟩, trivial⟩ ⟨⟨rfl, rfl⟩, ⟨congrArg (fun n => some (eI n)) ei, rfl⟩, ⟨congrArg (fun n => some (eI n)) (by rw [ei, wrap_id (by omega) (by omega)]; rfl), rfl⟩, ⟨rfl, rfl⟩, ⟨rfl, rfl⟩, ⟨rfl, rfl⟩, trivial⟩) ?_
      refine PL.callBK [(22, .agg (eItem x)), (4, .bx 4 0)] 2 rfl rfl rfl rfl rfl (slices_Delete__impl_Item_impl_Item_spec q i hi hlen t cap r2 hrf hcap) (wkl_refl _) (by simp [okB, free]) (rowC_free hrf) rfl rfl del_one (wantV_ok rfl) rfl (fun p h hp => ?_)
      obtain ⟨r3, rfl, rfl, hr3, hl3⟩ := hp
      refine PL.run 3 rfl ?_
      refine PL.nil ?_
      refine PW.le (Le.freezeBS (tv := 5) (id := 1000) (sz := 4) (es := (q.take i ++ q.drop (i + 1)).map eItem) (r := r3) (b := [(4, (64, eItem x))]) (e := [(4, .bx 4 0), (6, eT true)]) rfl rfl (rowC_free hr3) rfl rfl (item_len _) (by rw [List.length_map, List.length_append, List.length_take, List.length_drop]; omega) rfl) ?_
      refine PW.ret ?_
      refine RetOk.free rfl rfl ?_
      simp [takeX, takeR, htk, eItems]
      rfl
theorem impl_Play_sm {q : List Item} {now : Int} {l : Line} (hq : Sm q) (hl : q.length ≤ 10) (hs : l.route.size ≤ 1099511627776) (h : l.bytes.length ≤ 16777216) : Sm (playQ q now l) ∧ (playQ q now l).length ≤ 10 := playQ_sm hq hl hs h
/- impl.Play -/
theorem impl_Play_spec (b : List UInt8) (hb : b.length ≤ 16000000) : Pw.Spec Tryz.prog 90 [eBs b] (fun res_ => res_ = playR (play b)) := by
  refine spec_of (n := 57) Tryz.call90 Tryz.func90 rfl rfl (by simp) rfl rfl fun W Z => ?_
  refine PW.seq ?_
  refine PW.region ?_
  refine PL.run 3 rfl ?_
  refine PL.nil ?_
  refine PW.seq ?_
  refine PW.region ?_
  refine PL.run 4 rfl ?_
  refine PL.nil ?_
  refine PW.block ?_
  refine PW.loopAt (α := Nat × List Item × Int × Nat) (fun x => ⟨[(5, eItems x.2.1), (0, eBs b), (6, eI x.2.2.1), (7, eI ((x.2.2.2 : Nat) : Int))], PH.none⟩) (PlOk b) (fun x => x.1) (b.length + 1, [], 0, 0) (Le.ro (.ro rfl <| .same rfl rfl <| .same rfl rfl <| .same rfl rfl .nil)) ⟨Nat.zero_le _, by simp, Sm.nil, Nat.zero_le _, rfl⟩ (fun x hx => ?_)
  obtain ⟨k, q, now, i⟩ := x
  have hi := hx.le
  have hk := hx.lt
  have hq := hx.sm
  have hl := hx.len
  have he := hx.eq
  simp only at hi hk hq hl he ⊢
  refine PW.block ?_
  refine PW.seq ?_
  refine PW.region ?_
  refine PL.run 2 rfl ?_
  refine PL.call rfl rfl rfl (impl_LineOf_spec b i hb hi) (.cons (.refl _) <| .cons (.refl _) <| .nil) (fun p hp => by subst hp; rfl) (wantV_ok rfl) rfl (fun p hp => ?_)
  subst hp
  refine PL.run 8 rfl ?_
  refine PL.nil ?_
  refine PW.seq ?_
  refine PW.seq ?_
  refine PW.region ?_
  refine PL.run 2 rfl ?_
  refine PL.nil ?_
  refine PW.cond rfl (fun h1 => ?_) (fun h1 => ?_)
  ·
    have hn : lineOf b i = none := by simpa using h1
    refine PW.seq ?_
    refine PW.region ?_
    refine PL.run 6 rfl ?_
    refine PL.nil ?_
    refine PW.ret ?_
    obtain ⟨j, rfl⟩ : ∃ j, k = j + 1 := ⟨k - 1, by omega⟩
    simp only [playF, hn] at he
    refine RetOk.free rfl rfl ?_
    rw [← he]; rfl
  ·
    obtain ⟨⟨l, n⟩, hn⟩ : ∃ p, lineOf b i = some p := Option.isSome_iff_exists.1 (by simpa using h1)
    clear h1
    obtain ⟨e1, e2, e3, e4⟩ := lineOf_some hn
    have e5 := lineAt_len b i
    have e6 := lineAt_size b i e4
    rw [← e3] at e5 e6
    have g1 : l.route.size ≤ 1099511627776 := by omega
    have g2 : l.bytes.length ≤ 16777216 := by omega
    obtain ⟨j, rfl⟩ : ∃ j, k = j + 1 := ⟨k - 1, by omega⟩
    obtain ⟨g3, g4⟩ := playQ_sm (now := now) hq hl g1 g2
    simp only [playF, hn] at he
    have hgd : ((lineOf b i).getD (line0, 0)) = (l, n) := by rw [hn]; rfl
    rw [hgd]
    have hne : (lineOf b i).isSome = true := by rw [hn]; rfl
    refine PW.skip ?_
    refine PW.seq ?_
    refine PW.region ?_
    refine PL.run 2 rfl ?_
    refine PL.nil ?_
    refine PW.seq ?_
    refine PW.region ?_
    refine PL.run 2 rfl ?_
    refine PL.nil ?_
    refine PW.block ?_
    refine PW.seq ?_
    refine PW.region ?_
    refine PL.run 2 rfl ?_
    refine PL.nil ?_
    refine PW.cond rfl (fun h2 => ?_) (fun h2 => ?_)
    ·
      refine PW.region ?_
      refine PL.run 2 rfl ?_
      refine PL.call rfl rfl rfl (impl_itemOf_spec l g2) (.cons (.refl _) <| .nil) (fun p hp => by subst hp; rfl) (wantV_ok rfl) rfl (fun p hp => ?_)
      subst hp
      refine PL.call rfl rfl rfl (impl_Put_spec q (itemOf l) hq (by omega) g1 g2) (.cons (.refl _) <| .cons (.refl _) <| .nil) (fun p hp => by subst hp; rfl) (wantV_ok rfl) rfl (fun p hp => ?_)
      subst hp
      refine PL.run 4 rfl ?_
      refine PL.nil ?_
      have hk1 : l.kind = 1 := of_decide_eq_true h2
      refine ⟨(j, playQ q now l, playT now l, n), Le.ro (.same ?_ rfl <| .same rfl rfl <| .same ?_ rfl <| .same rfl rfl .nil), ⟨e2, by simp only; omega, g3, g4, he⟩, Nat.lt_succ_self _⟩
      · simp only [playQ, if_pos hk1]; rfl
      · have k3 : ¬ l.kind = 3 := by omega
        simp only [playT, if_neg k3]; rfl
    ·
      refine PW.seq ?_
      refine PW.region ?_
      refine PL.run 2 rfl ?_
      refine PL.nil ?_
      refine PW.cond rfl (fun h3 => ?_) (fun h3 => ?_)
      ·
        refine PW.region ?_
        refine PL.run 3 rfl ?_
        refine PL.call rfl rfl rfl (impl_Take_spec q l.route hq) (.cons (.refl _) <| .cons (.refl _) <| .nil) (fun p hp => by subst hp; rfl) (wantV_ok rfl) rfl (fun p hp => ?_)
        subst hp
        refine PL.run 5 rfl ?_
        refine PL.nil ?_
        have hk1 : ¬ l.kind = 1 := of_decide_eq_false h2
        have hk2 : l.kind = 2 := of_decide_eq_true h3
        refine ⟨(j, playQ q now l, playT now l, n), Le.ro (.same ?_ rfl <| .same rfl rfl <| .same ?_ rfl <| .same rfl rfl .nil), ⟨e2, by simp only; omega, g3, g4, he⟩, Nat.lt_succ_self _⟩
        · simp only [playQ, if_neg hk1, if_pos hk2]; rfl
        · have k3 : ¬ l.kind = 3 := by omega
          simp only [playT, if_neg k3]; rfl
      ·
        refine PW.seq ?_
        refine PW.region ?_
        refine PL.run 2 rfl ?_
        refine PL.nil ?_
        refine PW.cond rfl (fun h4 => ?_) (fun h4 => ?_)
        ·
          refine PW.seq ?_
          refine PW.region ?_
          refine PL.run 4 rfl ?_
          refine PL.nil ?_
          refine PW.cond rfl (fun h5 => ?_) (fun h5 => ?_)
          ·
            refine PW.seq ?_
            refine PW.region ?_
            refine PL.run 3 rfl ?_
            refine PL.nil ?_
            refine PW.region ?_
            refine PL.run 2 rfl ?_
            refine PL.call rfl rfl rfl (impl_Due_spec q l.due hq) (.cons (.refl _) <| .cons (.refl _) <| .nil) (fun p hp => by subst hp; rfl) (wantV_ok rfl) rfl (fun p hp => ?_)
            subst hp
            refine PL.run 1 rfl ?_
            refine PL.nil ?_
            have hk1 : ¬ l.kind = 1 := of_decide_eq_false h2
            have hk2 : ¬ l.kind = 2 := of_decide_eq_false h3
            have hk3 : l.kind = 3 := of_decide_eq_true h4
            have hk4 : now ≤ l.due := of_decide_eq_true h5
            refine ⟨(j, playQ q now l, playT now l, n), Le.ro (.same ?_ rfl <| .same rfl rfl <| .same ?_ rfl <| .same rfl rfl .nil), ⟨e2, by simp only; omega, g3, g4, he⟩, Nat.lt_succ_self _⟩
            · simp only [playQ, if_neg hk1, if_neg hk2, if_pos hk3, if_pos hk4]; rfl
            · simp only [playT, if_pos hk3, if_pos hk4]; rfl
          ·
            refine PW.skip ?_
            have hk1 : ¬ l.kind = 1 := of_decide_eq_false h2
            have hk2 : ¬ l.kind = 2 := of_decide_eq_false h3
            have hk3 : l.kind = 3 := of_decide_eq_true h4
            have hk4 : ¬ now ≤ l.due := of_decide_eq_false h5
            refine ⟨(j, playQ q now l, playT now l, n), Le.ro (.same ?_ rfl <| .same rfl rfl <| .same ?_ rfl <| .same rfl rfl .nil), ⟨e2, by simp only; omega, g3, g4, he⟩, Nat.lt_succ_self _⟩
            · simp only [playQ, if_neg hk1, if_neg hk2, if_pos hk3, if_neg hk4]; rfl
            · simp only [playT, if_pos hk3, if_neg hk4]; rfl
        ·
          refine PW.skip ?_
          have hk1 : ¬ l.kind = 1 := of_decide_eq_false h2
          have hk2 : ¬ l.kind = 2 := of_decide_eq_false h3
          have hk3 : ¬ l.kind = 3 := of_decide_eq_false h4
          refine ⟨(j, playQ q now l, playT now l, n), Le.ro (.same ?_ rfl <| .same rfl rfl <| .same ?_ rfl <| .same rfl rfl .nil), ⟨e2, by simp only; omega, g3, g4, he⟩, Nat.lt_succ_self _⟩
          · simp only [playQ, if_neg hk1, if_neg hk2, if_neg hk3]; rfl
          · simp only [playT, if_neg hk3]; rfl
end Go.Wl
set_option linter.unusedVariables false
set_option linter.unusedSimpArgs false
set_option maxRecDepth 100000
set_option maxHeartbeats 8000000
namespace Go.Wl
open Go Go.RowKit Go.Pw Go.Proofs
/- impl.PostOk -/
theorem impl_PostOk_spec (p : Post) (hp : SmP p) : Pw.Spec Tryz.prog 44 [.agg (ePost p)] (fun res_ => res_ = eT (postOk p)) := by
  refine spec_of (n := 55) Tryz.call44 Tryz.func44 rfl rfl (by simp) rfl rfl fun W Z => ?_
  refine PW.seq ?_
  refine PW.region ?_
  refine PL.run 2 rfl ?_
  refine PL.nil ?_
  refine PW.seq ?_
  refine PW.seq ?_
  refine PW.region ?_
  refine PL.run 2 rfl ?_
  refine PL.call rfl rfl rfl (impl_QueueOk_spec p.queue hp.q) (.cons (.refl _) <| .nil) (fun p hp => by subst hp; rfl) (wantV_ok rfl) rfl (fun p hp => ?_)
  subst hp
  refine PL.run 2 rfl ?_
  refine PL.split (t := 10) rfl (fun h1 => ?_) (fun h1 => ?_)
  ·
    refine PL.run 20 rfl ?_
    refine PL.nil ?_
    refine PW.condT rfl ?_
    refine PW.seq ?_
    refine PW.region ?_
    refine PL.run 1 rfl ?_
    refine PL.nil ?_
    refine PW.ret ?_
    refine RetOk.free rfl rfl (congrArg eT ?_)
    simp_all [postOk]
    try omega
  ·
    refine PL.run 2 rfl ?_
    refine PL.call rfl rfl rfl (impl_in_spec p.time 0 100000) (.cons (.refl _) <| .cons (.refl _) <| .cons (.refl _) <| .nil) (fun p hp => by subst hp; rfl) (wantV_ok rfl) rfl (fun p hp => ?_)
    subst hp
    refine PL.run 3 rfl ?_
    refine PL.split (t := 16) rfl (fun h2 => ?_) (fun h2 => ?_)
    ·
      refine PL.run 14 rfl ?_
      refine PL.nil ?_
      refine PW.condT rfl ?_
      refine PW.seq ?_
      refine PW.region ?_
      refine PL.run 1 rfl ?_
      refine PL.nil ?_
      refine PW.ret ?_
      refine RetOk.free rfl rfl (congrArg eT ?_)
      simp_all [postOk]
      try omega
    ·
      refine PL.run 6 rfl ?_
      refine PL.split (t := 22) rfl (fun h3 => ?_) (fun h3 => ?_)
      ·
        refine PL.run 8 rfl ?_
        refine PL.nil ?_
        refine PW.condT rfl ?_
        refine PW.seq ?_
        refine PW.region ?_
        refine PL.run 1 rfl ?_
        refine PL.nil ?_
        refine PW.ret ?_
        refine RetOk.free rfl rfl (congrArg eT ?_)
        have g3 : ¬ p.book.length ≤ 12000 := by simp at h3; omega
        simp [postOk, g3]
      ·
        refine PL.run 5 rfl ?_
        refine PL.call rfl rfl rfl (impl_in_spec p.sure 0 (((p.book.map eb).length : Nat) : Int)) (.cons (.refl _) <| .cons (.refl _) <| .cons (.refl _) <| .nil) (fun p hp => by subst hp; rfl) (wantV_ok rfl) rfl (fun p hp => ?_)
        subst hp
        refine PL.run 2 rfl ?_
        refine PL.nil ?_
        refine PW.cond rfl (fun h4 => ?_) (fun h4 => ?_)
        ·
          refine PW.seq ?_
          refine PW.region ?_
          refine PL.run 1 rfl ?_
          refine PL.nil ?_
          refine PW.ret ?_
          refine RetOk.free rfl rfl (congrArg eT ?_)
          simp_all [postOk]
          try omega
        ·
          have g3 : p.book.length ≤ 12000 := by simp at h3; omega
          refine PW.skip ?_
          refine PW.seq ?_
          refine PW.region ?_
          refine PL.run 2 rfl ?_
          refine PL.call rfl rfl rfl (impl_Play_spec p.book (by omega)) (.cons (.refl _) <| .nil) (fun p hp => by subst hp; rfl) (wantV_ok rfl) rfl (fun p hp => ?_)
          subst hp
          refine PL.run 7 rfl ?_
          refine PL.nil ?_
          refine PW.seq ?_
          refine PW.region ?_
          refine PL.run 6 rfl ?_
          refine PL.split (t := 43) rfl (fun h5 => ?_) (fun h5 => ?_)
          ·
            refine PL.run 6 rfl ?_
            refine PL.split (t := 49) rfl (fun h6 => ?_) (fun h6 => ?_)
            ·
              refine PL.run 3 rfl ?_
              refine PL.call rfl rfl rfl (impl_sameItems_spec (play p.book).1 p.queue (Nat.le_trans (play_len hp.b) (by decide))) (.cons (.refl _) <| .cons (.refl _) <| .nil) (fun p hp => by subst hp; rfl) (wantV_ok rfl) rfl (fun p hp => ?_)
              subst hp
              refine PL.run 2 rfl ?_
              refine PL.nil ?_
              refine PW.ret ?_
              refine RetOk.free rfl rfl (congrArg eT ?_)
              have g5 : (play p.book).2.2 = p.book.length := by simp at h5; omega
              clear h3 h5
              simp_all [postOk]
            ·
              refine PL.run 6 rfl ?_
              refine PL.nil ?_
              refine PW.ret ?_
              refine RetOk.free rfl rfl (congrArg eT ?_)
              simp_all [postOk]
              try omega
          ·
            refine PL.run 12 rfl ?_
            refine PL.nil ?_
            refine PW.ret ?_
            refine RetOk.free rfl rfl (congrArg eT ?_)
            have g5 : ¬ (play p.book).2.2 = p.book.length := by simp at h5; omega
            simp [postOk, g5]
/- impl.ReaderOk$1 -/
theorem impl_ReaderOk_1_spec (x y : List UInt8) : Pw.Spec Tryz.prog 94 [eBs y, .rp [eBs x]] (fun res_ => res_ = eT (decide (y = x))) := by
  refine spec_of (n := 7) Tryz.call94 Tryz.func94 rfl rfl (by simp) rfl rfl fun W Z => ?_
  refine PW.seq ?_
  refine PW.region ?_
  refine PL.run 1 rfl ?_
  refine PL.nil ?_
  refine PW.seq ?_
  refine PW.region ?_
  refine PL.run 2 rfl ?_
  refine PL.call rfl rfl rfl (impl_Same_spec y x) (.cons (.refl _) <| .cons (.refl _) <| .nil) (fun p hp => by subst hp; rfl) (wantV_ok rfl) rfl (fun p hp => ?_)
  subst hp
  refine PL.run 1 rfl ?_
  refine PL.nil ?_
  refine PW.ret ?_
  refine RetOk.free rfl rfl rfl
theorem seen_eq {r : Reader} {i : Nat} {x g : List UInt8} (hx : r.seen[i]? = some x) (hg : r.got[i]? = some g) : seenOk r i = (decide (x.length ≤ 1560) && (decide (g.length ≤ 200) && !(r.seen.take i).any fun t => decide (t = x))) := by
  simp only [seenOk, hx, hg]
  congr 2
  induction r.seen.take i with
  | nil => rfl
  | cons z l ih => simp only [List.all_cons, List.any_cons, ih]; cases decide (z = x) <;> rfl
/- impl.ReaderOk -/
theorem impl_ReaderOk_spec (r : Reader) (hr : SmR r) : Pw.Spec Tryz.prog 45 [.agg (eReader r)] (fun res_ => res_ = eT (readerOk r)) := by
  refine spec_of (n := 55) Tryz.call45 Tryz.func45 rfl rfl (by simp) rfl rfl fun W Z => ?_
  refine PW.seq ?_
  refine PW.region ?_
  refine PL.run 2 rfl ?_
  refine PL.nil ?_
  refine PW.seq ?_
  refine PW.seq ?_
  refine PW.region ?_
  refine PL.run 4 rfl ?_
  refine PL.call rfl rfl rfl (impl_keyOf_spec r.seed r.epoch) (.cons (.refl _) <| .cons (.refl _) <| .nil) (fun p hp => by subst hp; rfl) (wantV_ok rfl) rfl (fun p hp => ?_)
  subst hp
  refine PL.run 2 rfl ?_
  refine PL.split (t := 11) rfl (fun h1 => ?_) (fun h1 => ?_)
  ·
    refine PL.run 14 rfl ?_
    refine PL.nil ?_
    refine PW.condT rfl ?_
    refine PW.seq ?_
    refine PW.region ?_
    refine PL.run 1 rfl ?_
    refine PL.nil ?_
    refine PW.ret ?_
    refine RetOk.free rfl rfl (congrArg eT ?_)
    rw [Bool.not_eq_true'] at h1
    rw [readerOk, ← Bool.and_assoc, h1]; rfl
  ·
    refine PL.run 6 rfl ?_
    refine PL.split (t := 17) rfl (fun h2 => ?_) (fun h2 => ?_)
    ·
      refine PL.run 8 rfl ?_
      refine PL.nil ?_
      refine PW.condT rfl ?_
      refine PW.seq ?_
      refine PW.region ?_
      refine PL.run 1 rfl ?_
      refine PL.nil ?_
      refine PW.ret ?_
      refine RetOk.free rfl rfl (congrArg eT ?_)
      have : ¬ r.seen.length ≤ 20 := by simp at h2; omega
      simp [readerOk, this]
    ·
      refine PL.run 8 rfl ?_
      refine PL.nil ?_
      refine PW.cond rfl (fun h3 => ?_) (fun h3 => ?_)
      ·
        refine PW.seq ?_
        refine PW.region ?_
        refine PL.run 1 rfl ?_
        refine PL.nil ?_
        refine PW.ret ?_
        refine RetOk.free rfl rfl (congrArg eT ?_)
        have : ¬ r.got.length = r.seen.length := by simp at h3; omega
        simp [readerOk, this]
      ·
        have k1 : (decide (r.seed.length = 32) && inB r.epoch 0 40) = true := by simpa using h1
        have k2 : r.seen.length ≤ 20 := by simp at h2; omega
        have k3 : r.got.length = r.seen.length := by simp at h3; omega
        have hs := hr.seen
        have kk : readerOk r = (List.range r.seen.length).all (seenOk r) := by rw [readerOk, ← Bool.and_assoc, k1]; simp [k2, k3]
        clear h1 h2 h3
        refine PW.skip ?_
        refine PW.seq ?_
        refine PW.seq ?_
        refine PW.region ?_
        refine PL.run 4 rfl ?_
        refine PL.nil ?_
        refine PW.block ?_
        refine PW.loopAt (α := Nat) (fun i => ⟨[(1, .bx 1 0), (27, eBss r.seen), (28, eI ((r.seen.map eBss1).length : Nat)), (29, eI (i : Int))], ⟨[(1, (38, eReader r))], []⟩⟩) (fun i => i ≤ r.seen.length ∧ (List.range i).all (seenOk r) = true) (fun i => r.seen.length - i) 0 Le.boxes ⟨Nat.zero_le _, rfl⟩ (fun i hi => ?_)
        refine PW.seq ?_
        refine PW.region ?_
        refine PL.run 1 rfl ?_
        refine PL.nil ?_
        refine PW.seq ?_
        refine PW.cond rfl (fun h4 => ?_) (fun h4 => ?_)
        ·
          have hlt : i < r.seen.length := by simpa using h4
          clear h4
          obtain ⟨x, hx⟩ : ∃ y, r.seen[i]? = some y := ⟨_, List.getElem?_eq_getElem hlt⟩
          obtain ⟨g, hgx⟩ : ∃ y, r.got[i]? = some y := ⟨_, List.getElem?_eq_getElem (by omega)⟩
          have hse := seen_eq hx hgx
          have hup : some (PV.lit (.int .i64 (IntKind.i64.wrap ((i : Int) + 1)))) = some (PV.lit (.int .i64 ((i + 1 : Nat) : Int))) := inc_ok (by omega)
          have hbad : seenOk r i = false → readerOk r = false := fun h => by rw [kk, range_bad hlt h]
          refine PW.skip ?_
          refine PW.seq ?_
          refine PW.block ?_
          refine PW.seq ?_
          refine PW.region ?_
          refine PL.run 1 rfl ?_
          refine PL.val (OpV.idx rfl rfl rfl (nat_nonneg i) (map_at' hx) rfl rfl rfl rfl) (wantV_ok rfl) rfl ?_
          refine PL.run 4 rfl ?_
          refine PL.nil ?_
          refine PW.seq ?_
          refine PW.region ?_
          refine PL.run 4 rfl ?_
          refine PL.split (t := 37) rfl (fun h5 => ?_) (fun h5 => ?_)
          ·
            refine PL.run 16 rfl ?_
            refine PL.nil ?_
            refine PW.condT rfl ?_
            refine PW.seq ?_
            refine PW.region ?_
            refine PL.run 1 rfl ?_
            refine PL.nil ?_
            refine PW.ret ?_
            refine RetOk.free rfl rfl (congrArg eT ?_)
            have : ¬ x.length ≤ 1560 := by simp at h5; omega
            rw [hbad (by rw [hse]; simp [this])]
          ·
            refine PL.run 3 rfl ?_
            refine PL.val (OpV.cut rfl rfl rfl rfl rfl rfl (l := 0) (h := i) rfl rfl (Nat.zero_le _) (mapLe hi.1)) (wantV_ok rfl) rfl ?_
            refine PL.le (Le.freezePB (tv := 4) (id := 4) (cs := [eBs x]) (b := [(1, (38, eReader r))]) (e := [(37, eT false), (41, .sl 1 (((r.seen.map eBss1).take i).drop 0) none), (1, .bx 1 0), (27, eBss r.seen), (28, eI ((r.seen.map eBss1).length : Nat)), (29, eI (i : Int)), (3, eI (i : Int))]) rfl rfl rfl rfl ⟨⟨rfl, rfl⟩, trivial⟩ ⟨⟨rfl, rfl⟩, ⟨rfl, rfl⟩, ⟨rfl, rfl⟩, ⟨rfl, rfl⟩, ⟨rfl, rfl⟩, ⟨rfl, rfl⟩, ⟨rfl, rfl⟩, trivial⟩) ?_
            refine PL.run 1 rfl ?_
            refine PL.call rfl rfl rfl (slices_ContainsFunc___byte__byte_spec (r.seen.take i) 94 [.rp [eBs x]] (fun t => decide (t = x)) rfl (by rw [List.length_take]; omega) (fun j y hy => impl_ReaderOk_1_spec x y)) (.cons (wkrow (by simp [List.map_take])) <| .cons (.refl _) <| .nil) (fun p hp => by subst hp; rfl) (wantV_ok rfl) rfl (fun p hp => ?_)
            subst hp
            refine PL.run 2 rfl ?_
            refine PL.split (t := 45) rfl (fun h6 => ?_) (fun h6 => ?_)
            ·
              refine PL.run 8 rfl ?_
              refine PL.nil ?_
              refine PW.condT rfl ?_
              refine PW.seq ?_
              refine PW.region ?_
              refine PL.run 1 rfl ?_
              refine PL.nil ?_
              refine PW.ret ?_
              refine RetOk.free rfl rfl (congrArg eT ?_)
              rw [hbad (by rw [hse, h6]; simp)]
            ·
              refine PL.run 3 rfl ?_
              refine PL.val (OpV.idx rfl rfl rfl (nat_nonneg i) (map_at' hgx) rfl rfl rfl rfl) (wantV_ok rfl) rfl ?_
              refine PL.run 4 rfl ?_
              refine PL.nil ?_
              refine PW.cond rfl (fun h7 => ?_) (fun h7 => ?_)
              ·
                refine PW.seq ?_
                refine PW.region ?_
                refine PL.run 1 rfl ?_
                refine PL.nil ?_
                refine PW.ret ?_
                refine RetOk.free rfl rfl (congrArg eT ?_)
                have : ¬ g.length ≤ 200 := by simp at h7; omega
                rw [hbad (by rw [hse]; simp [this])]
              ·
                refine PW.skip ?_
                refine PW.region ?_
                refine PL.run 2 rfl ?_
                refine PL.nil ?_
                have h5 : x.length ≤ 1560 := by simp at h5; omega
                have h7 : g.length ≤ 200 := by simp at h7; omega
                refine ⟨i + 1, Le.boxes ⟨⟨rfl, rfl⟩, trivial⟩ ⟨⟨rfl, rfl⟩, ⟨rfl, rfl⟩, ⟨rfl, rfl⟩, ⟨hup, rfl⟩, trivial⟩, ⟨hlt, range_all hi.2 ?_⟩, by omega⟩
                rw [hse, h6]; simp [h5, h7]
        ·
          refine PW.exit ?_
          refine PW.seq ?_
          refine PW.region ?_
          refine PL.run 1 rfl ?_
          refine PL.nil ?_
          refine PW.ret ?_
          refine RetOk.free rfl rfl (congrArg eT ?_)
          have hge : i = r.seen.length := Nat.le_antisymm hi.1 (by simpa using h4)
          rw [kk, ← hge, hi.2]
/- impl.wireOk -/
theorem impl_wireOk_spec (w : Wire) (h : w.item.route.size ≤ 1099511627776) : Pw.Spec Tryz.prog 48 [.agg (eWire w)] (fun res_ => res_ = eT (wireOk w)) := by
  refine spec_of (n := 23) Tryz.call48 Tryz.func48 rfl rfl (by simp) rfl rfl fun W Z => ?_
  refine PW.seq ?_
  refine PW.region ?_
  refine PL.run 2 rfl ?_
  refine PL.nil ?_
  refine PW.seq ?_
  refine PW.seq ?_
  refine PW.region ?_
  refine PL.run 2 rfl ?_
  refine PL.nil ?_
  refine PW.cond rfl (fun h1 => ?_) (fun h1 => ?_)
  ·
    refine PW.seq ?_
    refine PW.region ?_
    refine PL.run 2 rfl ?_
    refine PL.call rfl rfl rfl (impl_ItemOk_spec w.item h) (.cons (.refl _) <| .nil) (fun p hp => by subst hp; rfl) (wantV_ok rfl) rfl (fun p hp => ?_)
    subst hp
    refine PL.run 1 rfl ?_
    refine PL.split (t := 8) rfl (fun h2 => ?_) (fun h2 => ?_)
    ·
      refine PL.run 6 rfl ?_
      refine PL.nil ?_
      refine PW.ret ?_
      refine RetOk.free rfl rfl (congrArg eT ?_)
      try simp only [dlen0, dlenm w.bytes 1560] at *
      simp_all [wireOk]
      try omega
    ·
      refine PL.run 6 rfl ?_
      refine PL.nil ?_
      refine PW.ret ?_
      refine RetOk.free rfl rfl (congrArg eT ?_)
      try simp only [dlen0, dlenm w.bytes 1560] at *
      simp_all [wireOk]
      try omega
  ·
    refine PW.skip ?_
    refine PW.seq ?_
    refine PW.region ?_
    refine PL.run 2 rfl ?_
    refine PL.call rfl rfl rfl (impl_noItem_spec w.item) (.cons (.refl _) <| .nil) (fun p hp => by subst hp; rfl) (wantV_ok rfl) rfl (fun p hp => ?_)
    subst hp
    refine PL.run 1 rfl ?_
    refine PL.split (t := 17) rfl (fun h3 => ?_) (fun h3 => ?_)
    ·
      refine PL.run 6 rfl ?_
      refine PL.nil ?_
      refine PW.ret ?_
      refine RetOk.free rfl rfl (congrArg eT ?_)
      try simp only [dlen0, dlenm w.bytes 1560] at *
      simp_all [wireOk]
      try omega
    ·
      refine PL.run 6 rfl ?_
      refine PL.nil ?_
      refine PW.ret ?_
      refine RetOk.free rfl rfl (congrArg eT ?_)
      try simp only [dlen0, dlenm w.bytes 1560] at *
      simp_all [wireOk]
      try omega
/- impl.sentOk -/
theorem impl_sentOk_spec (s : Sent) (h : s.route.size ≤ 1099511627776) : Pw.Spec Tryz.prog 51 [.agg (eSent s)] (fun res_ => res_ = eT (sentOk s)) := by
  refine spec_of (n := 23) Tryz.call51 Tryz.func51 rfl rfl (by simp) rfl rfl fun W Z => ?_
  refine PW.seq ?_
  refine PW.region ?_
  refine PL.run 2 rfl ?_
  refine PL.nil ?_
  refine PW.seq ?_
  refine PW.region ?_
  refine PL.run 5 rfl ?_
  refine PL.split (t := 7) rfl (fun h1 => ?_) (fun h1 => ?_)
  ·
    refine PL.run 2 rfl ?_
    refine PL.call rfl rfl rfl (impl_isRoute_spec s.route h) (.cons (.refl _) <| .nil) (fun p hp => by subst hp; rfl) (wantV_ok rfl) rfl (fun p hp => ?_)
    subst hp
    refine PL.run 2 rfl ?_
    refine PL.split (t := 12) rfl (fun h2 => ?_) (fun h2 => ?_)
    ·
      refine PL.run 6 rfl ?_
      refine PL.split (t := 18) rfl (fun h3 => ?_) (fun h3 => ?_)
      ·
        refine PL.run 2 rfl ?_
        refine PL.call rfl rfl rfl (impl_in_spec s.epoch 0 40) (.cons (.refl _) <| .cons (.refl _) <| .cons (.refl _) <| .nil) (fun p hp => by subst hp; rfl) (wantV_ok rfl) rfl (fun p hp => ?_)
        subst hp
        refine PL.run 2 rfl ?_
        refine PL.nil ?_
        refine PW.ret ?_
        refine RetOk.free rfl rfl (congrArg eT ?_)
        have g1 : s.note.length ≤ 200 := by simp at h1; omega
        have g3 : s.bytes.length ≤ 1560 := by simp at h3; omega
        simp [sentOk, itemOk, inB, g1, h2, g3]
      ·
        refine PL.run 5 rfl ?_
        refine PL.nil ?_
        refine PW.ret ?_
        refine RetOk.free rfl rfl (congrArg eT ?_)
        have g3 : ¬ s.bytes.length ≤ 1560 := by simp at h3; omega
        simp [sentOk, itemOk, g3]
    ·
      refine PL.run 11 rfl ?_
      refine PL.nil ?_
      refine PW.ret ?_
      refine RetOk.free rfl rfl (congrArg eT ?_)
      simp [sentOk, itemOk, h2]
  ·
    refine PL.run 16 rfl ?_
    refine PL.nil ?_
    refine PW.ret ?_
    refine RetOk.free rfl rfl (congrArg eT ?_)
    have g1 : ¬ s.note.length ≤ 200 := by simp at h1; omega
    simp [sentOk, g1]
/- impl.WorldOk$1 -/
theorem impl_WorldOk_1_spec (w : Wire) (h : w.item.route.size ≤ 1099511627776) : Pw.Spec Tryz.prog 47 [.agg (eWire w)] (fun res_ => res_ = eT (!wireOk w)) := by
  refine spec_of (n := 6) Tryz.call47 Tryz.func47 rfl rfl (by simp) rfl rfl fun W Z => ?_
  refine PW.seq ?_
  refine PW.region ?_
  refine PL.run 2 rfl ?_
  refine PL.nil ?_
  refine PW.seq ?_
  refine PW.region ?_
  refine PL.run 1 rfl ?_
  refine PL.call rfl rfl rfl (impl_wireOk_spec w h) (.cons (.refl _) <| .nil) (fun p hp => by subst hp; rfl) (wantV_ok rfl) rfl (fun p hp => ?_)
  subst hp
  refine PL.run 2 rfl ?_
  refine PL.nil ?_
  refine PW.ret ?_
  refine RetOk.free rfl rfl rfl
/- impl.WorldOk$2 -/
theorem impl_WorldOk_2_spec (s : Sent) (h : s.route.size ≤ 1099511627776) : Pw.Spec Tryz.prog 50 [.agg (eSent s)] (fun res_ => res_ = eT (!sentOk s)) := by
  refine spec_of (n := 6) Tryz.call50 Tryz.func50 rfl rfl (by simp) rfl rfl fun W Z => ?_
  refine PW.seq ?_
  refine PW.region ?_
  refine PL.run 2 rfl ?_
  refine PL.nil ?_
  refine PW.seq ?_
  refine PW.region ?_
  refine PL.run 1 rfl ?_
  refine PL.call rfl rfl rfl (impl_sentOk_spec s h) (.cons (.refl _) <| .nil) (fun p hp => by subst hp; rfl) (wantV_ok rfl) rfl (fun p hp => ?_)
  subst hp
  refine PL.run 2 rfl ?_
  refine PL.nil ?_
  refine PW.ret ?_
  refine RetOk.free rfl rfl rfl
theorem not_any {α : Type} (f : α → Bool) (l : List α) : (!l.any fun x => !f x) = l.all f := by
  induction l with
  | nil => rfl
  | cons x l ih => simp only [List.any_cons, List.all_cons, ← ih]; cases f x <;> simp
/- impl.WorldOk -/
theorem impl_WorldOk_spec (w : Earth) (hw : SmW w) : Pw.Spec Tryz.prog 12 [.agg (eEarth w)] (fun res_ => res_ = eT (worldOk w)) := by
  refine spec_of (n := 55) Tryz.call12 Tryz.func12 rfl rfl (by simp) rfl rfl fun W Z => ?_
  refine PW.seq ?_
  refine PW.region ?_
  refine PL.run 2 rfl ?_
  refine PL.nil ?_
  refine PW.seq ?_
  refine PW.seq ?_
  refine PW.region ?_
  refine PL.run 5 rfl ?_
  refine PL.split (t := 7) rfl (fun h1 => ?_) (fun h1 => ?_)
  ·
    refine PL.run 37 rfl ?_
    refine PL.nil ?_
    refine PW.condT rfl ?_
    refine PW.seq ?_
    refine PW.region ?_
    refine PL.run 1 rfl ?_
    refine PL.nil ?_
    refine PW.ret ?_
    refine RetOk.free rfl rfl (congrArg eT ?_)
    have : ¬ w.seed.length = 32 := by simp at h1; omega
    simp [worldOk, this]
  ·
    refine PL.run 2 rfl ?_
    refine PL.call rfl rfl rfl (impl_in_spec w.count 0 12) (.cons (.refl _) <| .cons (.refl _) <| .cons (.refl _) <| .nil) (fun p hp => by subst hp; rfl) (wantV_ok rfl) rfl (fun p hp => ?_)
    subst hp
    refine PL.run 3 rfl ?_
    refine PL.split (t := 13) rfl (fun h2 => ?_) (fun h2 => ?_)
    ·
      refine PL.run 31 rfl ?_
      refine PL.nil ?_
      refine PW.condT rfl ?_
      refine PW.seq ?_
      refine PW.region ?_
      refine PL.run 1 rfl ?_
      refine PL.nil ?_
      refine PW.ret ?_
      refine RetOk.free rfl rfl (congrArg eT ?_)
      have : inB w.count 0 12 = false := by simpa using h2
      simp [worldOk, this]
    ·
      refine PL.run 2 rfl ?_
      refine PL.call rfl rfl rfl (impl_in_spec w.known 0 40) (.cons (.refl _) <| .cons (.refl _) <| .cons (.refl _) <| .nil) (fun p hp => by subst hp; rfl) (wantV_ok rfl) rfl (fun p hp => ?_)
      subst hp
      refine PL.run 3 rfl ?_
      refine PL.split (t := 19) rfl (fun h3 => ?_) (fun h3 => ?_)
      ·
        refine PL.run 25 rfl ?_
        refine PL.nil ?_
        refine PW.condT rfl ?_
        refine PW.seq ?_
        refine PW.region ?_
        refine PL.run 1 rfl ?_
        refine PL.nil ?_
        refine PW.ret ?_
        refine RetOk.free rfl rfl (congrArg eT ?_)
        have : inB w.known 0 40 = false := by simpa using h3
        simp [worldOk, this]
      ·
        refine PL.run 2 rfl ?_
        refine PL.call rfl rfl rfl (impl_PostOk_spec w.post hw.p) (.cons (.refl _) <| .nil) (fun p hp => by subst hp; rfl) (wantV_ok rfl) rfl (fun p hp => ?_)
        subst hp
        refine PL.run 3 rfl ?_
        refine PL.split (t := 25) rfl (fun h4 => ?_) (fun h4 => ?_)
        ·
          refine PL.run 19 rfl ?_
          refine PL.nil ?_
          refine PW.condT rfl ?_
          refine PW.seq ?_
          refine PW.region ?_
          refine PL.run 1 rfl ?_
          refine PL.nil ?_
          refine PW.ret ?_
          refine RetOk.free rfl rfl (congrArg eT ?_)
          have : postOk w.post = false := by simpa using h4
          simp [worldOk, this]
        ·
          refine PL.run 2 rfl ?_
          refine PL.call rfl rfl rfl (impl_ReaderOk_spec w.reader hw.r) (.cons (.refl _) <| .nil) (fun p hp => by subst hp; rfl) (wantV_ok rfl) rfl (fun p hp => ?_)
          subst hp
          refine PL.run 3 rfl ?_
          refine PL.split (t := 31) rfl (fun h5 => ?_) (fun h5 => ?_)
          ·
            refine PL.run 13 rfl ?_
            refine PL.nil ?_
            refine PW.condT rfl ?_
            refine PW.seq ?_
            refine PW.region ?_
            refine PL.run 1 rfl ?_
            refine PL.nil ?_
            refine PW.ret ?_
            refine RetOk.free rfl rfl (congrArg eT ?_)
            have : readerOk w.reader = false := by simpa using h5
            simp [worldOk, this]
          ·
            refine PL.run 6 rfl ?_
            refine PL.split (t := 37) rfl (fun h6 => ?_) (fun h6 => ?_)
            ·
              refine PL.run 7 rfl ?_
              refine PL.nil ?_
              refine PW.condT rfl ?_
              refine PW.seq ?_
              refine PW.region ?_
              refine PL.run 1 rfl ?_
              refine PL.nil ?_
              refine PW.ret ?_
              refine RetOk.free rfl rfl (congrArg eT ?_)
              have : ¬ w.net.length ≤ 12 := by simp at h6; omega
              simp [worldOk, netOk, this]
            ·
              refine PL.run 7 rfl ?_
              refine PL.nil ?_
              refine PW.cond rfl (fun h7 => ?_) (fun h7 => ?_)
              ·
                refine PW.seq ?_
                refine PW.region ?_
                refine PL.run 1 rfl ?_
                refine PL.nil ?_
                refine PW.ret ?_
                refine RetOk.free rfl rfl (congrArg eT ?_)
                have : ¬ (w.sent.length : Int) = w.count := by simpa using h7
                simp [worldOk, this]
              ·
                have k1 : w.seed.length = 32 := by simp at h1; omega
                have k2 : inB w.count 0 12 = true := by simpa using h2
                have k3 : inB w.known 0 40 = true := by simpa using h3
                have k4 : postOk w.post = true := by simpa using h4
                have k5 : readerOk w.reader = true := by simpa using h5
                have k6 : w.net.length ≤ 12 := by simp at h6; omega
                have k7 : (w.sent.length : Int) = w.count := by simpa using h7
                have kk : worldOk w = (w.net.all wireOk && w.sent.all sentOk) := by simp [worldOk, netOk, k1, k2, k3, k4, k5, k6, k7]
                clear h1 h2 h3 h4 h5 h6 h7 k1 k2 k3 k4 k5 k6 k7
                refine PW.skip ?_
                refine PW.seq ?_
                refine PW.region ?_
                refine PL.run 2 rfl ?_
                refine PL.call rfl rfl rfl (slices_ContainsFunc__impl_Wire_impl_Wire_spec w.net 47 [] (fun x => !wireOk x) rfl hw.n.len (fun i x hx => impl_WorldOk_1_spec x (hw.n.route i x hx))) (.cons (.refl _) <| .cons (.refl _) <| .nil) (fun p hp => by subst hp; rfl) (wantV_ok rfl) rfl (fun p hp => ?_)
                subst hp
                refine PL.run 2 rfl ?_
                refine PL.split (t := 49) rfl (fun h8 => ?_) (fun h8 => ?_)
                ·
                  refine PL.run 2 rfl ?_
                  refine PL.call rfl rfl rfl (slices_ContainsFunc__impl_Sent_impl_Sent_spec w.sent 50 [] (fun x => !sentOk x) rfl hw.sent (fun i x hx => impl_WorldOk_2_spec x (hw.sr i x hx))) (.cons (.refl _) <| .cons (.refl _) <| .nil) (fun p hp => by subst hp; rfl) (wantV_ok rfl) rfl (fun p hp => ?_)
                  subst hp
                  refine PL.run 3 rfl ?_
                  refine PL.nil ?_
                  refine PW.ret ?_
                  refine RetOk.free rfl rfl (congrArg eT ?_)
                  rw [not_any] at h8
                  rw [kk, h8, ← not_any sentOk]; rfl
                ·
                  refine PL.run 6 rfl ?_
                  refine PL.nil ?_
                  refine PW.ret ?_
                  refine RetOk.free rfl rfl (congrArg eT ?_)
                  rw [not_any] at h8
                  rw [kk, h8]; rfl
end Go.Wl
