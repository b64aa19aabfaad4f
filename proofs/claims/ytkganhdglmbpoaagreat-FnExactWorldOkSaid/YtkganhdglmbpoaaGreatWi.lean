/- The walks, eighth text: lines of a book (the specification's). -/
import Derived.Test.YtkganhdglmbpoaaGreatWh
set_option linter.unusedVariables false
set_option linter.unusedSimpArgs false
set_option maxRecDepth 100000
namespace Go.Wl
open Go Go.RowKit Go.Pw Go.Proofs
def sh (x : UInt8) (n : Int) : Int := IntKind.i64.wrap (IntKind.i64.wrap (x.toNat : Int) * 2 ^ min n.toNat IntKind.i64.bits)
def or4 (a b c d : UInt8) : Int := bits .or .i64 (bits .or .i64 (bits .or .i64 (sh a 24) (sh b 16)) (sh c 8)) (IntKind.i64.wrap (d.toNat : Int))
def wordAt (great : Bool) (b : List UInt8) (k : Nat) : Int := if great then or4 (b.getD (4 * k) 0) (b.getD (4 * k + 1) 0) (b.getD (4 * k + 2) 0) (b.getD (4 * k + 3) 0) else or4 (b.getD (4 * k + 3) 0) (b.getD (4 * k + 2) 0) (b.getD (4 * k + 1) 0) (b.getD (4 * k) 0)
def wordsL (great : Bool) (b : List UInt8) : List Int := (List.range (b.length / 4)).map (wordAt great b)
def eI1 (n : Int) : List PV := [eI n]
theorem getD_at {b : List UInt8} {i : Nat} (h : i < b.length) : b[i]? = some (b.getD i 0) := by
  rw [List.getD_eq_getElem?_getD, List.getElem?_eq_getElem h]; rfl
theorem words_step {g : Bool} {b : List UInt8} {k : Nat} {n : Int} (h : wordAt g b k = n) : ((List.range k).map (wordAt g b)).map eI1 ++ [[eI n]] = ((List.range (k + 1)).map (wordAt g b)).map eI1 := by
  subst h
  rw [List.range_succ]; simp [eI1]
theorem wadd {a : Nat} (k : Nat) (h : a + k < 9223372036854775808) : IntKind.i64.wrap ((a : Int) + (k : Int)) = ((a + k : Nat) : Int) := by
  rw [wrap_id (by omega) (by omega)]; omega
/- spec.Words -/
theorem spec_Words_spec (b : List UInt8) (g : Bool) (hb : b.length ≤ 1099511627776) (τ : Nat) : Pw.Spec Tryz.prog 136 [eBs b, eT g] (fun res_ => res_ = .sl 1 ((wordsL g b).map eI1) (some τ)) := by
  refine spec_of (n := 81) Tryz.call136 Tryz.func136 rfl rfl (by simp) rfl rfl fun W Z => ?_
  refine PW.seq ?_
  refine PW.region ?_
  refine PL.run 1 rfl ?_
  refine PL.nil ?_
  refine PW.seq ?_
  refine PW.region ?_
  refine PL.run 2 rfl ?_
  refine PL.nil ?_
  refine PW.seq ?_
  refine PW.seq ?_
  refine PW.region ?_
  refine PL.run 1 rfl ?_
  refine PL.nil ?_
  refine PW.block ?_
  refine PW.loopAt (α := Nat) (fun k => ⟨[(5, .sl 1 (((List.range k).map (wordAt g b)).map eI1) (some 7)), (0, eBs b), (1, eT g), (6, eI ((4 * k : Nat) : Int))], ⟨[], [(7, (1, (((List.range k).map (wordAt g b)).map eI1).length))]⟩⟩) (fun k => 4 * k ≤ b.length) (fun k => b.length - 4 * k) 0 (Le.row ⟨⟨rfl, rfl⟩, ⟨rfl, rfl⟩, ⟨rfl, rfl⟩, trivial⟩ rfl rfl rfl) (Nat.zero_le _) (fun k hk => ?_)
  have e1 : IntKind.i64.wrap (((4 * k : Nat) : Int) + 1) = ((4 * k + 1 : Nat) : Int) := wadd 1 (by omega)
  have e2 : IntKind.i64.wrap (((4 * k : Nat) : Int) + 2) = ((4 * k + 2 : Nat) : Int) := wadd 2 (by omega)
  have e3 : IntKind.i64.wrap (((4 * k : Nat) : Int) + 3) = ((4 * k + 3 : Nat) : Int) := wadd 3 (by omega)
  have e4 : some (PV.lit (.int .i64 (IntKind.i64.wrap (((4 * k : Nat) : Int) + 4)))) = some (eI ((4 * (k + 1) : Nat) : Int)) := congrArg (fun n => some (eI n)) (by rw [wrap_id (by omega) (by omega)]; omega)
  refine PW.seq ?_
  refine PW.seq ?_
  refine PW.region ?_
  refine PL.run 5 rfl ?_
  refine PL.nil ?_
  refine PW.cond rfl (fun h1 => ?_) (fun h1 => ?_)
  ·
    have hlt : 4 * k + 3 < b.length := by
     have := of_decide_eq_true h1
     rw [e3] at this
     simp at this
     omega
    refine PW.skip ?_
    refine PW.seq ?_
    refine PW.block ?_
    refine PW.seq ?_
    refine PW.region ?_
    refine PL.run 1 rfl ?_
    refine PL.nil ?_
    refine PW.cond rfl (fun h2 => ?_) (fun h2 => ?_)
    ·
      subst h2
      refine PW.drawn ((some 16, _) :: (some 17, _) :: (some 18, _) :: (some 19, _) :: (some 20, _) :: (some 21, _) :: (some 22, _) :: (some 23, _) :: (some 24, _) :: (some 25, _) :: (some 26, _) :: (some 27, _) :: (some 28, _) :: (some 29, _) :: (some 30, _) :: (some 31, _) :: (some 32, _) :: (some 33, _) :: (some 34, _) :: (some 35, _) :: (some 36, _) :: (some 37, _) :: (some 38, _) :: (some 39, _) :: (some 40, _) :: (some 41, _) :: (some 42, _) :: (some 43, _) :: (some 44, _) :: (some 45, _) :: (some 46, _) :: (some 47, _) :: (some 5, _) :: []) (0 :: 0 :: 0 :: 6 :: 14 :: 30 :: 62 :: 0 :: 0 :: 256 :: 896 :: 1920 :: 3968 :: 8064 :: 16382 :: 0 :: 0 :: 65536 :: 229376 :: 491520 :: 1015808 :: 2064384 :: 4194302 :: 0 :: 0 :: 16777216 :: 58720256 :: 125829120 :: 260046848 :: 536870910 :: 1073741822 :: 2147483647 :: 4294967295 :: []) (phs [] _ [(31, _), (30, _)] _) mixed rfl rfl rfl rfl rfl
        (.cons rfl (fun ρ => PL.run 1 rfl (PL.nil rfl)) <|
        .cons rfl (fun ρ => PL.run 1 rfl (PL.nil rfl)) <|
        .cons rfl (fun ρ => PL.run 1 rfl (PL.nil rfl)) <|
        .cons rfl (fun ρ => PL.val (OpV.idx rfl rfl rfl (nat_nonneg _) (map_at' (getD_at (by omega))) rfl rfl rfl rfl) (wantV_ok rfl) rfl (PL.nil rfl)) <|
        .cons rfl (fun ρ => PL.run 1 rfl (PL.nil rfl)) <|
        .cons rfl (fun ρ => PL.run 1 rfl (PL.nil rfl)) <|
        .cons rfl (fun ρ => PL.val (OpV.shl rfl rfl rfl (by decide)) (wantV_ok rfl) rfl (PL.nil rfl)) <|
        .cons rfl (fun ρ => PL.run 1 rfl (PL.nil rfl)) <|
        .cons rfl (fun ρ => PL.run 1 rfl (PL.nil rfl)) <|
        .cons rfl (fun ρ => PL.run 1 rfl (PL.nil rfl)) <|
        .cons rfl (fun ρ => PL.val (OpV.idx rfl rfl rfl (by rw [e1]; exact nat_nonneg _) (by rw [e1]; exact map_at' (getD_at (by omega))) rfl rfl rfl rfl) (wantV_ok rfl) rfl (PL.nil rfl)) <|
        .cons rfl (fun ρ => PL.run 1 rfl (PL.nil rfl)) <|
        .cons rfl (fun ρ => PL.run 1 rfl (PL.nil rfl)) <|
        .cons rfl (fun ρ => PL.val (OpV.shl rfl rfl rfl (by decide)) (wantV_ok rfl) rfl (PL.nil rfl)) <|
        .cons rfl (fun ρ => PL.run 1 rfl (PL.nil rfl)) <|
        .cons rfl (fun ρ => PL.run 1 rfl (PL.nil rfl)) <|
        .cons rfl (fun ρ => PL.run 1 rfl (PL.nil rfl)) <|
        .cons rfl (fun ρ => PL.run 1 rfl (PL.nil rfl)) <|
        .cons rfl (fun ρ => PL.val (OpV.idx rfl rfl rfl (by rw [e2]; exact nat_nonneg _) (by rw [e2]; exact map_at' (getD_at (by omega))) rfl rfl rfl rfl) (wantV_ok rfl) rfl (PL.nil rfl)) <|
        .cons rfl (fun ρ => PL.run 1 rfl (PL.nil rfl)) <|
        .cons rfl (fun ρ => PL.run 1 rfl (PL.nil rfl)) <|
        .cons rfl (fun ρ => PL.val (OpV.shl rfl rfl rfl (by decide)) (wantV_ok rfl) rfl (PL.nil rfl)) <|
        .cons rfl (fun ρ => PL.run 1 rfl (PL.nil rfl)) <|
        .cons rfl (fun ρ => PL.run 1 rfl (PL.nil rfl)) <|
        .cons rfl (fun ρ => PL.run 1 rfl (PL.nil rfl)) <|
        .cons rfl (fun ρ => PL.run 1 rfl (PL.nil rfl)) <|
        .cons rfl (fun ρ => PL.val (OpV.idx rfl rfl rfl (by rw [e3]; exact nat_nonneg _) (by rw [e3]; exact map_at' (getD_at (by omega))) rfl rfl rfl rfl) (wantV_ok rfl) rfl (PL.nil rfl)) <|
        .cons rfl (fun ρ => PL.run 1 rfl (PL.nil rfl)) <|
        .cons rfl (fun ρ => PL.run 1 rfl (PL.nil rfl)) <|
        .cons rfl (fun ρ => PL.run 1 rfl (PL.nil rfl)) <|
        .cons rfl (fun ρ => PL.run 1 rfl (PL.nil rfl)) <|
        .cons rfl (fun ρ => PL.app rfl rfl rfl rfl rfl rfl rfl rfl rfl rfl (by simp <;> omega) (by simp <;> omega) (wantV_ok rfl) rfl (PL.nil rfl)) <|
        .cons rfl (fun ρ => PL.run 1 rfl (PL.nil rfl)) <|
        .nil _) ?_
      refine PW.region ?_
      refine PL.run 3 rfl ?_
      refine PL.nil ?_
      exact ⟨k + 1, Le.row ⟨⟨rfl, rfl⟩, ⟨rfl, rfl⟩, ⟨e4, rfl⟩, trivial⟩ rfl rfl (words_step rfl), by omega, by omega⟩
    ·
      subst h2
      refine PW.drawn ((some 48, _) :: (some 49, _) :: (some 50, _) :: (some 51, _) :: (some 52, _) :: (some 53, _) :: (some 54, _) :: (some 55, _) :: (some 56, _) :: (some 57, _) :: (some 58, _) :: (some 59, _) :: (some 60, _) :: (some 61, _) :: (some 62, _) :: (some 63, _) :: (some 64, _) :: (some 65, _) :: (some 66, _) :: (some 67, _) :: (some 68, _) :: (some 69, _) :: (some 70, _) :: (some 71, _) :: (some 72, _) :: (some 73, _) :: (some 74, _) :: (some 75, _) :: (some 76, _) :: (some 77, _) :: (some 78, _) :: (some 79, _) :: (some 5, _) :: []) (0 :: 0 :: 0 :: 4 :: 14 :: 30 :: 62 :: 126 :: 0 :: 0 :: 512 :: 1792 :: 3840 :: 7936 :: 16128 :: 32766 :: 0 :: 0 :: 131072 :: 458752 :: 983040 :: 2031616 :: 4128768 :: 8388606 :: 0 :: 0 :: 50331648 :: 117440512 :: 251658240 :: 536870910 :: 1073741822 :: 2147483647 :: 4294967295 :: []) (phs [] _ [(31, _), (30, _)] _) mixed rfl rfl rfl rfl rfl
        (.cons rfl (fun ρ => PL.run 1 rfl (PL.nil rfl)) <|
        .cons rfl (fun ρ => PL.run 1 rfl (PL.nil rfl)) <|
        .cons rfl (fun ρ => PL.run 1 rfl (PL.nil rfl)) <|
        .cons rfl (fun ρ => PL.run 1 rfl (PL.nil rfl)) <|
        .cons rfl (fun ρ => PL.val (OpV.idx rfl rfl rfl (by rw [e3]; exact nat_nonneg _) (by rw [e3]; exact map_at' (getD_at (by omega))) rfl rfl rfl rfl) (wantV_ok rfl) rfl (PL.nil rfl)) <|
        .cons rfl (fun ρ => PL.run 1 rfl (PL.nil rfl)) <|
        .cons rfl (fun ρ => PL.run 1 rfl (PL.nil rfl)) <|
        .cons rfl (fun ρ => PL.val (OpV.shl rfl rfl rfl (by decide)) (wantV_ok rfl) rfl (PL.nil rfl)) <|
        .cons rfl (fun ρ => PL.run 1 rfl (PL.nil rfl)) <|
        .cons rfl (fun ρ => PL.run 1 rfl (PL.nil rfl)) <|
        .cons rfl (fun ρ => PL.run 1 rfl (PL.nil rfl)) <|
        .cons rfl (fun ρ => PL.val (OpV.idx rfl rfl rfl (by rw [e2]; exact nat_nonneg _) (by rw [e2]; exact map_at' (getD_at (by omega))) rfl rfl rfl rfl) (wantV_ok rfl) rfl (PL.nil rfl)) <|
        .cons rfl (fun ρ => PL.run 1 rfl (PL.nil rfl)) <|
        .cons rfl (fun ρ => PL.run 1 rfl (PL.nil rfl)) <|
        .cons rfl (fun ρ => PL.val (OpV.shl rfl rfl rfl (by decide)) (wantV_ok rfl) rfl (PL.nil rfl)) <|
        .cons rfl (fun ρ => PL.run 1 rfl (PL.nil rfl)) <|
        .cons rfl (fun ρ => PL.run 1 rfl (PL.nil rfl)) <|
        .cons rfl (fun ρ => PL.run 1 rfl (PL.nil rfl)) <|
        .cons rfl (fun ρ => PL.run 1 rfl (PL.nil rfl)) <|
        .cons rfl (fun ρ => PL.val (OpV.idx rfl rfl rfl (by rw [e1]; exact nat_nonneg _) (by rw [e1]; exact map_at' (getD_at (by omega))) rfl rfl rfl rfl) (wantV_ok rfl) rfl (PL.nil rfl)) <|
        .cons rfl (fun ρ => PL.run 1 rfl (PL.nil rfl)) <|
        .cons rfl (fun ρ => PL.run 1 rfl (PL.nil rfl)) <|
        .cons rfl (fun ρ => PL.val (OpV.shl rfl rfl rfl (by decide)) (wantV_ok rfl) rfl (PL.nil rfl)) <|
        .cons rfl (fun ρ => PL.run 1 rfl (PL.nil rfl)) <|
        .cons rfl (fun ρ => PL.run 1 rfl (PL.nil rfl)) <|
        .cons rfl (fun ρ => PL.run 1 rfl (PL.nil rfl)) <|
        .cons rfl (fun ρ => PL.val (OpV.idx rfl rfl rfl (nat_nonneg _) (map_at' (getD_at (by omega))) rfl rfl rfl rfl) (wantV_ok rfl) rfl (PL.nil rfl)) <|
        .cons rfl (fun ρ => PL.run 1 rfl (PL.nil rfl)) <|
        .cons rfl (fun ρ => PL.run 1 rfl (PL.nil rfl)) <|
        .cons rfl (fun ρ => PL.run 1 rfl (PL.nil rfl)) <|
        .cons rfl (fun ρ => PL.run 1 rfl (PL.nil rfl)) <|
        .cons rfl (fun ρ => PL.app rfl rfl rfl rfl rfl rfl rfl rfl rfl rfl (by simp <;> omega) (by simp <;> omega) (wantV_ok rfl) rfl (PL.nil rfl)) <|
        .cons rfl (fun ρ => PL.run 1 rfl (PL.nil rfl)) <|
        .nil _) ?_
      refine PW.region ?_
      refine PL.run 3 rfl ?_
      refine PL.nil ?_
      exact ⟨k + 1, Le.row ⟨⟨rfl, rfl⟩, ⟨rfl, rfl⟩, ⟨e4, rfl⟩, trivial⟩ rfl rfl (words_step rfl), by omega, by omega⟩
  ·
    have hge : k = b.length / 4 := by
     have := of_decide_eq_false h1
     rw [e3] at this
     simp at this
     omega
    refine PW.exit ?_
    refine PW.seq ?_
    refine PW.region ?_
    refine PL.run 2 rfl ?_
    refine PL.nil ?_
    refine PW.ret ?_
    refine RetOk.of rfl (.one (.leaf (.row _ _ 7 τ rfl))) (by simp) (by simp) ?_
    subst hge; rfl
theorem spec_Words_ro (b : List UInt8) (g : Bool) (hb : b.length ≤ 1099511627776) : Pw.Spec Tryz.prog 136 [eBs b, eT g] (fun p => p = .sl 1 ((wordsL g b).map eI1) none) :=
  (spec_Words_spec b g hb 0).weak fun p hp => ⟨_, rfl, by subst hp; exact .row _ _ _, rfl⟩
theorem spec_Great_ro (n many : Int) (hn : n < 9223372036854775808) : Pw.Spec Tryz.prog 132 [eI n, eI many] (fun p => p = eBs (great n many)) :=
  (spec_Great_spec n many hn 0).weak fun p hp => ⟨_, rfl, by subst hp; exact .row _ _ _, rfl⟩
def itemOf (l : Line) : Item := ⟨l.route, l.topic, l.due, l.bytes⟩
/- spec.l14Item -/
theorem spec_l14Item_spec (l : Line) (h : l.bytes.length ≤ 16777216) : Pw.Spec Tryz.prog 140 [.agg (eLine l)] (fun res_ => res_ = .agg (eItem (itemOf l))) := by
  refine spec_of (n := 14) Tryz.call140 Tryz.func140 rfl rfl (by simp) rfl rfl fun W Z => ?_
  refine PW.seq ?_
  refine PW.region ?_
  refine PL.run 2 rfl ?_
  refine PL.nil ?_
  refine PW.seq ?_
  refine PW.drawn ((some 3, _) :: (some 4, _) :: (some 5, _) :: (some 6, _) :: (some 7, _) :: (some 8, _) :: (some 9, _) :: (some 10, _) :: (some 11, _) :: (some 12, _) :: (some 13, _) :: (none, .junk) :: []) (0 :: 1 :: 0 :: 4 :: 0 :: 16 :: 0 :: 0 :: 128 :: 448 :: 1023 :: 2047 :: []) (phs [(11, _)] _ [(9, _), (6, _)] _) mixed rfl rfl rfl rfl rfl
    (.cons rfl (fun ρ => PL.run 1 rfl (PL.nil rfl)) <|
    .cons rfl (fun ρ => PL.run 1 rfl (PL.nil rfl)) <|
    .cons rfl (fun ρ => PL.run 1 rfl (PL.nil rfl)) <|
    .cons rfl (fun ρ => PL.run 1 rfl (PL.nil rfl)) <|
    .cons rfl (fun ρ => PL.run 1 rfl (PL.nil rfl)) <|
    .cons rfl (fun ρ => PL.run 1 rfl (PL.nil rfl)) <|
    .cons rfl (fun ρ => PL.run 1 rfl (PL.nil rfl)) <|
    .cons rfl (fun ρ => PL.run 1 rfl (PL.nil rfl)) <|
    .cons rfl (fun ρ => PL.run 1 rfl (PL.nil rfl)) <|
    .cons rfl (fun ρ => PL.app rfl rfl rfl rfl rfl rfl rfl rfl rfl rfl (by simp <;> omega) (by simp <;> omega) (wantV_ok rfl) rfl (PL.nil rfl)) <|
    .cons rfl (fun ρ => PL.val (OpV.build rfl rfl rfl rfl rfl rfl) (wantV_ok rfl) rfl (PL.nil rfl)) <|
    .cons rfl (fun ρ => PL.run 1 rfl (PL.nil rfl)) <|
    .nil _) ?_
  refine PW.ret ?_
  refine RetOk.of rfl (.one (.agg (.cons (.same _ rfl) (.cons (.same _ rfl) (.cons (.same _ rfl) (.cons (.ro _ _ _) .nil)))))) (by simp) (by simp) ?_
  simp [eItem, eBs, itemOf]
def noText : ByteArray := { data := #[] }
def lineOk (l : Line) : Bool :=
  if l.kind = 1 then itemOk (itemOf l)
  else if l.kind = 2 then isRoute l.route && (decide (l.topic = 0) && (decide (l.due = 0) && decide (l.bytes.length = 0)))
  else if l.kind = 3 then decide (l.route = noText) && (decide (l.topic = 0) && (inB l.due 0 100000 && decide (l.bytes.length = 0)))
  else false
/- spec.LineOk -/
theorem spec_LineOk_spec (l : Line) (h : l.bytes.length ≤ 16777216) (hs : l.route.size ≤ 1099511627776) : Pw.Spec Tryz.prog 159 [.agg (eLine l)] (fun res_ => res_ = eT (lineOk l)) := by
  refine spec_of (n := 52) Tryz.call159 Tryz.func159 rfl rfl (by simp) rfl rfl fun W Z => ?_
  refine PW.seq ?_
  refine PW.region ?_
  refine PL.run 2 rfl ?_
  refine PL.nil ?_
  refine PW.seq ?_
  refine PW.seq ?_
  refine PW.region ?_
  refine PL.run 2 rfl ?_
  refine PL.nil ?_
  refine PW.block ?_
  refine PW.seq ?_
  refine PW.region ?_
  refine PL.run 2 rfl ?_
  refine PL.nil ?_
  refine PW.cond rfl (fun h1 => ?_) (fun h1 => ?_)
  ·
    refine PW.seq ?_
    refine PW.region ?_
    refine PL.run 1 rfl ?_
    refine PL.call rfl rfl rfl (spec_l14Item_spec l h) (.cons (.refl _) <| .nil) (fun p hp => by subst hp; rfl) (wantV_ok rfl) rfl (fun p hp => ?_)
    subst hp
    refine PL.call rfl rfl rfl (spec_ItemOk_spec (itemOf l) hs) (.cons (.refl _) <| .nil) (fun p hp => by subst hp; rfl) (wantV_ok rfl) rfl (fun p hp => ?_)
    subst hp
    refine PL.run 1 rfl ?_
    refine PL.nil ?_
    refine PW.ret ?_
    refine RetOk.free rfl rfl ?_
    simp_all [lineOk, noText]
  ·
    refine PW.seq ?_
    refine PW.region ?_
    refine PL.run 2 rfl ?_
    refine PL.nil ?_
    refine PW.cond rfl (fun h2 => ?_) (fun h2 => ?_)
    ·
      refine PW.seq ?_
      refine PW.region ?_
      refine PL.run 2 rfl ?_
      refine PL.call rfl rfl rfl (spec_l13Route_spec l.route hs) (.cons (.refl _) <| .nil) (fun p hp => by subst hp; rfl) (wantV_ok rfl) rfl (fun p hp => ?_)
      subst hp
      refine PL.run 1 rfl ?_
      refine PL.split (t := 15) rfl (fun h3 => ?_) (fun h3 => ?_)
      ·
        refine PL.run 5 rfl ?_
        refine PL.split (t := 20) rfl (fun h4 => ?_) (fun h4 => ?_)
        ·
          refine PL.run 5 rfl ?_
          refine PL.split (t := 25) rfl (fun h5 => ?_) (fun h5 => ?_)
          ·
            refine PL.run 6 rfl ?_
            refine PL.nil ?_
            refine PW.ret ?_
            refine RetOk.free rfl rfl ?_
            simp_all [lineOk, noText]
          ·
            refine PL.run 6 rfl ?_
            refine PL.nil ?_
            refine PW.ret ?_
            refine RetOk.free rfl rfl ?_
            simp_all [lineOk, noText]
        ·
          refine PL.run 11 rfl ?_
          refine PL.nil ?_
          refine PW.ret ?_
          refine RetOk.free rfl rfl ?_
          simp_all [lineOk, noText]
      ·
        refine PL.run 16 rfl ?_
        refine PL.nil ?_
        refine PW.ret ?_
        refine RetOk.free rfl rfl ?_
        simp_all [lineOk, noText]
    ·
      refine PW.seq ?_
      refine PW.region ?_
      refine PL.run 2 rfl ?_
      refine PL.nil ?_
      refine PW.cond rfl (fun h6 => ?_) (fun h6 => ?_)
      ·
        refine PW.seq ?_
        refine PW.region ?_
        refine PL.run 4 rfl ?_
        refine PL.split (t := 36) rfl (fun h7 => ?_) (fun h7 => ?_)
        ·
          refine PL.run 5 rfl ?_
          refine PL.split (t := 41) rfl (fun h8 => ?_) (fun h8 => ?_)
          ·
            refine PL.run 2 rfl ?_
            refine PL.call rfl rfl rfl (spec_l1In_spec l.due 0 100000) (.cons (.refl _) <| .cons (.refl _) <| .cons (.refl _) <| .nil) (fun p hp => by subst hp; rfl) (wantV_ok rfl) rfl (fun p hp => ?_)
            subst hp
            refine PL.run 2 rfl ?_
            refine PL.split (t := 46) rfl (fun h9 => ?_) (fun h9 => ?_)
            ·
              refine PL.run 6 rfl ?_
              refine PL.nil ?_
              refine PW.ret ?_
              refine RetOk.free rfl rfl ?_
              simp_all [lineOk, noText]
            ·
              refine PL.run 6 rfl ?_
              refine PL.nil ?_
              refine PW.ret ?_
              refine RetOk.free rfl rfl ?_
              simp_all [lineOk, noText]
          ·
            refine PL.run 11 rfl ?_
            refine PL.nil ?_
            refine PW.ret ?_
            refine RetOk.free rfl rfl ?_
            simp_all [lineOk, noText]
        ·
          refine PL.run 16 rfl ?_
          refine PL.nil ?_
          refine PW.ret ?_
          refine RetOk.free rfl rfl ?_
          simp_all [lineOk, noText]
      ·
        refine PW.skip ?_
        refine PW.seq ?_
        refine PW.region ?_
        refine PL.run 1 rfl ?_
        refine PL.nil ?_
        refine PW.ret ?_
        refine RetOk.free rfl rfl ?_
        simp_all [lineOk, noText]
end Go.Wl
