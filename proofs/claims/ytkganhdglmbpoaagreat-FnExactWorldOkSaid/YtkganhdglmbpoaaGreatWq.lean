/- The walks, sixteenth text: bytes joined; lines as bytes (the program's). -/
import Derived.Test.YtkganhdglmbpoaaGreatWp
set_option linter.unusedVariables false
set_option linter.unusedSimpArgs false
set_option maxRecDepth 100000
set_option maxHeartbeats 8000000
namespace Go.Wl
open Go Go.RowKit Go.Pw Go.Proofs
theorem nz_run : ∀ (args : Array Value) W, (callFunc 164 args).run Tryz.prog W = ((Extern.BytealgMakeNoZero.makeNoZero #[3] #[22] args).run Tryz.prog W).andThen fun v w' => .ok (.value v) w' := fun args W =>
  run_callFunc_extern Tryz.func164 (by kernel_rfl) (by kernel_rfl) (by kernel_rfl) (e := Extern.BytealgMakeNoZero.makeNoZero #[3] #[22]) (by kernel_rfl) args W
theorem eb_one (l : List UInt8) : ∀ e ∈ l.map eb, e.length = 1 := fun e he => by obtain ⟨b, _, rfl⟩ := List.mem_map.1 he; rfl
def joinC (parts : List (List UInt8)) (cap k : Nat) : List PV := ((parts.take k).flatten.map eb).flatten ++ List.replicate (cap - (parts.take k).flatten.length) .junk
theorem joinC_free (parts : List (List UInt8)) (cap k : Nat) : freeL (joinC parts cap k) = true := by
  rw [joinC, freeL_append, eb_free, freeL_junk]; rfl
theorem tf_step {parts : List (List UInt8)} {k : Nat} {x : List UInt8} (hx : parts[k]? = some x) : (parts.take (k + 1)).flatten = (parts.take k).flatten ++ x := by
  rw [take_step hx]; simp
theorem tf_le (parts : List (List UInt8)) (k : Nat) : (parts.take k).flatten.length ≤ parts.flatten.length := by
  conv => rhs; rw [← List.take_append_drop k parts]
  rw [List.flatten_append, List.length_append]; omega
theorem joinC_len {parts : List (List UInt8)} {cap k : Nat} (h : (parts.take k).flatten.length ≤ cap) : (joinC parts cap k).length = cap := by
  rw [joinC, List.length_append, eb_len, List.length_replicate]; omega
theorem joinC_start {parts : List (List UInt8)} {cap : Nat} {x : List UInt8} (hx : parts[0]? = some x) (h : parts.flatten.length ≤ cap) : writeC (List.replicate cap .junk) 0 (x.map eb).flatten = joinC parts cap 1 := by
  have h1 := tf_le parts 1
  have e := tf_step hx
  simp only [List.take_zero, List.flatten_nil, List.nil_append] at e
  have := writeC_rep (pre := []) (l := (x.map eb).flatten) (off := 0) (k := cap) (q := .junk) rfl (by rw [eb_len]; rw [e] at h1; omega)
  rw [List.nil_append, List.nil_append] at this
  rw [this, joinC, e, eb_len]
theorem joinC_step {parts : List (List UInt8)} {cap k o1 o2 : Nat} {x : List UInt8} (hx : parts[k]? = some x) (h : parts.flatten.length ≤ cap) (ho : o2 = (parts.take k).flatten.length ∨ x = []) : writeC (writeC (joinC parts cap k) o1 []) o2 (x.map eb).flatten = joinC parts cap (k + 1) := by
  have h1 := tf_le parts (k + 1)
  have e := tf_step hx
  rw [writeC_nil]
  rcases ho with rfl | rfl
  · rw [joinC, writeC_rep (eb_len _) (by rw [eb_len]; rw [e, List.length_append] at h1; omega), joinC, e, List.map_append, List.flatten_append, eb_len, List.length_append]
    congr 2; omega
  · rw [List.append_nil] at e
    simp only [List.map_nil, List.flatten_nil, writeC_nil]
    rw [joinC, joinC, e]
theorem rest_at {parts : List (List UInt8)} {i : Nat} {y : List UInt8} (h : parts[i + 1]? = some y) : (((parts.map eBss1).take (parts.map eBss1).length).drop 1)[((i : Nat) : Int).toNat]? = some (eBss1 y) := by
  rw [List.take_length, Int.toNat_natCast, List.getElem?_drop, Nat.add_comm, List.getElem?_map, h]; rfl
/- bytes.Join -/
theorem bytes_Join_spec (parts : List (List UInt8)) (h2 : 2 ≤ parts.length) (hp : parts.length ≤ 16777216) (hf : parts.flatten.length ≤ 16777216) (τ : Nat) : Pw.Spec Tryz.prog 156 [eBss parts, .lit (.slice none 0 0)] (fun res_ => res_ = .sl 1 (parts.flatten.map eb) (some τ)) := by
  refine spec_of (n := 92) Tryz.call156 Tryz.func156 rfl rfl (by simp) rfl rfl fun W Z => ?_
  have hml : (parts.map eBss1).length = parts.length := List.length_map ..
  refine PW.seq ?_
  refine PW.region ?_
  refine PL.run 1 rfl ?_
  refine PL.nil ?_
  refine PW.seq ?_
  refine PW.seq ?_
  refine PW.region ?_
  refine PL.run 3 rfl ?_
  refine PL.nil ?_
  refine PW.cond rfl (fun h1 => ?_) (fun h1 => ?_)
  ·
    exact absurd (of_decide_eq_true h1) (by rw [List.length_map]; omega)
  ·
    refine PW.skip ?_
    refine PW.seq ?_
    refine PW.seq ?_
    refine PW.region ?_
    refine PL.run 3 rfl ?_
    refine PL.nil ?_
    refine PW.cond rfl (fun h2 => ?_) (fun h2 => ?_)
    ·
      exact absurd (of_decide_eq_true h2) (by rw [List.length_map]; omega)
    ·
      refine PW.skip ?_
      refine PW.seq ?_
      refine PW.region ?_
      refine PL.run 1 rfl ?_
      refine PL.nil ?_
      refine PW.seq ?_
      refine PW.seq ?_
      refine PW.region ?_
      refine PL.run 3 rfl ?_
      refine PL.nil ?_
      refine PW.cond rfl (fun h3 => ?_) (fun h3 => ?_)
      ·
        exact absurd h3 (by decide)
      ·
        refine PW.skip ?_
        refine PW.seq ?_
        refine PW.seq ?_
        refine PW.region ?_
        refine PL.run 3 rfl ?_
        refine PL.nil ?_
        refine PW.block ?_
        refine PW.loopAt (α := Nat) (fun i => ⟨[(42, eBss parts), (43, eI ((parts.map eBss1).length : Nat)), (0, eBss parts), (1, .lit (.slice none 0 0)), (5, eI ((parts.take i).flatten.length : Nat)), (44, eI (i : Int))], PH.none⟩) (fun i => i ≤ parts.length) (fun i => parts.length - i) 0 Le.free (Nat.zero_le _) (fun i hi => ?_)
        have hS := tf_le parts i
        refine PW.seq ?_
        refine PW.region ?_
        refine PL.run 1 rfl ?_
        refine PL.nil ?_
        refine PW.seq ?_
        refine PW.cond rfl (fun h4 => ?_) (fun h4 => ?_)
        ·
          have hlt : i < parts.length := by simpa using h4
          clear h1 h2 h3 h4
          obtain ⟨x, hx⟩ : ∃ y, parts[i]? = some y := ⟨_, List.getElem?_eq_getElem hlt⟩
          have hS2 := tf_le parts (i + 1)
          rw [tf_step hx, List.length_append] at hS2
          refine PW.skip ?_
          refine PW.seq ?_
          refine PW.block ?_
          refine PW.seq ?_
          refine PW.region ?_
          refine PL.val (OpV.idx rfl rfl rfl (nat_nonneg i) (map_at' hx) rfl rfl rfl rfl) (wantV_ok rfl) rfl ?_
          refine PL.run 2 rfl ?_
          refine PL.nil ?_
          refine PW.seq ?_
          refine PW.seq ?_
          refine PW.region ?_
          refine PL.run 5 rfl ?_
          refine PL.nil ?_
          refine PW.cond rfl (fun h5 => ?_) (fun h5 => ?_)
          ·
            exact absurd (of_decide_eq_true h5) (by rw [List.length_map, wrap_id (by omega) (by omega)]; omega)
          ·
            refine PW.skip ?_
            refine PW.region ?_
            refine PL.run 5 rfl ?_
            refine PL.nil ?_
            refine PW.region ?_
            refine PL.run 2 rfl ?_
            refine PL.nil ?_
            refine ⟨i + 1, Le.free ⟨⟨rfl, rfl⟩, ⟨rfl, rfl⟩, ⟨rfl, rfl⟩, ⟨rfl, rfl⟩, ⟨congrArg (fun n => some (eI n)) ?_, rfl⟩, ⟨inc_ok (by omega), rfl⟩, trivial⟩, hlt, by omega⟩
            rw [List.length_map, tf_step hx, List.length_append, wrap_id (by omega) (by omega)]; omega
        ·
          have hge : i = parts.length := Nat.le_antisymm hi (by simpa using h4)
          clear h1 h2 h3 h4
          obtain ⟨x0, h0⟩ : ∃ y, parts[0]? = some y := ⟨_, List.getElem?_eq_getElem (by omega)⟩
          have hT : (parts.take i).flatten.length = parts.flatten.length := by rw [hge, List.take_length]
          have hS1 := tf_le parts 1
          have e0 := tf_step h0
          simp only [List.take_zero, List.flatten_nil, List.nil_append] at e0
          refine PW.exit ?_
          refine PW.seq ?_
          refine PW.region ?_
          refine PL.run 1 rfl ?_
          refine PL.noZero (n := (parts.take i).flatten.length) rfl rfl rfl rfl nz_run rfl rfl (by omega) rfl (wantV_ok rfl) rfl (fun cap hc1 hc2 => ?_)
          refine PL.run 2 rfl ?_
          refine PL.val (OpV.cutB0 rfl rfl rfl rfl rfl rfl rfl rfl (Nat.le_refl _) hc1) (wantV_ok rfl) rfl ?_
          refine PL.run 1 rfl ?_
          refine PL.nil ?_
          refine PW.seq ?_
          refine PW.region ?_
          refine PL.run 2 rfl ?_
          refine PL.val (OpV.idx rfl rfl rfl (Int.le_refl 0) (map_at h0) rfl rfl rfl rfl) (wantV_ok rfl) rfl ?_
          refine PL.run 1 rfl ?_
          refine PL.copyB (new := x0.map eb) rfl rfl rfl rfl rfl rfl rfl rfl (by rw [List.length_map]; rw [e0] at hS1; omega) (by rw [eb_len, List.length_replicate]; rw [e0] at hS1; omega) (wantV_ok rfl) rfl ?_
          refine PL.run 1 rfl ?_
          refine PL.nil ?_
          refine PW.seq ?_
          refine PW.seq ?_
          refine PW.region ?_
          refine PL.run 1 rfl ?_
          refine PL.val (OpV.cut rfl rfl rfl rfl rfl rfl (l := 1) (h := (parts.map eBss1).length) rfl rfl (by omega) (Nat.le_refl _)) (wantV_ok rfl) rfl ?_
          refine PL.run 2 rfl ?_
          refine PL.nil ?_
          refine PW.block ?_
          refine PW.loopAt (α := Nat) (fun k => ⟨[(70, .sl 1 (((parts.map eBss1).take (parts.map eBss1).length).drop 1) none), (71, eI ((((parts.map eBss1).take (parts.map eBss1).length).drop 1).length : Nat)), (72, eI (k : Int)), (9, eI ((parts.take (k + 1)).flatten.length : Nat)), (8, .bs 60 0 (parts.take i).flatten.length (parts.take i).flatten.length), (1, .lit (.slice none 0 0))], ⟨[(60, (5, joinC parts cap (k + 1)))], []⟩⟩) (fun k => k + 1 ≤ parts.length) (fun k => parts.length - k) 0 (Le.boxes ⟨⟨congrArg (fun c => some (_, c)) (joinC_start h0 (by omega)), joinC_free _ _ _⟩, trivial⟩ ⟨⟨rfl, rfl⟩, ⟨rfl, rfl⟩, ⟨rfl, rfl⟩, ⟨congrArg (fun n => some (eI n)) (by rw [e0, List.length_map]), rfl⟩, ⟨rfl, rfl⟩, ⟨rfl, rfl⟩, trivial⟩) (by omega) (fun k hk => ?_)
          have hB := tf_le parts (k + 1)
          refine PW.seq ?_
          refine PW.region ?_
          refine PL.run 1 rfl ?_
          refine PL.nil ?_
          refine PW.seq ?_
          refine PW.cond rfl (fun h6 => ?_) (fun h6 => ?_)
          ·
            have hlt : k + 1 < parts.length := by simp at h6; omega
            clear h6
            obtain ⟨y, hy⟩ : ∃ y, parts[k + 1]? = some y := ⟨_, List.getElem?_eq_getElem hlt⟩
            have hB2 := tf_le parts (k + 1 + 1)
            have ey := tf_step hy
            rw [ey, List.length_append] at hB2
            have e9 : Eqq (IntKind.i64.wrap (((parts.take (k + 1)).flatten.length : Nat) + (([] : List (List PV)).length : Nat) : Int)) ((parts.take (k + 1)).flatten.length : Nat) := ⟨by rw [List.length_nil, wrap_id (by omega) (by omega)]; omega⟩
            have hlen := joinC_len (parts := parts) (cap := cap) (k := k + 1) (by omega)
            refine PW.skip ?_
            refine PW.seq ?_
            refine PW.block ?_
            refine PW.seq ?_
            refine PW.region ?_
            refine PL.val (OpV.idx rfl rfl rfl (nat_nonneg k) (rest_at hy) rfl rfl rfl rfl) (wantV_ok rfl) rfl ?_
            refine PL.run 2 rfl ?_
            refine PL.nil ?_
            refine PW.seq ?_
            refine PW.region ?_
            refine PL.run 3 rfl ?_
            refine PL.val (OpV.cutB (l := (parts.take (k + 1)).flatten.length) (h := (parts.take i).flatten.length) (c' := (parts.take i).flatten.length) rfl rfl rfl rfl rfl rfl rfl rfl rfl (by omega) (Nat.le_refl _) (Nat.le_refl _)) (wantV_ok rfl) rfl ?_
            refine PL.run 1 rfl ?_
            refine PL.copyB (new := []) rfl rfl rfl rfl rfl rfl rfl rfl (Nat.zero_le _) (by rw [hlen]; simp only [List.flatten_nil, List.length_nil]; split <;> (try simp only [Nat.zero_add, Nat.mul_one]) <;> omega) (wantV_ok rfl) rfl ?_
            refine PL.run 2 rfl ?_
            refine PL.nil ?_
            refine PW.region ?_
            refine PL.run 3 rfl ?_
            refine PL.val (OpV.cutB (l := (parts.take (k + 1)).flatten.length) (h := (parts.take i).flatten.length) (c' := (parts.take i).flatten.length) rfl rfl rfl rfl rfl (eqS e9) rfl rfl rfl (by omega) (Nat.le_refl _) (Nat.le_refl _)) (wantV_ok rfl) rfl ?_
            refine PL.run 1 rfl ?_
            refine PL.copyB (new := y.map eb) rfl rfl rfl rfl rfl rfl rfl rfl (by rw [List.length_map]; omega) (by rw [List.flatten_nil, writeC_nil, hlen, eb_len]; split <;> (try simp only [Nat.zero_add, Nat.mul_one]) <;> omega) (wantV_ok rfl) rfl ?_
            refine PL.run 2 rfl ?_
            refine PL.nil ?_
            refine PW.region ?_
            refine PL.run 2 rfl ?_
            refine PL.nil ?_
            refine ⟨k + 1, Le.boxes ⟨⟨congrArg (fun c => some (_, c)) (joinC_step hy (by omega) ?_), joinC_free _ _ _⟩, trivial⟩ ⟨⟨rfl, rfl⟩, ⟨rfl, rfl⟩, ⟨inc_ok (by omega), rfl⟩, ⟨congrArg (fun n => some (eI n)) ?_, rfl⟩, ⟨rfl, rfl⟩, ⟨rfl, rfl⟩, trivial⟩, hlt, by omega⟩
            · by_cases hy0 : y = []
              · exact .inr hy0
              · have : 0 < y.length := List.length_pos_iff.2 hy0
                exact .inl (by rw [if_neg (by omega)]; simp)
            · rw [e9.h, List.length_map, ey, List.length_append, wrap_id (by omega) (by omega)]; omega
          ·
            refine PW.exit ?_
            refine PW.seq ?_
            refine PW.region ?_
            refine PL.run 2 rfl ?_
            refine PL.nil ?_
            have hge2 : k + 1 = parts.length := by simp at h6; omega
            have hfull : joinC parts cap (k + 1) = (parts.flatten.map eb).flatten ++ List.replicate (cap - parts.flatten.length) .junk := by rw [joinC, hge2, List.take_length]
            refine PW.le (Le.boxRow (tv := 4) (τ := 7) (sz := 1) (es := parts.flatten.map eb) (r := List.replicate (cap - parts.flatten.length) .junk) (e := []) rfl rfl (joinC_free _ _ _) hfull (by rw [List.length_map, hT]) (eb_one _) (Nat.le_refl _) (by omega) (by rw [joinC_len (by omega)]; omega)) ?_
            refine PW.ret ?_
            refine RetOk.of rfl (.one (.leaf (.row _ _ 7 τ (by rw [List.length_map, hT]; rfl)))) (by simp) (by simp) rfl
/- impl.joined -/
theorem impl_joined_spec (parts : List (List UInt8)) (h2 : 2 ≤ parts.length) (hp : parts.length ≤ 16777216) (hf : parts.flatten.length ≤ 16777216) (τ : Nat) : Pw.Spec Tryz.prog 133 [eBss parts] (fun res_ => res_ = .sl 1 (parts.flatten.map eb) (some τ)) := by
  refine spec_of (n := 5) Tryz.call133 Tryz.func133 rfl rfl (by simp) rfl rfl fun W Z => ?_
  refine PW.seq ?_
  refine PW.region ?_
  refine PL.run 1 rfl ?_
  refine PL.nil ?_
  refine PW.seq ?_
  refine PW.region ?_
  refine PL.run 1 rfl ?_
  refine PL.call rfl rfl rfl (bytes_Join_spec parts h2 hp hf 7) (.cons (.refl _) <| .cons (.refl _) <| .nil) (fun p hp => by subst hp; rfl) (wantV_ok rfl) rfl (fun p hp => ?_)
  subst hp
  refine PL.run 1 rfl ?_
  refine PL.nil ?_
  refine PW.ret ?_
  refine RetOk.of rfl (.one (.leaf (.row _ _ 7 τ rfl))) (by simp) (by simp) rfl
/- impl.wordOf -/
theorem impl_wordOf_spec (b : List UInt8) (g : Bool) (hb : 4 ≤ b.length) : Pw.Spec Tryz.prog 145 [eBs b, eT g] (fun res_ => res_ = eI (wordAt g b 0)) := by
  refine spec_of (n := 50) Tryz.call145 Tryz.func145 rfl rfl (by simp) rfl rfl fun W Z => ?_
  refine PW.seq ?_
  refine PW.region ?_
  refine PL.run 1 rfl ?_
  refine PL.nil ?_
  refine PW.seq ?_
  refine PW.seq ?_
  refine PW.region ?_
  refine PL.run 1 rfl ?_
  refine PL.nil ?_
  refine PW.cond rfl (fun h1 => ?_) (fun h1 => ?_)
  ·
    subst h1
    refine PW.seq ?_
    refine PW.drawn ((some 6, _) :: (some 7, _) :: (some 8, _) :: (some 9, _) :: (some 10, _) :: (some 11, _) :: (some 12, _) :: (some 13, _) :: (some 14, _) :: (some 15, _) :: (some 16, _) :: (some 17, _) :: (some 18, _) :: (some 19, _) :: (some 20, _) :: (some 21, _) :: (some 22, _) :: (some 23, _) :: (some 24, _) :: (some 25, _) :: (some 26, _) :: (some 27, _) :: (some 4, _) :: []) (0 :: 1 :: 3 :: 7 :: 15 :: 0 :: 32 :: 96 :: 224 :: 480 :: 1023 :: 0 :: 2048 :: 6144 :: 14336 :: 30720 :: 65535 :: 0 :: 131072 :: 393216 :: 917504 :: 2097151 :: 4194303 :: []) (fun _ => _) mixed rfl rfl rfl rfl rfl
      (.cons rfl (fun ρ => PL.run 1 rfl (PL.nil rfl)) <|
      .cons rfl (fun ρ => PL.val (OpV.idx rfl rfl rfl (by decide) (map_at (getD_at (by simp <;> omega))) rfl rfl rfl rfl) (wantV_ok rfl) rfl (PL.nil rfl)) <|
      .cons rfl (fun ρ => PL.run 1 rfl (PL.nil rfl)) <|
      .cons rfl (fun ρ => PL.run 1 rfl (PL.nil rfl)) <|
      .cons rfl (fun ρ => PL.val (OpV.shl rfl rfl rfl (by decide)) (wantV_ok rfl) rfl (PL.nil rfl)) <|
      .cons rfl (fun ρ => PL.run 1 rfl (PL.nil rfl)) <|
      .cons rfl (fun ρ => PL.val (OpV.idx rfl rfl rfl (by decide) (map_at (getD_at (by simp <;> omega))) rfl rfl rfl rfl) (wantV_ok rfl) rfl (PL.nil rfl)) <|
      .cons rfl (fun ρ => PL.run 1 rfl (PL.nil rfl)) <|
      .cons rfl (fun ρ => PL.run 1 rfl (PL.nil rfl)) <|
      .cons rfl (fun ρ => PL.val (OpV.shl rfl rfl rfl (by decide)) (wantV_ok rfl) rfl (PL.nil rfl)) <|
      .cons rfl (fun ρ => PL.run 1 rfl (PL.nil rfl)) <|
      .cons rfl (fun ρ => PL.run 1 rfl (PL.nil rfl)) <|
      .cons rfl (fun ρ => PL.val (OpV.idx rfl rfl rfl (by decide) (map_at (getD_at (by simp <;> omega))) rfl rfl rfl rfl) (wantV_ok rfl) rfl (PL.nil rfl)) <|
      .cons rfl (fun ρ => PL.run 1 rfl (PL.nil rfl)) <|
      .cons rfl (fun ρ => PL.run 1 rfl (PL.nil rfl)) <|
      .cons rfl (fun ρ => PL.val (OpV.shl rfl rfl rfl (by decide)) (wantV_ok rfl) rfl (PL.nil rfl)) <|
      .cons rfl (fun ρ => PL.run 1 rfl (PL.nil rfl)) <|
      .cons rfl (fun ρ => PL.run 1 rfl (PL.nil rfl)) <|
      .cons rfl (fun ρ => PL.val (OpV.idx rfl rfl rfl (by decide) (map_at (getD_at (by simp <;> omega))) rfl rfl rfl rfl) (wantV_ok rfl) rfl (PL.nil rfl)) <|
      .cons rfl (fun ρ => PL.run 1 rfl (PL.nil rfl)) <|
      .cons rfl (fun ρ => PL.run 1 rfl (PL.nil rfl)) <|
      .cons rfl (fun ρ => PL.run 1 rfl (PL.nil rfl)) <|
      .cons rfl (fun ρ => PL.run 1 rfl (PL.nil rfl)) <|
      .nil _) ?_
    refine PW.ret ?_
    refine RetOk.free rfl rfl rfl
  ·
    subst h1
    refine PW.skip ?_
    refine PW.seq ?_
    refine PW.drawn ((some 28, _) :: (some 29, _) :: (some 30, _) :: (some 31, _) :: (some 32, _) :: (some 33, _) :: (some 34, _) :: (some 35, _) :: (some 36, _) :: (some 37, _) :: (some 38, _) :: (some 39, _) :: (some 40, _) :: (some 41, _) :: (some 42, _) :: (some 43, _) :: (some 44, _) :: (some 45, _) :: (some 46, _) :: (some 47, _) :: (some 48, _) :: (some 49, _) :: (some 4, _) :: []) (0 :: 1 :: 3 :: 7 :: 15 :: 0 :: 32 :: 96 :: 224 :: 480 :: 1023 :: 0 :: 2048 :: 6144 :: 14336 :: 30720 :: 65535 :: 0 :: 131072 :: 393216 :: 917504 :: 2097151 :: 4194303 :: []) (fun _ => _) mixed rfl rfl rfl rfl rfl
      (.cons rfl (fun ρ => PL.run 1 rfl (PL.nil rfl)) <|
      .cons rfl (fun ρ => PL.val (OpV.idx rfl rfl rfl (by decide) (map_at (getD_at (by simp <;> omega))) rfl rfl rfl rfl) (wantV_ok rfl) rfl (PL.nil rfl)) <|
      .cons rfl (fun ρ => PL.run 1 rfl (PL.nil rfl)) <|
      .cons rfl (fun ρ => PL.run 1 rfl (PL.nil rfl)) <|
      .cons rfl (fun ρ => PL.val (OpV.shl rfl rfl rfl (by decide)) (wantV_ok rfl) rfl (PL.nil rfl)) <|
      .cons rfl (fun ρ => PL.run 1 rfl (PL.nil rfl)) <|
      .cons rfl (fun ρ => PL.val (OpV.idx rfl rfl rfl (by decide) (map_at (getD_at (by simp <;> omega))) rfl rfl rfl rfl) (wantV_ok rfl) rfl (PL.nil rfl)) <|
      .cons rfl (fun ρ => PL.run 1 rfl (PL.nil rfl)) <|
      .cons rfl (fun ρ => PL.run 1 rfl (PL.nil rfl)) <|
      .cons rfl (fun ρ => PL.val (OpV.shl rfl rfl rfl (by decide)) (wantV_ok rfl) rfl (PL.nil rfl)) <|
      .cons rfl (fun ρ => PL.run 1 rfl (PL.nil rfl)) <|
      .cons rfl (fun ρ => PL.run 1 rfl (PL.nil rfl)) <|
      .cons rfl (fun ρ => PL.val (OpV.idx rfl rfl rfl (by decide) (map_at (getD_at (by simp <;> omega))) rfl rfl rfl rfl) (wantV_ok rfl) rfl (PL.nil rfl)) <|
      .cons rfl (fun ρ => PL.run 1 rfl (PL.nil rfl)) <|
      .cons rfl (fun ρ => PL.run 1 rfl (PL.nil rfl)) <|
      .cons rfl (fun ρ => PL.val (OpV.shl rfl rfl rfl (by decide)) (wantV_ok rfl) rfl (PL.nil rfl)) <|
      .cons rfl (fun ρ => PL.run 1 rfl (PL.nil rfl)) <|
      .cons rfl (fun ρ => PL.run 1 rfl (PL.nil rfl)) <|
      .cons rfl (fun ρ => PL.val (OpV.idx rfl rfl rfl (by decide) (map_at (getD_at (by simp <;> omega))) rfl rfl rfl rfl) (wantV_ok rfl) rfl (PL.nil rfl)) <|
      .cons rfl (fun ρ => PL.run 1 rfl (PL.nil rfl)) <|
      .cons rfl (fun ρ => PL.run 1 rfl (PL.nil rfl)) <|
      .cons rfl (fun ρ => PL.run 1 rfl (PL.nil rfl)) <|
      .cons rfl (fun ρ => PL.run 1 rfl (PL.nil rfl)) <|
      .nil _) ?_
    refine PW.ret ?_
    refine RetOk.free rfl rfl rfl
end Go.Wl
