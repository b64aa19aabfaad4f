/- The walks: padding. The walks: the judges of blindness and of all. The walks: the laws of JudgeBlind, JudgeAll. -/
import Derived.Test.YtkganhdglmbpoaaGreatBc6
set_option linter.unusedVariables false
set_option linter.unusedSimpArgs false
set_option maxRecDepth 100000
set_option maxHeartbeats 4000000
namespace Go.Wl
open Go Go.RowKit Go.Pw Go.Proofs
/-- A note behind its length, and k zeros. -/
def padK (b : List UInt8) (k : Nat) : List UInt8 := great (b.length : Nat) 2 ++ (b ++ List.replicate k 0)
def padStep (n : Nat) : Nat := if 96 < n then 96 else 32
def padN (n : Nat) : Nat := (padStep n - n % padStep n) % padStep n
def padded (b : List UInt8) : List UInt8 := if b.length ≤ 200 then padK b (padN (2 + b.length)) else []
theorem great_two (n : Nat) : (great (n : Int) 2).length = 2 := by
  rw [great, List.length_reverse, little, if_neg (by omega), littleL_len]; rfl
theorem padK_len (b : List UInt8) (k : Nat) : (padK b k).length = 2 + b.length + k := by
  rw [padK, List.length_append, List.length_append, great_two, List.length_replicate]; omega
theorem padN_le (n : Nat) : padN n ≤ 96 := by
  unfold padN padStep
  split <;> omega
theorem padded_len (b : List UInt8) : (padded b).length ≤ 400 := by
  unfold padded
  split
  · rw [padK_len]; have := padN_le (2 + b.length); omega
  · simp
theorem padK_step (b : List UInt8) (k : Nat) : (padK b k).map eb ++ [[PV.lit (.int .u8 0)]] = (padK b (k + 1)).map eb := by
  simp only [padK, List.map_append, List.append_assoc, List.replicate_succ', List.map_cons, List.map_nil]
  rfl
/- spec.Padded -/
theorem spec_Padded_spec (b : List UInt8) : Pw.Spec Tryz.prog 111 [eBs b] (fun res_ => res_ = eBs (padded b)) := by
  refine spec_of (n := 26) Tryz.call111 Tryz.func111 rfl rfl (by simp) rfl rfl fun W Z => ?_
  refine PW.seq ?_
  refine PW.region ?_
  refine PL.run 1 rfl ?_
  refine PL.nil ?_
  refine PW.seq ?_
  refine PW.seq ?_
  refine PW.region ?_
  refine PL.run 3 rfl ?_
  refine PL.nil ?_
  refine PW.cond rfl (fun h1 => ?_) (fun h1 => ?_)
  ·
    refine PW.seq ?_
    refine PW.region ?_
    refine PL.run 2 rfl ?_
    refine PL.nil ?_
    refine PW.ret ?_
    refine RetOk.of rfl (.one (.leaf (.ro _ _ _))) (by simp) (by simp) ?_
    have : ¬ b.length ≤ 200 := by simp at h1; omega
    simp [padded, this, eBs]
  ·
    have hb : b.length ≤ 200 := by simp at h1; omega
    have hg := great_len (((b.map eb).length : Nat) : Int) 2
    have eg : great (((b.map eb).length : Nat) : Int) 2 = great ((b.length : Nat) : Int) 2 := by rw [List.length_map]
    have hg2 := great_two b.length
    have e0 : (great (((b.map eb).length : Nat) : Int) 2).map eb ++ b.map eb = (padK b 0).map eb := by rw [eg]; simp [padK]
    have hl0 : (((great (((b.map eb).length : Nat) : Int) 2).map eb ++ b.map eb).length : Int) = ((2 + b.length : Nat) : Int) := by rw [e0, List.length_map, padK_len]; rfl
    have hpd : padded b = padK b (padN (2 + b.length)) := by rw [padded, if_pos hb]
    clear h1
    refine PW.skip ?_
    refine PW.seq ?_
    refine PW.region ?_
    refine PL.run 2 rfl ?_
    refine PL.call rfl rfl rfl (spec_Great_spec _ 2 (by simp; omega) 900) (.cons (.refl _) <| .cons (.refl _) <| .nil) (fun p hp => by subst hp; rfl) (wantV_ok rfl) rfl (fun p hp => ?_)
    subst hp
    refine PL.run 1 rfl ?_
    refine PL.app rfl rfl rfl rfl rfl rfl rfl rfl rfl rfl (by simp <;> omega) (by simp <;> omega) (wantV_ok rfl) rfl ?_
    refine PL.run 1 rfl ?_
    refine PL.nil ?_
    refine PW.seq ?_
    refine PW.region ?_
    refine PL.run 1 rfl ?_
    refine PL.nil ?_
    refine PW.seq ?_
    refine PW.seq ?_
    refine PW.region ?_
    refine PL.run 3 rfl ?_
    refine PL.nil ?_
    refine PW.cond rfl (fun h2 => ?_) (fun h2 => ?_)
    ·
      refine PW.region ?_
      refine PL.run 1 rfl ?_
      refine PL.nil ?_
      refine PW.seq ?_
      refine PW.block ?_
      have hs : padStep (2 + b.length) = 96 := by rw [padStep, if_pos]; rw [hl0] at h2; simp at h2; omega
      have hp : padN (2 + b.length) = (96 - (2 + b.length) % 96) % 96 := by rw [padN, hs]
      generalize padN (2 + b.length) = pn at hp hpd
      refine PW.loopAt (α := Nat) (fun k => ⟨[(3, .sl 1 ((padK b k).map eb) (some 900)), (4, eI 96)], ⟨[], [(900, (1, ((padK b k).map eb).length))]⟩⟩) (fun k => k ≤ pn) (fun k => pn - k) 0 (Le.row ⟨⟨rfl, rfl⟩, trivial⟩ rfl rfl e0) (Nat.zero_le _) (fun k hk => ?_)
      have hkl := padK_len b k
      refine PW.seq ?_
      refine PW.seq ?_
      refine PW.region ?_
      refine PL.run 3 rfl ?_
      refine PL.val (OpV.rem rfl rfl rfl (by decide)) (wantV_ok rfl) rfl ?_
      refine PL.run 1 rfl ?_
      refine PL.nil ?_
      refine PW.cond rfl (fun h3 => ?_) (fun h3 => ?_)
      ·
        refine PW.skip ?_
        refine PW.block ?_
        refine PW.region ?_
        refine PL.run 2 rfl ?_
        refine PL.app rfl rfl rfl rfl rfl rfl rfl rfl rfl rfl (by simp <;> omega) (by simp <;> omega) (wantV_ok rfl) rfl ?_
        refine PL.run 1 rfl ?_
        refine PL.nil ?_
        have hlt : k < pn := by
         simp only [List.length_map, hkl, Bool.not_eq_true', decide_eq_false_iff_not] at h3
         rw [Int.tmod_eq_emod_of_nonneg (by omega)] at h3
         omega
        refine ⟨k + 1, Le.row ⟨⟨rfl, rfl⟩, trivial⟩ rfl rfl (padK_step b k), hlt, by omega⟩
      ·
        refine PW.exit ?_
        refine PW.seq ?_
        refine PW.region ?_
        refine PL.run 2 rfl ?_
        refine PL.nil ?_
        refine PW.ret ?_
        have hkk : k = pn := by
         simp only [List.length_map, hkl, Bool.not_eq_false', decide_eq_true_eq] at h3
         rw [Int.tmod_eq_emod_of_nonneg (by omega)] at h3
         omega
        refine RetOk.of rfl (.one (.leaf (.ro _ _ _))) (by simp) (by simp) ?_
        rw [hpd, hkk]; rfl
    ·
      refine PW.skip ?_
      refine PW.seq ?_
      refine PW.block ?_
      have hs : padStep (2 + b.length) = 32 := by rw [padStep, if_neg]; rw [hl0] at h2; simp at h2; omega
      have hp : padN (2 + b.length) = (32 - (2 + b.length) % 32) % 32 := by rw [padN, hs]
      generalize padN (2 + b.length) = pn at hp hpd
      refine PW.loopAt (α := Nat) (fun k => ⟨[(3, .sl 1 ((padK b k).map eb) (some 900)), (4, eI 32)], ⟨[], [(900, (1, ((padK b k).map eb).length))]⟩⟩) (fun k => k ≤ pn) (fun k => pn - k) 0 (Le.row ⟨⟨rfl, rfl⟩, trivial⟩ rfl rfl e0) (Nat.zero_le _) (fun k hk => ?_)
      have hkl := padK_len b k
      refine PW.seq ?_
      refine PW.seq ?_
      refine PW.region ?_
      refine PL.run 3 rfl ?_
      refine PL.val (OpV.rem rfl rfl rfl (by decide)) (wantV_ok rfl) rfl ?_
      refine PL.run 1 rfl ?_
      refine PL.nil ?_
      refine PW.cond rfl (fun h4 => ?_) (fun h4 => ?_)
      ·
        refine PW.skip ?_
        refine PW.block ?_
        refine PW.region ?_
        refine PL.run 2 rfl ?_
        refine PL.app rfl rfl rfl rfl rfl rfl rfl rfl rfl rfl (by simp <;> omega) (by simp <;> omega) (wantV_ok rfl) rfl ?_
        refine PL.run 1 rfl ?_
        refine PL.nil ?_
        have hlt : k < pn := by
         simp only [List.length_map, hkl, Bool.not_eq_true', decide_eq_false_iff_not] at h4
         rw [Int.tmod_eq_emod_of_nonneg (by omega)] at h4
         omega
        refine ⟨k + 1, Le.row ⟨⟨rfl, rfl⟩, trivial⟩ rfl rfl (padK_step b k), hlt, by omega⟩
      ·
        refine PW.exit ?_
        refine PW.seq ?_
        refine PW.region ?_
        refine PL.run 2 rfl ?_
        refine PL.nil ?_
        refine PW.ret ?_
        have hkk : k = pn := by
         simp only [List.length_map, hkl, Bool.not_eq_false', decide_eq_true_eq] at h4
         rw [Int.tmod_eq_emod_of_nonneg (by omega)] at h4
         omega
        refine RetOk.of rfl (.one (.leaf (.ro _ _ _))) (by simp) (by simp) ?_
        rw [hpd, hkk]; rfl
theorem pad_rows (b : List UInt8) (k : Nat) : ([great (((b.map eb).length : Nat) : Int) 2, b].flatten).map eb ++ List.replicate k [PV.lit (.int .u8 0)] = (padK b k).map eb := by
  rw [List.length_map]
  simp only [padK, List.flatten_cons, List.flatten_nil, List.append_nil, List.map_append, List.append_assoc, List.map_replicate]
  rfl
/- impl.Padded -/
theorem impl_Padded_spec (b : List UInt8) : Pw.Spec Tryz.prog 113 [eBs b] (fun res_ => res_ = eBs (padded b)) := by
  refine spec_of (n := 27) Tryz.call113 Tryz.func113 rfl rfl (by simp) rfl rfl fun W Z => ?_
  refine PW.seq ?_
  refine PW.region ?_
  refine PL.run 1 rfl ?_
  refine PL.nil ?_
  refine PW.seq ?_
  refine PW.seq ?_
  refine PW.region ?_
  refine PL.run 3 rfl ?_
  refine PL.nil ?_
  refine PW.cond rfl (fun h1 => ?_) (fun h1 => ?_)
  ·
    refine PW.seq ?_
    refine PW.region ?_
    refine PL.run 1 rfl ?_
    refine PL.nil ?_
    refine PW.ret ?_
    refine RetOk.of rfl (.one (.leaf (.nil0 1))) (by simp) (by simp) ?_
    have : ¬ b.length ≤ 200 := by simp at h1; omega
    simp [padded, this, eBs]
  ·
    have hb : b.length ≤ 200 := by simp at h1; omega
    have eg : great (((b.map eb).length : Nat) : Int) 2 = great ((b.length : Nat) : Int) 2 := by rw [List.length_map]
    have hg2 := great_two b.length
    have hfl : ([great (((b.map eb).length : Nat) : Int) 2, b].flatten).length = 2 + b.length := by rw [eg]; simp [hg2]
    have hl0 : ((([great (((b.map eb).length : Nat) : Int) 2, b].flatten).map eb).length : Int) = ((2 + b.length : Nat) : Int) := by rw [List.length_map, hfl]
    have hpd : padded b = padK b (padN (2 + b.length)) := by rw [padded, if_pos hb]
    clear h1
    refine PW.skip ?_
    refine PW.seq ?_
    refine PW.region ?_
    refine PL.run 2 rfl ?_
    refine PL.call rfl rfl rfl (impl_Great_spec _ 2) (.cons (.refl _) <| .cons (.refl _) <| .nil) (fun p hp => by subst hp; rfl) (wantV_ok rfl) rfl (fun p hp => ?_)
    subst hp
    refine PL.run 1 rfl ?_
    refine PL.litRo rfl rfl rfl rfl rfl rfl rfl rfl rfl rfl (wantV_ok rfl) ?_
    refine PL.call rfl rfl rfl (impl_joined_spec [great (((b.map eb).length : Nat) : Int) 2, b] (by simp) (by simp) (by rw [hfl]; omega) 900) (.cons (.refl _) <| .nil) (fun p hp => by subst hp; rfl) (wantV_ok rfl) rfl (fun p hp => ?_)
    subst hp
    refine PL.run 1 rfl ?_
    refine PL.nil ?_
    refine PW.seq ?_
    refine PW.region ?_
    refine PL.run 1 rfl ?_
    refine PL.nil ?_
    refine PW.seq ?_
    refine PW.seq ?_
    refine PW.region ?_
    refine PL.run 3 rfl ?_
    refine PL.nil ?_
    refine PW.cond rfl (fun h2 => ?_) (fun h2 => ?_)
    ·
      have hs : padStep (2 + b.length) = 96 := by rw [padStep, if_pos]; rw [hl0] at h2; simp at h2; omega
      have hp : padN (2 + b.length) = (96 - (2 + b.length) % 96) % 96 := by rw [padN, hs]
      have hp1 := padN_le (2 + b.length)
      generalize padN (2 + b.length) = pn at hp hpd hp1
      have e1 : Int.tmod (IntKind.i64.wrap (96 - Int.tmod ((([great (((b.map eb).length : Nat) : Int) 2, b].flatten).map eb).length : Nat) 96)) 96 = (pn : Int) := by
       have q : Int.tmod ((2 + b.length : Nat) : Int) 96 = (((2 + b.length) % 96 : Nat) : Int) := by rw [Int.tmod_eq_emod_of_nonneg (by omega)]; omega
       rw [hl0, q, wrap_id (by omega) (by omega), Int.tmod_eq_emod_of_nonneg (by omega)]; omega
      refine PW.region ?_
      refine PL.run 1 rfl ?_
      refine PL.nil ?_
      refine PW.seq ?_
      refine PW.region ?_
      refine PL.run 5 rfl ?_
      refine PL.val (OpV.rem rfl rfl rfl (by decide)) (wantV_ok rfl) rfl ?_
      refine PL.run 2 rfl ?_
      refine PL.val (OpV.rem rfl rfl rfl (by decide)) (wantV_ok rfl) rfl ?_
      refine PL.appZ (m := pn) rfl rfl rfl rfl (congrArg (fun n => some (eI n)) e1) rfl rfl rfl rfl rfl rfl rfl (by decide) (by rw [List.length_map, hfl]; simp <;> omega) (by rw [List.length_map, hfl]; omega) (wantV_ok rfl) rfl ?_
      refine PL.run 1 rfl ?_
      refine PL.nil ?_
      refine PW.ret ?_
      refine RetOk.of rfl (.one (.leaf (.ro _ _ _))) (by simp) (by simp) ?_
      rw [hpd]; exact congrArg (fun e => PV.sl 1 e none) (pad_rows b pn)
    ·
      have hs : padStep (2 + b.length) = 32 := by rw [padStep, if_neg]; rw [hl0] at h2; simp at h2; omega
      have hp : padN (2 + b.length) = (32 - (2 + b.length) % 32) % 32 := by rw [padN, hs]
      have hp1 := padN_le (2 + b.length)
      generalize padN (2 + b.length) = pn at hp hpd hp1
      have e1 : Int.tmod (IntKind.i64.wrap (32 - Int.tmod ((([great (((b.map eb).length : Nat) : Int) 2, b].flatten).map eb).length : Nat) 32)) 32 = (pn : Int) := by
       have q : Int.tmod ((2 + b.length : Nat) : Int) 32 = (((2 + b.length) % 32 : Nat) : Int) := by rw [Int.tmod_eq_emod_of_nonneg (by omega)]; omega
       rw [hl0, q, wrap_id (by omega) (by omega), Int.tmod_eq_emod_of_nonneg (by omega)]; omega
      refine PW.skip ?_
      refine PW.seq ?_
      refine PW.region ?_
      refine PL.run 5 rfl ?_
      refine PL.val (OpV.rem rfl rfl rfl (by decide)) (wantV_ok rfl) rfl ?_
      refine PL.run 2 rfl ?_
      refine PL.val (OpV.rem rfl rfl rfl (by decide)) (wantV_ok rfl) rfl ?_
      refine PL.appZ (m := pn) rfl rfl rfl rfl (congrArg (fun n => some (eI n)) e1) rfl rfl rfl rfl rfl rfl rfl (by decide) (by rw [List.length_map, hfl]; simp <;> omega) (by rw [List.length_map, hfl]; omega) (wantV_ok rfl) rfl ?_
      refine PL.run 1 rfl ?_
      refine PL.nil ?_
      refine PW.ret ?_
      refine RetOk.of rfl (.one (.leaf (.ro _ _ _))) (by simp) (by simp) ?_
      rw [hpd]; exact congrArg (fun e => PV.sl 1 e none) (pad_rows b pn)
end Go.Wl
set_option linter.unusedVariables false
set_option linter.unusedSimpArgs false
set_option maxRecDepth 100000
set_option maxHeartbeats 8000000
namespace Go.Wl
open Go Go.RowKit Go.Pw Go.Proofs
def blindOk (w : Earth) (x : Item) : Bool := decide (0 ≤ sentI w x.bytes) && (decide ((theSent w x.bytes).route = x.route) && decide (x.bytes.length = 51 + (padded (theSent w x.bytes).note).length))
theorem sent_lt {w : Earth} {b : List UInt8} (h : decide (0 ≤ sentI w b) = true) : decide (sentI w b < 0) = false := by simp at h ⊢; omega
theorem sent_nn {w : Earth} {b : List UInt8} (h : decide (0 ≤ sentI w b) = true) : 0 ≤ sentI w b := of_decide_eq_true h
theorem sent_at {w : Earth} {b : List UInt8} (h : decide (0 ≤ sentI w b) = true) : w.sent[(sentI w b).toNat]? = some (theSent w b) := sent_get (sent_lt h)
theorem blind_len (w : Earth) (x : Item) : decide ((((x.bytes.map eb).length : Nat) : Int) = IntKind.i64.wrap (51 + ((((padded (theSent w x.bytes).note).map eb).length : Nat) : Int))) = decide (x.bytes.length = 51 + (padded (theSent w x.bytes).note).length) := by
  have := padded_len (theSent w x.bytes).note
  rw [List.length_map, List.length_map, wrap_id (by omega) (by omega)]
  exact decide_eq_decide.2 (by omega)
/- spec.l18Item -/
theorem spec_l18Item_spec (w : Earth) (x : Item) (hs : w.sent.length ≤ 16777216) : Pw.Spec Tryz.prog 72 [.agg (eEarth w), .agg (eItem x)] (fun res_ => res_ = eT (blindOk w x)) := by
  refine spec_of (n := 38) Tryz.call72 Tryz.func72 rfl rfl (by simp) rfl rfl fun W Z => ?_
  refine PW.seq ?_
  refine PW.region ?_
  refine PL.run 3 rfl ?_
  refine PL.nil ?_
  refine PW.seq ?_
  refine PW.region ?_
  refine PL.run 3 rfl ?_
  refine PL.call rfl rfl rfl (spec_l18Sent_spec w x.bytes hs) (.cons (.refl _) <| .cons (.refl _) <| .nil) (fun p hp => by subst hp; rfl) (wantV_ok rfl) rfl (fun p hp => ?_)
  subst hp
  refine PL.run 1 rfl ?_
  refine PL.nil ?_
  refine PW.seq ?_
  rcases Bool.eq_false_or_eq_true (decide (0 ≤ sentI w x.bytes)) with h1 | h1
  ·
    rcases Bool.eq_false_or_eq_true (decide ((theSent w x.bytes).route = x.route)) with h2 | h2
    ·
      refine PW.drawn ((some 10, _) :: (some 11, _) :: (some 12, .lit (.bool true)) :: (some 13, _) :: (some 14, _) :: (some 15, _) :: (some 16, _) :: (some 17, _) :: (some 18, _) :: (some 19, _) :: (some 20, _) :: (some 21, _) :: (some 22, _) :: (some 23, .lit (.bool true)) :: (some 24, _) :: (some 25, _) :: (some 26, _) :: (some 27, _) :: (some 28, _) :: (some 29, _) :: (some 30, _) :: (some 31, _) :: (some 32, _) :: (some 33, _) :: (some 34, _) :: (some 35, _) :: (some 36, _) :: (some 37, _) :: (some 4, _) :: []) (0 :: 1 :: 3 :: 7 :: 15 :: 7 :: 63 :: 127 :: 255 :: 7 :: 519 :: 2047 :: 4095 :: 8191 :: 16383 :: 32767 :: 65535 :: 16383 :: 147455 :: 16383 :: 933887 :: 1982463 :: 4079615 :: 8273919 :: 16662527 :: 33439743 :: 67108863 :: 134217727 :: 268435455 :: []) (fun _ => _) mixed rfl rfl rfl rfl rfl
        (.cons rfl (fun ρ => PL.run 1 rfl (PL.nil rfl)) <|
        .cons rfl (fun ρ => PL.run 1 rfl (PL.nil rfl)) <|
        .cons rfl (fun ρ => PL.run 1 rfl (PL.nil (putb h1))) <|
        .cons rfl (fun ρ => PL.run 1 rfl (PL.nil rfl)) <|
        .cons rfl (fun ρ => PL.run 1 rfl (PL.nil rfl)) <|
        .cons rfl (fun ρ => PL.run 1 rfl (PL.nil rfl)) <|
        .cons rfl (fun ρ => PL.val (OpV.idx rfl rfl rfl (sent_nn h1) (map_atZ (sent_at h1)) rfl rfl rfl rfl) (wantV_ok rfl) rfl (PL.nil rfl)) <|
        .cons rfl (fun ρ => PL.run 1 rfl (PL.nil rfl)) <|
        .cons rfl (fun ρ => PL.run 1 rfl (PL.nil rfl)) <|
        .cons rfl (fun ρ => PL.run 1 rfl (PL.nil rfl)) <|
        .cons rfl (fun ρ => PL.run 1 rfl (PL.nil rfl)) <|
        .cons rfl (fun ρ => PL.run 1 rfl (PL.nil rfl)) <|
        .cons rfl (fun ρ => PL.run 1 rfl (PL.nil rfl)) <|
        .cons rfl (fun ρ => PL.run 1 rfl (PL.nil (putb h2))) <|
        .cons rfl (fun ρ => PL.run 1 rfl (PL.nil rfl)) <|
        .cons rfl (fun ρ => PL.run 1 rfl (PL.nil rfl)) <|
        .cons rfl (fun ρ => PL.run 1 rfl (PL.nil rfl)) <|
        .cons rfl (fun ρ => PL.run 1 rfl (PL.nil rfl)) <|
        .cons rfl (fun ρ => PL.run 1 rfl (PL.nil rfl)) <|
        .cons rfl (fun ρ => PL.run 1 rfl (PL.nil rfl)) <|
        .cons rfl (fun ρ => PL.val (OpV.idx rfl rfl rfl (sent_nn h1) (map_atZ (sent_at h1)) rfl rfl rfl rfl) (wantV_ok rfl) rfl (PL.nil rfl)) <|
        .cons rfl (fun ρ => PL.run 1 rfl (PL.nil rfl)) <|
        .cons rfl (fun ρ => PL.run 1 rfl (PL.nil rfl)) <|
        .cons rfl (fun ρ => PL.call rfl rfl rfl (spec_Padded_spec (theSent w x.bytes).note) (.cons (.refl _) <| .nil) (fun p hp => by subst hp; rfl) (wantV_ok rfl) rfl (fun p hp => by subst hp; exact PL.nil rfl)) <|
        .cons rfl (fun ρ => PL.run 1 rfl (PL.nil rfl)) <|
        .cons rfl (fun ρ => PL.run 1 rfl (PL.nil rfl)) <|
        .cons rfl (fun ρ => PL.run 1 rfl (PL.nil rfl)) <|
        .cons rfl (fun ρ => PL.run 1 rfl (PL.nil rfl)) <|
        .cons rfl (fun ρ => PL.run 1 rfl (PL.nil rfl)) <|
        .nil _) ?_
      refine PW.ret ?_
      refine RetOk.free rfl rfl (congrArg eT ?_)
      rw [blind_len, blindOk, h1, h2]; rfl
    ·
      refine PW.drawn ((some 10, _) :: (some 11, _) :: (some 12, .lit (.bool true)) :: (some 13, _) :: (some 14, _) :: (some 15, _) :: (some 16, _) :: (some 17, _) :: (some 18, _) :: (some 19, _) :: (some 20, _) :: (some 21, _) :: (some 22, _) :: (some 23, .lit (.bool false)) :: (some 24, _) :: (some 25, _) :: (some 26, _) :: (some 27, _) :: (some 28, _) :: (some 29, _) :: (some 30, _) :: (some 31, _) :: (some 32, _) :: (some 33, _) :: (some 34, _) :: (some 35, _) :: (some 36, _) :: (some 37, _) :: (some 4, _) :: []) (0 :: 1 :: 3 :: 7 :: 15 :: 7 :: 63 :: 127 :: 255 :: 7 :: 519 :: 2047 :: 4095 :: 8191 :: 16383 :: 32767 :: 65535 :: 16383 :: 147455 :: 16383 :: 933887 :: 1982463 :: 4079615 :: 8273919 :: 16662527 :: 33439743 :: 67108863 :: 134217727 :: 268435455 :: []) (fun _ => _) mixed rfl rfl rfl rfl rfl
        (.cons rfl (fun ρ => PL.run 1 rfl (PL.nil rfl)) <|
        .cons rfl (fun ρ => PL.run 1 rfl (PL.nil rfl)) <|
        .cons rfl (fun ρ => PL.run 1 rfl (PL.nil (putb h1))) <|
        .cons rfl (fun ρ => PL.run 1 rfl (PL.nil rfl)) <|
        .cons rfl (fun ρ => PL.run 1 rfl (PL.nil rfl)) <|
        .cons rfl (fun ρ => PL.run 1 rfl (PL.nil rfl)) <|
        .cons rfl (fun ρ => PL.val (OpV.idx rfl rfl rfl (sent_nn h1) (map_atZ (sent_at h1)) rfl rfl rfl rfl) (wantV_ok rfl) rfl (PL.nil rfl)) <|
        .cons rfl (fun ρ => PL.run 1 rfl (PL.nil rfl)) <|
        .cons rfl (fun ρ => PL.run 1 rfl (PL.nil rfl)) <|
        .cons rfl (fun ρ => PL.run 1 rfl (PL.nil rfl)) <|
        .cons rfl (fun ρ => PL.run 1 rfl (PL.nil rfl)) <|
        .cons rfl (fun ρ => PL.run 1 rfl (PL.nil rfl)) <|
        .cons rfl (fun ρ => PL.run 1 rfl (PL.nil rfl)) <|
        .cons rfl (fun ρ => PL.run 1 rfl (PL.nil (putb h2))) <|
        .cons rfl (fun ρ => PL.run 1 rfl (PL.nil rfl)) <|
        .cons rfl (fun ρ => PL.run 1 rfl (PL.nil rfl)) <|
        .cons rfl (fun ρ => PL.run 1 rfl (PL.nil rfl)) <|
        .cons rfl (fun ρ => PL.run 1 rfl (PL.nil rfl)) <|
        .cons rfl (fun ρ => PL.run 1 rfl (PL.nil rfl)) <|
        .cons rfl (fun ρ => PL.run 1 rfl (PL.nil rfl)) <|
        .cons rfl (fun ρ => PL.run 1 rfl (PL.nil rfl)) <|
        .cons rfl (fun ρ => PL.run 1 rfl (PL.nil rfl)) <|
        .cons rfl (fun ρ => PL.run 1 rfl (PL.nil rfl)) <|
        .cons rfl (fun ρ => PL.run 1 rfl (PL.nil rfl)) <|
        .cons rfl (fun ρ => PL.run 1 rfl (PL.nil rfl)) <|
        .cons rfl (fun ρ => PL.run 1 rfl (PL.nil rfl)) <|
        .cons rfl (fun ρ => PL.run 1 rfl (PL.nil rfl)) <|
        .cons rfl (fun ρ => PL.run 1 rfl (PL.nil rfl)) <|
        .cons rfl (fun ρ => PL.run 1 rfl (PL.nil rfl)) <|
        .nil _) ?_
      refine PW.ret ?_
      refine RetOk.free rfl rfl (congrArg eT ?_)
      rw [blindOk, h1, h2]; rfl
  ·
    refine PW.drawn ((some 10, _) :: (some 11, _) :: (some 12, .lit (.bool false)) :: (some 13, _) :: (some 14, _) :: (some 15, _) :: (some 16, _) :: (some 17, _) :: (some 18, _) :: (some 19, _) :: (some 20, _) :: (some 21, _) :: (some 22, _) :: (some 23, _) :: (some 24, _) :: (some 25, _) :: (some 26, _) :: (some 27, _) :: (some 28, _) :: (some 29, _) :: (some 30, _) :: (some 31, _) :: (some 32, _) :: (some 33, _) :: (some 34, _) :: (some 35, _) :: (some 36, _) :: (some 37, _) :: (some 4, _) :: []) (0 :: 1 :: 3 :: 7 :: 15 :: 7 :: 63 :: 127 :: 255 :: 7 :: 519 :: 2047 :: 4095 :: 8191 :: 16383 :: 32767 :: 65535 :: 16383 :: 147455 :: 16383 :: 933887 :: 1982463 :: 4079615 :: 8273919 :: 16662527 :: 33439743 :: 67108863 :: 134217727 :: 268435455 :: []) (fun _ => _) mixed rfl rfl rfl rfl rfl
      (.cons rfl (fun ρ => PL.run 1 rfl (PL.nil rfl)) <|
      .cons rfl (fun ρ => PL.run 1 rfl (PL.nil rfl)) <|
      .cons rfl (fun ρ => PL.run 1 rfl (PL.nil (putb h1))) <|
      .cons rfl (fun ρ => PL.run 1 rfl (PL.nil rfl)) <|
      .cons rfl (fun ρ => PL.run 1 rfl (PL.nil rfl)) <|
      .cons rfl (fun ρ => PL.run 1 rfl (PL.nil rfl)) <|
      .cons rfl (fun ρ => PL.run 1 rfl (PL.nil rfl)) <|
      .cons rfl (fun ρ => PL.run 1 rfl (PL.nil rfl)) <|
      .cons rfl (fun ρ => PL.run 1 rfl (PL.nil rfl)) <|
      .cons rfl (fun ρ => PL.run 1 rfl (PL.nil rfl)) <|
      .cons rfl (fun ρ => PL.run 1 rfl (PL.nil rfl)) <|
      .cons rfl (fun ρ => PL.run 1 rfl (PL.nil rfl)) <|
      .cons rfl (fun ρ => PL.run 1 rfl (PL.nil rfl)) <|
      .cons rfl (fun ρ => PL.run 1 rfl (PL.nil rfl)) <|
      .cons rfl (fun ρ => PL.run 1 rfl (PL.nil rfl)) <|
      .cons rfl (fun ρ => PL.run 1 rfl (PL.nil rfl)) <|
      .cons rfl (fun ρ => PL.run 1 rfl (PL.nil rfl)) <|
      .cons rfl (fun ρ => PL.run 1 rfl (PL.nil rfl)) <|
      .cons rfl (fun ρ => PL.run 1 rfl (PL.nil rfl)) <|
      .cons rfl (fun ρ => PL.run 1 rfl (PL.nil rfl)) <|
      .cons rfl (fun ρ => PL.run 1 rfl (PL.nil rfl)) <|
      .cons rfl (fun ρ => PL.run 1 rfl (PL.nil rfl)) <|
      .cons rfl (fun ρ => PL.run 1 rfl (PL.nil rfl)) <|
      .cons rfl (fun ρ => PL.run 1 rfl (PL.nil rfl)) <|
      .cons rfl (fun ρ => PL.run 1 rfl (PL.nil rfl)) <|
      .cons rfl (fun ρ => PL.run 1 rfl (PL.nil rfl)) <|
      .cons rfl (fun ρ => PL.run 1 rfl (PL.nil rfl)) <|
      .cons rfl (fun ρ => PL.run 1 rfl (PL.nil rfl)) <|
      .cons rfl (fun ρ => PL.run 1 rfl (PL.nil rfl)) <|
      .nil _) ?_
    refine PW.ret ?_
    refine RetOk.free rfl rfl (congrArg eT ?_)
    rw [blindOk, h1]; rfl
/- impl.blind -/
theorem impl_blind_spec (w : Earth) (x : Item) (hs : w.sent.length ≤ 16777216) : Pw.Spec Tryz.prog 75 [.agg (eEarth w), .agg (eItem x)] (fun res_ => res_ = eT (blindOk w x)) := by
  refine spec_of (n := 38) Tryz.call75 Tryz.func75 rfl rfl (by simp) rfl rfl fun W Z => ?_
  refine PW.seq ?_
  refine PW.region ?_
  refine PL.run 3 rfl ?_
  refine PL.nil ?_
  refine PW.seq ?_
  refine PW.region ?_
  refine PL.run 3 rfl ?_
  refine PL.call rfl rfl rfl (impl_sentAt_spec w x.bytes hs) (.cons (.refl _) <| .cons (.refl _) <| .nil) (fun p hp => by subst hp; rfl) (wantV_ok rfl) rfl (fun p hp => ?_)
  subst hp
  refine PL.run 1 rfl ?_
  refine PL.nil ?_
  refine PW.seq ?_
  rcases Bool.eq_false_or_eq_true (decide (0 ≤ sentI w x.bytes)) with h1 | h1
  ·
    rcases Bool.eq_false_or_eq_true (decide ((theSent w x.bytes).route = x.route)) with h2 | h2
    ·
      refine PW.drawn ((some 10, _) :: (some 11, _) :: (some 12, .lit (.bool true)) :: (some 13, _) :: (some 14, _) :: (some 15, _) :: (some 16, _) :: (some 17, _) :: (some 18, _) :: (some 19, _) :: (some 20, _) :: (some 21, _) :: (some 22, _) :: (some 23, .lit (.bool true)) :: (some 24, _) :: (some 25, _) :: (some 26, _) :: (some 27, _) :: (some 28, _) :: (some 29, _) :: (some 30, _) :: (some 31, _) :: (some 32, _) :: (some 33, _) :: (some 34, _) :: (some 35, _) :: (some 36, _) :: (some 37, _) :: (some 4, _) :: []) (0 :: 1 :: 3 :: 7 :: 15 :: 7 :: 63 :: 127 :: 255 :: 7 :: 519 :: 2047 :: 4095 :: 8191 :: 16383 :: 32767 :: 65535 :: 16383 :: 147455 :: 16383 :: 933887 :: 1982463 :: 4079615 :: 8273919 :: 16662527 :: 33439743 :: 67108863 :: 134217727 :: 268435455 :: []) (fun _ => _) mixed rfl rfl rfl rfl rfl
        (.cons rfl (fun ρ => PL.run 1 rfl (PL.nil rfl)) <|
        .cons rfl (fun ρ => PL.run 1 rfl (PL.nil rfl)) <|
        .cons rfl (fun ρ => PL.run 1 rfl (PL.nil (putb h1))) <|
        .cons rfl (fun ρ => PL.run 1 rfl (PL.nil rfl)) <|
        .cons rfl (fun ρ => PL.run 1 rfl (PL.nil rfl)) <|
        .cons rfl (fun ρ => PL.run 1 rfl (PL.nil rfl)) <|
        .cons rfl (fun ρ => PL.val (OpV.idx rfl rfl rfl (sent_nn h1) (map_atZ (sent_at h1)) rfl rfl rfl rfl) (wantV_ok rfl) rfl (PL.nil rfl)) <|
        .cons rfl (fun ρ => PL.run 1 rfl (PL.nil rfl)) <|
        .cons rfl (fun ρ => PL.run 1 rfl (PL.nil rfl)) <|
        .cons rfl (fun ρ => PL.run 1 rfl (PL.nil rfl)) <|
        .cons rfl (fun ρ => PL.run 1 rfl (PL.nil rfl)) <|
        .cons rfl (fun ρ => PL.run 1 rfl (PL.nil rfl)) <|
        .cons rfl (fun ρ => PL.run 1 rfl (PL.nil rfl)) <|
        .cons rfl (fun ρ => PL.run 1 rfl (PL.nil (putb h2))) <|
        .cons rfl (fun ρ => PL.run 1 rfl (PL.nil rfl)) <|
        .cons rfl (fun ρ => PL.run 1 rfl (PL.nil rfl)) <|
        .cons rfl (fun ρ => PL.run 1 rfl (PL.nil rfl)) <|
        .cons rfl (fun ρ => PL.run 1 rfl (PL.nil rfl)) <|
        .cons rfl (fun ρ => PL.run 1 rfl (PL.nil rfl)) <|
        .cons rfl (fun ρ => PL.run 1 rfl (PL.nil rfl)) <|
        .cons rfl (fun ρ => PL.val (OpV.idx rfl rfl rfl (sent_nn h1) (map_atZ (sent_at h1)) rfl rfl rfl rfl) (wantV_ok rfl) rfl (PL.nil rfl)) <|
        .cons rfl (fun ρ => PL.run 1 rfl (PL.nil rfl)) <|
        .cons rfl (fun ρ => PL.run 1 rfl (PL.nil rfl)) <|
        .cons rfl (fun ρ => PL.call rfl rfl rfl (impl_Padded_spec (theSent w x.bytes).note) (.cons (.refl _) <| .nil) (fun p hp => by subst hp; rfl) (wantV_ok rfl) rfl (fun p hp => by subst hp; exact PL.nil rfl)) <|
        .cons rfl (fun ρ => PL.run 1 rfl (PL.nil rfl)) <|
        .cons rfl (fun ρ => PL.run 1 rfl (PL.nil rfl)) <|
        .cons rfl (fun ρ => PL.run 1 rfl (PL.nil rfl)) <|
        .cons rfl (fun ρ => PL.run 1 rfl (PL.nil rfl)) <|
        .cons rfl (fun ρ => PL.run 1 rfl (PL.nil rfl)) <|
        .nil _) ?_
      refine PW.ret ?_
      refine RetOk.free rfl rfl (congrArg eT ?_)
      rw [blind_len, blindOk, h1, h2]; rfl
    ·
      refine PW.drawn ((some 10, _) :: (some 11, _) :: (some 12, .lit (.bool true)) :: (some 13, _) :: (some 14, _) :: (some 15, _) :: (some 16, _) :: (some 17, _) :: (some 18, _) :: (some 19, _) :: (some 20, _) :: (some 21, _) :: (some 22, _) :: (some 23, .lit (.bool false)) :: (some 24, _) :: (some 25, _) :: (some 26, _) :: (some 27, _) :: (some 28, _) :: (some 29, _) :: (some 30, _) :: (some 31, _) :: (some 32, _) :: (some 33, _) :: (some 34, _) :: (some 35, _) :: (some 36, _) :: (some 37, _) :: (some 4, _) :: []) (0 :: 1 :: 3 :: 7 :: 15 :: 7 :: 63 :: 127 :: 255 :: 7 :: 519 :: 2047 :: 4095 :: 8191 :: 16383 :: 32767 :: 65535 :: 16383 :: 147455 :: 16383 :: 933887 :: 1982463 :: 4079615 :: 8273919 :: 16662527 :: 33439743 :: 67108863 :: 134217727 :: 268435455 :: []) (fun _ => _) mixed rfl rfl rfl rfl rfl
        (.cons rfl (fun ρ => PL.run 1 rfl (PL.nil rfl)) <|
        .cons rfl (fun ρ => PL.run 1 rfl (PL.nil rfl)) <|
        .cons rfl (fun ρ => PL.run 1 rfl (PL.nil (putb h1))) <|
        .cons rfl (fun ρ => PL.run 1 rfl (PL.nil rfl)) <|
        .cons rfl (fun ρ => PL.run 1 rfl (PL.nil rfl)) <|
        .cons rfl (fun ρ => PL.run 1 rfl (PL.nil rfl)) <|
        .cons rfl (fun ρ => PL.val (OpV.idx rfl rfl rfl (sent_nn h1) (map_atZ (sent_at h1)) rfl rfl rfl rfl) (wantV_ok rfl) rfl (PL.nil rfl)) <|
        .cons rfl (fun ρ => PL.run 1 rfl (PL.nil rfl)) <|
        .cons rfl (fun ρ => PL.run 1 rfl (PL.nil rfl)) <|
        .cons rfl (fun ρ => PL.run 1 rfl (PL.nil rfl)) <|
        .cons rfl (fun ρ => PL.run 1 rfl (PL.nil rfl)) <|
        .cons rfl (fun ρ => PL.run 1 rfl (PL.nil rfl)) <|
        .cons rfl (fun ρ => PL.run 1 rfl (PL.nil rfl)) <|
        .cons rfl (fun ρ => PL.run 1 rfl (PL.nil (putb h2))) <|
        .cons rfl (fun ρ => PL.run 1 rfl (PL.nil rfl)) <|
        .cons rfl (fun ρ => PL.run 1 rfl (PL.nil rfl)) <|
        .cons rfl (fun ρ => PL.run 1 rfl (PL.nil rfl)) <|
        .cons rfl (fun ρ => PL.run 1 rfl (PL.nil rfl)) <|
        .cons rfl (fun ρ => PL.run 1 rfl (PL.nil rfl)) <|
        .cons rfl (fun ρ => PL.run 1 rfl (PL.nil rfl)) <|
        .cons rfl (fun ρ => PL.run 1 rfl (PL.nil rfl)) <|
        .cons rfl (fun ρ => PL.run 1 rfl (PL.nil rfl)) <|
        .cons rfl (fun ρ => PL.run 1 rfl (PL.nil rfl)) <|
        .cons rfl (fun ρ => PL.run 1 rfl (PL.nil rfl)) <|
        .cons rfl (fun ρ => PL.run 1 rfl (PL.nil rfl)) <|
        .cons rfl (fun ρ => PL.run 1 rfl (PL.nil rfl)) <|
        .cons rfl (fun ρ => PL.run 1 rfl (PL.nil rfl)) <|
        .cons rfl (fun ρ => PL.run 1 rfl (PL.nil rfl)) <|
        .cons rfl (fun ρ => PL.run 1 rfl (PL.nil rfl)) <|
        .nil _) ?_
      refine PW.ret ?_
      refine RetOk.free rfl rfl (congrArg eT ?_)
      rw [blindOk, h1, h2]; rfl
  ·
    refine PW.drawn ((some 10, _) :: (some 11, _) :: (some 12, .lit (.bool false)) :: (some 13, _) :: (some 14, _) :: (some 15, _) :: (some 16, _) :: (some 17, _) :: (some 18, _) :: (some 19, _) :: (some 20, _) :: (some 21, _) :: (some 22, _) :: (some 23, _) :: (some 24, _) :: (some 25, _) :: (some 26, _) :: (some 27, _) :: (some 28, _) :: (some 29, _) :: (some 30, _) :: (some 31, _) :: (some 32, _) :: (some 33, _) :: (some 34, _) :: (some 35, _) :: (some 36, _) :: (some 37, _) :: (some 4, _) :: []) (0 :: 1 :: 3 :: 7 :: 15 :: 7 :: 63 :: 127 :: 255 :: 7 :: 519 :: 2047 :: 4095 :: 8191 :: 16383 :: 32767 :: 65535 :: 16383 :: 147455 :: 16383 :: 933887 :: 1982463 :: 4079615 :: 8273919 :: 16662527 :: 33439743 :: 67108863 :: 134217727 :: 268435455 :: []) (fun _ => _) mixed rfl rfl rfl rfl rfl
      (.cons rfl (fun ρ => PL.run 1 rfl (PL.nil rfl)) <|
      .cons rfl (fun ρ => PL.run 1 rfl (PL.nil rfl)) <|
      .cons rfl (fun ρ => PL.run 1 rfl (PL.nil (putb h1))) <|
      .cons rfl (fun ρ => PL.run 1 rfl (PL.nil rfl)) <|
      .cons rfl (fun ρ => PL.run 1 rfl (PL.nil rfl)) <|
      .cons rfl (fun ρ => PL.run 1 rfl (PL.nil rfl)) <|
      .cons rfl (fun ρ => PL.run 1 rfl (PL.nil rfl)) <|
      .cons rfl (fun ρ => PL.run 1 rfl (PL.nil rfl)) <|
      .cons rfl (fun ρ => PL.run 1 rfl (PL.nil rfl)) <|
      .cons rfl (fun ρ => PL.run 1 rfl (PL.nil rfl)) <|
      .cons rfl (fun ρ => PL.run 1 rfl (PL.nil rfl)) <|
      .cons rfl (fun ρ => PL.run 1 rfl (PL.nil rfl)) <|
      .cons rfl (fun ρ => PL.run 1 rfl (PL.nil rfl)) <|
      .cons rfl (fun ρ => PL.run 1 rfl (PL.nil rfl)) <|
      .cons rfl (fun ρ => PL.run 1 rfl (PL.nil rfl)) <|
      .cons rfl (fun ρ => PL.run 1 rfl (PL.nil rfl)) <|
      .cons rfl (fun ρ => PL.run 1 rfl (PL.nil rfl)) <|
      .cons rfl (fun ρ => PL.run 1 rfl (PL.nil rfl)) <|
      .cons rfl (fun ρ => PL.run 1 rfl (PL.nil rfl)) <|
      .cons rfl (fun ρ => PL.run 1 rfl (PL.nil rfl)) <|
      .cons rfl (fun ρ => PL.run 1 rfl (PL.nil rfl)) <|
      .cons rfl (fun ρ => PL.run 1 rfl (PL.nil rfl)) <|
      .cons rfl (fun ρ => PL.run 1 rfl (PL.nil rfl)) <|
      .cons rfl (fun ρ => PL.run 1 rfl (PL.nil rfl)) <|
      .cons rfl (fun ρ => PL.run 1 rfl (PL.nil rfl)) <|
      .cons rfl (fun ρ => PL.run 1 rfl (PL.nil rfl)) <|
      .cons rfl (fun ρ => PL.run 1 rfl (PL.nil rfl)) <|
      .cons rfl (fun ρ => PL.run 1 rfl (PL.nil rfl)) <|
      .cons rfl (fun ρ => PL.run 1 rfl (PL.nil rfl)) <|
      .nil _) ?_
    refine PW.ret ?_
    refine RetOk.free rfl rfl (congrArg eT ?_)
    rw [blindOk, h1]; rfl
def wireBlind (w : Earth) (x : Wire) : Bool := if x.toPost then blindOk w x.item else !decide (sentI w x.bytes < 0)
def judgeBlind (w : Earth) : Bool := worldOk w && (w.post.queue.all (blindOk w) && w.net.all (wireBlind w))
theorem all_of {α : Type} {f : α → Bool} {l : List α} {i : Nat} (hi : l.length ≤ i) (h : ∀ (j : Nat) (y : α), j < i → l[j]? = some y → f y = true) : l.all f = true := by
  rw [List.all_eq_true]
  intro x hx
  obtain ⟨j, hj⟩ := List.mem_iff_getElem?.1 hx
  exact h j x (by have := (List.getElem?_eq_some_iff.1 hj).1; omega) hj
theorem all_up {α : Type} {f : α → Bool} {l : List α} {i : Nat} {x : α} (h : ∀ (j : Nat) (y : α), j < i → l[j]? = some y → f y = true) (hx : l[i]? = some x) (hf : f x = true) : ∀ (j : Nat) (y : α), j < i + 1 → l[j]? = some y → f y = true := fun j y hj hy => by
  by_cases e : j = i
  · subst e; rw [hx] at hy; cases hy; exact hf
  · exact h j y (by omega) hy
/- spec.JudgeBlind -/
theorem spec_JudgeBlind_spec (w : Earth) (hw : SmW w) : Pw.Spec Tryz.prog 25 [.agg (eEarth w)] (fun res_ => res_ = eT (judgeBlind w)) := by
  refine spec_of (n := 59) Tryz.call25 Tryz.func25 rfl rfl (by simp) rfl rfl fun W Z => ?_
  refine PW.seq ?_
  refine PW.region ?_
  refine PL.run 2 rfl ?_
  refine PL.nil ?_
  refine PW.seq ?_
  refine PW.seq ?_
  refine PW.region ?_
  refine PL.run 1 rfl ?_
  refine PL.call rfl rfl rfl (spec_WorldOk_spec w hw) (.cons (.refl _) <| .nil) (fun p hp => by subst hp; rfl) (wantV_ok rfl) rfl (fun p hp => ?_)
  subst hp
  refine PL.run 1 rfl ?_
  refine PL.nil ?_
  refine PW.cond rfl (fun h1 => ?_) (fun h1 => ?_)
  ·
    refine PW.seq ?_
    refine PW.region ?_
    refine PL.run 1 rfl ?_
    refine PL.nil ?_
    refine PW.ret ?_
    refine RetOk.free rfl rfl (congrArg eT ?_)
    have h1 : worldOk w = false := by simpa using h1
    simp [judgeBlind, h1]
  ·
    have h1 : worldOk w = true := by simpa using h1
    have kk : judgeBlind w = (w.post.queue.all (blindOk w) && w.net.all (wireBlind w)) := by rw [judgeBlind, h1]; rfl
    have hsl := hw.sent
    have hql := hw.p.q.len
    have hnl := hw.n.len
    clear h1
    refine PW.skip ?_
    refine PW.seq ?_
    refine PW.seq ?_
    refine PW.region ?_
    refine PL.run 1 rfl ?_
    refine PL.nil ?_
    refine PW.block ?_
    refine PW.loopAt (α := Nat) (fun i => ⟨[(1, .bx 1 0), (3, eI (i : Int))], ⟨[(1, (42, eEarth w))], []⟩⟩) (fun i => i ≤ w.post.queue.length ∧ ∀ (j : Nat) (y : Item), j < i → w.post.queue[j]? = some y → blindOk w y = true) (fun i => w.post.queue.length - i) 0 Le.boxes ⟨Nat.zero_le _, fun j y h => by omega⟩ (fun i hi => ?_)
    refine PW.seq ?_
    refine PW.seq ?_
    refine PW.region ?_
    refine PL.run 6 rfl ?_
    refine PL.nil ?_
    refine PW.cond rfl (fun h2 => ?_) (fun h2 => ?_)
    ·
      have hlt : i < w.post.queue.length := by simpa using h2
      clear h2
      obtain ⟨x, hx⟩ : ∃ y, w.post.queue[i]? = some y := ⟨_, List.getElem?_eq_getElem hlt⟩
      have hup : some (PV.lit (.int .i64 (IntKind.i64.wrap ((i : Int) + 1)))) = some (PV.lit (.int .i64 ((i + 1 : Nat) : Int))) := inc_ok (by omega)
      refine PW.skip ?_
      refine PW.seq ?_
      refine PW.block ?_
      refine PW.seq ?_
      refine PW.drawn ((some 17, _) :: (some 18, _) :: (some 19, _) :: (some 20, _) :: (some 21, _) :: (some 22, _) :: (some 23, _) :: (some 24, _) :: (some 25, _) :: []) (0 :: 0 :: 2 :: 6 :: 0 :: 30 :: 62 :: 127 :: 255 :: []) (fun _ => _) mixed rfl rfl rfl rfl rfl
        (.cons rfl (fun ρ => PL.run 1 rfl (PL.nil rfl)) <|
        .cons rfl (fun ρ => PL.run 1 rfl (PL.nil rfl)) <|
        .cons rfl (fun ρ => PL.run 1 rfl (PL.nil rfl)) <|
        .cons rfl (fun ρ => PL.run 1 rfl (PL.nil rfl)) <|
        .cons rfl (fun ρ => PL.run 1 rfl (PL.nil rfl)) <|
        .cons rfl (fun ρ => PL.val (OpV.idx rfl rfl rfl (nat_nonneg i) (map_at' hx) rfl rfl rfl rfl) (wantV_ok rfl) rfl (PL.nil rfl)) <|
        .cons rfl (fun ρ => PL.run 1 rfl (PL.nil rfl)) <|
        .cons rfl (fun ρ => PL.call rfl rfl rfl (spec_l18Item_spec w x hsl) (.cons (.refl _) <| .cons (.refl _) <| .nil) (fun p hp => by subst hp; rfl) (wantV_ok rfl) rfl (fun p hp => by subst hp; exact PL.nil rfl)) <|
        .cons rfl (fun ρ => PL.run 1 rfl (PL.nil rfl)) <|
        .nil _) ?_
      refine PW.cond rfl (fun h3 => ?_) (fun h3 => ?_)
      ·
        refine PW.seq ?_
        refine PW.region ?_
        refine PL.run 1 rfl ?_
        refine PL.nil ?_
        refine PW.ret ?_
        refine RetOk.free rfl rfl (congrArg eT ?_)
        have h3 : blindOk w x = false := by simpa using h3
        rw [kk, all_bad hx h3]; rfl
      ·
        refine PW.skip ?_
        refine PW.region ?_
        refine PL.run 3 rfl ?_
        refine PL.nil ?_
        have h3 : blindOk w x = true := by simpa using h3
        exact ⟨i + 1, Le.boxes ⟨⟨rfl, rfl⟩, trivial⟩ ⟨⟨rfl, rfl⟩, ⟨hup, rfl⟩, trivial⟩, ⟨hlt, all_up hi.2 hx h3⟩, by omega⟩
    ·
      have hq : w.post.queue.all (blindOk w) = true := all_of (by simpa using h2) hi.2
      rw [hq, Bool.true_and] at kk
      clear h2
      refine PW.exit ?_
      refine PW.seq ?_
      refine PW.seq ?_
      refine PW.region ?_
      refine PL.run 1 rfl ?_
      refine PL.nil ?_
      refine PW.block ?_
      refine PW.loopAt (α := Nat) (fun i => ⟨[(1, .bx 1 0), (4, eI (i : Int))], ⟨[(1, (42, eEarth w))], []⟩⟩) (fun i => i ≤ w.net.length ∧ ∀ (j : Nat) (y : Wire), j < i → w.net[j]? = some y → wireBlind w y = true) (fun i => w.net.length - i) 0 Le.boxes ⟨Nat.zero_le _, fun j y h => by omega⟩ (fun n hn => ?_)
      refine PW.seq ?_
      refine PW.seq ?_
      refine PW.region ?_
      refine PL.run 5 rfl ?_
      refine PL.nil ?_
      refine PW.cond rfl (fun h4 => ?_) (fun h4 => ?_)
      ·
        have hlt : n < w.net.length := by simpa using h4
        clear h4
        obtain ⟨x, hx⟩ : ∃ y, w.net[n]? = some y := ⟨_, List.getElem?_eq_getElem hlt⟩
        have hup : some (PV.lit (.int .i64 (IntKind.i64.wrap ((n : Int) + 1)))) = some (PV.lit (.int .i64 ((n + 1 : Nat) : Int))) := inc_ok (by omega)
        refine PW.skip ?_
        refine PW.seq ?_
        refine PW.block ?_
        refine PW.seq ?_
        refine PW.region ?_
        refine PL.run 3 rfl ?_
        refine PL.val (OpV.idx rfl rfl rfl (nat_nonneg n) (map_at' hx) rfl rfl rfl rfl) (wantV_ok rfl) rfl ?_
        refine PL.run 3 rfl ?_
        refine PL.nil ?_
        refine PW.seq ?_
        refine PW.region ?_
        refine PL.run 3 rfl ?_
        refine PL.split (t := 40) rfl (fun h5 => ?_) (fun h5 => ?_)
        ·
          refine PL.run 3 rfl ?_
          refine PL.call rfl rfl rfl (spec_l18Item_spec w x.item hsl) (.cons (.refl _) <| .cons (.refl _) <| .nil) (fun p hp => by subst hp; rfl) (wantV_ok rfl) rfl (fun p hp => ?_)
          subst hp
          refine PL.run 3 rfl ?_
          refine PL.split (t := 47) rfl (fun h6 => ?_) (fun h6 => ?_)
          ·
            refine PL.run 11 rfl ?_
            refine PL.nil ?_
            refine PW.condT rfl ?_
            refine PW.seq ?_
            refine PW.region ?_
            refine PL.run 1 rfl ?_
            refine PL.nil ?_
            refine PW.ret ?_
            refine RetOk.free rfl rfl (congrArg eT ?_)
            have h6 : blindOk w x.item = false := by simpa using h6
            rw [kk, all_bad hx (by rw [wireBlind, h5, h6]; rfl)]
          ·
            refine PL.run 4 rfl ?_
            refine PL.split (t := 51) rfl (fun h7 => ?_) (fun h7 => ?_)
            ·
              refine PL.run 3 rfl ?_
              refine PL.call rfl rfl rfl (spec_l18Sent_spec w x.bytes hsl) (.cons (.refl _) <| .cons (.refl _) <| .nil) (fun p hp => by subst hp; rfl) (wantV_ok rfl) rfl (fun p hp => ?_)
              subst hp
              refine PL.run 3 rfl ?_
              refine PL.nil ?_
              refine PW.cond rfl (fun h8 => ?_) (fun h8 => ?_)
              ·
                refine PW.seq ?_
                refine PW.region ?_
                refine PL.run 1 rfl ?_
                refine PL.nil ?_
                refine PW.ret ?_
                rw [h5] at h7; exact absurd h7 (by decide)
              ·
                refine PW.skip ?_
                refine PW.region ?_
                refine PL.run 3 rfl ?_
                refine PL.nil ?_
                rw [h5] at h7; exact absurd h7 (by decide)
            ·
              refine PL.run 7 rfl ?_
              refine PL.nil ?_
              refine PW.condF rfl ?_
              refine PW.skip ?_
              refine PW.region ?_
              refine PL.run 3 rfl ?_
              refine PL.nil ?_
              have h6 : blindOk w x.item = true := by simpa using h6
              exact ⟨n + 1, Le.boxes ⟨⟨rfl, rfl⟩, trivial⟩ ⟨⟨rfl, rfl⟩, ⟨hup, rfl⟩, trivial⟩, ⟨hlt, all_up hn.2 hx (by rw [wireBlind, h5, h6]; rfl)⟩, by omega⟩
        ·
          refine PL.run 11 rfl ?_
          refine PL.split (t := 51) rfl (fun h9 => ?_) (fun h9 => ?_)
          ·
            refine PL.run 3 rfl ?_
            refine PL.call rfl rfl rfl (spec_l18Sent_spec w x.bytes hsl) (.cons (.refl _) <| .cons (.refl _) <| .nil) (fun p hp => by subst hp; rfl) (wantV_ok rfl) rfl (fun p hp => ?_)
            subst hp
            refine PL.run 3 rfl ?_
            refine PL.nil ?_
            refine PW.cond rfl (fun h10 => ?_) (fun h10 => ?_)
            ·
              refine PW.seq ?_
              refine PW.region ?_
              refine PL.run 1 rfl ?_
              refine PL.nil ?_
              refine PW.ret ?_
              refine RetOk.free rfl rfl (congrArg eT ?_)
              rw [kk, all_bad hx (by rw [wireBlind, h5, h10]; rfl)]
            ·
              refine PW.skip ?_
              refine PW.region ?_
              refine PL.run 3 rfl ?_
              refine PL.nil ?_
              exact ⟨n + 1, Le.boxes ⟨⟨rfl, rfl⟩, trivial⟩ ⟨⟨rfl, rfl⟩, ⟨hup, rfl⟩, trivial⟩, ⟨hlt, all_up hn.2 hx (by rw [wireBlind, h5, h10]; rfl)⟩, by omega⟩
          ·
            refine PL.run 7 rfl ?_
            refine PL.nil ?_
            refine PW.condF rfl ?_
            refine PW.skip ?_
            refine PW.region ?_
            refine PL.run 3 rfl ?_
            refine PL.nil ?_
            rw [h5] at h9; exact absurd h9 (by decide)
      ·
        refine PW.exit ?_
        refine PW.seq ?_
        refine PW.region ?_
        refine PL.run 1 rfl ?_
        refine PL.nil ?_
        refine PW.ret ?_
        refine RetOk.free rfl rfl (congrArg eT ?_)
        rw [kk, all_of (by simpa using h4) hn.2]
/- impl.JudgeBlind$1 -/
theorem impl_JudgeBlind_1_spec (w : Earth) (x : Item) (hs : w.sent.length ≤ 16777216) : Pw.Spec Tryz.prog 74 [.agg (eItem x), .rp (eEarth w)] (fun res_ => res_ = eT (!blindOk w x)) := by
  refine spec_of (n := 8) Tryz.call74 Tryz.func74 rfl rfl (by simp) rfl rfl fun W Z => ?_
  refine PW.seq ?_
  refine PW.region ?_
  refine PL.run 2 rfl ?_
  refine PL.nil ?_
  refine PW.seq ?_
  refine PW.region ?_
  refine PL.run 2 rfl ?_
  refine PL.call rfl rfl rfl (impl_blind_spec w x hs) (.cons (.refl _) <| .cons (.refl _) <| .nil) (fun p hp => by subst hp; rfl) (wantV_ok rfl) rfl (fun p hp => ?_)
  subst hp
  refine PL.run 2 rfl ?_
  refine PL.nil ?_
  refine PW.ret ?_
  refine RetOk.free rfl rfl rfl
/- impl.JudgeBlind$2 -/
theorem impl_JudgeBlind_2_spec (w : Earth) (x : Wire) (hs : w.sent.length ≤ 16777216) : Pw.Spec Tryz.prog 76 [.agg (eWire x), .rp (eEarth w)] (fun res_ => res_ = eT (!wireBlind w x)) := by
  refine spec_of (n := 16) Tryz.call76 Tryz.func76 rfl rfl (by simp) rfl rfl fun W Z => ?_
  refine PW.seq ?_
  refine PW.region ?_
  refine PL.run 2 rfl ?_
  refine PL.nil ?_
  refine PW.seq ?_
  refine PW.seq ?_
  refine PW.region ?_
  refine PL.run 2 rfl ?_
  refine PL.nil ?_
  refine PW.cond rfl (fun h1 => ?_) (fun h1 => ?_)
  ·
    refine PW.seq ?_
    refine PW.region ?_
    refine PL.run 3 rfl ?_
    refine PL.call rfl rfl rfl (impl_blind_spec w x.item hs) (.cons (.refl _) <| .cons (.refl _) <| .nil) (fun p hp => by subst hp; rfl) (wantV_ok rfl) rfl (fun p hp => ?_)
    subst hp
    refine PL.run 2 rfl ?_
    refine PL.nil ?_
    refine PW.ret ?_
    refine RetOk.free rfl rfl (congrArg eT ?_)
    rw [wireBlind, h1]; rfl
  ·
    refine PW.skip ?_
    refine PW.seq ?_
    refine PW.region ?_
    refine PL.run 3 rfl ?_
    refine PL.call rfl rfl rfl (impl_sentAt_spec w x.bytes hs) (.cons (.refl _) <| .cons (.refl _) <| .nil) (fun p hp => by subst hp; rfl) (wantV_ok rfl) rfl (fun p hp => ?_)
    subst hp
    refine PL.run 2 rfl ?_
    refine PL.nil ?_
    refine PW.ret ?_
    refine RetOk.free rfl rfl (congrArg eT ?_)
    rw [wireBlind, h1]; simp
/- impl.JudgeBlind -/
theorem impl_JudgeBlind_spec (w : Earth) (hw : SmW w) : Pw.Spec Tryz.prog 26 [.agg (eEarth w)] (fun res_ => res_ = eT (judgeBlind w)) := by
  refine spec_of (n := 18) Tryz.call26 Tryz.func26 rfl rfl (by simp) rfl rfl fun W Z => ?_
  have hsl := hw.sent
  refine PW.seq ?_
  refine PW.region ?_
  refine PL.run 2 rfl ?_
  refine PL.nil ?_
  refine PW.seq ?_
  refine PW.seq ?_
  refine PW.region ?_
  refine PL.run 1 rfl ?_
  refine PL.call rfl rfl rfl (impl_WorldOk_spec w hw) (.cons (.refl _) <| .nil) (fun p hp => by subst hp; rfl) (wantV_ok rfl) rfl (fun p hp => ?_)
  subst hp
  refine PL.run 2 rfl ?_
  refine PL.split (t := 6) rfl (fun h1 => ?_) (fun h1 => ?_)
  ·
    refine PL.run 6 rfl ?_
    refine PL.nil ?_
    refine PW.condT rfl ?_
    refine PW.seq ?_
    refine PW.region ?_
    refine PL.run 1 rfl ?_
    refine PL.nil ?_
    refine PW.ret ?_
    refine RetOk.free rfl rfl (congrArg eT ?_)
    have h1 : worldOk w = false := by simpa using h1
    simp [judgeBlind, h1]
  ·
    refine PL.run 3 rfl ?_
    refine PL.le (Le.freezeP (tv := 1) (id := 1) (cs := eEarth w) (e := [(9, eItems w.post.queue), (6, eT false)]) rfl rfl rfl ⟨⟨rfl, rfl⟩, ⟨rfl, rfl⟩, trivial⟩) ?_
    refine PL.run 1 rfl ?_
    refine PL.call rfl rfl rfl (slices_ContainsFunc__impl_Item_impl_Item_spec w.post.queue 74 [.rp (eEarth w)] (fun x => !blindOk w x) rfl hw.p.q.len (fun i x hx => impl_JudgeBlind_1_spec w x hsl)) (wkl_refl _) (fun p hp => by subst hp; rfl) (wantV_ok rfl) rfl (fun p hp => ?_)
    subst hp
    refine PL.run 1 rfl ?_
    refine PL.nil ?_
    refine PW.cond rfl (fun h2 => ?_) (fun h2 => ?_)
    ·
      refine PW.seq ?_
      refine PW.region ?_
      refine PL.run 1 rfl ?_
      refine PL.nil ?_
      refine PW.ret ?_
      refine RetOk.free rfl rfl (congrArg eT ?_)
      have h1 : worldOk w = true := by simpa using h1
      rw [judgeBlind, h1, ← not_any (blindOk w) w.post.queue, h2]; rfl
    ·
      refine PW.skip ?_
      refine PW.seq ?_
      refine PW.region ?_
      refine PL.run 3 rfl ?_
      refine PL.call rfl rfl rfl (slices_ContainsFunc__impl_Wire_impl_Wire_spec w.net 76 [.rp (eEarth w)] (fun x => !wireBlind w x) rfl hw.n.len (fun i x hx => impl_JudgeBlind_2_spec w x hsl)) (wkl_refl _) (fun p hp => by subst hp; rfl) (wantV_ok rfl) rfl (fun p hp => ?_)
      subst hp
      refine PL.run 2 rfl ?_
      refine PL.nil ?_
      refine PW.ret ?_
      refine RetOk.free rfl rfl (congrArg eT ?_)
      have h1 : worldOk w = true := by simpa using h1
      rw [judgeBlind, h1, ← not_any (blindOk w) w.post.queue, h2, not_any (wireBlind w)]; rfl
def judgeAll (w : Earth) : Bool := judgeRead w && (judgeOnce w && judgeBlind w)
/- spec.JudgeAll -/
theorem spec_JudgeAll_spec (w : Earth) (hw : SmW w) : Pw.Spec Tryz.prog 27 [.agg (eEarth w)] (fun res_ => res_ = eT (judgeAll w)) := by
  refine spec_of (n := 13) Tryz.call27 Tryz.func27 rfl rfl (by simp) rfl rfl fun W Z => ?_
  refine PW.seq ?_
  refine PW.region ?_
  refine PL.run 2 rfl ?_
  refine PL.nil ?_
  refine PW.seq ?_
  refine PW.region ?_
  refine PL.run 1 rfl ?_
  refine PL.call rfl rfl rfl (spec_JudgeRead_spec w hw) (.cons (.refl _) <| .nil) (fun p hp => by subst hp; rfl) (wantV_ok rfl) rfl (fun p hp => ?_)
  subst hp
  refine PL.run 1 rfl ?_
  refine PL.split (t := 5) rfl (fun h1 => ?_) (fun h1 => ?_)
  ·
    refine PL.run 1 rfl ?_
    refine PL.call rfl rfl rfl (spec_JudgeOnce_spec w hw) (.cons (.refl _) <| .nil) (fun p hp => by subst hp; rfl) (wantV_ok rfl) rfl (fun p hp => ?_)
    subst hp
    refine PL.run 2 rfl ?_
    refine PL.split (t := 9) rfl (fun h2 => ?_) (fun h2 => ?_)
    ·
      refine PL.run 1 rfl ?_
      refine PL.call rfl rfl rfl (spec_JudgeBlind_spec w hw) (.cons (.refl _) <| .nil) (fun p hp => by subst hp; rfl) (wantV_ok rfl) rfl (fun p hp => ?_)
      subst hp
      refine PL.run 2 rfl ?_
      refine PL.nil ?_
      refine PW.ret ?_
      refine RetOk.free rfl rfl (congrArg eT ?_)
      rw [judgeAll, h1, h2]; rfl
    ·
      refine PL.run 4 rfl ?_
      refine PL.nil ?_
      refine PW.ret ?_
      refine RetOk.free rfl rfl (congrArg eT ?_)
      rw [judgeAll, h1, h2]; rfl
  ·
    refine PL.run 8 rfl ?_
    refine PL.nil ?_
    refine PW.ret ?_
    refine RetOk.free rfl rfl (congrArg eT ?_)
    rw [judgeAll, h1]; rfl
/- impl.JudgeAll -/
theorem impl_JudgeAll_spec (w : Earth) (hw : SmW w) : Pw.Spec Tryz.prog 28 [.agg (eEarth w)] (fun res_ => res_ = eT (judgeAll w)) := by
  refine spec_of (n := 13) Tryz.call28 Tryz.func28 rfl rfl (by simp) rfl rfl fun W Z => ?_
  refine PW.seq ?_
  refine PW.region ?_
  refine PL.run 2 rfl ?_
  refine PL.nil ?_
  refine PW.seq ?_
  refine PW.region ?_
  refine PL.run 1 rfl ?_
  refine PL.call rfl rfl rfl (impl_JudgeRead_spec w hw) (.cons (.refl _) <| .nil) (fun p hp => by subst hp; rfl) (wantV_ok rfl) rfl (fun p hp => ?_)
  subst hp
  refine PL.run 1 rfl ?_
  refine PL.split (t := 5) rfl (fun h1 => ?_) (fun h1 => ?_)
  ·
    refine PL.run 1 rfl ?_
    refine PL.call rfl rfl rfl (impl_JudgeOnce_spec w hw) (.cons (.refl _) <| .nil) (fun p hp => by subst hp; rfl) (wantV_ok rfl) rfl (fun p hp => ?_)
    subst hp
    refine PL.run 2 rfl ?_
    refine PL.split (t := 9) rfl (fun h2 => ?_) (fun h2 => ?_)
    ·
      refine PL.run 1 rfl ?_
      refine PL.call rfl rfl rfl (impl_JudgeBlind_spec w hw) (.cons (.refl _) <| .nil) (fun p hp => by subst hp; rfl) (wantV_ok rfl) rfl (fun p hp => ?_)
      subst hp
      refine PL.run 2 rfl ?_
      refine PL.nil ?_
      refine PW.ret ?_
      refine RetOk.free rfl rfl (congrArg eT ?_)
      rw [judgeAll, h1, h2]; rfl
    ·
      refine PL.run 4 rfl ?_
      refine PL.nil ?_
      refine PW.ret ?_
      refine RetOk.free rfl rfl (congrArg eT ?_)
      rw [judgeAll, h1, h2]; rfl
  ·
    refine PL.run 8 rfl ?_
    refine PL.nil ?_
    refine PW.ret ?_
    refine RetOk.free rfl rfl (congrArg eT ?_)
    rw [judgeAll, h1]; rfl
end Go.Wl
set_option linter.unusedVariables false
set_option linter.unusedSimpArgs false
set_option maxRecDepth 100000
set_option maxHeartbeats 4000000
namespace Go.Wl
open Go Go.RowKit Go.Pw Go.Proofs
/- laws.FnExactJudgeBlind -/
theorem laws_FnExactJudgeBlind_spec (w : Earth) (hw : BgE w) : Pw.Spec Tryz.prog 7 [.agg (eEarth w)] (fun res_ => res_ = eT true) := by
  refine spec_of (n := 27) Tryz.call7 Tryz.func7 rfl rfl (by simp) rfl rfl fun W Z => ?_
  refine PW.seq ?_
  refine PW.region ?_
  refine PL.run 2 rfl ?_
  refine PL.nil ?_
  refine PW.seq ?_
  refine PW.region ?_
  refine PL.run 1 rfl ?_
  refine PL.nil ?_
  refine PW.seq ?_
  refine PW.region ?_
  refine PL.run 2 rfl ?_
  refine PL.call rfl rfl rfl (laws_szWorld_spec w 1048576 (by decide) (by decide) hw) (.cons (.refl _) <| .cons (.refl _) <| .nil) (fun p hp => by subst hp; rfl) (wantV_ok rfl) rfl (fun p hp => ?_)
  subst hp
  refine PL.run 1 rfl ?_
  refine PL.nil ?_
  refine PW.seq ?_
  refine PW.seq ?_
  refine PW.region ?_
  refine PL.run 2 rfl ?_
  refine PL.nil ?_
  refine PW.cond rfl (fun h1 => ?_) (fun h1 => ?_)
  ·
    refine PW.seq ?_
    refine PW.region ?_
    refine PL.run 1 rfl ?_
    refine PL.nil ?_
    refine PW.ret ?_
    refine RetOk.free rfl rfl rfl
  ·
    have k := szf_or (mEarth w) 1048576
    have hm : mEarth w ≤ 1048576 := by simp only [decide_eq_false_iff_not] at h1; omega
    have hf := mEarth_few hm
    have hs := mEarth_sm hm
    clear h1 k
    refine PW.skip ?_
    refine PW.seq ?_
    refine PW.region ?_
    refine PL.run 1 rfl ?_
    refine PL.call rfl rfl rfl (laws_toWorld_spec w hf) (.cons (.refl _) <| .nil) (fun p hp => by subst hp; rfl) (wantV_ok rfl) rfl (fun p hp => ?_)
    subst hp
    refine PL.call rfl rfl rfl (spec_JudgeBlind_spec w hs) (.cons (.refl _) <| .nil) (fun p hp => by subst hp; rfl) (wantV_ok rfl) rfl (fun p hp => ?_)
    subst hp
    refine PL.run 1 rfl ?_
    refine PL.nil ?_
    refine PW.seq ?_
    refine PW.region ?_
    refine PL.run 1 rfl ?_
    refine PL.call rfl rfl rfl (laws_toWorld_spec w hf) (.cons (.refl _) <| .nil) (fun p hp => by subst hp; rfl) (wantV_ok rfl) rfl (fun p hp => ?_)
    subst hp
    refine PL.run 2 rfl ?_
    refine PL.nil ?_
    refine PW.seq ?_
    refine PW.region ?_
    refine PL.run 1 rfl ?_
    refine PL.call rfl rfl rfl (impl_JudgeBlind_spec w hs) (.cons (.refl _) <| .nil) (fun p hp => by subst hp; rfl) (wantV_ok rfl) rfl (fun p hp => ?_)
    subst hp
    refine PL.run 1 rfl ?_
    refine PL.nil ?_
    refine PW.seq ?_
    refine PW.seq ?_
    refine PW.region ?_
    refine PL.run 2 rfl ?_
    refine PL.val (OpV.neqT rfl rfl rfl rfl rfl) (wantV_ok rfl) rfl ?_
    refine PL.nil ?_
    refine PW.cond rfl (fun h2 => ?_) (fun h2 => ?_)
    ·
      simp at h2
    ·
      refine PW.skip ?_
      refine PW.seq ?_
      refine PW.seq ?_
      refine PW.drawn ((some 22, _) :: (some 23, _) :: (some 24, _) :: (some 25, _) :: (some 26, _) :: []) (0 :: 0 :: 2 :: 7 :: 15 :: []) (fun _ => _) mixed rfl rfl rfl rfl rfl
        (.cons rfl (fun ρ => PL.run 1 rfl (PL.nil rfl)) <|
        .cons rfl (fun ρ => PL.run 1 rfl (PL.nil rfl)) <|
        .cons rfl (fun ρ => PL.call rfl rfl rfl (laws_toWorld_spec w hf) (.cons (.refl _) <| .nil) (fun p hp => by subst hp; rfl) (wantV_ok rfl) rfl (fun p hp => by subst hp; exact PL.nil rfl)) <|
        .cons rfl (fun ρ => PL.call rfl rfl rfl (laws_eqWorld_spec w hf) (.cons (.refl _) <| .cons (.refl _) <| .nil) (fun p hp => by subst hp; rfl) (wantV_ok rfl) rfl (fun p hp => by subst hp; exact PL.nil rfl)) <|
        .cons rfl (fun ρ => PL.run 1 rfl (PL.nil rfl)) <|
        .nil _) ?_
      refine PW.cond rfl (fun h3 => ?_) (fun h3 => ?_)
      ·
        simp at h3
      ·
        refine PW.skip ?_
        refine PW.seq ?_
        refine PW.region ?_
        refine PL.run 1 rfl ?_
        refine PL.nil ?_
        refine PW.ret ?_
        refine RetOk.free rfl rfl rfl
/- laws.FnExactJudgeAll -/
theorem laws_FnExactJudgeAll_spec (w : Earth) (hw : BgE w) : Pw.Spec Tryz.prog 8 [.agg (eEarth w)] (fun res_ => res_ = eT true) := by
  refine spec_of (n := 27) Tryz.call8 Tryz.func8 rfl rfl (by simp) rfl rfl fun W Z => ?_
  refine PW.seq ?_
  refine PW.region ?_
  refine PL.run 2 rfl ?_
  refine PL.nil ?_
  refine PW.seq ?_
  refine PW.region ?_
  refine PL.run 1 rfl ?_
  refine PL.nil ?_
  refine PW.seq ?_
  refine PW.region ?_
  refine PL.run 2 rfl ?_
  refine PL.call rfl rfl rfl (laws_szWorld_spec w 1048576 (by decide) (by decide) hw) (.cons (.refl _) <| .cons (.refl _) <| .nil) (fun p hp => by subst hp; rfl) (wantV_ok rfl) rfl (fun p hp => ?_)
  subst hp
  refine PL.run 1 rfl ?_
  refine PL.nil ?_
  refine PW.seq ?_
  refine PW.seq ?_
  refine PW.region ?_
  refine PL.run 2 rfl ?_
  refine PL.nil ?_
  refine PW.cond rfl (fun h1 => ?_) (fun h1 => ?_)
  ·
    refine PW.seq ?_
    refine PW.region ?_
    refine PL.run 1 rfl ?_
    refine PL.nil ?_
    refine PW.ret ?_
    refine RetOk.free rfl rfl rfl
  ·
    have k := szf_or (mEarth w) 1048576
    have hm : mEarth w ≤ 1048576 := by simp only [decide_eq_false_iff_not] at h1; omega
    have hf := mEarth_few hm
    have hs := mEarth_sm hm
    clear h1 k
    refine PW.skip ?_
    refine PW.seq ?_
    refine PW.region ?_
    refine PL.run 1 rfl ?_
    refine PL.call rfl rfl rfl (laws_toWorld_spec w hf) (.cons (.refl _) <| .nil) (fun p hp => by subst hp; rfl) (wantV_ok rfl) rfl (fun p hp => ?_)
    subst hp
    refine PL.call rfl rfl rfl (spec_JudgeAll_spec w hs) (.cons (.refl _) <| .nil) (fun p hp => by subst hp; rfl) (wantV_ok rfl) rfl (fun p hp => ?_)
    subst hp
    refine PL.run 1 rfl ?_
    refine PL.nil ?_
    refine PW.seq ?_
    refine PW.region ?_
    refine PL.run 1 rfl ?_
    refine PL.call rfl rfl rfl (laws_toWorld_spec w hf) (.cons (.refl _) <| .nil) (fun p hp => by subst hp; rfl) (wantV_ok rfl) rfl (fun p hp => ?_)
    subst hp
    refine PL.run 2 rfl ?_
    refine PL.nil ?_
    refine PW.seq ?_
    refine PW.region ?_
    refine PL.run 1 rfl ?_
    refine PL.call rfl rfl rfl (impl_JudgeAll_spec w hs) (.cons (.refl _) <| .nil) (fun p hp => by subst hp; rfl) (wantV_ok rfl) rfl (fun p hp => ?_)
    subst hp
    refine PL.run 1 rfl ?_
    refine PL.nil ?_
    refine PW.seq ?_
    refine PW.seq ?_
    refine PW.region ?_
    refine PL.run 2 rfl ?_
    refine PL.val (OpV.neqT rfl rfl rfl rfl rfl) (wantV_ok rfl) rfl ?_
    refine PL.nil ?_
    refine PW.cond rfl (fun h2 => ?_) (fun h2 => ?_)
    ·
      simp at h2
    ·
      refine PW.skip ?_
      refine PW.seq ?_
      refine PW.seq ?_
      refine PW.drawn ((some 22, _) :: (some 23, _) :: (some 24, _) :: (some 25, _) :: (some 26, _) :: []) (0 :: 0 :: 2 :: 7 :: 15 :: []) (fun _ => _) mixed rfl rfl rfl rfl rfl
        (.cons rfl (fun ρ => PL.run 1 rfl (PL.nil rfl)) <|
        .cons rfl (fun ρ => PL.run 1 rfl (PL.nil rfl)) <|
        .cons rfl (fun ρ => PL.call rfl rfl rfl (laws_toWorld_spec w hf) (.cons (.refl _) <| .nil) (fun p hp => by subst hp; rfl) (wantV_ok rfl) rfl (fun p hp => by subst hp; exact PL.nil rfl)) <|
        .cons rfl (fun ρ => PL.call rfl rfl rfl (laws_eqWorld_spec w hf) (.cons (.refl _) <| .cons (.refl _) <| .nil) (fun p hp => by subst hp; rfl) (wantV_ok rfl) rfl (fun p hp => by subst hp; exact PL.nil rfl)) <|
        .cons rfl (fun ρ => PL.run 1 rfl (PL.nil rfl)) <|
        .nil _) ?_
      refine PW.cond rfl (fun h3 => ?_) (fun h3 => ?_)
      ·
        simp at h3
      ·
        refine PW.skip ?_
        refine PW.seq ?_
        refine PW.region ?_
        refine PL.run 1 rfl ?_
        refine PL.nil ?_
        refine PW.ret ?_
        refine RetOk.free rfl rfl rfl
end Go.Wl
