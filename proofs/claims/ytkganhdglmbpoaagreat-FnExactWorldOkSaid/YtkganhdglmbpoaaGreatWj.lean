/- The walks, ninth text: lines as bytes (the specification's). -/
import Derived.Test.YtkganhdglmbpoaaGreatWi
set_option linter.unusedVariables false
set_option linter.unusedSimpArgs false
set_option maxRecDepth 100000
namespace Go.Wl
open Go Go.RowKit Go.Pw Go.Proofs
def u8 (n : Int) : UInt8 := UInt8.ofNat (IntKind.u8.wrap n).toNat
theorem u8_eb (n : Int) : eb (u8 n) = [.lit (.int .u8 (IntKind.u8.wrap n))] := by
  have hb : IntKind.u8.bits = 8 := rfl
  have hs : IntKind.u8.signed = false := rfl
  have h : IntKind.u8.wrap n = n % 256 := by simp [IntKind.wrap, hb, hs]
  simp only [eb, u8, h]
  have h0 : 0 ≤ n % 256 := Int.emod_nonneg _ (by decide)
  have h1 : n % 256 < 256 := Int.emod_lt_of_pos _ (by decide)
  rw [UInt8.toNat_ofNat', show (2 : Nat) ^ 8 = 256 from rfl, Nat.mod_eq_of_lt (by omega)]
  rw [Int.toNat_of_nonneg h0]
def lineRoute (l : Line) : List UInt8 := if l.kind = 3 then List.replicate 8 0 else (unhex l.route).getD []
def lineBody (l : Line) : List UInt8 := u8 l.kind :: (lineRoute l ++ (u8 l.topic :: (great l.due 4 ++ (great (l.bytes.length : Nat) 2 ++ l.bytes))))
def lineBytes (l : Line) : List UInt8 := if lineOk l then lineBody l ++ great ((lineBody l).length : Nat) 2 else []
theorem unhexL_len : ∀ (b l : List UInt8), unhexL b = some l → l.length ≤ b.length
  | [], l, h => by simp [unhexL] at h; subst h; exact Nat.le_refl _
  | [_], l, h => by simp [unhexL] at h
  | x :: y :: r, l, h => by
    simp only [unhexL] at h
    split at h
    · cases h
    · split at h
      · rename_i l' hl
        cases h
        have := unhexL_len r l' hl
        simp; omega
      · cases h
theorem lineOk_due {l : Line} (h : lineOk l = true) : 0 ≤ l.due ∧ l.due ≤ 100000 := by
  unfold lineOk at h
  split at h
  · simp [itemOk, inB, itemOf] at h; exact ⟨of_decide_eq_true h.2.2.1.1, of_decide_eq_true h.2.2.1.2⟩
  · split at h
    · simp at h; omega
    · split at h
      · simp [inB] at h; omega
      · cases h
theorem great_len (n many : Int) : (great n many).length ≤ 8 := by
  unfold great; rw [List.length_reverse]; exact little_len n many
theorem bndG {k m c : Nat} {n many : Int} (h : (k + 8) * m ≤ c) : (k + ((great n many).map eb).length) * m ≤ c :=
  Nat.le_trans (Nat.mul_le_mul_right _ (Nat.add_le_add_left (by rw [List.length_map]; exact great_len _ _) _)) h
theorem bndG' {k c : Nat} {n many : Int} (h : k + 8 ≤ c) : k + ((great n many).map eb).length ≤ c :=
  Nat.le_trans (Nat.add_le_add_left (by rw [List.length_map]; exact great_len _ _) _) h
theorem unhex_len (s : ByteArray) : ((unhex s).getD []).length ≤ s.size := by
  cases h : unhex s with
  | none => simp
  | some l => exact unhexL_len _ l h
theorem lineRoute_len {l : Line} (h : l.route.size ≤ 1099511627776) : (lineRoute l).length ≤ 1099511627776 := by
  unfold lineRoute
  split
  · simp
  · exact Nat.le_trans (unhex_len _) h
/- spec.LineBytes -/
theorem spec_LineBytes_spec (l : Line) (h : l.bytes.length ≤ 16777216) (hs : l.route.size ≤ 1099511627776) : Pw.Spec Tryz.prog 138 [.agg (eLine l)] (fun res_ => res_ = eBs (lineBytes l)) := by
  refine spec_of (n := 52) Tryz.call138 Tryz.func138 rfl rfl (by simp) rfl rfl fun W Z => ?_
  refine PW.seq ?_
  refine PW.region ?_
  refine PL.run 2 rfl ?_
  refine PL.nil ?_
  refine PW.seq ?_
  refine PW.seq ?_
  refine PW.region ?_
  refine PL.run 1 rfl ?_
  refine PL.call rfl rfl rfl (spec_LineOk_spec l h hs) (.cons (.refl _) <| .nil) (fun p hp => by subst hp; rfl) (wantV_ok rfl) rfl (fun p hp => ?_)
  subst hp
  refine PL.run 1 rfl ?_
  refine PL.nil ?_
  refine PW.cond rfl (fun h1 => ?_) (fun h1 => ?_)
  ·
    refine PW.seq ?_
    refine PW.region ?_
    refine PL.run 2 rfl ?_
    refine PL.nil ?_
    refine PW.ret ?_
    refine RetOk.of rfl (.one (.leaf (.ro _ _ _))) (by simp) (by simp) ?_
    have : lineOk l = false := by simpa using h1
    simp [lineBytes, this, eBs]
  ·
    have hok : lineOk l = true := by simpa using h1
    have hdue := lineOk_due hok
    have g4 := great_len l.due 4
    have g2 := great_len (l.bytes.length : Nat) 2
    have hr := lineRoute_len hs
    refine PW.skip ?_
    refine PW.seq ?_
    refine PW.region ?_
    refine PL.run 2 rfl ?_
    refine PL.call rfl rfl rfl (spec_Unhex_spec l.route hs) (.cons (.refl _) <| .nil) (fun p hp => by subst hp; rfl) (wantV_ok rfl) rfl (fun p hp => ?_)
    subst hp
    refine PL.run 5 rfl ?_
    refine PL.nil ?_
    refine PW.seq ?_
    refine PW.seq ?_
    refine PW.region ?_
    refine PL.run 3 rfl ?_
    refine PL.nil ?_
    refine PW.cond rfl (fun h2 => ?_) (fun h2 => ?_)
    ·
      have hk : l.kind = 3 := by simpa using h2
      have er : lineRoute l = List.replicate 8 0 := by simp [lineRoute, hk]
      refine PW.region ?_
      refine PL.make rfl rfl rfl rfl rfl rfl rfl rfl rfl (by decide) (by decide) rfl (wantV_ok rfl) rfl ?_
      refine PL.le (Le.freezeBS (tv := 19) (sz := 1) (es := (List.replicate 8 (0 : UInt8)).map eb) (r := []) (b := [(1, (120, eLine l))]) (e := [(1, .bx 1 0)]) rfl rfl rfl rfl rfl (by simp [eb]) (by decide) rfl) ?_
      refine PL.run 1 rfl ?_
      refine PL.nil ?_
      refine PW.seq ?_
      refine PW.region ?_
      refine PL.run 5 rfl ?_
      refine PL.app rfl rfl rfl rfl rfl rfl rfl rfl rfl rfl (by simp <;> omega) (by simp <;> omega) (wantV_ok rfl) rfl ?_
      refine PL.run 1 rfl ?_
      refine PL.nil ?_
      refine PW.seq ?_
      refine PW.region ?_
      refine PL.run 5 rfl ?_
      refine PL.app rfl rfl rfl rfl rfl rfl rfl rfl rfl rfl (by simp <;> omega) (by simp <;> omega) (wantV_ok rfl) rfl ?_
      refine PL.run 1 rfl ?_
      refine PL.nil ?_
      refine PW.seq ?_
      refine PW.region ?_
      refine PL.run 3 rfl ?_
      refine PL.call rfl rfl rfl (spec_Great_ro l.due 4 (by omega)) (.cons (.refl _) <| .cons (.refl _) <| .nil) (fun p hp => by subst hp; rfl) (wantV_ok rfl) rfl (fun p hp => ?_)
      subst hp
      refine PL.app rfl rfl rfl rfl rfl rfl rfl rfl rfl rfl (by simp <;> omega) (by simp <;> omega) (wantV_ok rfl) rfl ?_
      refine PL.run 1 rfl ?_
      refine PL.nil ?_
      refine PW.seq ?_
      refine PW.region ?_
      refine PL.run 4 rfl ?_
      refine PL.call rfl rfl rfl (spec_Great_ro (((l.bytes.map eb).length : Nat) : Int) 2 (by simp; omega)) (.cons (.refl _) <| .cons (.refl _) <| .nil) (fun p hp => by subst hp; rfl) (wantV_ok rfl) rfl (fun p hp => ?_)
      subst hp
      refine PL.app rfl rfl rfl rfl rfl rfl rfl rfl rfl rfl (by simp <;> omega) (by simp <;> omega) (wantV_ok rfl) rfl ?_
      refine PL.run 1 rfl ?_
      refine PL.nil ?_
      refine PW.seq ?_
      refine PW.region ?_
      refine PL.run 3 rfl ?_
      refine PL.app rfl rfl rfl rfl rfl rfl rfl rfl rfl rfl (by simp <;> omega) (by simp <;> omega) (wantV_ok rfl) rfl ?_
      refine PL.run 1 rfl ?_
      refine PL.nil ?_
      refine PW.seq ?_
      refine PW.region ?_
      refine PL.run 3 rfl ?_
      refine PL.call rfl rfl rfl (spec_Great_ro _ 2 (by simp; omega)) (.cons (.refl _) <| .cons (.refl _) <| .nil) (fun p hp => by subst hp; rfl) (wantV_ok rfl) rfl (fun p hp => ?_)
      subst hp
      refine PL.app rfl rfl rfl rfl rfl rfl rfl rfl rfl rfl (bndG (by simp <;> omega)) (bndG' (by simp <;> omega)) (wantV_ok rfl) rfl ?_
      refine PL.run 1 rfl ?_
      refine PL.nil ?_
      refine PW.ret ?_
      refine RetOk.of rfl (.one (.leaf (.ro _ _ _))) (by simp) (by simp) ?_
      simp only [lineBytes, hok, if_true]
      have e : ([[PV.lit (.int .u8 (IntKind.u8.wrap l.kind))]] ++ (lineRoute l).map eb ++ [[PV.lit (.int .u8 (IntKind.u8.wrap l.topic))]] ++ (great l.due 4).map eb ++ (great (l.bytes.length : Nat) 2).map eb ++ l.bytes.map eb) = (lineBody l).map eb := by simp [lineBody, u8_eb]
      rw [er] at e
      simp only [eBs, List.length_map] at e ⊢
      rw [e]
      simp [List.map_append]
    ·
      have hk : l.kind ≠ 3 := by simpa using h2
      have er : lineRoute l = (unhex l.route).getD [] := by simp [lineRoute, hk]
      rw [er] at hr
      refine PW.skip ?_
      refine PW.seq ?_
      refine PW.region ?_
      refine PL.run 5 rfl ?_
      refine PL.app rfl rfl rfl rfl rfl rfl rfl rfl rfl rfl (by simp <;> omega) (by simp <;> omega) (wantV_ok rfl) rfl ?_
      refine PL.run 1 rfl ?_
      refine PL.nil ?_
      refine PW.seq ?_
      refine PW.region ?_
      refine PL.run 5 rfl ?_
      refine PL.app rfl rfl rfl rfl rfl rfl rfl rfl rfl rfl (by simp <;> omega) (by simp <;> omega) (wantV_ok rfl) rfl ?_
      refine PL.run 1 rfl ?_
      refine PL.nil ?_
      refine PW.seq ?_
      refine PW.region ?_
      refine PL.run 3 rfl ?_
      refine PL.call rfl rfl rfl (spec_Great_ro l.due 4 (by omega)) (.cons (.refl _) <| .cons (.refl _) <| .nil) (fun p hp => by subst hp; rfl) (wantV_ok rfl) rfl (fun p hp => ?_)
      subst hp
      refine PL.app rfl rfl rfl rfl rfl rfl rfl rfl rfl rfl (by simp <;> omega) (by simp <;> omega) (wantV_ok rfl) rfl ?_
      refine PL.run 1 rfl ?_
      refine PL.nil ?_
      refine PW.seq ?_
      refine PW.region ?_
      refine PL.run 4 rfl ?_
      refine PL.call rfl rfl rfl (spec_Great_ro (((l.bytes.map eb).length : Nat) : Int) 2 (by simp; omega)) (.cons (.refl _) <| .cons (.refl _) <| .nil) (fun p hp => by subst hp; rfl) (wantV_ok rfl) rfl (fun p hp => ?_)
      subst hp
      refine PL.app rfl rfl rfl rfl rfl rfl rfl rfl rfl rfl (by simp <;> omega) (by simp <;> omega) (wantV_ok rfl) rfl ?_
      refine PL.run 1 rfl ?_
      refine PL.nil ?_
      refine PW.seq ?_
      refine PW.region ?_
      refine PL.run 3 rfl ?_
      refine PL.app rfl rfl rfl rfl rfl rfl rfl rfl rfl rfl (by simp <;> omega) (by simp <;> omega) (wantV_ok rfl) rfl ?_
      refine PL.run 1 rfl ?_
      refine PL.nil ?_
      refine PW.seq ?_
      refine PW.region ?_
      refine PL.run 3 rfl ?_
      refine PL.call rfl rfl rfl (spec_Great_ro _ 2 (by simp; omega)) (.cons (.refl _) <| .cons (.refl _) <| .nil) (fun p hp => by subst hp; rfl) (wantV_ok rfl) rfl (fun p hp => ?_)
      subst hp
      refine PL.app rfl rfl rfl rfl rfl rfl rfl rfl rfl rfl (bndG (by simp <;> omega)) (bndG' (by simp <;> omega)) (wantV_ok rfl) rfl ?_
      refine PL.run 1 rfl ?_
      refine PL.nil ?_
      refine PW.ret ?_
      refine RetOk.of rfl (.one (.leaf (.ro _ _ _))) (by simp) (by simp) ?_
      simp only [lineBytes, hok, if_true]
      have e : ([[PV.lit (.int .u8 (IntKind.u8.wrap l.kind))]] ++ (lineRoute l).map eb ++ [[PV.lit (.int .u8 (IntKind.u8.wrap l.topic))]] ++ (great l.due 4).map eb ++ (great (l.bytes.length : Nat) 2).map eb ++ l.bytes.map eb) = (lineBody l).map eb := by simp [lineBody, u8_eb]
      rw [er] at e
      simp only [eBs, List.length_map] at e ⊢
      rw [e]
      simp [List.map_append]
end Go.Wl
