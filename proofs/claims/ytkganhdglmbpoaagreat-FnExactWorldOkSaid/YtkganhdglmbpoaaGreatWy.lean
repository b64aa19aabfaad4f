/- The walks: the law's measures. -/
import Derived.Test.YtkganhdglmbpoaaGreatWx
set_option linter.unusedVariables false
set_option linter.unusedSimpArgs false
set_option maxRecDepth 100000
set_option maxHeartbeats 4000000
namespace Go.Wl
open Go Go.RowKit Go.Pw Go.Proofs
/-- What is left of a measure: -1 when it is spent. -/
def szf (m : Nat) (left : Int) : Int := if left - m < 0 then -1 else left - m
theorem szf_or (m : Nat) (left : Int) : (szf m left = -1 ∧ left - m < 0) ∨ (szf m left = left - m ∧ 0 ≤ left - m) := by
  unfold szf
  split
  · exact .inl ⟨rfl, by assumption⟩
  · exact .inr ⟨rfl, by omega⟩
theorem szf_le {m : Nat} {left : Int} (h : left ≤ 1048576) : szf m left ≤ 1048576 := by
  rcases szf_or m left with h1 | h1 <;> omega
def mL {α : Type} (f : α → Nat) (l : List α) : Nat := l.length + (l.map f).sum
def mItem (x : Item) : Nat := x.route.size + x.bytes.length
def mPost (p : Post) : Nat := mL mItem p.queue + p.book.length
def mReader (r : Reader) : Nat := r.seed.length + mL List.length r.seen + mL List.length r.got
def mWire (w : Wire) : Nat := mItem w.item + w.bytes.length
def mSent (s : Sent) : Nat := s.route.size + s.note.length + s.bytes.length
def mEarth (w : Earth) : Nat := w.seed.length + mPost w.post + mReader w.reader + mL mWire w.net + mL mSent w.sent
def sumT {α : Type} (f : α → Nat) (l : List α) (i : Nat) : Nat := ((l.take i).map f).sum
theorem sumT_step {α : Type} {f : α → Nat} {l : List α} {i : Nat} {y : α} (h : l[i]? = some y) : sumT f l (i + 1) = sumT f l i + f y := by
  rw [sumT, take_step h, List.map_append, List.sum_append]; simp [sumT]
theorem sumT_le {α : Type} {f : α → Nat} {l : List α} (i : Nat) : sumT f l i ≤ (l.map f).sum := by
  conv => rhs; rw [← List.take_append_drop i l, List.map_append, List.sum_append]
  exact Nat.le_add_right _ _
theorem sumT_end {α : Type} {f : α → Nat} {l : List α} : sumT f l l.length = (l.map f).sum := by rw [sumT, List.take_length]
/-- Sizes that a slice or a text of the machine may have. -/
abbrev big : Nat := 9223372036854775807
structure BgI (x : Item) : Prop where
  r : x.route.size ≤ big
  b : x.bytes.length ≤ big
structure BgL {α : Type} (P : α → Prop) (l : List α) : Prop where
  len : l.length ≤ big
  all : ∀ (i : Nat) (x : α), l[i]? = some x → P x
structure BgP (p : Post) : Prop where
  q : BgL BgI p.queue
  b : p.book.length ≤ big
abbrev BgB (b : List UInt8) : Prop := b.length ≤ big
structure BgR (r : Reader) : Prop where
  s : BgB r.seed
  seen : BgL BgB r.seen
  got : BgL BgB r.got
structure BgW (w : Wire) : Prop where
  i : BgI w.item
  b : BgB w.bytes
structure BgS (s : Sent) : Prop where
  r : s.route.size ≤ big
  n : BgB s.note
  b : BgB s.bytes
structure BgE (w : Earth) : Prop where
  seed : BgB w.seed
  p : BgP w.post
  r : BgR w.reader
  n : BgL BgW w.net
  s : BgL BgS w.sent
theorem szw {left : Int} {m : Nat} (g0 : 0 ≤ left) (g1 : left ≤ 1048576) (hb : m ≤ big) : IntKind.i64.wrap (left - (m : Int)) = left - (m : Int) := by
  have hb : m ≤ 9223372036854775807 := hb
  exact wrap_id (by omega) (by omega)
/- laws.szByteS -/
theorem laws_szByteS_spec (b : List UInt8) (left : Int) (g0 : 0 ≤ left) (g1 : left ≤ 1048576) (hb : BgB b) : Pw.Spec Tryz.prog 29 [eBs b, eI left] (fun res_ => res_ = eI (szf b.length left)) := by
  refine spec_of (n := 12) Tryz.call29 Tryz.func29 rfl rfl (by simp) rfl rfl fun W Z => ?_
  have e : IntKind.i64.wrap (left - ((b.map eb).length : Nat)) = left - (b.length : Nat) := by rw [List.length_map]; exact szw g0 g1 hb
  have k := szf_or b.length left
  refine PW.seq ?_
  refine PW.region ?_
  refine PL.run 1 rfl ?_
  refine PL.nil ?_
  refine PW.seq ?_
  refine PW.region ?_
  refine PL.run 5 rfl ?_
  refine PL.nil ?_
  refine PW.seq ?_
  refine PW.seq ?_
  refine PW.region ?_
  refine PL.run 2 rfl ?_
  refine PL.nil ?_
  refine PW.cond rfl (fun h1 => ?_) (fun h1 => ?_)
  ·
    refine PW.seq ?_
    refine PW.region ?_
    refine PL.run 1 rfl ?_
    refine PL.nil ?_
    refine PW.ret ?_
    refine RetOk.free rfl rfl (congrArg eI ?_)
    rw [e] at h1; simp only [decide_eq_true_eq] at h1; omega
  ·
    refine PW.skip ?_
    refine PW.seq ?_
    refine PW.region ?_
    refine PL.run 2 rfl ?_
    refine PL.nil ?_
    refine PW.ret ?_
    refine RetOk.free rfl rfl (congrArg eI ?_)
    rw [e] at h1 ⊢; simp only [decide_eq_false_iff_not] at h1; omega
/- laws.szItem -/
theorem laws_szItem_spec (x : Item) (left : Int) (g0 : 0 ≤ left) (g1 : left ≤ 1048576) (hb : BgI x) : Pw.Spec Tryz.prog 114 [.agg (eItem x), eI left] (fun res_ => res_ = eI (szf (mItem x) left)) := by
  refine spec_of (n := 19) Tryz.call114 Tryz.func114 rfl rfl (by simp) rfl rfl fun W Z => ?_
  have e : IntKind.i64.wrap (left - (x.route.size : Nat)) = left - (x.route.size : Nat) := szw g0 g1 hb.r
  have k := szf_or (mItem x) left
  have km : mItem x = x.route.size + x.bytes.length := rfl
  have k2 := szf_or x.bytes.length (left - (x.route.size : Nat))
  refine PW.seq ?_
  refine PW.region ?_
  refine PL.run 2 rfl ?_
  refine PL.nil ?_
  refine PW.seq ?_
  refine PW.region ?_
  refine PL.run 6 rfl ?_
  refine PL.nil ?_
  refine PW.seq ?_
  refine PW.seq ?_
  refine PW.region ?_
  refine PL.run 2 rfl ?_
  refine PL.nil ?_
  refine PW.cond rfl (fun h1 => ?_) (fun h1 => ?_)
  ·
    refine PW.seq ?_
    refine PW.region ?_
    refine PL.run 1 rfl ?_
    refine PL.nil ?_
    refine PW.ret ?_
    refine RetOk.free rfl rfl (congrArg eI ?_)
    rw [e] at h1; simp only [decide_eq_true_eq] at h1; omega
  ·
    refine PW.skip ?_
    refine PW.seq ?_
    refine PW.region ?_
    refine PL.run 3 rfl ?_
    refine PL.call rfl rfl rfl (laws_szByteS_spec x.bytes _ (by rw [e] at h1 ⊢; simp only [decide_eq_false_iff_not] at h1; omega) (by rw [e]; omega) hb.b) (.cons (.refl _) <| .cons (.refl _) <| .nil) (fun p hp => by subst hp; rfl) (wantV_ok rfl) rfl (fun p hp => ?_)
    subst hp
    refine PL.run 1 rfl ?_
    refine PL.nil ?_
    refine PW.seq ?_
    refine PW.seq ?_
    refine PW.region ?_
    refine PL.run 2 rfl ?_
    refine PL.nil ?_
    refine PW.cond rfl (fun h2 => ?_) (fun h2 => ?_)
    ·
      refine PW.seq ?_
      refine PW.region ?_
      refine PL.run 1 rfl ?_
      refine PL.nil ?_
      refine PW.ret ?_
      refine RetOk.free rfl rfl (congrArg eI ?_)
      rw [e] at h1 h2; simp only [decide_eq_true_eq, decide_eq_false_iff_not] at h1 h2; omega
    ·
      refine PW.skip ?_
      refine PW.seq ?_
      refine PW.region ?_
      refine PL.run 2 rfl ?_
      refine PL.nil ?_
      refine PW.ret ?_
      refine RetOk.free rfl rfl (congrArg eI ?_)
      rw [e] at h1 h2 ⊢; simp only [decide_eq_false_iff_not] at h1 h2; omega
/- laws.szItemS -/
theorem laws_szItemS_spec (q : List Item) (left : Int) (g0 : 0 ≤ left) (g1 : left ≤ 1048576) (hb : BgL BgI q) : Pw.Spec Tryz.prog 77 [eItems q, eI left] (fun res_ => res_ = eI (szf (mL mItem q) left)) := by
  refine spec_of (n := 27) Tryz.call77 Tryz.func77 rfl rfl (by simp) rfl rfl fun W Z => ?_
  have e : IntKind.i64.wrap (left - ((q.map eItem).length : Nat)) = left - (q.length : Nat) := by rw [List.length_map]; exact szw g0 g1 hb.len
  have k := szf_or (mL mItem q) left
  have km : mL mItem q = q.length + (q.map mItem).sum := rfl
  refine PW.seq ?_
  refine PW.region ?_
  refine PL.run 1 rfl ?_
  refine PL.nil ?_
  refine PW.seq ?_
  refine PW.region ?_
  refine PL.run 5 rfl ?_
  refine PL.nil ?_
  refine PW.seq ?_
  refine PW.seq ?_
  refine PW.region ?_
  refine PL.run 2 rfl ?_
  refine PL.nil ?_
  refine PW.cond rfl (fun h1 => ?_) (fun h1 => ?_)
  ·
    refine PW.seq ?_
    refine PW.region ?_
    refine PL.run 1 rfl ?_
    refine PL.nil ?_
    refine PW.ret ?_
    refine RetOk.free rfl rfl (congrArg eI ?_)
    rw [e] at h1; simp only [decide_eq_true_eq] at h1; omega
  ·
    refine PW.skip ?_
    refine PW.seq ?_
    refine PW.seq ?_
    refine PW.region ?_
    refine PL.run 1 rfl ?_
    refine PL.nil ?_
    refine PW.block ?_
    have g2 : 0 ≤ left - (q.length : Nat) := by rw [e] at h1; simp only [decide_eq_false_iff_not] at h1; omega
    clear h1
    refine PW.loopAt (α := Nat) (fun i => ⟨[(0, eItems q), (1, eI (left - (q.length : Nat) - (sumT mItem q i : Nat))), (5, eI (i : Int))], PH.none⟩) (fun i => i ≤ q.length ∧ 0 ≤ left - (q.length : Nat) - (sumT mItem q i : Nat)) (fun i => q.length - i) 0 (Le.free ⟨⟨rfl, rfl⟩, ⟨congrArg (fun n => some (eI n)) (by rw [e]; simp [sumT]), rfl⟩, ⟨rfl, rfl⟩, trivial⟩) ⟨Nat.zero_le _, by simp [sumT]; omega⟩ (fun i hi => ?_)
    obtain ⟨hi, hs⟩ := hi
    refine PW.seq ?_
    refine PW.seq ?_
    refine PW.region ?_
    refine PL.run 4 rfl ?_
    refine PL.nil ?_
    refine PW.cond rfl (fun h2 => ?_) (fun h2 => ?_)
    ·
      have hlt : i < q.length := by simpa using h2
      clear h2
      obtain ⟨y, hy⟩ : ∃ y, q[i]? = some y := ⟨_, List.getElem?_eq_getElem hlt⟩
      have hup : some (PV.lit (.int .i64 (IntKind.i64.wrap ((i : Int) + 1)))) = some (PV.lit (.int .i64 ((i + 1 : Nat) : Int))) := inc_ok (by omega)
      have hst := sumT_step (f := mItem) hy
      have hle := sumT_le (f := mItem) (l := q) (i + 1)
      have k2 := szf_or (mItem y) (left - (q.length : Nat) - (sumT mItem q i : Nat))
      refine PW.skip ?_
      refine PW.seq ?_
      refine PW.block ?_
      refine PW.seq ?_
      refine PW.region ?_
      refine PL.run 2 rfl ?_
      refine PL.val (OpV.idx rfl rfl rfl (nat_nonneg i) (map_at' hy) rfl rfl rfl rfl) (wantV_ok rfl) rfl ?_
      refine PL.run 2 rfl ?_
      refine PL.call rfl rfl rfl (laws_szItem_spec y _ hs (by omega) (hb.all i y hy)) (.cons (.refl _) <| .cons (.refl _) <| .nil) (fun p hp => by subst hp; rfl) (wantV_ok rfl) rfl (fun p hp => ?_)
      subst hp
      refine PL.run 1 rfl ?_
      refine PL.nil ?_
      refine PW.seq ?_
      refine PW.region ?_
      refine PL.run 2 rfl ?_
      refine PL.nil ?_
      refine PW.cond rfl (fun h3 => ?_) (fun h3 => ?_)
      ·
        refine PW.seq ?_
        refine PW.region ?_
        refine PL.run 1 rfl ?_
        refine PL.nil ?_
        refine PW.ret ?_
        refine RetOk.free rfl rfl (congrArg eI ?_)
        simp only [decide_eq_true_eq] at h3; omega
      ·
        refine PW.skip ?_
        refine PW.region ?_
        refine PL.run 3 rfl ?_
        refine PL.nil ?_
        have h4 : szf (mItem y) (left - (q.length : Nat) - (sumT mItem q i : Nat)) = left - (q.length : Nat) - (sumT mItem q (i + 1) : Nat) := by simp only [decide_eq_false_iff_not] at h3; omega
        refine ⟨i + 1, Le.free ⟨⟨rfl, rfl⟩, ⟨congrArg (fun n => some (eI n)) h4, rfl⟩, ⟨hup, rfl⟩, trivial⟩, ⟨hlt, by simp only [decide_eq_false_iff_not] at h3; omega⟩, by omega⟩
    ·
      have hge : i = q.length := Nat.le_antisymm hi (by simpa using h2)
      refine PW.exit ?_
      refine PW.seq ?_
      refine PW.region ?_
      refine PL.run 2 rfl ?_
      refine PL.nil ?_
      refine PW.ret ?_
      refine RetOk.free rfl rfl (congrArg eI ?_)
      have := sumT_end (f := mItem) (l := q)
      subst hge; omega
/- laws.szPost -/
theorem laws_szPost_spec (p : Post) (left : Int) (g0 : 0 ≤ left) (g1 : left ≤ 1048576) (hb : BgP p) : Pw.Spec Tryz.prog 30 [.agg (ePost p), eI left] (fun res_ => res_ = eI (szf (mPost p) left)) := by
  refine spec_of (n := 18) Tryz.call30 Tryz.func30 rfl rfl (by simp) rfl rfl fun W Z => ?_
  have k := szf_or (mPost p) left
  have km : mPost p = mL mItem p.queue + p.book.length := rfl
  have k1 := szf_or (mL mItem p.queue) (left)
  have k2 := szf_or (p.book.length) (szf (mL mItem p.queue) (left))
  refine PW.seq ?_
  refine PW.region ?_
  refine PL.run 2 rfl ?_
  refine PL.nil ?_
  refine PW.seq ?_
  refine PW.region ?_
  refine PL.run 3 rfl ?_
  refine PL.call rfl rfl rfl (laws_szItemS_spec p.queue _ (by omega) (by omega) hb.q) (.cons (.refl _) <| .cons (.refl _) <| .nil) (fun p hp => by subst hp; rfl) (wantV_ok rfl) rfl (fun p hp => ?_)
  subst hp
  refine PL.run 1 rfl ?_
  refine PL.nil ?_
  refine PW.seq ?_
  refine PW.seq ?_
  refine PW.region ?_
  refine PL.run 2 rfl ?_
  refine PL.nil ?_
  refine PW.cond rfl (fun h1 => ?_) (fun h1 => ?_)
  ·
    refine PW.seq ?_
    refine PW.region ?_
    refine PL.run 1 rfl ?_
    refine PL.nil ?_
    refine PW.ret ?_
    refine RetOk.free rfl rfl (congrArg eI ?_)
    simp only [decide_eq_true_eq, decide_eq_false_iff_not] at h1; omega
  ·
    refine PW.skip ?_
    refine PW.seq ?_
    refine PW.region ?_
    refine PL.run 3 rfl ?_
    refine PL.call rfl rfl rfl (laws_szByteS_spec p.book _ (by simp only [decide_eq_false_iff_not] at h1; omega) (by simp only [decide_eq_false_iff_not] at h1; omega) hb.b) (.cons (.refl _) <| .cons (.refl _) <| .nil) (fun p hp => by subst hp; rfl) (wantV_ok rfl) rfl (fun p hp => ?_)
    subst hp
    refine PL.run 1 rfl ?_
    refine PL.nil ?_
    refine PW.seq ?_
    refine PW.seq ?_
    refine PW.region ?_
    refine PL.run 2 rfl ?_
    refine PL.nil ?_
    refine PW.cond rfl (fun h2 => ?_) (fun h2 => ?_)
    ·
      refine PW.seq ?_
      refine PW.region ?_
      refine PL.run 1 rfl ?_
      refine PL.nil ?_
      refine PW.ret ?_
      refine RetOk.free rfl rfl (congrArg eI ?_)
      simp only [decide_eq_true_eq, decide_eq_false_iff_not] at h1 h2; omega
    ·
      refine PW.skip ?_
      refine PW.seq ?_
      refine PW.region ?_
      refine PL.run 2 rfl ?_
      refine PL.nil ?_
      refine PW.ret ?_
      refine RetOk.free rfl rfl (congrArg eI ?_)
      simp only [decide_eq_true_eq, decide_eq_false_iff_not] at h1 h2; omega
/- laws.szByteSS -/
theorem laws_szByteSS_spec (q : List (List UInt8)) (left : Int) (g0 : 0 ≤ left) (g1 : left ≤ 1048576) (hb : BgL BgB q) : Pw.Spec Tryz.prog 78 [eBss q, eI left] (fun res_ => res_ = eI (szf (mL List.length q) left)) := by
  refine spec_of (n := 27) Tryz.call78 Tryz.func78 rfl rfl (by simp) rfl rfl fun W Z => ?_
  have e : IntKind.i64.wrap (left - ((q.map eBss1).length : Nat)) = left - (q.length : Nat) := by rw [List.length_map]; exact szw g0 g1 hb.len
  have k := szf_or (mL List.length q) left
  have km : mL List.length q = q.length + (q.map List.length).sum := rfl
  refine PW.seq ?_
  refine PW.region ?_
  refine PL.run 1 rfl ?_
  refine PL.nil ?_
  refine PW.seq ?_
  refine PW.region ?_
  refine PL.run 5 rfl ?_
  refine PL.nil ?_
  refine PW.seq ?_
  refine PW.seq ?_
  refine PW.region ?_
  refine PL.run 2 rfl ?_
  refine PL.nil ?_
  refine PW.cond rfl (fun h1 => ?_) (fun h1 => ?_)
  ·
    refine PW.seq ?_
    refine PW.region ?_
    refine PL.run 1 rfl ?_
    refine PL.nil ?_
    refine PW.ret ?_
    refine RetOk.free rfl rfl (congrArg eI ?_)
    rw [e] at h1; simp only [decide_eq_true_eq] at h1; omega
  ·
    refine PW.skip ?_
    refine PW.seq ?_
    refine PW.seq ?_
    refine PW.region ?_
    refine PL.run 1 rfl ?_
    refine PL.nil ?_
    refine PW.block ?_
    have g2 : 0 ≤ left - (q.length : Nat) := by rw [e] at h1; simp only [decide_eq_false_iff_not] at h1; omega
    clear h1
    refine PW.loopAt (α := Nat) (fun i => ⟨[(0, eBss q), (1, eI (left - (q.length : Nat) - (sumT List.length q i : Nat))), (5, eI (i : Int))], PH.none⟩) (fun i => i ≤ q.length ∧ 0 ≤ left - (q.length : Nat) - (sumT List.length q i : Nat)) (fun i => q.length - i) 0 (Le.free ⟨⟨rfl, rfl⟩, ⟨congrArg (fun n => some (eI n)) (by rw [e]; simp [sumT]), rfl⟩, ⟨rfl, rfl⟩, trivial⟩) ⟨Nat.zero_le _, by simp [sumT]; omega⟩ (fun i hi => ?_)
    obtain ⟨hi, hs⟩ := hi
    refine PW.seq ?_
    refine PW.seq ?_
    refine PW.region ?_
    refine PL.run 4 rfl ?_
    refine PL.nil ?_
    refine PW.cond rfl (fun h2 => ?_) (fun h2 => ?_)
    ·
      have hlt : i < q.length := by simpa using h2
      clear h2
      obtain ⟨y, hy⟩ : ∃ y, q[i]? = some y := ⟨_, List.getElem?_eq_getElem hlt⟩
      have hup : some (PV.lit (.int .i64 (IntKind.i64.wrap ((i : Int) + 1)))) = some (PV.lit (.int .i64 ((i + 1 : Nat) : Int))) := inc_ok (by omega)
      have hst := sumT_step (f := List.length) hy
      have hle := sumT_le (f := List.length) (l := q) (i + 1)
      have k2 := szf_or (y.length) (left - (q.length : Nat) - (sumT List.length q i : Nat))
      refine PW.skip ?_
      refine PW.seq ?_
      refine PW.block ?_
      refine PW.seq ?_
      refine PW.region ?_
      refine PL.run 2 rfl ?_
      refine PL.val (OpV.idx rfl rfl rfl (nat_nonneg i) (map_at' hy) rfl rfl rfl rfl) (wantV_ok rfl) rfl ?_
      refine PL.run 2 rfl ?_
      refine PL.call rfl rfl rfl (laws_szByteS_spec y _ hs (by omega) (hb.all i y hy)) (.cons (.refl _) <| .cons (.refl _) <| .nil) (fun p hp => by subst hp; rfl) (wantV_ok rfl) rfl (fun p hp => ?_)
      subst hp
      refine PL.run 1 rfl ?_
      refine PL.nil ?_
      refine PW.seq ?_
      refine PW.region ?_
      refine PL.run 2 rfl ?_
      refine PL.nil ?_
      refine PW.cond rfl (fun h3 => ?_) (fun h3 => ?_)
      ·
        refine PW.seq ?_
        refine PW.region ?_
        refine PL.run 1 rfl ?_
        refine PL.nil ?_
        refine PW.ret ?_
        refine RetOk.free rfl rfl (congrArg eI ?_)
        simp only [decide_eq_true_eq] at h3; omega
      ·
        refine PW.skip ?_
        refine PW.region ?_
        refine PL.run 3 rfl ?_
        refine PL.nil ?_
        have h4 : szf (y.length) (left - (q.length : Nat) - (sumT List.length q i : Nat)) = left - (q.length : Nat) - (sumT List.length q (i + 1) : Nat) := by simp only [decide_eq_false_iff_not] at h3; omega
        refine ⟨i + 1, Le.free ⟨⟨rfl, rfl⟩, ⟨congrArg (fun n => some (eI n)) h4, rfl⟩, ⟨hup, rfl⟩, trivial⟩, ⟨hlt, by simp only [decide_eq_false_iff_not] at h3; omega⟩, by omega⟩
    ·
      have hge : i = q.length := Nat.le_antisymm hi (by simpa using h2)
      refine PW.exit ?_
      refine PW.seq ?_
      refine PW.region ?_
      refine PL.run 2 rfl ?_
      refine PL.nil ?_
      refine PW.ret ?_
      refine RetOk.free rfl rfl (congrArg eI ?_)
      have := sumT_end (f := List.length) (l := q)
      subst hge; omega
/- laws.szReader -/
theorem laws_szReader_spec (r : Reader) (left : Int) (g0 : 0 ≤ left) (g1 : left ≤ 1048576) (hb : BgR r) : Pw.Spec Tryz.prog 31 [.agg (eReader r), eI left] (fun res_ => res_ = eI (szf (mReader r) left)) := by
  refine spec_of (n := 24) Tryz.call31 Tryz.func31 rfl rfl (by simp) rfl rfl fun W Z => ?_
  have k := szf_or (mReader r) left
  have km : mReader r = r.seed.length + mL List.length r.seen + mL List.length r.got := rfl
  have k1 := szf_or (r.seed.length) (left)
  have k2 := szf_or (mL List.length r.seen) (szf (r.seed.length) (left))
  have k3 := szf_or (mL List.length r.got) (szf (mL List.length r.seen) (szf (r.seed.length) (left)))
  refine PW.seq ?_
  refine PW.region ?_
  refine PL.run 2 rfl ?_
  refine PL.nil ?_
  refine PW.seq ?_
  refine PW.region ?_
  refine PL.run 3 rfl ?_
  refine PL.call rfl rfl rfl (laws_szByteS_spec r.seed _ (by omega) (by omega) hb.s) (.cons (.refl _) <| .cons (.refl _) <| .nil) (fun p hp => by subst hp; rfl) (wantV_ok rfl) rfl (fun p hp => ?_)
  subst hp
  refine PL.run 1 rfl ?_
  refine PL.nil ?_
  refine PW.seq ?_
  refine PW.seq ?_
  refine PW.region ?_
  refine PL.run 2 rfl ?_
  refine PL.nil ?_
  refine PW.cond rfl (fun h1 => ?_) (fun h1 => ?_)
  ·
    refine PW.seq ?_
    refine PW.region ?_
    refine PL.run 1 rfl ?_
    refine PL.nil ?_
    refine PW.ret ?_
    refine RetOk.free rfl rfl (congrArg eI ?_)
    simp only [decide_eq_true_eq, decide_eq_false_iff_not] at h1; omega
  ·
    refine PW.skip ?_
    refine PW.seq ?_
    refine PW.region ?_
    refine PL.run 3 rfl ?_
    refine PL.call rfl rfl rfl (laws_szByteSS_spec r.seen _ (by simp only [decide_eq_false_iff_not] at h1; omega) (by simp only [decide_eq_false_iff_not] at h1; omega) hb.seen) (.cons (.refl _) <| .cons (.refl _) <| .nil) (fun p hp => by subst hp; rfl) (wantV_ok rfl) rfl (fun p hp => ?_)
    subst hp
    refine PL.run 1 rfl ?_
    refine PL.nil ?_
    refine PW.seq ?_
    refine PW.seq ?_
    refine PW.region ?_
    refine PL.run 2 rfl ?_
    refine PL.nil ?_
    refine PW.cond rfl (fun h2 => ?_) (fun h2 => ?_)
    ·
      refine PW.seq ?_
      refine PW.region ?_
      refine PL.run 1 rfl ?_
      refine PL.nil ?_
      refine PW.ret ?_
      refine RetOk.free rfl rfl (congrArg eI ?_)
      simp only [decide_eq_true_eq, decide_eq_false_iff_not] at h1 h2; omega
    ·
      refine PW.skip ?_
      refine PW.seq ?_
      refine PW.region ?_
      refine PL.run 3 rfl ?_
      refine PL.call rfl rfl rfl (laws_szByteSS_spec r.got _ (by simp only [decide_eq_false_iff_not] at h1 h2; omega) (by simp only [decide_eq_false_iff_not] at h1 h2; omega) hb.got) (.cons (.refl _) <| .cons (.refl _) <| .nil) (fun p hp => by subst hp; rfl) (wantV_ok rfl) rfl (fun p hp => ?_)
      subst hp
      refine PL.run 1 rfl ?_
      refine PL.nil ?_
      refine PW.seq ?_
      refine PW.seq ?_
      refine PW.region ?_
      refine PL.run 2 rfl ?_
      refine PL.nil ?_
      refine PW.cond rfl (fun h3 => ?_) (fun h3 => ?_)
      ·
        refine PW.seq ?_
        refine PW.region ?_
        refine PL.run 1 rfl ?_
        refine PL.nil ?_
        refine PW.ret ?_
        refine RetOk.free rfl rfl (congrArg eI ?_)
        simp only [decide_eq_true_eq, decide_eq_false_iff_not] at h1 h2 h3; omega
      ·
        refine PW.skip ?_
        refine PW.seq ?_
        refine PW.region ?_
        refine PL.run 2 rfl ?_
        refine PL.nil ?_
        refine PW.ret ?_
        refine RetOk.free rfl rfl (congrArg eI ?_)
        simp only [decide_eq_true_eq, decide_eq_false_iff_not] at h1 h2 h3; omega
/- laws.szWire -/
theorem laws_szWire_spec (w : Wire) (left : Int) (g0 : 0 ≤ left) (g1 : left ≤ 1048576) (hb : BgW w) : Pw.Spec Tryz.prog 79 [.agg (eWire w), eI left] (fun res_ => res_ = eI (szf (mWire w) left)) := by
  refine spec_of (n := 18) Tryz.call79 Tryz.func79 rfl rfl (by simp) rfl rfl fun W Z => ?_
  have k := szf_or (mWire w) left
  have km : mWire w = mItem w.item + w.bytes.length := rfl
  have k1 := szf_or (mItem w.item) (left)
  have k2 := szf_or (w.bytes.length) (szf (mItem w.item) (left))
  refine PW.seq ?_
  refine PW.region ?_
  refine PL.run 2 rfl ?_
  refine PL.nil ?_
  refine PW.seq ?_
  refine PW.region ?_
  refine PL.run 3 rfl ?_
  refine PL.call rfl rfl rfl (laws_szItem_spec w.item _ (by omega) (by omega) hb.i) (.cons (.refl _) <| .cons (.refl _) <| .nil) (fun p hp => by subst hp; rfl) (wantV_ok rfl) rfl (fun p hp => ?_)
  subst hp
  refine PL.run 1 rfl ?_
  refine PL.nil ?_
  refine PW.seq ?_
  refine PW.seq ?_
  refine PW.region ?_
  refine PL.run 2 rfl ?_
  refine PL.nil ?_
  refine PW.cond rfl (fun h1 => ?_) (fun h1 => ?_)
  ·
    refine PW.seq ?_
    refine PW.region ?_
    refine PL.run 1 rfl ?_
    refine PL.nil ?_
    refine PW.ret ?_
    refine RetOk.free rfl rfl (congrArg eI ?_)
    simp only [decide_eq_true_eq, decide_eq_false_iff_not] at h1; omega
  ·
    refine PW.skip ?_
    refine PW.seq ?_
    refine PW.region ?_
    refine PL.run 3 rfl ?_
    refine PL.call rfl rfl rfl (laws_szByteS_spec w.bytes _ (by simp only [decide_eq_false_iff_not] at h1; omega) (by simp only [decide_eq_false_iff_not] at h1; omega) hb.b) (.cons (.refl _) <| .cons (.refl _) <| .nil) (fun p hp => by subst hp; rfl) (wantV_ok rfl) rfl (fun p hp => ?_)
    subst hp
    refine PL.run 1 rfl ?_
    refine PL.nil ?_
    refine PW.seq ?_
    refine PW.seq ?_
    refine PW.region ?_
    refine PL.run 2 rfl ?_
    refine PL.nil ?_
    refine PW.cond rfl (fun h2 => ?_) (fun h2 => ?_)
    ·
      refine PW.seq ?_
      refine PW.region ?_
      refine PL.run 1 rfl ?_
      refine PL.nil ?_
      refine PW.ret ?_
      refine RetOk.free rfl rfl (congrArg eI ?_)
      simp only [decide_eq_true_eq, decide_eq_false_iff_not] at h1 h2; omega
    ·
      refine PW.skip ?_
      refine PW.seq ?_
      refine PW.region ?_
      refine PL.run 2 rfl ?_
      refine PL.nil ?_
      refine PW.ret ?_
      refine RetOk.free rfl rfl (congrArg eI ?_)
      simp only [decide_eq_true_eq, decide_eq_false_iff_not] at h1 h2; omega
/- laws.szWireS -/
theorem laws_szWireS_spec (q : List Wire) (left : Int) (g0 : 0 ≤ left) (g1 : left ≤ 1048576) (hb : BgL BgW q) : Pw.Spec Tryz.prog 32 [eWires q, eI left] (fun res_ => res_ = eI (szf (mL mWire q) left)) := by
  refine spec_of (n := 27) Tryz.call32 Tryz.func32 rfl rfl (by simp) rfl rfl fun W Z => ?_
  have e : IntKind.i64.wrap (left - ((q.map eWire).length : Nat)) = left - (q.length : Nat) := by rw [List.length_map]; exact szw g0 g1 hb.len
  have k := szf_or (mL mWire q) left
  have km : mL mWire q = q.length + (q.map mWire).sum := rfl
  refine PW.seq ?_
  refine PW.region ?_
  refine PL.run 1 rfl ?_
  refine PL.nil ?_
  refine PW.seq ?_
  refine PW.region ?_
  refine PL.run 5 rfl ?_
  refine PL.nil ?_
  refine PW.seq ?_
  refine PW.seq ?_
  refine PW.region ?_
  refine PL.run 2 rfl ?_
  refine PL.nil ?_
  refine PW.cond rfl (fun h1 => ?_) (fun h1 => ?_)
  ·
    refine PW.seq ?_
    refine PW.region ?_
    refine PL.run 1 rfl ?_
    refine PL.nil ?_
    refine PW.ret ?_
    refine RetOk.free rfl rfl (congrArg eI ?_)
    rw [e] at h1; simp only [decide_eq_true_eq] at h1; omega
  ·
    refine PW.skip ?_
    refine PW.seq ?_
    refine PW.seq ?_
    refine PW.region ?_
    refine PL.run 1 rfl ?_
    refine PL.nil ?_
    refine PW.block ?_
    have g2 : 0 ≤ left - (q.length : Nat) := by rw [e] at h1; simp only [decide_eq_false_iff_not] at h1; omega
    clear h1
    refine PW.loopAt (α := Nat) (fun i => ⟨[(0, eWires q), (1, eI (left - (q.length : Nat) - (sumT mWire q i : Nat))), (5, eI (i : Int))], PH.none⟩) (fun i => i ≤ q.length ∧ 0 ≤ left - (q.length : Nat) - (sumT mWire q i : Nat)) (fun i => q.length - i) 0 (Le.free ⟨⟨rfl, rfl⟩, ⟨congrArg (fun n => some (eI n)) (by rw [e]; simp [sumT]), rfl⟩, ⟨rfl, rfl⟩, trivial⟩) ⟨Nat.zero_le _, by simp [sumT]; omega⟩ (fun i hi => ?_)
    obtain ⟨hi, hs⟩ := hi
    refine PW.seq ?_
    refine PW.seq ?_
    refine PW.region ?_
    refine PL.run 4 rfl ?_
    refine PL.nil ?_
    refine PW.cond rfl (fun h2 => ?_) (fun h2 => ?_)
    ·
      have hlt : i < q.length := by simpa using h2
      clear h2
      obtain ⟨y, hy⟩ : ∃ y, q[i]? = some y := ⟨_, List.getElem?_eq_getElem hlt⟩
      have hup : some (PV.lit (.int .i64 (IntKind.i64.wrap ((i : Int) + 1)))) = some (PV.lit (.int .i64 ((i + 1 : Nat) : Int))) := inc_ok (by omega)
      have hst := sumT_step (f := mWire) hy
      have hle := sumT_le (f := mWire) (l := q) (i + 1)
      have k2 := szf_or (mWire y) (left - (q.length : Nat) - (sumT mWire q i : Nat))
      refine PW.skip ?_
      refine PW.seq ?_
      refine PW.block ?_
      refine PW.seq ?_
      refine PW.region ?_
      refine PL.run 2 rfl ?_
      refine PL.val (OpV.idx rfl rfl rfl (nat_nonneg i) (map_at' hy) rfl rfl rfl rfl) (wantV_ok rfl) rfl ?_
      refine PL.run 2 rfl ?_
      refine PL.call rfl rfl rfl (laws_szWire_spec y _ hs (by omega) (hb.all i y hy)) (.cons (.refl _) <| .cons (.refl _) <| .nil) (fun p hp => by subst hp; rfl) (wantV_ok rfl) rfl (fun p hp => ?_)
      subst hp
      refine PL.run 1 rfl ?_
      refine PL.nil ?_
      refine PW.seq ?_
      refine PW.region ?_
      refine PL.run 2 rfl ?_
      refine PL.nil ?_
      refine PW.cond rfl (fun h3 => ?_) (fun h3 => ?_)
      ·
        refine PW.seq ?_
        refine PW.region ?_
        refine PL.run 1 rfl ?_
        refine PL.nil ?_
        refine PW.ret ?_
        refine RetOk.free rfl rfl (congrArg eI ?_)
        simp only [decide_eq_true_eq] at h3; omega
      ·
        refine PW.skip ?_
        refine PW.region ?_
        refine PL.run 3 rfl ?_
        refine PL.nil ?_
        have h4 : szf (mWire y) (left - (q.length : Nat) - (sumT mWire q i : Nat)) = left - (q.length : Nat) - (sumT mWire q (i + 1) : Nat) := by simp only [decide_eq_false_iff_not] at h3; omega
        refine ⟨i + 1, Le.free ⟨⟨rfl, rfl⟩, ⟨congrArg (fun n => some (eI n)) h4, rfl⟩, ⟨hup, rfl⟩, trivial⟩, ⟨hlt, by simp only [decide_eq_false_iff_not] at h3; omega⟩, by omega⟩
    ·
      have hge : i = q.length := Nat.le_antisymm hi (by simpa using h2)
      refine PW.exit ?_
      refine PW.seq ?_
      refine PW.region ?_
      refine PL.run 2 rfl ?_
      refine PL.nil ?_
      refine PW.ret ?_
      refine RetOk.free rfl rfl (congrArg eI ?_)
      have := sumT_end (f := mWire) (l := q)
      subst hge; omega
/- laws.szSent -/
theorem laws_szSent_spec (x : Sent) (left : Int) (g0 : 0 ≤ left) (g1 : left ≤ 1048576) (hb : BgS x) : Pw.Spec Tryz.prog 80 [.agg (eSent x), eI left] (fun res_ => res_ = eI (szf (mSent x) left)) := by
  refine spec_of (n := 25) Tryz.call80 Tryz.func80 rfl rfl (by simp) rfl rfl fun W Z => ?_
  have e : IntKind.i64.wrap (left - (x.route.size : Nat)) = left - (x.route.size : Nat) := szw g0 g1 hb.r
  have k := szf_or (mSent x) left
  have km : mSent x = x.route.size + x.note.length + x.bytes.length := rfl
  have k2 := szf_or x.note.length (left - (x.route.size : Nat))
  have k3 := szf_or x.bytes.length (szf x.note.length (left - (x.route.size : Nat)))
  refine PW.seq ?_
  refine PW.region ?_
  refine PL.run 2 rfl ?_
  refine PL.nil ?_
  refine PW.seq ?_
  refine PW.region ?_
  refine PL.run 6 rfl ?_
  refine PL.nil ?_
  refine PW.seq ?_
  refine PW.seq ?_
  refine PW.region ?_
  refine PL.run 2 rfl ?_
  refine PL.nil ?_
  refine PW.cond rfl (fun h1 => ?_) (fun h1 => ?_)
  ·
    refine PW.seq ?_
    refine PW.region ?_
    refine PL.run 1 rfl ?_
    refine PL.nil ?_
    refine PW.ret ?_
    refine RetOk.free rfl rfl (congrArg eI ?_)
    rw [e] at h1; simp only [decide_eq_true_eq] at h1; omega
  ·
    refine PW.skip ?_
    refine PW.seq ?_
    refine PW.region ?_
    refine PL.run 3 rfl ?_
    refine PL.call rfl rfl rfl (laws_szByteS_spec x.note _ (by rw [e] at h1 ⊢; simp only [decide_eq_false_iff_not] at h1; omega) (by rw [e]; omega) hb.n) (.cons (.refl _) <| .cons (.refl _) <| .nil) (fun p hp => by subst hp; rfl) (wantV_ok rfl) rfl (fun p hp => ?_)
    subst hp
    refine PL.run 1 rfl ?_
    refine PL.nil ?_
    refine PW.seq ?_
    refine PW.seq ?_
    refine PW.region ?_
    refine PL.run 2 rfl ?_
    refine PL.nil ?_
    refine PW.cond rfl (fun h2 => ?_) (fun h2 => ?_)
    ·
      refine PW.seq ?_
      refine PW.region ?_
      refine PL.run 1 rfl ?_
      refine PL.nil ?_
      refine PW.ret ?_
      refine RetOk.free rfl rfl (congrArg eI ?_)
      rw [e] at h1 h2; simp only [decide_eq_true_eq, decide_eq_false_iff_not] at h1 h2; omega
    ·
      refine PW.skip ?_
      refine PW.seq ?_
      refine PW.region ?_
      refine PL.run 3 rfl ?_
      refine PL.call rfl rfl rfl (laws_szByteS_spec x.bytes _ (by rw [e] at h2 ⊢; simp only [decide_eq_false_iff_not] at h2; omega) (by rw [e]; omega) hb.b) (.cons (.refl _) <| .cons (.refl _) <| .nil) (fun p hp => by subst hp; rfl) (wantV_ok rfl) rfl (fun p hp => ?_)
      subst hp
      refine PL.run 1 rfl ?_
      refine PL.nil ?_
      refine PW.seq ?_
      refine PW.seq ?_
      refine PW.region ?_
      refine PL.run 2 rfl ?_
      refine PL.nil ?_
      refine PW.cond rfl (fun h3 => ?_) (fun h3 => ?_)
      ·
        refine PW.seq ?_
        refine PW.region ?_
        refine PL.run 1 rfl ?_
        refine PL.nil ?_
        refine PW.ret ?_
        refine RetOk.free rfl rfl (congrArg eI ?_)
        rw [e] at h1 h2 h3; simp only [decide_eq_true_eq, decide_eq_false_iff_not] at h1 h2 h3; omega
      ·
        refine PW.skip ?_
        refine PW.seq ?_
        refine PW.region ?_
        refine PL.run 2 rfl ?_
        refine PL.nil ?_
        refine PW.ret ?_
        refine RetOk.free rfl rfl (congrArg eI ?_)
        rw [e] at h1 h2 h3 ⊢; simp only [decide_eq_false_iff_not] at h1 h2 h3; omega
/- laws.szSentS -/
theorem laws_szSentS_spec (q : List Sent) (left : Int) (g0 : 0 ≤ left) (g1 : left ≤ 1048576) (hb : BgL BgS q) : Pw.Spec Tryz.prog 33 [eSents q, eI left] (fun res_ => res_ = eI (szf (mL mSent q) left)) := by
  refine spec_of (n := 27) Tryz.call33 Tryz.func33 rfl rfl (by simp) rfl rfl fun W Z => ?_
  have e : IntKind.i64.wrap (left - ((q.map eSent).length : Nat)) = left - (q.length : Nat) := by rw [List.length_map]; exact szw g0 g1 hb.len
  have k := szf_or (mL mSent q) left
  have km : mL mSent q = q.length + (q.map mSent).sum := rfl
  refine PW.seq ?_
  refine PW.region ?_
  refine PL.run 1 rfl ?_
  refine PL.nil ?_
  refine PW.seq ?_
  refine PW.region ?_
  refine PL.run 5 rfl ?_
  refine PL.nil ?_
  refine PW.seq ?_
  refine PW.seq ?_
  refine PW.region ?_
  refine PL.run 2 rfl ?_
  refine PL.nil ?_
  refine PW.cond rfl (fun h1 => ?_) (fun h1 => ?_)
  ·
    refine PW.seq ?_
    refine PW.region ?_
    refine PL.run 1 rfl ?_
    refine PL.nil ?_
    refine PW.ret ?_
    refine RetOk.free rfl rfl (congrArg eI ?_)
    rw [e] at h1; simp only [decide_eq_true_eq] at h1; omega
  ·
    refine PW.skip ?_
    refine PW.seq ?_
    refine PW.seq ?_
    refine PW.region ?_
    refine PL.run 1 rfl ?_
    refine PL.nil ?_
    refine PW.block ?_
    have g2 : 0 ≤ left - (q.length : Nat) := by rw [e] at h1; simp only [decide_eq_false_iff_not] at h1; omega
    clear h1
    refine PW.loopAt (α := Nat) (fun i => ⟨[(0, eSents q), (1, eI (left - (q.length : Nat) - (sumT mSent q i : Nat))), (5, eI (i : Int))], PH.none⟩) (fun i => i ≤ q.length ∧ 0 ≤ left - (q.length : Nat) - (sumT mSent q i : Nat)) (fun i => q.length - i) 0 (Le.free ⟨⟨rfl, rfl⟩, ⟨congrArg (fun n => some (eI n)) (by rw [e]; simp [sumT]), rfl⟩, ⟨rfl, rfl⟩, trivial⟩) ⟨Nat.zero_le _, by simp [sumT]; omega⟩ (fun i hi => ?_)
    obtain ⟨hi, hs⟩ := hi
    refine PW.seq ?_
    refine PW.seq ?_
    refine PW.region ?_
    refine PL.run 4 rfl ?_
    refine PL.nil ?_
    refine PW.cond rfl (fun h2 => ?_) (fun h2 => ?_)
    ·
      have hlt : i < q.length := by simpa using h2
      clear h2
      obtain ⟨y, hy⟩ : ∃ y, q[i]? = some y := ⟨_, List.getElem?_eq_getElem hlt⟩
      have hup : some (PV.lit (.int .i64 (IntKind.i64.wrap ((i : Int) + 1)))) = some (PV.lit (.int .i64 ((i + 1 : Nat) : Int))) := inc_ok (by omega)
      have hst := sumT_step (f := mSent) hy
      have hle := sumT_le (f := mSent) (l := q) (i + 1)
      have k2 := szf_or (mSent y) (left - (q.length : Nat) - (sumT mSent q i : Nat))
      refine PW.skip ?_
      refine PW.seq ?_
      refine PW.block ?_
      refine PW.seq ?_
      refine PW.region ?_
      refine PL.run 2 rfl ?_
      refine PL.val (OpV.idx rfl rfl rfl (nat_nonneg i) (map_at' hy) rfl rfl rfl rfl) (wantV_ok rfl) rfl ?_
      refine PL.run 2 rfl ?_
      refine PL.call rfl rfl rfl (laws_szSent_spec y _ hs (by omega) (hb.all i y hy)) (.cons (.refl _) <| .cons (.refl _) <| .nil) (fun p hp => by subst hp; rfl) (wantV_ok rfl) rfl (fun p hp => ?_)
      subst hp
      refine PL.run 1 rfl ?_
      refine PL.nil ?_
      refine PW.seq ?_
      refine PW.region ?_
      refine PL.run 2 rfl ?_
      refine PL.nil ?_
      refine PW.cond rfl (fun h3 => ?_) (fun h3 => ?_)
      ·
        refine PW.seq ?_
        refine PW.region ?_
        refine PL.run 1 rfl ?_
        refine PL.nil ?_
        refine PW.ret ?_
        refine RetOk.free rfl rfl (congrArg eI ?_)
        simp only [decide_eq_true_eq] at h3; omega
      ·
        refine PW.skip ?_
        refine PW.region ?_
        refine PL.run 3 rfl ?_
        refine PL.nil ?_
        have h4 : szf (mSent y) (left - (q.length : Nat) - (sumT mSent q i : Nat)) = left - (q.length : Nat) - (sumT mSent q (i + 1) : Nat) := by simp only [decide_eq_false_iff_not] at h3; omega
        refine ⟨i + 1, Le.free ⟨⟨rfl, rfl⟩, ⟨congrArg (fun n => some (eI n)) h4, rfl⟩, ⟨hup, rfl⟩, trivial⟩, ⟨hlt, by simp only [decide_eq_false_iff_not] at h3; omega⟩, by omega⟩
    ·
      have hge : i = q.length := Nat.le_antisymm hi (by simpa using h2)
      refine PW.exit ?_
      refine PW.seq ?_
      refine PW.region ?_
      refine PL.run 2 rfl ?_
      refine PL.nil ?_
      refine PW.ret ?_
      refine RetOk.free rfl rfl (congrArg eI ?_)
      have := sumT_end (f := mSent) (l := q)
      subst hge; omega
/- laws.szWorld -/
theorem laws_szWorld_spec (w : Earth) (left : Int) (g0 : 0 ≤ left) (g1 : left ≤ 1048576) (hb : BgE w) : Pw.Spec Tryz.prog 9 [.agg (eEarth w), eI left] (fun res_ => res_ = eI (szf (mEarth w) left)) := by
  refine spec_of (n := 36) Tryz.call9 Tryz.func9 rfl rfl (by simp) rfl rfl fun W Z => ?_
  have k := szf_or (mEarth w) left
  have km : mEarth w = w.seed.length + mPost w.post + mReader w.reader + mL mWire w.net + mL mSent w.sent := rfl
  have k1 := szf_or (w.seed.length) (left)
  have k2 := szf_or (mPost w.post) (szf (w.seed.length) (left))
  have k3 := szf_or (mReader w.reader) (szf (mPost w.post) (szf (w.seed.length) (left)))
  have k4 := szf_or (mL mWire w.net) (szf (mReader w.reader) (szf (mPost w.post) (szf (w.seed.length) (left))))
  have k5 := szf_or (mL mSent w.sent) (szf (mL mWire w.net) (szf (mReader w.reader) (szf (mPost w.post) (szf (w.seed.length) (left)))))
  refine PW.seq ?_
  refine PW.region ?_
  refine PL.run 2 rfl ?_
  refine PL.nil ?_
  refine PW.seq ?_
  refine PW.region ?_
  refine PL.run 3 rfl ?_
  refine PL.call rfl rfl rfl (laws_szByteS_spec w.seed _ (by omega) (by omega) hb.seed) (.cons (.refl _) <| .cons (.refl _) <| .nil) (fun p hp => by subst hp; rfl) (wantV_ok rfl) rfl (fun p hp => ?_)
  subst hp
  refine PL.run 1 rfl ?_
  refine PL.nil ?_
  refine PW.seq ?_
  refine PW.seq ?_
  refine PW.region ?_
  refine PL.run 2 rfl ?_
  refine PL.nil ?_
  refine PW.cond rfl (fun h1 => ?_) (fun h1 => ?_)
  ·
    refine PW.seq ?_
    refine PW.region ?_
    refine PL.run 1 rfl ?_
    refine PL.nil ?_
    refine PW.ret ?_
    refine RetOk.free rfl rfl (congrArg eI ?_)
    simp only [decide_eq_true_eq, decide_eq_false_iff_not] at h1; omega
  ·
    refine PW.skip ?_
    refine PW.seq ?_
    refine PW.region ?_
    refine PL.run 3 rfl ?_
    refine PL.call rfl rfl rfl (laws_szPost_spec w.post _ (by simp only [decide_eq_false_iff_not] at h1; omega) (by simp only [decide_eq_false_iff_not] at h1; omega) hb.p) (.cons (.refl _) <| .cons (.refl _) <| .nil) (fun p hp => by subst hp; rfl) (wantV_ok rfl) rfl (fun p hp => ?_)
    subst hp
    refine PL.run 1 rfl ?_
    refine PL.nil ?_
    refine PW.seq ?_
    refine PW.seq ?_
    refine PW.region ?_
    refine PL.run 2 rfl ?_
    refine PL.nil ?_
    refine PW.cond rfl (fun h2 => ?_) (fun h2 => ?_)
    ·
      refine PW.seq ?_
      refine PW.region ?_
      refine PL.run 1 rfl ?_
      refine PL.nil ?_
      refine PW.ret ?_
      refine RetOk.free rfl rfl (congrArg eI ?_)
      simp only [decide_eq_true_eq, decide_eq_false_iff_not] at h1 h2; omega
    ·
      refine PW.skip ?_
      refine PW.seq ?_
      refine PW.region ?_
      refine PL.run 3 rfl ?_
      refine PL.call rfl rfl rfl (laws_szReader_spec w.reader _ (by simp only [decide_eq_false_iff_not] at h1 h2; omega) (by simp only [decide_eq_false_iff_not] at h1 h2; omega) hb.r) (.cons (.refl _) <| .cons (.refl _) <| .nil) (fun p hp => by subst hp; rfl) (wantV_ok rfl) rfl (fun p hp => ?_)
      subst hp
      refine PL.run 1 rfl ?_
      refine PL.nil ?_
      refine PW.seq ?_
      refine PW.seq ?_
      refine PW.region ?_
      refine PL.run 2 rfl ?_
      refine PL.nil ?_
      refine PW.cond rfl (fun h3 => ?_) (fun h3 => ?_)
      ·
        refine PW.seq ?_
        refine PW.region ?_
        refine PL.run 1 rfl ?_
        refine PL.nil ?_
        refine PW.ret ?_
        refine RetOk.free rfl rfl (congrArg eI ?_)
        simp only [decide_eq_true_eq, decide_eq_false_iff_not] at h1 h2 h3; omega
      ·
        refine PW.skip ?_
        refine PW.seq ?_
        refine PW.region ?_
        refine PL.run 3 rfl ?_
        refine PL.call rfl rfl rfl (laws_szWireS_spec w.net _ (by simp only [decide_eq_false_iff_not] at h1 h2 h3; omega) (by simp only [decide_eq_false_iff_not] at h1 h2 h3; omega) hb.n) (.cons (.refl _) <| .cons (.refl _) <| .nil) (fun p hp => by subst hp; rfl) (wantV_ok rfl) rfl (fun p hp => ?_)
        subst hp
        refine PL.run 1 rfl ?_
        refine PL.nil ?_
        refine PW.seq ?_
        refine PW.seq ?_
        refine PW.region ?_
        refine PL.run 2 rfl ?_
        refine PL.nil ?_
        refine PW.cond rfl (fun h4 => ?_) (fun h4 => ?_)
        ·
          refine PW.seq ?_
          refine PW.region ?_
          refine PL.run 1 rfl ?_
          refine PL.nil ?_
          refine PW.ret ?_
          refine RetOk.free rfl rfl (congrArg eI ?_)
          simp only [decide_eq_true_eq, decide_eq_false_iff_not] at h1 h2 h3 h4; omega
        ·
          refine PW.skip ?_
          refine PW.seq ?_
          refine PW.region ?_
          refine PL.run 3 rfl ?_
          refine PL.call rfl rfl rfl (laws_szSentS_spec w.sent _ (by simp only [decide_eq_false_iff_not] at h1 h2 h3 h4; omega) (by simp only [decide_eq_false_iff_not] at h1 h2 h3 h4; omega) hb.s) (.cons (.refl _) <| .cons (.refl _) <| .nil) (fun p hp => by subst hp; rfl) (wantV_ok rfl) rfl (fun p hp => ?_)
          subst hp
          refine PL.run 1 rfl ?_
          refine PL.nil ?_
          refine PW.seq ?_
          refine PW.seq ?_
          refine PW.region ?_
          refine PL.run 2 rfl ?_
          refine PL.nil ?_
          refine PW.cond rfl (fun h5 => ?_) (fun h5 => ?_)
          ·
            refine PW.seq ?_
            refine PW.region ?_
            refine PL.run 1 rfl ?_
            refine PL.nil ?_
            refine PW.ret ?_
            refine RetOk.free rfl rfl (congrArg eI ?_)
            simp only [decide_eq_true_eq, decide_eq_false_iff_not] at h1 h2 h3 h4 h5; omega
          ·
            refine PW.skip ?_
            refine PW.seq ?_
            refine PW.region ?_
            refine PL.run 2 rfl ?_
            refine PL.nil ?_
            refine PW.ret ?_
            refine RetOk.free rfl rfl (congrArg eI ?_)
            simp only [decide_eq_true_eq, decide_eq_false_iff_not] at h1 h2 h3 h4 h5; omega
end Go.Wl
