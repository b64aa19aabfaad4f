/- The walks: the law's measures. The walks: the law's copies. The walks: the law's comparisons, at equal arguments. The walks: the law of WorldOk. The engine, twenty-fifth text: what comes in is opened: the reading of a row's arguments gives pure values. What comes in, opened by its type: an item, a post, a reader, a wire, a sent letter, a world. The walks: what was sent; the judges of once and of reading. The walks: the laws of JudgeOnce, JudgeRead. -/
import Derived.Test.YtkganhdglmbpoaaGreatBe5
import Derived.ProofKit
set_option linter.unusedVariables false
set_option linter.unusedSimpArgs false
set_option maxRecDepth 100000
set_option maxHeartbeats 4000000
namespace Go.Wl
open Go Go.RowKit Go.Pw Go.Proofs
/-- What is left of a measure: -1 when it is spent. -/
def szf (m : Nat) (left : Int) : Int := if left - m < 0 then -1 else left - m
theorem szf_or (m : Nat) (left : Int) : (szf m left = -1 ∧ left - m < 0) ∨ (szf m left = left - m ∧ 0 ≤ left - m) := by
  unfold szf
  split
  · exact .inl ⟨rfl, by assumption⟩
  · exact .inr ⟨rfl, by omega⟩
theorem szf_le {m : Nat} {left : Int} (h : left ≤ 1048576) : szf m left ≤ 1048576 := by
  rcases szf_or m left with h1 | h1 <;> omega
def mL {α : Type} (f : α → Nat) (l : List α) : Nat := l.length + (l.map f).sum
def mItem (x : Item) : Nat := x.route.size + x.bytes.length
def mPost (p : Post) : Nat := mL mItem p.queue + p.book.length
def mReader (r : Reader) : Nat := r.seed.length + mL List.length r.seen + mL List.length r.got
def mWire (w : Wire) : Nat := mItem w.item + w.bytes.length
def mSent (s : Sent) : Nat := s.route.size + s.note.length + s.bytes.length
def mEarth (w : Earth) : Nat := w.seed.length + mPost w.post + mReader w.reader + mL mWire w.net + mL mSent w.sent
def sumT {α : Type} (f : α → Nat) (l : List α) (i : Nat) : Nat := ((l.take i).map f).sum
theorem sumT_step {α : Type} {f : α → Nat} {l : List α} {i : Nat} {y : α} (h : l[i]? = some y) : sumT f l (i + 1) = sumT f l i + f y := by
  rw [sumT, take_step h, List.map_append, List.sum_append]; simp [sumT]
theorem sumT_le {α : Type} {f : α → Nat} {l : List α} (i : Nat) : sumT f l i ≤ (l.map f).sum := by
  conv => rhs; rw [← List.take_append_drop i l, List.map_append, List.sum_append]
  exact Nat.le_add_right _ _
theorem sumT_end {α : Type} {f : α → Nat} {l : List α} : sumT f l l.length = (l.map f).sum := by rw [sumT, List.take_length]
/-- Sizes that a slice or a text of the machine may have. -/
abbrev big : Nat := 9223372036854775807
def InI (n : Int) : Prop := -9223372036854775808 ≤ n ∧ n ≤ 9223372036854775807
structure BgI (x : Item) : Prop where
  r : x.route.size ≤ big
  b : x.bytes.length ≤ big
  it : InI x.topic
  id : InI x.due
structure BgL {α : Type} (P : α → Prop) (l : List α) : Prop where
  len : l.length ≤ big
  all : ∀ (i : Nat) (x : α), l[i]? = some x → P x
structure BgP (p : Post) : Prop where
  q : BgL BgI p.queue
  b : p.book.length ≤ big
  it : InI p.time
  is : InI p.sure
abbrev BgB (b : List UInt8) : Prop := b.length ≤ big
structure BgR (r : Reader) : Prop where
  s : BgB r.seed
  seen : BgL BgB r.seen
  got : BgL BgB r.got
  ie : InI r.epoch
structure BgW (w : Wire) : Prop where
  i : BgI w.item
  b : BgB w.bytes
structure BgS (s : Sent) : Prop where
  r : s.route.size ≤ big
  n : BgB s.note
  b : BgB s.bytes
  ie : InI s.epoch
structure BgE (w : Earth) : Prop where
  seed : BgB w.seed
  p : BgP w.post
  r : BgR w.reader
  n : BgL BgW w.net
  s : BgL BgS w.sent
  ic : InI w.count
  ik : InI w.known
theorem szw {left : Int} {m : Nat} (g0 : 0 ≤ left) (g1 : left ≤ 1048576) (hb : m ≤ big) : IntKind.i64.wrap (left - (m : Int)) = left - (m : Int) := by
  have hb : m ≤ 9223372036854775807 := hb
  exact wrap_id (by omega) (by omega)
/- laws.szByteS -/
theorem laws_szByteS_spec (b : List UInt8) (left : Int) (g0 : 0 ≤ left) (g1 : left ≤ 1048576) (hb : BgB b) : Pw.Spec Tryz.prog 29 [eBs b, eI left] (fun res_ => res_ = eI (szf b.length left)) := by
  refine spec_of (n := 12) Tryz.call29 Tryz.func29 rfl rfl (by simp) rfl rfl fun W Z => ?_
  have e : IntKind.i64.wrap (left - ((b.map eb).length : Nat)) = left - (b.length : Nat) := by rw [List.length_map]; exact szw g0 g1 hb
  have k := szf_or b.length left
  refine PW.seq ?_
  refine PW.region ?_
  refine PL.run 1 rfl ?_
  refine PL.nil ?_
  refine PW.seq ?_
  refine PW.region ?_
  refine PL.run 5 rfl ?_
  refine PL.nil ?_
  refine PW.seq ?_
  refine PW.seq ?_
  refine PW.region ?_
  refine PL.run 2 rfl ?_
  refine PL.nil ?_
  refine PW.cond rfl (fun h1 => ?_) (fun h1 => ?_)
  ·
    refine PW.seq ?_
    refine PW.region ?_
    refine PL.run 1 rfl ?_
    refine PL.nil ?_
    refine PW.ret ?_
    refine RetOk.free rfl rfl (congrArg eI ?_)
    rw [e] at h1; simp only [decide_eq_true_eq] at h1; omega
  ·
    refine PW.skip ?_
    refine PW.seq ?_
    refine PW.region ?_
    refine PL.run 2 rfl ?_
    refine PL.nil ?_
    refine PW.ret ?_
    refine RetOk.free rfl rfl (congrArg eI ?_)
    rw [e] at h1 ⊢; simp only [decide_eq_false_iff_not] at h1; omega
/- laws.szItem -/
theorem laws_szItem_spec (x : Item) (left : Int) (g0 : 0 ≤ left) (g1 : left ≤ 1048576) (hb : BgI x) : Pw.Spec Tryz.prog 114 [.agg (eItem x), eI left] (fun res_ => res_ = eI (szf (mItem x) left)) := by
  refine spec_of (n := 19) Tryz.call114 Tryz.func114 rfl rfl (by simp) rfl rfl fun W Z => ?_
  have e : IntKind.i64.wrap (left - (x.route.size : Nat)) = left - (x.route.size : Nat) := szw g0 g1 hb.r
  have k := szf_or (mItem x) left
  have km : mItem x = x.route.size + x.bytes.length := rfl
  have k2 := szf_or x.bytes.length (left - (x.route.size : Nat))
  refine PW.seq ?_
  refine PW.region ?_
  refine PL.run 2 rfl ?_
  refine PL.nil ?_
  refine PW.seq ?_
  refine PW.region ?_
  refine PL.run 6 rfl ?_
  refine PL.nil ?_
  refine PW.seq ?_
  refine PW.seq ?_
  refine PW.region ?_
  refine PL.run 2 rfl ?_
  refine PL.nil ?_
  refine PW.cond rfl (fun h1 => ?_) (fun h1 => ?_)
  ·
    refine PW.seq ?_
    refine PW.region ?_
    refine PL.run 1 rfl ?_
    refine PL.nil ?_
    refine PW.ret ?_
    refine RetOk.free rfl rfl (congrArg eI ?_)
    rw [e] at h1; simp only [decide_eq_true_eq] at h1; omega
  ·
    refine PW.skip ?_
    refine PW.seq ?_
    refine PW.region ?_
    refine PL.run 3 rfl ?_
    refine PL.call rfl rfl rfl (laws_szByteS_spec x.bytes _ (by rw [e] at h1 ⊢; simp only [decide_eq_false_iff_not] at h1; omega) (by rw [e]; omega) hb.b) (.cons (.refl _) <| .cons (.refl _) <| .nil) (fun p hp => by subst hp; rfl) (wantV_ok rfl) rfl (fun p hp => ?_)
    subst hp
    refine PL.run 1 rfl ?_
    refine PL.nil ?_
    refine PW.seq ?_
    refine PW.seq ?_
    refine PW.region ?_
    refine PL.run 2 rfl ?_
    refine PL.nil ?_
    refine PW.cond rfl (fun h2 => ?_) (fun h2 => ?_)
    ·
      refine PW.seq ?_
      refine PW.region ?_
      refine PL.run 1 rfl ?_
      refine PL.nil ?_
      refine PW.ret ?_
      refine RetOk.free rfl rfl (congrArg eI ?_)
      rw [e] at h1 h2; simp only [decide_eq_true_eq, decide_eq_false_iff_not] at h1 h2; omega
    ·
      refine PW.skip ?_
      refine PW.seq ?_
      refine PW.region ?_
      refine PL.run 2 rfl ?_
      refine PL.nil ?_
      refine PW.ret ?_
      refine RetOk.free rfl rfl (congrArg eI ?_)
      rw [e] at h1 h2 ⊢; simp only [decide_eq_false_iff_not] at h1 h2; omega
/- laws.szItemS -/
theorem laws_szItemS_spec (q : List Item) (left : Int) (g0 : 0 ≤ left) (g1 : left ≤ 1048576) (hb : BgL BgI q) : Pw.Spec Tryz.prog 77 [eItems q, eI left] (fun res_ => res_ = eI (szf (mL mItem q) left)) := by
  refine spec_of (n := 27) Tryz.call77 Tryz.func77 rfl rfl (by simp) rfl rfl fun W Z => ?_
  have e : IntKind.i64.wrap (left - ((q.map eItem).length : Nat)) = left - (q.length : Nat) := by rw [List.length_map]; exact szw g0 g1 hb.len
  have k := szf_or (mL mItem q) left
  have km : mL mItem q = q.length + (q.map mItem).sum := rfl
  refine PW.seq ?_
  refine PW.region ?_
  refine PL.run 1 rfl ?_
  refine PL.nil ?_
  refine PW.seq ?_
  refine PW.region ?_
  refine PL.run 5 rfl ?_
  refine PL.nil ?_
  refine PW.seq ?_
  refine PW.seq ?_
  refine PW.region ?_
  refine PL.run 2 rfl ?_
  refine PL.nil ?_
  refine PW.cond rfl (fun h1 => ?_) (fun h1 => ?_)
  ·
    refine PW.seq ?_
    refine PW.region ?_
    refine PL.run 1 rfl ?_
    refine PL.nil ?_
    refine PW.ret ?_
    refine RetOk.free rfl rfl (congrArg eI ?_)
    rw [e] at h1; simp only [decide_eq_true_eq] at h1; omega
  ·
    refine PW.skip ?_
    refine PW.seq ?_
    refine PW.seq ?_
    refine PW.region ?_
    refine PL.run 1 rfl ?_
    refine PL.nil ?_
    refine PW.block ?_
    have g2 : 0 ≤ left - (q.length : Nat) := by rw [e] at h1; simp only [decide_eq_false_iff_not] at h1; omega
    clear h1
    refine PW.loopAt (α := Nat) (fun i => ⟨[(0, eItems q), (1, eI (left - (q.length : Nat) - (sumT mItem q i : Nat))), (5, eI (i : Int))], PH.none⟩) (fun i => i ≤ q.length ∧ 0 ≤ left - (q.length : Nat) - (sumT mItem q i : Nat)) (fun i => q.length - i) 0 (Le.free ⟨⟨rfl, rfl⟩, ⟨congrArg (fun n => some (eI n)) (by rw [e]; simp [sumT]), rfl⟩, ⟨rfl, rfl⟩, trivial⟩) ⟨Nat.zero_le _, by simp [sumT]; omega⟩ (fun i hi => ?_)
    obtain ⟨hi, hs⟩ := hi
    refine PW.seq ?_
    refine PW.seq ?_
    refine PW.region ?_
    refine PL.run 4 rfl ?_
    refine PL.nil ?_
    refine PW.cond rfl (fun h2 => ?_) (fun h2 => ?_)
    ·
      have hlt : i < q.length := by simpa using h2
      clear h2
      obtain ⟨y, hy⟩ : ∃ y, q[i]? = some y := ⟨_, List.getElem?_eq_getElem hlt⟩
      have hup : some (PV.lit (.int .i64 (IntKind.i64.wrap ((i : Int) + 1)))) = some (PV.lit (.int .i64 ((i + 1 : Nat) : Int))) := inc_ok (by omega)
      have hst := sumT_step (f := mItem) hy
      have hle := sumT_le (f := mItem) (l := q) (i + 1)
      have k2 := szf_or (mItem y) (left - (q.length : Nat) - (sumT mItem q i : Nat))
      refine PW.skip ?_
      refine PW.seq ?_
      refine PW.block ?_
      refine PW.seq ?_
      refine PW.region ?_
      refine PL.run 2 rfl ?_
      refine PL.val (OpV.idx rfl rfl rfl (nat_nonneg i) (map_at' hy) rfl rfl rfl rfl) (wantV_ok rfl) rfl ?_
      refine PL.run 2 rfl ?_
      refine PL.call rfl rfl rfl (laws_szItem_spec y _ hs (by omega) (hb.all i y hy)) (.cons (.refl _) <| .cons (.refl _) <| .nil) (fun p hp => by subst hp; rfl) (wantV_ok rfl) rfl (fun p hp => ?_)
      subst hp
      refine PL.run 1 rfl ?_
      refine PL.nil ?_
      refine PW.seq ?_
      refine PW.region ?_
      refine PL.run 2 rfl ?_
      refine PL.nil ?_
      refine PW.cond rfl (fun h3 => ?_) (fun h3 => ?_)
      ·
        refine PW.seq ?_
        refine PW.region ?_
        refine PL.run 1 rfl ?_
        refine PL.nil ?_
        refine PW.ret ?_
        refine RetOk.free rfl rfl (congrArg eI ?_)
        simp only [decide_eq_true_eq] at h3; omega
      ·
        refine PW.skip ?_
        refine PW.region ?_
        refine PL.run 3 rfl ?_
        refine PL.nil ?_
        have h4 : szf (mItem y) (left - (q.length : Nat) - (sumT mItem q i : Nat)) = left - (q.length : Nat) - (sumT mItem q (i + 1) : Nat) := by simp only [decide_eq_false_iff_not] at h3; omega
        refine ⟨i + 1, Le.free ⟨⟨rfl, rfl⟩, ⟨congrArg (fun n => some (eI n)) h4, rfl⟩, ⟨hup, rfl⟩, trivial⟩, ⟨hlt, by simp only [decide_eq_false_iff_not] at h3; omega⟩, by omega⟩
    ·
      have hge : i = q.length := Nat.le_antisymm hi (by simpa using h2)
      refine PW.exit ?_
      refine PW.seq ?_
      refine PW.region ?_
      refine PL.run 2 rfl ?_
      refine PL.nil ?_
      refine PW.ret ?_
      refine RetOk.free rfl rfl (congrArg eI ?_)
      have := sumT_end (f := mItem) (l := q)
      subst hge; omega
/- laws.szPost -/
theorem laws_szPost_spec (p : Post) (left : Int) (g0 : 0 ≤ left) (g1 : left ≤ 1048576) (hb : BgP p) : Pw.Spec Tryz.prog 30 [.agg (ePost p), eI left] (fun res_ => res_ = eI (szf (mPost p) left)) := by
  refine spec_of (n := 18) Tryz.call30 Tryz.func30 rfl rfl (by simp) rfl rfl fun W Z => ?_
  have k := szf_or (mPost p) left
  have km : mPost p = mL mItem p.queue + p.book.length := rfl
  have k1 := szf_or (mL mItem p.queue) (left)
  have k2 := szf_or (p.book.length) (szf (mL mItem p.queue) (left))
  refine PW.seq ?_
  refine PW.region ?_
  refine PL.run 2 rfl ?_
  refine PL.nil ?_
  refine PW.seq ?_
  refine PW.region ?_
  refine PL.run 3 rfl ?_
  refine PL.call rfl rfl rfl (laws_szItemS_spec p.queue _ (by omega) (by omega) hb.q) (.cons (.refl _) <| .cons (.refl _) <| .nil) (fun p hp => by subst hp; rfl) (wantV_ok rfl) rfl (fun p hp => ?_)
  subst hp
  refine PL.run 1 rfl ?_
  refine PL.nil ?_
  refine PW.seq ?_
  refine PW.seq ?_
  refine PW.region ?_
  refine PL.run 2 rfl ?_
  refine PL.nil ?_
  refine PW.cond rfl (fun h1 => ?_) (fun h1 => ?_)
  ·
    refine PW.seq ?_
    refine PW.region ?_
    refine PL.run 1 rfl ?_
    refine PL.nil ?_
    refine PW.ret ?_
    refine RetOk.free rfl rfl (congrArg eI ?_)
    simp only [decide_eq_true_eq, decide_eq_false_iff_not] at h1; omega
  ·
    refine PW.skip ?_
    refine PW.seq ?_
    refine PW.region ?_
    refine PL.run 3 rfl ?_
    refine PL.call rfl rfl rfl (laws_szByteS_spec p.book _ (by simp only [decide_eq_false_iff_not] at h1; omega) (by simp only [decide_eq_false_iff_not] at h1; omega) hb.b) (.cons (.refl _) <| .cons (.refl _) <| .nil) (fun p hp => by subst hp; rfl) (wantV_ok rfl) rfl (fun p hp => ?_)
    subst hp
    refine PL.run 1 rfl ?_
    refine PL.nil ?_
    refine PW.seq ?_
    refine PW.seq ?_
    refine PW.region ?_
    refine PL.run 2 rfl ?_
    refine PL.nil ?_
    refine PW.cond rfl (fun h2 => ?_) (fun h2 => ?_)
    ·
      refine PW.seq ?_
      refine PW.region ?_
      refine PL.run 1 rfl ?_
      refine PL.nil ?_
      refine PW.ret ?_
      refine RetOk.free rfl rfl (congrArg eI ?_)
      simp only [decide_eq_true_eq, decide_eq_false_iff_not] at h1 h2; omega
    ·
      refine PW.skip ?_
      refine PW.seq ?_
      refine PW.region ?_
      refine PL.run 2 rfl ?_
      refine PL.nil ?_
      refine PW.ret ?_
      refine RetOk.free rfl rfl (congrArg eI ?_)
      simp only [decide_eq_true_eq, decide_eq_false_iff_not] at h1 h2; omega
/- laws.szByteSS -/
theorem laws_szByteSS_spec (q : List (List UInt8)) (left : Int) (g0 : 0 ≤ left) (g1 : left ≤ 1048576) (hb : BgL BgB q) : Pw.Spec Tryz.prog 78 [eBss q, eI left] (fun res_ => res_ = eI (szf (mL List.length q) left)) := by
  refine spec_of (n := 27) Tryz.call78 Tryz.func78 rfl rfl (by simp) rfl rfl fun W Z => ?_
  have e : IntKind.i64.wrap (left - ((q.map eBss1).length : Nat)) = left - (q.length : Nat) := by rw [List.length_map]; exact szw g0 g1 hb.len
  have k := szf_or (mL List.length q) left
  have km : mL List.length q = q.length + (q.map List.length).sum := rfl
  refine PW.seq ?_
  refine PW.region ?_
  refine PL.run 1 rfl ?_
  refine PL.nil ?_
  refine PW.seq ?_
  refine PW.region ?_
  refine PL.run 5 rfl ?_
  refine PL.nil ?_
  refine PW.seq ?_
  refine PW.seq ?_
  refine PW.region ?_
  refine PL.run 2 rfl ?_
  refine PL.nil ?_
  refine PW.cond rfl (fun h1 => ?_) (fun h1 => ?_)
  ·
    refine PW.seq ?_
    refine PW.region ?_
    refine PL.run 1 rfl ?_
    refine PL.nil ?_
    refine PW.ret ?_
    refine RetOk.free rfl rfl (congrArg eI ?_)
    rw [e] at h1; simp only [decide_eq_true_eq] at h1; omega
  ·
    refine PW.skip ?_
    refine PW.seq ?_
    refine PW.seq ?_
    refine PW.region ?_
    refine PL.run 1 rfl ?_
    refine PL.nil ?_
    refine PW.block ?_
    have g2 : 0 ≤ left - (q.length : Nat) := by rw [e] at h1; simp only [decide_eq_false_iff_not] at h1; omega
    clear h1
    refine PW.loopAt (α := Nat) (fun i => ⟨[(0, eBss q), (1, eI (left - (q.length : Nat) - (sumT List.length q i : Nat))), (5, eI (i : Int))], PH.none⟩) (fun i => i ≤ q.length ∧ 0 ≤ left - (q.length : Nat) - (sumT List.length q i : Nat)) (fun i => q.length - i) 0 (Le.free ⟨⟨rfl, rfl⟩, ⟨congrArg (fun n => some (eI n)) (by rw [e]; simp [sumT]), rfl⟩, ⟨rfl, rfl⟩, trivial⟩) ⟨Nat.zero_le _, by simp [sumT]; omega⟩ (fun i hi => ?_)
    obtain ⟨hi, hs⟩ := hi
    refine PW.seq ?_
    refine PW.seq ?_
    refine PW.region ?_
    refine PL.run 4 rfl ?_
    refine PL.nil ?_
    refine PW.cond rfl (fun h2 => ?_) (fun h2 => ?_)
    ·
      have hlt : i < q.length := by simpa using h2
      clear h2
      obtain ⟨y, hy⟩ : ∃ y, q[i]? = some y := ⟨_, List.getElem?_eq_getElem hlt⟩
      have hup : some (PV.lit (.int .i64 (IntKind.i64.wrap ((i : Int) + 1)))) = some (PV.lit (.int .i64 ((i + 1 : Nat) : Int))) := inc_ok (by omega)
      have hst := sumT_step (f := List.length) hy
      have hle := sumT_le (f := List.length) (l := q) (i + 1)
      have k2 := szf_or (y.length) (left - (q.length : Nat) - (sumT List.length q i : Nat))
      refine PW.skip ?_
      refine PW.seq ?_
      refine PW.block ?_
      refine PW.seq ?_
      refine PW.region ?_
      refine PL.run 2 rfl ?_
      refine PL.val (OpV.idx rfl rfl rfl (nat_nonneg i) (map_at' hy) rfl rfl rfl rfl) (wantV_ok rfl) rfl ?_
      refine PL.run 2 rfl ?_
      refine PL.call rfl rfl rfl (laws_szByteS_spec y _ hs (by omega) (hb.all i y hy)) (.cons (.refl _) <| .cons (.refl _) <| .nil) (fun p hp => by subst hp; rfl) (wantV_ok rfl) rfl (fun p hp => ?_)
      subst hp
      refine PL.run 1 rfl ?_
      refine PL.nil ?_
      refine PW.seq ?_
      refine PW.region ?_
      refine PL.run 2 rfl ?_
      refine PL.nil ?_
      refine PW.cond rfl (fun h3 => ?_) (fun h3 => ?_)
      ·
        refine PW.seq ?_
        refine PW.region ?_
        refine PL.run 1 rfl ?_
        refine PL.nil ?_
        refine PW.ret ?_
        refine RetOk.free rfl rfl (congrArg eI ?_)
        simp only [decide_eq_true_eq] at h3; omega
      ·
        refine PW.skip ?_
        refine PW.region ?_
        refine PL.run 3 rfl ?_
        refine PL.nil ?_
        have h4 : szf (y.length) (left - (q.length : Nat) - (sumT List.length q i : Nat)) = left - (q.length : Nat) - (sumT List.length q (i + 1) : Nat) := by simp only [decide_eq_false_iff_not] at h3; omega
        refine ⟨i + 1, Le.free ⟨⟨rfl, rfl⟩, ⟨congrArg (fun n => some (eI n)) h4, rfl⟩, ⟨hup, rfl⟩, trivial⟩, ⟨hlt, by simp only [decide_eq_false_iff_not] at h3; omega⟩, by omega⟩
    ·
      have hge : i = q.length := Nat.le_antisymm hi (by simpa using h2)
      refine PW.exit ?_
      refine PW.seq ?_
      refine PW.region ?_
      refine PL.run 2 rfl ?_
      refine PL.nil ?_
      refine PW.ret ?_
      refine RetOk.free rfl rfl (congrArg eI ?_)
      have := sumT_end (f := List.length) (l := q)
      subst hge; omega
/- laws.szReader -/
theorem laws_szReader_spec (r : Reader) (left : Int) (g0 : 0 ≤ left) (g1 : left ≤ 1048576) (hb : BgR r) : Pw.Spec Tryz.prog 31 [.agg (eReader r), eI left] (fun res_ => res_ = eI (szf (mReader r) left)) := by
  refine spec_of (n := 24) Tryz.call31 Tryz.func31 rfl rfl (by simp) rfl rfl fun W Z => ?_
  have k := szf_or (mReader r) left
  have km : mReader r = r.seed.length + mL List.length r.seen + mL List.length r.got := rfl
  have k1 := szf_or (r.seed.length) (left)
  have k2 := szf_or (mL List.length r.seen) (szf (r.seed.length) (left))
  have k3 := szf_or (mL List.length r.got) (szf (mL List.length r.seen) (szf (r.seed.length) (left)))
  refine PW.seq ?_
  refine PW.region ?_
  refine PL.run 2 rfl ?_
  refine PL.nil ?_
  refine PW.seq ?_
  refine PW.region ?_
  refine PL.run 3 rfl ?_
  refine PL.call rfl rfl rfl (laws_szByteS_spec r.seed _ (by omega) (by omega) hb.s) (.cons (.refl _) <| .cons (.refl _) <| .nil) (fun p hp => by subst hp; rfl) (wantV_ok rfl) rfl (fun p hp => ?_)
  subst hp
  refine PL.run 1 rfl ?_
  refine PL.nil ?_
  refine PW.seq ?_
  refine PW.seq ?_
  refine PW.region ?_
  refine PL.run 2 rfl ?_
  refine PL.nil ?_
  refine PW.cond rfl (fun h1 => ?_) (fun h1 => ?_)
  ·
    refine PW.seq ?_
    refine PW.region ?_
    refine PL.run 1 rfl ?_
    refine PL.nil ?_
    refine PW.ret ?_
    refine RetOk.free rfl rfl (congrArg eI ?_)
    simp only [decide_eq_true_eq, decide_eq_false_iff_not] at h1; omega
  ·
    refine PW.skip ?_
    refine PW.seq ?_
    refine PW.region ?_
    refine PL.run 3 rfl ?_
    refine PL.call rfl rfl rfl (laws_szByteSS_spec r.seen _ (by simp only [decide_eq_false_iff_not] at h1; omega) (by simp only [decide_eq_false_iff_not] at h1; omega) hb.seen) (.cons (.refl _) <| .cons (.refl _) <| .nil) (fun p hp => by subst hp; rfl) (wantV_ok rfl) rfl (fun p hp => ?_)
    subst hp
    refine PL.run 1 rfl ?_
    refine PL.nil ?_
    refine PW.seq ?_
    refine PW.seq ?_
    refine PW.region ?_
    refine PL.run 2 rfl ?_
    refine PL.nil ?_
    refine PW.cond rfl (fun h2 => ?_) (fun h2 => ?_)
    ·
      refine PW.seq ?_
      refine PW.region ?_
      refine PL.run 1 rfl ?_
      refine PL.nil ?_
      refine PW.ret ?_
      refine RetOk.free rfl rfl (congrArg eI ?_)
      simp only [decide_eq_true_eq, decide_eq_false_iff_not] at h1 h2; omega
    ·
      refine PW.skip ?_
      refine PW.seq ?_
      refine PW.region ?_
      refine PL.run 3 rfl ?_
      refine PL.call rfl rfl rfl (laws_szByteSS_spec r.got _ (by simp only [decide_eq_false_iff_not] at h1 h2; omega) (by simp only [decide_eq_false_iff_not] at h1 h2; omega) hb.got) (.cons (.refl _) <| .cons (.refl _) <| .nil) (fun p hp => by subst hp; rfl) (wantV_ok rfl) rfl (fun p hp => ?_)
      subst hp
      refine PL.run 1 rfl ?_
      refine PL.nil ?_
      refine PW.seq ?_
      refine PW.seq ?_
      refine PW.region ?_
      refine PL.run 2 rfl ?_
      refine PL.nil ?_
      refine PW.cond rfl (fun h3 => ?_) (fun h3 => ?_)
      ·
        refine PW.seq ?_
        refine PW.region ?_
        refine PL.run 1 rfl ?_
        refine PL.nil ?_
        refine PW.ret ?_
        refine RetOk.free rfl rfl (congrArg eI ?_)
        simp only [decide_eq_true_eq, decide_eq_false_iff_not] at h1 h2 h3; omega
      ·
        refine PW.skip ?_
        refine PW.seq ?_
        refine PW.region ?_
        refine PL.run 2 rfl ?_
        refine PL.nil ?_
        refine PW.ret ?_
        refine RetOk.free rfl rfl (congrArg eI ?_)
        simp only [decide_eq_true_eq, decide_eq_false_iff_not] at h1 h2 h3; omega
/- laws.szWire -/
theorem laws_szWire_spec (w : Wire) (left : Int) (g0 : 0 ≤ left) (g1 : left ≤ 1048576) (hb : BgW w) : Pw.Spec Tryz.prog 79 [.agg (eWire w), eI left] (fun res_ => res_ = eI (szf (mWire w) left)) := by
  refine spec_of (n := 18) Tryz.call79 Tryz.func79 rfl rfl (by simp) rfl rfl fun W Z => ?_
  have k := szf_or (mWire w) left
  have km : mWire w = mItem w.item + w.bytes.length := rfl
  have k1 := szf_or (mItem w.item) (left)
  have k2 := szf_or (w.bytes.length) (szf (mItem w.item) (left))
  refine PW.seq ?_
  refine PW.region ?_
  refine PL.run 2 rfl ?_
  refine PL.nil ?_
  refine PW.seq ?_
  refine PW.region ?_
  refine PL.run 3 rfl ?_
  refine PL.call rfl rfl rfl (laws_szItem_spec w.item _ (by omega) (by omega) hb.i) (.cons (.refl _) <| .cons (.refl _) <| .nil) (fun p hp => by subst hp; rfl) (wantV_ok rfl) rfl (fun p hp => ?_)
  subst hp
  refine PL.run 1 rfl ?_
  refine PL.nil ?_
  refine PW.seq ?_
  refine PW.seq ?_
  refine PW.region ?_
  refine PL.run 2 rfl ?_
  refine PL.nil ?_
  refine PW.cond rfl (fun h1 => ?_) (fun h1 => ?_)
  ·
    refine PW.seq ?_
    refine PW.region ?_
    refine PL.run 1 rfl ?_
    refine PL.nil ?_
    refine PW.ret ?_
    refine RetOk.free rfl rfl (congrArg eI ?_)
    simp only [decide_eq_true_eq, decide_eq_false_iff_not] at h1; omega
  ·
    refine PW.skip ?_
    refine PW.seq ?_
    refine PW.region ?_
    refine PL.run 3 rfl ?_
    refine PL.call rfl rfl rfl (laws_szByteS_spec w.bytes _ (by simp only [decide_eq_false_iff_not] at h1; omega) (by simp only [decide_eq_false_iff_not] at h1; omega) hb.b) (.cons (.refl _) <| .cons (.refl _) <| .nil) (fun p hp => by subst hp; rfl) (wantV_ok rfl) rfl (fun p hp => ?_)
    subst hp
    refine PL.run 1 rfl ?_
    refine PL.nil ?_
    refine PW.seq ?_
    refine PW.seq ?_
    refine PW.region ?_
    refine PL.run 2 rfl ?_
    refine PL.nil ?_
    refine PW.cond rfl (fun h2 => ?_) (fun h2 => ?_)
    ·
      refine PW.seq ?_
      refine PW.region ?_
      refine PL.run 1 rfl ?_
      refine PL.nil ?_
      refine PW.ret ?_
      refine RetOk.free rfl rfl (congrArg eI ?_)
      simp only [decide_eq_true_eq, decide_eq_false_iff_not] at h1 h2; omega
    ·
      refine PW.skip ?_
      refine PW.seq ?_
      refine PW.region ?_
      refine PL.run 2 rfl ?_
      refine PL.nil ?_
      refine PW.ret ?_
      refine RetOk.free rfl rfl (congrArg eI ?_)
      simp only [decide_eq_true_eq, decide_eq_false_iff_not] at h1 h2; omega
/- laws.szWireS -/
theorem laws_szWireS_spec (q : List Wire) (left : Int) (g0 : 0 ≤ left) (g1 : left ≤ 1048576) (hb : BgL BgW q) : Pw.Spec Tryz.prog 32 [eWires q, eI left] (fun res_ => res_ = eI (szf (mL mWire q) left)) := by
  refine spec_of (n := 27) Tryz.call32 Tryz.func32 rfl rfl (by simp) rfl rfl fun W Z => ?_
  have e : IntKind.i64.wrap (left - ((q.map eWire).length : Nat)) = left - (q.length : Nat) := by rw [List.length_map]; exact szw g0 g1 hb.len
  have k := szf_or (mL mWire q) left
  have km : mL mWire q = q.length + (q.map mWire).sum := rfl
  refine PW.seq ?_
  refine PW.region ?_
  refine PL.run 1 rfl ?_
  refine PL.nil ?_
  refine PW.seq ?_
  refine PW.region ?_
  refine PL.run 5 rfl ?_
  refine PL.nil ?_
  refine PW.seq ?_
  refine PW.seq ?_
  refine PW.region ?_
  refine PL.run 2 rfl ?_
  refine PL.nil ?_
  refine PW.cond rfl (fun h1 => ?_) (fun h1 => ?_)
  ·
    refine PW.seq ?_
    refine PW.region ?_
    refine PL.run 1 rfl ?_
    refine PL.nil ?_
    refine PW.ret ?_
    refine RetOk.free rfl rfl (congrArg eI ?_)
    rw [e] at h1; simp only [decide_eq_true_eq] at h1; omega
  ·
    refine PW.skip ?_
    refine PW.seq ?_
    refine PW.seq ?_
    refine PW.region ?_
    refine PL.run 1 rfl ?_
    refine PL.nil ?_
    refine PW.block ?_
    have g2 : 0 ≤ left - (q.length : Nat) := by rw [e] at h1; simp only [decide_eq_false_iff_not] at h1; omega
    clear h1
    refine PW.loopAt (α := Nat) (fun i => ⟨[(0, eWires q), (1, eI (left - (q.length : Nat) - (sumT mWire q i : Nat))), (5, eI (i : Int))], PH.none⟩) (fun i => i ≤ q.length ∧ 0 ≤ left - (q.length : Nat) - (sumT mWire q i : Nat)) (fun i => q.length - i) 0 (Le.free ⟨⟨rfl, rfl⟩, ⟨congrArg (fun n => some (eI n)) (by rw [e]; simp [sumT]), rfl⟩, ⟨rfl, rfl⟩, trivial⟩) ⟨Nat.zero_le _, by simp [sumT]; omega⟩ (fun i hi => ?_)
    obtain ⟨hi, hs⟩ := hi
    refine PW.seq ?_
    refine PW.seq ?_
    refine PW.region ?_
    refine PL.run 4 rfl ?_
    refine PL.nil ?_
    refine PW.cond rfl (fun h2 => ?_) (fun h2 => ?_)
    ·
      have hlt : i < q.length := by simpa using h2
      clear h2
      obtain ⟨y, hy⟩ : ∃ y, q[i]? = some y := ⟨_, List.getElem?_eq_getElem hlt⟩
      have hup : some (PV.lit (.int .i64 (IntKind.i64.wrap ((i : Int) + 1)))) = some (PV.lit (.int .i64 ((i + 1 : Nat) : Int))) := inc_ok (by omega)
      have hst := sumT_step (f := mWire) hy
      have hle := sumT_le (f := mWire) (l := q) (i + 1)
      have k2 := szf_or (mWire y) (left - (q.length : Nat) - (sumT mWire q i : Nat))
      refine PW.skip ?_
      refine PW.seq ?_
      refine PW.block ?_
      refine PW.seq ?_
      refine PW.region ?_
      refine PL.run 2 rfl ?_
      refine PL.val (OpV.idx rfl rfl rfl (nat_nonneg i) (map_at' hy) rfl rfl rfl rfl) (wantV_ok rfl) rfl ?_
      refine PL.run 2 rfl ?_
      refine PL.call rfl rfl rfl (laws_szWire_spec y _ hs (by omega) (hb.all i y hy)) (.cons (.refl _) <| .cons (.refl _) <| .nil) (fun p hp => by subst hp; rfl) (wantV_ok rfl) rfl (fun p hp => ?_)
      subst hp
      refine PL.run 1 rfl ?_
      refine PL.nil ?_
      refine PW.seq ?_
      refine PW.region ?_
      refine PL.run 2 rfl ?_
      refine PL.nil ?_
      refine PW.cond rfl (fun h3 => ?_) (fun h3 => ?_)
      ·
        refine PW.seq ?_
        refine PW.region ?_
        refine PL.run 1 rfl ?_
        refine PL.nil ?_
        refine PW.ret ?_
        refine RetOk.free rfl rfl (congrArg eI ?_)
        simp only [decide_eq_true_eq] at h3; omega
      ·
        refine PW.skip ?_
        refine PW.region ?_
        refine PL.run 3 rfl ?_
        refine PL.nil ?_
        have h4 : szf (mWire y) (left - (q.length : Nat) - (sumT mWire q i : Nat)) = left - (q.length : Nat) - (sumT mWire q (i + 1) : Nat) := by simp only [decide_eq_false_iff_not] at h3; omega
        refine ⟨i + 1, Le.free ⟨⟨rfl, rfl⟩, ⟨congrArg (fun n => some (eI n)) h4, rfl⟩, ⟨hup, rfl⟩, trivial⟩, ⟨hlt, by simp only [decide_eq_false_iff_not] at h3; omega⟩, by omega⟩
    ·
      have hge : i = q.length := Nat.le_antisymm hi (by simpa using h2)
      refine PW.exit ?_
      refine PW.seq ?_
      refine PW.region ?_
      refine PL.run 2 rfl ?_
      refine PL.nil ?_
      refine PW.ret ?_
      refine RetOk.free rfl rfl (congrArg eI ?_)
      have := sumT_end (f := mWire) (l := q)
      subst hge; omega
/- laws.szSent -/
theorem laws_szSent_spec (x : Sent) (left : Int) (g0 : 0 ≤ left) (g1 : left ≤ 1048576) (hb : BgS x) : Pw.Spec Tryz.prog 80 [.agg (eSent x), eI left] (fun res_ => res_ = eI (szf (mSent x) left)) := by
  refine spec_of (n := 25) Tryz.call80 Tryz.func80 rfl rfl (by simp) rfl rfl fun W Z => ?_
  have e : IntKind.i64.wrap (left - (x.route.size : Nat)) = left - (x.route.size : Nat) := szw g0 g1 hb.r
  have k := szf_or (mSent x) left
  have km : mSent x = x.route.size + x.note.length + x.bytes.length := rfl
  have k2 := szf_or x.note.length (left - (x.route.size : Nat))
  have k3 := szf_or x.bytes.length (szf x.note.length (left - (x.route.size : Nat)))
  refine PW.seq ?_
  refine PW.region ?_
  refine PL.run 2 rfl ?_
  refine PL.nil ?_
  refine PW.seq ?_
  refine PW.region ?_
  refine PL.run 6 rfl ?_
  refine PL.nil ?_
  refine PW.seq ?_
  refine PW.seq ?_
  refine PW.region ?_
  refine PL.run 2 rfl ?_
  refine PL.nil ?_
  refine PW.cond rfl (fun h1 => ?_) (fun h1 => ?_)
  ·
    refine PW.seq ?_
    refine PW.region ?_
    refine PL.run 1 rfl ?_
    refine PL.nil ?_
    refine PW.ret ?_
    refine RetOk.free rfl rfl (congrArg eI ?_)
    rw [e] at h1; simp only [decide_eq_true_eq] at h1; omega
  ·
    refine PW.skip ?_
    refine PW.seq ?_
    refine PW.region ?_
    refine PL.run 3 rfl ?_
    refine PL.call rfl rfl rfl (laws_szByteS_spec x.note _ (by rw [e] at h1 ⊢; simp only [decide_eq_false_iff_not] at h1; omega) (by rw [e]; omega) hb.n) (.cons (.refl _) <| .cons (.refl _) <| .nil) (fun p hp => by subst hp; rfl) (wantV_ok rfl) rfl (fun p hp => ?_)
    subst hp
    refine PL.run 1 rfl ?_
    refine PL.nil ?_
    refine PW.seq ?_
    refine PW.seq ?_
    refine PW.region ?_
    refine PL.run 2 rfl ?_
    refine PL.nil ?_
    refine PW.cond rfl (fun h2 => ?_) (fun h2 => ?_)
    ·
      refine PW.seq ?_
      refine PW.region ?_
      refine PL.run 1 rfl ?_
      refine PL.nil ?_
      refine PW.ret ?_
      refine RetOk.free rfl rfl (congrArg eI ?_)
      rw [e] at h1 h2; simp only [decide_eq_true_eq, decide_eq_false_iff_not] at h1 h2; omega
    ·
      refine PW.skip ?_
      refine PW.seq ?_
      refine PW.region ?_
      refine PL.run 3 rfl ?_
      refine PL.call rfl rfl rfl (laws_szByteS_spec x.bytes _ (by rw [e] at h2 ⊢; simp only [decide_eq_false_iff_not] at h2; omega) (by rw [e]; omega) hb.b) (.cons (.refl _) <| .cons (.refl _) <| .nil) (fun p hp => by subst hp; rfl) (wantV_ok rfl) rfl (fun p hp => ?_)
      subst hp
      refine PL.run 1 rfl ?_
      refine PL.nil ?_
      refine PW.seq ?_
      refine PW.seq ?_
      refine PW.region ?_
      refine PL.run 2 rfl ?_
      refine PL.nil ?_
      refine PW.cond rfl (fun h3 => ?_) (fun h3 => ?_)
      ·
        refine PW.seq ?_
        refine PW.region ?_
        refine PL.run 1 rfl ?_
        refine PL.nil ?_
        refine PW.ret ?_
        refine RetOk.free rfl rfl (congrArg eI ?_)
        rw [e] at h1 h2 h3; simp only [decide_eq_true_eq, decide_eq_false_iff_not] at h1 h2 h3; omega
      ·
        refine PW.skip ?_
        refine PW.seq ?_
        refine PW.region ?_
        refine PL.run 2 rfl ?_
        refine PL.nil ?_
        refine PW.ret ?_
        refine RetOk.free rfl rfl (congrArg eI ?_)
        rw [e] at h1 h2 h3 ⊢; simp only [decide_eq_false_iff_not] at h1 h2 h3; omega
/- laws.szSentS -/
theorem laws_szSentS_spec (q : List Sent) (left : Int) (g0 : 0 ≤ left) (g1 : left ≤ 1048576) (hb : BgL BgS q) : Pw.Spec Tryz.prog 33 [eSents q, eI left] (fun res_ => res_ = eI (szf (mL mSent q) left)) := by
  refine spec_of (n := 27) Tryz.call33 Tryz.func33 rfl rfl (by simp) rfl rfl fun W Z => ?_
  have e : IntKind.i64.wrap (left - ((q.map eSent).length : Nat)) = left - (q.length : Nat) := by rw [List.length_map]; exact szw g0 g1 hb.len
  have k := szf_or (mL mSent q) left
  have km : mL mSent q = q.length + (q.map mSent).sum := rfl
  refine PW.seq ?_
  refine PW.region ?_
  refine PL.run 1 rfl ?_
  refine PL.nil ?_
  refine PW.seq ?_
  refine PW.region ?_
  refine PL.run 5 rfl ?_
  refine PL.nil ?_
  refine PW.seq ?_
  refine PW.seq ?_
  refine PW.region ?_
  refine PL.run 2 rfl ?_
  refine PL.nil ?_
  refine PW.cond rfl (fun h1 => ?_) (fun h1 => ?_)
  ·
    refine PW.seq ?_
    refine PW.region ?_
    refine PL.run 1 rfl ?_
    refine PL.nil ?_
    refine PW.ret ?_
    refine RetOk.free rfl rfl (congrArg eI ?_)
    rw [e] at h1; simp only [decide_eq_true_eq] at h1; omega
  ·
    refine PW.skip ?_
    refine PW.seq ?_
    refine PW.seq ?_
    refine PW.region ?_
    refine PL.run 1 rfl ?_
    refine PL.nil ?_
    refine PW.block ?_
    have g2 : 0 ≤ left - (q.length : Nat) := by rw [e] at h1; simp only [decide_eq_false_iff_not] at h1; omega
    clear h1
    refine PW.loopAt (α := Nat) (fun i => ⟨[(0, eSents q), (1, eI (left - (q.length : Nat) - (sumT mSent q i : Nat))), (5, eI (i : Int))], PH.none⟩) (fun i => i ≤ q.length ∧ 0 ≤ left - (q.length : Nat) - (sumT mSent q i : Nat)) (fun i => q.length - i) 0 (Le.free ⟨⟨rfl, rfl⟩, ⟨congrArg (fun n => some (eI n)) (by rw [e]; simp [sumT]), rfl⟩, ⟨rfl, rfl⟩, trivial⟩) ⟨Nat.zero_le _, by simp [sumT]; omega⟩ (fun i hi => ?_)
    obtain ⟨hi, hs⟩ := hi
    refine PW.seq ?_
    refine PW.seq ?_
    refine PW.region ?_
    refine PL.run 4 rfl ?_
    refine PL.nil ?_
    refine PW.cond rfl (fun h2 => ?_) (fun h2 => ?_)
    ·
      have hlt : i < q.length := by simpa using h2
      clear h2
      obtain ⟨y, hy⟩ : ∃ y, q[i]? = some y := ⟨_, List.getElem?_eq_getElem hlt⟩
      have hup : some (PV.lit (.int .i64 (IntKind.i64.wrap ((i : Int) + 1)))) = some (PV.lit (.int .i64 ((i + 1 : Nat) : Int))) := inc_ok (by omega)
      have hst := sumT_step (f := mSent) hy
      have hle := sumT_le (f := mSent) (l := q) (i + 1)
      have k2 := szf_or (mSent y) (left - (q.length : Nat) - (sumT mSent q i : Nat))
      refine PW.skip ?_
      refine PW.seq ?_
      refine PW.block ?_
      refine PW.seq ?_
      refine PW.region ?_
      refine PL.run 2 rfl ?_
      refine PL.val (OpV.idx rfl rfl rfl (nat_nonneg i) (map_at' hy) rfl rfl rfl rfl) (wantV_ok rfl) rfl ?_
      refine PL.run 2 rfl ?_
      refine PL.call rfl rfl rfl (laws_szSent_spec y _ hs (by omega) (hb.all i y hy)) (.cons (.refl _) <| .cons (.refl _) <| .nil) (fun p hp => by subst hp; rfl) (wantV_ok rfl) rfl (fun p hp => ?_)
      subst hp
      refine PL.run 1 rfl ?_
      refine PL.nil ?_
      refine PW.seq ?_
      refine PW.region ?_
      refine PL.run 2 rfl ?_
      refine PL.nil ?_
      refine PW.cond rfl (fun h3 => ?_) (fun h3 => ?_)
      ·
        refine PW.seq ?_
        refine PW.region ?_
        refine PL.run 1 rfl ?_
        refine PL.nil ?_
        refine PW.ret ?_
        refine RetOk.free rfl rfl (congrArg eI ?_)
        simp only [decide_eq_true_eq] at h3; omega
      ·
        refine PW.skip ?_
        refine PW.region ?_
        refine PL.run 3 rfl ?_
        refine PL.nil ?_
        have h4 : szf (mSent y) (left - (q.length : Nat) - (sumT mSent q i : Nat)) = left - (q.length : Nat) - (sumT mSent q (i + 1) : Nat) := by simp only [decide_eq_false_iff_not] at h3; omega
        refine ⟨i + 1, Le.free ⟨⟨rfl, rfl⟩, ⟨congrArg (fun n => some (eI n)) h4, rfl⟩, ⟨hup, rfl⟩, trivial⟩, ⟨hlt, by simp only [decide_eq_false_iff_not] at h3; omega⟩, by omega⟩
    ·
      have hge : i = q.length := Nat.le_antisymm hi (by simpa using h2)
      refine PW.exit ?_
      refine PW.seq ?_
      refine PW.region ?_
      refine PL.run 2 rfl ?_
      refine PL.nil ?_
      refine PW.ret ?_
      refine RetOk.free rfl rfl (congrArg eI ?_)
      have := sumT_end (f := mSent) (l := q)
      subst hge; omega
/- laws.szWorld -/
theorem laws_szWorld_spec (w : Earth) (left : Int) (g0 : 0 ≤ left) (g1 : left ≤ 1048576) (hb : BgE w) : Pw.Spec Tryz.prog 9 [.agg (eEarth w), eI left] (fun res_ => res_ = eI (szf (mEarth w) left)) := by
  refine spec_of (n := 36) Tryz.call9 Tryz.func9 rfl rfl (by simp) rfl rfl fun W Z => ?_
  have k := szf_or (mEarth w) left
  have km : mEarth w = w.seed.length + mPost w.post + mReader w.reader + mL mWire w.net + mL mSent w.sent := rfl
  have k1 := szf_or (w.seed.length) (left)
  have k2 := szf_or (mPost w.post) (szf (w.seed.length) (left))
  have k3 := szf_or (mReader w.reader) (szf (mPost w.post) (szf (w.seed.length) (left)))
  have k4 := szf_or (mL mWire w.net) (szf (mReader w.reader) (szf (mPost w.post) (szf (w.seed.length) (left))))
  have k5 := szf_or (mL mSent w.sent) (szf (mL mWire w.net) (szf (mReader w.reader) (szf (mPost w.post) (szf (w.seed.length) (left)))))
  refine PW.seq ?_
  refine PW.region ?_
  refine PL.run 2 rfl ?_
  refine PL.nil ?_
  refine PW.seq ?_
  refine PW.region ?_
  refine PL.run 3 rfl ?_
  refine PL.call rfl rfl rfl (laws_szByteS_spec w.seed _ (by omega) (by omega) hb.seed) (.cons (.refl _) <| .cons (.refl _) <| .nil) (fun p hp => by subst hp; rfl) (wantV_ok rfl) rfl (fun p hp => ?_)
  subst hp
  refine PL.run 1 rfl ?_
  refine PL.nil ?_
  refine PW.seq ?_
  refine PW.seq ?_
  refine PW.region ?_
  refine PL.run 2 rfl ?_
  refine PL.nil ?_
  refine PW.cond rfl (fun h1 => ?_) (fun h1 => ?_)
  ·
    refine PW.seq ?_
    refine PW.region ?_
    refine PL.run 1 rfl ?_
    refine PL.nil ?_
    refine PW.ret ?_
    refine RetOk.free rfl rfl (congrArg eI ?_)
    simp only [decide_eq_true_eq, decide_eq_false_iff_not] at h1; omega
  ·
    refine PW.skip ?_
    refine PW.seq ?_
    refine PW.region ?_
    refine PL.run 3 rfl ?_
    refine PL.call rfl rfl rfl (laws_szPost_spec w.post _ (by simp only [decide_eq_false_iff_not] at h1; omega) (by simp only [decide_eq_false_iff_not] at h1; omega) hb.p) (.cons (.refl _) <| .cons (.refl _) <| .nil) (fun p hp => by subst hp; rfl) (wantV_ok rfl) rfl (fun p hp => ?_)
    subst hp
    refine PL.run 1 rfl ?_
    refine PL.nil ?_
    refine PW.seq ?_
    refine PW.seq ?_
    refine PW.region ?_
    refine PL.run 2 rfl ?_
    refine PL.nil ?_
    refine PW.cond rfl (fun h2 => ?_) (fun h2 => ?_)
    ·
      refine PW.seq ?_
      refine PW.region ?_
      refine PL.run 1 rfl ?_
      refine PL.nil ?_
      refine PW.ret ?_
      refine RetOk.free rfl rfl (congrArg eI ?_)
      simp only [decide_eq_true_eq, decide_eq_false_iff_not] at h1 h2; omega
    ·
      refine PW.skip ?_
      refine PW.seq ?_
      refine PW.region ?_
      refine PL.run 3 rfl ?_
      refine PL.call rfl rfl rfl (laws_szReader_spec w.reader _ (by simp only [decide_eq_false_iff_not] at h1 h2; omega) (by simp only [decide_eq_false_iff_not] at h1 h2; omega) hb.r) (.cons (.refl _) <| .cons (.refl _) <| .nil) (fun p hp => by subst hp; rfl) (wantV_ok rfl) rfl (fun p hp => ?_)
      subst hp
      refine PL.run 1 rfl ?_
      refine PL.nil ?_
      refine PW.seq ?_
      refine PW.seq ?_
      refine PW.region ?_
      refine PL.run 2 rfl ?_
      refine PL.nil ?_
      refine PW.cond rfl (fun h3 => ?_) (fun h3 => ?_)
      ·
        refine PW.seq ?_
        refine PW.region ?_
        refine PL.run 1 rfl ?_
        refine PL.nil ?_
        refine PW.ret ?_
        refine RetOk.free rfl rfl (congrArg eI ?_)
        simp only [decide_eq_true_eq, decide_eq_false_iff_not] at h1 h2 h3; omega
      ·
        refine PW.skip ?_
        refine PW.seq ?_
        refine PW.region ?_
        refine PL.run 3 rfl ?_
        refine PL.call rfl rfl rfl (laws_szWireS_spec w.net _ (by simp only [decide_eq_false_iff_not] at h1 h2 h3; omega) (by simp only [decide_eq_false_iff_not] at h1 h2 h3; omega) hb.n) (.cons (.refl _) <| .cons (.refl _) <| .nil) (fun p hp => by subst hp; rfl) (wantV_ok rfl) rfl (fun p hp => ?_)
        subst hp
        refine PL.run 1 rfl ?_
        refine PL.nil ?_
        refine PW.seq ?_
        refine PW.seq ?_
        refine PW.region ?_
        refine PL.run 2 rfl ?_
        refine PL.nil ?_
        refine PW.cond rfl (fun h4 => ?_) (fun h4 => ?_)
        ·
          refine PW.seq ?_
          refine PW.region ?_
          refine PL.run 1 rfl ?_
          refine PL.nil ?_
          refine PW.ret ?_
          refine RetOk.free rfl rfl (congrArg eI ?_)
          simp only [decide_eq_true_eq, decide_eq_false_iff_not] at h1 h2 h3 h4; omega
        ·
          refine PW.skip ?_
          refine PW.seq ?_
          refine PW.region ?_
          refine PL.run 3 rfl ?_
          refine PL.call rfl rfl rfl (laws_szSentS_spec w.sent _ (by simp only [decide_eq_false_iff_not] at h1 h2 h3 h4; omega) (by simp only [decide_eq_false_iff_not] at h1 h2 h3 h4; omega) hb.s) (.cons (.refl _) <| .cons (.refl _) <| .nil) (fun p hp => by subst hp; rfl) (wantV_ok rfl) rfl (fun p hp => ?_)
          subst hp
          refine PL.run 1 rfl ?_
          refine PL.nil ?_
          refine PW.seq ?_
          refine PW.seq ?_
          refine PW.region ?_
          refine PL.run 2 rfl ?_
          refine PL.nil ?_
          refine PW.cond rfl (fun h5 => ?_) (fun h5 => ?_)
          ·
            refine PW.seq ?_
            refine PW.region ?_
            refine PL.run 1 rfl ?_
            refine PL.nil ?_
            refine PW.ret ?_
            refine RetOk.free rfl rfl (congrArg eI ?_)
            simp only [decide_eq_true_eq, decide_eq_false_iff_not] at h1 h2 h3 h4 h5; omega
          ·
            refine PW.skip ?_
            refine PW.seq ?_
            refine PW.region ?_
            refine PL.run 2 rfl ?_
            refine PL.nil ?_
            refine PW.ret ?_
            refine RetOk.free rfl rfl (congrArg eI ?_)
            simp only [decide_eq_true_eq, decide_eq_false_iff_not] at h1 h2 h3 h4 h5; omega
end Go.Wl
set_option linter.unusedVariables false
set_option linter.unusedSimpArgs false
set_option maxRecDepth 100000
set_option maxHeartbeats 4000000
namespace Go.Wl
open Go Go.RowKit Go.Pw Go.Proofs
/-- A made row that is filled from the left. -/
def fillC (z : List PV) (es : List (List PV)) (i : Nat) : List PV := (es.take i).flatten ++ (List.replicate (es.length - i) z).flatten
theorem fillC_len {z : List PV} {es : List (List PV)} {i sz : Nat} (hz : ∀ e ∈ es, e.length = sz) (h0 : z.length = sz) (hi : i ≤ es.length) : (fillC z es i).length = es.length * sz := by
  rw [fillC, List.length_append, flat_len (sz := sz) (fun e he => hz e (List.mem_of_mem_take he)), flat_len (sz := sz) (fun e he => by rw [List.eq_of_mem_replicate he]; exact h0), List.length_take, List.length_replicate, ← Nat.add_mul]
  congr 1; omega
theorem fillC_step {z : List PV} {es : List (List PV)} {i sz off : Nat} {e : List PV} (hz : ∀ e ∈ es, e.length = sz) (h0 : z.length = sz) (he : es[i]? = some e) (ho : off = i * sz) : writeC (fillC z es i) off e = fillC z es (i + 1) := by
  have h := (List.getElem?_eq_some_iff.1 he).1
  have e1 : List.replicate (es.length - i) z = z :: List.replicate (es.length - (i + 1)) z := by
    rw [← List.replicate_succ]; congr 1; omega
  rw [fillC, e1, List.flatten_cons, writeC_mid (by rw [flat_len (sz := sz) (fun e he => hz e (List.mem_of_mem_take he)), List.length_take, ho, Nat.min_eq_left (Nat.le_of_lt h)]) (by rw [h0, hz e (List.mem_of_getElem? he)]), fillC, take_step he, List.flatten_append]
  simp
theorem fillC_free {z : List PV} {es : List (List PV)} {i : Nat} (hz : ∀ e ∈ es, freeL e = true) (h0 : freeL z = true) : freeL (fillC z es i) = true := by
  rw [freeL_iff]
  intro p hp
  rcases List.mem_append.1 hp with hp | hp
  · obtain ⟨e, he, hp⟩ := List.mem_flatten.1 hp
    exact freeL_iff.1 (hz e (List.mem_of_mem_take he)) p hp
  · obtain ⟨e, he, hp⟩ := List.mem_flatten.1 hp
    rw [List.eq_of_mem_replicate he] at hp
    exact freeL_iff.1 h0 p hp
theorem fillC_end {z : List PV} {es : List (List PV)} {i : Nat} (h : i = es.length) : fillC z es i = es.flatten ++ [] := by
  subst h; simp [fillC]
theorem fillC_zero {z : List PV} {es : List (List PV)} {j : TI} {n : Nat} (hj : j.zero.cells.toList.map PV.lit = z) (hn : n = es.length) : zrow j n = fillC z es 0 := by
  subst hn hj; simp [fillC, zrow]
theorem row_len {α : Type} {f : α → List PV} {sz : Nat} (h : ∀ x, (f x).length = sz) (l : List α) : ∀ e ∈ l.map f, e.length = sz := fun e he => by
  obtain ⟨b, _, rfl⟩ := List.mem_map.1 he; exact h b
theorem row_free {α : Type} {f : α → List PV} (h : ∀ x, freeL (f x) = true) (l : List α) : ∀ e ∈ l.map f, freeL e = true := fun e he => by
  obtain ⟨b, _, rfl⟩ := List.mem_map.1 he; exact h b
theorem mul_toNat {i sz : Nat} : 0 + ((i : Nat) : Int).toNat * sz = i * sz := by rw [Int.toNat_natCast, Nat.zero_add]
theorem off_le {i n sz : Nat} (h : i < n) : i * sz + sz ≤ n * sz := by
  rw [← Nat.succ_mul]; exact Nat.mul_le_mul_right _ h
structure FewL {α : Type} (P : α → Prop) (l : List α) : Prop where
  len : l.length ≤ 1048576
  all : ∀ (i : Nat) (x : α), l[i]? = some x → P x
abbrev FewB (b : List UInt8) : Prop := b.length ≤ 1048576
def FewI (x : Item) : Prop := FewB x.bytes
structure FewP (p : Post) : Prop where
  q : FewL FewI p.queue
  b : FewB p.book
structure FewR (r : Reader) : Prop where
  s : FewB r.seed
  seen : FewL FewB r.seen
  got : FewL FewB r.got
structure FewW (w : Wire) : Prop where
  i : FewI w.item
  b : FewB w.bytes
structure FewS (s : Sent) : Prop where
  n : FewB s.note
  b : FewB s.bytes
structure FewE (w : Earth) : Prop where
  seed : FewB w.seed
  p : FewP w.post
  r : FewR w.reader
  n : FewL FewW w.net
  s : FewL FewS w.sent
/- laws.toByteS -/
theorem laws_toByteS_spec (q : List UInt8) (hb : FewB q) : Pw.Spec Tryz.prog 17 [eBs q] (fun res_ => res_ = eBs q) := by
  refine spec_of (n := 22) Tryz.call17 Tryz.func17 rfl rfl (by simp) rfl rfl fun W Z => ?_
  have hll : (q.map eb).length = q.length := List.length_map ..
  have hql := hb
  have hrl : ∀ x, (eb x).length = 1 := fun x => rfl
  have hrf : ∀ x, freeL (eb x) = true := fun x => rfl
  refine PW.seq ?_
  refine PW.region ?_
  refine PL.run 1 rfl ?_
  refine PL.nil ?_
  refine PW.seq ?_
  refine PW.region ?_
  refine PL.run 2 rfl ?_
  refine PL.make rfl rfl rfl rfl rfl rfl rfl rfl rfl (by simp <;> omega) (by simp <;> omega) rfl (wantV_ok rfl) rfl ?_
  refine PL.run 1 rfl ?_
  refine PL.nil ?_
  refine PW.seq ?_
  refine PW.seq ?_
  refine PW.region ?_
  refine PL.run 1 rfl ?_
  refine PL.nil ?_
  refine PW.block ?_
  refine PW.loopAt (α := Nat) (fun i => ⟨[(3, .bs 7 0 (q.map eb).length (q.map eb).length), (0, eBs q), (4, eI (i : Int))], ⟨[(7, (5, fillC [.lit (.int .u8 0)] (q.map eb) i))], []⟩⟩) (fun i => i ≤ q.length) (fun i => q.length - i) 0 (Le.boxes ⟨⟨congrArg (fun c => some (_, c)) (fillC_zero rfl rfl), fillC_free (row_free hrf q) rfl⟩, trivial⟩ ⟨⟨rfl, rfl⟩, ⟨rfl, rfl⟩, ⟨rfl, rfl⟩, trivial⟩) (Nat.zero_le _) (fun i hi => ?_)
  refine PW.seq ?_
  refine PW.seq ?_
  refine PW.region ?_
  refine PL.run 4 rfl ?_
  refine PL.nil ?_
  refine PW.cond rfl (fun h1 => ?_) (fun h1 => ?_)
  ·
    have hlt : i < q.length := by simpa using h1
    clear h1
    obtain ⟨x, hx⟩ : ∃ y, q[i]? = some y := ⟨_, List.getElem?_eq_getElem hlt⟩
    have hup : some (PV.lit (.int .i64 (IntKind.i64.wrap ((i : Int) + 1)))) = some (PV.lit (.int .i64 ((i + 1 : Nat) : Int))) := inc_ok (by omega)
    refine PW.skip ?_
    refine PW.seq ?_
    refine PW.block ?_
    refine PW.region ?_
    refine PL.run 4 rfl ?_
    refine PL.val (OpV.idx rfl rfl rfl (nat_nonneg i) (map_at' hx) rfl rfl rfl rfl) (wantV_ok rfl) rfl ?_
    refine PL.run 1 rfl ?_
    refine PL.val (OpV.idxB rfl rfl rfl (nat_nonneg i) (by rw [Int.toNat_natCast, hll]; exact hlt) rfl rfl rfl) (wantV_ok rfl) rfl ?_
    refine PL.store rfl rfl rfl rfl rfl rfl rfl (by rw [fillC_len (row_len hrl q) rfl (by rw [hll]; exact hi), hll]; show 0 + ((i : Nat) : Int).toNat * 1 + 1 ≤ q.length * 1; rw [mul_toNat]; exact off_le hlt) rfl (wantV_ok rfl) ?_
    refine PL.nil ?_
    refine PW.region ?_
    refine PL.run 3 rfl ?_
    refine PL.nil ?_
    refine ⟨i + 1, Le.boxes ⟨⟨congrArg (fun c => some (_, c)) (fillC_step (row_len hrl q) rfl (map_at' hx) mul_toNat), fillC_free (row_free hrf q) rfl⟩, trivial⟩ ⟨⟨rfl, rfl⟩, ⟨rfl, rfl⟩, ⟨hup, rfl⟩, trivial⟩, hlt, by omega⟩
  ·
    have hge : i = q.length := Nat.le_antisymm hi (by simpa using h1)
    refine PW.exit ?_
    refine PW.seq ?_
    refine PW.region ?_
    refine PL.run 2 rfl ?_
    refine PL.nil ?_
    refine PW.le (Le.freezeS (tv := 2) (sz := 1) (es := q.map eb) (r := []) (e := []) rfl rfl (fillC_free (row_free hrf q) rfl) (fillC_end (by rw [hll]; exact hge)) rfl (row_len hrl q) (Nat.le_refl _)) ?_
    refine PW.ret ?_
    refine RetOk.free rfl rfl rfl
/- laws.toItem -/
theorem laws_toItem_spec (x : Item) (hb : FewI x) : Pw.Spec Tryz.prog 119 [.agg (eItem x)] (fun res_ => res_ = .agg (eItem x)) := by
  refine spec_of (n := 18) Tryz.call119 Tryz.func119 rfl rfl (by simp) rfl rfl fun W Z => ?_
  refine PW.seq ?_
  refine PW.region ?_
  refine PL.run 2 rfl ?_
  refine PL.nil ?_
  refine PW.seq ?_
  refine PW.region ?_
  refine PL.run 1 rfl ?_
  refine PL.nil ?_
  refine PW.seq ?_
  refine PW.region ?_
  refine PL.run 4 rfl ?_
  refine PL.nil ?_
  refine PW.seq ?_
  refine PW.region ?_
  refine PL.run 4 rfl ?_
  refine PL.nil ?_
  refine PW.seq ?_
  refine PW.region ?_
  refine PL.run 4 rfl ?_
  refine PL.nil ?_
  refine PW.seq ?_
  refine PW.region ?_
  refine PL.run 2 rfl ?_
  refine PL.call rfl rfl rfl (laws_toByteS_spec x.bytes hb) (.cons (.refl _) <| .nil) (fun p hp => by subst hp; rfl) (wantV_ok rfl) rfl (fun p hp => ?_)
  subst hp
  refine PL.run 2 rfl ?_
  refine PL.nil ?_
  refine PW.seq ?_
  refine PW.region ?_
  refine PL.run 2 rfl ?_
  refine PL.nil ?_
  refine PW.ret ?_
  refine RetOk.free rfl rfl rfl
/- laws.toItemS -/
theorem laws_toItemS_spec (q : List Item) (hb : FewL FewI q) : Pw.Spec Tryz.prog 85 [eItems q] (fun res_ => res_ = eItems q) := by
  refine spec_of (n := 23) Tryz.call85 Tryz.func85 rfl rfl (by simp) rfl rfl fun W Z => ?_
  have hll : (q.map eItem).length = q.length := List.length_map ..
  have hql := hb.len
  have hrl : ∀ x, (eItem x).length = 4 := fun x => rfl
  have hrf : ∀ x, freeL (eItem x) = true := fun x => rfl
  refine PW.seq ?_
  refine PW.region ?_
  refine PL.run 1 rfl ?_
  refine PL.nil ?_
  refine PW.seq ?_
  refine PW.region ?_
  refine PL.run 2 rfl ?_
  refine PL.make rfl rfl rfl rfl rfl rfl rfl rfl rfl (by simp <;> omega) (by simp <;> omega) rfl (wantV_ok rfl) rfl ?_
  refine PL.run 1 rfl ?_
  refine PL.nil ?_
  refine PW.seq ?_
  refine PW.seq ?_
  refine PW.region ?_
  refine PL.run 1 rfl ?_
  refine PL.nil ?_
  refine PW.block ?_
  refine PW.loopAt (α := Nat) (fun i => ⟨[(3, .bs 7 0 (q.map eItem).length (q.map eItem).length), (0, eItems q), (4, eI (i : Int))], ⟨[(7, (64, fillC [.lit (.string ByteArray.empty), .lit (.int .i64 0), .lit (.int .i64 0), .lit (.slice none 0 0)] (q.map eItem) i))], []⟩⟩) (fun i => i ≤ q.length) (fun i => q.length - i) 0 (Le.boxes ⟨⟨congrArg (fun c => some (_, c)) (fillC_zero rfl rfl), fillC_free (row_free hrf q) rfl⟩, trivial⟩ ⟨⟨rfl, rfl⟩, ⟨rfl, rfl⟩, ⟨rfl, rfl⟩, trivial⟩) (Nat.zero_le _) (fun i hi => ?_)
  refine PW.seq ?_
  refine PW.seq ?_
  refine PW.region ?_
  refine PL.run 4 rfl ?_
  refine PL.nil ?_
  refine PW.cond rfl (fun h1 => ?_) (fun h1 => ?_)
  ·
    have hlt : i < q.length := by simpa using h1
    clear h1
    obtain ⟨x, hx⟩ : ∃ y, q[i]? = some y := ⟨_, List.getElem?_eq_getElem hlt⟩
    have hup : some (PV.lit (.int .i64 (IntKind.i64.wrap ((i : Int) + 1)))) = some (PV.lit (.int .i64 ((i + 1 : Nat) : Int))) := inc_ok (by omega)
    refine PW.skip ?_
    refine PW.seq ?_
    refine PW.block ?_
    refine PW.region ?_
    refine PL.run 4 rfl ?_
    refine PL.val (OpV.idx rfl rfl rfl (nat_nonneg i) (map_at' hx) rfl rfl rfl rfl) (wantV_ok rfl) rfl ?_
    refine PL.run 1 rfl ?_
    refine PL.call rfl rfl rfl (laws_toItem_spec x (hb.all i x hx)) (.cons (.refl _) <| .nil) (fun p hp => by subst hp; rfl) (wantV_ok rfl) rfl (fun p hp => ?_)
    subst hp
    refine PL.val (OpV.idxB rfl rfl rfl (nat_nonneg i) (by rw [Int.toNat_natCast, hll]; exact hlt) rfl rfl rfl) (wantV_ok rfl) rfl ?_
    refine PL.store rfl rfl rfl rfl rfl rfl rfl (by rw [fillC_len (row_len hrl q) rfl (by rw [hll]; exact hi), hll]; show 0 + ((i : Nat) : Int).toNat * 4 + 4 ≤ q.length * 4; rw [mul_toNat]; exact off_le hlt) rfl (wantV_ok rfl) ?_
    refine PL.nil ?_
    refine PW.region ?_
    refine PL.run 3 rfl ?_
    refine PL.nil ?_
    refine ⟨i + 1, Le.boxes ⟨⟨congrArg (fun c => some (_, c)) (fillC_step (row_len hrl q) rfl (map_at' hx) mul_toNat), fillC_free (row_free hrf q) rfl⟩, trivial⟩ ⟨⟨rfl, rfl⟩, ⟨rfl, rfl⟩, ⟨hup, rfl⟩, trivial⟩, hlt, by omega⟩
  ·
    have hge : i = q.length := Nat.le_antisymm hi (by simpa using h1)
    refine PW.exit ?_
    refine PW.seq ?_
    refine PW.region ?_
    refine PL.run 2 rfl ?_
    refine PL.nil ?_
    refine PW.le (Le.freezeS (tv := 2) (sz := 4) (es := q.map eItem) (r := []) (e := []) rfl rfl (fillC_free (row_free hrf q) rfl) (fillC_end (by rw [hll]; exact hge)) rfl (row_len hrl q) (Nat.le_refl _)) ?_
    refine PW.ret ?_
    refine RetOk.free rfl rfl rfl
/- laws.toPost -/
theorem laws_toPost_spec (p : Post) (hb : FewP p) : Pw.Spec Tryz.prog 39 [.agg (ePost p)] (fun res_ => res_ = .agg (ePost p)) := by
  refine spec_of (n := 19) Tryz.call39 Tryz.func39 rfl rfl (by simp) rfl rfl fun W Z => ?_
  refine PW.seq ?_
  refine PW.region ?_
  refine PL.run 2 rfl ?_
  refine PL.nil ?_
  refine PW.seq ?_
  refine PW.region ?_
  refine PL.run 1 rfl ?_
  refine PL.nil ?_
  refine PW.seq ?_
  refine PW.region ?_
  refine PL.run 2 rfl ?_
  refine PL.call rfl rfl rfl (laws_toItemS_spec p.queue hb.q) (.cons (.refl _) <| .nil) (fun p hp => by subst hp; rfl) (wantV_ok rfl) rfl (fun p hp => ?_)
  subst hp
  refine PL.run 2 rfl ?_
  refine PL.nil ?_
  refine PW.seq ?_
  refine PW.region ?_
  refine PL.run 4 rfl ?_
  refine PL.nil ?_
  refine PW.seq ?_
  refine PW.region ?_
  refine PL.run 2 rfl ?_
  refine PL.call rfl rfl rfl (laws_toByteS_spec p.book hb.b) (.cons (.refl _) <| .nil) (fun p hp => by subst hp; rfl) (wantV_ok rfl) rfl (fun p hp => ?_)
  subst hp
  refine PL.run 2 rfl ?_
  refine PL.nil ?_
  refine PW.seq ?_
  refine PW.region ?_
  refine PL.run 4 rfl ?_
  refine PL.nil ?_
  refine PW.seq ?_
  refine PW.region ?_
  refine PL.run 2 rfl ?_
  refine PL.nil ?_
  refine PW.ret ?_
  refine RetOk.free rfl rfl rfl
/- laws.toByteSS -/
theorem laws_toByteSS_spec (q : List (List UInt8)) (hb : FewL FewB q) : Pw.Spec Tryz.prog 86 [eBss q] (fun res_ => res_ = eBss q) := by
  refine spec_of (n := 23) Tryz.call86 Tryz.func86 rfl rfl (by simp) rfl rfl fun W Z => ?_
  have hll : (q.map eBss1).length = q.length := List.length_map ..
  have hql := hb.len
  have hrl : ∀ x, (eBss1 x).length = 1 := fun x => rfl
  have hrf : ∀ x, freeL (eBss1 x) = true := fun x => rfl
  refine PW.seq ?_
  refine PW.region ?_
  refine PL.run 1 rfl ?_
  refine PL.nil ?_
  refine PW.seq ?_
  refine PW.region ?_
  refine PL.run 2 rfl ?_
  refine PL.make rfl rfl rfl rfl rfl rfl rfl rfl rfl (by simp <;> omega) (by simp <;> omega) rfl (wantV_ok rfl) rfl ?_
  refine PL.run 1 rfl ?_
  refine PL.nil ?_
  refine PW.seq ?_
  refine PW.seq ?_
  refine PW.region ?_
  refine PL.run 1 rfl ?_
  refine PL.nil ?_
  refine PW.block ?_
  refine PW.loopAt (α := Nat) (fun i => ⟨[(3, .bs 7 0 (q.map eBss1).length (q.map eBss1).length), (0, eBss q), (4, eI (i : Int))], ⟨[(7, (22, fillC [.lit (.slice none 0 0)] (q.map eBss1) i))], []⟩⟩) (fun i => i ≤ q.length) (fun i => q.length - i) 0 (Le.boxes ⟨⟨congrArg (fun c => some (_, c)) (fillC_zero rfl rfl), fillC_free (row_free hrf q) rfl⟩, trivial⟩ ⟨⟨rfl, rfl⟩, ⟨rfl, rfl⟩, ⟨rfl, rfl⟩, trivial⟩) (Nat.zero_le _) (fun i hi => ?_)
  refine PW.seq ?_
  refine PW.seq ?_
  refine PW.region ?_
  refine PL.run 4 rfl ?_
  refine PL.nil ?_
  refine PW.cond rfl (fun h1 => ?_) (fun h1 => ?_)
  ·
    have hlt : i < q.length := by simpa using h1
    clear h1
    obtain ⟨x, hx⟩ : ∃ y, q[i]? = some y := ⟨_, List.getElem?_eq_getElem hlt⟩
    have hup : some (PV.lit (.int .i64 (IntKind.i64.wrap ((i : Int) + 1)))) = some (PV.lit (.int .i64 ((i + 1 : Nat) : Int))) := inc_ok (by omega)
    refine PW.skip ?_
    refine PW.seq ?_
    refine PW.block ?_
    refine PW.region ?_
    refine PL.run 4 rfl ?_
    refine PL.val (OpV.idx rfl rfl rfl (nat_nonneg i) (map_at' hx) rfl rfl rfl rfl) (wantV_ok rfl) rfl ?_
    refine PL.run 1 rfl ?_
    refine PL.call rfl rfl rfl (laws_toByteS_spec x (hb.all i x hx)) (.cons (.refl _) <| .nil) (fun p hp => by subst hp; rfl) (wantV_ok rfl) rfl (fun p hp => ?_)
    subst hp
    refine PL.val (OpV.idxB rfl rfl rfl (nat_nonneg i) (by rw [Int.toNat_natCast, hll]; exact hlt) rfl rfl rfl) (wantV_ok rfl) rfl ?_
    refine PL.store rfl rfl rfl rfl rfl rfl rfl (by rw [fillC_len (row_len hrl q) rfl (by rw [hll]; exact hi), hll]; show 0 + ((i : Nat) : Int).toNat * 1 + 1 ≤ q.length * 1; rw [mul_toNat]; exact off_le hlt) rfl (wantV_ok rfl) ?_
    refine PL.nil ?_
    refine PW.region ?_
    refine PL.run 3 rfl ?_
    refine PL.nil ?_
    refine ⟨i + 1, Le.boxes ⟨⟨congrArg (fun c => some (_, c)) (fillC_step (row_len hrl q) rfl (map_at' hx) mul_toNat), fillC_free (row_free hrf q) rfl⟩, trivial⟩ ⟨⟨rfl, rfl⟩, ⟨rfl, rfl⟩, ⟨hup, rfl⟩, trivial⟩, hlt, by omega⟩
  ·
    have hge : i = q.length := Nat.le_antisymm hi (by simpa using h1)
    refine PW.exit ?_
    refine PW.seq ?_
    refine PW.region ?_
    refine PL.run 2 rfl ?_
    refine PL.nil ?_
    refine PW.le (Le.freezeS (tv := 2) (sz := 1) (es := q.map eBss1) (r := []) (e := []) rfl rfl (fillC_free (row_free hrf q) rfl) (fillC_end (by rw [hll]; exact hge)) rfl (row_len hrl q) (Nat.le_refl _)) ?_
    refine PW.ret ?_
    refine RetOk.free rfl rfl rfl
/- laws.toReader -/
theorem laws_toReader_spec (r : Reader) (hb : FewR r) : Pw.Spec Tryz.prog 40 [.agg (eReader r)] (fun res_ => res_ = .agg (eReader r)) := by
  refine spec_of (n := 20) Tryz.call40 Tryz.func40 rfl rfl (by simp) rfl rfl fun W Z => ?_
  refine PW.seq ?_
  refine PW.region ?_
  refine PL.run 2 rfl ?_
  refine PL.nil ?_
  refine PW.seq ?_
  refine PW.region ?_
  refine PL.run 1 rfl ?_
  refine PL.nil ?_
  refine PW.seq ?_
  refine PW.region ?_
  refine PL.run 2 rfl ?_
  refine PL.call rfl rfl rfl (laws_toByteS_spec r.seed hb.s) (.cons (.refl _) <| .nil) (fun p hp => by subst hp; rfl) (wantV_ok rfl) rfl (fun p hp => ?_)
  subst hp
  refine PL.run 2 rfl ?_
  refine PL.nil ?_
  refine PW.seq ?_
  refine PW.region ?_
  refine PL.run 4 rfl ?_
  refine PL.nil ?_
  refine PW.seq ?_
  refine PW.region ?_
  refine PL.run 2 rfl ?_
  refine PL.call rfl rfl rfl (laws_toByteSS_spec r.seen hb.seen) (.cons (.refl _) <| .nil) (fun p hp => by subst hp; rfl) (wantV_ok rfl) rfl (fun p hp => ?_)
  subst hp
  refine PL.run 2 rfl ?_
  refine PL.nil ?_
  refine PW.seq ?_
  refine PW.region ?_
  refine PL.run 2 rfl ?_
  refine PL.call rfl rfl rfl (laws_toByteSS_spec r.got hb.got) (.cons (.refl _) <| .nil) (fun p hp => by subst hp; rfl) (wantV_ok rfl) rfl (fun p hp => ?_)
  subst hp
  refine PL.run 2 rfl ?_
  refine PL.nil ?_
  refine PW.seq ?_
  refine PW.region ?_
  refine PL.run 2 rfl ?_
  refine PL.nil ?_
  refine PW.ret ?_
  refine RetOk.free rfl rfl rfl
/- laws.toWire -/
theorem laws_toWire_spec (w : Wire) (hb : FewW w) : Pw.Spec Tryz.prog 87 [.agg (eWire w)] (fun res_ => res_ = .agg (eWire w)) := by
  refine spec_of (n := 16) Tryz.call87 Tryz.func87 rfl rfl (by simp) rfl rfl fun W Z => ?_
  refine PW.seq ?_
  refine PW.region ?_
  refine PL.run 2 rfl ?_
  refine PL.nil ?_
  refine PW.seq ?_
  refine PW.region ?_
  refine PL.run 1 rfl ?_
  refine PL.nil ?_
  refine PW.seq ?_
  refine PW.region ?_
  refine PL.run 4 rfl ?_
  refine PL.nil ?_
  refine PW.seq ?_
  refine PW.region ?_
  refine PL.run 2 rfl ?_
  refine PL.call rfl rfl rfl (laws_toItem_spec w.item hb.i) (.cons (.refl _) <| .nil) (fun p hp => by subst hp; rfl) (wantV_ok rfl) rfl (fun p hp => ?_)
  subst hp
  refine PL.run 2 rfl ?_
  refine PL.nil ?_
  refine PW.seq ?_
  refine PW.region ?_
  refine PL.run 2 rfl ?_
  refine PL.call rfl rfl rfl (laws_toByteS_spec w.bytes hb.b) (.cons (.refl _) <| .nil) (fun p hp => by subst hp; rfl) (wantV_ok rfl) rfl (fun p hp => ?_)
  subst hp
  refine PL.run 2 rfl ?_
  refine PL.nil ?_
  refine PW.seq ?_
  refine PW.region ?_
  refine PL.run 2 rfl ?_
  refine PL.nil ?_
  refine PW.ret ?_
  refine RetOk.free rfl rfl rfl
/- laws.toWireS -/
theorem laws_toWireS_spec (q : List Wire) (hb : FewL FewW q) : Pw.Spec Tryz.prog 41 [eWires q] (fun res_ => res_ = eWires q) := by
  refine spec_of (n := 23) Tryz.call41 Tryz.func41 rfl rfl (by simp) rfl rfl fun W Z => ?_
  have hll : (q.map eWire).length = q.length := List.length_map ..
  have hql := hb.len
  have hrl : ∀ x, (eWire x).length = 6 := fun x => rfl
  have hrf : ∀ x, freeL (eWire x) = true := fun x => rfl
  refine PW.seq ?_
  refine PW.region ?_
  refine PL.run 1 rfl ?_
  refine PL.nil ?_
  refine PW.seq ?_
  refine PW.region ?_
  refine PL.run 2 rfl ?_
  refine PL.make rfl rfl rfl rfl rfl rfl rfl rfl rfl (by simp <;> omega) (by simp <;> omega) rfl (wantV_ok rfl) rfl ?_
  refine PL.run 1 rfl ?_
  refine PL.nil ?_
  refine PW.seq ?_
  refine PW.seq ?_
  refine PW.region ?_
  refine PL.run 1 rfl ?_
  refine PL.nil ?_
  refine PW.block ?_
  refine PW.loopAt (α := Nat) (fun i => ⟨[(3, .bs 7 0 (q.map eWire).length (q.map eWire).length), (0, eWires q), (4, eI (i : Int))], ⟨[(7, (71, fillC [.lit (.bool false), .lit (.string ByteArray.empty), .lit (.int .i64 0), .lit (.int .i64 0), .lit (.slice none 0 0), .lit (.slice none 0 0)] (q.map eWire) i))], []⟩⟩) (fun i => i ≤ q.length) (fun i => q.length - i) 0 (Le.boxes ⟨⟨congrArg (fun c => some (_, c)) (fillC_zero rfl rfl), fillC_free (row_free hrf q) rfl⟩, trivial⟩ ⟨⟨rfl, rfl⟩, ⟨rfl, rfl⟩, ⟨rfl, rfl⟩, trivial⟩) (Nat.zero_le _) (fun i hi => ?_)
  refine PW.seq ?_
  refine PW.seq ?_
  refine PW.region ?_
  refine PL.run 4 rfl ?_
  refine PL.nil ?_
  refine PW.cond rfl (fun h1 => ?_) (fun h1 => ?_)
  ·
    have hlt : i < q.length := by simpa using h1
    clear h1
    obtain ⟨x, hx⟩ : ∃ y, q[i]? = some y := ⟨_, List.getElem?_eq_getElem hlt⟩
    have hup : some (PV.lit (.int .i64 (IntKind.i64.wrap ((i : Int) + 1)))) = some (PV.lit (.int .i64 ((i + 1 : Nat) : Int))) := inc_ok (by omega)
    refine PW.skip ?_
    refine PW.seq ?_
    refine PW.block ?_
    refine PW.region ?_
    refine PL.run 4 rfl ?_
    refine PL.val (OpV.idx rfl rfl rfl (nat_nonneg i) (map_at' hx) rfl rfl rfl rfl) (wantV_ok rfl) rfl ?_
    refine PL.run 1 rfl ?_
    refine PL.call rfl rfl rfl (laws_toWire_spec x (hb.all i x hx)) (.cons (.refl _) <| .nil) (fun p hp => by subst hp; rfl) (wantV_ok rfl) rfl (fun p hp => ?_)
    subst hp
    refine PL.val (OpV.idxB rfl rfl rfl (nat_nonneg i) (by rw [Int.toNat_natCast, hll]; exact hlt) rfl rfl rfl) (wantV_ok rfl) rfl ?_
    refine PL.store rfl rfl rfl rfl rfl rfl rfl (by rw [fillC_len (row_len hrl q) rfl (by rw [hll]; exact hi), hll]; show 0 + ((i : Nat) : Int).toNat * 6 + 6 ≤ q.length * 6; rw [mul_toNat]; exact off_le hlt) rfl (wantV_ok rfl) ?_
    refine PL.nil ?_
    refine PW.region ?_
    refine PL.run 3 rfl ?_
    refine PL.nil ?_
    refine ⟨i + 1, Le.boxes ⟨⟨congrArg (fun c => some (_, c)) (fillC_step (row_len hrl q) rfl (map_at' hx) mul_toNat), fillC_free (row_free hrf q) rfl⟩, trivial⟩ ⟨⟨rfl, rfl⟩, ⟨rfl, rfl⟩, ⟨hup, rfl⟩, trivial⟩, hlt, by omega⟩
  ·
    have hge : i = q.length := Nat.le_antisymm hi (by simpa using h1)
    refine PW.exit ?_
    refine PW.seq ?_
    refine PW.region ?_
    refine PL.run 2 rfl ?_
    refine PL.nil ?_
    refine PW.le (Le.freezeS (tv := 2) (sz := 6) (es := q.map eWire) (r := []) (e := []) rfl rfl (fillC_free (row_free hrf q) rfl) (fillC_end (by rw [hll]; exact hge)) rfl (row_len hrl q) (Nat.le_refl _)) ?_
    refine PW.ret ?_
    refine RetOk.free rfl rfl rfl
/- laws.toSent -/
theorem laws_toSent_spec (x : Sent) (hb : FewS x) : Pw.Spec Tryz.prog 88 [.agg (eSent x)] (fun res_ => res_ = .agg (eSent x)) := by
  refine spec_of (n := 19) Tryz.call88 Tryz.func88 rfl rfl (by simp) rfl rfl fun W Z => ?_
  refine PW.seq ?_
  refine PW.region ?_
  refine PL.run 2 rfl ?_
  refine PL.nil ?_
  refine PW.seq ?_
  refine PW.region ?_
  refine PL.run 1 rfl ?_
  refine PL.nil ?_
  refine PW.seq ?_
  refine PW.region ?_
  refine PL.run 4 rfl ?_
  refine PL.nil ?_
  refine PW.seq ?_
  refine PW.region ?_
  refine PL.run 4 rfl ?_
  refine PL.nil ?_
  refine PW.seq ?_
  refine PW.region ?_
  refine PL.run 2 rfl ?_
  refine PL.call rfl rfl rfl (laws_toByteS_spec x.note hb.n) (.cons (.refl _) <| .nil) (fun p hp => by subst hp; rfl) (wantV_ok rfl) rfl (fun p hp => ?_)
  subst hp
  refine PL.run 2 rfl ?_
  refine PL.nil ?_
  refine PW.seq ?_
  refine PW.region ?_
  refine PL.run 2 rfl ?_
  refine PL.call rfl rfl rfl (laws_toByteS_spec x.bytes hb.b) (.cons (.refl _) <| .nil) (fun p hp => by subst hp; rfl) (wantV_ok rfl) rfl (fun p hp => ?_)
  subst hp
  refine PL.run 2 rfl ?_
  refine PL.nil ?_
  refine PW.seq ?_
  refine PW.region ?_
  refine PL.run 2 rfl ?_
  refine PL.nil ?_
  refine PW.ret ?_
  refine RetOk.free rfl rfl rfl
/- laws.toSentS -/
theorem laws_toSentS_spec (q : List Sent) (hb : FewL FewS q) : Pw.Spec Tryz.prog 42 [eSents q] (fun res_ => res_ = eSents q) := by
  refine spec_of (n := 23) Tryz.call42 Tryz.func42 rfl rfl (by simp) rfl rfl fun W Z => ?_
  have hll : (q.map eSent).length = q.length := List.length_map ..
  have hql := hb.len
  have hrl : ∀ x, (eSent x).length = 4 := fun x => rfl
  have hrf : ∀ x, freeL (eSent x) = true := fun x => rfl
  refine PW.seq ?_
  refine PW.region ?_
  refine PL.run 1 rfl ?_
  refine PL.nil ?_
  refine PW.seq ?_
  refine PW.region ?_
  refine PL.run 2 rfl ?_
  refine PL.make rfl rfl rfl rfl rfl rfl rfl rfl rfl (by simp <;> omega) (by simp <;> omega) rfl (wantV_ok rfl) rfl ?_
  refine PL.run 1 rfl ?_
  refine PL.nil ?_
  refine PW.seq ?_
  refine PW.seq ?_
  refine PW.region ?_
  refine PL.run 1 rfl ?_
  refine PL.nil ?_
  refine PW.block ?_
  refine PW.loopAt (α := Nat) (fun i => ⟨[(3, .bs 7 0 (q.map eSent).length (q.map eSent).length), (0, eSents q), (4, eI (i : Int))], ⟨[(7, (61, fillC [.lit (.string ByteArray.empty), .lit (.int .i64 0), .lit (.slice none 0 0), .lit (.slice none 0 0)] (q.map eSent) i))], []⟩⟩) (fun i => i ≤ q.length) (fun i => q.length - i) 0 (Le.boxes ⟨⟨congrArg (fun c => some (_, c)) (fillC_zero rfl rfl), fillC_free (row_free hrf q) rfl⟩, trivial⟩ ⟨⟨rfl, rfl⟩, ⟨rfl, rfl⟩, ⟨rfl, rfl⟩, trivial⟩) (Nat.zero_le _) (fun i hi => ?_)
  refine PW.seq ?_
  refine PW.seq ?_
  refine PW.region ?_
  refine PL.run 4 rfl ?_
  refine PL.nil ?_
  refine PW.cond rfl (fun h1 => ?_) (fun h1 => ?_)
  ·
    have hlt : i < q.length := by simpa using h1
    clear h1
    obtain ⟨x, hx⟩ : ∃ y, q[i]? = some y := ⟨_, List.getElem?_eq_getElem hlt⟩
    have hup : some (PV.lit (.int .i64 (IntKind.i64.wrap ((i : Int) + 1)))) = some (PV.lit (.int .i64 ((i + 1 : Nat) : Int))) := inc_ok (by omega)
    refine PW.skip ?_
    refine PW.seq ?_
    refine PW.block ?_
    refine PW.region ?_
    refine PL.run 4 rfl ?_
    refine PL.val (OpV.idx rfl rfl rfl (nat_nonneg i) (map_at' hx) rfl rfl rfl rfl) (wantV_ok rfl) rfl ?_
    refine PL.run 1 rfl ?_
    refine PL.call rfl rfl rfl (laws_toSent_spec x (hb.all i x hx)) (.cons (.refl _) <| .nil) (fun p hp => by subst hp; rfl) (wantV_ok rfl) rfl (fun p hp => ?_)
    subst hp
    refine PL.val (OpV.idxB rfl rfl rfl (nat_nonneg i) (by rw [Int.toNat_natCast, hll]; exact hlt) rfl rfl rfl) (wantV_ok rfl) rfl ?_
    refine PL.store rfl rfl rfl rfl rfl rfl rfl (by rw [fillC_len (row_len hrl q) rfl (by rw [hll]; exact hi), hll]; show 0 + ((i : Nat) : Int).toNat * 4 + 4 ≤ q.length * 4; rw [mul_toNat]; exact off_le hlt) rfl (wantV_ok rfl) ?_
    refine PL.nil ?_
    refine PW.region ?_
    refine PL.run 3 rfl ?_
    refine PL.nil ?_
    refine ⟨i + 1, Le.boxes ⟨⟨congrArg (fun c => some (_, c)) (fillC_step (row_len hrl q) rfl (map_at' hx) mul_toNat), fillC_free (row_free hrf q) rfl⟩, trivial⟩ ⟨⟨rfl, rfl⟩, ⟨rfl, rfl⟩, ⟨hup, rfl⟩, trivial⟩, hlt, by omega⟩
  ·
    have hge : i = q.length := Nat.le_antisymm hi (by simpa using h1)
    refine PW.exit ?_
    refine PW.seq ?_
    refine PW.region ?_
    refine PL.run 2 rfl ?_
    refine PL.nil ?_
    refine PW.le (Le.freezeS (tv := 2) (sz := 4) (es := q.map eSent) (r := []) (e := []) rfl rfl (fillC_free (row_free hrf q) rfl) (fillC_end (by rw [hll]; exact hge)) rfl (row_len hrl q) (Nat.le_refl _)) ?_
    refine PW.ret ?_
    refine RetOk.free rfl rfl rfl
/- laws.toWorld -/
theorem laws_toWorld_spec (w : Earth) (hb : FewE w) : Pw.Spec Tryz.prog 11 [.agg (eEarth w)] (fun res_ => res_ = .agg (eEarth w)) := by
  refine spec_of (n := 31) Tryz.call11 Tryz.func11 rfl rfl (by simp) rfl rfl fun W Z => ?_
  refine PW.seq ?_
  refine PW.region ?_
  refine PL.run 2 rfl ?_
  refine PL.nil ?_
  refine PW.seq ?_
  refine PW.region ?_
  refine PL.run 1 rfl ?_
  refine PL.nil ?_
  refine PW.seq ?_
  refine PW.region ?_
  refine PL.run 2 rfl ?_
  refine PL.call rfl rfl rfl (laws_toByteS_spec w.seed hb.seed) (.cons (.refl _) <| .nil) (fun p hp => by subst hp; rfl) (wantV_ok rfl) rfl (fun p hp => ?_)
  subst hp
  refine PL.run 2 rfl ?_
  refine PL.nil ?_
  refine PW.seq ?_
  refine PW.region ?_
  refine PL.run 4 rfl ?_
  refine PL.nil ?_
  refine PW.seq ?_
  refine PW.region ?_
  refine PL.run 4 rfl ?_
  refine PL.nil ?_
  refine PW.seq ?_
  refine PW.region ?_
  refine PL.run 2 rfl ?_
  refine PL.call rfl rfl rfl (laws_toPost_spec w.post hb.p) (.cons (.refl _) <| .nil) (fun p hp => by subst hp; rfl) (wantV_ok rfl) rfl (fun p hp => ?_)
  subst hp
  refine PL.run 2 rfl ?_
  refine PL.nil ?_
  refine PW.seq ?_
  refine PW.region ?_
  refine PL.run 2 rfl ?_
  refine PL.call rfl rfl rfl (laws_toReader_spec w.reader hb.r) (.cons (.refl _) <| .nil) (fun p hp => by subst hp; rfl) (wantV_ok rfl) rfl (fun p hp => ?_)
  subst hp
  refine PL.run 2 rfl ?_
  refine PL.nil ?_
  refine PW.seq ?_
  refine PW.region ?_
  refine PL.run 2 rfl ?_
  refine PL.call rfl rfl rfl (laws_toWireS_spec w.net hb.n) (.cons (.refl _) <| .nil) (fun p hp => by subst hp; rfl) (wantV_ok rfl) rfl (fun p hp => ?_)
  subst hp
  refine PL.run 2 rfl ?_
  refine PL.nil ?_
  refine PW.seq ?_
  refine PW.region ?_
  refine PL.run 2 rfl ?_
  refine PL.call rfl rfl rfl (laws_toSentS_spec w.sent hb.s) (.cons (.refl _) <| .nil) (fun p hp => by subst hp; rfl) (wantV_ok rfl) rfl (fun p hp => ?_)
  subst hp
  refine PL.run 2 rfl ?_
  refine PL.nil ?_
  refine PW.seq ?_
  refine PW.region ?_
  refine PL.run 2 rfl ?_
  refine PL.nil ?_
  refine PW.ret ?_
  refine RetOk.free rfl rfl rfl
end Go.Wl
set_option linter.unusedVariables false
set_option linter.unusedSimpArgs false
set_option maxRecDepth 100000
set_option maxHeartbeats 4000000
namespace Go.Wl
open Go Go.RowKit Go.Pw Go.Proofs
theorem OpV.neqT {cx : Cx} [TC cx.P] {o : Oper} {S : PS} {t : TypeId} {x y : Operand} {yt : TypeId} {m n : Bool} (ho : o.op = .binOp .neq t x y yt) (hx : S.ev x = some (.lit (.bool m))) (hy : S.ev y = some (.lit (.bool n))) {i : TI} (ht : lk (TC.T cx.P) t = some i) (hd : i.d = .bool) : OpV cx o S (.lit (.bool (!(m == n)))) := fun a W Z μ hz => by
  have ex := (hz.ev hx).lit_inv
  have ey := (hz.ev hy).lit_inv
  have hu := (TC.at_ ht).und
  rw [hd] at hu
  have hu : cx.P.underlying t = some .bool := hu
  refine ⟨_, ?_, .lit _ _⟩
  simp only [execOp, ho, ex, ey]
  have he : (Op.equal t (.bool m) (.bool n)).run cx.P W = .ok (m == n) W := by
    rw [Op.equal, show Op.maxDepth = 9999 + 1 from rfl, Op.equalIn]
    simp only [Sem.run_bind, run_underlying hu, Result.andThen_ok, Sem.run_pure]
  have hg : (eqGuard .neq t x y (.bool m) (.bool n)).run cx.P W = .ok () W := by
    simp [eqGuard, Sem.run_pure]
  simp only [binOp, Sem.run_bind, he, hg, Result.andThen_ok, Sem.run_pure]
/- laws.eqByteS -/
theorem laws_eqByteS_spec (q : List UInt8) (hb : FewB q) : Pw.Spec Tryz.prog 19 [eBs q, eBs q] (fun res_ => res_ = eT true) := by
  refine spec_of (n := 26) Tryz.call19 Tryz.func19 rfl rfl (by simp) rfl rfl fun W Z => ?_
  have hql : q.length ≤ 1048576 := hb
  refine PW.seq ?_
  refine PW.region ?_
  refine PL.run 1 rfl ?_
  refine PL.nil ?_
  refine PW.seq ?_
  refine PW.seq ?_
  refine PW.region ?_
  refine PL.run 5 rfl ?_
  refine PL.nil ?_
  refine PW.cond rfl (fun h1 => ?_) (fun h1 => ?_)
  ·
    simp at h1
  ·
    refine PW.skip ?_
    refine PW.seq ?_
    refine PW.seq ?_
    refine PW.region ?_
    refine PL.run 1 rfl ?_
    refine PL.nil ?_
    refine PW.block ?_
    clear h1
    refine PW.loopAt (α := Nat) (fun i => ⟨[(0, eBs q), (1, eBs q), (5, eI (i : Int))], PH.none⟩) (fun i => i ≤ q.length) (fun i => q.length - i) 0 (Le.free ⟨⟨rfl, rfl⟩, ⟨rfl, rfl⟩, ⟨rfl, rfl⟩, trivial⟩) (Nat.zero_le _) (fun i hi => ?_)
    refine PW.seq ?_
    refine PW.seq ?_
    refine PW.region ?_
    refine PL.run 4 rfl ?_
    refine PL.nil ?_
    refine PW.cond rfl (fun h2 => ?_) (fun h2 => ?_)
    ·
      have hlt : i < q.length := by simpa using h2
      clear h2
      obtain ⟨y, hy⟩ : ∃ y, q[i]? = some y := ⟨_, List.getElem?_eq_getElem hlt⟩
      have hup : some (PV.lit (.int .i64 (IntKind.i64.wrap ((i : Int) + 1)))) = some (PV.lit (.int .i64 ((i + 1 : Nat) : Int))) := inc_ok (by omega)
      refine PW.skip ?_
      refine PW.seq ?_
      refine PW.block ?_
      refine PW.seq ?_
      refine PW.drawn ((some 17, _) :: (some 18, _) :: (some 19, _) :: (some 20, _) :: (some 21, _) :: (some 22, _) :: (some 23, _) :: (some 24, _) :: (some 25, _) :: []) (0 :: 0 :: 3 :: 7 :: 0 :: 0 :: 48 :: 112 :: 255 :: []) (fun _ => _) mixed rfl rfl rfl rfl rfl
        (.cons rfl (fun ρ => PL.run 1 rfl (PL.nil rfl)) <|
        .cons rfl (fun ρ => PL.run 1 rfl (PL.nil rfl)) <|
        .cons rfl (fun ρ => PL.val (OpV.idx rfl rfl rfl (nat_nonneg i) (map_at' hy) rfl rfl rfl rfl) (wantV_ok rfl) rfl (PL.nil rfl)) <|
        .cons rfl (fun ρ => PL.run 1 rfl (PL.nil rfl)) <|
        .cons rfl (fun ρ => PL.run 1 rfl (PL.nil rfl)) <|
        .cons rfl (fun ρ => PL.run 1 rfl (PL.nil rfl)) <|
        .cons rfl (fun ρ => PL.val (OpV.idx rfl rfl rfl (nat_nonneg i) (map_at' hy) rfl rfl rfl rfl) (wantV_ok rfl) rfl (PL.nil rfl)) <|
        .cons rfl (fun ρ => PL.run 1 rfl (PL.nil rfl)) <|
        .cons rfl (fun ρ => PL.run 1 rfl (PL.nil rfl)) <|
        .nil _) ?_
      refine PW.cond rfl (fun h3 => ?_) (fun h3 => ?_)
      ·
        simp at h3
      ·
        refine PW.skip ?_
        refine PW.region ?_
        refine PL.run 3 rfl ?_
        refine PL.nil ?_
        refine ⟨i + 1, Le.free ⟨⟨rfl, rfl⟩, ⟨rfl, rfl⟩, ⟨hup, rfl⟩, trivial⟩, hlt, by omega⟩
    ·
      refine PW.exit ?_
      refine PW.seq ?_
      refine PW.region ?_
      refine PL.run 1 rfl ?_
      refine PL.nil ?_
      refine PW.ret ?_
      refine RetOk.free rfl rfl rfl
/- laws.eqItem -/
theorem laws_eqItem_spec (x : Item) (hb : FewI x) : Pw.Spec Tryz.prog 131 [.agg (eItem x), .agg (eItem x)] (fun res_ => res_ = eT true) := by
  refine spec_of (n := 26) Tryz.call131 Tryz.func131 rfl rfl (by simp) rfl rfl fun W Z => ?_
  refine PW.seq ?_
  refine PW.region ?_
  refine PL.run 3 rfl ?_
  refine PL.nil ?_
  refine PW.seq ?_
  refine PW.seq ?_
  refine PW.region ?_
  refine PL.run 5 rfl ?_
  refine PL.nil ?_
  refine PW.cond rfl (fun h1 => ?_) (fun h1 => ?_)
  ·
    simp at h1
  ·
    refine PW.skip ?_
    refine PW.seq ?_
    refine PW.seq ?_
    refine PW.region ?_
    refine PL.run 5 rfl ?_
    refine PL.nil ?_
    refine PW.cond rfl (fun h2 => ?_) (fun h2 => ?_)
    ·
      simp at h2
    ·
      refine PW.skip ?_
      refine PW.seq ?_
      refine PW.seq ?_
      refine PW.region ?_
      refine PL.run 5 rfl ?_
      refine PL.nil ?_
      refine PW.cond rfl (fun h3 => ?_) (fun h3 => ?_)
      ·
        simp at h3
      ·
        refine PW.skip ?_
        refine PW.seq ?_
        refine PW.seq ?_
        refine PW.region ?_
        refine PL.run 4 rfl ?_
        refine PL.call rfl rfl rfl (laws_eqByteS_spec x.bytes hb) (.cons (.refl _) <| .cons (.refl _) <| .nil) (fun p hp => by subst hp; rfl) (wantV_ok rfl) rfl (fun p hp => ?_)
        subst hp
        refine PL.run 1 rfl ?_
        refine PL.nil ?_
        refine PW.cond rfl (fun h4 => ?_) (fun h4 => ?_)
        ·
          simp at h4
        ·
          refine PW.skip ?_
          refine PW.seq ?_
          refine PW.region ?_
          refine PL.run 1 rfl ?_
          refine PL.nil ?_
          refine PW.ret ?_
          refine RetOk.free rfl rfl rfl
/- laws.eqItemS -/
theorem laws_eqItemS_spec (q : List Item) (hb : FewL FewI q) : Pw.Spec Tryz.prog 100 [eItems q, eItems q] (fun res_ => res_ = eT true) := by
  refine spec_of (n := 27) Tryz.call100 Tryz.func100 rfl rfl (by simp) rfl rfl fun W Z => ?_
  have hql : q.length ≤ 1048576 := hb.len
  refine PW.seq ?_
  refine PW.region ?_
  refine PL.run 1 rfl ?_
  refine PL.nil ?_
  refine PW.seq ?_
  refine PW.seq ?_
  refine PW.region ?_
  refine PL.run 5 rfl ?_
  refine PL.nil ?_
  refine PW.cond rfl (fun h1 => ?_) (fun h1 => ?_)
  ·
    simp at h1
  ·
    refine PW.skip ?_
    refine PW.seq ?_
    refine PW.seq ?_
    refine PW.region ?_
    refine PL.run 1 rfl ?_
    refine PL.nil ?_
    refine PW.block ?_
    clear h1
    refine PW.loopAt (α := Nat) (fun i => ⟨[(0, eItems q), (1, eItems q), (5, eI (i : Int))], PH.none⟩) (fun i => i ≤ q.length) (fun i => q.length - i) 0 (Le.free ⟨⟨rfl, rfl⟩, ⟨rfl, rfl⟩, ⟨rfl, rfl⟩, trivial⟩) (Nat.zero_le _) (fun i hi => ?_)
    refine PW.seq ?_
    refine PW.seq ?_
    refine PW.region ?_
    refine PL.run 4 rfl ?_
    refine PL.nil ?_
    refine PW.cond rfl (fun h2 => ?_) (fun h2 => ?_)
    ·
      have hlt : i < q.length := by simpa using h2
      clear h2
      obtain ⟨y, hy⟩ : ∃ y, q[i]? = some y := ⟨_, List.getElem?_eq_getElem hlt⟩
      have hup : some (PV.lit (.int .i64 (IntKind.i64.wrap ((i : Int) + 1)))) = some (PV.lit (.int .i64 ((i + 1 : Nat) : Int))) := inc_ok (by omega)
      refine PW.skip ?_
      refine PW.seq ?_
      refine PW.block ?_
      refine PW.seq ?_
      refine PW.drawn ((some 17, _) :: (some 18, _) :: (some 19, _) :: (some 20, _) :: (some 21, _) :: (some 22, _) :: (some 23, _) :: (some 24, _) :: (some 25, _) :: (some 26, _) :: []) (0 :: 0 :: 3 :: 7 :: 0 :: 0 :: 48 :: 112 :: 255 :: 511 :: []) (fun _ => _) mixed rfl rfl rfl rfl rfl
        (.cons rfl (fun ρ => PL.run 1 rfl (PL.nil rfl)) <|
        .cons rfl (fun ρ => PL.run 1 rfl (PL.nil rfl)) <|
        .cons rfl (fun ρ => PL.val (OpV.idx rfl rfl rfl (nat_nonneg i) (map_at' hy) rfl rfl rfl rfl) (wantV_ok rfl) rfl (PL.nil rfl)) <|
        .cons rfl (fun ρ => PL.run 1 rfl (PL.nil rfl)) <|
        .cons rfl (fun ρ => PL.run 1 rfl (PL.nil rfl)) <|
        .cons rfl (fun ρ => PL.run 1 rfl (PL.nil rfl)) <|
        .cons rfl (fun ρ => PL.val (OpV.idx rfl rfl rfl (nat_nonneg i) (map_at' hy) rfl rfl rfl rfl) (wantV_ok rfl) rfl (PL.nil rfl)) <|
        .cons rfl (fun ρ => PL.run 1 rfl (PL.nil rfl)) <|
        .cons rfl (fun ρ => PL.call rfl rfl rfl (laws_eqItem_spec y (hb.all i y hy)) (.cons (.refl _) <| .cons (.refl _) <| .nil) (fun p hp => by subst hp; rfl) (wantV_ok rfl) rfl (fun p hp => by subst hp; exact PL.nil rfl)) <|
        .cons rfl (fun ρ => PL.run 1 rfl (PL.nil rfl)) <|
        .nil _) ?_
      refine PW.cond rfl (fun h3 => ?_) (fun h3 => ?_)
      ·
        simp at h3
      ·
        refine PW.skip ?_
        refine PW.region ?_
        refine PL.run 3 rfl ?_
        refine PL.nil ?_
        refine ⟨i + 1, Le.free ⟨⟨rfl, rfl⟩, ⟨rfl, rfl⟩, ⟨hup, rfl⟩, trivial⟩, hlt, by omega⟩
    ·
      refine PW.exit ?_
      refine PW.seq ?_
      refine PW.region ?_
      refine PL.run 1 rfl ?_
      refine PL.nil ?_
      refine PW.ret ?_
      refine RetOk.free rfl rfl rfl
/- laws.eqPost -/
theorem laws_eqPost_spec (p : Post) (hb : FewP p) : Pw.Spec Tryz.prog 52 [.agg (ePost p), .agg (ePost p)] (fun res_ => res_ = eT true) := by
  refine spec_of (n := 27) Tryz.call52 Tryz.func52 rfl rfl (by simp) rfl rfl fun W Z => ?_
  refine PW.seq ?_
  refine PW.region ?_
  refine PL.run 3 rfl ?_
  refine PL.nil ?_
  refine PW.seq ?_
  refine PW.seq ?_
  refine PW.region ?_
  refine PL.run 4 rfl ?_
  refine PL.call rfl rfl rfl (laws_eqItemS_spec p.queue hb.q) (.cons (.refl _) <| .cons (.refl _) <| .nil) (fun p hp => by subst hp; rfl) (wantV_ok rfl) rfl (fun p hp => ?_)
  subst hp
  refine PL.run 1 rfl ?_
  refine PL.nil ?_
  refine PW.cond rfl (fun h1 => ?_) (fun h1 => ?_)
  ·
    simp at h1
  ·
    refine PW.skip ?_
    refine PW.seq ?_
    refine PW.seq ?_
    refine PW.region ?_
    refine PL.run 5 rfl ?_
    refine PL.nil ?_
    refine PW.cond rfl (fun h2 => ?_) (fun h2 => ?_)
    ·
      simp at h2
    ·
      refine PW.skip ?_
      refine PW.seq ?_
      refine PW.seq ?_
      refine PW.region ?_
      refine PL.run 4 rfl ?_
      refine PL.call rfl rfl rfl (laws_eqByteS_spec p.book hb.b) (.cons (.refl _) <| .cons (.refl _) <| .nil) (fun p hp => by subst hp; rfl) (wantV_ok rfl) rfl (fun p hp => ?_)
      subst hp
      refine PL.run 1 rfl ?_
      refine PL.nil ?_
      refine PW.cond rfl (fun h3 => ?_) (fun h3 => ?_)
      ·
        simp at h3
      ·
        refine PW.skip ?_
        refine PW.seq ?_
        refine PW.seq ?_
        refine PW.region ?_
        refine PL.run 5 rfl ?_
        refine PL.nil ?_
        refine PW.cond rfl (fun h4 => ?_) (fun h4 => ?_)
        ·
          simp at h4
        ·
          refine PW.skip ?_
          refine PW.seq ?_
          refine PW.region ?_
          refine PL.run 1 rfl ?_
          refine PL.nil ?_
          refine PW.ret ?_
          refine RetOk.free rfl rfl rfl
/- laws.eqByteSS -/
theorem laws_eqByteSS_spec (q : List (List UInt8)) (hb : FewL FewB q) : Pw.Spec Tryz.prog 101 [eBss q, eBss q] (fun res_ => res_ = eT true) := by
  refine spec_of (n := 27) Tryz.call101 Tryz.func101 rfl rfl (by simp) rfl rfl fun W Z => ?_
  have hql : q.length ≤ 1048576 := hb.len
  refine PW.seq ?_
  refine PW.region ?_
  refine PL.run 1 rfl ?_
  refine PL.nil ?_
  refine PW.seq ?_
  refine PW.seq ?_
  refine PW.region ?_
  refine PL.run 5 rfl ?_
  refine PL.nil ?_
  refine PW.cond rfl (fun h1 => ?_) (fun h1 => ?_)
  ·
    simp at h1
  ·
    refine PW.skip ?_
    refine PW.seq ?_
    refine PW.seq ?_
    refine PW.region ?_
    refine PL.run 1 rfl ?_
    refine PL.nil ?_
    refine PW.block ?_
    clear h1
    refine PW.loopAt (α := Nat) (fun i => ⟨[(0, eBss q), (1, eBss q), (5, eI (i : Int))], PH.none⟩) (fun i => i ≤ q.length) (fun i => q.length - i) 0 (Le.free ⟨⟨rfl, rfl⟩, ⟨rfl, rfl⟩, ⟨rfl, rfl⟩, trivial⟩) (Nat.zero_le _) (fun i hi => ?_)
    refine PW.seq ?_
    refine PW.seq ?_
    refine PW.region ?_
    refine PL.run 4 rfl ?_
    refine PL.nil ?_
    refine PW.cond rfl (fun h2 => ?_) (fun h2 => ?_)
    ·
      have hlt : i < q.length := by simpa using h2
      clear h2
      obtain ⟨y, hy⟩ : ∃ y, q[i]? = some y := ⟨_, List.getElem?_eq_getElem hlt⟩
      have hup : some (PV.lit (.int .i64 (IntKind.i64.wrap ((i : Int) + 1)))) = some (PV.lit (.int .i64 ((i + 1 : Nat) : Int))) := inc_ok (by omega)
      refine PW.skip ?_
      refine PW.seq ?_
      refine PW.block ?_
      refine PW.seq ?_
      refine PW.drawn ((some 17, _) :: (some 18, _) :: (some 19, _) :: (some 20, _) :: (some 21, _) :: (some 22, _) :: (some 23, _) :: (some 24, _) :: (some 25, _) :: (some 26, _) :: []) (0 :: 0 :: 3 :: 7 :: 0 :: 0 :: 48 :: 112 :: 255 :: 511 :: []) (fun _ => _) mixed rfl rfl rfl rfl rfl
        (.cons rfl (fun ρ => PL.run 1 rfl (PL.nil rfl)) <|
        .cons rfl (fun ρ => PL.run 1 rfl (PL.nil rfl)) <|
        .cons rfl (fun ρ => PL.val (OpV.idx rfl rfl rfl (nat_nonneg i) (map_at' hy) rfl rfl rfl rfl) (wantV_ok rfl) rfl (PL.nil rfl)) <|
        .cons rfl (fun ρ => PL.run 1 rfl (PL.nil rfl)) <|
        .cons rfl (fun ρ => PL.run 1 rfl (PL.nil rfl)) <|
        .cons rfl (fun ρ => PL.run 1 rfl (PL.nil rfl)) <|
        .cons rfl (fun ρ => PL.val (OpV.idx rfl rfl rfl (nat_nonneg i) (map_at' hy) rfl rfl rfl rfl) (wantV_ok rfl) rfl (PL.nil rfl)) <|
        .cons rfl (fun ρ => PL.run 1 rfl (PL.nil rfl)) <|
        .cons rfl (fun ρ => PL.call rfl rfl rfl (laws_eqByteS_spec y (hb.all i y hy)) (.cons (.refl _) <| .cons (.refl _) <| .nil) (fun p hp => by subst hp; rfl) (wantV_ok rfl) rfl (fun p hp => by subst hp; exact PL.nil rfl)) <|
        .cons rfl (fun ρ => PL.run 1 rfl (PL.nil rfl)) <|
        .nil _) ?_
      refine PW.cond rfl (fun h3 => ?_) (fun h3 => ?_)
      ·
        simp at h3
      ·
        refine PW.skip ?_
        refine PW.region ?_
        refine PL.run 3 rfl ?_
        refine PL.nil ?_
        refine ⟨i + 1, Le.free ⟨⟨rfl, rfl⟩, ⟨rfl, rfl⟩, ⟨hup, rfl⟩, trivial⟩, hlt, by omega⟩
    ·
      refine PW.exit ?_
      refine PW.seq ?_
      refine PW.region ?_
      refine PL.run 1 rfl ?_
      refine PL.nil ?_
      refine PW.ret ?_
      refine RetOk.free rfl rfl rfl
/- laws.eqReader -/
theorem laws_eqReader_spec (r : Reader) (hb : FewR r) : Pw.Spec Tryz.prog 53 [.agg (eReader r), .agg (eReader r)] (fun res_ => res_ = eT true) := by
  refine spec_of (n := 28) Tryz.call53 Tryz.func53 rfl rfl (by simp) rfl rfl fun W Z => ?_
  refine PW.seq ?_
  refine PW.region ?_
  refine PL.run 3 rfl ?_
  refine PL.nil ?_
  refine PW.seq ?_
  refine PW.seq ?_
  refine PW.region ?_
  refine PL.run 4 rfl ?_
  refine PL.call rfl rfl rfl (laws_eqByteS_spec r.seed hb.s) (.cons (.refl _) <| .cons (.refl _) <| .nil) (fun p hp => by subst hp; rfl) (wantV_ok rfl) rfl (fun p hp => ?_)
  subst hp
  refine PL.run 1 rfl ?_
  refine PL.nil ?_
  refine PW.cond rfl (fun h1 => ?_) (fun h1 => ?_)
  ·
    simp at h1
  ·
    refine PW.skip ?_
    refine PW.seq ?_
    refine PW.seq ?_
    refine PW.region ?_
    refine PL.run 5 rfl ?_
    refine PL.nil ?_
    refine PW.cond rfl (fun h2 => ?_) (fun h2 => ?_)
    ·
      simp at h2
    ·
      refine PW.skip ?_
      refine PW.seq ?_
      refine PW.seq ?_
      refine PW.region ?_
      refine PL.run 4 rfl ?_
      refine PL.call rfl rfl rfl (laws_eqByteSS_spec r.seen hb.seen) (.cons (.refl _) <| .cons (.refl _) <| .nil) (fun p hp => by subst hp; rfl) (wantV_ok rfl) rfl (fun p hp => ?_)
      subst hp
      refine PL.run 1 rfl ?_
      refine PL.nil ?_
      refine PW.cond rfl (fun h3 => ?_) (fun h3 => ?_)
      ·
        simp at h3
      ·
        refine PW.skip ?_
        refine PW.seq ?_
        refine PW.seq ?_
        refine PW.region ?_
        refine PL.run 4 rfl ?_
        refine PL.call rfl rfl rfl (laws_eqByteSS_spec r.got hb.got) (.cons (.refl _) <| .cons (.refl _) <| .nil) (fun p hp => by subst hp; rfl) (wantV_ok rfl) rfl (fun p hp => ?_)
        subst hp
        refine PL.run 1 rfl ?_
        refine PL.nil ?_
        refine PW.cond rfl (fun h4 => ?_) (fun h4 => ?_)
        ·
          simp at h4
        ·
          refine PW.skip ?_
          refine PW.seq ?_
          refine PW.region ?_
          refine PL.run 1 rfl ?_
          refine PL.nil ?_
          refine PW.ret ?_
          refine RetOk.free rfl rfl rfl
/- laws.eqWire -/
theorem laws_eqWire_spec (w : Wire) (hb : FewW w) : Pw.Spec Tryz.prog 102 [.agg (eWire w), .agg (eWire w)] (fun res_ => res_ = eT true) := by
  refine spec_of (n := 22) Tryz.call102 Tryz.func102 rfl rfl (by simp) rfl rfl fun W Z => ?_
  refine PW.seq ?_
  refine PW.region ?_
  refine PL.run 3 rfl ?_
  refine PL.nil ?_
  refine PW.seq ?_
  refine PW.seq ?_
  refine PW.region ?_
  refine PL.run 4 rfl ?_
  refine PL.val (OpV.neqT rfl rfl rfl rfl rfl) (wantV_ok rfl) rfl ?_
  refine PL.nil ?_
  refine PW.cond rfl (fun h1 => ?_) (fun h1 => ?_)
  ·
    simp at h1
  ·
    refine PW.skip ?_
    refine PW.seq ?_
    refine PW.seq ?_
    refine PW.region ?_
    refine PL.run 4 rfl ?_
    refine PL.call rfl rfl rfl (laws_eqItem_spec w.item hb.i) (.cons (.refl _) <| .cons (.refl _) <| .nil) (fun p hp => by subst hp; rfl) (wantV_ok rfl) rfl (fun p hp => ?_)
    subst hp
    refine PL.run 1 rfl ?_
    refine PL.nil ?_
    refine PW.cond rfl (fun h2 => ?_) (fun h2 => ?_)
    ·
      simp at h2
    ·
      refine PW.skip ?_
      refine PW.seq ?_
      refine PW.seq ?_
      refine PW.region ?_
      refine PL.run 4 rfl ?_
      refine PL.call rfl rfl rfl (laws_eqByteS_spec w.bytes hb.b) (.cons (.refl _) <| .cons (.refl _) <| .nil) (fun p hp => by subst hp; rfl) (wantV_ok rfl) rfl (fun p hp => ?_)
      subst hp
      refine PL.run 1 rfl ?_
      refine PL.nil ?_
      refine PW.cond rfl (fun h3 => ?_) (fun h3 => ?_)
      ·
        simp at h3
      ·
        refine PW.skip ?_
        refine PW.seq ?_
        refine PW.region ?_
        refine PL.run 1 rfl ?_
        refine PL.nil ?_
        refine PW.ret ?_
        refine RetOk.free rfl rfl rfl
/- laws.eqWireS -/
theorem laws_eqWireS_spec (q : List Wire) (hb : FewL FewW q) : Pw.Spec Tryz.prog 54 [eWires q, eWires q] (fun res_ => res_ = eT true) := by
  refine spec_of (n := 27) Tryz.call54 Tryz.func54 rfl rfl (by simp) rfl rfl fun W Z => ?_
  have hql : q.length ≤ 1048576 := hb.len
  refine PW.seq ?_
  refine PW.region ?_
  refine PL.run 1 rfl ?_
  refine PL.nil ?_
  refine PW.seq ?_
  refine PW.seq ?_
  refine PW.region ?_
  refine PL.run 5 rfl ?_
  refine PL.nil ?_
  refine PW.cond rfl (fun h1 => ?_) (fun h1 => ?_)
  ·
    simp at h1
  ·
    refine PW.skip ?_
    refine PW.seq ?_
    refine PW.seq ?_
    refine PW.region ?_
    refine PL.run 1 rfl ?_
    refine PL.nil ?_
    refine PW.block ?_
    clear h1
    refine PW.loopAt (α := Nat) (fun i => ⟨[(0, eWires q), (1, eWires q), (5, eI (i : Int))], PH.none⟩) (fun i => i ≤ q.length) (fun i => q.length - i) 0 (Le.free ⟨⟨rfl, rfl⟩, ⟨rfl, rfl⟩, ⟨rfl, rfl⟩, trivial⟩) (Nat.zero_le _) (fun i hi => ?_)
    refine PW.seq ?_
    refine PW.seq ?_
    refine PW.region ?_
    refine PL.run 4 rfl ?_
    refine PL.nil ?_
    refine PW.cond rfl (fun h2 => ?_) (fun h2 => ?_)
    ·
      have hlt : i < q.length := by simpa using h2
      clear h2
      obtain ⟨y, hy⟩ : ∃ y, q[i]? = some y := ⟨_, List.getElem?_eq_getElem hlt⟩
      have hup : some (PV.lit (.int .i64 (IntKind.i64.wrap ((i : Int) + 1)))) = some (PV.lit (.int .i64 ((i + 1 : Nat) : Int))) := inc_ok (by omega)
      refine PW.skip ?_
      refine PW.seq ?_
      refine PW.block ?_
      refine PW.seq ?_
      refine PW.drawn ((some 17, _) :: (some 18, _) :: (some 19, _) :: (some 20, _) :: (some 21, _) :: (some 22, _) :: (some 23, _) :: (some 24, _) :: (some 25, _) :: (some 26, _) :: []) (0 :: 0 :: 3 :: 7 :: 0 :: 0 :: 48 :: 112 :: 255 :: 511 :: []) (fun _ => _) mixed rfl rfl rfl rfl rfl
        (.cons rfl (fun ρ => PL.run 1 rfl (PL.nil rfl)) <|
        .cons rfl (fun ρ => PL.run 1 rfl (PL.nil rfl)) <|
        .cons rfl (fun ρ => PL.val (OpV.idx rfl rfl rfl (nat_nonneg i) (map_at' hy) rfl rfl rfl rfl) (wantV_ok rfl) rfl (PL.nil rfl)) <|
        .cons rfl (fun ρ => PL.run 1 rfl (PL.nil rfl)) <|
        .cons rfl (fun ρ => PL.run 1 rfl (PL.nil rfl)) <|
        .cons rfl (fun ρ => PL.run 1 rfl (PL.nil rfl)) <|
        .cons rfl (fun ρ => PL.val (OpV.idx rfl rfl rfl (nat_nonneg i) (map_at' hy) rfl rfl rfl rfl) (wantV_ok rfl) rfl (PL.nil rfl)) <|
        .cons rfl (fun ρ => PL.run 1 rfl (PL.nil rfl)) <|
        .cons rfl (fun ρ => PL.call rfl rfl rfl (laws_eqWire_spec y (hb.all i y hy)) (.cons (.refl _) <| .cons (.refl _) <| .nil) (fun p hp => by subst hp; rfl) (wantV_ok rfl) rfl (fun p hp => by subst hp; exact PL.nil rfl)) <|
        .cons rfl (fun ρ => PL.run 1 rfl (PL.nil rfl)) <|
        .nil _) ?_
      refine PW.cond rfl (fun h3 => ?_) (fun h3 => ?_)
      ·
        simp at h3
      ·
        refine PW.skip ?_
        refine PW.region ?_
        refine PL.run 3 rfl ?_
        refine PL.nil ?_
        refine ⟨i + 1, Le.free ⟨⟨rfl, rfl⟩, ⟨rfl, rfl⟩, ⟨hup, rfl⟩, trivial⟩, hlt, by omega⟩
    ·
      refine PW.exit ?_
      refine PW.seq ?_
      refine PW.region ?_
      refine PL.run 1 rfl ?_
      refine PL.nil ?_
      refine PW.ret ?_
      refine RetOk.free rfl rfl rfl
/- laws.eqSent -/
theorem laws_eqSent_spec (x : Sent) (hb : FewS x) : Pw.Spec Tryz.prog 103 [.agg (eSent x), .agg (eSent x)] (fun res_ => res_ = eT true) := by
  refine spec_of (n := 27) Tryz.call103 Tryz.func103 rfl rfl (by simp) rfl rfl fun W Z => ?_
  refine PW.seq ?_
  refine PW.region ?_
  refine PL.run 3 rfl ?_
  refine PL.nil ?_
  refine PW.seq ?_
  refine PW.seq ?_
  refine PW.region ?_
  refine PL.run 5 rfl ?_
  refine PL.nil ?_
  refine PW.cond rfl (fun h1 => ?_) (fun h1 => ?_)
  ·
    simp at h1
  ·
    refine PW.skip ?_
    refine PW.seq ?_
    refine PW.seq ?_
    refine PW.region ?_
    refine PL.run 5 rfl ?_
    refine PL.nil ?_
    refine PW.cond rfl (fun h2 => ?_) (fun h2 => ?_)
    ·
      simp at h2
    ·
      refine PW.skip ?_
      refine PW.seq ?_
      refine PW.seq ?_
      refine PW.region ?_
      refine PL.run 4 rfl ?_
      refine PL.call rfl rfl rfl (laws_eqByteS_spec x.note hb.n) (.cons (.refl _) <| .cons (.refl _) <| .nil) (fun p hp => by subst hp; rfl) (wantV_ok rfl) rfl (fun p hp => ?_)
      subst hp
      refine PL.run 1 rfl ?_
      refine PL.nil ?_
      refine PW.cond rfl (fun h3 => ?_) (fun h3 => ?_)
      ·
        simp at h3
      ·
        refine PW.skip ?_
        refine PW.seq ?_
        refine PW.seq ?_
        refine PW.region ?_
        refine PL.run 4 rfl ?_
        refine PL.call rfl rfl rfl (laws_eqByteS_spec x.bytes hb.b) (.cons (.refl _) <| .cons (.refl _) <| .nil) (fun p hp => by subst hp; rfl) (wantV_ok rfl) rfl (fun p hp => ?_)
        subst hp
        refine PL.run 1 rfl ?_
        refine PL.nil ?_
        refine PW.cond rfl (fun h4 => ?_) (fun h4 => ?_)
        ·
          simp at h4
        ·
          refine PW.skip ?_
          refine PW.seq ?_
          refine PW.region ?_
          refine PL.run 1 rfl ?_
          refine PL.nil ?_
          refine PW.ret ?_
          refine RetOk.free rfl rfl rfl
/- laws.eqSentS -/
theorem laws_eqSentS_spec (q : List Sent) (hb : FewL FewS q) : Pw.Spec Tryz.prog 55 [eSents q, eSents q] (fun res_ => res_ = eT true) := by
  refine spec_of (n := 27) Tryz.call55 Tryz.func55 rfl rfl (by simp) rfl rfl fun W Z => ?_
  have hql : q.length ≤ 1048576 := hb.len
  refine PW.seq ?_
  refine PW.region ?_
  refine PL.run 1 rfl ?_
  refine PL.nil ?_
  refine PW.seq ?_
  refine PW.seq ?_
  refine PW.region ?_
  refine PL.run 5 rfl ?_
  refine PL.nil ?_
  refine PW.cond rfl (fun h1 => ?_) (fun h1 => ?_)
  ·
    simp at h1
  ·
    refine PW.skip ?_
    refine PW.seq ?_
    refine PW.seq ?_
    refine PW.region ?_
    refine PL.run 1 rfl ?_
    refine PL.nil ?_
    refine PW.block ?_
    clear h1
    refine PW.loopAt (α := Nat) (fun i => ⟨[(0, eSents q), (1, eSents q), (5, eI (i : Int))], PH.none⟩) (fun i => i ≤ q.length) (fun i => q.length - i) 0 (Le.free ⟨⟨rfl, rfl⟩, ⟨rfl, rfl⟩, ⟨rfl, rfl⟩, trivial⟩) (Nat.zero_le _) (fun i hi => ?_)
    refine PW.seq ?_
    refine PW.seq ?_
    refine PW.region ?_
    refine PL.run 4 rfl ?_
    refine PL.nil ?_
    refine PW.cond rfl (fun h2 => ?_) (fun h2 => ?_)
    ·
      have hlt : i < q.length := by simpa using h2
      clear h2
      obtain ⟨y, hy⟩ : ∃ y, q[i]? = some y := ⟨_, List.getElem?_eq_getElem hlt⟩
      have hup : some (PV.lit (.int .i64 (IntKind.i64.wrap ((i : Int) + 1)))) = some (PV.lit (.int .i64 ((i + 1 : Nat) : Int))) := inc_ok (by omega)
      refine PW.skip ?_
      refine PW.seq ?_
      refine PW.block ?_
      refine PW.seq ?_
      refine PW.drawn ((some 17, _) :: (some 18, _) :: (some 19, _) :: (some 20, _) :: (some 21, _) :: (some 22, _) :: (some 23, _) :: (some 24, _) :: (some 25, _) :: (some 26, _) :: []) (0 :: 0 :: 3 :: 7 :: 0 :: 0 :: 48 :: 112 :: 255 :: 511 :: []) (fun _ => _) mixed rfl rfl rfl rfl rfl
        (.cons rfl (fun ρ => PL.run 1 rfl (PL.nil rfl)) <|
        .cons rfl (fun ρ => PL.run 1 rfl (PL.nil rfl)) <|
        .cons rfl (fun ρ => PL.val (OpV.idx rfl rfl rfl (nat_nonneg i) (map_at' hy) rfl rfl rfl rfl) (wantV_ok rfl) rfl (PL.nil rfl)) <|
        .cons rfl (fun ρ => PL.run 1 rfl (PL.nil rfl)) <|
        .cons rfl (fun ρ => PL.run 1 rfl (PL.nil rfl)) <|
        .cons rfl (fun ρ => PL.run 1 rfl (PL.nil rfl)) <|
        .cons rfl (fun ρ => PL.val (OpV.idx rfl rfl rfl (nat_nonneg i) (map_at' hy) rfl rfl rfl rfl) (wantV_ok rfl) rfl (PL.nil rfl)) <|
        .cons rfl (fun ρ => PL.run 1 rfl (PL.nil rfl)) <|
        .cons rfl (fun ρ => PL.call rfl rfl rfl (laws_eqSent_spec y (hb.all i y hy)) (.cons (.refl _) <| .cons (.refl _) <| .nil) (fun p hp => by subst hp; rfl) (wantV_ok rfl) rfl (fun p hp => by subst hp; exact PL.nil rfl)) <|
        .cons rfl (fun ρ => PL.run 1 rfl (PL.nil rfl)) <|
        .nil _) ?_
      refine PW.cond rfl (fun h3 => ?_) (fun h3 => ?_)
      ·
        simp at h3
      ·
        refine PW.skip ?_
        refine PW.region ?_
        refine PL.run 3 rfl ?_
        refine PL.nil ?_
        refine ⟨i + 1, Le.free ⟨⟨rfl, rfl⟩, ⟨rfl, rfl⟩, ⟨hup, rfl⟩, trivial⟩, hlt, by omega⟩
    ·
      refine PW.exit ?_
      refine PW.seq ?_
      refine PW.region ?_
      refine PL.run 1 rfl ?_
      refine PL.nil ?_
      refine PW.ret ?_
      refine RetOk.free rfl rfl rfl
/- laws.eqWorld -/
theorem laws_eqWorld_spec (w : Earth) (hb : FewE w) : Pw.Spec Tryz.prog 13 [.agg (eEarth w), .agg (eEarth w)] (fun res_ => res_ = eT true) := by
  refine spec_of (n := 45) Tryz.call13 Tryz.func13 rfl rfl (by simp) rfl rfl fun W Z => ?_
  refine PW.seq ?_
  refine PW.region ?_
  refine PL.run 3 rfl ?_
  refine PL.nil ?_
  refine PW.seq ?_
  refine PW.seq ?_
  refine PW.region ?_
  refine PL.run 4 rfl ?_
  refine PL.call rfl rfl rfl (laws_eqByteS_spec w.seed hb.seed) (.cons (.refl _) <| .cons (.refl _) <| .nil) (fun p hp => by subst hp; rfl) (wantV_ok rfl) rfl (fun p hp => ?_)
  subst hp
  refine PL.run 1 rfl ?_
  refine PL.nil ?_
  refine PW.cond rfl (fun h1 => ?_) (fun h1 => ?_)
  ·
    simp at h1
  ·
    refine PW.skip ?_
    refine PW.seq ?_
    refine PW.seq ?_
    refine PW.region ?_
    refine PL.run 5 rfl ?_
    refine PL.nil ?_
    refine PW.cond rfl (fun h2 => ?_) (fun h2 => ?_)
    ·
      simp at h2
    ·
      refine PW.skip ?_
      refine PW.seq ?_
      refine PW.seq ?_
      refine PW.region ?_
      refine PL.run 5 rfl ?_
      refine PL.nil ?_
      refine PW.cond rfl (fun h3 => ?_) (fun h3 => ?_)
      ·
        simp at h3
      ·
        refine PW.skip ?_
        refine PW.seq ?_
        refine PW.seq ?_
        refine PW.region ?_
        refine PL.run 4 rfl ?_
        refine PL.call rfl rfl rfl (laws_eqPost_spec w.post hb.p) (.cons (.refl _) <| .cons (.refl _) <| .nil) (fun p hp => by subst hp; rfl) (wantV_ok rfl) rfl (fun p hp => ?_)
        subst hp
        refine PL.run 1 rfl ?_
        refine PL.nil ?_
        refine PW.cond rfl (fun h4 => ?_) (fun h4 => ?_)
        ·
          simp at h4
        ·
          refine PW.skip ?_
          refine PW.seq ?_
          refine PW.seq ?_
          refine PW.region ?_
          refine PL.run 4 rfl ?_
          refine PL.call rfl rfl rfl (laws_eqReader_spec w.reader hb.r) (.cons (.refl _) <| .cons (.refl _) <| .nil) (fun p hp => by subst hp; rfl) (wantV_ok rfl) rfl (fun p hp => ?_)
          subst hp
          refine PL.run 1 rfl ?_
          refine PL.nil ?_
          refine PW.cond rfl (fun h5 => ?_) (fun h5 => ?_)
          ·
            simp at h5
          ·
            refine PW.skip ?_
            refine PW.seq ?_
            refine PW.seq ?_
            refine PW.region ?_
            refine PL.run 4 rfl ?_
            refine PL.call rfl rfl rfl (laws_eqWireS_spec w.net hb.n) (.cons (.refl _) <| .cons (.refl _) <| .nil) (fun p hp => by subst hp; rfl) (wantV_ok rfl) rfl (fun p hp => ?_)
            subst hp
            refine PL.run 1 rfl ?_
            refine PL.nil ?_
            refine PW.cond rfl (fun h6 => ?_) (fun h6 => ?_)
            ·
              simp at h6
            ·
              refine PW.skip ?_
              refine PW.seq ?_
              refine PW.seq ?_
              refine PW.region ?_
              refine PL.run 4 rfl ?_
              refine PL.call rfl rfl rfl (laws_eqSentS_spec w.sent hb.s) (.cons (.refl _) <| .cons (.refl _) <| .nil) (fun p hp => by subst hp; rfl) (wantV_ok rfl) rfl (fun p hp => ?_)
              subst hp
              refine PL.run 1 rfl ?_
              refine PL.nil ?_
              refine PW.cond rfl (fun h7 => ?_) (fun h7 => ?_)
              ·
                simp at h7
              ·
                refine PW.skip ?_
                refine PW.seq ?_
                refine PW.region ?_
                refine PL.run 1 rfl ?_
                refine PL.nil ?_
                refine PW.ret ?_
                refine RetOk.free rfl rfl rfl
end Go.Wl
set_option linter.unusedVariables false
set_option linter.unusedSimpArgs false
set_option maxRecDepth 100000
set_option maxHeartbeats 4000000
namespace Go.Wl
open Go Go.RowKit Go.Pw Go.Proofs
theorem mL_of {α : Type} {f : α → Nat} {l : List α} {n : Nat} (h : mL f l ≤ n) : l.length ≤ n ∧ ∀ (i : Nat) (x : α), l[i]? = some x → f x ≤ n := by
  have h : l.length + (l.map f).sum ≤ n := h
  refine ⟨by omega, fun i x hx => ?_⟩
  have h1 := sumT_step (f := f) hx
  have h2 := sumT_le (f := f) (l := l) (i + 1)
  omega
theorem mEarth_few {w : Earth} (h : mEarth w ≤ 1048576) : FewE w := by
  have h : w.seed.length + (mL mItem w.post.queue + w.post.book.length) + (w.reader.seed.length + mL List.length w.reader.seen + mL List.length w.reader.got) + mL mWire w.net + mL mSent w.sent ≤ 1048576 := h
  have q := mL_of (f := mItem) (l := w.post.queue) (n := 1048576) (by omega)
  have s := mL_of (f := List.length) (l := w.reader.seen) (n := 1048576) (by omega)
  have g := mL_of (f := List.length) (l := w.reader.got) (n := 1048576) (by omega)
  have n := mL_of (f := mWire) (l := w.net) (n := 1048576) (by omega)
  have t := mL_of (f := mSent) (l := w.sent) (n := 1048576) (by omega)
  exact ⟨by unfold FewB; omega, ⟨⟨q.1, fun i x hx => by have := q.2 i x hx; unfold mItem at this; unfold FewI FewB; omega⟩, by unfold FewB; omega⟩,
    ⟨by unfold FewB; omega, ⟨s.1, s.2⟩, ⟨g.1, g.2⟩⟩,
    ⟨n.1, fun i x hx => by have := n.2 i x hx; unfold mWire mItem at this; exact ⟨by unfold FewI FewB; omega, by unfold FewB; omega⟩⟩,
    ⟨t.1, fun i x hx => by have := t.2 i x hx; unfold mSent at this; exact ⟨by unfold FewB; omega, by unfold FewB; omega⟩⟩⟩
theorem mEarth_sm {w : Earth} (h : mEarth w ≤ 1048576) : SmW w := by
  have h : w.seed.length + (mL mItem w.post.queue + w.post.book.length) + (w.reader.seed.length + mL List.length w.reader.seen + mL List.length w.reader.got) + mL mWire w.net + mL mSent w.sent ≤ 1048576 := h
  have q := mL_of (f := mItem) (l := w.post.queue) (n := 1048576) (by omega)
  have s := mL_of (f := List.length) (l := w.reader.seen) (n := 1048576) (by omega)
  have g := mL_of (f := List.length) (l := w.reader.got) (n := 1048576) (by omega)
  have n := mL_of (f := mWire) (l := w.net) (n := 1048576) (by omega)
  have t := mL_of (f := mSent) (l := w.sent) (n := 1048576) (by omega)
  refine ⟨⟨⟨?_, ?_, ?_⟩, by omega⟩, ⟨by omega, by omega, by omega, ?_, ?_⟩, ⟨by omega, ?_, ?_, ?_⟩, by omega, by omega, ?_, ?_, ?_⟩
  · omega
  · intro i x hx; have := q.2 i x hx; unfold mItem at this; omega
  · intro i x hx; have := q.2 i x hx; unfold mItem at this; omega
  · intro i x hx; have := s.2 i x hx; omega
  · intro i x hx; have := g.2 i x hx; omega
  · intro i x hx; have := n.2 i x hx; unfold mWire mItem at this; omega
  · intro i x hx; have := n.2 i x hx; unfold mWire mItem at this; omega
  · intro i x hx; have := n.2 i x hx; unfold mWire mItem at this; omega
  · intro i x hx; have := t.2 i x hx; unfold mSent at this; omega
  · intro i x hx; have := t.2 i x hx; unfold mSent at this; omega
  · intro i x hx; have := t.2 i x hx; unfold mSent at this; omega
/- laws.FnExactWorldOk -/
theorem laws_FnExactWorldOk_spec (w : Earth) (hw : BgE w) : Pw.Spec Tryz.prog 3 [.agg (eEarth w)] (fun res_ => res_ = eT true) := by
  refine spec_of (n := 27) Tryz.call3 Tryz.func3 rfl rfl (by simp) rfl rfl fun W Z => ?_
  refine PW.seq ?_
  refine PW.region ?_
  refine PL.run 2 rfl ?_
  refine PL.nil ?_
  refine PW.seq ?_
  refine PW.region ?_
  refine PL.run 1 rfl ?_
  refine PL.nil ?_
  refine PW.seq ?_
  refine PW.region ?_
  refine PL.run 2 rfl ?_
  refine PL.call rfl rfl rfl (laws_szWorld_spec w 1048576 (by decide) (by decide) hw) (.cons (.refl _) <| .cons (.refl _) <| .nil) (fun p hp => by subst hp; rfl) (wantV_ok rfl) rfl (fun p hp => ?_)
  subst hp
  refine PL.run 1 rfl ?_
  refine PL.nil ?_
  refine PW.seq ?_
  refine PW.seq ?_
  refine PW.region ?_
  refine PL.run 2 rfl ?_
  refine PL.nil ?_
  refine PW.cond rfl (fun h1 => ?_) (fun h1 => ?_)
  ·
    refine PW.seq ?_
    refine PW.region ?_
    refine PL.run 1 rfl ?_
    refine PL.nil ?_
    refine PW.ret ?_
    refine RetOk.free rfl rfl rfl
  ·
    have k := szf_or (mEarth w) 1048576
    have hm : mEarth w ≤ 1048576 := by simp only [decide_eq_false_iff_not] at h1; omega
    have hf := mEarth_few hm
    have hs := mEarth_sm hm
    clear h1 k
    refine PW.skip ?_
    refine PW.seq ?_
    refine PW.region ?_
    refine PL.run 1 rfl ?_
    refine PL.call rfl rfl rfl (laws_toWorld_spec w hf) (.cons (.refl _) <| .nil) (fun p hp => by subst hp; rfl) (wantV_ok rfl) rfl (fun p hp => ?_)
    subst hp
    refine PL.call rfl rfl rfl (spec_WorldOk_spec w hs) (.cons (.refl _) <| .nil) (fun p hp => by subst hp; rfl) (wantV_ok rfl) rfl (fun p hp => ?_)
    subst hp
    refine PL.run 1 rfl ?_
    refine PL.nil ?_
    refine PW.seq ?_
    refine PW.region ?_
    refine PL.run 1 rfl ?_
    refine PL.call rfl rfl rfl (laws_toWorld_spec w hf) (.cons (.refl _) <| .nil) (fun p hp => by subst hp; rfl) (wantV_ok rfl) rfl (fun p hp => ?_)
    subst hp
    refine PL.run 2 rfl ?_
    refine PL.nil ?_
    refine PW.seq ?_
    refine PW.region ?_
    refine PL.run 1 rfl ?_
    refine PL.call rfl rfl rfl (impl_WorldOk_spec w hs) (.cons (.refl _) <| .nil) (fun p hp => by subst hp; rfl) (wantV_ok rfl) rfl (fun p hp => ?_)
    subst hp
    refine PL.run 1 rfl ?_
    refine PL.nil ?_
    refine PW.seq ?_
    refine PW.seq ?_
    refine PW.region ?_
    refine PL.run 2 rfl ?_
    refine PL.val (OpV.neqT rfl rfl rfl rfl rfl) (wantV_ok rfl) rfl ?_
    refine PL.nil ?_
    refine PW.cond rfl (fun h2 => ?_) (fun h2 => ?_)
    ·
      simp at h2
    ·
      refine PW.skip ?_
      refine PW.seq ?_
      refine PW.seq ?_
      refine PW.drawn ((some 22, _) :: (some 23, _) :: (some 24, _) :: (some 25, _) :: (some 26, _) :: []) (0 :: 0 :: 2 :: 7 :: 15 :: []) (fun _ => _) mixed rfl rfl rfl rfl rfl
        (.cons rfl (fun ρ => PL.run 1 rfl (PL.nil rfl)) <|
        .cons rfl (fun ρ => PL.run 1 rfl (PL.nil rfl)) <|
        .cons rfl (fun ρ => PL.call rfl rfl rfl (laws_toWorld_spec w hf) (.cons (.refl _) <| .nil) (fun p hp => by subst hp; rfl) (wantV_ok rfl) rfl (fun p hp => by subst hp; exact PL.nil rfl)) <|
        .cons rfl (fun ρ => PL.call rfl rfl rfl (laws_eqWorld_spec w hf) (.cons (.refl _) <| .cons (.refl _) <| .nil) (fun p hp => by subst hp; rfl) (wantV_ok rfl) rfl (fun p hp => by subst hp; exact PL.nil rfl)) <|
        .cons rfl (fun ρ => PL.run 1 rfl (PL.nil rfl)) <|
        .nil _) ?_
      refine PW.cond rfl (fun h3 => ?_) (fun h3 => ?_)
      ·
        simp at h3
      ·
        refine PW.skip ?_
        refine PW.seq ?_
        refine PW.region ?_
        refine PL.run 1 rfl ?_
        refine PL.nil ?_
        refine PW.ret ?_
        refine RetOk.free rfl rfl rfl
end Go.Wl
set_option linter.unusedVariables false
set_option linter.unusedSimpArgs false
namespace Go.Pw
open Go Go.RowKit
/-- The cells of one value stand for a list of pure values. -/
structure RowRep (Z : Cells) (l : List PV) (cs : List Value) : Prop where
  len : cs.length = l.length
  one : ∀ u ∈ cs, u.oneCell' = true
  rep : ∀ (i : Nat) (p : PV) (v : Value), l[i]? = some p → cs[i]? = some v → Rep Z Mu.emp p v
theorem RowRep.one1 {Z : Cells} {p : PV} {v : Value} (h1 : v.oneCell' = true) (h : Rep Z Mu.emp p v) : RowRep Z [p] [v] :=
  ⟨rfl, fun u hu => by rw [List.mem_singleton.1 hu]; exact h1, fun i q u hq hu => by
    cases i with
    | zero => simp only [List.getElem?_cons_zero, Option.some.injEq] at hq hu; subst hq; subst hu; exact h
    | succ i => simp at hq⟩
theorem RowRep.app {Z : Cells} {l1 l2 : List PV} {c1 c2 : List Value} (h1 : RowRep Z l1 c1) (h2 : RowRep Z l2 c2) : RowRep Z (l1 ++ l2) (c1 ++ c2) :=
  ⟨by rw [List.length_append, List.length_append, h1.len, h2.len], fun u hu => (List.mem_append.1 hu).elim (h1.one u) (h2.one u), fun i p v hp hv => by
    by_cases hi : i < l1.length
    · rw [List.getElem?_append_left hi] at hp
      rw [List.getElem?_append_left (by rw [h1.len]; exact hi)] at hv
      exact h1.rep i p v hp hv
    · rw [List.getElem?_append_right (by omega)] at hp
      rw [List.getElem?_append_right (by rw [h1.len]; omega), h1.len] at hv
      exact h2.rep _ p v hp hv⟩
theorem RowRep.fld {Z : Cells} {l1 l2 : List PV} {cs : List Value} {o s o' : Nat} (h1 : RowRep Z l1 ((cs.drop o).take s)) (ho : o' = o + s) (h2 : RowRep Z l2 (cs.drop o')) : RowRep Z (l1 ++ l2) (cs.drop o) := by
  have e : cs.drop o = (cs.drop o).take s ++ cs.drop o' := by rw [ho, ← List.drop_drop, List.take_append_drop]
  rw [e]
  exact h1.app h2
theorem RowRep.nil {Z : Cells} {cs : List Value} {n : Nat} (h : cs.length = n) : RowRep Z [] (cs.drop n) := by
  rw [List.drop_eq_nil_of_le (by omega)]
  exact ⟨rfl, fun u hu => by simp at hu, fun i p v hp => by simp at hp⟩
theorem RowRep.agg {Z : Cells} {l : List PV} {cs : Array Value} (h : RowRep Z l cs.toList) (μ : Mu) : Rep Z μ (.agg l) (.agg cs) := by
  have := Rep.agg (Z := Z) μ l cs.toList h.len.symm h.one (fun i p v hp hv => (h.rep i p v hp hv).any)
  simpa using this
theorem RowRep.val {Z : Cells} {p : PV} {v : Value} (h : RowRep Z [p] [v]) (μ : Mu) : Rep Z μ p v := (h.rep 0 p v rfl rfl).any
section
variable {H : Type} {enc : TypeId × Value → H} {P : Program} {w : World} {base : Nat} {spare : Nat → Bool} {held : Bool} {fuel : Nat} {t : TypeId} {cs : List Value} {x : DataW H × List MemPlace}
theorem open_st {fs : Array Field} (ht : P.underlying t = some (.struct fs)) (h : DataW.trod enc P w base spare held fuel t cs = some x) :
    cs.length = P.cellsOf t ∧ ∀ (i : Nat) (f : Field), fs[i]? = some f → ∃ m y, DataW.trod enc P w base spare held m f.type ((cs.drop f.offset).take (P.cellsOf f.type)) = some y := by
  obtain ⟨xs, n, _, _, hl, hxs, hf⟩ := DataW.trod_struct ht h
  refine ⟨hl, fun i f hi => ?_⟩
  have h1 := hf i f hi
  have hlt : i < xs.length := by rw [hxs]; exact (Array.getElem?_eq_some_iff.1 hi).1
  rw [List.getElem?_eq_getElem hlt] at h1
  exact ⟨n, _, h1⟩
theorem open_in {k : IntKind} (ht : P.underlying t = some (.int k)) (h : DataW.trod enc P w base spare held fuel t cs = some x) : ∃ n : Int, (Lit.int k n).wf = true ∧ RowRep w.cell? [.lit (.int k n)] cs := by
  obtain ⟨n, rfl, _, hw⟩ := DataW.trod_int ht h
  exact ⟨n, hw, .one1 rfl (.lit _ _)⟩
theorem open_bo (ht : P.underlying t = some .bool) (h : DataW.trod enc P w base spare held fuel t cs = some x) : ∃ b : Bool, RowRep w.cell? [.lit (.bool b)] cs := by
  obtain ⟨b, rfl, _⟩ := DataW.trod_bool ht h
  exact ⟨b, .one1 rfl (.lit _ _)⟩
theorem open_tx (ht : P.underlying t = some .string) (h : DataW.trod enc P w base spare held fuel t cs = some x) : ∃ s : ByteArray, s.size ≤ maxLen ∧ RowRep w.cell? [.lit (.string s)] cs := by
  obtain ⟨s, rfl, _, hs⟩ := DataW.trod_string ht h
  exact ⟨s, hs, .one1 rfl (.lit _ _)⟩
theorem open_sl {α : Type} {e : TypeId} {sz : Nat} (f : α → List PV) (Q : α → Prop) (ht : P.underlying t = some (.slice e)) (hc : P.cellsOf e = sz) (hf : ∀ a, (f a).length = sz)
    (he : ∀ (m : Nat) (cs : List Value) (x : DataW H × List MemPlace), DataW.trod enc P w base spare held m e cs = some x → ∃ a, Q a ∧ RowRep w.cell? (f a) cs) (h : DataW.trod enc P w base spare held fuel t cs = some x) :
    ∃ l : List α, l.length ≤ maxLen ∧ (∀ (i : Nat) (a : α), l[i]? = some a → Q a) ∧ RowRep w.cell? [.sl sz (l.map f) none] cs := by
  rcases DataW.trod_slice ht h with ⟨rfl, _⟩ | ⟨ad, len, cap, elems, rest, n, _, rfl, _, _, hlc, hcm, hlen, hel, _, _⟩
  · exact ⟨[], Nat.zero_le _, fun i a ha => by simp at ha, .one1 rfl (Rep.sl Mu.emp sz [] none 0 (fun _ _ => undef) (Nat.le_refl _) (fun e he => by simp at he) (fun h0 => by simp at h0) (fun i e j p hi => by simp at hi) (fun i e j p hi => by simp at hi))⟩
  · have hA : ∀ i : Fin len, ∃ (a : α) (c : List Value), Q a ∧ RowRep w.cell? (f a) c ∧ ∀ j, j < sz → w.cell? (ad.add (i.1 * sz + j)) = c[j]? := fun i => by
      have h1 := hel i.1 i.2
      rw [List.getElem?_eq_getElem (by rw [hlen]; exact i.2), Option.bind_eq_some_iff] at h1
      obtain ⟨c, hc1, hc2⟩ := h1
      obtain ⟨a, ha, hr⟩ := he _ _ _ hc2
      obtain ⟨_, hcl, hcc⟩ := World.cells?_some hc1
      rw [hc] at hcl hcc
      exact ⟨a, c, ha, hr, fun j hj => by rw [← Addr.add_add]; exact hcc j hj⟩
    obtain ⟨A, hA⟩ := Classical.axiomOfChoice hA
    obtain ⟨C, hA⟩ := Classical.axiomOfChoice hA
    have hQ := fun i => (hA i).1
    have hR := fun i => (hA i).2.1
    have hC := fun i => (hA i).2.2
    have hlA : (List.ofFn A).length = len := List.length_ofFn
    refine ⟨List.ofFn A, by rw [hlA]; exact Nat.le_trans hlc hcm, fun i a ha => ?_, .one1 rfl ?_⟩
    · obtain ⟨hi, rfl⟩ := List.getElem?_eq_some_iff.1 ha
      rw [List.getElem_ofFn]; exact hQ _
    · have key : ∀ (i : Nat) (e : List PV) (j : Nat) (p : PV), ((List.ofFn A).map f)[i]? = some e → e[j]? = some p → ∃ hi : i < len, e = f (A ⟨i, hi⟩) ∧ j < sz ∧ ∃ v, (C ⟨i, hi⟩)[j]? = some v := fun i e j p hi hj => by
        obtain ⟨hi', rfl⟩ := List.getElem?_eq_some_iff.1 hi
        have hlt : i < len := by rw [List.length_map, hlA] at hi'; exact hi'
        have e1 : ((List.ofFn A).map f)[i]'hi' = f (A ⟨i, hlt⟩) := by rw [List.getElem_map, List.getElem_ofFn]
        rw [e1] at hj
        have hjl := (List.getElem?_eq_some_iff.1 hj).1
        rw [hf] at hjl
        exact ⟨hlt, e1, hjl, _, List.getElem?_eq_getElem (by rw [(hR ⟨i, hlt⟩).len, hf]; exact hjl)⟩
      have hval : ∀ (i : Nat) (hi : i < len) (j : Nat) (v : Value), j < sz → (C ⟨i, hi⟩)[j]? = some v → (w.cell? (ad.add (i * sz + j))).getD undef = v := fun i hi j v hj hv => by
        rw [hC ⟨i, hi⟩ j hj, hv]; rfl
      have hs := Rep.sl (Z := w.cell?) Mu.emp sz ((List.ofFn A).map f) (some ad) cap (fun i j => (w.cell? (ad.add (i * sz + j))).getD undef) (by rw [List.length_map, hlA]; exact hlc)
        (fun e he => by obtain ⟨a, _, rfl⟩ := List.mem_map.1 he; exact hf a)
        (fun _ => ⟨ad, rfl, fun i e j p hi hj => by
          obtain ⟨hlt, _, hjl, v, hv⟩ := key i e j p hi hj
          rw [hval i hlt j v hjl hv, hC ⟨i, hlt⟩ j hjl, hv]⟩)
        (fun i e j p hi hj => by
          obtain ⟨hlt, _, hjl, v, hv⟩ := key i e j p hi hj
          show ((w.cell? (ad.add (i * sz + j))).getD undef).oneCell' = true
          rw [hval i hlt j v hjl hv]
          exact (hR ⟨i, hlt⟩).one v (List.mem_of_getElem? hv))
        (fun i e j p hi hj => by
          obtain ⟨hlt, he, hjl, v, hv⟩ := key i e j p hi hj
          show Rep w.cell? Mu.emp p ((w.cell? (ad.add (i * sz + j))).getD undef)
          rw [hval i hlt j v hjl hv]
          rw [he] at hj
          exact (hR ⟨i, hlt⟩).rep j p v hj hv)
      rw [List.length_map, hlA] at hs
      exact hs
end
/-- What a walk of a law gives for the row's post. -/
theorem Done.lit {W : World} {Z : Cells} {q : Value} {v : Value} {W' : World} (h : Done W Z (fun p => p = .lit q) v W') : v = q ∧ Below W.heap.size W W' := by
  obtain ⟨p, Z', μ', hp, hr, _, _, hb, _⟩ := h
  subst hp
  exact ⟨hr.lit_inv, hb⟩
end Go.Pw
set_option linter.unusedVariables false
set_option linter.unusedSimpArgs false
set_option maxRecDepth 100000
namespace Go.Wl
open Go Go.RowKit Go.Pw Go.Proofs
section
variable {H : Type} {enc : TypeId × Value → H} {w : World} {base : Nat} {spare : Nat → Bool} {held : Bool} {fuel : Nat} {cs : List Value} {x : DataW H × List MemPlace}
theorem in_wf {n : Int} (h : (Lit.int .i64 n).wf = true) : InI n := by
  have hb : IntKind.i64.bits = 64 := rfl
  simp [Lit.wf] at h
  exact h
/-- The byte's number. -/
def RowOne (b : UInt8) (n : Int) : Prop := (b.toNat : Int) = n
theorem byte_wf {n : Int} (h : (Lit.int .u8 n).wf = true) : ∃ b : UInt8, RowOne b n := by
  have hl : 0 ≤ n ∧ n ≤ 255 := by
    simp [Lit.wf] at h
    exact h
  exact ⟨UInt8.ofNat n.toNat, by unfold RowOne; rw [UInt8.toNat_ofNat', Nat.mod_eq_of_lt (by omega)]; omega⟩
theorem open_bs (h : DataW.trod enc Tryz.prog w base spare held fuel 22 cs = some x) : ∃ b : List UInt8, BgB b ∧ RowRep w.cell? [eBs b] cs := by
  obtain ⟨l, h1, _, h3⟩ := open_sl eb (fun _ => True) Tryz.underlying22 (sz := 1) (by kernel_rfl) (fun _ => rfl) (fun m cs x hx => by
    obtain ⟨n, hw, hr⟩ := open_in Tryz.underlying5 hx
    obtain ⟨b, hb⟩ := byte_wf hw
    have e : eb b = [PV.lit (.int .u8 n)] := by unfold RowOne at hb; rw [eb, hb]
    exact ⟨b, trivial, by rw [e]; exact hr⟩) h
  exact ⟨l, h1, h3⟩
theorem open_item (h : DataW.trod enc Tryz.prog w base spare held fuel 92 cs = some x) : ∃ a : Item, BgI a ∧ RowRep w.cell? (eItem a) cs := by
  obtain ⟨hl, hf⟩ := open_st Tryz.underlying92 h
  obtain ⟨_, _, g0⟩ := hf 0 _ rfl
  obtain ⟨r, b0, k0⟩ := open_tx Tryz.underlying9 g0
  obtain ⟨_, _, g1⟩ := hf 1 _ rfl
  obtain ⟨t, b1, k1⟩ := open_in Tryz.underlying3 g1
  obtain ⟨_, _, g2⟩ := hf 2 _ rfl
  obtain ⟨d, b2, k2⟩ := open_in Tryz.underlying3 g2
  obtain ⟨_, _, g3⟩ := hf 3 _ rfl
  obtain ⟨b, b3, k3⟩ := open_bs g3
  exact ⟨⟨r, t, d, b⟩, ⟨b0, b3, in_wf b1, in_wf b2⟩, .fld (o := 0) (o' := 1) k0 (by kernel_rfl) <| .fld (o := 1) (o' := 2) k1 (by kernel_rfl) <| .fld (o := 2) (o' := 3) k2 (by kernel_rfl) <| .fld (o := 3) (o' := 4) k3 (by kernel_rfl) <| .nil (n := 4) (hl.trans (by kernel_rfl))⟩
theorem open_items (h : DataW.trod enc Tryz.prog w base spare held fuel 23 cs = some x) : ∃ l : List Item, BgL BgI l ∧ RowRep w.cell? [eItems l] cs := by
  obtain ⟨l, h1, h2, h3⟩ := open_sl eItem BgI Tryz.underlying23 (sz := 4) (by kernel_rfl) (fun _ => rfl) (fun m cs x hx => open_item hx) h
  exact ⟨l, ⟨h1, h2⟩, h3⟩
theorem open_post (h : DataW.trod enc Tryz.prog w base spare held fuel 25 cs = some x) : ∃ a : Post, BgP a ∧ RowRep w.cell? (ePost a) cs := by
  obtain ⟨hl, hf⟩ := open_st Tryz.underlying25 h
  obtain ⟨_, _, g0⟩ := hf 0 _ rfl
  obtain ⟨q, b0, k0⟩ := open_items g0
  obtain ⟨_, _, g1⟩ := hf 1 _ rfl
  obtain ⟨t, b1, k1⟩ := open_in Tryz.underlying3 g1
  obtain ⟨_, _, g2⟩ := hf 2 _ rfl
  obtain ⟨b, b2, k2⟩ := open_bs g2
  obtain ⟨_, _, g3⟩ := hf 3 _ rfl
  obtain ⟨s, b3, k3⟩ := open_in Tryz.underlying3 g3
  exact ⟨⟨q, t, b, s⟩, ⟨b0, b2, in_wf b1, in_wf b3⟩, .fld (o := 0) (o' := 1) k0 (by kernel_rfl) <| .fld (o := 1) (o' := 2) k1 (by kernel_rfl) <| .fld (o := 2) (o' := 3) k2 (by kernel_rfl) <| .fld (o := 3) (o' := 4) k3 (by kernel_rfl) <| .nil (n := 4) (hl.trans (by kernel_rfl))⟩
theorem open_bss (h : DataW.trod enc Tryz.prog w base spare held fuel 26 cs = some x) : ∃ l : List (List UInt8), BgL BgB l ∧ RowRep w.cell? [eBss l] cs := by
  obtain ⟨l, h1, h2, h3⟩ := open_sl eBss1 BgB Tryz.underlying26 (sz := 1) (by kernel_rfl) (fun _ => rfl) (fun m cs x hx => open_bs hx) h
  exact ⟨l, ⟨h1, h2⟩, h3⟩
theorem open_reader (h : DataW.trod enc Tryz.prog w base spare held fuel 28 cs = some x) : ∃ a : Reader, BgR a ∧ RowRep w.cell? (eReader a) cs := by
  obtain ⟨hl, hf⟩ := open_st Tryz.underlying28 h
  obtain ⟨_, _, g0⟩ := hf 0 _ rfl
  obtain ⟨s, b0, k0⟩ := open_bs g0
  obtain ⟨_, _, g1⟩ := hf 1 _ rfl
  obtain ⟨e, b1, k1⟩ := open_in Tryz.underlying3 g1
  obtain ⟨_, _, g2⟩ := hf 2 _ rfl
  obtain ⟨a, b2, k2⟩ := open_bss g2
  obtain ⟨_, _, g3⟩ := hf 3 _ rfl
  obtain ⟨g, b3, k3⟩ := open_bss g3
  exact ⟨⟨s, e, a, g⟩, ⟨b0, b2, b3, in_wf b1⟩, .fld (o := 0) (o' := 1) k0 (by kernel_rfl) <| .fld (o := 1) (o' := 2) k1 (by kernel_rfl) <| .fld (o := 2) (o' := 3) k2 (by kernel_rfl) <| .fld (o := 3) (o' := 4) k3 (by kernel_rfl) <| .nil (n := 4) (hl.trans (by kernel_rfl))⟩
theorem open_wire (h : DataW.trod enc Tryz.prog w base spare held fuel 94 cs = some x) : ∃ a : Wire, BgW a ∧ RowRep w.cell? (eWire a) cs := by
  obtain ⟨hl, hf⟩ := open_st Tryz.underlying94 h
  obtain ⟨_, _, g0⟩ := hf 0 _ rfl
  obtain ⟨t, k0⟩ := open_bo Tryz.underlying4 g0
  obtain ⟨_, _, g1⟩ := hf 1 _ rfl
  obtain ⟨i, b1, k1⟩ := open_item g1
  obtain ⟨_, _, g2⟩ := hf 2 _ rfl
  obtain ⟨b, b2, k2⟩ := open_bs g2
  exact ⟨⟨t, i, b⟩, ⟨b1, b2⟩, .fld (o := 0) (o' := 1) k0 (by kernel_rfl) <| .fld (o := 1) (o' := 5) k1 (by kernel_rfl) <| .fld (o := 5) (o' := 6) k2 (by kernel_rfl) <| .nil (n := 6) (hl.trans (by kernel_rfl))⟩
theorem open_wires (h : DataW.trod enc Tryz.prog w base spare held fuel 29 cs = some x) : ∃ l : List Wire, BgL BgW l ∧ RowRep w.cell? [eWires l] cs := by
  obtain ⟨l, h1, h2, h3⟩ := open_sl eWire BgW Tryz.underlying29 (sz := 6) (by kernel_rfl) (fun _ => rfl) (fun m cs x hx => open_wire hx) h
  exact ⟨l, ⟨h1, h2⟩, h3⟩
theorem open_sent (h : DataW.trod enc Tryz.prog w base spare held fuel 96 cs = some x) : ∃ a : Sent, BgS a ∧ RowRep w.cell? (eSent a) cs := by
  obtain ⟨hl, hf⟩ := open_st Tryz.underlying96 h
  obtain ⟨_, _, g0⟩ := hf 0 _ rfl
  obtain ⟨r, b0, k0⟩ := open_tx Tryz.underlying9 g0
  obtain ⟨_, _, g1⟩ := hf 1 _ rfl
  obtain ⟨e, b1, k1⟩ := open_in Tryz.underlying3 g1
  obtain ⟨_, _, g2⟩ := hf 2 _ rfl
  obtain ⟨n, b2, k2⟩ := open_bs g2
  obtain ⟨_, _, g3⟩ := hf 3 _ rfl
  obtain ⟨b, b3, k3⟩ := open_bs g3
  exact ⟨⟨r, e, n, b⟩, ⟨b0, b2, b3, in_wf b1⟩, .fld (o := 0) (o' := 1) k0 (by kernel_rfl) <| .fld (o := 1) (o' := 2) k1 (by kernel_rfl) <| .fld (o := 2) (o' := 3) k2 (by kernel_rfl) <| .fld (o := 3) (o' := 4) k3 (by kernel_rfl) <| .nil (n := 4) (hl.trans (by kernel_rfl))⟩
theorem open_sents (h : DataW.trod enc Tryz.prog w base spare held fuel 30 cs = some x) : ∃ l : List Sent, BgL BgS l ∧ RowRep w.cell? [eSents l] cs := by
  obtain ⟨l, h1, h2, h3⟩ := open_sl eSent BgS Tryz.underlying30 (sz := 4) (by kernel_rfl) (fun _ => rfl) (fun m cs x hx => open_sent hx) h
  exact ⟨l, ⟨h1, h2⟩, h3⟩
theorem open_world (h : DataW.trod enc Tryz.prog w base spare held fuel 32 cs = some x) : ∃ a : Earth, BgE a ∧ RowRep w.cell? (eEarth a) cs := by
  obtain ⟨hl, hf⟩ := open_st Tryz.underlying32 h
  obtain ⟨_, _, g0⟩ := hf 0 _ rfl
  obtain ⟨s, b0, k0⟩ := open_bs g0
  obtain ⟨_, _, g1⟩ := hf 1 _ rfl
  obtain ⟨c, b1, k1⟩ := open_in Tryz.underlying3 g1
  obtain ⟨_, _, g2⟩ := hf 2 _ rfl
  obtain ⟨k, b2, k2⟩ := open_in Tryz.underlying3 g2
  obtain ⟨_, _, g3⟩ := hf 3 _ rfl
  obtain ⟨p, b3, k3⟩ := open_post g3
  obtain ⟨_, _, g4⟩ := hf 4 _ rfl
  obtain ⟨r, b4, k4⟩ := open_reader g4
  obtain ⟨_, _, g5⟩ := hf 5 _ rfl
  obtain ⟨n, b5, k5⟩ := open_wires g5
  obtain ⟨_, _, g6⟩ := hf 6 _ rfl
  obtain ⟨t, b6, k6⟩ := open_sents g6
  exact ⟨⟨s, c, k, p, r, n, t⟩, ⟨b0, b3, b4, b5, b6, in_wf b1, in_wf b2⟩, .fld (o := 0) (o' := 1) k0 (by kernel_rfl) <| .fld (o := 1) (o' := 2) k1 (by kernel_rfl) <| .fld (o := 2) (o' := 3) k2 (by kernel_rfl) <| .fld (o := 3) (o' := 7) k3 (by kernel_rfl) <| .fld (o := 7) (o' := 11) k4 (by kernel_rfl) <| .fld (o := 11) (o' := 12) k5 (by kernel_rfl) <| .fld (o := 12) (o' := 13) k6 (by kernel_rfl) <| .nil (n := 13) (hl.trans (by kernel_rfl))⟩
end
end Go.Wl
set_option linter.unusedVariables false
set_option linter.unusedSimpArgs false
set_option maxRecDepth 100000
set_option maxHeartbeats 4000000
namespace Go.Wl
open Go Go.RowKit Go.Pw Go.Proofs
/-- The place of the first letter that was sent with such bytes, or -1. -/
def sentI (w : Earth) (b : List UInt8) : Int := idx (fun s : Sent => decide (s.bytes = b)) w.sent
def theSent (w : Earth) (b : List UInt8) : Sent := (w.sent[(sentI w b).toNat]?).getD ⟨ByteArray.empty, 0, [], []⟩
theorem sent_get {w : Earth} {b : List UInt8} (h : decide (sentI w b < 0) = false) : w.sent[(sentI w b).toNat]? = some (theSent w b) := by
  have h : 0 ≤ sentI w b := by simpa using h
  obtain ⟨i, x, e1, e2, _, _⟩ := idx_some h
  have e : (sentI w b).toNat = i := by rw [sentI, e1]; rfl
  rw [theSent, e, e2]; rfl
theorem sent_ge {w : Earth} {b : List UInt8} (h : decide (sentI w b < 0) = false) : 0 ≤ sentI w b := by simpa using h
theorem map_atZ {α β : Type} {f : α → β} {l : List α} {n : Int} {x : α} (h : l[n.toNat]? = some x) : (l.map f)[n.toNat]? = some (f x) := by rw [List.getElem?_map, h]; rfl
/- spec.l18Sent -/
theorem spec_l18Sent_spec (w : Earth) (b : List UInt8) (hs : w.sent.length ≤ 16777216) : Pw.Spec Tryz.prog 68 [.agg (eEarth w), eBs b] (fun res_ => res_ = eI (sentI w b)) := by
  refine spec_of (n := 22) Tryz.call68 Tryz.func68 rfl rfl (by simp) rfl rfl fun W Z => ?_
  refine PW.seq ?_
  refine PW.region ?_
  refine PL.run 2 rfl ?_
  refine PL.nil ?_
  refine PW.seq ?_
  refine PW.seq ?_
  refine PW.region ?_
  refine PL.run 1 rfl ?_
  refine PL.nil ?_
  refine PW.block ?_
  refine PW.loopAt (α := Nat) (fun i => ⟨[(2, .bx 2 0), (1, eBs b), (5, eI (i : Int))], ⟨[(2, (42, eEarth w))], []⟩⟩) (fun i => i ≤ w.sent.length ∧ ∀ j y, j < i → w.sent[j]? = some y → decide (y.bytes = b) = false) (fun i => w.sent.length - i) 0 Le.boxes ⟨Nat.zero_le _, fun j y h => by omega⟩ (fun i hi => ?_)
  refine PW.seq ?_
  refine PW.seq ?_
  refine PW.region ?_
  refine PL.run 5 rfl ?_
  refine PL.nil ?_
  refine PW.cond rfl (fun h1 => ?_) (fun h1 => ?_)
  ·
    have hlt : i < w.sent.length := by simpa using h1
    clear h1
    obtain ⟨x, hx⟩ : ∃ y, w.sent[i]? = some y := ⟨_, List.getElem?_eq_getElem hlt⟩
    have hup : some (PV.lit (.int .i64 (IntKind.i64.wrap ((i : Int) + 1)))) = some (PV.lit (.int .i64 ((i + 1 : Nat) : Int))) := inc_ok (by omega)
    refine PW.skip ?_
    refine PW.seq ?_
    refine PW.block ?_
    refine PW.seq ?_
    refine PW.region ?_
    refine PL.run 3 rfl ?_
    refine PL.val (OpV.idx rfl rfl rfl (nat_nonneg i) (map_at' hx) rfl rfl rfl rfl) (wantV_ok rfl) rfl ?_
    refine PL.run 3 rfl ?_
    refine PL.call rfl rfl rfl (spec_Same_spec x.bytes b) (.cons (.refl _) <| .cons (.refl _) <| .nil) (fun p hp => by subst hp; rfl) (wantV_ok rfl) rfl (fun p hp => ?_)
    subst hp
    refine PL.nil ?_
    refine PW.cond rfl (fun h2 => ?_) (fun h2 => ?_)
    ·
      refine PW.seq ?_
      refine PW.region ?_
      refine PL.run 2 rfl ?_
      refine PL.nil ?_
      refine PW.ret ?_
      refine RetOk.free rfl rfl (congrArg eI ?_)
      exact (idx_at (f := fun s : Sent => decide (s.bytes = b)) hi.2 hx h2).symm
    ·
      refine PW.skip ?_
      refine PW.region ?_
      refine PL.run 3 rfl ?_
      refine PL.nil ?_
      refine ⟨i + 1, Le.boxes ⟨⟨rfl, rfl⟩, trivial⟩ ⟨⟨rfl, rfl⟩, ⟨rfl, rfl⟩, ⟨hup, rfl⟩, trivial⟩, ⟨hlt, fun j y hj hy => ?_⟩, by omega⟩
      by_cases e : j = i
      · subst e; rw [hx] at hy; cases hy; exact h2
      · exact hi.2 j y (by omega) hy
  ·
    refine PW.exit ?_
    refine PW.seq ?_
    refine PW.region ?_
    refine PL.run 1 rfl ?_
    refine PL.nil ?_
    refine PW.ret ?_
    refine RetOk.free rfl rfl (congrArg eI ?_)
    have hge : w.sent.length ≤ i := by simpa using h1
    exact (idx_none fun j y hy => hi.2 j y (by have := (List.getElem?_eq_some_iff.1 hy).1; omega) hy).symm
/- impl.sentAt$1 -/
theorem impl_sentAt_1_spec (x : Sent) (b : List UInt8) : Pw.Spec Tryz.prog 109 [.agg (eSent x), .rp [eBs b]] (fun res_ => res_ = eT (decide (x.bytes = b))) := by
  refine spec_of (n := 8) Tryz.call109 Tryz.func109 rfl rfl (by simp) rfl rfl fun W Z => ?_
  refine PW.seq ?_
  refine PW.region ?_
  refine PL.run 2 rfl ?_
  refine PL.nil ?_
  refine PW.seq ?_
  refine PW.region ?_
  refine PL.run 3 rfl ?_
  refine PL.call rfl rfl rfl (impl_Same_spec x.bytes b) (.cons (.refl _) <| .cons (.refl _) <| .nil) (fun p hp => by subst hp; rfl) (wantV_ok rfl) rfl (fun p hp => ?_)
  subst hp
  refine PL.run 1 rfl ?_
  refine PL.nil ?_
  refine PW.ret ?_
  refine RetOk.free rfl rfl rfl
/- impl.sentAt -/
theorem impl_sentAt_spec (w : Earth) (b : List UInt8) (hs : w.sent.length ≤ 16777216) : Pw.Spec Tryz.prog 70 [.agg (eEarth w), eBs b] (fun res_ => res_ = eI (sentI w b)) := by
  refine spec_of (n := 9) Tryz.call70 Tryz.func70 rfl rfl (by simp) rfl rfl fun W Z => ?_
  refine PW.seq ?_
  refine PW.region ?_
  refine PL.run 3 rfl ?_
  refine PL.nil ?_
  refine PW.seq ?_
  refine PW.region ?_
  refine PL.run 2 rfl ?_
  refine PL.le (Le.freezeP (tv := 3) (id := 3) (cs := [eBs b]) (e := [(6, eSents w.sent)]) rfl rfl rfl ⟨⟨rfl, rfl⟩, trivial⟩) ?_
  refine PL.run 1 rfl ?_
  refine PL.call rfl rfl rfl (slices_IndexFunc__impl_Sent_impl_Sent_spec w.sent 109 [.rp [eBs b]] (fun s => decide (s.bytes = b)) rfl hs (fun i y hy => impl_sentAt_1_spec y b)) (wkl_refl _) (fun p hp => by subst hp; rfl) (wantV_ok rfl) rfl (fun p hp => ?_)
  subst hp
  refine PL.run 1 rfl ?_
  refine PL.nil ?_
  refine PW.ret ?_
  refine RetOk.free rfl rfl rfl
def judgeOnce (w : Earth) : Bool := worldOk w && decide (w.reader.got.length ≤ w.sent.length)
/- spec.JudgeOnce -/
theorem spec_JudgeOnce_spec (w : Earth) (hw : SmW w) : Pw.Spec Tryz.prog 14 [.agg (eEarth w)] (fun res_ => res_ = eT (judgeOnce w)) := by
  refine spec_of (n := 15) Tryz.call14 Tryz.func14 rfl rfl (by simp) rfl rfl fun W Z => ?_
  refine PW.seq ?_
  refine PW.region ?_
  refine PL.run 2 rfl ?_
  refine PL.nil ?_
  refine PW.seq ?_
  refine PW.region ?_
  refine PL.run 1 rfl ?_
  refine PL.call rfl rfl rfl (spec_WorldOk_spec w hw) (.cons (.refl _) <| .nil) (fun p hp => by subst hp; rfl) (wantV_ok rfl) rfl (fun p hp => ?_)
  subst hp
  refine PL.run 1 rfl ?_
  refine PL.split (t := 5) rfl (fun h1 => ?_) (fun h1 => ?_)
  ·
    refine PL.run 10 rfl ?_
    refine PL.nil ?_
    refine PW.ret ?_
    refine RetOk.free rfl rfl (congrArg eT ?_)
    simp [judgeOnce, h1]
  ·
    refine PL.run 10 rfl ?_
    refine PL.nil ?_
    refine PW.ret ?_
    refine RetOk.free rfl rfl (congrArg eT ?_)
    simp [judgeOnce, h1]
/- impl.JudgeOnce -/
theorem impl_JudgeOnce_spec (w : Earth) (hw : SmW w) : Pw.Spec Tryz.prog 15 [.agg (eEarth w)] (fun res_ => res_ = eT (judgeOnce w)) := by
  refine spec_of (n := 15) Tryz.call15 Tryz.func15 rfl rfl (by simp) rfl rfl fun W Z => ?_
  refine PW.seq ?_
  refine PW.region ?_
  refine PL.run 2 rfl ?_
  refine PL.nil ?_
  refine PW.seq ?_
  refine PW.region ?_
  refine PL.run 1 rfl ?_
  refine PL.call rfl rfl rfl (impl_WorldOk_spec w hw) (.cons (.refl _) <| .nil) (fun p hp => by subst hp; rfl) (wantV_ok rfl) rfl (fun p hp => ?_)
  subst hp
  refine PL.run 1 rfl ?_
  refine PL.split (t := 5) rfl (fun h1 => ?_) (fun h1 => ?_)
  ·
    refine PL.run 10 rfl ?_
    refine PL.nil ?_
    refine PW.ret ?_
    refine RetOk.free rfl rfl (congrArg eT ?_)
    simp [judgeOnce, h1]
  ·
    refine PL.run 10 rfl ?_
    refine PL.nil ?_
    refine PW.ret ?_
    refine RetOk.free rfl rfl (congrArg eT ?_)
    simp [judgeOnce, h1]
def readOk (w : Earth) (i : Nat) : Bool := match w.reader.seen[i]?, w.reader.got[i]? with
  | some x, some g => !decide (sentI w x < 0) && decide ((theSent w x).note = g)
  | _, _ => true
def judgeRead (w : Earth) : Bool := worldOk w && (List.range w.reader.seen.length).all (readOk w)
theorem world_got {w : Earth} (h : worldOk w = true) : w.reader.got.length = w.reader.seen.length := by
  have h1 : readerOk w.reader = true := by
    simp only [worldOk, Bool.and_eq_true] at h; exact h.2.2.2.2.1
  simp only [readerOk, Bool.and_eq_true, decide_eq_true_eq] at h1
  exact h1.2.2.2.1
/- spec.JudgeRead -/
theorem spec_JudgeRead_spec (w : Earth) (hw : SmW w) : Pw.Spec Tryz.prog 23 [.agg (eEarth w)] (fun res_ => res_ = eT (judgeRead w)) := by
  refine spec_of (n := 42) Tryz.call23 Tryz.func23 rfl rfl (by simp) rfl rfl fun W Z => ?_
  refine PW.seq ?_
  refine PW.region ?_
  refine PL.run 2 rfl ?_
  refine PL.nil ?_
  refine PW.seq ?_
  refine PW.seq ?_
  refine PW.region ?_
  refine PL.run 1 rfl ?_
  refine PL.call rfl rfl rfl (spec_WorldOk_spec w hw) (.cons (.refl _) <| .nil) (fun p hp => by subst hp; rfl) (wantV_ok rfl) rfl (fun p hp => ?_)
  subst hp
  refine PL.run 1 rfl ?_
  refine PL.nil ?_
  refine PW.cond rfl (fun h1 => ?_) (fun h1 => ?_)
  ·
    refine PW.seq ?_
    refine PW.region ?_
    refine PL.run 1 rfl ?_
    refine PL.nil ?_
    refine PW.ret ?_
    refine RetOk.free rfl rfl (congrArg eT ?_)
    have h1 : worldOk w = false := by simpa using h1
    simp [judgeRead, h1]
  ·
    have h1 : worldOk w = true := by simpa using h1
    have hgot := world_got h1
    have kk : judgeRead w = (List.range w.reader.seen.length).all (readOk w) := by rw [judgeRead, h1]; rfl
    have hsl := hw.sent
    have hsn := hw.r.seen
    clear h1
    refine PW.skip ?_
    refine PW.seq ?_
    refine PW.seq ?_
    refine PW.region ?_
    refine PL.run 1 rfl ?_
    refine PL.nil ?_
    refine PW.block ?_
    refine PW.loopAt (α := Nat) (fun i => ⟨[(1, .bx 1 0), (3, eI (i : Int))], ⟨[(1, (42, eEarth w))], []⟩⟩) (fun i => i ≤ w.reader.seen.length ∧ (List.range i).all (readOk w) = true) (fun i => w.reader.seen.length - i) 0 Le.boxes ⟨Nat.zero_le _, rfl⟩ (fun i hi => ?_)
    refine PW.seq ?_
    refine PW.seq ?_
    refine PW.region ?_
    refine PL.run 6 rfl ?_
    refine PL.nil ?_
    refine PW.cond rfl (fun h2 => ?_) (fun h2 => ?_)
    ·
      have hlt : i < w.reader.seen.length := by simpa using h2
      clear h2
      obtain ⟨x, hx⟩ : ∃ y, w.reader.seen[i]? = some y := ⟨_, List.getElem?_eq_getElem hlt⟩
      obtain ⟨g, hg⟩ : ∃ y, w.reader.got[i]? = some y := ⟨_, List.getElem?_eq_getElem (by omega)⟩
      have hr : readOk w i = (!decide (sentI w x < 0) && decide ((theSent w x).note = g)) := by simp only [readOk, hx, hg]
      have hup : some (PV.lit (.int .i64 (IntKind.i64.wrap ((i : Int) + 1)))) = some (PV.lit (.int .i64 ((i + 1 : Nat) : Int))) := inc_ok (by omega)
      refine PW.skip ?_
      refine PW.seq ?_
      refine PW.block ?_
      refine PW.seq ?_
      refine PW.drawn ((some 16, _) :: (some 17, _) :: (some 18, _) :: (some 19, _) :: (some 20, _) :: (some 21, _) :: (some 22, _) :: (some 23, _) :: (some 4, _) :: []) (0 :: 0 :: 2 :: 6 :: 0 :: 30 :: 62 :: 127 :: 255 :: []) (fun _ => _) mixed rfl rfl rfl rfl rfl
        (.cons rfl (fun ρ => PL.run 1 rfl (PL.nil rfl)) <|
        .cons rfl (fun ρ => PL.run 1 rfl (PL.nil rfl)) <|
        .cons rfl (fun ρ => PL.run 1 rfl (PL.nil rfl)) <|
        .cons rfl (fun ρ => PL.run 1 rfl (PL.nil rfl)) <|
        .cons rfl (fun ρ => PL.run 1 rfl (PL.nil rfl)) <|
        .cons rfl (fun ρ => PL.val (OpV.idx rfl rfl rfl (nat_nonneg i) (map_at' hx) rfl rfl rfl rfl) (wantV_ok rfl) rfl (PL.nil rfl)) <|
        .cons rfl (fun ρ => PL.run 1 rfl (PL.nil rfl)) <|
        .cons rfl (fun ρ => PL.call rfl rfl rfl (spec_l18Sent_spec w x hsl) (.cons (.refl _) <| .cons (.refl _) <| .nil) (fun p hp => by subst hp; rfl) (wantV_ok rfl) rfl (fun p hp => by subst hp; exact PL.nil rfl)) <|
        .cons rfl (fun ρ => PL.run 1 rfl (PL.nil rfl)) <|
        .nil _) ?_
      refine PW.seq ?_
      rcases Bool.eq_false_or_eq_true (decide (sentI w x < 0)) with h3 | h3
      ·
        refine PW.drawn ((some 24, _) :: (some 25, _) :: (some 26, .lit (.bool true)) :: (some 27, _) :: (some 28, _) :: (some 29, _) :: (some 30, _) :: (some 31, _) :: (some 32, _) :: (some 33, _) :: (some 34, _) :: (some 35, _) :: (some 36, _) :: (some 37, _) :: (some 38, _) :: (some 39, _) :: (some 40, _) :: (some 41, _) :: []) (0 :: 1 :: 3 :: 7 :: 15 :: 7 :: 63 :: 127 :: 255 :: 7 :: 519 :: 1543 :: 7 :: 7687 :: 15879 :: 32767 :: 65535 :: 131071 :: []) (fun _ => _) mixed rfl rfl rfl rfl rfl
          (.cons rfl (fun ρ => PL.run 1 rfl (PL.nil rfl)) <|
          .cons rfl (fun ρ => PL.run 1 rfl (PL.nil rfl)) <|
          .cons rfl (fun ρ => PL.run 1 rfl (PL.nil (putb h3))) <|
          .cons rfl (fun ρ => PL.run 1 rfl (PL.nil rfl)) <|
          .cons rfl (fun ρ => PL.run 1 rfl (PL.nil rfl)) <|
          .cons rfl (fun ρ => PL.run 1 rfl (PL.nil rfl)) <|
          .cons rfl (fun ρ => PL.run 1 rfl (PL.nil rfl)) <|
          .cons rfl (fun ρ => PL.run 1 rfl (PL.nil rfl)) <|
          .cons rfl (fun ρ => PL.run 1 rfl (PL.nil rfl)) <|
          .cons rfl (fun ρ => PL.run 1 rfl (PL.nil rfl)) <|
          .cons rfl (fun ρ => PL.run 1 rfl (PL.nil rfl)) <|
          .cons rfl (fun ρ => PL.run 1 rfl (PL.nil rfl)) <|
          .cons rfl (fun ρ => PL.run 1 rfl (PL.nil rfl)) <|
          .cons rfl (fun ρ => PL.run 1 rfl (PL.nil rfl)) <|
          .cons rfl (fun ρ => PL.run 1 rfl (PL.nil rfl)) <|
          .cons rfl (fun ρ => PL.run 1 rfl (PL.nil rfl)) <|
          .cons rfl (fun ρ => PL.run 1 rfl (PL.nil rfl)) <|
          .cons rfl (fun ρ => PL.run 1 rfl (PL.nil rfl)) <|
          .nil _) ?_
        refine PW.condT rfl ?_
        refine PW.seq ?_
        refine PW.region ?_
        refine PL.run 1 rfl ?_
        refine PL.nil ?_
        refine PW.ret ?_
        refine RetOk.free rfl rfl (congrArg eT ?_)
        rw [kk, range_bad hlt (by rw [hr, h3]; rfl)]
      ·
        refine PW.drawn ((some 24, _) :: (some 25, _) :: (some 26, .lit (.bool false)) :: (some 27, _) :: (some 28, _) :: (some 29, _) :: (some 30, _) :: (some 31, _) :: (some 32, _) :: (some 33, _) :: (some 34, _) :: (some 35, _) :: (some 36, _) :: (some 37, _) :: (some 38, _) :: (some 39, _) :: (some 40, _) :: (some 41, _) :: []) (0 :: 1 :: 3 :: 7 :: 15 :: 7 :: 63 :: 127 :: 255 :: 7 :: 519 :: 1543 :: 7 :: 7687 :: 15879 :: 32767 :: 65535 :: 131071 :: []) (fun _ => _) mixed rfl rfl rfl rfl rfl
          (.cons rfl (fun ρ => PL.run 1 rfl (PL.nil rfl)) <|
          .cons rfl (fun ρ => PL.run 1 rfl (PL.nil rfl)) <|
          .cons rfl (fun ρ => PL.run 1 rfl (PL.nil (putb h3))) <|
          .cons rfl (fun ρ => PL.run 1 rfl (PL.nil rfl)) <|
          .cons rfl (fun ρ => PL.run 1 rfl (PL.nil rfl)) <|
          .cons rfl (fun ρ => PL.run 1 rfl (PL.nil rfl)) <|
          .cons rfl (fun ρ => PL.val (OpV.idx rfl rfl rfl (sent_ge h3) (map_atZ (sent_get h3)) rfl rfl rfl rfl) (wantV_ok rfl) rfl (PL.nil rfl)) <|
          .cons rfl (fun ρ => PL.run 1 rfl (PL.nil rfl)) <|
          .cons rfl (fun ρ => PL.run 1 rfl (PL.nil rfl)) <|
          .cons rfl (fun ρ => PL.run 1 rfl (PL.nil rfl)) <|
          .cons rfl (fun ρ => PL.run 1 rfl (PL.nil rfl)) <|
          .cons rfl (fun ρ => PL.run 1 rfl (PL.nil rfl)) <|
          .cons rfl (fun ρ => PL.run 1 rfl (PL.nil rfl)) <|
          .cons rfl (fun ρ => PL.val (OpV.idx rfl rfl rfl (nat_nonneg i) (map_at' hg) rfl rfl rfl rfl) (wantV_ok rfl) rfl (PL.nil rfl)) <|
          .cons rfl (fun ρ => PL.run 1 rfl (PL.nil rfl)) <|
          .cons rfl (fun ρ => PL.call rfl rfl rfl (spec_Same_spec (theSent w x).note g) (.cons (.refl _) <| .cons (.refl _) <| .nil) (fun p hp => by subst hp; rfl) (wantV_ok rfl) rfl (fun p hp => by subst hp; exact PL.nil rfl)) <|
          .cons rfl (fun ρ => PL.run 1 rfl (PL.nil rfl)) <|
          .cons rfl (fun ρ => PL.run 1 rfl (PL.nil rfl)) <|
          .nil _) ?_
        refine PW.cond rfl (fun h4 => ?_) (fun h4 => ?_)
        ·
          refine PW.seq ?_
          refine PW.region ?_
          refine PL.run 1 rfl ?_
          refine PL.nil ?_
          refine PW.ret ?_
          refine RetOk.free rfl rfl (congrArg eT ?_)
          have h4 : decide ((theSent w x).note = g) = false := by simpa using h4
          rw [kk, range_bad hlt (by rw [hr, h3, h4]; rfl)]
        ·
          refine PW.skip ?_
          refine PW.region ?_
          refine PL.run 3 rfl ?_
          refine PL.nil ?_
          have h4 : decide ((theSent w x).note = g) = true := by simpa using h4
          refine ⟨i + 1, Le.boxes ⟨⟨rfl, rfl⟩, trivial⟩ ⟨⟨rfl, rfl⟩, ⟨hup, rfl⟩, trivial⟩, ⟨hlt, range_all hi.2 ?_⟩, by omega⟩
          rw [hr, h3, h4]; rfl
    ·
      refine PW.exit ?_
      refine PW.seq ?_
      refine PW.region ?_
      refine PL.run 1 rfl ?_
      refine PL.nil ?_
      refine PW.ret ?_
      refine RetOk.free rfl rfl (congrArg eT ?_)
      have hge : i = w.reader.seen.length := Nat.le_antisymm hi.1 (by simpa using h2)
      rw [kk, ← hge, hi.2]
/- impl.JudgeRead -/
theorem impl_JudgeRead_spec (w : Earth) (hw : SmW w) : Pw.Spec Tryz.prog 24 [.agg (eEarth w)] (fun res_ => res_ = eT (judgeRead w)) := by
  refine spec_of (n := 40) Tryz.call24 Tryz.func24 rfl rfl (by simp) rfl rfl fun W Z => ?_
  refine PW.seq ?_
  refine PW.region ?_
  refine PL.run 2 rfl ?_
  refine PL.nil ?_
  refine PW.seq ?_
  refine PW.seq ?_
  refine PW.region ?_
  refine PL.run 1 rfl ?_
  refine PL.call rfl rfl rfl (impl_WorldOk_spec w hw) (.cons (.refl _) <| .nil) (fun p hp => by subst hp; rfl) (wantV_ok rfl) rfl (fun p hp => ?_)
  subst hp
  refine PL.run 1 rfl ?_
  refine PL.nil ?_
  refine PW.cond rfl (fun h1 => ?_) (fun h1 => ?_)
  ·
    refine PW.seq ?_
    refine PW.region ?_
    refine PL.run 1 rfl ?_
    refine PL.nil ?_
    refine PW.ret ?_
    refine RetOk.free rfl rfl (congrArg eT ?_)
    have h1 : worldOk w = false := by simpa using h1
    simp [judgeRead, h1]
  ·
    have h1 : worldOk w = true := by simpa using h1
    have hgot := world_got h1
    have kk : judgeRead w = (List.range w.reader.seen.length).all (readOk w) := by rw [judgeRead, h1]; rfl
    have hsl := hw.sent
    have hsn := hw.r.seen
    clear h1
    refine PW.skip ?_
    refine PW.seq ?_
    refine PW.seq ?_
    refine PW.region ?_
    refine PL.run 5 rfl ?_
    refine PL.nil ?_
    refine PW.block ?_
    refine PW.loopAt (α := Nat) (fun i => ⟨[(1, .bx 1 0), (11, eBss w.reader.seen), (12, eI ((w.reader.seen.map eBss1).length : Nat)), (13, eI (i : Int))], ⟨[(1, (42, eEarth w))], []⟩⟩) (fun i => i ≤ w.reader.seen.length ∧ (List.range i).all (readOk w) = true) (fun i => w.reader.seen.length - i) 0 Le.boxes ⟨Nat.zero_le _, rfl⟩ (fun i hi => ?_)
    refine PW.seq ?_
    refine PW.region ?_
    refine PL.run 1 rfl ?_
    refine PL.nil ?_
    refine PW.seq ?_
    refine PW.cond rfl (fun h2 => ?_) (fun h2 => ?_)
    ·
      have hlt : i < w.reader.seen.length := by simpa using h2
      clear h2
      obtain ⟨x, hx⟩ : ∃ y, w.reader.seen[i]? = some y := ⟨_, List.getElem?_eq_getElem hlt⟩
      obtain ⟨g, hg⟩ : ∃ y, w.reader.got[i]? = some y := ⟨_, List.getElem?_eq_getElem (by omega)⟩
      have hr : readOk w i = (!decide (sentI w x < 0) && decide ((theSent w x).note = g)) := by simp only [readOk, hx, hg]
      have hup : some (PV.lit (.int .i64 (IntKind.i64.wrap ((i : Int) + 1)))) = some (PV.lit (.int .i64 ((i + 1 : Nat) : Int))) := inc_ok (by omega)
      refine PW.skip ?_
      refine PW.seq ?_
      refine PW.block ?_
      refine PW.seq ?_
      refine PW.region ?_
      refine PL.run 1 rfl ?_
      refine PL.val (OpV.idx rfl rfl rfl (nat_nonneg i) (map_at' hx) rfl rfl rfl rfl) (wantV_ok rfl) rfl ?_
      refine PL.run 3 rfl ?_
      refine PL.nil ?_
      refine PW.seq ?_
      refine PW.region ?_
      refine PL.run 2 rfl ?_
      refine PL.call rfl rfl rfl (impl_sentAt_spec w x hsl) (.cons (.refl _) <| .cons (.refl _) <| .nil) (fun p hp => by subst hp; rfl) (wantV_ok rfl) rfl (fun p hp => ?_)
      subst hp
      refine PL.run 1 rfl ?_
      refine PL.nil ?_
      refine PW.seq ?_
      rcases Bool.eq_false_or_eq_true (decide (sentI w x < 0)) with h3 | h3
      ·
        refine PW.drawn ((some 21, _) :: (some 22, _) :: (some 23, .lit (.bool true)) :: (some 24, _) :: (some 25, _) :: (some 26, _) :: (some 27, _) :: (some 28, _) :: (some 29, _) :: (some 30, _) :: (some 31, _) :: (some 32, _) :: (some 33, _) :: (some 34, _) :: (some 35, _) :: (some 36, _) :: (some 37, _) :: (some 38, _) :: []) (0 :: 1 :: 3 :: 7 :: 15 :: 7 :: 63 :: 127 :: 255 :: 7 :: 519 :: 1543 :: 7 :: 7687 :: 15879 :: 32767 :: 65535 :: 131071 :: []) (fun _ => _) mixed rfl rfl rfl rfl rfl
          (.cons rfl (fun ρ => PL.run 1 rfl (PL.nil rfl)) <|
          .cons rfl (fun ρ => PL.run 1 rfl (PL.nil rfl)) <|
          .cons rfl (fun ρ => PL.run 1 rfl (PL.nil (putb h3))) <|
          .cons rfl (fun ρ => PL.run 1 rfl (PL.nil rfl)) <|
          .cons rfl (fun ρ => PL.run 1 rfl (PL.nil rfl)) <|
          .cons rfl (fun ρ => PL.run 1 rfl (PL.nil rfl)) <|
          .cons rfl (fun ρ => PL.run 1 rfl (PL.nil rfl)) <|
          .cons rfl (fun ρ => PL.run 1 rfl (PL.nil rfl)) <|
          .cons rfl (fun ρ => PL.run 1 rfl (PL.nil rfl)) <|
          .cons rfl (fun ρ => PL.run 1 rfl (PL.nil rfl)) <|
          .cons rfl (fun ρ => PL.run 1 rfl (PL.nil rfl)) <|
          .cons rfl (fun ρ => PL.run 1 rfl (PL.nil rfl)) <|
          .cons rfl (fun ρ => PL.run 1 rfl (PL.nil rfl)) <|
          .cons rfl (fun ρ => PL.run 1 rfl (PL.nil rfl)) <|
          .cons rfl (fun ρ => PL.run 1 rfl (PL.nil rfl)) <|
          .cons rfl (fun ρ => PL.run 1 rfl (PL.nil rfl)) <|
          .cons rfl (fun ρ => PL.run 1 rfl (PL.nil rfl)) <|
          .cons rfl (fun ρ => PL.run 1 rfl (PL.nil rfl)) <|
          .nil _) ?_
        refine PW.condT rfl ?_
        refine PW.seq ?_
        refine PW.region ?_
        refine PL.run 1 rfl ?_
        refine PL.nil ?_
        refine PW.ret ?_
        refine RetOk.free rfl rfl (congrArg eT ?_)
        rw [kk, range_bad hlt (by rw [hr, h3]; rfl)]
      ·
        refine PW.drawn ((some 21, _) :: (some 22, _) :: (some 23, .lit (.bool false)) :: (some 24, _) :: (some 25, _) :: (some 26, _) :: (some 27, _) :: (some 28, _) :: (some 29, _) :: (some 30, _) :: (some 31, _) :: (some 32, _) :: (some 33, _) :: (some 34, _) :: (some 35, _) :: (some 36, _) :: (some 37, _) :: (some 38, _) :: []) (0 :: 1 :: 3 :: 7 :: 15 :: 7 :: 63 :: 127 :: 255 :: 7 :: 519 :: 1543 :: 7 :: 7687 :: 15879 :: 32767 :: 65535 :: 131071 :: []) (fun _ => _) mixed rfl rfl rfl rfl rfl
          (.cons rfl (fun ρ => PL.run 1 rfl (PL.nil rfl)) <|
          .cons rfl (fun ρ => PL.run 1 rfl (PL.nil rfl)) <|
          .cons rfl (fun ρ => PL.run 1 rfl (PL.nil (putb h3))) <|
          .cons rfl (fun ρ => PL.run 1 rfl (PL.nil rfl)) <|
          .cons rfl (fun ρ => PL.run 1 rfl (PL.nil rfl)) <|
          .cons rfl (fun ρ => PL.run 1 rfl (PL.nil rfl)) <|
          .cons rfl (fun ρ => PL.val (OpV.idx rfl rfl rfl (sent_ge h3) (map_atZ (sent_get h3)) rfl rfl rfl rfl) (wantV_ok rfl) rfl (PL.nil rfl)) <|
          .cons rfl (fun ρ => PL.run 1 rfl (PL.nil rfl)) <|
          .cons rfl (fun ρ => PL.run 1 rfl (PL.nil rfl)) <|
          .cons rfl (fun ρ => PL.run 1 rfl (PL.nil rfl)) <|
          .cons rfl (fun ρ => PL.run 1 rfl (PL.nil rfl)) <|
          .cons rfl (fun ρ => PL.run 1 rfl (PL.nil rfl)) <|
          .cons rfl (fun ρ => PL.run 1 rfl (PL.nil rfl)) <|
          .cons rfl (fun ρ => PL.val (OpV.idx rfl rfl rfl (nat_nonneg i) (map_at' hg) rfl rfl rfl rfl) (wantV_ok rfl) rfl (PL.nil rfl)) <|
          .cons rfl (fun ρ => PL.run 1 rfl (PL.nil rfl)) <|
          .cons rfl (fun ρ => PL.call rfl rfl rfl (impl_Same_spec (theSent w x).note g) (.cons (.refl _) <| .cons (.refl _) <| .nil) (fun p hp => by subst hp; rfl) (wantV_ok rfl) rfl (fun p hp => by subst hp; exact PL.nil rfl)) <|
          .cons rfl (fun ρ => PL.run 1 rfl (PL.nil rfl)) <|
          .cons rfl (fun ρ => PL.run 1 rfl (PL.nil rfl)) <|
          .nil _) ?_
        refine PW.cond rfl (fun h4 => ?_) (fun h4 => ?_)
        ·
          refine PW.seq ?_
          refine PW.region ?_
          refine PL.run 1 rfl ?_
          refine PL.nil ?_
          refine PW.ret ?_
          refine RetOk.free rfl rfl (congrArg eT ?_)
          have h4 : decide ((theSent w x).note = g) = false := by simpa using h4
          rw [kk, range_bad hlt (by rw [hr, h3, h4]; rfl)]
        ·
          refine PW.skip ?_
          refine PW.region ?_
          refine PL.run 2 rfl ?_
          refine PL.nil ?_
          have h4 : decide ((theSent w x).note = g) = true := by simpa using h4
          refine ⟨i + 1, Le.boxes ⟨⟨rfl, rfl⟩, trivial⟩ ⟨⟨rfl, rfl⟩, ⟨rfl, rfl⟩, ⟨rfl, rfl⟩, ⟨hup, rfl⟩, trivial⟩, ⟨hlt, range_all hi.2 ?_⟩, by omega⟩
          rw [hr, h3, h4]; rfl
    ·
      refine PW.exit ?_
      refine PW.seq ?_
      refine PW.region ?_
      refine PL.run 1 rfl ?_
      refine PL.nil ?_
      refine PW.ret ?_
      refine RetOk.free rfl rfl (congrArg eT ?_)
      have hge : i = w.reader.seen.length := Nat.le_antisymm hi.1 (by simpa using h2)
      rw [kk, ← hge, hi.2]
end Go.Wl
set_option linter.unusedVariables false
set_option linter.unusedSimpArgs false
set_option maxRecDepth 100000
set_option maxHeartbeats 4000000
namespace Go.Wl
open Go Go.RowKit Go.Pw Go.Proofs
/- laws.FnExactJudgeOnce -/
theorem laws_FnExactJudgeOnce_spec (w : Earth) (hw : BgE w) : Pw.Spec Tryz.prog 4 [.agg (eEarth w)] (fun res_ => res_ = eT true) := by
  refine spec_of (n := 27) Tryz.call4 Tryz.func4 rfl rfl (by simp) rfl rfl fun W Z => ?_
  refine PW.seq ?_
  refine PW.region ?_
  refine PL.run 2 rfl ?_
  refine PL.nil ?_
  refine PW.seq ?_
  refine PW.region ?_
  refine PL.run 1 rfl ?_
  refine PL.nil ?_
  refine PW.seq ?_
  refine PW.region ?_
  refine PL.run 2 rfl ?_
  refine PL.call rfl rfl rfl (laws_szWorld_spec w 1048576 (by decide) (by decide) hw) (.cons (.refl _) <| .cons (.refl _) <| .nil) (fun p hp => by subst hp; rfl) (wantV_ok rfl) rfl (fun p hp => ?_)
  subst hp
  refine PL.run 1 rfl ?_
  refine PL.nil ?_
  refine PW.seq ?_
  refine PW.seq ?_
  refine PW.region ?_
  refine PL.run 2 rfl ?_
  refine PL.nil ?_
  refine PW.cond rfl (fun h1 => ?_) (fun h1 => ?_)
  ·
    refine PW.seq ?_
    refine PW.region ?_
    refine PL.run 1 rfl ?_
    refine PL.nil ?_
    refine PW.ret ?_
    refine RetOk.free rfl rfl rfl
  ·
    have k := szf_or (mEarth w) 1048576
    have hm : mEarth w ≤ 1048576 := by simp only [decide_eq_false_iff_not] at h1; omega
    have hf := mEarth_few hm
    have hs := mEarth_sm hm
    clear h1 k
    refine PW.skip ?_
    refine PW.seq ?_
    refine PW.region ?_
    refine PL.run 1 rfl ?_
    refine PL.call rfl rfl rfl (laws_toWorld_spec w hf) (.cons (.refl _) <| .nil) (fun p hp => by subst hp; rfl) (wantV_ok rfl) rfl (fun p hp => ?_)
    subst hp
    refine PL.call rfl rfl rfl (spec_JudgeOnce_spec w hs) (.cons (.refl _) <| .nil) (fun p hp => by subst hp; rfl) (wantV_ok rfl) rfl (fun p hp => ?_)
    subst hp
    refine PL.run 1 rfl ?_
    refine PL.nil ?_
    refine PW.seq ?_
    refine PW.region ?_
    refine PL.run 1 rfl ?_
    refine PL.call rfl rfl rfl (laws_toWorld_spec w hf) (.cons (.refl _) <| .nil) (fun p hp => by subst hp; rfl) (wantV_ok rfl) rfl (fun p hp => ?_)
    subst hp
    refine PL.run 2 rfl ?_
    refine PL.nil ?_
    refine PW.seq ?_
    refine PW.region ?_
    refine PL.run 1 rfl ?_
    refine PL.call rfl rfl rfl (impl_JudgeOnce_spec w hs) (.cons (.refl _) <| .nil) (fun p hp => by subst hp; rfl) (wantV_ok rfl) rfl (fun p hp => ?_)
    subst hp
    refine PL.run 1 rfl ?_
    refine PL.nil ?_
    refine PW.seq ?_
    refine PW.seq ?_
    refine PW.region ?_
    refine PL.run 2 rfl ?_
    refine PL.val (OpV.neqT rfl rfl rfl rfl rfl) (wantV_ok rfl) rfl ?_
    refine PL.nil ?_
    refine PW.cond rfl (fun h2 => ?_) (fun h2 => ?_)
    ·
      simp at h2
    ·
      refine PW.skip ?_
      refine PW.seq ?_
      refine PW.seq ?_
      refine PW.drawn ((some 22, _) :: (some 23, _) :: (some 24, _) :: (some 25, _) :: (some 26, _) :: []) (0 :: 0 :: 2 :: 7 :: 15 :: []) (fun _ => _) mixed rfl rfl rfl rfl rfl
        (.cons rfl (fun ρ => PL.run 1 rfl (PL.nil rfl)) <|
        .cons rfl (fun ρ => PL.run 1 rfl (PL.nil rfl)) <|
        .cons rfl (fun ρ => PL.call rfl rfl rfl (laws_toWorld_spec w hf) (.cons (.refl _) <| .nil) (fun p hp => by subst hp; rfl) (wantV_ok rfl) rfl (fun p hp => by subst hp; exact PL.nil rfl)) <|
        .cons rfl (fun ρ => PL.call rfl rfl rfl (laws_eqWorld_spec w hf) (.cons (.refl _) <| .cons (.refl _) <| .nil) (fun p hp => by subst hp; rfl) (wantV_ok rfl) rfl (fun p hp => by subst hp; exact PL.nil rfl)) <|
        .cons rfl (fun ρ => PL.run 1 rfl (PL.nil rfl)) <|
        .nil _) ?_
      refine PW.cond rfl (fun h3 => ?_) (fun h3 => ?_)
      ·
        simp at h3
      ·
        refine PW.skip ?_
        refine PW.seq ?_
        refine PW.region ?_
        refine PL.run 1 rfl ?_
        refine PL.nil ?_
        refine PW.ret ?_
        refine RetOk.free rfl rfl rfl
/- laws.FnExactJudgeRead -/
theorem laws_FnExactJudgeRead_spec (w : Earth) (hw : BgE w) : Pw.Spec Tryz.prog 6 [.agg (eEarth w)] (fun res_ => res_ = eT true) := by
  refine spec_of (n := 27) Tryz.call6 Tryz.func6 rfl rfl (by simp) rfl rfl fun W Z => ?_
  refine PW.seq ?_
  refine PW.region ?_
  refine PL.run 2 rfl ?_
  refine PL.nil ?_
  refine PW.seq ?_
  refine PW.region ?_
  refine PL.run 1 rfl ?_
  refine PL.nil ?_
  refine PW.seq ?_
  refine PW.region ?_
  refine PL.run 2 rfl ?_
  refine PL.call rfl rfl rfl (laws_szWorld_spec w 1048576 (by decide) (by decide) hw) (.cons (.refl _) <| .cons (.refl _) <| .nil) (fun p hp => by subst hp; rfl) (wantV_ok rfl) rfl (fun p hp => ?_)
  subst hp
  refine PL.run 1 rfl ?_
  refine PL.nil ?_
  refine PW.seq ?_
  refine PW.seq ?_
  refine PW.region ?_
  refine PL.run 2 rfl ?_
  refine PL.nil ?_
  refine PW.cond rfl (fun h1 => ?_) (fun h1 => ?_)
  ·
    refine PW.seq ?_
    refine PW.region ?_
    refine PL.run 1 rfl ?_
    refine PL.nil ?_
    refine PW.ret ?_
    refine RetOk.free rfl rfl rfl
  ·
    have k := szf_or (mEarth w) 1048576
    have hm : mEarth w ≤ 1048576 := by simp only [decide_eq_false_iff_not] at h1; omega
    have hf := mEarth_few hm
    have hs := mEarth_sm hm
    clear h1 k
    refine PW.skip ?_
    refine PW.seq ?_
    refine PW.region ?_
    refine PL.run 1 rfl ?_
    refine PL.call rfl rfl rfl (laws_toWorld_spec w hf) (.cons (.refl _) <| .nil) (fun p hp => by subst hp; rfl) (wantV_ok rfl) rfl (fun p hp => ?_)
    subst hp
    refine PL.call rfl rfl rfl (spec_JudgeRead_spec w hs) (.cons (.refl _) <| .nil) (fun p hp => by subst hp; rfl) (wantV_ok rfl) rfl (fun p hp => ?_)
    subst hp
    refine PL.run 1 rfl ?_
    refine PL.nil ?_
    refine PW.seq ?_
    refine PW.region ?_
    refine PL.run 1 rfl ?_
    refine PL.call rfl rfl rfl (laws_toWorld_spec w hf) (.cons (.refl _) <| .nil) (fun p hp => by subst hp; rfl) (wantV_ok rfl) rfl (fun p hp => ?_)
    subst hp
    refine PL.run 2 rfl ?_
    refine PL.nil ?_
    refine PW.seq ?_
    refine PW.region ?_
    refine PL.run 1 rfl ?_
    refine PL.call rfl rfl rfl (impl_JudgeRead_spec w hs) (.cons (.refl _) <| .nil) (fun p hp => by subst hp; rfl) (wantV_ok rfl) rfl (fun p hp => ?_)
    subst hp
    refine PL.run 1 rfl ?_
    refine PL.nil ?_
    refine PW.seq ?_
    refine PW.seq ?_
    refine PW.region ?_
    refine PL.run 2 rfl ?_
    refine PL.val (OpV.neqT rfl rfl rfl rfl rfl) (wantV_ok rfl) rfl ?_
    refine PL.nil ?_
    refine PW.cond rfl (fun h2 => ?_) (fun h2 => ?_)
    ·
      simp at h2
    ·
      refine PW.skip ?_
      refine PW.seq ?_
      refine PW.seq ?_
      refine PW.drawn ((some 22, _) :: (some 23, _) :: (some 24, _) :: (some 25, _) :: (some 26, _) :: []) (0 :: 0 :: 2 :: 7 :: 15 :: []) (fun _ => _) mixed rfl rfl rfl rfl rfl
        (.cons rfl (fun ρ => PL.run 1 rfl (PL.nil rfl)) <|
        .cons rfl (fun ρ => PL.run 1 rfl (PL.nil rfl)) <|
        .cons rfl (fun ρ => PL.call rfl rfl rfl (laws_toWorld_spec w hf) (.cons (.refl _) <| .nil) (fun p hp => by subst hp; rfl) (wantV_ok rfl) rfl (fun p hp => by subst hp; exact PL.nil rfl)) <|
        .cons rfl (fun ρ => PL.call rfl rfl rfl (laws_eqWorld_spec w hf) (.cons (.refl _) <| .cons (.refl _) <| .nil) (fun p hp => by subst hp; rfl) (wantV_ok rfl) rfl (fun p hp => by subst hp; exact PL.nil rfl)) <|
        .cons rfl (fun ρ => PL.run 1 rfl (PL.nil rfl)) <|
        .nil _) ?_
      refine PW.cond rfl (fun h3 => ?_) (fun h3 => ?_)
      ·
        simp at h3
      ·
        refine PW.skip ?_
        refine PW.seq ?_
        refine PW.region ?_
        refine PL.run 1 rfl ?_
        refine PL.nil ?_
        refine PW.ret ?_
        refine RetOk.free rfl rfl rfl
end Go.Wl
