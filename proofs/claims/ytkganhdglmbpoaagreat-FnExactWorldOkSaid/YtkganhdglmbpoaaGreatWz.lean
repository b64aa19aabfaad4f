/- The walks: the law's copies. -/
import Derived.Test.YtkganhdglmbpoaaGreatWy
set_option linter.unusedVariables false
set_option linter.unusedSimpArgs false
set_option maxRecDepth 100000
set_option maxHeartbeats 4000000
namespace Go.Wl
open Go Go.RowKit Go.Pw Go.Proofs
/-- A made row that is filled from the left. -/
def fillC (z : List PV) (es : List (List PV)) (i : Nat) : List PV := (es.take i).flatten ++ (List.replicate (es.length - i) z).flatten
theorem fillC_len {z : List PV} {es : List (List PV)} {i sz : Nat} (hz : ∀ e ∈ es, e.length = sz) (h0 : z.length = sz) (hi : i ≤ es.length) : (fillC z es i).length = es.length * sz := by
  rw [fillC, List.length_append, flat_len (sz := sz) (fun e he => hz e (List.mem_of_mem_take he)), flat_len (sz := sz) (fun e he => by rw [List.eq_of_mem_replicate he]; exact h0), List.length_take, List.length_replicate, ← Nat.add_mul]
  congr 1; omega
theorem fillC_step {z : List PV} {es : List (List PV)} {i sz off : Nat} {e : List PV} (hz : ∀ e ∈ es, e.length = sz) (h0 : z.length = sz) (he : es[i]? = some e) (ho : off = i * sz) : writeC (fillC z es i) off e = fillC z es (i + 1) := by
  have h := (List.getElem?_eq_some_iff.1 he).1
  have e1 : List.replicate (es.length - i) z = z :: List.replicate (es.length - (i + 1)) z := by
    rw [← List.replicate_succ]; congr 1; omega
  rw [fillC, e1, List.flatten_cons, writeC_mid (by rw [flat_len (sz := sz) (fun e he => hz e (List.mem_of_mem_take he)), List.length_take, ho, Nat.min_eq_left (Nat.le_of_lt h)]) (by rw [h0, hz e (List.mem_of_getElem? he)]), fillC, take_step he, List.flatten_append]
  simp
theorem fillC_free {z : List PV} {es : List (List PV)} {i : Nat} (hz : ∀ e ∈ es, freeL e = true) (h0 : freeL z = true) : freeL (fillC z es i) = true := by
  rw [freeL_iff]
  intro p hp
  rcases List.mem_append.1 hp with hp | hp
  · obtain ⟨e, he, hp⟩ := List.mem_flatten.1 hp
    exact freeL_iff.1 (hz e (List.mem_of_mem_take he)) p hp
  · obtain ⟨e, he, hp⟩ := List.mem_flatten.1 hp
    rw [List.eq_of_mem_replicate he] at hp
    exact freeL_iff.1 h0 p hp
theorem fillC_end {z : List PV} {es : List (List PV)} {i : Nat} (h : i = es.length) : fillC z es i = es.flatten ++ [] := by
  subst h; simp [fillC]
theorem fillC_zero {z : List PV} {es : List (List PV)} {j : TI} {n : Nat} (hj : j.zero.cells.toList.map PV.lit = z) (hn : n = es.length) : zrow j n = fillC z es 0 := by
  subst hn hj; simp [fillC, zrow]
theorem row_len {α : Type} {f : α → List PV} {sz : Nat} (h : ∀ x, (f x).length = sz) (l : List α) : ∀ e ∈ l.map f, e.length = sz := fun e he => by
  obtain ⟨b, _, rfl⟩ := List.mem_map.1 he; exact h b
theorem row_free {α : Type} {f : α → List PV} (h : ∀ x, freeL (f x) = true) (l : List α) : ∀ e ∈ l.map f, freeL e = true := fun e he => by
  obtain ⟨b, _, rfl⟩ := List.mem_map.1 he; exact h b
theorem mul_toNat {i sz : Nat} : 0 + ((i : Nat) : Int).toNat * sz = i * sz := by rw [Int.toNat_natCast, Nat.zero_add]
theorem off_le {i n sz : Nat} (h : i < n) : i * sz + sz ≤ n * sz := by
  rw [← Nat.succ_mul]; exact Nat.mul_le_mul_right _ h
structure FewL {α : Type} (P : α → Prop) (l : List α) : Prop where
  len : l.length ≤ 1048576
  all : ∀ (i : Nat) (x : α), l[i]? = some x → P x
abbrev FewB (b : List UInt8) : Prop := b.length ≤ 1048576
def FewI (x : Item) : Prop := FewB x.bytes
structure FewP (p : Post) : Prop where
  q : FewL FewI p.queue
  b : FewB p.book
structure FewR (r : Reader) : Prop where
  s : FewB r.seed
  seen : FewL FewB r.seen
  got : FewL FewB r.got
structure FewW (w : Wire) : Prop where
  i : FewI w.item
  b : FewB w.bytes
structure FewS (s : Sent) : Prop where
  n : FewB s.note
  b : FewB s.bytes
structure FewE (w : Earth) : Prop where
  seed : FewB w.seed
  p : FewP w.post
  r : FewR w.reader
  n : FewL FewW w.net
  s : FewL FewS w.sent
/- laws.toByteS -/
theorem laws_toByteS_spec (q : List UInt8) (hb : FewB q) : Pw.Spec Tryz.prog 17 [eBs q] (fun res_ => res_ = eBs q) := by
  refine spec_of (n := 22) Tryz.call17 Tryz.func17 rfl rfl (by simp) rfl rfl fun W Z => ?_
  have hll : (q.map eb).length = q.length := List.length_map ..
  have hql := hb
  have hrl : ∀ x, (eb x).length = 1 := fun x => rfl
  have hrf : ∀ x, freeL (eb x) = true := fun x => rfl
  refine PW.seq ?_
  refine PW.region ?_
  refine PL.run 1 rfl ?_
  refine PL.nil ?_
  refine PW.seq ?_
  refine PW.region ?_
  refine PL.run 2 rfl ?_
  refine PL.make rfl rfl rfl rfl rfl rfl rfl rfl rfl (by simp <;> omega) (by simp <;> omega) rfl (wantV_ok rfl) rfl ?_
  refine PL.run 1 rfl ?_
  refine PL.nil ?_
  refine PW.seq ?_
  refine PW.seq ?_
  refine PW.region ?_
  refine PL.run 1 rfl ?_
  refine PL.nil ?_
  refine PW.block ?_
  refine PW.loopAt (α := Nat) (fun i => ⟨[(3, .bs 7 0 (q.map eb).length (q.map eb).length), (0, eBs q), (4, eI (i : Int))], ⟨[(7, (5, fillC [.lit (.int .u8 0)] (q.map eb) i))], []⟩⟩) (fun i => i ≤ q.length) (fun i => q.length - i) 0 (Le.boxes ⟨⟨congrArg (fun c => some (_, c)) (fillC_zero rfl rfl), fillC_free (row_free hrf q) rfl⟩, trivial⟩ ⟨⟨rfl, rfl⟩, ⟨rfl, rfl⟩, ⟨rfl, rfl⟩, trivial⟩) (Nat.zero_le _) (fun i hi => ?_)
  refine PW.seq ?_
  refine PW.seq ?_
  refine PW.region ?_
  refine PL.run 4 rfl ?_
  refine PL.nil ?_
  refine PW.cond rfl (fun h1 => ?_) (fun h1 => ?_)
  ·
    have hlt : i < q.length := by simpa using h1
    clear h1
    obtain ⟨x, hx⟩ : ∃ y, q[i]? = some y := ⟨_, List.getElem?_eq_getElem hlt⟩
    have hup : some (PV.lit (.int .i64 (IntKind.i64.wrap ((i : Int) + 1)))) = some (PV.lit (.int .i64 ((i + 1 : Nat) : Int))) := inc_ok (by omega)
    refine PW.skip ?_
    refine PW.seq ?_
    refine PW.block ?_
    refine PW.region ?_
    refine PL.run 4 rfl ?_
    refine PL.val (OpV.idx rfl rfl rfl (nat_nonneg i) (map_at' hx) rfl rfl rfl rfl) (wantV_ok rfl) rfl ?_
    refine PL.run 1 rfl ?_
    refine PL.val (OpV.idxB rfl rfl rfl (nat_nonneg i) (by rw [Int.toNat_natCast, hll]; exact hlt) rfl rfl rfl) (wantV_ok rfl) rfl ?_
    refine PL.store rfl rfl rfl rfl rfl rfl rfl (by rw [fillC_len (row_len hrl q) rfl (by rw [hll]; exact hi), hll]; show 0 + ((i : Nat) : Int).toNat * 1 + 1 ≤ q.length * 1; rw [mul_toNat]; exact off_le hlt) rfl (wantV_ok rfl) ?_
    refine PL.nil ?_
    refine PW.region ?_
    refine PL.run 3 rfl ?_
    refine PL.nil ?_
    refine ⟨i + 1, Le.boxes ⟨⟨congrArg (fun c => some (_, c)) (fillC_step (row_len hrl q) rfl (map_at' hx) mul_toNat), fillC_free (row_free hrf q) rfl⟩, trivial⟩ ⟨⟨rfl, rfl⟩, ⟨rfl, rfl⟩, ⟨hup, rfl⟩, trivial⟩, hlt, by omega⟩
  ·
    have hge : i = q.length := Nat.le_antisymm hi (by simpa using h1)
    refine PW.exit ?_
    refine PW.seq ?_
    refine PW.region ?_
    refine PL.run 2 rfl ?_
    refine PL.nil ?_
    refine PW.le (Le.freezeS (tv := 2) (sz := 1) (es := q.map eb) (r := []) (e := []) rfl rfl (fillC_free (row_free hrf q) rfl) (fillC_end (by rw [hll]; exact hge)) rfl (row_len hrl q) (Nat.le_refl _)) ?_
    refine PW.ret ?_
    refine RetOk.free rfl rfl rfl
/- laws.toItem -/
theorem laws_toItem_spec (x : Item) (hb : FewI x) : Pw.Spec Tryz.prog 119 [.agg (eItem x)] (fun res_ => res_ = .agg (eItem x)) := by
  refine spec_of (n := 18) Tryz.call119 Tryz.func119 rfl rfl (by simp) rfl rfl fun W Z => ?_
  refine PW.seq ?_
  refine PW.region ?_
  refine PL.run 2 rfl ?_
  refine PL.nil ?_
  refine PW.seq ?_
  refine PW.region ?_
  refine PL.run 1 rfl ?_
  refine PL.nil ?_
  refine PW.seq ?_
  refine PW.region ?_
  refine PL.run 4 rfl ?_
  refine PL.nil ?_
  refine PW.seq ?_
  refine PW.region ?_
  refine PL.run 4 rfl ?_
  refine PL.nil ?_
  refine PW.seq ?_
  refine PW.region ?_
  refine PL.run 4 rfl ?_
  refine PL.nil ?_
  refine PW.seq ?_
  refine PW.region ?_
  refine PL.run 2 rfl ?_
  refine PL.call rfl rfl rfl (laws_toByteS_spec x.bytes hb) (.cons (.refl _) <| .nil) (fun p hp => by subst hp; rfl) (wantV_ok rfl) rfl (fun p hp => ?_)
  subst hp
  refine PL.run 2 rfl ?_
  refine PL.nil ?_
  refine PW.seq ?_
  refine PW.region ?_
  refine PL.run 2 rfl ?_
  refine PL.nil ?_
  refine PW.ret ?_
  refine RetOk.free rfl rfl rfl
/- laws.toItemS -/
theorem laws_toItemS_spec (q : List Item) (hb : FewL FewI q) : Pw.Spec Tryz.prog 85 [eItems q] (fun res_ => res_ = eItems q) := by
  refine spec_of (n := 23) Tryz.call85 Tryz.func85 rfl rfl (by simp) rfl rfl fun W Z => ?_
  have hll : (q.map eItem).length = q.length := List.length_map ..
  have hql := hb.len
  have hrl : ∀ x, (eItem x).length = 4 := fun x => rfl
  have hrf : ∀ x, freeL (eItem x) = true := fun x => rfl
  refine PW.seq ?_
  refine PW.region ?_
  refine PL.run 1 rfl ?_
  refine PL.nil ?_
  refine PW.seq ?_
  refine PW.region ?_
  refine PL.run 2 rfl ?_
  refine PL.make rfl rfl rfl rfl rfl rfl rfl rfl rfl (by simp <;> omega) (by simp <;> omega) rfl (wantV_ok rfl) rfl ?_
  refine PL.run 1 rfl ?_
  refine PL.nil ?_
  refine PW.seq ?_
  refine PW.seq ?_
  refine PW.region ?_
  refine PL.run 1 rfl ?_
  refine PL.nil ?_
  refine PW.block ?_
  refine PW.loopAt (α := Nat) (fun i => ⟨[(3, .bs 7 0 (q.map eItem).length (q.map eItem).length), (0, eItems q), (4, eI (i : Int))], ⟨[(7, (64, fillC [.lit (.string ByteArray.empty), .lit (.int .i64 0), .lit (.int .i64 0), .lit (.slice none 0 0)] (q.map eItem) i))], []⟩⟩) (fun i => i ≤ q.length) (fun i => q.length - i) 0 (Le.boxes ⟨⟨congrArg (fun c => some (_, c)) (fillC_zero rfl rfl), fillC_free (row_free hrf q) rfl⟩, trivial⟩ ⟨⟨rfl, rfl⟩, ⟨rfl, rfl⟩, ⟨rfl, rfl⟩, trivial⟩) (Nat.zero_le _) (fun i hi => ?_)
  refine PW.seq ?_
  refine PW.seq ?_
  refine PW.region ?_
  refine PL.run 4 rfl ?_
  refine PL.nil ?_
  refine PW.cond rfl (fun h1 => ?_) (fun h1 => ?_)
  ·
    have hlt : i < q.length := by simpa using h1
    clear h1
    obtain ⟨x, hx⟩ : ∃ y, q[i]? = some y := ⟨_, List.getElem?_eq_getElem hlt⟩
    have hup : some (PV.lit (.int .i64 (IntKind.i64.wrap ((i : Int) + 1)))) = some (PV.lit (.int .i64 ((i + 1 : Nat) : Int))) := inc_ok (by omega)
    refine PW.skip ?_
    refine PW.seq ?_
    refine PW.block ?_
    refine PW.region ?_
    refine PL.run 4 rfl ?_
    refine PL.val (OpV.idx rfl rfl rfl (nat_nonneg i) (map_at' hx) rfl rfl rfl rfl) (wantV_ok rfl) rfl ?_
    refine PL.run 1 rfl ?_
    refine PL.call rfl rfl rfl (laws_toItem_spec x (hb.all i x hx)) (.cons (.refl _) <| .nil) (fun p hp => by subst hp; rfl) (wantV_ok rfl) rfl (fun p hp => ?_)
    subst hp
    refine PL.val (OpV.idxB rfl rfl rfl (nat_nonneg i) (by rw [Int.toNat_natCast, hll]; exact hlt) rfl rfl rfl) (wantV_ok rfl) rfl ?_
    refine PL.store rfl rfl rfl rfl rfl rfl rfl (by rw [fillC_len (row_len hrl q) rfl (by rw [hll]; exact hi), hll]; show 0 + ((i : Nat) : Int).toNat * 4 + 4 ≤ q.length * 4; rw [mul_toNat]; exact off_le hlt) rfl (wantV_ok rfl) ?_
    refine PL.nil ?_
    refine PW.region ?_
    refine PL.run 3 rfl ?_
    refine PL.nil ?_
    refine ⟨i + 1, Le.boxes ⟨⟨congrArg (fun c => some (_, c)) (fillC_step (row_len hrl q) rfl (map_at' hx) mul_toNat), fillC_free (row_free hrf q) rfl⟩, trivial⟩ ⟨⟨rfl, rfl⟩, ⟨rfl, rfl⟩, ⟨hup, rfl⟩, trivial⟩, hlt, by omega⟩
  ·
    have hge : i = q.length := Nat.le_antisymm hi (by simpa using h1)
    refine PW.exit ?_
    refine PW.seq ?_
    refine PW.region ?_
    refine PL.run 2 rfl ?_
    refine PL.nil ?_
    refine PW.le (Le.freezeS (tv := 2) (sz := 4) (es := q.map eItem) (r := []) (e := []) rfl rfl (fillC_free (row_free hrf q) rfl) (fillC_end (by rw [hll]; exact hge)) rfl (row_len hrl q) (Nat.le_refl _)) ?_
    refine PW.ret ?_
    refine RetOk.free rfl rfl rfl
/- laws.toPost -/
theorem laws_toPost_spec (p : Post) (hb : FewP p) : Pw.Spec Tryz.prog 39 [.agg (ePost p)] (fun res_ => res_ = .agg (ePost p)) := by
  refine spec_of (n := 19) Tryz.call39 Tryz.func39 rfl rfl (by simp) rfl rfl fun W Z => ?_
  refine PW.seq ?_
  refine PW.region ?_
  refine PL.run 2 rfl ?_
  refine PL.nil ?_
  refine PW.seq ?_
  refine PW.region ?_
  refine PL.run 1 rfl ?_
  refine PL.nil ?_
  refine PW.seq ?_
  refine PW.region ?_
  refine PL.run 2 rfl ?_
  refine PL.call rfl rfl rfl (laws_toItemS_spec p.queue hb.q) (.cons (.refl _) <| .nil) (fun p hp => by subst hp; rfl) (wantV_ok rfl) rfl (fun p hp => ?_)
  subst hp
  refine PL.run 2 rfl ?_
  refine PL.nil ?_
  refine PW.seq ?_
  refine PW.region ?_
  refine PL.run 4 rfl ?_
  refine PL.nil ?_
  refine PW.seq ?_
  refine PW.region ?_
  refine PL.run 2 rfl ?_
  refine PL.call rfl rfl rfl (laws_toByteS_spec p.book hb.b) (.cons (.refl _) <| .nil) (fun p hp => by subst hp; rfl) (wantV_ok rfl) rfl (fun p hp => ?_)
  subst hp
  refine PL.run 2 rfl ?_
  refine PL.nil ?_
  refine PW.seq ?_
  refine PW.region ?_
  refine PL.run 4 rfl ?_
  refine PL.nil ?_
  refine PW.seq ?_
  refine PW.region ?_
  refine PL.run 2 rfl ?_
  refine PL.nil ?_
  refine PW.ret ?_
  refine RetOk.free rfl rfl rfl
/- laws.toByteSS -/
theorem laws_toByteSS_spec (q : List (List UInt8)) (hb : FewL FewB q) : Pw.Spec Tryz.prog 86 [eBss q] (fun res_ => res_ = eBss q) := by
  refine spec_of (n := 23) Tryz.call86 Tryz.func86 rfl rfl (by simp) rfl rfl fun W Z => ?_
  have hll : (q.map eBss1).length = q.length := List.length_map ..
  have hql := hb.len
  have hrl : ∀ x, (eBss1 x).length = 1 := fun x => rfl
  have hrf : ∀ x, freeL (eBss1 x) = true := fun x => rfl
  refine PW.seq ?_
  refine PW.region ?_
  refine PL.run 1 rfl ?_
  refine PL.nil ?_
  refine PW.seq ?_
  refine PW.region ?_
  refine PL.run 2 rfl ?_
  refine PL.make rfl rfl rfl rfl rfl rfl rfl rfl rfl (by simp <;> omega) (by simp <;> omega) rfl (wantV_ok rfl) rfl ?_
  refine PL.run 1 rfl ?_
  refine PL.nil ?_
  refine PW.seq ?_
  refine PW.seq ?_
  refine PW.region ?_
  refine PL.run 1 rfl ?_
  refine PL.nil ?_
  refine PW.block ?_
  refine PW.loopAt (α := Nat) (fun i => ⟨[(3, .bs 7 0 (q.map eBss1).length (q.map eBss1).length), (0, eBss q), (4, eI (i : Int))], ⟨[(7, (22, fillC [.lit (.slice none 0 0)] (q.map eBss1) i))], []⟩⟩) (fun i => i ≤ q.length) (fun i => q.length - i) 0 (Le.boxes ⟨⟨congrArg (fun c => some (_, c)) (fillC_zero rfl rfl), fillC_free (row_free hrf q) rfl⟩, trivial⟩ ⟨⟨rfl, rfl⟩, ⟨rfl, rfl⟩, ⟨rfl, rfl⟩, trivial⟩) (Nat.zero_le _) (fun i hi => ?_)
  refine PW.seq ?_
  refine PW.seq ?_
  refine PW.region ?_
  refine PL.run 4 rfl ?_
  refine PL.nil ?_
  refine PW.cond rfl (fun h1 => ?_) (fun h1 => ?_)
  ·
    have hlt : i < q.length := by simpa using h1
    clear h1
    obtain ⟨x, hx⟩ : ∃ y, q[i]? = some y := ⟨_, List.getElem?_eq_getElem hlt⟩
    have hup : some (PV.lit (.int .i64 (IntKind.i64.wrap ((i : Int) + 1)))) = some (PV.lit (.int .i64 ((i + 1 : Nat) : Int))) := inc_ok (by omega)
    refine PW.skip ?_
    refine PW.seq ?_
    refine PW.block ?_
    refine PW.region ?_
    refine PL.run 4 rfl ?_
    refine PL.val (OpV.idx rfl rfl rfl (nat_nonneg i) (map_at' hx) rfl rfl rfl rfl) (wantV_ok rfl) rfl ?_
    refine PL.run 1 rfl ?_
    refine PL.call rfl rfl rfl (laws_toByteS_spec x (hb.all i x hx)) (.cons (.refl _) <| .nil) (fun p hp => by subst hp; rfl) (wantV_ok rfl) rfl (fun p hp => ?_)
    subst hp
    refine PL.val (OpV.idxB rfl rfl rfl (nat_nonneg i) (by rw [Int.toNat_natCast, hll]; exact hlt) rfl rfl rfl) (wantV_ok rfl) rfl ?_
    refine PL.store rfl rfl rfl rfl rfl rfl rfl (by rw [fillC_len (row_len hrl q) rfl (by rw [hll]; exact hi), hll]; show 0 + ((i : Nat) : Int).toNat * 1 + 1 ≤ q.length * 1; rw [mul_toNat]; exact off_le hlt) rfl (wantV_ok rfl) ?_
    refine PL.nil ?_
    refine PW.region ?_
    refine PL.run 3 rfl ?_
    refine PL.nil ?_
    refine ⟨i + 1, Le.boxes ⟨⟨congrArg (fun c => some (_, c)) (fillC_step (row_len hrl q) rfl (map_at' hx) mul_toNat), fillC_free (row_free hrf q) rfl⟩, trivial⟩ ⟨⟨rfl, rfl⟩, ⟨rfl, rfl⟩, ⟨hup, rfl⟩, trivial⟩, hlt, by omega⟩
  ·
    have hge : i = q.length := Nat.le_antisymm hi (by simpa using h1)
    refine PW.exit ?_
    refine PW.seq ?_
    refine PW.region ?_
    refine PL.run 2 rfl ?_
    refine PL.nil ?_
    refine PW.le (Le.freezeS (tv := 2) (sz := 1) (es := q.map eBss1) (r := []) (e := []) rfl rfl (fillC_free (row_free hrf q) rfl) (fillC_end (by rw [hll]; exact hge)) rfl (row_len hrl q) (Nat.le_refl _)) ?_
    refine PW.ret ?_
    refine RetOk.free rfl rfl rfl
/- laws.toReader -/
theorem laws_toReader_spec (r : Reader) (hb : FewR r) : Pw.Spec Tryz.prog 40 [.agg (eReader r)] (fun res_ => res_ = .agg (eReader r)) := by
  refine spec_of (n := 20) Tryz.call40 Tryz.func40 rfl rfl (by simp) rfl rfl fun W Z => ?_
  refine PW.seq ?_
  refine PW.region ?_
  refine PL.run 2 rfl ?_
  refine PL.nil ?_
  refine PW.seq ?_
  refine PW.region ?_
  refine PL.run 1 rfl ?_
  refine PL.nil ?_
  refine PW.seq ?_
  refine PW.region ?_
  refine PL.run 2 rfl ?_
  refine PL.call rfl rfl rfl (laws_toByteS_spec r.seed hb.s) (.cons (.refl _) <| .nil) (fun p hp => by subst hp; rfl) (wantV_ok rfl) rfl (fun p hp => ?_)
  subst hp
  refine PL.run 2 rfl ?_
  refine PL.nil ?_
  refine PW.seq ?_
  refine PW.region ?_
  refine PL.run 4 rfl ?_
  refine PL.nil ?_
  refine PW.seq ?_
  refine PW.region ?_
  refine PL.run 2 rfl ?_
  refine PL.call rfl rfl rfl (laws_toByteSS_spec r.seen hb.seen) (.cons (.refl _) <| .nil) (fun p hp => by subst hp; rfl) (wantV_ok rfl) rfl (fun p hp => ?_)
  subst hp
  refine PL.run 2 rfl ?_
  refine PL.nil ?_
  refine PW.seq ?_
  refine PW.region ?_
  refine PL.run 2 rfl ?_
  refine PL.call rfl rfl rfl (laws_toByteSS_spec r.got hb.got) (.cons (.refl _) <| .nil) (fun p hp => by subst hp; rfl) (wantV_ok rfl) rfl (fun p hp => ?_)
  subst hp
  refine PL.run 2 rfl ?_
  refine PL.nil ?_
  refine PW.seq ?_
  refine PW.region ?_
  refine PL.run 2 rfl ?_
  refine PL.nil ?_
  refine PW.ret ?_
  refine RetOk.free rfl rfl rfl
/- laws.toWire -/
theorem laws_toWire_spec (w : Wire) (hb : FewW w) : Pw.Spec Tryz.prog 87 [.agg (eWire w)] (fun res_ => res_ = .agg (eWire w)) := by
  refine spec_of (n := 16) Tryz.call87 Tryz.func87 rfl rfl (by simp) rfl rfl fun W Z => ?_
  refine PW.seq ?_
  refine PW.region ?_
  refine PL.run 2 rfl ?_
  refine PL.nil ?_
  refine PW.seq ?_
  refine PW.region ?_
  refine PL.run 1 rfl ?_
  refine PL.nil ?_
  refine PW.seq ?_
  refine PW.region ?_
  refine PL.run 4 rfl ?_
  refine PL.nil ?_
  refine PW.seq ?_
  refine PW.region ?_
  refine PL.run 2 rfl ?_
  refine PL.call rfl rfl rfl (laws_toItem_spec w.item hb.i) (.cons (.refl _) <| .nil) (fun p hp => by subst hp; rfl) (wantV_ok rfl) rfl (fun p hp => ?_)
  subst hp
  refine PL.run 2 rfl ?_
  refine PL.nil ?_
  refine PW.seq ?_
  refine PW.region ?_
  refine PL.run 2 rfl ?_
  refine PL.call rfl rfl rfl (laws_toByteS_spec w.bytes hb.b) (.cons (.refl _) <| .nil) (fun p hp => by subst hp; rfl) (wantV_ok rfl) rfl (fun p hp => ?_)
  subst hp
  refine PL.run 2 rfl ?_
  refine PL.nil ?_
  refine PW.seq ?_
  refine PW.region ?_
  refine PL.run 2 rfl ?_
  refine PL.nil ?_
  refine PW.ret ?_
  refine RetOk.free rfl rfl rfl
/- laws.toWireS -/
theorem laws_toWireS_spec (q : List Wire) (hb : FewL FewW q) : Pw.Spec Tryz.prog 41 [eWires q] (fun res_ => res_ = eWires q) := by
  refine spec_of (n := 23) Tryz.call41 Tryz.func41 rfl rfl (by simp) rfl rfl fun W Z => ?_
  have hll : (q.map eWire).length = q.length := List.length_map ..
  have hql := hb.len
  have hrl : ∀ x, (eWire x).length = 6 := fun x => rfl
  have hrf : ∀ x, freeL (eWire x) = true := fun x => rfl
  refine PW.seq ?_
  refine PW.region ?_
  refine PL.run 1 rfl ?_
  refine PL.nil ?_
  refine PW.seq ?_
  refine PW.region ?_
  refine PL.run 2 rfl ?_
  refine PL.make rfl rfl rfl rfl rfl rfl rfl rfl rfl (by simp <;> omega) (by simp <;> omega) rfl (wantV_ok rfl) rfl ?_
  refine PL.run 1 rfl ?_
  refine PL.nil ?_
  refine PW.seq ?_
  refine PW.seq ?_
  refine PW.region ?_
  refine PL.run 1 rfl ?_
  refine PL.nil ?_
  refine PW.block ?_
  refine PW.loopAt (α := Nat) (fun i => ⟨[(3, .bs 7 0 (q.map eWire).length (q.map eWire).length), (0, eWires q), (4, eI (i : Int))], ⟨[(7, (71, fillC [.lit (.bool false), .lit (.string ByteArray.empty), .lit (.int .i64 0), .lit (.int .i64 0), .lit (.slice none 0 0), .lit (.slice none 0 0)] (q.map eWire) i))], []⟩⟩) (fun i => i ≤ q.length) (fun i => q.length - i) 0 (Le.boxes ⟨⟨congrArg (fun c => some (_, c)) (fillC_zero rfl rfl), fillC_free (row_free hrf q) rfl⟩, trivial⟩ ⟨⟨rfl, rfl⟩, ⟨rfl, rfl⟩, ⟨rfl, rfl⟩, trivial⟩) (Nat.zero_le _) (fun i hi => ?_)
  refine PW.seq ?_
  refine PW.seq ?_
  refine PW.region ?_
  refine PL.run 4 rfl ?_
  refine PL.nil ?_
  refine PW.cond rfl (fun h1 => ?_) (fun h1 => ?_)
  ·
    have hlt : i < q.length := by simpa using h1
    clear h1
    obtain ⟨x, hx⟩ : ∃ y, q[i]? = some y := ⟨_, List.getElem?_eq_getElem hlt⟩
    have hup : some (PV.lit (.int .i64 (IntKind.i64.wrap ((i : Int) + 1)))) = some (PV.lit (.int .i64 ((i + 1 : Nat) : Int))) := inc_ok (by omega)
    refine PW.skip ?_
    refine PW.seq ?_
    refine PW.block ?_
    refine PW.region ?_
    refine PL.run 4 rfl ?_
    refine PL.val (OpV.idx rfl rfl rfl (nat_nonneg i) (map_at' hx) rfl rfl rfl rfl) (wantV_ok rfl) rfl ?_
    refine PL.run 1 rfl ?_
    refine PL.call rfl rfl rfl (laws_toWire_spec x (hb.all i x hx)) (.cons (.refl _) <| .nil) (fun p hp => by subst hp; rfl) (wantV_ok rfl) rfl (fun p hp => ?_)
    subst hp
    refine PL.val (OpV.idxB rfl rfl rfl (nat_nonneg i) (by rw [Int.toNat_natCast, hll]; exact hlt) rfl rfl rfl) (wantV_ok rfl) rfl ?_
    refine PL.store rfl rfl rfl rfl rfl rfl rfl (by rw [fillC_len (row_len hrl q) rfl (by rw [hll]; exact hi), hll]; show 0 + ((i : Nat) : Int).toNat * 6 + 6 ≤ q.length * 6; rw [mul_toNat]; exact off_le hlt) rfl (wantV_ok rfl) ?_
    refine PL.nil ?_
    refine PW.region ?_
    refine PL.run 3 rfl ?_
    refine PL.nil ?_
    refine ⟨i + 1, Le.boxes ⟨⟨congrArg (fun c => some (_, c)) (fillC_step (row_len hrl q) rfl (map_at' hx) mul_toNat), fillC_free (row_free hrf q) rfl⟩, trivial⟩ ⟨⟨rfl, rfl⟩, ⟨rfl, rfl⟩, ⟨hup, rfl⟩, trivial⟩, hlt, by omega⟩
  ·
    have hge : i = q.length := Nat.le_antisymm hi (by simpa using h1)
    refine PW.exit ?_
    refine PW.seq ?_
    refine PW.region ?_
    refine PL.run 2 rfl ?_
    refine PL.nil ?_
    refine PW.le (Le.freezeS (tv := 2) (sz := 6) (es := q.map eWire) (r := []) (e := []) rfl rfl (fillC_free (row_free hrf q) rfl) (fillC_end (by rw [hll]; exact hge)) rfl (row_len hrl q) (Nat.le_refl _)) ?_
    refine PW.ret ?_
    refine RetOk.free rfl rfl rfl
/- laws.toSent -/
theorem laws_toSent_spec (x : Sent) (hb : FewS x) : Pw.Spec Tryz.prog 88 [.agg (eSent x)] (fun res_ => res_ = .agg (eSent x)) := by
  refine spec_of (n := 19) Tryz.call88 Tryz.func88 rfl rfl (by simp) rfl rfl fun W Z => ?_
  refine PW.seq ?_
  refine PW.region ?_
  refine PL.run 2 rfl ?_
  refine PL.nil ?_
  refine PW.seq ?_
  refine PW.region ?_
  refine PL.run 1 rfl ?_
  refine PL.nil ?_
  refine PW.seq ?_
  refine PW.region ?_
  refine PL.run 4 rfl ?_
  refine PL.nil ?_
  refine PW.seq ?_
  refine PW.region ?_
  refine PL.run 4 rfl ?_
  refine PL.nil ?_
  refine PW.seq ?_
  refine PW.region ?_
  refine PL.run 2 rfl ?_
  refine PL.call rfl rfl rfl (laws_toByteS_spec x.note hb.n) (.cons (.refl _) <| .nil) (fun p hp => by subst hp; rfl) (wantV_ok rfl) rfl (fun p hp => ?_)
  subst hp
  refine PL.run 2 rfl ?_
  refine PL.nil ?_
  refine PW.seq ?_
  refine PW.region ?_
  refine PL.run 2 rfl ?_
  refine PL.call rfl rfl rfl (laws_toByteS_spec x.bytes hb.b) (.cons (.refl _) <| .nil) (fun p hp => by subst hp; rfl) (wantV_ok rfl) rfl (fun p hp => ?_)
  subst hp
  refine PL.run 2 rfl ?_
  refine PL.nil ?_
  refine PW.seq ?_
  refine PW.region ?_
  refine PL.run 2 rfl ?_
  refine PL.nil ?_
  refine PW.ret ?_
  refine RetOk.free rfl rfl rfl
/- laws.toSentS -/
theorem laws_toSentS_spec (q : List Sent) (hb : FewL FewS q) : Pw.Spec Tryz.prog 42 [eSents q] (fun res_ => res_ = eSents q) := by
  refine spec_of (n := 23) Tryz.call42 Tryz.func42 rfl rfl (by simp) rfl rfl fun W Z => ?_
  have hll : (q.map eSent).length = q.length := List.length_map ..
  have hql := hb.len
  have hrl : ∀ x, (eSent x).length = 4 := fun x => rfl
  have hrf : ∀ x, freeL (eSent x) = true := fun x => rfl
  refine PW.seq ?_
  refine PW.region ?_
  refine PL.run 1 rfl ?_
  refine PL.nil ?_
  refine PW.seq ?_
  refine PW.region ?_
  refine PL.run 2 rfl ?_
  refine PL.make rfl rfl rfl rfl rfl rfl rfl rfl rfl (by simp <;> omega) (by simp <;> omega) rfl (wantV_ok rfl) rfl ?_
  refine PL.run 1 rfl ?_
  refine PL.nil ?_
  refine PW.seq ?_
  refine PW.seq ?_
  refine PW.region ?_
  refine PL.run 1 rfl ?_
  refine PL.nil ?_
  refine PW.block ?_
  refine PW.loopAt (α := Nat) (fun i => ⟨[(3, .bs 7 0 (q.map eSent).length (q.map eSent).length), (0, eSents q), (4, eI (i : Int))], ⟨[(7, (61, fillC [.lit (.string ByteArray.empty), .lit (.int .i64 0), .lit (.slice none 0 0), .lit (.slice none 0 0)] (q.map eSent) i))], []⟩⟩) (fun i => i ≤ q.length) (fun i => q.length - i) 0 (Le.boxes ⟨⟨congrArg (fun c => some (_, c)) (fillC_zero rfl rfl), fillC_free (row_free hrf q) rfl⟩, trivial⟩ ⟨⟨rfl, rfl⟩, ⟨rfl, rfl⟩, ⟨rfl, rfl⟩, trivial⟩) (Nat.zero_le _) (fun i hi => ?_)
  refine PW.seq ?_
  refine PW.seq ?_
  refine PW.region ?_
  refine PL.run 4 rfl ?_
  refine PL.nil ?_
  refine PW.cond rfl (fun h1 => ?_) (fun h1 => ?_)
  ·
    have hlt : i < q.length := by simpa using h1
    clear h1
    obtain ⟨x, hx⟩ : ∃ y, q[i]? = some y := ⟨_, List.getElem?_eq_getElem hlt⟩
    have hup : some (PV.lit (.int .i64 (IntKind.i64.wrap ((i : Int) + 1)))) = some (PV.lit (.int .i64 ((i + 1 : Nat) : Int))) := inc_ok (by omega)
    refine PW.skip ?_
    refine PW.seq ?_
    refine PW.block ?_
    refine PW.region ?_
    refine PL.run 4 rfl ?_
    refine PL.val (OpV.idx rfl rfl rfl (nat_nonneg i) (map_at' hx) rfl rfl rfl rfl) (wantV_ok rfl) rfl ?_
    refine PL.run 1 rfl ?_
    refine PL.call rfl rfl rfl (laws_toSent_spec x (hb.all i x hx)) (.cons (.refl _) <| .nil) (fun p hp => by subst hp; rfl) (wantV_ok rfl) rfl (fun p hp => ?_)
    subst hp
    refine PL.val (OpV.idxB rfl rfl rfl (nat_nonneg i) (by rw [Int.toNat_natCast, hll]; exact hlt) rfl rfl rfl) (wantV_ok rfl) rfl ?_
    refine PL.store rfl rfl rfl rfl rfl rfl rfl (by rw [fillC_len (row_len hrl q) rfl (by rw [hll]; exact hi), hll]; show 0 + ((i : Nat) : Int).toNat * 4 + 4 ≤ q.length * 4; rw [mul_toNat]; exact off_le hlt) rfl (wantV_ok rfl) ?_
    refine PL.nil ?_
    refine PW.region ?_
    refine PL.run 3 rfl ?_
    refine PL.nil ?_
    refine ⟨i + 1, Le.boxes ⟨⟨congrArg (fun c => some (_, c)) (fillC_step (row_len hrl q) rfl (map_at' hx) mul_toNat), fillC_free (row_free hrf q) rfl⟩, trivial⟩ ⟨⟨rfl, rfl⟩, ⟨rfl, rfl⟩, ⟨hup, rfl⟩, trivial⟩, hlt, by omega⟩
  ·
    have hge : i = q.length := Nat.le_antisymm hi (by simpa using h1)
    refine PW.exit ?_
    refine PW.seq ?_
    refine PW.region ?_
    refine PL.run 2 rfl ?_
    refine PL.nil ?_
    refine PW.le (Le.freezeS (tv := 2) (sz := 4) (es := q.map eSent) (r := []) (e := []) rfl rfl (fillC_free (row_free hrf q) rfl) (fillC_end (by rw [hll]; exact hge)) rfl (row_len hrl q) (Nat.le_refl _)) ?_
    refine PW.ret ?_
    refine RetOk.free rfl rfl rfl
/- laws.toWorld -/
theorem laws_toWorld_spec (w : Earth) (hb : FewE w) : Pw.Spec Tryz.prog 11 [.agg (eEarth w)] (fun res_ => res_ = .agg (eEarth w)) := by
  refine spec_of (n := 31) Tryz.call11 Tryz.func11 rfl rfl (by simp) rfl rfl fun W Z => ?_
  refine PW.seq ?_
  refine PW.region ?_
  refine PL.run 2 rfl ?_
  refine PL.nil ?_
  refine PW.seq ?_
  refine PW.region ?_
  refine PL.run 1 rfl ?_
  refine PL.nil ?_
  refine PW.seq ?_
  refine PW.region ?_
  refine PL.run 2 rfl ?_
  refine PL.call rfl rfl rfl (laws_toByteS_spec w.seed hb.seed) (.cons (.refl _) <| .nil) (fun p hp => by subst hp; rfl) (wantV_ok rfl) rfl (fun p hp => ?_)
  subst hp
  refine PL.run 2 rfl ?_
  refine PL.nil ?_
  refine PW.seq ?_
  refine PW.region ?_
  refine PL.run 4 rfl ?_
  refine PL.nil ?_
  refine PW.seq ?_
  refine PW.region ?_
  refine PL.run 4 rfl ?_
  refine PL.nil ?_
  refine PW.seq ?_
  refine PW.region ?_
  refine PL.run 2 rfl ?_
  refine PL.call rfl rfl rfl (laws_toPost_spec w.post hb.p) (.cons (.refl _) <| .nil) (fun p hp => by subst hp; rfl) (wantV_ok rfl) rfl (fun p hp => ?_)
  subst hp
  refine PL.run 2 rfl ?_
  refine PL.nil ?_
  refine PW.seq ?_
  refine PW.region ?_
  refine PL.run 2 rfl ?_
  refine PL.call rfl rfl rfl (laws_toReader_spec w.reader hb.r) (.cons (.refl _) <| .nil) (fun p hp => by subst hp; rfl) (wantV_ok rfl) rfl (fun p hp => ?_)
  subst hp
  refine PL.run 2 rfl ?_
  refine PL.nil ?_
  refine PW.seq ?_
  refine PW.region ?_
  refine PL.run 2 rfl ?_
  refine PL.call rfl rfl rfl (laws_toWireS_spec w.net hb.n) (.cons (.refl _) <| .nil) (fun p hp => by subst hp; rfl) (wantV_ok rfl) rfl (fun p hp => ?_)
  subst hp
  refine PL.run 2 rfl ?_
  refine PL.nil ?_
  refine PW.seq ?_
  refine PW.region ?_
  refine PL.run 2 rfl ?_
  refine PL.call rfl rfl rfl (laws_toSentS_spec w.sent hb.s) (.cons (.refl _) <| .nil) (fun p hp => by subst hp; rfl) (wantV_ok rfl) rfl (fun p hp => ?_)
  subst hp
  refine PL.run 2 rfl ?_
  refine PL.nil ?_
  refine PW.seq ?_
  refine PW.region ?_
  refine PL.run 2 rfl ?_
  refine PL.nil ?_
  refine PW.ret ?_
  refine RetOk.free rfl rfl rfl
end Go.Wl
