/- The walks: numbers as text (the library's). The walks: items and worlds as text. The walks: the law of WorldText. The engine, twenty-fifth text: what comes in is opened: the reading of a row's arguments gives pure values. What comes in, opened by its type: an item, a post, a reader, a wire, a sent letter, a world. -/
import Derived.Test.YtggkgabigbdimaaDoorBw3
import Derived.Shelf.Strconv.Itoa3
import Derived.Ground.NamesProg
import Derived.ProofKit
set_option linter.unusedVariables false
set_option linter.unusedSimpArgs false
set_option maxRecDepth 100000
set_option maxHeartbeats 4000000
namespace Go.Proofs
open Go.Shelf
def Tryd.lays171_ren : Go.Shelf.Ren := ⟨fun | 171 => 36 | 243 => 43 | 246 => 45 | 283 => 46 | 284 => 47 | 285 => 48 | 286 => 49 | 129 => 51 | 317 => 50 | 318 => 52 | 319 => 53 | 320 => 54 | 337 => 55 | 338 => 56 | n => n, fun | 3 => 3 | 9 => 9 | 2 => 2 | 4 => 4 | 171 => 89 | 0 => 0 | 53 => 90 | 37 => 22 | 5 => 5 | 173 => 93 | 212 => 97 | 51 => 98 | 20 => 20 | 213 => 99 | 46 => 101 | 232 => 104 | 233 => 105 | n => n, fun | 17 => 0 | 18 => 1 | 19 => 2 | n => n⟩
theorem Tryd.lays171 : Go.Proofs.LaysM.n171 Tryd.prog Tryd.lays171_ren where
  mixed := by kernel_rfl
  f129 := Tryd.func51.trans (congrArg some (by kernel_rfl))
  f171 := Tryd.func36.trans (congrArg some (by kernel_rfl))
  f243 := Tryd.func43.trans (congrArg some (by kernel_rfl))
  f246 := Tryd.func45.trans (congrArg some (by kernel_rfl))
  f283 := Tryd.func46.trans (congrArg some (by kernel_rfl))
  f284 := Tryd.func47.trans (congrArg some (by kernel_rfl))
  f285 := Tryd.func48.trans (congrArg some (by kernel_rfl))
  f286 := Tryd.func49.trans (congrArg some (by kernel_rfl))
  f317 := Tryd.func50.trans (congrArg some (by kernel_rfl))
  f318 := Tryd.func52.trans (congrArg some (by kernel_rfl))
  f319 := Tryd.func53.trans (congrArg some (by kernel_rfl))
  f320 := Tryd.func54.trans (congrArg some (by kernel_rfl))
  f337 := Tryd.func55.trans (congrArg some (by kernel_rfl))
  f338 := Tryd.func56.trans (congrArg some (by kernel_rfl))
  t0 := Tryd.underlying0
  a0 := Tryd.isAgg0
  z0 := Tryd.sizeOf0
  v0 := Tryd.zeroValue0
  t2 := Tryd.underlying2
  a2 := Tryd.isAgg2
  z2 := Tryd.sizeOf2
  v2 := Tryd.zeroValue2
  t3 := Tryd.underlying3
  a3 := Tryd.isAgg3
  z3 := Tryd.sizeOf3
  v3 := Tryd.zeroValue3
  t4 := Tryd.underlying4
  a4 := Tryd.isAgg4
  z4 := Tryd.sizeOf4
  v4 := Tryd.zeroValue4
  t5 := Tryd.underlying5
  a5 := Tryd.isAgg5
  z5 := Tryd.sizeOf5
  v5 := Tryd.zeroValue5
  t9 := Tryd.underlying9
  a9 := Tryd.isAgg9
  z9 := Tryd.sizeOf9
  v9 := Tryd.zeroValue9
  t20 := Tryd.underlying20
  a20 := Tryd.isAgg20
  z20 := Tryd.sizeOf20
  v20 := Tryd.zeroValue20
  t37 := Tryd.underlying22
  a37 := Tryd.isAgg22
  z37 := Tryd.sizeOf22
  v37 := Tryd.zeroValue22
  t46 := Tryd.underlying101
  a46 := Tryd.isAgg101
  z46 := Tryd.sizeOf101
  v46 := Tryd.zeroValue101
  t51 := Tryd.underlying98
  a51 := Tryd.isAgg98
  z51 := Tryd.sizeOf98
  v51 := Tryd.zeroValue98
  t53 := Tryd.underlying90
  a53 := Tryd.isAgg90
  z53 := Tryd.sizeOf90
  v53 := Tryd.zeroValue90
  t171 := Tryd.underlying89
  a171 := Tryd.isAgg89
  z171 := Tryd.sizeOf89
  v171 := Tryd.zeroValue89
  t173 := Tryd.underlying93
  a173 := Tryd.isAgg93
  z173 := Tryd.sizeOf93
  v173 := Tryd.zeroValue93
  t212 := Tryd.underlying97
  a212 := Tryd.isAgg97
  z212 := Tryd.sizeOf97
  v212 := Tryd.zeroValue97
  t213 := Tryd.underlying99
  a213 := Tryd.isAgg99
  z213 := Tryd.sizeOf99
  t232 := Tryd.underlying104
  a232 := Tryd.isAgg104
  z232 := Tryd.sizeOf104
  v232 := Tryd.zeroValue104
  t233 := Tryd.underlying105
  a233 := Tryd.isAgg105
  z233 := Tryd.sizeOf105
  v233 := Tryd.zeroValue105
  g17 := by kernel_rfl
  g18 := by kernel_rfl
  g19 := by kernel_rfl
  i0 := by kernel_rfl
  i2 := by kernel_rfl
  i3 := by kernel_rfl
  i4 := by kernel_rfl
  i5 := by kernel_rfl
  i9 := by kernel_rfl
  i20 := by kernel_rfl
  i37 := by kernel_rfl
  i46 := by kernel_rfl
  i51 := by kernel_rfl
  i53 := by kernel_rfl
  i171 := by kernel_rfl
  i173 := by kernel_rfl
  i212 := by kernel_rfl
  i232 := by kernel_rfl
  i233 := by kernel_rfl
  m17 := by kernel_rfl
  m18 := by kernel_rfl
  m19 := by kernel_rfl
end Go.Proofs
namespace Go.Wl
open Go Go.RowKit Go.Pw Go.Proofs
/-- The library's table of powers lies where it was laid. -/
def tabW (W : World) : Prop := Lib.TabIs Tryd.prog W "internal/strconv.uint64pow10" .u64 Lib.pow10Tab
theorem tab_mono (w W : World) (h : Below w.heap.size w W) (ht : tabW w) : tabW W := by
  unfold tabW Lib.TabIs World.var? at ht ⊢
  cases hg : Tryd.prog.globalNamed "internal/strconv.uint64pow10" with
  | none => rw [hg] at ht; simp at ht
  | some g =>
    rw [hg] at ht
    simp only [Option.bind_some] at ht ⊢
    cases hh : w.heap[g]? with
    | none => rw [hh] at ht; simp at ht
    | some o =>
      rw [hh] at ht
      rw [h.block g (Array.getElem?_eq_some_iff.1 hh).1, hh]
      exact ht
theorem below_grow {w : World} (k : Nat) (os : Array Obj) : Below w.heap.size w (Sort.grow (w.drewN k) os) := by
  have hd : Below w.heap.size w (w.drewN k) := by
    induction k with
    | zero => exact Below.refl _ _
    | succ k ih => exact ih.trans ⟨rfl, rfl, rfl, Nat.le_refl _, fun _ _ => rfl⟩
  refine hd.trans ⟨rfl, rfl, rfl, by simp [Sort.grow], fun j hj => ?_⟩
  show ((w.drewN k).heap ++ os)[j]? = _
  rw [Array.getElem?_append_left (Nat.lt_of_lt_of_le hj hd.size)]
theorem strconv_Itoa_spec (n : Int) (hn : InI n) : Pw.SpecT tabW Tryd.prog 36 [eI n] (fun r => r = eS (digS n)) :=
  ⟨enters_of Tryd.func36 (by kernel_rfl) rfl, fun W Z μ vs ht hs hr => by
    have hv : vs = [.int .i64 n] := by
      obtain ⟨h1, h2⟩ := hr
      match vs, h1, h2 with
      | [v], _, h2 => rw [(h2 0 _ _ rfl rfl).lit_inv]
    subst hv
    refine (Any.strconv_Itoa Tryd.lays171 n hn.1 hn.2 W ht).mono fun e W' ⟨he, k, os, hw⟩ => ?_
    subst he; subst hw
    exact ⟨_, rfl, ⟨eS (digS n), Z, Mu.emp, rfl, .lit _ _, Grow.refl _ _, hs.grow (below_grow k os), below_grow k os, ⟨fun i t cs e => (by cases e), fun t sz n e => (by cases e), fun i j x y g e => (by cases e), fun t u sz n sz' n' v v' g e => (by cases e), fun i g e => (by cases e), fun t n v e => (by cases e), fun t n v sz m e => (by cases e), fun i t x sz n v g e => (by cases e)⟩⟩⟩⟩
/- impl.Digits -/
theorem impl_Digits_spec (n : Int) (hn : InI n) : Pw.SpecT tabW Tryd.prog 21 [eI n] (fun res_ => res_ = eS (digS n)) := by
  refine specT_of (n := 5) Tryd.call21 Tryd.func21 rfl rfl (by simp) rfl rfl fun W Z hT => ?_
  refine PW.seq ?_
  refine PW.region ?_
  refine PL.run 1 rfl ?_
  refine PL.nil ?_
  refine PW.seq ?_
  refine PW.region ?_
  refine PL.run 1 rfl ?_
  refine PL.callT tab_mono hT rfl rfl rfl (strconv_Itoa_spec n hn) (.cons (.refl _) <| .nil) (fun p hp => by subst hp; rfl) (wantV_ok rfl) rfl (fun p hp => ?_)
  subst hp
  refine PL.run 1 rfl ?_
  refine PL.nil ?_
  refine PW.ret ?_
  refine RetOk.free rfl rfl rfl
end Go.Wl
set_option linter.unusedVariables false
set_option linter.unusedSimpArgs false
set_option maxRecDepth 100000
set_option maxHeartbeats 8000000
namespace Go.Wl
open Go Go.RowKit Go.Pw Go.Proofs
structure TxI (x : Item) : Prop where
  r : x.route.size ≤ 1048576
  t : InI x.topic
  d : InI x.due
  b : x.bytes.length ≤ 1048576
def tS : ByteArray := ⟨#[32]⟩
def tN : ByteArray := ⟨#[10]⟩
theorem tS_size : (⟨#[32]⟩ : ByteArray).size = 1 := rfl
theorem tN_size : (⟨#[10]⟩ : ByteArray).size = 1 := rfl
def itemT (x : Item) : ByteArray := x.route ++ ⟨#[32]⟩ ++ digS x.topic ++ ⟨#[32]⟩ ++ digS x.due ++ ⟨#[32]⟩ ++ digS (((x.bytes.map eb).length : Nat) : Int)
theorem len_in {α : Type} {l : List α} (h : l.length ≤ 1048576) : InI ((l.length : Nat) : Int) := ⟨by omega, by omega⟩
theorem itemT_size {x : Item} (h : TxI x) : (itemT x).size ≤ 1048700 := by
  have h1 := digS_size h.t
  have h2 := digS_size h.d
  have h3 := digS_size (len_in (l := x.bytes.map eb) (by rw [List.length_map]; exact h.b))
  have h4 := h.r
  have h5 := tS_size
  simp only [itemT, ByteArray.size_append]; omega
/- spec.ItemText -/
theorem spec_ItemText_spec (x : Item) (hx : TxI x) : Pw.Spec Tryd.prog 15 [.agg (eItem x)] (fun res_ => res_ = eS (itemT x)) := by
  refine spec_of (n := 21) Tryd.call15 Tryd.func15 rfl rfl (by simp) rfl rfl fun W Z => ?_
  have h1 := digS_size hx.t
  have h2 := digS_size hx.d
  have hl := len_in (l := x.bytes.map eb) (by rw [List.length_map]; exact hx.b)
  have h3 := digS_size hl
  have h4 := hx.r
  have h5 := tS_size
  refine PW.seq ?_
  refine PW.region ?_
  refine PL.run 2 rfl ?_
  refine PL.nil ?_
  refine PW.seq ?_
  refine PW.drawn ((some 3, _) :: (some 4, _) :: (some 5, _) :: (some 6, _) :: (some 7, _) :: (some 8, _) :: (some 9, _) :: (some 10, _) :: (some 11, _) :: (some 12, _) :: (some 13, _) :: (some 14, _) :: (some 15, _) :: (some 16, _) :: (some 17, _) :: (some 18, _) :: (some 19, _) :: (some 20, _) :: (some 2, _) :: []) (0 :: 1 :: 3 :: 0 :: 8 :: 24 :: 63 :: 127 :: 0 :: 256 :: 824 :: 2047 :: 4095 :: 0 :: 8192 :: 24576 :: 59192 :: 131071 :: 262143 :: []) (fun _ => _) mixed rfl rfl rfl rfl rfl
    (.cons rfl (fun ρ => PL.run 1 rfl (PL.nil rfl)) <|
    .cons rfl (fun ρ => PL.run 1 rfl (PL.nil rfl)) <|
    .cons rfl (fun ρ => PL.val (OpV.cat rfl rfl rfl (by (try simp only [ByteArray.size_append]); omega)) (wantV_ok rfl) rfl (PL.nil rfl)) <|
    .cons rfl (fun ρ => PL.run 1 rfl (PL.nil rfl)) <|
    .cons rfl (fun ρ => PL.run 1 rfl (PL.nil rfl)) <|
    .cons rfl (fun ρ => PL.call rfl rfl rfl (spec_Digits_spec x.topic hx.t) (.cons (.refl _) <| .nil) (fun p hp => by subst hp; rfl) (wantV_ok rfl) rfl (fun p hp => by subst hp; exact PL.nil rfl)) <|
    .cons rfl (fun ρ => PL.val (OpV.cat rfl rfl rfl (by (try simp only [ByteArray.size_append]); omega)) (wantV_ok rfl) rfl (PL.nil rfl)) <|
    .cons rfl (fun ρ => PL.val (OpV.cat rfl rfl rfl (by (try simp only [ByteArray.size_append]); omega)) (wantV_ok rfl) rfl (PL.nil rfl)) <|
    .cons rfl (fun ρ => PL.run 1 rfl (PL.nil rfl)) <|
    .cons rfl (fun ρ => PL.run 1 rfl (PL.nil rfl)) <|
    .cons rfl (fun ρ => PL.call rfl rfl rfl (spec_Digits_spec x.due hx.d) (.cons (.refl _) <| .nil) (fun p hp => by subst hp; rfl) (wantV_ok rfl) rfl (fun p hp => by subst hp; exact PL.nil rfl)) <|
    .cons rfl (fun ρ => PL.val (OpV.cat rfl rfl rfl (by (try simp only [ByteArray.size_append]); omega)) (wantV_ok rfl) rfl (PL.nil rfl)) <|
    .cons rfl (fun ρ => PL.val (OpV.cat rfl rfl rfl (by (try simp only [ByteArray.size_append]); omega)) (wantV_ok rfl) rfl (PL.nil rfl)) <|
    .cons rfl (fun ρ => PL.run 1 rfl (PL.nil rfl)) <|
    .cons rfl (fun ρ => PL.run 1 rfl (PL.nil rfl)) <|
    .cons rfl (fun ρ => PL.run 1 rfl (PL.nil rfl)) <|
    .cons rfl (fun ρ => PL.call rfl rfl rfl (spec_Digits_spec _ hl) (.cons (.refl _) <| .nil) (fun p hp => by subst hp; rfl) (wantV_ok rfl) rfl (fun p hp => by subst hp; exact PL.nil rfl)) <|
    .cons rfl (fun ρ => PL.val (OpV.cat rfl rfl rfl (by (try simp only [ByteArray.size_append]); omega)) (wantV_ok rfl) rfl (PL.nil rfl)) <|
    .cons rfl (fun ρ => PL.run 1 rfl (PL.nil rfl)) <|
    .nil _) ?_
  refine PW.ret ?_
  refine RetOk.free rfl rfl rfl
/- impl.ItemText -/
theorem impl_ItemText_spec (x : Item) (hx : TxI x) : Pw.SpecT tabW Tryd.prog 22 [.agg (eItem x)] (fun res_ => res_ = eS (itemT x)) := by
  refine specT_of (n := 21) Tryd.call22 Tryd.func22 rfl rfl (by simp) rfl rfl fun W Z hT => ?_
  have h1 := digS_size hx.t
  have h2 := digS_size hx.d
  have hl := len_in (l := x.bytes.map eb) (by rw [List.length_map]; exact hx.b)
  have h3 := digS_size hl
  have h4 := hx.r
  have h5 := tS_size
  refine PW.seq ?_
  refine PW.region ?_
  refine PL.run 2 rfl ?_
  refine PL.nil ?_
  refine PW.seq ?_
  refine PW.drawn ((some 3, _) :: (some 4, _) :: (some 5, _) :: (some 6, _) :: (some 7, _) :: (some 8, _) :: (some 9, _) :: (some 10, _) :: (some 11, _) :: (some 12, _) :: (some 13, _) :: (some 14, _) :: (some 15, _) :: (some 16, _) :: (some 17, _) :: (some 18, _) :: (some 19, _) :: (some 20, _) :: (some 2, _) :: []) (0 :: 1 :: 3 :: 0 :: 8 :: 24 :: 63 :: 127 :: 0 :: 256 :: 824 :: 2047 :: 4095 :: 0 :: 8192 :: 24576 :: 59192 :: 131071 :: 262143 :: []) (fun _ => _) mixed rfl rfl rfl rfl rfl
    (.cons rfl (fun ρ => PL.run 1 rfl (PL.nil rfl)) <|
    .cons rfl (fun ρ => PL.run 1 rfl (PL.nil rfl)) <|
    .cons rfl (fun ρ => PL.val (OpV.cat rfl rfl rfl (by (try simp only [ByteArray.size_append]); omega)) (wantV_ok rfl) rfl (PL.nil rfl)) <|
    .cons rfl (fun ρ => PL.run 1 rfl (PL.nil rfl)) <|
    .cons rfl (fun ρ => PL.run 1 rfl (PL.nil rfl)) <|
    .cons rfl (fun ρ => PL.callT tab_mono hT rfl rfl rfl (impl_Digits_spec x.topic hx.t) (.cons (.refl _) <| .nil) (fun p hp => by subst hp; rfl) (wantV_ok rfl) rfl (fun p hp => by subst hp; exact PL.nil rfl)) <|
    .cons rfl (fun ρ => PL.val (OpV.cat rfl rfl rfl (by (try simp only [ByteArray.size_append]); omega)) (wantV_ok rfl) rfl (PL.nil rfl)) <|
    .cons rfl (fun ρ => PL.val (OpV.cat rfl rfl rfl (by (try simp only [ByteArray.size_append]); omega)) (wantV_ok rfl) rfl (PL.nil rfl)) <|
    .cons rfl (fun ρ => PL.run 1 rfl (PL.nil rfl)) <|
    .cons rfl (fun ρ => PL.run 1 rfl (PL.nil rfl)) <|
    .cons rfl (fun ρ => PL.callT tab_mono hT rfl rfl rfl (impl_Digits_spec x.due hx.d) (.cons (.refl _) <| .nil) (fun p hp => by subst hp; rfl) (wantV_ok rfl) rfl (fun p hp => by subst hp; exact PL.nil rfl)) <|
    .cons rfl (fun ρ => PL.val (OpV.cat rfl rfl rfl (by (try simp only [ByteArray.size_append]); omega)) (wantV_ok rfl) rfl (PL.nil rfl)) <|
    .cons rfl (fun ρ => PL.val (OpV.cat rfl rfl rfl (by (try simp only [ByteArray.size_append]); omega)) (wantV_ok rfl) rfl (PL.nil rfl)) <|
    .cons rfl (fun ρ => PL.run 1 rfl (PL.nil rfl)) <|
    .cons rfl (fun ρ => PL.run 1 rfl (PL.nil rfl)) <|
    .cons rfl (fun ρ => PL.run 1 rfl (PL.nil rfl)) <|
    .cons rfl (fun ρ => PL.callT tab_mono hT rfl rfl rfl (impl_Digits_spec _ hl) (.cons (.refl _) <| .nil) (fun p hp => by subst hp; rfl) (wantV_ok rfl) rfl (fun p hp => by subst hp; exact PL.nil rfl)) <|
    .cons rfl (fun ρ => PL.val (OpV.cat rfl rfl rfl (by (try simp only [ByteArray.size_append]); omega)) (wantV_ok rfl) rfl (PL.nil rfl)) <|
    .cons rfl (fun ρ => PL.run 1 rfl (PL.nil rfl)) <|
    .nil _) ?_
  refine PW.ret ?_
  refine RetOk.free rfl rfl rfl
theorem ttime_size : (⟨#[116, 105, 109, 101, 32]⟩ : ByteArray).size = 5 := rfl
theorem tsent_size : (⟨#[32, 115, 101, 110, 116, 32]⟩ : ByteArray).size = 6 := rfl
theorem tknown_size : (⟨#[32, 107, 110, 111, 119, 110, 32]⟩ : ByteArray).size = 7 := rfl
theorem tepoch_size : (⟨#[32, 101, 112, 111, 99, 104, 32]⟩ : ByteArray).size = 7 := rfl
theorem tgot_size : (⟨#[32, 103, 111, 116, 32]⟩ : ByteArray).size = 5 := rfl
structure TxW (w : Earth) : Prop where
  q : w.post.queue.length ≤ 1048576
  i : ∀ (j : Nat) (x : Item), w.post.queue[j]? = some x → TxI x
  g : w.reader.got.length ≤ 1048576
  b : ∀ (j : Nat) (x : List UInt8), w.reader.got[j]? = some x → x.length ≤ 1048576
  t : InI w.post.time
  c : InI w.count
  k : InI w.known
  e : InI w.reader.epoch
def headT (w : Earth) : ByteArray := ⟨#[116, 105, 109, 101, 32]⟩ ++ digS w.post.time ++ ⟨#[32, 115, 101, 110, 116, 32]⟩ ++ digS w.count ++ ⟨#[32, 107, 110, 111, 119, 110, 32]⟩ ++ digS w.known ++ ⟨#[32, 101, 112, 111, 99, 104, 32]⟩ ++ digS w.reader.epoch ++ ⟨#[32, 103, 111, 116, 32]⟩ ++ digS (((w.reader.got.map eBss1).length : Nat) : Int) ++ ⟨#[10]⟩
/-- Lines, one behind the other. -/
def accT {α : Type} (f : α → ByteArray) (o : ByteArray) (l : List α) : ByteArray := l.foldl (fun o x => o ++ (f x ++ ⟨#[10]⟩)) o
theorem accT_step {α : Type} {f : α → ByteArray} {o : ByteArray} {l : List α} {i : Nat} {x : α} (h : l[i]? = some x) : accT f o (l.take (i + 1)) = accT f o (l.take i) ++ (f x ++ ⟨#[10]⟩) := by
  rw [accT, take_step h, List.foldl_append]; rfl
theorem accT_size {α : Type} {f : α → ByteArray} {K : Nat} : ∀ (l : List α) (o : ByteArray), (∀ x ∈ l, (f x).size ≤ K) → (accT f o l).size ≤ o.size + l.length * (K + 1)
  | [], o, _ => by simp [accT]
  | x :: l, o, h => by
    have h1 := accT_size l (o ++ (f x ++ ⟨#[10]⟩)) (fun y hy => h y (List.mem_cons_of_mem _ hy))
    have h2 := h x List.mem_cons_self
    have h3 := tN_size
    have e : accT f o (x :: l) = accT f (o ++ (f x ++ ⟨#[10]⟩)) l := rfl
    rw [e, List.length_cons, Nat.succ_mul]
    simp only [ByteArray.size_append] at h1
    omega
theorem accT_take {α : Type} {f : α → ByteArray} {K : Nat} {l : List α} {o : ByteArray} {i : Nat} (hl : l.length ≤ 1048576) (h : ∀ (j : Nat) (x : α), l[j]? = some x → (f x).size ≤ K) : (accT f o (l.take i)).size ≤ o.size + 1048576 * (K + 1) := by
  have h1 := accT_size (f := f) (K := K) (l.take i) o (fun x hx => by
    obtain ⟨j, hj⟩ := List.mem_iff_getElem?.1 (List.mem_of_mem_take hx)
    exact h j x hj)
  have h2 : (l.take i).length * (K + 1) ≤ 1048576 * (K + 1) := Nat.mul_le_mul_right _ (by rw [List.length_take]; omega)
  omega
def worldT (w : Earth) : ByteArray := accT strOf (accT itemT (headT w) w.post.queue) w.reader.got
theorem headT_size {w : Earth} (h : TxW w) : (headT w).size ≤ 1000 := by
  have h1 := digS_size h.t
  have h2 := digS_size h.c
  have h3 := digS_size h.k
  have h4 := digS_size h.e
  have h5 := digS_size (len_in (l := w.reader.got.map eBss1) (by rw [List.length_map]; exact h.g))
  have h6 := tN_size
  have h7 := ttime_size
  have h8 := tsent_size
  have h9 := tknown_size
  have h10 := tepoch_size
  have h11 := tgot_size
  simp only [headT, ByteArray.size_append]; omega
/- spec.WorldText -/
theorem spec_WorldText_spec (w : Earth) (hw : TxW w) : Pw.Spec Tryd.prog 5 [.agg (eEarth w)] (fun res_ => res_ = eS (worldT w)) := by
  refine spec_of (n := 72) Tryd.call5 Tryd.func5 rfl rfl (by simp) rfl rfl fun W Z => ?_
  have h1 := digS_size hw.t
  have h2 := digS_size hw.c
  have h3 := digS_size hw.k
  have h4 := digS_size hw.e
  have hl := len_in (l := w.reader.got.map eBss1) (by rw [List.length_map]; exact hw.g)
  have h5 := digS_size hl
  have h6 := tN_size
  have h7 := ttime_size
  have h8 := tsent_size
  have h9 := tknown_size
  have h10 := tepoch_size
  have h11 := tgot_size
  have hhd := headT_size hw
  have hql := hw.q
  have hgl := hw.g
  refine PW.seq ?_
  refine PW.region ?_
  refine PL.run 2 rfl ?_
  refine PL.nil ?_
  refine PW.seq ?_
  refine PW.drawn ((some 6, _) :: (some 7, _) :: (some 8, _) :: (some 9, _) :: (some 10, _) :: (some 11, _) :: (some 12, _) :: (some 13, _) :: (some 14, _) :: (some 15, _) :: (some 16, _) :: (some 17, _) :: (some 18, _) :: (some 19, _) :: (some 20, _) :: (some 21, _) :: (some 22, _) :: (some 23, _) :: (some 24, _) :: (some 25, _) :: (some 26, _) :: (some 27, _) :: (some 28, _) :: (some 29, _) :: (some 30, _) :: (some 31, _) :: (some 32, _) :: (some 33, _) :: (some 34, _) :: (some 3, _) :: []) (0 :: 1 :: 3 :: 7 :: 15 :: 31 :: 0 :: 64 :: 207 :: 511 :: 1023 :: 0 :: 2048 :: 6607 :: 16383 :: 32767 :: 0 :: 65536 :: 196608 :: 473551 :: 1048575 :: 2097151 :: 0 :: 4194304 :: 12582912 :: 29360128 :: 63912399 :: 134217727 :: 268435455 :: 536870911 :: []) (fun _ => _) mixed rfl rfl rfl rfl rfl
    (.cons rfl (fun ρ => PL.run 1 rfl (PL.nil rfl)) <|
    .cons rfl (fun ρ => PL.run 1 rfl (PL.nil rfl)) <|
    .cons rfl (fun ρ => PL.run 1 rfl (PL.nil rfl)) <|
    .cons rfl (fun ρ => PL.call rfl rfl rfl (spec_Digits_spec w.post.time hw.t) (.cons (.refl _) <| .nil) (fun p hp => by subst hp; rfl) (wantV_ok rfl) rfl (fun p hp => by subst hp; exact PL.nil rfl)) <|
    .cons rfl (fun ρ => PL.val (OpV.cat rfl rfl rfl (by (try simp only [ByteArray.size_append]); omega)) (wantV_ok rfl) rfl (PL.nil rfl)) <|
    .cons rfl (fun ρ => PL.val (OpV.cat rfl rfl rfl (by (try simp only [ByteArray.size_append]); omega)) (wantV_ok rfl) rfl (PL.nil rfl)) <|
    .cons rfl (fun ρ => PL.run 1 rfl (PL.nil rfl)) <|
    .cons rfl (fun ρ => PL.run 1 rfl (PL.nil rfl)) <|
    .cons rfl (fun ρ => PL.call rfl rfl rfl (spec_Digits_spec w.count hw.c) (.cons (.refl _) <| .nil) (fun p hp => by subst hp; rfl) (wantV_ok rfl) rfl (fun p hp => by subst hp; exact PL.nil rfl)) <|
    .cons rfl (fun ρ => PL.val (OpV.cat rfl rfl rfl (by (try simp only [ByteArray.size_append]); omega)) (wantV_ok rfl) rfl (PL.nil rfl)) <|
    .cons rfl (fun ρ => PL.val (OpV.cat rfl rfl rfl (by (try simp only [ByteArray.size_append]); omega)) (wantV_ok rfl) rfl (PL.nil rfl)) <|
    .cons rfl (fun ρ => PL.run 1 rfl (PL.nil rfl)) <|
    .cons rfl (fun ρ => PL.run 1 rfl (PL.nil rfl)) <|
    .cons rfl (fun ρ => PL.call rfl rfl rfl (spec_Digits_spec w.known hw.k) (.cons (.refl _) <| .nil) (fun p hp => by subst hp; rfl) (wantV_ok rfl) rfl (fun p hp => by subst hp; exact PL.nil rfl)) <|
    .cons rfl (fun ρ => PL.val (OpV.cat rfl rfl rfl (by (try simp only [ByteArray.size_append]); omega)) (wantV_ok rfl) rfl (PL.nil rfl)) <|
    .cons rfl (fun ρ => PL.val (OpV.cat rfl rfl rfl (by (try simp only [ByteArray.size_append]); omega)) (wantV_ok rfl) rfl (PL.nil rfl)) <|
    .cons rfl (fun ρ => PL.run 1 rfl (PL.nil rfl)) <|
    .cons rfl (fun ρ => PL.run 1 rfl (PL.nil rfl)) <|
    .cons rfl (fun ρ => PL.run 1 rfl (PL.nil rfl)) <|
    .cons rfl (fun ρ => PL.call rfl rfl rfl (spec_Digits_spec w.reader.epoch hw.e) (.cons (.refl _) <| .nil) (fun p hp => by subst hp; rfl) (wantV_ok rfl) rfl (fun p hp => by subst hp; exact PL.nil rfl)) <|
    .cons rfl (fun ρ => PL.val (OpV.cat rfl rfl rfl (by (try simp only [ByteArray.size_append]); omega)) (wantV_ok rfl) rfl (PL.nil rfl)) <|
    .cons rfl (fun ρ => PL.val (OpV.cat rfl rfl rfl (by (try simp only [ByteArray.size_append]); omega)) (wantV_ok rfl) rfl (PL.nil rfl)) <|
    .cons rfl (fun ρ => PL.run 1 rfl (PL.nil rfl)) <|
    .cons rfl (fun ρ => PL.run 1 rfl (PL.nil rfl)) <|
    .cons rfl (fun ρ => PL.run 1 rfl (PL.nil rfl)) <|
    .cons rfl (fun ρ => PL.run 1 rfl (PL.nil rfl)) <|
    .cons rfl (fun ρ => PL.call rfl rfl rfl (spec_Digits_spec _ hl) (.cons (.refl _) <| .nil) (fun p hp => by subst hp; rfl) (wantV_ok rfl) rfl (fun p hp => by subst hp; exact PL.nil rfl)) <|
    .cons rfl (fun ρ => PL.val (OpV.cat rfl rfl rfl (by (try simp only [ByteArray.size_append]); omega)) (wantV_ok rfl) rfl (PL.nil rfl)) <|
    .cons rfl (fun ρ => PL.val (OpV.cat rfl rfl rfl (by (try simp only [ByteArray.size_append]); omega)) (wantV_ok rfl) rfl (PL.nil rfl)) <|
    .cons rfl (fun ρ => PL.run 1 rfl (PL.nil rfl)) <|
    .nil _) ?_
  refine PW.seq ?_
  refine PW.seq ?_
  refine PW.region ?_
  refine PL.run 1 rfl ?_
  refine PL.nil ?_
  refine PW.block ?_
  clear h1 h2 h3 h4 h5 h7 h8 h9 h10 h11
  refine PW.loopAt (α := Nat) (fun i => ⟨[(1, .bx 1 0), (3, eS (accT itemT (headT w) (w.post.queue.take i))), (4, eI (i : Int))], ⟨[(1, (42, eEarth w))], []⟩⟩) (fun i => i ≤ w.post.queue.length) (fun i => w.post.queue.length - i) 0 Le.boxes (Nat.zero_le _) (fun i hi => ?_)
  have hsz := accT_take (f := itemT) (o := headT w) (i := i) (K := 1048700) hql (fun j x hx => itemT_size (hw.i j x hx))
  refine PW.seq ?_
  refine PW.seq ?_
  refine PW.region ?_
  refine PL.run 6 rfl ?_
  refine PL.nil ?_
  refine PW.cond rfl (fun h1 => ?_) (fun h1 => ?_)
  ·
    have hlt : i < w.post.queue.length := by simpa using h1
    clear h1
    obtain ⟨x, hx⟩ : ∃ y, w.post.queue[i]? = some y := ⟨_, List.getElem?_eq_getElem hlt⟩
    have hup : some (PV.lit (.int .i64 (IntKind.i64.wrap ((i : Int) + 1)))) = some (PV.lit (.int .i64 ((i + 1 : Nat) : Int))) := inc_ok (by omega)
    have hxs := itemT_size (hw.i i x hx)
    refine PW.skip ?_
    refine PW.seq ?_
    refine PW.block ?_
    refine PW.region ?_
    refine PL.run 5 rfl ?_
    refine PL.val (OpV.idx rfl rfl rfl (nat_nonneg i) (map_at' hx) rfl rfl rfl rfl) (wantV_ok rfl) rfl ?_
    refine PL.run 1 rfl ?_
    refine PL.call rfl rfl rfl (spec_ItemText_spec x (hw.i i x hx)) (.cons (.refl _) <| .nil) (fun p hp => by subst hp; rfl) (wantV_ok rfl) rfl (fun p hp => ?_)
    subst hp
    refine PL.val (OpV.cat rfl rfl rfl (by (try simp only [ByteArray.size_append]); omega)) (wantV_ok rfl) rfl ?_
    refine PL.val (OpV.cat rfl rfl rfl (by (try simp only [ByteArray.size_append]); omega)) (wantV_ok rfl) rfl ?_
    refine PL.run 1 rfl ?_
    refine PL.nil ?_
    refine PW.region ?_
    refine PL.run 3 rfl ?_
    refine PL.nil ?_
    refine ⟨i + 1, Le.boxes ⟨⟨rfl, rfl⟩, trivial⟩ ⟨⟨rfl, rfl⟩, ⟨congrArg (fun s => some (eS s)) ((ByteArray.append_assoc ..).trans (accT_step hx).symm), rfl⟩, ⟨hup, rfl⟩, trivial⟩, hlt, by omega⟩
  ·
    refine PW.exit ?_
    refine PW.seq ?_
    refine PW.seq ?_
    refine PW.region ?_
    refine PL.run 1 rfl ?_
    refine PL.nil ?_
    refine PW.block ?_
    have hge : i = w.post.queue.length := Nat.le_antisymm hi (by simpa using h1)
    clear h1
    have hfull : accT itemT (headT w) (w.post.queue.take i) = accT itemT (headT w) w.post.queue := by rw [hge, List.take_length]
    generalize hh2 : accT itemT (headT w) (w.post.queue.take i) = h2t at hsz hfull
    refine PW.loopAt (α := Nat) (fun i => ⟨[(1, .bx 1 0), (3, eS (accT strOf h2t (w.reader.got.take i))), (5, eI (i : Int))], ⟨[(1, (42, eEarth w))], []⟩⟩) (fun i => i ≤ w.reader.got.length) (fun i => w.reader.got.length - i) 0 Le.boxes (Nat.zero_le _) (fun n hn => ?_)
    have hsz2 := accT_take (f := strOf) (o := h2t) (i := n) (K := 1048576) hgl (fun j x hx => by rw [strOf_size]; exact hw.b j x hx)
    refine PW.seq ?_
    refine PW.seq ?_
    refine PW.region ?_
    refine PL.run 6 rfl ?_
    refine PL.nil ?_
    refine PW.cond rfl (fun h2 => ?_) (fun h2 => ?_)
    ·
      have hlt : n < w.reader.got.length := by simpa using h2
      clear h2
      obtain ⟨x, hx⟩ : ∃ y, w.reader.got[n]? = some y := ⟨_, List.getElem?_eq_getElem hlt⟩
      have hup : some (PV.lit (.int .i64 (IntKind.i64.wrap ((n : Int) + 1)))) = some (PV.lit (.int .i64 ((n + 1 : Nat) : Int))) := inc_ok (by omega)
      have hxs : (strOf x).size ≤ 1048576 := by rw [strOf_size]; exact hw.b n x hx
      refine PW.skip ?_
      refine PW.seq ?_
      refine PW.block ?_
      refine PW.region ?_
      refine PL.run 5 rfl ?_
      refine PL.val (OpV.idx rfl rfl rfl (nat_nonneg n) (map_at' hx) rfl rfl rfl rfl) (wantV_ok rfl) rfl ?_
      refine PL.run 1 rfl ?_
      refine PL.val (OpV.toStr x rfl rfl rfl rfl rfl rfl rfl rfl rfl) (wantV_ok rfl) rfl ?_
      refine PL.val (OpV.cat rfl rfl rfl (by (try simp only [ByteArray.size_append]); omega)) (wantV_ok rfl) rfl ?_
      refine PL.val (OpV.cat rfl rfl rfl (by (try simp only [ByteArray.size_append]); omega)) (wantV_ok rfl) rfl ?_
      refine PL.run 1 rfl ?_
      refine PL.nil ?_
      refine PW.region ?_
      refine PL.run 3 rfl ?_
      refine PL.nil ?_
      refine ⟨n + 1, Le.boxes ⟨⟨rfl, rfl⟩, trivial⟩ ⟨⟨rfl, rfl⟩, ⟨congrArg (fun s => some (eS s)) ((ByteArray.append_assoc ..).trans (accT_step hx).symm), rfl⟩, ⟨hup, rfl⟩, trivial⟩, hlt, by omega⟩
    ·
      refine PW.exit ?_
      refine PW.seq ?_
      refine PW.region ?_
      refine PL.run 2 rfl ?_
      refine PL.nil ?_
      refine PW.ret ?_
      have hge2 : n = w.reader.got.length := Nat.le_antisymm hn (by simpa using h2)
      refine RetOk.free rfl rfl (congrArg eS ?_)
      rw [worldT, ← hfull, hge2, List.take_length]
/- impl.WorldText -/
theorem impl_WorldText_spec (w : Earth) (hw : TxW w) : Pw.SpecT tabW Tryd.prog 7 [.agg (eEarth w)] (fun res_ => res_ = eS (worldT w)) := by
  refine specT_of (n := 66) Tryd.call7 Tryd.func7 rfl rfl (by simp) rfl rfl fun W Z hT => ?_
  have h1 := digS_size hw.t
  have h2 := digS_size hw.c
  have h3 := digS_size hw.k
  have h4 := digS_size hw.e
  have hl := len_in (l := w.reader.got.map eBss1) (by rw [List.length_map]; exact hw.g)
  have h5 := digS_size hl
  have h6 := tN_size
  have h7 := ttime_size
  have h8 := tsent_size
  have h9 := tknown_size
  have h10 := tepoch_size
  have h11 := tgot_size
  have hhd := headT_size hw
  have hql := hw.q
  have hgl := hw.g
  refine PW.seq ?_
  refine PW.region ?_
  refine PL.run 2 rfl ?_
  refine PL.nil ?_
  refine PW.seq ?_
  refine PW.drawn ((some 8, _) :: (some 9, _) :: (some 10, _) :: (some 11, _) :: (some 12, _) :: (some 13, _) :: (some 14, _) :: (some 15, _) :: (some 16, _) :: (some 17, _) :: (some 18, _) :: (some 19, _) :: (some 20, _) :: (some 21, _) :: (some 22, _) :: (some 23, _) :: (some 24, _) :: (some 25, _) :: (some 26, _) :: (some 27, _) :: (some 28, _) :: (some 29, _) :: (some 30, _) :: (some 31, _) :: (some 32, _) :: (some 33, _) :: (some 34, _) :: (some 35, _) :: (some 36, _) :: (some 3, _) :: []) (0 :: 1 :: 3 :: 7 :: 15 :: 31 :: 0 :: 64 :: 207 :: 511 :: 1023 :: 0 :: 2048 :: 6607 :: 16383 :: 32767 :: 0 :: 65536 :: 196608 :: 473551 :: 1048575 :: 2097151 :: 0 :: 4194304 :: 12582912 :: 29360128 :: 63912399 :: 134217727 :: 268435455 :: 536870911 :: []) (fun _ => _) mixed rfl rfl rfl rfl rfl
    (.cons rfl (fun ρ => PL.run 1 rfl (PL.nil rfl)) <|
    .cons rfl (fun ρ => PL.run 1 rfl (PL.nil rfl)) <|
    .cons rfl (fun ρ => PL.run 1 rfl (PL.nil rfl)) <|
    .cons rfl (fun ρ => PL.callT tab_mono hT rfl rfl rfl (impl_Digits_spec w.post.time hw.t) (.cons (.refl _) <| .nil) (fun p hp => by subst hp; rfl) (wantV_ok rfl) rfl (fun p hp => by subst hp; exact PL.nil rfl)) <|
    .cons rfl (fun ρ => PL.val (OpV.cat rfl rfl rfl (by (try simp only [ByteArray.size_append]); omega)) (wantV_ok rfl) rfl (PL.nil rfl)) <|
    .cons rfl (fun ρ => PL.val (OpV.cat rfl rfl rfl (by (try simp only [ByteArray.size_append]); omega)) (wantV_ok rfl) rfl (PL.nil rfl)) <|
    .cons rfl (fun ρ => PL.run 1 rfl (PL.nil rfl)) <|
    .cons rfl (fun ρ => PL.run 1 rfl (PL.nil rfl)) <|
    .cons rfl (fun ρ => PL.callT tab_mono hT rfl rfl rfl (impl_Digits_spec w.count hw.c) (.cons (.refl _) <| .nil) (fun p hp => by subst hp; rfl) (wantV_ok rfl) rfl (fun p hp => by subst hp; exact PL.nil rfl)) <|
    .cons rfl (fun ρ => PL.val (OpV.cat rfl rfl rfl (by (try simp only [ByteArray.size_append]); omega)) (wantV_ok rfl) rfl (PL.nil rfl)) <|
    .cons rfl (fun ρ => PL.val (OpV.cat rfl rfl rfl (by (try simp only [ByteArray.size_append]); omega)) (wantV_ok rfl) rfl (PL.nil rfl)) <|
    .cons rfl (fun ρ => PL.run 1 rfl (PL.nil rfl)) <|
    .cons rfl (fun ρ => PL.run 1 rfl (PL.nil rfl)) <|
    .cons rfl (fun ρ => PL.callT tab_mono hT rfl rfl rfl (impl_Digits_spec w.known hw.k) (.cons (.refl _) <| .nil) (fun p hp => by subst hp; rfl) (wantV_ok rfl) rfl (fun p hp => by subst hp; exact PL.nil rfl)) <|
    .cons rfl (fun ρ => PL.val (OpV.cat rfl rfl rfl (by (try simp only [ByteArray.size_append]); omega)) (wantV_ok rfl) rfl (PL.nil rfl)) <|
    .cons rfl (fun ρ => PL.val (OpV.cat rfl rfl rfl (by (try simp only [ByteArray.size_append]); omega)) (wantV_ok rfl) rfl (PL.nil rfl)) <|
    .cons rfl (fun ρ => PL.run 1 rfl (PL.nil rfl)) <|
    .cons rfl (fun ρ => PL.run 1 rfl (PL.nil rfl)) <|
    .cons rfl (fun ρ => PL.run 1 rfl (PL.nil rfl)) <|
    .cons rfl (fun ρ => PL.callT tab_mono hT rfl rfl rfl (impl_Digits_spec w.reader.epoch hw.e) (.cons (.refl _) <| .nil) (fun p hp => by subst hp; rfl) (wantV_ok rfl) rfl (fun p hp => by subst hp; exact PL.nil rfl)) <|
    .cons rfl (fun ρ => PL.val (OpV.cat rfl rfl rfl (by (try simp only [ByteArray.size_append]); omega)) (wantV_ok rfl) rfl (PL.nil rfl)) <|
    .cons rfl (fun ρ => PL.val (OpV.cat rfl rfl rfl (by (try simp only [ByteArray.size_append]); omega)) (wantV_ok rfl) rfl (PL.nil rfl)) <|
    .cons rfl (fun ρ => PL.run 1 rfl (PL.nil rfl)) <|
    .cons rfl (fun ρ => PL.run 1 rfl (PL.nil rfl)) <|
    .cons rfl (fun ρ => PL.run 1 rfl (PL.nil rfl)) <|
    .cons rfl (fun ρ => PL.run 1 rfl (PL.nil rfl)) <|
    .cons rfl (fun ρ => PL.callT tab_mono hT rfl rfl rfl (impl_Digits_spec _ hl) (.cons (.refl _) <| .nil) (fun p hp => by subst hp; rfl) (wantV_ok rfl) rfl (fun p hp => by subst hp; exact PL.nil rfl)) <|
    .cons rfl (fun ρ => PL.val (OpV.cat rfl rfl rfl (by (try simp only [ByteArray.size_append]); omega)) (wantV_ok rfl) rfl (PL.nil rfl)) <|
    .cons rfl (fun ρ => PL.val (OpV.cat rfl rfl rfl (by (try simp only [ByteArray.size_append]); omega)) (wantV_ok rfl) rfl (PL.nil rfl)) <|
    .cons rfl (fun ρ => PL.run 1 rfl (PL.nil rfl)) <|
    .nil _) ?_
  refine PW.seq ?_
  refine PW.seq ?_
  refine PW.region ?_
  refine PL.run 5 rfl ?_
  refine PL.nil ?_
  refine PW.block ?_
  clear h1 h2 h3 h4 h5 h7 h8 h9 h10 h11
  refine PW.loopAt (α := Nat) (fun i => ⟨[(1, .bx 1 0), (3, eS (accT itemT (headT w) (w.post.queue.take i))), (39, eItems w.post.queue), (40, eI ((w.post.queue.map eItem).length : Nat)), (41, eI (i : Int))], ⟨[(1, (42, eEarth w))], []⟩⟩) (fun i => i ≤ w.post.queue.length) (fun i => w.post.queue.length - i) 0 Le.boxes (Nat.zero_le _) (fun i hi => ?_)
  have hsz := accT_take (f := itemT) (o := headT w) (i := i) (K := 1048700) hql (fun j x hx => itemT_size (hw.i j x hx))
  refine PW.seq ?_
  refine PW.region ?_
  refine PL.run 1 rfl ?_
  refine PL.nil ?_
  refine PW.seq ?_
  refine PW.cond rfl (fun h1 => ?_) (fun h1 => ?_)
  ·
    have hlt : i < w.post.queue.length := by simpa using h1
    clear h1
    obtain ⟨x, hx⟩ : ∃ y, w.post.queue[i]? = some y := ⟨_, List.getElem?_eq_getElem hlt⟩
    have hup : some (PV.lit (.int .i64 (IntKind.i64.wrap ((i : Int) + 1)))) = some (PV.lit (.int .i64 ((i + 1 : Nat) : Int))) := inc_ok (by omega)
    have hxs := itemT_size (hw.i i x hx)
    refine PW.skip ?_
    refine PW.seq ?_
    refine PW.block ?_
    refine PW.seq ?_
    refine PW.region ?_
    refine PL.val (OpV.idx rfl rfl rfl (nat_nonneg i) (map_at' hx) rfl rfl rfl rfl) (wantV_ok rfl) rfl ?_
    refine PL.run 3 rfl ?_
    refine PL.nil ?_
    refine PW.region ?_
    refine PL.run 2 rfl ?_
    refine PL.callT tab_mono hT rfl rfl rfl (impl_ItemText_spec x (hw.i i x hx)) (.cons (.refl _) <| .nil) (fun p hp => by subst hp; rfl) (wantV_ok rfl) rfl (fun p hp => ?_)
    subst hp
    refine PL.val (OpV.cat rfl rfl rfl (by (try simp only [ByteArray.size_append]); omega)) (wantV_ok rfl) rfl ?_
    refine PL.val (OpV.cat rfl rfl rfl (by (try simp only [ByteArray.size_append]); omega)) (wantV_ok rfl) rfl ?_
    refine PL.run 1 rfl ?_
    refine PL.nil ?_
    refine PW.region ?_
    refine PL.run 2 rfl ?_
    refine PL.nil ?_
    refine ⟨i + 1, Le.boxes ⟨⟨rfl, rfl⟩, trivial⟩ ⟨⟨rfl, rfl⟩, ⟨congrArg (fun s => some (eS s)) ((accT_step hx).symm), rfl⟩, ⟨rfl, rfl⟩, ⟨rfl, rfl⟩, ⟨hup, rfl⟩, trivial⟩, hlt, by omega⟩
  ·
    refine PW.exit ?_
    refine PW.seq ?_
    refine PW.seq ?_
    refine PW.region ?_
    refine PL.run 5 rfl ?_
    refine PL.nil ?_
    refine PW.block ?_
    have hge : i = w.post.queue.length := Nat.le_antisymm hi (by simpa using h1)
    clear h1
    have hfull : accT itemT (headT w) (w.post.queue.take i) = accT itemT (headT w) w.post.queue := by rw [hge, List.take_length]
    generalize hh2 : accT itemT (headT w) (w.post.queue.take i) = h2t at hsz hfull
    refine PW.loopAt (α := Nat) (fun i => ⟨[(1, .bx 1 0), (3, eS (accT strOf h2t (w.reader.got.take i))), (53, eBss w.reader.got), (54, eI ((w.reader.got.map eBss1).length : Nat)), (55, eI (i : Int))], ⟨[(1, (42, eEarth w))], []⟩⟩) (fun i => i ≤ w.reader.got.length) (fun i => w.reader.got.length - i) 0 Le.boxes (Nat.zero_le _) (fun n hn => ?_)
    have hsz2 := accT_take (f := strOf) (o := h2t) (i := n) (K := 1048576) hgl (fun j x hx => by rw [strOf_size]; exact hw.b j x hx)
    refine PW.seq ?_
    refine PW.region ?_
    refine PL.run 1 rfl ?_
    refine PL.nil ?_
    refine PW.seq ?_
    refine PW.cond rfl (fun h2 => ?_) (fun h2 => ?_)
    ·
      have hlt : n < w.reader.got.length := by simpa using h2
      clear h2
      obtain ⟨x, hx⟩ : ∃ y, w.reader.got[n]? = some y := ⟨_, List.getElem?_eq_getElem hlt⟩
      have hup : some (PV.lit (.int .i64 (IntKind.i64.wrap ((n : Int) + 1)))) = some (PV.lit (.int .i64 ((n + 1 : Nat) : Int))) := inc_ok (by omega)
      have hxs : (strOf x).size ≤ 1048576 := by rw [strOf_size]; exact hw.b n x hx
      refine PW.skip ?_
      refine PW.seq ?_
      refine PW.block ?_
      refine PW.seq ?_
      refine PW.region ?_
      refine PL.val (OpV.idx rfl rfl rfl (nat_nonneg n) (map_at' hx) rfl rfl rfl rfl) (wantV_ok rfl) rfl ?_
      refine PL.run 2 rfl ?_
      refine PL.nil ?_
      refine PW.region ?_
      refine PL.run 2 rfl ?_
      refine PL.val (OpV.toStr x rfl rfl rfl rfl rfl rfl rfl rfl rfl) (wantV_ok rfl) rfl ?_
      refine PL.val (OpV.cat rfl rfl rfl (by (try simp only [ByteArray.size_append]); omega)) (wantV_ok rfl) rfl ?_
      refine PL.val (OpV.cat rfl rfl rfl (by (try simp only [ByteArray.size_append]); omega)) (wantV_ok rfl) rfl ?_
      refine PL.run 1 rfl ?_
      refine PL.nil ?_
      refine PW.region ?_
      refine PL.run 2 rfl ?_
      refine PL.nil ?_
      refine ⟨n + 1, Le.boxes ⟨⟨rfl, rfl⟩, trivial⟩ ⟨⟨rfl, rfl⟩, ⟨congrArg (fun s => some (eS s)) ((accT_step hx).symm), rfl⟩, ⟨rfl, rfl⟩, ⟨rfl, rfl⟩, ⟨hup, rfl⟩, trivial⟩, hlt, by omega⟩
    ·
      refine PW.exit ?_
      refine PW.seq ?_
      refine PW.region ?_
      refine PL.run 2 rfl ?_
      refine PL.nil ?_
      refine PW.ret ?_
      have hge2 : n = w.reader.got.length := Nat.le_antisymm hn (by simpa using h2)
      refine RetOk.free rfl rfl (congrArg eS ?_)
      rw [worldT, ← hfull, hge2, List.take_length]
end Go.Wl
set_option linter.unusedVariables false
set_option linter.unusedSimpArgs false
set_option maxRecDepth 100000
set_option maxHeartbeats 4000000
namespace Go.Wl
open Go Go.RowKit Go.Pw Go.Proofs
theorem mL_of {α : Type} {f : α → Nat} {l : List α} {n : Nat} (h : mL f l ≤ n) : l.length ≤ n ∧ ∀ (i : Nat) (x : α), l[i]? = some x → f x ≤ n := by
  have h : l.length + (l.map f).sum ≤ n := h
  refine ⟨by omega, fun i x hx => ?_⟩
  have h1 := sumT_step (f := f) hx
  have h2 := sumT_le (f := f) (l := l) (i + 1)
  omega
theorem mEarth_few {w : Earth} (h : mEarth w ≤ 1048576) : FewE w := by
  have h : w.seed.length + (mL mItem w.post.queue + w.post.book.length) + (w.reader.seed.length + mL List.length w.reader.seen + mL List.length w.reader.got) + mL mWire w.net + mL mSent w.sent ≤ 1048576 := h
  have q := mL_of (f := mItem) (l := w.post.queue) (n := 1048576) (by omega)
  have s := mL_of (f := List.length) (l := w.reader.seen) (n := 1048576) (by omega)
  have g := mL_of (f := List.length) (l := w.reader.got) (n := 1048576) (by omega)
  have n := mL_of (f := mWire) (l := w.net) (n := 1048576) (by omega)
  have t := mL_of (f := mSent) (l := w.sent) (n := 1048576) (by omega)
  exact ⟨by unfold FewB; omega, ⟨⟨q.1, fun i x hx => by have := q.2 i x hx; unfold mItem at this; unfold FewI FewB; omega⟩, by unfold FewB; omega⟩,
    ⟨by unfold FewB; omega, ⟨s.1, s.2⟩, ⟨g.1, g.2⟩⟩,
    ⟨n.1, fun i x hx => by have := n.2 i x hx; unfold mWire mItem at this; exact ⟨by unfold FewI FewB; omega, by unfold FewB; omega⟩⟩,
    ⟨t.1, fun i x hx => by have := t.2 i x hx; unfold mSent at this; exact ⟨by unfold FewB; omega, by unfold FewB; omega⟩⟩⟩
theorem mEarth_tx {w : Earth} (h : mEarth w ≤ 1048576) (hw : BgE w) : TxW w := by
  have h : w.seed.length + (mL mItem w.post.queue + w.post.book.length) + (w.reader.seed.length + mL List.length w.reader.seen + mL List.length w.reader.got) + mL mWire w.net + mL mSent w.sent ≤ 1048576 := h
  have q := mL_of (f := mItem) (l := w.post.queue) (n := 1048576) (by omega)
  have g := mL_of (f := List.length) (l := w.reader.got) (n := 1048576) (by omega)
  exact ⟨q.1, fun i x hx => by
    have h1 := q.2 i x hx
    have h2 := hw.p.q.all i x hx
    unfold mItem at h1
    exact ⟨by omega, h2.it, h2.id, by omega⟩, g.1, g.2, hw.p.it, hw.ic, hw.ik, hw.r.ie⟩
/- laws.FnExactWorldText -/
theorem laws_FnExactWorldText_spec (w : Earth) (hw : BgE w) : Pw.SpecT tabW Tryd.prog 3 [.agg (eEarth w)] (fun res_ => res_ = eT true) := by
  refine specT_of (n := 27) Tryd.call3 Tryd.func3 rfl rfl (by simp) rfl rfl fun W Z hT => ?_
  refine PW.seq ?_
  refine PW.region ?_
  refine PL.run 2 rfl ?_
  refine PL.nil ?_
  refine PW.seq ?_
  refine PW.region ?_
  refine PL.run 1 rfl ?_
  refine PL.nil ?_
  refine PW.seq ?_
  refine PW.region ?_
  refine PL.run 2 rfl ?_
  refine PL.call rfl rfl rfl (laws_szWorld_spec w 1048576 (by decide) (by decide) hw) (.cons (.refl _) <| .cons (.refl _) <| .nil) (fun p hp => by subst hp; rfl) (wantV_ok rfl) rfl (fun p hp => ?_)
  subst hp
  refine PL.run 1 rfl ?_
  refine PL.nil ?_
  refine PW.seq ?_
  refine PW.seq ?_
  refine PW.region ?_
  refine PL.run 2 rfl ?_
  refine PL.nil ?_
  refine PW.cond rfl (fun h1 => ?_) (fun h1 => ?_)
  ·
    refine PW.seq ?_
    refine PW.region ?_
    refine PL.run 1 rfl ?_
    refine PL.nil ?_
    refine PW.ret ?_
    refine RetOk.free rfl rfl rfl
  ·
    have k := szf_or (mEarth w) 1048576
    have hm : mEarth w ≤ 1048576 := by simp only [decide_eq_false_iff_not] at h1; omega
    have hf := mEarth_few hm
    have hs := mEarth_tx hm hw
    clear h1 k
    refine PW.skip ?_
    refine PW.seq ?_
    refine PW.region ?_
    refine PL.run 1 rfl ?_
    refine PL.call rfl rfl rfl (laws_toWorld_spec w hf) (.cons (.refl _) <| .nil) (fun p hp => by subst hp; rfl) (wantV_ok rfl) rfl (fun p hp => ?_)
    subst hp
    refine PL.call rfl rfl rfl (spec_WorldText_spec w hs) (.cons (.refl _) <| .nil) (fun p hp => by subst hp; rfl) (wantV_ok rfl) rfl (fun p hp => ?_)
    subst hp
    refine PL.run 1 rfl ?_
    refine PL.nil ?_
    refine PW.seq ?_
    refine PW.region ?_
    refine PL.run 1 rfl ?_
    refine PL.call rfl rfl rfl (laws_toWorld_spec w hf) (.cons (.refl _) <| .nil) (fun p hp => by subst hp; rfl) (wantV_ok rfl) rfl (fun p hp => ?_)
    subst hp
    refine PL.run 2 rfl ?_
    refine PL.nil ?_
    refine PW.seq ?_
    refine PW.region ?_
    refine PL.run 1 rfl ?_
    refine PL.callT tab_mono hT rfl rfl rfl (impl_WorldText_spec w hs) (.cons (.refl _) <| .nil) (fun p hp => by subst hp; rfl) (wantV_ok rfl) rfl (fun p hp => ?_)
    subst hp
    refine PL.run 1 rfl ?_
    refine PL.nil ?_
    refine PW.seq ?_
    refine PW.seq ?_
    refine PW.region ?_
    refine PL.run 3 rfl ?_
    refine PL.nil ?_
    refine PW.cond rfl (fun h2 => ?_) (fun h2 => ?_)
    ·
      simp at h2
    ·
      refine PW.skip ?_
      refine PW.seq ?_
      refine PW.seq ?_
      refine PW.drawn ((some 22, _) :: (some 23, _) :: (some 24, _) :: (some 25, _) :: (some 26, _) :: []) (0 :: 0 :: 2 :: 7 :: 15 :: []) (fun _ => _) mixed rfl rfl rfl rfl rfl
        (.cons rfl (fun ρ => PL.run 1 rfl (PL.nil rfl)) <|
        .cons rfl (fun ρ => PL.run 1 rfl (PL.nil rfl)) <|
        .cons rfl (fun ρ => PL.call rfl rfl rfl (laws_toWorld_spec w hf) (.cons (.refl _) <| .nil) (fun p hp => by subst hp; rfl) (wantV_ok rfl) rfl (fun p hp => by subst hp; exact PL.nil rfl)) <|
        .cons rfl (fun ρ => PL.call rfl rfl rfl (laws_eqWorld_spec w hf) (.cons (.refl _) <| .cons (.refl _) <| .nil) (fun p hp => by subst hp; rfl) (wantV_ok rfl) rfl (fun p hp => by subst hp; exact PL.nil rfl)) <|
        .cons rfl (fun ρ => PL.run 1 rfl (PL.nil rfl)) <|
        .nil _) ?_
      refine PW.cond rfl (fun h3 => ?_) (fun h3 => ?_)
      ·
        simp at h3
      ·
        refine PW.skip ?_
        refine PW.seq ?_
        refine PW.region ?_
        refine PL.run 1 rfl ?_
        refine PL.nil ?_
        refine PW.ret ?_
        refine RetOk.free rfl rfl rfl
end Go.Wl
set_option linter.unusedVariables false
set_option linter.unusedSimpArgs false
namespace Go.Pw
open Go Go.RowKit
/-- The cells of one value stand for a list of pure values. -/
structure RowRep (Z : Cells) (l : List PV) (cs : List Value) : Prop where
  len : cs.length = l.length
  one : ∀ u ∈ cs, u.oneCell' = true
  rep : ∀ (i : Nat) (p : PV) (v : Value), l[i]? = some p → cs[i]? = some v → Rep Z Mu.emp p v
theorem RowRep.one1 {Z : Cells} {p : PV} {v : Value} (h1 : v.oneCell' = true) (h : Rep Z Mu.emp p v) : RowRep Z [p] [v] :=
  ⟨rfl, fun u hu => by rw [List.mem_singleton.1 hu]; exact h1, fun i q u hq hu => by
    cases i with
    | zero => simp only [List.getElem?_cons_zero, Option.some.injEq] at hq hu; subst hq; subst hu; exact h
    | succ i => simp at hq⟩
theorem RowRep.app {Z : Cells} {l1 l2 : List PV} {c1 c2 : List Value} (h1 : RowRep Z l1 c1) (h2 : RowRep Z l2 c2) : RowRep Z (l1 ++ l2) (c1 ++ c2) :=
  ⟨by rw [List.length_append, List.length_append, h1.len, h2.len], fun u hu => (List.mem_append.1 hu).elim (h1.one u) (h2.one u), fun i p v hp hv => by
    by_cases hi : i < l1.length
    · rw [List.getElem?_append_left hi] at hp
      rw [List.getElem?_append_left (by rw [h1.len]; exact hi)] at hv
      exact h1.rep i p v hp hv
    · rw [List.getElem?_append_right (by omega)] at hp
      rw [List.getElem?_append_right (by rw [h1.len]; omega), h1.len] at hv
      exact h2.rep _ p v hp hv⟩
theorem RowRep.fld {Z : Cells} {l1 l2 : List PV} {cs : List Value} {o s o' : Nat} (h1 : RowRep Z l1 ((cs.drop o).take s)) (ho : o' = o + s) (h2 : RowRep Z l2 (cs.drop o')) : RowRep Z (l1 ++ l2) (cs.drop o) := by
  have e : cs.drop o = (cs.drop o).take s ++ cs.drop o' := by rw [ho, ← List.drop_drop, List.take_append_drop]
  rw [e]
  exact h1.app h2
theorem RowRep.nil {Z : Cells} {cs : List Value} {n : Nat} (h : cs.length = n) : RowRep Z [] (cs.drop n) := by
  rw [List.drop_eq_nil_of_le (by omega)]
  exact ⟨rfl, fun u hu => by simp at hu, fun i p v hp => by simp at hp⟩
theorem RowRep.agg {Z : Cells} {l : List PV} {cs : Array Value} (h : RowRep Z l cs.toList) (μ : Mu) : Rep Z μ (.agg l) (.agg cs) := by
  have := Rep.agg (Z := Z) μ l cs.toList h.len.symm h.one (fun i p v hp hv => (h.rep i p v hp hv).any)
  simpa using this
theorem RowRep.val {Z : Cells} {p : PV} {v : Value} (h : RowRep Z [p] [v]) (μ : Mu) : Rep Z μ p v := (h.rep 0 p v rfl rfl).any
section
variable {H : Type} {enc : TypeId × Value → H} {P : Program} {w : World} {base : Nat} {spare : Nat → Bool} {held : Bool} {fuel : Nat} {t : TypeId} {cs : List Value} {x : DataW H × List MemPlace}
theorem open_st {fs : Array Field} (ht : P.underlying t = some (.struct fs)) (h : DataW.trod enc P w base spare held fuel t cs = some x) :
    cs.length = P.cellsOf t ∧ ∀ (i : Nat) (f : Field), fs[i]? = some f → ∃ m y, DataW.trod enc P w base spare held m f.type ((cs.drop f.offset).take (P.cellsOf f.type)) = some y := by
  obtain ⟨xs, n, _, _, hl, hxs, hf⟩ := DataW.trod_struct ht h
  refine ⟨hl, fun i f hi => ?_⟩
  have h1 := hf i f hi
  have hlt : i < xs.length := by rw [hxs]; exact (Array.getElem?_eq_some_iff.1 hi).1
  rw [List.getElem?_eq_getElem hlt] at h1
  exact ⟨n, _, h1⟩
theorem open_in {k : IntKind} (ht : P.underlying t = some (.int k)) (h : DataW.trod enc P w base spare held fuel t cs = some x) : ∃ n : Int, (Lit.int k n).wf = true ∧ RowRep w.cell? [.lit (.int k n)] cs := by
  obtain ⟨n, rfl, _, hw⟩ := DataW.trod_int ht h
  exact ⟨n, hw, .one1 rfl (.lit _ _)⟩
theorem open_bo (ht : P.underlying t = some .bool) (h : DataW.trod enc P w base spare held fuel t cs = some x) : ∃ b : Bool, RowRep w.cell? [.lit (.bool b)] cs := by
  obtain ⟨b, rfl, _⟩ := DataW.trod_bool ht h
  exact ⟨b, .one1 rfl (.lit _ _)⟩
theorem open_tx (ht : P.underlying t = some .string) (h : DataW.trod enc P w base spare held fuel t cs = some x) : ∃ s : ByteArray, s.size ≤ maxLen ∧ RowRep w.cell? [.lit (.string s)] cs := by
  obtain ⟨s, rfl, _, hs⟩ := DataW.trod_string ht h
  exact ⟨s, hs, .one1 rfl (.lit _ _)⟩
theorem open_sl {α : Type} {e : TypeId} {sz : Nat} (f : α → List PV) (Q : α → Prop) (ht : P.underlying t = some (.slice e)) (hc : P.cellsOf e = sz) (hf : ∀ a, (f a).length = sz)
    (he : ∀ (m : Nat) (cs : List Value) (x : DataW H × List MemPlace), DataW.trod enc P w base spare held m e cs = some x → ∃ a, Q a ∧ RowRep w.cell? (f a) cs) (h : DataW.trod enc P w base spare held fuel t cs = some x) :
    ∃ l : List α, l.length ≤ maxLen ∧ (∀ (i : Nat) (a : α), l[i]? = some a → Q a) ∧ RowRep w.cell? [.sl sz (l.map f) none] cs := by
  rcases DataW.trod_slice ht h with ⟨rfl, _⟩ | ⟨ad, len, cap, elems, rest, n, _, rfl, _, _, hlc, hcm, hlen, hel, _, _⟩
  · exact ⟨[], Nat.zero_le _, fun i a ha => by simp at ha, .one1 rfl (Rep.sl Mu.emp sz [] none 0 (fun _ _ => undef) (Nat.le_refl _) (fun e he => by simp at he) (fun h0 => by simp at h0) (fun i e j p hi => by simp at hi) (fun i e j p hi => by simp at hi))⟩
  · have hA : ∀ i : Fin len, ∃ (a : α) (c : List Value), Q a ∧ RowRep w.cell? (f a) c ∧ ∀ j, j < sz → w.cell? (ad.add (i.1 * sz + j)) = c[j]? := fun i => by
      have h1 := hel i.1 i.2
      rw [List.getElem?_eq_getElem (by rw [hlen]; exact i.2), Option.bind_eq_some_iff] at h1
      obtain ⟨c, hc1, hc2⟩ := h1
      obtain ⟨a, ha, hr⟩ := he _ _ _ hc2
      obtain ⟨_, hcl, hcc⟩ := World.cells?_some hc1
      rw [hc] at hcl hcc
      exact ⟨a, c, ha, hr, fun j hj => by rw [← Addr.add_add]; exact hcc j hj⟩
    obtain ⟨A, hA⟩ := Classical.axiomOfChoice hA
    obtain ⟨C, hA⟩ := Classical.axiomOfChoice hA
    have hQ := fun i => (hA i).1
    have hR := fun i => (hA i).2.1
    have hC := fun i => (hA i).2.2
    have hlA : (List.ofFn A).length = len := List.length_ofFn
    refine ⟨List.ofFn A, by rw [hlA]; exact Nat.le_trans hlc hcm, fun i a ha => ?_, .one1 rfl ?_⟩
    · obtain ⟨hi, rfl⟩ := List.getElem?_eq_some_iff.1 ha
      rw [List.getElem_ofFn]; exact hQ _
    · have key : ∀ (i : Nat) (e : List PV) (j : Nat) (p : PV), ((List.ofFn A).map f)[i]? = some e → e[j]? = some p → ∃ hi : i < len, e = f (A ⟨i, hi⟩) ∧ j < sz ∧ ∃ v, (C ⟨i, hi⟩)[j]? = some v := fun i e j p hi hj => by
        obtain ⟨hi', rfl⟩ := List.getElem?_eq_some_iff.1 hi
        have hlt : i < len := by rw [List.length_map, hlA] at hi'; exact hi'
        have e1 : ((List.ofFn A).map f)[i]'hi' = f (A ⟨i, hlt⟩) := by rw [List.getElem_map, List.getElem_ofFn]
        rw [e1] at hj
        have hjl := (List.getElem?_eq_some_iff.1 hj).1
        rw [hf] at hjl
        exact ⟨hlt, e1, hjl, _, List.getElem?_eq_getElem (by rw [(hR ⟨i, hlt⟩).len, hf]; exact hjl)⟩
      have hval : ∀ (i : Nat) (hi : i < len) (j : Nat) (v : Value), j < sz → (C ⟨i, hi⟩)[j]? = some v → (w.cell? (ad.add (i * sz + j))).getD undef = v := fun i hi j v hj hv => by
        rw [hC ⟨i, hi⟩ j hj, hv]; rfl
      have hs := Rep.sl (Z := w.cell?) Mu.emp sz ((List.ofFn A).map f) (some ad) cap (fun i j => (w.cell? (ad.add (i * sz + j))).getD undef) (by rw [List.length_map, hlA]; exact hlc)
        (fun e he => by obtain ⟨a, _, rfl⟩ := List.mem_map.1 he; exact hf a)
        (fun _ => ⟨ad, rfl, fun i e j p hi hj => by
          obtain ⟨hlt, _, hjl, v, hv⟩ := key i e j p hi hj
          rw [hval i hlt j v hjl hv, hC ⟨i, hlt⟩ j hjl, hv]⟩)
        (fun i e j p hi hj => by
          obtain ⟨hlt, _, hjl, v, hv⟩ := key i e j p hi hj
          show ((w.cell? (ad.add (i * sz + j))).getD undef).oneCell' = true
          rw [hval i hlt j v hjl hv]
          exact (hR ⟨i, hlt⟩).one v (List.mem_of_getElem? hv))
        (fun i e j p hi hj => by
          obtain ⟨hlt, he, hjl, v, hv⟩ := key i e j p hi hj
          show Rep w.cell? Mu.emp p ((w.cell? (ad.add (i * sz + j))).getD undef)
          rw [hval i hlt j v hjl hv]
          rw [he] at hj
          exact (hR ⟨i, hlt⟩).rep j p v hj hv)
      rw [List.length_map, hlA] at hs
      exact hs
end
/-- What a walk of a law gives for the row's post. -/
theorem Done.lit {W : World} {Z : Cells} {q : Value} {v : Value} {W' : World} (h : Done W Z (fun p => p = .lit q) v W') : v = q ∧ Below W.heap.size W W' := by
  obtain ⟨p, Z', μ', hp, hr, _, _, hb, _⟩ := h
  subst hp
  exact ⟨hr.lit_inv, hb⟩
end Go.Pw
set_option linter.unusedVariables false
set_option linter.unusedSimpArgs false
set_option maxRecDepth 100000
namespace Go.Wl
open Go Go.RowKit Go.Pw Go.Proofs
section
variable {H : Type} {enc : TypeId × Value → H} {w : World} {base : Nat} {spare : Nat → Bool} {held : Bool} {fuel : Nat} {cs : List Value} {x : DataW H × List MemPlace}
theorem in_wf {n : Int} (h : (Lit.int .i64 n).wf = true) : InI n := by
  have hb : IntKind.i64.bits = 64 := rfl
  simp [Lit.wf] at h
  exact h
/-- The byte's number. -/
def RowOne (b : UInt8) (n : Int) : Prop := (b.toNat : Int) = n
theorem byte_wf {n : Int} (h : (Lit.int .u8 n).wf = true) : ∃ b : UInt8, RowOne b n := by
  have hl : 0 ≤ n ∧ n ≤ 255 := by
    simp [Lit.wf] at h
    exact h
  exact ⟨UInt8.ofNat n.toNat, by unfold RowOne; rw [UInt8.toNat_ofNat', Nat.mod_eq_of_lt (by omega)]; omega⟩
theorem open_bs (h : DataW.trod enc Tryd.prog w base spare held fuel 22 cs = some x) : ∃ b : List UInt8, BgB b ∧ RowRep w.cell? [eBs b] cs := by
  obtain ⟨l, h1, _, h3⟩ := open_sl eb (fun _ => True) Tryd.underlying22 (sz := 1) (by kernel_rfl) (fun _ => rfl) (fun m cs x hx => by
    obtain ⟨n, hw, hr⟩ := open_in Tryd.underlying5 hx
    obtain ⟨b, hb⟩ := byte_wf hw
    have e : eb b = [PV.lit (.int .u8 n)] := by unfold RowOne at hb; rw [eb, hb]
    exact ⟨b, trivial, by rw [e]; exact hr⟩) h
  exact ⟨l, h1, h3⟩
theorem open_item (h : DataW.trod enc Tryd.prog w base spare held fuel 68 cs = some x) : ∃ a : Item, BgI a ∧ RowRep w.cell? (eItem a) cs := by
  obtain ⟨hl, hf⟩ := open_st Tryd.underlying68 h
  obtain ⟨_, _, g0⟩ := hf 0 _ rfl
  obtain ⟨r, b0, k0⟩ := open_tx Tryd.underlying9 g0
  obtain ⟨_, _, g1⟩ := hf 1 _ rfl
  obtain ⟨t, b1, k1⟩ := open_in Tryd.underlying3 g1
  obtain ⟨_, _, g2⟩ := hf 2 _ rfl
  obtain ⟨d, b2, k2⟩ := open_in Tryd.underlying3 g2
  obtain ⟨_, _, g3⟩ := hf 3 _ rfl
  obtain ⟨b, b3, k3⟩ := open_bs g3
  exact ⟨⟨r, t, d, b⟩, ⟨b0, b3, in_wf b1, in_wf b2⟩, .fld (o := 0) (o' := 1) k0 (by kernel_rfl) <| .fld (o := 1) (o' := 2) k1 (by kernel_rfl) <| .fld (o := 2) (o' := 3) k2 (by kernel_rfl) <| .fld (o := 3) (o' := 4) k3 (by kernel_rfl) <| .nil (n := 4) (hl.trans (by kernel_rfl))⟩
theorem open_items (h : DataW.trod enc Tryd.prog w base spare held fuel 23 cs = some x) : ∃ l : List Item, BgL BgI l ∧ RowRep w.cell? [eItems l] cs := by
  obtain ⟨l, h1, h2, h3⟩ := open_sl eItem BgI Tryd.underlying23 (sz := 4) (by kernel_rfl) (fun _ => rfl) (fun m cs x hx => open_item hx) h
  exact ⟨l, ⟨h1, h2⟩, h3⟩
theorem open_post (h : DataW.trod enc Tryd.prog w base spare held fuel 25 cs = some x) : ∃ a : Post, BgP a ∧ RowRep w.cell? (ePost a) cs := by
  obtain ⟨hl, hf⟩ := open_st Tryd.underlying25 h
  obtain ⟨_, _, g0⟩ := hf 0 _ rfl
  obtain ⟨q, b0, k0⟩ := open_items g0
  obtain ⟨_, _, g1⟩ := hf 1 _ rfl
  obtain ⟨t, b1, k1⟩ := open_in Tryd.underlying3 g1
  obtain ⟨_, _, g2⟩ := hf 2 _ rfl
  obtain ⟨b, b2, k2⟩ := open_bs g2
  obtain ⟨_, _, g3⟩ := hf 3 _ rfl
  obtain ⟨s, b3, k3⟩ := open_in Tryd.underlying3 g3
  exact ⟨⟨q, t, b, s⟩, ⟨b0, b2, in_wf b1, in_wf b3⟩, .fld (o := 0) (o' := 1) k0 (by kernel_rfl) <| .fld (o := 1) (o' := 2) k1 (by kernel_rfl) <| .fld (o := 2) (o' := 3) k2 (by kernel_rfl) <| .fld (o := 3) (o' := 4) k3 (by kernel_rfl) <| .nil (n := 4) (hl.trans (by kernel_rfl))⟩
theorem open_bss (h : DataW.trod enc Tryd.prog w base spare held fuel 26 cs = some x) : ∃ l : List (List UInt8), BgL BgB l ∧ RowRep w.cell? [eBss l] cs := by
  obtain ⟨l, h1, h2, h3⟩ := open_sl eBss1 BgB Tryd.underlying26 (sz := 1) (by kernel_rfl) (fun _ => rfl) (fun m cs x hx => open_bs hx) h
  exact ⟨l, ⟨h1, h2⟩, h3⟩
theorem open_reader (h : DataW.trod enc Tryd.prog w base spare held fuel 28 cs = some x) : ∃ a : Reader, BgR a ∧ RowRep w.cell? (eReader a) cs := by
  obtain ⟨hl, hf⟩ := open_st Tryd.underlying28 h
  obtain ⟨_, _, g0⟩ := hf 0 _ rfl
  obtain ⟨s, b0, k0⟩ := open_bs g0
  obtain ⟨_, _, g1⟩ := hf 1 _ rfl
  obtain ⟨e, b1, k1⟩ := open_in Tryd.underlying3 g1
  obtain ⟨_, _, g2⟩ := hf 2 _ rfl
  obtain ⟨a, b2, k2⟩ := open_bss g2
  obtain ⟨_, _, g3⟩ := hf 3 _ rfl
  obtain ⟨g, b3, k3⟩ := open_bss g3
  exact ⟨⟨s, e, a, g⟩, ⟨b0, b2, b3, in_wf b1⟩, .fld (o := 0) (o' := 1) k0 (by kernel_rfl) <| .fld (o := 1) (o' := 2) k1 (by kernel_rfl) <| .fld (o := 2) (o' := 3) k2 (by kernel_rfl) <| .fld (o := 3) (o' := 4) k3 (by kernel_rfl) <| .nil (n := 4) (hl.trans (by kernel_rfl))⟩
theorem open_wire (h : DataW.trod enc Tryd.prog w base spare held fuel 70 cs = some x) : ∃ a : Wire, BgW a ∧ RowRep w.cell? (eWire a) cs := by
  obtain ⟨hl, hf⟩ := open_st Tryd.underlying70 h
  obtain ⟨_, _, g0⟩ := hf 0 _ rfl
  obtain ⟨t, k0⟩ := open_bo Tryd.underlying4 g0
  obtain ⟨_, _, g1⟩ := hf 1 _ rfl
  obtain ⟨i, b1, k1⟩ := open_item g1
  obtain ⟨_, _, g2⟩ := hf 2 _ rfl
  obtain ⟨b, b2, k2⟩ := open_bs g2
  exact ⟨⟨t, i, b⟩, ⟨b1, b2⟩, .fld (o := 0) (o' := 1) k0 (by kernel_rfl) <| .fld (o := 1) (o' := 5) k1 (by kernel_rfl) <| .fld (o := 5) (o' := 6) k2 (by kernel_rfl) <| .nil (n := 6) (hl.trans (by kernel_rfl))⟩
theorem open_wires (h : DataW.trod enc Tryd.prog w base spare held fuel 29 cs = some x) : ∃ l : List Wire, BgL BgW l ∧ RowRep w.cell? [eWires l] cs := by
  obtain ⟨l, h1, h2, h3⟩ := open_sl eWire BgW Tryd.underlying29 (sz := 6) (by kernel_rfl) (fun _ => rfl) (fun m cs x hx => open_wire hx) h
  exact ⟨l, ⟨h1, h2⟩, h3⟩
theorem open_sent (h : DataW.trod enc Tryd.prog w base spare held fuel 73 cs = some x) : ∃ a : Sent, BgS a ∧ RowRep w.cell? (eSent a) cs := by
  obtain ⟨hl, hf⟩ := open_st Tryd.underlying73 h
  obtain ⟨_, _, g0⟩ := hf 0 _ rfl
  obtain ⟨r, b0, k0⟩ := open_tx Tryd.underlying9 g0
  obtain ⟨_, _, g1⟩ := hf 1 _ rfl
  obtain ⟨e, b1, k1⟩ := open_in Tryd.underlying3 g1
  obtain ⟨_, _, g2⟩ := hf 2 _ rfl
  obtain ⟨n, b2, k2⟩ := open_bs g2
  obtain ⟨_, _, g3⟩ := hf 3 _ rfl
  obtain ⟨b, b3, k3⟩ := open_bs g3
  exact ⟨⟨r, e, n, b⟩, ⟨b0, b2, b3, in_wf b1⟩, .fld (o := 0) (o' := 1) k0 (by kernel_rfl) <| .fld (o := 1) (o' := 2) k1 (by kernel_rfl) <| .fld (o := 2) (o' := 3) k2 (by kernel_rfl) <| .fld (o := 3) (o' := 4) k3 (by kernel_rfl) <| .nil (n := 4) (hl.trans (by kernel_rfl))⟩
theorem open_sents (h : DataW.trod enc Tryd.prog w base spare held fuel 30 cs = some x) : ∃ l : List Sent, BgL BgS l ∧ RowRep w.cell? [eSents l] cs := by
  obtain ⟨l, h1, h2, h3⟩ := open_sl eSent BgS Tryd.underlying30 (sz := 4) (by kernel_rfl) (fun _ => rfl) (fun m cs x hx => open_sent hx) h
  exact ⟨l, ⟨h1, h2⟩, h3⟩
theorem open_world (h : DataW.trod enc Tryd.prog w base spare held fuel 32 cs = some x) : ∃ a : Earth, BgE a ∧ RowRep w.cell? (eEarth a) cs := by
  obtain ⟨hl, hf⟩ := open_st Tryd.underlying32 h
  obtain ⟨_, _, g0⟩ := hf 0 _ rfl
  obtain ⟨s, b0, k0⟩ := open_bs g0
  obtain ⟨_, _, g1⟩ := hf 1 _ rfl
  obtain ⟨c, b1, k1⟩ := open_in Tryd.underlying3 g1
  obtain ⟨_, _, g2⟩ := hf 2 _ rfl
  obtain ⟨k, b2, k2⟩ := open_in Tryd.underlying3 g2
  obtain ⟨_, _, g3⟩ := hf 3 _ rfl
  obtain ⟨p, b3, k3⟩ := open_post g3
  obtain ⟨_, _, g4⟩ := hf 4 _ rfl
  obtain ⟨r, b4, k4⟩ := open_reader g4
  obtain ⟨_, _, g5⟩ := hf 5 _ rfl
  obtain ⟨n, b5, k5⟩ := open_wires g5
  obtain ⟨_, _, g6⟩ := hf 6 _ rfl
  obtain ⟨t, b6, k6⟩ := open_sents g6
  exact ⟨⟨s, c, k, p, r, n, t⟩, ⟨b0, b3, b4, b5, b6, in_wf b1, in_wf b2⟩, .fld (o := 0) (o' := 1) k0 (by kernel_rfl) <| .fld (o := 1) (o' := 2) k1 (by kernel_rfl) <| .fld (o := 2) (o' := 3) k2 (by kernel_rfl) <| .fld (o := 3) (o' := 7) k3 (by kernel_rfl) <| .fld (o := 7) (o' := 11) k4 (by kernel_rfl) <| .fld (o := 11) (o' := 12) k5 (by kernel_rfl) <| .fld (o := 12) (o' := 13) k6 (by kernel_rfl) <| .nil (n := 13) (hl.trans (by kernel_rfl))⟩
end
end Go.Wl
