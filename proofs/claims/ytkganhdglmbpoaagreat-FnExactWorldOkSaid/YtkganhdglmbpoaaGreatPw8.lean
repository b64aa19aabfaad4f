/- The engine, eighth text: a stretch of operations at once. -/
import Derived.Test.YtkganhdglmbpoaaGreatPw7
set_option linter.unusedVariables false
set_option linter.unusedSimpArgs false
namespace Go.Pw
open Go Go.RowKit

def pickV : Option PV → Option PV → Option PV → Option PV
  | some (.lit (.bool true)), x, _ => x
  | some (.lit (.bool false)), _, y => y
  | _, _, _ => none
def binV (op : BinOp) : Option PV → Option PV → Option PV
  | some (.lit (.int k m)), some (.lit (.int k' n)) => if k = k' then (match binI op k m n with | some v => some (.lit v) | none => none) else none
  | some (.lit (.string a)), some (.lit (.string b)) => match strI op a b with | some v => some (.lit v) | none => none
  | _, _ => none
def unV : UnOp → Option PV → Option PV
  | .not, some (.lit (.bool b)) => some (.lit (.bool (!b)))
  | .neg, some (.lit (.int k n)) => some (.lit (.int k (k.wrap (0 - n))))
  | _, _ => none
def extV : Option PV → Nat → Option PV
  | some (.tup l), i => l[i]?
  | _, _ => none
def lenV (T : List (Nat × TI)) (t : Nat) (p : Option PV) : Option PV :=
  match lk T t with
  | some i => match i.d, p with
    | .slice _, some (.sl _ es _) => some (.lit (.int .i64 es.length))
    | .slice _, some (.lit (.slice none 0 0)) => some (.lit (.int .i64 0))
    | .str, some (.lit (.string s)) => some (.lit (.int .i64 s.size))
    | _, _ => none
  | none => none
def loadV (T : List (Nat × TI)) (S : PS) (t : Nat) (p : Option PV) : Option PV :=
  match lk T t with
  | some i => match p with
    | some (.rp l) => packed i.agg i.sz l
    | some (.bx id off) => match lk S.h.bx id with
      | some x => packed i.agg i.sz (x.2.drop off)
      | none => none
    | _ => none
  | none => none
def fldV (T : List (Nat × TI)) (s n : Nat) (p : Option PV) : Option PV :=
  match lk T s with
  | some i => match i.d with
    | .struct fs => match fs[n]? with
      | some (off, ft) => match lk T ft with
        | some j => if j.sz = 0 then none else (match p with
          | some (.rp l) => some (.rp (l.drop off))
          | some (.bx id o0) => some (.bx id (o0 + off))
          | _ => none)
        | none => none
      | none => none
    | _ => none
  | none => none
def nilV : Option PV → Option PV
  | some (.rp l) => some (.rp l)
  | some (.bx id o) => some (.bx id o)
  | _ => none
def convV (T : List (Nat × TI)) (src dst : Nat) : Option PV → Option PV
  | some (.lit (.int k n)) => match lk T src, lk T dst with
    | some i, some j => match i.d, j.d with
      | .int k1, .int k2 => if k1 = k then some (.lit (.int k2 (k2.wrap n))) else none
      | _, _ => none
    | _, _ => none
  | _ => none
def callV (T : List (Nat × TI)) (S : PS) : Callee → List Operand → List TypeId → Option PV
  | .builtin .len, [x], [t] => lenV T t (S.ev x)
  | _, _, _ => none
def valV (T : List (Nat × TI)) (S : PS) (o : Oper) : Option PV :=
  match o.op with
  | .move x => S.ev x
  | .assign x => S.ev x
  | .pick c x y => pickV (S.ev c) (S.ev x) (S.ev y)
  | .binOp op _ x y _ => binV op (S.ev x) (S.ev y)
  | .unOp op _ x => unV op (S.ev x)
  | .extract x i => extV (S.ev x) i
  | .call c => callV T S c.callee c.args.toList c.argTypes.toList
  | .load t x => loadV T S t (S.ev x)
  | .fieldAddr s x n => fldV T s n (S.ev x)
  | .nilCheck x => nilV (S.ev x)
  | .convert src dst x => convV T src dst (S.ev x)
  | .makeFunc (.func f) b caps => match b.toList, caps.toList.mapM S.ev with | [], some l => some (.fn f l) | _, _ => none
  | _ => none
section
variable {cx : Cx} {S : PS} {o : Oper} {p : PV}
theorem pickV_ok {c x y : Operand} (ho : o.op = .pick c x y) (h : pickV (S.ev c) (S.ev x) (S.ev y) = some p) : OpV cx o S p := by
  unfold pickV at h
  split at h
  · rename_i h1; exact OpV.pickT ho h1 h
  · rename_i h1; exact OpV.pickF ho h1 h
  · cases h
theorem binV_ok {op : BinOp} {t yt : TypeId} {x y : Operand} (ho : o.op = .binOp op t x y yt) (h : binV op (S.ev x) (S.ev y) = some p) : OpV cx o S p := by
  unfold binV at h
  split at h
  · rename_i h1 h2
    split at h
    · rename_i e
      subst e
      split at h
      · rename_i v hv; cases h; exact OpV.bin ho h1 h2 hv
      · cases h
    · cases h
  · rename_i h1 h2
    split at h
    · rename_i v hv; cases h; exact OpV.str ho h1 h2 hv
    · cases h
  · cases h
theorem unV_ok {op : UnOp} {t : TypeId} {x : Operand} (ho : o.op = .unOp op t x) (h : unV op (S.ev x) = some p) : OpV cx o S p := by
  unfold unV at h
  split at h
  · rename_i h1; cases h; exact OpV.not ho h1
  · rename_i h1; cases h; exact OpV.neg ho h1
  · cases h
theorem extV_ok {x : Operand} {i : Nat} (ho : o.op = .extract x i) (h : extV (S.ev x) i = some p) : OpV cx o S p := by
  unfold extV at h
  split at h
  · rename_i h1; exact OpV.extract ho h1 h
  · cases h
theorem nilV_ok {x : Operand} (ho : o.op = .nilCheck x) (h : nilV (S.ev x) = some p) : OpV cx o S p := by
  unfold nilV at h
  split at h
  · rename_i h1; cases h; exact OpV.nilc ho h1
  · rename_i h1; cases h; exact OpV.nilcB ho h1
  · cases h
variable [TC cx.P]
theorem lenV_ok {x : Operand} {t : Nat} (ho : o.op = .call { callee := .builtin .len, args := #[x], argTypes := #[t] }) (h : lenV (TC.T cx.P) t (S.ev x) = some p) : OpV cx o S p := by
  unfold lenV at h
  split at h
  · rename_i i hi
    split at h
    · rename_i hd h1; cases h; exact OpV.len ho h1 hi hd
    · rename_i hd h1; cases h; exact OpV.lenNil ho h1 hi hd
    · rename_i hd h1; cases h; exact OpV.lenStr ho h1 hi hd
    · cases h
  · cases h
theorem callV_ok {c : Call} (ho : o.op = .call c) (h : callV (TC.T cx.P) S c.callee c.args.toList c.argTypes.toList = some p) : OpV cx o S p := by
  obtain ⟨ce, ⟨as⟩, ⟨ts⟩⟩ := c
  simp only at h
  unfold callV at h
  split at h
  · exact lenV_ok ho h
  · cases h
theorem loadV_ok {x : Operand} {t : Nat} (ho : o.op = .load t x) (h : loadV (TC.T cx.P) S t (S.ev x) = some p) : OpV cx o S p := by
  unfold loadV at h
  split at h
  · rename_i i hi
    split at h
    · rename_i h1; exact OpV.load ho h1 hi h
    · rename_i h1
      split at h
      · rename_i y hy; exact OpV.loadB (bt := y.1) (cs := y.2) ho h1 hy hi h
      · cases h
    · cases h
  · cases h
theorem fldV_ok {x : Operand} {s n : Nat} (ho : o.op = .fieldAddr s x n) (h : fldV (TC.T cx.P) s n (S.ev x) = some p) : OpV cx o S p := by
  unfold fldV at h
  split at h
  · rename_i i hi
    split at h
    · rename_i fs hd
      split at h
      · rename_i off ft hf
        split at h
        · rename_i j hj
          split at h
          · cases h
          · rename_i hne
            split at h
            · rename_i h1; cases h; exact OpV.fld ho h1 hi hd hf hj hne
            · rename_i h1; cases h; exact OpV.fldB ho h1 hi hd hf hj hne
            · cases h
        · cases h
      · cases h
    · cases h
  · cases h
theorem convV_ok {x : Operand} {src dst : Nat} (ho : o.op = .convert src dst x) (h : convV (TC.T cx.P) src dst (S.ev x) = some p) : OpV cx o S p := by
  unfold convV at h
  split at h
  · rename_i h1
    split at h
    · rename_i i j hi hj
      split at h
      · rename_i k1 k2 hd1 hd2
        split at h
        · rename_i e; subst e; cases h; exact OpV.conv ho h1 hi hd1 hj hd2
        · cases h
      · cases h
    · cases h
  · cases h
theorem valV_ok (h : valV (TC.T cx.P) S o = some p) : OpV cx o S p := by
  unfold valV at h
  split at h
  · rename_i ho; exact OpV.move ho h
  · rename_i ho; exact OpV.assign ho h
  · rename_i ho; exact pickV_ok ho h
  · rename_i ho; exact binV_ok ho h
  · rename_i ho; exact unV_ok ho h
  · rename_i ho; exact extV_ok ho h
  · rename_i ho; exact callV_ok ho h
  · rename_i ho; exact loadV_ok ho h
  · rename_i ho; exact fldV_ok ho h
  · rename_i ho; exact nilV_ok ho h
  · rename_i ho; exact convV_ok ho h
  · rename_i ho
    split at h
    · rename_i b _ l hb hl
      cases h
      refine OpV.func _ (ho.trans ?_) hl
      congr 1
      exact Array.ext' hb
    · cases h
  · cases h
end
def putO (S : PS) (d : Option Tmp) (p : PV) : Option PS :=
  match S, d with
  | ⟨e, h⟩, some t => some ⟨(t, p) :: e, h⟩
  | ⟨e, h⟩, none => some ⟨e, h⟩
theorem putO_eq (S : PS) (d : Option Tmp) (p : PV) : putO S d p = some (S.put d p) := by cases S; cases d <;> rfl
def outBx (S : PS) (d : Nat) (x : Nat × List PV) : Option PS := match S with | ⟨e, ⟨b, k⟩⟩ => some ⟨(d, .bx d 0) :: e, ⟨(d, x) :: b, k⟩⟩
def outSt (S : PS) (id : Nat) (x : Nat × List PV) : Option PS := match S with | ⟨e, ⟨b, k⟩⟩ => some ⟨e, ⟨(id, x) :: b, k⟩⟩
def outTk (S : PS) (d sz : Nat) (es : List (List PV)) : Option PS := match S with | ⟨e, ⟨b, k⟩⟩ => some ⟨(d, .sl sz es (some d)) :: e, ⟨b, (d, (sz, es.length)) :: k⟩⟩
/-- What an operation makes of a state, where that is a matter of looking. -/
def stepS (T : List (Nat × TI)) (n : Nat) (S : PS) (o : Oper) : Option PS :=
  match o.op with
  | .box t x => match o.dst, S.ev x with
    | some d, some p => match cellsOf p, lk S.h.bx d, dstOk n (some d) with
      | some l, none, true => outBx S d (t, l)
      | _, _, _ => none
    | _, _ => none
  | .alloc t => match o.dst, lk T t with
    | some d, some i => match i.zero.cells.toList.all Value.oneCell', lk S.h.bx d, dstOk n (some d) with
      | true, none, true => outBx S d (t, i.zero.cells.toList.map .lit)
      | _, _, _ => none
    | _, _ => none
  | .store t x y => match o.dst, S.ev x, S.ev y, lk T t with
    | none, some (.bx id off), some p, some i => match cellsOf p, lk S.h.bx id with
      | some l, some y => bif Nat.beq l.length i.sz && Nat.ble (off + l.length) y.2.length then outSt S id (y.1, writeC y.2 off l) else none
      | _, _ => none
    | _, _, _, _ => none
  | .buildSlice t m ps => match o.dst, lk T t with
    | some d, some i => match i.d with
      | .slice e => match lk T e, evL S ps.toList with
        | some j, some es => match partsAre ps m && (es.all (fun x => Nat.beq x.length j.sz) && (es.all freeL && (Nat.ble (m * j.sz) 16777216 && Nat.ble m 16777216))), lk S.h.tk d, dstOk n (some d) with
          | true, none, true => outTk S d j.sz es
          | _, _, _ => none
        | _, _ => none
      | _ => none
    | _, _ => none
  | _ => match valV T S o, dstOk n o.dst with
    | some p, true => putO S o.dst p
    | _, _ => none
section
variable {cx : Cx} [TC cx.P] {S S' : PS} {o : Oper} {ops : Array Oper} {rest : List Oper} {Q : Post}
theorem stepS_ok (h : stepS (TC.T cx.P) cx.n S o = some S') (hw : Wants cx ops o S true) (k : PL cx ops Q rest S') : PL cx ops Q (o :: rest) S := by
  unfold stepS at h
  split at h
  · rename_i t x ho
    split at h
    · rename_i d p hd hp
      split at h
      · rename_i l hl hf hn
        cases S
        cases h
        exact PL.box ho hd hp hl hf hn hw k
      · cases h
    · cases h
  · rename_i t ho
    split at h
    · rename_i d i hd hi
      split at h
      · rename_i h1 hf hn
        cases S
        cases h
        exact PL.alloc ho hd hi h1 hf hn hw k
      · cases h
    · cases h
  · rename_i t x y ho
    split at h
    · rename_i id off p i hd hx hy hi
      split at h
      · rename_i l z hl hz
        cases hb : Nat.beq l.length i.sz && Nat.ble (off + l.length) z.2.length with
        | false => rw [hb] at h; cases h
        | true =>
          rw [hb] at h
          rw [Bool.and_eq_true] at hb
          cases S
          cases h
          exact PL.store (bt := z.1) (cs := z.2) ho hx hy hl hz hi (Nat.eq_of_beq_eq_true hb.1) (Nat.le_of_ble_eq_true hb.2) hd hw k
      · cases h
    · cases h
  · rename_i t m ps ho
    split at h
    · rename_i d i hd hi
      split at h
      · rename_i e he
        split at h
        · rename_i j es hj hes
          split at h
          · rename_i hb hf hn
            cases S
            cases h
            simp only [Bool.and_eq_true] at hb
            exact PL.lit ho hd hb.1 hes hi he hj (by simpa [Nat.beq_eq] using hb.2.1) hb.2.2.1 (Nat.le_of_ble_eq_true hb.2.2.2.1) (Nat.le_of_ble_eq_true hb.2.2.2.2) hf hn hw k
          · cases h
        · cases h
      · cases h
    · cases h
  · split at h
    · rename_i p hp hn
      rw [putO_eq] at h
      cases h
      exact PL.val (valV_ok hp) hw hn k
    · cases h
end
/-- Is the operation wanted, so far as the state tells. -/
def wantV (S : PS) (ops : List Oper) (o : Oper) : Option Bool :=
  match o.guard with
  | none => some true
  | some (j, w) => match (ops[j]?).bind (·.dst) with
    | some t => match may1 (lk S.env t) with
      | some (.lit (.bool true)) => some w
      | some (.lit (.bool false)) => some (!w)
      | some (.lit (.tuple ⟨[]⟩)) => some false
      | _ => none
    | none => none
def runV (T : List (Nat × TI)) (n : Nat) (ops : List Oper) : Nat → List Oper → PS → Option (List Oper × PS)
  | 0, l, S => some (l, S)
  | k + 1, o :: r, S => match wantV S ops o with
    | some true => match stepS T n S o with
      | some S' => runV T n ops k r S'
      | none => none
    | some false => match dstOk n o.dst with
      | true => match putO S o.dst (.lit undef) with
        | some S' => runV T n ops k r S'
        | none => none
      | false => none
    | none => none
  | _ + 1, [], _ => none
section
variable {cx : Cx} [TC cx.P] {S S' : PS} {o : Oper} {ops : List Oper} {rest : List Oper} {Q : Post}
omit [TC cx.P] in
theorem wantV_ok {b : Bool} (h : wantV S ops o = some b) : Wants cx ops.toArray o S b := by
  unfold wantV at h
  split at h
  · rename_i hg; cases h; exact Wants.free hg
  · rename_i j w hg
    split at h
    · rename_i t ht
      have ht' : ((ops.toArray[j]?).bind (·.dst)) = some t := by simpa using ht
      split at h
      · rename_i h1; cases h; have := Wants.is (cx := cx) (ops := ops.toArray) hg ht' h1; cases b <;> exact this
      · rename_i h1; cases h; have := Wants.is (cx := cx) (ops := ops.toArray) hg ht' h1; cases w <;> exact this
      · rename_i h1; cases h; exact Wants.undef (cx := cx) (ops := ops.toArray) hg ht' h1
      · cases h
    · cases h
theorem PL.run (k : Nat) {l : List Oper} (h : runV (TC.T cx.P) cx.n ops k l S = some (rest, S')) (c : PL cx ops.toArray Q rest S') : PL cx ops.toArray Q l S := by
  induction k generalizing l S with
  | zero => cases h; exact c
  | succ k ih =>
    cases l with
    | nil => cases h
    | cons o r =>
      unfold runV at h
      split at h
      · rename_i hw
        split at h
        · rename_i S1 h1; exact stepS_ok h1 (wantV_ok hw) (ih h)
        · cases h
      · rename_i hw
        split at h
        · rename_i hd; rw [putO_eq] at h; exact PL.skip (wantV_ok hw) hd (ih h)
        · cases h
      · cases h
end
end Go.Pw
