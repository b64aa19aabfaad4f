/- The engine, twentieth text: a new block of whatever bytes; cuts from the start; bytes in a box. -/
import Derived.Test.YtkganhdglmbpoaaGreatPw19
import Derived.Lib.MakeNoZero
import Derived.Laws.Externs
set_option linter.unusedVariables false
set_option linter.unusedSimpArgs false
namespace Go.Pw
open Go Go.RowKit
theorem one_digits : ∀ (n t : Nat) (acc : Array Value), (∀ u ∈ acc.toList, u.oneCell' = true) → ∀ u ∈ (Extern.BytealgMakeNoZero.digits n t acc).toList, u.oneCell' = true
  | 0, _, _, h => h
  | n + 1, t, acc, h => by
    rw [Extern.BytealgMakeNoZero.digits]
    refine one_digits n _ _ (fun u hu => ?_)
    rw [Array.toList_push] at hu
    rcases List.mem_append.1 hu with hu | hu
    · exact h u hu
    · rw [List.mem_singleton.1 hu]; rfl
theorem run_noZero {P : Program} (w : World) (ps : Array TypeId) (t e : TypeId) (ht : P.underlying t = some (.slice e)) (n : Nat) (hn : n ≤ 16777216) :
    ∃ cs : Array Value, (Extern.BytealgMakeNoZero.makeNoZero ps #[t] #[.int .i64 n]).run P w = .ok (.slice (some ⟨w.heap.size, 0, none⟩) n cs.size) (w.drew.drew.alloc (.cells cs e)) ∧ n ≤ cs.size ∧ cs.size ≤ maxLen ∧ ∀ u ∈ cs.toList, u.oneCell' = true := by
  have hdef : Extern.BytealgMakeNoZero.makeNoZero ps #[t] #[.int .i64 n] =
      (do
        let .slice elem ← underlying t | stuck "bytealg.MakeNoZero: slice type expected"
        if (n : Int) < 0 || (n : Int) > 2 ^ 48 then runtimePanic (.error "makeslice: len out of range")
        let cap ← choose (.appendCap (n : Int).toNat 0 elem)
        askRoom cap
        let bytes ← choose (.extern "internal/bytealg.MakeNoZero.bytes" 0)
        let a ← newRow elem (Extern.BytealgMakeNoZero.digits cap bytes #[])
        pure (.slice (some a) (n : Int).toNat cap)) := rfl
  refine ⟨Extern.BytealgMakeNoZero.digits (grownCap w n 0 e) ((Question.extern "internal/bytealg.MakeNoZero.bytes" 0).cut (w.tape (w.drawn + 1) (.extern "internal/bytealg.MakeNoZero.bytes" 0))) #[], ?_, ?_, ?_, one_digits _ _ _ (fun u hu => by simp at hu)⟩
  · rw [hdef]
    have h1 : ¬ (n : Int) < 0 := by omega
    have h2 : ¬ (281474976710656 : Int) < (n : Int) := by omega
    simp [run_underlying ht, h1, h2, Question.forced, newRow, Lib.size_digits, grownCap]
  · rw [Lib.size_digits]
    simpa using grownCap_ge w n 0 e
  · rw [Lib.size_digits]
    simpa using grownCap_le_maxLen w n 0 e (by simp only [maxLen]; omega)
theorem freeL_junk (n : Nat) : freeL (List.replicate n .junk) = true := freeL_iff.2 fun p hp => by rw [List.eq_of_mem_replicate hp]; rfl
section
variable {cx : Cx} [TC cx.P] {S : PS} {o : Oper} {ops : Array Oper} {rest : List Oper} {Q : Post}
theorem PL.noZero {fo : Operand} {f t e d n : Nat} {x : Operand} {ts ps : Array TypeId} {i : TI} (ho : o.op = .call { callee := .value fo, args := #[x], argTypes := ts }) (hfo : S.ev fo = some (.fn f [])) (hx : S.ev x = some (.lit (.int .i64 (n : Int)))) (hdst : o.dst = some d)
    (hrun : ∀ args W, (callFunc f args).run cx.P W = ((Extern.BytealgMakeNoZero.makeNoZero ps #[t] args).run cx.P W).andThen fun v w' => .ok (.value v) w') (ht : lk (TC.T cx.P) t = some i) (hd : i.d = .slice e) (hn : n ≤ 16777216) (hf : lk S.h.bx d = none) (hw : Wants cx ops o S true) (hdd : dstOk cx.n (some d) = true)
    (kk : ∀ cap, n ≤ cap → cap ≤ maxLen → PL cx ops Q rest ⟨(d, .bs d 0 n cap) :: S.env, ⟨(d, (e, List.replicate cap .junk)) :: S.h.bx, S.h.tk⟩⟩) : PL cx ops Q (o :: rest) S :=
  PL.cons hw (K := fun S' => ∃ cap, n ≤ cap ∧ cap ≤ maxLen ∧ S' = ⟨(d, .bs d 0 n cap) :: S.env, ⟨(d, (e, List.replicate cap .junk)) :: S.h.bx, S.h.tk⟩⟩) (fun a W hR K' Q' hK => by
    obtain ⟨Z, μ, hz⟩ := hR
    have hff := hz.ev hfo
    have ex := (hz.ev hx).lit_inv
    have hu := (TC.at_ ht).und
    rw [hd] at hu
    have hu : cx.P.underlying t = some (.slice e) := hu
    obtain ⟨cs, hr, h1, h2, h3⟩ := run_noZero (P := cx.P) W ps t e hu n hn
    generalize hv : a.eval fo = u at hff
    cases hff with
    | fn _ _ _ caps hl hc =>
      have hcs : caps = [] := List.eq_nil_of_length_eq_zero hl.symm
      subst hcs
      have hrr : (execOp a.eval o).run cx.P W = .ok (.value (.slice (some ⟨W.heap.size, 0, none⟩) n cs.size)) (W.drew.drew.alloc (.cells cs e)) := by
        simp only [execOp, ho]
        simp [resolve, hv, Deferred.ofValue, invoke, ex]
        rw [hrun, hr]
        rfl
      obtain ⟨μ', hm, hz'⟩ := hz.drew.drew.newB (d := d) (t := e) (cs := List.replicate cs.size .junk) (vs := cs) hf (by simp) h3 (fun k q u hq hu => by
        have := List.eq_of_mem_replicate (List.mem_of_getElem? hq)
        rw [this]; exact .junk _ _)
      show o.upon cx.P a K' Q' _
      rw [hrr, Oper.upon_value, hdst]
      have hmm : (W.drew.drew).heap.size = W.heap.size := rfl
      rw [hmm] at hm
      exact hK _ _ _ ⟨cs.size, h1, h2, rfl⟩ ⟨Z, μ', hz'.put (d := some d) hdd (.bs _ _ _ _ _ _ hm)⟩) fun S' ⟨cap, ha, hb, e⟩ => by subst e; exact kk cap ha hb
theorem OpV.cutB0 {x : Operand} {hi mx : Option Operand} {t e h c' id off m cap : Nat} {i j : TI} (ho : o.op = .slice t x none hi mx) (hx : S.ev x = some (.bs id off m cap)) (ht : lk (TC.T cx.P) t = some i) (hd : i.d = .slice e) (he : lk (TC.T cx.P) e = some j)
    (h2 : bdV S m hi = some (h : Int)) (h3 : bdV S cap mx = some (c' : Int)) (hmx : (mx.isSome && hi.isNone) = false) (hh : h ≤ c') (hc : c' ≤ cap) : OpV cx o S (.bs id off h c') := by
  have := OpV.cutB (l := 0) ho hx ht hd he rfl h2 h3 hmx (Nat.zero_le _) hh hc
  simpa using this
end
theorem writeC_mid {pre mid post l : List PV} {off : Nat} (h1 : pre.length = off) (h2 : mid.length = l.length) : writeC (pre ++ (mid ++ post)) off l = pre ++ (l ++ post) := by
  subst h1
  unfold writeC
  rw [List.take_left, ← List.drop_drop, List.drop_left, ← h2, List.drop_left]
theorem writeC_nil (cs : List PV) (off : Nat) : writeC cs off [] = cs := by simp [writeC]
theorem writeC_rep {pre l : List PV} {off k : Nat} {q : PV} (h1 : pre.length = off) (h2 : l.length ≤ k) : writeC (pre ++ List.replicate k q) off l = (pre ++ l) ++ List.replicate (k - l.length) q := by
  have : List.replicate k q = List.replicate l.length q ++ List.replicate (k - l.length) q := by rw [List.replicate_append_replicate]; congr 1; omega
  rw [this, writeC_mid h1 (by simp), List.append_assoc]
theorem packed_flat {es : List (List PV)} {r e : List PV} {sz k : Nat} (hz : ∀ e ∈ es, e.length = sz) (hk : es[k]? = some e) : (es.flatten ++ r).drop (k * sz) = e ++ ((es.drop (k + 1)).flatten ++ r) := by
  have h := (List.getElem?_eq_some_iff.1 hk).1
  have e1 : es = es.take k ++ (e :: es.drop (k + 1)) := by
    conv => lhs; rw [← List.take_append_drop k es]
    rw [List.drop_eq_getElem_cons h, (List.getElem?_eq_some_iff.1 hk).2]
  have e2 : (es.take k).flatten.length = k * sz := by
    rw [flat_len (fun e he => hz e (List.mem_of_mem_take he)), List.length_take, Nat.min_eq_left (by omega)]
  conv => lhs; rw [e1]
  rw [List.flatten_append, List.flatten_cons, List.append_assoc, List.append_assoc, ← e2, List.drop_left]
end Go.Pw
