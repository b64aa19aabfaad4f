/- The walks, first text: numbers, signs. -/
import Derived.Test.YtkganhdglmbpoaaGreatWa
import Derived.Test.YtkganhdglmbpoaaGreatTc
set_option linter.unusedVariables false
set_option linter.unusedSimpArgs false
set_option maxRecDepth 100000
namespace Go.Wl
open Go Go.RowKit Go.Pw Go.Proofs
theorem mixed : Tryz.prog.follows .mixedOrders = true := by kernel_rfl
theorem putb {c c' : Bool} (h : c = c') {t : Nat} {e : List (Nat × PV)} {hh : PH} : (⟨(t, .lit (.bool c)) :: e, hh⟩ : PS) = PS.put ⟨e, hh⟩ (some t) (.lit (.bool c')) := by rw [h]; rfl
/- spec.l1In -/
theorem spec_l1In_spec (n lo hi : Int) : Pw.Spec Tryz.prog 34 [eI n, eI lo, eI hi] (fun p => p = eT (inB n lo hi)) := by
  refine spec_of (n := 15) Tryz.call34 Tryz.func34 rfl rfl (by simp) rfl rfl fun W Z => ?_
  refine PW.seq ?_
  refine PW.region ?_
  refine PL.run 1 rfl ?_
  refine PL.nil ?_
  refine PW.seq ?_
  refine PW.region ?_
  refine PL.run 4 rfl ?_
  refine PL.split (t := 10) rfl (fun h1 => ?_) (fun h1 => ?_)
  ·
    refine PL.run 5 rfl ?_
    refine PL.nil ?_
    refine PW.ret ?_
    refine RetOk.free rfl rfl ?_; simp_all [inB] <;> (intros; omega)
  ·
    refine PL.run 5 rfl ?_
    refine PL.nil ?_
    refine PW.ret ?_
    refine RetOk.free rfl rfl ?_; simp_all [inB] <;> (intros; omega)
/- impl.in -/
theorem impl_in_spec (n lo hi : Int) : Pw.Spec Tryz.prog 43 [eI n, eI lo, eI hi] (fun p => p = eT (inB n lo hi)) := by
  refine spec_of (n := 15) Tryz.call43 Tryz.func43 rfl rfl (by simp) rfl rfl fun W Z => ?_
  refine PW.seq ?_
  refine PW.region ?_
  refine PL.run 1 rfl ?_
  refine PL.nil ?_
  refine PW.seq ?_
  refine PW.region ?_
  refine PL.run 4 rfl ?_
  refine PL.split (t := 10) rfl (fun h1 => ?_) (fun h1 => ?_)
  ·
    refine PL.run 5 rfl ?_
    refine PL.nil ?_
    refine PW.ret ?_
    refine RetOk.free rfl rfl ?_; simp_all [inB] <;> (intros; omega)
  ·
    refine PL.run 5 rfl ?_
    refine PL.nil ?_
    refine PW.ret ?_
    refine RetOk.free rfl rfl ?_; simp_all [inB] <;> (intros; omega)
/- spec.l1Bit -/
theorem spec_l1Bit_spec (b : Bool) : Pw.Spec Tryz.prog 135 [eT b] (fun p => p = eI (bit b)) := by
  refine spec_of (n := 4) Tryz.call135 Tryz.func135 rfl rfl (by simp) rfl rfl fun W Z => ?_
  refine PW.seq ?_
  refine PW.region ?_
  refine PL.run 1 rfl ?_
  refine PL.nil ?_
  refine PW.seq ?_
  refine PW.seq ?_
  refine PW.region ?_
  refine PL.run 1 rfl ?_
  refine PL.nil ?_
  refine PW.cond rfl (fun h1 => ?_) (fun h1 => ?_)
  ·
    refine PW.seq ?_
    refine PW.region ?_
    refine PL.run 1 rfl ?_
    refine PL.nil ?_
    refine PW.ret ?_
    refine RetOk.free rfl rfl ?_; simp_all [bit]
  ·
    refine PW.skip ?_
    refine PW.seq ?_
    refine PW.region ?_
    refine PL.run 1 rfl ?_
    refine PL.nil ?_
    refine PW.ret ?_
    refine RetOk.free rfl rfl ?_; simp_all [bit]
/- spec.l1Sign -/
theorem spec_l1Sign_spec (b : UInt8) : Pw.Spec Tryz.prog 143 [.lit (.int .u8 (b.toNat : Int))] (fun p => p = eI (sign b.toNat)) := by
  refine spec_of (n := 23) Tryz.call143 Tryz.func143 rfl rfl (by simp) rfl rfl fun W Z => ?_
  have hb : b.toNat < 256 := b.toNat_lt
  refine PW.seq ?_
  refine PW.region ?_
  refine PL.run 1 rfl ?_
  refine PL.nil ?_
  refine PW.seq ?_
  refine PW.block ?_
  refine PW.seq ?_
  refine PW.region ?_
  refine PL.run 3 rfl ?_
  refine PL.split (t := 6) rfl (fun h1 => ?_) (fun h1 => ?_)
  ·
    refine PL.run 4 rfl ?_
    refine PL.nil ?_
    refine PW.cond rfl (fun h2 => ?_) (fun h2 => ?_)
    ·
      refine PW.seq ?_
      refine PW.region ?_
      refine PL.run 4 rfl ?_
      refine PL.nil ?_
      refine PW.ret ?_
      refine RetOk.free rfl rfl (congrArg (fun n => PV.lit (.int .i64 n)) ?_)
      simp only [decide_eq_true_eq, decide_eq_false_iff_not] at *
      try rw [wrap_id (x := (b.toNat : Int)) (by omega) (by omega), wrap_id (by omega) (by omega)]
      unfold sign
      split <;> (try split) <;> omega
    ·
      refine PW.seq ?_
      refine PW.region ?_
      refine PL.run 3 rfl ?_
      refine PL.split (t := 16) rfl (fun h3 => ?_) (fun h3 => ?_)
      ·
        refine PL.run 4 rfl ?_
        refine PL.nil ?_
        refine PW.cond rfl (fun h4 => ?_) (fun h4 => ?_)
        ·
          refine PW.seq ?_
          refine PW.region ?_
          refine PL.run 4 rfl ?_
          refine PL.nil ?_
          refine PW.ret ?_
          refine RetOk.free rfl rfl (congrArg (fun n => PV.lit (.int .i64 n)) ?_)
          simp only [decide_eq_true_eq, decide_eq_false_iff_not] at *
          try rw [wrap_id (x := (b.toNat : Int)) (by omega) (by omega), wrap_id (by omega) (by omega)]
          unfold sign
          split <;> (try split) <;> omega
        ·
          refine PW.skip ?_
          refine PW.seq ?_
          refine PW.region ?_
          refine PL.run 1 rfl ?_
          refine PL.nil ?_
          refine PW.ret ?_
          refine RetOk.free rfl rfl (congrArg (fun n => PV.lit (.int .i64 n)) ?_)
          simp only [decide_eq_true_eq, decide_eq_false_iff_not] at *
          try rw [wrap_id (x := (b.toNat : Int)) (by omega) (by omega), wrap_id (by omega) (by omega)]
          unfold sign
          split <;> (try split) <;> omega
      ·
        refine PL.run 4 rfl ?_
        refine PL.nil ?_
        refine PW.condF rfl ?_
        refine PW.skip ?_
        refine PW.seq ?_
        refine PW.region ?_
        refine PL.run 1 rfl ?_
        refine PL.nil ?_
        refine PW.ret ?_
        refine RetOk.free rfl rfl (congrArg (fun n => PV.lit (.int .i64 n)) ?_)
        simp only [decide_eq_true_eq, decide_eq_false_iff_not] at *
        try rw [wrap_id (x := (b.toNat : Int)) (by omega) (by omega), wrap_id (by omega) (by omega)]
        unfold sign
        split <;> (try split) <;> omega
  ·
    refine PL.run 4 rfl ?_
    refine PL.nil ?_
    refine PW.condF rfl ?_
    refine PW.seq ?_
    refine PW.region ?_
    refine PL.run 3 rfl ?_
    refine PL.split (t := 16) rfl (fun h5 => ?_) (fun h5 => ?_)
    ·
      refine PL.run 4 rfl ?_
      refine PL.nil ?_
      refine PW.cond rfl (fun h6 => ?_) (fun h6 => ?_)
      ·
        refine PW.seq ?_
        refine PW.region ?_
        refine PL.run 4 rfl ?_
        refine PL.nil ?_
        refine PW.ret ?_
        refine RetOk.free rfl rfl (congrArg (fun n => PV.lit (.int .i64 n)) ?_)
        simp only [decide_eq_true_eq, decide_eq_false_iff_not] at *
        try rw [wrap_id (x := (b.toNat : Int)) (by omega) (by omega), wrap_id (by omega) (by omega)]
        unfold sign
        split <;> (try split) <;> omega
      ·
        refine PW.skip ?_
        refine PW.seq ?_
        refine PW.region ?_
        refine PL.run 1 rfl ?_
        refine PL.nil ?_
        refine PW.ret ?_
        refine RetOk.free rfl rfl (congrArg (fun n => PV.lit (.int .i64 n)) ?_)
        simp only [decide_eq_true_eq, decide_eq_false_iff_not] at *
        try rw [wrap_id (x := (b.toNat : Int)) (by omega) (by omega), wrap_id (by omega) (by omega)]
        unfold sign
        split <;> (try split) <;> omega
    ·
      refine PL.run 4 rfl ?_
      refine PL.nil ?_
      refine PW.condF rfl ?_
      refine PW.skip ?_
      refine PW.seq ?_
      refine PW.region ?_
      refine PL.run 1 rfl ?_
      refine PL.nil ?_
      refine PW.ret ?_
      refine RetOk.free rfl rfl (congrArg (fun n => PV.lit (.int .i64 n)) ?_)
      simp only [decide_eq_true_eq, decide_eq_false_iff_not] at *
      try rw [wrap_id (x := (b.toNat : Int)) (by omega) (by omega), wrap_id (by omega) (by omega)]
      unfold sign
      split <;> (try split) <;> omega
end Go.Wl
