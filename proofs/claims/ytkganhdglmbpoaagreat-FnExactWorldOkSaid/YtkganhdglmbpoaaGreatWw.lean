/- The walks, twenty-second text: put, take, play (the program's). -/
import Derived.Test.YtkganhdglmbpoaaGreatWv
set_option linter.unusedVariables false
set_option linter.unusedSimpArgs false
set_option maxRecDepth 100000
set_option maxHeartbeats 8000000
namespace Go.Wl
open Go Go.RowKit Go.Pw Go.Proofs
theorem keep_pos {x : Item} (h : 0 < x.topic) (q : List Item) : kept (same2 x) q = q.filter (keepB x) := by
  unfold kept
  congr 1
  funext y
  have : ¬ x.topic ≤ 0 := by omega
  simp [same2, keepB, this]
theorem keep_neg {x : Item} (h : ¬ 0 < x.topic) (q : List Item) : q.filter (keepB x) = q :=
  List.filter_eq_self.2 fun y _ => by have : x.topic ≤ 0 := by omega
                                      simp [keepB, this]
/- impl.Put -/
theorem impl_Put_spec (q : List Item) (x : Item) (hq : Sm q) (hl : q.length < 16777216) (hr : x.route.size ≤ 1099511627776) (hb : x.bytes.length ≤ 16777216) : Pw.Spec Tryz.prog 123 [eItems q, .agg (eItem x)] (fun res_ => res_ = .tup [eItems (putQ q x), eT (queueOk (putL q x))]) := by
  refine spec_of (n := 26) Tryz.call123 Tryz.func123 rfl rfl (by simp) rfl rfl fun W Z => ?_
  have hsp := hq.put hl hr hb
  refine PW.seq ?_
  refine PW.region ?_
  refine PL.run 3 rfl ?_
  refine PL.nil ?_
  refine PW.seq ?_
  refine PW.region ?_
  refine PL.run 1 rfl ?_
  refine PL.le (Le.freezeP (tv := 3) (id := 3) (cs := eItem x) (e := [(7, eItems q), (0, eItems q)]) rfl rfl rfl) ?_
  refine PL.callB0 rfl rfl rfl (impl_cloneItems_spec q hq) (wkl_refl _) rfl (clone_fresh rfl) (wantV_ok rfl) rfl (fun p h hp => ?_)
  rcases hp with ⟨hnil, rfl, rfl⟩ | ⟨hne, t, cap, r, rfl, rfl, hrf, hroom, hcap, hmax⟩
  ·
    refine PL.run 1 rfl ?_
    refine PL.nil ?_
    refine PW.seq ?_
    refine PW.seq ?_
    refine PW.region ?_
    refine PL.run 3 rfl ?_
    refine PL.nil ?_
    refine PW.cond rfl (fun h1 => ?_) (fun h1 => ?_)
    ·
      have hput : [x] = putL q x := by rw [hnil]; rfl
      refine PW.region ?_
      refine PL.run 2 rfl ?_
      refine PL.call rfl rfl rfl (deleteFunc_nil 149 [.rp (eItem x)] (same2 x) rfl (fun y => impl_Put_1_spec x y)) (wkl_refl _) (fun p hp => by subst hp; rfl) (wantV_ok rfl) rfl (fun p hp => ?_)
      subst hp
      refine PL.run 1 rfl ?_
      refine PL.nil ?_
      refine PW.seq ?_
      refine PW.region ?_
      refine PL.run 2 rfl ?_
      refine PL.call rfl rfl rfl (impl_cloneItem_spec x hb) (.cons (.refl _) <| .nil) (fun p hp => by subst hp; rfl) (wantV_ok rfl) rfl (fun p hp => ?_)
      subst hp
      refine PL.run 1 rfl ?_
      refine PL.appNew (sz := 4) (new := [eItem x]) rfl rfl rfl rfl (.inl rfl) (Nat.succ_pos _) rfl rfl rfl rfl rfl rfl rfl (Nat.le_of_ble_eq_true rfl) (Nat.le_of_ble_eq_true rfl) (wantV_ok rfl) rfl (fun cap1 hc1 hc2 => ?_)
      refine PL.run 1 rfl ?_
      refine PL.nil ?_
      refine PW.seq ?_
      refine PW.seq ?_
      refine PW.region ?_
      refine PL.run 1 rfl ?_
      refine PL.le (Le.freezeS2 (tv := 6) (tw := 20) (id := 19) (sz := 4) (es := [eItem x]) (r := zrow _ (cap1 - 1)) (e := [(0, eItems q)]) rfl rfl rfl (by rw [freeL_append, zrow_free]; rfl) rfl rfl (item_len [x]) hc1) ?_
      refine PL.call rfl rfl rfl (impl_QueueOk_spec (putL q x) hsp) (.cons (wkrow (by rw [← hput]; rfl)) .nil) (fun p hp => by subst hp; rfl) (wantV_ok rfl) rfl (fun p hp => ?_)
      subst hp
      refine PL.run 1 rfl ?_
      refine PL.nil ?_
      refine PW.cond rfl (fun h2 => ?_) (fun h2 => ?_)
      ·
        refine PW.seq ?_
        refine PW.region ?_
        refine PL.run 1 rfl ?_
        refine PL.callB0 rfl rfl rfl (impl_cloneItems_spec q hq) (wkl_refl _) rfl (clone_fresh rfl) (wantV_ok rfl) rfl (fun p h hp => ?_)
        rcases hp with ⟨hnil2, rfl, rfl⟩ | ⟨hne2, t2, cap2, r3, rfl, rfl, hrf2, hroom2, hcap3, hmax2⟩
        ·
          refine PL.run 2 rfl ?_
          refine PL.nil ?_
          skip
          refine PW.ret ?_
          refine RetOk.of rfl (.tup (.cons (.leaf (.nil0 4)) (.cons (.leaf (.same _ rfl)) .nil))) (by simp) (by simp) ?_
          have hno : queueOk (putL q x) = false := by simpa using h2
          have e : putQ q x = q := by simp [putQ, hno]
          rw [e, hno, hnil2]; rfl
        ·
          refine PL.run 2 rfl ?_
          refine PL.nil ?_
          refine PW.le (Le.freezeS (tv := 4) (sz := 4) (es := q.map eItem) (r := r3) (e := [(5, eT false)]) rfl rfl (rowC_free hrf2) rfl rfl (item_len _) (by rw [List.length_map]; exact hcap3)) ?_
          refine PW.ret ?_
          refine RetOk.free rfl rfl ?_
          have hno : queueOk (putL q x) = false := by simpa using h2
          have e : putQ q x = q := by simp [putQ, hno]
          rw [e, hno]; rfl
      ·
        refine PW.skip ?_
        refine PW.seq ?_
        refine PW.region ?_
        refine PL.run 3 rfl ?_
        refine PL.nil ?_
        skip
        refine PW.ret ?_
        refine RetOk.free rfl rfl ?_
        have hyes : queueOk (putL q x) = true := by simpa using h2
        have e : putQ q x = putL q x := by simp [putQ, hyes]
        rw [e, hyes, ← hput]; rfl
    ·
      have hput : [x] = putL q x := by rw [hnil]; rfl
      refine PW.skip ?_
      refine PW.seq ?_
      refine PW.region ?_
      refine PL.run 2 rfl ?_
      refine PL.call rfl rfl rfl (impl_cloneItem_spec x hb) (.cons (.refl _) <| .nil) (fun p hp => by subst hp; rfl) (wantV_ok rfl) rfl (fun p hp => ?_)
      subst hp
      refine PL.run 1 rfl ?_
      refine PL.appNew (sz := 4) (new := [eItem x]) rfl rfl rfl rfl (.inl rfl) (Nat.succ_pos _) rfl rfl rfl rfl rfl rfl rfl (Nat.le_of_ble_eq_true rfl) (Nat.le_of_ble_eq_true rfl) (wantV_ok rfl) rfl (fun cap1 hc1 hc2 => ?_)
      refine PL.run 1 rfl ?_
      refine PL.nil ?_
      refine PW.seq ?_
      refine PW.seq ?_
      refine PW.region ?_
      refine PL.run 1 rfl ?_
      refine PL.le (Le.freezeS2 (tv := 6) (tw := 20) (id := 19) (sz := 4) (es := [eItem x]) (r := zrow _ (cap1 - 1)) (e := [(0, eItems q)]) rfl rfl rfl (by rw [freeL_append, zrow_free]; rfl) rfl rfl (item_len [x]) hc1) ?_
      refine PL.call rfl rfl rfl (impl_QueueOk_spec (putL q x) hsp) (.cons (wkrow (by rw [← hput]; rfl)) .nil) (fun p hp => by subst hp; rfl) (wantV_ok rfl) rfl (fun p hp => ?_)
      subst hp
      refine PL.run 1 rfl ?_
      refine PL.nil ?_
      refine PW.cond rfl (fun h3 => ?_) (fun h3 => ?_)
      ·
        refine PW.seq ?_
        refine PW.region ?_
        refine PL.run 1 rfl ?_
        refine PL.callB0 rfl rfl rfl (impl_cloneItems_spec q hq) (wkl_refl _) rfl (clone_fresh rfl) (wantV_ok rfl) rfl (fun p h hp => ?_)
        rcases hp with ⟨hnil2, rfl, rfl⟩ | ⟨hne2, t2, cap2, r3, rfl, rfl, hrf2, hroom2, hcap3, hmax2⟩
        ·
          refine PL.run 2 rfl ?_
          refine PL.nil ?_
          skip
          refine PW.ret ?_
          refine RetOk.of rfl (.tup (.cons (.leaf (.nil0 4)) (.cons (.leaf (.same _ rfl)) .nil))) (by simp) (by simp) ?_
          have hno : queueOk (putL q x) = false := by simpa using h3
          have e : putQ q x = q := by simp [putQ, hno]
          rw [e, hno, hnil2]; rfl
        ·
          refine PL.run 2 rfl ?_
          refine PL.nil ?_
          refine PW.le (Le.freezeS (tv := 4) (sz := 4) (es := q.map eItem) (r := r3) (e := [(5, eT false)]) rfl rfl (rowC_free hrf2) rfl rfl (item_len _) (by rw [List.length_map]; exact hcap3)) ?_
          refine PW.ret ?_
          refine RetOk.free rfl rfl ?_
          have hno : queueOk (putL q x) = false := by simpa using h3
          have e : putQ q x = q := by simp [putQ, hno]
          rw [e, hno]; rfl
      ·
        refine PW.skip ?_
        refine PW.seq ?_
        refine PW.region ?_
        refine PL.run 3 rfl ?_
        refine PL.nil ?_
        skip
        refine PW.ret ?_
        refine RetOk.free rfl rfl ?_
        have hyes : queueOk (putL q x) = true := by simpa using h3
        have e : putQ q x = putL q x := by simp [putQ, hyes]
        rw [e, hyes, ← hput]; rfl
  ·
    refine PL.run 1 rfl ?_
    refine PL.nil ?_
    refine PW.seq ?_
    refine PW.seq ?_
    refine PW.region ?_
    refine PL.run 3 rfl ?_
    refine PL.nil ?_
    refine PW.cond rfl (fun h4 => ?_) (fun h4 => ?_)
    ·
      have hput : q.filter (keepB x) ++ [x] = putL q x := rfl
      refine PW.region ?_
      refine PL.run 2 rfl ?_
      refine PL.callB [(0, eItems q), (3, .rp (eItem x))] rfl rfl rfl (deleteFunc_box q 149 [.rp (eItem x)] (same2 x) rfl (by omega) (fun y => impl_Put_1_spec x y) t cap r hrf hcap) rfl (wkl_refl _) (wantV_ok rfl) rfl (fun p h hp => ?_)
      obtain ⟨r2, rfl, rfl, hr2, hl2⟩ := hp
      rw [keep_pos (of_decide_eq_true h4)] at hl2 ⊢
      have hk := List.length_filter_le (keepB x) q
      have hcap2 : cap * 4 ≤ (rowC (q.filter (keepB x)) r2).length := by rw [hl2, rowC_len]; omega
      refine PL.run 1 rfl ?_
      refine PL.nil ?_
      refine PW.seq ?_
      refine PW.region ?_
      refine PL.run 2 rfl ?_
      refine PL.call rfl rfl rfl (impl_cloneItem_spec x hb) (.cons (.refl _) <| .nil) (fun p hp => by subst hp; rfl) (wantV_ok rfl) rfl (fun p hp => ?_)
      subst hp
      refine PL.run 1 rfl ?_
      refine PL.appB (sz := 4) (new := [eItem x]) [(0, eItems q)] rfl rfl rfl rfl rfl rfl hcap2 (rowC_free hr2) (by rw [List.length_map]; omega) hmax rfl rfl rfl rfl rfl rfl (by simp <;> omega) (by simp <;> omega) (wantV_ok rfl) rfl (fun cap1 bt1 sl k1 k2 k3 k4 => ?_)
      refine PL.run 1 rfl ?_
      refine PL.nil ?_
      refine PW.seq ?_
      refine PW.seq ?_
      refine PW.region ?_
      refine PL.run 1 rfl ?_
      have ec : (rowC (q.filter (keepB x)) r2).take (((q.filter (keepB x)).map eItem).length * 4) ++ (([eItem x] : List (List PV)).flatten ++ sl) = ((((q.filter (keepB x)) ++ [x]).map eItem).flatten ++ sl) := by
       rw [rowC_take (List.length_map ..)]; simp [rowC]
      refine PL.le (Le.freezeS2 (tv := 6) (tw := 20) (id := 19) (sz := 4) (es := ((q.filter (keepB x)) ++ [x]).map eItem) (r := sl) (e := [(0, eItems q)]) rfl rfl rfl ((congrArg freeL ec).trans (by rw [freeL_append, items_free, k4]; rfl)) ec (by simp) (item_len _) k1) ?_
      refine PL.call rfl rfl rfl (impl_QueueOk_spec (putL q x) hsp) (.cons (wkrow (by rw [← hput])) .nil) (fun p hp => by subst hp; rfl) (wantV_ok rfl) rfl (fun p hp => ?_)
      subst hp
      refine PL.run 1 rfl ?_
      refine PL.nil ?_
      refine PW.cond rfl (fun h5 => ?_) (fun h5 => ?_)
      ·
        refine PW.seq ?_
        refine PW.region ?_
        refine PL.run 1 rfl ?_
        refine PL.callB0 rfl rfl rfl (impl_cloneItems_spec q hq) (wkl_refl _) rfl (clone_fresh rfl) (wantV_ok rfl) rfl (fun p h hp => ?_)
        rcases hp with ⟨hnil2, rfl, rfl⟩ | ⟨hne2, t2, cap2, r3, rfl, rfl, hrf2, hroom2, hcap3, hmax2⟩
        ·
          refine PL.run 2 rfl ?_
          refine PL.nil ?_
          skip
          refine PW.ret ?_
          refine RetOk.of rfl (.tup (.cons (.leaf (.nil0 4)) (.cons (.leaf (.same _ rfl)) .nil))) (by simp) (by simp) ?_
          have hno : queueOk (putL q x) = false := by simpa using h5
          have e : putQ q x = q := by simp [putQ, hno]
          rw [e, hno, hnil2]; rfl
        ·
          refine PL.run 2 rfl ?_
          refine PL.nil ?_
          refine PW.le (Le.freezeS (tv := 4) (sz := 4) (es := q.map eItem) (r := r3) (e := [(5, eT false)]) rfl rfl (rowC_free hrf2) rfl rfl (item_len _) (by rw [List.length_map]; exact hcap3)) ?_
          refine PW.ret ?_
          refine RetOk.free rfl rfl ?_
          have hno : queueOk (putL q x) = false := by simpa using h5
          have e : putQ q x = q := by simp [putQ, hno]
          rw [e, hno]; rfl
      ·
        refine PW.skip ?_
        refine PW.seq ?_
        refine PW.region ?_
        refine PL.run 3 rfl ?_
        refine PL.nil ?_
        skip
        refine PW.ret ?_
        refine RetOk.free rfl rfl ?_
        have hyes : queueOk (putL q x) = true := by simpa using h5
        have e : putQ q x = putL q x := by simp [putQ, hyes]
        rw [e, hyes, ← hput]; rfl
    ·
      have hput : q ++ [x] = putL q x := by rw [putL, keep_neg (of_decide_eq_false h4)]
      refine PW.skip ?_
      refine PW.seq ?_
      refine PW.region ?_
      refine PL.run 2 rfl ?_
      refine PL.call rfl rfl rfl (impl_cloneItem_spec x hb) (.cons (.refl _) <| .nil) (fun p hp => by subst hp; rfl) (wantV_ok rfl) rfl (fun p hp => ?_)
      subst hp
      refine PL.run 1 rfl ?_
      refine PL.appB (sz := 4) (new := [eItem x]) [(0, eItems q)] rfl rfl rfl rfl rfl rfl (by rw [rowC_len]; omega) (rowC_free hrf) (by rw [List.length_map]; omega) hmax rfl rfl rfl rfl rfl rfl (by simp <;> omega) (by simp <;> omega) (wantV_ok rfl) rfl (fun cap1 bt1 sl k1 k2 k3 k4 => ?_)
      refine PL.run 1 rfl ?_
      refine PL.nil ?_
      refine PW.seq ?_
      refine PW.seq ?_
      refine PW.region ?_
      refine PL.run 1 rfl ?_
      have ec : (rowC (q) r).take (((q).map eItem).length * 4) ++ (([eItem x] : List (List PV)).flatten ++ sl) = ((((q) ++ [x]).map eItem).flatten ++ sl) := by
       rw [rowC_take (List.length_map ..)]; simp [rowC]
      refine PL.le (Le.freezeS2 (tv := 6) (tw := 20) (id := 19) (sz := 4) (es := ((q) ++ [x]).map eItem) (r := sl) (e := [(0, eItems q)]) rfl rfl rfl ((congrArg freeL ec).trans (by rw [freeL_append, items_free, k4]; rfl)) ec (by simp) (item_len _) k1) ?_
      refine PL.call rfl rfl rfl (impl_QueueOk_spec (putL q x) hsp) (.cons (wkrow (by rw [← hput])) .nil) (fun p hp => by subst hp; rfl) (wantV_ok rfl) rfl (fun p hp => ?_)
      subst hp
      refine PL.run 1 rfl ?_
      refine PL.nil ?_
      refine PW.cond rfl (fun h6 => ?_) (fun h6 => ?_)
      ·
        refine PW.seq ?_
        refine PW.region ?_
        refine PL.run 1 rfl ?_
        refine PL.callB0 rfl rfl rfl (impl_cloneItems_spec q hq) (wkl_refl _) rfl (clone_fresh rfl) (wantV_ok rfl) rfl (fun p h hp => ?_)
        rcases hp with ⟨hnil2, rfl, rfl⟩ | ⟨hne2, t2, cap2, r3, rfl, rfl, hrf2, hroom2, hcap3, hmax2⟩
        ·
          refine PL.run 2 rfl ?_
          refine PL.nil ?_
          skip
          refine PW.ret ?_
          refine RetOk.of rfl (.tup (.cons (.leaf (.nil0 4)) (.cons (.leaf (.same _ rfl)) .nil))) (by simp) (by simp) ?_
          have hno : queueOk (putL q x) = false := by simpa using h6
          have e : putQ q x = q := by simp [putQ, hno]
          rw [e, hno, hnil2]; rfl
        ·
          refine PL.run 2 rfl ?_
          refine PL.nil ?_
          refine PW.le (Le.freezeS (tv := 4) (sz := 4) (es := q.map eItem) (r := r3) (e := [(5, eT false)]) rfl rfl (rowC_free hrf2) rfl rfl (item_len _) (by rw [List.length_map]; exact hcap3)) ?_
          refine PW.ret ?_
          refine RetOk.free rfl rfl ?_
          have hno : queueOk (putL q x) = false := by simpa using h6
          have e : putQ q x = q := by simp [putQ, hno]
          rw [e, hno]; rfl
      ·
        refine PW.skip ?_
        refine PW.seq ?_
        refine PW.region ?_
        refine PL.run 3 rfl ?_
        refine PL.nil ?_
        skip
        refine PW.ret ?_
        refine RetOk.free rfl rfl ?_
        have hyes : queueOk (putL q x) = true := by simpa using h6
        have e : putQ q x = putL q x := by simp [putQ, hyes]
        rw [e, hyes, ← hput]; rfl
theorem clone_ne {i : Nat} {q : List Item} (h : i ≠ 1000) : ∀ p h', CloneR q p h' → lk h'.bx i = none := fun p h' hp => by
  rcases hp with ⟨_, rfl, rfl⟩ | ⟨_, t, cap, r, rfl, rfl, _⟩
  · rfl
  · rw [lk_cons, if_neg (fun e => h e.symm)]; rfl
theorem del_one {k : List Item} {t cap n : Nat} : ∀ p h', DelR k t cap n p h' → ∃ x' off m cap', p = .bs 1000 off m cap' ∧ h' = ⟨[(1000, x')], []⟩ ∧ freeL x'.2 = true := fun p h' hp => by
  obtain ⟨r', rfl, rfl, hr, _⟩ := hp
  exact ⟨_, _, _, _, rfl, rfl, rowC_free hr⟩
theorem take_idx_some {q : List Item} {r : ByteArray} {i : Nat} {x : Item} (h : q[i]? = some x) (hf : (decide (x.route = r)) = true) (hb : ∀ (j : Nat) (y : Item), j < i → q[j]? = some y → decide (y.route = r) = false) : takeQ r q = some (x, q.take i ++ q.drop (i + 1)) :=
  takeQ_at (fun j y hj hy => by simpa using hb j y hj hy) h (by simpa using hf)
/- impl.Take -/
theorem impl_Take_spec (q : List Item) (r : ByteArray) (hq : Sm q) : Pw.Spec Tryz.prog 125 [eItems q, eS r] (fun res_ => res_ = .tup [.agg (eItem (takeX q r)), eItems (takeR q r), eT (takeQ r q).isSome]) := by
  refine spec_of (n := 28) Tryz.call125 Tryz.func125 rfl rfl (by simp) rfl rfl fun W Z => ?_
  have hlen := hq.len
  refine PW.seq ?_
  refine PW.region ?_
  refine PL.run 4 rfl ?_
  refine PL.nil ?_
  refine PW.seq ?_
  refine PW.region ?_
  refine PL.run 1 rfl ?_
  refine PL.le (Le.freezePB (tv := 3) (id := 3) (cs := [eS r]) (b := [(4, (64, zI))]) (e := [(9, eItems q), (0, eItems q), (4, .bx 4 0)]) rfl rfl rfl rfl ⟨⟨rfl, rfl⟩, trivial⟩ ⟨⟨rfl, rfl⟩, ⟨rfl, rfl⟩, ⟨rfl, rfl⟩, trivial⟩) ?_
  refine PL.callB0o 2 4 rfl rfl rfl (impl_cloneItems_spec q hq) (wkl_refl _) rfl (clone_fresh rfl) rfl (clone_ne (by decide)) rfl (wantV_ok rfl) rfl (fun p h hp => ?_)
  rcases hp with ⟨hnil, rfl, rfl⟩ | ⟨hne, t, cap, r2, rfl, rfl, hrf, hroom, hcap, hmax⟩
  ·
    refine PL.run 1 rfl ?_
    refine PL.nil ?_
    refine PW.seq ?_
    refine PW.region ?_
    refine PL.run 2 rfl ?_
    refine PL.call rfl rfl rfl (slices_IndexFunc__impl_Item_impl_Item_spec q 151 [.rp [eS r]] (fun y => decide (y.route = r)) rfl hlen (fun i y _ => impl_Take_1_spec r y)) (wkl_refl _) (fun p hp => by subst hp; rfl) (wantV_ok rfl) rfl (fun p hp => ?_)
    subst hp
    refine PL.run 1 rfl ?_
    refine PL.nil ?_
    refine PW.seq ?_
    refine PW.seq ?_
    refine PW.region ?_
    refine PL.run 2 rfl ?_
    refine PL.nil ?_
    refine PW.cond rfl (fun h1 => ?_) (fun h1 => ?_)
    ·
      skip
      refine PW.seq ?_
      refine PW.region ?_
      refine PL.val (OpV.build rfl rfl rfl rfl rfl rfl) (wantV_ok rfl) rfl ?_
      refine PL.run 4 rfl ?_
      refine PL.nil ?_
      skip
      refine PW.ret ?_
      refine RetOk.of rfl (.tup (.cons (.agg (.cons (.same _ rfl) (.cons (.same _ rfl) (.cons (.same _ rfl) (.cons (.nil0 1) .nil))))) (.cons (.leaf (.nil0 4)) (.cons (.leaf (.same _ rfl)) .nil)))) (by simp) (by simp) ?_
      subst hnil; rfl
    ·
      exact absurd h1 (by subst hnil; simp [idx])
  ·
    refine PL.run 1 rfl ?_
    refine PL.nil ?_
    refine PW.seq ?_
    refine PW.region ?_
    refine PL.run 2 rfl ?_
    refine PL.call rfl rfl rfl (slices_IndexFunc__impl_Item_impl_Item_spec q 151 [.rp [eS r]] (fun y => decide (y.route = r)) rfl hlen (fun i y _ => impl_Take_1_spec r y)) (wkl_refl _) (fun p hp => by subst hp; rfl) (wantV_ok rfl) rfl (fun p hp => ?_)
    subst hp
    refine PL.run 1 rfl ?_
    refine PL.nil ?_
    refine PW.seq ?_
    refine PW.seq ?_
    refine PW.region ?_
    refine PL.run 2 rfl ?_
    refine PL.nil ?_
    refine PW.cond rfl (fun h2 => ?_) (fun h2 => ?_)
    ·
      refine PW.seq ?_
      refine PW.region ?_
      refine PL.val (OpV.build rfl rfl rfl rfl rfl rfl) (wantV_ok rfl) rfl ?_
      refine PL.run 4 rfl ?_
      refine PL.nil ?_
      refine PW.le (Le.freezeBS (tv := 5) (id := 1000) (sz := 4) (es := q.map eItem) (r := r2) (b := [(4, (64, zI))]) (e := [(4, .bx 4 0), (6, eT false)]) rfl rfl (rowC_free hrf) rfl rfl (item_len _) (by rw [List.length_map]; exact hcap) rfl) ?_
      refine PW.ret ?_
      have h2 := of_decide_eq_true h2
      have hno : takeQ r q = none := takeQ_none (fun j y hy => by simpa using idx_no (f := fun y : Item => decide (y.route = r)) h2 y (List.mem_of_getElem? hy))
      refine RetOk.of rfl (.tup (.cons (.agg (.cons (.same _ rfl) (.cons (.same _ rfl) (.cons (.same _ rfl) (.cons (.nil0 1) .nil))))) (.cons (.leaf (.same _ rfl)) (.cons (.leaf (.same _ rfl)) .nil)))) (by simp) (by simp) ?_
      simp [takeX, takeR, hno, eItem, item0, eBs, eItems]
      rfl
    ·
      obtain ⟨i, x, ei, hx, hfx, hbx⟩ := idx_some (f := fun y : Item => decide (y.route = r)) (l := q) (by have := of_decide_eq_false h2; omega)
      clear h2
      have hi := (List.getElem?_eq_some_iff.1 hx).1
      have htk := take_idx_some hx hfx hbx
      refine PW.skip ?_
      refine PW.seq ?_
      refine PW.region ?_
      refine PL.run 2 rfl ?_
      refine PL.val (OpV.idx rfl rfl rfl (by rw [ei]; exact nat_nonneg i) (by rw [ei]; exact map_at' hx) rfl rfl rfl rfl) (wantV_ok rfl) rfl ?_
      refine PL.run 1 rfl ?_
      refine PL.call rfl rfl rfl (impl_cloneItem_spec x (hq.bytes i x hx)) (.cons (.refl _) <| .nil) (fun p hp => by subst hp; rfl) (wantV_ok rfl) rfl (fun p hp => ?_)
      subst hp
      refine PL.run 4 rfl ?_
      refine PL.le (Le.boxes (b := [(1000, (t, rowC q r2)), (4, (64, zI))]) (e := [(23, .bs 1000 0 (q.map eItem).length cap), (24, eI (i : Nat)), (26, eI ((i + 1 : Nat) : Int)), (22, .agg (eItem x)), (4, .bx 4 0), (2, .ord 4 1000)]) ⟨⟨rfl, rowC_free hrf⟩, ⟨rfl, rfl⟩, trivial⟩ ⟨⟨rfl, rfl⟩, ⟨congrArg (fun n => some (eI n)) ei, rfl⟩, ⟨congrArg (fun n => some (eI n)) (by rw [ei, wrap_id (by omega) (by omega)]; rfl), rfl⟩, ⟨rfl, rfl⟩, ⟨rfl, rfl⟩, ⟨rfl, rfl⟩, trivial⟩) ?_
      refine PL.callBK [(22, .agg (eItem x)), (4, .bx 4 0)] 2 rfl rfl rfl rfl rfl (slices_Delete__impl_Item_impl_Item_spec q i hi hlen t cap r2 hrf hcap) (wkl_refl _) (by simp [okB, free]) (rowC_free hrf) rfl rfl del_one (wantV_ok rfl) rfl (fun p h hp => ?_)
      obtain ⟨r3, rfl, rfl, hr3, hl3⟩ := hp
      refine PL.run 3 rfl ?_
      refine PL.nil ?_
      refine PW.le (Le.freezeBS (tv := 5) (id := 1000) (sz := 4) (es := (q.take i ++ q.drop (i + 1)).map eItem) (r := r3) (b := [(4, (64, eItem x))]) (e := [(4, .bx 4 0), (6, eT true)]) rfl rfl (rowC_free hr3) rfl rfl (item_len _) (by rw [List.length_map, List.length_append, List.length_take, List.length_drop]; omega) rfl) ?_
      refine PW.ret ?_
      refine RetOk.free rfl rfl ?_
      simp [takeX, takeR, htk, eItems]
      rfl
theorem impl_Play_sm {q : List Item} {now : Int} {l : Line} (hq : Sm q) (hl : q.length ≤ 10) (hs : l.route.size ≤ 1099511627776) (h : l.bytes.length ≤ 16777216) : Sm (playQ q now l) ∧ (playQ q now l).length ≤ 10 := playQ_sm hq hl hs h
/- impl.Play -/
theorem impl_Play_spec (b : List UInt8) (hb : b.length ≤ 16000000) : Pw.Spec Tryz.prog 90 [eBs b] (fun res_ => res_ = playR (play b)) := by
  refine spec_of (n := 57) Tryz.call90 Tryz.func90 rfl rfl (by simp) rfl rfl fun W Z => ?_
  refine PW.seq ?_
  refine PW.region ?_
  refine PL.run 3 rfl ?_
  refine PL.nil ?_
  refine PW.seq ?_
  refine PW.region ?_
  refine PL.run 4 rfl ?_
  refine PL.nil ?_
  refine PW.block ?_
  refine PW.loopAt (α := Nat × List Item × Int × Nat) (fun x => ⟨[(5, eItems x.2.1), (0, eBs b), (6, eI x.2.2.1), (7, eI ((x.2.2.2 : Nat) : Int))], PH.none⟩) (PlOk b) (fun x => x.1) (b.length + 1, [], 0, 0) (Le.ro (.ro rfl <| .same rfl rfl <| .same rfl rfl <| .same rfl rfl .nil)) ⟨Nat.zero_le _, by simp, Sm.nil, Nat.zero_le _, rfl⟩ (fun x hx => ?_)
  obtain ⟨k, q, now, i⟩ := x
  have hi := hx.le
  have hk := hx.lt
  have hq := hx.sm
  have hl := hx.len
  have he := hx.eq
  simp only at hi hk hq hl he ⊢
  refine PW.block ?_
  refine PW.seq ?_
  refine PW.region ?_
  refine PL.run 2 rfl ?_
  refine PL.call rfl rfl rfl (impl_LineOf_spec b i hb hi) (.cons (.refl _) <| .cons (.refl _) <| .nil) (fun p hp => by subst hp; rfl) (wantV_ok rfl) rfl (fun p hp => ?_)
  subst hp
  refine PL.run 8 rfl ?_
  refine PL.nil ?_
  refine PW.seq ?_
  refine PW.seq ?_
  refine PW.region ?_
  refine PL.run 2 rfl ?_
  refine PL.nil ?_
  refine PW.cond rfl (fun h1 => ?_) (fun h1 => ?_)
  ·
    have hn : lineOf b i = none := by simpa using h1
    refine PW.seq ?_
    refine PW.region ?_
    refine PL.run 6 rfl ?_
    refine PL.nil ?_
    refine PW.ret ?_
    obtain ⟨j, rfl⟩ : ∃ j, k = j + 1 := ⟨k - 1, by omega⟩
    simp only [playF, hn] at he
    refine RetOk.free rfl rfl ?_
    rw [← he]; rfl
  ·
    obtain ⟨⟨l, n⟩, hn⟩ : ∃ p, lineOf b i = some p := Option.isSome_iff_exists.1 (by simpa using h1)
    clear h1
    obtain ⟨e1, e2, e3, e4⟩ := lineOf_some hn
    have e5 := lineAt_len b i
    have e6 := lineAt_size b i e4
    rw [← e3] at e5 e6
    have g1 : l.route.size ≤ 1099511627776 := by omega
    have g2 : l.bytes.length ≤ 16777216 := by omega
    obtain ⟨j, rfl⟩ : ∃ j, k = j + 1 := ⟨k - 1, by omega⟩
    obtain ⟨g3, g4⟩ := playQ_sm (now := now) hq hl g1 g2
    simp only [playF, hn] at he
    have hgd : ((lineOf b i).getD (line0, 0)) = (l, n) := by rw [hn]; rfl
    rw [hgd]
    have hne : (lineOf b i).isSome = true := by rw [hn]; rfl
    refine PW.skip ?_
    refine PW.seq ?_
    refine PW.region ?_
    refine PL.run 2 rfl ?_
    refine PL.nil ?_
    refine PW.seq ?_
    refine PW.region ?_
    refine PL.run 2 rfl ?_
    refine PL.nil ?_
    refine PW.block ?_
    refine PW.seq ?_
    refine PW.region ?_
    refine PL.run 2 rfl ?_
    refine PL.nil ?_
    refine PW.cond rfl (fun h2 => ?_) (fun h2 => ?_)
    ·
      refine PW.region ?_
      refine PL.run 2 rfl ?_
      refine PL.call rfl rfl rfl (impl_itemOf_spec l g2) (.cons (.refl _) <| .nil) (fun p hp => by subst hp; rfl) (wantV_ok rfl) rfl (fun p hp => ?_)
      subst hp
      refine PL.call rfl rfl rfl (impl_Put_spec q (itemOf l) hq (by omega) g1 g2) (.cons (.refl _) <| .cons (.refl _) <| .nil) (fun p hp => by subst hp; rfl) (wantV_ok rfl) rfl (fun p hp => ?_)
      subst hp
      refine PL.run 4 rfl ?_
      refine PL.nil ?_
      have hk1 : l.kind = 1 := of_decide_eq_true h2
      refine ⟨(j, playQ q now l, playT now l, n), Le.ro (.same ?_ rfl <| .same rfl rfl <| .same ?_ rfl <| .same rfl rfl .nil), ⟨e2, by simp only; omega, g3, g4, he⟩, Nat.lt_succ_self _⟩
      · simp only [playQ, if_pos hk1]; rfl
      · have k3 : ¬ l.kind = 3 := by omega
        simp only [playT, if_neg k3]; rfl
    ·
      refine PW.seq ?_
      refine PW.region ?_
      refine PL.run 2 rfl ?_
      refine PL.nil ?_
      refine PW.cond rfl (fun h3 => ?_) (fun h3 => ?_)
      ·
        refine PW.region ?_
        refine PL.run 3 rfl ?_
        refine PL.call rfl rfl rfl (impl_Take_spec q l.route hq) (.cons (.refl _) <| .cons (.refl _) <| .nil) (fun p hp => by subst hp; rfl) (wantV_ok rfl) rfl (fun p hp => ?_)
        subst hp
        refine PL.run 5 rfl ?_
        refine PL.nil ?_
        have hk1 : ¬ l.kind = 1 := of_decide_eq_false h2
        have hk2 : l.kind = 2 := of_decide_eq_true h3
        refine ⟨(j, playQ q now l, playT now l, n), Le.ro (.same ?_ rfl <| .same rfl rfl <| .same ?_ rfl <| .same rfl rfl .nil), ⟨e2, by simp only; omega, g3, g4, he⟩, Nat.lt_succ_self _⟩
        · simp only [playQ, if_neg hk1, if_pos hk2]; rfl
        · have k3 : ¬ l.kind = 3 := by omega
          simp only [playT, if_neg k3]; rfl
      ·
        refine PW.seq ?_
        refine PW.region ?_
        refine PL.run 2 rfl ?_
        refine PL.nil ?_
        refine PW.cond rfl (fun h4 => ?_) (fun h4 => ?_)
        ·
          refine PW.seq ?_
          refine PW.region ?_
          refine PL.run 4 rfl ?_
          refine PL.nil ?_
          refine PW.cond rfl (fun h5 => ?_) (fun h5 => ?_)
          ·
            refine PW.seq ?_
            refine PW.region ?_
            refine PL.run 3 rfl ?_
            refine PL.nil ?_
            refine PW.region ?_
            refine PL.run 2 rfl ?_
            refine PL.call rfl rfl rfl (impl_Due_spec q l.due hq) (.cons (.refl _) <| .cons (.refl _) <| .nil) (fun p hp => by subst hp; rfl) (wantV_ok rfl) rfl (fun p hp => ?_)
            subst hp
            refine PL.run 1 rfl ?_
            refine PL.nil ?_
            have hk1 : ¬ l.kind = 1 := of_decide_eq_false h2
            have hk2 : ¬ l.kind = 2 := of_decide_eq_false h3
            have hk3 : l.kind = 3 := of_decide_eq_true h4
            have hk4 : now ≤ l.due := of_decide_eq_true h5
            refine ⟨(j, playQ q now l, playT now l, n), Le.ro (.same ?_ rfl <| .same rfl rfl <| .same ?_ rfl <| .same rfl rfl .nil), ⟨e2, by simp only; omega, g3, g4, he⟩, Nat.lt_succ_self _⟩
            · simp only [playQ, if_neg hk1, if_neg hk2, if_pos hk3, if_pos hk4]; rfl
            · simp only [playT, if_pos hk3, if_pos hk4]; rfl
          ·
            refine PW.skip ?_
            have hk1 : ¬ l.kind = 1 := of_decide_eq_false h2
            have hk2 : ¬ l.kind = 2 := of_decide_eq_false h3
            have hk3 : l.kind = 3 := of_decide_eq_true h4
            have hk4 : ¬ now ≤ l.due := of_decide_eq_false h5
            refine ⟨(j, playQ q now l, playT now l, n), Le.ro (.same ?_ rfl <| .same rfl rfl <| .same ?_ rfl <| .same rfl rfl .nil), ⟨e2, by simp only; omega, g3, g4, he⟩, Nat.lt_succ_self _⟩
            · simp only [playQ, if_neg hk1, if_neg hk2, if_pos hk3, if_neg hk4]; rfl
            · simp only [playT, if_pos hk3, if_neg hk4]; rfl
        ·
          refine PW.skip ?_
          have hk1 : ¬ l.kind = 1 := of_decide_eq_false h2
          have hk2 : ¬ l.kind = 2 := of_decide_eq_false h3
          have hk3 : ¬ l.kind = 3 := of_decide_eq_false h4
          refine ⟨(j, playQ q now l, playT now l, n), Le.ro (.same ?_ rfl <| .same rfl rfl <| .same ?_ rfl <| .same rfl rfl .nil), ⟨e2, by simp only; omega, g3, g4, he⟩, Nat.lt_succ_self _⟩
          · simp only [playQ, if_neg hk1, if_neg hk2, if_neg hk3]; rfl
          · simp only [playT, if_neg hk3]; rfl
end Go.Wl
