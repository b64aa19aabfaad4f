/- The walks, twenty-third text: posts, readers, worlds (the program's). -/
import Derived.Test.YtkganhdglmbpoaaGreatWw
set_option linter.unusedVariables false
set_option linter.unusedSimpArgs false
set_option maxRecDepth 100000
set_option maxHeartbeats 8000000
namespace Go.Wl
open Go Go.RowKit Go.Pw Go.Proofs
/- impl.PostOk -/
theorem impl_PostOk_spec (p : Post) (hp : SmP p) : Pw.Spec Tryz.prog 44 [.agg (ePost p)] (fun res_ => res_ = eT (postOk p)) := by
  refine spec_of (n := 55) Tryz.call44 Tryz.func44 rfl rfl (by simp) rfl rfl fun W Z => ?_
  refine PW.seq ?_
  refine PW.region ?_
  refine PL.run 2 rfl ?_
  refine PL.nil ?_
  refine PW.seq ?_
  refine PW.seq ?_
  refine PW.region ?_
  refine PL.run 2 rfl ?_
  refine PL.call rfl rfl rfl (impl_QueueOk_spec p.queue hp.q) (.cons (.refl _) <| .nil) (fun p hp => by subst hp; rfl) (wantV_ok rfl) rfl (fun p hp => ?_)
  subst hp
  refine PL.run 2 rfl ?_
  refine PL.split (t := 10) rfl (fun h1 => ?_) (fun h1 => ?_)
  ·
    refine PL.run 20 rfl ?_
    refine PL.nil ?_
    refine PW.condT rfl ?_
    refine PW.seq ?_
    refine PW.region ?_
    refine PL.run 1 rfl ?_
    refine PL.nil ?_
    refine PW.ret ?_
    refine RetOk.free rfl rfl (congrArg eT ?_)
    simp_all [postOk]
    try omega
  ·
    refine PL.run 2 rfl ?_
    refine PL.call rfl rfl rfl (impl_in_spec p.time 0 100000) (.cons (.refl _) <| .cons (.refl _) <| .cons (.refl _) <| .nil) (fun p hp => by subst hp; rfl) (wantV_ok rfl) rfl (fun p hp => ?_)
    subst hp
    refine PL.run 3 rfl ?_
    refine PL.split (t := 16) rfl (fun h2 => ?_) (fun h2 => ?_)
    ·
      refine PL.run 14 rfl ?_
      refine PL.nil ?_
      refine PW.condT rfl ?_
      refine PW.seq ?_
      refine PW.region ?_
      refine PL.run 1 rfl ?_
      refine PL.nil ?_
      refine PW.ret ?_
      refine RetOk.free rfl rfl (congrArg eT ?_)
      simp_all [postOk]
      try omega
    ·
      refine PL.run 6 rfl ?_
      refine PL.split (t := 22) rfl (fun h3 => ?_) (fun h3 => ?_)
      ·
        refine PL.run 8 rfl ?_
        refine PL.nil ?_
        refine PW.condT rfl ?_
        refine PW.seq ?_
        refine PW.region ?_
        refine PL.run 1 rfl ?_
        refine PL.nil ?_
        refine PW.ret ?_
        refine RetOk.free rfl rfl (congrArg eT ?_)
        have g3 : ¬ p.book.length ≤ 12000 := by simp at h3; omega
        simp [postOk, g3]
      ·
        refine PL.run 5 rfl ?_
        refine PL.call rfl rfl rfl (impl_in_spec p.sure 0 (((p.book.map eb).length : Nat) : Int)) (.cons (.refl _) <| .cons (.refl _) <| .cons (.refl _) <| .nil) (fun p hp => by subst hp; rfl) (wantV_ok rfl) rfl (fun p hp => ?_)
        subst hp
        refine PL.run 2 rfl ?_
        refine PL.nil ?_
        refine PW.cond rfl (fun h4 => ?_) (fun h4 => ?_)
        ·
          refine PW.seq ?_
          refine PW.region ?_
          refine PL.run 1 rfl ?_
          refine PL.nil ?_
          refine PW.ret ?_
          refine RetOk.free rfl rfl (congrArg eT ?_)
          simp_all [postOk]
          try omega
        ·
          have g3 : p.book.length ≤ 12000 := by simp at h3; omega
          refine PW.skip ?_
          refine PW.seq ?_
          refine PW.region ?_
          refine PL.run 2 rfl ?_
          refine PL.call rfl rfl rfl (impl_Play_spec p.book (by omega)) (.cons (.refl _) <| .nil) (fun p hp => by subst hp; rfl) (wantV_ok rfl) rfl (fun p hp => ?_)
          subst hp
          refine PL.run 7 rfl ?_
          refine PL.nil ?_
          refine PW.seq ?_
          refine PW.region ?_
          refine PL.run 6 rfl ?_
          refine PL.split (t := 43) rfl (fun h5 => ?_) (fun h5 => ?_)
          ·
            refine PL.run 6 rfl ?_
            refine PL.split (t := 49) rfl (fun h6 => ?_) (fun h6 => ?_)
            ·
              refine PL.run 3 rfl ?_
              refine PL.call rfl rfl rfl (impl_sameItems_spec (play p.book).1 p.queue (Nat.le_trans (play_len hp.b) (by decide))) (.cons (.refl _) <| .cons (.refl _) <| .nil) (fun p hp => by subst hp; rfl) (wantV_ok rfl) rfl (fun p hp => ?_)
              subst hp
              refine PL.run 2 rfl ?_
              refine PL.nil ?_
              refine PW.ret ?_
              refine RetOk.free rfl rfl (congrArg eT ?_)
              have g5 : (play p.book).2.2 = p.book.length := by simp at h5; omega
              clear h3 h5
              simp_all [postOk]
            ·
              refine PL.run 6 rfl ?_
              refine PL.nil ?_
              refine PW.ret ?_
              refine RetOk.free rfl rfl (congrArg eT ?_)
              simp_all [postOk]
              try omega
          ·
            refine PL.run 12 rfl ?_
            refine PL.nil ?_
            refine PW.ret ?_
            refine RetOk.free rfl rfl (congrArg eT ?_)
            have g5 : ¬ (play p.book).2.2 = p.book.length := by simp at h5; omega
            simp [postOk, g5]
/- impl.ReaderOk$1 -/
theorem impl_ReaderOk_1_spec (x y : List UInt8) : Pw.Spec Tryz.prog 94 [eBs y, .rp [eBs x]] (fun res_ => res_ = eT (decide (y = x))) := by
  refine spec_of (n := 7) Tryz.call94 Tryz.func94 rfl rfl (by simp) rfl rfl fun W Z => ?_
  refine PW.seq ?_
  refine PW.region ?_
  refine PL.run 1 rfl ?_
  refine PL.nil ?_
  refine PW.seq ?_
  refine PW.region ?_
  refine PL.run 2 rfl ?_
  refine PL.call rfl rfl rfl (impl_Same_spec y x) (.cons (.refl _) <| .cons (.refl _) <| .nil) (fun p hp => by subst hp; rfl) (wantV_ok rfl) rfl (fun p hp => ?_)
  subst hp
  refine PL.run 1 rfl ?_
  refine PL.nil ?_
  refine PW.ret ?_
  refine RetOk.free rfl rfl rfl
theorem seen_eq {r : Reader} {i : Nat} {x g : List UInt8} (hx : r.seen[i]? = some x) (hg : r.got[i]? = some g) : seenOk r i = (decide (x.length ≤ 1560) && (decide (g.length ≤ 200) && !(r.seen.take i).any fun t => decide (t = x))) := by
  simp only [seenOk, hx, hg]
  congr 2
  induction r.seen.take i with
  | nil => rfl
  | cons z l ih => simp only [List.all_cons, List.any_cons, ih]; cases decide (z = x) <;> rfl
/- impl.ReaderOk -/
theorem impl_ReaderOk_spec (r : Reader) (hr : SmR r) : Pw.Spec Tryz.prog 45 [.agg (eReader r)] (fun res_ => res_ = eT (readerOk r)) := by
  refine spec_of (n := 55) Tryz.call45 Tryz.func45 rfl rfl (by simp) rfl rfl fun W Z => ?_
  refine PW.seq ?_
  refine PW.region ?_
  refine PL.run 2 rfl ?_
  refine PL.nil ?_
  refine PW.seq ?_
  refine PW.seq ?_
  refine PW.region ?_
  refine PL.run 4 rfl ?_
  refine PL.call rfl rfl rfl (impl_keyOf_spec r.seed r.epoch) (.cons (.refl _) <| .cons (.refl _) <| .nil) (fun p hp => by subst hp; rfl) (wantV_ok rfl) rfl (fun p hp => ?_)
  subst hp
  refine PL.run 2 rfl ?_
  refine PL.split (t := 11) rfl (fun h1 => ?_) (fun h1 => ?_)
  ·
    refine PL.run 14 rfl ?_
    refine PL.nil ?_
    refine PW.condT rfl ?_
    refine PW.seq ?_
    refine PW.region ?_
    refine PL.run 1 rfl ?_
    refine PL.nil ?_
    refine PW.ret ?_
    refine RetOk.free rfl rfl (congrArg eT ?_)
    rw [Bool.not_eq_true'] at h1
    rw [readerOk, ← Bool.and_assoc, h1]; rfl
  ·
    refine PL.run 6 rfl ?_
    refine PL.split (t := 17) rfl (fun h2 => ?_) (fun h2 => ?_)
    ·
      refine PL.run 8 rfl ?_
      refine PL.nil ?_
      refine PW.condT rfl ?_
      refine PW.seq ?_
      refine PW.region ?_
      refine PL.run 1 rfl ?_
      refine PL.nil ?_
      refine PW.ret ?_
      refine RetOk.free rfl rfl (congrArg eT ?_)
      have : ¬ r.seen.length ≤ 20 := by simp at h2; omega
      simp [readerOk, this]
    ·
      refine PL.run 8 rfl ?_
      refine PL.nil ?_
      refine PW.cond rfl (fun h3 => ?_) (fun h3 => ?_)
      ·
        refine PW.seq ?_
        refine PW.region ?_
        refine PL.run 1 rfl ?_
        refine PL.nil ?_
        refine PW.ret ?_
        refine RetOk.free rfl rfl (congrArg eT ?_)
        have : ¬ r.got.length = r.seen.length := by simp at h3; omega
        simp [readerOk, this]
      ·
        have k1 : (decide (r.seed.length = 32) && inB r.epoch 0 40) = true := by simpa using h1
        have k2 : r.seen.length ≤ 20 := by simp at h2; omega
        have k3 : r.got.length = r.seen.length := by simp at h3; omega
        have hs := hr.seen
        have kk : readerOk r = (List.range r.seen.length).all (seenOk r) := by rw [readerOk, ← Bool.and_assoc, k1]; simp [k2, k3]
        clear h1 h2 h3
        refine PW.skip ?_
        refine PW.seq ?_
        refine PW.seq ?_
        refine PW.region ?_
        refine PL.run 4 rfl ?_
        refine PL.nil ?_
        refine PW.block ?_
        refine PW.loopAt (α := Nat) (fun i => ⟨[(1, .bx 1 0), (27, eBss r.seen), (28, eI ((r.seen.map eBss1).length : Nat)), (29, eI (i : Int))], ⟨[(1, (38, eReader r))], []⟩⟩) (fun i => i ≤ r.seen.length ∧ (List.range i).all (seenOk r) = true) (fun i => r.seen.length - i) 0 Le.boxes ⟨Nat.zero_le _, rfl⟩ (fun i hi => ?_)
        refine PW.seq ?_
        refine PW.region ?_
        refine PL.run 1 rfl ?_
        refine PL.nil ?_
        refine PW.seq ?_
        refine PW.cond rfl (fun h4 => ?_) (fun h4 => ?_)
        ·
          have hlt : i < r.seen.length := by simpa using h4
          clear h4
          obtain ⟨x, hx⟩ : ∃ y, r.seen[i]? = some y := ⟨_, List.getElem?_eq_getElem hlt⟩
          obtain ⟨g, hgx⟩ : ∃ y, r.got[i]? = some y := ⟨_, List.getElem?_eq_getElem (by omega)⟩
          have hse := seen_eq hx hgx
          have hup : some (PV.lit (.int .i64 (IntKind.i64.wrap ((i : Int) + 1)))) = some (PV.lit (.int .i64 ((i + 1 : Nat) : Int))) := inc_ok (by omega)
          have hbad : seenOk r i = false → readerOk r = false := fun h => by rw [kk, range_bad hlt h]
          refine PW.skip ?_
          refine PW.seq ?_
          refine PW.block ?_
          refine PW.seq ?_
          refine PW.region ?_
          refine PL.run 1 rfl ?_
          refine PL.val (OpV.idx rfl rfl rfl (nat_nonneg i) (map_at' hx) rfl rfl rfl rfl) (wantV_ok rfl) rfl ?_
          refine PL.run 4 rfl ?_
          refine PL.nil ?_
          refine PW.seq ?_
          refine PW.region ?_
          refine PL.run 4 rfl ?_
          refine PL.split (t := 37) rfl (fun h5 => ?_) (fun h5 => ?_)
          ·
            refine PL.run 16 rfl ?_
            refine PL.nil ?_
            refine PW.condT rfl ?_
            refine PW.seq ?_
            refine PW.region ?_
            refine PL.run 1 rfl ?_
            refine PL.nil ?_
            refine PW.ret ?_
            refine RetOk.free rfl rfl (congrArg eT ?_)
            have : ¬ x.length ≤ 1560 := by simp at h5; omega
            rw [hbad (by rw [hse]; simp [this])]
          ·
            refine PL.run 3 rfl ?_
            refine PL.val (OpV.cut rfl rfl rfl rfl rfl rfl (l := 0) (h := i) rfl rfl (Nat.zero_le _) (mapLe hi.1)) (wantV_ok rfl) rfl ?_
            refine PL.le (Le.freezePB (tv := 4) (id := 4) (cs := [eBs x]) (b := [(1, (38, eReader r))]) (e := [(37, eT false), (41, .sl 1 (((r.seen.map eBss1).take i).drop 0) none), (1, .bx 1 0), (27, eBss r.seen), (28, eI ((r.seen.map eBss1).length : Nat)), (29, eI (i : Int)), (3, eI (i : Int))]) rfl rfl rfl rfl ⟨⟨rfl, rfl⟩, trivial⟩ ⟨⟨rfl, rfl⟩, ⟨rfl, rfl⟩, ⟨rfl, rfl⟩, ⟨rfl, rfl⟩, ⟨rfl, rfl⟩, ⟨rfl, rfl⟩, ⟨rfl, rfl⟩, trivial⟩) ?_
            refine PL.run 1 rfl ?_
            refine PL.call rfl rfl rfl (slices_ContainsFunc___byte__byte_spec (r.seen.take i) 94 [.rp [eBs x]] (fun t => decide (t = x)) rfl (by rw [List.length_take]; omega) (fun j y hy => impl_ReaderOk_1_spec x y)) (.cons (wkrow (by simp [List.map_take])) <| .cons (.refl _) <| .nil) (fun p hp => by subst hp; rfl) (wantV_ok rfl) rfl (fun p hp => ?_)
            subst hp
            refine PL.run 2 rfl ?_
            refine PL.split (t := 45) rfl (fun h6 => ?_) (fun h6 => ?_)
            ·
              refine PL.run 8 rfl ?_
              refine PL.nil ?_
              refine PW.condT rfl ?_
              refine PW.seq ?_
              refine PW.region ?_
              refine PL.run 1 rfl ?_
              refine PL.nil ?_
              refine PW.ret ?_
              refine RetOk.free rfl rfl (congrArg eT ?_)
              rw [hbad (by rw [hse, h6]; simp)]
            ·
              refine PL.run 3 rfl ?_
              refine PL.val (OpV.idx rfl rfl rfl (nat_nonneg i) (map_at' hgx) rfl rfl rfl rfl) (wantV_ok rfl) rfl ?_
              refine PL.run 4 rfl ?_
              refine PL.nil ?_
              refine PW.cond rfl (fun h7 => ?_) (fun h7 => ?_)
              ·
                refine PW.seq ?_
                refine PW.region ?_
                refine PL.run 1 rfl ?_
                refine PL.nil ?_
                refine PW.ret ?_
                refine RetOk.free rfl rfl (congrArg eT ?_)
                have : ¬ g.length ≤ 200 := by simp at h7; omega
                rw [hbad (by rw [hse]; simp [this])]
              ·
                refine PW.skip ?_
                refine PW.region ?_
                refine PL.run 2 rfl ?_
                refine PL.nil ?_
                have h5 : x.length ≤ 1560 := by simp at h5; omega
                have h7 : g.length ≤ 200 := by simp at h7; omega
                refine ⟨i + 1, Le.boxes ⟨⟨rfl, rfl⟩, trivial⟩ ⟨⟨rfl, rfl⟩, ⟨rfl, rfl⟩, ⟨rfl, rfl⟩, ⟨hup, rfl⟩, trivial⟩, ⟨hlt, range_all hi.2 ?_⟩, by omega⟩
                rw [hse, h6]; simp [h5, h7]
        ·
          refine PW.exit ?_
          refine PW.seq ?_
          refine PW.region ?_
          refine PL.run 1 rfl ?_
          refine PL.nil ?_
          refine PW.ret ?_
          refine RetOk.free rfl rfl (congrArg eT ?_)
          have hge : i = r.seen.length := Nat.le_antisymm hi.1 (by simpa using h4)
          rw [kk, ← hge, hi.2]
/- impl.wireOk -/
theorem impl_wireOk_spec (w : Wire) (h : w.item.route.size ≤ 1099511627776) : Pw.Spec Tryz.prog 48 [.agg (eWire w)] (fun res_ => res_ = eT (wireOk w)) := by
  refine spec_of (n := 23) Tryz.call48 Tryz.func48 rfl rfl (by simp) rfl rfl fun W Z => ?_
  refine PW.seq ?_
  refine PW.region ?_
  refine PL.run 2 rfl ?_
  refine PL.nil ?_
  refine PW.seq ?_
  refine PW.seq ?_
  refine PW.region ?_
  refine PL.run 2 rfl ?_
  refine PL.nil ?_
  refine PW.cond rfl (fun h1 => ?_) (fun h1 => ?_)
  ·
    refine PW.seq ?_
    refine PW.region ?_
    refine PL.run 2 rfl ?_
    refine PL.call rfl rfl rfl (impl_ItemOk_spec w.item h) (.cons (.refl _) <| .nil) (fun p hp => by subst hp; rfl) (wantV_ok rfl) rfl (fun p hp => ?_)
    subst hp
    refine PL.run 1 rfl ?_
    refine PL.split (t := 8) rfl (fun h2 => ?_) (fun h2 => ?_)
    ·
      refine PL.run 6 rfl ?_
      refine PL.nil ?_
      refine PW.ret ?_
      refine RetOk.free rfl rfl (congrArg eT ?_)
      try simp only [dlen0, dlenm w.bytes 1560] at *
      simp_all [wireOk]
      try omega
    ·
      refine PL.run 6 rfl ?_
      refine PL.nil ?_
      refine PW.ret ?_
      refine RetOk.free rfl rfl (congrArg eT ?_)
      try simp only [dlen0, dlenm w.bytes 1560] at *
      simp_all [wireOk]
      try omega
  ·
    refine PW.skip ?_
    refine PW.seq ?_
    refine PW.region ?_
    refine PL.run 2 rfl ?_
    refine PL.call rfl rfl rfl (impl_noItem_spec w.item) (.cons (.refl _) <| .nil) (fun p hp => by subst hp; rfl) (wantV_ok rfl) rfl (fun p hp => ?_)
    subst hp
    refine PL.run 1 rfl ?_
    refine PL.split (t := 17) rfl (fun h3 => ?_) (fun h3 => ?_)
    ·
      refine PL.run 6 rfl ?_
      refine PL.nil ?_
      refine PW.ret ?_
      refine RetOk.free rfl rfl (congrArg eT ?_)
      try simp only [dlen0, dlenm w.bytes 1560] at *
      simp_all [wireOk]
      try omega
    ·
      refine PL.run 6 rfl ?_
      refine PL.nil ?_
      refine PW.ret ?_
      refine RetOk.free rfl rfl (congrArg eT ?_)
      try simp only [dlen0, dlenm w.bytes 1560] at *
      simp_all [wireOk]
      try omega
/- impl.sentOk -/
theorem impl_sentOk_spec (s : Sent) (h : s.route.size ≤ 1099511627776) : Pw.Spec Tryz.prog 51 [.agg (eSent s)] (fun res_ => res_ = eT (sentOk s)) := by
  refine spec_of (n := 23) Tryz.call51 Tryz.func51 rfl rfl (by simp) rfl rfl fun W Z => ?_
  refine PW.seq ?_
  refine PW.region ?_
  refine PL.run 2 rfl ?_
  refine PL.nil ?_
  refine PW.seq ?_
  refine PW.region ?_
  refine PL.run 5 rfl ?_
  refine PL.split (t := 7) rfl (fun h1 => ?_) (fun h1 => ?_)
  ·
    refine PL.run 2 rfl ?_
    refine PL.call rfl rfl rfl (impl_isRoute_spec s.route h) (.cons (.refl _) <| .nil) (fun p hp => by subst hp; rfl) (wantV_ok rfl) rfl (fun p hp => ?_)
    subst hp
    refine PL.run 2 rfl ?_
    refine PL.split (t := 12) rfl (fun h2 => ?_) (fun h2 => ?_)
    ·
      refine PL.run 6 rfl ?_
      refine PL.split (t := 18) rfl (fun h3 => ?_) (fun h3 => ?_)
      ·
        refine PL.run 2 rfl ?_
        refine PL.call rfl rfl rfl (impl_in_spec s.epoch 0 40) (.cons (.refl _) <| .cons (.refl _) <| .cons (.refl _) <| .nil) (fun p hp => by subst hp; rfl) (wantV_ok rfl) rfl (fun p hp => ?_)
        subst hp
        refine PL.run 2 rfl ?_
        refine PL.nil ?_
        refine PW.ret ?_
        refine RetOk.free rfl rfl (congrArg eT ?_)
        have g1 : s.note.length ≤ 200 := by simp at h1; omega
        have g3 : s.bytes.length ≤ 1560 := by simp at h3; omega
        simp [sentOk, itemOk, inB, g1, h2, g3]
      ·
        refine PL.run 5 rfl ?_
        refine PL.nil ?_
        refine PW.ret ?_
        refine RetOk.free rfl rfl (congrArg eT ?_)
        have g3 : ¬ s.bytes.length ≤ 1560 := by simp at h3; omega
        simp [sentOk, itemOk, g3]
    ·
      refine PL.run 11 rfl ?_
      refine PL.nil ?_
      refine PW.ret ?_
      refine RetOk.free rfl rfl (congrArg eT ?_)
      simp [sentOk, itemOk, h2]
  ·
    refine PL.run 16 rfl ?_
    refine PL.nil ?_
    refine PW.ret ?_
    refine RetOk.free rfl rfl (congrArg eT ?_)
    have g1 : ¬ s.note.length ≤ 200 := by simp at h1; omega
    simp [sentOk, g1]
/- impl.WorldOk$1 -/
theorem impl_WorldOk_1_spec (w : Wire) (h : w.item.route.size ≤ 1099511627776) : Pw.Spec Tryz.prog 47 [.agg (eWire w)] (fun res_ => res_ = eT (!wireOk w)) := by
  refine spec_of (n := 6) Tryz.call47 Tryz.func47 rfl rfl (by simp) rfl rfl fun W Z => ?_
  refine PW.seq ?_
  refine PW.region ?_
  refine PL.run 2 rfl ?_
  refine PL.nil ?_
  refine PW.seq ?_
  refine PW.region ?_
  refine PL.run 1 rfl ?_
  refine PL.call rfl rfl rfl (impl_wireOk_spec w h) (.cons (.refl _) <| .nil) (fun p hp => by subst hp; rfl) (wantV_ok rfl) rfl (fun p hp => ?_)
  subst hp
  refine PL.run 2 rfl ?_
  refine PL.nil ?_
  refine PW.ret ?_
  refine RetOk.free rfl rfl rfl
/- impl.WorldOk$2 -/
theorem impl_WorldOk_2_spec (s : Sent) (h : s.route.size ≤ 1099511627776) : Pw.Spec Tryz.prog 50 [.agg (eSent s)] (fun res_ => res_ = eT (!sentOk s)) := by
  refine spec_of (n := 6) Tryz.call50 Tryz.func50 rfl rfl (by simp) rfl rfl fun W Z => ?_
  refine PW.seq ?_
  refine PW.region ?_
  refine PL.run 2 rfl ?_
  refine PL.nil ?_
  refine PW.seq ?_
  refine PW.region ?_
  refine PL.run 1 rfl ?_
  refine PL.call rfl rfl rfl (impl_sentOk_spec s h) (.cons (.refl _) <| .nil) (fun p hp => by subst hp; rfl) (wantV_ok rfl) rfl (fun p hp => ?_)
  subst hp
  refine PL.run 2 rfl ?_
  refine PL.nil ?_
  refine PW.ret ?_
  refine RetOk.free rfl rfl rfl
theorem not_any {α : Type} (f : α → Bool) (l : List α) : (!l.any fun x => !f x) = l.all f := by
  induction l with
  | nil => rfl
  | cons x l ih => simp only [List.any_cons, List.all_cons, ← ih]; cases f x <;> simp
/- impl.WorldOk -/
theorem impl_WorldOk_spec (w : Earth) (hw : SmW w) : Pw.Spec Tryz.prog 12 [.agg (eEarth w)] (fun res_ => res_ = eT (worldOk w)) := by
  refine spec_of (n := 55) Tryz.call12 Tryz.func12 rfl rfl (by simp) rfl rfl fun W Z => ?_
  refine PW.seq ?_
  refine PW.region ?_
  refine PL.run 2 rfl ?_
  refine PL.nil ?_
  refine PW.seq ?_
  refine PW.seq ?_
  refine PW.region ?_
  refine PL.run 5 rfl ?_
  refine PL.split (t := 7) rfl (fun h1 => ?_) (fun h1 => ?_)
  ·
    refine PL.run 37 rfl ?_
    refine PL.nil ?_
    refine PW.condT rfl ?_
    refine PW.seq ?_
    refine PW.region ?_
    refine PL.run 1 rfl ?_
    refine PL.nil ?_
    refine PW.ret ?_
    refine RetOk.free rfl rfl (congrArg eT ?_)
    have : ¬ w.seed.length = 32 := by simp at h1; omega
    simp [worldOk, this]
  ·
    refine PL.run 2 rfl ?_
    refine PL.call rfl rfl rfl (impl_in_spec w.count 0 12) (.cons (.refl _) <| .cons (.refl _) <| .cons (.refl _) <| .nil) (fun p hp => by subst hp; rfl) (wantV_ok rfl) rfl (fun p hp => ?_)
    subst hp
    refine PL.run 3 rfl ?_
    refine PL.split (t := 13) rfl (fun h2 => ?_) (fun h2 => ?_)
    ·
      refine PL.run 31 rfl ?_
      refine PL.nil ?_
      refine PW.condT rfl ?_
      refine PW.seq ?_
      refine PW.region ?_
      refine PL.run 1 rfl ?_
      refine PL.nil ?_
      refine PW.ret ?_
      refine RetOk.free rfl rfl (congrArg eT ?_)
      have : inB w.count 0 12 = false := by simpa using h2
      simp [worldOk, this]
    ·
      refine PL.run 2 rfl ?_
      refine PL.call rfl rfl rfl (impl_in_spec w.known 0 40) (.cons (.refl _) <| .cons (.refl _) <| .cons (.refl _) <| .nil) (fun p hp => by subst hp; rfl) (wantV_ok rfl) rfl (fun p hp => ?_)
      subst hp
      refine PL.run 3 rfl ?_
      refine PL.split (t := 19) rfl (fun h3 => ?_) (fun h3 => ?_)
      ·
        refine PL.run 25 rfl ?_
        refine PL.nil ?_
        refine PW.condT rfl ?_
        refine PW.seq ?_
        refine PW.region ?_
        refine PL.run 1 rfl ?_
        refine PL.nil ?_
        refine PW.ret ?_
        refine RetOk.free rfl rfl (congrArg eT ?_)
        have : inB w.known 0 40 = false := by simpa using h3
        simp [worldOk, this]
      ·
        refine PL.run 2 rfl ?_
        refine PL.call rfl rfl rfl (impl_PostOk_spec w.post hw.p) (.cons (.refl _) <| .nil) (fun p hp => by subst hp; rfl) (wantV_ok rfl) rfl (fun p hp => ?_)
        subst hp
        refine PL.run 3 rfl ?_
        refine PL.split (t := 25) rfl (fun h4 => ?_) (fun h4 => ?_)
        ·
          refine PL.run 19 rfl ?_
          refine PL.nil ?_
          refine PW.condT rfl ?_
          refine PW.seq ?_
          refine PW.region ?_
          refine PL.run 1 rfl ?_
          refine PL.nil ?_
          refine PW.ret ?_
          refine RetOk.free rfl rfl (congrArg eT ?_)
          have : postOk w.post = false := by simpa using h4
          simp [worldOk, this]
        ·
          refine PL.run 2 rfl ?_
          refine PL.call rfl rfl rfl (impl_ReaderOk_spec w.reader hw.r) (.cons (.refl _) <| .nil) (fun p hp => by subst hp; rfl) (wantV_ok rfl) rfl (fun p hp => ?_)
          subst hp
          refine PL.run 3 rfl ?_
          refine PL.split (t := 31) rfl (fun h5 => ?_) (fun h5 => ?_)
          ·
            refine PL.run 13 rfl ?_
            refine PL.nil ?_
            refine PW.condT rfl ?_
            refine PW.seq ?_
            refine PW.region ?_
            refine PL.run 1 rfl ?_
            refine PL.nil ?_
            refine PW.ret ?_
            refine RetOk.free rfl rfl (congrArg eT ?_)
            have : readerOk w.reader = false := by simpa using h5
            simp [worldOk, this]
          ·
            refine PL.run 6 rfl ?_
            refine PL.split (t := 37) rfl (fun h6 => ?_) (fun h6 => ?_)
            ·
              refine PL.run 7 rfl ?_
              refine PL.nil ?_
              refine PW.condT rfl ?_
              refine PW.seq ?_
              refine PW.region ?_
              refine PL.run 1 rfl ?_
              refine PL.nil ?_
              refine PW.ret ?_
              refine RetOk.free rfl rfl (congrArg eT ?_)
              have : ¬ w.net.length ≤ 12 := by simp at h6; omega
              simp [worldOk, netOk, this]
            ·
              refine PL.run 7 rfl ?_
              refine PL.nil ?_
              refine PW.cond rfl (fun h7 => ?_) (fun h7 => ?_)
              ·
                refine PW.seq ?_
                refine PW.region ?_
                refine PL.run 1 rfl ?_
                refine PL.nil ?_
                refine PW.ret ?_
                refine RetOk.free rfl rfl (congrArg eT ?_)
                have : ¬ (w.sent.length : Int) = w.count := by simpa using h7
                simp [worldOk, this]
              ·
                have k1 : w.seed.length = 32 := by simp at h1; omega
                have k2 : inB w.count 0 12 = true := by simpa using h2
                have k3 : inB w.known 0 40 = true := by simpa using h3
                have k4 : postOk w.post = true := by simpa using h4
                have k5 : readerOk w.reader = true := by simpa using h5
                have k6 : w.net.length ≤ 12 := by simp at h6; omega
                have k7 : (w.sent.length : Int) = w.count := by simpa using h7
                have kk : worldOk w = (w.net.all wireOk && w.sent.all sentOk) := by simp [worldOk, netOk, k1, k2, k3, k4, k5, k6, k7]
                clear h1 h2 h3 h4 h5 h6 h7 k1 k2 k3 k4 k5 k6 k7
                refine PW.skip ?_
                refine PW.seq ?_
                refine PW.region ?_
                refine PL.run 2 rfl ?_
                refine PL.call rfl rfl rfl (slices_ContainsFunc__impl_Wire_impl_Wire_spec w.net 47 [] (fun x => !wireOk x) rfl hw.n.len (fun i x hx => impl_WorldOk_1_spec x (hw.n.route i x hx))) (.cons (.refl _) <| .cons (.refl _) <| .nil) (fun p hp => by subst hp; rfl) (wantV_ok rfl) rfl (fun p hp => ?_)
                subst hp
                refine PL.run 2 rfl ?_
                refine PL.split (t := 49) rfl (fun h8 => ?_) (fun h8 => ?_)
                ·
                  refine PL.run 2 rfl ?_
                  refine PL.call rfl rfl rfl (slices_ContainsFunc__impl_Sent_impl_Sent_spec w.sent 50 [] (fun x => !sentOk x) rfl hw.sent (fun i x hx => impl_WorldOk_2_spec x (hw.sr i x hx))) (.cons (.refl _) <| .cons (.refl _) <| .nil) (fun p hp => by subst hp; rfl) (wantV_ok rfl) rfl (fun p hp => ?_)
                  subst hp
                  refine PL.run 3 rfl ?_
                  refine PL.nil ?_
                  refine PW.ret ?_
                  refine RetOk.free rfl rfl (congrArg eT ?_)
                  rw [not_any] at h8
                  rw [kk, h8, ← not_any sentOk]; rfl
                ·
                  refine PL.run 6 rfl ?_
                  refine PL.nil ?_
                  refine PW.ret ?_
                  refine RetOk.free rfl rfl (congrArg eT ?_)
                  rw [not_any] at h8
                  rw [kk, h8]; rfl
end Go.Wl
