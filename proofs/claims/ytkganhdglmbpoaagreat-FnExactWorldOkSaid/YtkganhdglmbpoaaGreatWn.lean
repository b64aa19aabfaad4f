/- The walks, thirteenth text: what is on its way; worlds (the specification's). -/
import Derived.Test.YtkganhdglmbpoaaGreatWm
set_option linter.unusedVariables false
set_option linter.unusedSimpArgs false
set_option maxRecDepth 100000
set_option maxHeartbeats 8000000
namespace Go.Wl
open Go Go.RowKit Go.Pw Go.Proofs
def noItem (x : Item) : Bool := decide (x.route = noText) && (decide (x.topic = 0) && (decide (x.due = 0) && decide (x.bytes.length = 0)))
def wireOk (w : Wire) : Bool := if w.toPost then itemOk w.item && decide (w.bytes.length = 0) else noItem w.item && decide (w.bytes.length ≤ 1560)
def netOk (net : List Wire) : Bool := net.all wireOk && decide (net.length ≤ 12)
structure SmN (net : List Wire) : Prop where
  len : net.length ≤ 16777216
  route : ∀ (i : Nat) (x : Wire), net[i]? = some x → x.item.route.size ≤ 1099511627776
  ib : ∀ (i : Nat) (x : Wire), net[i]? = some x → x.item.bytes.length ≤ 16777216
  b : ∀ (i : Nat) (x : Wire), net[i]? = some x → x.bytes.length ≤ 16777216
theorem all_bad {α : Type} {p : α → Bool} {l : List α} {i : Nat} {x : α} (hx : l[i]? = some x) (h : p x = false) : l.all p = false := by
  rw [List.all_eq_false]
  exact ⟨x, List.mem_of_getElem? hx, by simp [h]⟩
theorem dlen0 (l : List UInt8) : decide (((l.map eb).length : Int) = 0) = decide (l.length = 0) := by
  by_cases h : l.length = 0 <;> simp [h] <;> omega
theorem dlenp (l : List UInt8) : decide ((0 : Int) < ((l.map eb).length : Int)) = !decide (l.length = 0) := by
  by_cases h : l.length = 0 <;> simp [h] <;> omega
theorem dlenm (l : List UInt8) (m : Nat) : decide ((m : Int) < ((l.map eb).length : Int)) = !decide (l.length ≤ m) := by
  by_cases h : l.length ≤ m <;> simp [h] <;> omega
/- spec.l17Net -/
theorem spec_l17Net_spec (net : List Wire) (hn : SmN net) : Pw.Spec Tryz.prog 37 [eWires net] (fun res_ => res_ = eT (netOk net)) := by
  refine spec_of (n := 71) Tryz.call37 Tryz.func37 rfl rfl (by simp) rfl rfl fun W Z => ?_
  have hlen := hn.len
  refine PW.seq ?_
  refine PW.region ?_
  refine PL.run 1 rfl ?_
  refine PL.nil ?_
  refine PW.seq ?_
  refine PW.seq ?_
  refine PW.region ?_
  refine PL.run 1 rfl ?_
  refine PL.nil ?_
  refine PW.block ?_
  refine PW.loopAt (α := Nat) (fun i => ⟨[(0, eWires net), (3, eI (i : Int))], PH.none⟩) (fun i => i ≤ net.length ∧ (net.take i).all wireOk = true) (fun i => net.length - i) 0 Le.free ⟨Nat.zero_le _, rfl⟩ (fun i hi => ?_)
  refine PW.seq ?_
  refine PW.seq ?_
  refine PW.region ?_
  refine PL.run 4 rfl ?_
  refine PL.nil ?_
  refine PW.cond rfl (fun h1 => ?_) (fun h1 => ?_)
  ·
    have hlt : i < net.length := by simpa using h1
    clear h1
    obtain ⟨x, hx⟩ : ∃ y, net[i]? = some y := ⟨_, List.getElem?_eq_getElem hlt⟩
    have hbad : wireOk x = false → netOk net = false := fun h => by simp [netOk, all_bad hx h]
    have hgood := fun h => take_allG hi.2 hx h
    have hup : some (PV.lit (.int .i64 (IntKind.i64.wrap ((i : Int) + 1)))) = some (PV.lit (.int .i64 ((i + 1 : Nat) : Int))) := inc_ok (by omega)
    have hdn : net.length - (i + 1) < net.length - i := by omega
    refine PW.skip ?_
    refine PW.seq ?_
    refine PW.block ?_
    refine PW.seq ?_
    refine PW.region ?_
    refine PL.run 2 rfl ?_
    refine PL.val (OpV.idx rfl rfl rfl (nat_nonneg i) (map_at' hx) rfl rfl rfl rfl) (wantV_ok rfl) rfl ?_
    refine PL.run 3 rfl ?_
    refine PL.nil ?_
    refine PW.cut (⟨[(0, eWires net), (3, eI (i : Int)), (4, .bx 4 0), (5, eT (noItem x.item))], ⟨[(4, (71, eWire x))], []⟩⟩) ?_ ?_
    ·
      refine PW.region ?_
      refine PL.run 5 rfl ?_
      refine PL.split (t := 20) rfl (fun h2 => ?_) (fun h2 => ?_)
      ·
        refine PL.run 6 rfl ?_
        refine PL.split (t := 26) rfl (fun h3 => ?_) (fun h3 => ?_)
        ·
          refine PL.run 6 rfl ?_
          refine PL.split (t := 32) rfl (fun h4 => ?_) (fun h4 => ?_)
          ·
            refine PL.run 7 rfl ?_
            refine PL.nil ?_
            refine Le.boxes ⟨⟨rfl, rfl⟩, trivial⟩ ⟨⟨rfl, rfl⟩, ⟨rfl, rfl⟩, ⟨rfl, rfl⟩, ⟨congrArg (fun b => some (eT b)) ?_, rfl⟩, trivial⟩
            try simp only [dlen0] at *
            simp_all [noItem, noText]
          ·
            refine PL.run 7 rfl ?_
            refine PL.nil ?_
            refine Le.boxes ⟨⟨rfl, rfl⟩, trivial⟩ ⟨⟨rfl, rfl⟩, ⟨rfl, rfl⟩, ⟨rfl, rfl⟩, ⟨congrArg (fun b => some (eT b)) ?_, rfl⟩, trivial⟩
            try simp only [dlen0] at *
            simp_all [noItem, noText]
        ·
          refine PL.run 13 rfl ?_
          refine PL.nil ?_
          refine Le.boxes ⟨⟨rfl, rfl⟩, trivial⟩ ⟨⟨rfl, rfl⟩, ⟨rfl, rfl⟩, ⟨rfl, rfl⟩, ⟨congrArg (fun b => some (eT b)) ?_, rfl⟩, trivial⟩
          try simp only [dlen0] at *
          simp_all [noItem, noText]
      ·
        refine PL.run 19 rfl ?_
        refine PL.nil ?_
        refine Le.boxes ⟨⟨rfl, rfl⟩, trivial⟩ ⟨⟨rfl, rfl⟩, ⟨rfl, rfl⟩, ⟨rfl, rfl⟩, ⟨congrArg (fun b => some (eT b)) ?_, rfl⟩, trivial⟩
        try simp only [dlen0] at *
        simp_all [noItem, noText]
    ·
      refine PW.seq ?_
      refine PW.region ?_
      refine PL.run 3 rfl ?_
      refine PL.split (t := 41) rfl (fun h5 => ?_) (fun h5 => ?_)
      ·
        refine PL.run 2 rfl ?_
        refine PL.call rfl rfl rfl (spec_ItemOk_spec x.item (hn.route i x hx)) (.cons (.refl _) <| .nil) (fun p hp => by subst hp; rfl) (wantV_ok rfl) rfl (fun p hp => ?_)
        subst hp
        refine PL.run 2 rfl ?_
        refine PL.split (t := 46) rfl (fun h6 => ?_) (fun h6 => ?_)
        ·
          refine PL.run 21 rfl ?_
          refine PL.nil ?_
          refine PW.condT rfl ?_
          refine PW.seq ?_
          refine PW.region ?_
          refine PL.run 1 rfl ?_
          refine PL.nil ?_
          refine PW.ret ?_
          refine RetOk.free rfl rfl (congrArg eT ?_)
          rw [hbad]
          try simp only [dlen0, dlenp, dlenm x.bytes 1560] at *
          clear hbad hgood hup hdn
          simp_all [wireOk]
          try omega
        ·
          refine PL.run 7 rfl ?_
          refine PL.split (t := 53) rfl (fun h7 => ?_) (fun h7 => ?_)
          ·
            refine PL.run 14 rfl ?_
            refine PL.nil ?_
            refine PW.condT rfl ?_
            refine PW.seq ?_
            refine PW.region ?_
            refine PL.run 1 rfl ?_
            refine PL.nil ?_
            refine PW.ret ?_
            refine RetOk.free rfl rfl (congrArg eT ?_)
            rw [hbad]
            try simp only [dlen0, dlenp, dlenm x.bytes 1560] at *
            clear hbad hgood hup hdn
            simp_all [wireOk]
            try omega
          ·
            refine PL.run 4 rfl ?_
            refine PL.split (t := 57) rfl (fun h8 => ?_) (fun h8 => ?_)
            ·
              refine PL.run 3 rfl ?_
              refine PL.split (t := 60) rfl (fun h9 => ?_) (fun h9 => ?_)
              ·
                refine PL.run 7 rfl ?_
                refine PL.nil ?_
                refine PW.condT rfl ?_
                refine PW.seq ?_
                refine PW.region ?_
                refine PL.run 1 rfl ?_
                refine PL.nil ?_
                refine PW.ret ?_
                refine RetOk.free rfl rfl (congrArg eT ?_)
                rw [hbad]
                try simp only [dlen0, dlenp, dlenm x.bytes 1560] at *
                clear hbad hgood hup hdn
                simp_all [wireOk]
                try omega
              ·
                refine PL.run 7 rfl ?_
                refine PL.nil ?_
                refine PW.cond rfl (fun h10 => ?_) (fun h10 => ?_)
                ·
                  refine PW.seq ?_
                  refine PW.region ?_
                  refine PL.run 1 rfl ?_
                  refine PL.nil ?_
                  refine PW.ret ?_
                  refine RetOk.free rfl rfl (congrArg eT ?_)
                  rw [hbad]
                  try simp only [dlen0, dlenp, dlenm x.bytes 1560] at *
                  clear hbad hgood hup hdn
                  simp_all [wireOk]
                  try omega
                ·
                  refine PW.skip ?_
                  refine PW.region ?_
                  refine PL.run 3 rfl ?_
                  refine PL.nil ?_
                  refine ⟨i + 1, Le.free ⟨⟨rfl, rfl⟩, ⟨hup, rfl⟩, trivial⟩, ⟨hlt, hgood ?_⟩, hdn⟩
                  clear hbad hgood hup hdn
                  try simp only [dlen0, dlenp, dlenm x.bytes 1560] at *
                  simp_all [wireOk]
                  try omega
            ·
              refine PL.run 10 rfl ?_
              refine PL.nil ?_
              refine PW.condF rfl ?_
              refine PW.skip ?_
              refine PW.region ?_
              refine PL.run 3 rfl ?_
              refine PL.nil ?_
              refine ⟨i + 1, Le.free ⟨⟨rfl, rfl⟩, ⟨hup, rfl⟩, trivial⟩, ⟨hlt, hgood ?_⟩, hdn⟩
              clear hbad hgood hup hdn
              try simp only [dlen0, dlenp, dlenm x.bytes 1560] at *
              simp_all [wireOk]
              try omega
      ·
        refine PL.run 16 rfl ?_
        refine PL.split (t := 57) rfl (fun h11 => ?_) (fun h11 => ?_)
        ·
          refine PL.run 3 rfl ?_
          refine PL.split (t := 60) rfl (fun h12 => ?_) (fun h12 => ?_)
          ·
            refine PL.run 7 rfl ?_
            refine PL.nil ?_
            refine PW.condT rfl ?_
            refine PW.seq ?_
            refine PW.region ?_
            refine PL.run 1 rfl ?_
            refine PL.nil ?_
            refine PW.ret ?_
            refine RetOk.free rfl rfl (congrArg eT ?_)
            rw [hbad]
            try simp only [dlen0, dlenp, dlenm x.bytes 1560] at *
            clear hbad hgood hup hdn
            simp_all [wireOk]
            try omega
          ·
            refine PL.run 7 rfl ?_
            refine PL.nil ?_
            refine PW.cond rfl (fun h13 => ?_) (fun h13 => ?_)
            ·
              refine PW.seq ?_
              refine PW.region ?_
              refine PL.run 1 rfl ?_
              refine PL.nil ?_
              refine PW.ret ?_
              refine RetOk.free rfl rfl (congrArg eT ?_)
              rw [hbad]
              try simp only [dlen0, dlenp, dlenm x.bytes 1560] at *
              clear hbad hgood hup hdn
              simp_all [wireOk]
              try omega
            ·
              refine PW.skip ?_
              refine PW.region ?_
              refine PL.run 3 rfl ?_
              refine PL.nil ?_
              refine ⟨i + 1, Le.free ⟨⟨rfl, rfl⟩, ⟨hup, rfl⟩, trivial⟩, ⟨hlt, hgood ?_⟩, hdn⟩
              clear hbad hgood hup hdn
              try simp only [dlen0, dlenp, dlenm x.bytes 1560] at *
              simp_all [wireOk]
              try omega
        ·
          refine PL.run 10 rfl ?_
          refine PL.nil ?_
          refine PW.condF rfl ?_
          refine PW.skip ?_
          refine PW.region ?_
          refine PL.run 3 rfl ?_
          refine PL.nil ?_
          refine ⟨i + 1, Le.free ⟨⟨rfl, rfl⟩, ⟨hup, rfl⟩, trivial⟩, ⟨hlt, hgood ?_⟩, hdn⟩
          clear hbad hgood hup hdn
          try simp only [dlen0, dlenp, dlenm x.bytes 1560] at *
          simp_all [wireOk]
          try omega
  ·
    refine PW.exit ?_
    refine PW.seq ?_
    refine PW.region ?_
    refine PL.run 4 rfl ?_
    refine PL.nil ?_
    refine PW.ret ?_
    refine RetOk.free rfl rfl (congrArg eT ?_)
    have hge : i = net.length := by have := hi.1; simp at h1; omega
    have h2 := hi.2
    rw [hge, List.take_length] at h2
    rw [netOk, h2]
    simp only [Bool.true_and, List.length_map]
    exact decide_eq_decide.2 (by omega)
def sentOk (s : Sent) : Bool := itemOk ⟨s.route, 0, 0, s.bytes⟩ && (decide (s.note.length ≤ 200) && inB s.epoch 0 40)
def worldOk (w : Earth) : Bool := decide (w.seed.length = 32) && (inB w.count 0 12 && (inB w.known 0 40 && (postOk w.post && (readerOk w.reader && (netOk w.net && (decide ((w.sent.length : Int) = w.count) && w.sent.all sentOk))))))
structure SmW (w : Earth) : Prop where
  p : SmP w.post
  r : SmR w.reader
  n : SmN w.net
  seed : w.seed.length ≤ 16777216
  sent : w.sent.length ≤ 16777216
  sr : ∀ (i : Nat) (x : Sent), w.sent[i]? = some x → x.route.size ≤ 1099511627776
  sb : ∀ (i : Nat) (x : Sent), w.sent[i]? = some x → x.bytes.length ≤ 16777216
  sn : ∀ (i : Nat) (x : Sent), w.sent[i]? = some x → x.note.length ≤ 16777216
/- spec.WorldOk -/
theorem spec_WorldOk_spec (w : Earth) (hw : SmW w) : Pw.Spec Tryz.prog 10 [.agg (eEarth w)] (fun res_ => res_ = eT (worldOk w)) := by
  refine spec_of (n := 78) Tryz.call10 Tryz.func10 rfl rfl (by simp) rfl rfl fun W Z => ?_
  have hsent := hw.sent
  refine PW.seq ?_
  refine PW.region ?_
  refine PL.run 2 rfl ?_
  refine PL.nil ?_
  refine PW.seq ?_
  refine PW.seq ?_
  refine PW.region ?_
  refine PL.run 5 rfl ?_
  refine PL.split (t := 9) rfl (fun h1 => ?_) (fun h1 => ?_)
  ·
    refine PL.run 37 rfl ?_
    refine PL.nil ?_
    refine PW.condT rfl ?_
    refine PW.seq ?_
    refine PW.region ?_
    refine PL.run 1 rfl ?_
    refine PL.nil ?_
    refine PW.ret ?_
    refine RetOk.free rfl rfl (congrArg eT ?_)
    have : ¬ w.seed.length = 32 := by simp at h1; omega
    simp [worldOk, this]
  ·
    refine PL.run 2 rfl ?_
    refine PL.call rfl rfl rfl (spec_l1In_spec w.count 0 12) (.cons (.refl _) <| .cons (.refl _) <| .cons (.refl _) <| .nil) (fun p hp => by subst hp; rfl) (wantV_ok rfl) rfl (fun p hp => ?_)
    subst hp
    refine PL.run 3 rfl ?_
    refine PL.split (t := 15) rfl (fun h2 => ?_) (fun h2 => ?_)
    ·
      refine PL.run 31 rfl ?_
      refine PL.nil ?_
      refine PW.condT rfl ?_
      refine PW.seq ?_
      refine PW.region ?_
      refine PL.run 1 rfl ?_
      refine PL.nil ?_
      refine PW.ret ?_
      refine RetOk.free rfl rfl (congrArg eT ?_)
      have : inB w.count 0 12 = false := by simpa using h2
      simp [worldOk, this]
    ·
      refine PL.run 2 rfl ?_
      refine PL.call rfl rfl rfl (spec_l1In_spec w.known 0 40) (.cons (.refl _) <| .cons (.refl _) <| .cons (.refl _) <| .nil) (fun p hp => by subst hp; rfl) (wantV_ok rfl) rfl (fun p hp => ?_)
      subst hp
      refine PL.run 3 rfl ?_
      refine PL.split (t := 21) rfl (fun h3 => ?_) (fun h3 => ?_)
      ·
        refine PL.run 25 rfl ?_
        refine PL.nil ?_
        refine PW.condT rfl ?_
        refine PW.seq ?_
        refine PW.region ?_
        refine PL.run 1 rfl ?_
        refine PL.nil ?_
        refine PW.ret ?_
        refine RetOk.free rfl rfl (congrArg eT ?_)
        have : inB w.known 0 40 = false := by simpa using h3
        simp [worldOk, this]
      ·
        refine PL.run 2 rfl ?_
        refine PL.call rfl rfl rfl (spec_PostOk_spec w.post hw.p) (.cons (.refl _) <| .nil) (fun p hp => by subst hp; rfl) (wantV_ok rfl) rfl (fun p hp => ?_)
        subst hp
        refine PL.run 3 rfl ?_
        refine PL.split (t := 27) rfl (fun h4 => ?_) (fun h4 => ?_)
        ·
          refine PL.run 19 rfl ?_
          refine PL.nil ?_
          refine PW.condT rfl ?_
          refine PW.seq ?_
          refine PW.region ?_
          refine PL.run 1 rfl ?_
          refine PL.nil ?_
          refine PW.ret ?_
          refine RetOk.free rfl rfl (congrArg eT ?_)
          have : postOk w.post = false := by simpa using h4
          simp [worldOk, this]
        ·
          refine PL.run 2 rfl ?_
          refine PL.call rfl rfl rfl (spec_ReaderOk_spec w.reader hw.r) (.cons (.refl _) <| .nil) (fun p hp => by subst hp; rfl) (wantV_ok rfl) rfl (fun p hp => ?_)
          subst hp
          refine PL.run 3 rfl ?_
          refine PL.split (t := 33) rfl (fun h5 => ?_) (fun h5 => ?_)
          ·
            refine PL.run 13 rfl ?_
            refine PL.nil ?_
            refine PW.condT rfl ?_
            refine PW.seq ?_
            refine PW.region ?_
            refine PL.run 1 rfl ?_
            refine PL.nil ?_
            refine PW.ret ?_
            refine RetOk.free rfl rfl (congrArg eT ?_)
            have : readerOk w.reader = false := by simpa using h5
            simp [worldOk, this]
          ·
            refine PL.run 2 rfl ?_
            refine PL.call rfl rfl rfl (spec_l17Net_spec w.net hw.n) (.cons (.refl _) <| .nil) (fun p hp => by subst hp; rfl) (wantV_ok rfl) rfl (fun p hp => ?_)
            subst hp
            refine PL.run 3 rfl ?_
            refine PL.split (t := 39) rfl (fun h6 => ?_) (fun h6 => ?_)
            ·
              refine PL.run 7 rfl ?_
              refine PL.nil ?_
              refine PW.condT rfl ?_
              refine PW.seq ?_
              refine PW.region ?_
              refine PL.run 1 rfl ?_
              refine PL.nil ?_
              refine PW.ret ?_
              refine RetOk.free rfl rfl (congrArg eT ?_)
              have : netOk w.net = false := by simpa using h6
              simp [worldOk, this]
            ·
              refine PL.run 7 rfl ?_
              refine PL.nil ?_
              refine PW.cond rfl (fun h7 => ?_) (fun h7 => ?_)
              ·
                refine PW.seq ?_
                refine PW.region ?_
                refine PL.run 1 rfl ?_
                refine PL.nil ?_
                refine PW.ret ?_
                refine RetOk.free rfl rfl (congrArg eT ?_)
                have : ¬ (w.sent.length : Int) = w.count := by simpa using h7
                simp [worldOk, this]
              ·
                have k1 : w.seed.length = 32 := by simp at h1; omega
                have k2 : inB w.count 0 12 = true := by simpa using h2
                have k3 : inB w.known 0 40 = true := by simpa using h3
                have k4 : postOk w.post = true := by simpa using h4
                have k5 : readerOk w.reader = true := by simpa using h5
                have k6 : netOk w.net = true := by simpa using h6
                have k7 : (w.sent.length : Int) = w.count := by simpa using h7
                have kk : worldOk w = w.sent.all sentOk := by simp [worldOk, k1, k2, k3, k4, k5, k6, k7]
                clear h1 h2 h3 h4 h5 h6 h7 k1 k2 k3 k4 k5 k6 k7
                refine PW.skip ?_
                refine PW.seq ?_
                refine PW.seq ?_
                refine PW.region ?_
                refine PL.run 1 rfl ?_
                refine PL.nil ?_
                refine PW.block ?_
                refine PW.loopAt (α := Nat) (fun i => ⟨[(1, .bx 1 0), (3, eI (i : Int))], ⟨[(1, (42, eEarth w))], []⟩⟩) (fun i => i ≤ w.sent.length ∧ (w.sent.take i).all sentOk = true) (fun i => w.sent.length - i) 0 Le.boxes ⟨Nat.zero_le _, rfl⟩ (fun i hi => ?_)
                refine PW.seq ?_
                refine PW.seq ?_
                refine PW.region ?_
                refine PL.run 5 rfl ?_
                refine PL.nil ?_
                refine PW.cond rfl (fun h8 => ?_) (fun h8 => ?_)
                ·
                  have hlt : i < w.sent.length := by simpa using h8
                  clear h8
                  obtain ⟨x, hx⟩ : ∃ y, w.sent[i]? = some y := ⟨_, List.getElem?_eq_getElem hlt⟩
                  have hbad : sentOk x = false → worldOk w = false := fun h => by rw [kk, all_bad hx h]
                  refine PW.skip ?_
                  refine PW.seq ?_
                  refine PW.block ?_
                  refine PW.seq ?_
                  refine PW.region ?_
                  refine PL.run 3 rfl ?_
                  refine PL.val (OpV.idx rfl rfl rfl (nat_nonneg i) (map_at' hx) rfl rfl rfl rfl) (wantV_ok rfl) rfl ?_
                  refine PL.run 3 rfl ?_
                  refine PL.nil ?_
                  refine PW.seq ?_
                  refine PW.region ?_
                  refine PL.run 4 rfl ?_
                  refine PL.val (OpV.build rfl rfl rfl rfl rfl rfl) (wantV_ok rfl) rfl ?_
                  refine PL.call rfl rfl rfl (spec_ItemOk_spec ⟨x.route, 0, 0, x.bytes⟩ (hw.sr i x hx)) (.cons (.refl _) <| .nil) (fun p hp => by subst hp; rfl) (wantV_ok rfl) rfl (fun p hp => ?_)
                  subst hp
                  refine PL.run 2 rfl ?_
                  refine PL.split (t := 66) rfl (fun h9 => ?_) (fun h9 => ?_)
                  ·
                    refine PL.run 11 rfl ?_
                    refine PL.nil ?_
                    refine PW.condT rfl ?_
                    refine PW.seq ?_
                    refine PW.region ?_
                    refine PL.run 1 rfl ?_
                    refine PL.nil ?_
                    refine PW.ret ?_
                    refine RetOk.free rfl rfl (congrArg eT ?_)
                    rw [hbad]
                    have : itemOk ⟨x.route, 0, 0, x.bytes⟩ = false := by simpa using h9
                    simp [sentOk, this]
                  ·
                    refine PL.run 6 rfl ?_
                    refine PL.split (t := 72) rfl (fun h10 => ?_) (fun h10 => ?_)
                    ·
                      refine PL.run 5 rfl ?_
                      refine PL.nil ?_
                      refine PW.condT rfl ?_
                      refine PW.seq ?_
                      refine PW.region ?_
                      refine PL.run 1 rfl ?_
                      refine PL.nil ?_
                      refine PW.ret ?_
                      refine RetOk.free rfl rfl (congrArg eT ?_)
                      rw [hbad]
                      have : ¬ x.note.length ≤ 200 := by simp at h10; omega
                      simp [sentOk, this]
                    ·
                      refine PL.run 2 rfl ?_
                      refine PL.call rfl rfl rfl (spec_l1In_spec x.epoch 0 40) (.cons (.refl _) <| .cons (.refl _) <| .cons (.refl _) <| .nil) (fun p hp => by subst hp; rfl) (wantV_ok rfl) rfl (fun p hp => ?_)
                      subst hp
                      refine PL.run 2 rfl ?_
                      refine PL.nil ?_
                      refine PW.cond rfl (fun h11 => ?_) (fun h11 => ?_)
                      ·
                        refine PW.seq ?_
                        refine PW.region ?_
                        refine PL.run 1 rfl ?_
                        refine PL.nil ?_
                        refine PW.ret ?_
                        refine RetOk.free rfl rfl (congrArg eT ?_)
                        rw [hbad]
                        have : inB x.epoch 0 40 = false := by simpa using h11
                        simp [sentOk, this]
                      ·
                        refine PW.skip ?_
                        refine PW.region ?_
                        refine PL.run 3 rfl ?_
                        refine PL.nil ?_
                        refine ⟨i + 1, Le.boxes ⟨⟨rfl, rfl⟩, trivial⟩ ⟨⟨rfl, rfl⟩, ⟨inc_ok (by omega), rfl⟩, trivial⟩, ⟨hlt, take_allG hi.2 hx ?_⟩, by omega⟩
                        have g1 : itemOk ⟨x.route, 0, 0, x.bytes⟩ = true := by simpa using h9
                        have g2 : x.note.length ≤ 200 := by simp at h10; omega
                        have g3 : inB x.epoch 0 40 = true := by simpa using h11
                        simp [sentOk, g1, g2, g3]
                ·
                  refine PW.exit ?_
                  refine PW.seq ?_
                  refine PW.region ?_
                  refine PL.run 1 rfl ?_
                  refine PL.nil ?_
                  refine PW.ret ?_
                  refine RetOk.free rfl rfl (congrArg eT ?_)
                  have hge : i = w.sent.length := by have := hi.1; simp at h8; omega
                  have h2 := hi.2
                  rw [hge, List.take_length] at h2
                  rw [kk, h2]
end Go.Wl
