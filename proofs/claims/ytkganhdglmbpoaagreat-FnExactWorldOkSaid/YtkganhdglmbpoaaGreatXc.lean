/- What comes in, opened by its type: an item, a post, a reader, a wire, a sent letter, a world. -/
import Derived.Test.YtkganhdglmbpoaaGreatXb
import Derived.Test.YtkganhdglmbpoaaGreatPw25
set_option linter.unusedVariables false
set_option linter.unusedSimpArgs false
set_option maxRecDepth 100000
namespace Go.Wl
open Go Go.RowKit Go.Pw Go.Proofs
section
variable {H : Type} {enc : TypeId × Value → H} {w : World} {base : Nat} {spare : Nat → Bool} {held : Bool} {fuel : Nat} {cs : List Value} {x : DataW H × List MemPlace}
/-- The byte's number. -/
def RowOne (b : UInt8) (n : Int) : Prop := (b.toNat : Int) = n
theorem byte_wf {n : Int} (h : (Lit.int .u8 n).wf = true) : ∃ b : UInt8, RowOne b n := by
  have hl : 0 ≤ n ∧ n ≤ 255 := by
    simp [Lit.wf] at h
    exact h
  exact ⟨UInt8.ofNat n.toNat, by unfold RowOne; rw [UInt8.toNat_ofNat', Nat.mod_eq_of_lt (by omega)]; omega⟩
theorem open_bs (h : DataW.trod enc Tryz.prog w base spare held fuel 22 cs = some x) : ∃ b : List UInt8, BgB b ∧ RowRep w.cell? [eBs b] cs := by
  obtain ⟨l, h1, _, h3⟩ := open_sl eb (fun _ => True) Tryz.underlying22 (sz := 1) (by kernel_rfl) (fun _ => rfl) (fun m cs x hx => by
    obtain ⟨n, hw, hr⟩ := open_in Tryz.underlying5 hx
    obtain ⟨b, hb⟩ := byte_wf hw
    have e : eb b = [PV.lit (.int .u8 n)] := by unfold RowOne at hb; rw [eb, hb]
    exact ⟨b, trivial, by rw [e]; exact hr⟩) h
  exact ⟨l, h1, h3⟩
theorem open_item (h : DataW.trod enc Tryz.prog w base spare held fuel 92 cs = some x) : ∃ a : Item, BgI a ∧ RowRep w.cell? (eItem a) cs := by
  obtain ⟨hl, hf⟩ := open_st Tryz.underlying92 h
  obtain ⟨_, _, g0⟩ := hf 0 _ rfl
  obtain ⟨r, b0, k0⟩ := open_tx Tryz.underlying9 g0
  obtain ⟨_, _, g1⟩ := hf 1 _ rfl
  obtain ⟨t, _, k1⟩ := open_in Tryz.underlying3 g1
  obtain ⟨_, _, g2⟩ := hf 2 _ rfl
  obtain ⟨d, _, k2⟩ := open_in Tryz.underlying3 g2
  obtain ⟨_, _, g3⟩ := hf 3 _ rfl
  obtain ⟨b, b3, k3⟩ := open_bs g3
  exact ⟨⟨r, t, d, b⟩, ⟨b0, b3⟩, .fld (o := 0) (o' := 1) k0 (by kernel_rfl) <| .fld (o := 1) (o' := 2) k1 (by kernel_rfl) <| .fld (o := 2) (o' := 3) k2 (by kernel_rfl) <| .fld (o := 3) (o' := 4) k3 (by kernel_rfl) <| .nil (n := 4) (hl.trans (by kernel_rfl))⟩
theorem open_items (h : DataW.trod enc Tryz.prog w base spare held fuel 23 cs = some x) : ∃ l : List Item, BgL BgI l ∧ RowRep w.cell? [eItems l] cs := by
  obtain ⟨l, h1, h2, h3⟩ := open_sl eItem BgI Tryz.underlying23 (sz := 4) (by kernel_rfl) (fun _ => rfl) (fun m cs x hx => open_item hx) h
  exact ⟨l, ⟨h1, h2⟩, h3⟩
theorem open_post (h : DataW.trod enc Tryz.prog w base spare held fuel 25 cs = some x) : ∃ a : Post, BgP a ∧ RowRep w.cell? (ePost a) cs := by
  obtain ⟨hl, hf⟩ := open_st Tryz.underlying25 h
  obtain ⟨_, _, g0⟩ := hf 0 _ rfl
  obtain ⟨q, b0, k0⟩ := open_items g0
  obtain ⟨_, _, g1⟩ := hf 1 _ rfl
  obtain ⟨t, _, k1⟩ := open_in Tryz.underlying3 g1
  obtain ⟨_, _, g2⟩ := hf 2 _ rfl
  obtain ⟨b, b2, k2⟩ := open_bs g2
  obtain ⟨_, _, g3⟩ := hf 3 _ rfl
  obtain ⟨s, _, k3⟩ := open_in Tryz.underlying3 g3
  exact ⟨⟨q, t, b, s⟩, ⟨b0, b2⟩, .fld (o := 0) (o' := 1) k0 (by kernel_rfl) <| .fld (o := 1) (o' := 2) k1 (by kernel_rfl) <| .fld (o := 2) (o' := 3) k2 (by kernel_rfl) <| .fld (o := 3) (o' := 4) k3 (by kernel_rfl) <| .nil (n := 4) (hl.trans (by kernel_rfl))⟩
theorem open_bss (h : DataW.trod enc Tryz.prog w base spare held fuel 26 cs = some x) : ∃ l : List (List UInt8), BgL BgB l ∧ RowRep w.cell? [eBss l] cs := by
  obtain ⟨l, h1, h2, h3⟩ := open_sl eBss1 BgB Tryz.underlying26 (sz := 1) (by kernel_rfl) (fun _ => rfl) (fun m cs x hx => open_bs hx) h
  exact ⟨l, ⟨h1, h2⟩, h3⟩
theorem open_reader (h : DataW.trod enc Tryz.prog w base spare held fuel 28 cs = some x) : ∃ a : Reader, BgR a ∧ RowRep w.cell? (eReader a) cs := by
  obtain ⟨hl, hf⟩ := open_st Tryz.underlying28 h
  obtain ⟨_, _, g0⟩ := hf 0 _ rfl
  obtain ⟨s, b0, k0⟩ := open_bs g0
  obtain ⟨_, _, g1⟩ := hf 1 _ rfl
  obtain ⟨e, _, k1⟩ := open_in Tryz.underlying3 g1
  obtain ⟨_, _, g2⟩ := hf 2 _ rfl
  obtain ⟨a, b2, k2⟩ := open_bss g2
  obtain ⟨_, _, g3⟩ := hf 3 _ rfl
  obtain ⟨g, b3, k3⟩ := open_bss g3
  exact ⟨⟨s, e, a, g⟩, ⟨b0, b2, b3⟩, .fld (o := 0) (o' := 1) k0 (by kernel_rfl) <| .fld (o := 1) (o' := 2) k1 (by kernel_rfl) <| .fld (o := 2) (o' := 3) k2 (by kernel_rfl) <| .fld (o := 3) (o' := 4) k3 (by kernel_rfl) <| .nil (n := 4) (hl.trans (by kernel_rfl))⟩
theorem open_wire (h : DataW.trod enc Tryz.prog w base spare held fuel 94 cs = some x) : ∃ a : Wire, BgW a ∧ RowRep w.cell? (eWire a) cs := by
  obtain ⟨hl, hf⟩ := open_st Tryz.underlying94 h
  obtain ⟨_, _, g0⟩ := hf 0 _ rfl
  obtain ⟨t, k0⟩ := open_bo Tryz.underlying4 g0
  obtain ⟨_, _, g1⟩ := hf 1 _ rfl
  obtain ⟨i, b1, k1⟩ := open_item g1
  obtain ⟨_, _, g2⟩ := hf 2 _ rfl
  obtain ⟨b, b2, k2⟩ := open_bs g2
  exact ⟨⟨t, i, b⟩, ⟨b1, b2⟩, .fld (o := 0) (o' := 1) k0 (by kernel_rfl) <| .fld (o := 1) (o' := 5) k1 (by kernel_rfl) <| .fld (o := 5) (o' := 6) k2 (by kernel_rfl) <| .nil (n := 6) (hl.trans (by kernel_rfl))⟩
theorem open_wires (h : DataW.trod enc Tryz.prog w base spare held fuel 29 cs = some x) : ∃ l : List Wire, BgL BgW l ∧ RowRep w.cell? [eWires l] cs := by
  obtain ⟨l, h1, h2, h3⟩ := open_sl eWire BgW Tryz.underlying29 (sz := 6) (by kernel_rfl) (fun _ => rfl) (fun m cs x hx => open_wire hx) h
  exact ⟨l, ⟨h1, h2⟩, h3⟩
theorem open_sent (h : DataW.trod enc Tryz.prog w base spare held fuel 96 cs = some x) : ∃ a : Sent, BgS a ∧ RowRep w.cell? (eSent a) cs := by
  obtain ⟨hl, hf⟩ := open_st Tryz.underlying96 h
  obtain ⟨_, _, g0⟩ := hf 0 _ rfl
  obtain ⟨r, b0, k0⟩ := open_tx Tryz.underlying9 g0
  obtain ⟨_, _, g1⟩ := hf 1 _ rfl
  obtain ⟨e, _, k1⟩ := open_in Tryz.underlying3 g1
  obtain ⟨_, _, g2⟩ := hf 2 _ rfl
  obtain ⟨n, b2, k2⟩ := open_bs g2
  obtain ⟨_, _, g3⟩ := hf 3 _ rfl
  obtain ⟨b, b3, k3⟩ := open_bs g3
  exact ⟨⟨r, e, n, b⟩, ⟨b0, b2, b3⟩, .fld (o := 0) (o' := 1) k0 (by kernel_rfl) <| .fld (o := 1) (o' := 2) k1 (by kernel_rfl) <| .fld (o := 2) (o' := 3) k2 (by kernel_rfl) <| .fld (o := 3) (o' := 4) k3 (by kernel_rfl) <| .nil (n := 4) (hl.trans (by kernel_rfl))⟩
theorem open_sents (h : DataW.trod enc Tryz.prog w base spare held fuel 30 cs = some x) : ∃ l : List Sent, BgL BgS l ∧ RowRep w.cell? [eSents l] cs := by
  obtain ⟨l, h1, h2, h3⟩ := open_sl eSent BgS Tryz.underlying30 (sz := 4) (by kernel_rfl) (fun _ => rfl) (fun m cs x hx => open_sent hx) h
  exact ⟨l, ⟨h1, h2⟩, h3⟩
theorem open_world (h : DataW.trod enc Tryz.prog w base spare held fuel 32 cs = some x) : ∃ a : Earth, BgE a ∧ RowRep w.cell? (eEarth a) cs := by
  obtain ⟨hl, hf⟩ := open_st Tryz.underlying32 h
  obtain ⟨_, _, g0⟩ := hf 0 _ rfl
  obtain ⟨s, b0, k0⟩ := open_bs g0
  obtain ⟨_, _, g1⟩ := hf 1 _ rfl
  obtain ⟨c, _, k1⟩ := open_in Tryz.underlying3 g1
  obtain ⟨_, _, g2⟩ := hf 2 _ rfl
  obtain ⟨k, _, k2⟩ := open_in Tryz.underlying3 g2
  obtain ⟨_, _, g3⟩ := hf 3 _ rfl
  obtain ⟨p, b3, k3⟩ := open_post g3
  obtain ⟨_, _, g4⟩ := hf 4 _ rfl
  obtain ⟨r, b4, k4⟩ := open_reader g4
  obtain ⟨_, _, g5⟩ := hf 5 _ rfl
  obtain ⟨n, b5, k5⟩ := open_wires g5
  obtain ⟨_, _, g6⟩ := hf 6 _ rfl
  obtain ⟨t, b6, k6⟩ := open_sents g6
  exact ⟨⟨s, c, k, p, r, n, t⟩, ⟨b0, b3, b4, b5, b6⟩, .fld (o := 0) (o' := 1) k0 (by kernel_rfl) <| .fld (o := 1) (o' := 2) k1 (by kernel_rfl) <| .fld (o := 2) (o' := 3) k2 (by kernel_rfl) <| .fld (o := 3) (o' := 7) k3 (by kernel_rfl) <| .fld (o := 7) (o' := 11) k4 (by kernel_rfl) <| .fld (o := 11) (o' := 12) k5 (by kernel_rfl) <| .fld (o := 12) (o' := 13) k6 (by kernel_rfl) <| .nil (n := 13) (hl.trans (by kernel_rfl))⟩
end
end Go.Wl
