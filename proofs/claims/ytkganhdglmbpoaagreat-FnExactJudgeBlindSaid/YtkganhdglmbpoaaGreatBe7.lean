/- The engine, twenty-sixth text: append of a made row of zeros. The walks: padding. The walks: the judges of blindness and of all. The walks: the laws of JudgeBlind, JudgeAll. All walks of the core's laws. -/
import Derived.Test.YtkganhdglmbpoaaGreatBe6
import Derived.Lib.AppendZeros
set_option linter.unusedVariables false
set_option linter.unusedSimpArgs false
namespace Go.Pw
open Go Go.RowKit
theorem run_grow_zeros {P : Program} (w : World) (t tn ty e : TypeId) (i : TypeInfo) (z : Value) {kn : IntKind} (ht : P.underlying t = some (.slice e)) (htn : P.underlying tn = some (.int kn)) (hi : P.info? e = some i) (hz : i.zero = some z)
    (b : Addr) (sLen sCap : Nat) (olds : List Value) (hlo : olds.length = sLen * i.size) (holds : ∀ j v, olds[j]? = some v → w.cell? (b.add j) = some v)
    (n : Nat) (h0 : 0 < n) (hs0 : 0 < i.size) (hg : sCap < sLen + n) (h63 : ((sLen + n : Nat) : Int) ≤ 9223372036854775807) (h48i : ¬ (281474976710656 < (n : Int) * (i.bytes : Int))) (hfit : Builtin.nextslicecap (sLen + n) sCap * i.bytes ≤ 281474976710656) :
    (Builtin.append_ #[t, tn] ty #[.slice (some b) sLen sCap, .int .i64 (n : Int)]).run P w =
      .ok (.slice (some ⟨w.heap.size, 0, none⟩) (sLen + n) (grownCap w (sLen + n) sCap e))
        (w.drew.alloc (.cells (olds.toArray ++ (Builtin.zeroCells z.cells n).toList.toArray ++ Builtin.zeroCells z.cells (grownCap w (sLen + n) sCap e - (sLen + n))) e)) := by
  have hw : IntKind.i64.wrap (n : Int) = n := by rw [IntKind.wrap_i64]; omega
  have hneg : ¬ ((n : Int) < 0) := by omega
  have hns : ¬ (n * i.size = 0) := Nat.mul_ne_zero (by omega) (by omega)
  have hn : ¬ (sLen + n ≤ sCap) := by omega
  have h63' : ¬ (9223372036854775807 < ((sLen : Int) + (n : Int))) := by omega
  have h48' : ¬ (281474976710656 < Builtin.nextslicecap (sLen + n) sCap * i.bytes) := by omega
  have hfo := run_firstCells_some (P := P) w.drew i.size sLen b sLen sCap olds hlo (by simpa using holds)
  simp [Builtin.append_, run_underlying ht, run_underlying htn, sizeOf, typeInfo, zeroValue, hi, hz, asInt, asIntOf, hw, hneg, hns, h48i, hn, h63', h48', Question.forced, hfo, newRow, grownCap]
theorem run_appZ {P : Program} [TC P] {W : World} {base : Nat} {Z : Cells} {sz n m : Nat} {v : Value} {t tn ty e : Nat} {kn : IntKind} {i j : TI} (htn : P.underlying tn = some (.int kn)) (ht : lk (TC.T P) t = some i) (hd : i.d = .slice e) (he : lk (TC.T P) e = some j) (hj : j.sz = sz) (hzs : j.zero.cells.size = sz) (hbase : base ≤ W.heap.size)
    (hok : TkOk base Z W sz n v) {xs news : List Value} (hx : xs.length = n * sz) (hxs : ∀ g cap, v = .slice (some ⟨g, 0, none⟩) n cap → ∀ (j : Nat) (u : Value), xs[j]? = some u → W.cell? ⟨g, j, none⟩ = some u)
    (hl : news.length = m * sz) (h1 : ∀ u ∈ news, u.oneCell' = true) (hN : news = (Builtin.zeroCells j.zero.cells m).toList) (hs0 : 0 < sz)
    (hb : (n + m) * j.bytes ≤ 140737488355328) (h63 : n + m ≤ 9223372036854775807) :
    ∃ v' W', (Builtin.append_ #[t, tn] ty #[v, .int .i64 (m : Int)]).run P W = .ok v' W' ∧ Grew base W sz v n xs news m v' W' := by
  have hu := (TC.at_ ht).und
  rw [hd] at hu
  have hu : P.underlying t = some (.slice e) := hu
  have hw : IntKind.i64.wrap (m : Int) = m := by rw [IntKind.wrap_i64]; omega
  have hneg : ¬ ((m : Int) < 0) := by omega
  obtain ⟨ti, hi, hi1, hi2, hi3⟩ := (TC.at_ he).info
  rw [hj] at hi1
  by_cases hm : m = 0
  · subst hm
    have hn0 : news = [] := List.eq_nil_of_length_eq_zero (by simpa using hl)
    subst hn0
    refine ⟨v, W, ?_, ⟨rfl, rfl, rfl, Nat.le_refl _, .inl ⟨rfl, rfl, rfl⟩⟩⟩
    rcases hok with ⟨rfl, rfl⟩ | ⟨g, cap, cur, e', rfl, hh, h2, h3, h4, h5, h6⟩
    · have hw0 : IntKind.i64.wrap 0 = 0 := by decide
      simp [Builtin.append_, run_underlying hu, run_underlying htn, sizeOf, typeInfo, hi, asInt, asIntOf, hw0]
    · have hw0 : IntKind.i64.wrap 0 = 0 := by decide
      simp [Builtin.append_, run_underlying hu, run_underlying htn, sizeOf, typeInfo, hi, asInt, asIntOf, hw0, h2, storeCells]
  · have h48i : ¬ (281474976710656 < (m : Int) * (ti.bytes : Int)) := by
      rw [← Int.natCast_mul]
      have : m * j.bytes ≤ (n + m) * j.bytes := Nat.mul_le_mul_right _ (by omega)
      rw [← hi2] at hb this
      omega
    have hns : ¬ (m * ti.size = 0) := by rw [hi1]; exact Nat.mul_ne_zero hm (by omega)
    have hbytes : (n + m) * ti.bytes ≤ 140737488355328 := by rw [hi2]; exact hb
    have hcapm : n + m ≤ maxLen := by simp only [maxLen]; omega
    rcases hok with ⟨rfl, rfl⟩ | ⟨g, cap, cur, e', rfl, hh, h2, h3, h4, h5, h6⟩
    · have hx0 : xs = [] := List.eq_nil_of_length_eq_zero (by simpa using hx)
      subst hx0
      have hr := Lib.run_append_nil_zeros (P := P) W t tn ty e ti j.zero .i64 kn hu htn hi hi3 m (by omega) (by omega) (by omega) (by have := hbytes; simp only [Nat.zero_add] at this; omega)
      refine ⟨_, _, hr, ⟨rfl, rfl, rfl, by simp, .inr ⟨by omega, W.heap.size, _, _, e, by rw [Nat.zero_add], heap_alloc_new W.drew _, by rw [Nat.zero_add]; exact grownCap_ge W m 0 e, grownCap_le_maxLen W m 0 e (by omega), ?_, hbase, fun k u hu => ?_, fun k hk hlt => Below.heap_alloc W.drew _ k hlt, .inr rfl⟩⟩⟩
      · refine Nat.le_of_eq ?_
        simp only [Array.size_append, size_zeroCells, hzs, ← Nat.add_mul]
        congr 1
        have := grownCap_ge W m 0 e
        omega
      · rw [List.nil_append] at hu
        rw [hN] at hu
        have hu2 : (Builtin.zeroCells j.zero.cells m)[k]? = some u := by rw [← Array.getElem?_toList]; exact hu
        rw [Array.getElem?_append_left (Array.getElem?_eq_some_iff.1 hu2).1]
        exact hu2
    · by_cases hroom : n + m ≤ cap
      · have hfit : n * ti.size + news.length ≤ cur.size := by rw [hl, hi1, ← Nat.add_mul]; exact Nat.le_trans (Nat.mul_le_mul_right _ hroom) h4
        have hee : e' = e' := rfl
        have hr : (Builtin.append_ #[t, tn] ty #[.slice (some ⟨g, 0, none⟩) n cap, .int .i64 (m : Int)]).run P W = .ok (.slice (some ⟨g, 0, none⟩) (n + m) cap) (W.setRow g (cur.toList.take (n * ti.size) ++ news ++ cur.toList.drop (n * ti.size + news.length)).toArray) := by
          have hst := run_storeCells_at P g (n * ti.size) e' news 0 cur W hh (by simpa using hfit) h1
          simp only [Nat.add_zero] at hst
          simp [Builtin.append_, run_underlying hu, run_underlying htn, sizeOf, typeInfo, zeroValue, hi, hi3, asInt, asIntOf, hw, hneg, h48i, hns, hroom, ← hN, Addr.add_lit, hst]
        have hcur : ∀ (k : Nat) (u : Value), xs[k]? = some u → cur[k]? = some u := fun k u hk => by
          have := hxs g cap rfl k u hk
          rw [cell_of_row W g k cur e' (0, 0) hh] at this
          exact this
        refine ⟨_, _, hr, ⟨rfl, rfl, rfl, by simp, .inr ⟨by omega, g, cap, _, e', rfl, setRow_heap W g cur _ e' _ hh, hroom, h3, ?_, h5, fun k u hk => ?_, fun k hk _ => setRow_other W g k _ hk, .inl rfl⟩⟩⟩
        · simp only [List.size_toArray, List.length_append, List.length_take, List.length_drop, Array.length_toList]
          omega
        · rw [hi1]
          by_cases hkn : k < n * sz
          · rw [List.getElem?_append_left (by omega)] at hk
            have := hcur k u hk
            simp only [List.append_assoc, List.getElem?_toArray]
            rw [List.getElem?_append_left (by rw [List.length_take, Array.length_toList]; have := (Array.getElem?_eq_some_iff.1 this).1; omega), List.getElem?_take_of_lt hkn]
            simpa using this
          · rw [List.getElem?_append_right (by omega), hx] at hk
            have hk2 := (List.getElem?_eq_some_iff.1 hk).1
            simp only [List.append_assoc, List.getElem?_toArray]
            have ht2 : (cur.toList.take (n * sz)).length = n * sz := by rw [List.length_take, Array.length_toList]; rw [hi1] at hfit; omega
            rw [List.getElem?_append_right (by omega), ht2, List.getElem?_append_left (by omega)]
            exact hk
      · have holds : ∀ (j : Nat) (u : Value), xs[j]? = some u → W.cell? ((⟨g, 0, none⟩ : Addr).add j) = some u := fun j u hj => by rw [Addr.add_lit, Nat.zero_add]; exact hxs g cap rfl j u hj
        have hr := run_grow_zeros (P := P) W t tn ty e ti j.zero hu htn hi hi3 ⟨g, 0, none⟩ n cap xs (by rw [hi1]; exact hx) holds m (by omega) (by omega) (by omega) (by omega) h48i (growslice_fits (by omega) hbytes)
        rw [← hN] at hr
        refine ⟨_, _, hr, ⟨rfl, rfl, rfl, by simp, .inr ⟨by omega, W.heap.size, _, _, e, rfl, heap_alloc_new W.drew _, grownCap_ge W (n + m) cap e, grownCap_le_maxLen W (n + m) cap e hcapm, ?_, hbase, fun k u hu => ?_, fun k hk hlt => Below.heap_alloc W.drew _ k hlt, .inr rfl⟩⟩⟩
        · refine Nat.le_of_eq ?_
          simp only [Array.size_append, List.size_toArray, size_zeroCells, hzs, hl, hx, ← Nat.add_mul]
          congr 1
          have := grownCap_ge W (n + m) cap e
          omega
        · have hk2 := (List.getElem?_eq_some_iff.1 hu).1
          rw [Array.getElem?_append_left (by simpa using hk2)]
          simpa using hu
theorem rep_at {α : Type} (L : List α) {sz : Nat} (hL : L.length = sz) : ∀ (m i j : Nat), i < m → j < sz → (List.replicate m L).flatten[i * sz + j]? = L[j]?
  | 0, i, j, h, _ => by omega
  | m + 1, 0, j, _, hj => by
    rw [List.replicate_succ, List.flatten_cons, Nat.zero_mul, Nat.zero_add, List.getElem?_append_left (by omega)]
  | m + 1, i + 1, j, h, hj => by
    have e : (i + 1) * sz + j - sz = i * sz + j := by rw [Nat.succ_mul]; omega
    rw [List.replicate_succ, List.flatten_cons, List.getElem?_append_right (by rw [Nat.succ_mul]; omega), hL, e]
    exact rep_at L hL m i j (by omega) hj
theorem zero_cells {Z : Cells} {sz m : Nat} {j : TI} (hzs : j.zero.cells.size = sz) (h1z : j.zero.cells.toList.all Value.oneCell' = true) : CellsOf Z sz (List.replicate m (j.zero.cells.toList.map PV.lit)) (Builtin.zeroCells j.zero.cells m).toList := by
  rw [zeroCells_flat]
  have hL : j.zero.cells.toList.length = sz := by rw [Array.length_toList, hzs]
  refine ⟨?_, fun e he => ?_, fun u hu => ?_, fun i e k p hi hk => ?_⟩
  · rw [List.length_replicate]
    induction m with
    | zero => simp
    | succ m ih => rw [List.replicate_succ, List.flatten_cons, List.length_append, ih, hL, Nat.succ_mul]; omega
  · rw [List.eq_of_mem_replicate he, List.length_map, hL]
  · obtain ⟨l, hl, hu⟩ := List.mem_flatten.1 hu
    rw [List.eq_of_mem_replicate hl] at hu
    exact List.all_eq_true.1 h1z u hu
  · have him : i < m := by simpa using (List.getElem?_eq_some_iff.1 hi).1
    have he : e = j.zero.cells.toList.map PV.lit := List.eq_of_mem_replicate (List.mem_of_getElem? hi)
    subst he
    rw [List.getElem?_map] at hk
    have hks : k < sz := by
      rcases Nat.lt_or_ge k sz with h | h
      · exact h
      · rw [List.getElem?_eq_none (by omega)] at hk; simp at hk
    obtain ⟨u, hu⟩ : ∃ u, j.zero.cells.toList[k]? = some u := ⟨_, List.getElem?_eq_getElem (by omega)⟩
    rw [hu] at hk
    simp only [Option.map_some, Option.some.injEq] at hk
    subst hk
    exact ⟨u, by rw [rep_at _ hL m i k him hks]; exact hu, .lit _ _⟩
theorem appZ_step {cx : Cx} [TC cx.P] {S : PS} {a : Act} {W : World} {Z : Cells} {μ : Mu} (hz : RZ cx S a W Z μ) {tok sz m : Nat} {es : List (List PV)} {v : Value} {t tn ty e : Nat} {kn : IntKind} {i j : TI} (htn : cx.P.underlying tn = some (.int kn)) (hv : Rep Z μ (.sl sz es (some tok)) v)
    (htk : lk S.h.tk tok = some (sz, es.length)) (ht : lk (TC.T cx.P) t = some i) (hd : i.d = .slice e) (he : lk (TC.T cx.P) e = some j) (hj : j.sz = sz) (hzs : j.zero.cells.size = sz) (h1z : j.zero.cells.toList.all Value.oneCell' = true) (hs0 : 0 < sz) (hb : (es.length + m) * j.bytes ≤ 140737488355328) (h63 : es.length + m ≤ 9223372036854775807) :
    ∃ v' W' Z' μ', (Builtin.append_ #[t, tn] ty #[v, .int .i64 (m : Int)]).run cx.P W = .ok v' W' ∧ RZ cx ⟨S.env, ⟨S.h.bx, (tok, (sz, (es ++ (List.replicate m (j.zero.cells.toList.map PV.lit))).length)) :: S.h.tk⟩⟩ a W' Z' μ' ∧ Rep Z' μ' (.sl sz (es ++ (List.replicate m (j.zero.cells.toList.map PV.lit))) (some tok)) v' := by
  obtain ⟨A0, c0, xs, rfl, hc0, hxs, hZx⟩ := hv.news
  generalize hnew : (List.replicate m (j.zero.cells.toList.map PV.lit)) = new
  have hnl : new.length = m := by rw [← hnew]; simp
  generalize hN : (Builtin.zeroCells j.zero.cells m).toList = news
  have hns : CellsOf Z sz new news := by rw [← hnew, ← hN]; exact zero_cells hzs h1z
  have hvtk : μ.tk tok es.length = some (.slice A0 es.length c0) := by cases hv with | own _ _ _ _ _ _ ht => exact ht
  obtain ⟨v0, hv0, hok⟩ := hz.h.tk tok sz es.length htk
  rw [hvtk] at hv0
  cases hv0
  have hxcell : ∀ g cap, Value.slice A0 es.length c0 = .slice (some ⟨g, 0, none⟩) es.length cap → ∀ (j : Nat) (u : Value), xs[j]? = some u → W.cell? ⟨g, j, none⟩ = some u := fun g cap e k u hu => by
    cases e
    have hpos : 0 < es.length := by
      rcases Nat.eq_zero_or_pos es.length with h0 | h0
      · have := hxs.len; rw [h0, Nat.zero_mul] at this
        rw [List.eq_nil_of_length_eq_zero this] at hu; simp at hu
      · exact h0
    obtain ⟨ad, e2, hc⟩ := hZx hpos
    cases e2
    have := hz.sub _ _ (hc k u hu)
    rwa [Addr.add_lit, Nat.zero_add] at this
  obtain ⟨v', W', hr, hg⟩ := run_appZ (ty := ty) htn ht hd he hj hzs hz.below.size hok hxs.len hxcell (by rw [hns.len, hnl]) hns.one hN.symm hs0 hb h63
  rw [← hnl] at hg
  have hlen : (es ++ new).length = es.length + new.length := List.length_append
  rcases hg.out with ⟨rfl, rfl, hm⟩ | ⟨hpos, g, cap, cur, e', rfl, hh, hcap, hcm, hcs, hbg, hcur, hoth, hwhere⟩
  · have hn : new = [] := List.eq_nil_of_length_eq_zero hm
    subst hn
    refine ⟨_, _, Z, μ, hr, ?_, by rw [List.append_nil]; exact hv⟩
    rw [List.append_nil]
    refine ⟨hz.env, ?_, hz.sub, hz.le, hz.below⟩
    have hsame : ∀ u, lk ((tok, (sz, es.length)) :: S.h.tk) u = lk S.h.tk u := fun u => by
      rw [lk_cons]; by_cases h : tok = u
      · subst h; rw [if_pos rfl, htk]
      · rw [if_neg h]
    exact ⟨hz.h.bx, fun u s n h => hz.h.tk u s n (by rwa [hsame] at h), hz.h.bb, fun p q s n s' n' a b g h1 h2 => hz.h.tt p q s n s' n' a b g (by rwa [hsame] at h1) (by rwa [hsame] at h2), hz.h.bd, fun u n x h => by show lk ((tok, (sz, es.length)) :: S.h.tk) u ≠ none; rw [hsame]; exact hz.h.td u n x h, fun u n x s m h h2 => hz.h.tm u n x s m h (by rwa [hsame] at h2), fun p q x s n b g h1 h2 => hz.h.bt p q x s n b g h1 (by rwa [hsame] at h2)⟩
  · have hcell : ∀ (k : Nat) (u : Value), (xs ++ news)[k]? = some u → W'.cell? ⟨g, k, none⟩ = some u := fun k u hu => by
      rw [cell_of_row W' g k cur e' (0, 0) hh]; exact hcur k u hu
    have hZg : ∀ off, es.length * sz ≤ off → Z ⟨g, off, none⟩ = none := fun off ho => by
      rcases hwhere with h1 | h1
      · rcases hok with ⟨h2, _⟩ | ⟨g2, c2, cur2, e2, h2, _, _, _, _, _, h3⟩
        · rw [h2] at h1; simp [Value.ownBlock] at h1
        · rw [h2] at h1; simp [Value.ownBlock] at h1; subst h1; exact h3 off ho
      · exact hz.sub.free (by omega) off
    have hsub1 : Sub Z W' := fun ad u e => by
      have hlt := hz.sub.lt e
      by_cases hg2 : ad.block = g
      · have hsp := hz.sub.spot e
        have had : ad = ⟨g, ad.off, none⟩ := by cases ad; simp at hg2 hsp ⊢; exact ⟨hg2, hsp⟩
        have hoff : ad.off < es.length * sz := by
          rcases Nat.lt_or_ge ad.off (es.length * sz) with h | h
          · exact h
          · rw [had, hZg _ h] at e; cases e
        rw [had] at e ⊢
        have hin : ad.off < xs.length := by rw [hxs.len]; exact hoff
        have hA0 : A0 = some ⟨g, 0, none⟩ := by
          rcases hwhere with h1 | h1
          · rcases hok with ⟨h2, _⟩ | ⟨g2, c2, cur2, e2, h2, _⟩
            · rw [h2] at h1; simp [Value.ownBlock] at h1
            · rw [h2] at h1; simp [Value.ownBlock] at h1; subst h1; cases h2; rfl
          · omega
        have hx1 := hxcell g c0 (by rw [hA0]) ad.off _ (List.getElem?_eq_getElem hin)
        rw [hz.sub _ _ e] at hx1
        have hx2 := hcell ad.off _ (by rw [List.getElem?_append_left hin]; exact List.getElem?_eq_getElem hin)
        rw [hx2]; exact hx1.symm
      · exact (World.cell?_of_block (hoth ad.block hg2 hlt)).trans (hz.sub ad u e)
    have hsub2 : Sub (Z.add g (xs ++ news)) W' := hsub1.add hcell
    have hle2 : μ.le (μ.setTk tok (es ++ new).length (.slice (some ⟨g, 0, none⟩) (es.length + new.length) cap)) := Mu.setTk_le fun u hu => by
      have hmx := hz.h.tm _ _ _ _ _ hu htk
      omega
    have hR := hz.h.setTk (W' := W') (Z' := Z.add g (xs ++ news)) htk hvtk (by omega : es.length ≤ (es ++ new).length) hle2 (Cells.le_add _ _ _) (.inr ⟨g, cap, cur, e', by rw [hlen], hh, by omega, hcm, hcs, hbg, fun off ho => Cells.add_none (hZg off (Nat.le_trans (Nat.mul_le_mul_right _ (by omega)) ho)) (fun _ => by rw [List.length_append, hxs.len, hns.len, ← Nat.add_mul, ← hlen]; exact ho)⟩) (g := g) rfl hwhere (fun k hk hlt => hoth k hk hlt) (fun k off hk h0 => Cells.add_none h0 (fun e => absurd e hk))
    refine ⟨_, _, _, _, hr, ⟨hz.env.mono (Cells.le_add _ _ _) hle2, hR, hsub2, hz.le.trans ⟨Cells.le_add _ _ _, fun ad u e => (Cells.add_inv e).imp id (fun x => by omega)⟩ (Nat.le_refl _), hz.below.trans ⟨hg.os, hg.tape, hg.output, hg.size, fun k hk => hoth k (by omega) (Nat.lt_of_lt_of_le hk hz.below.size)⟩⟩, ?_⟩
    have hrep := ((hxs.append hns).mono (Cells.le_add Z g (xs ++ news))).rep (A := some ⟨g, 0, none⟩) (c := cap) (by omega) (fun _ => ⟨_, rfl, fun k u hu => by rw [Addr.add_lit, Nat.zero_add]; exact Cells.add_at hsub1 hcell k u hu⟩) (μ.setTk tok (es ++ new).length (.slice (some ⟨g, 0, none⟩) (es.length + new.length) cap))
    rw [hlen] at hrep
    refine .own _ _ _ _ _ (by rw [hlen]; exact hrep) (by simp [Mu.setTk])
section
variable {cx : Cx} [TC cx.P] {S : PS} {o : Oper} {ops : Array Oper} {rest : List Oper} {Q : Post}
theorem PL.appZ {x y : Operand} {t tn e tok sz m : Nat} {kn : IntKind} {es : List (List PV)} {i j k : TI} (htn : lk (TC.T cx.P) tn = some k) (hkn : k.d = .int kn) (ho : o.op = .call { callee := .builtin .append, args := #[x, y], argTypes := #[t, tn] }) (hx : S.ev x = some (.sl sz es (some tok))) (hy : S.ev y = some (.lit (.int .i64 (m : Int))))
    (htk : lk S.h.tk tok = some (sz, es.length)) (ht : lk (TC.T cx.P) t = some i) (hd : i.d = .slice e) (he : lk (TC.T cx.P) e = some j) (hj : j.sz = sz) (hzs : j.zero.cells.size = sz) (h1z : j.zero.cells.toList.all Value.oneCell' = true) (hs0 : 0 < sz) (hb : (es.length + m) * j.bytes ≤ 140737488355328) (h63 : es.length + m ≤ 9223372036854775807)
    (hw : Wants cx ops o S true) (hn : dstOk cx.n o.dst = true)
    (kk : PL cx ops Q rest (PS.put ⟨S.env, ⟨S.h.bx, (tok, (sz, (es ++ (List.replicate m (j.zero.cells.toList.map PV.lit))).length)) :: S.h.tk⟩⟩ o.dst (.sl sz (es ++ (List.replicate m (j.zero.cells.toList.map PV.lit))) (some tok)))) : PL cx ops Q (o :: rest) S :=
  PL.cons hw (K := fun S' => S' = PS.put ⟨S.env, ⟨S.h.bx, (tok, (sz, (es ++ (List.replicate m (j.zero.cells.toList.map PV.lit))).length)) :: S.h.tk⟩⟩ o.dst (.sl sz (es ++ (List.replicate m (j.zero.cells.toList.map PV.lit))) (some tok))) (fun a W hR K' Q hK => by
    obtain ⟨Z, μ, hz⟩ := hR
    obtain ⟨v', W', Z', μ', hr, h1, h2⟩ := appZ_step (ty := o.type) hz (by have := (TC.at_ htn).und; rw [hkn] at this; exact this) (hz.ev hx) htk ht hd he hj hzs h1z hs0 hb h63
    have ey := (hz.ev hy).lit_inv
    show o.upon cx.P a K' Q _
    have hrun : (execOp a.eval o).run cx.P W = .ok (.value v') W' := by
      simp only [execOp, ho]
      simp [resolve, invoke, builtin, ey, hr]
    rw [hrun, Oper.upon_value]
    exact hK _ _ _ rfl ⟨Z', μ', h1.put hn h2⟩) fun S' e => by subst e; exact kk
end
end Go.Pw
set_option linter.unusedVariables false
set_option linter.unusedSimpArgs false
set_option maxRecDepth 100000
set_option maxHeartbeats 4000000
namespace Go.Wl
open Go Go.RowKit Go.Pw Go.Proofs
/-- A note behind its length, and k zeros. -/
def padK (b : List UInt8) (k : Nat) : List UInt8 := great (b.length : Nat) 2 ++ (b ++ List.replicate k 0)
def padStep (n : Nat) : Nat := if 96 < n then 96 else 32
def padN (n : Nat) : Nat := (padStep n - n % padStep n) % padStep n
def padded (b : List UInt8) : List UInt8 := if b.length ≤ 200 then padK b (padN (2 + b.length)) else []
theorem great_two (n : Nat) : (great (n : Int) 2).length = 2 := by
  rw [great, List.length_reverse, little, if_neg (by omega), littleL_len]; rfl
theorem padK_len (b : List UInt8) (k : Nat) : (padK b k).length = 2 + b.length + k := by
  rw [padK, List.length_append, List.length_append, great_two, List.length_replicate]; omega
theorem padN_le (n : Nat) : padN n ≤ 96 := by
  unfold padN padStep
  split <;> omega
theorem padded_len (b : List UInt8) : (padded b).length ≤ 400 := by
  unfold padded
  split
  · rw [padK_len]; have := padN_le (2 + b.length); omega
  · simp
theorem padK_step (b : List UInt8) (k : Nat) : (padK b k).map eb ++ [[PV.lit (.int .u8 0)]] = (padK b (k + 1)).map eb := by
  simp only [padK, List.map_append, List.append_assoc, List.replicate_succ', List.map_cons, List.map_nil]
  rfl
/- spec.Padded -/
theorem spec_Padded_spec (b : List UInt8) : Pw.Spec Tryz.prog 111 [eBs b] (fun res_ => res_ = eBs (padded b)) := by
  refine spec_of (n := 26) Tryz.call111 Tryz.func111 rfl rfl (by simp) rfl rfl fun W Z => ?_
  refine PW.seq ?_
  refine PW.region ?_
  refine PL.run 1 rfl ?_
  refine PL.nil ?_
  refine PW.seq ?_
  refine PW.seq ?_
  refine PW.region ?_
  refine PL.run 3 rfl ?_
  refine PL.nil ?_
  refine PW.cond rfl (fun h1 => ?_) (fun h1 => ?_)
  ·
    refine PW.seq ?_
    refine PW.region ?_
    refine PL.run 2 rfl ?_
    refine PL.nil ?_
    refine PW.ret ?_
    refine RetOk.of rfl (.one (.leaf (.ro _ _ _))) (by simp) (by simp) ?_
    have : ¬ b.length ≤ 200 := by simp at h1; omega
    simp [padded, this, eBs]
  ·
    have hb : b.length ≤ 200 := by simp at h1; omega
    have hg := great_len (((b.map eb).length : Nat) : Int) 2
    have eg : great (((b.map eb).length : Nat) : Int) 2 = great ((b.length : Nat) : Int) 2 := by rw [List.length_map]
    have hg2 := great_two b.length
    have e0 : (great (((b.map eb).length : Nat) : Int) 2).map eb ++ b.map eb = (padK b 0).map eb := by rw [eg]; simp [padK]
    have hl0 : (((great (((b.map eb).length : Nat) : Int) 2).map eb ++ b.map eb).length : Int) = ((2 + b.length : Nat) : Int) := by rw [e0, List.length_map, padK_len]; rfl
    have hpd : padded b = padK b (padN (2 + b.length)) := by rw [padded, if_pos hb]
    clear h1
    refine PW.skip ?_
    refine PW.seq ?_
    refine PW.region ?_
    refine PL.run 2 rfl ?_
    refine PL.call rfl rfl rfl (spec_Great_spec _ 2 (by simp; omega) 900) (.cons (.refl _) <| .cons (.refl _) <| .nil) (fun p hp => by subst hp; rfl) (wantV_ok rfl) rfl (fun p hp => ?_)
    subst hp
    refine PL.run 1 rfl ?_
    refine PL.app rfl rfl rfl rfl rfl rfl rfl rfl rfl rfl (by simp <;> omega) (by simp <;> omega) (wantV_ok rfl) rfl ?_
    refine PL.run 1 rfl ?_
    refine PL.nil ?_
    refine PW.seq ?_
    refine PW.region ?_
    refine PL.run 1 rfl ?_
    refine PL.nil ?_
    refine PW.seq ?_
    refine PW.seq ?_
    refine PW.region ?_
    refine PL.run 3 rfl ?_
    refine PL.nil ?_
    refine PW.cond rfl (fun h2 => ?_) (fun h2 => ?_)
    ·
      refine PW.region ?_
      refine PL.run 1 rfl ?_
      refine PL.nil ?_
      refine PW.seq ?_
      refine PW.block ?_
      have hs : padStep (2 + b.length) = 96 := by rw [padStep, if_pos]; rw [hl0] at h2; simp at h2; omega
      have hp : padN (2 + b.length) = (96 - (2 + b.length) % 96) % 96 := by rw [padN, hs]
      generalize padN (2 + b.length) = pn at hp hpd
      refine PW.loopAt (α := Nat) (fun k => ⟨[(3, .sl 1 ((padK b k).map eb) (some 900)), (4, eI 96)], ⟨[], [(900, (1, ((padK b k).map eb).length))]⟩⟩) (fun k => k ≤ pn) (fun k => pn - k) 0 (Le.row ⟨⟨rfl, rfl⟩, trivial⟩ rfl rfl e0) (Nat.zero_le _) (fun k hk => ?_)
      have hkl := padK_len b k
      refine PW.seq ?_
      refine PW.seq ?_
      refine PW.region ?_
      refine PL.run 3 rfl ?_
      refine PL.val (OpV.rem rfl rfl rfl (by decide)) (wantV_ok rfl) rfl ?_
      refine PL.run 1 rfl ?_
      refine PL.nil ?_
      refine PW.cond rfl (fun h3 => ?_) (fun h3 => ?_)
      ·
        refine PW.skip ?_
        refine PW.block ?_
        refine PW.region ?_
        refine PL.run 2 rfl ?_
        refine PL.app rfl rfl rfl rfl rfl rfl rfl rfl rfl rfl (by simp <;> omega) (by simp <;> omega) (wantV_ok rfl) rfl ?_
        refine PL.run 1 rfl ?_
        refine PL.nil ?_
        have hlt : k < pn := by
         simp only [List.length_map, hkl, Bool.not_eq_true', decide_eq_false_iff_not] at h3
         rw [Int.tmod_eq_emod_of_nonneg (by omega)] at h3
         omega
        refine ⟨k + 1, Le.row ⟨⟨rfl, rfl⟩, trivial⟩ rfl rfl (padK_step b k), hlt, by omega⟩
      ·
        refine PW.exit ?_
        refine PW.seq ?_
        refine PW.region ?_
        refine PL.run 2 rfl ?_
        refine PL.nil ?_
        refine PW.ret ?_
        have hkk : k = pn := by
         simp only [List.length_map, hkl, Bool.not_eq_false', decide_eq_true_eq] at h3
         rw [Int.tmod_eq_emod_of_nonneg (by omega)] at h3
         omega
        refine RetOk.of rfl (.one (.leaf (.ro _ _ _))) (by simp) (by simp) ?_
        rw [hpd, hkk]; rfl
    ·
      refine PW.skip ?_
      refine PW.seq ?_
      refine PW.block ?_
      have hs : padStep (2 + b.length) = 32 := by rw [padStep, if_neg]; rw [hl0] at h2; simp at h2; omega
      have hp : padN (2 + b.length) = (32 - (2 + b.length) % 32) % 32 := by rw [padN, hs]
      generalize padN (2 + b.length) = pn at hp hpd
      refine PW.loopAt (α := Nat) (fun k => ⟨[(3, .sl 1 ((padK b k).map eb) (some 900)), (4, eI 32)], ⟨[], [(900, (1, ((padK b k).map eb).length))]⟩⟩) (fun k => k ≤ pn) (fun k => pn - k) 0 (Le.row ⟨⟨rfl, rfl⟩, trivial⟩ rfl rfl e0) (Nat.zero_le _) (fun k hk => ?_)
      have hkl := padK_len b k
      refine PW.seq ?_
      refine PW.seq ?_
      refine PW.region ?_
      refine PL.run 3 rfl ?_
      refine PL.val (OpV.rem rfl rfl rfl (by decide)) (wantV_ok rfl) rfl ?_
      refine PL.run 1 rfl ?_
      refine PL.nil ?_
      refine PW.cond rfl (fun h4 => ?_) (fun h4 => ?_)
      ·
        refine PW.skip ?_
        refine PW.block ?_
        refine PW.region ?_
        refine PL.run 2 rfl ?_
        refine PL.app rfl rfl rfl rfl rfl rfl rfl rfl rfl rfl (by simp <;> omega) (by simp <;> omega) (wantV_ok rfl) rfl ?_
        refine PL.run 1 rfl ?_
        refine PL.nil ?_
        have hlt : k < pn := by
         simp only [List.length_map, hkl, Bool.not_eq_true', decide_eq_false_iff_not] at h4
         rw [Int.tmod_eq_emod_of_nonneg (by omega)] at h4
         omega
        refine ⟨k + 1, Le.row ⟨⟨rfl, rfl⟩, trivial⟩ rfl rfl (padK_step b k), hlt, by omega⟩
      ·
        refine PW.exit ?_
        refine PW.seq ?_
        refine PW.region ?_
        refine PL.run 2 rfl ?_
        refine PL.nil ?_
        refine PW.ret ?_
        have hkk : k = pn := by
         simp only [List.length_map, hkl, Bool.not_eq_false', decide_eq_true_eq] at h4
         rw [Int.tmod_eq_emod_of_nonneg (by omega)] at h4
         omega
        refine RetOk.of rfl (.one (.leaf (.ro _ _ _))) (by simp) (by simp) ?_
        rw [hpd, hkk]; rfl
theorem pad_rows (b : List UInt8) (k : Nat) : ([great (((b.map eb).length : Nat) : Int) 2, b].flatten).map eb ++ List.replicate k [PV.lit (.int .u8 0)] = (padK b k).map eb := by
  rw [List.length_map]
  simp only [padK, List.flatten_cons, List.flatten_nil, List.append_nil, List.map_append, List.append_assoc, List.map_replicate]
  rfl
/- impl.Padded -/
theorem impl_Padded_spec (b : List UInt8) : Pw.Spec Tryz.prog 113 [eBs b] (fun res_ => res_ = eBs (padded b)) := by
  refine spec_of (n := 27) Tryz.call113 Tryz.func113 rfl rfl (by simp) rfl rfl fun W Z => ?_
  refine PW.seq ?_
  refine PW.region ?_
  refine PL.run 1 rfl ?_
  refine PL.nil ?_
  refine PW.seq ?_
  refine PW.seq ?_
  refine PW.region ?_
  refine PL.run 3 rfl ?_
  refine PL.nil ?_
  refine PW.cond rfl (fun h1 => ?_) (fun h1 => ?_)
  ·
    refine PW.seq ?_
    refine PW.region ?_
    refine PL.run 1 rfl ?_
    refine PL.nil ?_
    refine PW.ret ?_
    refine RetOk.of rfl (.one (.leaf (.nil0 1))) (by simp) (by simp) ?_
    have : ¬ b.length ≤ 200 := by simp at h1; omega
    simp [padded, this, eBs]
  ·
    have hb : b.length ≤ 200 := by simp at h1; omega
    have eg : great (((b.map eb).length : Nat) : Int) 2 = great ((b.length : Nat) : Int) 2 := by rw [List.length_map]
    have hg2 := great_two b.length
    have hfl : ([great (((b.map eb).length : Nat) : Int) 2, b].flatten).length = 2 + b.length := by rw [eg]; simp [hg2]
    have hl0 : ((([great (((b.map eb).length : Nat) : Int) 2, b].flatten).map eb).length : Int) = ((2 + b.length : Nat) : Int) := by rw [List.length_map, hfl]
    have hpd : padded b = padK b (padN (2 + b.length)) := by rw [padded, if_pos hb]
    clear h1
    refine PW.skip ?_
    refine PW.seq ?_
    refine PW.region ?_
    refine PL.run 2 rfl ?_
    refine PL.call rfl rfl rfl (impl_Great_spec _ 2) (.cons (.refl _) <| .cons (.refl _) <| .nil) (fun p hp => by subst hp; rfl) (wantV_ok rfl) rfl (fun p hp => ?_)
    subst hp
    refine PL.run 1 rfl ?_
    refine PL.litRo rfl rfl rfl rfl rfl rfl rfl rfl rfl rfl (wantV_ok rfl) ?_
    refine PL.call rfl rfl rfl (impl_joined_spec [great (((b.map eb).length : Nat) : Int) 2, b] (by simp) (by simp) (by rw [hfl]; omega) 900) (.cons (.refl _) <| .nil) (fun p hp => by subst hp; rfl) (wantV_ok rfl) rfl (fun p hp => ?_)
    subst hp
    refine PL.run 1 rfl ?_
    refine PL.nil ?_
    refine PW.seq ?_
    refine PW.region ?_
    refine PL.run 1 rfl ?_
    refine PL.nil ?_
    refine PW.seq ?_
    refine PW.seq ?_
    refine PW.region ?_
    refine PL.run 3 rfl ?_
    refine PL.nil ?_
    refine PW.cond rfl (fun h2 => ?_) (fun h2 => ?_)
    ·
      have hs : padStep (2 + b.length) = 96 := by rw [padStep, if_pos]; rw [hl0] at h2; simp at h2; omega
      have hp : padN (2 + b.length) = (96 - (2 + b.length) % 96) % 96 := by rw [padN, hs]
      have hp1 := padN_le (2 + b.length)
      generalize padN (2 + b.length) = pn at hp hpd hp1
      have e1 : Int.tmod (IntKind.i64.wrap (96 - Int.tmod ((([great (((b.map eb).length : Nat) : Int) 2, b].flatten).map eb).length : Nat) 96)) 96 = (pn : Int) := by
       have q : Int.tmod ((2 + b.length : Nat) : Int) 96 = (((2 + b.length) % 96 : Nat) : Int) := by rw [Int.tmod_eq_emod_of_nonneg (by omega)]; omega
       rw [hl0, q, wrap_id (by omega) (by omega), Int.tmod_eq_emod_of_nonneg (by omega)]; omega
      refine PW.region ?_
      refine PL.run 1 rfl ?_
      refine PL.nil ?_
      refine PW.seq ?_
      refine PW.region ?_
      refine PL.run 5 rfl ?_
      refine PL.val (OpV.rem rfl rfl rfl (by decide)) (wantV_ok rfl) rfl ?_
      refine PL.run 2 rfl ?_
      refine PL.val (OpV.rem rfl rfl rfl (by decide)) (wantV_ok rfl) rfl ?_
      refine PL.appZ (m := pn) rfl rfl rfl rfl (congrArg (fun n => some (eI n)) e1) rfl rfl rfl rfl rfl rfl rfl (by decide) (by rw [List.length_map, hfl]; simp <;> omega) (by rw [List.length_map, hfl]; omega) (wantV_ok rfl) rfl ?_
      refine PL.run 1 rfl ?_
      refine PL.nil ?_
      refine PW.ret ?_
      refine RetOk.of rfl (.one (.leaf (.ro _ _ _))) (by simp) (by simp) ?_
      rw [hpd]; exact congrArg (fun e => PV.sl 1 e none) (pad_rows b pn)
    ·
      have hs : padStep (2 + b.length) = 32 := by rw [padStep, if_neg]; rw [hl0] at h2; simp at h2; omega
      have hp : padN (2 + b.length) = (32 - (2 + b.length) % 32) % 32 := by rw [padN, hs]
      have hp1 := padN_le (2 + b.length)
      generalize padN (2 + b.length) = pn at hp hpd hp1
      have e1 : Int.tmod (IntKind.i64.wrap (32 - Int.tmod ((([great (((b.map eb).length : Nat) : Int) 2, b].flatten).map eb).length : Nat) 32)) 32 = (pn : Int) := by
       have q : Int.tmod ((2 + b.length : Nat) : Int) 32 = (((2 + b.length) % 32 : Nat) : Int) := by rw [Int.tmod_eq_emod_of_nonneg (by omega)]; omega
       rw [hl0, q, wrap_id (by omega) (by omega), Int.tmod_eq_emod_of_nonneg (by omega)]; omega
      refine PW.skip ?_
      refine PW.seq ?_
      refine PW.region ?_
      refine PL.run 5 rfl ?_
      refine PL.val (OpV.rem rfl rfl rfl (by decide)) (wantV_ok rfl) rfl ?_
      refine PL.run 2 rfl ?_
      refine PL.val (OpV.rem rfl rfl rfl (by decide)) (wantV_ok rfl) rfl ?_
      refine PL.appZ (m := pn) rfl rfl rfl rfl (congrArg (fun n => some (eI n)) e1) rfl rfl rfl rfl rfl rfl rfl (by decide) (by rw [List.length_map, hfl]; simp <;> omega) (by rw [List.length_map, hfl]; omega) (wantV_ok rfl) rfl ?_
      refine PL.run 1 rfl ?_
      refine PL.nil ?_
      refine PW.ret ?_
      refine RetOk.of rfl (.one (.leaf (.ro _ _ _))) (by simp) (by simp) ?_
      rw [hpd]; exact congrArg (fun e => PV.sl 1 e none) (pad_rows b pn)
end Go.Wl
set_option linter.unusedVariables false
set_option linter.unusedSimpArgs false
set_option maxRecDepth 100000
set_option maxHeartbeats 8000000
namespace Go.Wl
open Go Go.RowKit Go.Pw Go.Proofs
def blindOk (w : Earth) (x : Item) : Bool := decide (0 ≤ sentI w x.bytes) && (decide ((theSent w x.bytes).route = x.route) && decide (x.bytes.length = 51 + (padded (theSent w x.bytes).note).length))
theorem sent_lt {w : Earth} {b : List UInt8} (h : decide (0 ≤ sentI w b) = true) : decide (sentI w b < 0) = false := by simp at h ⊢; omega
theorem sent_nn {w : Earth} {b : List UInt8} (h : decide (0 ≤ sentI w b) = true) : 0 ≤ sentI w b := of_decide_eq_true h
theorem sent_at {w : Earth} {b : List UInt8} (h : decide (0 ≤ sentI w b) = true) : w.sent[(sentI w b).toNat]? = some (theSent w b) := sent_get (sent_lt h)
theorem blind_len (w : Earth) (x : Item) : decide ((((x.bytes.map eb).length : Nat) : Int) = IntKind.i64.wrap (51 + ((((padded (theSent w x.bytes).note).map eb).length : Nat) : Int))) = decide (x.bytes.length = 51 + (padded (theSent w x.bytes).note).length) := by
  have := padded_len (theSent w x.bytes).note
  rw [List.length_map, List.length_map, wrap_id (by omega) (by omega)]
  exact decide_eq_decide.2 (by omega)
/- spec.l18Item -/
theorem spec_l18Item_spec (w : Earth) (x : Item) (hs : w.sent.length ≤ 16777216) : Pw.Spec Tryz.prog 72 [.agg (eEarth w), .agg (eItem x)] (fun res_ => res_ = eT (blindOk w x)) := by
  refine spec_of (n := 38) Tryz.call72 Tryz.func72 rfl rfl (by simp) rfl rfl fun W Z => ?_
  refine PW.seq ?_
  refine PW.region ?_
  refine PL.run 3 rfl ?_
  refine PL.nil ?_
  refine PW.seq ?_
  refine PW.region ?_
  refine PL.run 3 rfl ?_
  refine PL.call rfl rfl rfl (spec_l18Sent_spec w x.bytes hs) (.cons (.refl _) <| .cons (.refl _) <| .nil) (fun p hp => by subst hp; rfl) (wantV_ok rfl) rfl (fun p hp => ?_)
  subst hp
  refine PL.run 1 rfl ?_
  refine PL.nil ?_
  refine PW.seq ?_
  rcases Bool.eq_false_or_eq_true (decide (0 ≤ sentI w x.bytes)) with h1 | h1
  ·
    rcases Bool.eq_false_or_eq_true (decide ((theSent w x.bytes).route = x.route)) with h2 | h2
    ·
      refine PW.drawn ((some 10, _) :: (some 11, _) :: (some 12, .lit (.bool true)) :: (some 13, _) :: (some 14, _) :: (some 15, _) :: (some 16, _) :: (some 17, _) :: (some 18, _) :: (some 19, _) :: (some 20, _) :: (some 21, _) :: (some 22, _) :: (some 23, .lit (.bool true)) :: (some 24, _) :: (some 25, _) :: (some 26, _) :: (some 27, _) :: (some 28, _) :: (some 29, _) :: (some 30, _) :: (some 31, _) :: (some 32, _) :: (some 33, _) :: (some 34, _) :: (some 35, _) :: (some 36, _) :: (some 37, _) :: (some 4, _) :: []) (0 :: 1 :: 3 :: 7 :: 15 :: 7 :: 63 :: 127 :: 255 :: 7 :: 519 :: 2047 :: 4095 :: 8191 :: 16383 :: 32767 :: 65535 :: 16383 :: 147455 :: 16383 :: 933887 :: 1982463 :: 4079615 :: 8273919 :: 16662527 :: 33439743 :: 67108863 :: 134217727 :: 268435455 :: []) (fun _ => _) mixed rfl rfl rfl rfl rfl
        (.cons rfl (fun ρ => PL.run 1 rfl (PL.nil rfl)) <|
        .cons rfl (fun ρ => PL.run 1 rfl (PL.nil rfl)) <|
        .cons rfl (fun ρ => PL.run 1 rfl (PL.nil (putb h1))) <|
        .cons rfl (fun ρ => PL.run 1 rfl (PL.nil rfl)) <|
        .cons rfl (fun ρ => PL.run 1 rfl (PL.nil rfl)) <|
        .cons rfl (fun ρ => PL.run 1 rfl (PL.nil rfl)) <|
        .cons rfl (fun ρ => PL.val (OpV.idx rfl rfl rfl (sent_nn h1) (map_atZ (sent_at h1)) rfl rfl rfl rfl) (wantV_ok rfl) rfl (PL.nil rfl)) <|
        .cons rfl (fun ρ => PL.run 1 rfl (PL.nil rfl)) <|
        .cons rfl (fun ρ => PL.run 1 rfl (PL.nil rfl)) <|
        .cons rfl (fun ρ => PL.run 1 rfl (PL.nil rfl)) <|
        .cons rfl (fun ρ => PL.run 1 rfl (PL.nil rfl)) <|
        .cons rfl (fun ρ => PL.run 1 rfl (PL.nil rfl)) <|
        .cons rfl (fun ρ => PL.run 1 rfl (PL.nil rfl)) <|
        .cons rfl (fun ρ => PL.run 1 rfl (PL.nil (putb h2))) <|
        .cons rfl (fun ρ => PL.run 1 rfl (PL.nil rfl)) <|
        .cons rfl (fun ρ => PL.run 1 rfl (PL.nil rfl)) <|
        .cons rfl (fun ρ => PL.run 1 rfl (PL.nil rfl)) <|
        .cons rfl (fun ρ => PL.run 1 rfl (PL.nil rfl)) <|
        .cons rfl (fun ρ => PL.run 1 rfl (PL.nil rfl)) <|
        .cons rfl (fun ρ => PL.run 1 rfl (PL.nil rfl)) <|
        .cons rfl (fun ρ => PL.val (OpV.idx rfl rfl rfl (sent_nn h1) (map_atZ (sent_at h1)) rfl rfl rfl rfl) (wantV_ok rfl) rfl (PL.nil rfl)) <|
        .cons rfl (fun ρ => PL.run 1 rfl (PL.nil rfl)) <|
        .cons rfl (fun ρ => PL.run 1 rfl (PL.nil rfl)) <|
        .cons rfl (fun ρ => PL.call rfl rfl rfl (spec_Padded_spec (theSent w x.bytes).note) (.cons (.refl _) <| .nil) (fun p hp => by subst hp; rfl) (wantV_ok rfl) rfl (fun p hp => by subst hp; exact PL.nil rfl)) <|
        .cons rfl (fun ρ => PL.run 1 rfl (PL.nil rfl)) <|
        .cons rfl (fun ρ => PL.run 1 rfl (PL.nil rfl)) <|
        .cons rfl (fun ρ => PL.run 1 rfl (PL.nil rfl)) <|
        .cons rfl (fun ρ => PL.run 1 rfl (PL.nil rfl)) <|
        .cons rfl (fun ρ => PL.run 1 rfl (PL.nil rfl)) <|
        .nil _) ?_
      refine PW.ret ?_
      refine RetOk.free rfl rfl (congrArg eT ?_)
      rw [blind_len, blindOk, h1, h2]; rfl
    ·
      refine PW.drawn ((some 10, _) :: (some 11, _) :: (some 12, .lit (.bool true)) :: (some 13, _) :: (some 14, _) :: (some 15, _) :: (some 16, _) :: (some 17, _) :: (some 18, _) :: (some 19, _) :: (some 20, _) :: (some 21, _) :: (some 22, _) :: (some 23, .lit (.bool false)) :: (some 24, _) :: (some 25, _) :: (some 26, _) :: (some 27, _) :: (some 28, _) :: (some 29, _) :: (some 30, _) :: (some 31, _) :: (some 32, _) :: (some 33, _) :: (some 34, _) :: (some 35, _) :: (some 36, _) :: (some 37, _) :: (some 4, _) :: []) (0 :: 1 :: 3 :: 7 :: 15 :: 7 :: 63 :: 127 :: 255 :: 7 :: 519 :: 2047 :: 4095 :: 8191 :: 16383 :: 32767 :: 65535 :: 16383 :: 147455 :: 16383 :: 933887 :: 1982463 :: 4079615 :: 8273919 :: 16662527 :: 33439743 :: 67108863 :: 134217727 :: 268435455 :: []) (fun _ => _) mixed rfl rfl rfl rfl rfl
        (.cons rfl (fun ρ => PL.run 1 rfl (PL.nil rfl)) <|
        .cons rfl (fun ρ => PL.run 1 rfl (PL.nil rfl)) <|
        .cons rfl (fun ρ => PL.run 1 rfl (PL.nil (putb h1))) <|
        .cons rfl (fun ρ => PL.run 1 rfl (PL.nil rfl)) <|
        .cons rfl (fun ρ => PL.run 1 rfl (PL.nil rfl)) <|
        .cons rfl (fun ρ => PL.run 1 rfl (PL.nil rfl)) <|
        .cons rfl (fun ρ => PL.val (OpV.idx rfl rfl rfl (sent_nn h1) (map_atZ (sent_at h1)) rfl rfl rfl rfl) (wantV_ok rfl) rfl (PL.nil rfl)) <|
        .cons rfl (fun ρ => PL.run 1 rfl (PL.nil rfl)) <|
        .cons rfl (fun ρ => PL.run 1 rfl (PL.nil rfl)) <|
        .cons rfl (fun ρ => PL.run 1 rfl (PL.nil rfl)) <|
        .cons rfl (fun ρ => PL.run 1 rfl (PL.nil rfl)) <|
        .cons rfl (fun ρ => PL.run 1 rfl (PL.nil rfl)) <|
        .cons rfl (fun ρ => PL.run 1 rfl (PL.nil rfl)) <|
        .cons rfl (fun ρ => PL.run 1 rfl (PL.nil (putb h2))) <|
        .cons rfl (fun ρ => PL.run 1 rfl (PL.nil rfl)) <|
        .cons rfl (fun ρ => PL.run 1 rfl (PL.nil rfl)) <|
        .cons rfl (fun ρ => PL.run 1 rfl (PL.nil rfl)) <|
        .cons rfl (fun ρ => PL.run 1 rfl (PL.nil rfl)) <|
        .cons rfl (fun ρ => PL.run 1 rfl (PL.nil rfl)) <|
        .cons rfl (fun ρ => PL.run 1 rfl (PL.nil rfl)) <|
        .cons rfl (fun ρ => PL.run 1 rfl (PL.nil rfl)) <|
        .cons rfl (fun ρ => PL.run 1 rfl (PL.nil rfl)) <|
        .cons rfl (fun ρ => PL.run 1 rfl (PL.nil rfl)) <|
        .cons rfl (fun ρ => PL.run 1 rfl (PL.nil rfl)) <|
        .cons rfl (fun ρ => PL.run 1 rfl (PL.nil rfl)) <|
        .cons rfl (fun ρ => PL.run 1 rfl (PL.nil rfl)) <|
        .cons rfl (fun ρ => PL.run 1 rfl (PL.nil rfl)) <|
        .cons rfl (fun ρ => PL.run 1 rfl (PL.nil rfl)) <|
        .cons rfl (fun ρ => PL.run 1 rfl (PL.nil rfl)) <|
        .nil _) ?_
      refine PW.ret ?_
      refine RetOk.free rfl rfl (congrArg eT ?_)
      rw [blindOk, h1, h2]; rfl
  ·
    refine PW.drawn ((some 10, _) :: (some 11, _) :: (some 12, .lit (.bool false)) :: (some 13, _) :: (some 14, _) :: (some 15, _) :: (some 16, _) :: (some 17, _) :: (some 18, _) :: (some 19, _) :: (some 20, _) :: (some 21, _) :: (some 22, _) :: (some 23, _) :: (some 24, _) :: (some 25, _) :: (some 26, _) :: (some 27, _) :: (some 28, _) :: (some 29, _) :: (some 30, _) :: (some 31, _) :: (some 32, _) :: (some 33, _) :: (some 34, _) :: (some 35, _) :: (some 36, _) :: (some 37, _) :: (some 4, _) :: []) (0 :: 1 :: 3 :: 7 :: 15 :: 7 :: 63 :: 127 :: 255 :: 7 :: 519 :: 2047 :: 4095 :: 8191 :: 16383 :: 32767 :: 65535 :: 16383 :: 147455 :: 16383 :: 933887 :: 1982463 :: 4079615 :: 8273919 :: 16662527 :: 33439743 :: 67108863 :: 134217727 :: 268435455 :: []) (fun _ => _) mixed rfl rfl rfl rfl rfl
      (.cons rfl (fun ρ => PL.run 1 rfl (PL.nil rfl)) <|
      .cons rfl (fun ρ => PL.run 1 rfl (PL.nil rfl)) <|
      .cons rfl (fun ρ => PL.run 1 rfl (PL.nil (putb h1))) <|
      .cons rfl (fun ρ => PL.run 1 rfl (PL.nil rfl)) <|
      .cons rfl (fun ρ => PL.run 1 rfl (PL.nil rfl)) <|
      .cons rfl (fun ρ => PL.run 1 rfl (PL.nil rfl)) <|
      .cons rfl (fun ρ => PL.run 1 rfl (PL.nil rfl)) <|
      .cons rfl (fun ρ => PL.run 1 rfl (PL.nil rfl)) <|
      .cons rfl (fun ρ => PL.run 1 rfl (PL.nil rfl)) <|
      .cons rfl (fun ρ => PL.run 1 rfl (PL.nil rfl)) <|
      .cons rfl (fun ρ => PL.run 1 rfl (PL.nil rfl)) <|
      .cons rfl (fun ρ => PL.run 1 rfl (PL.nil rfl)) <|
      .cons rfl (fun ρ => PL.run 1 rfl (PL.nil rfl)) <|
      .cons rfl (fun ρ => PL.run 1 rfl (PL.nil rfl)) <|
      .cons rfl (fun ρ => PL.run 1 rfl (PL.nil rfl)) <|
      .cons rfl (fun ρ => PL.run 1 rfl (PL.nil rfl)) <|
      .cons rfl (fun ρ => PL.run 1 rfl (PL.nil rfl)) <|
      .cons rfl (fun ρ => PL.run 1 rfl (PL.nil rfl)) <|
      .cons rfl (fun ρ => PL.run 1 rfl (PL.nil rfl)) <|
      .cons rfl (fun ρ => PL.run 1 rfl (PL.nil rfl)) <|
      .cons rfl (fun ρ => PL.run 1 rfl (PL.nil rfl)) <|
      .cons rfl (fun ρ => PL.run 1 rfl (PL.nil rfl)) <|
      .cons rfl (fun ρ => PL.run 1 rfl (PL.nil rfl)) <|
      .cons rfl (fun ρ => PL.run 1 rfl (PL.nil rfl)) <|
      .cons rfl (fun ρ => PL.run 1 rfl (PL.nil rfl)) <|
      .cons rfl (fun ρ => PL.run 1 rfl (PL.nil rfl)) <|
      .cons rfl (fun ρ => PL.run 1 rfl (PL.nil rfl)) <|
      .cons rfl (fun ρ => PL.run 1 rfl (PL.nil rfl)) <|
      .cons rfl (fun ρ => PL.run 1 rfl (PL.nil rfl)) <|
      .nil _) ?_
    refine PW.ret ?_
    refine RetOk.free rfl rfl (congrArg eT ?_)
    rw [blindOk, h1]; rfl
/- impl.blind -/
theorem impl_blind_spec (w : Earth) (x : Item) (hs : w.sent.length ≤ 16777216) : Pw.Spec Tryz.prog 75 [.agg (eEarth w), .agg (eItem x)] (fun res_ => res_ = eT (blindOk w x)) := by
  refine spec_of (n := 38) Tryz.call75 Tryz.func75 rfl rfl (by simp) rfl rfl fun W Z => ?_
  refine PW.seq ?_
  refine PW.region ?_
  refine PL.run 3 rfl ?_
  refine PL.nil ?_
  refine PW.seq ?_
  refine PW.region ?_
  refine PL.run 3 rfl ?_
  refine PL.call rfl rfl rfl (impl_sentAt_spec w x.bytes hs) (.cons (.refl _) <| .cons (.refl _) <| .nil) (fun p hp => by subst hp; rfl) (wantV_ok rfl) rfl (fun p hp => ?_)
  subst hp
  refine PL.run 1 rfl ?_
  refine PL.nil ?_
  refine PW.seq ?_
  rcases Bool.eq_false_or_eq_true (decide (0 ≤ sentI w x.bytes)) with h1 | h1
  ·
    rcases Bool.eq_false_or_eq_true (decide ((theSent w x.bytes).route = x.route)) with h2 | h2
    ·
      refine PW.drawn ((some 10, _) :: (some 11, _) :: (some 12, .lit (.bool true)) :: (some 13, _) :: (some 14, _) :: (some 15, _) :: (some 16, _) :: (some 17, _) :: (some 18, _) :: (some 19, _) :: (some 20, _) :: (some 21, _) :: (some 22, _) :: (some 23, .lit (.bool true)) :: (some 24, _) :: (some 25, _) :: (some 26, _) :: (some 27, _) :: (some 28, _) :: (some 29, _) :: (some 30, _) :: (some 31, _) :: (some 32, _) :: (some 33, _) :: (some 34, _) :: (some 35, _) :: (some 36, _) :: (some 37, _) :: (some 4, _) :: []) (0 :: 1 :: 3 :: 7 :: 15 :: 7 :: 63 :: 127 :: 255 :: 7 :: 519 :: 2047 :: 4095 :: 8191 :: 16383 :: 32767 :: 65535 :: 16383 :: 147455 :: 16383 :: 933887 :: 1982463 :: 4079615 :: 8273919 :: 16662527 :: 33439743 :: 67108863 :: 134217727 :: 268435455 :: []) (fun _ => _) mixed rfl rfl rfl rfl rfl
        (.cons rfl (fun ρ => PL.run 1 rfl (PL.nil rfl)) <|
        .cons rfl (fun ρ => PL.run 1 rfl (PL.nil rfl)) <|
        .cons rfl (fun ρ => PL.run 1 rfl (PL.nil (putb h1))) <|
        .cons rfl (fun ρ => PL.run 1 rfl (PL.nil rfl)) <|
        .cons rfl (fun ρ => PL.run 1 rfl (PL.nil rfl)) <|
        .cons rfl (fun ρ => PL.run 1 rfl (PL.nil rfl)) <|
        .cons rfl (fun ρ => PL.val (OpV.idx rfl rfl rfl (sent_nn h1) (map_atZ (sent_at h1)) rfl rfl rfl rfl) (wantV_ok rfl) rfl (PL.nil rfl)) <|
        .cons rfl (fun ρ => PL.run 1 rfl (PL.nil rfl)) <|
        .cons rfl (fun ρ => PL.run 1 rfl (PL.nil rfl)) <|
        .cons rfl (fun ρ => PL.run 1 rfl (PL.nil rfl)) <|
        .cons rfl (fun ρ => PL.run 1 rfl (PL.nil rfl)) <|
        .cons rfl (fun ρ => PL.run 1 rfl (PL.nil rfl)) <|
        .cons rfl (fun ρ => PL.run 1 rfl (PL.nil rfl)) <|
        .cons rfl (fun ρ => PL.run 1 rfl (PL.nil (putb h2))) <|
        .cons rfl (fun ρ => PL.run 1 rfl (PL.nil rfl)) <|
        .cons rfl (fun ρ => PL.run 1 rfl (PL.nil rfl)) <|
        .cons rfl (fun ρ => PL.run 1 rfl (PL.nil rfl)) <|
        .cons rfl (fun ρ => PL.run 1 rfl (PL.nil rfl)) <|
        .cons rfl (fun ρ => PL.run 1 rfl (PL.nil rfl)) <|
        .cons rfl (fun ρ => PL.run 1 rfl (PL.nil rfl)) <|
        .cons rfl (fun ρ => PL.val (OpV.idx rfl rfl rfl (sent_nn h1) (map_atZ (sent_at h1)) rfl rfl rfl rfl) (wantV_ok rfl) rfl (PL.nil rfl)) <|
        .cons rfl (fun ρ => PL.run 1 rfl (PL.nil rfl)) <|
        .cons rfl (fun ρ => PL.run 1 rfl (PL.nil rfl)) <|
        .cons rfl (fun ρ => PL.call rfl rfl rfl (impl_Padded_spec (theSent w x.bytes).note) (.cons (.refl _) <| .nil) (fun p hp => by subst hp; rfl) (wantV_ok rfl) rfl (fun p hp => by subst hp; exact PL.nil rfl)) <|
        .cons rfl (fun ρ => PL.run 1 rfl (PL.nil rfl)) <|
        .cons rfl (fun ρ => PL.run 1 rfl (PL.nil rfl)) <|
        .cons rfl (fun ρ => PL.run 1 rfl (PL.nil rfl)) <|
        .cons rfl (fun ρ => PL.run 1 rfl (PL.nil rfl)) <|
        .cons rfl (fun ρ => PL.run 1 rfl (PL.nil rfl)) <|
        .nil _) ?_
      refine PW.ret ?_
      refine RetOk.free rfl rfl (congrArg eT ?_)
      rw [blind_len, blindOk, h1, h2]; rfl
    ·
      refine PW.drawn ((some 10, _) :: (some 11, _) :: (some 12, .lit (.bool true)) :: (some 13, _) :: (some 14, _) :: (some 15, _) :: (some 16, _) :: (some 17, _) :: (some 18, _) :: (some 19, _) :: (some 20, _) :: (some 21, _) :: (some 22, _) :: (some 23, .lit (.bool false)) :: (some 24, _) :: (some 25, _) :: (some 26, _) :: (some 27, _) :: (some 28, _) :: (some 29, _) :: (some 30, _) :: (some 31, _) :: (some 32, _) :: (some 33, _) :: (some 34, _) :: (some 35, _) :: (some 36, _) :: (some 37, _) :: (some 4, _) :: []) (0 :: 1 :: 3 :: 7 :: 15 :: 7 :: 63 :: 127 :: 255 :: 7 :: 519 :: 2047 :: 4095 :: 8191 :: 16383 :: 32767 :: 65535 :: 16383 :: 147455 :: 16383 :: 933887 :: 1982463 :: 4079615 :: 8273919 :: 16662527 :: 33439743 :: 67108863 :: 134217727 :: 268435455 :: []) (fun _ => _) mixed rfl rfl rfl rfl rfl
        (.cons rfl (fun ρ => PL.run 1 rfl (PL.nil rfl)) <|
        .cons rfl (fun ρ => PL.run 1 rfl (PL.nil rfl)) <|
        .cons rfl (fun ρ => PL.run 1 rfl (PL.nil (putb h1))) <|
        .cons rfl (fun ρ => PL.run 1 rfl (PL.nil rfl)) <|
        .cons rfl (fun ρ => PL.run 1 rfl (PL.nil rfl)) <|
        .cons rfl (fun ρ => PL.run 1 rfl (PL.nil rfl)) <|
        .cons rfl (fun ρ => PL.val (OpV.idx rfl rfl rfl (sent_nn h1) (map_atZ (sent_at h1)) rfl rfl rfl rfl) (wantV_ok rfl) rfl (PL.nil rfl)) <|
        .cons rfl (fun ρ => PL.run 1 rfl (PL.nil rfl)) <|
        .cons rfl (fun ρ => PL.run 1 rfl (PL.nil rfl)) <|
        .cons rfl (fun ρ => PL.run 1 rfl (PL.nil rfl)) <|
        .cons rfl (fun ρ => PL.run 1 rfl (PL.nil rfl)) <|
        .cons rfl (fun ρ => PL.run 1 rfl (PL.nil rfl)) <|
        .cons rfl (fun ρ => PL.run 1 rfl (PL.nil rfl)) <|
        .cons rfl (fun ρ => PL.run 1 rfl (PL.nil (putb h2))) <|
        .cons rfl (fun ρ => PL.run 1 rfl (PL.nil rfl)) <|
        .cons rfl (fun ρ => PL.run 1 rfl (PL.nil rfl)) <|
        .cons rfl (fun ρ => PL.run 1 rfl (PL.nil rfl)) <|
        .cons rfl (fun ρ => PL.run 1 rfl (PL.nil rfl)) <|
        .cons rfl (fun ρ => PL.run 1 rfl (PL.nil rfl)) <|
        .cons rfl (fun ρ => PL.run 1 rfl (PL.nil rfl)) <|
        .cons rfl (fun ρ => PL.run 1 rfl (PL.nil rfl)) <|
        .cons rfl (fun ρ => PL.run 1 rfl (PL.nil rfl)) <|
        .cons rfl (fun ρ => PL.run 1 rfl (PL.nil rfl)) <|
        .cons rfl (fun ρ => PL.run 1 rfl (PL.nil rfl)) <|
        .cons rfl (fun ρ => PL.run 1 rfl (PL.nil rfl)) <|
        .cons rfl (fun ρ => PL.run 1 rfl (PL.nil rfl)) <|
        .cons rfl (fun ρ => PL.run 1 rfl (PL.nil rfl)) <|
        .cons rfl (fun ρ => PL.run 1 rfl (PL.nil rfl)) <|
        .cons rfl (fun ρ => PL.run 1 rfl (PL.nil rfl)) <|
        .nil _) ?_
      refine PW.ret ?_
      refine RetOk.free rfl rfl (congrArg eT ?_)
      rw [blindOk, h1, h2]; rfl
  ·
    refine PW.drawn ((some 10, _) :: (some 11, _) :: (some 12, .lit (.bool false)) :: (some 13, _) :: (some 14, _) :: (some 15, _) :: (some 16, _) :: (some 17, _) :: (some 18, _) :: (some 19, _) :: (some 20, _) :: (some 21, _) :: (some 22, _) :: (some 23, _) :: (some 24, _) :: (some 25, _) :: (some 26, _) :: (some 27, _) :: (some 28, _) :: (some 29, _) :: (some 30, _) :: (some 31, _) :: (some 32, _) :: (some 33, _) :: (some 34, _) :: (some 35, _) :: (some 36, _) :: (some 37, _) :: (some 4, _) :: []) (0 :: 1 :: 3 :: 7 :: 15 :: 7 :: 63 :: 127 :: 255 :: 7 :: 519 :: 2047 :: 4095 :: 8191 :: 16383 :: 32767 :: 65535 :: 16383 :: 147455 :: 16383 :: 933887 :: 1982463 :: 4079615 :: 8273919 :: 16662527 :: 33439743 :: 67108863 :: 134217727 :: 268435455 :: []) (fun _ => _) mixed rfl rfl rfl rfl rfl
      (.cons rfl (fun ρ => PL.run 1 rfl (PL.nil rfl)) <|
      .cons rfl (fun ρ => PL.run 1 rfl (PL.nil rfl)) <|
      .cons rfl (fun ρ => PL.run 1 rfl (PL.nil (putb h1))) <|
      .cons rfl (fun ρ => PL.run 1 rfl (PL.nil rfl)) <|
      .cons rfl (fun ρ => PL.run 1 rfl (PL.nil rfl)) <|
      .cons rfl (fun ρ => PL.run 1 rfl (PL.nil rfl)) <|
      .cons rfl (fun ρ => PL.run 1 rfl (PL.nil rfl)) <|
      .cons rfl (fun ρ => PL.run 1 rfl (PL.nil rfl)) <|
      .cons rfl (fun ρ => PL.run 1 rfl (PL.nil rfl)) <|
      .cons rfl (fun ρ => PL.run 1 rfl (PL.nil rfl)) <|
      .cons rfl (fun ρ => PL.run 1 rfl (PL.nil rfl)) <|
      .cons rfl (fun ρ => PL.run 1 rfl (PL.nil rfl)) <|
      .cons rfl (fun ρ => PL.run 1 rfl (PL.nil rfl)) <|
      .cons rfl (fun ρ => PL.run 1 rfl (PL.nil rfl)) <|
      .cons rfl (fun ρ => PL.run 1 rfl (PL.nil rfl)) <|
      .cons rfl (fun ρ => PL.run 1 rfl (PL.nil rfl)) <|
      .cons rfl (fun ρ => PL.run 1 rfl (PL.nil rfl)) <|
      .cons rfl (fun ρ => PL.run 1 rfl (PL.nil rfl)) <|
      .cons rfl (fun ρ => PL.run 1 rfl (PL.nil rfl)) <|
      .cons rfl (fun ρ => PL.run 1 rfl (PL.nil rfl)) <|
      .cons rfl (fun ρ => PL.run 1 rfl (PL.nil rfl)) <|
      .cons rfl (fun ρ => PL.run 1 rfl (PL.nil rfl)) <|
      .cons rfl (fun ρ => PL.run 1 rfl (PL.nil rfl)) <|
      .cons rfl (fun ρ => PL.run 1 rfl (PL.nil rfl)) <|
      .cons rfl (fun ρ => PL.run 1 rfl (PL.nil rfl)) <|
      .cons rfl (fun ρ => PL.run 1 rfl (PL.nil rfl)) <|
      .cons rfl (fun ρ => PL.run 1 rfl (PL.nil rfl)) <|
      .cons rfl (fun ρ => PL.run 1 rfl (PL.nil rfl)) <|
      .cons rfl (fun ρ => PL.run 1 rfl (PL.nil rfl)) <|
      .nil _) ?_
    refine PW.ret ?_
    refine RetOk.free rfl rfl (congrArg eT ?_)
    rw [blindOk, h1]; rfl
def wireBlind (w : Earth) (x : Wire) : Bool := if x.toPost then blindOk w x.item else !decide (sentI w x.bytes < 0)
def judgeBlind (w : Earth) : Bool := worldOk w && (w.post.queue.all (blindOk w) && w.net.all (wireBlind w))
theorem all_of {α : Type} {f : α → Bool} {l : List α} {i : Nat} (hi : l.length ≤ i) (h : ∀ (j : Nat) (y : α), j < i → l[j]? = some y → f y = true) : l.all f = true := by
  rw [List.all_eq_true]
  intro x hx
  obtain ⟨j, hj⟩ := List.mem_iff_getElem?.1 hx
  exact h j x (by have := (List.getElem?_eq_some_iff.1 hj).1; omega) hj
theorem all_up {α : Type} {f : α → Bool} {l : List α} {i : Nat} {x : α} (h : ∀ (j : Nat) (y : α), j < i → l[j]? = some y → f y = true) (hx : l[i]? = some x) (hf : f x = true) : ∀ (j : Nat) (y : α), j < i + 1 → l[j]? = some y → f y = true := fun j y hj hy => by
  by_cases e : j = i
  · subst e; rw [hx] at hy; cases hy; exact hf
  · exact h j y (by omega) hy
/- spec.JudgeBlind -/
theorem spec_JudgeBlind_spec (w : Earth) (hw : SmW w) : Pw.Spec Tryz.prog 25 [.agg (eEarth w)] (fun res_ => res_ = eT (judgeBlind w)) := by
  refine spec_of (n := 59) Tryz.call25 Tryz.func25 rfl rfl (by simp) rfl rfl fun W Z => ?_
  refine PW.seq ?_
  refine PW.region ?_
  refine PL.run 2 rfl ?_
  refine PL.nil ?_
  refine PW.seq ?_
  refine PW.seq ?_
  refine PW.region ?_
  refine PL.run 1 rfl ?_
  refine PL.call rfl rfl rfl (spec_WorldOk_spec w hw) (.cons (.refl _) <| .nil) (fun p hp => by subst hp; rfl) (wantV_ok rfl) rfl (fun p hp => ?_)
  subst hp
  refine PL.run 1 rfl ?_
  refine PL.nil ?_
  refine PW.cond rfl (fun h1 => ?_) (fun h1 => ?_)
  ·
    refine PW.seq ?_
    refine PW.region ?_
    refine PL.run 1 rfl ?_
    refine PL.nil ?_
    refine PW.ret ?_
    refine RetOk.free rfl rfl (congrArg eT ?_)
    have h1 : worldOk w = false := by simpa using h1
    simp [judgeBlind, h1]
  ·
    have h1 : worldOk w = true := by simpa using h1
    have kk : judgeBlind w = (w.post.queue.all (blindOk w) && w.net.all (wireBlind w)) := by rw [judgeBlind, h1]; rfl
    have hsl := hw.sent
    have hql := hw.p.q.len
    have hnl := hw.n.len
    clear h1
    refine PW.skip ?_
    refine PW.seq ?_
    refine PW.seq ?_
    refine PW.region ?_
    refine PL.run 1 rfl ?_
    refine PL.nil ?_
    refine PW.block ?_
    refine PW.loopAt (α := Nat) (fun i => ⟨[(1, .bx 1 0), (3, eI (i : Int))], ⟨[(1, (42, eEarth w))], []⟩⟩) (fun i => i ≤ w.post.queue.length ∧ ∀ (j : Nat) (y : Item), j < i → w.post.queue[j]? = some y → blindOk w y = true) (fun i => w.post.queue.length - i) 0 Le.boxes ⟨Nat.zero_le _, fun j y h => by omega⟩ (fun i hi => ?_)
    refine PW.seq ?_
    refine PW.seq ?_
    refine PW.region ?_
    refine PL.run 6 rfl ?_
    refine PL.nil ?_
    refine PW.cond rfl (fun h2 => ?_) (fun h2 => ?_)
    ·
      have hlt : i < w.post.queue.length := by simpa using h2
      clear h2
      obtain ⟨x, hx⟩ : ∃ y, w.post.queue[i]? = some y := ⟨_, List.getElem?_eq_getElem hlt⟩
      have hup : some (PV.lit (.int .i64 (IntKind.i64.wrap ((i : Int) + 1)))) = some (PV.lit (.int .i64 ((i + 1 : Nat) : Int))) := inc_ok (by omega)
      refine PW.skip ?_
      refine PW.seq ?_
      refine PW.block ?_
      refine PW.seq ?_
      refine PW.drawn ((some 17, _) :: (some 18, _) :: (some 19, _) :: (some 20, _) :: (some 21, _) :: (some 22, _) :: (some 23, _) :: (some 24, _) :: (some 25, _) :: []) (0 :: 0 :: 2 :: 6 :: 0 :: 30 :: 62 :: 127 :: 255 :: []) (fun _ => _) mixed rfl rfl rfl rfl rfl
        (.cons rfl (fun ρ => PL.run 1 rfl (PL.nil rfl)) <|
        .cons rfl (fun ρ => PL.run 1 rfl (PL.nil rfl)) <|
        .cons rfl (fun ρ => PL.run 1 rfl (PL.nil rfl)) <|
        .cons rfl (fun ρ => PL.run 1 rfl (PL.nil rfl)) <|
        .cons rfl (fun ρ => PL.run 1 rfl (PL.nil rfl)) <|
        .cons rfl (fun ρ => PL.val (OpV.idx rfl rfl rfl (nat_nonneg i) (map_at' hx) rfl rfl rfl rfl) (wantV_ok rfl) rfl (PL.nil rfl)) <|
        .cons rfl (fun ρ => PL.run 1 rfl (PL.nil rfl)) <|
        .cons rfl (fun ρ => PL.call rfl rfl rfl (spec_l18Item_spec w x hsl) (.cons (.refl _) <| .cons (.refl _) <| .nil) (fun p hp => by subst hp; rfl) (wantV_ok rfl) rfl (fun p hp => by subst hp; exact PL.nil rfl)) <|
        .cons rfl (fun ρ => PL.run 1 rfl (PL.nil rfl)) <|
        .nil _) ?_
      refine PW.cond rfl (fun h3 => ?_) (fun h3 => ?_)
      ·
        refine PW.seq ?_
        refine PW.region ?_
        refine PL.run 1 rfl ?_
        refine PL.nil ?_
        refine PW.ret ?_
        refine RetOk.free rfl rfl (congrArg eT ?_)
        have h3 : blindOk w x = false := by simpa using h3
        rw [kk, all_bad hx h3]; rfl
      ·
        refine PW.skip ?_
        refine PW.region ?_
        refine PL.run 3 rfl ?_
        refine PL.nil ?_
        have h3 : blindOk w x = true := by simpa using h3
        exact ⟨i + 1, Le.boxes ⟨⟨rfl, rfl⟩, trivial⟩ ⟨⟨rfl, rfl⟩, ⟨hup, rfl⟩, trivial⟩, ⟨hlt, all_up hi.2 hx h3⟩, by omega⟩
    ·
      have hq : w.post.queue.all (blindOk w) = true := all_of (by simpa using h2) hi.2
      rw [hq, Bool.true_and] at kk
      clear h2
      refine PW.exit ?_
      refine PW.seq ?_
      refine PW.seq ?_
      refine PW.region ?_
      refine PL.run 1 rfl ?_
      refine PL.nil ?_
      refine PW.block ?_
      refine PW.loopAt (α := Nat) (fun i => ⟨[(1, .bx 1 0), (4, eI (i : Int))], ⟨[(1, (42, eEarth w))], []⟩⟩) (fun i => i ≤ w.net.length ∧ ∀ (j : Nat) (y : Wire), j < i → w.net[j]? = some y → wireBlind w y = true) (fun i => w.net.length - i) 0 Le.boxes ⟨Nat.zero_le _, fun j y h => by omega⟩ (fun n hn => ?_)
      refine PW.seq ?_
      refine PW.seq ?_
      refine PW.region ?_
      refine PL.run 5 rfl ?_
      refine PL.nil ?_
      refine PW.cond rfl (fun h4 => ?_) (fun h4 => ?_)
      ·
        have hlt : n < w.net.length := by simpa using h4
        clear h4
        obtain ⟨x, hx⟩ : ∃ y, w.net[n]? = some y := ⟨_, List.getElem?_eq_getElem hlt⟩
        have hup : some (PV.lit (.int .i64 (IntKind.i64.wrap ((n : Int) + 1)))) = some (PV.lit (.int .i64 ((n + 1 : Nat) : Int))) := inc_ok (by omega)
        refine PW.skip ?_
        refine PW.seq ?_
        refine PW.block ?_
        refine PW.seq ?_
        refine PW.region ?_
        refine PL.run 3 rfl ?_
        refine PL.val (OpV.idx rfl rfl rfl (nat_nonneg n) (map_at' hx) rfl rfl rfl rfl) (wantV_ok rfl) rfl ?_
        refine PL.run 3 rfl ?_
        refine PL.nil ?_
        refine PW.seq ?_
        refine PW.region ?_
        refine PL.run 3 rfl ?_
        refine PL.split (t := 40) rfl (fun h5 => ?_) (fun h5 => ?_)
        ·
          refine PL.run 3 rfl ?_
          refine PL.call rfl rfl rfl (spec_l18Item_spec w x.item hsl) (.cons (.refl _) <| .cons (.refl _) <| .nil) (fun p hp => by subst hp; rfl) (wantV_ok rfl) rfl (fun p hp => ?_)
          subst hp
          refine PL.run 3 rfl ?_
          refine PL.split (t := 47) rfl (fun h6 => ?_) (fun h6 => ?_)
          ·
            refine PL.run 11 rfl ?_
            refine PL.nil ?_
            refine PW.condT rfl ?_
            refine PW.seq ?_
            refine PW.region ?_
            refine PL.run 1 rfl ?_
            refine PL.nil ?_
            refine PW.ret ?_
            refine RetOk.free rfl rfl (congrArg eT ?_)
            have h6 : blindOk w x.item = false := by simpa using h6
            rw [kk, all_bad hx (by rw [wireBlind, h5, h6]; rfl)]
          ·
            refine PL.run 4 rfl ?_
            refine PL.split (t := 51) rfl (fun h7 => ?_) (fun h7 => ?_)
            ·
              refine PL.run 3 rfl ?_
              refine PL.call rfl rfl rfl (spec_l18Sent_spec w x.bytes hsl) (.cons (.refl _) <| .cons (.refl _) <| .nil) (fun p hp => by subst hp; rfl) (wantV_ok rfl) rfl (fun p hp => ?_)
              subst hp
              refine PL.run 3 rfl ?_
              refine PL.nil ?_
              refine PW.cond rfl (fun h8 => ?_) (fun h8 => ?_)
              ·
                refine PW.seq ?_
                refine PW.region ?_
                refine PL.run 1 rfl ?_
                refine PL.nil ?_
                refine PW.ret ?_
                rw [h5] at h7; exact absurd h7 (by decide)
              ·
                refine PW.skip ?_
                refine PW.region ?_
                refine PL.run 3 rfl ?_
                refine PL.nil ?_
                rw [h5] at h7; exact absurd h7 (by decide)
            ·
              refine PL.run 7 rfl ?_
              refine PL.nil ?_
              refine PW.condF rfl ?_
              refine PW.skip ?_
              refine PW.region ?_
              refine PL.run 3 rfl ?_
              refine PL.nil ?_
              have h6 : blindOk w x.item = true := by simpa using h6
              exact ⟨n + 1, Le.boxes ⟨⟨rfl, rfl⟩, trivial⟩ ⟨⟨rfl, rfl⟩, ⟨hup, rfl⟩, trivial⟩, ⟨hlt, all_up hn.2 hx (by rw [wireBlind, h5, h6]; rfl)⟩, by omega⟩
        ·
          refine PL.run 11 rfl ?_
          refine PL.split (t := 51) rfl (fun h9 => ?_) (fun h9 => ?_)
          ·
            refine PL.run 3 rfl ?_
            refine PL.call rfl rfl rfl (spec_l18Sent_spec w x.bytes hsl) (.cons (.refl _) <| .cons (.refl _) <| .nil) (fun p hp => by subst hp; rfl) (wantV_ok rfl) rfl (fun p hp => ?_)
            subst hp
            refine PL.run 3 rfl ?_
            refine PL.nil ?_
            refine PW.cond rfl (fun h10 => ?_) (fun h10 => ?_)
            ·
              refine PW.seq ?_
              refine PW.region ?_
              refine PL.run 1 rfl ?_
              refine PL.nil ?_
              refine PW.ret ?_
              refine RetOk.free rfl rfl (congrArg eT ?_)
              rw [kk, all_bad hx (by rw [wireBlind, h5, h10]; rfl)]
            ·
              refine PW.skip ?_
              refine PW.region ?_
              refine PL.run 3 rfl ?_
              refine PL.nil ?_
              exact ⟨n + 1, Le.boxes ⟨⟨rfl, rfl⟩, trivial⟩ ⟨⟨rfl, rfl⟩, ⟨hup, rfl⟩, trivial⟩, ⟨hlt, all_up hn.2 hx (by rw [wireBlind, h5, h10]; rfl)⟩, by omega⟩
          ·
            refine PL.run 7 rfl ?_
            refine PL.nil ?_
            refine PW.condF rfl ?_
            refine PW.skip ?_
            refine PW.region ?_
            refine PL.run 3 rfl ?_
            refine PL.nil ?_
            rw [h5] at h9; exact absurd h9 (by decide)
      ·
        refine PW.exit ?_
        refine PW.seq ?_
        refine PW.region ?_
        refine PL.run 1 rfl ?_
        refine PL.nil ?_
        refine PW.ret ?_
        refine RetOk.free rfl rfl (congrArg eT ?_)
        rw [kk, all_of (by simpa using h4) hn.2]
/- impl.JudgeBlind$1 -/
theorem impl_JudgeBlind_1_spec (w : Earth) (x : Item) (hs : w.sent.length ≤ 16777216) : Pw.Spec Tryz.prog 74 [.agg (eItem x), .rp (eEarth w)] (fun res_ => res_ = eT (!blindOk w x)) := by
  refine spec_of (n := 8) Tryz.call74 Tryz.func74 rfl rfl (by simp) rfl rfl fun W Z => ?_
  refine PW.seq ?_
  refine PW.region ?_
  refine PL.run 2 rfl ?_
  refine PL.nil ?_
  refine PW.seq ?_
  refine PW.region ?_
  refine PL.run 2 rfl ?_
  refine PL.call rfl rfl rfl (impl_blind_spec w x hs) (.cons (.refl _) <| .cons (.refl _) <| .nil) (fun p hp => by subst hp; rfl) (wantV_ok rfl) rfl (fun p hp => ?_)
  subst hp
  refine PL.run 2 rfl ?_
  refine PL.nil ?_
  refine PW.ret ?_
  refine RetOk.free rfl rfl rfl
/- impl.JudgeBlind$2 -/
theorem impl_JudgeBlind_2_spec (w : Earth) (x : Wire) (hs : w.sent.length ≤ 16777216) : Pw.Spec Tryz.prog 76 [.agg (eWire x), .rp (eEarth w)] (fun res_ => res_ = eT (!wireBlind w x)) := by
  refine spec_of (n := 16) Tryz.call76 Tryz.func76 rfl rfl (by simp) rfl rfl fun W Z => ?_
  refine PW.seq ?_
  refine PW.region ?_
  refine PL.run 2 rfl ?_
  refine PL.nil ?_
  refine PW.seq ?_
  refine PW.seq ?_
  refine PW.region ?_
  refine PL.run 2 rfl ?_
  refine PL.nil ?_
  refine PW.cond rfl (fun h1 => ?_) (fun h1 => ?_)
  ·
    refine PW.seq ?_
    refine PW.region ?_
    refine PL.run 3 rfl ?_
    refine PL.call rfl rfl rfl (impl_blind_spec w x.item hs) (.cons (.refl _) <| .cons (.refl _) <| .nil) (fun p hp => by subst hp; rfl) (wantV_ok rfl) rfl (fun p hp => ?_)
    subst hp
    refine PL.run 2 rfl ?_
    refine PL.nil ?_
    refine PW.ret ?_
    refine RetOk.free rfl rfl (congrArg eT ?_)
    rw [wireBlind, h1]; rfl
  ·
    refine PW.skip ?_
    refine PW.seq ?_
    refine PW.region ?_
    refine PL.run 3 rfl ?_
    refine PL.call rfl rfl rfl (impl_sentAt_spec w x.bytes hs) (.cons (.refl _) <| .cons (.refl _) <| .nil) (fun p hp => by subst hp; rfl) (wantV_ok rfl) rfl (fun p hp => ?_)
    subst hp
    refine PL.run 2 rfl ?_
    refine PL.nil ?_
    refine PW.ret ?_
    refine RetOk.free rfl rfl (congrArg eT ?_)
    rw [wireBlind, h1]; simp
/- impl.JudgeBlind -/
theorem impl_JudgeBlind_spec (w : Earth) (hw : SmW w) : Pw.Spec Tryz.prog 26 [.agg (eEarth w)] (fun res_ => res_ = eT (judgeBlind w)) := by
  refine spec_of (n := 18) Tryz.call26 Tryz.func26 rfl rfl (by simp) rfl rfl fun W Z => ?_
  have hsl := hw.sent
  refine PW.seq ?_
  refine PW.region ?_
  refine PL.run 2 rfl ?_
  refine PL.nil ?_
  refine PW.seq ?_
  refine PW.seq ?_
  refine PW.region ?_
  refine PL.run 1 rfl ?_
  refine PL.call rfl rfl rfl (impl_WorldOk_spec w hw) (.cons (.refl _) <| .nil) (fun p hp => by subst hp; rfl) (wantV_ok rfl) rfl (fun p hp => ?_)
  subst hp
  refine PL.run 2 rfl ?_
  refine PL.split (t := 6) rfl (fun h1 => ?_) (fun h1 => ?_)
  ·
    refine PL.run 6 rfl ?_
    refine PL.nil ?_
    refine PW.condT rfl ?_
    refine PW.seq ?_
    refine PW.region ?_
    refine PL.run 1 rfl ?_
    refine PL.nil ?_
    refine PW.ret ?_
    refine RetOk.free rfl rfl (congrArg eT ?_)
    have h1 : worldOk w = false := by simpa using h1
    simp [judgeBlind, h1]
  ·
    refine PL.run 3 rfl ?_
    refine PL.le (Le.freezeP (tv := 1) (id := 1) (cs := eEarth w) (e := [(9, eItems w.post.queue), (6, eT false)]) rfl rfl rfl ⟨⟨rfl, rfl⟩, ⟨rfl, rfl⟩, trivial⟩) ?_
    refine PL.run 1 rfl ?_
    refine PL.call rfl rfl rfl (slices_ContainsFunc__impl_Item_impl_Item_spec w.post.queue 74 [.rp (eEarth w)] (fun x => !blindOk w x) rfl hw.p.q.len (fun i x hx => impl_JudgeBlind_1_spec w x hsl)) (wkl_refl _) (fun p hp => by subst hp; rfl) (wantV_ok rfl) rfl (fun p hp => ?_)
    subst hp
    refine PL.run 1 rfl ?_
    refine PL.nil ?_
    refine PW.cond rfl (fun h2 => ?_) (fun h2 => ?_)
    ·
      refine PW.seq ?_
      refine PW.region ?_
      refine PL.run 1 rfl ?_
      refine PL.nil ?_
      refine PW.ret ?_
      refine RetOk.free rfl rfl (congrArg eT ?_)
      have h1 : worldOk w = true := by simpa using h1
      rw [judgeBlind, h1, ← not_any (blindOk w) w.post.queue, h2]; rfl
    ·
      refine PW.skip ?_
      refine PW.seq ?_
      refine PW.region ?_
      refine PL.run 3 rfl ?_
      refine PL.call rfl rfl rfl (slices_ContainsFunc__impl_Wire_impl_Wire_spec w.net 76 [.rp (eEarth w)] (fun x => !wireBlind w x) rfl hw.n.len (fun i x hx => impl_JudgeBlind_2_spec w x hsl)) (wkl_refl _) (fun p hp => by subst hp; rfl) (wantV_ok rfl) rfl (fun p hp => ?_)
      subst hp
      refine PL.run 2 rfl ?_
      refine PL.nil ?_
      refine PW.ret ?_
      refine RetOk.free rfl rfl (congrArg eT ?_)
      have h1 : worldOk w = true := by simpa using h1
      rw [judgeBlind, h1, ← not_any (blindOk w) w.post.queue, h2, not_any (wireBlind w)]; rfl
def judgeAll (w : Earth) : Bool := judgeRead w && (judgeOnce w && judgeBlind w)
/- spec.JudgeAll -/
theorem spec_JudgeAll_spec (w : Earth) (hw : SmW w) : Pw.Spec Tryz.prog 27 [.agg (eEarth w)] (fun res_ => res_ = eT (judgeAll w)) := by
  refine spec_of (n := 13) Tryz.call27 Tryz.func27 rfl rfl (by simp) rfl rfl fun W Z => ?_
  refine PW.seq ?_
  refine PW.region ?_
  refine PL.run 2 rfl ?_
  refine PL.nil ?_
  refine PW.seq ?_
  refine PW.region ?_
  refine PL.run 1 rfl ?_
  refine PL.call rfl rfl rfl (spec_JudgeRead_spec w hw) (.cons (.refl _) <| .nil) (fun p hp => by subst hp; rfl) (wantV_ok rfl) rfl (fun p hp => ?_)
  subst hp
  refine PL.run 1 rfl ?_
  refine PL.split (t := 5) rfl (fun h1 => ?_) (fun h1 => ?_)
  ·
    refine PL.run 1 rfl ?_
    refine PL.call rfl rfl rfl (spec_JudgeOnce_spec w hw) (.cons (.refl _) <| .nil) (fun p hp => by subst hp; rfl) (wantV_ok rfl) rfl (fun p hp => ?_)
    subst hp
    refine PL.run 2 rfl ?_
    refine PL.split (t := 9) rfl (fun h2 => ?_) (fun h2 => ?_)
    ·
      refine PL.run 1 rfl ?_
      refine PL.call rfl rfl rfl (spec_JudgeBlind_spec w hw) (.cons (.refl _) <| .nil) (fun p hp => by subst hp; rfl) (wantV_ok rfl) rfl (fun p hp => ?_)
      subst hp
      refine PL.run 2 rfl ?_
      refine PL.nil ?_
      refine PW.ret ?_
      refine RetOk.free rfl rfl (congrArg eT ?_)
      rw [judgeAll, h1, h2]; rfl
    ·
      refine PL.run 4 rfl ?_
      refine PL.nil ?_
      refine PW.ret ?_
      refine RetOk.free rfl rfl (congrArg eT ?_)
      rw [judgeAll, h1, h2]; rfl
  ·
    refine PL.run 8 rfl ?_
    refine PL.nil ?_
    refine PW.ret ?_
    refine RetOk.free rfl rfl (congrArg eT ?_)
    rw [judgeAll, h1]; rfl
/- impl.JudgeAll -/
theorem impl_JudgeAll_spec (w : Earth) (hw : SmW w) : Pw.Spec Tryz.prog 28 [.agg (eEarth w)] (fun res_ => res_ = eT (judgeAll w)) := by
  refine spec_of (n := 13) Tryz.call28 Tryz.func28 rfl rfl (by simp) rfl rfl fun W Z => ?_
  refine PW.seq ?_
  refine PW.region ?_
  refine PL.run 2 rfl ?_
  refine PL.nil ?_
  refine PW.seq ?_
  refine PW.region ?_
  refine PL.run 1 rfl ?_
  refine PL.call rfl rfl rfl (impl_JudgeRead_spec w hw) (.cons (.refl _) <| .nil) (fun p hp => by subst hp; rfl) (wantV_ok rfl) rfl (fun p hp => ?_)
  subst hp
  refine PL.run 1 rfl ?_
  refine PL.split (t := 5) rfl (fun h1 => ?_) (fun h1 => ?_)
  ·
    refine PL.run 1 rfl ?_
    refine PL.call rfl rfl rfl (impl_JudgeOnce_spec w hw) (.cons (.refl _) <| .nil) (fun p hp => by subst hp; rfl) (wantV_ok rfl) rfl (fun p hp => ?_)
    subst hp
    refine PL.run 2 rfl ?_
    refine PL.split (t := 9) rfl (fun h2 => ?_) (fun h2 => ?_)
    ·
      refine PL.run 1 rfl ?_
      refine PL.call rfl rfl rfl (impl_JudgeBlind_spec w hw) (.cons (.refl _) <| .nil) (fun p hp => by subst hp; rfl) (wantV_ok rfl) rfl (fun p hp => ?_)
      subst hp
      refine PL.run 2 rfl ?_
      refine PL.nil ?_
      refine PW.ret ?_
      refine RetOk.free rfl rfl (congrArg eT ?_)
      rw [judgeAll, h1, h2]; rfl
    ·
      refine PL.run 4 rfl ?_
      refine PL.nil ?_
      refine PW.ret ?_
      refine RetOk.free rfl rfl (congrArg eT ?_)
      rw [judgeAll, h1, h2]; rfl
  ·
    refine PL.run 8 rfl ?_
    refine PL.nil ?_
    refine PW.ret ?_
    refine RetOk.free rfl rfl (congrArg eT ?_)
    rw [judgeAll, h1]; rfl
end Go.Wl
set_option linter.unusedVariables false
set_option linter.unusedSimpArgs false
set_option maxRecDepth 100000
set_option maxHeartbeats 4000000
namespace Go.Wl
open Go Go.RowKit Go.Pw Go.Proofs
/- laws.FnExactJudgeBlind -/
theorem laws_FnExactJudgeBlind_spec (w : Earth) (hw : BgE w) : Pw.Spec Tryz.prog 7 [.agg (eEarth w)] (fun res_ => res_ = eT true) := by
  refine spec_of (n := 27) Tryz.call7 Tryz.func7 rfl rfl (by simp) rfl rfl fun W Z => ?_
  refine PW.seq ?_
  refine PW.region ?_
  refine PL.run 2 rfl ?_
  refine PL.nil ?_
  refine PW.seq ?_
  refine PW.region ?_
  refine PL.run 1 rfl ?_
  refine PL.nil ?_
  refine PW.seq ?_
  refine PW.region ?_
  refine PL.run 2 rfl ?_
  refine PL.call rfl rfl rfl (laws_szWorld_spec w 1048576 (by decide) (by decide) hw) (.cons (.refl _) <| .cons (.refl _) <| .nil) (fun p hp => by subst hp; rfl) (wantV_ok rfl) rfl (fun p hp => ?_)
  subst hp
  refine PL.run 1 rfl ?_
  refine PL.nil ?_
  refine PW.seq ?_
  refine PW.seq ?_
  refine PW.region ?_
  refine PL.run 2 rfl ?_
  refine PL.nil ?_
  refine PW.cond rfl (fun h1 => ?_) (fun h1 => ?_)
  ·
    refine PW.seq ?_
    refine PW.region ?_
    refine PL.run 1 rfl ?_
    refine PL.nil ?_
    refine PW.ret ?_
    refine RetOk.free rfl rfl rfl
  ·
    have k := szf_or (mEarth w) 1048576
    have hm : mEarth w ≤ 1048576 := by simp only [decide_eq_false_iff_not] at h1; omega
    have hf := mEarth_few hm
    have hs := mEarth_sm hm
    clear h1 k
    refine PW.skip ?_
    refine PW.seq ?_
    refine PW.region ?_
    refine PL.run 1 rfl ?_
    refine PL.call rfl rfl rfl (laws_toWorld_spec w hf) (.cons (.refl _) <| .nil) (fun p hp => by subst hp; rfl) (wantV_ok rfl) rfl (fun p hp => ?_)
    subst hp
    refine PL.call rfl rfl rfl (spec_JudgeBlind_spec w hs) (.cons (.refl _) <| .nil) (fun p hp => by subst hp; rfl) (wantV_ok rfl) rfl (fun p hp => ?_)
    subst hp
    refine PL.run 1 rfl ?_
    refine PL.nil ?_
    refine PW.seq ?_
    refine PW.region ?_
    refine PL.run 1 rfl ?_
    refine PL.call rfl rfl rfl (laws_toWorld_spec w hf) (.cons (.refl _) <| .nil) (fun p hp => by subst hp; rfl) (wantV_ok rfl) rfl (fun p hp => ?_)
    subst hp
    refine PL.run 2 rfl ?_
    refine PL.nil ?_
    refine PW.seq ?_
    refine PW.region ?_
    refine PL.run 1 rfl ?_
    refine PL.call rfl rfl rfl (impl_JudgeBlind_spec w hs) (.cons (.refl _) <| .nil) (fun p hp => by subst hp; rfl) (wantV_ok rfl) rfl (fun p hp => ?_)
    subst hp
    refine PL.run 1 rfl ?_
    refine PL.nil ?_
    refine PW.seq ?_
    refine PW.seq ?_
    refine PW.region ?_
    refine PL.run 2 rfl ?_
    refine PL.val (OpV.neqT rfl rfl rfl rfl rfl) (wantV_ok rfl) rfl ?_
    refine PL.nil ?_
    refine PW.cond rfl (fun h2 => ?_) (fun h2 => ?_)
    ·
      simp at h2
    ·
      refine PW.skip ?_
      refine PW.seq ?_
      refine PW.seq ?_
      refine PW.drawn ((some 22, _) :: (some 23, _) :: (some 24, _) :: (some 25, _) :: (some 26, _) :: []) (0 :: 0 :: 2 :: 7 :: 15 :: []) (fun _ => _) mixed rfl rfl rfl rfl rfl
        (.cons rfl (fun ρ => PL.run 1 rfl (PL.nil rfl)) <|
        .cons rfl (fun ρ => PL.run 1 rfl (PL.nil rfl)) <|
        .cons rfl (fun ρ => PL.call rfl rfl rfl (laws_toWorld_spec w hf) (.cons (.refl _) <| .nil) (fun p hp => by subst hp; rfl) (wantV_ok rfl) rfl (fun p hp => by subst hp; exact PL.nil rfl)) <|
        .cons rfl (fun ρ => PL.call rfl rfl rfl (laws_eqWorld_spec w hf) (.cons (.refl _) <| .cons (.refl _) <| .nil) (fun p hp => by subst hp; rfl) (wantV_ok rfl) rfl (fun p hp => by subst hp; exact PL.nil rfl)) <|
        .cons rfl (fun ρ => PL.run 1 rfl (PL.nil rfl)) <|
        .nil _) ?_
      refine PW.cond rfl (fun h3 => ?_) (fun h3 => ?_)
      ·
        simp at h3
      ·
        refine PW.skip ?_
        refine PW.seq ?_
        refine PW.region ?_
        refine PL.run 1 rfl ?_
        refine PL.nil ?_
        refine PW.ret ?_
        refine RetOk.free rfl rfl rfl
/- laws.FnExactJudgeAll -/
theorem laws_FnExactJudgeAll_spec (w : Earth) (hw : BgE w) : Pw.Spec Tryz.prog 8 [.agg (eEarth w)] (fun res_ => res_ = eT true) := by
  refine spec_of (n := 27) Tryz.call8 Tryz.func8 rfl rfl (by simp) rfl rfl fun W Z => ?_
  refine PW.seq ?_
  refine PW.region ?_
  refine PL.run 2 rfl ?_
  refine PL.nil ?_
  refine PW.seq ?_
  refine PW.region ?_
  refine PL.run 1 rfl ?_
  refine PL.nil ?_
  refine PW.seq ?_
  refine PW.region ?_
  refine PL.run 2 rfl ?_
  refine PL.call rfl rfl rfl (laws_szWorld_spec w 1048576 (by decide) (by decide) hw) (.cons (.refl _) <| .cons (.refl _) <| .nil) (fun p hp => by subst hp; rfl) (wantV_ok rfl) rfl (fun p hp => ?_)
  subst hp
  refine PL.run 1 rfl ?_
  refine PL.nil ?_
  refine PW.seq ?_
  refine PW.seq ?_
  refine PW.region ?_
  refine PL.run 2 rfl ?_
  refine PL.nil ?_
  refine PW.cond rfl (fun h1 => ?_) (fun h1 => ?_)
  ·
    refine PW.seq ?_
    refine PW.region ?_
    refine PL.run 1 rfl ?_
    refine PL.nil ?_
    refine PW.ret ?_
    refine RetOk.free rfl rfl rfl
  ·
    have k := szf_or (mEarth w) 1048576
    have hm : mEarth w ≤ 1048576 := by simp only [decide_eq_false_iff_not] at h1; omega
    have hf := mEarth_few hm
    have hs := mEarth_sm hm
    clear h1 k
    refine PW.skip ?_
    refine PW.seq ?_
    refine PW.region ?_
    refine PL.run 1 rfl ?_
    refine PL.call rfl rfl rfl (laws_toWorld_spec w hf) (.cons (.refl _) <| .nil) (fun p hp => by subst hp; rfl) (wantV_ok rfl) rfl (fun p hp => ?_)
    subst hp
    refine PL.call rfl rfl rfl (spec_JudgeAll_spec w hs) (.cons (.refl _) <| .nil) (fun p hp => by subst hp; rfl) (wantV_ok rfl) rfl (fun p hp => ?_)
    subst hp
    refine PL.run 1 rfl ?_
    refine PL.nil ?_
    refine PW.seq ?_
    refine PW.region ?_
    refine PL.run 1 rfl ?_
    refine PL.call rfl rfl rfl (laws_toWorld_spec w hf) (.cons (.refl _) <| .nil) (fun p hp => by subst hp; rfl) (wantV_ok rfl) rfl (fun p hp => ?_)
    subst hp
    refine PL.run 2 rfl ?_
    refine PL.nil ?_
    refine PW.seq ?_
    refine PW.region ?_
    refine PL.run 1 rfl ?_
    refine PL.call rfl rfl rfl (impl_JudgeAll_spec w hs) (.cons (.refl _) <| .nil) (fun p hp => by subst hp; rfl) (wantV_ok rfl) rfl (fun p hp => ?_)
    subst hp
    refine PL.run 1 rfl ?_
    refine PL.nil ?_
    refine PW.seq ?_
    refine PW.seq ?_
    refine PW.region ?_
    refine PL.run 2 rfl ?_
    refine PL.val (OpV.neqT rfl rfl rfl rfl rfl) (wantV_ok rfl) rfl ?_
    refine PL.nil ?_
    refine PW.cond rfl (fun h2 => ?_) (fun h2 => ?_)
    ·
      simp at h2
    ·
      refine PW.skip ?_
      refine PW.seq ?_
      refine PW.seq ?_
      refine PW.drawn ((some 22, _) :: (some 23, _) :: (some 24, _) :: (some 25, _) :: (some 26, _) :: []) (0 :: 0 :: 2 :: 7 :: 15 :: []) (fun _ => _) mixed rfl rfl rfl rfl rfl
        (.cons rfl (fun ρ => PL.run 1 rfl (PL.nil rfl)) <|
        .cons rfl (fun ρ => PL.run 1 rfl (PL.nil rfl)) <|
        .cons rfl (fun ρ => PL.call rfl rfl rfl (laws_toWorld_spec w hf) (.cons (.refl _) <| .nil) (fun p hp => by subst hp; rfl) (wantV_ok rfl) rfl (fun p hp => by subst hp; exact PL.nil rfl)) <|
        .cons rfl (fun ρ => PL.call rfl rfl rfl (laws_eqWorld_spec w hf) (.cons (.refl _) <| .cons (.refl _) <| .nil) (fun p hp => by subst hp; rfl) (wantV_ok rfl) rfl (fun p hp => by subst hp; exact PL.nil rfl)) <|
        .cons rfl (fun ρ => PL.run 1 rfl (PL.nil rfl)) <|
        .nil _) ?_
      refine PW.cond rfl (fun h3 => ?_) (fun h3 => ?_)
      ·
        simp at h3
      ·
        refine PW.skip ?_
        refine PW.seq ?_
        refine PW.region ?_
        refine PL.run 1 rfl ?_
        refine PL.nil ?_
        refine PW.ret ?_
        refine RetOk.free rfl rfl rfl
end Go.Wl
namespace Go.Wl
end Go.Wl
