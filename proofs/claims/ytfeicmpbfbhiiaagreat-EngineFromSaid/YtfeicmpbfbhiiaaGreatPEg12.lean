/- Texts of a proof about the given program, those parts that this claim reaches. -/
import Derived.Test.YtfeicmpbfbhiiaaGreatPEg11
import Derived.Deep.RegionLaw
set_option linter.unusedVariables false
set_option linter.unusedSimpArgs false
namespace Go.Proofs.YtfeicmpbfbhiiaaGreat
open Go.RowKit
attribute [local go_sem ↓] Go.wp_at_zero Go.wp_at_succ
theorem infoLP : (Tryz.prog.info? 190).map (fun i => (i.zero, i.size, i.bytes)) = some (some (.pointer none), 1, 8) := by kernel_rfl
/-- Rows that are being made: j of them are there. -/
structure NewR (IR : IRT) (T : TypeId) (w : World) (br x : Nat) (Fx : List Nat) (P : Nat → Nat) (G : Nat → List Nat) (wr : World) (j : Nat) (vs : Value) : Prop where
 blk : wr.heap[br]? = some (.cells #[vs, .pointer (some ⟨x, 0, none⟩)] T (0, 0))
 own : wr.ownsRow w.heap.size 190 1 vs j ((List.range j).map fun i => Value.pointer (some ⟨P i, 0, none⟩))
 idx : IR wr x Fx (fun _ => none) 0
 lst : ∀ i, i < j → LRep wr (P i) (G i) []
 gx : Ge w.heap.size Fx
 gg : ∀ i, i < j → Ge w.heap.size (G i)
 gb : w.heap.size ≤ br
 d1 : ∀ i, i < j → Dis Fx (G i)
 d2 : ∀ i k, i < j → k < j → i ≠ k → Dis (G i) (G k)
 v1 : Dis vs.ownBlock.toList Fx
 v2 : ∀ i, i < j → Dis vs.ownBlock.toList (G i)
 b1 : br ∉ Fx
 b2 : ∀ i, i < j → br ∉ G i
 b3 : br ∉ vs.ownBlock.toList
 fr : Fr [] w wr
theorem range_up (j : Nat) (f : Nat → Nat) (p : Nat) : ((List.range (j + 1)).map fun i => Value.pointer (some ⟨up f j p i, 0, none⟩)) = ((List.range j).map fun i => Value.pointer (some ⟨f i, 0, none⟩)) ++ [Value.pointer (some ⟨p, 0, none⟩)] := by
 rw [List.range_succ, List.map_append]
 congr 1
 ·apply List.map_congr_left
  intro i hi
  rw [up_other _ _ _ _ (by have := List.mem_range.1 hi; omega)]
 ·simp [up]
/-- One more. -/
theorem NewR.step {IR : IRT} (o : IRok IR) {T : TypeId} {w : World} {br x : Nat} {Fx : List Nat} {P : Nat → Nat} {G : Nat → List Nat} {wr : World} {j : Nat} {vs : Value} (h : NewR IR T w br x Fx P G wr j vs) {w2 w3 w4 : World} {p g c : Nat} {Gp : List Nat}
  (hf2 : Fr [] wr w2) (hl : LRep w2 p Gp []) (hg : Ge wr.heap.size Gp) (hf3 : Fr [] w2 w3)
  (hown : w4.ownsRow w.heap.size 190 1 (.slice (some ⟨g, 0, none⟩) (j + 1) c) (j + 1) (((List.range j).map fun i => Value.pointer (some ⟨P i, 0, none⟩)) ++ [.pointer (some ⟨p, 0, none⟩)])) (hgrow : w3.grownBy w4 vs.ownBlock) (hat : vs.ownBlock = some g ∨ g = w3.heap.size) :
  NewR IR T w br x Fx (up P j p) (up G j Gp) (w4.setCell ⟨br, 0, none⟩ (.slice (some ⟨g, 0, none⟩) (j + 1) c)) (j + 1) (.slice (some ⟨g, 0, none⟩) (j + 1) c) := by
 obtain ⟨blk, own, idx, lst, gx, gg, gb, d1, d2, v1, v2, b1, b2, b3, fr⟩ := h
 have hf3' : Fr [] wr w3 := hf2.same hf3
 have hlr := lt_of_block blk
 have hxl := o.lt idx
 have hGl : ∀ i, i < j → Lt (G i) wr := fun i hi => (lst i hi).lt
 have hgl : Lt Gp w2 := hl.lt
 have kg : Fr vs.ownBlock.toList w3 w4 := (Fr.refl _ _).grown hgrow fun k hk => .inl (by rw [hk]; simp)
 have hvl : Lt vs.ownBlock.toList wr := Own.lt (Own.base own)
 have hge : w.heap.size ≤ g := Own.base_le hown g (by simp [Value.ownBlock])
 have hs1 := fr.size
 have hs2 := hf2.size
 have hs3 := hf3.size
 have hgx : g ∉ Fx ∧ g ≠ br ∧ (∀ i, i < j → g ∉ G i) ∧ g ∉ Gp := by
  rcases hat with h | h
  ·have hm : g ∈ vs.ownBlock.toList := by rw [h]; simp
   have := hvl g hm
   exact ⟨v1 g hm, fun e => b3 (e ▸ hm), fun i hi => v2 i hi g hm, fun hp => by have := hg g hp; omega⟩
  ·refine ⟨fun hp => ?_, by omega, fun i hi hp => ?_, fun hp => ?_⟩
   ·have := hxl g hp; omega
   ·have := hGl i hi g hp; omega
   ·have := hgl g hp; omega
 have kb : Fr [br] w4 (w4.setCell ⟨br, 0, none⟩ (.slice (some ⟨g, 0, none⟩) (j + 1) c)) := (Fr.refl [br] w4).setCell (by simp) _
 have vGp : Dis vs.ownBlock.toList Gp := fun b hb hp => by have := hvl b hb; have := hg b hp; omega
 have bGp : br ∉ Gp := fun hp => by have := hg br hp; omega
 have xGp : Dis Fx Gp := fun b hb hp => by have := hxl b hb; have := hg b hp; omega
 have iGp : ∀ i, i < j → Dis (G i) Gp := fun i hi b hb hp => by have := hGl i hi b hb; have := hg b hp; omega
 have nb : ∀ F : List Nat, br ∉ F → Dis F [br] := fun F hn b hb hp => by simp at hp; subst hp; exact hn hb
 refine ⟨?_, ?_, ?_, ?_, gx, ?_, gb, ?_, ?_, ?_, ?_, b1, ?_, ?_, ?_⟩
 ·rw [block_set_same (kg.get (hf3'.get blk (by simp)) b3)]; simp
 ·rw [range_up]
  refine ⟨hown.1, ?_⟩
  rcases hown.2 with ⟨h1, _⟩ | ⟨g', cap, cur, h1, h2, h3, h4⟩
  ·simp at h1
  ·simp at h1
   obtain ⟨rfl, rfl⟩ := h1
   exact .inr ⟨g, c, cur, rfl, h2, block_set_other h3 (by simpa using Ne.symm hgx.2.1) _, h4⟩
 ·exact o.fr (o.fr (o.fr idx hf3' (fun b _ => by simp)) kg (v1.symm)) kb (nb _ b1)
 ·intro i hi
  by_cases e : i = j
  ·subst e
   rw [up_same, up_same]
   exact ((hl.fr hf3 (fun b _ => by simp)).fr kg vGp.symm).fr kb (nb _ bGp)
  ·rw [up_other _ _ _ _ e, up_other _ _ _ _ e]
   exact (((lst i (by omega)).fr hf3' (fun b _ => by simp)).fr kg (v2 i (by omega)).symm).fr kb (nb _ (b2 i (by omega)))
 ·intro i hi
  by_cases e : i = j
  ·subst e; rw [up_same]; exact hg.mono hs1
  ·rw [up_other _ _ _ _ e]; exact gg i (by omega)
 ·intro i hi
  by_cases e : i = j
  ·subst e; rw [up_same]; exact xGp
  ·rw [up_other _ _ _ _ e]; exact d1 i (by omega)
 ·intro i k hi hk hik
  by_cases e : i = j
  ·subst e
   rw [up_same, up_other _ _ _ _ (Ne.symm hik)]
   exact (iGp k (by omega)).symm
  ·rw [up_other _ _ _ _ e]
   by_cases e2 : k = j
   ·subst e2; rw [up_same]; exact iGp i (by omega)
   ·rw [up_other _ _ _ _ e2]; exact d2 i k (by omega) (by omega) hik
 ·intro b hb; simp [Value.ownBlock] at hb; subst hb; exact hgx.1
 ·intro i hi b hb
  simp [Value.ownBlock] at hb
  subst hb
  by_cases e : i = j
  ·subst e; rw [up_same]; exact hgx.2.2.2
  ·rw [up_other _ _ _ _ e]; exact hgx.2.2.1 i (by omega)
 ·intro i hi
  by_cases e : i = j
  ·subst e; rw [up_same]; exact bGp
  ·rw [up_other _ _ _ _ e]; exact b2 i (by omega)
 ·simp [Value.ownBlock]; exact Ne.symm hgx.2.1
 ·exact ((fr.same hf3').grownOwn hgrow own).setNew (by simpa using gb) _
/-- All are there. -/
theorem NewR.done {IR : IRT} (o : IRok IR) {T : TypeId} {w : World} {br x : Nat} {Fx : List Nat} {P : Nat → Nat} {G : Nat → List Nat} {wr : World} {k : Nat} {vs : Value} (h : NewR IR T w br x Fx P G wr k vs) (hk : 0 < k) :
  ∃ F, RRep IR k wr (.agg #[vs, .pointer (some ⟨x, 0, none⟩)]) F (fun _ => []) ∧ Ge w.heap.size F := by
 obtain ⟨blk, own, idx, lst, gx, gg, gb, d1, d2, v1, v2, b1, b2, b3, fr⟩ := h
 rcases own.2 with ⟨_, h0⟩ | ⟨g, cap, cur, rfl, h2, h3, h4, h5, h6, h7⟩
 ·omega
 ·refine ⟨_, ⟨g, cap, x, Fx, P, G, fun _ => [], fun _ => none, 0, rfl, rfl, ⟨⟨cur, _, _, h3, fun i hi => ?_⟩, idx, lst, v1 g (by simp [Value.ownBlock]), fun i hi => v2 i hi g (by simp [Value.ownBlock]), d1, d2⟩, by simp, RNd.nil k, ⟨fun i hi => rfl, fun key i h => by simp⟩⟩, ?_⟩
  ·have e : ((List.range k).map fun i => Value.pointer (some ⟨P i, 0, none⟩))[i]? = some (.pointer (some ⟨P i, 0, none⟩)) := by simp [hi]
   rw [← h7] at e
   rw [List.getElem?_take] at e
   split at e
   ·rw [← Array.getElem?_toList]; exact e
   ·cases e
  ·intro b hb
   rcases mem_rowsF.1 hb with rfl | hb | ⟨i, hi, hb⟩
   ·exact h2
   ·exact gx b hb
   ·exact gg i hi b hb
set_option maxRecDepth 100000 in
theorem rnewA (w : World) : Calls Tryz.prog 149 #[.int .i64 4] w fun e w' => ∃ v F, e = .returned v ∧ RRep IRepA 4 w' v F (fun _ => []) ∧ Ge w.heap.size F ∧ Fr [] w w' := by
 obtain ⟨i0, hi, hz0, hz1, hz2⟩ := info_parts2 infoLP
 go_enter Tryz.func149, Tryz.ntmps149
 go_wp2_with fail
 refine (idxNewA _).mono ?_
 rintro e w1 ⟨x, Fx, rfl, hx, hge, hf1⟩
 have hf00 : Fr [] w (w.alloc (.cells #[.slice none 0 0, .pointer none] 186)) := (Fr.refl [] w).alloc _
 have hres : (w.alloc (.cells #[.slice none 0 0, .pointer none] 186)).heap[w.heap.size]? = some (.cells #[.slice none 0 0, .pointer none] 186 (0, 0)) := block_alloc_new w _
 generalize w.alloc (.cells #[.slice none 0 0, .pointer none] 186) = W0 at *
 have hs0 := lt_of_block hres
 have hst : NewR IRepA 186 W0 w1.heap.size x Fx (fun _ => 0) (fun _ => []) (w1.alloc (.cells #[.slice none 0 0, .pointer (some ⟨x, 0, none⟩)] 186)) 0 (.slice none 0 0) := by
  have k := (Fr.refl [] w1).alloc (.cells #[.slice none 0 0, .pointer (some ⟨x, 0, none⟩)] 186)
  refine ⟨block_alloc_new _ _, World.ownsRow_nil _ _ _ _, hx.fr k (fun b _ => by simp), by intro i hi; omega, hge, by intro i hi; omega, hf1.size, by intro i hi; omega, by intro i _ hi; omega, by intro b hb; simp [Value.ownBlock] at hb, by intro i hi; omega, ?_, by intro i hi; omega, by simp [Value.ownBlock], hf1.same k⟩
  intro hb; have := hx.lt _ hb; omega
 have HST := Lib.hid hst
 have hs1 := hf1.size
 have hw01 : w.heap.size < w1.heap.size := by omega
 clear hst hx hge hf1
 go_wp2_with fail
 generalize w1.alloc (.cells #[.slice none 0 0, .pointer (some ⟨x, 0, none⟩)] 186) = W at *
 go_loopw [7] (fun u wr => ∃ (j : Nat) (P : Nat → Nat) (G : Nat → List Nat) (vs : Value), j ≤ 4 ∧ u = .int .i64 j ∧ NewR IRepA 186 W0 w1.heap.size x Fx P G wr j vs) (fun u _ => 4 - (intOf u).toNat)
 case atStart => exact ⟨0, _, _, _, by omega, rfl, HST.out⟩
 case round =>
  obtain ⟨j, P, G, vs, hj, rfl, hn⟩ := hrel
  obtain ⟨sa, sc, rfl⟩ : ∃ sa sc, vs = .slice sa j sc := by
   rcases hn.own.2 with ⟨rfl, rfl⟩ | ⟨g, cap, cur, rfl, _⟩
   ·exact ⟨_, _, rfl⟩
   ·exact ⟨_, _, rfl⟩
  have k0 : wr.cell? ⟨w1.heap.size, 0, none⟩ = some (.slice sa j sc) := (cell_of_block hn.blk 0).trans rfl
  have k1 : wr.cell? ⟨w1.heap.size, 1, none⟩ = some (.pointer (some ⟨x, 0, none⟩)) := (cell_of_block hn.blk 1).trans rfl
  by_cases hlt : j < 4
  ·have hown := hn.own
   have hb3 := hn.b3
   have hbl := lt_of_block hn.blk
   have hfr := hn.fr.size
   have hbl4 : ∀ (w3 w4 : World) (o : Obj) (n : Nat), Fr [] (wr.drewN n) w3 → (w3.alloc o).grownBy w4 (Value.slice sa j sc).ownBlock → w4.heap[w1.heap.size]? = some (.cells #[.slice sa j sc, .pointer (some ⟨x, 0, none⟩)] 186 (0, 0)) := by
    intro w3 w4 o n h1 h2
    have h3 := (((Fr.refl [] wr).drewN n).same h1).alloc o
    have h4 := h3.get hn.blk (by simp)
    rw [h2.block _ (lt_of_block h4) (fun e => hb3 (by simp [← e]))]
    exact h4
   have BL := Lib.hid hbl4
   have HN := Lib.hid hn
   clear hbl4
   have zf : wr.frozen? ⟨w1.heap.size, 0, none⟩ = false := free_of_block hn.blk 0
   clear hn
   go_wp2_with fail
   go_region_law
    (first
     | (refine step_append_lies _ (by rfl) _ _ _ (by rfl) W0.heap.size 190 i0 (.pointer none) 1 8 Tryz.underlying183 hi hz0 hz1 hz2 rfl (by omega) (.slice sa j sc) j _ (by rfl) (by exact (ownFr hown (((Fr.refl [] _).drew).same hf3) (by simp)).alloc _) ⟨w3.heap.size, 0, none⟩ 1 1 [.pointer (some ⟨p, 0, none⟩)] (by rfl) (by rfl) (by exact cell_one_new _ _ _) (by simp [Value.oneCell']) (by omega) (by unfold maxLen; omega) (by omega) (by have := hf3.size; simp at this; simp; omega) (w3.heap.size + 1) (by simp) ?_; intro g cap w4 hown4 hgrow hat hlt4; have b4 := BL.out _ _ _ _ hf3 hgrow; have k4 := cell_of_block b4 0; have z4 := free_of_block b4 0)
     | (go_simp; go_at_call 150; refine (listNew _).mono ?_; rintro e w3 ⟨p, Gp, rfl, hl3, hg3, hf3⟩; have k3 := cell_fr (((Fr.refl [] _).drew).same hf3) k0 (by simp); have k5 := cell_fr ((Fr.refl [] w3).alloc (.cells #[.pointer (some ⟨p, 0, none⟩)] 190)) k3 (by simp)))
   all_goals
    have hstep := HN.out.step irokA (((Fr.refl [] _).drew).same hf3) hl3 (by simpa using hg3) ((Fr.refl [] w3).alloc _) hown4 hgrow (by simpa using hat)
    go_wp2
    exact ⟨⟨j + 1, _, _, _, by omega, by go_num, hstep⟩, by simp [intOf]; omega⟩
  ·have : j = 4 := by omega
   subst this
   have r0 := hn.fr.get hres (by simp)
   have rk0 := cell_of_block r0 0
   have rk1 := cell_of_block r0 1
   have rz := free_of_block r0
   have hrl := lt_of_block r0
   have HN := Lib.hid hn
   simp at rk0 rk1
   clear hn r0 hres HST
   go_wp2
   refine bodyPost_ret (v := .agg #[.slice sa 4 sc, .pointer (some ⟨x, 0, none⟩)]) (by simp [results, Tryz.results149, go_sem, World.cell?_setCell_same, rk0, rk1, hrl]) rfl ?_
   obtain ⟨F, h1, h2⟩ := HN.out.done irokA (by omega)
   have hq : Fr [w.heap.size] wr ((wr.setCell ⟨w.heap.size, 0, none⟩ (.slice sa 4 sc)).setCell ⟨w.heap.size, 1, none⟩ (.pointer (some ⟨x, 0, none⟩))) := ((Fr.refl _ _).setCell (by simp) _).setCell (by simp) _
   exact ⟨_, F, rfl, h1.fr irokA hq (fun b hb hp => by have := h2 b hb; simp at hp; omega), h2.mono (by omega), ((hf00.same HN.out.fr).setNew (by simp) _).setNew (by simp) _⟩
theorem zZRws31 {P : Prop} (h : P := by
 obtain ⟨i0, hi, hz0, hz1, hz2⟩ := info_parts2 infoLP
 go_enter z1, z2
 go_wp2_with fail
 refine (z3 _).mono ?_
 rintro e w1 ⟨x, Fx, rfl, hx, hge, hf1⟩
 have hf00 : Fr [] w (w.alloc (.cells #[.slice none 0 0, .pointer none] z4)) := (Fr.refl [] w).alloc _
 have hres : (w.alloc (.cells #[.slice none 0 0, .pointer none] z4)).heap[w.heap.size]? = some (.cells #[.slice none 0 0, .pointer none] z4 (0, 0)) := block_alloc_new w _
 generalize w.alloc (.cells #[.slice none 0 0, .pointer none] z4) = W0 at *
 have hs0 := lt_of_block hres
 have hst : NewR z5 z4 W0 w1.heap.size x Fx (fun _ => 0) (fun _ => []) (w1.alloc (.cells #[.slice none 0 0, .pointer (some ⟨x, 0, none⟩)] z4)) 0 (.slice none 0 0) := by
  have k := (Fr.refl [] w1).alloc (.cells #[.slice none 0 0, .pointer (some ⟨x, 0, none⟩)] z4)
  refine ⟨block_alloc_new _ _, World.ownsRow_nil _ _ _ _, hx.fr k (fun b _ => by simp), by intro i hi; omega, hge, by intro i hi; omega, hf1.size, by intro i hi; omega, by intro i _ hi; omega, by intro b hb; simp [Value.ownBlock] at hb, by intro i hi; omega, ?_, by intro i hi; omega, by simp [Value.ownBlock], hf1.same k⟩
  intro hb; have := hx.lt _ hb; omega
 have HST := Lib.hid hst
 have hs1 := hf1.size
 have hw01 : w.heap.size < w1.heap.size := by omega
 clear hst hx hge hf1
 go_wp2_with fail
 generalize w1.alloc (.cells #[.slice none 0 0, .pointer (some ⟨x, 0, none⟩)] z4) = W at *
 go_loopw [7] (fun u wr => ∃ (j : Nat) (P : Nat → Nat) (G : Nat → List Nat) (vs : Value), j ≤ 3 ∧ u = .int .i64 j ∧ NewR z5 z4 W0 w1.heap.size x Fx P G wr j vs) (fun u _ => 3 - (intOf u).toNat)
 case atStart => exact ⟨0, _, _, _, by omega, rfl, HST.out⟩
 case round =>
  obtain ⟨j, P, G, vs, hj, rfl, hn⟩ := hrel
  obtain ⟨sa, sc, rfl⟩ : ∃ sa sc, vs = .slice sa j sc := by
   rcases hn.own.2 with ⟨rfl, rfl⟩ | ⟨g, cap, cur, rfl, _⟩
   ·exact ⟨_, _, rfl⟩
   ·exact ⟨_, _, rfl⟩
  have k0 : wr.cell? ⟨w1.heap.size, 0, none⟩ = some (.slice sa j sc) := (cell_of_block hn.blk 0).trans rfl
  have k1 : wr.cell? ⟨w1.heap.size, 1, none⟩ = some (.pointer (some ⟨x, 0, none⟩)) := (cell_of_block hn.blk 1).trans rfl
  by_cases hlt : j < 3
  ·have hown := hn.own
   have hb3 := hn.b3
   have hbl := lt_of_block hn.blk
   have hfr := hn.fr.size
   have hbl4 : ∀ (w3 w4 : World) (o : Obj) (n : Nat), Fr [] (wr.drewN n) w3 → (w3.alloc o).grownBy w4 (Value.slice sa j sc).ownBlock → w4.heap[w1.heap.size]? = some (.cells #[.slice sa j sc, .pointer (some ⟨x, 0, none⟩)] z4 (0, 0)) := by
    intro w3 w4 o n h1 h2
    have h3 := (((Fr.refl [] wr).drewN n).same h1).alloc o
    have h4 := h3.get hn.blk (by simp)
    rw [h2.block _ (lt_of_block h4) (fun e => hb3 (by simp [← e]))]
    exact h4
   have BL := Lib.hid hbl4
   have HN := Lib.hid hn
   clear hbl4
   have zf : wr.frozen? ⟨w1.heap.size, 0, none⟩ = false := free_of_block hn.blk 0
   clear hn
   go_wp2_with fail
   go_region_law
    (first
     | (refine step_append_lies _ (by rfl) _ _ _ (by rfl) W0.heap.size 190 i0 (.pointer none) 1 8 Tryz.underlying183 hi hz0 hz1 hz2 rfl (by omega) (.slice sa j sc) j _ (by rfl) (by exact (ownFr hown (((Fr.refl [] _).drew).same hf3) (by simp)).alloc _) ⟨w3.heap.size, 0, none⟩ 1 1 [.pointer (some ⟨p, 0, none⟩)] (by rfl) (by rfl) (by exact cell_one_new _ _ _) (by simp [Value.oneCell']) (by omega) (by unfold maxLen; omega) (by omega) (by have := hf3.size; simp at this; simp; omega) (w3.heap.size + 1) (by simp) ?_; intro g cap w4 hown4 hgrow hat hlt4; have b4 := BL.out _ _ _ _ hf3 hgrow; have k4 := cell_of_block b4 0; have z4 := free_of_block b4 0)
     | (go_simp; go_at_call 150; refine (listNew _).mono ?_; rintro e w3 ⟨p, Gp, rfl, hl3, hg3, hf3⟩; have k3 := cell_fr (((Fr.refl [] _).drew).same hf3) k0 (by simp); have k5 := cell_fr ((Fr.refl [] w3).alloc (.cells #[.pointer (some ⟨p, 0, none⟩)] 190)) k3 (by simp)))
   all_goals
    have hstep := HN.out.step z6 (((Fr.refl [] _).drew).same hf3) hl3 (by simpa using hg3) ((Fr.refl [] w3).alloc _) hown4 hgrow (by simpa using hat)
    go_wp2
    exact ⟨⟨j + 1, _, _, _, by omega, by go_num, hstep⟩, by simp [intOf]; omega⟩
  ·have : j = 3 := by omega
   subst this
   have r0 := hn.fr.get hres (by simp)
   have rk0 := cell_of_block r0 0
   have rk1 := cell_of_block r0 1
   have rz := free_of_block r0
   have hrl := lt_of_block r0
   have HN := Lib.hid hn
   simp at rk0 rk1
   clear hn r0 hres HST
   go_wp2
   refine bodyPost_ret (v := .agg #[.slice sa 3 sc, .pointer (some ⟨x, 0, none⟩)]) (by simp [results, z7, go_sem, World.cell?_setCell_same, rk0, rk1, hrl]) rfl ?_
   obtain ⟨F, h1, h2⟩ := HN.out.done z6 (by omega)
   have hq : Fr [w.heap.size] wr ((wr.setCell ⟨w.heap.size, 0, none⟩ (.slice sa 3 sc)).setCell ⟨w.heap.size, 1, none⟩ (.pointer (some ⟨x, 0, none⟩))) := ((Fr.refl _ _).setCell (by simp) _).setCell (by simp) _
   exact ⟨_, F, rfl, h1.fr z6 hq (fun b hb hp => by have := h2 b hb; simp at hp; omega), h2.mono (by omega), ((hf00.same HN.out.fr).setNew (by simp) _).setNew (by simp) _⟩
 ) : P := h
abbrev nRws31z4a : Nat := 200
set_option maxRecDepth 100000 in
open YtfeicmpbfbhiiaaGreat renaming idxNewQ → z3, nRws31z4a → z4, IRepQ → z5, irokQ → z6 in
open Tryz renaming func152 → z1, ntmps152 → z2, results152 → z7 in
theorem rnewQ (w : World) : Calls Tryz.prog 152 #[.int .i64 3] w fun e w' => ∃ v F, e = .returned v ∧ RRep IRepQ 3 w' v F (fun _ => []) ∧ Ge w.heap.size F ∧ Fr [] w w' := by exact zZRws31
abbrev nRws31z4b : Nat := 206
set_option maxRecDepth 100000 in
open YtfeicmpbfbhiiaaGreat renaming idxNewU → z3, nRws31z4b → z4, IRepU → z5, irokU → z6 in
open Tryz renaming func153 → z1, ntmps153 → z2, results153 → z7 in
theorem rnewU (w : World) : Calls Tryz.prog 153 #[.int .i64 3] w fun e w' => ∃ v F, e = .returned v ∧ RRep IRepU 3 w' v F (fun _ => []) ∧ Ge w.heap.size F ∧ Fr [] w w' := by exact zZRws31
abbrev nRws31z4c : Nat := 216
set_option maxRecDepth 100000 in
open YtfeicmpbfbhiiaaGreat renaming idxNewS → z3, nRws31z4c → z4, IRepS → z5, irokS → z6 in
open Tryz renaming func156 → z1, ntmps156 → z2, results156 → z7 in
theorem rnewS (w : World) : Calls Tryz.prog 156 #[.int .i64 3] w fun e w' => ∃ v F, e = .returned v ∧ RRep IRepS 3 w' v F (fun _ => []) ∧ Ge w.heap.size F ∧ Fr [] w w' := by exact zZRws31
end Go.Proofs.YtfeicmpbfbhiiaaGreat
