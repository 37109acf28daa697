/- Texts of a proof about the given program, those parts that this claim reaches. -/
import Derived.Test.YtfeicmpbfbhiiaaGreatPEg10
set_option linter.unusedVariables false
set_option linter.unusedSimpArgs false
namespace Go.Proofs.YtfeicmpbfbhiiaaGreat
open Go.RowKit
attribute [local go_sem ↓] Go.wp_at_zero Go.wp_at_succ
theorem sum_snoc (is : List Nat) (f : Nat → Nat) (j : Nat) (h : j < is.length) : ((is.take (j + 1)).map f).sum = ((is.take j).map f).sum + f is[j] := by
 have e : (is[j]?).toList = [is[j]] := by rw [List.getElem?_eq_getElem h]; rfl
 rw [List.take_add_one, e, List.map_append, List.sum_append]
 simp only [List.map_cons, List.map_nil, List.sum_cons, List.sum_nil, Nat.add_zero]
theorem flat_snoc (is : List Nat) (f : Nat → List ByteArray) (j : Nat) (h : j < is.length) : (is.take (j + 1)).flatMap f = (is.take j).flatMap f ++ f is[j] := by
 have e : (is[j]?).toList = [is[j]] := by rw [List.getElem?_eq_getElem h]; rfl
 rw [List.take_add_one, e, List.flatMap_append]
 simp only [List.flatMap_cons, List.flatMap_nil, List.append_nil]
set_option maxRecDepth 100000 in
theorem rmanyA {w : World} {v vs : Value} {F : List Nat} {K : Rows} (H : RRep IRepA 4 w v F K) (is : List Nat) (his : ∀ i, i ∈ is → i < 4) (hl : is.length ≤ 100) (hv : Rd w 1 vs is.length (is.map fun i => Value.int .i64 (i : Nat))) :
  Calls Tryz.prog 294 #[v, vs] w fun e w' => e = .returned (.int .i64 ((is.map fun i => (K i).length).sum : Nat)) ∧ Fr [] w w' := by
 obtain ⟨g, cap, x, Fx, P, G, L, M, n, rfl, rfl, ha, hn, hnd, hco⟩ := H
 obtain ⟨hvl, a, c, rfl, hvc⟩ := id hv
 have kw := (Fr.refl [] w).alloc (.cells #[.slice (some ⟨g, 0, none⟩) 4 cap, .pointer (some ⟨x, 0, none⟩)] 186)
 have k0 : (w.alloc (.cells #[.slice (some ⟨g, 0, none⟩) 4 cap, .pointer (some ⟨x, 0, none⟩)] 186)).cell? ⟨w.heap.size, 0, none⟩ = some (.slice (some ⟨g, 0, none⟩) 4 cap) := (cell_of_block (block_alloc_new w _) 0).trans rfl
 have HA := Lib.hid (And.intro ha (And.intro hco his))
 have HV := Lib.hid hvc
 clear ha hn hnd hco hvl hvc hv his
 go_enter Tryz.func294, Tryz.ntmps294
 go_wp2_with fail
 generalize w.alloc (.cells #[.slice (some ⟨g, 0, none⟩) 4 cap, .pointer (some ⟨x, 0, none⟩)] 186) = W at *
 go_loopw [5, 10] (fun u5 u10 wr => ∃ j s : Nat, j ≤ is.length ∧ u10 = .int .i64 j ∧ u5 = .int .i64 s ∧ s ≤ j * 100000 ∧ Hid (s = ((is.take j).map fun i => (K i).length).sum) ∧ Fr [] W wr) (fun _ u10 _ => is.length - (intOf u10).toNat)
 case atStart => exact ⟨0, 0, by omega, rfl, rfl, by omega, rfl, Fr.refl _ _⟩
 case round =>
  obtain ⟨j, s, hj, rfl, rfl, hs, hS, hf⟩ := hrel
  by_cases hlt : j < is.length
  ·obtain ⟨ha, hco, his⟩ := HA.out
   rcases HV.out with hz | ⟨b, o, rfl, hc⟩
   ·omega
   have x0 := hc j (.int .i64 is[j]) (by simp [hlt])
   obtain ⟨i, hi⟩ : ∃ i, is[j] = i := ⟨_, rfl⟩
   have hi4 := his i (by rw [← hi]; simp)
   rw [hi] at x0
   have HI := Lib.hid hi
   have hk := kw.same hf
   have x0 := cell_fr hk x0 (by simp)
   have k0 := cell_fr hf k0 (by simp)
   have kg := cell_fr hk (ha.cell hi4) (by simp)
   have hln := (ha.fr irokA hk (fun b _ => by simp)).lst i hi4
   have hlen := hln.len
   have hle : (L i).length = (K i).length := by rw [← hco.snd i hi4]; simp
   have HL := Lib.hid (len_l hln)
   have i0 : (0 : Int) ≤ (i : Int) := by omega
   have i1 : (i : Int) < 4 := by omega
   obtain ⟨ll, hll⟩ : ∃ ll, (L i).length = ll := ⟨_, rfl⟩
   rw [hll] at HL hlen hle
   have HE := Lib.hid hle
   clear ha hco his hln hll hle hc
   have hs2 : s + ll ≤ 10000000000 := by omega
   go_wp2_with fail
   refine HL.out.mono ?_
   rintro e w2 ⟨rfl, rfl⟩
   go_wp2_with fail
   refine ⟨⟨j + 1, s + ll, by omega, by go_num, by go_num, by omega, ?_, hf⟩, by simp [intOf]; omega⟩
   show s + ll = _
   rw [sum_snoc _ _ _ hlt, HI.out, ← HE.out, hS.out]
  ·have : j = is.length := by omega
   subst this
   go_wp2
   go_ret
   have e := hS.out
   rw [List.take_length] at e
   exact ⟨by rw [e]; rfl, kw.same hf⟩
set_option maxRecDepth 100000 in
theorem rkeysA {w : World} {v vs : Value} {F : List Nat} {K : Rows} (H : RRep IRepA 4 w v F K) (is : List Nat) (his : ∀ i, i ∈ is → i < 4) (hl : is.length ≤ 100) (hv : Rd w 1 vs is.length (is.map fun i => Value.int .i64 (i : Nat))) :
  Calls Tryz.prog 298 #[v, vs] w (SlRet w 9 1 (is.flatMap K).length ((is.flatMap K).map Value.string)) := by
 obtain ⟨i0, hii, hz0, hz1, hz2⟩ := info_parts2 infoStr
 obtain ⟨g, cap, x, Fx, P, G, L, M, n, rfl, rfl, ha, hn, hnd, hco⟩ := H
 obtain ⟨hvl, a, c, rfl, hvc⟩ := id hv
 have kw := (Fr.refl [] w).alloc (.cells #[.slice (some ⟨g, 0, none⟩) 4 cap, .pointer (some ⟨x, 0, none⟩)] 186)
 have k0 : (w.alloc (.cells #[.slice (some ⟨g, 0, none⟩) 4 cap, .pointer (some ⟨x, 0, none⟩)] 186)).cell? ⟨w.heap.size, 0, none⟩ = some (.slice (some ⟨g, 0, none⟩) 4 cap) := (cell_of_block (block_alloc_new w _) 0).trans rfl
 have HA := Lib.hid (And.intro ha (And.intro hco his))
 have HV := Lib.hid hvc
 clear ha hn hnd hco hvl hvc hv his
 go_enter Tryz.func298, Tryz.ntmps298
 go_wp2_with fail
 generalize w.alloc (.cells #[.slice (some ⟨g, 0, none⟩) 4 cap, .pointer (some ⟨x, 0, none⟩)] 186) = W at *
 go_loopw [5, 10] (fun u5 u10 wr => ∃ (j m : Nat) (a : Option Addr) (c : Nat), j ≤ is.length ∧ u10 = .int .i64 j ∧ m ≤ j * 100000 ∧ Hid (m = ((is.take j).flatMap K).length) ∧ u5 = .slice a m c ∧ Sl wr 9 1 u5 m (((is.take j).flatMap K).map Value.string) ∧ Ge W.heap.size u5.ownBlock.toList ∧ Fr [] W wr) (fun _ u10 _ => is.length - (intOf u10).toNat)
 case atStart => exact ⟨0, 0, none, 0, by omega, rfl, by omega, rfl, rfl, Sl.nil _ _ _, (by intro b hb; simp [Value.ownBlock] at hb), Fr.refl _ _⟩
 case round =>
  obtain ⟨j, m, ua, uc, hj, rfl, hm, hM, rfl, hsl, hge, hf⟩ := hrel
  by_cases hlt : j < is.length
  ·obtain ⟨ha, hco, his⟩ := HA.out
   rcases HV.out with hz | ⟨b, o, rfl, hc⟩
   ·omega
   have x0 := hc j (.int .i64 is[j]) (by simp [hlt])
   obtain ⟨i, hi⟩ : ∃ i, is[j] = i := ⟨_, rfl⟩
   have hi4 := his i (by rw [← hi]; simp)
   rw [hi] at x0
   have HI := Lib.hid hi
   have hk := kw.same hf
   have x0 := cell_fr hk x0 (by simp)
   have k0 := cell_fr hf k0 (by simp)
   have kg := cell_fr hk (ha.cell hi4) (by simp)
   have hln := (ha.fr irokA hk (fun b _ => by simp)).lst i hi4
   have hlen := hln.len
   have hle := hco.snd i hi4
   have hlk : (L i).length = (K i).length := by rw [← hle]; simp
   have hal := all_l hln
   have e1 : ((L i).map fun e => Value.string e.2) = (K i).map Value.string := by rw [← hle, List.map_map]; rfl
   rw [e1, hlk] at hal
   rw [hlk] at hlen
   have HL := Lib.hid hal
   have i0 : (0 : Int) ≤ (i : Int) := by omega
   have i1 : (i : Int) < 4 := by omega
   have HSL := Lib.hid hsl
   clear ha hco his hln hle hc hsl hlk e1 hal
   go_wp2_with fail
   refine HL.out.mono ?_
   rintro e w2 ⟨vl, rfl, hown, hf2⟩
   have hgel := Own.base_le hown
   have hsrc := Sl.ofOwn hown
   obtain ⟨al, cl, rfl⟩ := hsrc.form
   have hsl2 := HSL.out.fr hf2 (fun b _ => by simp)
   have HSS := Lib.hid (And.intro hsl2 hsrc)
   clear hown hsrc hsl2 HSL
   go_wp2_with (at_builtin; refine wpList_app rfl _ _ _ _ rfl Tryz.underlying22 hii hz0 hz1 hz2 rfl (.slice ua m uc) _ m (K i).length (((is.take j).flatMap K).map Value.string) ((K i).map Value.string) rfl rfl ?hsl ?hone ?src ?c3 ?c4 _ rfl ?_)
   case hsl => exact HSS.out.1
   case hone => intro u hu; obtain ⟨_, _, rfl⟩ := List.mem_map.1 hu; rfl
   case src => refine HSS.out.2.src Tryz.underlying22 ?_; intro u hu; obtain ⟨_, _, rfl⟩ := List.mem_map.1 hu; rfl
   case c3 => unfold maxLen; omega
   case c4 => omega
   intro b' cp w3 hs3 hf3 hat
   have hF3 : Fr [] W w3 := (hf.same hf2).fresh hf3 hge
   have hge3 : Ge W.heap.size (Value.slice b' (m + (K i).length) cp).ownBlock.toList := by
    intro q hq
    rcases hat with h | h
    ·rw [h] at hq; exact hge q hq
    ·rw [h] at hq; simp at hq; have := (hf.same hf2).size; omega
   have H3 := Lib.hid (And.intro hs3 (And.intro hF3 hge3))
   have hm2 : m + (K i).length ≤ (j + 1) * 100000 := by omega
   clear hs3 hf3 hat hF3 hge3 hge
   go_wp2_with fail
   have e2 : (is.take (j + 1)).flatMap K = (is.take j).flatMap K ++ K i := by rw [flat_snoc _ _ _ hlt, HI.out]
   refine ⟨⟨j + 1, m + (K i).length, _, _, by omega, by go_num, hm2, ?_, rfl, ?_, H3.out.2.2, H3.out.2.1⟩, by simp [intOf]; omega⟩
   ·show _ = _
    rw [e2, List.length_append, ← hM.out]
   ·rw [e2, List.map_append]; exact H3.out.1
  ·have : j = is.length := by omega
   subst this
   go_wp2
   go_ret
   have e := hM.out
   rw [List.take_length] at e hsl
   exact ⟨_, rfl, by rw [← e]; exact hsl, (fun b hb => by have := hge b hb; have := kw.size; omega), kw.same hf⟩
theorem zZRws21 {P : Prop} (h : P := by
 obtain ⟨g, cap, x, Fx, P, G, L, M, n, rfl, rfl, ha, hn, hnd, hco⟩ := H
 obtain ⟨hvl, a, c, rfl, hvc⟩ := id hv
 have kw := (Fr.refl [] w).alloc (.cells #[.slice (some ⟨g, 0, none⟩) 3 cap, .pointer (some ⟨x, 0, none⟩)] z1)
 have k0 : (w.alloc (.cells #[.slice (some ⟨g, 0, none⟩) 3 cap, .pointer (some ⟨x, 0, none⟩)] z1)).cell? ⟨w.heap.size, 0, none⟩ = some (.slice (some ⟨g, 0, none⟩) 3 cap) := (cell_of_block (block_alloc_new w _) 0).trans rfl
 have HA := Lib.hid (And.intro ha (And.intro hco his))
 have HV := Lib.hid hvc
 clear ha hn hnd hco hvl hvc hv his
 go_enter z2, z3
 go_wp2_with fail
 generalize w.alloc (.cells #[.slice (some ⟨g, 0, none⟩) 3 cap, .pointer (some ⟨x, 0, none⟩)] z1) = W at *
 go_loopw [5, 10] (fun u5 u10 wr => ∃ j s : Nat, j ≤ is.length ∧ u10 = .int .i64 j ∧ u5 = .int .i64 s ∧ s ≤ j * 100000 ∧ Hid (s = ((is.take j).map fun i => (K i).length).sum) ∧ Fr [] W wr) (fun _ u10 _ => is.length - (intOf u10).toNat)
 case atStart => exact ⟨0, 0, by omega, rfl, rfl, by omega, rfl, Fr.refl _ _⟩
 case round =>
  obtain ⟨j, s, hj, rfl, rfl, hs, hS, hf⟩ := hrel
  by_cases hlt : j < is.length
  ·obtain ⟨ha, hco, his⟩ := HA.out
   rcases HV.out with hz | ⟨b, o, rfl, hc⟩
   ·omega
   have x0 := hc j (.int .i64 is[j]) (by simp [hlt])
   obtain ⟨i, hi⟩ : ∃ i, is[j] = i := ⟨_, rfl⟩
   have hi4 := his i (by rw [← hi]; simp)
   rw [hi] at x0
   have HI := Lib.hid hi
   have hk := kw.same hf
   have x0 := cell_fr hk x0 (by simp)
   have k0 := cell_fr hf k0 (by simp)
   have kg := cell_fr hk (ha.cell hi4) (by simp)
   have hln := (ha.fr z4 hk (fun b _ => by simp)).lst i hi4
   have hlen := hln.len
   have hle : (L i).length = (K i).length := by rw [← hco.snd i hi4]; simp
   have HL := Lib.hid (len_l hln)
   have i0 : (0 : Int) ≤ (i : Int) := by omega
   have i1 : (i : Int) < 3 := by omega
   obtain ⟨ll, hll⟩ : ∃ ll, (L i).length = ll := ⟨_, rfl⟩
   rw [hll] at HL hlen hle
   have HE := Lib.hid hle
   clear ha hco his hln hll hle hc
   have hs2 : s + ll ≤ 10000000000 := by omega
   go_wp2_with fail
   refine HL.out.mono ?_
   rintro e w2 ⟨rfl, rfl⟩
   go_wp2_with fail
   refine ⟨⟨j + 1, s + ll, by omega, by go_num, by go_num, by omega, ?_, hf⟩, by simp [intOf]; omega⟩
   show s + ll = _
   rw [sum_snoc _ _ _ hlt, HI.out, ← HE.out, hS.out]
  ·have : j = is.length := by omega
   subst this
   go_wp2
   go_ret
   have e := hS.out
   rw [List.take_length] at e
   exact ⟨by rw [e]; rfl, kw.same hf⟩
 ) : P := h
abbrev nRws21z1a : Nat := 200
set_option maxRecDepth 100000 in
open YtfeicmpbfbhiiaaGreat renaming nRws21z1a → z1, irokQ → z4 in
open Tryz renaming func375 → z2, ntmps375 → z3 in
theorem rmanyQ {w : World} {v vs : Value} {F : List Nat} {K : Rows} (H : RRep IRepQ 3 w v F K) (is : List Nat) (his : ∀ i, i ∈ is → i < 3) (hl : is.length ≤ 100) (hv : Rd w 1 vs is.length (is.map fun i => Value.int .i64 (i : Nat))) :
  Calls Tryz.prog 375 #[v, vs] w fun e w' => e = .returned (.int .i64 ((is.map fun i => (K i).length).sum : Nat)) ∧ Fr [] w w' := by exact zZRws21
theorem zZRws22 {P : Prop} (h : P := by
 obtain ⟨i0, hii, hz0, hz1, hz2⟩ := info_parts2 infoStr
 obtain ⟨g, cap, x, Fx, P, G, L, M, n, rfl, rfl, ha, hn, hnd, hco⟩ := H
 obtain ⟨hvl, a, c, rfl, hvc⟩ := id hv
 have kw := (Fr.refl [] w).alloc (.cells #[.slice (some ⟨g, 0, none⟩) 3 cap, .pointer (some ⟨x, 0, none⟩)] z1)
 have k0 : (w.alloc (.cells #[.slice (some ⟨g, 0, none⟩) 3 cap, .pointer (some ⟨x, 0, none⟩)] z1)).cell? ⟨w.heap.size, 0, none⟩ = some (.slice (some ⟨g, 0, none⟩) 3 cap) := (cell_of_block (block_alloc_new w _) 0).trans rfl
 have HA := Lib.hid (And.intro ha (And.intro hco his))
 have HV := Lib.hid hvc
 clear ha hn hnd hco hvl hvc hv his
 go_enter z2, z3
 go_wp2_with fail
 generalize w.alloc (.cells #[.slice (some ⟨g, 0, none⟩) 3 cap, .pointer (some ⟨x, 0, none⟩)] z1) = W at *
 go_loopw [5, 10] (fun u5 u10 wr => ∃ (j m : Nat) (a : Option Addr) (c : Nat), j ≤ is.length ∧ u10 = .int .i64 j ∧ m ≤ j * 100000 ∧ Hid (m = ((is.take j).flatMap K).length) ∧ u5 = .slice a m c ∧ Sl wr 9 1 u5 m (((is.take j).flatMap K).map Value.string) ∧ Ge W.heap.size u5.ownBlock.toList ∧ Fr [] W wr) (fun _ u10 _ => is.length - (intOf u10).toNat)
 case atStart => exact ⟨0, 0, none, 0, by omega, rfl, by omega, rfl, rfl, Sl.nil _ _ _, (by intro b hb; simp [Value.ownBlock] at hb), Fr.refl _ _⟩
 case round =>
  obtain ⟨j, m, ua, uc, hj, rfl, hm, hM, rfl, hsl, hge, hf⟩ := hrel
  by_cases hlt : j < is.length
  ·obtain ⟨ha, hco, his⟩ := HA.out
   rcases HV.out with hz | ⟨b, o, rfl, hc⟩
   ·omega
   have x0 := hc j (.int .i64 is[j]) (by simp [hlt])
   obtain ⟨i, hi⟩ : ∃ i, is[j] = i := ⟨_, rfl⟩
   have hi4 := his i (by rw [← hi]; simp)
   rw [hi] at x0
   have HI := Lib.hid hi
   have hk := kw.same hf
   have x0 := cell_fr hk x0 (by simp)
   have k0 := cell_fr hf k0 (by simp)
   have kg := cell_fr hk (ha.cell hi4) (by simp)
   have hln := (ha.fr z4 hk (fun b _ => by simp)).lst i hi4
   have hlen := hln.len
   have hle := hco.snd i hi4
   have hlk : (L i).length = (K i).length := by rw [← hle]; simp
   have hal := all_l hln
   have e1 : ((L i).map fun e => Value.string e.2) = (K i).map Value.string := by rw [← hle, List.map_map]; rfl
   rw [e1, hlk] at hal
   rw [hlk] at hlen
   have HL := Lib.hid hal
   have i0 : (0 : Int) ≤ (i : Int) := by omega
   have i1 : (i : Int) < 3 := by omega
   have HSL := Lib.hid hsl
   clear ha hco his hln hle hc hsl hlk e1 hal
   go_wp2_with fail
   refine HL.out.mono ?_
   rintro e w2 ⟨vl, rfl, hown, hf2⟩
   have hgel := Own.base_le hown
   have hsrc := Sl.ofOwn hown
   obtain ⟨al, cl, rfl⟩ := hsrc.form
   have hsl2 := HSL.out.fr hf2 (fun b _ => by simp)
   have HSS := Lib.hid (And.intro hsl2 hsrc)
   clear hown hsrc hsl2 HSL
   go_wp2_with (at_builtin; refine wpList_app rfl _ _ _ _ rfl Tryz.underlying22 hii hz0 hz1 hz2 rfl (.slice ua m uc) _ m (K i).length (((is.take j).flatMap K).map Value.string) ((K i).map Value.string) rfl rfl ?hsl ?hone ?src ?c3 ?c4 _ rfl ?_)
   case hsl => exact HSS.out.1
   case hone => intro u hu; obtain ⟨_, _, rfl⟩ := List.mem_map.1 hu; rfl
   case src => refine HSS.out.2.src Tryz.underlying22 ?_; intro u hu; obtain ⟨_, _, rfl⟩ := List.mem_map.1 hu; rfl
   case c3 => unfold maxLen; omega
   case c4 => omega
   intro b' cp w3 hs3 hf3 hat
   have hF3 : Fr [] W w3 := (hf.same hf2).fresh hf3 hge
   have hge3 : Ge W.heap.size (Value.slice b' (m + (K i).length) cp).ownBlock.toList := by
    intro q hq
    rcases hat with h | h
    ·rw [h] at hq; exact hge q hq
    ·rw [h] at hq; simp at hq; have := (hf.same hf2).size; omega
   have H3 := Lib.hid (And.intro hs3 (And.intro hF3 hge3))
   have hm2 : m + (K i).length ≤ (j + 1) * 100000 := by omega
   clear hs3 hf3 hat hF3 hge3 hge
   go_wp2_with fail
   have e2 : (is.take (j + 1)).flatMap K = (is.take j).flatMap K ++ K i := by rw [flat_snoc _ _ _ hlt, HI.out]
   refine ⟨⟨j + 1, m + (K i).length, _, _, by omega, by go_num, hm2, ?_, rfl, ?_, H3.out.2.2, H3.out.2.1⟩, by simp [intOf]; omega⟩
   ·show _ = _
    rw [e2, List.length_append, ← hM.out]
   ·rw [e2, List.map_append]; exact H3.out.1
  ·have : j = is.length := by omega
   subst this
   go_wp2
   go_ret
   have e := hM.out
   rw [List.take_length] at e hsl
   exact ⟨_, rfl, by rw [← e]; exact hsl, (fun b hb => by have := hge b hb; have := kw.size; omega), kw.same hf⟩
 ) : P := h
abbrev nRws22z1a : Nat := 200
set_option maxRecDepth 100000 in
open YtfeicmpbfbhiiaaGreat renaming nRws22z1a → z1, irokQ → z4 in
open Tryz renaming func377 → z2, ntmps377 → z3 in
theorem rkeysQ {w : World} {v vs : Value} {F : List Nat} {K : Rows} (H : RRep IRepQ 3 w v F K) (is : List Nat) (his : ∀ i, i ∈ is → i < 3) (hl : is.length ≤ 100) (hv : Rd w 1 vs is.length (is.map fun i => Value.int .i64 (i : Nat))) :
  Calls Tryz.prog 377 #[v, vs] w (SlRet w 9 1 (is.flatMap K).length ((is.flatMap K).map Value.string)) := by exact zZRws22
abbrev nRws21z1b : Nat := 206
set_option maxRecDepth 100000 in
open YtfeicmpbfbhiiaaGreat renaming nRws21z1b → z1, irokU → z4 in
open Tryz renaming func398 → z2, ntmps398 → z3 in
theorem rmanyU {w : World} {v vs : Value} {F : List Nat} {K : Rows} (H : RRep IRepU 3 w v F K) (is : List Nat) (his : ∀ i, i ∈ is → i < 3) (hl : is.length ≤ 100) (hv : Rd w 1 vs is.length (is.map fun i => Value.int .i64 (i : Nat))) :
  Calls Tryz.prog 398 #[v, vs] w fun e w' => e = .returned (.int .i64 ((is.map fun i => (K i).length).sum : Nat)) ∧ Fr [] w w' := by exact zZRws21
abbrev nRws22z1b : Nat := 206
set_option maxRecDepth 100000 in
open YtfeicmpbfbhiiaaGreat renaming nRws22z1b → z1, irokU → z4 in
open Tryz renaming func403 → z2, ntmps403 → z3 in
theorem rkeysU {w : World} {v vs : Value} {F : List Nat} {K : Rows} (H : RRep IRepU 3 w v F K) (is : List Nat) (his : ∀ i, i ∈ is → i < 3) (hl : is.length ≤ 100) (hv : Rd w 1 vs is.length (is.map fun i => Value.int .i64 (i : Nat))) :
  Calls Tryz.prog 403 #[v, vs] w (SlRet w 9 1 (is.flatMap K).length ((is.flatMap K).map Value.string)) := by exact zZRws22
abbrev nRws21z1c : Nat := 216
set_option maxRecDepth 100000 in
open YtfeicmpbfbhiiaaGreat renaming nRws21z1c → z1, irokS → z4 in
open Tryz renaming func435 → z2, ntmps435 → z3 in
theorem rmanyS {w : World} {v vs : Value} {F : List Nat} {K : Rows} (H : RRep IRepS 3 w v F K) (is : List Nat) (his : ∀ i, i ∈ is → i < 3) (hl : is.length ≤ 100) (hv : Rd w 1 vs is.length (is.map fun i => Value.int .i64 (i : Nat))) :
  Calls Tryz.prog 435 #[v, vs] w fun e w' => e = .returned (.int .i64 ((is.map fun i => (K i).length).sum : Nat)) ∧ Fr [] w w' := by exact zZRws21
abbrev nRws22z1c : Nat := 216
set_option maxRecDepth 100000 in
open YtfeicmpbfbhiiaaGreat renaming nRws22z1c → z1, irokS → z4 in
open Tryz renaming func438 → z2, ntmps438 → z3 in
theorem rkeysS {w : World} {v vs : Value} {F : List Nat} {K : Rows} (H : RRep IRepS 3 w v F K) (is : List Nat) (his : ∀ i, i ∈ is → i < 3) (hl : is.length ≤ 100) (hv : Rd w 1 vs is.length (is.map fun i => Value.int .i64 (i : Nat))) :
  Calls Tryz.prog 438 #[v, vs] w (SlRet w 9 1 (is.flatMap K).length ((is.flatMap K).map Value.string)) := by exact zZRws22
end Go.Proofs.YtfeicmpbfbhiiaaGreat
