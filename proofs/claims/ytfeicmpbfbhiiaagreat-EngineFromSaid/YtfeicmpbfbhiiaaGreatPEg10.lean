/- Texts of a proof about the given program, those parts that this claim reaches. -/
import Derived.Test.YtfeicmpbfbhiiaaGreatPEg02
import Derived.Test.YtfeicmpbfbhiiaaGreatPEg09
import Derived.StillTailTactics
set_option linter.unusedVariables false
set_option linter.unusedSimpArgs false
namespace Go.Proofs.YtfeicmpbfbhiiaaGreat
open Go.RowKit
attribute [local go_sem ↓] Go.wp_at_zero Go.wp_at_succ
theorem irokA : IRok IRepA := ⟨fun h k d => h.fr k d, fun h => h.lt⟩
set_option maxRecDepth 100000 in
theorem rdropA {w : World} {v : Value} {F : List Nat} {K : Rows} (H : RRep IRepA 4 w v F K) (ht : tot 4 K ≤ 80000) (key : ByteArray) (hk : key.size ≤ maxLen) :
  Calls Tryz.prog 299 #[v, .string key] w fun e w' => e = .returned (.tuple #[]) ∧ RowsRet IRepA 4 w v F (dropK K key) w' := by
 obtain ⟨g, cap, x, Fx, P, G, L, M, n, rfl, rfl, ha, hn, hnd, hco⟩ := H
 have hlt := ha.lt irokA
 cases hM : M key with
 | none =>
  have hdel := fun (w' : World) (k : Fr [] w w') => idelA_none ((ha.fr irokA k (fun b _ => by simp)).idx) key hk hM
  have HD := Lib.hid hdel
  clear hdel
  have hfin : ∀ w1 w2 : World, DelRetA (w.alloc (.cells #[.slice (some ⟨g, 0, none⟩) 4 cap, .pointer (some ⟨x, 0, none⟩)] 186)) x n Fx M key w1 → Fr [] w1 w2 → RowsRet IRepA 4 w (.agg #[.slice (some ⟨g, 0, none⟩) 4 cap, .pointer (some ⟨x, 0, none⟩)]) (rowsF 4 g Fx G) (dropK K key) w2 := by
   intro w1 w2 ⟨hi, hf⟩ h2
   have e1 : dropK K key = K := dropK_none ((hco.isNone hnd).1 hM)
   have e2 : upM M key none = M := by funext k; unfold upM; split; rename_i h; rw [h, hM]; rfl
   have e3 : nDel M key n = n := by simp [nDel, hM]
   have k0 := (Fr.refl [] w).alloc (.cells #[.slice (some ⟨g, 0, none⟩) 4 cap, .pointer (some ⟨x, 0, none⟩)] 186)
   obtain ⟨a1, a2, a3⟩ := (ha.fr irokA k0 (fun b _ => by simp)).index irokA hi (Sub.refl _ _) hf
   rw [e2, e3] at a1
   rw [e1]
   exact ⟨_, ⟨g, cap, x, Fx, P, G, L, M, n, rfl, rfl, a1.fr irokA h2 (fun b _ => by simp), hn, hnd, hco⟩, Sub.refl _ _, (k0.mono (by simp)).same (a3.same (h2.mono (by simp)))⟩
  have HF := Lib.hid hfin
  clear hfin ha hco hnd hM hlt hn
  go_enter Tryz.func299, Tryz.ntmps299
  go_wp2_with fail
  refine (HD.out _ ((Fr.refl [] w).alloc _)).mono ?_
  rintro e w1 ⟨rfl, hdr⟩
  go_wp2
  go_end0
  refine ⟨rfl, HF.out w1 _ hdr ?_⟩
  repeat (with_reducible first | exact Fr.refl _ _ | assumption | refine Fr.alloc ?_ _ | refine Fr.drewN ?_ _ | refine Fr.drew ?_ | refine Fr.setNew ?_ ?_ _)
  all_goals (first | (simp; done) | (simp; omega) | omega)
 | some p =>
  obtain ⟨i, h⟩ := p
  obtain ⟨hi, hm, hki⟩ := hco.isSome hM
  have hkg := ha.cell hi
  have hgl := World.block_lt_of_cell? _ _ hkg
  simp at hgl
  have hgF := ha.g1
  have hxl : Lt Fx w := irokA.lt ha.idx
  have hd := fun (w' : World) (k : Fr [] w w') => idelA ((ha.fr irokA k (fun b _ => by simp)).idx) (by omega) key hk hM
  have hHL := (ha.lst i hi).hnd (h, key) hm
  simp at hHL
  have HD := Lib.hid hd
  have HA := Lib.hid ha
  have HC := Lib.hid (And.intro hco (And.intro hnd (And.intro hn (And.intro hm hki))))
  have HM := Lib.hid hM
  clear hd ha hco hnd hn hM hm hki hlt
  go_enter Tryz.func299, Tryz.ntmps299
  go_wp2_with fail
  refine (HD.out _ ((Fr.refl [] w).alloc _)).mono ?_
  rintro e w1 ⟨rfl, hidx, hf1⟩
  have k0 := cell_fr hf1 (cell_of_block (block_alloc_new w (.cells #[.slice (some ⟨g, 0, none⟩) 4 cap, .pointer (some ⟨x, 0, none⟩)] 186)) 0) (fun hb => by have := hxl _ hb; omega)
  have kg := cell_fr hf1 (cell_fr ((Fr.refl [] w).alloc (.cells #[.slice (some ⟨g, 0, none⟩) 4 cap, .pointer (some ⟨x, 0, none⟩)] 186)) hkg (by simp)) hgF
  simp at k0
  have hs1 := hf1.size
  simp at hs1
  have kk := (Fr.refl [] w).alloc (.cells #[.slice (some ⟨g, 0, none⟩) 4 cap, .pointer (some ⟨x, 0, none⟩)] 186)
  obtain ⟨a1, a2, a3⟩ := (HA.out.fr irokA kk (fun b _ => by simp)).index irokA hidx (Sub.refl _ _) hf1
  obtain ⟨L1, L2, hL⟩ := mem_split HC.out.2.2.2.1
  have hr := fun (W : World) (k : Fr [] w1 W) => remove_in (L1 := L1) (L2 := L2) (h := h) (v := key) (hL ▸ (a1.fr irokA k (fun b _ => by simp)).lst i hi)
  have HR := Lib.hid hr
  have HA1 := Lib.hid (And.intro a1 (And.intro a3 hL))
  have KK := Lib.hid kk
  clear hr a1 a2 a3 hL hidx hf1 hxl hgF kk
  go_wp2_with fail
  have hW : Fr [] w1 (w1.alloc (.cells #[.int .i64 i, .int .i64 h] 240)) := (Fr.refl [] w1).alloc _
  have k0 := cell_fr hW k0 (by simp)
  have kg := cell_fr hW kg (by simp)
  have p0 : (w1.alloc (.cells #[.int .i64 i, .int .i64 h] 240)).cell? ⟨w1.heap.size, 0, none⟩ = some (.int .i64 i) := (cell_of_block (block_alloc_new w1 _) 0).trans rfl
  have p1 : (w1.alloc (.cells #[.int .i64 i, .int .i64 h] 240)).cell? ⟨w1.heap.size, 1, none⟩ = some (.int .i64 h) := (cell_of_block (block_alloc_new w1 _) 1).trans rfl
  generalize w1.alloc (.cells #[.int .i64 i, .int .i64 h] 240) = W at *
  have i0 : (0 : Int) ≤ (i : Int) := by omega
  have i1 : (i : Int) < 4 := by omega
  go_still_tail 8, (by kernel_rfl)
  change wpList _ _ _ _ _ W.drew
  have hW2 := hW.drew
  generalize W.drew = W2 at *
  go_wp2_with fail
  refine (HR.out W2 hW2).mono ?_
  rintro e w2 ⟨rfl, F2, hl2, hs2, hf2⟩
  go_wp2
  go_end0
  obtain ⟨hco, hnd, hn, hm, hki⟩ := HC.out
  obtain ⟨a1, a3, hL⟩ := HA1.out
  obtain ⟨b1, b2, b3⟩ := (a1.fr irokA hW2 (fun b _ => by simp)).list irokA hi hl2 hs2 hf2
  have hn2 : nDel M key n ≤ tot 4 (dropK K key) := by
   have := tot_drop_in hnd hi hki
   simp [nDel, HM.out]
   omega
  have hsz := a3.size
  refine ⟨rfl, _, ⟨g, cap, x, Fx, P, _, _, _, _, rfl, rfl, b1, hn2, hnd.drop key, hco.drop hnd hi hL⟩, fun b hb => ?_, ?_⟩
  ·rcases b2 b hb with h | h
   ·exact .inl h
   ·right; have := hW2.size; simp at hsz; omega
  ·exact ((KK.out.mono (by simp)).same a3).same ((hW2.mono (by simp)).same b3)
set_option maxRecDepth 100000 in
theorem rpushA {w : World} {v : Value} {F : List Nat} {K : Rows} (H : RRep IRepA 4 w v F K) (ht : tot 4 K ≤ 80000) {r : Nat} (hr : r < 4) (key : ByteArray) (hk : key.size ≤ maxLen) :
  Calls Tryz.prog 293 #[v, .int .i64 r, .string key] w fun e w' => e = .returned (.tuple #[]) ∧ RowsRet IRepA 4 w v F (pushK K r key) w' := by
 have hlt := H.lt irokA
 obtain ⟨g, cap, x, rfl, hgl⟩ := H.form
 have hd := rdropA (H.fr irokA ((Fr.refl [] w).alloc (.cells #[.slice (some ⟨g, 0, none⟩) 4 cap, .pointer (some ⟨x, 0, none⟩)] 186)) (fun b _ => by simp)) ht key hk
 have HD := Lib.hid hd
 have HT := Lib.hid hlt
 clear hd hlt H
 go_enter Tryz.func293, Tryz.ntmps293
 go_wp2_with fail
 refine HD.out.mono ?_
 rintro e w1 ⟨rfl, F1, H1, hs1, hf1⟩
 obtain ⟨g', cap', x', Fx, P, G, L, M, n, hv, rfl, ha, hn, hnd, hco⟩ := H1
 simp at hv
 obtain ⟨⟨rfl, rfl⟩, rfl⟩ := hv
 have hnw : w.heap.size ∉ F := fun hb => by have := HT.out _ hb; omega
 have k0 : w1.cell? ⟨w.heap.size, 0, none⟩ = some (.slice (some ⟨g, 0, none⟩) 4 cap) := cell_fr hf1 ((cell_of_block (block_alloc_new w _) 0).trans rfl) hnw
 have k1 : w1.cell? ⟨w.heap.size, 1, none⟩ = some (.pointer (some ⟨x, 0, none⟩)) := cell_fr hf1 ((cell_of_block (block_alloc_new w _) 1).trans rfl) hnw
 have kg := ha.cell hr
 have i0 : (0 : Int) ≤ (r : Int) := by omega
 have i1 : (r : Int) < 4 := by omega
 have hMn : M key = none := (hco.isNone hnd).2 not_mem_dropK
 have hll : (L r).length ≤ 99000 := by
  have h1 := hco.snd r hr
  have h2 := len_tot (K := dropK K key) hr
  have h3 := tot_drop 4 K key
  rw [← h1] at h2
  simp at h2
  omega
 have hpb := pushBack ((ha.fr irokA (Fr.refl [] w1).drew (fun b _ => by simp)).lst r hr) hll key
 have hnG : w.heap.size ∉ rowsF 4 g Fx G := fun hb => by
  rcases hs1 _ hb with h | h
  ·exact hnw h
  ·rw [World.size_alloc] at h; omega
 have hnGr : w.heap.size ∉ G r := fun hb => hnG (mem_rowsF.2 (.inr (.inr ⟨r, hr, hb⟩)))
 have hnFx : w.heap.size ∉ Fx := fun hb => hnG (mem_rowsF.2 (.inr (.inl hb)))
 have hgGr := ha.g2 r hr
 have hgFx := ha.g1
 have HP := Lib.hid hpb
 have hput := fun (h : Nat) (w3 : World) (Gr : List Nat) (hl : LRep w3 (P r) Gr (L r ++ [(h, key)])) (hs : Sub Gr (G r) w1.drew) (f : Fr (G r) w1.drew w3) =>
  iputA ((ha.fr irokA (Fr.refl [] w1).drew (fun b _ => by simp)).list irokA hr hl hs f).1.idx (by have := tot_drop 4 K key; omega) key hk (r, h)
 have HU := Lib.hid hput
 have HA := Lib.hid (And.intro ha (And.intro hn (And.intro hnd (And.intro hco hMn))))
 have HS := Lib.hid (And.intro hs1 hf1)
 clear hpb hput ha hn hnd hco hMn hs1 hf1 hnG
 go_wp2_with fail
 go_region_held3 (fun w' => w'.cell? ⟨w.heap.size, 0, none⟩ = some (.slice (some ⟨g, 0, none⟩) 4 cap) ∧ w'.cell? ⟨w.heap.size, 1, none⟩ = some (.pointer (some ⟨x, 0, none⟩)) ∧ w'.cell? ⟨g, r, none⟩ = some (.pointer (some ⟨P r, 0, none⟩)))
  (first
   | exact ⟨k0, k1, kg⟩
   | exact ⟨cell_fr (((Fr.refl (G r) _).drew).same hf3) k0 hnGr, cell_fr (((Fr.refl (G r) _).drew).same hf3) k1 hnGr, cell_fr (((Fr.refl (G r) _).drew).same hf3) kg hgGr⟩
   | exact ⟨cell_fr hf4 (cell_fr (((Fr.refl (G r) _).drew).same hf3) k0 hnGr) hnFx, cell_fr hf4 (cell_fr (((Fr.refl (G r) _).drew).same hf3) k1 hnGr) hnFx, cell_fr hf4 (cell_fr (((Fr.refl (G r) _).drew).same hf3) kg hgGr) hgFx⟩)
  (first
   | (go_at_call 196; refine HP.out.mono ?_; rintro e w3 ⟨h, Gr, rfl, hh0, hh1, hh2, hl3, hs3, hf3⟩)
   | ((with_reducible refine (HU.out h w3 Gr hl3 hs3 hf3).mono ?_); rintro e w4 ⟨bb, Fx', rfl, hi4, hs4, hf4⟩))
 go_end0
 obtain ⟨ha, hn, hnd, hco, hMn⟩ := HA.out
 have d1 : Fr [] w1 w1.drew := (Fr.refl [] w1).drew
 obtain ⟨b1, b2, b3⟩ := (ha.fr irokA d1 (fun b _ => by simp)).list irokA hr hl3 hs3 hf3
 obtain ⟨c1, c2, c3⟩ := b1.index irokA hi4 hs4 hf4
 have hn2 : nPut M key n ≤ tot 4 (pushK K r key) := by
  have := tot_up (dropK K key) (dropK K key r ++ [key]) hr
  simp at this
  simp [nPut, hMn, pushK]
  omega
 obtain ⟨hs1, hf1⟩ := HS.out
 refine ⟨rfl, RowsRet.old (RowsRet.trans hs1 hf1 (RowsRet.old ⟨_, ⟨g, cap, x, Fx', P, _, _, _, _, rfl, rfl, c1, hn2, hnd.push1 hr not_mem_dropK hk, hco.push hnd hr not_mem_dropK⟩, b2.fr b3 c2, b3.via b2 c3⟩ d1)) ((Fr.refl [] w).alloc _)⟩
theorem zZRws3 {P : Prop} (h : P := by
 obtain ⟨g, cap, x, Fx, P, G, L, M, n, rfl, rfl, ha, hn, hnd, hco⟩ := H
 cases hM : M key with
 | none =>
  have hg := Lib.hid fun (w' : World) (k : Fr [] w w') => z1 ((ha.fr z2 k (fun b _ => by simp)).idx) key hk hM
  have hno := (hco.isNone hnd).1 hM
  have HN := Lib.hid hno
  clear ha hnd hco hM hno
  go_enter z3, z4
  go_wp2_with fail
  refine (hg.out _ ((Fr.refl [] w).alloc _)).mono ?_
  rintro e w1 ⟨rfl, hf1⟩
  have hf : Fr [] w w1 := ((Fr.refl [] w).alloc _).same hf1
  clear hf1
  go_wp2
  go_ret
  refine ⟨-1, rfl, .inr ⟨rfl, HN.out⟩, hf.same ?_⟩
  repeat (with_reducible first | exact Fr.refl _ _ | assumption | refine Fr.alloc ?_ _ | refine Fr.drewN ?_ _ | refine Fr.drew ?_ | refine Fr.setNew ?_ ?_ _)
  all_goals (first | (simp; done) | (simp; omega) | omega)
 | some p =>
  obtain ⟨i, h⟩ := p
  obtain ⟨hi, hm, hki⟩ := hco.isSome hM
  have hg := Lib.hid fun (w' : World) (k : Fr [] w w') => z5 ((ha.fr z2 k (fun b _ => by simp)).idx) key hk hM
  have HN := Lib.hid hki
  clear ha hnd hco hM hm hki
  go_enter z3, z4
  go_wp2_with fail
  refine (hg.out _ ((Fr.refl [] w).alloc _)).mono ?_
  rintro e w1 ⟨rfl, hf1⟩
  have hf : Fr [] w w1 := ((Fr.refl [] w).alloc _).same hf1
  clear hf1
  go_wp2
  go_ret
  refine ⟨(i : Int), rfl, .inl ⟨i, hi, rfl, HN.out⟩, hf.same ?_⟩
  repeat (with_reducible first | exact Fr.refl _ _ | assumption | refine Fr.alloc ?_ _ | refine Fr.drewN ?_ _ | refine Fr.drew ?_ | refine Fr.setNew ?_ ?_ _)
  all_goals (first | (simp; done) | (simp; omega) | omega)
 ) : P := h
set_option maxRecDepth 100000 in
open YtfeicmpbfbhiiaaGreat renaming igetA_none → z1, irokA → z2, igetA → z5 in
open Tryz renaming func292 → z3, ntmps292 → z4 in
theorem rwhereA {w : World} {v : Value} {F : List Nat} {K : Rows} (H : RRep IRepA 4 w v F K) (key : ByteArray) (hk : key.size ≤ maxLen) :
  Calls Tryz.prog 292 #[v, .string key] w fun e w' => ∃ r : Int, e = .returned (.int .i64 r) ∧ AtRow 4 K key r ∧ Fr [] w w' := by exact zZRws3
set_option maxRecDepth 100000 in
theorem roldestA {w : World} {v : Value} {F : List Nat} {K : Rows} (H : RRep IRepA 4 w v F K) {r : Nat} (hr : r < 4) :
  Calls Tryz.prog 300 #[v, .int .i64 r] w fun e w' => e = .returned (.string (oldest K r)) ∧ Fr [] w w' := by
 have hlt := H.lt irokA
 obtain ⟨g, cap, x, Fx, P, G, L, M, n, rfl, rfl, ha, hn, hnd, hco⟩ := H
 have hgl := hlt g (mem_rowsF.2 (.inl rfl))
 have kg := ha.cell hr
 have i0 : (0 : Int) ≤ (r : Int) := by omega
 have i1 : (r : Int) < 4 := by omega
 have hL := hco.snd r hr
 have hfr := Lib.hid fun (w' : World) (k : Fr [] w w') => front ((ha.fr irokA k (fun b _ => by simp)).lst r hr)
 have hget : ∃ ok : Bool, Hid (∀ w' : World, Fr [] w w' → Calls Tryz.prog 198 #[.pointer (some ⟨P r, 0, none⟩), .int .i64 (hd0 (L r))] w' fun e w'' => e = .returned (.tuple #[.string (oldest K r), .bool ok]) ∧ w' = w'') := by
  cases hl : L r with
  | nil =>
   refine ⟨false, fun w' k => ?_⟩
   have h1 := get_out ((ha.fr irokA k (fun b _ => by simp)).lst r hr) (h := 0) (by rw [hl]; simp) (by omega)
   have e1 : oldest K r = ⟨#[]⟩ := by unfold oldest; rw [← hL, hl]; rfl
   rw [e1]; exact h1
  | cons a t =>
   refine ⟨true, fun w' k => ?_⟩
   have h1 := get_in ((ha.fr irokA k (fun b _ => by simp)).lst r hr) (h := a.1) (v := a.2) (by rw [hl]; simp)
   have e1 : oldest K r = a.2 := by unfold oldest; rw [← hL, hl]; rfl
   rw [e1]; exact h1
 obtain ⟨ok, HG⟩ := hget
 have kw := (Fr.refl [] w).alloc (.cells #[.slice (some ⟨g, 0, none⟩) 4 cap, .pointer (some ⟨x, 0, none⟩)] 186)
 have k0 : (w.alloc (.cells #[.slice (some ⟨g, 0, none⟩) 4 cap, .pointer (some ⟨x, 0, none⟩)] 186)).cell? ⟨w.heap.size, 0, none⟩ = some (.slice (some ⟨g, 0, none⟩) 4 cap) := (cell_of_block (block_alloc_new w _) 0).trans rfl
 have kg := cell_fr kw kg (by simp)
 have KW := Lib.hid kw
 clear ha hn hnd hco hlt hL kw
 go_enter Tryz.func300, Tryz.ntmps300
 go_wp2_with fail
 go_quiet (first | (go_at_call 199; exact Calls.quiet_of_same ((hfr.out _ (KW.out.drewN _)).mono fun _ _ h => ⟨h.1, h.2.symm⟩)) | (go_at_call 198; exact Calls.quiet_of_same ((HG.out _ (KW.out.drewN _)).mono fun _ _ h => ⟨h.1, h.2.symm⟩)))
 go_wp2
 go_ret
 exact ⟨rfl, KW.out.drewN _⟩
theorem irokQ : IRok IRepQ := ⟨fun h k d => h.fr k d, fun h => h.lt⟩
theorem zZRws1 {P : Prop} (h : P := by
 obtain ⟨g, cap, x, Fx, P, G, L, M, n, rfl, rfl, ha, hn, hnd, hco⟩ := H
 have hlt := ha.lt z1
 cases hM : M key with
 | none =>
  have hdel := fun (w' : World) (k : Fr [] w w') => z2 ((ha.fr z1 k (fun b _ => by simp)).idx) key hk hM
  have HD := Lib.hid hdel
  clear hdel
  have hfin : ∀ w1 w2 : World, z3 (w.alloc (.cells #[.slice (some ⟨g, 0, none⟩) 3 cap, .pointer (some ⟨x, 0, none⟩)] z4)) x n Fx M key w1 → Fr [] w1 w2 → RowsRet z5 3 w (.agg #[.slice (some ⟨g, 0, none⟩) 3 cap, .pointer (some ⟨x, 0, none⟩)]) (rowsF 3 g Fx G) (dropK K key) w2 := by
   intro w1 w2 ⟨hi, hf⟩ h2
   have e1 : dropK K key = K := dropK_none ((hco.isNone hnd).1 hM)
   have e2 : upM M key none = M := by funext k; unfold upM; split; rename_i h; rw [h, hM]; rfl
   have e3 : nDel M key n = n := by simp [nDel, hM]
   have k0 := (Fr.refl [] w).alloc (.cells #[.slice (some ⟨g, 0, none⟩) 3 cap, .pointer (some ⟨x, 0, none⟩)] z4)
   obtain ⟨a1, a2, a3⟩ := (ha.fr z1 k0 (fun b _ => by simp)).index z1 hi (Sub.refl _ _) hf
   rw [e2, e3] at a1
   rw [e1]
   exact ⟨_, ⟨g, cap, x, Fx, P, G, L, M, n, rfl, rfl, a1.fr z1 h2 (fun b _ => by simp), hn, hnd, hco⟩, Sub.refl _ _, (k0.mono (by simp)).same (a3.same (h2.mono (by simp)))⟩
  have HF := Lib.hid hfin
  clear hfin ha hco hnd hM hlt hn
  go_enter z6, z7
  go_wp2_with fail
  refine (HD.out _ ((Fr.refl [] w).alloc _)).mono ?_
  rintro e w1 ⟨rfl, hdr⟩
  go_wp2
  go_end0
  refine ⟨rfl, HF.out w1 _ hdr ?_⟩
  repeat (with_reducible first | exact Fr.refl _ _ | assumption | refine Fr.alloc ?_ _ | refine Fr.drewN ?_ _ | refine Fr.drew ?_ | refine Fr.setNew ?_ ?_ _)
  all_goals (first | (simp; done) | (simp; omega) | omega)
 | some p =>
  obtain ⟨i, h⟩ := p
  obtain ⟨hi, hm, hki⟩ := hco.isSome hM
  have hkg := ha.cell hi
  have hgl := World.block_lt_of_cell? _ _ hkg
  simp at hgl
  have hgF := ha.g1
  have hxl : Lt Fx w := z1.lt ha.idx
  have hd := fun (w' : World) (k : Fr [] w w') => z8 ((ha.fr z1 k (fun b _ => by simp)).idx) (by omega) key hk hM
  have hHL := (ha.lst i hi).hnd (h, key) hm
  simp at hHL
  have HD := Lib.hid hd
  have HA := Lib.hid ha
  have HC := Lib.hid (And.intro hco (And.intro hnd (And.intro hn (And.intro hm hki))))
  have HM := Lib.hid hM
  clear hd ha hco hnd hn hM hm hki hlt
  go_enter z6, z7
  go_wp2_with fail
  refine (HD.out _ ((Fr.refl [] w).alloc _)).mono ?_
  rintro e w1 ⟨rfl, hidx, hf1⟩
  have k0 := cell_fr hf1 (cell_of_block (block_alloc_new w (.cells #[.slice (some ⟨g, 0, none⟩) 3 cap, .pointer (some ⟨x, 0, none⟩)] z4)) 0) (fun hb => by have := hxl _ hb; omega)
  have kg := cell_fr hf1 (cell_fr ((Fr.refl [] w).alloc (.cells #[.slice (some ⟨g, 0, none⟩) 3 cap, .pointer (some ⟨x, 0, none⟩)] z4)) hkg (by simp)) hgF
  simp at k0
  have hs1 := hf1.size
  simp at hs1
  have kk := (Fr.refl [] w).alloc (.cells #[.slice (some ⟨g, 0, none⟩) 3 cap, .pointer (some ⟨x, 0, none⟩)] z4)
  obtain ⟨a1, a2, a3⟩ := (HA.out.fr z1 kk (fun b _ => by simp)).index z1 hidx (Sub.refl _ _) hf1
  obtain ⟨L1, L2, hL⟩ := mem_split HC.out.2.2.2.1
  have hr := fun (W : World) (k : Fr [] w1 W) => remove_in (L1 := L1) (L2 := L2) (h := h) (v := key) (hL ▸ (a1.fr z1 k (fun b _ => by simp)).lst i hi)
  have HR := Lib.hid hr
  have HA1 := Lib.hid (And.intro a1 (And.intro a3 hL))
  have KK := Lib.hid kk
  clear hr a1 a2 a3 hL hidx hf1 hxl hgF kk
  go_wp2_with fail
  have hW : Fr [] w1 (w1.alloc (.cells #[.int .i64 i, .int .i64 h] z9)) := (Fr.refl [] w1).alloc _
  have k0 := cell_fr hW k0 (by simp)
  have kg := cell_fr hW kg (by simp)
  have p0 : (w1.alloc (.cells #[.int .i64 i, .int .i64 h] z9)).cell? ⟨w1.heap.size, 0, none⟩ = some (.int .i64 i) := (cell_of_block (block_alloc_new w1 _) 0).trans rfl
  have p1 : (w1.alloc (.cells #[.int .i64 i, .int .i64 h] z9)).cell? ⟨w1.heap.size, 1, none⟩ = some (.int .i64 h) := (cell_of_block (block_alloc_new w1 _) 1).trans rfl
  generalize w1.alloc (.cells #[.int .i64 i, .int .i64 h] z9) = W at *
  have i0 : (0 : Int) ≤ (i : Int) := by omega
  have i1 : (i : Int) < 3 := by omega
  go_still_tail 8, (by kernel_rfl)
  change wpList _ _ _ _ _ W.drew
  have hW2 := hW.drew
  generalize W.drew = W2 at *
  go_wp2_with fail
  refine (HR.out W2 hW2).mono ?_
  rintro e w2 ⟨rfl, F2, hl2, hs2, hf2⟩
  go_wp2
  go_end0
  obtain ⟨hco, hnd, hn, hm, hki⟩ := HC.out
  obtain ⟨a1, a3, hL⟩ := HA1.out
  obtain ⟨b1, b2, b3⟩ := (a1.fr z1 hW2 (fun b _ => by simp)).list z1 hi hl2 hs2 hf2
  have hn2 : nDel M key n ≤ tot 3 (dropK K key) := by
   have := tot_drop_in hnd hi hki
   simp [nDel, HM.out]
   omega
  have hsz := a3.size
  refine ⟨rfl, _, ⟨g, cap, x, Fx, P, _, _, _, _, rfl, rfl, b1, hn2, hnd.drop key, hco.drop hnd hi hL⟩, fun b hb => ?_, ?_⟩
  ·rcases b2 b hb with h | h
   ·exact .inl h
   ·right; have := hW2.size; simp at hsz; omega
  ·exact ((KK.out.mono (by simp)).same a3).same ((hW2.mono (by simp)).same b3)
 ) : P := h
abbrev nRws1z4a : Nat := 200
abbrev nRws1z9a : Nat := 249
set_option maxRecDepth 100000 in
open YtfeicmpbfbhiiaaGreat renaming irokQ → z1, idelQ_none → z2, DelRetQ → z3, nRws1z4a → z4, IRepQ → z5, idelQ → z8, nRws1z9a → z9 in
open Tryz renaming func373 → z6, ntmps373 → z7 in
theorem rdropQ {w : World} {v : Value} {F : List Nat} {K : Rows} (H : RRep IRepQ 3 w v F K) (ht : tot 3 K ≤ 80000) (key : ByteArray) (hk : key.size ≤ maxLen) :
  Calls Tryz.prog 373 #[v, .string key] w fun e w' => e = .returned (.tuple #[]) ∧ RowsRet IRepQ 3 w v F (dropK K key) w' := by exact zZRws1
theorem zZRws2 {P : Prop} (h : P := by
 have hlt := H.lt z1
 obtain ⟨g, cap, x, rfl, hgl⟩ := H.form
 have hd := z2 (H.fr z1 ((Fr.refl [] w).alloc (.cells #[.slice (some ⟨g, 0, none⟩) 3 cap, .pointer (some ⟨x, 0, none⟩)] z3)) (fun b _ => by simp)) ht key hk
 have HD := Lib.hid hd
 have HT := Lib.hid hlt
 clear hd hlt H
 go_enter z4, z5
 go_wp2_with fail
 refine HD.out.mono ?_
 rintro e w1 ⟨rfl, F1, H1, hs1, hf1⟩
 obtain ⟨g', cap', x', Fx, P, G, L, M, n, hv, rfl, ha, hn, hnd, hco⟩ := H1
 simp at hv
 obtain ⟨⟨rfl, rfl⟩, rfl⟩ := hv
 have hnw : w.heap.size ∉ F := fun hb => by have := HT.out _ hb; omega
 have k0 : w1.cell? ⟨w.heap.size, 0, none⟩ = some (.slice (some ⟨g, 0, none⟩) 3 cap) := cell_fr hf1 ((cell_of_block (block_alloc_new w _) 0).trans rfl) hnw
 have k1 : w1.cell? ⟨w.heap.size, 1, none⟩ = some (.pointer (some ⟨x, 0, none⟩)) := cell_fr hf1 ((cell_of_block (block_alloc_new w _) 1).trans rfl) hnw
 have kg := ha.cell hr
 have i0 : (0 : Int) ≤ (r : Int) := by omega
 have i1 : (r : Int) < 3 := by omega
 have hMn : M key = none := (hco.isNone hnd).2 not_mem_dropK
 have hll : (L r).length ≤ 99000 := by
  have h1 := hco.snd r hr
  have h2 := len_tot (K := dropK K key) hr
  have h3 := tot_drop 3 K key
  rw [← h1] at h2
  simp at h2
  omega
 have hpb := pushBack ((ha.fr z1 (Fr.refl [] w1).drew (fun b _ => by simp)).lst r hr) hll key
 have hnG : w.heap.size ∉ rowsF 3 g Fx G := fun hb => by
  rcases hs1 _ hb with h | h
  ·exact hnw h
  ·rw [World.size_alloc] at h; omega
 have hnGr : w.heap.size ∉ G r := fun hb => hnG (mem_rowsF.2 (.inr (.inr ⟨r, hr, hb⟩)))
 have hnFx : w.heap.size ∉ Fx := fun hb => hnG (mem_rowsF.2 (.inr (.inl hb)))
 have hgGr := ha.g2 r hr
 have hgFx := ha.g1
 have HP := Lib.hid hpb
 have hput := fun (h : Nat) (w3 : World) (Gr : List Nat) (hl : LRep w3 (P r) Gr (L r ++ [(h, key)])) (hs : Sub Gr (G r) w1.drew) (f : Fr (G r) w1.drew w3) =>
  z6 ((ha.fr z1 (Fr.refl [] w1).drew (fun b _ => by simp)).list z1 hr hl hs f).1.idx (by have := tot_drop 3 K key; omega) key hk (r, h)
 have HU := Lib.hid hput
 have HA := Lib.hid (And.intro ha (And.intro hn (And.intro hnd (And.intro hco hMn))))
 have HS := Lib.hid (And.intro hs1 hf1)
 clear hpb hput ha hn hnd hco hMn hs1 hf1 hnG
 go_wp2_with fail
 go_region_held3 (fun w' => w'.cell? ⟨w.heap.size, 0, none⟩ = some (.slice (some ⟨g, 0, none⟩) 3 cap) ∧ w'.cell? ⟨w.heap.size, 1, none⟩ = some (.pointer (some ⟨x, 0, none⟩)) ∧ w'.cell? ⟨g, r, none⟩ = some (.pointer (some ⟨P r, 0, none⟩)))
  (first
   | exact ⟨k0, k1, kg⟩
   | exact ⟨cell_fr (((Fr.refl (G r) _).drew).same hf3) k0 hnGr, cell_fr (((Fr.refl (G r) _).drew).same hf3) k1 hnGr, cell_fr (((Fr.refl (G r) _).drew).same hf3) kg hgGr⟩
   | exact ⟨cell_fr hf4 (cell_fr (((Fr.refl (G r) _).drew).same hf3) k0 hnGr) hnFx, cell_fr hf4 (cell_fr (((Fr.refl (G r) _).drew).same hf3) k1 hnGr) hnFx, cell_fr hf4 (cell_fr (((Fr.refl (G r) _).drew).same hf3) kg hgGr) hgFx⟩)
  (first
   | (go_at_call 196; refine HP.out.mono ?_; rintro e w3 ⟨h, Gr, rfl, hh0, hh1, hh2, hl3, hs3, hf3⟩)
   | ((with_reducible refine (HU.out h w3 Gr hl3 hs3 hf3).mono ?_); rintro e w4 ⟨bb, Fx', rfl, hi4, hs4, hf4⟩))
 go_end0
 obtain ⟨ha, hn, hnd, hco, hMn⟩ := HA.out
 have d1 : Fr [] w1 w1.drew := (Fr.refl [] w1).drew
 obtain ⟨b1, b2, b3⟩ := (ha.fr z1 d1 (fun b _ => by simp)).list z1 hr hl3 hs3 hf3
 obtain ⟨c1, c2, c3⟩ := b1.index z1 hi4 hs4 hf4
 have hn2 : nPut M key n ≤ tot 3 (pushK K r key) := by
  have := tot_up (dropK K key) (dropK K key r ++ [key]) hr
  simp at this
  simp [nPut, hMn, pushK]
  omega
 obtain ⟨hs1, hf1⟩ := HS.out
 refine ⟨rfl, RowsRet.old (RowsRet.trans hs1 hf1 (RowsRet.old ⟨_, ⟨g, cap, x, Fx', P, _, _, _, _, rfl, rfl, c1, hn2, hnd.push1 hr not_mem_dropK hk, hco.push hnd hr not_mem_dropK⟩, b2.fr b3 c2, b3.via b2 c3⟩ d1)) ((Fr.refl [] w).alloc _)⟩
 ) : P := h
abbrev nRws2z3a : Nat := 200
set_option maxRecDepth 100000 in
open YtfeicmpbfbhiiaaGreat renaming irokQ → z1, rdropQ → z2, nRws2z3a → z3, iputQ → z6 in
open Tryz renaming func372 → z4, ntmps372 → z5 in
theorem rpushQ {w : World} {v : Value} {F : List Nat} {K : Rows} (H : RRep IRepQ 3 w v F K) (ht : tot 3 K ≤ 80000) {r : Nat} (hr : r < 3) (key : ByteArray) (hk : key.size ≤ maxLen) :
  Calls Tryz.prog 372 #[v, .int .i64 r, .string key] w fun e w' => e = .returned (.tuple #[]) ∧ RowsRet IRepQ 3 w v F (pushK K r key) w' := by exact zZRws2
set_option maxRecDepth 100000 in
open YtfeicmpbfbhiiaaGreat renaming igetQ_none → z1, irokQ → z2, igetQ → z5 in
open Tryz renaming func371 → z3, ntmps371 → z4 in
theorem rwhereQ {w : World} {v : Value} {F : List Nat} {K : Rows} (H : RRep IRepQ 3 w v F K) (key : ByteArray) (hk : key.size ≤ maxLen) :
  Calls Tryz.prog 371 #[v, .string key] w fun e w' => ∃ r : Int, e = .returned (.int .i64 r) ∧ AtRow 3 K key r ∧ Fr [] w w' := by exact zZRws3
theorem zZRws4 {P : Prop} (h : P := by
 have hlt := H.lt z1
 obtain ⟨g, cap, x, Fx, P, G, L, M, n, rfl, rfl, ha, hn, hnd, hco⟩ := H
 have hgl := hlt g (mem_rowsF.2 (.inl rfl))
 have kg := ha.cell hr
 have i0 : (0 : Int) ≤ (r : Int) := by omega
 have i1 : (r : Int) < 3 := by omega
 have hL := hco.snd r hr
 have hfr := Lib.hid fun (w' : World) (k : Fr [] w w') => front ((ha.fr z1 k (fun b _ => by simp)).lst r hr)
 have hget : ∃ ok : Bool, Hid (∀ w' : World, Fr [] w w' → Calls Tryz.prog 198 #[.pointer (some ⟨P r, 0, none⟩), .int .i64 (hd0 (L r))] w' fun e w'' => e = .returned (.tuple #[.string (oldest K r), .bool ok]) ∧ w' = w'') := by
  cases hl : L r with
  | nil =>
   refine ⟨false, fun w' k => ?_⟩
   have h1 := get_out ((ha.fr z1 k (fun b _ => by simp)).lst r hr) (h := 0) (by rw [hl]; simp) (by omega)
   have e1 : oldest K r = ⟨#[]⟩ := by unfold oldest; rw [← hL, hl]; rfl
   rw [e1]; exact h1
  | cons a t =>
   refine ⟨true, fun w' k => ?_⟩
   have h1 := get_in ((ha.fr z1 k (fun b _ => by simp)).lst r hr) (h := a.1) (v := a.2) (by rw [hl]; simp)
   have e1 : oldest K r = a.2 := by unfold oldest; rw [← hL, hl]; rfl
   rw [e1]; exact h1
 obtain ⟨ok, HG⟩ := hget
 have kw := (Fr.refl [] w).alloc (.cells #[.slice (some ⟨g, 0, none⟩) 3 cap, .pointer (some ⟨x, 0, none⟩)] z2)
 have k0 : (w.alloc (.cells #[.slice (some ⟨g, 0, none⟩) 3 cap, .pointer (some ⟨x, 0, none⟩)] z2)).cell? ⟨w.heap.size, 0, none⟩ = some (.slice (some ⟨g, 0, none⟩) 3 cap) := (cell_of_block (block_alloc_new w _) 0).trans rfl
 have kg := cell_fr kw kg (by simp)
 have KW := Lib.hid kw
 clear ha hn hnd hco hlt hL kw
 go_enter z3, z4
 go_wp2_with fail
 go_quiet (first | (go_at_call 199; exact Calls.quiet_of_same ((hfr.out _ (KW.out.drewN _)).mono fun _ _ h => ⟨h.1, h.2.symm⟩)) | (go_at_call 198; exact Calls.quiet_of_same ((HG.out _ (KW.out.drewN _)).mono fun _ _ h => ⟨h.1, h.2.symm⟩)))
 go_wp2
 go_ret
 exact ⟨rfl, KW.out.drewN _⟩
 ) : P := h
theorem irokU : IRok IRepU := ⟨fun h k d => h.fr k d, fun h => h.lt⟩
abbrev nRws1z4b : Nat := 206
abbrev nRws1z9b : Nat := 252
set_option maxRecDepth 100000 in
open YtfeicmpbfbhiiaaGreat renaming irokU → z1, idelU_none → z2, DelRetU → z3, nRws1z4b → z4, IRepU → z5, idelU → z8, nRws1z9b → z9 in
open Tryz renaming func402 → z6, ntmps402 → z7 in
theorem rdropU {w : World} {v : Value} {F : List Nat} {K : Rows} (H : RRep IRepU 3 w v F K) (ht : tot 3 K ≤ 80000) (key : ByteArray) (hk : key.size ≤ maxLen) :
  Calls Tryz.prog 402 #[v, .string key] w fun e w' => e = .returned (.tuple #[]) ∧ RowsRet IRepU 3 w v F (dropK K key) w' := by exact zZRws1
abbrev nRws2z3b : Nat := 206
set_option maxRecDepth 100000 in
open YtfeicmpbfbhiiaaGreat renaming irokU → z1, rdropU → z2, nRws2z3b → z3, iputU → z6 in
open Tryz renaming func397 → z4, ntmps397 → z5 in
theorem rpushU {w : World} {v : Value} {F : List Nat} {K : Rows} (H : RRep IRepU 3 w v F K) (ht : tot 3 K ≤ 80000) {r : Nat} (hr : r < 3) (key : ByteArray) (hk : key.size ≤ maxLen) :
  Calls Tryz.prog 397 #[v, .int .i64 r, .string key] w fun e w' => e = .returned (.tuple #[]) ∧ RowsRet IRepU 3 w v F (pushK K r key) w' := by exact zZRws2
set_option maxRecDepth 100000 in
open YtfeicmpbfbhiiaaGreat renaming igetU_none → z1, irokU → z2, igetU → z5 in
open Tryz renaming func396 → z3, ntmps396 → z4 in
theorem rwhereU {w : World} {v : Value} {F : List Nat} {K : Rows} (H : RRep IRepU 3 w v F K) (key : ByteArray) (hk : key.size ≤ maxLen) :
  Calls Tryz.prog 396 #[v, .string key] w fun e w' => ∃ r : Int, e = .returned (.int .i64 r) ∧ AtRow 3 K key r ∧ Fr [] w w' := by exact zZRws3
abbrev nRws4z2b : Nat := 206
set_option maxRecDepth 100000 in
open YtfeicmpbfbhiiaaGreat renaming irokU → z1, nRws4z2b → z2 in
open Tryz renaming func399 → z3, ntmps399 → z4 in
theorem roldestU {w : World} {v : Value} {F : List Nat} {K : Rows} (H : RRep IRepU 3 w v F K) {r : Nat} (hr : r < 3) :
  Calls Tryz.prog 399 #[v, .int .i64 r] w fun e w' => e = .returned (.string (oldest K r)) ∧ Fr [] w w' := by exact zZRws4
theorem irokS : IRok IRepS := ⟨fun h k d => h.fr k d, fun h => h.lt⟩
abbrev nRws1z4c : Nat := 216
abbrev nRws1z9c : Nat := 260
set_option maxRecDepth 100000 in
open YtfeicmpbfbhiiaaGreat renaming irokS → z1, idelS_none → z2, DelRetS → z3, nRws1z4c → z4, IRepS → z5, idelS → z8, nRws1z9c → z9 in
open Tryz renaming func445 → z6, ntmps445 → z7 in
theorem rdropS {w : World} {v : Value} {F : List Nat} {K : Rows} (H : RRep IRepS 3 w v F K) (ht : tot 3 K ≤ 80000) (key : ByteArray) (hk : key.size ≤ maxLen) :
  Calls Tryz.prog 445 #[v, .string key] w fun e w' => e = .returned (.tuple #[]) ∧ RowsRet IRepS 3 w v F (dropK K key) w' := by exact zZRws1
abbrev nRws2z3c : Nat := 216
set_option maxRecDepth 100000 in
open YtfeicmpbfbhiiaaGreat renaming irokS → z1, rdropS → z2, nRws2z3c → z3, iputS → z6 in
open Tryz renaming func443 → z4, ntmps443 → z5 in
theorem rpushS {w : World} {v : Value} {F : List Nat} {K : Rows} (H : RRep IRepS 3 w v F K) (ht : tot 3 K ≤ 80000) {r : Nat} (hr : r < 3) (key : ByteArray) (hk : key.size ≤ maxLen) :
  Calls Tryz.prog 443 #[v, .int .i64 r, .string key] w fun e w' => e = .returned (.tuple #[]) ∧ RowsRet IRepS 3 w v F (pushK K r key) w' := by exact zZRws2
set_option maxRecDepth 100000 in
open YtfeicmpbfbhiiaaGreat renaming igetS_none → z1, irokS → z2, igetS → z5 in
open Tryz renaming func433 → z3, ntmps433 → z4 in
theorem rwhereS {w : World} {v : Value} {F : List Nat} {K : Rows} (H : RRep IRepS 3 w v F K) (key : ByteArray) (hk : key.size ≤ maxLen) :
  Calls Tryz.prog 433 #[v, .string key] w fun e w' => ∃ r : Int, e = .returned (.int .i64 r) ∧ AtRow 3 K key r ∧ Fr [] w w' := by exact zZRws3
abbrev nRws4z2c : Nat := 216
set_option maxRecDepth 100000 in
open YtfeicmpbfbhiiaaGreat renaming irokS → z1, nRws4z2c → z2 in
open Tryz renaming func444 → z3, ntmps444 → z4 in
theorem roldestS {w : World} {v : Value} {F : List Nat} {K : Rows} (H : RRep IRepS 3 w v F K) {r : Nat} (hr : r < 3) :
  Calls Tryz.prog 444 #[v, .int .i64 r] w fun e w' => e = .returned (.string (oldest K r)) ∧ Fr [] w w' := by exact zZRws4
end Go.Proofs.YtfeicmpbfbhiiaaGreat
