/- Texts of a proof about the given program, those parts that this claim reaches. -/
import Derived.Test.YtfeicmpbfbhiiaaGreatPEg35
import Derived.Lib.ItoaLen
import Derived.Test.YtfeicmpbfbhiiaaGreatPEg29
import Derived.Test.YtfeicmpbfbhiiaaGreatPEg34
set_option linter.unusedVariables false
set_option linter.unusedSimpArgs false
namespace Go.Proofs.YtfeicmpbfbhiiaaGreat
open Go.RowKit
open Act renaming put → pE0
open List renaming getElem_toArray → pE1, getElem_cons_succ → pE2, getElem_cons_zero → pE3, setIfInBounds_toArray → pE4, set_cons_zero → pE5, set_cons_succ → pE6
attribute [local go_sem ↓] Go.wp_at_zero Go.wp_at_succ
theorem SS.lit {w : World} (l : List ByteArray) (h : l.length ≤ 1000) : SS (w.alloc (.cells (l.map Value.string).toArray 9)) (.slice (some ⟨w.heap.size, 0, none⟩) l.length l.length) l := by
 have := Sl.built (size := 1) (e := 9) w (l.map Value.string).toArray l.length (by simp) (by unfold maxLen; omega)
 simpa using this
theorem Rd.fr0 {w w' : World} {v : Value} {n : Nat} {l : List Value} (h : Rd w 1 v n l) (f : Fr [] w w') : Rd w' 1 v n l := h.fr f (fun _ h => by cases h)
def Twoq.text (s : Twoq) : ByteArray := joinB [textB ⟨#[65, 49, 105, 110]⟩ (s.K 0), textB ⟨#[65, 49, 111, 117, 116]⟩ (s.K 1), textB ⟨#[65, 109]⟩ (s.K 2)] ⟨#[59]⟩
def itB (p : Nat) : ByteArray := ⟨(Lib.decDigits p).toArray⟩
theorem decDigits_le (p : Nat) (h : p < 100) : (Lib.decDigits p).length ≤ 21 := by rw [← Lib.itoa_nonneg]; exact Lib.itoa_length_le _ (by omega) (by omega)
def Arc.text (s : Arc) : ByteArray := joinB [textB ⟨#[84, 49]⟩ (s.K 0), textB ⟨#[84, 50]⟩ (s.K 1), textB ⟨#[66, 49]⟩ (s.K 2), textB ⟨#[66, 50]⟩ (s.K 3), ⟨#[112, 58, 32]⟩ ++ itB s.p] ⟨#[59]⟩
set_option maxHeartbeats 4000000 in
set_option maxRecDepth 100000 in
theorem qstate {w : World} {e : Nat} {F : List Nat} {s : Twoq} (H : EQ w e F s) (hs : ∀ i, Short 10000 (s.K i)) : Calls Tryz.prog 370 #[ptr e] w fun en w' => en = .returned (.string s.text) ∧ Fr [] w w' := by
 obtain ⟨hi, g, cap, x, h⟩ := H
 have k0 := h.k0
 have k1 := h.k1
 have k2 := h.kr0
 have hr := hi.res
 have ho := hi.out
 have hc2 := hi.c2
 have hko : s.kout ≤ 1024 := by unfold Twoq.kout; omega
 have hl0 : (s.K 0).length ≤ 5000 := by omega
 have hl1 : (s.K 1).length ≤ 5000 := by omega
 have hl2 : (s.K 2).length ≤ 5000 := by omega
 have HK0 : Hid (∀ W v, Fr [] w W → Rd W 1 v 1 ([0].map fun i => Value.int .i64 (i : Nat)) → Calls Tryz.prog 377 #[.agg #[.slice (some ⟨g, 0, none⟩) 3 cap, ptr x], v] W fun en w' => ∃ v', en = .returned v' ∧ SS w' v' (s.K 0) ∧ Fr [] W w') := fun W v f hv => by
  refine (ekeysQ (h.fr0 irokQ f) [0] hv (by decide) (by decide)).mono ?_
  rintro en w' ⟨v', rfl, a, _, c⟩
  rw [List.flatMap_singleton] at a
  exact ⟨v', rfl, a, c⟩
 have hz0 := text_size (name := ⟨#[65, 49, 105, 110]⟩) (by decide) (hs 0) hl0
 have HT0 : Hid (∀ W v, SS W v (s.K 0) → Calls Tryz.prog 378 #[.string ⟨#[65, 49, 105, 110]⟩, v] W fun en w' => en = .returned (.string (textB ⟨#[65, 49, 105, 110]⟩ (s.K 0))) ∧ Fr [] W w') := fun W v hv => textQ hv hl0 (hs 0) _ (by decide)
 have HK1 : Hid (∀ W v, Fr [] w W → Rd W 1 v 1 ([1].map fun i => Value.int .i64 (i : Nat)) → Calls Tryz.prog 377 #[.agg #[.slice (some ⟨g, 0, none⟩) 3 cap, ptr x], v] W fun en w' => ∃ v', en = .returned v' ∧ SS w' v' (s.K 1) ∧ Fr [] W w') := fun W v f hv => by
  refine (ekeysQ (h.fr0 irokQ f) [1] hv (by decide) (by decide)).mono ?_
  rintro en w' ⟨v', rfl, a, _, c⟩
  rw [List.flatMap_singleton] at a
  exact ⟨v', rfl, a, c⟩
 have hz1 := text_size (name := ⟨#[65, 49, 111, 117, 116]⟩) (by decide) (hs 1) hl1
 have HT1 : Hid (∀ W v, SS W v (s.K 1) → Calls Tryz.prog 378 #[.string ⟨#[65, 49, 111, 117, 116]⟩, v] W fun en w' => en = .returned (.string (textB ⟨#[65, 49, 111, 117, 116]⟩ (s.K 1))) ∧ Fr [] W w') := fun W v hv => textQ hv hl1 (hs 1) _ (by decide)
 have HK2 : Hid (∀ W v, Fr [] w W → Rd W 1 v 1 ([2].map fun i => Value.int .i64 (i : Nat)) → Calls Tryz.prog 377 #[.agg #[.slice (some ⟨g, 0, none⟩) 3 cap, ptr x], v] W fun en w' => ∃ v', en = .returned v' ∧ SS w' v' (s.K 2) ∧ Fr [] W w') := fun W v f hv => by
  refine (ekeysQ (h.fr0 irokQ f) [2] hv (by decide) (by decide)).mono ?_
  rintro en w' ⟨v', rfl, a, _, c⟩
  rw [List.flatMap_singleton] at a
  exact ⟨v', rfl, a, c⟩
 have hz2 := text_size (name := ⟨#[65, 109]⟩) (by decide) (hs 2) hl2
 have HT2 : Hid (∀ W v, SS W v (s.K 2) → Calls Tryz.prog 378 #[.string ⟨#[65, 109]⟩, v] W fun en w' => en = .returned (.string (textB ⟨#[65, 109]⟩ (s.K 2))) ∧ Fr [] W w') := fun W v hv => textQ hv hl2 (hs 2) _ (by decide)
 unfold Twoq.text
 obtain ⟨t0, ht0⟩ : ∃ t, textB ⟨#[65, 49, 105, 110]⟩ (s.K 0) = t := ⟨_, rfl⟩
 obtain ⟨t1, ht1⟩ : ∃ t, textB ⟨#[65, 49, 111, 117, 116]⟩ (s.K 1) = t := ⟨_, rfl⟩
 obtain ⟨t2, ht2⟩ : ∃ t, textB ⟨#[65, 109]⟩ (s.K 2) = t := ⟨_, rfl⟩
 rw [ht0] at hz0 HT0 ⊢
 rw [ht1] at hz1 HT1 ⊢
 rw [ht2] at hz2 HT2 ⊢
 have hsh : Short 100000000 [t0, t1, t2] := (((Short.nil.cons hz2).cons hz1).cons hz0)
 have HJ : Hid (∀ W v, SS W v [t0, t1, t2] → Calls Tryz.prog 301 #[v, .string ⟨#[59]⟩] W fun en w' => en = .returned (.string (joinB [t0, t1, t2] ⟨#[59]⟩)) ∧ Fr [] W w') := fun W v hv => sjoin hv (by simp) hsh _ rfl
 obtain ⟨R, hR⟩ : ∃ r, joinB [t0, t1, t2] ⟨#[59]⟩ = r := ⟨_, rfl⟩
 rw [hR] at HJ ⊢
 obtain ⟨c, hc⟩ : ∃ c, s.c = c := ⟨_, rfl⟩
 rw [hc] at k2
 obtain ⟨K, hK⟩ : ∃ K, s.K = K := ⟨_, rfl⟩
 rw [hK] at HK0 HK1 HK2 HT0 HT1 HT2
 clear h hs hi hr ho hc2 hko hl0 hl1 hl2 hz0 hz1 hz2 ht0 ht1 ht2 hsh hR hc hK
 go_enter Tryz.func370, Tryz.ntmps370
 go_wp2_with fail
 refine wp_region_inv (fun j v wz => match j with | 0 | 1 | 2 | 7 | 8 | 9 | 14 | 15 | 16 => v = ptr e | 3 | 10 | 17 => v = .agg #[.slice (some ⟨g, 0, none⟩) 3 cap, ptr x] | 4 => Rd wz 1 v 1 ([0].map fun i => Value.int .i64 (i : Nat)) | 11 => Rd wz 1 v 1 ([1].map fun i => Value.int .i64 (i : Nat)) | 18 => Rd wz 1 v 1 ([2].map fun i => Value.int .i64 (i : Nat)) | 5 => SS wz v (K 0) | 12 => SS wz v (K 1) | 19 => SS wz v (K 2) | 6 => v = .string t0 | 13 => v = .string t1 | 20 => v = .string t2 | 21 => SS wz v [t0, t1, t2] | 22 | 23 => v = .string R | _ => True) (fun _ wz => ECs 3 e g cap x 2 c w wz) (fun a b => Fr [] a b) (by kernel_rfl) (by kernel_rfl) (by kernel_rfl) ?hst ⟨⟨k0, k1, k2⟩, (Fr.refl [] _).drew⟩ ?hops ?hfin
 case hst =>
  intro j v a b h f
  split at h <;> first | exact h | exact Rd.fr0 h f | exact SS.fr0 h f
 case hops =>
  repeat' (first | exact OpsOk.nil | refine OpsOk.cons ?_ ?_)
  all_goals try exact rgT
  ·skip
   intro D X w' K hD hcl hS hI hK
   simp only [afterI, Region.binds, forall_const] at hI
   simp only [putL, pE0, pE1, pE4, pE5, pE6, Nat.reduceAdd, up, Nat.reduceEqDiff, if_true, if_false, reduceIte] at hK ⊢
   try simp only [hI] at hK
   go_simp
   exact hK.out _ _ (Rd.lit1 0) (hS.fr ((Fr.refl [] _).alloc _)) ((Fr.refl [] _).alloc _)
  ·skip
   intro D X w' K hD hcl hS hI hK
   simp only [afterI, Region.binds, forall_const] at hI
   simp only [putL, pE0, pE1, pE4, pE5, pE6, Nat.reduceAdd, up, Nat.reduceEqDiff, if_true, if_false, reduceIte] at hK ⊢
   try simp only [hI] at hK
   go_simp
   refine (HK0.out _ _ hS.2.out hI.2.1).mono ?_
   rintro en w3 ⟨v3, rfl, h3, f3⟩
   exact hK.out _ _ h3 (hS.fr f3) f3
  ·skip
   intro D X w' K hD hcl hS hI hK
   simp only [afterI, Region.binds, forall_const] at hI
   simp only [putL, pE0, pE1, pE4, pE5, pE6, Nat.reduceAdd, up, Nat.reduceEqDiff, if_true, if_false, reduceIte] at hK ⊢
   try simp only [hI] at hK
   go_simp
   refine (HT0.out _ _ hI.1).mono ?_
   rintro en w3 ⟨rfl, f3⟩
   exact hK.out _ _ rfl (hS.fr f3) f3
  ·skip
   intro D X w' K hD hcl hS hI hK
   simp only [afterI, Region.binds, forall_const] at hI
   simp only [putL, pE0, pE1, pE4, pE5, pE6, Nat.reduceAdd, up, Nat.reduceEqDiff, if_true, if_false, reduceIte] at hK ⊢
   try simp only [hI] at hK
   go_simp
   exact hK.out _ _ (Rd.lit1 1) (hS.fr ((Fr.refl [] _).alloc _)) ((Fr.refl [] _).alloc _)
  ·skip
   intro D X w' K hD hcl hS hI hK
   simp only [afterI, Region.binds, forall_const] at hI
   simp only [putL, pE0, pE1, pE4, pE5, pE6, Nat.reduceAdd, up, Nat.reduceEqDiff, if_true, if_false, reduceIte] at hK ⊢
   try simp only [hI] at hK
   go_simp
   refine (HK1.out _ _ hS.2.out hI.2.1).mono ?_
   rintro en w3 ⟨v3, rfl, h3, f3⟩
   exact hK.out _ _ h3 (hS.fr f3) f3
  ·skip
   intro D X w' K hD hcl hS hI hK
   simp only [afterI, Region.binds, forall_const] at hI
   simp only [putL, pE0, pE1, pE4, pE5, pE6, Nat.reduceAdd, up, Nat.reduceEqDiff, if_true, if_false, reduceIte] at hK ⊢
   try simp only [hI] at hK
   go_simp
   refine (HT1.out _ _ hI.1).mono ?_
   rintro en w3 ⟨rfl, f3⟩
   exact hK.out _ _ rfl (hS.fr f3) f3
  ·skip
   intro D X w' K hD hcl hS hI hK
   simp only [afterI, Region.binds, forall_const] at hI
   simp only [putL, pE0, pE1, pE4, pE5, pE6, Nat.reduceAdd, up, Nat.reduceEqDiff, if_true, if_false, reduceIte] at hK ⊢
   try simp only [hI] at hK
   go_simp
   exact hK.out _ _ (Rd.lit1 2) (hS.fr ((Fr.refl [] _).alloc _)) ((Fr.refl [] _).alloc _)
  ·skip
   intro D X w' K hD hcl hS hI hK
   simp only [afterI, Region.binds, forall_const] at hI
   simp only [putL, pE0, pE1, pE4, pE5, pE6, Nat.reduceAdd, up, Nat.reduceEqDiff, if_true, if_false, reduceIte] at hK ⊢
   try simp only [hI] at hK
   go_simp
   refine (HK2.out _ _ hS.2.out hI.2.1).mono ?_
   rintro en w3 ⟨v3, rfl, h3, f3⟩
   exact hK.out _ _ h3 (hS.fr f3) f3
  ·skip
   intro D X w' K hD hcl hS hI hK
   simp only [afterI, Region.binds, forall_const] at hI
   simp only [putL, pE0, pE1, pE4, pE5, pE6, Nat.reduceAdd, up, Nat.reduceEqDiff, if_true, if_false, reduceIte] at hK ⊢
   try simp only [hI] at hK
   go_simp
   refine (HT2.out _ _ hI.1).mono ?_
   rintro en w3 ⟨rfl, f3⟩
   exact hK.out _ _ rfl (hS.fr f3) f3
  ·skip
   intro D X w' K hD hcl hS hI hK
   simp only [afterI, Region.binds, forall_const] at hI
   simp only [putL, pE0, pE1, pE4, pE5, pE6, Nat.reduceAdd, up, Nat.reduceEqDiff, if_true, if_false, reduceIte] at hK ⊢
   try simp only [hI] at hK
   go_simp
   exact hK.out _ _ (SS.lit [t0, t1, t2] (by simp)) (hS.fr ((Fr.refl [] _).alloc _)) ((Fr.refl [] _).alloc _)
  ·skip
   intro D X w' K hD hcl hS hI hK
   simp only [afterI, Region.binds, forall_const] at hI
   simp only [putL, pE0, pE1, pE4, pE5, pE6, Nat.reduceAdd, up, Nat.reduceEqDiff, if_true, if_false, reduceIte] at hK ⊢
   try simp only [hI] at hK
   go_simp
   refine (HJ.out _ _ hI.1).mono ?_
   rintro en w3 ⟨rfl, f3⟩
   exact hK.out _ _ rfl (hS.fr f3) f3
 case hfin =>
  intro D X wa hS hD hI
  simp only [putL, pE0, pE1, pE4, pE5, pE6, Nat.reduceAdd]
  have h23 : X 23 = .string R := hI 23 (by decide)
  rw [h23]
  have HFW := hS.2
  clear h23 hS hD hI
  go_wp2
  go_ret
  exact ⟨rfl, HFW.out⟩
set_option maxHeartbeats 4000000 in
set_option maxRecDepth 100000 in
theorem astate {w : World} {e : Nat} {F : List Nat} {s : Arc} (H : EArc w e F s) (hp : s.p < 100) (hs : ∀ i, Short 10000 (s.K i)) : Calls Tryz.prog 291 #[ptr e] w fun en w' => en = .returned (.string s.text) ∧ Fr [] w w' := by
 obtain ⟨hi, g, cap, x, h⟩ := H
 have k0 := h.k0
 have k1 := h.k1
 have k2 := h.kr0
 have k3 := h.kr1
 have hr := hi.all
 have hc2 := hi.c2
 rw [tot4] at hr
 have hl0 : (s.K 0).length ≤ 5000 := by omega
 have hl1 : (s.K 1).length ≤ 5000 := by omega
 have hl2 : (s.K 2).length ≤ 5000 := by omega
 have hl3 : (s.K 3).length ≤ 5000 := by omega
 have HI : Hid (∀ W, Calls Tryz.prog 303 #[.int .i64 (s.p : Nat)] W fun en w' => en = .returned (.string (itB s.p)) ∧ w' = W) := fun W => by
  refine (Tryz.strconv_Itoa_small s.p hp W).mono ?_
  rintro en w' ⟨rfl, rfl⟩
  exact ⟨rfl, rfl⟩
 have HK0 : Hid (∀ W v, Fr [] w W → Rd W 1 v 1 ([0].map fun i => Value.int .i64 (i : Nat)) → Calls Tryz.prog 298 #[.agg #[.slice (some ⟨g, 0, none⟩) 4 cap, ptr x], v] W fun en w' => ∃ v', en = .returned v' ∧ SS w' v' (s.K 0) ∧ Fr [] W w') := fun W v f hv => by
  refine (ekeysA (h.fr0 irokA f) [0] hv (by decide) (by decide)).mono ?_
  rintro en w' ⟨v', rfl, a, _, c⟩
  rw [List.flatMap_singleton] at a
  exact ⟨v', rfl, a, c⟩
 have hz0 := text_size (name := ⟨#[84, 49]⟩) (by decide) (hs 0) hl0
 have HT0 : Hid (∀ W v, SS W v (s.K 0) → Calls Tryz.prog 302 #[.string ⟨#[84, 49]⟩, v] W fun en w' => en = .returned (.string (textB ⟨#[84, 49]⟩ (s.K 0))) ∧ Fr [] W w') := fun W v hv => textA hv hl0 (hs 0) _ (by decide)
 have HK1 : Hid (∀ W v, Fr [] w W → Rd W 1 v 1 ([1].map fun i => Value.int .i64 (i : Nat)) → Calls Tryz.prog 298 #[.agg #[.slice (some ⟨g, 0, none⟩) 4 cap, ptr x], v] W fun en w' => ∃ v', en = .returned v' ∧ SS w' v' (s.K 1) ∧ Fr [] W w') := fun W v f hv => by
  refine (ekeysA (h.fr0 irokA f) [1] hv (by decide) (by decide)).mono ?_
  rintro en w' ⟨v', rfl, a, _, c⟩
  rw [List.flatMap_singleton] at a
  exact ⟨v', rfl, a, c⟩
 have hz1 := text_size (name := ⟨#[84, 50]⟩) (by decide) (hs 1) hl1
 have HT1 : Hid (∀ W v, SS W v (s.K 1) → Calls Tryz.prog 302 #[.string ⟨#[84, 50]⟩, v] W fun en w' => en = .returned (.string (textB ⟨#[84, 50]⟩ (s.K 1))) ∧ Fr [] W w') := fun W v hv => textA hv hl1 (hs 1) _ (by decide)
 have HK2 : Hid (∀ W v, Fr [] w W → Rd W 1 v 1 ([2].map fun i => Value.int .i64 (i : Nat)) → Calls Tryz.prog 298 #[.agg #[.slice (some ⟨g, 0, none⟩) 4 cap, ptr x], v] W fun en w' => ∃ v', en = .returned v' ∧ SS w' v' (s.K 2) ∧ Fr [] W w') := fun W v f hv => by
  refine (ekeysA (h.fr0 irokA f) [2] hv (by decide) (by decide)).mono ?_
  rintro en w' ⟨v', rfl, a, _, c⟩
  rw [List.flatMap_singleton] at a
  exact ⟨v', rfl, a, c⟩
 have hz2 := text_size (name := ⟨#[66, 49]⟩) (by decide) (hs 2) hl2
 have HT2 : Hid (∀ W v, SS W v (s.K 2) → Calls Tryz.prog 302 #[.string ⟨#[66, 49]⟩, v] W fun en w' => en = .returned (.string (textB ⟨#[66, 49]⟩ (s.K 2))) ∧ Fr [] W w') := fun W v hv => textA hv hl2 (hs 2) _ (by decide)
 have HK3 : Hid (∀ W v, Fr [] w W → Rd W 1 v 1 ([3].map fun i => Value.int .i64 (i : Nat)) → Calls Tryz.prog 298 #[.agg #[.slice (some ⟨g, 0, none⟩) 4 cap, ptr x], v] W fun en w' => ∃ v', en = .returned v' ∧ SS w' v' (s.K 3) ∧ Fr [] W w') := fun W v f hv => by
  refine (ekeysA (h.fr0 irokA f) [3] hv (by decide) (by decide)).mono ?_
  rintro en w' ⟨v', rfl, a, _, c⟩
  rw [List.flatMap_singleton] at a
  exact ⟨v', rfl, a, c⟩
 have hz3 := text_size (name := ⟨#[66, 50]⟩) (by decide) (hs 3) hl3
 have HT3 : Hid (∀ W v, SS W v (s.K 3) → Calls Tryz.prog 302 #[.string ⟨#[66, 50]⟩, v] W fun en w' => en = .returned (.string (textB ⟨#[66, 50]⟩ (s.K 3))) ∧ Fr [] W w') := fun W v hv => textA hv hl3 (hs 3) _ (by decide)
 unfold Arc.text
 have hzp : (itB s.p).size ≤ 100 := by
  unfold itB
  rw [Lib.size_eq]
  show (Lib.decDigits s.p).length ≤ 100
  exact Nat.le_trans (decDigits_le s.p hp) (by decide)
 obtain ⟨t0, ht0⟩ : ∃ t, textB ⟨#[84, 49]⟩ (s.K 0) = t := ⟨_, rfl⟩
 obtain ⟨t1, ht1⟩ : ∃ t, textB ⟨#[84, 50]⟩ (s.K 1) = t := ⟨_, rfl⟩
 obtain ⟨t2, ht2⟩ : ∃ t, textB ⟨#[66, 49]⟩ (s.K 2) = t := ⟨_, rfl⟩
 obtain ⟨t3, ht3⟩ : ∃ t, textB ⟨#[66, 50]⟩ (s.K 3) = t := ⟨_, rfl⟩
 obtain ⟨ip, hip⟩ : ∃ t, itB s.p = t := ⟨_, rfl⟩
 obtain ⟨t4, ht4⟩ : ∃ t, ⟨#[112, 58, 32]⟩ ++ ip = t := ⟨_, rfl⟩
 rw [ht0] at hz0 HT0 ⊢
 rw [ht1] at hz1 HT1 ⊢
 rw [ht2] at hz2 HT2 ⊢
 rw [ht3] at hz3 HT3 ⊢
 rw [hip] at hzp HI ⊢
 rw [ht4]
 have q1 : ¬ 9223372036854775807 < 3 + ip.size := by omega
 have hz4 : t4.size ≤ 100000000 := by
  rw [← ht4, ByteArray.size_append]
  have e : (⟨#[112, 58, 32]⟩ : ByteArray).size = 3 := rfl
  omega
 have HT4 := Lib.hid ht4
 have hsh : Short 100000000 [t0, t1, t2, t3, t4] := (((((Short.nil.cons hz4).cons hz3).cons hz2).cons hz1).cons hz0)
 have HJ : Hid (∀ W v, SS W v [t0, t1, t2, t3, t4] → Calls Tryz.prog 301 #[v, .string ⟨#[59]⟩] W fun en w' => en = .returned (.string (joinB [t0, t1, t2, t3, t4] ⟨#[59]⟩)) ∧ Fr [] W w') := fun W v hv => sjoin hv (by simp) hsh _ rfl
 obtain ⟨R, hR⟩ : ∃ r, joinB [t0, t1, t2, t3, t4] ⟨#[59]⟩ = r := ⟨_, rfl⟩
 rw [hR] at HJ ⊢
 obtain ⟨p, hp⟩ : ∃ c, s.p = c := ⟨_, rfl⟩
 rw [hp] at k3 HI
 obtain ⟨K, hK⟩ : ∃ K, s.K = K := ⟨_, rfl⟩
 rw [hK] at HK0 HK1 HK2 HK3 HT0 HT1 HT2 HT3
 clear h hs hi hr hc2 hl0 hl1 hl2 hl3 hz0 hz1 hz2 hz3 hz4 hzp ht0 ht1 ht2 ht3 ht4 hip hsh hR hp hK
 go_enter Tryz.func291, Tryz.ntmps291
 go_wp2_with fail
 refine wp_region_inv (fun j v wz => match j with | 0 | 1 | 2 | 7 | 8 | 9 | 14 | 15 | 16 | 21 | 22 | 23 | 28 | 29 => v = ptr e | 3 | 10 | 17 | 24 => v = .agg #[.slice (some ⟨g, 0, none⟩) 4 cap, ptr x] | 4 => Rd wz 1 v 1 ([0].map fun i => Value.int .i64 (i : Nat)) | 5 => SS wz v (K 0) | 6 => v = .string t0 | 11 => Rd wz 1 v 1 ([1].map fun i => Value.int .i64 (i : Nat)) | 12 => SS wz v (K 1) | 13 => v = .string t1 | 18 => Rd wz 1 v 1 ([2].map fun i => Value.int .i64 (i : Nat)) | 19 => SS wz v (K 2) | 20 => v = .string t2 | 25 => Rd wz 1 v 1 ([3].map fun i => Value.int .i64 (i : Nat)) | 26 => SS wz v (K 3) | 27 => v = .string t3 | 30 => v = .pointer (some ⟨e, 3, none⟩) | 31 => v = .int .i64 (p : Nat) | 32 => v = .string ip | 33 => v = .string t4 | 34 => SS wz v [t0, t1, t2, t3, t4] | 35 | 36 => v = .string R | _ => True) (fun _ wz => ECs 4 e g cap x 3 p w wz) (fun a b => Fr [] a b) (by kernel_rfl) (by kernel_rfl) (by kernel_rfl) ?hst ⟨⟨k0, k1, k3⟩, (Fr.refl [] _).drew⟩ ?hops ?hfin
 case hst =>
  intro j v a b h f
  split at h <;> first | exact h | exact Rd.fr0 h f | exact SS.fr0 h f
 case hops =>
  repeat' (first | exact OpsOk.nil | refine OpsOk.cons ?_ ?_)
  all_goals try exact rgT
  ·skip
   intro D X w' K hD hcl hS hI hK
   simp only [afterI, Region.binds, forall_const] at hI
   simp only [putL, pE0, pE1, pE4, pE5, pE6, Nat.reduceAdd, up, Nat.reduceEqDiff, if_true, if_false, reduceIte] at hK ⊢
   try simp only [hI] at hK
   go_simp
   exact hK.out _ _ (Rd.lit1 0) (hS.fr ((Fr.refl [] _).alloc _)) ((Fr.refl [] _).alloc _)
  ·skip
   intro D X w' K hD hcl hS hI hK
   simp only [afterI, Region.binds, forall_const] at hI
   simp only [putL, pE0, pE1, pE4, pE5, pE6, Nat.reduceAdd, up, Nat.reduceEqDiff, if_true, if_false, reduceIte] at hK ⊢
   try simp only [hI] at hK
   go_simp
   refine (HK0.out _ _ hS.2.out hI.2.1).mono ?_
   rintro en w3 ⟨v3, rfl, h3, f3⟩
   exact hK.out _ _ h3 (hS.fr f3) f3
  ·skip
   intro D X w' K hD hcl hS hI hK
   simp only [afterI, Region.binds, forall_const] at hI
   simp only [putL, pE0, pE1, pE4, pE5, pE6, Nat.reduceAdd, up, Nat.reduceEqDiff, if_true, if_false, reduceIte] at hK ⊢
   try simp only [hI] at hK
   go_simp
   refine (HT0.out _ _ hI.1).mono ?_
   rintro en w3 ⟨rfl, f3⟩
   exact hK.out _ _ rfl (hS.fr f3) f3
  ·skip
   intro D X w' K hD hcl hS hI hK
   simp only [afterI, Region.binds, forall_const] at hI
   simp only [putL, pE0, pE1, pE4, pE5, pE6, Nat.reduceAdd, up, Nat.reduceEqDiff, if_true, if_false, reduceIte] at hK ⊢
   try simp only [hI] at hK
   go_simp
   exact hK.out _ _ (Rd.lit1 1) (hS.fr ((Fr.refl [] _).alloc _)) ((Fr.refl [] _).alloc _)
  ·skip
   intro D X w' K hD hcl hS hI hK
   simp only [afterI, Region.binds, forall_const] at hI
   simp only [putL, pE0, pE1, pE4, pE5, pE6, Nat.reduceAdd, up, Nat.reduceEqDiff, if_true, if_false, reduceIte] at hK ⊢
   try simp only [hI] at hK
   go_simp
   refine (HK1.out _ _ hS.2.out hI.2.1).mono ?_
   rintro en w3 ⟨v3, rfl, h3, f3⟩
   exact hK.out _ _ h3 (hS.fr f3) f3
  ·skip
   intro D X w' K hD hcl hS hI hK
   simp only [afterI, Region.binds, forall_const] at hI
   simp only [putL, pE0, pE1, pE4, pE5, pE6, Nat.reduceAdd, up, Nat.reduceEqDiff, if_true, if_false, reduceIte] at hK ⊢
   try simp only [hI] at hK
   go_simp
   refine (HT1.out _ _ hI.1).mono ?_
   rintro en w3 ⟨rfl, f3⟩
   exact hK.out _ _ rfl (hS.fr f3) f3
  ·skip
   intro D X w' K hD hcl hS hI hK
   simp only [afterI, Region.binds, forall_const] at hI
   simp only [putL, pE0, pE1, pE4, pE5, pE6, Nat.reduceAdd, up, Nat.reduceEqDiff, if_true, if_false, reduceIte] at hK ⊢
   try simp only [hI] at hK
   go_simp
   exact hK.out _ _ (Rd.lit1 2) (hS.fr ((Fr.refl [] _).alloc _)) ((Fr.refl [] _).alloc _)
  ·skip
   intro D X w' K hD hcl hS hI hK
   simp only [afterI, Region.binds, forall_const] at hI
   simp only [putL, pE0, pE1, pE4, pE5, pE6, Nat.reduceAdd, up, Nat.reduceEqDiff, if_true, if_false, reduceIte] at hK ⊢
   try simp only [hI] at hK
   go_simp
   refine (HK2.out _ _ hS.2.out hI.2.1).mono ?_
   rintro en w3 ⟨v3, rfl, h3, f3⟩
   exact hK.out _ _ h3 (hS.fr f3) f3
  ·skip
   intro D X w' K hD hcl hS hI hK
   simp only [afterI, Region.binds, forall_const] at hI
   simp only [putL, pE0, pE1, pE4, pE5, pE6, Nat.reduceAdd, up, Nat.reduceEqDiff, if_true, if_false, reduceIte] at hK ⊢
   try simp only [hI] at hK
   go_simp
   refine (HT2.out _ _ hI.1).mono ?_
   rintro en w3 ⟨rfl, f3⟩
   exact hK.out _ _ rfl (hS.fr f3) f3
  ·skip
   intro D X w' K hD hcl hS hI hK
   simp only [afterI, Region.binds, forall_const] at hI
   simp only [putL, pE0, pE1, pE4, pE5, pE6, Nat.reduceAdd, up, Nat.reduceEqDiff, if_true, if_false, reduceIte] at hK ⊢
   try simp only [hI] at hK
   go_simp
   exact hK.out _ _ (Rd.lit1 3) (hS.fr ((Fr.refl [] _).alloc _)) ((Fr.refl [] _).alloc _)
  ·skip
   intro D X w' K hD hcl hS hI hK
   simp only [afterI, Region.binds, forall_const] at hI
   simp only [putL, pE0, pE1, pE4, pE5, pE6, Nat.reduceAdd, up, Nat.reduceEqDiff, if_true, if_false, reduceIte] at hK ⊢
   try simp only [hI] at hK
   go_simp
   refine (HK3.out _ _ hS.2.out hI.2.1).mono ?_
   rintro en w3 ⟨v3, rfl, h3, f3⟩
   exact hK.out _ _ h3 (hS.fr f3) f3
  ·skip
   intro D X w' K hD hcl hS hI hK
   simp only [afterI, Region.binds, forall_const] at hI
   simp only [putL, pE0, pE1, pE4, pE5, pE6, Nat.reduceAdd, up, Nat.reduceEqDiff, if_true, if_false, reduceIte] at hK ⊢
   try simp only [hI] at hK
   go_simp
   refine (HT3.out _ _ hI.1).mono ?_
   rintro en w3 ⟨rfl, f3⟩
   exact hK.out _ _ rfl (hS.fr f3) f3
  ·skip
   intro D X w' K hD hcl hS hI hK
   simp only [afterI, Region.binds, forall_const] at hI
   simp only [putL, pE0, pE1, pE4, pE5, pE6, Nat.reduceAdd, up, Nat.reduceEqDiff, if_true, if_false, reduceIte] at hK ⊢
   try simp only [hI] at hK
   go_simp
   refine (HI.out _).mono ?_
   rintro en w3 ⟨rfl, rfl⟩
   exact hK.out _ _ rfl hS (Fr.refl _ _)
  ·skip
   intro D X w' K hD hcl hS hI hK
   simp only [afterI, Region.binds, forall_const] at hI
   simp only [putL, pE0, pE1, pE4, pE5, pE6, Nat.reduceAdd, up, Nat.reduceEqDiff, if_true, if_false, reduceIte] at hK ⊢
   try simp only [hI] at hK
   go_simp
   exact hK.out _ _ (by rw [← HT4.out]) hS (Fr.refl _ _)
  ·skip
   intro D X w' K hD hcl hS hI hK
   simp only [afterI, Region.binds, forall_const] at hI
   simp only [putL, pE0, pE1, pE4, pE5, pE6, Nat.reduceAdd, up, Nat.reduceEqDiff, if_true, if_false, reduceIte] at hK ⊢
   try simp only [hI] at hK
   go_simp
   exact hK.out _ _ (SS.lit [t0, t1, t2, t3, t4] (by simp)) (hS.fr ((Fr.refl [] _).alloc _)) ((Fr.refl [] _).alloc _)
  ·skip
   intro D X w' K hD hcl hS hI hK
   simp only [afterI, Region.binds, forall_const] at hI
   simp only [putL, pE0, pE1, pE4, pE5, pE6, Nat.reduceAdd, up, Nat.reduceEqDiff, if_true, if_false, reduceIte] at hK ⊢
   try simp only [hI] at hK
   go_simp
   refine (HJ.out _ _ hI.1).mono ?_
   rintro en w3 ⟨rfl, f3⟩
   exact hK.out _ _ rfl (hS.fr f3) f3
 case hfin =>
  intro D X wa hS hD hI
  simp only [putL, pE0, pE1, pE4, pE5, pE6, Nat.reduceAdd]
  have h36 : X 36 = .string R := hI 36 (by decide)
  rw [h36]
  have HFW := hS.2
  clear h36 hS hD hI
  go_wp2
  go_ret
  exact ⟨rfl, HFW.out⟩
end Go.Proofs.YtfeicmpbfbhiiaaGreat
set_option linter.unusedVariables false
set_option linter.unusedSimpArgs false
namespace Go.Proofs.YtfeicmpbfbhiiaaGreat
open Go.RowKit
attribute [local go_sem ↓] Go.wp_at_zero Go.wp_at_succ
/-- An interface's method, found by its type alone. -/
def Finds (ty : TypeId) (m : String) (f : Nat) : Prop := (∀ a w, (method 502 ty (.pointer (some a)) m).run Tryz.prog w = .ok (f, .pointer (some a)) w) ∧ ∀ x w, (callFunc f x).run Tryz.prog w = .ok (.enter f x) w
theorem findsLoad (s : En) : Finds (kTy s.kd) "Load" (kLoad s.kd) := ⟨fun a w => enmLoad s.kd_lt a w, fun x w => encLoad s.kd_lt x w⟩
theorem findsLen (s : En) : Finds (kTy s.kd) "Len" (kLen s.kd) := ⟨fun a w => enmLen s.kd_lt a w, fun x w => encLen s.kd_lt x w⟩
theorem findsState (s : En) : Finds (kTy s.kd) "State" (kState s.kd) := ⟨fun a w => enmState s.kd_lt a w, fun x w => encState s.kd_lt x w⟩
def MB (w : World) (m k r : Nat) (a b : Value) : Prop := w.heap[m]? = some (.cells #[.int .i64 (k : Nat), .int .i64 (r : Nat), a, b] 148 (0, 0))
/-- A mover that does not move. -/
def MvA (w : World) (m : Nat) (F : List Nat) (r : Nat) (s : En) : Prop := ∃ e, MB w m s.kd r (.iface (kTy s.kd) (ptr e)) .nilIface ∧ EE w e F s ∧ m ∉ F
/-- A mover that moves from x to s. -/
def MvB (w : World) (m : Nat) (F G : List Nat) (r : Nat) (s x : En) : Prop := ∃ e o, MB w m s.kd r (.iface (kTy s.kd) (ptr e)) (.iface (kTy x.kd) (ptr o)) ∧ EE w e F s ∧ EE w o G x ∧ m ∉ F ∧ m ∉ G ∧ Dis F G
section
variable {w w' : World} {m k r e o : Nat} {F G H : List Nat} {s x : En} {a b : Value}
theorem MB.cell (h : MB w m k r a b) : w.cell? ⟨m, 0, none⟩ = some (.int .i64 (k : Nat)) ∧ w.cell? ⟨m, 1, none⟩ = some (.int .i64 (r : Nat)) ∧ w.cell? ⟨m, 2, none⟩ = some a ∧ w.cell? ⟨m, 3, none⟩ = some b := ⟨cell_of_block h 0, cell_of_block h 1, cell_of_block h 2, cell_of_block h 3⟩
theorem MvA.fr (h : MvA w m F r s) (f : Fr H w w') (hd : Dis (m :: F) H) : MvA w' m F r s := by
 obtain ⟨e, h1, h2, h3⟩ := h
 exact ⟨e, f.get h1 (hd m (by simp)), h2.fr f (fun b hb => hd b (by simp [hb])), h3⟩
theorem MvB.fr (h : MvB w m F G r s x) (f : Fr H w w') (hd : Dis (m :: (F ++ G)) H) : MvB w' m F G r s x := by
 obtain ⟨e, o, h1, h2, h3, h4⟩ := h
 exact ⟨e, o, f.get h1 (hd m (by simp)), h2.fr f (fun b hb => hd b (by simp [hb])), h3.fr f (fun b hb => hd b (by simp [hb])), h4⟩
theorem MvA.fr0 (h : MvA w m F r s) (f : Fr [] w w') : MvA w' m F r s := h.fr f (fun _ _ => by simp)
theorem MvB.fr0 (h : MvB w m F G r s x) (f : Fr [] w w') : MvB w' m F G r s x := h.fr f (fun _ _ => by simp)
theorem MvA.lt (h : MvA w m F r s) : Lt (m :: F) w := by
 obtain ⟨e, h1, h2, h3⟩ := h
 intro b hb
 rcases List.mem_cons.1 hb with rfl | hb
 ·exact lt_of_block h1
 ·exact h2.lt b hb
theorem MvB.lt (h : MvB w m F G r s x) : Lt (m :: (F ++ G)) w := by
 obtain ⟨e, o, h1, h2, h3, h4⟩ := h
 intro b hb
 rcases List.mem_cons.1 hb with rfl | hb
 ·exact lt_of_block h1
 ·rcases List.mem_append.1 hb with hb | hb
  ·exact h2.lt b hb
  ·exact h3.lt b hb
end
end Go.Proofs.YtfeicmpbfbhiiaaGreat
set_option linter.unusedVariables false
set_option linter.unusedSimpArgs false
namespace Go.Proofs.YtfeicmpbfbhiiaaGreat
open Go.RowKit
open Act renaming put → pE0
open List renaming getElem_toArray → pE1, getElem_cons_succ → pE2, getElem_cons_zero → pE3, setIfInBounds_toArray → pE4, set_cons_zero → pE5, set_cons_succ → pE6
attribute [local go_sem ↓] Go.wp_at_zero Go.wp_at_succ
section
variable {w w' : World} {m k r e o : Nat} {F G H : List Nat} {s x : En} {a b : Value}
end
end Go.Proofs.YtfeicmpbfbhiiaaGreat
set_option linter.unusedVariables false
set_option linter.unusedSimpArgs false
namespace Go.Proofs.YtfeicmpbfbhiiaaGreat
open Go.RowKit
open Act renaming put → pE0
open List renaming getElem_toArray → pE1, getElem_cons_succ → pE2, getElem_cons_zero → pE3, setIfInBounds_toArray → pE4, set_cons_zero → pE5, set_cons_succ → pE6
attribute [local go_sem ↓] Go.wp_at_zero Go.wp_at_succ
/-- How State of an engine is written: arc and twoq. -/
def En.text : En → Option ByteArray | .A s => if s.p < 100 then some s.text else none | .Q s => some s.text | _ => none
section
variable {w w' : World} {m k r e o : Nat} {F G H : List Nat} {s x : En} {a b : Value}
end
end Go.Proofs.YtfeicmpbfbhiiaaGreat
set_option linter.unusedVariables false
set_option linter.unusedSimpArgs false
namespace Go.Proofs.YtfeicmpbfbhiiaaGreat
open Go.RowKit
attribute [local go_sem ↓] Go.wp_at_zero Go.wp_at_succ
section
variable {w w' : World} {m k r e o : Nat} {F G H : List Nat} {s x : En} {a b : Value}
end
end Go.Proofs.YtfeicmpbfbhiiaaGreat
set_option linter.unusedVariables false
set_option linter.unusedSimpArgs false
namespace Go.Proofs.YtfeicmpbfbhiiaaGreat
open Go.RowKit
open Act renaming put → pE0
open List renaming getElem_toArray → pE1, getElem_cons_succ → pE2, getElem_cons_zero → pE3, setIfInBounds_toArray → pE4, set_cons_zero → pE5, set_cons_succ → pE6
attribute [local go_sem ↓] Go.wp_at_zero Go.wp_at_succ
section
variable {w w' : World} {m k r e o : Nat} {F G H : List Nat} {s x : En} {a b : Value}
end
end Go.Proofs.YtfeicmpbfbhiiaaGreat
set_option linter.unusedVariables false
set_option linter.unusedSimpArgs false
namespace Go.Proofs.YtfeicmpbfbhiiaaGreat
open Go.RowKit
attribute [local go_sem ↓] Go.wp_at_zero Go.wp_at_succ
def loadAll (s : En) (l : List ByteArray) : En := l.foldl (fun s k => (s.load k).2) s
theorem loadAll_kd (l : List ByteArray) : ∀ s : En, (loadAll s l).kd = s.kd := by
 induction l with
 | nil => intro s; rfl
 | cons k r ih => intro s; show (loadAll (s.load k).2 r).kd = _; rw [ih, En.load_kd]
theorem loadAll_snoc (s : En) (l : List ByteArray) (i : Nat) (h : i < l.length) : loadAll s (l.take (i + 1)) = ((loadAll s (l.take i)).load l[i]).2 := by
 unfold loadAll
 rw [List.take_add_one, List.getElem?_eq_getElem h, List.foldl_append]
 rfl
end Go.Proofs.YtfeicmpbfbhiiaaGreat
