/- Texts of a proof about the given program, those parts that this claim reaches. -/
import Derived.Test.YtfeicmpbfbhiiaaGreatPEg39
set_option linter.unusedVariables false
set_option linter.unusedSimpArgs false
namespace Go.Proofs.YtfeicmpbfbhiiaaGreat
open Go.RowKit
open Act renaming put → pE0
open List renaming getElem_toArray → pE1, getElem_cons_succ → pE2, getElem_cons_zero → pE3, setIfInBounds_toArray → pE4, set_cons_zero → pE5, set_cons_succ → pE6
attribute [local go_sem ↓] Go.wp_at_zero Go.wp_at_succ
set_option maxRecDepth 100000 in
theorem textU {w : World} {v : Value} {l : List ByteArray} (h : SS w v l) (hl : l.length ≤ 5000) (hs : Short 10000 l) (name : ByteArray) (hnm : name.size ≤ 100) :
  Calls Tryz.prog 404 #[.string name, v] w fun en w' => en = .returned (.string (textB name l)) ∧ Fr [] w w' := by
 have H := Lib.hid h
 have HJ := Lib.hid fun W b n c (h : SS W (.slice b n c) (⟨#[]⟩ :: l)) => sjoin h (by simp only [List.length_cons]; omega) (hs.cons (k := ⟨#[]⟩) (by decide)) ⟨#[32]⟩ rfl
 have hv := h.form
 obtain ⟨a, c, hv⟩ := hv
 obtain ⟨n, hn⟩ : ∃ n, l.length = n := ⟨_, rfl⟩
 rw [hn] at hv
 have HV := Lib.hid hv
 have hJs : (joinB (⟨#[]⟩ :: l) ⟨#[32]⟩).size ≤ 140737488355328 := by have h2 := join_size (sep := ⟨#[32]⟩) (hs.cons (k := ⟨#[]⟩) (by decide)) rfl; simp only [List.length_cons] at h2; omega
 unfold textB
 obtain ⟨J, hJ⟩ : ∃ j, joinB (⟨#[]⟩ :: l) ⟨#[32]⟩ = j := ⟨_, rfl⟩
 rw [hJ] at HJ hJs ⊢
 have q1 : ¬ 9223372036854775807 < name.size + 1 := by omega
 have q2 : ¬ 9223372036854775807 < name.size + 1 + J.size := by omega
 subst hv
 clear h hs hJ hn
 go_enter Tryz.func404, Tryz.ntmps404
 go_wp2_with (at_builtin; refine app_list rfl _ _ rfl (.slice (some ⟨w.heap.size, 0, none⟩) 1 1) (.slice a n c) [⟨#[]⟩] l rfl rfl ?hsl ?src ?hb ?_)
 case hsl => exact SS.one w ⟨#[]⟩
 case src => exact SS.src (H.out.fr ((Fr.refl [] w).alloc _) (fun _ _ => by simp))
 case hb => show 1 + l.length ≤ 1000000; omega
 intro b' n' c' w2 hn' happ
 have hf : Fr [] w w2 := (Fr.refl [] w).alloc _ |>.fresh happ.2.1 (by intro q hq; simp [Value.ownBlock] at hq; omega)
 have HAP := Lib.hid (And.intro happ.1 hf)
 clear happ hf hn'
 go_wp2_with fail
 refine (HJ.out _ _ _ _ HAP.out.1).mono ?_
 rintro en w3 ⟨rfl, f3⟩
 have F3 := HAP.out.2.same f3
 clear f3
 go_wp2
 go_ret
 exact ⟨rfl, F3⟩
set_option maxRecDepth 100000 in
theorem textS {w : World} {v : Value} {l : List ByteArray} (h : SS w v l) (hl : l.length ≤ 5000) (hs : Short 10000 l) (name : ByteArray) (hnm : name.size ≤ 100) :
  Calls Tryz.prog 440 #[.string name, v] w fun en w' => en = .returned (.string (textB name l)) ∧ Fr [] w w' := by
 have H := Lib.hid h
 have HJ := Lib.hid fun W b n c (h : SS W (.slice b n c) (⟨#[]⟩ :: l)) => sjoin h (by simp only [List.length_cons]; omega) (hs.cons (k := ⟨#[]⟩) (by decide)) ⟨#[32]⟩ rfl
 have hv := h.form
 obtain ⟨a, c, hv⟩ := hv
 obtain ⟨n, hn⟩ : ∃ n, l.length = n := ⟨_, rfl⟩
 rw [hn] at hv
 have HV := Lib.hid hv
 have hJs : (joinB (⟨#[]⟩ :: l) ⟨#[32]⟩).size ≤ 140737488355328 := by have h2 := join_size (sep := ⟨#[32]⟩) (hs.cons (k := ⟨#[]⟩) (by decide)) rfl; simp only [List.length_cons] at h2; omega
 unfold textB
 obtain ⟨J, hJ⟩ : ∃ j, joinB (⟨#[]⟩ :: l) ⟨#[32]⟩ = j := ⟨_, rfl⟩
 rw [hJ] at HJ hJs ⊢
 have q1 : ¬ 9223372036854775807 < name.size + 1 := by omega
 have q2 : ¬ 9223372036854775807 < name.size + 1 + J.size := by omega
 subst hv
 clear h hs hJ hn
 go_enter Tryz.func440, Tryz.ntmps440
 go_wp2_with (at_builtin; refine app_list rfl _ _ rfl (.slice (some ⟨w.heap.size, 0, none⟩) 1 1) (.slice a n c) [⟨#[]⟩] l rfl rfl ?hsl ?src ?hb ?_)
 case hsl => exact SS.one w ⟨#[]⟩
 case src => exact SS.src (H.out.fr ((Fr.refl [] w).alloc _) (fun _ _ => by simp))
 case hb => show 1 + l.length ≤ 1000000; omega
 intro b' n' c' w2 hn' happ
 have hf : Fr [] w w2 := (Fr.refl [] w).alloc _ |>.fresh happ.2.1 (by intro q hq; simp [Value.ownBlock] at hq; omega)
 have HAP := Lib.hid (And.intro happ.1 hf)
 clear happ hf hn'
 go_wp2_with fail
 refine (HJ.out _ _ _ _ HAP.out.1).mono ?_
 rintro en w3 ⟨rfl, f3⟩
 have F3 := HAP.out.2.same f3
 clear f3
 go_wp2
 go_ret
 exact ⟨rfl, F3⟩
set_option maxHeartbeats 4000000 in
set_option maxRecDepth 100000 in
theorem ustate {w : World} {e : Nat} {F : List Nat} {s : Tiny} (H : EU w e F s) (hs : ∀ i, Short 10000 (s.K i)) : Calls Tryz.prog 394 #[ptr e] w fun en w' => en = .returned (.string s.text) ∧ Fr [] w w' := by
 have hlen := H.1.len
 obtain ⟨hi, u, rfl, hc, _, _, _, F1, Fk, Fd, hF, h, _⟩ := H
 obtain ⟨e, g, cap, x, kp, dp, c, wi, ma, pr⟩ := u
 simp only at h hc
 have k0 := h.k0
 have k1 := h.k1
 have k2 := h.kr0
 have hl0 : (s.K 0).length ≤ 5000 := Nat.le_trans (hlen 0) (by decide)
 have hl1 : (s.K 1).length ≤ 5000 := Nat.le_trans (hlen 1) (by decide)
 have hl2 : (s.K 2).length ≤ 5000 := Nat.le_trans (hlen 2) (by decide)
 have HK0 : Hid (∀ W v, Fr [] w W → Rd W 1 v 1 ([0].map fun i => Value.int .i64 (i : Nat)) → Calls Tryz.prog 403 #[.agg #[.slice (some ⟨g, 0, none⟩) 3 cap, ptr x], v] W fun en w' => ∃ v', en = .returned v' ∧ SS w' v' (s.K 0) ∧ Fr [] W w') := fun W v f hv => by
  refine (ekeysU (h.fr0 irokU f) [0] hv (by decide) (by decide)).mono ?_
  rintro en w' ⟨v', rfl, a, _, c⟩
  rw [List.flatMap_singleton] at a
  exact ⟨v', rfl, a, c⟩
 have hz0 := text_size (name := ⟨#[87]⟩) (by decide) (hs 0) hl0
 have HT0 : Hid (∀ W v, SS W v (s.K 0) → Calls Tryz.prog 404 #[.string ⟨#[87]⟩, v] W fun en w' => en = .returned (.string (textB ⟨#[87]⟩ (s.K 0))) ∧ Fr [] W w') := fun W v hv => textU hv hl0 (hs 0) _ (by decide)
 have HK1 : Hid (∀ W v, Fr [] w W → Rd W 1 v 1 ([1].map fun i => Value.int .i64 (i : Nat)) → Calls Tryz.prog 403 #[.agg #[.slice (some ⟨g, 0, none⟩) 3 cap, ptr x], v] W fun en w' => ∃ v', en = .returned v' ∧ SS w' v' (s.K 1) ∧ Fr [] W w') := fun W v f hv => by
  refine (ekeysU (h.fr0 irokU f) [1] hv (by decide) (by decide)).mono ?_
  rintro en w' ⟨v', rfl, a, _, c⟩
  rw [List.flatMap_singleton] at a
  exact ⟨v', rfl, a, c⟩
 have hz1 := text_size (name := ⟨#[65]⟩) (by decide) (hs 1) hl1
 have HT1 : Hid (∀ W v, SS W v (s.K 1) → Calls Tryz.prog 404 #[.string ⟨#[65]⟩, v] W fun en w' => en = .returned (.string (textB ⟨#[65]⟩ (s.K 1))) ∧ Fr [] W w') := fun W v hv => textU hv hl1 (hs 1) _ (by decide)
 have HK2 : Hid (∀ W v, Fr [] w W → Rd W 1 v 1 ([2].map fun i => Value.int .i64 (i : Nat)) → Calls Tryz.prog 403 #[.agg #[.slice (some ⟨g, 0, none⟩) 3 cap, ptr x], v] W fun en w' => ∃ v', en = .returned v' ∧ SS w' v' (s.K 2) ∧ Fr [] W w') := fun W v f hv => by
  refine (ekeysU (h.fr0 irokU f) [2] hv (by decide) (by decide)).mono ?_
  rintro en w' ⟨v', rfl, a, _, c⟩
  rw [List.flatMap_singleton] at a
  exact ⟨v', rfl, a, c⟩
 have hz2 := text_size (name := ⟨#[80]⟩) (by decide) (hs 2) hl2
 have HT2 : Hid (∀ W v, SS W v (s.K 2) → Calls Tryz.prog 404 #[.string ⟨#[80]⟩, v] W fun en w' => en = .returned (.string (textB ⟨#[80]⟩ (s.K 2))) ∧ Fr [] W w') := fun W v hv => textU hv hl2 (hs 2) _ (by decide)
 unfold Tiny.text
 obtain ⟨t0, ht0⟩ : ∃ t, textB ⟨#[87]⟩ (s.K 0) = t := ⟨_, rfl⟩
 obtain ⟨t1, ht1⟩ : ∃ t, textB ⟨#[65]⟩ (s.K 1) = t := ⟨_, rfl⟩
 obtain ⟨t2, ht2⟩ : ∃ t, textB ⟨#[80]⟩ (s.K 2) = t := ⟨_, rfl⟩
 rw [ht0] at hz0 HT0 ⊢
 rw [ht1] at hz1 HT1 ⊢
 rw [ht2] at hz2 HT2 ⊢
 have hsh : Short 100000000 [t0, t1, t2] := (((Short.nil.cons hz2).cons hz1).cons hz0)
 have HJ : Hid (∀ W v, SS W v [t0, t1, t2] → Calls Tryz.prog 301 #[v, .string ⟨#[59]⟩] W fun en w' => en = .returned (.string (joinB [t0, t1, t2] ⟨#[59]⟩)) ∧ Fr [] W w') := fun W v hv => sjoin hv (by simp) hsh _ rfl
 obtain ⟨R, hR⟩ : ∃ r, joinB [t0, t1, t2] ⟨#[59]⟩ = r := ⟨_, rfl⟩
 rw [hR] at HJ ⊢
 obtain ⟨K, hK⟩ : ∃ K, s.K = K := ⟨_, rfl⟩
 rw [hK] at HK0 HK1 HK2 HT0 HT1 HT2
 simp only
 clear h hs hi hF hlen hc hl0 hl1 hl2 hz0 hz1 hz2 ht0 ht1 ht2 hsh hR hK
 go_enter Tryz.func394, Tryz.ntmps394
 go_wp2_with fail
 refine wp_region_inv (fun j v wz => match j with | 0 | 1 | 2 | 7 | 8 | 9 | 14 | 15 | 16 => v = ptr e | 3 | 10 | 17 => v = .agg #[.slice (some ⟨g, 0, none⟩) 3 cap, ptr x] | 4 => Rd wz 1 v 1 ([0].map fun i => Value.int .i64 (i : Nat)) | 11 => Rd wz 1 v 1 ([1].map fun i => Value.int .i64 (i : Nat)) | 18 => Rd wz 1 v 1 ([2].map fun i => Value.int .i64 (i : Nat)) | 5 => SS wz v (K 0) | 12 => SS wz v (K 1) | 19 => SS wz v (K 2) | 6 => v = .string t0 | 13 => v = .string t1 | 20 => v = .string t2 | 21 => SS wz v [t0, t1, t2] | 22 | 23 => v = .string R | _ => True) (fun _ wz => ECs 3 e g cap x 2 c w wz) (fun a b => Fr [] a b) (by kernel_rfl) (by kernel_rfl) (by kernel_rfl) ?hst ⟨⟨k0, k1, k2⟩, (Fr.refl [] _).drew⟩ ?hops ?hfin
 case hst =>
  intro j v a b h f
  split at h <;> first | exact h | exact Rd.fr0 h f | exact SS.fr0 h f
 case hops =>
  repeat' (first | exact OpsOk.nil | refine OpsOk.cons ?_ ?_)
  all_goals try exact rgT
  ·skip
   intro D X w' K hD hcl hS hI hK
   simp only [afterI, Region.binds, forall_const] at hI
   simp only [putL, pE0, pE1, pE4, pE5, pE6, Nat.reduceAdd, up, Nat.reduceEqDiff, if_true, if_false, reduceIte] at hK ⊢
   try simp only [hI] at hK
   go_simp
   exact hK.out _ _ (Rd.lit1 0) (hS.fr ((Fr.refl [] _).alloc _)) ((Fr.refl [] _).alloc _)
  ·skip
   intro D X w' K hD hcl hS hI hK
   simp only [afterI, Region.binds, forall_const] at hI
   simp only [putL, pE0, pE1, pE4, pE5, pE6, Nat.reduceAdd, up, Nat.reduceEqDiff, if_true, if_false, reduceIte] at hK ⊢
   try simp only [hI] at hK
   go_simp
   refine (HK0.out _ _ hS.2.out hI.2.1).mono ?_
   rintro en w3 ⟨v3, rfl, h3, f3⟩
   exact hK.out _ _ h3 (hS.fr f3) f3
  ·skip
   intro D X w' K hD hcl hS hI hK
   simp only [afterI, Region.binds, forall_const] at hI
   simp only [putL, pE0, pE1, pE4, pE5, pE6, Nat.reduceAdd, up, Nat.reduceEqDiff, if_true, if_false, reduceIte] at hK ⊢
   try simp only [hI] at hK
   go_simp
   refine (HT0.out _ _ hI.1).mono ?_
   rintro en w3 ⟨rfl, f3⟩
   exact hK.out _ _ rfl (hS.fr f3) f3
  ·skip
   intro D X w' K hD hcl hS hI hK
   simp only [afterI, Region.binds, forall_const] at hI
   simp only [putL, pE0, pE1, pE4, pE5, pE6, Nat.reduceAdd, up, Nat.reduceEqDiff, if_true, if_false, reduceIte] at hK ⊢
   try simp only [hI] at hK
   go_simp
   exact hK.out _ _ (Rd.lit1 1) (hS.fr ((Fr.refl [] _).alloc _)) ((Fr.refl [] _).alloc _)
  ·skip
   intro D X w' K hD hcl hS hI hK
   simp only [afterI, Region.binds, forall_const] at hI
   simp only [putL, pE0, pE1, pE4, pE5, pE6, Nat.reduceAdd, up, Nat.reduceEqDiff, if_true, if_false, reduceIte] at hK ⊢
   try simp only [hI] at hK
   go_simp
   refine (HK1.out _ _ hS.2.out hI.2.1).mono ?_
   rintro en w3 ⟨v3, rfl, h3, f3⟩
   exact hK.out _ _ h3 (hS.fr f3) f3
  ·skip
   intro D X w' K hD hcl hS hI hK
   simp only [afterI, Region.binds, forall_const] at hI
   simp only [putL, pE0, pE1, pE4, pE5, pE6, Nat.reduceAdd, up, Nat.reduceEqDiff, if_true, if_false, reduceIte] at hK ⊢
   try simp only [hI] at hK
   go_simp
   refine (HT1.out _ _ hI.1).mono ?_
   rintro en w3 ⟨rfl, f3⟩
   exact hK.out _ _ rfl (hS.fr f3) f3
  ·skip
   intro D X w' K hD hcl hS hI hK
   simp only [afterI, Region.binds, forall_const] at hI
   simp only [putL, pE0, pE1, pE4, pE5, pE6, Nat.reduceAdd, up, Nat.reduceEqDiff, if_true, if_false, reduceIte] at hK ⊢
   try simp only [hI] at hK
   go_simp
   exact hK.out _ _ (Rd.lit1 2) (hS.fr ((Fr.refl [] _).alloc _)) ((Fr.refl [] _).alloc _)
  ·skip
   intro D X w' K hD hcl hS hI hK
   simp only [afterI, Region.binds, forall_const] at hI
   simp only [putL, pE0, pE1, pE4, pE5, pE6, Nat.reduceAdd, up, Nat.reduceEqDiff, if_true, if_false, reduceIte] at hK ⊢
   try simp only [hI] at hK
   go_simp
   refine (HK2.out _ _ hS.2.out hI.2.1).mono ?_
   rintro en w3 ⟨v3, rfl, h3, f3⟩
   exact hK.out _ _ h3 (hS.fr f3) f3
  ·skip
   intro D X w' K hD hcl hS hI hK
   simp only [afterI, Region.binds, forall_const] at hI
   simp only [putL, pE0, pE1, pE4, pE5, pE6, Nat.reduceAdd, up, Nat.reduceEqDiff, if_true, if_false, reduceIte] at hK ⊢
   try simp only [hI] at hK
   go_simp
   refine (HT2.out _ _ hI.1).mono ?_
   rintro en w3 ⟨rfl, f3⟩
   exact hK.out _ _ rfl (hS.fr f3) f3
  ·skip
   intro D X w' K hD hcl hS hI hK
   simp only [afterI, Region.binds, forall_const] at hI
   simp only [putL, pE0, pE1, pE4, pE5, pE6, Nat.reduceAdd, up, Nat.reduceEqDiff, if_true, if_false, reduceIte] at hK ⊢
   try simp only [hI] at hK
   go_simp
   exact hK.out _ _ (SS.lit [t0, t1, t2] (by simp)) (hS.fr ((Fr.refl [] _).alloc _)) ((Fr.refl [] _).alloc _)
  ·skip
   intro D X w' K hD hcl hS hI hK
   simp only [afterI, Region.binds, forall_const] at hI
   simp only [putL, pE0, pE1, pE4, pE5, pE6, Nat.reduceAdd, up, Nat.reduceEqDiff, if_true, if_false, reduceIte] at hK ⊢
   try simp only [hI] at hK
   go_simp
   refine (HJ.out _ _ hI.1).mono ?_
   rintro en w3 ⟨rfl, f3⟩
   exact hK.out _ _ rfl (hS.fr f3) f3
 case hfin =>
  intro D X wa hS hD hI
  simp only [putL, pE0, pE1, pE4, pE5, pE6, Nat.reduceAdd]
  have h23 : X 23 = .string R := hI 23 (by decide)
  rw [h23]
  have HFW := hS.2
  clear h23 hS hD hI
  go_wp2
  go_ret
  exact ⟨rfl, HFW.out⟩
end Go.Proofs.YtfeicmpbfbhiiaaGreat
set_option linter.unusedVariables false
set_option linter.unusedSimpArgs false
namespace Go.Proofs.YtfeicmpbfbhiiaaGreat
open Go.RowKit
attribute [local go_sem ↓] Go.wp_at_zero Go.wp_at_succ
theorem encode_count (m : Nat) (h : m ≤ 3) : Utf8.encode ((48 + m : Nat) : Int) = ⟨#[UInt8.ofNat (48 + m)]⟩ := by
 match m, h with
 | 0, _ => decide
 | 1, _ => decide
 | 2, _ => decide
 | 3, _ => decide
 | n + 4, h => omega
theorem mix_get {l r : List ByteArray} (hlen : l.length = r.length) (j : Nat) (hj : j < l.length) : (r.take j ++ l.drop j)[j]? = some l[j] := by
 rw [List.getElem?_append_right (by rw [List.length_take]; omega), List.length_take, Nat.min_eq_left (by omega), Nat.sub_self, List.getElem?_drop]
 simp [hj]
theorem mix_set {l r : List ByteArray} (hlen : l.length = r.length) (j : Nat) (hj : j < l.length) : (r.take j ++ l.drop j).set j (r[j]'(by omega)) = r.take (j + 1) ++ l.drop (j + 1) := by
 have hjr : j < r.length := by omega
 rw [List.set_append_right _ _ (by rw [List.length_take]; omega), List.length_take, Nat.min_eq_left (by omega), Nat.sub_self, List.drop_eq_getElem_cons hj, List.set_cons_zero, List.take_add_one, List.getElem?_eq_getElem hjr, Option.toList_some, List.append_assoc]
 rfl
set_option maxHeartbeats 1000000 in
set_option maxRecDepth 100000 in
theorem scounted {w : World} {e g cap x y c sm gh : Nat} {F : List Nat} {K : Rows} {C : Cnt} (H : SR w e g cap x y c sm gh F K C) (i : Nat) (hi : i < 2) (hl : (K i).length ≤ 5000) (hs : Short 9000 (K i)) :
  Calls Tryz.prog 441 #[ptr e, .int .i64 (i : Nat)] w (KeysRet w ((cellsOf (K i) C).map cellT)) := by
 obtain ⟨F1, h⟩ := H.er
 have k0 := h.k0
 have k1 := h.k1
 have k4 := h.kr (j := 3) rfl
 have HK4 : Hid (w.cell? ⟨e, 5, none⟩ = some (ptr y)) := k4
 have HC3 : Hid (CInv K C) := by obtain ⟨_, _, _, _, _, _, _, _, hc⟩ := H; exact hc
 have HK : Hid (∀ W v, Fr [] w W → Rd W 1 v 1 ([i].map fun i => Value.int .i64 (i : Nat)) → Calls Tryz.prog 438 #[.agg #[.slice (some ⟨g, 0, none⟩) 3 cap, ptr x], v] W fun en w' => ∃ v', en = .returned v' ∧ SS w' v' (K i) ∧ Ge W.heap.size v'.ownBlock.toList ∧ Fr [] W w') := fun W v f hv => by
  refine (ekeysS (h.fr0 irokS f) [i] hv (by simp; omega) (by simp)).mono ?_
  rintro en w' ⟨v', rfl, a, b, c⟩
  rw [List.flatMap_singleton] at a
  exact ⟨v', rfl, a, b, c⟩
 have HG : Hid (∀ W, Fr [] w W → ∀ key : ByteArray, key.size ≤ 9000 → Calls Tryz.prog 235 #[ptr y, .string key] W fun en w' => ∃ b, en = .returned (.tuple #[.int .i64 (cntOf C key : Nat), .bool b]) ∧ Fr [] W w') := fun W f key hz => sget (H.fr0 f) key (Nat.le_trans hz (by decide))
 have HSH := Lib.hid hs
 obtain ⟨l, hK⟩ : ∃ l, K i = l := ⟨_, rfl⟩
 rw [hK] at HK HSH hl ⊢
 obtain ⟨n, hn⟩ : ∃ n, l.length = n := ⟨_, rfl⟩
 have HN : Hid (l.length = n ∧ ((cellsOf l C).map cellT).length = n) := ⟨hn, by rw [List.length_map, cellsOf_len, hn]⟩
 have HSC : Hid (Short 10000 ((cellsOf l C).map cellT)) := cellT_short HSH.out
 have HGT : Hid (∀ j (hj : j < l.length) (hr : j < ((cellsOf l C).map cellT).length), ((cellsOf l C).map cellT)[j] = cellT (l[j], cntOf C l[j])) := fun j hj hr => by simp [cellsOf]
 obtain ⟨r, hr⟩ : ∃ r, (cellsOf l C).map cellT = r := ⟨_, rfl⟩
 rw [hr] at HN HSC HGT ⊢
 rw [hn] at hl
 clear h H hs hK hn hr hi
 go_enter Tryz.func441, Tryz.ntmps441
 go_wp2_with fail
 refine (HK.out _ _ ((Fr.refl [] w).alloc _) (Rd.lit1 i)).mono ?_
 rintro en w1 ⟨v, rfl, hsl, hge, f1⟩
 obtain ⟨va, vc, hv⟩ := hsl.form
 rw [HN.out.1] at hv
 subst hv
 have F1 : Fr [] w w1 := ((Fr.refl [] w).alloc _).same f1
 have k4 := cell_fr F1 k4 (by simp)
 have HGE : Hid (Ge w.heap.size (Value.slice va n vc).ownBlock.toList) := hge.mono (by simp)
 have HS1 : Hid (SS w1 (.slice va n vc) l) := hsl
 have HF1 := Lib.hid F1
 clear f1 hge hsl F1 k0 k1 HK
 go_wp2_with fail
 go_loopw [19] (fun u19 wr => ∃ (j : Nat), j ≤ n ∧ u19 = .int .i64 j ∧ Hid (Sl wr 9 1 (.slice va n vc) n ((r.take j ++ l.drop j).map Value.string)) ∧ Hid (Fr [] w wr) ∧ Hid (wr.cell? ⟨e, 5, none⟩ = some (ptr y))) (fun u19 _ => n - (intOf u19).toNat)
 case atStart => exact ⟨0, by omega, rfl, by have := HS1.out; rw [List.take_zero, List.drop_zero, List.nil_append]; show Sl _ _ _ _ _ _; rw [← HN.out.1] at this ⊢; exact this, HF1, k4⟩
 case round =>
  obtain ⟨j, hj, rfl, hS, hF, hk4⟩ := hrel
  replace k4 := hk4.out
  by_cases hlt : j < n
  ·have hjl : j < l.length := by rw [HN.out.1]; exact hlt
   have hjr : j < r.length := by rw [HN.out.2]; exact hlt
   have hlr : l.length = r.length := HN.out.1.trans HN.out.2.symm
   obtain ⟨gb, go, gc, hgv, _⟩ := hS.out.pos (by omega)
   simp at hgv
   obtain ⟨rfl, rfl⟩ := hgv
   have x0 := hS.out.cell (j := j) (u := .string l[j]) (by rw [List.getElem?_map, mix_get hlr j hjl]; rfl)
   have hset := mix_set hlr j hjl
   have hgt := HGT.out j hjl hjr
   have hz : l[j].size ≤ 9000 := HSH.out _ (List.getElem_mem hjl)
   have hgb : w.heap.size ≤ gb := HGE.out gb (by simp [Value.ownBlock])
   have HSET : Hid ((r.take j ++ l.drop j).set j (cellT (l[j], cntOf C l[j])) = r.take (j + 1) ++ l.drop (j + 1)) := by rw [← hgt]; exact hset
   have h3 := cnt_le3 HC3.out l[j]
   obtain ⟨key, hke⟩ : ∃ k, l[j] = k := ⟨_, rfl⟩
   rw [hke] at x0 HSET hz h3
   have HGG := HG.out wr hF.out key hz
   obtain ⟨m, hm⟩ : ∃ m, cntOf C key = m := ⟨_, rfl⟩
   rw [hm] at HGG HSET h3
   have HGG := Lib.hid HGG
   have hc : Hid (Utf8.encode ((48 + m : Nat) : Int) = ⟨#[UInt8.ofNat (48 + m)]⟩) := encode_count m h3
   have e2 : IntKind.i64.wrap (48 + (m : Int)) = ((48 + m : Nat) : Int) := by rw [IntWalk.i64_in _ (by omega)]; omega
   have e3 : IntKind.i32.wrap ((48 + m : Nat) : Int) = ((48 + m : Nat) : Int) := IntWalk.i32_in _ (by omega)
   obtain ⟨B, hB⟩ : ∃ x : ByteArray, ⟨#[UInt8.ofNat (48 + m)]⟩ = x := ⟨_, rfl⟩
   have hBs : B.size = 1 := by rw [← hB]; rfl
   have hcB := hc.out
   simp only [cellT] at HSET
   rw [hB] at HSET hcB
   obtain ⟨z, hz2⟩ : ∃ z : Int, z = ((48 + m : Nat) : Int) := ⟨_, rfl⟩
   rw [← hz2] at e2 e3 hcB
   have q1 : (j : Int) < (n : Int) := by omega
   have q2 : ¬ 9223372036854775807 < key.size + 1 := by omega
   have q3 : ¬ 9223372036854775807 < key.size + 1 + B.size := by omega
   clear hset hgt hke hm hc hB hz2 HGT
   go_wp2_with fail
   refine HGG.out.mono ?_
   rintro en w3 ⟨bb, rfl, f3⟩
   have S3 := hS.out.fr f3 (fun _ _ => by simp)
   have hfz : w3.frozen? ⟨gb, go + j, none⟩ = false := by
    rcases S3.2 with ⟨h1, _⟩ | ⟨g', off', cap', cur, h1, hgg, _⟩
    ·simp at h1
    ·simp at h1
     obtain ⟨⟨rfl, rfl⟩, rfl⟩ := h1
     exact free_of_block hgg _
   have x3 := cell_fr f3 x0 (by simp)
   have k43 := cell_fr f3 k4 (by simp)
   have HSS := Lib.hid S3
   have HF3 := Lib.hid (hF.out.same f3)
   have HNEW : Hid (Fr [] w (w3.setCell ⟨gb, go + j, none⟩ (.string (key ++ ⟨#[47]⟩ ++ B))) ∧ Sl (w3.setCell ⟨gb, go + j, none⟩ (.string (key ++ ⟨#[47]⟩ ++ B))) 9 1 (.slice (some ⟨gb, go, none⟩) n vc) n ((r.take (j + 1) ++ l.drop (j + 1)).map Value.string)) := by
    refine ⟨HF3.out.setNew hgb _, ?_⟩
    have := HSS.out.set j (.string (key ++ ⟨#[47]⟩ ++ B))
    rw [← List.map_set, HSET.out] at this
    exact this
   clear f3 S3
   go_wp2
   exact ⟨⟨j + 1, by omega, by go_num, HNEW.out.2, HNEW.out.1, cell_fr HNEW.out.1 HK4.out (by simp)⟩, by simp [intOf]; omega⟩
  ·have : n = j := by omega
   subst this
   go_wp2
   go_ret
   refine ⟨_, rfl, ⟨?_, HGE.out⟩, hF.out⟩
   have := hS.out
   have e : r.take n ++ l.drop n = r := by rw [List.take_of_length_le (by rw [HN.out.2]; exact Nat.le_refl _), List.drop_of_length_le (by rw [HN.out.1]; exact Nat.le_refl _), List.append_nil]
   rw [e] at this
   show Sl wr 9 1 (.slice va n vc) r.length _
   rw [HN.out.2]
   exact this
end Go.Proofs.YtfeicmpbfbhiiaaGreat
set_option linter.unusedVariables false
set_option linter.unusedSimpArgs false
namespace Go.Proofs.YtfeicmpbfbhiiaaGreat
open Go.RowKit
open Act renaming put → pE0
open List renaming getElem_toArray → pE1, getElem_cons_succ → pE2, getElem_cons_zero → pE3, setIfInBounds_toArray → pE4, set_cons_zero → pE5, set_cons_succ → pE6
attribute [local go_sem ↓] Go.wp_at_zero Go.wp_at_succ
theorem Gone.ss {w w' : World} {v : Value} {l : List ByteArray} (h : Gone w w' v l) : SS w' v l := h.1
set_option maxHeartbeats 4000000 in
set_option maxRecDepth 100000 in
theorem s3state {w : World} {e : Nat} {F : List Nat} {s : S3} (H : ES w e F s) (hs : ∀ i, Short 9000 (s.K i)) : Calls Tryz.prog 432 #[ptr e] w fun en w' => en = .returned (.string s.text) ∧ Fr [] w w' := by
 have hlen := H.1.len
 obtain ⟨hi, g, cap, x, y, H⟩ := H
 obtain ⟨F1, h⟩ := H.er
 have k0 := h.k0
 have k1 := h.k1
 have k2 := h.kr0
 have hl : ∀ i, (s.K i).length ≤ 5000 := fun i => Nat.le_trans (hlen i) (by decide)
 have hl2 := hl 2
 have hlc0 : ((cellsOf (s.K 0) s.C).map cellT).length ≤ 5000 := by rw [List.length_map, cellsOf_len]; exact hl 0
 have HK0 : Hid (∀ W, Fr [] w W → Calls Tryz.prog 441 #[ptr e, .int .i64 (0 : Nat)] W fun en w' => ∃ v', en = .returned v' ∧ SS w' v' ((cellsOf (s.K 0) s.C).map cellT) ∧ Fr [] W w') := fun W f => by
  refine (scounted (H.fr0 f) 0 (by decide) (hl 0) (hs 0)).mono ?_
  rintro en w' ⟨v', rfl, a, c⟩
  exact ⟨v', rfl, a.ss, c⟩
 have hz0 := text_size (name := ⟨#[83]⟩) (by decide) (cellT_short (C := s.C) (hs 0)) hlc0
 have HT0 : Hid (∀ W v, SS W v ((cellsOf (s.K 0) s.C).map cellT) → Calls Tryz.prog 440 #[.string ⟨#[83]⟩, v] W fun en w' => en = .returned (.string (textB ⟨#[83]⟩ ((cellsOf (s.K 0) s.C).map cellT))) ∧ Fr [] W w') := fun W v hv => textS hv hlc0 (cellT_short (hs 0)) _ (by decide)
 have hlc1 : ((cellsOf (s.K 1) s.C).map cellT).length ≤ 5000 := by rw [List.length_map, cellsOf_len]; exact hl 1
 have HK1 : Hid (∀ W, Fr [] w W → Calls Tryz.prog 441 #[ptr e, .int .i64 (1 : Nat)] W fun en w' => ∃ v', en = .returned v' ∧ SS w' v' ((cellsOf (s.K 1) s.C).map cellT) ∧ Fr [] W w') := fun W f => by
  refine (scounted (H.fr0 f) 1 (by decide) (hl 1) (hs 1)).mono ?_
  rintro en w' ⟨v', rfl, a, c⟩
  exact ⟨v', rfl, a.ss, c⟩
 have hz1 := text_size (name := ⟨#[77]⟩) (by decide) (cellT_short (C := s.C) (hs 1)) hlc1
 have HT1 : Hid (∀ W v, SS W v ((cellsOf (s.K 1) s.C).map cellT) → Calls Tryz.prog 440 #[.string ⟨#[77]⟩, v] W fun en w' => en = .returned (.string (textB ⟨#[77]⟩ ((cellsOf (s.K 1) s.C).map cellT))) ∧ Fr [] W w') := fun W v hv => textS hv hlc1 (cellT_short (hs 1)) _ (by decide)
 have hs2 : Short 10000 (s.K 2) := (hs 2).mono (by decide)
 have HK2 : Hid (∀ W v, Fr [] w W → Rd W 1 v 1 ([2].map fun i => Value.int .i64 (i : Nat)) → Calls Tryz.prog 438 #[.agg #[.slice (some ⟨g, 0, none⟩) 3 cap, ptr x], v] W fun en w' => ∃ v', en = .returned v' ∧ SS w' v' (s.K 2) ∧ Fr [] W w') := fun W v f hv => by
  refine (ekeysS (h.fr0 irokS f) [2] hv (by decide) (by decide)).mono ?_
  rintro en w' ⟨v', rfl, a, _, c⟩
  rw [List.flatMap_singleton] at a
  exact ⟨v', rfl, a, c⟩
 have hz2 := text_size (name := ⟨#[71]⟩) (by decide) hs2 hl2
 have HT2 : Hid (∀ W v, SS W v (s.K 2) → Calls Tryz.prog 440 #[.string ⟨#[71]⟩, v] W fun en w' => en = .returned (.string (textB ⟨#[71]⟩ (s.K 2))) ∧ Fr [] W w') := fun W v hv => textS hv hl2 hs2 _ (by decide)
 unfold S3.text
 obtain ⟨l0, hL0⟩ : ∃ l, (cellsOf (s.K 0) s.C).map cellT = l := ⟨_, rfl⟩
 obtain ⟨l1, hL1⟩ : ∃ l, (cellsOf (s.K 1) s.C).map cellT = l := ⟨_, rfl⟩
 obtain ⟨l2, hL2⟩ : ∃ l, s.K 2 = l := ⟨_, rfl⟩
 rw [hL0] at HK0 HT0 hz0 ⊢
 rw [hL1] at HK1 HT1 hz1 ⊢
 rw [hL2] at HK2 HT2 hz2 ⊢
 obtain ⟨t0, ht0⟩ : ∃ t, textB ⟨#[83]⟩ l0 = t := ⟨_, rfl⟩
 obtain ⟨t1, ht1⟩ : ∃ t, textB ⟨#[77]⟩ l1 = t := ⟨_, rfl⟩
 obtain ⟨t2, ht2⟩ : ∃ t, textB ⟨#[71]⟩ l2 = t := ⟨_, rfl⟩
 rw [ht0] at hz0 HT0 ⊢
 rw [ht1] at hz1 HT1 ⊢
 rw [ht2] at hz2 HT2 ⊢
 have hsh : Short 100000000 [t0, t1, t2] := (((Short.nil.cons hz2).cons hz1).cons hz0)
 have HJ : Hid (∀ W v, SS W v [t0, t1, t2] → Calls Tryz.prog 301 #[v, .string ⟨#[59]⟩] W fun en w' => en = .returned (.string (joinB [t0, t1, t2] ⟨#[59]⟩)) ∧ Fr [] W w') := fun W v hv => sjoin hv (by simp) hsh _ rfl
 obtain ⟨R, hR⟩ : ∃ r, joinB [t0, t1, t2] ⟨#[59]⟩ = r := ⟨_, rfl⟩
 rw [hR] at HJ ⊢
 obtain ⟨c, hc⟩ : ∃ c, s.c = c := ⟨_, rfl⟩
 rw [hc] at k2
 clear h H hs hs2 hi hl hlen hc hl2 hlc0 hlc1 hz0 hz1 hz2 ht0 ht1 ht2 hsh hR hL0 hL1 hL2
 go_enter Tryz.func432, Tryz.ntmps432
 go_wp2_with fail
 refine wp_region_inv (fun j v wz => match j with | 0 | 3 | 6 | 7 => v = ptr e | 1 => SS wz v l0 | 4 => SS wz v l1 | 11 => SS wz v l2 | 2 => v = .string t0 | 5 => v = .string t1 | 12 => v = .string t2 | 8 => v = ptr e | 9 => v = .agg #[.slice (some ⟨g, 0, none⟩) 3 cap, ptr x] | 10 => Rd wz 1 v 1 ([2].map fun i => Value.int .i64 (i : Nat)) | 13 => SS wz v [t0, t1, t2] | 14 | 15 => v = .string R | _ => True) (fun _ wz => ECs 3 e g cap x 2 c w wz) (fun a b => Fr [] a b) (by kernel_rfl) (by kernel_rfl) (by kernel_rfl) ?hst ⟨⟨k0, k1, k2⟩, (Fr.refl [] _).drew⟩ ?hops ?hfin
 case hst =>
  intro j v a b h f
  split at h <;> first | exact h | exact Rd.fr0 h f | exact SS.fr0 h f
 case hops =>
  repeat' (first | exact OpsOk.nil | refine OpsOk.cons ?_ ?_)
  all_goals try exact rgT
  ·skip
   intro D X w' K hD hcl hS hI hK
   simp only [afterI, Region.binds, forall_const] at hI
   simp only [putL, pE0, pE1, pE4, pE5, pE6, Nat.reduceAdd, up, Nat.reduceEqDiff, if_true, if_false, reduceIte] at hK ⊢
   try simp only [hI] at hK
   go_simp
   refine (HK0.out _ hS.2.out).mono ?_
   rintro en w3 ⟨v3, rfl, h3, f3⟩
   exact hK.out _ _ h3 (hS.fr f3) f3
  ·skip
   intro D X w' K hD hcl hS hI hK
   simp only [afterI, Region.binds, forall_const] at hI
   simp only [putL, pE0, pE1, pE4, pE5, pE6, Nat.reduceAdd, up, Nat.reduceEqDiff, if_true, if_false, reduceIte] at hK ⊢
   try simp only [hI] at hK
   go_simp
   refine (HT0.out _ _ hI.1).mono ?_
   rintro en w3 ⟨rfl, f3⟩
   exact hK.out _ _ rfl (hS.fr f3) f3
  ·skip
   intro D X w' K hD hcl hS hI hK
   simp only [afterI, Region.binds, forall_const] at hI
   simp only [putL, pE0, pE1, pE4, pE5, pE6, Nat.reduceAdd, up, Nat.reduceEqDiff, if_true, if_false, reduceIte] at hK ⊢
   try simp only [hI] at hK
   go_simp
   refine (HK1.out _ hS.2.out).mono ?_
   rintro en w3 ⟨v3, rfl, h3, f3⟩
   exact hK.out _ _ h3 (hS.fr f3) f3
  ·skip
   intro D X w' K hD hcl hS hI hK
   simp only [afterI, Region.binds, forall_const] at hI
   simp only [putL, pE0, pE1, pE4, pE5, pE6, Nat.reduceAdd, up, Nat.reduceEqDiff, if_true, if_false, reduceIte] at hK ⊢
   try simp only [hI] at hK
   go_simp
   refine (HT1.out _ _ hI.1).mono ?_
   rintro en w3 ⟨rfl, f3⟩
   exact hK.out _ _ rfl (hS.fr f3) f3
  ·skip
   intro D X w' K hD hcl hS hI hK
   simp only [afterI, Region.binds, forall_const] at hI
   simp only [putL, pE0, pE1, pE4, pE5, pE6, Nat.reduceAdd, up, Nat.reduceEqDiff, if_true, if_false, reduceIte] at hK ⊢
   try simp only [hI] at hK
   go_simp
   exact hK.out _ _ (Rd.lit1 2) (hS.fr ((Fr.refl [] _).alloc _)) ((Fr.refl [] _).alloc _)
  ·skip
   intro D X w' K hD hcl hS hI hK
   simp only [afterI, Region.binds, forall_const] at hI
   simp only [putL, pE0, pE1, pE4, pE5, pE6, Nat.reduceAdd, up, Nat.reduceEqDiff, if_true, if_false, reduceIte] at hK ⊢
   try simp only [hI] at hK
   go_simp
   refine (HK2.out _ _ hS.2.out hI.2.1).mono ?_
   rintro en w3 ⟨v3, rfl, h3, f3⟩
   exact hK.out _ _ h3 (hS.fr f3) f3
  ·skip
   intro D X w' K hD hcl hS hI hK
   simp only [afterI, Region.binds, forall_const] at hI
   simp only [putL, pE0, pE1, pE4, pE5, pE6, Nat.reduceAdd, up, Nat.reduceEqDiff, if_true, if_false, reduceIte] at hK ⊢
   try simp only [hI] at hK
   go_simp
   refine (HT2.out _ _ hI.1).mono ?_
   rintro en w3 ⟨rfl, f3⟩
   exact hK.out _ _ rfl (hS.fr f3) f3
  ·skip
   intro D X w' K hD hcl hS hI hK
   simp only [afterI, Region.binds, forall_const] at hI
   simp only [putL, pE0, pE1, pE4, pE5, pE6, Nat.reduceAdd, up, Nat.reduceEqDiff, if_true, if_false, reduceIte] at hK ⊢
   try simp only [hI] at hK
   go_simp
   exact hK.out _ _ (SS.lit [t0, t1, t2] (by simp)) (hS.fr ((Fr.refl [] _).alloc _)) ((Fr.refl [] _).alloc _)
  ·skip
   intro D X w' K hD hcl hS hI hK
   simp only [afterI, Region.binds, forall_const] at hI
   simp only [putL, pE0, pE1, pE4, pE5, pE6, Nat.reduceAdd, up, Nat.reduceEqDiff, if_true, if_false, reduceIte] at hK ⊢
   try simp only [hI] at hK
   go_simp
   refine (HJ.out _ _ hI.1).mono ?_
   rintro en w3 ⟨rfl, f3⟩
   exact hK.out _ _ rfl (hS.fr f3) f3
 case hfin =>
  intro D X wa hS hD hI
  simp only [putL, pE0, pE1, pE4, pE5, pE6, Nat.reduceAdd]
  have h15 : X 15 = .string R := hI 15 (by decide)
  rw [h15]
  have HFW := hS.2
  clear h15 hS hD hI
  go_wp2
  go_ret
  exact ⟨rfl, HFW.out⟩
end Go.Proofs.YtfeicmpbfbhiiaaGreat
