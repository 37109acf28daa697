/- Texts of a proof about the given program, those parts that this claim reaches. -/
import Derived.Test.YtfeicmpbfbhiiaaGreatPEg27
import Derived.Test.YtfeicmpbfbhiiaaGreatPEg23
set_option linter.unusedVariables false
set_option linter.unusedSimpArgs false
namespace Go.Proofs.YtfeicmpbfbhiiaaGreat
open Go.RowKit
open Act renaming put → pE0
open List renaming getElem_toArray → pE1, getElem_cons_succ → pE2, getElem_cons_zero → pE3, setIfInBounds_toArray → pE4, set_cons_zero → pE5, set_cons_succ → pE6
attribute [local go_sem ↓] Go.wp_at_zero Go.wp_at_succ
section
variable {w : World} {e g cap x : Nat} {F : List Nat} {K : Rows} {c : Nat}
set_option maxRecDepth 100000 in
theorem qloadGo {r : List Value} (H : ERows IRepQ 3 203 w e g cap x F K (.int .i64 (c : Nat) :: r)) (hl : tot 3 K ≤ 4000) (key : ByteArray) (hz : key.size ≤ maxLen) {n : Nat} (hb : ((n : Int) == (c : Int)) = false)
  (HH : Hid (∀ W, Fr [] w W → Calls Tryz.prog 364 #[ptr e, .string key] W fun en w' => en = .returned (.bool false) ∧ Fr [] W w')) (HL : Hid (∀ W, Fr [] w W → Calls Tryz.prog 366 #[ptr e] W fun en w' => en = .returned (.int .i64 (n : Nat)) ∧ Fr [] W w')) :
  Calls Tryz.prog 367 #[ptr e, .string key] w fun en w' => en = .returned (.bool true) ∧ EGo IRepQ 3 203 w e g cap x F (pushK K 2 key) (.int .i64 (c : Nat) :: r) w' := by
 have kc := H.kr0
 have HE := Lib.hid H
 clear H
 go_enter Tryz.func367, Tryz.ntmps367
 go_wp2_with fail
 refine wp_region_inv (fun j v _ => match j with | 0 | 3 | 8 | 10 | 11 => v = ptr e | 1 | 2 | 5 | 6 | 7 => v = .bool false | 4 => v = .string key | 9 => v = .int .i64 (n : Nat) | 12 => v = .pointer (some ⟨e, 2, none⟩) | 13 => v = .int .i64 (c : Nat) | 14 | 15 => v = .bool false | _ => True) (fun _ w' => w'.cell? ⟨e, 2, none⟩ = some (.int .i64 (c : Nat)) ∧ Hid (Fr [] w w')) (fun _ _ => True) (by kernel_rfl) (by kernel_rfl) (by kernel_rfl) (fun _ _ _ _ h _ => h) ⟨kc, (Fr.refl [] _).drew⟩ ?hops ?hfin
 case hops =>
  repeat' (first | exact OpsOk.nil | refine OpsOk.cons ?_ ?_)
  all_goals try exact rgT
  ·skip
   intro D X w' K hD hcl hS hI hK
   simp only [afterI, Region.binds, forall_const] at hI
   simp only [putL, pE0, pE1, pE4, pE5, pE6, Nat.reduceAdd, up, Nat.reduceEqDiff, if_true, if_false, reduceIte] at hK ⊢
   try simp only [hI] at hK
   go_simp
   refine (HH.out _ hS.2.out).mono ?_
   rintro en w3 ⟨rfl, f3⟩
   exact hK.out _ _ rfl ⟨cell_fr f3 hS.1 (by simp), hS.2.out.same f3⟩ trivial
  ·skip
   intro D X w' K hD hcl hS hI hK
   simp only [afterI, Region.binds, forall_const] at hI
   simp only [putL, pE0, pE1, pE4, pE5, pE6, Nat.reduceAdd, up, Nat.reduceEqDiff, if_true, if_false, reduceIte] at hK ⊢
   try simp only [hI] at hK
   go_simp
   refine (HL.out _ hS.2.out).mono ?_
   rintro en w3 ⟨rfl, f3⟩
   exact hK.out _ _ rfl ⟨cell_fr f3 hS.1 (by simp), hS.2.out.same f3⟩ trivial
 case hfin =>
  intro D X wa hS hD hI
  simp only [putL, pE0, pE1, pE4, pE5, pE6, Nat.reduceAdd]
  have h15 : X 15 = .bool false := hI 15 (by decide)
  rw [h15]
  have HFW := hS.2
  clear h15 hS hD hI kc hb HL HH
  have H0 := HE.out.fr0 irokQ HFW.out
  have k0 := H0.k0
  have k1 := H0.k1
  go_wp2_with fail
  refine (epushQ H0 (by omega) (r := 2) (by decide) key hz).mono ?_
  rintro en w1 ⟨rfl, F1, H1, hs1, hg1⟩
  have FIN := Lib.hid (And.intro H1 (And.intro (hs1.old HFW.out.size) (HFW.out.nil.same hg1)))
  clear H0 k0 k1 H1 hs1 hg1
  go_wp2
  go_ret
  exact ⟨rfl, F1, FIN.out⟩
set_option maxRecDepth 100000 in
theorem sloadGo {y sm gh : Nat} {C : Cnt} (H : SR w e g cap x y c sm gh F K C) (kc : w.cell? ⟨e, 2, none⟩ = some (.int .i64 (c : Nat))) (hl : tot 3 K ≤ 4000) (key : ByteArray) (hz : key.size ≤ maxLen) {n : Nat} (hb : ((n : Int) == (c : Int)) = false)
  (HH : Hid (∀ W, Fr [] w W → Calls Tryz.prog 426 #[ptr e, .string key] W fun en w' => en = .returned (.bool false) ∧ Fr [] W w')) (HL : Hid (∀ W, Fr [] w W → Calls Tryz.prog 428 #[ptr e] W fun en w' => en = .returned (.int .i64 (n : Nat)) ∧ Fr [] W w')) :
  Calls Tryz.prog 429 #[ptr e, .string key] w fun en w' => en = .returned (.bool true) ∧ SGo w e g cap x y c sm gh F (pushK K 1 key) (upM C key (some 0)) w' := by
 have HE := Lib.hid H
 clear H
 go_enter Tryz.func429, Tryz.ntmps429
 go_wp2_with fail
 refine wp_region_inv (fun j v _ => match j with | 0 | 3 | 8 | 10 | 11 => v = ptr e | 1 | 2 | 5 | 6 | 7 => v = .bool false | 4 => v = .string key | 9 => v = .int .i64 (n : Nat) | 12 => v = .pointer (some ⟨e, 2, none⟩) | 13 => v = .int .i64 (c : Nat) | 14 | 15 => v = .bool false | _ => True) (fun _ w' => w'.cell? ⟨e, 2, none⟩ = some (.int .i64 (c : Nat)) ∧ Hid (Fr [] w w')) (fun _ _ => True) (by kernel_rfl) (by kernel_rfl) (by kernel_rfl) (fun _ _ _ _ h _ => h) ⟨kc, (Fr.refl [] _).drew⟩ ?hops ?hfin
 case hops =>
  repeat' (first | exact OpsOk.nil | refine OpsOk.cons ?_ ?_)
  all_goals try exact rgT
  ·skip
   intro D X w' K hD hcl hS hI hK
   simp only [afterI, Region.binds, forall_const] at hI
   simp only [putL, pE0, pE1, pE4, pE5, pE6, Nat.reduceAdd, up, Nat.reduceEqDiff, if_true, if_false, reduceIte] at hK ⊢
   try simp only [hI] at hK
   go_simp
   refine (HH.out _ hS.2.out).mono ?_
   rintro en w3 ⟨rfl, f3⟩
   exact hK.out _ _ rfl ⟨cell_fr f3 hS.1 (by simp), hS.2.out.same f3⟩ trivial
  ·skip
   intro D X w' K hD hcl hS hI hK
   simp only [afterI, Region.binds, forall_const] at hI
   simp only [putL, pE0, pE1, pE4, pE5, pE6, Nat.reduceAdd, up, Nat.reduceEqDiff, if_true, if_false, reduceIte] at hK ⊢
   try simp only [hI] at hK
   go_simp
   refine (HL.out _ hS.2.out).mono ?_
   rintro en w3 ⟨rfl, f3⟩
   exact hK.out _ _ rfl ⟨cell_fr f3 hS.1 (by simp), hS.2.out.same f3⟩ trivial
 case hfin =>
  intro D X wa hS hD hI
  simp only [putL, pE0, pE1, pE4, pE5, pE6, Nat.reduceAdd]
  have h15 : X 15 = .bool false := hI 15 (by decide)
  rw [h15]
  have HFW := hS.2
  clear h15 hS hD hI kc hb HL HH
  have H0 := HE.out.fr0 HFW.out
  go_wp2_with fail
  refine (scomes H0 (by omega) (r := 1) (by decide) key hz (n := 0) (by decide)).mono ?_
  rintro en w1 ⟨rfl, F1, H1, hs1, hg1⟩
  have FIN := Lib.hid (And.intro H1 (And.intro (hs1.old HFW.out.size) (HFW.out.nil.same hg1)))
  clear H0 H1 hs1 hg1
  go_wp2
  go_ret
  exact ⟨rfl, F1, FIN.out⟩
end
section
variable {u : UC} {w : World} {F : List Nat} {K : Rows} {k : Sk} {d : Dr}
theorem umanyR (H : UR u w F K k d) (is : List Nat) (his : ∀ i, i ∈ is → i < 3) (hl : is.length ≤ 100) {s : Nat} (hs : (is.map fun i => (K i).length).sum = s) : Hid (∀ W vs, Fr [] w W → Rd W 1 vs is.length (is.map fun i => Value.int .i64 (i : Nat)) → Calls Tryz.prog 398 #[.agg #[.slice (some ⟨u.g, 0, none⟩) 3 u.cap, ptr u.x], vs] W fun en w' => en = .returned (.int .i64 (s : Nat)) ∧ Fr [] W w') := fun W vs f hv => by
 obtain ⟨F1, h⟩ := (H.fr0 f).er
 exact hs ▸ emanyU h is hv his hl
set_option maxHeartbeats 2000000 in
set_option maxRecDepth 100000 in
theorem uloadGo (H : UR u w F K k d) (hl : tot 3 K ≤ 4000) (hma : u.ma ≤ 1024) (key : ByteArray) (hz : key.size ≤ maxLen) {n : Nat} (hb : ((n : Int) == (u.c : Int)) = false)
  (HH : Hid (∀ W, Fr [] w W → Calls Tryz.prog 388 #[ptr u.e, .string key] W fun en w' => en = .returned (.bool false) ∧ Fr [] W w')) (HL : Hid (∀ W, Fr [] w W → Calls Tryz.prog 390 #[ptr u.e] W fun en w' => en = .returned (.int .i64 (n : Nat)) ∧ Fr [] W w')) :
  Calls Tryz.prog 391 #[ptr u.e, .string key] w fun en w' => en = .returned (.bool true) ∧ UGo u w F (pushK K (if (K 1).length + (K 2).length < u.ma then 1 else 0) key) k d w' := by
 obtain ⟨F0, h0⟩ := H.er
 have kc := h0.kr0
 have HE := Lib.hid H
 obtain ⟨s, hs⟩ : ∃ s, (K 1).length + (K 2).length = s := ⟨_, rfl⟩
 have HM := umanyR H [1, 2] (by decide) (by decide) (s := s) (by rw [← hs]; simp)
 rw [hs]
 obtain ⟨c, hc⟩ : ∃ c, c = u.c := ⟨_, rfl⟩
 rw [← hc] at kc hb
 obtain ⟨g, hg⟩ : ∃ g, g = u.g := ⟨_, rfl⟩
 obtain ⟨x, hx⟩ : ∃ x, x = u.x := ⟨_, rfl⟩
 obtain ⟨cap, hcap⟩ : ∃ cap, cap = u.cap := ⟨_, rfl⟩
 obtain ⟨ma, hm⟩ : ∃ m, m = u.ma := ⟨_, rfl⟩
 rw [← hm] at hma ⊢
 obtain ⟨r, hr⟩ : ∃ r, (if s < ma then 1 else 0) = r := ⟨_, rfl⟩
 rw [hr]
 have HU : Hid (c = u.c ∧ g = u.g ∧ x = u.x ∧ cap = u.cap ∧ ma = u.ma ∧ (if s < ma then 1 else 0) = r) := ⟨hc, hg, hx, hcap, hm, hr⟩
 have HM : Hid (∀ W vs, Fr [] w W → Rd W 1 vs 2 (([1, 2] : List Nat).map fun i => Value.int .i64 (i : Nat)) → Calls Tryz.prog 398 #[.agg #[.slice (some ⟨g, 0, none⟩) 3 cap, ptr x], vs] W fun en w' => en = .returned (.int .i64 (s : Nat)) ∧ Fr [] W w') := by
  have := HM.out
  rw [← hg, ← hx, ← hcap] at this
  exact this
 have hcase : (s < ma ∧ r = 1) ∨ (ma ≤ s ∧ r = 0) := by
  by_cases h : s < ma
  ·rw [if_pos h] at hr; exact .inl ⟨h, hr.symm⟩
  ·rw [if_neg h] at hr; exact .inr ⟨by omega, hr.symm⟩
 clear H h0 hs hc hg hx hcap hm hr
 go_enter Tryz.func391, Tryz.ntmps391
 go_wp2_with fail
 refine wp_region_inv (fun j v _ => match j with | 0 | 3 | 8 | 10 | 11 => v = ptr u.e | 1 | 2 | 5 | 6 | 7 => v = .bool false | 4 => v = .string key | 9 => v = .int .i64 (n : Nat) | 12 => v = .pointer (some ⟨u.e, 2, none⟩) | 13 => v = .int .i64 (c : Nat) | 14 | 15 => v = .bool false | _ => True) (fun _ w' => w'.cell? ⟨u.e, 2, none⟩ = some (.int .i64 (c : Nat)) ∧ Hid (Fr [] w w')) (fun _ _ => True) (by kernel_rfl) (by kernel_rfl) (by kernel_rfl) (fun _ _ _ _ h _ => h) ⟨kc, (Fr.refl [] _).drew⟩ ?hops ?hfin
 case hops =>
  repeat' (first | exact OpsOk.nil | refine OpsOk.cons ?_ ?_)
  all_goals try exact rgT
  ·skip
   intro D X w' K hD hcl hS hI hK
   simp only [afterI, Region.binds, forall_const] at hI
   simp only [putL, pE0, pE1, pE4, pE5, pE6, Nat.reduceAdd, up, Nat.reduceEqDiff, if_true, if_false, reduceIte] at hK ⊢
   try simp only [hI] at hK
   go_simp
   refine (HH.out _ hS.2.out).mono ?_
   rintro en w3 ⟨rfl, f3⟩
   exact hK.out _ _ rfl ⟨cell_fr f3 hS.1 (by simp), hS.2.out.same f3⟩ trivial
  ·skip
   intro D X w' K hD hcl hS hI hK
   simp only [afterI, Region.binds, forall_const] at hI
   simp only [putL, pE0, pE1, pE4, pE5, pE6, Nat.reduceAdd, up, Nat.reduceEqDiff, if_true, if_false, reduceIte] at hK ⊢
   try simp only [hI] at hK
   go_simp
   refine (HL.out _ hS.2.out).mono ?_
   rintro en w3 ⟨rfl, f3⟩
   exact hK.out _ _ rfl ⟨cell_fr f3 hS.1 (by simp), hS.2.out.same f3⟩ trivial
 case hfin =>
  intro D X wa hS hD hI
  simp only [putL, pE0, pE1, pE4, pE5, pE6, Nat.reduceAdd]
  have h15 : X 15 = .bool false := hI 15 (by decide)
  rw [h15]
  have HFW := hS.2
  clear h15 hS hD hI kc hb HL HH
  have H0 := HE.out.fr0 HFW.out
  obtain ⟨F0, h0⟩ := H0.er
  have k0 := h0.k0
  have k1 := h0.k1
  have k2 : wa.cell? ⟨u.e, 4, none⟩ = some (.int .i64 (ma : Nat)) := by rw [HU.out.2.2.2.2.1]; exact h0.kr2
  have HM2 : Hid (∀ W vs, Fr [] wa W → Rd W 1 vs 2 (([1, 2] : List Nat).map fun i => Value.int .i64 (i : Nat)) → Calls Tryz.prog 398 #[.agg #[.slice (some ⟨g, 0, none⟩) 3 cap, ptr x], vs] W fun en w' => en = .returned (.int .i64 (s : Nat)) ∧ Fr [] W w') := fun W vs f hv => HM.out W vs (HFW.out.same f) hv
  have HM := HM2
  rw [← HU.out.2.1, ← HU.out.2.2.2.1] at k0
  rw [← HU.out.2.2.1] at k1
  clear H0 h0 HM2
  obtain ⟨c, hc⟩ : ∃ c, c = ma := ⟨_, rfl⟩
  rw [← hc] at hcase k2
  have HCM := Lib.hid hc
  clear hc
  rcases hcase with ⟨q, hr⟩ | ⟨q, hr⟩
  ·have HR := Lib.hid hr
   have q1 : (s : Int) < (c : Int) := by omega
   clear hr
   go_wp2_with fail
   refine wp_region_inv (fun j v wz => match j with | 0 | 1 | 2 | 6 | 7 => v = ptr u.e | 3 => v = .agg #[.slice (some ⟨g, 0, none⟩) 3 cap, ptr x] | 4 => Rd wz 1 v 2 ([1, 2].map fun i => Value.int .i64 (i : Nat)) | 5 => v = .int .i64 (s : Nat) | 8 => v = .pointer (some ⟨u.e, 4, none⟩) | 9 => v = .int .i64 (c : Nat) | 10 => v = .bool true | _ => True) (fun _ wz => ECs 3 u.e g cap x 4 c wa wz) (fun a b => Fr [] a b) (by kernel_rfl) (by kernel_rfl) (by kernel_rfl) ?hst ⟨⟨k0, k1, k2⟩, (Fr.refl [] _).drew⟩ ?hops ?hfin
   case hst =>
    intro j v a b h f
    split at h <;> first | exact h | exact Rd.fr h f (fun _ h => by cases h)
   case hops =>
    repeat' (first | exact OpsOk.nil | refine OpsOk.cons ?_ ?_)
    all_goals try exact rgT
    ·skip
     intro D X w' K hD hcl hS hI hK
     simp only [afterI, Region.binds, forall_const] at hI
     simp only [putL, pE0, pE1, pE4, pE5, pE6, Nat.reduceAdd, up, Nat.reduceEqDiff, if_true, if_false, reduceIte] at hK ⊢
     try simp only [hI] at hK
     go_simp
     exact hK.out _ _ (Rd.lit2 1 2) (hS.fr ((Fr.refl [] _).alloc _)) ((Fr.refl [] _).alloc _)
    ·skip
     intro D X w' K hD hcl hS hI hK
     simp only [afterI, Region.binds, forall_const] at hI
     simp only [putL, pE0, pE1, pE4, pE5, pE6, Nat.reduceAdd, up, Nat.reduceEqDiff, if_true, if_false, reduceIte] at hK ⊢
     try simp only [hI] at hK
     go_simp
     refine (HM.out _ _ hS.2.out hI.2.1).mono ?_
     rintro en w3 ⟨rfl, f3⟩
     exact hK.out _ _ rfl (hS.fr f3) f3
   case hfin =>
    intro D X wb hS hD hI
    simp only [putL, pE0, pE1, pE4, pE5, pE6, Nat.reduceAdd]
    have h10 : X 10 = .bool true := hI 10 (by decide)
    rw [h10]
    have HFB := hS.2
    have k0 := hS.1.1
    have k1 := hS.1.2.1
    clear h10 hS hD hI HM k2
    have HP := Lib.hid ((HE.out.fr0 (HFW.out.same HFB.out)).push (by omega) (r := 1) (by decide) key hz)
    rw [← HU.out.2.1, ← HU.out.2.2.1, ← HU.out.2.2.2.1] at HP
    go_wp2_with fail
    refine HP.out.mono ?_
    rintro en w1 ⟨rfl, F1, H1, hs1, hg1⟩
    have FIN := Lib.hid (And.intro H1 (And.intro (hs1.old (HFW.out.same HFB.out).size) ((HFW.out.same HFB.out).nil.same hg1)))
    clear k0 k1 H1 hs1 hg1
    go_wp2
    go_ret
    rw [HR.out]
    exact ⟨rfl, F1, FIN.out⟩
  ·have HR := Lib.hid hr
   have q1 : (c : Int) ≤ (s : Int) := by omega
   have q2 : decide (s < c) = false := decide_eq_false (by omega)
   clear hr
   go_wp2_with fail
   refine wp_region_inv (fun j v wz => match j with | 0 | 1 | 2 | 6 | 7 => v = ptr u.e | 3 => v = .agg #[.slice (some ⟨g, 0, none⟩) 3 cap, ptr x] | 4 => Rd wz 1 v 2 ([1, 2].map fun i => Value.int .i64 (i : Nat)) | 5 => v = .int .i64 (s : Nat) | 8 => v = .pointer (some ⟨u.e, 4, none⟩) | 9 => v = .int .i64 (c : Nat) | 10 => v = .bool false | _ => True) (fun _ wz => ECs 3 u.e g cap x 4 c wa wz) (fun a b => Fr [] a b) (by kernel_rfl) (by kernel_rfl) (by kernel_rfl) ?hst ⟨⟨k0, k1, k2⟩, (Fr.refl [] _).drew⟩ ?hops ?hfin
   case hst =>
    intro j v a b h f
    split at h <;> first | exact h | exact Rd.fr h f (fun _ h => by cases h)
   case hops =>
    repeat' (first | exact OpsOk.nil | refine OpsOk.cons ?_ ?_)
    all_goals try exact rgT
    ·skip
     intro D X w' K hD hcl hS hI hK
     simp only [afterI, Region.binds, forall_const] at hI
     simp only [putL, pE0, pE1, pE4, pE5, pE6, Nat.reduceAdd, up, Nat.reduceEqDiff, if_true, if_false, reduceIte] at hK ⊢
     try simp only [hI] at hK
     go_simp
     exact hK.out _ _ (Rd.lit2 1 2) (hS.fr ((Fr.refl [] _).alloc _)) ((Fr.refl [] _).alloc _)
    ·skip
     intro D X w' K hD hcl hS hI hK
     simp only [afterI, Region.binds, forall_const] at hI
     simp only [putL, pE0, pE1, pE4, pE5, pE6, Nat.reduceAdd, up, Nat.reduceEqDiff, if_true, if_false, reduceIte] at hK ⊢
     try simp only [hI] at hK
     go_simp
     refine (HM.out _ _ hS.2.out hI.2.1).mono ?_
     rintro en w3 ⟨rfl, f3⟩
     exact hK.out _ _ rfl (hS.fr f3) f3
   case hfin =>
    intro D X wb hS hD hI
    simp only [putL, pE0, pE1, pE4, pE5, pE6, Nat.reduceAdd]
    have h10 : X 10 = .bool false := hI 10 (by decide)
    rw [h10]
    have HFB := hS.2
    have k0 := hS.1.1
    have k1 := hS.1.2.1
    clear h10 hS hD hI HM k2
    have HP := Lib.hid ((HE.out.fr0 (HFW.out.same HFB.out)).push (by omega) (r := 0) (by decide) key hz)
    rw [← HU.out.2.1, ← HU.out.2.2.1, ← HU.out.2.2.2.1] at HP
    go_wp2_with fail
    refine HP.out.mono ?_
    rintro en w1 ⟨rfl, F1, H1, hs1, hg1⟩
    have FIN := Lib.hid (And.intro H1 (And.intro (hs1.old (HFW.out.same HFB.out).size) ((HFW.out.same HFB.out).nil.same hg1)))
    clear k0 k1 H1 hs1 hg1
    go_wp2
    go_ret
    rw [HR.out]
    exact ⟨rfl, F1, FIN.out⟩
end
end Go.Proofs.YtfeicmpbfbhiiaaGreat
set_option linter.unusedVariables false
set_option linter.unusedSimpArgs false
namespace Go.Proofs.YtfeicmpbfbhiiaaGreat
open Go.RowKit
attribute [local go_sem ↓] Go.wp_at_zero Go.wp_at_succ
theorem pushLens (K : Rows) (r : Nat) (key : ByteArray) (i : Nat) : (pushK K r key i).length ≤ (K i).length + (if i = r then 1 else 0) := by
 rw [push_len]
 have := drop_len_le K key i
 omega
theorem S3.Inv.load {s : S3} (h : s.Inv) {key : ByteArray} (hz : key.size ≤ maxLen) : (s.load key).2.Inv := by
 unfold S3.load
 split
 ·exact h
 ·rename_i hx
  simp only [not_or, S3.len] at hx
  obtain ⟨ci, c1, c2, res, gh⟩ := h
  have p0 := pushLens s.K 1 key 0
  have p1 := pushLens s.K 1 key 1
  have p2 := pushLens s.K 1 key 2
  simp at p0 p1 p2
  exact ⟨ci.toMain hz (by omega), c1, c2, by simp only; omega, by simp only [S3.ghosts, S3.small] at gh ⊢; omega⟩
theorem S3.Inv.remove {s : S3} (h : s.Inv) (key : ByteArray) : (s.remove key).2.Inv := by
 unfold S3.remove
 split
 ·obtain ⟨ci, c1, c2, res, gh⟩ := h
  have p0 := drop_len_le s.K key 0
  have p1 := drop_len_le s.K key 1
  have p2 := drop_len_le s.K key 2
  exact ⟨ci.gone key, c1, c2, by simp only; omega, by simp only [S3.ghosts, S3.small] at gh ⊢; omega⟩
 ·exact h
theorem Tiny.Inv.load {s : Tiny} (h : s.Inv) {key : ByteArray} (hz : key.size ≤ maxLen) : (s.load key).2.Inv := by
 unfold Tiny.load
 split
 ·exact h
 ·rename_i hx
  simp only [not_or, Tiny.len] at hx
  obtain ⟨nd, c1, c2, win, res, pr, ki, di⟩ := h
  have hw : s.window ≤ s.c := by unfold Tiny.window; omega
  have hm : s.main = s.c - s.window := rfl
  split
  ·have p0 := pushLens s.K 1 key 0
   have p1 := pushLens s.K 1 key 1
   have p2 := pushLens s.K 1 key 2
   simp at p0 p1 p2
   exact ⟨nd.push (by omega) key hz, c1, c2, (show _ ≤ s.window by simp only; omega), (show _ ≤ s.main by simp only; omega), (show _ ≤ s.prot by simp only; omega), ki, di⟩
  ·have p0 := pushLens s.K 0 key 0
   have p1 := pushLens s.K 0 key 1
   have p2 := pushLens s.K 0 key 2
   simp at p0 p1 p2
   exact ⟨nd.push (by omega) key hz, c1, c2, (show _ ≤ s.window by simp only; omega), (show _ ≤ s.main by simp only; omega), (show _ ≤ s.prot by simp only; omega), ki, di⟩
theorem Tiny.Inv.dropped {s : Tiny} (h : s.Inv) (key : ByteArray) : ({ s with K := dropK s.K key } : Tiny).Inv := by
 obtain ⟨nd, c1, c2, win, res, pr, ki, di⟩ := h
 have p0 := drop_len_le s.K key 0
 have p1 := drop_len_le s.K key 1
 have p2 := drop_len_le s.K key 2
 exact ⟨nd.drop key, c1, c2, by simp only [Tiny.window] at win ⊢; omega, by simp only [Tiny.main, Tiny.window] at res ⊢; omega, by simp only [Tiny.prot, Tiny.main, Tiny.window] at pr ⊢; omega, ki, di⟩
theorem Tiny.Inv.remove {s : Tiny} (h : s.Inv) (key : ByteArray) : (s.remove key).2.Inv := by
 unfold Tiny.remove
 split
 ·exact h.dropped key
 ·exact h
theorem Tiny.Inv.evict {s : Tiny} (h : s.Inv) : s.evict.2.2.Inv := by
 unfold Tiny.evict
 split
 ·exact h
 ·exact h.dropped _
/-- A Load's three ways. -/
theorem load_ways {α : Type} {E : World → Nat → List Nat → α → Prop} {L : α → ByteArray → Bool × α} {has : Bool} {len c : Nat} {s s2 : α} {key : ByteArray} {w : World} {e : Nat} {F : List Nat} {f : Nat}
  (hl : L s key = if has = true ∨ len = c then (false, s) else (true, s2))
  (h1 : has = true → Calls Tryz.prog f #[ptr e, .string key] w (StepRet E w e F (.bool false) s)) (h2 : has = false → len = c → Calls Tryz.prog f #[ptr e, .string key] w (StepRet E w e F (.bool false) s))
  (h3 : has = false → len ≠ c → Calls Tryz.prog f #[ptr e, .string key] w (StepRet E w e F (.bool true) s2)) : Calls Tryz.prog f #[ptr e, .string key] w (StepRet E w e F (.bool (L s key).1) (L s key).2) := by
 rw [hl]
 cases has with
 | true => rw [if_pos (.inl rfl)]; exact h1 rfl
 | false =>
  by_cases hc : len = c
  ·rw [if_pos (.inr hc)]; exact h2 rfl hc
  ·rw [if_neg (by rintro (h | h); cases h; exact hc h)]; exact h3 rfl hc
section
variable {w : World} {e : Nat} {F : List Nat}
theorem qload {s : Twoq} (H : EQ w e F s) (key : ByteArray) (hz : key.size ≤ maxLen) : Calls Tryz.prog 367 #[ptr e, .string key] w (StepRet EQ w e F (.bool (s.load key).1) (s.load key).2) := by
 have HE := Lib.hid H
 have hinv := H.1.load hz
 obtain ⟨hi, g, cap, x, h⟩ := H
 have HL : Hid (∀ W, Fr [] w W → Calls Tryz.prog 366 #[ptr e] W fun en w' => en = .returned (.int .i64 (s.len : Nat)) ∧ Fr [] W w') := fun W f => elenQ (h.fr0 irokQ f) rfl
 have HH : ∀ b, s.has key = b → Hid (∀ W, Fr [] w W → Calls Tryz.prog 364 #[ptr e, .string key] W fun en w' => en = .returned (.bool b) ∧ Fr [] W w') := fun b hb W f => ehasQ (h.fr0 irokQ f) key hz hb
 refine load_ways (L := Twoq.load) (has := s.has key) (len := s.len) (c := s.c) (s2 := { s with K := pushK s.K 2 key }) rfl (fun h1 => loadHitQ HE key (HH true h1)) (fun h1 h2 => loadFullQ HE key h.kr0 (beq_iff_eq.2 (congrArg Nat.cast h2)) (HH false h1) HL) (fun h1 h2 => ?_)
 unfold Twoq.load at hinv
 rw [if_neg (by rw [h1]; rintro (h | h); cases h; exact h2 h)] at hinv
 have hr := hi.res
 have ho := hi.out
 have hc2 := hi.c2
 have ht : tot 3 s.K ≤ 4000 := by rw [tot3]; unfold Twoq.kout at ho; omega
 refine (qloadGo h ht key hz (by rw [beq_eq_false_iff_ne]; intro hh; exact h2 (by exact_mod_cast hh)) (HH false h1) HL).mono ?_
 rintro en w' ⟨rfl, F2, h2, hs, hf⟩
 exact ⟨rfl, F2, ⟨hinv, g, cap, x, h2⟩, hs, hf⟩
theorem sload {s : S3} (H : ES w e F s) (key : ByteArray) (hz : key.size ≤ maxLen) : Calls Tryz.prog 429 #[ptr e, .string key] w (StepRet ES w e F (.bool (s.load key).1) (s.load key).2) := by
 have HE := Lib.hid H
 have hinv := H.1.load hz
 obtain ⟨hi, g, cap, x, y, h⟩ := H
 obtain ⟨F0, h0⟩ := h.er
 have HL : Hid (∀ W, Fr [] w W → Calls Tryz.prog 428 #[ptr e] W fun en w' => en = .returned (.int .i64 (s.len : Nat)) ∧ Fr [] W w') := fun W f => elenS (h0.fr0 irokS f) rfl
 have HH : ∀ b, s.has key = b → Hid (∀ W, Fr [] w W → Calls Tryz.prog 426 #[ptr e, .string key] W fun en w' => en = .returned (.bool b) ∧ Fr [] W w') := fun b hb W f => ehasS (h0.fr0 irokS f) key hz hb
 refine load_ways (L := S3.load) (has := s.has key) (len := s.len) (c := s.c) (s2 := { s with K := pushK s.K 1 key, C := upM s.C key (some 0) }) rfl (fun h1 => loadHitS HE key (HH true h1)) (fun h1 h2 => loadFullS HE key h0.kr0 (beq_iff_eq.2 (congrArg Nat.cast h2)) (HH false h1) HL) (fun h1 h2 => ?_)
 unfold S3.load at hinv
 rw [if_neg (by rw [h1]; rintro (h | h); cases h; exact h2 h)] at hinv
 have hr := hi.res
 have ho := hi.gh
 have hc2 := hi.c2
 have ht : tot 3 s.K ≤ 4000 := by rw [tot3]; unfold S3.ghosts at ho; omega
 refine (sloadGo h h0.kr0 ht key hz (by rw [beq_eq_false_iff_ne]; intro hh; exact h2 (by exact_mod_cast hh)) (HH false h1) HL).mono ?_
 rintro en w' ⟨rfl, F2, h2, hs, hf⟩
 exact ⟨rfl, F2, ⟨hinv, g, cap, x, y, h2⟩, hs, hf⟩
theorem uload {s : Tiny} (H : EU w e F s) (key : ByteArray) (hz : key.size ≤ maxLen) : Calls Tryz.prog 391 #[ptr e, .string key] w (StepRet EU w e F (.bool (s.load key).1) (s.load key).2) := by
 have HE := Lib.hid H
 have hinv := H.1.load hz
 obtain ⟨hi, u, rfl, hc, hwi, hma, hpr, h⟩ := H
 obtain ⟨F0, h0⟩ := h.er
 have HL : Hid (∀ W, Fr [] w W → Calls Tryz.prog 390 #[ptr u.e] W fun en w' => en = .returned (.int .i64 (s.len : Nat)) ∧ Fr [] W w') := fun W f => elenU (h0.fr0 irokU f) rfl
 have HH : ∀ b, s.has key = b → Hid (∀ W, Fr [] w W → Calls Tryz.prog 388 #[ptr u.e, .string key] W fun en w' => en = .returned (.bool b) ∧ Fr [] W w') := fun b hb W f => ehasU (h0.fr0 irokU f) key hz hb
 refine load_ways (L := Tiny.load) (has := s.has key) (len := s.len) (c := s.c) (s2 := { s with K := pushK s.K (if (s.K 1).length + (s.K 2).length < s.main then 1 else 0) key }) (by unfold Tiny.load; split; rfl; split <;> rfl) (fun h1 => loadHitU HE key (HH true h1)) (fun h1 h2 => loadFullU HE key h0.kr0 (beq_iff_eq.2 (by rw [hc]; exact congrArg Nat.cast h2)) (HH false h1) HL) (fun h1 h2 => ?_)
 have e1 : (s.load key).2 = { s with K := pushK s.K (if (s.K 1).length + (s.K 2).length < s.main then 1 else 0) key } := by
  unfold Tiny.load
  rw [if_neg (by rw [h1]; rintro (h | h); cases h; exact h2 h)]
  split <;> rfl
 rw [e1] at hinv
 have hw := hi.win
 have hr := hi.res
 have hc2 := hi.c2
 have ht : tot 3 s.K ≤ 4000 := by rw [tot3]; unfold Tiny.window at hw; unfold Tiny.main at hr; omega
 have hmb : u.ma ≤ 1024 := by rw [hma]; unfold Tiny.main; omega
 refine (uloadGo h ht hmb key hz (by rw [beq_eq_false_iff_ne, hc]; intro hh; exact h2 (by exact_mod_cast hh)) (HH false h1) HL).mono ?_
 rintro en w' ⟨rfl, F2, h2, hs, hf⟩
 rw [hma] at h2
 exact ⟨rfl, F2, ⟨hinv, u, rfl, hc, hwi, hma, hpr, h2⟩, hs, hf⟩
end
end Go.Proofs.YtfeicmpbfbhiiaaGreat
set_option linter.unusedVariables false
set_option linter.unusedSimpArgs false
namespace Go.Proofs.YtfeicmpbfbhiiaaGreat
open Go.RowKit
attribute [local go_sem ↓] Go.wp_at_zero Go.wp_at_succ
section
variable {w : World} {e : Nat} {F : List Nat}
theorem Tiny.Inv.tot {s : Tiny} (hi : s.Inv) : tot 3 s.K ≤ 4000 := by
 have hw := hi.win
 have hr := hi.res
 have hc2 := hi.c2
 rw [tot3]; unfold Tiny.window at hw; unfold Tiny.main at hr; omega
end
end Go.Proofs.YtfeicmpbfbhiiaaGreat
