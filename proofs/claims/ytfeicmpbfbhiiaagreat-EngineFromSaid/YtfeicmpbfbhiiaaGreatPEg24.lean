/- Texts of a proof about the given program, those parts that this claim reaches. -/
import Derived.Test.YtfeicmpbfbhiiaaGreatPEg20
import Derived.Test.YtfeicmpbfbhiiaaGreatPEg23
import Derived.Test.YtfeicmpbfbhiiaaGreatPEg15
import Derived.Test.YtfeicmpbfbhiiaaGreatPEg16
set_option linter.unusedVariables false
set_option linter.unusedSimpArgs false
namespace Go.Proofs.YtfeicmpbfbhiiaaGreat
open Go.RowKit
open Act renaming put → pE0
open List renaming getElem_toArray → pE1, getElem_cons_succ → pE2, getElem_cons_zero → pE3, setIfInBounds_toArray → pE4, set_cons_zero → pE5, set_cons_succ → pE6
attribute [local go_sem ↓] Go.wp_at_zero Go.wp_at_succ
/-- A step of an engine: what it hands back, and the engine behind it. -/
def StepRet {α : Type} (E : World → Nat → List Nat → α → Prop) (w : World) (e : Nat) (F : List Nat) (v : Value) (s : α) (en : Ending) (w' : World) : Prop := en = .returned v ∧ ∃ F', E w' e F' s ∧ Sub F' F w ∧ Fr F w w'
theorem zZLoad1 {P : Prop} (h : P := by
 go_enter z1, z2
 go_wp2_with fail
 refine wp_region_inv (fun j v _ => match j with | 0 | 3 => v = ptr e | 1 | 2 => v = .bool false | 4 => v = .string key | 5 | 6 | 7 | 15 => v = .bool true | _ => True) (fun _ w' => Hid (Fr [] w w')) (fun _ _ => True) (by kernel_rfl) (by kernel_rfl) (by kernel_rfl) (fun _ _ _ _ h _ => h) ((Fr.refl [] _).drew) ?hops ?hfin
 case hops =>
  repeat' (first | exact OpsOk.nil | refine OpsOk.cons ?_ ?_)
  all_goals try exact rgT
  intro D X w' K hD hcl hS hI hK
  simp only [afterI, Region.binds, forall_const] at hI
  simp only [putL, pE0, pE1, pE4, pE5, pE6, Nat.reduceAdd, up, Nat.reduceEqDiff, if_true, if_false, reduceIte] at hK ⊢
  try simp only [hI] at hK
  go_simp
  refine (HH.out _ hS.out).mono ?_
  rintro en w3 ⟨rfl, f3⟩
  exact hK.out _ _ rfl (hS.out.same f3) trivial
 case hfin =>
  intro D X w' hS hD hI
  simp only [putL, pE0, pE1, pE4, pE5, pE6, Nat.reduceAdd]
  have h15 : X 15 = .bool true := hI 15 (by decide)
  rw [h15]
  have HFW := hS
  clear h15 hS hD hI
  go_wp2
  go_ret
  exact ⟨rfl, F, HE.out.fr HFW.out (fun b _ => by simp), Sub.refl _ _, HFW.out.nil⟩
 ) : P := h
set_option maxRecDepth 100000 in
open Tryz renaming func288 → z1, ntmps288 → z2 in
theorem loadHitA {w : World} {e : Nat} {F : List Nat} {s : Arc} (HE : Hid (EArc w e F s)) (key : ByteArray) (HH : Hid (∀ W, Fr [] w W → Calls Tryz.prog 285 #[ptr e, .string key] W fun en w' => en = .returned (.bool true) ∧ Fr [] W w')) :
  Calls Tryz.prog 288 #[ptr e, .string key] w (StepRet EArc w e F (.bool false) s) := by exact zZLoad1
theorem zZLoad2 {P : Prop} (h : P := by
 go_enter z1, z2
 go_wp2_with fail
 refine wp_region_inv (fun j v _ => match j with | 0 | 3 | 8 | 10 | 11 => v = ptr e | 1 | 2 | 5 | 6 | 7 => v = .bool false | 4 => v = .string key | 9 => v = .int .i64 (n : Nat) | 12 => v = .pointer (some ⟨e, 2, none⟩) | 13 => v = .int .i64 (c : Nat) | 14 | 15 => v = .bool true | _ => True) (fun _ w' => w'.cell? ⟨e, 2, none⟩ = some (.int .i64 (c : Nat)) ∧ Hid (Fr [] w w')) (fun _ _ => True) (by kernel_rfl) (by kernel_rfl) (by kernel_rfl) (fun _ _ _ _ h _ => h) ⟨kc, (Fr.refl [] _).drew⟩ ?hops ?hfin
 case hops =>
  repeat' (first | exact OpsOk.nil | refine OpsOk.cons ?_ ?_)
  all_goals try exact rgT
  ·skip
   intro D X w' K hD hcl hS hI hK
   simp only [afterI, Region.binds, forall_const] at hI
   simp only [putL, pE0, pE1, pE4, pE5, pE6, Nat.reduceAdd, up, Nat.reduceEqDiff, if_true, if_false, reduceIte] at hK ⊢
   try simp only [hI] at hK
   go_simp
   refine (HH.out _ hS.2.out).mono ?_
   rintro en w3 ⟨rfl, f3⟩
   exact hK.out _ _ rfl ⟨cell_fr f3 hS.1 (by simp), hS.2.out.same f3⟩ trivial
  ·skip
   intro D X w' K hD hcl hS hI hK
   simp only [afterI, Region.binds, forall_const] at hI
   simp only [putL, pE0, pE1, pE4, pE5, pE6, Nat.reduceAdd, up, Nat.reduceEqDiff, if_true, if_false, reduceIte] at hK ⊢
   try simp only [hI] at hK
   go_simp
   refine (HL.out _ hS.2.out).mono ?_
   rintro en w3 ⟨rfl, f3⟩
   exact hK.out _ _ rfl ⟨cell_fr f3 hS.1 (by simp), hS.2.out.same f3⟩ trivial
 case hfin =>
  intro D X w' hS hD hI
  simp only [putL, pE0, pE1, pE4, pE5, pE6, Nat.reduceAdd]
  have h15 : X 15 = .bool true := hI 15 (by decide)
  rw [h15]
  have HFW := hS.2
  clear h15 hS hD hI
  go_wp2
  go_ret
  exact ⟨rfl, F, HE.out.fr HFW.out (fun b _ => by simp), Sub.refl _ _, HFW.out.nil⟩
 ) : P := h
set_option maxRecDepth 100000 in
open Tryz renaming func288 → z1, ntmps288 → z2 in
theorem loadFullA {w : World} {e : Nat} {F : List Nat} {s : Arc} (HE : Hid (EArc w e F s)) (key : ByteArray) {n c : Nat} (kc : w.cell? ⟨e, 2, none⟩ = some (.int .i64 (c : Nat))) (hb : ((n : Int) == (c : Int)) = true) (HH : Hid (∀ W, Fr [] w W → Calls Tryz.prog 285 #[ptr e, .string key] W fun en w' => en = .returned (.bool false) ∧ Fr [] W w'))
  (HL : Hid (∀ W, Fr [] w W → Calls Tryz.prog 287 #[ptr e] W fun en w' => en = .returned (.int .i64 (n : Nat)) ∧ Fr [] W w')) :
  Calls Tryz.prog 288 #[ptr e, .string key] w (StepRet EArc w e F (.bool false) s) := by exact zZLoad2
set_option maxRecDepth 100000 in
open Tryz renaming func367 → z1, ntmps367 → z2 in
theorem loadHitQ {w : World} {e : Nat} {F : List Nat} {s : Twoq} (HE : Hid (EQ w e F s)) (key : ByteArray) (HH : Hid (∀ W, Fr [] w W → Calls Tryz.prog 364 #[ptr e, .string key] W fun en w' => en = .returned (.bool true) ∧ Fr [] W w')) :
  Calls Tryz.prog 367 #[ptr e, .string key] w (StepRet EQ w e F (.bool false) s) := by exact zZLoad1
set_option maxRecDepth 100000 in
open Tryz renaming func367 → z1, ntmps367 → z2 in
theorem loadFullQ {w : World} {e : Nat} {F : List Nat} {s : Twoq} (HE : Hid (EQ w e F s)) (key : ByteArray) {n c : Nat} (kc : w.cell? ⟨e, 2, none⟩ = some (.int .i64 (c : Nat))) (hb : ((n : Int) == (c : Int)) = true) (HH : Hid (∀ W, Fr [] w W → Calls Tryz.prog 364 #[ptr e, .string key] W fun en w' => en = .returned (.bool false) ∧ Fr [] W w'))
  (HL : Hid (∀ W, Fr [] w W → Calls Tryz.prog 366 #[ptr e] W fun en w' => en = .returned (.int .i64 (n : Nat)) ∧ Fr [] W w')) :
  Calls Tryz.prog 367 #[ptr e, .string key] w (StepRet EQ w e F (.bool false) s) := by exact zZLoad2
set_option maxRecDepth 100000 in
open Tryz renaming func391 → z1, ntmps391 → z2 in
theorem loadHitU {w : World} {e : Nat} {F : List Nat} {s : Tiny} (HE : Hid (EU w e F s)) (key : ByteArray) (HH : Hid (∀ W, Fr [] w W → Calls Tryz.prog 388 #[ptr e, .string key] W fun en w' => en = .returned (.bool true) ∧ Fr [] W w')) :
  Calls Tryz.prog 391 #[ptr e, .string key] w (StepRet EU w e F (.bool false) s) := by exact zZLoad1
set_option maxRecDepth 100000 in
open Tryz renaming func391 → z1, ntmps391 → z2 in
theorem loadFullU {w : World} {e : Nat} {F : List Nat} {s : Tiny} (HE : Hid (EU w e F s)) (key : ByteArray) {n c : Nat} (kc : w.cell? ⟨e, 2, none⟩ = some (.int .i64 (c : Nat))) (hb : ((n : Int) == (c : Int)) = true) (HH : Hid (∀ W, Fr [] w W → Calls Tryz.prog 388 #[ptr e, .string key] W fun en w' => en = .returned (.bool false) ∧ Fr [] W w'))
  (HL : Hid (∀ W, Fr [] w W → Calls Tryz.prog 390 #[ptr e] W fun en w' => en = .returned (.int .i64 (n : Nat)) ∧ Fr [] W w')) :
  Calls Tryz.prog 391 #[ptr e, .string key] w (StepRet EU w e F (.bool false) s) := by exact zZLoad2
set_option maxRecDepth 100000 in
open Tryz renaming func429 → z1, ntmps429 → z2 in
theorem loadHitS {w : World} {e : Nat} {F : List Nat} {s : S3} (HE : Hid (ES w e F s)) (key : ByteArray) (HH : Hid (∀ W, Fr [] w W → Calls Tryz.prog 426 #[ptr e, .string key] W fun en w' => en = .returned (.bool true) ∧ Fr [] W w')) :
  Calls Tryz.prog 429 #[ptr e, .string key] w (StepRet ES w e F (.bool false) s) := by exact zZLoad1
set_option maxRecDepth 100000 in
open Tryz renaming func429 → z1, ntmps429 → z2 in
theorem loadFullS {w : World} {e : Nat} {F : List Nat} {s : S3} (HE : Hid (ES w e F s)) (key : ByteArray) {n c : Nat} (kc : w.cell? ⟨e, 2, none⟩ = some (.int .i64 (c : Nat))) (hb : ((n : Int) == (c : Int)) = true) (HH : Hid (∀ W, Fr [] w W → Calls Tryz.prog 426 #[ptr e, .string key] W fun en w' => en = .returned (.bool false) ∧ Fr [] W w'))
  (HL : Hid (∀ W, Fr [] w W → Calls Tryz.prog 428 #[ptr e] W fun en w' => en = .returned (.int .i64 (n : Nat)) ∧ Fr [] W w')) :
  Calls Tryz.prog 429 #[ptr e, .string key] w (StepRet ES w e F (.bool false) s) := by exact zZLoad2
set_option maxRecDepth 100000 in
open Tryz renaming func338 → z1, ntmps338 → z2 in
theorem loadHitL {w : World} {e : Nat} {F : List Nat} {s : Lirs} (HE : Hid (EL w e F s)) (key : ByteArray) (HH : Hid (∀ W, Fr [] w W → Calls Tryz.prog 335 #[ptr e, .string key] W fun en w' => en = .returned (.bool true) ∧ Fr [] W w')) :
  Calls Tryz.prog 338 #[ptr e, .string key] w (StepRet EL w e F (.bool false) s) := by exact zZLoad1
set_option maxRecDepth 100000 in
theorem loadFullL {w : World} {e : Nat} {F : List Nat} {s : Lirs} (HE : Hid (EL w e F s)) (key : ByteArray) {n c : Nat} (kc : w.cell? ⟨e, 0, none⟩ = some (.int .i64 (c : Nat))) (hb : ((n : Int) == (c : Int)) = true) (HH : Hid (∀ W, Fr [] w W → Calls Tryz.prog 335 #[ptr e, .string key] W fun en w' => en = .returned (.bool false) ∧ Fr [] W w'))
  (HL : Hid (∀ W, Fr [] w W → Calls Tryz.prog 337 #[ptr e] W fun en w' => en = .returned (.int .i64 (n : Nat)) ∧ Fr [] W w')) :
  Calls Tryz.prog 338 #[ptr e, .string key] w (StepRet EL w e F (.bool false) s) := by
 go_enter Tryz.func338, Tryz.ntmps338
 go_wp2_with fail
 refine wp_region_inv (fun j v _ => match j with | 0 | 3 | 8 | 10 | 11 => v = ptr e | 1 | 2 | 5 | 6 | 7 => v = .bool false | 4 => v = .string key | 9 => v = .int .i64 (n : Nat) | 12 => v = .pointer (some ⟨e, 0, none⟩) | 13 => v = .int .i64 (c : Nat) | 14 | 15 => v = .bool true | _ => True) (fun _ w' => w'.cell? ⟨e, 0, none⟩ = some (.int .i64 (c : Nat)) ∧ Hid (Fr [] w w')) (fun _ _ => True) (by kernel_rfl) (by kernel_rfl) (by kernel_rfl) (fun _ _ _ _ h _ => h) ⟨kc, (Fr.refl [] _).drew⟩ ?hops ?hfin
 case hops =>
  repeat' (first | exact OpsOk.nil | refine OpsOk.cons ?_ ?_)
  all_goals try exact rgT
  ·skip
   intro D X w' K hD hcl hS hI hK
   simp only [afterI, Region.binds, forall_const] at hI
   simp only [putL, pE0, pE1, pE4, pE5, pE6, Nat.reduceAdd, up, Nat.reduceEqDiff, if_true, if_false, reduceIte] at hK ⊢
   try simp only [hI] at hK
   go_simp
   refine (HH.out _ hS.2.out).mono ?_
   rintro en w3 ⟨rfl, f3⟩
   exact hK.out _ _ rfl ⟨cell_fr f3 hS.1 (by simp), hS.2.out.same f3⟩ trivial
  ·skip
   intro D X w' K hD hcl hS hI hK
   simp only [afterI, Region.binds, forall_const] at hI
   simp only [putL, pE0, pE1, pE4, pE5, pE6, Nat.reduceAdd, up, Nat.reduceEqDiff, if_true, if_false, reduceIte] at hK ⊢
   try simp only [hI] at hK
   go_simp
   refine (HL.out _ hS.2.out).mono ?_
   rintro en w3 ⟨rfl, f3⟩
   exact hK.out _ _ rfl ⟨cell_fr f3 hS.1 (by simp), hS.2.out.same f3⟩ trivial
 case hfin =>
  intro D X w' hS hD hI
  simp only [putL, pE0, pE1, pE4, pE5, pE6, Nat.reduceAdd]
  have h15 : X 15 = .bool true := hI 15 (by decide)
  rw [h15]
  have HFW := hS.2
  clear h15 hS hD hI
  go_wp2
  go_ret
  exact ⟨rfl, F, HE.out.fr HFW.out (fun b _ => by simp), Sub.refl _ _, HFW.out.nil⟩
end Go.Proofs.YtfeicmpbfbhiiaaGreat
set_option linter.unusedVariables false
set_option linter.unusedSimpArgs false
namespace Go.Proofs.YtfeicmpbfbhiiaaGreat
open Go.RowKit
open Act renaming put → pE0
open List renaming getElem_toArray → pE1, getElem_cons_succ → pE2, getElem_cons_zero → pE3, setIfInBounds_toArray → pE4, set_cons_zero → pE5, set_cons_succ → pE6
attribute [local go_sem ↓] Go.wp_at_zero Go.wp_at_succ
/-- The document's engine of chapter 10. -/
def RE10 (w : World) (e : Nat) (F : List Nat) (s : Arc) : Prop := s.Inv ∧ RArc w e F s.K s.p s.c
theorem Arc.Inv.len {s : Arc} (h : s.Inv) (i : Nat) : (s.K i).length ≤ 4000 := by
 have h1 := h.all
 have h2 := h.c2
 by_cases hi : i < 4
 ·have := len_tot (K := s.K) hi; omega
 ·rw [h.nd.out i (by omega)]; simp
section
variable {w w' w1 w2 : World} {e : Nat} {F G : List Nat} {s : Arc}
end
end Go.Proofs.YtfeicmpbfbhiiaaGreat
