/- Remove: the engines that are rows. Evict: arc, tinylfu. -/
import Derived.Test.YtphlancijlljcaaGreatGH
set_option linter.unusedVariables false
set_option linter.unusedSimpArgs false
namespace Go.Proofs.YtphlancijlljcaaGreat
open Go.RowKit
attribute [local go_sem ↓] Go.wp_at_zero Go.wp_at_succ
set_option maxRecDepth 100000 in
theorem remNoA {w : World} {e : Nat} {F : List Nat} {s : Arc} (HE : Hid (EArc w e F s)) (key : ByteArray) (HH : Hid (∀ W, Fr [] w W → Calls Tryz.prog 293 #[ptr e, .string key] W fun en w' => en = .returned (.bool false) ∧ Fr [] W w')) :
  Calls Tryz.prog 297 #[ptr e, .string key] w (StepRet EArc w e F (.bool false) s) := by
 go_enter Tryz.func297, Tryz.ntmps297
 go_wp2_with fail
 refine (HH.out _ (Fr.refl _ _)).mono ?_
 rintro en w1 ⟨rfl, f1⟩
 have HF := Lib.hid f1
 clear f1
 go_wp2
 go_ret
 exact ⟨rfl, F, HE.out.fr HF.out (fun b _ => by simp), Sub.refl _ _, HF.out.nil⟩
set_option maxRecDepth 100000 in
theorem remNoQ {w : World} {e : Nat} {F : List Nat} {s : Twoq} (HE : Hid (EQ w e F s)) (key : ByteArray) (HH : Hid (∀ W, Fr [] w W → Calls Tryz.prog 370 #[ptr e, .string key] W fun en w' => en = .returned (.bool false) ∧ Fr [] W w')) :
  Calls Tryz.prog 374 #[ptr e, .string key] w (StepRet EQ w e F (.bool false) s) := by
 go_enter Tryz.func374, Tryz.ntmps374
 go_wp2_with fail
 refine (HH.out _ (Fr.refl _ _)).mono ?_
 rintro en w1 ⟨rfl, f1⟩
 have HF := Lib.hid f1
 clear f1
 go_wp2
 go_ret
 exact ⟨rfl, F, HE.out.fr HF.out (fun b _ => by simp), Sub.refl _ _, HF.out.nil⟩
set_option maxRecDepth 100000 in
theorem remNoU {w : World} {e : Nat} {F : List Nat} {s : Tiny} (HE : Hid (EU w e F s)) (key : ByteArray) (HH : Hid (∀ W, Fr [] w W → Calls Tryz.prog 394 #[ptr e, .string key] W fun en w' => en = .returned (.bool false) ∧ Fr [] W w')) :
  Calls Tryz.prog 398 #[ptr e, .string key] w (StepRet EU w e F (.bool false) s) := by
 go_enter Tryz.func398, Tryz.ntmps398
 go_wp2_with fail
 refine (HH.out _ (Fr.refl _ _)).mono ?_
 rintro en w1 ⟨rfl, f1⟩
 have HF := Lib.hid f1
 clear f1
 go_wp2
 go_ret
 exact ⟨rfl, F, HE.out.fr HF.out (fun b _ => by simp), Sub.refl _ _, HF.out.nil⟩
set_option maxRecDepth 100000 in
theorem remNoS {w : World} {e : Nat} {F : List Nat} {s : S3} (HE : Hid (ES w e F s)) (key : ByteArray) (HH : Hid (∀ W, Fr [] w W → Calls Tryz.prog 432 #[ptr e, .string key] W fun en w' => en = .returned (.bool false) ∧ Fr [] W w')) :
  Calls Tryz.prog 436 #[ptr e, .string key] w (StepRet ES w e F (.bool false) s) := by
 go_enter Tryz.func436, Tryz.ntmps436
 go_wp2_with fail
 refine (HH.out _ (Fr.refl _ _)).mono ?_
 rintro en w1 ⟨rfl, f1⟩
 have HF := Lib.hid f1
 clear f1
 go_wp2
 go_ret
 exact ⟨rfl, F, HE.out.fr HF.out (fun b _ => by simp), Sub.refl _ _, HF.out.nil⟩
set_option maxRecDepth 100000 in
theorem remYesA {w : World} {e g cap x : Nat} {F : List Nat} {K : Rows} {r : List Value} (H : ERows IRepA 4 197 w e g cap x F K r) (hl : tot 4 K ≤ 80000) (key : ByteArray) (hz : key.size ≤ maxLen) (HH : Hid (∀ W, Fr [] w W → Calls Tryz.prog 293 #[ptr e, .string key] W fun en w' => en = .returned (.bool true) ∧ Fr [] W w')) :
  Calls Tryz.prog 297 #[ptr e, .string key] w fun en w' => en = .returned (.bool true) ∧ EGo IRepA 4 197 w e g cap x F (dropK K key) r w' := by
 have HE := Lib.hid H
 clear H
 go_enter Tryz.func297, Tryz.ntmps297
 go_wp2_with fail
 refine (HH.out _ (Fr.refl _ _)).mono ?_
 rintro en w1 ⟨rfl, f1⟩
 have HF := Lib.hid f1
 have H1 := HE.out.fr0 irokA f1
 have k0 := H1.k0
 have k1 := H1.k1
 clear f1
 go_wp2_with fail
 refine (edropA H1 hl key hz).mono ?_
 rintro en w2 ⟨rfl, F2, h2, hs2, hf2⟩
 have FIN := Lib.hid (And.intro h2 (And.intro (hs2.old HF.out.size) (HF.out.nil.same hf2)))
 clear H1 k0 k1 h2 hs2 hf2
 go_wp2
 go_ret
 exact ⟨rfl, F2, FIN.out⟩
set_option maxRecDepth 100000 in
theorem remYesQ {w : World} {e g cap x : Nat} {F : List Nat} {K : Rows} {r : List Value} (H : ERows IRepQ 3 209 w e g cap x F K r) (hl : tot 3 K ≤ 80000) (key : ByteArray) (hz : key.size ≤ maxLen) (HH : Hid (∀ W, Fr [] w W → Calls Tryz.prog 370 #[ptr e, .string key] W fun en w' => en = .returned (.bool true) ∧ Fr [] W w')) :
  Calls Tryz.prog 374 #[ptr e, .string key] w fun en w' => en = .returned (.bool true) ∧ EGo IRepQ 3 209 w e g cap x F (dropK K key) r w' := by
 have HE := Lib.hid H
 clear H
 go_enter Tryz.func374, Tryz.ntmps374
 go_wp2_with fail
 refine (HH.out _ (Fr.refl _ _)).mono ?_
 rintro en w1 ⟨rfl, f1⟩
 have HF := Lib.hid f1
 have H1 := HE.out.fr0 irokQ f1
 have k0 := H1.k0
 have k1 := H1.k1
 clear f1
 go_wp2_with fail
 refine (edropQ H1 hl key hz).mono ?_
 rintro en w2 ⟨rfl, F2, h2, hs2, hf2⟩
 have FIN := Lib.hid (And.intro h2 (And.intro (hs2.old HF.out.size) (HF.out.nil.same hf2)))
 clear H1 k0 k1 h2 hs2 hf2
 go_wp2
 go_ret
 exact ⟨rfl, F2, FIN.out⟩
set_option maxRecDepth 100000 in
theorem remYesS {w : World} {e g cap x y c sm gh : Nat} {F : List Nat} {K : Rows} {C : Cnt} (H : SR w e g cap x y c sm gh F K C) (hl : tot 3 K ≤ 70000) (key : ByteArray) (hz : key.size ≤ maxLen) (HH : Hid (∀ W, Fr [] w W → Calls Tryz.prog 432 #[ptr e, .string key] W fun en w' => en = .returned (.bool true) ∧ Fr [] W w')) :
  Calls Tryz.prog 436 #[ptr e, .string key] w fun en w' => en = .returned (.bool true) ∧ SGo w e g cap x y c sm gh F (dropK K key) (upM C key none) w' := by
 have HE := Lib.hid H
 clear H
 go_enter Tryz.func436, Tryz.ntmps436
 go_wp2_with fail
 refine (HH.out _ (Fr.refl _ _)).mono ?_
 rintro en w1 ⟨rfl, f1⟩
 have HF := Lib.hid f1
 have HG := Lib.hid (sgoes (HE.out.fr0 f1) (by omega) key hz)
 clear f1
 go_wp2_with fail
 refine HG.out.mono ?_
 rintro en w2 ⟨rfl, F2, h2, hs2, hf2⟩
 have FIN := Lib.hid (And.intro h2 (And.intro (hs2.old HF.out.size) (HF.out.nil.same hf2)))
 clear h2 hs2 hf2
 go_wp2
 go_ret
 exact ⟨rfl, F2, FIN.out⟩
set_option maxRecDepth 100000 in
theorem remYesU {u : UC} {w : World} {F : List Nat} {K : Rows} {k : Sk} {d : Dr} (H : UR u w F K k d) (hl : tot 3 K ≤ 70000) (key : ByteArray) (hz : key.size ≤ maxLen) (HH : Hid (∀ W, Fr [] w W → Calls Tryz.prog 394 #[ptr u.e, .string key] W fun en w' => en = .returned (.bool true) ∧ Fr [] W w')) :
  Calls Tryz.prog 398 #[ptr u.e, .string key] w fun en w' => en = .returned (.bool true) ∧ UGo u w F (dropK K key) k d w' := by
 have HE := Lib.hid H
 clear H
 go_enter Tryz.func398, Tryz.ntmps398
 go_wp2_with fail
 refine (HH.out _ (Fr.refl _ _)).mono ?_
 rintro en w1 ⟨rfl, f1⟩
 have HF := Lib.hid f1
 have H1 := HE.out.fr0 f1
 obtain ⟨F0, h0⟩ := H1.er
 have k0 := h0.k0
 have k1 := h0.k1
 have HG := Lib.hid (H1.drop (by omega) key hz)
 clear f1 h0 H1
 go_wp2_with fail
 refine HG.out.mono ?_
 rintro en w2 ⟨rfl, F2, h2, hs2, hf2⟩
 have FIN := Lib.hid (And.intro h2 (And.intro (hs2.old HF.out.size) (HF.out.nil.same hf2)))
 clear h2 hs2 hf2 k0 k1
 go_wp2
 go_ret
 exact ⟨rfl, F2, FIN.out⟩
section
variable {w : World} {e : Nat} {F : List Nat}
theorem aremove {s : Arc} (H : EArc w e F s) (key : ByteArray) (hz : key.size ≤ maxLen) : Calls Tryz.prog 297 #[ptr e, .string key] w (StepRet EArc w e F (.bool (s.remove key).1) (s.remove key).2) := by
 have HE := Lib.hid H
 have hinv := H.1.remove key
 obtain ⟨hi, g, cap, x, h⟩ := H
 have HH : ∀ b, s.has key = b → Hid (∀ W, Fr [] w W → Calls Tryz.prog 293 #[ptr e, .string key] W fun en w' => en = .returned (.bool b) ∧ Fr [] W w') := fun b hb W f => ehasA (h.fr0 irokA f) key hz hb
 unfold Arc.remove at hinv ⊢
 cases hb : s.has key with
 | false => exact remNoA HE key (HH false hb)
 | true =>
  rw [hb] at hinv
  have ha := hi.all
  have hc := hi.c2
  refine (remYesA h (by omega) key hz (HH true hb)).mono ?_
  rintro en w' ⟨rfl, F2, h2, hs, hf⟩
  exact ⟨rfl, F2, ⟨hinv, g, cap, x, h2⟩, hs, hf⟩
theorem qremove {s : Twoq} (H : EQ w e F s) (key : ByteArray) (hz : key.size ≤ maxLen) : Calls Tryz.prog 374 #[ptr e, .string key] w (StepRet EQ w e F (.bool (s.remove key).1) (s.remove key).2) := by
 have HE := Lib.hid H
 have hinv := H.1.remove key
 obtain ⟨hi, g, cap, x, h⟩ := H
 have HH : ∀ b, s.has key = b → Hid (∀ W, Fr [] w W → Calls Tryz.prog 370 #[ptr e, .string key] W fun en w' => en = .returned (.bool b) ∧ Fr [] W w') := fun b hb W f => ehasQ (h.fr0 irokQ f) key hz hb
 unfold Twoq.remove at hinv ⊢
 cases hb : s.has key with
 | false => exact remNoQ HE key (HH false hb)
 | true =>
  rw [hb] at hinv
  have hr := hi.res
  have ho := hi.out
  have hc := hi.c2
  refine (remYesQ h (by rw [tot3]; unfold Twoq.kout at ho; omega) key hz (HH true hb)).mono ?_
  rintro en w' ⟨rfl, F2, h2, hs, hf⟩
  exact ⟨rfl, F2, ⟨hinv, g, cap, x, h2⟩, hs, hf⟩
theorem sremove {s : S3} (H : ES w e F s) (key : ByteArray) (hz : key.size ≤ maxLen) : Calls Tryz.prog 436 #[ptr e, .string key] w (StepRet ES w e F (.bool (s.remove key).1) (s.remove key).2) := by
 have HE := Lib.hid H
 have hinv := H.1.remove key
 obtain ⟨hi, g, cap, x, y, h⟩ := H
 obtain ⟨F0, h0⟩ := h.er
 have HH : ∀ b, s.has key = b → Hid (∀ W, Fr [] w W → Calls Tryz.prog 432 #[ptr e, .string key] W fun en w' => en = .returned (.bool b) ∧ Fr [] W w') := fun b hb W f => ehasS (h0.fr0 irokS f) key hz hb
 unfold S3.remove at hinv ⊢
 cases hb : s.has key with
 | false => exact remNoS HE key (HH false hb)
 | true =>
  rw [hb] at hinv
  refine (remYesS h (by have := hi.tot; omega) key hz (HH true hb)).mono ?_
  rintro en w' ⟨rfl, F2, h2, hs, hf⟩
  exact ⟨rfl, F2, ⟨hinv, g, cap, x, y, h2⟩, hs, hf⟩
theorem Tiny.Inv.tot {s : Tiny} (hi : s.Inv) : tot 3 s.K ≤ 4000 := by
 have hw := hi.win
 have hr := hi.res
 have hc2 := hi.c2
 rw [tot3]; unfold Tiny.window at hw; unfold Tiny.main at hr; omega
theorem uremove {s : Tiny} (H : EU w e F s) (key : ByteArray) (hz : key.size ≤ maxLen) : Calls Tryz.prog 398 #[ptr e, .string key] w (StepRet EU w e F (.bool (s.remove key).1) (s.remove key).2) := by
 have HE := Lib.hid H
 have hinv := H.1.remove key
 obtain ⟨hi, u, rfl, hc, hwi, hma, hpr, h⟩ := H
 obtain ⟨F0, h0⟩ := h.er
 have HH : ∀ b, s.has key = b → Hid (∀ W, Fr [] w W → Calls Tryz.prog 394 #[ptr u.e, .string key] W fun en w' => en = .returned (.bool b) ∧ Fr [] W w') := fun b hb W f => ehasU (h0.fr0 irokU f) key hz hb
 unfold Tiny.remove at hinv ⊢
 cases hb : s.has key with
 | false => exact remNoU HE key (HH false hb)
 | true =>
  rw [hb] at hinv
  refine (remYesU h (by have := hi.tot; omega) key hz (HH true hb)).mono ?_
  rintro en w' ⟨rfl, F2, h2, hs, hf⟩
  exact ⟨rfl, F2, ⟨hinv, u, rfl, hc, hwi, hma, hpr, h2⟩, hs, hf⟩
end
end Go.Proofs.YtphlancijlljcaaGreat
