/- Evict: arc, tinylfu; each engine's as a step. -/
import Derived.Test.YtphlancijlljcaaGreatRem
import Derived.Test.YtphlancijlljcaaGreatLirsD
set_option linter.unusedVariables false
set_option linter.unusedSimpArgs false
namespace Go.Proofs.YtphlancijlljcaaGreat
open Go.RowKit
attribute [local go_sem ↓] Go.wp_at_zero Go.wp_at_succ
section
variable {w : World} {e g cap x : Nat} {F : List Nat} {K : Rows} {c p : Nat}
/-- What Evict hands back and leaves. -/
def AEv (w : World) (e g cap x : Nat) (F : List Nat) (key : ByteArray) (b : Bool) (K : Rows) (c p : Nat) (en : Ending) (w' : World) : Prop := en = .returned (.tuple #[.string key, .bool b]) ∧ EGo IRepA 4 197 w e g cap x F K [.int .i64 (c : Nat), .int .i64 (p : Nat)] w'
set_option maxRecDepth 100000 in
theorem aevict0 (H : ERows IRepA 4 197 w e g cap x F K [.int .i64 (c : Nat), .int .i64 (p : Nat)]) (h0 : (K 0).length + (K 1).length = 0) : Calls Tryz.prog 291 #[ptr e] w (AEv w e g cap x F ⟨#[]⟩ false K c p) := by
 have HL := Lib.hid (elenA H h0)
 have HE := Lib.hid H
 clear H h0
 go_enter Tryz.func291, Tryz.ntmps291
 go_wp2_with fail
 refine HL.out.mono ?_
 rintro en w1 ⟨rfl, f1⟩
 have HF := Lib.hid f1
 clear f1
 go_wp2
 go_ret2
 exact ⟨rfl, F, HE.out.fr0 irokA HF.out, Sub.refl _ _, HF.out.nil⟩
set_option maxHeartbeats 2000000 in
set_option maxRecDepth 100000 in
theorem aevict1 (H : ERows IRepA 4 197 w e g cap x F K [.int .i64 (c : Nat), .int .i64 (p : Nat)]) (ht : tot 4 K ≤ 60000) (h0 : (K 0).length + (K 1).length ≠ 0) :
  Calls Tryz.prog 291 #[ptr e] w (AEv w e g cap x F (oldest K (if arcRec K p false = true then 0 else 1)) true (arcOusts K (arcRec K p false)).2 c p) := by
 obtain ⟨s, hs⟩ : ∃ s, (K 0).length + (K 1).length = s := ⟨_, rfl⟩
 obtain ⟨n, hn⟩ : ∃ s, (K 0).length = s := ⟨_, rfl⟩
 obtain ⟨m, hm⟩ : ∃ s, (K 1).length = s := ⟨_, rfl⟩
 have hcs : (n = 0 ∧ arcRec K p false = false) ∨ (0 < n ∧ p < n ∧ arcRec K p false = true) ∨ (0 < n ∧ n ≤ p ∧ m = 0 ∧ arcRec K p false = true) ∨ (0 < n ∧ n ≤ p ∧ 0 < m ∧ arcRec K p false = false) := by
  unfold arcRec
  rw [hn, hm]
  by_cases a : 0 < n
  ·by_cases b : p < n
   ·exact .inr (.inl ⟨a, b, by simp [a, b]⟩)
   ·by_cases d : m = 0
    ·exact .inr (.inr (.inl ⟨a, by omega, d, by simp [a, d]⟩))
    ·exact .inr (.inr (.inr ⟨a, by omega, by omega, by simp [a, d]; omega⟩))
  ·exact .inl ⟨by omega, by simp [a]⟩
 have hn1 : n ≤ 60000 := by rw [← hn]; exact Nat.le_trans (len_tot (by omega)) ht
 have hs0 : (s : Int) ≠ 0 := by omega
 have hs1 : ((s : Int) == 0) = false := by rw [beq_eq_false_iff_ne]; omega
 obtain ⟨bb, hbb⟩ : ∃ b, arcRec K p false = b := ⟨_, rfl⟩
 rw [hbb] at hcs ⊢
 obtain ⟨ok, hok⟩ : ∃ o, oldest K (if bb = true then 0 else 1) = o := ⟨_, rfl⟩
 obtain ⟨KO, hko⟩ : ∃ o, (arcOusts K bb).2 = o := ⟨_, rfl⟩
 rw [hok, hko]
 have HOK := Lib.hid (And.intro hok hko)
 have HL := Lib.hid (elenA H hs)
 have HE := Lib.hid H
 have HN := Lib.hid hn
 have HM := Lib.hid hm
 clear H hn hm hs h0 hbb hs0 hok hko
 rcases hcs with ⟨a1, a2⟩ | ⟨a1, a2, a3⟩ | ⟨a1, a2, a3, a4⟩ | ⟨a1, a2, a3, a4⟩
 ·subst a1
  have HB := Lib.hid a2
  clear a2
  go_enter Tryz.func291, Tryz.ntmps291
  go_wp2_with fail
  refine HL.out.mono ?_
  rintro en w1 ⟨rfl, f1⟩
  have k0 := cell_fr f1 HE.out.k0 (by simp)
  have k1 := cell_fr f1 HE.out.k1 (by simp)
  go_wp2_with fail
  refine (emany1A (HE.out.fr0 irokA f1) 0 (by decide) HN.out).mono ?_
  rintro en w2 ⟨rfl, f2⟩
  have F2 := Lib.hid (f1.same f2)
  clear f1 f2 k0 k1
  go_wp2_with fail
  refine (aousts (HE.out.fr0 irokA F2.out) (by omega) false).mono ?_
  rintro en wz ⟨v, FZ, rfl, hgo, h2, hs2, hf2, hd2⟩
  have hsl : Sl wz 9 1 v 1 [.string (oldest K 1)] := hgo.1
  clear hgo
  obtain ⟨b0, o0, c0, hv0, hb0⟩ := hsl.pos (by decide)
  subst hv0
  have x0 := hsl.cell (j := 0) (u := .string (oldest K 1)) rfl
  simp only [Nat.add_zero] at x0
  have FIN := Lib.hid (And.intro h2 (And.intro (hs2.old F2.out.size) (F2.out.nil.same hf2)))
  clear hsl h2 hs2 hf2 hd2 hb0
  go_wp2
  go_ret2
  rw [← HOK.out.1, ← HOK.out.2, HB.out]
  exact ⟨rfl, FZ, FIN.out⟩
 ·have HB := Lib.hid a3
  clear a3
  have q1 : (0 : Int) < (n : Int) := by omega
  have q2 : (p : Int) < (n : Int) := by omega
  go_enter Tryz.func291, Tryz.ntmps291
  go_wp2_with fail
  refine HL.out.mono ?_
  rintro en w1 ⟨rfl, f1⟩
  have k0 := cell_fr f1 HE.out.k0 (by simp)
  have k1 := cell_fr f1 HE.out.k1 (by simp)
  have k3 := cell_fr f1 HE.out.kr1 (by simp)
  go_wp2_with fail
  refine (emany1A (HE.out.fr0 irokA f1) 0 (by decide) HN.out).mono ?_
  rintro en w2 ⟨rfl, f2⟩
  have k3 := cell_fr f2 k3 (by simp)
  have F2 := Lib.hid (f1.same f2)
  clear f1 f2 k0 k1
  go_wp2_with fail
  refine (aousts (HE.out.fr0 irokA F2.out) (by omega) true).mono ?_
  rintro en wz ⟨v, FZ, rfl, hgo, h2, hs2, hf2, hd2⟩
  have hsl : Sl wz 9 1 v 1 [.string (oldest K 0)] := hgo.1
  clear hgo
  obtain ⟨b0, o0, c0, hv0, hb0⟩ := hsl.pos (by decide)
  subst hv0
  have x0 := hsl.cell (j := 0) (u := .string (oldest K 0)) rfl
  simp only [Nat.add_zero] at x0
  have FIN := Lib.hid (And.intro h2 (And.intro (hs2.old F2.out.size) (F2.out.nil.same hf2)))
  clear hsl h2 hs2 hf2 hd2 hb0
  go_wp2
  go_ret2
  rw [← HOK.out.1, ← HOK.out.2, HB.out]
  exact ⟨rfl, FZ, FIN.out⟩
 ·subst a3
  have HB := Lib.hid a4
  clear a4
  have q1 : (0 : Int) < (n : Int) := by omega
  have q2 : (n : Int) ≤ (p : Int) := by omega
  have q3 : decide (p < n) = false := decide_eq_false (by omega)
  go_enter Tryz.func291, Tryz.ntmps291
  go_wp2_with fail
  refine HL.out.mono ?_
  rintro en w1 ⟨rfl, f1⟩
  have k0 := cell_fr f1 HE.out.k0 (by simp)
  have k1 := cell_fr f1 HE.out.k1 (by simp)
  have k3 := cell_fr f1 HE.out.kr1 (by simp)
  go_wp2_with fail
  refine (emany1A (HE.out.fr0 irokA f1) 0 (by decide) HN.out).mono ?_
  rintro en w2 ⟨rfl, f2⟩
  have k0 := cell_fr f2 k0 (by simp)
  have k1 := cell_fr f2 k1 (by simp)
  have k3 := cell_fr f2 k3 (by simp)
  have F2 := Lib.hid (f1.same f2)
  clear f1 f2
  go_wp2_with fail
  refine (emany1A (HE.out.fr0 irokA F2.out) 1 (by decide) HM.out).mono ?_
  rintro en w3 ⟨rfl, f3⟩
  have F3 := Lib.hid (F2.out.same f3)
  clear f3 k0 k1 k3
  go_wp2_with fail
  refine (aousts (HE.out.fr0 irokA F3.out) (by omega) true).mono ?_
  rintro en wz ⟨v, FZ, rfl, hgo, h2, hs2, hf2, hd2⟩
  have hsl : Sl wz 9 1 v 1 [.string (oldest K 0)] := hgo.1
  clear hgo
  obtain ⟨b0, o0, c0, hv0, hb0⟩ := hsl.pos (by decide)
  subst hv0
  have x0 := hsl.cell (j := 0) (u := .string (oldest K 0)) rfl
  simp only [Nat.add_zero] at x0
  have FIN := Lib.hid (And.intro h2 (And.intro (hs2.old F3.out.size) (F3.out.nil.same hf2)))
  clear hsl h2 hs2 hf2 hd2 hb0
  go_wp2
  go_ret2
  rw [← HOK.out.1, ← HOK.out.2, HB.out]
  exact ⟨rfl, FZ, FIN.out⟩
 ·have q4 : ((m : Int) == 0) = false := by rw [beq_eq_false_iff_ne]; omega
  have HB := Lib.hid a4
  clear a4
  have q1 : (0 : Int) < (n : Int) := by omega
  have q2 : (n : Int) ≤ (p : Int) := by omega
  have q3 : decide (p < n) = false := decide_eq_false (by omega)
  go_enter Tryz.func291, Tryz.ntmps291
  go_wp2_with fail
  refine HL.out.mono ?_
  rintro en w1 ⟨rfl, f1⟩
  have k0 := cell_fr f1 HE.out.k0 (by simp)
  have k1 := cell_fr f1 HE.out.k1 (by simp)
  have k3 := cell_fr f1 HE.out.kr1 (by simp)
  go_wp2_with fail
  refine (emany1A (HE.out.fr0 irokA f1) 0 (by decide) HN.out).mono ?_
  rintro en w2 ⟨rfl, f2⟩
  have k0 := cell_fr f2 k0 (by simp)
  have k1 := cell_fr f2 k1 (by simp)
  have k3 := cell_fr f2 k3 (by simp)
  have F2 := Lib.hid (f1.same f2)
  clear f1 f2
  go_wp2_with fail
  refine (emany1A (HE.out.fr0 irokA F2.out) 1 (by decide) HM.out).mono ?_
  rintro en w3 ⟨rfl, f3⟩
  have F3 := Lib.hid (F2.out.same f3)
  clear f3 k0 k1 k3
  go_wp2_with fail
  refine (aousts (HE.out.fr0 irokA F3.out) (by omega) false).mono ?_
  rintro en wz ⟨v, FZ, rfl, hgo, h2, hs2, hf2, hd2⟩
  have hsl : Sl wz 9 1 v 1 [.string (oldest K 1)] := hgo.1
  clear hgo
  obtain ⟨b0, o0, c0, hv0, hb0⟩ := hsl.pos (by decide)
  subst hv0
  have x0 := hsl.cell (j := 0) (u := .string (oldest K 1)) rfl
  simp only [Nat.add_zero] at x0
  have FIN := Lib.hid (And.intro h2 (And.intro (hs2.old F3.out.size) (F3.out.nil.same hf2)))
  clear hsl h2 hs2 hf2 hd2 hb0
  go_wp2
  go_ret2
  rw [← HOK.out.1, ← HOK.out.2, HB.out]
  exact ⟨rfl, FZ, FIN.out⟩
end
theorem aevict {w : World} {e : Nat} {F : List Nat} {s : Arc} (H : EArc w e F s) : Calls Tryz.prog 291 #[ptr e] w (StepRet EArc w e F (.tuple #[.string s.evict.1, .bool s.evict.2.1]) s.evict.2.2) := by
 have hinv := H.1.evict
 obtain ⟨hi, g, cap, x, h⟩ := H
 have ha := hi.all
 have hc := hi.c2
 by_cases h0 : s.len = 0
 ·have e1 : s.evict = (⟨#[]⟩, false, s) := by unfold Arc.evict; rw [if_pos h0]
  rw [e1]
  refine (aevict0 h h0).mono ?_
  rintro en w' ⟨rfl, F2, h2, hs, hf⟩
  exact ⟨rfl, F2, ⟨hi, g, cap, x, h2⟩, hs, hf⟩
 ·have e1 : s.evict = (oldest s.K (if arcRec s.K s.p false = true then 0 else 1), true, { s with K := (arcOusts s.K (arcRec s.K s.p false)).2 }) := by unfold Arc.evict; rw [if_neg h0]
  rw [e1] at hinv ⊢
  refine (aevict1 h (by omega) h0).mono ?_
  rintro en w' ⟨rfl, F2, h2, hs, hf⟩
  exact ⟨rfl, F2, ⟨hinv, g, cap, x, h2⟩, hs, hf⟩
theorem qevictE {w : World} {e : Nat} {F : List Nat} {s : Twoq} (H : EQ w e F s) : Calls Tryz.prog 368 #[ptr e] w (StepRet EQ w e F (.tuple #[.string s.evict.1, .bool s.evict.2.1]) s.evict.2.2) := by
 obtain ⟨i1, i2, _, _⟩ := H.1.evict
 obtain ⟨hi, g, cap, x, h⟩ := H
 have hr := hi.res
 have ho := hi.out
 have hc := hi.c2
 refine (qevict h hc (by rw [tot3]; unfold Twoq.kout at ho; omega)).mono ?_
 rintro en w' ⟨rfl, F2, h2, hs, hf⟩
 refine ⟨rfl, F2, ⟨i1, g, cap, x, ?_⟩, hs, hf⟩
 have e1 : s.evict.2.2.kin = s.kin := by unfold Twoq.kin; rw [i2]
 have e2 : s.evict.2.2.kout = s.kout := by unfold Twoq.kout; rw [i2]
 rw [i2, e1, e2]
 exact h2
end Go.Proofs.YtphlancijlljcaaGreat

set_option linter.unusedVariables false
set_option linter.unusedSimpArgs false
namespace Go.Proofs.YtphlancijlljcaaGreat
open Go.RowKit
attribute [local go_sem ↓] Go.wp_at_zero Go.wp_at_succ
section
variable {u : UC} {w : World} {F : List Nat} {K : Rows} {k : Sk} {d : Dr}
def UEv (u : UC) (w : World) (F : List Nat) (key : ByteArray) (b : Bool) (K : Rows) (k : Sk) (d : Dr) (en : Ending) (w' : World) : Prop := en = .returned (.tuple #[.string key, .bool b]) ∧ UGo u w F K k d w'
set_option maxRecDepth 100000 in
theorem uevict0 (H : UR u w F K k d) (h0 : (K 0).length + (K 1).length + (K 2).length = 0) : Calls Tryz.prog 392 #[ptr u.e] w (UEv u w F ⟨#[]⟩ false K k d) := by
 obtain ⟨F0, hh⟩ := H.er
 have HL := Lib.hid (elenU hh h0)
 have HE := Lib.hid H
 clear H h0 hh
 go_enter Tryz.func392, Tryz.ntmps392
 go_wp2_with fail
 refine HL.out.mono ?_
 rintro en w1 ⟨rfl, f1⟩
 have HF := Lib.hid f1
 clear f1
 go_wp2
 go_ret2
 exact ⟨rfl, F, HE.out.fr0 HF.out, Sub.refl _ _, HF.out.nil⟩
set_option maxRecDepth 100000 in
theorem uevict1 (H : UR u w F K k d) (hl : tot 3 K ≤ 4000) {v : Nat} (hv : vict K = v) {o : ByteArray} (ho : oldest K v = o) (h0 : (K 0).length + (K 1).length + (K 2).length ≠ 0) : Calls Tryz.prog 392 #[ptr u.e] w (UEv u w F o true (dropK K o) k d) := by
 obtain ⟨F0, hh⟩ := H.er
 obtain ⟨s, hs⟩ : ∃ s, (K 0).length + (K 1).length + (K 2).length = s := ⟨_, rfl⟩
 rw [hs] at h0
 have hs1 : ((s : Int) == 0) = false := by rw [beq_eq_false_iff_ne]; omega
 have hv3 : v < 3 := by rw [← hv]; unfold vict; split; omega; split <;> omega
 have HL := Lib.hid (elenU hh hs)
 obtain ⟨b, hb⟩ : ∃ b, decide (v ≠ 0) = b := ⟨_, rfl⟩
 have HV : Hid (∀ W, Fr [] w W → Calls Tryz.prog 407 #[ptr u.e] W fun en w' => en = .returned (.tuple #[.int .i64 (v : Nat), .bool b]) ∧ Fr [] W w') := fun W f => uvictim (H.fr0 f) (by omega) hv hb
 have HO : Hid (∀ W, Fr [] w W → Calls Tryz.prog 405 #[.agg #[.slice (some ⟨u.g, 0, none⟩) 3 u.cap, ptr u.x], .int .i64 v] W fun en w' => en = .returned (.string o) ∧ Fr [] W w') := fun W f => (H.fr0 f).oldest hv3 ho
 have HD : Hid (∀ W, Fr [] w W → Calls Tryz.prog 408 #[.agg #[.slice (some ⟨u.g, 0, none⟩) 3 u.cap, ptr u.x], .string o] W fun en w' => en = .returned (.tuple #[]) ∧ UGo u W F (dropK K o) k d w') := fun W f => (H.fr0 f).drop (by omega) o (by rw [← ho]; exact oldest_sz H.nd v)
 have HE := Lib.hid hh
 clear H h0 hh hs hv ho hb
 go_enter Tryz.func392, Tryz.ntmps392
 go_wp2_with fail
 refine HL.out.mono ?_
 rintro en w1 ⟨rfl, f1⟩
 have F1 := Lib.hid f1
 clear f1
 go_wp2_with fail
 refine (HV.out _ F1.out).mono ?_
 rintro en w2 ⟨rfl, f2⟩
 have F2 := Lib.hid (F1.out.same f2)
 clear f2
 have k0 := cell_fr F2.out HE.out.k0 (by simp)
 have k1 := cell_fr F2.out HE.out.k1 (by simp)
 go_wp2_with fail
 refine (HO.out _ F2.out).mono ?_
 rintro en w3 ⟨rfl, f3⟩
 have F3 := Lib.hid (F2.out.same f3)
 have k0 := cell_fr f3 k0 (by simp)
 have k1 := cell_fr f3 k1 (by simp)
 clear f3
 go_wp2_with fail
 refine (HD.out _ F3.out).mono ?_
 rintro en w4 ⟨rfl, FZ, h2, hs2, hf2⟩
 have FIN := Lib.hid (And.intro h2 (And.intro (hs2.old F3.out.size) (F3.out.nil.same hf2)))
 clear h2 hs2 hf2 k0 k1
 go_wp2
 go_ret2
 exact ⟨rfl, FZ, FIN.out⟩
end
section
variable {w : World} {e : Nat} {F : List Nat}
theorem uevict {s : Tiny} (H : EU w e F s) : Calls Tryz.prog 392 #[ptr e] w (StepRet EU w e F (.tuple #[.string s.evict.1, .bool s.evict.2.1]) s.evict.2.2) := by
 have hinv := H.1.evict
 obtain ⟨hi, u, rfl, hc, hwi, hma, hpr, h⟩ := H
 by_cases h0 : s.len = 0
 ·have e1 : s.evict = (⟨#[]⟩, false, s) := by unfold Tiny.evict; rw [if_pos h0]
  rw [e1]
  refine (uevict0 h h0).mono ?_
  rintro en w' ⟨rfl, F2, h2, hs, hf⟩
  exact ⟨rfl, F2, ⟨hi, u, rfl, hc, hwi, hma, hpr, h2⟩, hs, hf⟩
 ·have e1 : s.evict = (oldest s.K s.victim, true, { s with K := dropK s.K (oldest s.K s.victim) }) := by unfold Tiny.evict; rw [if_neg h0]
  rw [e1] at hinv ⊢
  refine (uevict1 h hi.tot (v := s.victim) rfl rfl h0).mono ?_
  rintro en w' ⟨rfl, F2, h2, hs, hf⟩
  exact ⟨rfl, F2, ⟨hinv, u, rfl, hc, hwi, hma, hpr, h2⟩, hs, hf⟩
theorem sevictE {s : S3} (H : ES w e F s) : Calls Tryz.prog 430 #[ptr e] w (StepRet ES w e F (.tuple #[.string s.evict.1, .bool s.evict.2.1]) s.evict.2.2) := by
 obtain ⟨i1, i2, _, _⟩ := H.1.evict
 obtain ⟨hi, g, cap, x, y, h⟩ := H
 refine (sevict h hi).mono ?_
 rintro en w' ⟨rfl, F2, h2, hs, hf⟩
 refine ⟨rfl, F2, ⟨i1, g, cap, x, y, ?_⟩, hs, hf⟩
 have e1 : s.evict.2.2.small = s.small := by unfold S3.small; rw [i2]
 have e2 : s.evict.2.2.ghosts = s.ghosts := by unfold S3.ghosts; rw [i2, e1]
 rw [i2, e1, e2]
 exact h2
theorem levictE {s : Lirs} (H : EL w e F s) : Calls Tryz.prog 339 #[ptr e] w (StepRet EL w e F (.tuple #[.string s.evict.1, .bool s.evict.2.1]) s.evict.2.2) := by
 obtain ⟨i1, i2, _⟩ := H.1.evict
 obtain ⟨hi, u, rfl, hc, hm, h⟩ := H
 refine (levict h hi hc).mono ?_
 rintro en w' ⟨rfl, F2, h2, hs, hf⟩
 exact ⟨rfl, F2, ⟨i1, u, rfl, by rw [i2]; exact hc, by unfold Lirs.most; rw [i2]; exact hm, h2⟩, hs, hf⟩
end
end Go.Proofs.YtphlancijlljcaaGreat
