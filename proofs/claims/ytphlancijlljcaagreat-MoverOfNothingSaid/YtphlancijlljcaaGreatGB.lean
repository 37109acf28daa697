/- The walks over twoq's engine: Len, Evict, reclaims. -/
import Derived.Test.YtphlancijlljcaaGreatArc5
import Derived.Test.YtphlancijlljcaaGreatG1
set_option linter.unusedVariables false
set_option linter.unusedSimpArgs false
namespace Go.Proofs.YtphlancijlljcaaGreat
open Go.RowKit
open Act renaming put → pE0
open List renaming getElem_toArray → pE1, getElem_cons_succ → pE2, getElem_cons_zero → pE3, setIfInBounds_toArray → pE4, set_cons_zero → pE5, set_cons_succ → pE6
attribute [local go_sem ↓] Go.wp_at_zero Go.wp_at_succ
section
variable {w : World} {e g cap x : Nat} {F : List Nat} {K : Rows} {c kin kout : Nat}
set_option maxRecDepth 100000 in
theorem qlen (H : ERows IRepQ 3 209 w e g cap x F K [.int .i64 (c : Nat), .int .i64 (kin : Nat), .int .i64 (kout : Nat)]) {s : Nat} (hs : (K 0).length + (K 2).length = s) : Calls Tryz.prog 372 #[.pointer (some ⟨e, 0, none⟩)] w fun en w' => en = .returned (.int .i64 (s : Nat)) ∧ Fr [] w w' := by
 have k0 := H.k0
 have k1 := H.k1
 go_enter Tryz.func372, Tryz.ntmps372
 go_wp2_with fail
 refine (emany2Q H 0 2 (by decide) (by decide) hs).mono ?_
 rintro en w1 ⟨rfl, hf⟩
 clear H k0 k1
 go_wp2
 go_ret
 exact ⟨rfl, hf⟩
/-- What Evict hands back and leaves. -/
def EvRet (IR : IRT) (k : Nat) (T : TypeId) (w : World) (e g cap x : Nat) (F : List Nat) (key : ByteArray) (b : Bool) (K : Rows) (rest : List Value) (en : Ending) (w' : World) : Prop :=
 en = .returned (.tuple #[.string key, .bool b]) ∧ EGo IR k T w e g cap x F K rest w'
set_option maxHeartbeats 4000000 in
set_option maxRecDepth 100000 in
theorem qevict0 (H : ERows IRepQ 3 209 w e g cap x F K [.int .i64 (c : Nat), .int .i64 (kin : Nat), .int .i64 (kout : Nat)]) (ht : tot 3 K ≤ 70000) (hk : kin ≤ 1024) (ho : kout ≤ 1024) (hcnd : (K 0).length + (K 2).length = 0) :
  Calls Tryz.prog 368 #[.pointer (some ⟨e, 0, none⟩)] w (EvRet IRepQ 3 209 w e g cap x F ⟨#[]⟩ false K [.int .i64 (c : Nat), .int .i64 (kin : Nat), .int .i64 (kout : Nat)]) := by
 have HL := Lib.hid (qlen H hcnd)
 go_enter Tryz.func368, Tryz.ntmps368
 go_wp2_with fail
 refine HL.out.mono ?_
 rintro en w1 ⟨rfl, hf⟩
 have HE := Lib.hid ((EGo.refl H).fr irokQ hf)
 clear H hf
 go_wp2
 go_ret2
 exact ⟨rfl, HE.out⟩
set_option maxHeartbeats 4000000 in
set_option maxRecDepth 100000 in
theorem qevict1 (H : ERows IRepQ 3 209 w e g cap x F K [.int .i64 (c : Nat), .int .i64 (kin : Nat), .int .i64 (kout : Nat)]) (ht : tot 3 K ≤ 70000) (hk : kin ≤ 1024) (ho : kout ≤ 1024) (hcnd : (K 0).length ≤ kin ∧ 0 < (K 2).length) :
  Calls Tryz.prog 368 #[.pointer (some ⟨e, 0, none⟩)] w (EvRet IRepQ 3 209 w e g cap x F (oldest K 2) true (dropK K (oldest K 2)) [.int .i64 (c : Nat), .int .i64 (kin : Nat), .int .i64 (kout : Nat)]) := by
 have k0 := H.k0
 have k1 := H.k1
 have k2 := H.kr0
 have k3 := H.kr1
 have k4 := H.kr2
 have hF := Fr.refl [] w
 have l0 : (K 0).length ≤ 70000 := Nat.le_trans (len_tot (by omega)) ht
 have l2 : (K 2).length ≤ 70000 := Nat.le_trans (len_tot (by omega)) ht
 obtain ⟨n0, hn0⟩ : ∃ n, (K 0).length = n := ⟨_, rfl⟩
 obtain ⟨n2, hn2⟩ : ∃ n, (K 2).length = n := ⟨_, rfl⟩
 obtain ⟨s, hs⟩ : ∃ n, (K 0).length + (K 2).length = n := ⟨_, rfl⟩
 rw [hn0] at l0
 rw [hn2] at l2
 have hsn : s = n0 + n2 := by rw [← hs, hn0, hn2]
 simp only [hn0, hn2] at hcnd
 have HN0 := Lib.hid hn0
 have HN2 := Lib.hid hn2
 have HS := Lib.hid hs
 clear hn0 hn2 hs
 obtain ⟨h1, h2⟩ := hcnd
 have q1 : (n0 : Int) ≤ (kin : Int) := by omega
 have q2 : (0 : Int) < (n2 : Int) := by omega
 have q3 : ((s : Int) == 0) = false := by rw [beq_eq_false_iff_ne]; omega
 go_enter Tryz.func368, Tryz.ntmps368
 go_wp2_with fail
 refine (qlen H HS.out).mono ?_
 rintro en w1 ⟨rfl, hf1⟩
 have hn := hf1
 replace hF := hF.same hn
 replace H := H.fr0 irokQ hn
 replace k0 := H.k0
 replace k1 := H.k1
 replace k2 := H.kr0
 replace k3 := H.kr1
 replace k4 := H.kr2
 clear hn hf1
 go_wp2_with fail
 first
  | (go_region_held3 (fun w' => w'.cell? ⟨e, 0, none⟩ = some (.slice (some ⟨g, 0, none⟩) 3 cap) ∧ w'.cell? ⟨e, 1, none⟩ = some (.pointer (some ⟨x, 0, none⟩)) ∧ w'.cell? ⟨e, 3, none⟩ = some (.int .i64 kin) ∧ w'.cell? ⟨e, 4, none⟩ = some (.int .i64 kout))
    (first
     | (have _h := hf2; exact ⟨cell_fr ((((Fr.refl [] _).drew).same hf1).same hf2) k0 (by simp), cell_fr ((((Fr.refl [] _).drew).same hf1).same hf2) k1 (by simp), cell_fr ((((Fr.refl [] _).drew).same hf1).same hf2) k3 (by simp), cell_fr ((((Fr.refl [] _).drew).same hf1).same hf2) k4 (by simp)⟩)
     | (have _h := hf1; first | exact ⟨cell_fr (((Fr.refl [] _).drew).same hf1) k0 (by simp), cell_fr (((Fr.refl [] _).drew).same hf1) k1 (by simp), cell_fr (((Fr.refl [] _).drew).same hf1) k3 (by simp), cell_fr (((Fr.refl [] _).drew).same hf1) k4 (by simp)⟩ | exact ⟨cell_fr ((((Fr.refl [] _).drew).same hf1).alloc _) k0 (by simp), cell_fr ((((Fr.refl [] _).drew).same hf1).alloc _) k1 (by simp), cell_fr ((((Fr.refl [] _).drew).same hf1).alloc _) k3 (by simp), cell_fr ((((Fr.refl [] _).drew).same hf1).alloc _) k4 (by simp)⟩)
     | exact ⟨k0, k1, k3, k4⟩
     | exact ⟨cell_fr (((Fr.refl [] _).drew).alloc _) k0 (by simp), cell_fr (((Fr.refl [] _).drew).alloc _) k1 (by simp), cell_fr (((Fr.refl [] _).drew).alloc _) k3 (by simp), cell_fr (((Fr.refl [] _).drew).alloc _) k4 (by simp)⟩)
    (first
     | (have _h := hf1; go_at_call 381; refine (emany1Q (H.fr0 irokQ (((Fr.refl [] _).drew).same hf1)) 2 (by decide) HN2.out).mono ?_; rintro en w2 ⟨rfl, hf2⟩)
     | (go_at_call 381; refine (emany1Q (H.fr0 irokQ ((Fr.refl [] _).drew)) 0 (by decide) HN0.out).mono ?_; rintro en w1 ⟨rfl, hf1⟩)))
  | fail
 have hn : Fr [] _ w2 := (((Fr.refl [] _).drew).same hf1).same hf2
 clear hf2
 replace hF := hF.same hn
 replace H := H.fr0 irokQ hn
 replace k0 := H.k0
 replace k1 := H.k1
 replace k2 := H.kr0
 replace k3 := H.kr1
 replace k4 := H.kr2
 clear hn hf1
 go_wp2_with fail
 refine (eoldestQ H (r := 2) (by decide)).mono ?_
 rintro en w1 ⟨rfl, hf1⟩
 have hn := hf1
 replace hF := hF.same hn
 replace H := H.fr0 irokQ hn
 replace k0 := H.k0
 replace k1 := H.k1
 replace k2 := H.kr0
 replace k3 := H.kr1
 replace k4 := H.kr2
 clear hn hf1
 have hsz := oldest_sz H.nd 2
 go_wp2_with fail
 refine (edropQ H (by omega) _ hsz).mono ?_
 rintro en w2 ⟨rfl, heg⟩
 have HE := Lib.hid (heg.old hF)
 clear H k0 k1 k2 k3 k4 heg
 go_wp2
 go_ret2
 exact ⟨rfl, HE.out⟩
set_option maxHeartbeats 8000000 in
set_option maxRecDepth 100000 in
theorem qevict2 (H : ERows IRepQ 3 209 w e g cap x F K [.int .i64 (c : Nat), .int .i64 (kin : Nat), .int .i64 (kout : Nat)]) (ht : tot 3 K ≤ 70000) (hk : kin ≤ 1024) (ho : kout ≤ 1024) (hcnd : (K 0).length ≤ kin ∧ (K 2).length = 0 ∧ 0 < (K 0).length) :
  Calls Tryz.prog 368 #[.pointer (some ⟨e, 0, none⟩)] w (EvRet IRepQ 3 209 w e g cap x F (oldest K 0) true (trim (pushK K 1 (oldest K 0)) 1 kout) [.int .i64 (c : Nat), .int .i64 (kin : Nat), .int .i64 (kout : Nat)]) := by
 obtain ⟨KR, hR⟩ : ∃ KR, trim (pushK K 1 (oldest K 0)) 1 kout = KR := ⟨_, rfl⟩
 rw [hR]
 replace hR := hR.symm
 have k0 := H.k0
 have k1 := H.k1
 have k2 := H.kr0
 have k3 := H.kr1
 have k4 := H.kr2
 have hF := Fr.refl [] w
 have l0 : (K 0).length ≤ 70000 := Nat.le_trans (len_tot (by omega)) ht
 have l2 : (K 2).length ≤ 70000 := Nat.le_trans (len_tot (by omega)) ht
 obtain ⟨n0, hn0⟩ : ∃ n, (K 0).length = n := ⟨_, rfl⟩
 obtain ⟨n2, hn2⟩ : ∃ n, (K 2).length = n := ⟨_, rfl⟩
 obtain ⟨s, hs⟩ : ∃ n, (K 0).length + (K 2).length = n := ⟨_, rfl⟩
 rw [hn0] at l0
 rw [hn2] at l2
 have hsn : s = n0 + n2 := by rw [← hs, hn0, hn2]
 simp only [hn0, hn2] at hcnd
 have HN0 := Lib.hid hn0
 have HN2 := Lib.hid hn2
 have HS := Lib.hid hs
 clear hn0 hn2 hs
 obtain ⟨h1, h2, h3⟩ := hcnd
 have q1 : (n0 : Int) ≤ (kin : Int) := by omega
 subst h2
 have q3 : ((s : Int) == 0) = false := by rw [beq_eq_false_iff_ne]; omega
 go_enter Tryz.func368, Tryz.ntmps368
 go_wp2_with fail
 refine (qlen H HS.out).mono ?_
 rintro en w1 ⟨rfl, hf1⟩
 have hn := hf1
 replace hF := hF.same hn
 replace H := H.fr0 irokQ hn
 replace k0 := H.k0
 replace k1 := H.k1
 replace k2 := H.kr0
 replace k3 := H.kr1
 replace k4 := H.kr2
 clear hn hf1
 go_wp2_with fail
 first
  | (go_region_held3 (fun w' => w'.cell? ⟨e, 0, none⟩ = some (.slice (some ⟨g, 0, none⟩) 3 cap) ∧ w'.cell? ⟨e, 1, none⟩ = some (.pointer (some ⟨x, 0, none⟩)) ∧ w'.cell? ⟨e, 3, none⟩ = some (.int .i64 kin) ∧ w'.cell? ⟨e, 4, none⟩ = some (.int .i64 kout))
    (first
     | (have _h := hf2; exact ⟨cell_fr ((((Fr.refl [] _).drew).same hf1).same hf2) k0 (by simp), cell_fr ((((Fr.refl [] _).drew).same hf1).same hf2) k1 (by simp), cell_fr ((((Fr.refl [] _).drew).same hf1).same hf2) k3 (by simp), cell_fr ((((Fr.refl [] _).drew).same hf1).same hf2) k4 (by simp)⟩)
     | (have _h := hf1; first | exact ⟨cell_fr (((Fr.refl [] _).drew).same hf1) k0 (by simp), cell_fr (((Fr.refl [] _).drew).same hf1) k1 (by simp), cell_fr (((Fr.refl [] _).drew).same hf1) k3 (by simp), cell_fr (((Fr.refl [] _).drew).same hf1) k4 (by simp)⟩ | exact ⟨cell_fr ((((Fr.refl [] _).drew).same hf1).alloc _) k0 (by simp), cell_fr ((((Fr.refl [] _).drew).same hf1).alloc _) k1 (by simp), cell_fr ((((Fr.refl [] _).drew).same hf1).alloc _) k3 (by simp), cell_fr ((((Fr.refl [] _).drew).same hf1).alloc _) k4 (by simp)⟩)
     | exact ⟨k0, k1, k3, k4⟩
     | exact ⟨cell_fr (((Fr.refl [] _).drew).alloc _) k0 (by simp), cell_fr (((Fr.refl [] _).drew).alloc _) k1 (by simp), cell_fr (((Fr.refl [] _).drew).alloc _) k3 (by simp), cell_fr (((Fr.refl [] _).drew).alloc _) k4 (by simp)⟩)
    (first
     | (have _h := hf1; go_at_call 381; refine (emany1Q (H.fr0 irokQ (((Fr.refl [] _).drew).same hf1)) 2 (by decide) HN2.out).mono ?_; rintro en w2 ⟨rfl, hf2⟩)
     | (go_at_call 381; refine (emany1Q (H.fr0 irokQ ((Fr.refl [] _).drew)) 0 (by decide) HN0.out).mono ?_; rintro en w1 ⟨rfl, hf1⟩)))
  | fail
 have hn : Fr [] _ w2 := (((Fr.refl [] _).drew).same hf1).same hf2
 clear hf2
 replace hF := hF.same hn
 replace H := H.fr0 irokQ hn
 replace k0 := H.k0
 replace k1 := H.k1
 replace k2 := H.kr0
 replace k3 := H.kr1
 replace k4 := H.kr2
 clear hn hf1
 go_wp2_with fail
 refine (eoldestQ H (r := 0) (by decide)).mono ?_
 rintro en w1 ⟨rfl, hf1⟩
 have hn := hf1
 replace hF := hF.same hn
 replace H := H.fr0 irokQ hn
 replace k0 := H.k0
 replace k1 := H.k1
 replace k2 := H.kr0
 replace k3 := H.kr1
 replace k4 := H.kr2
 clear hn hf1
 have hsz0 := oldest_sz H.nd 0
 go_wp2_with fail
 refine (epushQ H (by omega) (r := 1) (by decide) (oldest K 0) hsz0).mono ?_
 rintro en w2 ⟨rfl, F2, H2, hs2, hg2⟩
 have htp := tot_push (K := K) (k := 3) (r := 1) (by decide) (oldest K 0)
 replace hs2 := hs2.old hF.size
 replace hg2 := hF.nil.same hg2
 have HK := Lib.hid hR
 clear H k0 k1 k2 k3 k4 hF hR
 obtain ⟨K1, hK1⟩ : ∃ K1, pushK K 1 (oldest K 0) = K1 := ⟨_, rfl⟩
 rw [hK1] at H2 htp HK
 clear hK1
 go_wp2_with fail
 go_loopg [] (K1 1).length (fun gg wr => ∃ (Kc : Rows) (Fc : List Nat), Aside (trim Kc 1 kout = trim K1 1 kout ∧ (Kc 1).length = gg) ∧ tot 3 Kc ≤ 70001 ∧ ERows IRepQ 3 209 wr e g cap x Fc Kc [.int .i64 (c : Nat), .int .i64 (kin : Nat), .int .i64 (kout : Nat)] ∧ Sub Fc F w ∧ Fr F w wr)
 case atStart => exact ⟨K1, F2, ⟨rfl, rfl⟩, by omega, H2, hs2, hg2⟩
 case round =>
  obtain ⟨Kc, Fc, hA, htc, H, hsc, hgc⟩ := hrel
  obtain ⟨n1, hn1⟩ : ∃ n, (Kc 1).length = n := ⟨_, rfl⟩
  have hb1 : n1 ≤ 70001 := by rw [← hn1]; exact Nat.le_trans (len_tot (by omega)) htc
  have k0 := H.k0
  have k1 := H.k1
  have k2 := H.kr0
  have k3 := H.kr1
  have k4 := H.kr2
  have hF := Fr.refl [] wr
  have HN1 := Lib.hid hn1
  by_cases hlt : kout < n1
  ·have q1 : (kout : Int) < (n1 : Int) := by omega
   clear hn1
   go_wp2_with fail
   first
    | (go_region_held3 (fun w' => w'.cell? ⟨e, 0, none⟩ = some (.slice (some ⟨g, 0, none⟩) 3 cap) ∧ w'.cell? ⟨e, 1, none⟩ = some (.pointer (some ⟨x, 0, none⟩)) ∧ w'.cell? ⟨e, 3, none⟩ = some (.int .i64 kin) ∧ w'.cell? ⟨e, 4, none⟩ = some (.int .i64 kout))
      (first
       | (have _h := hf2; exact ⟨cell_fr ((((Fr.refl [] _).drew).same hf1).same hf2) k0 (by simp), cell_fr ((((Fr.refl [] _).drew).same hf1).same hf2) k1 (by simp), cell_fr ((((Fr.refl [] _).drew).same hf1).same hf2) k3 (by simp), cell_fr ((((Fr.refl [] _).drew).same hf1).same hf2) k4 (by simp)⟩)
       | (have _h := hf1; first | exact ⟨cell_fr (((Fr.refl [] _).drew).same hf1) k0 (by simp), cell_fr (((Fr.refl [] _).drew).same hf1) k1 (by simp), cell_fr (((Fr.refl [] _).drew).same hf1) k3 (by simp), cell_fr (((Fr.refl [] _).drew).same hf1) k4 (by simp)⟩ | exact ⟨cell_fr ((((Fr.refl [] _).drew).same hf1).alloc _) k0 (by simp), cell_fr ((((Fr.refl [] _).drew).same hf1).alloc _) k1 (by simp), cell_fr ((((Fr.refl [] _).drew).same hf1).alloc _) k3 (by simp), cell_fr ((((Fr.refl [] _).drew).same hf1).alloc _) k4 (by simp)⟩)
       | exact ⟨k0, k1, k3, k4⟩
       | exact ⟨cell_fr (((Fr.refl [] _).drew).alloc _) k0 (by simp), cell_fr (((Fr.refl [] _).drew).alloc _) k1 (by simp), cell_fr (((Fr.refl [] _).drew).alloc _) k3 (by simp), cell_fr (((Fr.refl [] _).drew).alloc _) k4 (by simp)⟩)
      (first
       | (have _h := hf1; go_at_call 381; refine (emany1Q (H.fr0 irokQ (((Fr.refl [] _).drew).same hf1)) 2 (by decide) HN2.out).mono ?_; rintro en w2 ⟨rfl, hf2⟩)
       | (go_at_call 381; refine (emany1Q (H.fr0 irokQ ((Fr.refl [] _).drew)) 1 (by decide) HN1.out).mono ?_; rintro en w1 ⟨rfl, hf1⟩)))
    | fail
   have hn : Fr [] _ w1 := ((Fr.refl [] _).drew).same hf1
   replace hF := hF.same hn
   replace H := H.fr0 irokQ hn
   replace k0 := H.k0
   replace k1 := H.k1
   replace k2 := H.kr0
   replace k3 := H.kr1
   replace k4 := H.kr2
   clear hn hf1
   go_wp2_with fail
   first
    | (go_region_held3 (fun w' => w'.cell? ⟨e, 0, none⟩ = some (.slice (some ⟨g, 0, none⟩) 3 cap) ∧ w'.cell? ⟨e, 1, none⟩ = some (.pointer (some ⟨x, 0, none⟩)) ∧ w'.cell? ⟨e, 3, none⟩ = some (.int .i64 kin) ∧ w'.cell? ⟨e, 4, none⟩ = some (.int .i64 kout))
      (first
       | (have _h := hg2; exact ⟨H2.k0, H2.k1, H2.kr1, H2.kr2⟩)
       | (have _h := hf1; exact ⟨cell_fr (((Fr.refl [] _).drew).same hf1) k0 (by simp), cell_fr (((Fr.refl [] _).drew).same hf1) k1 (by simp), cell_fr (((Fr.refl [] _).drew).same hf1) k3 (by simp), cell_fr (((Fr.refl [] _).drew).same hf1) k4 (by simp)⟩)
       | exact ⟨k0, k1, k3, k4⟩)
      (first
       | (have _h := hf1; go_at_call 379; refine (edropQ (H.fr0 irokQ (((Fr.refl [] _).drew).same hf1)) (by omega) _ (oldest_sz H.nd 1)).mono ?_; rintro en w2 ⟨rfl, F2, H2, hs2, hg2⟩)
       | (go_at_call 382; refine (eoldestQ (H.fr0 irokQ ((Fr.refl [] _).drew)) (r := 1) (by decide)).mono ?_; rintro en w1 ⟨rfl, hf1⟩)))
    | fail
   have hnd := H.nd
   have hst := trim_step hnd (r := 1) (n := kout) (by rw [HN1.out]; exact hlt)
   have hdl := drop_len_in hnd (oldest_mem (K := Kc) (r := 1) (by rw [HN1.out]; omega)) 1
   have hdt := tot_drop 3 Kc (oldest Kc 1)
   obtain ⟨e1, e2⟩ := hA.out
   have hf3 : Fr [] wr w1 := hF.same (((Fr.refl [] _).drew).same hf1)
   have hs4 := hs2.old (a := wr) (by have := (hF.same (((Fr.refl [] _).drew).same hf1)).size; simpa using this)
   have hg4 : Fr Fc wr w2 := hf3.nil.same hg2
   clear H k0 k1 k2 k3 k4 hF hf1
   go_wp2_with fail
   go_roundg ((dropK Kc (oldest Kc 1)) 1).length
   case measure => rw [← e2]; simp at hdl; omega
   case rel => exact ⟨_, F2, ⟨hst.trans e1, rfl⟩, by omega, H2, hsc.fr hgc hs4, hgc.via hsc hg4⟩
  ·have q1 : (n1 : Int) ≤ (kout : Int) := by omega
   clear hn1
   go_wp2_with fail
   first
    | (go_region_held3 (fun w' => w'.cell? ⟨e, 0, none⟩ = some (.slice (some ⟨g, 0, none⟩) 3 cap) ∧ w'.cell? ⟨e, 1, none⟩ = some (.pointer (some ⟨x, 0, none⟩)) ∧ w'.cell? ⟨e, 3, none⟩ = some (.int .i64 kin) ∧ w'.cell? ⟨e, 4, none⟩ = some (.int .i64 kout))
      (first
       | (have _h := hf2; exact ⟨cell_fr ((((Fr.refl [] _).drew).same hf1).same hf2) k0 (by simp), cell_fr ((((Fr.refl [] _).drew).same hf1).same hf2) k1 (by simp), cell_fr ((((Fr.refl [] _).drew).same hf1).same hf2) k3 (by simp), cell_fr ((((Fr.refl [] _).drew).same hf1).same hf2) k4 (by simp)⟩)
       | (have _h := hf1; first | exact ⟨cell_fr (((Fr.refl [] _).drew).same hf1) k0 (by simp), cell_fr (((Fr.refl [] _).drew).same hf1) k1 (by simp), cell_fr (((Fr.refl [] _).drew).same hf1) k3 (by simp), cell_fr (((Fr.refl [] _).drew).same hf1) k4 (by simp)⟩ | exact ⟨cell_fr ((((Fr.refl [] _).drew).same hf1).alloc _) k0 (by simp), cell_fr ((((Fr.refl [] _).drew).same hf1).alloc _) k1 (by simp), cell_fr ((((Fr.refl [] _).drew).same hf1).alloc _) k3 (by simp), cell_fr ((((Fr.refl [] _).drew).same hf1).alloc _) k4 (by simp)⟩)
       | exact ⟨k0, k1, k3, k4⟩
       | exact ⟨cell_fr (((Fr.refl [] _).drew).alloc _) k0 (by simp), cell_fr (((Fr.refl [] _).drew).alloc _) k1 (by simp), cell_fr (((Fr.refl [] _).drew).alloc _) k3 (by simp), cell_fr (((Fr.refl [] _).drew).alloc _) k4 (by simp)⟩)
      (first
       | (have _h := hf1; go_at_call 381; refine (emany1Q (H.fr0 irokQ (((Fr.refl [] _).drew).same hf1)) 2 (by decide) HN2.out).mono ?_; rintro en w2 ⟨rfl, hf2⟩)
       | (go_at_call 381; refine (emany1Q (H.fr0 irokQ ((Fr.refl [] _).drew)) 1 (by decide) HN1.out).mono ?_; rintro en w1 ⟨rfl, hf1⟩)))
    | fail
   have hn : Fr [] _ w1 := ((Fr.refl [] _).drew).same hf1
   replace hF := hF.same hn
   replace H := H.fr0 irokQ hn
   replace k0 := H.k0
   replace k1 := H.k1
   replace k2 := H.kr0
   replace k3 := H.kr1
   replace k4 := H.kr2
   clear hn hf1
   obtain ⟨e1, e2⟩ := hA.out
   have hle := trim_le (K := Kc) (r := 1) (n := kout) (by rw [HN1.out]; omega)
   rw [hle] at e1
   have HE := Lib.hid (And.intro H (And.intro hF e1))
   clear H k0 k1 k2 k3 k4 hF hA e1 e2 hle
   go_wp2_with fail
   go_ret2
   rw [HK.out, ← HE.out.2.2]
   exact ⟨rfl, Fc, HE.out.1, hsc, hgc.same HE.out.2.1.nil⟩
set_option maxHeartbeats 8000000 in
set_option maxRecDepth 100000 in
theorem qevict3 (H : ERows IRepQ 3 209 w e g cap x F K [.int .i64 (c : Nat), .int .i64 (kin : Nat), .int .i64 (kout : Nat)]) (ht : tot 3 K ≤ 70000) (hk : kin ≤ 1024) (ho : kout ≤ 1024) (hcnd : kin < (K 0).length) :
  Calls Tryz.prog 368 #[.pointer (some ⟨e, 0, none⟩)] w (EvRet IRepQ 3 209 w e g cap x F (oldest K 0) true (trim (pushK K 1 (oldest K 0)) 1 kout) [.int .i64 (c : Nat), .int .i64 (kin : Nat), .int .i64 (kout : Nat)]) := by
 obtain ⟨KR, hR⟩ : ∃ KR, trim (pushK K 1 (oldest K 0)) 1 kout = KR := ⟨_, rfl⟩
 rw [hR]
 replace hR := hR.symm
 have k0 := H.k0
 have k1 := H.k1
 have k2 := H.kr0
 have k3 := H.kr1
 have k4 := H.kr2
 have hF := Fr.refl [] w
 have l0 : (K 0).length ≤ 70000 := Nat.le_trans (len_tot (by omega)) ht
 have l2 : (K 2).length ≤ 70000 := Nat.le_trans (len_tot (by omega)) ht
 obtain ⟨n0, hn0⟩ : ∃ n, (K 0).length = n := ⟨_, rfl⟩
 obtain ⟨n2, hn2⟩ : ∃ n, (K 2).length = n := ⟨_, rfl⟩
 obtain ⟨s, hs⟩ : ∃ n, (K 0).length + (K 2).length = n := ⟨_, rfl⟩
 rw [hn0] at l0
 rw [hn2] at l2
 have hsn : s = n0 + n2 := by rw [← hs, hn0, hn2]
 simp only [hn0, hn2] at hcnd
 have HN0 := Lib.hid hn0
 have HN2 := Lib.hid hn2
 have HS := Lib.hid hs
 clear hn0 hn2 hs
 have q1 : (kin : Int) < (n0 : Int) := by omega
 have q1a : decide ((n0 : Int) ≤ (kin : Int)) = false := decide_eq_false (by omega)
 have q1b : decide (n0 ≤ kin) = false := decide_eq_false (by omega)
 have q3 : ((s : Int) == 0) = false := by rw [beq_eq_false_iff_ne]; omega
 go_enter Tryz.func368, Tryz.ntmps368
 go_wp2_with fail
 refine (qlen H HS.out).mono ?_
 rintro en w1 ⟨rfl, hf1⟩
 have hn := hf1
 replace hF := hF.same hn
 replace H := H.fr0 irokQ hn
 replace k0 := H.k0
 replace k1 := H.k1
 replace k2 := H.kr0
 replace k3 := H.kr1
 replace k4 := H.kr2
 clear hn hf1
 go_wp2_with fail
 refine wp_region_held_drew (S := (fun w' => w'.cell? ⟨e, 0, none⟩ = some (.slice (some ⟨g, 0, none⟩) 3 cap) ∧ w'.cell? ⟨e, 1, none⟩ = some (.pointer (some ⟨x, 0, none⟩)) ∧ w'.cell? ⟨e, 3, none⟩ = some (.int .i64 kin) ∧ w'.cell? ⟨e, 4, none⟩ = some (.int .i64 kout))) (by kernel_rfl) ?hS0 (fun hHeld => ?_)
 case hS0 =>
  try dsimp only
  (first | (have _h := hf1; exact ⟨cell_fr (((Fr.refl [] _).drew).same hf1) k0 (by simp), cell_fr (((Fr.refl [] _).drew).same hf1) k1 (by simp), cell_fr (((Fr.refl [] _).drew).same hf1) k3 (by simp), cell_fr (((Fr.refl [] _).drew).same hf1) k4 (by simp)⟩) | exact ⟨k0, k1, k3, k4⟩ | exact ⟨cell_fr (((Fr.refl [] _).drew).alloc _) k0 (by simp), cell_fr (((Fr.refl [] _).drew).alloc _) k1 (by simp), cell_fr (((Fr.refl [] _).drew).alloc _) k3 (by simp), cell_fr (((Fr.refl [] _).drew).alloc _) k4 (by simp)⟩)
 refine tkH 0 (v := ?_) rfl (Or.inl ⟨by rfl, ?hy⟩) ?_
 case hy => intro w hSw; (try dsimp only at hSw); go_simp; try with_reducible rfl
 try simp only [pE0, pE1, pE2, pE3, pE4, pE5, pE6]
 refine tkH 1 (v := ?_) rfl (Or.inl ⟨by rfl, ?hy⟩) ?_
 case hy => intro w hSw; (try dsimp only at hSw); go_simp; try with_reducible rfl
 try simp only [pE0, pE1, pE2, pE3, pE4, pE5, pE6]
 refine tkH 2 (v := ?_) rfl (Or.inl ⟨by rfl, ?hy⟩) ?_
 case hy => intro w hSw; (try dsimp only at hSw); go_simp; try with_reducible rfl
 try simp only [pE0, pE1, pE2, pE3, pE4, pE5, pE6]
 refine tkH 3 (v := ?_) rfl (Or.inl ⟨by rfl, ?hy⟩) ?_
 case hy => intro w hSw; (try dsimp only at hSw); go_simp; try with_reducible rfl
 try simp only [pE0, pE1, pE2, pE3, pE4, pE5, pE6]
 refine tkH 6 (v := ?_) rfl (Or.inl ⟨by rfl, ?hy⟩) ?_
 case hy => intro w hSw; (try dsimp only at hSw); go_simp; try with_reducible rfl
 try simp only [pE0, pE1, pE2, pE3, pE4, pE5, pE6]
 refine tkH 7 (v := ?_) rfl (Or.inl ⟨by rfl, ?hy⟩) ?_
 case hy => intro w hSw; (try dsimp only at hSw); go_simp; try with_reducible rfl
 try simp only [pE0, pE1, pE2, pE3, pE4, pE5, pE6]
 refine tkH 8 (v := ?_) rfl (Or.inl ⟨by rfl, ?hy⟩) ?_
 case hy => intro w hSw; (try dsimp only at hSw); go_simp; try with_reducible rfl
 try simp only [pE0, pE1, pE2, pE3, pE4, pE5, pE6]
 refine tkH 9 (v := ?_) rfl (Or.inl ⟨by rfl, ?hy⟩) ?_
 case hy => intro w hSw; (try dsimp only at hSw); go_simp; try with_reducible rfl
 try simp only [pE0, pE1, pE2, pE3, pE4, pE5, pE6]
 refine wpAnyH_ready (rs := [4]) (by kernel_rfl) (by simp) ?_
 refine AllReadyH.cons rfl (fun K hK => ?_) AllReadyH.nil
 go_simp
 refine hK.out _ _ ?hS1 (fun hHeld => ?_)
 case hS1 =>
  try dsimp only
  (first | (have _h := hf1; exact ⟨cell_fr (((Fr.refl [] _).drew).same hf1) k0 (by simp), cell_fr (((Fr.refl [] _).drew).same hf1) k1 (by simp), cell_fr (((Fr.refl [] _).drew).same hf1) k3 (by simp), cell_fr (((Fr.refl [] _).drew).same hf1) k4 (by simp)⟩) | exact ⟨k0, k1, k3, k4⟩ | exact ⟨cell_fr (((Fr.refl [] _).drew).alloc _) k0 (by simp), cell_fr (((Fr.refl [] _).drew).alloc _) k1 (by simp), cell_fr (((Fr.refl [] _).drew).alloc _) k3 (by simp), cell_fr (((Fr.refl [] _).drew).alloc _) k4 (by simp)⟩)
 clear hK K
 try simp only [pE0, pE1, pE2, pE3, pE4, pE5, pE6]
 refine wpAnyH_ready (rs := [5]) (by kernel_rfl) (by simp) ?_
 refine AllReadyH.cons rfl (fun K hK => ?_) AllReadyH.nil
 go_simp
 go_at_call 381
 refine (emany1Q (H.fr0 irokQ ((Fr.refl [] _).drew)) 0 (by decide) HN0.out).mono ?_
 rintro en w1 ⟨rfl, hf1⟩
 focus go_wp2_with fail
 refine hK.out _ _ ?hS1 (fun hHeld => ?_)
 case hS1 =>
  try dsimp only
  (first | (have _h := hf1; exact ⟨cell_fr (((Fr.refl [] _).drew).same hf1) k0 (by simp), cell_fr (((Fr.refl [] _).drew).same hf1) k1 (by simp), cell_fr (((Fr.refl [] _).drew).same hf1) k3 (by simp), cell_fr (((Fr.refl [] _).drew).same hf1) k4 (by simp)⟩) | exact ⟨k0, k1, k3, k4⟩ | exact ⟨cell_fr (((Fr.refl [] _).drew).alloc _) k0 (by simp), cell_fr (((Fr.refl [] _).drew).alloc _) k1 (by simp), cell_fr (((Fr.refl [] _).drew).alloc _) k3 (by simp), cell_fr (((Fr.refl [] _).drew).alloc _) k4 (by simp)⟩)
 clear hK K
 try simp only [pE0, pE1, pE2, pE3, pE4, pE5, pE6]
 refine tkH 10 (v := ?_) rfl (Or.inl ⟨by rfl, ?hy⟩) ?_
 case hy => intro w hSw; (try dsimp only at hSw); go_simp; try with_reducible rfl
 try simp only [pE0, pE1, pE2, pE3, pE4, pE5, pE6]
 refine tkH 11 (v := ?_) rfl (Or.inl ⟨by rfl, ?hy⟩) ?_
 case hy => intro w hSw; (try dsimp only at hSw); go_simp; try with_reducible rfl
 try simp only [pE0, pE1, pE2, pE3, pE4, pE5, pE6]
 refine skipsH (by kernel_rfl) [12, 13, 14, 15, 16, 17, 18] _ _ (by kernel_rfl) (by kernel_rfl) ?hsm (fun _ _ _ _ h => h) (by assumption) ?_
 case hsm =>
  repeat (first | exact trivial | refine ⟨by kernel_rfl, ?_⟩)
 simp only [List.foldl, List.setIfInBounds_toArray, List.set_cons_zero, List.set_cons_succ]
 refine tkH 19 (v := ?_) rfl (Or.inl ⟨by rfl, ?hy⟩) ?_
 case hy => intro w hSw; (try dsimp only at hSw); go_simp; try with_reducible rfl
 try simp only [pE0, pE1, pE2, pE3, pE4, pE5, pE6]
 refine wpAnyH_done (by kernel_rfl) ?_ _
 have hn : Fr [] _ w1 := ((Fr.refl [] _).drew).same hf1
 replace hF := hF.same hn
 replace H := H.fr0 irokQ hn
 replace k0 := H.k0
 replace k1 := H.k1
 replace k2 := H.kr0
 replace k3 := H.kr1
 replace k4 := H.kr2
 clear hn hf1
 go_wp2_with fail
 refine (eoldestQ H (r := 0) (by decide)).mono ?_
 rintro en w1 ⟨rfl, hf1⟩
 have hn := hf1
 replace hF := hF.same hn
 replace H := H.fr0 irokQ hn
 replace k0 := H.k0
 replace k1 := H.k1
 replace k2 := H.kr0
 replace k3 := H.kr1
 replace k4 := H.kr2
 clear hn hf1
 have hsz0 := oldest_sz H.nd 0
 go_wp2_with fail
 refine (epushQ H (by omega) (r := 1) (by decide) (oldest K 0) hsz0).mono ?_
 rintro en w2 ⟨rfl, F2, H2, hs2, hg2⟩
 have htp := tot_push (K := K) (k := 3) (r := 1) (by decide) (oldest K 0)
 replace hs2 := hs2.old hF.size
 replace hg2 := hF.nil.same hg2
 have HK := Lib.hid hR
 clear H k0 k1 k2 k3 k4 hF hR
 obtain ⟨K1, hK1⟩ : ∃ K1, pushK K 1 (oldest K 0) = K1 := ⟨_, rfl⟩
 rw [hK1] at H2 htp HK
 clear hK1
 go_wp2_with fail
 go_loopg [] (K1 1).length (fun gg wr => ∃ (Kc : Rows) (Fc : List Nat), Aside (trim Kc 1 kout = trim K1 1 kout ∧ (Kc 1).length = gg) ∧ tot 3 Kc ≤ 70001 ∧ ERows IRepQ 3 209 wr e g cap x Fc Kc [.int .i64 (c : Nat), .int .i64 (kin : Nat), .int .i64 (kout : Nat)] ∧ Sub Fc F w ∧ Fr F w wr)
 case atStart => exact ⟨K1, F2, ⟨rfl, rfl⟩, by omega, H2, hs2, hg2⟩
 case round =>
  obtain ⟨Kc, Fc, hA, htc, H, hsc, hgc⟩ := hrel
  obtain ⟨n1, hn1⟩ : ∃ n, (Kc 1).length = n := ⟨_, rfl⟩
  have hb1 : n1 ≤ 70001 := by rw [← hn1]; exact Nat.le_trans (len_tot (by omega)) htc
  have k0 := H.k0
  have k1 := H.k1
  have k2 := H.kr0
  have k3 := H.kr1
  have k4 := H.kr2
  have hF := Fr.refl [] wr
  have HN1 := Lib.hid hn1
  by_cases hlt : kout < n1
  ·have q1 : (kout : Int) < (n1 : Int) := by omega
   clear hn1
   go_wp2_with fail
   first
    | (go_region_held3 (fun w' => w'.cell? ⟨e, 0, none⟩ = some (.slice (some ⟨g, 0, none⟩) 3 cap) ∧ w'.cell? ⟨e, 1, none⟩ = some (.pointer (some ⟨x, 0, none⟩)) ∧ w'.cell? ⟨e, 3, none⟩ = some (.int .i64 kin) ∧ w'.cell? ⟨e, 4, none⟩ = some (.int .i64 kout))
      (first
       | (have _h := hf2; exact ⟨cell_fr ((((Fr.refl [] _).drew).same hf1).same hf2) k0 (by simp), cell_fr ((((Fr.refl [] _).drew).same hf1).same hf2) k1 (by simp), cell_fr ((((Fr.refl [] _).drew).same hf1).same hf2) k3 (by simp), cell_fr ((((Fr.refl [] _).drew).same hf1).same hf2) k4 (by simp)⟩)
       | (have _h := hf1; first | exact ⟨cell_fr (((Fr.refl [] _).drew).same hf1) k0 (by simp), cell_fr (((Fr.refl [] _).drew).same hf1) k1 (by simp), cell_fr (((Fr.refl [] _).drew).same hf1) k3 (by simp), cell_fr (((Fr.refl [] _).drew).same hf1) k4 (by simp)⟩ | exact ⟨cell_fr ((((Fr.refl [] _).drew).same hf1).alloc _) k0 (by simp), cell_fr ((((Fr.refl [] _).drew).same hf1).alloc _) k1 (by simp), cell_fr ((((Fr.refl [] _).drew).same hf1).alloc _) k3 (by simp), cell_fr ((((Fr.refl [] _).drew).same hf1).alloc _) k4 (by simp)⟩)
       | exact ⟨k0, k1, k3, k4⟩
       | exact ⟨cell_fr (((Fr.refl [] _).drew).alloc _) k0 (by simp), cell_fr (((Fr.refl [] _).drew).alloc _) k1 (by simp), cell_fr (((Fr.refl [] _).drew).alloc _) k3 (by simp), cell_fr (((Fr.refl [] _).drew).alloc _) k4 (by simp)⟩)
      (first
       | (have _h := hf1; go_at_call 381; refine (emany1Q (H.fr0 irokQ (((Fr.refl [] _).drew).same hf1)) 2 (by decide) HN2.out).mono ?_; rintro en w2 ⟨rfl, hf2⟩)
       | (go_at_call 381; refine (emany1Q (H.fr0 irokQ ((Fr.refl [] _).drew)) 1 (by decide) HN1.out).mono ?_; rintro en w1 ⟨rfl, hf1⟩)))
    | fail
   have hn : Fr [] _ w1 := ((Fr.refl [] _).drew).same hf1
   replace hF := hF.same hn
   replace H := H.fr0 irokQ hn
   replace k0 := H.k0
   replace k1 := H.k1
   replace k2 := H.kr0
   replace k3 := H.kr1
   replace k4 := H.kr2
   clear hn hf1
   go_wp2_with fail
   first
    | (go_region_held3 (fun w' => w'.cell? ⟨e, 0, none⟩ = some (.slice (some ⟨g, 0, none⟩) 3 cap) ∧ w'.cell? ⟨e, 1, none⟩ = some (.pointer (some ⟨x, 0, none⟩)) ∧ w'.cell? ⟨e, 3, none⟩ = some (.int .i64 kin) ∧ w'.cell? ⟨e, 4, none⟩ = some (.int .i64 kout))
      (first
       | (have _h := hg2; exact ⟨H2.k0, H2.k1, H2.kr1, H2.kr2⟩)
       | (have _h := hf1; exact ⟨cell_fr (((Fr.refl [] _).drew).same hf1) k0 (by simp), cell_fr (((Fr.refl [] _).drew).same hf1) k1 (by simp), cell_fr (((Fr.refl [] _).drew).same hf1) k3 (by simp), cell_fr (((Fr.refl [] _).drew).same hf1) k4 (by simp)⟩)
       | exact ⟨k0, k1, k3, k4⟩)
      (first
       | (have _h := hf1; go_at_call 379; refine (edropQ (H.fr0 irokQ (((Fr.refl [] _).drew).same hf1)) (by omega) _ (oldest_sz H.nd 1)).mono ?_; rintro en w2 ⟨rfl, F2, H2, hs2, hg2⟩)
       | (go_at_call 382; refine (eoldestQ (H.fr0 irokQ ((Fr.refl [] _).drew)) (r := 1) (by decide)).mono ?_; rintro en w1 ⟨rfl, hf1⟩)))
    | fail
   have hnd := H.nd
   have hst := trim_step hnd (r := 1) (n := kout) (by rw [HN1.out]; exact hlt)
   have hdl := drop_len_in hnd (oldest_mem (K := Kc) (r := 1) (by rw [HN1.out]; omega)) 1
   have hdt := tot_drop 3 Kc (oldest Kc 1)
   obtain ⟨e1, e2⟩ := hA.out
   have hf3 : Fr [] wr w1 := hF.same (((Fr.refl [] _).drew).same hf1)
   have hs4 := hs2.old (a := wr) (by have := (hF.same (((Fr.refl [] _).drew).same hf1)).size; simpa using this)
   have hg4 : Fr Fc wr w2 := hf3.nil.same hg2
   clear H k0 k1 k2 k3 k4 hF hf1
   go_wp2_with fail
   go_roundg ((dropK Kc (oldest Kc 1)) 1).length
   case measure => rw [← e2]; simp at hdl; omega
   case rel => exact ⟨_, F2, ⟨hst.trans e1, rfl⟩, by omega, H2, hsc.fr hgc hs4, hgc.via hsc hg4⟩
  ·have q1 : (n1 : Int) ≤ (kout : Int) := by omega
   clear hn1
   go_wp2_with fail
   first
    | (go_region_held3 (fun w' => w'.cell? ⟨e, 0, none⟩ = some (.slice (some ⟨g, 0, none⟩) 3 cap) ∧ w'.cell? ⟨e, 1, none⟩ = some (.pointer (some ⟨x, 0, none⟩)) ∧ w'.cell? ⟨e, 3, none⟩ = some (.int .i64 kin) ∧ w'.cell? ⟨e, 4, none⟩ = some (.int .i64 kout))
      (first
       | (have _h := hf2; exact ⟨cell_fr ((((Fr.refl [] _).drew).same hf1).same hf2) k0 (by simp), cell_fr ((((Fr.refl [] _).drew).same hf1).same hf2) k1 (by simp), cell_fr ((((Fr.refl [] _).drew).same hf1).same hf2) k3 (by simp), cell_fr ((((Fr.refl [] _).drew).same hf1).same hf2) k4 (by simp)⟩)
       | (have _h := hf1; first | exact ⟨cell_fr (((Fr.refl [] _).drew).same hf1) k0 (by simp), cell_fr (((Fr.refl [] _).drew).same hf1) k1 (by simp), cell_fr (((Fr.refl [] _).drew).same hf1) k3 (by simp), cell_fr (((Fr.refl [] _).drew).same hf1) k4 (by simp)⟩ | exact ⟨cell_fr ((((Fr.refl [] _).drew).same hf1).alloc _) k0 (by simp), cell_fr ((((Fr.refl [] _).drew).same hf1).alloc _) k1 (by simp), cell_fr ((((Fr.refl [] _).drew).same hf1).alloc _) k3 (by simp), cell_fr ((((Fr.refl [] _).drew).same hf1).alloc _) k4 (by simp)⟩)
       | exact ⟨k0, k1, k3, k4⟩
       | exact ⟨cell_fr (((Fr.refl [] _).drew).alloc _) k0 (by simp), cell_fr (((Fr.refl [] _).drew).alloc _) k1 (by simp), cell_fr (((Fr.refl [] _).drew).alloc _) k3 (by simp), cell_fr (((Fr.refl [] _).drew).alloc _) k4 (by simp)⟩)
      (first
       | (have _h := hf1; go_at_call 381; refine (emany1Q (H.fr0 irokQ (((Fr.refl [] _).drew).same hf1)) 2 (by decide) HN2.out).mono ?_; rintro en w2 ⟨rfl, hf2⟩)
       | (go_at_call 381; refine (emany1Q (H.fr0 irokQ ((Fr.refl [] _).drew)) 1 (by decide) HN1.out).mono ?_; rintro en w1 ⟨rfl, hf1⟩)))
    | fail
   have hn : Fr [] _ w1 := ((Fr.refl [] _).drew).same hf1
   replace hF := hF.same hn
   replace H := H.fr0 irokQ hn
   replace k0 := H.k0
   replace k1 := H.k1
   replace k2 := H.kr0
   replace k3 := H.kr1
   replace k4 := H.kr2
   clear hn hf1
   obtain ⟨e1, e2⟩ := hA.out
   have hle := trim_le (K := Kc) (r := 1) (n := kout) (by rw [HN1.out]; omega)
   rw [hle] at e1
   have HE := Lib.hid (And.intro H (And.intro hF e1))
   clear H k0 k1 k2 k3 k4 hF hA e1 e2 hle
   go_wp2_with fail
   go_ret2
   rw [HK.out, ← HE.out.2.2]
   exact ⟨rfl, Fc, HE.out.1, hsc, hgc.same HE.out.2.1.nil⟩
end
end Go.Proofs.YtphlancijlljcaaGreat

set_option linter.unusedVariables false
set_option linter.unusedSimpArgs false
namespace Go.Proofs.YtphlancijlljcaaGreat
open Go.RowKit
attribute [local go_sem ↓] Go.wp_at_zero Go.wp_at_succ
section
variable {w : World} {e g cap x : Nat} {F : List Nat} {s : Twoq}
theorem qevict (H : ERows IRepQ 3 209 w e g cap x F s.K [.int .i64 (s.c : Nat), .int .i64 (s.kin : Nat), .int .i64 (s.kout : Nat)]) (hc2 : s.c ≤ 1024) (ht : tot 3 s.K ≤ 70000) :
  Calls Tryz.prog 368 #[.pointer (some ⟨e, 0, none⟩)] w (EvRet IRepQ 3 209 w e g cap x F s.evict.1 s.evict.2.1 s.evict.2.2.K [.int .i64 (s.c : Nat), .int .i64 (s.kin : Nat), .int .i64 (s.kout : Nat)]) := by
 have hk : s.kin ≤ 1024 := by unfold Twoq.kin; omega
 have ho : s.kout ≤ 1024 := by unfold Twoq.kout; omega
 unfold Twoq.evict Twoq.len
 by_cases h0 : (s.K 0).length + (s.K 2).length = 0
 ·rw [if_pos h0]; exact qevict0 H ht hk ho h0
 ·rw [if_neg h0]
  by_cases h1 : (s.K 0).length ≤ s.kin ∧ 0 < (s.K 2).length
  ·rw [if_pos h1]; exact qevict1 H ht hk ho h1
  ·rw [if_neg h1]
   by_cases h2 : (s.K 0).length ≤ s.kin
   ·exact qevict2 H ht hk ho ⟨h2, by omega, by omega⟩
   ·exact qevict3 H ht hk ho (by omega)
set_option maxRecDepth 100000 in
theorem qreclaims (H : ERows IRepQ 3 209 w e g cap x F s.K [.int .i64 (s.c : Nat), .int .i64 (s.kin : Nat), .int .i64 (s.kout : Nat)]) (hc2 : s.c ≤ 1024) (ht : tot 3 s.K ≤ 70000) :
  Calls Tryz.prog 380 #[.pointer (some ⟨e, 0, none⟩)] w (GRet IRepQ 3 209 w e g cap x F s.reclaim.1 s.reclaim.2.K [.int .i64 (s.c : Nat), .int .i64 (s.kin : Nat), .int .i64 (s.kout : Nat)]) := by
 have k2 := H.kr0
 have HE := Lib.hid fun (w1 : World) (f : Fr [] w w1) => qevict (H.fr0 irokQ f) hc2 ht
 have HL := Lib.hid fun (w1 : World) (f : Fr [] w w1) => qlen (H.fr0 irokQ f) (s := s.len) rfl
 have HH := Lib.hid H
 have hlb : s.len ≤ 70000 := by unfold Twoq.len; rw [tot3] at ht; omega
 obtain ⟨n, hn⟩ : ∃ n, s.len = n := ⟨_, rfl⟩
 obtain ⟨c, hc⟩ : ∃ c, s.c = c := ⟨_, rfl⟩
 have hrec : s.reclaim = if n < c then ([], s) else ([s.evict.1], s.evict.2.2) := by unfold Twoq.reclaim; rw [hn, hc]
 obtain ⟨res, hres⟩ : ∃ r, s.reclaim = r := ⟨_, rfl⟩
 rw [hres] at hrec ⊢
 rw [hn] at HL hlb
 rw [hc] at k2 hc2
 have HR := Lib.hid hrec
 clear H ht hn hc hrec hres
 by_cases hlt : n < c
 all_goals
  go_enter Tryz.func380, Tryz.ntmps380
  go_wp2_with fail
  first
   | (go_region_held3 (fun w' => w'.cell? ⟨e, 2, none⟩ = some (.int .i64 c))
     (first
      | (have _h := hf1; exact cell_fr (((Fr.refl [] _).drew).same hf1) k2 (by simp))
      | exact k2)
     (first
      | (go_at_call 372; refine (HL.out _ ((Fr.refl [] _).drew)).mono ?_; rintro en w1 ⟨rfl, hf1⟩)))
   | fail
  have hf : Fr [] w w1 := ((Fr.refl [] _).drew).same hf1
  clear hf1 k2
 ·go_wp2
  go_ret
  rw [HR.out, if_pos hlt]
  exact GRet.nil ((EGo.refl HH.out).fr irokQ hf)
 ·go_wp2_with fail
  refine (HE.out _ hf).mono ?_
  rintro en w2 ⟨rfl, heg⟩
  have HG := Lib.hid (heg.old hf)
  clear heg
  go_wp2
  go_ret
  rw [HR.out, if_neg hlt]
  exact GRet.one irokQ HG.out _ rfl
end
def EQ (w : World) (e : Nat) (F : List Nat) (s : Twoq) : Prop := s.Inv ∧ ∃ g cap x, ERows IRepQ 3 209 w e g cap x F s.K [.int .i64 (s.c : Nat), .int .i64 (s.kin : Nat), .int .i64 (s.kout : Nat)]
theorem EQ.fr {w w' : World} {e : Nat} {F G : List Nat} {s : Twoq} (h : EQ w e F s) (f : Fr G w w') (hd : Dis F G) : EQ w' e F s := by
 obtain ⟨hi, g, cap, x, h⟩ := h
 exact ⟨hi, g, cap, x, h.fr irokQ f hd⟩
theorem EQ.lt {w : World} {e : Nat} {F : List Nat} {s : Twoq} (h : EQ w e F s) : Lt F w := by
 obtain ⟨hi, g, cap, x, h⟩ := h
 exact h.lt irokQ
def QRet (w : World) (e g cap x : Nat) (F : List Nat) (r : Bool × List ByteArray × Rows) (rest : List Value) (en : Ending) (w' : World) : Prop :=
 ∃ v F', en = .returned (.tuple #[.bool r.1, v]) ∧ Gone w w' v r.2.1 ∧ ERows IRepQ 3 209 w' e g cap x F' r.2.2 rest ∧ Sub F' F w ∧ Fr F w w' ∧ Dis v.ownBlock.toList F'
section
variable {w : World} {e g cap x : Nat} {F : List Nat} {s : Twoq}
set_option maxRecDepth 100000 in
theorem qaccess2 (H : ERows IRepQ 3 209 w e g cap x F s.K [.int .i64 (s.c : Nat), .int .i64 (s.kin : Nat), .int .i64 (s.kout : Nat)]) (hi : RNd 3 s.K) (hl : tot 3 s.K ≤ 4000) (key : ByteArray) (hz : key.size ≤ maxLen) (hm : key ∈ s.K 2) :
  Calls Tryz.prog 367 #[.pointer (some ⟨e, 0, none⟩), .string key] w (QRet w e g cap x F (true, [], pushK s.K 2 key) [.int .i64 (s.c : Nat), .int .i64 (s.kin : Nat), .int .i64 (s.kout : Nat)]) := by
 have hn : ∀ i, i ≠ 2 → key ∉ s.K i := fun i h1 h => hi.dis 2 i (Ne.symm h1) _ hm h
 have k0 := H.k0
 have k1 := H.k1
 have HW := Lib.hid (ewhereQ H key hz)
 have HM := Lib.hid (And.intro hn hm)
 clear hn hm
 go_enter Tryz.func367, Tryz.ntmps367
 go_wp2_with fail
 refine HW.out.mono ?_
 rintro en w1 ⟨r, rfl, har, hf1⟩
 have hr : r = 2 := by
  obtain ⟨hn, hm⟩ := HM.out
  rcases har with ⟨i, hi4, rfl, hik⟩ | ⟨rfl, hno⟩
  ·by_cases h : i = 2
   ·subst h; rfl
   ·exact absurd hik (hn i h)
  ·exact absurd hm (hno 2)
 subst hr
 replace H := H.fr0 irokQ hf1
 replace k0 := H.k0
 replace k1 := H.k1
 have HF := Lib.hid hf1
 clear har HW
 clear hf1
 go_wp2_with fail
 refine (epushQ H (by omega) (r := 2) (by omega) key hz).mono ?_
 rintro en w2 ⟨rfl, heg⟩
 have HE := Lib.hid (heg.old HF.out)
 clear H k0 k1 heg
 go_wp2
 go_ret2
 obtain ⟨F', a, b, d⟩ := HE.out
 exact ⟨_, F', rfl, Gone.nil _ _, a, b, d, by intro b hb; simp [Value.ownBlock] at hb⟩
set_option maxRecDepth 100000 in
theorem qaccess0 (H : ERows IRepQ 3 209 w e g cap x F s.K [.int .i64 (s.c : Nat), .int .i64 (s.kin : Nat), .int .i64 (s.kout : Nat)]) (hi : RNd 3 s.K) (key : ByteArray) (hz : key.size ≤ maxLen) (hm : key ∈ s.K 0) :
  Calls Tryz.prog 367 #[.pointer (some ⟨e, 0, none⟩), .string key] w (QRet w e g cap x F (true, [], s.K) [.int .i64 (s.c : Nat), .int .i64 (s.kin : Nat), .int .i64 (s.kout : Nat)]) := by
 have hn : ∀ i, i ≠ 0 → key ∉ s.K i := fun i h1 h => hi.dis 0 i (Ne.symm h1) _ hm h
 have HE0 := Lib.hid H
 have k0 := H.k0
 have k1 := H.k1
 have HW := Lib.hid (ewhereQ H key hz)
 have HM := Lib.hid (And.intro hn hm)
 clear hn hm
 go_enter Tryz.func367, Tryz.ntmps367
 go_wp2_with fail
 refine HW.out.mono ?_
 rintro en w1 ⟨r, rfl, har, hf1⟩
 have hr : r = 0 := by
  obtain ⟨hn, hm⟩ := HM.out
  rcases har with ⟨i, hi4, rfl, hik⟩ | ⟨rfl, hno⟩
  ·by_cases h : i = 0
   ·subst h; rfl
   ·exact absurd hik (hn i h)
  ·exact absurd hm (hno 0)
 subst hr
 replace H := H.fr0 irokQ hf1
 replace k0 := H.k0
 replace k1 := H.k1
 have HF := Lib.hid hf1
 clear har HW
 clear hf1 H k0 k1
 go_wp2
 go_ret2
 obtain ⟨F', a, b, d⟩ := (EGo.refl HE0.out).fr irokQ HF.out
 exact ⟨_, F', rfl, Gone.nil _ _, a, b, d, by intro b hb; simp [Value.ownBlock] at hb⟩
set_option maxRecDepth 100000 in
theorem qaccess1 (H : ERows IRepQ 3 209 w e g cap x F s.K [.int .i64 (s.c : Nat), .int .i64 (s.kin : Nat), .int .i64 (s.kout : Nat)]) (hi : RNd 3 s.K) (hc2 : s.c ≤ 1024) (hl : tot 3 s.K ≤ 4000) (key : ByteArray) (hz : key.size ≤ maxLen) (hm : key ∈ s.K 1)
  (hl2 : tot 3 ({ s with K := dropK s.K key } : Twoq).reclaim.2.K ≤ 4000) :
  Calls Tryz.prog 367 #[.pointer (some ⟨e, 0, none⟩), .string key] w (QRet w e g cap x F (false, ({ s with K := dropK s.K key } : Twoq).reclaim.1, pushK ({ s with K := dropK s.K key } : Twoq).reclaim.2.K 2 key) [.int .i64 (s.c : Nat), .int .i64 (s.kin : Nat), .int .i64 (s.kout : Nat)]) := by
 have hn : ∀ i, i ≠ 1 → key ∉ s.K i := fun i h1 h => hi.dis 1 i (Ne.symm h1) _ hm h
 have hdt := tot_drop 3 s.K key
 have k0 := H.k0
 have k1 := H.k1
 have HW := Lib.hid (ewhereQ H key hz)
 have HM := Lib.hid (And.intro hn hm)
 clear hn hm
 go_enter Tryz.func367, Tryz.ntmps367
 go_wp2_with fail
 refine HW.out.mono ?_
 rintro en w1 ⟨r, rfl, har, hf1⟩
 have hr : r = 1 := by
  obtain ⟨hn, hm⟩ := HM.out
  rcases har with ⟨i, hi4, rfl, hik⟩ | ⟨rfl, hno⟩
  ·by_cases h : i = 1
   ·subst h; rfl
   ·exact absurd hik (hn i h)
  ·exact absurd hm (hno 1)
 subst hr
 replace H := H.fr0 irokQ hf1
 replace k0 := H.k0
 replace k1 := H.k1
 have HF := Lib.hid hf1
 clear har HW
 clear hf1
 go_wp2_with fail
 refine (edropQ H (by omega) key hz).mono ?_
 rintro en w2 ⟨rfl, F2, H2, hs2, hg2⟩
 clear H k0 k1
 have HD := Lib.hid (And.intro hs2 hg2)
 clear hs2 hg2
 go_wp2_with fail
 refine (qreclaims (s := { s with K := dropK s.K key }) H2 hc2 (by simp only; omega)).mono ?_
 clear H2
 rintro en w4 ⟨v, F4, rfl, hgo, H4, hs4, hg4, hd4⟩
 obtain ⟨va, vc, hv⟩ := hgo.1.form
 subst hv
 have l0 := H4.k0
 have l1 := H4.k1
 have HG := Lib.hid (And.intro hgo (And.intro H4 (And.intro hs4 (And.intro hg4 hd4))))
 clear hgo H4 hs4 hg4 hd4
 go_wp2_with fail
 refine (epushQ HG.out.2.1 (by omega) (r := 2) (by omega) key hz).mono ?_
 rintro en w5 ⟨rfl, heg⟩
 obtain ⟨hgo, H4, hs4, hg4, hd4⟩ := HG.out
 obtain ⟨F5, i1, i2, i3, i4, i5⟩ := GRet.then (F2 := []) hgo hs4 hg4 hd4 heg
 have HE := Lib.hid (And.intro i1 (And.intro i2 (And.intro i3 (And.intro i4 i5))))
 clear l0 l1 HG hgo H4 hs4 hg4 hd4 heg i1 i2 i3 i4 i5
 go_wp2
 go_ret2
 obtain ⟨hs2, hg2⟩ := HD.out
 have hs2' := hs2.old HF.out.size
 have hg2' := HF.out.nil.same hg2
 exact ⟨_, F5, rfl, HE.out.1.old hg2'.size, HE.out.2.1, hs2'.fr hg2' HE.out.2.2.1, hg2'.via hs2' HE.out.2.2.2.1, HE.out.2.2.2.2⟩
set_option maxRecDepth 100000 in
theorem qaccessN (H : ERows IRepQ 3 209 w e g cap x F s.K [.int .i64 (s.c : Nat), .int .i64 (s.kin : Nat), .int .i64 (s.kout : Nat)]) (hi : RNd 3 s.K) (hc2 : s.c ≤ 1024) (hl : tot 3 s.K ≤ 4000) (key : ByteArray) (hz : key.size ≤ maxLen) (hno : ∀ i, key ∉ s.K i)
  (hl2 : tot 3 s.reclaim.2.K ≤ 4000) :
  Calls Tryz.prog 367 #[.pointer (some ⟨e, 0, none⟩), .string key] w (QRet w e g cap x F (false, s.reclaim.1, pushK s.reclaim.2.K 0 key) [.int .i64 (s.c : Nat), .int .i64 (s.kin : Nat), .int .i64 (s.kout : Nat)]) := by
 have k0 := H.k0
 have k1 := H.k1
 have HW := Lib.hid (ewhereQ H key hz)
 have HM := Lib.hid hno
 clear hno
 go_enter Tryz.func367, Tryz.ntmps367
 go_wp2_with fail
 refine HW.out.mono ?_
 rintro en w1 ⟨r, rfl, har, hf1⟩
 have hr : r = -1 := by
  rcases har with ⟨i, hi4, rfl, hik⟩ | ⟨rfl, hno⟩
  ·exact absurd hik (HM.out i)
  ·rfl
 subst hr
 replace H := H.fr0 irokQ hf1
 have HF := Lib.hid hf1
 clear har HW hf1 k0 k1
 go_wp2_with fail
 refine (qreclaims H hc2 (by omega)).mono ?_
 clear H
 rintro en w4 ⟨v, F4, rfl, hgo, H4, hs4, hg4, hd4⟩
 obtain ⟨va, vc, hv⟩ := hgo.1.form
 subst hv
 have l0 := H4.k0
 have l1 := H4.k1
 have HG := Lib.hid (And.intro hgo (And.intro H4 (And.intro hs4 (And.intro hg4 hd4))))
 clear hgo H4 hs4 hg4 hd4
 go_wp2_with fail
 refine (epushQ HG.out.2.1 (by omega) (r := 0) (by omega) key hz).mono ?_
 rintro en w5 ⟨rfl, heg⟩
 obtain ⟨hgo, H4, hs4, hg4, hd4⟩ := HG.out
 obtain ⟨F5, i1, i2, i3, i4, i5⟩ := GRet.then (F2 := []) hgo hs4 hg4 hd4 heg
 have HE := Lib.hid (And.intro i1 (And.intro i2 (And.intro i3 (And.intro i4 i5))))
 clear l0 l1 HG hgo H4 hs4 hg4 hd4 heg i1 i2 i3 i4 i5
 go_wp2
 go_ret2
 exact ⟨_, F5, rfl, HE.out.1.old HF.out.size, HE.out.2.1, HE.out.2.2.1.old HF.out.size, HF.out.nil.same HE.out.2.2.2.1, HE.out.2.2.2.2⟩
end
theorem qaccess {w : World} {e : Nat} {F : List Nat} {s : Twoq} (H : EQ w e F s) (key : ByteArray) (hz : key.size ≤ maxLen) :
  Calls Tryz.prog 367 #[.pointer (some ⟨e, 0, none⟩), .string key] w (AccRet EQ w e F (s.access key)) := by
 obtain ⟨hi, g, cap, x, h⟩ := H
 have hinv := hi.access hz
 have tl : ∀ s' : Twoq, s'.Inv → tot 3 s'.K ≤ 4000 := fun s' h' => by
  have a := h'.res
  have b := h'.out
  have d := h'.c2
  rw [tot3]; unfold Twoq.kout at b; omega
 have hl := tl s hi
 have hr : Calls Tryz.prog 367 #[.pointer (some ⟨e, 0, none⟩), .string key] w (QRet w e g cap x F ((s.access key).1, (s.access key).2.1, (s.access key).2.2.K) [.int .i64 (s.c : Nat), .int .i64 (s.kin : Nat), .int .i64 (s.kout : Nat)]) := by
  unfold Twoq.access
  by_cases h2 : key ∈ s.K 2
  ·rw [if_pos h2]; exact qaccess2 h hi.nd hl key hz h2
  rw [if_neg h2]
  by_cases h0 : key ∈ s.K 0
  ·rw [if_pos h0]; exact qaccess0 h hi.nd key hz h0
  rw [if_neg h0]
  by_cases h1 : key ∈ s.K 1
  ·rw [if_pos h1]
   have hd := drop_len_in hi.nd h1
   have d0 := hd 0
   have d1 := hd 1
   have d2 := hd 2
   simp at d0 d1 d2
   have i2 : ({ s with K := dropK s.K key } : Twoq).Inv := ⟨hi.nd.drop _, hi.c1, hi.c2, by have := hi.res; simp only; omega, by have := hi.out; simp only [Twoq.kout] at this ⊢; omega⟩
   exact qaccess1 h hi.nd hi.c2 hl key hz h1 (tl _ i2.reclaim.1)
  ·rw [if_neg h1]
   refine qaccessN h hi.nd hi.c2 hl key hz (not_rows hi.nd fun i hi4 => ?_) (tl _ hi.reclaim.1)
   have : i = 0 ∨ i = 1 ∨ i = 2 := by omega
   rcases this with rfl | rfl | rfl <;> assumption
 refine hr.mono ?_
 rintro en w' ⟨v, F', a, b, d, i, j, k⟩
 have hc : (s.access key).2.2.c = s.c := by unfold Twoq.access; (repeat' split) <;> rfl
 refine ⟨v, F', a, b, ⟨hinv, g, cap, x, ?_⟩, i, j, k⟩
 simp only [Twoq.kin, Twoq.kout] at d ⊢
 rw [hc]
 exact d
def Twoq.new (room : Int) : Twoq := ⟨fun _ => [], roomN room⟩
theorem Twoq.Inv.new (room : Int) : (Twoq.new room).Inv := by
 obtain ⟨h1, h2⟩ := roomN_bd room
 exact ⟨RNd.nil 3, h1, h2, by simp [Twoq.new], by simp [Twoq.new]⟩
theorem qnew_ret {w w1 : World} {room v v1 v2 : Int} {F1 : List Nat} {g cap x : Nat} (hr : RRep IRepQ 3 w1 (.agg #[.slice (some ⟨g, 0, none⟩) 3 cap, .pointer (some ⟨x, 0, none⟩)]) F1 (fun _ => [])) (hge : Ge w.heap.size F1) (hf1 : Fr [] w w1) (hv : (roomN room : Int) = v)
  (hv1 : ((max 1 (roomN room / 4) : Nat) : Int) = v1) (hv2 : ((max 1 (roomN room / 2) : Nat) : Int) = v2) :
  NewRet EQ w (Twoq.new room) (.returned (.pointer (some ⟨w1.heap.size, 0, none⟩))) (w1.alloc (.cells #[.slice (some ⟨g, 0, none⟩) 3 cap, .pointer (some ⟨x, 0, none⟩), .int .i64 v, .int .i64 v1, .int .i64 v2] 209)) := by
 subst hv hv1 hv2
 refine ⟨w1.heap.size, w1.heap.size :: F1, rfl, ⟨Twoq.Inv.new room, g, cap, x, F1, rfl, fun h => ?_, block_alloc_new _ _, hr.fr irokQ ((Fr.refl [] _).alloc _) (fun b _ => by simp)⟩, ?_, hf1.alloc _⟩
 ·have := hr.lt irokQ _ h; omega
 ·intro b hb
  rcases List.mem_cons.1 hb with rfl | hb
  ·exact hf1.size
  ·exact hge b hb
set_option maxRecDepth 100000 in
theorem qnew (w : World) (room : Int) (h0 : -9223372036854775808 ≤ room) (h1 : room ≤ 9223372036854775807) : Calls Tryz.prog 104 #[.int .i64 room] w (NewRet EQ w (Twoq.new room)) := by
 go_enter Tryz.func104, Tryz.ntmps104
 go_wp2_with fail
 all_goals
  refine (rnewQ _).mono ?_
  rintro en w1 ⟨v, F1, rfl, hr, hge, hf1⟩
  obtain ⟨g, cap, x, rfl, hgl⟩ := hr.form
  have HX := Lib.hid (And.intro hr (And.intro hge hf1))
  clear hr hge hf1
 all_goals go_wp2
 all_goals
  go_ret
  obtain ⟨hr, hge, hf1⟩ := HX.out
  refine qnew_ret hr hge hf1 ?_ ?_ ?_
 all_goals
  unfold roomN
  first | omega | (split <;> omega)
end Go.Proofs.YtphlancijlljcaaGreat
