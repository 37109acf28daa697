/- The walks over twoq's engine: Len, Evict, reclaims. -/
import Derived.Test.YtphlancijlljcaaGreatArc5
import Derived.Test.YtphlancijlljcaaGreatTwoqPure
set_option linter.unusedVariables false
set_option linter.unusedSimpArgs false
namespace Go.Proofs.YtphlancijlljcaaGreat
open Go.RowKit
attribute [local go_sem ↓] Go.wp_at_zero Go.wp_at_succ
section
variable {w : World} {e g cap x : Nat} {F : List Nat} {K : Rows} {c kin kout : Nat}
set_option maxRecDepth 100000 in
theorem qlen (H : ERows IRepQ 3 209 w e g cap x F K [.int .i64 (c : Nat), .int .i64 (kin : Nat), .int .i64 (kout : Nat)]) {s : Nat} (hs : (K 0).length + (K 2).length = s) : Calls Tryz.prog 372 #[.pointer (some ⟨e, 0, none⟩)] w fun en w' => en = .returned (.int .i64 (s : Nat)) ∧ Fr [] w w' := by
  have k0 := H.k0
  have k1 := H.k1
  go_enter Tryz.func372, Tryz.ntmps372
  go_wp2_with fail
  refine (emany2Q H 0 2 (by decide) (by decide) hs).mono ?_
  rintro en w1 ⟨rfl, hf⟩
  clear H k0 k1
  go_wp2
  go_ret
  exact ⟨rfl, hf⟩
/-- What Evict hands back and leaves. -/
def EvRet (IR : IRT) (k : Nat) (T : TypeId) (w : World) (e g cap x : Nat) (F : List Nat) (key : ByteArray) (b : Bool) (K : Rows) (rest : List Value) (en : Ending) (w' : World) : Prop :=
  en = .returned (.tuple #[.string key, .bool b]) ∧ EGo IR k T w e g cap x F K rest w'
set_option maxHeartbeats 4000000 in
set_option maxRecDepth 100000 in
theorem qevict0 (H : ERows IRepQ 3 209 w e g cap x F K [.int .i64 (c : Nat), .int .i64 (kin : Nat), .int .i64 (kout : Nat)]) (ht : tot 3 K ≤ 70000) (hk : kin ≤ 1024) (ho : kout ≤ 1024) (hcnd : (K 0).length + (K 2).length = 0) :
    Calls Tryz.prog 368 #[.pointer (some ⟨e, 0, none⟩)] w (EvRet IRepQ 3 209 w e g cap x F ⟨#[]⟩ false K [.int .i64 (c : Nat), .int .i64 (kin : Nat), .int .i64 (kout : Nat)]) := by
  have HL := Lib.hid (qlen H hcnd)
  go_enter Tryz.func368, Tryz.ntmps368
  go_wp2_with fail
  refine HL.out.mono ?_
  rintro en w1 ⟨rfl, hf⟩
  have HE := Lib.hid ((EGo.refl H).fr irokQ hf)
  clear H hf
  go_wp2
  go_ret2
  exact ⟨rfl, HE.out⟩
set_option maxHeartbeats 4000000 in
set_option maxRecDepth 100000 in
theorem qevict1 (H : ERows IRepQ 3 209 w e g cap x F K [.int .i64 (c : Nat), .int .i64 (kin : Nat), .int .i64 (kout : Nat)]) (ht : tot 3 K ≤ 70000) (hk : kin ≤ 1024) (ho : kout ≤ 1024) (hcnd : (K 0).length ≤ kin ∧ 0 < (K 2).length) :
    Calls Tryz.prog 368 #[.pointer (some ⟨e, 0, none⟩)] w (EvRet IRepQ 3 209 w e g cap x F (oldest K 2) true (dropK K (oldest K 2)) [.int .i64 (c : Nat), .int .i64 (kin : Nat), .int .i64 (kout : Nat)]) := by
  have k0 := H.k0
  have k1 := H.k1
  have k2 := H.kr0
  have k3 := H.kr1
  have k4 := H.kr2
  have hF := Fr.refl [] w
  have l0 : (K 0).length ≤ 70000 := Nat.le_trans (len_tot (by omega)) ht
  have l2 : (K 2).length ≤ 70000 := Nat.le_trans (len_tot (by omega)) ht
  obtain ⟨n0, hn0⟩ : ∃ n, (K 0).length = n := ⟨_, rfl⟩
  obtain ⟨n2, hn2⟩ : ∃ n, (K 2).length = n := ⟨_, rfl⟩
  obtain ⟨s, hs⟩ : ∃ n, (K 0).length + (K 2).length = n := ⟨_, rfl⟩
  rw [hn0] at l0
  rw [hn2] at l2
  have hsn : s = n0 + n2 := by rw [← hs, hn0, hn2]
  simp only [hn0, hn2] at hcnd
  have HN0 := Lib.hid hn0
  have HN2 := Lib.hid hn2
  have HS := Lib.hid hs
  clear hn0 hn2 hs
  obtain ⟨h1, h2⟩ := hcnd
  have q1 : (n0 : Int) ≤ (kin : Int) := by omega
  have q2 : (0 : Int) < (n2 : Int) := by omega
  have q3 : ((s : Int) == 0) = false := by rw [beq_eq_false_iff_ne]; omega
  go_enter Tryz.func368, Tryz.ntmps368
  go_wp2_with fail
  refine (qlen H HS.out).mono ?_
  rintro en w1 ⟨rfl, hf1⟩
  have hn := hf1
  replace hF := hF.same hn
  replace H := H.fr0 irokQ hn
  replace k0 := H.k0
  replace k1 := H.k1
  replace k2 := H.kr0
  replace k3 := H.kr1
  replace k4 := H.kr2
  clear hn hf1
  go_wp2_with fail
  first
    | (go_region_held3 (fun w' => w'.cell? ⟨e, 0, none⟩ = some (.slice (some ⟨g, 0, none⟩) 3 cap) ∧ w'.cell? ⟨e, 1, none⟩ = some (.pointer (some ⟨x, 0, none⟩)) ∧ w'.cell? ⟨e, 3, none⟩ = some (.int .i64 kin) ∧ w'.cell? ⟨e, 4, none⟩ = some (.int .i64 kout))
       (first
         | (have _h := hf2; exact ⟨cell_fr ((((Fr.refl [] _).drew).same hf1).same hf2) k0 (by simp), cell_fr ((((Fr.refl [] _).drew).same hf1).same hf2) k1 (by simp), cell_fr ((((Fr.refl [] _).drew).same hf1).same hf2) k3 (by simp), cell_fr ((((Fr.refl [] _).drew).same hf1).same hf2) k4 (by simp)⟩)
         | (have _h := hf1; first | exact ⟨cell_fr (((Fr.refl [] _).drew).same hf1) k0 (by simp), cell_fr (((Fr.refl [] _).drew).same hf1) k1 (by simp), cell_fr (((Fr.refl [] _).drew).same hf1) k3 (by simp), cell_fr (((Fr.refl [] _).drew).same hf1) k4 (by simp)⟩ | exact ⟨cell_fr ((((Fr.refl [] _).drew).same hf1).alloc _) k0 (by simp), cell_fr ((((Fr.refl [] _).drew).same hf1).alloc _) k1 (by simp), cell_fr ((((Fr.refl [] _).drew).same hf1).alloc _) k3 (by simp), cell_fr ((((Fr.refl [] _).drew).same hf1).alloc _) k4 (by simp)⟩)
         | exact ⟨k0, k1, k3, k4⟩
         | exact ⟨cell_fr (((Fr.refl [] _).drew).alloc _) k0 (by simp), cell_fr (((Fr.refl [] _).drew).alloc _) k1 (by simp), cell_fr (((Fr.refl [] _).drew).alloc _) k3 (by simp), cell_fr (((Fr.refl [] _).drew).alloc _) k4 (by simp)⟩)
       (first
         | (have _h := hf1; go_at_call 381; refine (emany1Q (H.fr0 irokQ (((Fr.refl [] _).drew).same hf1)) 2 (by decide) HN2.out).mono ?_; rintro en w2 ⟨rfl, hf2⟩)
         | (go_at_call 381; refine (emany1Q (H.fr0 irokQ ((Fr.refl [] _).drew)) 0 (by decide) HN0.out).mono ?_; rintro en w1 ⟨rfl, hf1⟩)))
    | fail
  have hn : Fr [] _ w2 := (((Fr.refl [] _).drew).same hf1).same hf2
  clear hf2
  replace hF := hF.same hn
  replace H := H.fr0 irokQ hn
  replace k0 := H.k0
  replace k1 := H.k1
  replace k2 := H.kr0
  replace k3 := H.kr1
  replace k4 := H.kr2
  clear hn hf1
  go_wp2_with fail
  refine (eoldestQ H (r := 2) (by decide)).mono ?_
  rintro en w1 ⟨rfl, hf1⟩
  have hn := hf1
  replace hF := hF.same hn
  replace H := H.fr0 irokQ hn
  replace k0 := H.k0
  replace k1 := H.k1
  replace k2 := H.kr0
  replace k3 := H.kr1
  replace k4 := H.kr2
  clear hn hf1
  have hsz := oldest_sz H.nd 2
  go_wp2_with fail
  refine (edropQ H (by omega) _ hsz).mono ?_
  rintro en w2 ⟨rfl, heg⟩
  have HE := Lib.hid (heg.old hF)
  clear H k0 k1 k2 k3 k4 heg
  go_wp2
  go_ret2
  exact ⟨rfl, HE.out⟩
set_option maxHeartbeats 8000000 in
set_option maxRecDepth 100000 in
theorem qevict2 (H : ERows IRepQ 3 209 w e g cap x F K [.int .i64 (c : Nat), .int .i64 (kin : Nat), .int .i64 (kout : Nat)]) (ht : tot 3 K ≤ 70000) (hk : kin ≤ 1024) (ho : kout ≤ 1024) (hcnd : (K 0).length ≤ kin ∧ (K 2).length = 0 ∧ 0 < (K 0).length) :
    Calls Tryz.prog 368 #[.pointer (some ⟨e, 0, none⟩)] w (EvRet IRepQ 3 209 w e g cap x F (oldest K 0) true (trim (pushK K 1 (oldest K 0)) 1 kout) [.int .i64 (c : Nat), .int .i64 (kin : Nat), .int .i64 (kout : Nat)]) := by
  obtain ⟨KR, hR⟩ : ∃ KR, trim (pushK K 1 (oldest K 0)) 1 kout = KR := ⟨_, rfl⟩
  rw [hR]
  replace hR := hR.symm
  have k0 := H.k0
  have k1 := H.k1
  have k2 := H.kr0
  have k3 := H.kr1
  have k4 := H.kr2
  have hF := Fr.refl [] w
  have l0 : (K 0).length ≤ 70000 := Nat.le_trans (len_tot (by omega)) ht
  have l2 : (K 2).length ≤ 70000 := Nat.le_trans (len_tot (by omega)) ht
  obtain ⟨n0, hn0⟩ : ∃ n, (K 0).length = n := ⟨_, rfl⟩
  obtain ⟨n2, hn2⟩ : ∃ n, (K 2).length = n := ⟨_, rfl⟩
  obtain ⟨s, hs⟩ : ∃ n, (K 0).length + (K 2).length = n := ⟨_, rfl⟩
  rw [hn0] at l0
  rw [hn2] at l2
  have hsn : s = n0 + n2 := by rw [← hs, hn0, hn2]
  simp only [hn0, hn2] at hcnd
  have HN0 := Lib.hid hn0
  have HN2 := Lib.hid hn2
  have HS := Lib.hid hs
  clear hn0 hn2 hs
  obtain ⟨h1, h2, h3⟩ := hcnd
  have q1 : (n0 : Int) ≤ (kin : Int) := by omega
  subst h2
  have q3 : ((s : Int) == 0) = false := by rw [beq_eq_false_iff_ne]; omega
  go_enter Tryz.func368, Tryz.ntmps368
  go_wp2_with fail
  refine (qlen H HS.out).mono ?_
  rintro en w1 ⟨rfl, hf1⟩
  have hn := hf1
  replace hF := hF.same hn
  replace H := H.fr0 irokQ hn
  replace k0 := H.k0
  replace k1 := H.k1
  replace k2 := H.kr0
  replace k3 := H.kr1
  replace k4 := H.kr2
  clear hn hf1
  go_wp2_with fail
  first
    | (go_region_held3 (fun w' => w'.cell? ⟨e, 0, none⟩ = some (.slice (some ⟨g, 0, none⟩) 3 cap) ∧ w'.cell? ⟨e, 1, none⟩ = some (.pointer (some ⟨x, 0, none⟩)) ∧ w'.cell? ⟨e, 3, none⟩ = some (.int .i64 kin) ∧ w'.cell? ⟨e, 4, none⟩ = some (.int .i64 kout))
       (first
         | (have _h := hf2; exact ⟨cell_fr ((((Fr.refl [] _).drew).same hf1).same hf2) k0 (by simp), cell_fr ((((Fr.refl [] _).drew).same hf1).same hf2) k1 (by simp), cell_fr ((((Fr.refl [] _).drew).same hf1).same hf2) k3 (by simp), cell_fr ((((Fr.refl [] _).drew).same hf1).same hf2) k4 (by simp)⟩)
         | (have _h := hf1; first | exact ⟨cell_fr (((Fr.refl [] _).drew).same hf1) k0 (by simp), cell_fr (((Fr.refl [] _).drew).same hf1) k1 (by simp), cell_fr (((Fr.refl [] _).drew).same hf1) k3 (by simp), cell_fr (((Fr.refl [] _).drew).same hf1) k4 (by simp)⟩ | exact ⟨cell_fr ((((Fr.refl [] _).drew).same hf1).alloc _) k0 (by simp), cell_fr ((((Fr.refl [] _).drew).same hf1).alloc _) k1 (by simp), cell_fr ((((Fr.refl [] _).drew).same hf1).alloc _) k3 (by simp), cell_fr ((((Fr.refl [] _).drew).same hf1).alloc _) k4 (by simp)⟩)
         | exact ⟨k0, k1, k3, k4⟩
         | exact ⟨cell_fr (((Fr.refl [] _).drew).alloc _) k0 (by simp), cell_fr (((Fr.refl [] _).drew).alloc _) k1 (by simp), cell_fr (((Fr.refl [] _).drew).alloc _) k3 (by simp), cell_fr (((Fr.refl [] _).drew).alloc _) k4 (by simp)⟩)
       (first
         | (have _h := hf1; go_at_call 381; refine (emany1Q (H.fr0 irokQ (((Fr.refl [] _).drew).same hf1)) 2 (by decide) HN2.out).mono ?_; rintro en w2 ⟨rfl, hf2⟩)
         | (go_at_call 381; refine (emany1Q (H.fr0 irokQ ((Fr.refl [] _).drew)) 0 (by decide) HN0.out).mono ?_; rintro en w1 ⟨rfl, hf1⟩)))
    | fail
  have hn : Fr [] _ w2 := (((Fr.refl [] _).drew).same hf1).same hf2
  clear hf2
  replace hF := hF.same hn
  replace H := H.fr0 irokQ hn
  replace k0 := H.k0
  replace k1 := H.k1
  replace k2 := H.kr0
  replace k3 := H.kr1
  replace k4 := H.kr2
  clear hn hf1
  go_wp2_with fail
  refine (eoldestQ H (r := 0) (by decide)).mono ?_
  rintro en w1 ⟨rfl, hf1⟩
  have hn := hf1
  replace hF := hF.same hn
  replace H := H.fr0 irokQ hn
  replace k0 := H.k0
  replace k1 := H.k1
  replace k2 := H.kr0
  replace k3 := H.kr1
  replace k4 := H.kr2
  clear hn hf1
  have hsz0 := oldest_sz H.nd 0
  go_wp2_with fail
  refine (epushQ H (by omega) (r := 1) (by decide) (oldest K 0) hsz0).mono ?_
  rintro en w2 ⟨rfl, F2, H2, hs2, hg2⟩
  have htp := tot_push (K := K) (k := 3) (r := 1) (by decide) (oldest K 0)
  replace hs2 := hs2.old hF.size
  replace hg2 := hF.nil.same hg2
  have HK := Lib.hid hR
  clear H k0 k1 k2 k3 k4 hF hR
  obtain ⟨K1, hK1⟩ : ∃ K1, pushK K 1 (oldest K 0) = K1 := ⟨_, rfl⟩
  rw [hK1] at H2 htp HK
  clear hK1
  go_wp2_with fail
  go_loopg [] (K1 1).length (fun gg wr => ∃ (Kc : Rows) (Fc : List Nat), Aside (trim Kc 1 kout = trim K1 1 kout ∧ (Kc 1).length = gg) ∧ tot 3 Kc ≤ 70001 ∧ ERows IRepQ 3 209 wr e g cap x Fc Kc [.int .i64 (c : Nat), .int .i64 (kin : Nat), .int .i64 (kout : Nat)] ∧ Sub Fc F w ∧ Fr F w wr)
  case atStart => exact ⟨K1, F2, ⟨rfl, rfl⟩, by omega, H2, hs2, hg2⟩
  case round =>
    obtain ⟨Kc, Fc, hA, htc, H, hsc, hgc⟩ := hrel
    obtain ⟨n1, hn1⟩ : ∃ n, (Kc 1).length = n := ⟨_, rfl⟩
    have hb1 : n1 ≤ 70001 := by rw [← hn1]; exact Nat.le_trans (len_tot (by omega)) htc
    have k0 := H.k0
    have k1 := H.k1
    have k2 := H.kr0
    have k3 := H.kr1
    have k4 := H.kr2
    have hF := Fr.refl [] wr
    have HN1 := Lib.hid hn1
    by_cases hlt : kout < n1
    · have q1 : (kout : Int) < (n1 : Int) := by omega
      clear hn1
      go_wp2_with fail
      first
        | (go_region_held3 (fun w' => w'.cell? ⟨e, 0, none⟩ = some (.slice (some ⟨g, 0, none⟩) 3 cap) ∧ w'.cell? ⟨e, 1, none⟩ = some (.pointer (some ⟨x, 0, none⟩)) ∧ w'.cell? ⟨e, 3, none⟩ = some (.int .i64 kin) ∧ w'.cell? ⟨e, 4, none⟩ = some (.int .i64 kout))
           (first
             | (have _h := hf2; exact ⟨cell_fr ((((Fr.refl [] _).drew).same hf1).same hf2) k0 (by simp), cell_fr ((((Fr.refl [] _).drew).same hf1).same hf2) k1 (by simp), cell_fr ((((Fr.refl [] _).drew).same hf1).same hf2) k3 (by simp), cell_fr ((((Fr.refl [] _).drew).same hf1).same hf2) k4 (by simp)⟩)
             | (have _h := hf1; first | exact ⟨cell_fr (((Fr.refl [] _).drew).same hf1) k0 (by simp), cell_fr (((Fr.refl [] _).drew).same hf1) k1 (by simp), cell_fr (((Fr.refl [] _).drew).same hf1) k3 (by simp), cell_fr (((Fr.refl [] _).drew).same hf1) k4 (by simp)⟩ | exact ⟨cell_fr ((((Fr.refl [] _).drew).same hf1).alloc _) k0 (by simp), cell_fr ((((Fr.refl [] _).drew).same hf1).alloc _) k1 (by simp), cell_fr ((((Fr.refl [] _).drew).same hf1).alloc _) k3 (by simp), cell_fr ((((Fr.refl [] _).drew).same hf1).alloc _) k4 (by simp)⟩)
             | exact ⟨k0, k1, k3, k4⟩
             | exact ⟨cell_fr (((Fr.refl [] _).drew).alloc _) k0 (by simp), cell_fr (((Fr.refl [] _).drew).alloc _) k1 (by simp), cell_fr (((Fr.refl [] _).drew).alloc _) k3 (by simp), cell_fr (((Fr.refl [] _).drew).alloc _) k4 (by simp)⟩)
           (first
             | (have _h := hf1; go_at_call 381; refine (emany1Q (H.fr0 irokQ (((Fr.refl [] _).drew).same hf1)) 2 (by decide) HN2.out).mono ?_; rintro en w2 ⟨rfl, hf2⟩)
             | (go_at_call 381; refine (emany1Q (H.fr0 irokQ ((Fr.refl [] _).drew)) 1 (by decide) HN1.out).mono ?_; rintro en w1 ⟨rfl, hf1⟩)))
        | fail
      have hn : Fr [] _ w1 := ((Fr.refl [] _).drew).same hf1
      replace hF := hF.same hn
      replace H := H.fr0 irokQ hn
      replace k0 := H.k0
      replace k1 := H.k1
      replace k2 := H.kr0
      replace k3 := H.kr1
      replace k4 := H.kr2
      clear hn hf1
      go_wp2_with fail
      first
        | (go_region_held3 (fun w' => w'.cell? ⟨e, 0, none⟩ = some (.slice (some ⟨g, 0, none⟩) 3 cap) ∧ w'.cell? ⟨e, 1, none⟩ = some (.pointer (some ⟨x, 0, none⟩)) ∧ w'.cell? ⟨e, 3, none⟩ = some (.int .i64 kin) ∧ w'.cell? ⟨e, 4, none⟩ = some (.int .i64 kout))
           (first
             | (have _h := hg2; exact ⟨H2.k0, H2.k1, H2.kr1, H2.kr2⟩)
             | (have _h := hf1; exact ⟨cell_fr (((Fr.refl [] _).drew).same hf1) k0 (by simp), cell_fr (((Fr.refl [] _).drew).same hf1) k1 (by simp), cell_fr (((Fr.refl [] _).drew).same hf1) k3 (by simp), cell_fr (((Fr.refl [] _).drew).same hf1) k4 (by simp)⟩)
             | exact ⟨k0, k1, k3, k4⟩)
           (first
             | (have _h := hf1; go_at_call 379; refine (edropQ (H.fr0 irokQ (((Fr.refl [] _).drew).same hf1)) (by omega) _ (oldest_sz H.nd 1)).mono ?_; rintro en w2 ⟨rfl, F2, H2, hs2, hg2⟩)
             | (go_at_call 382; refine (eoldestQ (H.fr0 irokQ ((Fr.refl [] _).drew)) (r := 1) (by decide)).mono ?_; rintro en w1 ⟨rfl, hf1⟩)))
        | fail
      have hnd := H.nd
      have hst := trim_step hnd (r := 1) (n := kout) (by rw [HN1.out]; exact hlt)
      have hdl := drop_len_in hnd (oldest_mem (K := Kc) (r := 1) (by rw [HN1.out]; omega)) 1
      have hdt := tot_drop 3 Kc (oldest Kc 1)
      obtain ⟨e1, e2⟩ := hA.out
      have hf3 : Fr [] wr w1 := hF.same (((Fr.refl [] _).drew).same hf1)
      have hs4 := hs2.old (a := wr) (by have := (hF.same (((Fr.refl [] _).drew).same hf1)).size; simpa using this)
      have hg4 : Fr Fc wr w2 := hf3.nil.same hg2
      clear H k0 k1 k2 k3 k4 hF hf1
      go_wp2_with fail
      go_roundg ((dropK Kc (oldest Kc 1)) 1).length
      case measure => rw [← e2]; simp at hdl; omega
      case rel => exact ⟨_, F2, ⟨hst.trans e1, rfl⟩, by omega, H2, hsc.fr hgc hs4, hgc.via hsc hg4⟩
    · have q1 : (n1 : Int) ≤ (kout : Int) := by omega
      clear hn1
      go_wp2_with fail
      first
        | (go_region_held3 (fun w' => w'.cell? ⟨e, 0, none⟩ = some (.slice (some ⟨g, 0, none⟩) 3 cap) ∧ w'.cell? ⟨e, 1, none⟩ = some (.pointer (some ⟨x, 0, none⟩)) ∧ w'.cell? ⟨e, 3, none⟩ = some (.int .i64 kin) ∧ w'.cell? ⟨e, 4, none⟩ = some (.int .i64 kout))
           (first
             | (have _h := hf2; exact ⟨cell_fr ((((Fr.refl [] _).drew).same hf1).same hf2) k0 (by simp), cell_fr ((((Fr.refl [] _).drew).same hf1).same hf2) k1 (by simp), cell_fr ((((Fr.refl [] _).drew).same hf1).same hf2) k3 (by simp), cell_fr ((((Fr.refl [] _).drew).same hf1).same hf2) k4 (by simp)⟩)
             | (have _h := hf1; first | exact ⟨cell_fr (((Fr.refl [] _).drew).same hf1) k0 (by simp), cell_fr (((Fr.refl [] _).drew).same hf1) k1 (by simp), cell_fr (((Fr.refl [] _).drew).same hf1) k3 (by simp), cell_fr (((Fr.refl [] _).drew).same hf1) k4 (by simp)⟩ | exact ⟨cell_fr ((((Fr.refl [] _).drew).same hf1).alloc _) k0 (by simp), cell_fr ((((Fr.refl [] _).drew).same hf1).alloc _) k1 (by simp), cell_fr ((((Fr.refl [] _).drew).same hf1).alloc _) k3 (by simp), cell_fr ((((Fr.refl [] _).drew).same hf1).alloc _) k4 (by simp)⟩)
             | exact ⟨k0, k1, k3, k4⟩
             | exact ⟨cell_fr (((Fr.refl [] _).drew).alloc _) k0 (by simp), cell_fr (((Fr.refl [] _).drew).alloc _) k1 (by simp), cell_fr (((Fr.refl [] _).drew).alloc _) k3 (by simp), cell_fr (((Fr.refl [] _).drew).alloc _) k4 (by simp)⟩)
           (first
             | (have _h := hf1; go_at_call 381; refine (emany1Q (H.fr0 irokQ (((Fr.refl [] _).drew).same hf1)) 2 (by decide) HN2.out).mono ?_; rintro en w2 ⟨rfl, hf2⟩)
             | (go_at_call 381; refine (emany1Q (H.fr0 irokQ ((Fr.refl [] _).drew)) 1 (by decide) HN1.out).mono ?_; rintro en w1 ⟨rfl, hf1⟩)))
        | fail
      have hn : Fr [] _ w1 := ((Fr.refl [] _).drew).same hf1
      replace hF := hF.same hn
      replace H := H.fr0 irokQ hn
      replace k0 := H.k0
      replace k1 := H.k1
      replace k2 := H.kr0
      replace k3 := H.kr1
      replace k4 := H.kr2
      clear hn hf1
      obtain ⟨e1, e2⟩ := hA.out
      have hle := trim_le (K := Kc) (r := 1) (n := kout) (by rw [HN1.out]; omega)
      rw [hle] at e1
      have HE := Lib.hid (And.intro H (And.intro hF e1))
      clear H k0 k1 k2 k3 k4 hF hA e1 e2 hle
      go_wp2_with fail
      go_ret2
      rw [HK.out, ← HE.out.2.2]
      exact ⟨rfl, Fc, HE.out.1, hsc, hgc.same HE.out.2.1.nil⟩
set_option maxHeartbeats 8000000 in
set_option maxRecDepth 100000 in
theorem qevict3 (H : ERows IRepQ 3 209 w e g cap x F K [.int .i64 (c : Nat), .int .i64 (kin : Nat), .int .i64 (kout : Nat)]) (ht : tot 3 K ≤ 70000) (hk : kin ≤ 1024) (ho : kout ≤ 1024) (hcnd : kin < (K 0).length) :
    Calls Tryz.prog 368 #[.pointer (some ⟨e, 0, none⟩)] w (EvRet IRepQ 3 209 w e g cap x F (oldest K 0) true (trim (pushK K 1 (oldest K 0)) 1 kout) [.int .i64 (c : Nat), .int .i64 (kin : Nat), .int .i64 (kout : Nat)]) := by
  obtain ⟨KR, hR⟩ : ∃ KR, trim (pushK K 1 (oldest K 0)) 1 kout = KR := ⟨_, rfl⟩
  rw [hR]
  replace hR := hR.symm
  have k0 := H.k0
  have k1 := H.k1
  have k2 := H.kr0
  have k3 := H.kr1
  have k4 := H.kr2
  have hF := Fr.refl [] w
  have l0 : (K 0).length ≤ 70000 := Nat.le_trans (len_tot (by omega)) ht
  have l2 : (K 2).length ≤ 70000 := Nat.le_trans (len_tot (by omega)) ht
  obtain ⟨n0, hn0⟩ : ∃ n, (K 0).length = n := ⟨_, rfl⟩
  obtain ⟨n2, hn2⟩ : ∃ n, (K 2).length = n := ⟨_, rfl⟩
  obtain ⟨s, hs⟩ : ∃ n, (K 0).length + (K 2).length = n := ⟨_, rfl⟩
  rw [hn0] at l0
  rw [hn2] at l2
  have hsn : s = n0 + n2 := by rw [← hs, hn0, hn2]
  simp only [hn0, hn2] at hcnd
  have HN0 := Lib.hid hn0
  have HN2 := Lib.hid hn2
  have HS := Lib.hid hs
  clear hn0 hn2 hs
  have q1 : (kin : Int) < (n0 : Int) := by omega
  have q1a : decide ((n0 : Int) ≤ (kin : Int)) = false := decide_eq_false (by omega)
  have q1b : decide (n0 ≤ kin) = false := decide_eq_false (by omega)
  have q3 : ((s : Int) == 0) = false := by rw [beq_eq_false_iff_ne]; omega
  go_enter Tryz.func368, Tryz.ntmps368
  go_wp2_with fail
  refine (qlen H HS.out).mono ?_
  rintro en w1 ⟨rfl, hf1⟩
  have hn := hf1
  replace hF := hF.same hn
  replace H := H.fr0 irokQ hn
  replace k0 := H.k0
  replace k1 := H.k1
  replace k2 := H.kr0
  replace k3 := H.kr1
  replace k4 := H.kr2
  clear hn hf1
  go_wp2_with fail
  refine wp_region_held_drew (S := (fun w' => w'.cell? ⟨e, 0, none⟩ = some (.slice (some ⟨g, 0, none⟩) 3 cap) ∧ w'.cell? ⟨e, 1, none⟩ = some (.pointer (some ⟨x, 0, none⟩)) ∧ w'.cell? ⟨e, 3, none⟩ = some (.int .i64 kin) ∧ w'.cell? ⟨e, 4, none⟩ = some (.int .i64 kout))) (by kernel_rfl) ?hS0 (fun hHeld => ?_)
  case hS0 =>
    try dsimp only
    (first | (have _h := hf1; exact ⟨cell_fr (((Fr.refl [] _).drew).same hf1) k0 (by simp), cell_fr (((Fr.refl [] _).drew).same hf1) k1 (by simp), cell_fr (((Fr.refl [] _).drew).same hf1) k3 (by simp), cell_fr (((Fr.refl [] _).drew).same hf1) k4 (by simp)⟩) | exact ⟨k0, k1, k3, k4⟩ | exact ⟨cell_fr (((Fr.refl [] _).drew).alloc _) k0 (by simp), cell_fr (((Fr.refl [] _).drew).alloc _) k1 (by simp), cell_fr (((Fr.refl [] _).drew).alloc _) k3 (by simp), cell_fr (((Fr.refl [] _).drew).alloc _) k4 (by simp)⟩)
  refine wpAnyH_take (i := 0) (v := ?_) rfl (by kernel_rfl) (by kernel_rfl) (by kernel_rfl) (fun _ _ _ h => h) (Or.inl ⟨by rfl, ?hy⟩) (by assumption) ?_
  case hy =>
    intro w hSw
    try dsimp only at hSw
    go_simp
    try with_reducible rfl
  try simp only [Act.put, List.getElem_toArray, List.getElem_cons_succ, List.getElem_cons_zero, List.setIfInBounds_toArray, List.set_cons_zero, List.set_cons_succ]
  refine wpAnyH_take (i := 1) (v := ?_) rfl (by kernel_rfl) (by kernel_rfl) (by kernel_rfl) (fun _ _ _ h => h) (Or.inl ⟨by rfl, ?hy⟩) (by assumption) ?_
  case hy =>
    intro w hSw
    try dsimp only at hSw
    go_simp
    try with_reducible rfl
  try simp only [Act.put, List.getElem_toArray, List.getElem_cons_succ, List.getElem_cons_zero, List.setIfInBounds_toArray, List.set_cons_zero, List.set_cons_succ]
  refine wpAnyH_take (i := 2) (v := ?_) rfl (by kernel_rfl) (by kernel_rfl) (by kernel_rfl) (fun _ _ _ h => h) (Or.inl ⟨by rfl, ?hy⟩) (by assumption) ?_
  case hy =>
    intro w hSw
    try dsimp only at hSw
    go_simp
    try with_reducible rfl
  try simp only [Act.put, List.getElem_toArray, List.getElem_cons_succ, List.getElem_cons_zero, List.setIfInBounds_toArray, List.set_cons_zero, List.set_cons_succ]
  refine wpAnyH_take (i := 3) (v := ?_) rfl (by kernel_rfl) (by kernel_rfl) (by kernel_rfl) (fun _ _ _ h => h) (Or.inl ⟨by rfl, ?hy⟩) (by assumption) ?_
  case hy =>
    intro w hSw
    try dsimp only at hSw
    go_simp
    try with_reducible rfl
  try simp only [Act.put, List.getElem_toArray, List.getElem_cons_succ, List.getElem_cons_zero, List.setIfInBounds_toArray, List.set_cons_zero, List.set_cons_succ]
  refine wpAnyH_take (i := 6) (v := ?_) rfl (by kernel_rfl) (by kernel_rfl) (by kernel_rfl) (fun _ _ _ h => h) (Or.inl ⟨by rfl, ?hy⟩) (by assumption) ?_
  case hy =>
    intro w hSw
    try dsimp only at hSw
    go_simp
    try with_reducible rfl
  try simp only [Act.put, List.getElem_toArray, List.getElem_cons_succ, List.getElem_cons_zero, List.setIfInBounds_toArray, List.set_cons_zero, List.set_cons_succ]
  refine wpAnyH_take (i := 7) (v := ?_) rfl (by kernel_rfl) (by kernel_rfl) (by kernel_rfl) (fun _ _ _ h => h) (Or.inl ⟨by rfl, ?hy⟩) (by assumption) ?_
  case hy =>
    intro w hSw
    try dsimp only at hSw
    go_simp
    try with_reducible rfl
  try simp only [Act.put, List.getElem_toArray, List.getElem_cons_succ, List.getElem_cons_zero, List.setIfInBounds_toArray, List.set_cons_zero, List.set_cons_succ]
  refine wpAnyH_take (i := 8) (v := ?_) rfl (by kernel_rfl) (by kernel_rfl) (by kernel_rfl) (fun _ _ _ h => h) (Or.inl ⟨by rfl, ?hy⟩) (by assumption) ?_
  case hy =>
    intro w hSw
    try dsimp only at hSw
    go_simp
    try with_reducible rfl
  try simp only [Act.put, List.getElem_toArray, List.getElem_cons_succ, List.getElem_cons_zero, List.setIfInBounds_toArray, List.set_cons_zero, List.set_cons_succ]
  refine wpAnyH_take (i := 9) (v := ?_) rfl (by kernel_rfl) (by kernel_rfl) (by kernel_rfl) (fun _ _ _ h => h) (Or.inl ⟨by rfl, ?hy⟩) (by assumption) ?_
  case hy =>
    intro w hSw
    try dsimp only at hSw
    go_simp
    try with_reducible rfl
  try simp only [Act.put, List.getElem_toArray, List.getElem_cons_succ, List.getElem_cons_zero, List.setIfInBounds_toArray, List.set_cons_zero, List.set_cons_succ]
  refine wpAnyH_ready (rs := [4]) (by kernel_rfl) (by simp) ?_
  refine AllReadyH.cons rfl (fun K hK => ?_) AllReadyH.nil
  go_simp
  refine hK.out _ _ ?hS1 (fun hHeld => ?_)
  case hS1 =>
    try dsimp only
    (first | (have _h := hf1; exact ⟨cell_fr (((Fr.refl [] _).drew).same hf1) k0 (by simp), cell_fr (((Fr.refl [] _).drew).same hf1) k1 (by simp), cell_fr (((Fr.refl [] _).drew).same hf1) k3 (by simp), cell_fr (((Fr.refl [] _).drew).same hf1) k4 (by simp)⟩) | exact ⟨k0, k1, k3, k4⟩ | exact ⟨cell_fr (((Fr.refl [] _).drew).alloc _) k0 (by simp), cell_fr (((Fr.refl [] _).drew).alloc _) k1 (by simp), cell_fr (((Fr.refl [] _).drew).alloc _) k3 (by simp), cell_fr (((Fr.refl [] _).drew).alloc _) k4 (by simp)⟩)
  clear hK K
  try simp only [Act.put, List.getElem_toArray, List.getElem_cons_succ, List.getElem_cons_zero, List.setIfInBounds_toArray, List.set_cons_zero, List.set_cons_succ]
  refine wpAnyH_ready (rs := [5]) (by kernel_rfl) (by simp) ?_
  refine AllReadyH.cons rfl (fun K hK => ?_) AllReadyH.nil
  go_simp
  go_at_call 381
  refine (emany1Q (H.fr0 irokQ ((Fr.refl [] _).drew)) 0 (by decide) HN0.out).mono ?_
  rintro en w1 ⟨rfl, hf1⟩
  focus go_wp2_with fail
  refine hK.out _ _ ?hS1 (fun hHeld => ?_)
  case hS1 =>
    try dsimp only
    (first | (have _h := hf1; exact ⟨cell_fr (((Fr.refl [] _).drew).same hf1) k0 (by simp), cell_fr (((Fr.refl [] _).drew).same hf1) k1 (by simp), cell_fr (((Fr.refl [] _).drew).same hf1) k3 (by simp), cell_fr (((Fr.refl [] _).drew).same hf1) k4 (by simp)⟩) | exact ⟨k0, k1, k3, k4⟩ | exact ⟨cell_fr (((Fr.refl [] _).drew).alloc _) k0 (by simp), cell_fr (((Fr.refl [] _).drew).alloc _) k1 (by simp), cell_fr (((Fr.refl [] _).drew).alloc _) k3 (by simp), cell_fr (((Fr.refl [] _).drew).alloc _) k4 (by simp)⟩)
  clear hK K
  try simp only [Act.put, List.getElem_toArray, List.getElem_cons_succ, List.getElem_cons_zero, List.setIfInBounds_toArray, List.set_cons_zero, List.set_cons_succ]
  refine wpAnyH_take (i := 10) (v := ?_) rfl (by kernel_rfl) (by kernel_rfl) (by kernel_rfl) (fun _ _ _ h => h) (Or.inl ⟨by rfl, ?hy⟩) (by assumption) ?_
  case hy =>
    intro w hSw
    try dsimp only at hSw
    go_simp
    try with_reducible rfl
  try simp only [Act.put, List.getElem_toArray, List.getElem_cons_succ, List.getElem_cons_zero, List.setIfInBounds_toArray, List.set_cons_zero, List.set_cons_succ]
  refine wpAnyH_take (i := 11) (v := ?_) rfl (by kernel_rfl) (by kernel_rfl) (by kernel_rfl) (fun _ _ _ h => h) (Or.inl ⟨by rfl, ?hy⟩) (by assumption) ?_
  case hy =>
    intro w hSw
    try dsimp only at hSw
    go_simp
    try with_reducible rfl
  try simp only [Act.put, List.getElem_toArray, List.getElem_cons_succ, List.getElem_cons_zero, List.setIfInBounds_toArray, List.set_cons_zero, List.set_cons_succ]
  refine skipsH (by kernel_rfl) [12, 13, 14, 15, 16, 17, 18] _ _ (by kernel_rfl) (by kernel_rfl) ?hsm (fun _ _ _ _ h => h) (by assumption) ?_
  case hsm =>
    repeat (first | exact trivial | refine ⟨by kernel_rfl, ?_⟩)
  simp only [List.foldl, List.setIfInBounds_toArray, List.set_cons_zero, List.set_cons_succ]
  refine wpAnyH_take (i := 19) (v := ?_) rfl (by kernel_rfl) (by kernel_rfl) (by kernel_rfl) (fun _ _ _ h => h) (Or.inl ⟨by rfl, ?hy⟩) (by assumption) ?_
  case hy =>
    intro w hSw
    try dsimp only at hSw
    go_simp
    try with_reducible rfl
  try simp only [Act.put, List.getElem_toArray, List.getElem_cons_succ, List.getElem_cons_zero, List.setIfInBounds_toArray, List.set_cons_zero, List.set_cons_succ]
  refine wpAnyH_done (by kernel_rfl) ?_ _
  have hn : Fr [] _ w1 := ((Fr.refl [] _).drew).same hf1
  replace hF := hF.same hn
  replace H := H.fr0 irokQ hn
  replace k0 := H.k0
  replace k1 := H.k1
  replace k2 := H.kr0
  replace k3 := H.kr1
  replace k4 := H.kr2
  clear hn hf1
  go_wp2_with fail
  refine (eoldestQ H (r := 0) (by decide)).mono ?_
  rintro en w1 ⟨rfl, hf1⟩
  have hn := hf1
  replace hF := hF.same hn
  replace H := H.fr0 irokQ hn
  replace k0 := H.k0
  replace k1 := H.k1
  replace k2 := H.kr0
  replace k3 := H.kr1
  replace k4 := H.kr2
  clear hn hf1
  have hsz0 := oldest_sz H.nd 0
  go_wp2_with fail
  refine (epushQ H (by omega) (r := 1) (by decide) (oldest K 0) hsz0).mono ?_
  rintro en w2 ⟨rfl, F2, H2, hs2, hg2⟩
  have htp := tot_push (K := K) (k := 3) (r := 1) (by decide) (oldest K 0)
  replace hs2 := hs2.old hF.size
  replace hg2 := hF.nil.same hg2
  have HK := Lib.hid hR
  clear H k0 k1 k2 k3 k4 hF hR
  obtain ⟨K1, hK1⟩ : ∃ K1, pushK K 1 (oldest K 0) = K1 := ⟨_, rfl⟩
  rw [hK1] at H2 htp HK
  clear hK1
  go_wp2_with fail
  go_loopg [] (K1 1).length (fun gg wr => ∃ (Kc : Rows) (Fc : List Nat), Aside (trim Kc 1 kout = trim K1 1 kout ∧ (Kc 1).length = gg) ∧ tot 3 Kc ≤ 70001 ∧ ERows IRepQ 3 209 wr e g cap x Fc Kc [.int .i64 (c : Nat), .int .i64 (kin : Nat), .int .i64 (kout : Nat)] ∧ Sub Fc F w ∧ Fr F w wr)
  case atStart => exact ⟨K1, F2, ⟨rfl, rfl⟩, by omega, H2, hs2, hg2⟩
  case round =>
    obtain ⟨Kc, Fc, hA, htc, H, hsc, hgc⟩ := hrel
    obtain ⟨n1, hn1⟩ : ∃ n, (Kc 1).length = n := ⟨_, rfl⟩
    have hb1 : n1 ≤ 70001 := by rw [← hn1]; exact Nat.le_trans (len_tot (by omega)) htc
    have k0 := H.k0
    have k1 := H.k1
    have k2 := H.kr0
    have k3 := H.kr1
    have k4 := H.kr2
    have hF := Fr.refl [] wr
    have HN1 := Lib.hid hn1
    by_cases hlt : kout < n1
    · have q1 : (kout : Int) < (n1 : Int) := by omega
      clear hn1
      go_wp2_with fail
      first
        | (go_region_held3 (fun w' => w'.cell? ⟨e, 0, none⟩ = some (.slice (some ⟨g, 0, none⟩) 3 cap) ∧ w'.cell? ⟨e, 1, none⟩ = some (.pointer (some ⟨x, 0, none⟩)) ∧ w'.cell? ⟨e, 3, none⟩ = some (.int .i64 kin) ∧ w'.cell? ⟨e, 4, none⟩ = some (.int .i64 kout))
           (first
             | (have _h := hf2; exact ⟨cell_fr ((((Fr.refl [] _).drew).same hf1).same hf2) k0 (by simp), cell_fr ((((Fr.refl [] _).drew).same hf1).same hf2) k1 (by simp), cell_fr ((((Fr.refl [] _).drew).same hf1).same hf2) k3 (by simp), cell_fr ((((Fr.refl [] _).drew).same hf1).same hf2) k4 (by simp)⟩)
             | (have _h := hf1; first | exact ⟨cell_fr (((Fr.refl [] _).drew).same hf1) k0 (by simp), cell_fr (((Fr.refl [] _).drew).same hf1) k1 (by simp), cell_fr (((Fr.refl [] _).drew).same hf1) k3 (by simp), cell_fr (((Fr.refl [] _).drew).same hf1) k4 (by simp)⟩ | exact ⟨cell_fr ((((Fr.refl [] _).drew).same hf1).alloc _) k0 (by simp), cell_fr ((((Fr.refl [] _).drew).same hf1).alloc _) k1 (by simp), cell_fr ((((Fr.refl [] _).drew).same hf1).alloc _) k3 (by simp), cell_fr ((((Fr.refl [] _).drew).same hf1).alloc _) k4 (by simp)⟩)
             | exact ⟨k0, k1, k3, k4⟩
             | exact ⟨cell_fr (((Fr.refl [] _).drew).alloc _) k0 (by simp), cell_fr (((Fr.refl [] _).drew).alloc _) k1 (by simp), cell_fr (((Fr.refl [] _).drew).alloc _) k3 (by simp), cell_fr (((Fr.refl [] _).drew).alloc _) k4 (by simp)⟩)
           (first
             | (have _h := hf1; go_at_call 381; refine (emany1Q (H.fr0 irokQ (((Fr.refl [] _).drew).same hf1)) 2 (by decide) HN2.out).mono ?_; rintro en w2 ⟨rfl, hf2⟩)
             | (go_at_call 381; refine (emany1Q (H.fr0 irokQ ((Fr.refl [] _).drew)) 1 (by decide) HN1.out).mono ?_; rintro en w1 ⟨rfl, hf1⟩)))
        | fail
      have hn : Fr [] _ w1 := ((Fr.refl [] _).drew).same hf1
      replace hF := hF.same hn
      replace H := H.fr0 irokQ hn
      replace k0 := H.k0
      replace k1 := H.k1
      replace k2 := H.kr0
      replace k3 := H.kr1
      replace k4 := H.kr2
      clear hn hf1
      go_wp2_with fail
      first
        | (go_region_held3 (fun w' => w'.cell? ⟨e, 0, none⟩ = some (.slice (some ⟨g, 0, none⟩) 3 cap) ∧ w'.cell? ⟨e, 1, none⟩ = some (.pointer (some ⟨x, 0, none⟩)) ∧ w'.cell? ⟨e, 3, none⟩ = some (.int .i64 kin) ∧ w'.cell? ⟨e, 4, none⟩ = some (.int .i64 kout))
           (first
             | (have _h := hg2; exact ⟨H2.k0, H2.k1, H2.kr1, H2.kr2⟩)
             | (have _h := hf1; exact ⟨cell_fr (((Fr.refl [] _).drew).same hf1) k0 (by simp), cell_fr (((Fr.refl [] _).drew).same hf1) k1 (by simp), cell_fr (((Fr.refl [] _).drew).same hf1) k3 (by simp), cell_fr (((Fr.refl [] _).drew).same hf1) k4 (by simp)⟩)
             | exact ⟨k0, k1, k3, k4⟩)
           (first
             | (have _h := hf1; go_at_call 379; refine (edropQ (H.fr0 irokQ (((Fr.refl [] _).drew).same hf1)) (by omega) _ (oldest_sz H.nd 1)).mono ?_; rintro en w2 ⟨rfl, F2, H2, hs2, hg2⟩)
             | (go_at_call 382; refine (eoldestQ (H.fr0 irokQ ((Fr.refl [] _).drew)) (r := 1) (by decide)).mono ?_; rintro en w1 ⟨rfl, hf1⟩)))
        | fail
      have hnd := H.nd
      have hst := trim_step hnd (r := 1) (n := kout) (by rw [HN1.out]; exact hlt)
      have hdl := drop_len_in hnd (oldest_mem (K := Kc) (r := 1) (by rw [HN1.out]; omega)) 1
      have hdt := tot_drop 3 Kc (oldest Kc 1)
      obtain ⟨e1, e2⟩ := hA.out
      have hf3 : Fr [] wr w1 := hF.same (((Fr.refl [] _).drew).same hf1)
      have hs4 := hs2.old (a := wr) (by have := (hF.same (((Fr.refl [] _).drew).same hf1)).size; simpa using this)
      have hg4 : Fr Fc wr w2 := hf3.nil.same hg2
      clear H k0 k1 k2 k3 k4 hF hf1
      go_wp2_with fail
      go_roundg ((dropK Kc (oldest Kc 1)) 1).length
      case measure => rw [← e2]; simp at hdl; omega
      case rel => exact ⟨_, F2, ⟨hst.trans e1, rfl⟩, by omega, H2, hsc.fr hgc hs4, hgc.via hsc hg4⟩
    · have q1 : (n1 : Int) ≤ (kout : Int) := by omega
      clear hn1
      go_wp2_with fail
      first
        | (go_region_held3 (fun w' => w'.cell? ⟨e, 0, none⟩ = some (.slice (some ⟨g, 0, none⟩) 3 cap) ∧ w'.cell? ⟨e, 1, none⟩ = some (.pointer (some ⟨x, 0, none⟩)) ∧ w'.cell? ⟨e, 3, none⟩ = some (.int .i64 kin) ∧ w'.cell? ⟨e, 4, none⟩ = some (.int .i64 kout))
           (first
             | (have _h := hf2; exact ⟨cell_fr ((((Fr.refl [] _).drew).same hf1).same hf2) k0 (by simp), cell_fr ((((Fr.refl [] _).drew).same hf1).same hf2) k1 (by simp), cell_fr ((((Fr.refl [] _).drew).same hf1).same hf2) k3 (by simp), cell_fr ((((Fr.refl [] _).drew).same hf1).same hf2) k4 (by simp)⟩)
             | (have _h := hf1; first | exact ⟨cell_fr (((Fr.refl [] _).drew).same hf1) k0 (by simp), cell_fr (((Fr.refl [] _).drew).same hf1) k1 (by simp), cell_fr (((Fr.refl [] _).drew).same hf1) k3 (by simp), cell_fr (((Fr.refl [] _).drew).same hf1) k4 (by simp)⟩ | exact ⟨cell_fr ((((Fr.refl [] _).drew).same hf1).alloc _) k0 (by simp), cell_fr ((((Fr.refl [] _).drew).same hf1).alloc _) k1 (by simp), cell_fr ((((Fr.refl [] _).drew).same hf1).alloc _) k3 (by simp), cell_fr ((((Fr.refl [] _).drew).same hf1).alloc _) k4 (by simp)⟩)
             | exact ⟨k0, k1, k3, k4⟩
             | exact ⟨cell_fr (((Fr.refl [] _).drew).alloc _) k0 (by simp), cell_fr (((Fr.refl [] _).drew).alloc _) k1 (by simp), cell_fr (((Fr.refl [] _).drew).alloc _) k3 (by simp), cell_fr (((Fr.refl [] _).drew).alloc _) k4 (by simp)⟩)
           (first
             | (have _h := hf1; go_at_call 381; refine (emany1Q (H.fr0 irokQ (((Fr.refl [] _).drew).same hf1)) 2 (by decide) HN2.out).mono ?_; rintro en w2 ⟨rfl, hf2⟩)
             | (go_at_call 381; refine (emany1Q (H.fr0 irokQ ((Fr.refl [] _).drew)) 1 (by decide) HN1.out).mono ?_; rintro en w1 ⟨rfl, hf1⟩)))
        | fail
      have hn : Fr [] _ w1 := ((Fr.refl [] _).drew).same hf1
      replace hF := hF.same hn
      replace H := H.fr0 irokQ hn
      replace k0 := H.k0
      replace k1 := H.k1
      replace k2 := H.kr0
      replace k3 := H.kr1
      replace k4 := H.kr2
      clear hn hf1
      obtain ⟨e1, e2⟩ := hA.out
      have hle := trim_le (K := Kc) (r := 1) (n := kout) (by rw [HN1.out]; omega)
      rw [hle] at e1
      have HE := Lib.hid (And.intro H (And.intro hF e1))
      clear H k0 k1 k2 k3 k4 hF hA e1 e2 hle
      go_wp2_with fail
      go_ret2
      rw [HK.out, ← HE.out.2.2]
      exact ⟨rfl, Fc, HE.out.1, hsc, hgc.same HE.out.2.1.nil⟩
end
end Go.Proofs.YtphlancijlljcaaGreat
