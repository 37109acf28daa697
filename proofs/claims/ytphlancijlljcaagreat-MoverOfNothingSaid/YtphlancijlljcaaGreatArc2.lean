/- The walks over arc's engine: comes. -/
import Derived.Test.YtphlancijlljcaaGreatGA
set_option linter.unusedVariables false
set_option linter.unusedSimpArgs false
namespace Go.Proofs.YtphlancijlljcaaGreat
open Go.RowKit
open Act renaming put → pE0
open List renaming getElem_toArray → pE1, getElem_cons_succ → pE2, getElem_cons_zero → pE3, setIfInBounds_toArray → pE4, set_cons_zero → pE5, set_cons_succ → pE6
attribute [local go_sem ↓] Go.wp_at_zero Go.wp_at_succ
section
variable {w : World} {e g cap x : Nat} {F : List Nat} {K : Rows} {c p : Nat}
set_option maxRecDepth 100000 in
set_option maxHeartbeats 4000000 in
set_option maxRecDepth 100000 in
theorem acomes1 (H : ERows IRepA 4 197 w e g cap x F K [.int .i64 c, .int .i64 p]) (ht : tot 4 K ≤ 70000) (hc : c ≤ 1024) (hp : p ≤ 1024) (hcnd : c ≤ (K 0).length + (K 2).length ∧ (K 0).length < c) :
  Calls Tryz.prog 304 #[.pointer (some ⟨e, 0, none⟩)] w (GRet IRepA 4 197 w e g cap x F (arcComes K p c).1 (arcComes K p c).2 [.int .i64 c, .int .i64 p]) := by
 have k0 := H.k0
 have k1 := H.k1
 have k2 := H.kr0
 have k3 := H.kr1
 have hF := Fr.refl [] w
 have l0 : (K 0).length ≤ 70000 := Nat.le_trans (len_tot (by omega)) ht
 have l1 : (K 1).length ≤ 70000 := Nat.le_trans (len_tot (by omega)) ht
 have l2 : (K 2).length ≤ 70000 := Nat.le_trans (len_tot (by omega)) ht
 have l3 : (K 3).length ≤ 70000 := Nat.le_trans (len_tot (by omega)) ht
 have hsz := fun r => oldest_sz H.nd r
 have hdt := fun key => tot_drop 4 K key
 obtain ⟨n0, hn0⟩ : ∃ n, (K 0).length = n := ⟨_, rfl⟩
 obtain ⟨s2, hs2⟩ : ∃ n, (K 0).length + (K 2).length = n := ⟨_, rfl⟩
 obtain ⟨s4, hs4⟩ : ∃ n, (K 0).length + (K 1).length + (K 2).length + (K 3).length = n := ⟨_, rfl⟩
 have htt := tot4 K
 have m0 : n0 ≤ 70000 := by omega
 have m2 : s2 ≤ 200000 := by omega
 have m4 : s4 ≤ 70000 := by omega
 have hrep : arcComes K p c = if c ≤ s2 ∧ n0 < c then arcRepl (dropK K (oldest K 2)) p c false else if c ≤ s2 then ([oldest K 0], dropK K (oldest K 0))
   else if s4 < c then ([], K) else if 2 * c ≤ s4 then arcRepl (dropK K (oldest K 3)) p c false else arcRepl K p c false := by
  unfold arcComes; rw [hs2, hn0, htt, hs4]
 obtain ⟨res, hres⟩ : ∃ r, arcComes K p c = r := ⟨_, rfl⟩
 rw [hres] at hrep ⊢
 have HR := Lib.hid hrep
 have HN := Lib.hid hn0
 have HS2 := Lib.hid hs2
 have HS4 := Lib.hid hs4
 clear hrep hres hn0 hs2 hs4 l0 l1 l2 l3
 rw [HS2.out, HN.out] at hcnd
 obtain ⟨h1, h2⟩ := hcnd
 have q1 : (c : Int) ≤ (s2 : Int) := by omega
 have hR : res = arcRepl (dropK K (oldest K 2)) p c false := by rw [HR.out, if_pos ⟨h1, h2⟩]
 have q2 : (n0 : Int) < (c : Int) := by omega
 go_enter Tryz.func304, Tryz.ntmps304
 go_wp2_with fail
 first
  | (go_region_held3 (fun w' => w'.cell? ⟨e, 0, none⟩ = some (.slice (some ⟨g, 0, none⟩) 4 cap) ∧ w'.cell? ⟨e, 1, none⟩ = some (.pointer (some ⟨x, 0, none⟩)) ∧ w'.cell? ⟨e, 2, none⟩ = some (.int .i64 c))
     (first
      | (have _h := hf2; exact ⟨cell_fr (((((Fr.refl [] _).drew).same hf1).same hf2)) k0 (by simp), cell_fr (((((Fr.refl [] _).drew).same hf1).same hf2)) k1 (by simp), cell_fr (((((Fr.refl [] _).drew).same hf1).same hf2)) k2 (by simp)⟩)
      | (have _h := hf1; first | exact ⟨cell_fr ((((Fr.refl [] _).drew).same hf1)) k0 (by simp), cell_fr ((((Fr.refl [] _).drew).same hf1)) k1 (by simp), cell_fr ((((Fr.refl [] _).drew).same hf1)) k2 (by simp)⟩ | exact ⟨cell_fr (((((Fr.refl [] _).drew).same hf1).alloc _)) k0 (by simp), cell_fr (((((Fr.refl [] _).drew).same hf1).alloc _)) k1 (by simp), cell_fr (((((Fr.refl [] _).drew).same hf1).alloc _)) k2 (by simp)⟩)
      | exact ⟨k0, k1, k2⟩
      | exact ⟨cell_fr ((((Fr.refl [] _).drew).alloc _)) k0 (by simp), cell_fr ((((Fr.refl [] _).drew).alloc _)) k1 (by simp), cell_fr ((((Fr.refl [] _).drew).alloc _)) k2 (by simp)⟩)
     (first
      | (have _h := hf1; go_at_call 302; refine (emany1A (H.fr0 irokA (((Fr.refl [] _).drew).same hf1)) 0 (by decide) HN.out).mono ?_; rintro en w2 ⟨rfl, hf2⟩)
      | (go_at_call 302; refine (emany2A (H.fr0 irokA ((Fr.refl [] _).drew)) 0 2 (by decide) (by decide) HS2.out).mono ?_; rintro en w1 ⟨rfl, hf1⟩)))
  | fail
 have hn : Fr [] _ w2 := (((Fr.refl [] _).drew).same hf1).same hf2
 clear hf2
 replace hF := hF.same hn
 replace H := H.fr0 irokA hn
 replace k0 := H.k0
 replace k1 := H.k1
 replace k2 := H.kr0
 replace k3 := H.kr1
 clear hn hf1
 go_wp2_with fail
 go_region_held3 (fun w' => w'.cell? ⟨e, 0, none⟩ = some (.slice (some ⟨g, 0, none⟩) 4 cap) ∧ w'.cell? ⟨e, 1, none⟩ = some (.pointer (some ⟨x, 0, none⟩)))
  (first
   | (have _h := hg2; exact ⟨H2.k0, H2.k1⟩)
   | (have _h := hf1; exact ⟨cell_fr (((Fr.refl [] _).drew).same hf1) k0 (by simp), cell_fr (((Fr.refl [] _).drew).same hf1) k1 (by simp)⟩)
   | exact ⟨k0, k1⟩)
  (first
   | (have _h := hf1; go_at_call 307; refine (edropA (H.fr0 irokA (((Fr.refl [] _).drew).same hf1)) (by omega) _ (hsz 2)).mono ?_; rintro en w2 ⟨rfl, F2, H2, hs2, hg2⟩)
   | (go_at_call 308; refine (eoldestA (H.fr0 irokA ((Fr.refl [] _).drew)) (r := 2) (by decide)).mono ?_; rintro en w1 ⟨rfl, hf1⟩))
 replace hF := hF.same (((Fr.refl [] _).drew).same hf1)
 have hdd := hdt (oldest K 2)
 go_wp2_with fail
 refine (areplaces H2 (by omega) hc hp false).mono ?_
 intro en w3 hgr
 obtain ⟨v, Fo, rfl, hgo, heg⟩ := id hgr
 obtain ⟨va, vc, rfl⟩ := hgo.1.form
 clear hgo heg
 have hsz3 := hF.size
 have hsz2 := hg2.size
 clear H H2 k0 k1 k2 k3
 go_wp2
 go_ret
 rw [hR]
 exact GRet.old (GRet.trans hs2 hg2 hgr) hF
set_option maxHeartbeats 4000000 in
set_option maxRecDepth 100000 in
theorem acomes2 (H : ERows IRepA 4 197 w e g cap x F K [.int .i64 c, .int .i64 p]) (ht : tot 4 K ≤ 70000) (hc : c ≤ 1024) (hp : p ≤ 1024) (hcnd : c ≤ (K 0).length + (K 2).length ∧ ¬ (K 0).length < c) :
  Calls Tryz.prog 304 #[.pointer (some ⟨e, 0, none⟩)] w (GRet IRepA 4 197 w e g cap x F (arcComes K p c).1 (arcComes K p c).2 [.int .i64 c, .int .i64 p]) := by
 have k0 := H.k0
 have k1 := H.k1
 have k2 := H.kr0
 have k3 := H.kr1
 have hF := Fr.refl [] w
 have l0 : (K 0).length ≤ 70000 := Nat.le_trans (len_tot (by omega)) ht
 have l1 : (K 1).length ≤ 70000 := Nat.le_trans (len_tot (by omega)) ht
 have l2 : (K 2).length ≤ 70000 := Nat.le_trans (len_tot (by omega)) ht
 have l3 : (K 3).length ≤ 70000 := Nat.le_trans (len_tot (by omega)) ht
 have hsz := fun r => oldest_sz H.nd r
 have hdt := fun key => tot_drop 4 K key
 obtain ⟨n0, hn0⟩ : ∃ n, (K 0).length = n := ⟨_, rfl⟩
 obtain ⟨s2, hs2⟩ : ∃ n, (K 0).length + (K 2).length = n := ⟨_, rfl⟩
 obtain ⟨s4, hs4⟩ : ∃ n, (K 0).length + (K 1).length + (K 2).length + (K 3).length = n := ⟨_, rfl⟩
 have htt := tot4 K
 have m0 : n0 ≤ 70000 := by omega
 have m2 : s2 ≤ 200000 := by omega
 have m4 : s4 ≤ 70000 := by omega
 have hrep : arcComes K p c = if c ≤ s2 ∧ n0 < c then arcRepl (dropK K (oldest K 2)) p c false else if c ≤ s2 then ([oldest K 0], dropK K (oldest K 0))
   else if s4 < c then ([], K) else if 2 * c ≤ s4 then arcRepl (dropK K (oldest K 3)) p c false else arcRepl K p c false := by
  unfold arcComes; rw [hs2, hn0, htt, hs4]
 obtain ⟨res, hres⟩ : ∃ r, arcComes K p c = r := ⟨_, rfl⟩
 rw [hres] at hrep ⊢
 have HR := Lib.hid hrep
 have HN := Lib.hid hn0
 have HS2 := Lib.hid hs2
 have HS4 := Lib.hid hs4
 clear hrep hres hn0 hs2 hs4 l0 l1 l2 l3
 rw [HS2.out, HN.out] at hcnd
 obtain ⟨h1, h2⟩ := hcnd
 have q1 : (c : Int) ≤ (s2 : Int) := by omega
 have hR : res = ([oldest K 0], dropK K (oldest K 0)) := by rw [HR.out, if_neg (fun h => h2 h.2), if_pos h1]
 have q2 : (c : Int) ≤ (n0 : Int) := by omega
 go_enter Tryz.func304, Tryz.ntmps304
 go_wp2_with fail
 first
  | (go_region_held3 (fun w' => w'.cell? ⟨e, 0, none⟩ = some (.slice (some ⟨g, 0, none⟩) 4 cap) ∧ w'.cell? ⟨e, 1, none⟩ = some (.pointer (some ⟨x, 0, none⟩)) ∧ w'.cell? ⟨e, 2, none⟩ = some (.int .i64 c))
     (first
      | (have _h := hf2; exact ⟨cell_fr (((((Fr.refl [] _).drew).same hf1).same hf2)) k0 (by simp), cell_fr (((((Fr.refl [] _).drew).same hf1).same hf2)) k1 (by simp), cell_fr (((((Fr.refl [] _).drew).same hf1).same hf2)) k2 (by simp)⟩)
      | (have _h := hf1; first | exact ⟨cell_fr ((((Fr.refl [] _).drew).same hf1)) k0 (by simp), cell_fr ((((Fr.refl [] _).drew).same hf1)) k1 (by simp), cell_fr ((((Fr.refl [] _).drew).same hf1)) k2 (by simp)⟩ | exact ⟨cell_fr (((((Fr.refl [] _).drew).same hf1).alloc _)) k0 (by simp), cell_fr (((((Fr.refl [] _).drew).same hf1).alloc _)) k1 (by simp), cell_fr (((((Fr.refl [] _).drew).same hf1).alloc _)) k2 (by simp)⟩)
      | exact ⟨k0, k1, k2⟩
      | exact ⟨cell_fr ((((Fr.refl [] _).drew).alloc _)) k0 (by simp), cell_fr ((((Fr.refl [] _).drew).alloc _)) k1 (by simp), cell_fr ((((Fr.refl [] _).drew).alloc _)) k2 (by simp)⟩)
     (first
      | (have _h := hf1; go_at_call 302; refine (emany1A (H.fr0 irokA (((Fr.refl [] _).drew).same hf1)) 0 (by decide) HN.out).mono ?_; rintro en w2 ⟨rfl, hf2⟩)
      | (go_at_call 302; refine (emany2A (H.fr0 irokA ((Fr.refl [] _).drew)) 0 2 (by decide) (by decide) HS2.out).mono ?_; rintro en w1 ⟨rfl, hf1⟩)))
  | fail
 have hn : Fr [] _ w2 := (((Fr.refl [] _).drew).same hf1).same hf2
 clear hf2
 replace hF := hF.same hn
 replace H := H.fr0 irokA hn
 replace k0 := H.k0
 replace k1 := H.k1
 replace k2 := H.kr0
 replace k3 := H.kr1
 clear hn hf1
 go_wp2_with fail
 first
  | (go_region_held3 (fun w' => w'.cell? ⟨e, 0, none⟩ = some (.slice (some ⟨g, 0, none⟩) 4 cap) ∧ w'.cell? ⟨e, 1, none⟩ = some (.pointer (some ⟨x, 0, none⟩)) ∧ w'.cell? ⟨e, 2, none⟩ = some (.int .i64 c))
     (first
      | (have _h := hf2; exact ⟨cell_fr (((((Fr.refl [] _).drew).same hf1).same hf2)) k0 (by simp), cell_fr (((((Fr.refl [] _).drew).same hf1).same hf2)) k1 (by simp), cell_fr (((((Fr.refl [] _).drew).same hf1).same hf2)) k2 (by simp)⟩)
      | (have _h := hf1; first | exact ⟨cell_fr ((((Fr.refl [] _).drew).same hf1)) k0 (by simp), cell_fr ((((Fr.refl [] _).drew).same hf1)) k1 (by simp), cell_fr ((((Fr.refl [] _).drew).same hf1)) k2 (by simp)⟩ | exact ⟨cell_fr (((((Fr.refl [] _).drew).same hf1).alloc _)) k0 (by simp), cell_fr (((((Fr.refl [] _).drew).same hf1).alloc _)) k1 (by simp), cell_fr (((((Fr.refl [] _).drew).same hf1).alloc _)) k2 (by simp)⟩)
      | exact ⟨k0, k1, k2⟩
      | exact ⟨cell_fr ((((Fr.refl [] _).drew).alloc _)) k0 (by simp), cell_fr ((((Fr.refl [] _).drew).alloc _)) k1 (by simp), cell_fr ((((Fr.refl [] _).drew).alloc _)) k2 (by simp)⟩)
     (first
      | (have _h := hf1; go_at_call 302; refine (emany1A (H.fr0 irokA (((Fr.refl [] _).drew).same hf1)) 0 (by decide) HN.out).mono ?_; rintro en w2 ⟨rfl, hf2⟩)
      | (go_at_call 302; refine (emany2A (H.fr0 irokA ((Fr.refl [] _).drew)) 0 2 (by decide) (by decide) HS2.out).mono ?_; rintro en w1 ⟨rfl, hf1⟩)))
  | fail
 have hn : Fr [] _ w1 := ((Fr.refl [] _).drew).same hf1
 replace hF := hF.same hn
 replace H := H.fr0 irokA hn
 replace k0 := H.k0
 replace k1 := H.k1
 replace k2 := H.kr0
 replace k3 := H.kr1
 clear hn hf1
 go_wp2_with fail
 refine (eoldestA H (r := 0) (by decide)).mono ?_
 rintro en w1 ⟨rfl, hf1⟩
 have hn := hf1
 replace hF := hF.same hn
 replace H := H.fr0 irokA hn
 replace k0 := H.k0
 replace k1 := H.k1
 replace k2 := H.kr0
 replace k3 := H.kr1
 clear hn hf1
 go_wp2_with fail
 refine (edropA H (by omega) _ (hsz 0)).mono ?_
 rintro en w2 ⟨rfl, hg⟩
 have hs3 := hg.size
 have hs4 := hF.size
 clear H k0 k1 k2 k3
 go_wp2
 go_ret
 rw [hR]
 exact GRet.one irokA (hg.old hF) _ rfl
set_option maxHeartbeats 4000000 in
set_option maxRecDepth 100000 in
theorem acomes3 (H : ERows IRepA 4 197 w e g cap x F K [.int .i64 c, .int .i64 p]) (ht : tot 4 K ≤ 70000) (hc : c ≤ 1024) (hp : p ≤ 1024) (hcnd : ¬ c ≤ (K 0).length + (K 2).length ∧ tot 4 K < c) :
  Calls Tryz.prog 304 #[.pointer (some ⟨e, 0, none⟩)] w (GRet IRepA 4 197 w e g cap x F (arcComes K p c).1 (arcComes K p c).2 [.int .i64 c, .int .i64 p]) := by
 have k0 := H.k0
 have k1 := H.k1
 have k2 := H.kr0
 have k3 := H.kr1
 have hF := Fr.refl [] w
 have l0 : (K 0).length ≤ 70000 := Nat.le_trans (len_tot (by omega)) ht
 have l1 : (K 1).length ≤ 70000 := Nat.le_trans (len_tot (by omega)) ht
 have l2 : (K 2).length ≤ 70000 := Nat.le_trans (len_tot (by omega)) ht
 have l3 : (K 3).length ≤ 70000 := Nat.le_trans (len_tot (by omega)) ht
 have hsz := fun r => oldest_sz H.nd r
 have hdt := fun key => tot_drop 4 K key
 obtain ⟨n0, hn0⟩ : ∃ n, (K 0).length = n := ⟨_, rfl⟩
 obtain ⟨s2, hs2⟩ : ∃ n, (K 0).length + (K 2).length = n := ⟨_, rfl⟩
 obtain ⟨s4, hs4⟩ : ∃ n, (K 0).length + (K 1).length + (K 2).length + (K 3).length = n := ⟨_, rfl⟩
 have htt := tot4 K
 have m0 : n0 ≤ 70000 := by omega
 have m2 : s2 ≤ 200000 := by omega
 have m4 : s4 ≤ 70000 := by omega
 have hrep : arcComes K p c = if c ≤ s2 ∧ n0 < c then arcRepl (dropK K (oldest K 2)) p c false else if c ≤ s2 then ([oldest K 0], dropK K (oldest K 0))
   else if s4 < c then ([], K) else if 2 * c ≤ s4 then arcRepl (dropK K (oldest K 3)) p c false else arcRepl K p c false := by
  unfold arcComes; rw [hs2, hn0, htt, hs4]
 obtain ⟨res, hres⟩ : ∃ r, arcComes K p c = r := ⟨_, rfl⟩
 rw [hres] at hrep ⊢
 have HR := Lib.hid hrep
 have HN := Lib.hid hn0
 have HS2 := Lib.hid hs2
 have HS4 := Lib.hid hs4
 clear hrep hres hn0 hs2 hs4 l0 l1 l2 l3
 rw [HS2.out, htt, HS4.out] at hcnd
 obtain ⟨h1, h3⟩ := hcnd
 have q1 : (s2 : Int) < (c : Int) := by omega
 have hR : res = ([], K) := by rw [HR.out, if_neg (fun h => h1 h.1), if_neg h1, if_pos h3]
 have q3 : (s4 : Int) < (c : Int) := by omega
 go_enter Tryz.func304, Tryz.ntmps304
 go_wp2_with fail
 refine wp_region_held_drew (S := (fun w' => w'.cell? ⟨e, 0, none⟩ = some (.slice (some ⟨g, 0, none⟩) 4 cap) ∧ w'.cell? ⟨e, 1, none⟩ = some (.pointer (some ⟨x, 0, none⟩)) ∧ w'.cell? ⟨e, 2, none⟩ = some (.int .i64 c))) (by kernel_rfl) ?hS0 (fun hHeld => ?_)
 case hS0 =>
  try dsimp only
  (first | (have _h := hf1; exact ⟨cell_fr (((Fr.refl [] _).drew).same hf1) k0 (by simp), cell_fr (((Fr.refl [] _).drew).same hf1) k1 (by simp), cell_fr (((Fr.refl [] _).drew).same hf1) k2 (by simp)⟩) | exact ⟨k0, k1, k2⟩ | exact ⟨cell_fr (((Fr.refl [] _).drew).alloc _) k0 (by simp), cell_fr (((Fr.refl [] _).drew).alloc _) k1 (by simp), cell_fr (((Fr.refl [] _).drew).alloc _) k2 (by simp)⟩)
 refine tkH 0 (v := ?_) rfl (Or.inl ⟨by rfl, ?hy⟩) ?_
 case hy => intro w hSw; (try dsimp only at hSw); go_simp; try with_reducible rfl
 try simp only [pE0, pE1, pE2, pE3, pE4, pE5, pE6]
 refine tkH 1 (v := ?_) rfl (Or.inl ⟨by rfl, ?hy⟩) ?_
 case hy => intro w hSw; (try dsimp only at hSw); go_simp; try with_reducible rfl
 try simp only [pE0, pE1, pE2, pE3, pE4, pE5, pE6]
 refine tkH 2 (v := ?_) rfl (Or.inl ⟨by rfl, ?hy⟩) ?_
 case hy => intro w hSw; (try dsimp only at hSw); go_simp; try with_reducible rfl
 try simp only [pE0, pE1, pE2, pE3, pE4, pE5, pE6]
 refine tkH 3 (v := ?_) rfl (Or.inl ⟨by rfl, ?hy⟩) ?_
 case hy => intro w hSw; (try dsimp only at hSw); go_simp; try with_reducible rfl
 try simp only [pE0, pE1, pE2, pE3, pE4, pE5, pE6]
 refine tkH 6 (v := ?_) rfl (Or.inl ⟨by rfl, ?hy⟩) ?_
 case hy => intro w hSw; (try dsimp only at hSw); go_simp; try with_reducible rfl
 try simp only [pE0, pE1, pE2, pE3, pE4, pE5, pE6]
 refine tkH 7 (v := ?_) rfl (Or.inl ⟨by rfl, ?hy⟩) ?_
 case hy => intro w hSw; (try dsimp only at hSw); go_simp; try with_reducible rfl
 try simp only [pE0, pE1, pE2, pE3, pE4, pE5, pE6]
 refine tkH 8 (v := ?_) rfl (Or.inl ⟨by rfl, ?hy⟩) ?_
 case hy => intro w hSw; (try dsimp only at hSw); go_simp; try with_reducible rfl
 try simp only [pE0, pE1, pE2, pE3, pE4, pE5, pE6]
 refine tkH 9 (v := ?_) rfl (Or.inl ⟨by rfl, ?hy⟩) ?_
 case hy => intro w hSw; (try dsimp only at hSw); go_simp; try with_reducible rfl
 try simp only [pE0, pE1, pE2, pE3, pE4, pE5, pE6]
 refine wpAnyH_ready (rs := [4]) (by kernel_rfl) (by simp) ?_
 refine AllReadyH.cons rfl (fun K hK => ?_) AllReadyH.nil
 go_simp
 refine hK.out _ _ ?hS1 (fun hHeld => ?_)
 case hS1 =>
  try dsimp only
  (first | (have _h := hf1; exact ⟨cell_fr (((Fr.refl [] _).drew).same hf1) k0 (by simp), cell_fr (((Fr.refl [] _).drew).same hf1) k1 (by simp), cell_fr (((Fr.refl [] _).drew).same hf1) k2 (by simp)⟩) | exact ⟨k0, k1, k2⟩ | exact ⟨cell_fr (((Fr.refl [] _).drew).alloc _) k0 (by simp), cell_fr (((Fr.refl [] _).drew).alloc _) k1 (by simp), cell_fr (((Fr.refl [] _).drew).alloc _) k2 (by simp)⟩)
 clear hK K
 try simp only [pE0, pE1, pE2, pE3, pE4, pE5, pE6]
 refine wpAnyH_ready (rs := [5]) (by kernel_rfl) (by simp) ?_
 refine AllReadyH.cons rfl (fun K hK => ?_) AllReadyH.nil
 go_simp
 go_at_call 302
 refine (emany2A (H.fr0 irokA ((Fr.refl [] _).drew)) 0 2 (by decide) (by decide) HS2.out).mono ?_
 rintro en w1 ⟨rfl, hf1⟩
 focus go_wp2_with fail
 refine hK.out _ _ ?hS1 (fun hHeld => ?_)
 case hS1 =>
  try dsimp only
  (first | (have _h := hf1; exact ⟨cell_fr (((Fr.refl [] _).drew).same hf1) k0 (by simp), cell_fr (((Fr.refl [] _).drew).same hf1) k1 (by simp), cell_fr (((Fr.refl [] _).drew).same hf1) k2 (by simp)⟩) | exact ⟨k0, k1, k2⟩ | exact ⟨cell_fr (((Fr.refl [] _).drew).alloc _) k0 (by simp), cell_fr (((Fr.refl [] _).drew).alloc _) k1 (by simp), cell_fr (((Fr.refl [] _).drew).alloc _) k2 (by simp)⟩)
 clear hK K
 try simp only [pE0, pE1, pE2, pE3, pE4, pE5, pE6]
 refine tkH 10 (v := ?_) rfl (Or.inl ⟨by rfl, ?hy⟩) ?_
 case hy => intro w hSw; (try dsimp only at hSw); go_simp; try with_reducible rfl
 try simp only [pE0, pE1, pE2, pE3, pE4, pE5, pE6]
 refine tkH 11 (v := ?_) rfl (Or.inl ⟨by rfl, ?hy⟩) ?_
 case hy => intro w hSw; (try dsimp only at hSw); go_simp; try with_reducible rfl
 try simp only [pE0, pE1, pE2, pE3, pE4, pE5, pE6]
 refine skipsH (by kernel_rfl) [12, 13, 14, 15, 16, 17, 18, 19, 20, 21, 22] _ _ (by kernel_rfl) (by kernel_rfl) ?hsm (fun _ _ _ _ h => h) (by assumption) ?_
 case hsm =>
  repeat (first | exact trivial | refine ⟨by kernel_rfl, ?_⟩)
 simp only [List.foldl, List.setIfInBounds_toArray, List.set_cons_zero, List.set_cons_succ]
 refine tkH 23 (v := ?_) rfl (Or.inl ⟨by rfl, ?hy⟩) ?_
 case hy => intro w hSw; (try dsimp only at hSw); go_simp; try with_reducible rfl
 try simp only [pE0, pE1, pE2, pE3, pE4, pE5, pE6]
 refine tkH 24 (v := ?_) rfl (Or.inl ⟨by rfl, ?hy⟩) ?_
 case hy => intro w hSw; (try dsimp only at hSw); go_simp; try with_reducible rfl
 try simp only [pE0, pE1, pE2, pE3, pE4, pE5, pE6]
 refine wpAnyH_done (by kernel_rfl) ?_ _
 have hn : Fr [] _ w1 := ((Fr.refl [] _).drew).same hf1
 replace hF := hF.same hn
 replace H := H.fr0 irokA hn
 replace k0 := H.k0
 replace k1 := H.k1
 replace k2 := H.kr0
 replace k3 := H.kr1
 clear hn hf1
 go_wp2_with fail
 first
  | (go_region_held3 (fun w' => w'.cell? ⟨e, 0, none⟩ = some (.slice (some ⟨g, 0, none⟩) 4 cap) ∧ w'.cell? ⟨e, 1, none⟩ = some (.pointer (some ⟨x, 0, none⟩)) ∧ w'.cell? ⟨e, 2, none⟩ = some (.int .i64 c))
     (first
      | (have _h := hf2; exact ⟨cell_fr (((((Fr.refl [] _).drew).same hf1).same hf2)) k0 (by simp), cell_fr (((((Fr.refl [] _).drew).same hf1).same hf2)) k1 (by simp), cell_fr (((((Fr.refl [] _).drew).same hf1).same hf2)) k2 (by simp)⟩)
      | (have _h := hf1; first | exact ⟨cell_fr ((((Fr.refl [] _).drew).same hf1)) k0 (by simp), cell_fr ((((Fr.refl [] _).drew).same hf1)) k1 (by simp), cell_fr ((((Fr.refl [] _).drew).same hf1)) k2 (by simp)⟩ | exact ⟨cell_fr (((((Fr.refl [] _).drew).same hf1).alloc _)) k0 (by simp), cell_fr (((((Fr.refl [] _).drew).same hf1).alloc _)) k1 (by simp), cell_fr (((((Fr.refl [] _).drew).same hf1).alloc _)) k2 (by simp)⟩)
      | exact ⟨k0, k1, k2⟩
      | exact ⟨cell_fr ((((Fr.refl [] _).drew).alloc _)) k0 (by simp), cell_fr ((((Fr.refl [] _).drew).alloc _)) k1 (by simp), cell_fr ((((Fr.refl [] _).drew).alloc _)) k2 (by simp)⟩)
     (first
      | (have _h := hf1; go_at_call 302; refine (emany1A (H.fr0 irokA (((Fr.refl [] _).drew).same hf1)) 0 (by decide) HN.out).mono ?_; rintro en w2 ⟨rfl, hf2⟩)
      | (go_at_call 302; refine (emany2A (H.fr0 irokA ((Fr.refl [] _).drew)) 0 2 (by decide) (by decide) HS2.out).mono ?_; rintro en w1 ⟨rfl, hf1⟩)))
  | fail
 have hn : Fr [] _ w1 := ((Fr.refl [] _).drew).same hf1
 replace hF := hF.same hn
 replace H := H.fr0 irokA hn
 replace k0 := H.k0
 replace k1 := H.k1
 replace k2 := H.kr0
 replace k3 := H.kr1
 clear hn hf1
 go_wp2_with fail
 first
  | (go_region_held3 (fun w' => w'.cell? ⟨e, 0, none⟩ = some (.slice (some ⟨g, 0, none⟩) 4 cap) ∧ w'.cell? ⟨e, 1, none⟩ = some (.pointer (some ⟨x, 0, none⟩)) ∧ w'.cell? ⟨e, 2, none⟩ = some (.int .i64 c))
     (first
      | (have _h := hf2; exact ⟨cell_fr (((((Fr.refl [] _).drew).same hf1).same hf2)) k0 (by simp), cell_fr (((((Fr.refl [] _).drew).same hf1).same hf2)) k1 (by simp), cell_fr (((((Fr.refl [] _).drew).same hf1).same hf2)) k2 (by simp)⟩)
      | (have _h := hf1; first | exact ⟨cell_fr ((((Fr.refl [] _).drew).same hf1)) k0 (by simp), cell_fr ((((Fr.refl [] _).drew).same hf1)) k1 (by simp), cell_fr ((((Fr.refl [] _).drew).same hf1)) k2 (by simp)⟩ | exact ⟨cell_fr (((((Fr.refl [] _).drew).same hf1).alloc _)) k0 (by simp), cell_fr (((((Fr.refl [] _).drew).same hf1).alloc _)) k1 (by simp), cell_fr (((((Fr.refl [] _).drew).same hf1).alloc _)) k2 (by simp)⟩)
      | exact ⟨k0, k1, k2⟩
      | exact ⟨cell_fr ((((Fr.refl [] _).drew).alloc _)) k0 (by simp), cell_fr ((((Fr.refl [] _).drew).alloc _)) k1 (by simp), cell_fr ((((Fr.refl [] _).drew).alloc _)) k2 (by simp)⟩)
     (first
      | (have _h := hf1; go_at_call 302; refine (emany1A (H.fr0 irokA (((Fr.refl [] _).drew).same hf1)) 0 (by decide) HN.out).mono ?_; rintro en w2 ⟨rfl, hf2⟩)
      | (go_at_call 302; refine (emany4A (H.fr0 irokA ((Fr.refl [] _).drew)) 0 1 2 3 (by decide) (by decide) (by decide) (by decide) HS4.out).mono ?_; rintro en w1 ⟨rfl, hf1⟩)))
  | fail
 have hn : Fr [] _ w1 := ((Fr.refl [] _).drew).same hf1
 replace hF := hF.same hn
 replace H := H.fr0 irokA hn
 replace k0 := H.k0
 replace k1 := H.k1
 replace k2 := H.kr0
 replace k3 := H.kr1
 clear hn hf1
 go_wp2_with fail
 go_ret
 rw [hR]
 exact GRet.nil ((EGo.refl H).old hF)
set_option maxHeartbeats 4000000 in
set_option maxRecDepth 100000 in
theorem acomes4 (H : ERows IRepA 4 197 w e g cap x F K [.int .i64 c, .int .i64 p]) (ht : tot 4 K ≤ 70000) (hc : c ≤ 1024) (hp : p ≤ 1024) (hcnd : ¬ c ≤ (K 0).length + (K 2).length ∧ ¬ tot 4 K < c ∧ 2 * c ≤ tot 4 K) :
  Calls Tryz.prog 304 #[.pointer (some ⟨e, 0, none⟩)] w (GRet IRepA 4 197 w e g cap x F (arcComes K p c).1 (arcComes K p c).2 [.int .i64 c, .int .i64 p]) := by
 have k0 := H.k0
 have k1 := H.k1
 have k2 := H.kr0
 have k3 := H.kr1
 have hF := Fr.refl [] w
 have l0 : (K 0).length ≤ 70000 := Nat.le_trans (len_tot (by omega)) ht
 have l1 : (K 1).length ≤ 70000 := Nat.le_trans (len_tot (by omega)) ht
 have l2 : (K 2).length ≤ 70000 := Nat.le_trans (len_tot (by omega)) ht
 have l3 : (K 3).length ≤ 70000 := Nat.le_trans (len_tot (by omega)) ht
 have hsz := fun r => oldest_sz H.nd r
 have hdt := fun key => tot_drop 4 K key
 obtain ⟨n0, hn0⟩ : ∃ n, (K 0).length = n := ⟨_, rfl⟩
 obtain ⟨s2, hs2⟩ : ∃ n, (K 0).length + (K 2).length = n := ⟨_, rfl⟩
 obtain ⟨s4, hs4⟩ : ∃ n, (K 0).length + (K 1).length + (K 2).length + (K 3).length = n := ⟨_, rfl⟩
 have htt := tot4 K
 have m0 : n0 ≤ 70000 := by omega
 have m2 : s2 ≤ 200000 := by omega
 have m4 : s4 ≤ 70000 := by omega
 have hrep : arcComes K p c = if c ≤ s2 ∧ n0 < c then arcRepl (dropK K (oldest K 2)) p c false else if c ≤ s2 then ([oldest K 0], dropK K (oldest K 0))
   else if s4 < c then ([], K) else if 2 * c ≤ s4 then arcRepl (dropK K (oldest K 3)) p c false else arcRepl K p c false := by
  unfold arcComes; rw [hs2, hn0, htt, hs4]
 obtain ⟨res, hres⟩ : ∃ r, arcComes K p c = r := ⟨_, rfl⟩
 rw [hres] at hrep ⊢
 have HR := Lib.hid hrep
 have HN := Lib.hid hn0
 have HS2 := Lib.hid hs2
 have HS4 := Lib.hid hs4
 clear hrep hres hn0 hs2 hs4 l0 l1 l2 l3
 rw [HS2.out, htt, HS4.out] at hcnd
 obtain ⟨h1, h3, h4⟩ := hcnd
 have q1 : (s2 : Int) < (c : Int) := by omega
 have hR : res = arcRepl (dropK K (oldest K 3)) p c false := by rw [HR.out, if_neg (fun h => h1 h.1), if_neg h1, if_neg h3, if_pos h4]
 have q3 : (c : Int) ≤ (s4 : Int) := by omega
 have q4 : 2 * (c : Int) ≤ (s4 : Int) := by omega
 go_enter Tryz.func304, Tryz.ntmps304
 go_wp2_with fail
 refine wp_region_held_drew (S := (fun w' => w'.cell? ⟨e, 0, none⟩ = some (.slice (some ⟨g, 0, none⟩) 4 cap) ∧ w'.cell? ⟨e, 1, none⟩ = some (.pointer (some ⟨x, 0, none⟩)) ∧ w'.cell? ⟨e, 2, none⟩ = some (.int .i64 c))) (by kernel_rfl) ?hS0 (fun hHeld => ?_)
 case hS0 =>
  try dsimp only
  (first | (have _h := hf1; exact ⟨cell_fr (((Fr.refl [] _).drew).same hf1) k0 (by simp), cell_fr (((Fr.refl [] _).drew).same hf1) k1 (by simp), cell_fr (((Fr.refl [] _).drew).same hf1) k2 (by simp)⟩) | exact ⟨k0, k1, k2⟩ | exact ⟨cell_fr (((Fr.refl [] _).drew).alloc _) k0 (by simp), cell_fr (((Fr.refl [] _).drew).alloc _) k1 (by simp), cell_fr (((Fr.refl [] _).drew).alloc _) k2 (by simp)⟩)
 refine tkH 0 (v := ?_) rfl (Or.inl ⟨by rfl, ?hy⟩) ?_
 case hy => intro w hSw; (try dsimp only at hSw); go_simp; try with_reducible rfl
 try simp only [pE0, pE1, pE2, pE3, pE4, pE5, pE6]
 refine tkH 1 (v := ?_) rfl (Or.inl ⟨by rfl, ?hy⟩) ?_
 case hy => intro w hSw; (try dsimp only at hSw); go_simp; try with_reducible rfl
 try simp only [pE0, pE1, pE2, pE3, pE4, pE5, pE6]
 refine tkH 2 (v := ?_) rfl (Or.inl ⟨by rfl, ?hy⟩) ?_
 case hy => intro w hSw; (try dsimp only at hSw); go_simp; try with_reducible rfl
 try simp only [pE0, pE1, pE2, pE3, pE4, pE5, pE6]
 refine tkH 3 (v := ?_) rfl (Or.inl ⟨by rfl, ?hy⟩) ?_
 case hy => intro w hSw; (try dsimp only at hSw); go_simp; try with_reducible rfl
 try simp only [pE0, pE1, pE2, pE3, pE4, pE5, pE6]
 refine tkH 6 (v := ?_) rfl (Or.inl ⟨by rfl, ?hy⟩) ?_
 case hy => intro w hSw; (try dsimp only at hSw); go_simp; try with_reducible rfl
 try simp only [pE0, pE1, pE2, pE3, pE4, pE5, pE6]
 refine tkH 7 (v := ?_) rfl (Or.inl ⟨by rfl, ?hy⟩) ?_
 case hy => intro w hSw; (try dsimp only at hSw); go_simp; try with_reducible rfl
 try simp only [pE0, pE1, pE2, pE3, pE4, pE5, pE6]
 refine tkH 8 (v := ?_) rfl (Or.inl ⟨by rfl, ?hy⟩) ?_
 case hy => intro w hSw; (try dsimp only at hSw); go_simp; try with_reducible rfl
 try simp only [pE0, pE1, pE2, pE3, pE4, pE5, pE6]
 refine tkH 9 (v := ?_) rfl (Or.inl ⟨by rfl, ?hy⟩) ?_
 case hy => intro w hSw; (try dsimp only at hSw); go_simp; try with_reducible rfl
 try simp only [pE0, pE1, pE2, pE3, pE4, pE5, pE6]
 refine wpAnyH_ready (rs := [4]) (by kernel_rfl) (by simp) ?_
 refine AllReadyH.cons rfl (fun K hK => ?_) AllReadyH.nil
 go_simp
 refine hK.out _ _ ?hS1 (fun hHeld => ?_)
 case hS1 =>
  try dsimp only
  (first | (have _h := hf1; exact ⟨cell_fr (((Fr.refl [] _).drew).same hf1) k0 (by simp), cell_fr (((Fr.refl [] _).drew).same hf1) k1 (by simp), cell_fr (((Fr.refl [] _).drew).same hf1) k2 (by simp)⟩) | exact ⟨k0, k1, k2⟩ | exact ⟨cell_fr (((Fr.refl [] _).drew).alloc _) k0 (by simp), cell_fr (((Fr.refl [] _).drew).alloc _) k1 (by simp), cell_fr (((Fr.refl [] _).drew).alloc _) k2 (by simp)⟩)
 clear hK K
 try simp only [pE0, pE1, pE2, pE3, pE4, pE5, pE6]
 refine wpAnyH_ready (rs := [5]) (by kernel_rfl) (by simp) ?_
 refine AllReadyH.cons rfl (fun K hK => ?_) AllReadyH.nil
 go_simp
 go_at_call 302
 refine (emany2A (H.fr0 irokA ((Fr.refl [] _).drew)) 0 2 (by decide) (by decide) HS2.out).mono ?_
 rintro en w1 ⟨rfl, hf1⟩
 focus go_wp2_with fail
 refine hK.out _ _ ?hS1 (fun hHeld => ?_)
 case hS1 =>
  try dsimp only
  (first | (have _h := hf1; exact ⟨cell_fr (((Fr.refl [] _).drew).same hf1) k0 (by simp), cell_fr (((Fr.refl [] _).drew).same hf1) k1 (by simp), cell_fr (((Fr.refl [] _).drew).same hf1) k2 (by simp)⟩) | exact ⟨k0, k1, k2⟩ | exact ⟨cell_fr (((Fr.refl [] _).drew).alloc _) k0 (by simp), cell_fr (((Fr.refl [] _).drew).alloc _) k1 (by simp), cell_fr (((Fr.refl [] _).drew).alloc _) k2 (by simp)⟩)
 clear hK K
 try simp only [pE0, pE1, pE2, pE3, pE4, pE5, pE6]
 refine tkH 10 (v := ?_) rfl (Or.inl ⟨by rfl, ?hy⟩) ?_
 case hy => intro w hSw; (try dsimp only at hSw); go_simp; try with_reducible rfl
 try simp only [pE0, pE1, pE2, pE3, pE4, pE5, pE6]
 refine tkH 11 (v := ?_) rfl (Or.inl ⟨by rfl, ?hy⟩) ?_
 case hy => intro w hSw; (try dsimp only at hSw); go_simp; try with_reducible rfl
 try simp only [pE0, pE1, pE2, pE3, pE4, pE5, pE6]
 refine skipsH (by kernel_rfl) [12, 13, 14, 15, 16, 17, 18, 19, 20, 21, 22] _ _ (by kernel_rfl) (by kernel_rfl) ?hsm (fun _ _ _ _ h => h) (by assumption) ?_
 case hsm =>
  repeat (first | exact trivial | refine ⟨by kernel_rfl, ?_⟩)
 simp only [List.foldl, List.setIfInBounds_toArray, List.set_cons_zero, List.set_cons_succ]
 refine tkH 23 (v := ?_) rfl (Or.inl ⟨by rfl, ?hy⟩) ?_
 case hy => intro w hSw; (try dsimp only at hSw); go_simp; try with_reducible rfl
 try simp only [pE0, pE1, pE2, pE3, pE4, pE5, pE6]
 refine tkH 24 (v := ?_) rfl (Or.inl ⟨by rfl, ?hy⟩) ?_
 case hy => intro w hSw; (try dsimp only at hSw); go_simp; try with_reducible rfl
 try simp only [pE0, pE1, pE2, pE3, pE4, pE5, pE6]
 refine wpAnyH_done (by kernel_rfl) ?_ _
 have hn : Fr [] _ w1 := ((Fr.refl [] _).drew).same hf1
 replace hF := hF.same hn
 replace H := H.fr0 irokA hn
 replace k0 := H.k0
 replace k1 := H.k1
 replace k2 := H.kr0
 replace k3 := H.kr1
 clear hn hf1
 go_wp2_with fail
 first
  | (go_region_held3 (fun w' => w'.cell? ⟨e, 0, none⟩ = some (.slice (some ⟨g, 0, none⟩) 4 cap) ∧ w'.cell? ⟨e, 1, none⟩ = some (.pointer (some ⟨x, 0, none⟩)) ∧ w'.cell? ⟨e, 2, none⟩ = some (.int .i64 c))
     (first
      | (have _h := hf2; exact ⟨cell_fr (((((Fr.refl [] _).drew).same hf1).same hf2)) k0 (by simp), cell_fr (((((Fr.refl [] _).drew).same hf1).same hf2)) k1 (by simp), cell_fr (((((Fr.refl [] _).drew).same hf1).same hf2)) k2 (by simp)⟩)
      | (have _h := hf1; first | exact ⟨cell_fr ((((Fr.refl [] _).drew).same hf1)) k0 (by simp), cell_fr ((((Fr.refl [] _).drew).same hf1)) k1 (by simp), cell_fr ((((Fr.refl [] _).drew).same hf1)) k2 (by simp)⟩ | exact ⟨cell_fr (((((Fr.refl [] _).drew).same hf1).alloc _)) k0 (by simp), cell_fr (((((Fr.refl [] _).drew).same hf1).alloc _)) k1 (by simp), cell_fr (((((Fr.refl [] _).drew).same hf1).alloc _)) k2 (by simp)⟩)
      | exact ⟨k0, k1, k2⟩
      | exact ⟨cell_fr ((((Fr.refl [] _).drew).alloc _)) k0 (by simp), cell_fr ((((Fr.refl [] _).drew).alloc _)) k1 (by simp), cell_fr ((((Fr.refl [] _).drew).alloc _)) k2 (by simp)⟩)
     (first
      | (have _h := hf1; go_at_call 302; refine (emany1A (H.fr0 irokA (((Fr.refl [] _).drew).same hf1)) 0 (by decide) HN.out).mono ?_; rintro en w2 ⟨rfl, hf2⟩)
      | (go_at_call 302; refine (emany2A (H.fr0 irokA ((Fr.refl [] _).drew)) 0 2 (by decide) (by decide) HS2.out).mono ?_; rintro en w1 ⟨rfl, hf1⟩)))
  | fail
 have hn : Fr [] _ w1 := ((Fr.refl [] _).drew).same hf1
 replace hF := hF.same hn
 replace H := H.fr0 irokA hn
 replace k0 := H.k0
 replace k1 := H.k1
 replace k2 := H.kr0
 replace k3 := H.kr1
 clear hn hf1
 go_wp2_with fail
 first
  | (go_region_held3 (fun w' => w'.cell? ⟨e, 0, none⟩ = some (.slice (some ⟨g, 0, none⟩) 4 cap) ∧ w'.cell? ⟨e, 1, none⟩ = some (.pointer (some ⟨x, 0, none⟩)) ∧ w'.cell? ⟨e, 2, none⟩ = some (.int .i64 c))
     (first
      | (have _h := hf2; exact ⟨cell_fr (((((Fr.refl [] _).drew).same hf1).same hf2)) k0 (by simp), cell_fr (((((Fr.refl [] _).drew).same hf1).same hf2)) k1 (by simp), cell_fr (((((Fr.refl [] _).drew).same hf1).same hf2)) k2 (by simp)⟩)
      | (have _h := hf1; first | exact ⟨cell_fr ((((Fr.refl [] _).drew).same hf1)) k0 (by simp), cell_fr ((((Fr.refl [] _).drew).same hf1)) k1 (by simp), cell_fr ((((Fr.refl [] _).drew).same hf1)) k2 (by simp)⟩ | exact ⟨cell_fr (((((Fr.refl [] _).drew).same hf1).alloc _)) k0 (by simp), cell_fr (((((Fr.refl [] _).drew).same hf1).alloc _)) k1 (by simp), cell_fr (((((Fr.refl [] _).drew).same hf1).alloc _)) k2 (by simp)⟩)
      | exact ⟨k0, k1, k2⟩
      | exact ⟨cell_fr ((((Fr.refl [] _).drew).alloc _)) k0 (by simp), cell_fr ((((Fr.refl [] _).drew).alloc _)) k1 (by simp), cell_fr ((((Fr.refl [] _).drew).alloc _)) k2 (by simp)⟩)
     (first
      | (have _h := hf1; go_at_call 302; refine (emany1A (H.fr0 irokA (((Fr.refl [] _).drew).same hf1)) 0 (by decide) HN.out).mono ?_; rintro en w2 ⟨rfl, hf2⟩)
      | (go_at_call 302; refine (emany4A (H.fr0 irokA ((Fr.refl [] _).drew)) 0 1 2 3 (by decide) (by decide) (by decide) (by decide) HS4.out).mono ?_; rintro en w1 ⟨rfl, hf1⟩)))
  | fail
 have hn : Fr [] _ w1 := ((Fr.refl [] _).drew).same hf1
 replace hF := hF.same hn
 replace H := H.fr0 irokA hn
 replace k0 := H.k0
 replace k1 := H.k1
 replace k2 := H.kr0
 replace k3 := H.kr1
 clear hn hf1
 go_wp2_with fail
 have kw : IntKind.i64.wrap (2 * (c : Int)) = 2 * (c : Int) := IntWalk.i64_in _ (by omega)
 first
  | (go_region_held3 (fun w' => w'.cell? ⟨e, 0, none⟩ = some (.slice (some ⟨g, 0, none⟩) 4 cap) ∧ w'.cell? ⟨e, 1, none⟩ = some (.pointer (some ⟨x, 0, none⟩)) ∧ w'.cell? ⟨e, 2, none⟩ = some (.int .i64 c))
     (first
      | (have _h := hf2; exact ⟨cell_fr (((((Fr.refl [] _).drew).same hf1).same hf2)) k0 (by simp), cell_fr (((((Fr.refl [] _).drew).same hf1).same hf2)) k1 (by simp), cell_fr (((((Fr.refl [] _).drew).same hf1).same hf2)) k2 (by simp)⟩)
      | (have _h := hf1; first | exact ⟨cell_fr ((((Fr.refl [] _).drew).same hf1)) k0 (by simp), cell_fr ((((Fr.refl [] _).drew).same hf1)) k1 (by simp), cell_fr ((((Fr.refl [] _).drew).same hf1)) k2 (by simp)⟩ | exact ⟨cell_fr (((((Fr.refl [] _).drew).same hf1).alloc _)) k0 (by simp), cell_fr (((((Fr.refl [] _).drew).same hf1).alloc _)) k1 (by simp), cell_fr (((((Fr.refl [] _).drew).same hf1).alloc _)) k2 (by simp)⟩)
      | exact ⟨k0, k1, k2⟩
      | exact ⟨cell_fr ((((Fr.refl [] _).drew).alloc _)) k0 (by simp), cell_fr ((((Fr.refl [] _).drew).alloc _)) k1 (by simp), cell_fr ((((Fr.refl [] _).drew).alloc _)) k2 (by simp)⟩)
     (first
      | (have _h := hf1; go_at_call 302; refine (emany1A (H.fr0 irokA (((Fr.refl [] _).drew).same hf1)) 0 (by decide) HN.out).mono ?_; rintro en w2 ⟨rfl, hf2⟩)
      | (go_at_call 302; refine (emany4A (H.fr0 irokA ((Fr.refl [] _).drew)) 0 1 2 3 (by decide) (by decide) (by decide) (by decide) HS4.out).mono ?_; rintro en w1 ⟨rfl, hf1⟩)))
  | fail
 clear kw
 have hn : Fr [] _ w1 := ((Fr.refl [] _).drew).same hf1
 replace hF := hF.same hn
 replace H := H.fr0 irokA hn
 replace k0 := H.k0
 replace k1 := H.k1
 replace k2 := H.kr0
 replace k3 := H.kr1
 clear hn hf1
 go_wp2_with fail
 go_region_held3 (fun w' => w'.cell? ⟨e, 0, none⟩ = some (.slice (some ⟨g, 0, none⟩) 4 cap) ∧ w'.cell? ⟨e, 1, none⟩ = some (.pointer (some ⟨x, 0, none⟩)))
  (first
   | (have _h := hg2; exact ⟨H2.k0, H2.k1⟩)
   | (have _h := hf1; exact ⟨cell_fr (((Fr.refl [] _).drew).same hf1) k0 (by simp), cell_fr (((Fr.refl [] _).drew).same hf1) k1 (by simp)⟩)
   | exact ⟨k0, k1⟩)
  (first
   | (have _h := hf1; go_at_call 307; refine (edropA (H.fr0 irokA (((Fr.refl [] _).drew).same hf1)) (by omega) _ (hsz 3)).mono ?_; rintro en w2 ⟨rfl, F2, H2, hs2, hg2⟩)
   | (go_at_call 308; refine (eoldestA (H.fr0 irokA ((Fr.refl [] _).drew)) (r := 3) (by decide)).mono ?_; rintro en w1 ⟨rfl, hf1⟩))
 replace hF := hF.same (((Fr.refl [] _).drew).same hf1)
 have hdd := hdt (oldest K 3)
 go_wp2_with fail
 refine (areplaces H2 (by omega) hc hp false).mono ?_
 intro en w3 hgr
 obtain ⟨v, Fo, rfl, hgo, heg⟩ := id hgr
 obtain ⟨va, vc, rfl⟩ := hgo.1.form
 clear hgo heg
 have hsz3 := hF.size
 have hsz2 := hg2.size
 clear H H2 k0 k1 k2 k3
 go_wp2
 go_ret
 rw [hR]
 exact GRet.old (GRet.trans hs2 hg2 hgr) hF
set_option maxHeartbeats 4000000 in
set_option maxRecDepth 100000 in
theorem acomes5 (H : ERows IRepA 4 197 w e g cap x F K [.int .i64 c, .int .i64 p]) (ht : tot 4 K ≤ 70000) (hc : c ≤ 1024) (hp : p ≤ 1024) (hcnd : ¬ c ≤ (K 0).length + (K 2).length ∧ ¬ tot 4 K < c ∧ ¬ 2 * c ≤ tot 4 K) :
  Calls Tryz.prog 304 #[.pointer (some ⟨e, 0, none⟩)] w (GRet IRepA 4 197 w e g cap x F (arcComes K p c).1 (arcComes K p c).2 [.int .i64 c, .int .i64 p]) := by
 have k0 := H.k0
 have k1 := H.k1
 have k2 := H.kr0
 have k3 := H.kr1
 have hF := Fr.refl [] w
 have l0 : (K 0).length ≤ 70000 := Nat.le_trans (len_tot (by omega)) ht
 have l1 : (K 1).length ≤ 70000 := Nat.le_trans (len_tot (by omega)) ht
 have l2 : (K 2).length ≤ 70000 := Nat.le_trans (len_tot (by omega)) ht
 have l3 : (K 3).length ≤ 70000 := Nat.le_trans (len_tot (by omega)) ht
 have hsz := fun r => oldest_sz H.nd r
 have hdt := fun key => tot_drop 4 K key
 obtain ⟨n0, hn0⟩ : ∃ n, (K 0).length = n := ⟨_, rfl⟩
 obtain ⟨s2, hs2⟩ : ∃ n, (K 0).length + (K 2).length = n := ⟨_, rfl⟩
 obtain ⟨s4, hs4⟩ : ∃ n, (K 0).length + (K 1).length + (K 2).length + (K 3).length = n := ⟨_, rfl⟩
 have htt := tot4 K
 have m0 : n0 ≤ 70000 := by omega
 have m2 : s2 ≤ 200000 := by omega
 have m4 : s4 ≤ 70000 := by omega
 have hrep : arcComes K p c = if c ≤ s2 ∧ n0 < c then arcRepl (dropK K (oldest K 2)) p c false else if c ≤ s2 then ([oldest K 0], dropK K (oldest K 0))
   else if s4 < c then ([], K) else if 2 * c ≤ s4 then arcRepl (dropK K (oldest K 3)) p c false else arcRepl K p c false := by
  unfold arcComes; rw [hs2, hn0, htt, hs4]
 obtain ⟨res, hres⟩ : ∃ r, arcComes K p c = r := ⟨_, rfl⟩
 rw [hres] at hrep ⊢
 have HR := Lib.hid hrep
 have HN := Lib.hid hn0
 have HS2 := Lib.hid hs2
 have HS4 := Lib.hid hs4
 clear hrep hres hn0 hs2 hs4 l0 l1 l2 l3
 rw [HS2.out, htt, HS4.out] at hcnd
 obtain ⟨h1, h3, h4⟩ := hcnd
 have q1 : (s2 : Int) < (c : Int) := by omega
 have hR : res = arcRepl K p c false := by rw [HR.out, if_neg (fun h => h1 h.1), if_neg h1, if_neg h3, if_neg h4]
 have q3 : (c : Int) ≤ (s4 : Int) := by omega
 have q4 : (s4 : Int) < 2 * (c : Int) := by omega
 go_enter Tryz.func304, Tryz.ntmps304
 go_wp2_with fail
 refine wp_region_held_drew (S := (fun w' => w'.cell? ⟨e, 0, none⟩ = some (.slice (some ⟨g, 0, none⟩) 4 cap) ∧ w'.cell? ⟨e, 1, none⟩ = some (.pointer (some ⟨x, 0, none⟩)) ∧ w'.cell? ⟨e, 2, none⟩ = some (.int .i64 c))) (by kernel_rfl) ?hS0 (fun hHeld => ?_)
 case hS0 =>
  try dsimp only
  (first | (have _h := hf1; exact ⟨cell_fr (((Fr.refl [] _).drew).same hf1) k0 (by simp), cell_fr (((Fr.refl [] _).drew).same hf1) k1 (by simp), cell_fr (((Fr.refl [] _).drew).same hf1) k2 (by simp)⟩) | exact ⟨k0, k1, k2⟩ | exact ⟨cell_fr (((Fr.refl [] _).drew).alloc _) k0 (by simp), cell_fr (((Fr.refl [] _).drew).alloc _) k1 (by simp), cell_fr (((Fr.refl [] _).drew).alloc _) k2 (by simp)⟩)
 refine tkH 0 (v := ?_) rfl (Or.inl ⟨by rfl, ?hy⟩) ?_
 case hy => intro w hSw; (try dsimp only at hSw); go_simp; try with_reducible rfl
 try simp only [pE0, pE1, pE2, pE3, pE4, pE5, pE6]
 refine tkH 1 (v := ?_) rfl (Or.inl ⟨by rfl, ?hy⟩) ?_
 case hy => intro w hSw; (try dsimp only at hSw); go_simp; try with_reducible rfl
 try simp only [pE0, pE1, pE2, pE3, pE4, pE5, pE6]
 refine tkH 2 (v := ?_) rfl (Or.inl ⟨by rfl, ?hy⟩) ?_
 case hy => intro w hSw; (try dsimp only at hSw); go_simp; try with_reducible rfl
 try simp only [pE0, pE1, pE2, pE3, pE4, pE5, pE6]
 refine tkH 3 (v := ?_) rfl (Or.inl ⟨by rfl, ?hy⟩) ?_
 case hy => intro w hSw; (try dsimp only at hSw); go_simp; try with_reducible rfl
 try simp only [pE0, pE1, pE2, pE3, pE4, pE5, pE6]
 refine tkH 6 (v := ?_) rfl (Or.inl ⟨by rfl, ?hy⟩) ?_
 case hy => intro w hSw; (try dsimp only at hSw); go_simp; try with_reducible rfl
 try simp only [pE0, pE1, pE2, pE3, pE4, pE5, pE6]
 refine tkH 7 (v := ?_) rfl (Or.inl ⟨by rfl, ?hy⟩) ?_
 case hy => intro w hSw; (try dsimp only at hSw); go_simp; try with_reducible rfl
 try simp only [pE0, pE1, pE2, pE3, pE4, pE5, pE6]
 refine tkH 8 (v := ?_) rfl (Or.inl ⟨by rfl, ?hy⟩) ?_
 case hy => intro w hSw; (try dsimp only at hSw); go_simp; try with_reducible rfl
 try simp only [pE0, pE1, pE2, pE3, pE4, pE5, pE6]
 refine tkH 9 (v := ?_) rfl (Or.inl ⟨by rfl, ?hy⟩) ?_
 case hy => intro w hSw; (try dsimp only at hSw); go_simp; try with_reducible rfl
 try simp only [pE0, pE1, pE2, pE3, pE4, pE5, pE6]
 refine wpAnyH_ready (rs := [4]) (by kernel_rfl) (by simp) ?_
 refine AllReadyH.cons rfl (fun K hK => ?_) AllReadyH.nil
 go_simp
 refine hK.out _ _ ?hS1 (fun hHeld => ?_)
 case hS1 =>
  try dsimp only
  (first | (have _h := hf1; exact ⟨cell_fr (((Fr.refl [] _).drew).same hf1) k0 (by simp), cell_fr (((Fr.refl [] _).drew).same hf1) k1 (by simp), cell_fr (((Fr.refl [] _).drew).same hf1) k2 (by simp)⟩) | exact ⟨k0, k1, k2⟩ | exact ⟨cell_fr (((Fr.refl [] _).drew).alloc _) k0 (by simp), cell_fr (((Fr.refl [] _).drew).alloc _) k1 (by simp), cell_fr (((Fr.refl [] _).drew).alloc _) k2 (by simp)⟩)
 clear hK K
 try simp only [pE0, pE1, pE2, pE3, pE4, pE5, pE6]
 refine wpAnyH_ready (rs := [5]) (by kernel_rfl) (by simp) ?_
 refine AllReadyH.cons rfl (fun K hK => ?_) AllReadyH.nil
 go_simp
 go_at_call 302
 refine (emany2A (H.fr0 irokA ((Fr.refl [] _).drew)) 0 2 (by decide) (by decide) HS2.out).mono ?_
 rintro en w1 ⟨rfl, hf1⟩
 focus go_wp2_with fail
 refine hK.out _ _ ?hS1 (fun hHeld => ?_)
 case hS1 =>
  try dsimp only
  (first | (have _h := hf1; exact ⟨cell_fr (((Fr.refl [] _).drew).same hf1) k0 (by simp), cell_fr (((Fr.refl [] _).drew).same hf1) k1 (by simp), cell_fr (((Fr.refl [] _).drew).same hf1) k2 (by simp)⟩) | exact ⟨k0, k1, k2⟩ | exact ⟨cell_fr (((Fr.refl [] _).drew).alloc _) k0 (by simp), cell_fr (((Fr.refl [] _).drew).alloc _) k1 (by simp), cell_fr (((Fr.refl [] _).drew).alloc _) k2 (by simp)⟩)
 clear hK K
 try simp only [pE0, pE1, pE2, pE3, pE4, pE5, pE6]
 refine tkH 10 (v := ?_) rfl (Or.inl ⟨by rfl, ?hy⟩) ?_
 case hy => intro w hSw; (try dsimp only at hSw); go_simp; try with_reducible rfl
 try simp only [pE0, pE1, pE2, pE3, pE4, pE5, pE6]
 refine tkH 11 (v := ?_) rfl (Or.inl ⟨by rfl, ?hy⟩) ?_
 case hy => intro w hSw; (try dsimp only at hSw); go_simp; try with_reducible rfl
 try simp only [pE0, pE1, pE2, pE3, pE4, pE5, pE6]
 refine skipsH (by kernel_rfl) [12, 13, 14, 15, 16, 17, 18, 19, 20, 21, 22] _ _ (by kernel_rfl) (by kernel_rfl) ?hsm (fun _ _ _ _ h => h) (by assumption) ?_
 case hsm =>
  repeat (first | exact trivial | refine ⟨by kernel_rfl, ?_⟩)
 simp only [List.foldl, List.setIfInBounds_toArray, List.set_cons_zero, List.set_cons_succ]
 refine tkH 23 (v := ?_) rfl (Or.inl ⟨by rfl, ?hy⟩) ?_
 case hy => intro w hSw; (try dsimp only at hSw); go_simp; try with_reducible rfl
 try simp only [pE0, pE1, pE2, pE3, pE4, pE5, pE6]
 refine tkH 24 (v := ?_) rfl (Or.inl ⟨by rfl, ?hy⟩) ?_
 case hy => intro w hSw; (try dsimp only at hSw); go_simp; try with_reducible rfl
 try simp only [pE0, pE1, pE2, pE3, pE4, pE5, pE6]
 refine wpAnyH_done (by kernel_rfl) ?_ _
 have hn : Fr [] _ w1 := ((Fr.refl [] _).drew).same hf1
 replace hF := hF.same hn
 replace H := H.fr0 irokA hn
 replace k0 := H.k0
 replace k1 := H.k1
 replace k2 := H.kr0
 replace k3 := H.kr1
 clear hn hf1
 go_wp2_with fail
 first
  | (go_region_held3 (fun w' => w'.cell? ⟨e, 0, none⟩ = some (.slice (some ⟨g, 0, none⟩) 4 cap) ∧ w'.cell? ⟨e, 1, none⟩ = some (.pointer (some ⟨x, 0, none⟩)) ∧ w'.cell? ⟨e, 2, none⟩ = some (.int .i64 c))
     (first
      | (have _h := hf2; exact ⟨cell_fr (((((Fr.refl [] _).drew).same hf1).same hf2)) k0 (by simp), cell_fr (((((Fr.refl [] _).drew).same hf1).same hf2)) k1 (by simp), cell_fr (((((Fr.refl [] _).drew).same hf1).same hf2)) k2 (by simp)⟩)
      | (have _h := hf1; first | exact ⟨cell_fr ((((Fr.refl [] _).drew).same hf1)) k0 (by simp), cell_fr ((((Fr.refl [] _).drew).same hf1)) k1 (by simp), cell_fr ((((Fr.refl [] _).drew).same hf1)) k2 (by simp)⟩ | exact ⟨cell_fr (((((Fr.refl [] _).drew).same hf1).alloc _)) k0 (by simp), cell_fr (((((Fr.refl [] _).drew).same hf1).alloc _)) k1 (by simp), cell_fr (((((Fr.refl [] _).drew).same hf1).alloc _)) k2 (by simp)⟩)
      | exact ⟨k0, k1, k2⟩
      | exact ⟨cell_fr ((((Fr.refl [] _).drew).alloc _)) k0 (by simp), cell_fr ((((Fr.refl [] _).drew).alloc _)) k1 (by simp), cell_fr ((((Fr.refl [] _).drew).alloc _)) k2 (by simp)⟩)
     (first
      | (have _h := hf1; go_at_call 302; refine (emany1A (H.fr0 irokA (((Fr.refl [] _).drew).same hf1)) 0 (by decide) HN.out).mono ?_; rintro en w2 ⟨rfl, hf2⟩)
      | (go_at_call 302; refine (emany2A (H.fr0 irokA ((Fr.refl [] _).drew)) 0 2 (by decide) (by decide) HS2.out).mono ?_; rintro en w1 ⟨rfl, hf1⟩)))
  | fail
 have hn : Fr [] _ w1 := ((Fr.refl [] _).drew).same hf1
 replace hF := hF.same hn
 replace H := H.fr0 irokA hn
 replace k0 := H.k0
 replace k1 := H.k1
 replace k2 := H.kr0
 replace k3 := H.kr1
 clear hn hf1
 go_wp2_with fail
 first
  | (go_region_held3 (fun w' => w'.cell? ⟨e, 0, none⟩ = some (.slice (some ⟨g, 0, none⟩) 4 cap) ∧ w'.cell? ⟨e, 1, none⟩ = some (.pointer (some ⟨x, 0, none⟩)) ∧ w'.cell? ⟨e, 2, none⟩ = some (.int .i64 c))
     (first
      | (have _h := hf2; exact ⟨cell_fr (((((Fr.refl [] _).drew).same hf1).same hf2)) k0 (by simp), cell_fr (((((Fr.refl [] _).drew).same hf1).same hf2)) k1 (by simp), cell_fr (((((Fr.refl [] _).drew).same hf1).same hf2)) k2 (by simp)⟩)
      | (have _h := hf1; first | exact ⟨cell_fr ((((Fr.refl [] _).drew).same hf1)) k0 (by simp), cell_fr ((((Fr.refl [] _).drew).same hf1)) k1 (by simp), cell_fr ((((Fr.refl [] _).drew).same hf1)) k2 (by simp)⟩ | exact ⟨cell_fr (((((Fr.refl [] _).drew).same hf1).alloc _)) k0 (by simp), cell_fr (((((Fr.refl [] _).drew).same hf1).alloc _)) k1 (by simp), cell_fr (((((Fr.refl [] _).drew).same hf1).alloc _)) k2 (by simp)⟩)
      | exact ⟨k0, k1, k2⟩
      | exact ⟨cell_fr ((((Fr.refl [] _).drew).alloc _)) k0 (by simp), cell_fr ((((Fr.refl [] _).drew).alloc _)) k1 (by simp), cell_fr ((((Fr.refl [] _).drew).alloc _)) k2 (by simp)⟩)
     (first
      | (have _h := hf1; go_at_call 302; refine (emany1A (H.fr0 irokA (((Fr.refl [] _).drew).same hf1)) 0 (by decide) HN.out).mono ?_; rintro en w2 ⟨rfl, hf2⟩)
      | (go_at_call 302; refine (emany4A (H.fr0 irokA ((Fr.refl [] _).drew)) 0 1 2 3 (by decide) (by decide) (by decide) (by decide) HS4.out).mono ?_; rintro en w1 ⟨rfl, hf1⟩)))
  | fail
 have hn : Fr [] _ w1 := ((Fr.refl [] _).drew).same hf1
 replace hF := hF.same hn
 replace H := H.fr0 irokA hn
 replace k0 := H.k0
 replace k1 := H.k1
 replace k2 := H.kr0
 replace k3 := H.kr1
 clear hn hf1
 go_wp2_with fail
 have kw : IntKind.i64.wrap (2 * (c : Int)) = 2 * (c : Int) := IntWalk.i64_in _ (by omega)
 first
  | (go_region_held3 (fun w' => w'.cell? ⟨e, 0, none⟩ = some (.slice (some ⟨g, 0, none⟩) 4 cap) ∧ w'.cell? ⟨e, 1, none⟩ = some (.pointer (some ⟨x, 0, none⟩)) ∧ w'.cell? ⟨e, 2, none⟩ = some (.int .i64 c))
     (first
      | (have _h := hf2; exact ⟨cell_fr (((((Fr.refl [] _).drew).same hf1).same hf2)) k0 (by simp), cell_fr (((((Fr.refl [] _).drew).same hf1).same hf2)) k1 (by simp), cell_fr (((((Fr.refl [] _).drew).same hf1).same hf2)) k2 (by simp)⟩)
      | (have _h := hf1; first | exact ⟨cell_fr ((((Fr.refl [] _).drew).same hf1)) k0 (by simp), cell_fr ((((Fr.refl [] _).drew).same hf1)) k1 (by simp), cell_fr ((((Fr.refl [] _).drew).same hf1)) k2 (by simp)⟩ | exact ⟨cell_fr (((((Fr.refl [] _).drew).same hf1).alloc _)) k0 (by simp), cell_fr (((((Fr.refl [] _).drew).same hf1).alloc _)) k1 (by simp), cell_fr (((((Fr.refl [] _).drew).same hf1).alloc _)) k2 (by simp)⟩)
      | exact ⟨k0, k1, k2⟩
      | exact ⟨cell_fr ((((Fr.refl [] _).drew).alloc _)) k0 (by simp), cell_fr ((((Fr.refl [] _).drew).alloc _)) k1 (by simp), cell_fr ((((Fr.refl [] _).drew).alloc _)) k2 (by simp)⟩)
     (first
      | (have _h := hf1; go_at_call 302; refine (emany1A (H.fr0 irokA (((Fr.refl [] _).drew).same hf1)) 0 (by decide) HN.out).mono ?_; rintro en w2 ⟨rfl, hf2⟩)
      | (go_at_call 302; refine (emany4A (H.fr0 irokA ((Fr.refl [] _).drew)) 0 1 2 3 (by decide) (by decide) (by decide) (by decide) HS4.out).mono ?_; rintro en w1 ⟨rfl, hf1⟩)))
  | fail
 clear kw
 have hn : Fr [] _ w1 := ((Fr.refl [] _).drew).same hf1
 replace hF := hF.same hn
 replace H := H.fr0 irokA hn
 replace k0 := H.k0
 replace k1 := H.k1
 replace k2 := H.kr0
 replace k3 := H.kr1
 clear hn hf1
 go_wp2_with fail
 refine (areplaces H ht hc hp false).mono ?_
 intro en w3 hgr
 obtain ⟨v, Fo, rfl, hgo, heg⟩ := id hgr
 obtain ⟨va, vc, rfl⟩ := hgo.1.form
 clear hgo heg
 have hsz3 := hF.size
 clear H k0 k1 k2 k3
 go_wp2
 go_ret
 rw [hR]
 exact hgr.old hF
theorem acomes (H : ERows IRepA 4 197 w e g cap x F K [.int .i64 c, .int .i64 p]) (ht : tot 4 K ≤ 70000) (hc : c ≤ 1024) (hp : p ≤ 1024) :
  Calls Tryz.prog 304 #[.pointer (some ⟨e, 0, none⟩)] w (GRet IRepA 4 197 w e g cap x F (arcComes K p c).1 (arcComes K p c).2 [.int .i64 c, .int .i64 p]) := by
 by_cases h1 : c ≤ (K 0).length + (K 2).length
 ·by_cases h2 : (K 0).length < c
  ·exact acomes1 H ht hc hp ⟨h1, h2⟩
  ·exact acomes2 H ht hc hp ⟨h1, h2⟩
 ·by_cases h3 : tot 4 K < c
  ·exact acomes3 H ht hc hp ⟨h1, h3⟩
  ·by_cases h4 : 2 * c ≤ tot 4 K
   ·exact acomes4 H ht hc hp ⟨h1, h3, h4⟩
   ·exact acomes5 H ht hc hp ⟨h1, h3, h4⟩
end
end Go.Proofs.YtphlancijlljcaaGreat
