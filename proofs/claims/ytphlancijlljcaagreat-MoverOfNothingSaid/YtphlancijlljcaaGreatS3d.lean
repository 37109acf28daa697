/- The walks over s3fifo's engine: Evict; fix.Inc. -/
import Derived.Test.YtphlancijlljcaaGreatS3c
import Derived.Test.YtphlancijlljcaaGreatGA
set_option linter.unusedVariables false
set_option linter.unusedSimpArgs false
namespace Go.Proofs.YtphlancijlljcaaGreat
open Go.RowKit
open Act renaming put → pE0
open List renaming getElem_toArray → pE1, getElem_cons_succ → pE2, getElem_cons_zero → pE3, setIfInBounds_toArray → pE4, set_cons_zero → pE5, set_cons_succ → pE6
attribute [local go_sem ↓] Go.wp_at_zero Go.wp_at_succ
/-- One more, but at most so many. -/
def incI (n most : Int) : Int := if most ≤ n then n else n + 1
theorem fixInc (n most : Int) (h0 : -9223372036854775808 ≤ n) (h1 : n ≤ 9223372036854775000) (w : World) : Calls Tryz.prog 132 #[.int .i64 n, .int .i64 most] w fun e w' => e = .returned (.int .i64 (incI n most)) ∧ w = w' := by
 by_cases h : most ≤ n
 ·go_enter Tryz.func132, Tryz.ntmps132
  go_wp2
  go_ret
  exact ⟨by simp [incI, h], rfl⟩
 ·go_enter Tryz.func132, Tryz.ntmps132
  go_wp2
  go_ret
  refine ⟨?_, rfl⟩
  have e : wrap64 (n + 1) = n + 1 := IntWalk.wrap64_in _ (by omega)
  have e2 : incI n most = n + 1 := if_neg (by omega)
  rw [e2]
  simp [e]
section
variable {w : World} {e g cap x y : Nat} {F : List Nat} {s : S3}
def SEv (w : World) (e g cap x y : Nat) (F : List Nat) (s : S3) (key : ByteArray) (b : Bool) (s' : S3) (en : Ending) (w' : World) : Prop := en = .returned (.tuple #[.string key, .bool b]) ∧ SGo w e g cap x y s.c s.small s.ghosts F s'.K s'.C w'

set_option maxRecDepth 100000 in
theorem sevict0 (H : SR w e g cap x y s.c s.small s.ghosts F s.K s.C) (hcnd : (s.K 0).length + (s.K 1).length = 0) :
  Calls Tryz.prog 430 #[.pointer (some ⟨e, 0, none⟩)] w (SEv w e g cap x y F s ⟨#[]⟩ false s) := by
 have HL := Lib.hid (slen H hcnd)
 go_enter Tryz.func430, Tryz.ntmps430
 go_wp2_with fail
 refine HL.out.mono ?_
 rintro en w1 ⟨rfl, hf⟩
 have HE := Lib.hid ((SGo.refl H).fr hf)
 clear H hf
 go_wp2
 go_ret2
 exact ⟨rfl, HE.out⟩
set_option maxHeartbeats 4000000 in
set_option maxRecDepth 100000 in
theorem sevict1 (H : SR w e g cap x y s.c s.small s.ghosts F s.K s.C) (hi : s.Inv) (ht : tot 3 s.K ≤ 60000) (hgh : s.ghosts ≤ 1024) (hcnd : s.small < (s.K 0).length) (hcnd0 : (s.K 0).length + (s.K 1).length ≠ 0)
  (ev : ByteArray × Bool × S3) (hev1 : ∀ k K' C', s3Small s.ghosts ((s.K 0).length + 1) s.K s.C = (some k, K', C') → ev = (k, true, { s with K := K', C := C' })) (hev2 : ∀ K' C', s3Small s.ghosts ((s.K 0).length + 1) s.K s.C = (none, K', C') → ev = (({ s with K := K', C := C' } : S3).fromMain.1, true, ({ s with K := K', C := C' } : S3).fromMain.2)) :
  Calls Tryz.prog 430 #[.pointer (some ⟨e, 0, none⟩)] w (SEv w e g cap x y F s ev.1 ev.2.1 ev.2.2) := by
 have k0 := H.k0
 have k1 := H.k1
 have k3 := H.k3
 have l0 : (s.K 0).length ≤ 60000 := Nat.le_trans (len_tot (by omega)) ht
 have l1 : (s.K 1).length ≤ 60000 := Nat.le_trans (len_tot (by omega)) ht
 obtain ⟨n0, hn0⟩ : ∃ n, (s.K 0).length = n := ⟨_, rfl⟩
 obtain ⟨n1, hn1⟩ : ∃ n, (s.K 1).length = n := ⟨_, rfl⟩
 obtain ⟨sm, hsm⟩ : ∃ n, s.small = n := ⟨_, rfl⟩
 rw [hn0] at l0
 rw [hn1] at l1
 rw [hsm] at k3
 simp only [hn0, hn1, hsm] at hcnd
 have HL := Lib.hid (slen H (s := n0 + n1) (by rw [hn0, hn1]))
 have HN0 := Lib.hid hn0
 have HN1 := Lib.hid hn1
 have q3 : (((n0 + n1 : Nat) : Int) == 0) = false := by rw [beq_eq_false_iff_ne]; omega
 have q3b : ((n0 : Int) + (n1 : Int) == 0) = false := by rw [beq_eq_false_iff_ne]; omega
 rw [hn0, hn1] at hcnd0
 have q1 : (sm : Int) < (n0 : Int) := by omega
 have q1a : decide ((sm : Int) < (n0 : Int)) = true := decide_eq_true q1
 have q1b : decide (sm < n0) = true := decide_eq_true hcnd
 clear hn0 hn1 hsm
 go_enter Tryz.func430, Tryz.ntmps430
 go_wp2_with fail
 refine HL.out.mono ?_
 rintro en w0 ⟨rfl, hf0⟩
 replace H := H.fr0 hf0
 replace k0 := H.k0
 replace k1 := H.k1
 have k3 := cell_fr hf0 k3 (by simp)
 clear HL
 go_wp2_with fail
 refine wp_region_held_drew (S := (fun w' => w'.cell? ⟨e, 0, none⟩ = some (.slice (some ⟨g, 0, none⟩) 3 cap) ∧ w'.cell? ⟨e, 1, none⟩ = some (.pointer (some ⟨x, 0, none⟩)) ∧ w'.cell? ⟨e, 3, none⟩ = some (.int .i64 sm))) (by kernel_rfl) ?hS0 (fun hHeld => ?_)
 case hS0 =>
  try dsimp only
  (first | (have _h := hf2; exact ⟨cell_fr ((((Fr.refl [] _).drew).same hf1).same hf2) k0 (by simp), cell_fr ((((Fr.refl [] _).drew).same hf1).same hf2) k1 (by simp), cell_fr ((((Fr.refl [] _).drew).same hf1).same hf2) k3 (by simp)⟩) | (have _h := hf1; first | exact ⟨cell_fr (((Fr.refl [] _).drew).same hf1) k0 (by simp), cell_fr (((Fr.refl [] _).drew).same hf1) k1 (by simp), cell_fr (((Fr.refl [] _).drew).same hf1) k3 (by simp)⟩ | exact ⟨cell_fr ((((Fr.refl [] _).drew).same hf1).alloc _) k0 (by simp), cell_fr ((((Fr.refl [] _).drew).same hf1).alloc _) k1 (by simp), cell_fr ((((Fr.refl [] _).drew).same hf1).alloc _) k3 (by simp)⟩) | exact ⟨k0, k1, k3⟩ | exact ⟨cell_fr (((Fr.refl [] _).drew).alloc _) k0 (by simp), cell_fr (((Fr.refl [] _).drew).alloc _) k1 (by simp), cell_fr (((Fr.refl [] _).drew).alloc _) k3 (by simp)⟩)
 refine tkH 0 (v := ?_) rfl (Or.inl ⟨by rfl, ?hy⟩) ?_
 case hy => intro w hSw; (try dsimp only at hSw); go_simp; try with_reducible rfl
 try simp only [pE0, pE1, pE2, pE3, pE4, pE5, pE6]
 refine tkH 1 (v := ?_) rfl (Or.inl ⟨by rfl, ?hy⟩) ?_
 case hy => intro w hSw; (try dsimp only at hSw); go_simp; try with_reducible rfl
 try simp only [pE0, pE1, pE2, pE3, pE4, pE5, pE6]
 refine tkH 2 (v := ?_) rfl (Or.inl ⟨by rfl, ?hy⟩) ?_
 case hy => intro w hSw; (try dsimp only at hSw); go_simp; try with_reducible rfl
 try simp only [pE0, pE1, pE2, pE3, pE4, pE5, pE6]
 refine tkH 3 (v := ?_) rfl (Or.inl ⟨by rfl, ?hy⟩) ?_
 case hy => intro w hSw; (try dsimp only at hSw); go_simp; try with_reducible rfl
 try simp only [pE0, pE1, pE2, pE3, pE4, pE5, pE6]
 refine tkH 6 (v := ?_) rfl (Or.inl ⟨by rfl, ?hy⟩) ?_
 case hy => intro w hSw; (try dsimp only at hSw); go_simp; try with_reducible rfl
 try simp only [pE0, pE1, pE2, pE3, pE4, pE5, pE6]
 refine tkH 7 (v := ?_) rfl (Or.inl ⟨by rfl, ?hy⟩) ?_
 case hy => intro w hSw; (try dsimp only at hSw); go_simp; try with_reducible rfl
 try simp only [pE0, pE1, pE2, pE3, pE4, pE5, pE6]
 refine tkH 8 (v := ?_) rfl (Or.inl ⟨by rfl, ?hy⟩) ?_
 case hy => intro w hSw; (try dsimp only at hSw); go_simp; try with_reducible rfl
 try simp only [pE0, pE1, pE2, pE3, pE4, pE5, pE6]
 refine tkH 9 (v := ?_) rfl (Or.inl ⟨by rfl, ?hy⟩) ?_
 case hy => intro w hSw; (try dsimp only at hSw); go_simp; try with_reducible rfl
 try simp only [pE0, pE1, pE2, pE3, pE4, pE5, pE6]
 refine wpAnyH_ready (rs := [4]) (by kernel_rfl) (by simp) ?_
 refine AllReadyH.cons rfl (fun K hK => ?_) AllReadyH.nil
 go_simp
 refine hK.out _ _ ?hS1 (fun hHeld => ?_)
 case hS1 =>
  try dsimp only
  (first | (have _h := hf2; exact ⟨cell_fr ((((Fr.refl [] _).drew).same hf1).same hf2) k0 (by simp), cell_fr ((((Fr.refl [] _).drew).same hf1).same hf2) k1 (by simp), cell_fr ((((Fr.refl [] _).drew).same hf1).same hf2) k3 (by simp)⟩) | (have _h := hf1; first | exact ⟨cell_fr (((Fr.refl [] _).drew).same hf1) k0 (by simp), cell_fr (((Fr.refl [] _).drew).same hf1) k1 (by simp), cell_fr (((Fr.refl [] _).drew).same hf1) k3 (by simp)⟩ | exact ⟨cell_fr ((((Fr.refl [] _).drew).same hf1).alloc _) k0 (by simp), cell_fr ((((Fr.refl [] _).drew).same hf1).alloc _) k1 (by simp), cell_fr ((((Fr.refl [] _).drew).same hf1).alloc _) k3 (by simp)⟩) | exact ⟨k0, k1, k3⟩ | exact ⟨cell_fr (((Fr.refl [] _).drew).alloc _) k0 (by simp), cell_fr (((Fr.refl [] _).drew).alloc _) k1 (by simp), cell_fr (((Fr.refl [] _).drew).alloc _) k3 (by simp)⟩)
 clear hK K
 try simp only [pE0, pE1, pE2, pE3, pE4, pE5, pE6]
 refine wpAnyH_ready (rs := [5]) (by kernel_rfl) (by simp) ?_
 refine AllReadyH.cons rfl (fun K hK => ?_) AllReadyH.nil
 go_simp
 go_at_call 441
 refine ((H.fr0 ((Fr.refl [] _).drew)).many1 0 (by decide) HN0.out).mono ?_
 rintro en w1 ⟨rfl, hf1⟩
 focus go_wp2_with fail
 refine hK.out _ _ ?hS1 (fun hHeld => ?_)
 case hS1 =>
  try dsimp only
  (first | (have _h := hf2; exact ⟨cell_fr ((((Fr.refl [] _).drew).same hf1).same hf2) k0 (by simp), cell_fr ((((Fr.refl [] _).drew).same hf1).same hf2) k1 (by simp), cell_fr ((((Fr.refl [] _).drew).same hf1).same hf2) k3 (by simp)⟩) | (have _h := hf1; first | exact ⟨cell_fr (((Fr.refl [] _).drew).same hf1) k0 (by simp), cell_fr (((Fr.refl [] _).drew).same hf1) k1 (by simp), cell_fr (((Fr.refl [] _).drew).same hf1) k3 (by simp)⟩ | exact ⟨cell_fr ((((Fr.refl [] _).drew).same hf1).alloc _) k0 (by simp), cell_fr ((((Fr.refl [] _).drew).same hf1).alloc _) k1 (by simp), cell_fr ((((Fr.refl [] _).drew).same hf1).alloc _) k3 (by simp)⟩) | exact ⟨k0, k1, k3⟩ | exact ⟨cell_fr (((Fr.refl [] _).drew).alloc _) k0 (by simp), cell_fr (((Fr.refl [] _).drew).alloc _) k1 (by simp), cell_fr (((Fr.refl [] _).drew).alloc _) k3 (by simp)⟩)
 clear hK K
 try simp only [pE0, pE1, pE2, pE3, pE4, pE5, pE6]
 refine tkH 10 (v := ?_) rfl (Or.inl ⟨by rfl, ?hy⟩) ?_
 case hy => intro w hSw; (try dsimp only at hSw); go_simp; try with_reducible rfl
 try simp only [pE0, pE1, pE2, pE3, pE4, pE5, pE6]
 refine tkH 11 (v := ?_) rfl (Or.inl ⟨by rfl, ?hy⟩) ?_
 case hy => intro w hSw; (try dsimp only at hSw); go_simp; try with_reducible rfl
 try simp only [pE0, pE1, pE2, pE3, pE4, pE5, pE6]
 refine skipsH (by kernel_rfl) [12, 13, 14, 15, 16, 17, 18] _ _ (by kernel_rfl) (by kernel_rfl) ?hsm (fun _ _ _ _ h => h) (by assumption) ?_
 case hsm =>
  repeat (first | exact trivial | refine ⟨by kernel_rfl, ?_⟩)
 simp only [List.foldl, List.setIfInBounds_toArray, List.set_cons_zero, List.set_cons_succ]
 refine tkH 19 (v := ?_) rfl (Or.inl ⟨by rfl, ?hy⟩) ?_
 case hy => intro w hSw; (try dsimp only at hSw); go_simp; try with_reducible rfl
 try simp only [pE0, pE1, pE2, pE3, pE4, pE5, pE6]
 refine wpAnyH_done (by kernel_rfl) ?_ _
 have hfr : Fr [] _ w1 := ((Fr.refl [] _).drew).same hf1
 clear hf1
 have hF := hf0.same hfr
 have HF := Lib.hid hF
 replace H := H.fr0 hfr
 clear k0 k1 k3 hf0 hfr hF
 go_wp2_with fail
 refine (sfromSmall H ht hgh ((s.K 0).length + 1) (by omega)).mono ?_
 rintro en w3 ⟨rfl, hsg⟩
 have hinv := s3Small_inv s.ghosts ((s.K 0).length + 1) s.K s.C hi.ci (by omega) hi.gh
 obtain ⟨o, K', C', hr⟩ : ∃ o K' C', s3Small s.ghosts ((s.K 0).length + 1) s.K s.C = (o, K', C') := ⟨_, _, _, rfl⟩
 rw [hr] at hsg hinv ⊢
 simp only at hsg hinv ⊢
 obtain ⟨i1, i2, i3, i4, i5⟩ := hinv
 have HE := Lib.hid hr
 cases o with
 | some k =>
  have hres := Lib.hid (hev1 k K' C' hr)
  have HS := Lib.hid (hsg.old HF.out)
  clear H hsg
  go_wp2
  go_ret2
  rw [hres.out]
  exact ⟨rfl, HS.out⟩
 | none =>
  have hres := Lib.hid (hev2 K' C' hr)
  obtain ⟨j1, j2⟩ := i3 rfl
  obtain ⟨F4, H4, hs4, hg4⟩ := hsg
  have hb := hi.res
  have hb2 := hi.gh
  have hb3 := hi.c2
  have hpos : 0 < (K' 1).length := by rw [j2, HN0.out, HN1.out]; omega
  have htt : tot 3 K' ≤ 70000 := by rw [tot3, j1, j2]; omega
  have HG := Lib.hid (And.intro hs4 hg4)
  clear H hs4 hg4
  go_wp2_with fail
  refine (sfromMain H4 htt hpos (wt C' (K' 1) + 1) (by omega)).mono ?_
  rintro en w4 ⟨rfl, hsg⟩
  have HS := Lib.hid (SGo.old (SGo.trans HG.out.1 HG.out.2 hsg) HF.out)
  clear H4 hsg
  go_wp2
  go_ret2
  rw [hres.out]
  exact ⟨rfl, HS.out⟩
set_option maxHeartbeats 4000000 in
set_option maxRecDepth 100000 in
theorem sevict2 (H : SR w e g cap x y s.c s.small s.ghosts F s.K s.C) (hi : s.Inv) (ht : tot 3 s.K ≤ 60000) (hgh : s.ghosts ≤ 1024) (hcnd : ¬ s.small < (s.K 0).length ∧ (s.K 1).length = 0) (hcnd0 : (s.K 0).length + (s.K 1).length ≠ 0)
  (ev : ByteArray × Bool × S3) (hev1 : ∀ k K' C', s3Small s.ghosts ((s.K 0).length + 1) s.K s.C = (some k, K', C') → ev = (k, true, { s with K := K', C := C' })) (hev2 : ∀ K' C', s3Small s.ghosts ((s.K 0).length + 1) s.K s.C = (none, K', C') → ev = (({ s with K := K', C := C' } : S3).fromMain.1, true, ({ s with K := K', C := C' } : S3).fromMain.2)) :
  Calls Tryz.prog 430 #[.pointer (some ⟨e, 0, none⟩)] w (SEv w e g cap x y F s ev.1 ev.2.1 ev.2.2) := by
 have k0 := H.k0
 have k1 := H.k1
 have k3 := H.k3
 have l0 : (s.K 0).length ≤ 60000 := Nat.le_trans (len_tot (by omega)) ht
 have l1 : (s.K 1).length ≤ 60000 := Nat.le_trans (len_tot (by omega)) ht
 obtain ⟨n0, hn0⟩ : ∃ n, (s.K 0).length = n := ⟨_, rfl⟩
 obtain ⟨n1, hn1⟩ : ∃ n, (s.K 1).length = n := ⟨_, rfl⟩
 obtain ⟨sm, hsm⟩ : ∃ n, s.small = n := ⟨_, rfl⟩
 rw [hn0] at l0
 rw [hn1] at l1
 rw [hsm] at k3
 simp only [hn0, hn1, hsm] at hcnd
 have HL := Lib.hid (slen H (s := n0 + n1) (by rw [hn0, hn1]))
 have HN0 := Lib.hid hn0
 have HN1 := Lib.hid hn1
 have q3 : (((n0 + n1 : Nat) : Int) == 0) = false := by rw [beq_eq_false_iff_ne]; omega
 have q3b : ((n0 : Int) + (n1 : Int) == 0) = false := by rw [beq_eq_false_iff_ne]; omega
 rw [hn0, hn1] at hcnd0
 obtain ⟨h1, h2⟩ := hcnd
 have q1 : (n0 : Int) ≤ (sm : Int) := by omega
 have q1a : decide ((sm : Int) < (n0 : Int)) = false := decide_eq_false (by omega)
 have q1b : decide (sm < n0) = false := decide_eq_false h1
 have q2 : ((n1 : Int) == 0) = true := by rw [beq_iff_eq]; omega
 clear hn0 hn1 hsm
 go_enter Tryz.func430, Tryz.ntmps430
 go_wp2_with fail
 refine HL.out.mono ?_
 rintro en w0 ⟨rfl, hf0⟩
 replace H := H.fr0 hf0
 replace k0 := H.k0
 replace k1 := H.k1
 have k3 := cell_fr hf0 k3 (by simp)
 clear HL
 go_wp2_with fail
 first
  | (go_region_held3 (fun w' => w'.cell? ⟨e, 0, none⟩ = some (.slice (some ⟨g, 0, none⟩) 3 cap) ∧ w'.cell? ⟨e, 1, none⟩ = some (.pointer (some ⟨x, 0, none⟩)) ∧ w'.cell? ⟨e, 3, none⟩ = some (.int .i64 sm)) (first | (have _h := hf2; exact ⟨cell_fr ((((Fr.refl [] _).drew).same hf1).same hf2) k0 (by simp), cell_fr ((((Fr.refl [] _).drew).same hf1).same hf2) k1 (by simp), cell_fr ((((Fr.refl [] _).drew).same hf1).same hf2) k3 (by simp)⟩) | (have _h := hf1; first | exact ⟨cell_fr (((Fr.refl [] _).drew).same hf1) k0 (by simp), cell_fr (((Fr.refl [] _).drew).same hf1) k1 (by simp), cell_fr (((Fr.refl [] _).drew).same hf1) k3 (by simp)⟩ | exact ⟨cell_fr ((((Fr.refl [] _).drew).same hf1).alloc _) k0 (by simp), cell_fr ((((Fr.refl [] _).drew).same hf1).alloc _) k1 (by simp), cell_fr ((((Fr.refl [] _).drew).same hf1).alloc _) k3 (by simp)⟩) | exact ⟨k0, k1, k3⟩ | exact ⟨cell_fr (((Fr.refl [] _).drew).alloc _) k0 (by simp), cell_fr (((Fr.refl [] _).drew).alloc _) k1 (by simp), cell_fr (((Fr.refl [] _).drew).alloc _) k3 (by simp)⟩)
    (first
     | (have _h := hf1; go_at_call 441; refine ((H.fr0 (((Fr.refl [] _).drew).same hf1)).many1 1 (by decide) HN1.out).mono ?_; rintro en w2 ⟨rfl, hf2⟩)
     | (go_at_call 441; refine ((H.fr0 ((Fr.refl [] _).drew)).many1 0 (by decide) HN0.out).mono ?_; rintro en w1 ⟨rfl, hf1⟩)))
  | fail
 have hfr : Fr [] _ w2 := (((Fr.refl [] _).drew).same hf1).same hf2
 clear hf1 hf2
 have hF := hf0.same hfr
 have HF := Lib.hid hF
 replace H := H.fr0 hfr
 clear k0 k1 k3 hf0 hfr hF
 go_wp2_with fail
 refine (sfromSmall H ht hgh ((s.K 0).length + 1) (by omega)).mono ?_
 rintro en w3 ⟨rfl, hsg⟩
 have hinv := s3Small_inv s.ghosts ((s.K 0).length + 1) s.K s.C hi.ci (by omega) hi.gh
 obtain ⟨o, K', C', hr⟩ : ∃ o K' C', s3Small s.ghosts ((s.K 0).length + 1) s.K s.C = (o, K', C') := ⟨_, _, _, rfl⟩
 rw [hr] at hsg hinv ⊢
 simp only at hsg hinv ⊢
 obtain ⟨i1, i2, i3, i4, i5⟩ := hinv
 have HE := Lib.hid hr
 cases o with
 | some k =>
  have hres := Lib.hid (hev1 k K' C' hr)
  have HS := Lib.hid (hsg.old HF.out)
  clear H hsg
  go_wp2
  go_ret2
  rw [hres.out]
  exact ⟨rfl, HS.out⟩
 | none =>
  have hres := Lib.hid (hev2 K' C' hr)
  obtain ⟨j1, j2⟩ := i3 rfl
  obtain ⟨F4, H4, hs4, hg4⟩ := hsg
  have hb := hi.res
  have hb2 := hi.gh
  have hb3 := hi.c2
  have hpos : 0 < (K' 1).length := by rw [j2, HN0.out, HN1.out]; omega
  have htt : tot 3 K' ≤ 70000 := by rw [tot3, j1, j2]; omega
  have HG := Lib.hid (And.intro hs4 hg4)
  clear H hs4 hg4
  go_wp2_with fail
  refine (sfromMain H4 htt hpos (wt C' (K' 1) + 1) (by omega)).mono ?_
  rintro en w4 ⟨rfl, hsg⟩
  have HS := Lib.hid (SGo.old (SGo.trans HG.out.1 HG.out.2 hsg) HF.out)
  clear H4 hsg
  go_wp2
  go_ret2
  rw [hres.out]
  exact ⟨rfl, HS.out⟩
set_option maxHeartbeats 4000000 in
set_option maxRecDepth 100000 in
theorem sevict3 (H : SR w e g cap x y s.c s.small s.ghosts F s.K s.C) (hi : s.Inv) (ht : tot 3 s.K ≤ 60000) (hgh : s.ghosts ≤ 1024) (hcnd : ¬ s.small < (s.K 0).length ∧ ¬ (s.K 1).length = 0) :
  Calls Tryz.prog 430 #[.pointer (some ⟨e, 0, none⟩)] w (SEv w e g cap x y F s s.fromMain.1 true s.fromMain.2) := by
 have k0 := H.k0
 have k1 := H.k1
 have k3 := H.k3
 have l0 : (s.K 0).length ≤ 60000 := Nat.le_trans (len_tot (by omega)) ht
 have l1 : (s.K 1).length ≤ 60000 := Nat.le_trans (len_tot (by omega)) ht
 obtain ⟨n0, hn0⟩ : ∃ n, (s.K 0).length = n := ⟨_, rfl⟩
 obtain ⟨n1, hn1⟩ : ∃ n, (s.K 1).length = n := ⟨_, rfl⟩
 obtain ⟨sm, hsm⟩ : ∃ n, s.small = n := ⟨_, rfl⟩
 rw [hn0] at l0
 rw [hn1] at l1
 rw [hsm] at k3
 simp only [hn0, hn1, hsm] at hcnd
 have HL := Lib.hid (slen H (s := n0 + n1) (by rw [hn0, hn1]))
 have HN0 := Lib.hid hn0
 have HN1 := Lib.hid hn1
 have q3 : (((n0 + n1 : Nat) : Int) == 0) = false := by rw [beq_eq_false_iff_ne]; omega
 have q3b : ((n0 : Int) + (n1 : Int) == 0) = false := by rw [beq_eq_false_iff_ne]; omega
 obtain ⟨h1, h2⟩ := hcnd
 have q1 : (n0 : Int) ≤ (sm : Int) := by omega
 have q1a : decide ((sm : Int) < (n0 : Int)) = false := decide_eq_false (by omega)
 have q1b : decide (sm < n0) = false := decide_eq_false h1
 have q2 : ((n1 : Int) == 0) = false := by rw [beq_eq_false_iff_ne]; omega
 have hpos : 0 < (s.K 1).length := by rw [hn1]; omega
 clear hn0 hn1 hsm
 go_enter Tryz.func430, Tryz.ntmps430
 go_wp2_with fail
 refine HL.out.mono ?_
 rintro en w0 ⟨rfl, hf0⟩
 replace H := H.fr0 hf0
 replace k0 := H.k0
 replace k1 := H.k1
 have k3 := cell_fr hf0 k3 (by simp)
 clear HL
 go_wp2_with fail
 first
  | (go_region_held3 (fun w' => w'.cell? ⟨e, 0, none⟩ = some (.slice (some ⟨g, 0, none⟩) 3 cap) ∧ w'.cell? ⟨e, 1, none⟩ = some (.pointer (some ⟨x, 0, none⟩)) ∧ w'.cell? ⟨e, 3, none⟩ = some (.int .i64 sm)) (first | (have _h := hf2; exact ⟨cell_fr ((((Fr.refl [] _).drew).same hf1).same hf2) k0 (by simp), cell_fr ((((Fr.refl [] _).drew).same hf1).same hf2) k1 (by simp), cell_fr ((((Fr.refl [] _).drew).same hf1).same hf2) k3 (by simp)⟩) | (have _h := hf1; first | exact ⟨cell_fr (((Fr.refl [] _).drew).same hf1) k0 (by simp), cell_fr (((Fr.refl [] _).drew).same hf1) k1 (by simp), cell_fr (((Fr.refl [] _).drew).same hf1) k3 (by simp)⟩ | exact ⟨cell_fr ((((Fr.refl [] _).drew).same hf1).alloc _) k0 (by simp), cell_fr ((((Fr.refl [] _).drew).same hf1).alloc _) k1 (by simp), cell_fr ((((Fr.refl [] _).drew).same hf1).alloc _) k3 (by simp)⟩) | exact ⟨k0, k1, k3⟩ | exact ⟨cell_fr (((Fr.refl [] _).drew).alloc _) k0 (by simp), cell_fr (((Fr.refl [] _).drew).alloc _) k1 (by simp), cell_fr (((Fr.refl [] _).drew).alloc _) k3 (by simp)⟩)
    (first
     | (have _h := hf1; go_at_call 441; refine ((H.fr0 (((Fr.refl [] _).drew).same hf1)).many1 1 (by decide) HN1.out).mono ?_; rintro en w2 ⟨rfl, hf2⟩)
     | (go_at_call 441; refine ((H.fr0 ((Fr.refl [] _).drew)).many1 0 (by decide) HN0.out).mono ?_; rintro en w1 ⟨rfl, hf1⟩)))
  | fail
 have hfr : Fr [] _ w2 := (((Fr.refl [] _).drew).same hf1).same hf2
 have hF := hf0.same hfr
 have HF := Lib.hid hF
 replace H := H.fr0 hfr
 clear k0 k1 k3 hf0 hfr hF hf1 hf2
 go_wp2_with fail
 refine (sfromMain H (by omega) hpos (wt s.C (s.K 1) + 1) (by omega)).mono ?_
 rintro en w4 ⟨rfl, hsg⟩
 have HS := Lib.hid (hsg.old HF.out)
 clear H hsg
 go_wp2
 go_ret2
 exact ⟨rfl, HS.out⟩
theorem sevict (H : SR w e g cap x y s.c s.small s.ghosts F s.K s.C) (hi : s.Inv) : Calls Tryz.prog 430 #[.pointer (some ⟨e, 0, none⟩)] w (SEv w e g cap x y F s s.evict.1 s.evict.2.1 s.evict.2.2) := by
 have hc := hi.c2
 have hr := hi.res
 have hg := hi.gh
 have hgh : s.ghosts ≤ 1024 := by unfold S3.ghosts; omega
 have ht : tot 3 s.K ≤ 60000 := by rw [tot3]; omega
 have hl : s.len = (s.K 0).length + (s.K 1).length := rfl
 by_cases h0 : (s.K 0).length + (s.K 1).length = 0
 ·have he : s.evict = (⟨#[]⟩, false, s) := by unfold S3.evict; rw [if_pos (by rw [hl]; exact h0)]
  rw [he]; exact sevict0 H h0
 ·by_cases h1 : s.small < (s.K 0).length ∨ (s.K 1).length = 0
  ·have hev1 : ∀ k K' C', s3Small s.ghosts ((s.K 0).length + 1) s.K s.C = (some k, K', C') → s.evict = (k, true, { s with K := K', C := C' }) := fun k K' C' hr => by
    unfold S3.evict; rw [if_neg (by rw [hl]; exact h0), if_pos h1, hr]
   have hev2 : ∀ K' C', s3Small s.ghosts ((s.K 0).length + 1) s.K s.C = (none, K', C') → s.evict = (({ s with K := K', C := C' } : S3).fromMain.1, true, ({ s with K := K', C := C' } : S3).fromMain.2) := fun K' C' hr => by
    unfold S3.evict; rw [if_neg (by rw [hl]; exact h0), if_pos h1, hr]
   by_cases h2 : s.small < (s.K 0).length
   ·exact sevict1 H hi ht hgh h2 h0 s.evict hev1 hev2
   ·exact sevict2 H hi ht hgh ⟨h2, by omega⟩ h0 s.evict hev1 hev2
  ·have he : s.evict = (s.fromMain.1, true, s.fromMain.2) := by unfold S3.evict; rw [if_neg (by rw [hl]; exact h0), if_neg h1]
   rw [he]; exact sevict3 H hi ht hgh ⟨fun h => h1 (.inl h), fun h => h1 (.inr h)⟩
end
end Go.Proofs.YtphlancijlljcaaGreat
