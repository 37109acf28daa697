/- The walks over arc's engine: Access of a key in B2. -/
import Derived.Test.YtphlancijlljcaaGreatArc3
set_option linter.unusedVariables false
set_option linter.unusedSimpArgs false
namespace Go.Proofs.YtphlancijlljcaaGreat
open Go.RowKit
open Act renaming put → pE0
open List renaming getElem_toArray → pE1, getElem_cons_succ → pE2, getElem_cons_zero → pE3, setIfInBounds_toArray → pE4, set_cons_zero → pE5, set_cons_succ → pE6
attribute [local go_sem ↓] Go.wp_at_zero Go.wp_at_succ
section
variable {w : World} {e g cap x : Nat} {F : List Nat} {K : Rows} {c p : Nat}
set_option maxHeartbeats 8000000 in
set_option maxRecDepth 100000 in
theorem aaccess_b2 (H : ERows IRepA 4 197 w e g cap x F K [.int .i64 c, .int .i64 p]) (hi : RNd 4 K) (hc0 : 1 ≤ c) (hc : c ≤ 1024) (hp : p ≤ c) (hl : tot 4 K ≤ 4000) (key : ByteArray) (hz : key.size ≤ maxLen) (hm : key ∈ K 3) :
  Calls Tryz.prog 290 #[.pointer (some ⟨e, 0, none⟩), .string key] w (ARet w e g cap x F (Arc.access ⟨K, p, c⟩ key)) := by
 have hn : ∀ i, i ≠ 3 → key ∉ K i := fun i h1 h => hi.dis 3 i (Ne.symm h1) _ hm h
 obtain ⟨n2, hn2e⟩ : ∃ n, (K 2).length = n := ⟨_, rfl⟩
 obtain ⟨n3, hn3e⟩ : ∃ n, (K 3).length = n := ⟨_, rfl⟩
 have hnp : 0 < n3 := by rw [← hn3e]; exact List.length_pos_of_mem hm
 obtain ⟨q, hq⟩ : ∃ q, n2 / n3 = q := ⟨_, rfl⟩
 obtain ⟨m, hmq⟩ : ∃ m, max 1 q = m := ⟨_, rfl⟩
 obtain ⟨s, hs⟩ : ∃ s : Int, (p : Int) - (m : Int) = s := ⟨_, rfl⟩
 obtain ⟨p2, hp2⟩ : ∃ p2, p - m = p2 := ⟨_, rfl⟩
 have hacc : Arc.access ⟨K, p, c⟩ key = (false, (arcRepl K p2 c true).1, ⟨pushK (arcRepl K p2 c true).2 1 key, p2, c⟩) := by
  have h0 := hn 0 (by omega)
  have h1 := hn 1 (by omega)
  have h2 := hn 2 (by omega)
  unfold Arc.access
  simp only [h0, h1, h2, hm, hn2e, hn3e, hq, hmq, hp2, or_self, if_false, if_true]
 rw [hacc]
 have b2 : n2 ≤ 4000 := by rw [← hn2e]; exact Nat.le_trans (len_tot (by omega)) hl
 have b3 : n3 ≤ 4000 := by rw [← hn3e]; exact Nat.le_trans (len_tot (by omega)) hl
 have hn0 : ¬ n3 = 0 := by omega
 have b3q : q ≤ 4000 := by rw [← hq]; exact Nat.le_trans (Nat.div_le_self _ _) b2
 have HQ : Hid (IntKind.i64.wrap ((n2 : Int) / (n3 : Int)) = (q : Int)) := by show _ = _; rw [wq b2, hq]
 have HMX : Hid ((if (1 : Int) < (q : Int) then (q : Int) else 1) = (m : Int)) := by show _ = _; rw [mx1, hmq]
 have HAD : Hid (IntKind.i64.wrap ((p : Int) - (m : Int)) = s) := by show _ = _; rw [sb1 (by omega), hs]
 have HMN : Hid ((if 0 < s then s else 0) = (p2 : Int)) := by show _ = _; rw [← hp2, ← hs]; split <;> omega
 have hbp : p2 ≤ c := by omega
 have k0 := H.k0
 have k1 := H.k1
 have k2 := H.kr0
 have k3 := H.kr1
 have HW := Lib.hid (ewhereA H key hz)
 have HM := Lib.hid (And.intro hn hm)
 have HN2 : Hid ((K 2).length = n2) := hn2e
 have HN3 : Hid ((K 3).length = n3) := hn3e
 have hlF := H.lt irokA
 have HLF := Lib.hid hlF
 clear hacc hn hm hn2e hn3e hlF hq hmq hs hp2 b3q
 go_enter Tryz.func290, Tryz.ntmps290
 go_wp2_with fail
 refine HW.out.mono ?_
 rintro en w1 ⟨r, rfl, har, hf1⟩
 have hr : r = 3 := by
  obtain ⟨hn, hm⟩ := HM.out
  rcases har with ⟨i, hi4, rfl, hik⟩ | ⟨rfl, hno⟩
  ·by_cases h : i = 3
   ·subst h; rfl
   ·exact absurd hik (hn i h)
  ·exact absurd hm (hno 3)
 subst hr
 replace H := H.fr0 irokA hf1
 replace k0 := H.k0
 replace k1 := H.k1
 replace k2 := H.kr0
 replace k3 := H.kr1
 have hF := hf1
 clear hf1 har HW
 go_wp2_with fail
 refine wp_region_L 23 (fun w' => w'.cell? ⟨e, 0, none⟩ = some (.slice (some ⟨g, 0, none⟩) 4 cap) ∧ w'.cell? ⟨e, 1, none⟩ = some (.pointer (some ⟨x, 0, none⟩)) ∧ w'.cell? ⟨e, 2, none⟩ = some (.int .i64 c) ∧ w'.cell? ⟨e, 3, none⟩ = some (.int .i64 p)) (by kernel_rfl) ?hS0 (fun hHeld => ?_)
 case hS0 =>
  try dsimp only
  (first | exact ⟨k0, k1, k2, k3⟩ | (refine ⟨cell_fr (F := []) ?f k0 (by simp), cell_fr (F := []) ?f k1 (by simp), cell_fr (F := []) ?f k2 (by simp), cell_fr (F := []) ?f k3 (by simp)⟩; case f => (repeat (with_reducible first | exact Fr.refl _ _ | refine Fr.same ?_ hfb | refine Fr.same ?_ hfa | refine Fr.alloc ?_ _ | refine Fr.drew ?_))))
 refine tkL 0 (v := ?_) rfl (Or.inl ⟨by rfl, ?hy⟩) ?_
 case hy => intro w hSw; (try dsimp only at hSw); go_simp; try with_reducible rfl
 try simp only [pE0, pE1, pE2, pE3, pE4, pE5, pE6]
 refine tkL 1 (v := ?_) rfl (Or.inl ⟨by rfl, ?hy⟩) ?_
 case hy => intro w hSw; (try dsimp only at hSw); go_simp; try with_reducible rfl
 try simp only [pE0, pE1, pE2, pE3, pE4, pE5, pE6]
 refine tkL 2 (v := ?_) rfl (Or.inl ⟨by rfl, ?hy⟩) ?_
 case hy => intro w hSw; (try dsimp only at hSw); go_simp; try with_reducible rfl
 try simp only [pE0, pE1, pE2, pE3, pE4, pE5, pE6]
 refine tkL 3 (v := ?_) rfl (Or.inl ⟨by rfl, ?hy⟩) ?_
 case hy => intro w hSw; (try dsimp only at hSw); go_simp; try with_reducible rfl
 try simp only [pE0, pE1, pE2, pE3, pE4, pE5, pE6]
 refine tkL 4 (v := ?_) rfl (Or.inl ⟨by rfl, ?hy⟩) ?_
 case hy => intro w hSw; (try dsimp only at hSw); go_simp; try with_reducible rfl
 try simp only [pE0, pE1, pE2, pE3, pE4, pE5, pE6]
 refine tkL 5 (v := ?_) rfl (Or.inl ⟨by rfl, ?hy⟩) ?_
 case hy => intro w hSw; (try dsimp only at hSw); go_simp; try with_reducible rfl
 try simp only [pE0, pE1, pE2, pE3, pE4, pE5, pE6]
 refine tkL 6 (v := ?_) rfl (Or.inl ⟨by rfl, ?hy⟩) ?_
 case hy => intro w hSw; (try dsimp only at hSw); go_simp; try with_reducible rfl
 try simp only [pE0, pE1, pE2, pE3, pE4, pE5, pE6]
 refine tkL 7 (v := ?_) rfl (Or.inl ⟨by rfl, ?hy⟩) ?_
 case hy => intro w hSw; (try dsimp only at hSw); go_simp; try with_reducible rfl
 try simp only [pE0, pE1, pE2, pE3, pE4, pE5, pE6]
 refine tkL 8 (v := ?_) rfl (Or.inl ⟨by rfl, ?hy⟩) ?_
 case hy => intro w hSw; (try dsimp only at hSw); go_simp; try with_reducible rfl
 try simp only [pE0, pE1, pE2, pE3, pE4, pE5, pE6]
 refine tkL 11 (v := ?_) rfl (Or.inl ⟨by rfl, ?hy⟩) ?_
 case hy => intro w hSw; (try dsimp only at hSw); go_simp; try with_reducible rfl
 try simp only [pE0, pE1, pE2, pE3, pE4, pE5, pE6]
 refine tkL 12 (v := ?_) rfl (Or.inl ⟨by rfl, ?hy⟩) ?_
 case hy => intro w hSw; (try dsimp only at hSw); go_simp; try with_reducible rfl
 try simp only [pE0, pE1, pE2, pE3, pE4, pE5, pE6]
 refine tkL 13 (v := ?_) rfl (Or.inl ⟨by rfl, ?hy⟩) ?_
 case hy => intro w hSw; (try dsimp only at hSw); go_simp; try with_reducible rfl
 try simp only [pE0, pE1, pE2, pE3, pE4, pE5, pE6]
 refine tkL 14 (v := ?_) rfl (Or.inl ⟨by rfl, ?hy⟩) ?_
 case hy => intro w hSw; (try dsimp only at hSw); go_simp; try with_reducible rfl
 try simp only [pE0, pE1, pE2, pE3, pE4, pE5, pE6]
 refine wpAnyL_ready (rs := [9, 15]) (by kernel_rfl) (by simp) ?_
 refine AllReadyL.cons rfl (fun K hK => ?_) ?_
 go_simp
 refine hK.out _ _ ?hS1 (fun hHeld => ?_)
 case hS1 =>
  try dsimp only
  (first | exact ⟨k0, k1, k2, k3⟩ | (refine ⟨cell_fr (F := []) ?f k0 (by simp), cell_fr (F := []) ?f k1 (by simp), cell_fr (F := []) ?f k2 (by simp), cell_fr (F := []) ?f k3 (by simp)⟩; case f => (repeat (with_reducible first | exact Fr.refl _ _ | refine Fr.same ?_ hfb | refine Fr.same ?_ hfa | refine Fr.alloc ?_ _ | refine Fr.drew ?_))))
 clear hK K
 try simp only [pE0, pE1, pE2, pE3, pE4, pE5, pE6]
 refine wpAnyL_ready (rs := [10, 15]) (by kernel_rfl) (by simp) ?_
 refine AllReadyL.cons rfl (fun K hK => ?_) ?_
 go_simp
 go_at_call 302
 refine (emanyOneA (H.fr0 irokA ?ff) 2 (by decide) HN2.out (Rd.one (W0 := w1) (T := 3) 2 2 rfl ?fg ?hb)).mono ?_
 case ff => (repeat (with_reducible first | exact Fr.refl _ _ | refine Fr.same ?_ hfb | refine Fr.same ?_ hfa | refine Fr.alloc ?_ _ | refine Fr.drew ?_))
 case fg => (repeat (with_reducible first | exact Fr.refl _ _ | refine Fr.same ?_ hfb | refine Fr.same ?_ hfa | refine Fr.alloc ?_ _ | refine Fr.drew ?_))
 case hb => simp
 rintro en w2 ⟨rfl, hfa⟩
 focus go_wp2_with fail
 refine hK.out _ _ ?hS1 (fun hHeld => ?_)
 case hS1 =>
  try dsimp only
  (first | exact ⟨k0, k1, k2, k3⟩ | (refine ⟨cell_fr (F := []) ?f k0 (by simp), cell_fr (F := []) ?f k1 (by simp), cell_fr (F := []) ?f k2 (by simp), cell_fr (F := []) ?f k3 (by simp)⟩; case f => (repeat (with_reducible first | exact Fr.refl _ _ | refine Fr.same ?_ hfb | refine Fr.same ?_ hfa | refine Fr.alloc ?_ _ | refine Fr.drew ?_))))
 clear hK K
 try simp only [pE0, pE1, pE2, pE3, pE4, pE5, pE6]
 refine wpAnyL_ready (rs := [15]) (by kernel_rfl) (by simp) ?_
 refine AllReadyL.cons rfl (fun K hK => ?_) AllReadyL.nil
 go_simp
 refine hK.out _ _ ?hS1 (fun hHeld => ?_)
 case hS1 =>
  try dsimp only
  (first | exact ⟨k0, k1, k2, k3⟩ | (refine ⟨cell_fr (F := []) ?f k0 (by simp), cell_fr (F := []) ?f k1 (by simp), cell_fr (F := []) ?f k2 (by simp), cell_fr (F := []) ?f k3 (by simp)⟩; case f => (repeat (with_reducible first | exact Fr.refl _ _ | refine Fr.same ?_ hfb | refine Fr.same ?_ hfa | refine Fr.alloc ?_ _ | refine Fr.drew ?_))))
 clear hK K
 try simp only [pE0, pE1, pE2, pE3, pE4, pE5, pE6]
 refine wpAnyL_ready (rs := [16]) (by kernel_rfl) (by simp) ?_
 refine AllReadyL.cons rfl (fun K hK => ?_) AllReadyL.nil
 go_simp
 go_at_call 302
 refine (emanyOneA (H.fr0 irokA ?ff) 3 (by decide) HN3.out (Rd.one (W0 := w2) (T := 3) 3 3 rfl ?fg ?hb)).mono ?_
 case ff => (repeat (with_reducible first | exact Fr.refl _ _ | refine Fr.same ?_ hfb | refine Fr.same ?_ hfa | refine Fr.alloc ?_ _ | refine Fr.drew ?_))
 case fg => (repeat (with_reducible first | exact Fr.refl _ _ | refine Fr.same ?_ hfb | refine Fr.same ?_ hfa | refine Fr.alloc ?_ _ | refine Fr.drew ?_))
 case hb => simp
 rintro en w3 ⟨rfl, hfb⟩
 focus go_wp2_with fail
 refine hK.out _ _ ?hS1 (fun hHeld => ?_)
 case hS1 =>
  try dsimp only
  (first | exact ⟨k0, k1, k2, k3⟩ | (refine ⟨cell_fr (F := []) ?f k0 (by simp), cell_fr (F := []) ?f k1 (by simp), cell_fr (F := []) ?f k2 (by simp), cell_fr (F := []) ?f k3 (by simp)⟩; case f => (repeat (with_reducible first | exact Fr.refl _ _ | refine Fr.same ?_ hfb | refine Fr.same ?_ hfa | refine Fr.alloc ?_ _ | refine Fr.drew ?_))))
 clear hK K
 try simp only [pE0, pE1, pE2, pE3, pE4, pE5, pE6]
 have hnw : Fr [] w1 w3 := ?hnw
 case hnw => (repeat (with_reducible first | exact Fr.refl _ _ | refine Fr.same ?_ hfb | refine Fr.same ?_ hfa | refine Fr.alloc ?_ _ | refine Fr.drew ?_))
 have zf := (H.fr0 irokA hnw).fz 3
 refine tkL 17 (v := ?_) rfl (Or.inl ⟨by rfl, ?hy⟩) ?_
 case hy => intro w hSw; (try dsimp only at hSw); go_simp; try with_reducible rfl
 try simp only [pE0, pE1, pE2, pE3, pE4, pE5, pE6]
 rw [HQ.out]
 refine tkL 18 (v := ?_) rfl (Or.inl ⟨by rfl, ?hy⟩) ?_
 case hy => intro w hSw; (try dsimp only at hSw); go_simp; try with_reducible rfl
 try simp only [pE0, pE1, pE2, pE3, pE4, pE5, pE6]
 rw [HMX.out]
 refine tkL 19 (v := ?_) rfl (Or.inl ⟨by rfl, ?hy⟩) ?_
 case hy => intro w hSw; (try dsimp only at hSw); go_simp; try with_reducible rfl
 try simp only [pE0, pE1, pE2, pE3, pE4, pE5, pE6]
 rw [HAD.out]
 refine tkL 20 (v := ?_) rfl (Or.inl ⟨by rfl, ?hy⟩) ?_
 case hy => intro w hSw; (try dsimp only at hSw); go_simp; try with_reducible rfl
 try simp only [pE0, pE1, pE2, pE3, pE4, pE5, pE6]
 rw [HMN.out]
 refine wpAnyL_ready (rs := [21]) (by kernel_rfl) (by simp) ?_
 refine AllReadyL.cons rfl (fun K hK => ?_) AllReadyL.nil
 go_simp
 refine hK.out _ _ ?hS1 (fun hHeld => ?_)
 case hS1 =>
  try dsimp only
  (first | exact ⟨k0, k1, k2, k3⟩ | (refine ⟨cell_fr (F := []) ?f k0 (by simp), cell_fr (F := []) ?f k1 (by simp), cell_fr (F := []) ?f k2 (by simp), cell_fr (F := []) ?f k3 (by simp)⟩; case f => (repeat (with_reducible first | exact Fr.refl _ _ | refine Fr.same ?_ hfb | refine Fr.same ?_ hfa | refine Fr.alloc ?_ _ | refine Fr.drew ?_))))
 clear hK K
 try simp only [pE0, pE1, pE2, pE3, pE4, pE5, pE6]
 refine tkL 22 (v := ?_) rfl (Or.inl ⟨by rfl, ?hy⟩) ?_
 case hy => intro w hSw; (try dsimp only at hSw); go_simp; try with_reducible rfl
 try simp only [pE0, pE1, pE2, pE3, pE4, pE5, pE6]
 refine wpAnyL_ready (rs := [23]) (by kernel_rfl) (by simp) ?_
 refine AllReadyL.last rfl (fun K hK => ?_)
 go_simp
 refine hK.out _ _ ?_
 clear hK K
 try simp only [pE0, pE1, pE2, pE3, pE4, pE5, pE6]
 refine wpAnyL_done (by kernel_rfl) ?_ _
 rotate_left
 refine AllReadyL.cons rfl (fun K hK => ?_) AllReadyL.nil
 go_simp
 refine hK.out _ _ ?hS1 (fun hHeld => ?_)
 case hS1 =>
  try dsimp only
  (first | exact ⟨k0, k1, k2, k3⟩ | (refine ⟨cell_fr (F := []) ?f k0 (by simp), cell_fr (F := []) ?f k1 (by simp), cell_fr (F := []) ?f k2 (by simp), cell_fr (F := []) ?f k3 (by simp)⟩; case f => (repeat (with_reducible first | exact Fr.refl _ _ | refine Fr.same ?_ hfb | refine Fr.same ?_ hfa | refine Fr.alloc ?_ _ | refine Fr.drew ?_))))
 clear hK K
 try simp only [pE0, pE1, pE2, pE3, pE4, pE5, pE6]
 refine wpAnyL_ready (rs := [10]) (by kernel_rfl) (by simp) ?_
 refine AllReadyL.cons rfl (fun K hK => ?_) AllReadyL.nil
 go_simp
 go_at_call 302
 refine (emanyOneA (H.fr0 irokA ?ff) 2 (by decide) HN2.out (Rd.one (W0 := w1) (T := 3) 2 2 rfl ?fg ?hb)).mono ?_
 case ff => (repeat (with_reducible first | exact Fr.refl _ _ | refine Fr.same ?_ hfb | refine Fr.same ?_ hfa | refine Fr.alloc ?_ _ | refine Fr.drew ?_))
 case fg => (repeat (with_reducible first | exact Fr.refl _ _ | refine Fr.same ?_ hfb | refine Fr.same ?_ hfa | refine Fr.alloc ?_ _ | refine Fr.drew ?_))
 case hb => simp
 rintro en w2 ⟨rfl, hfa⟩
 focus go_wp2_with fail
 refine hK.out _ _ ?hS1 (fun hHeld => ?_)
 case hS1 =>
  try dsimp only
  (first | exact ⟨k0, k1, k2, k3⟩ | (refine ⟨cell_fr (F := []) ?f k0 (by simp), cell_fr (F := []) ?f k1 (by simp), cell_fr (F := []) ?f k2 (by simp), cell_fr (F := []) ?f k3 (by simp)⟩; case f => (repeat (with_reducible first | exact Fr.refl _ _ | refine Fr.same ?_ hfb | refine Fr.same ?_ hfa | refine Fr.alloc ?_ _ | refine Fr.drew ?_))))
 clear hK K
 try simp only [pE0, pE1, pE2, pE3, pE4, pE5, pE6]
 refine wpAnyL_ready (rs := [16]) (by kernel_rfl) (by simp) ?_
 refine AllReadyL.cons rfl (fun K hK => ?_) AllReadyL.nil
 go_simp
 go_at_call 302
 refine (emanyOneA (H.fr0 irokA ?ff) 3 (by decide) HN3.out (Rd.one (W0 := w1.alloc (.cells #[.int .i64 2] 3)) (T := 3) 3 3 rfl ?fg ?hb)).mono ?_
 case ff => (repeat (with_reducible first | exact Fr.refl _ _ | refine Fr.same ?_ hfb | refine Fr.same ?_ hfa | refine Fr.alloc ?_ _ | refine Fr.drew ?_))
 case fg => (repeat (with_reducible first | exact Fr.refl _ _ | refine Fr.same ?_ hfb | refine Fr.same ?_ hfa | refine Fr.alloc ?_ _ | refine Fr.drew ?_))
 case hb => simp
 rintro en w3 ⟨rfl, hfb⟩
 focus go_wp2_with fail
 refine hK.out _ _ ?hS1 (fun hHeld => ?_)
 case hS1 =>
  try dsimp only
  (first | exact ⟨k0, k1, k2, k3⟩ | (refine ⟨cell_fr (F := []) ?f k0 (by simp), cell_fr (F := []) ?f k1 (by simp), cell_fr (F := []) ?f k2 (by simp), cell_fr (F := []) ?f k3 (by simp)⟩; case f => (repeat (with_reducible first | exact Fr.refl _ _ | refine Fr.same ?_ hfb | refine Fr.same ?_ hfa | refine Fr.alloc ?_ _ | refine Fr.drew ?_))))
 clear hK K
 try simp only [pE0, pE1, pE2, pE3, pE4, pE5, pE6]
 have hnw : Fr [] w1 w3 := ?hnw
 case hnw => (repeat (with_reducible first | exact Fr.refl _ _ | refine Fr.same ?_ hfb | refine Fr.same ?_ hfa | refine Fr.alloc ?_ _ | refine Fr.drew ?_))
 have zf := (H.fr0 irokA hnw).fz 3
 refine tkL 17 (v := ?_) rfl (Or.inl ⟨by rfl, ?hy⟩) ?_
 case hy => intro w hSw; (try dsimp only at hSw); go_simp; try with_reducible rfl
 try simp only [pE0, pE1, pE2, pE3, pE4, pE5, pE6]
 rw [HQ.out]
 refine tkL 18 (v := ?_) rfl (Or.inl ⟨by rfl, ?hy⟩) ?_
 case hy => intro w hSw; (try dsimp only at hSw); go_simp; try with_reducible rfl
 try simp only [pE0, pE1, pE2, pE3, pE4, pE5, pE6]
 rw [HMX.out]
 refine tkL 19 (v := ?_) rfl (Or.inl ⟨by rfl, ?hy⟩) ?_
 case hy => intro w hSw; (try dsimp only at hSw); go_simp; try with_reducible rfl
 try simp only [pE0, pE1, pE2, pE3, pE4, pE5, pE6]
 rw [HAD.out]
 refine tkL 20 (v := ?_) rfl (Or.inl ⟨by rfl, ?hy⟩) ?_
 case hy => intro w hSw; (try dsimp only at hSw); go_simp; try with_reducible rfl
 try simp only [pE0, pE1, pE2, pE3, pE4, pE5, pE6]
 rw [HMN.out]
 refine wpAnyL_ready (rs := [21]) (by kernel_rfl) (by simp) ?_
 refine AllReadyL.cons rfl (fun K hK => ?_) AllReadyL.nil
 go_simp
 refine hK.out _ _ ?hS1 (fun hHeld => ?_)
 case hS1 =>
  try dsimp only
  (first | exact ⟨k0, k1, k2, k3⟩ | (refine ⟨cell_fr (F := []) ?f k0 (by simp), cell_fr (F := []) ?f k1 (by simp), cell_fr (F := []) ?f k2 (by simp), cell_fr (F := []) ?f k3 (by simp)⟩; case f => (repeat (with_reducible first | exact Fr.refl _ _ | refine Fr.same ?_ hfb | refine Fr.same ?_ hfa | refine Fr.alloc ?_ _ | refine Fr.drew ?_))))
 clear hK K
 try simp only [pE0, pE1, pE2, pE3, pE4, pE5, pE6]
 refine tkL 22 (v := ?_) rfl (Or.inl ⟨by rfl, ?hy⟩) ?_
 case hy => intro w hSw; (try dsimp only at hSw); go_simp; try with_reducible rfl
 try simp only [pE0, pE1, pE2, pE3, pE4, pE5, pE6]
 refine wpAnyL_ready (rs := [23]) (by kernel_rfl) (by simp) ?_
 refine AllReadyL.last rfl (fun K hK => ?_)
 go_simp
 refine hK.out _ _ ?_
 clear hK K
 try simp only [pE0, pE1, pE2, pE3, pE4, pE5, pE6]
 refine wpAnyL_done (by kernel_rfl) ?_ _
 rotate_left
 refine AllReadyL.cons rfl (fun K hK => ?_) AllReadyL.nil
 go_simp
 refine hK.out _ _ ?hS1 (fun hHeld => ?_)
 case hS1 =>
  try dsimp only
  (first | exact ⟨k0, k1, k2, k3⟩ | (refine ⟨cell_fr (F := []) ?f k0 (by simp), cell_fr (F := []) ?f k1 (by simp), cell_fr (F := []) ?f k2 (by simp), cell_fr (F := []) ?f k3 (by simp)⟩; case f => (repeat (with_reducible first | exact Fr.refl _ _ | refine Fr.same ?_ hfb | refine Fr.same ?_ hfa | refine Fr.alloc ?_ _ | refine Fr.drew ?_))))
 clear hK K
 try simp only [pE0, pE1, pE2, pE3, pE4, pE5, pE6]
 refine wpAnyL_ready (rs := [9]) (by kernel_rfl) (by simp) ?_
 refine AllReadyL.cons rfl (fun K hK => ?_) AllReadyL.nil
 go_simp
 refine hK.out _ _ ?hS1 (fun hHeld => ?_)
 case hS1 =>
  try dsimp only
  (first | exact ⟨k0, k1, k2, k3⟩ | (refine ⟨cell_fr (F := []) ?f k0 (by simp), cell_fr (F := []) ?f k1 (by simp), cell_fr (F := []) ?f k2 (by simp), cell_fr (F := []) ?f k3 (by simp)⟩; case f => (repeat (with_reducible first | exact Fr.refl _ _ | refine Fr.same ?_ hfb | refine Fr.same ?_ hfa | refine Fr.alloc ?_ _ | refine Fr.drew ?_))))
 clear hK K
 try simp only [pE0, pE1, pE2, pE3, pE4, pE5, pE6]
 refine wpAnyL_ready (rs := [10]) (by kernel_rfl) (by simp) ?_
 refine AllReadyL.cons rfl (fun K hK => ?_) AllReadyL.nil
 go_simp
 go_at_call 302
 refine (emanyOneA (H.fr0 irokA ?ff) 2 (by decide) HN2.out (Rd.one (W0 := w1.alloc (.cells #[.int .i64 3] 3)) (T := 3) 2 2 rfl ?fg ?hb)).mono ?_
 case ff => (repeat (with_reducible first | exact Fr.refl _ _ | refine Fr.same ?_ hfb | refine Fr.same ?_ hfa | refine Fr.alloc ?_ _ | refine Fr.drew ?_))
 case fg => (repeat (with_reducible first | exact Fr.refl _ _ | refine Fr.same ?_ hfb | refine Fr.same ?_ hfa | refine Fr.alloc ?_ _ | refine Fr.drew ?_))
 case hb => simp
 rintro en w2 ⟨rfl, hfa⟩
 focus go_wp2_with fail
 refine hK.out _ _ ?hS1 (fun hHeld => ?_)
 case hS1 =>
  try dsimp only
  (first | exact ⟨k0, k1, k2, k3⟩ | (refine ⟨cell_fr (F := []) ?f k0 (by simp), cell_fr (F := []) ?f k1 (by simp), cell_fr (F := []) ?f k2 (by simp), cell_fr (F := []) ?f k3 (by simp)⟩; case f => (repeat (with_reducible first | exact Fr.refl _ _ | refine Fr.same ?_ hfb | refine Fr.same ?_ hfa | refine Fr.alloc ?_ _ | refine Fr.drew ?_))))
 clear hK K
 try simp only [pE0, pE1, pE2, pE3, pE4, pE5, pE6]
 refine wpAnyL_ready (rs := [16]) (by kernel_rfl) (by simp) ?_
 refine AllReadyL.cons rfl (fun K hK => ?_) AllReadyL.nil
 go_simp
 go_at_call 302
 refine (emanyOneA (H.fr0 irokA ?ff) 3 (by decide) HN3.out (Rd.one (W0 := w1) (T := 3) 3 3 rfl ?fg ?hb)).mono ?_
 case ff => (repeat (with_reducible first | exact Fr.refl _ _ | refine Fr.same ?_ hfb | refine Fr.same ?_ hfa | refine Fr.alloc ?_ _ | refine Fr.drew ?_))
 case fg => (repeat (with_reducible first | exact Fr.refl _ _ | refine Fr.same ?_ hfb | refine Fr.same ?_ hfa | refine Fr.alloc ?_ _ | refine Fr.drew ?_))
 case hb => simp
 rintro en w3 ⟨rfl, hfb⟩
 focus go_wp2_with fail
 refine hK.out _ _ ?hS1 (fun hHeld => ?_)
 case hS1 =>
  try dsimp only
  (first | exact ⟨k0, k1, k2, k3⟩ | (refine ⟨cell_fr (F := []) ?f k0 (by simp), cell_fr (F := []) ?f k1 (by simp), cell_fr (F := []) ?f k2 (by simp), cell_fr (F := []) ?f k3 (by simp)⟩; case f => (repeat (with_reducible first | exact Fr.refl _ _ | refine Fr.same ?_ hfb | refine Fr.same ?_ hfa | refine Fr.alloc ?_ _ | refine Fr.drew ?_))))
 clear hK K
 try simp only [pE0, pE1, pE2, pE3, pE4, pE5, pE6]
 have hnw : Fr [] w1 w3 := ?hnw
 case hnw => (repeat (with_reducible first | exact Fr.refl _ _ | refine Fr.same ?_ hfb | refine Fr.same ?_ hfa | refine Fr.alloc ?_ _ | refine Fr.drew ?_))
 have zf := (H.fr0 irokA hnw).fz 3
 refine tkL 17 (v := ?_) rfl (Or.inl ⟨by rfl, ?hy⟩) ?_
 case hy => intro w hSw; (try dsimp only at hSw); go_simp; try with_reducible rfl
 try simp only [pE0, pE1, pE2, pE3, pE4, pE5, pE6]
 rw [HQ.out]
 refine tkL 18 (v := ?_) rfl (Or.inl ⟨by rfl, ?hy⟩) ?_
 case hy => intro w hSw; (try dsimp only at hSw); go_simp; try with_reducible rfl
 try simp only [pE0, pE1, pE2, pE3, pE4, pE5, pE6]
 rw [HMX.out]
 refine tkL 19 (v := ?_) rfl (Or.inl ⟨by rfl, ?hy⟩) ?_
 case hy => intro w hSw; (try dsimp only at hSw); go_simp; try with_reducible rfl
 try simp only [pE0, pE1, pE2, pE3, pE4, pE5, pE6]
 rw [HAD.out]
 refine tkL 20 (v := ?_) rfl (Or.inl ⟨by rfl, ?hy⟩) ?_
 case hy => intro w hSw; (try dsimp only at hSw); go_simp; try with_reducible rfl
 try simp only [pE0, pE1, pE2, pE3, pE4, pE5, pE6]
 rw [HMN.out]
 refine wpAnyL_ready (rs := [21]) (by kernel_rfl) (by simp) ?_
 refine AllReadyL.cons rfl (fun K hK => ?_) AllReadyL.nil
 go_simp
 refine hK.out _ _ ?hS1 (fun hHeld => ?_)
 case hS1 =>
  try dsimp only
  (first | exact ⟨k0, k1, k2, k3⟩ | (refine ⟨cell_fr (F := []) ?f k0 (by simp), cell_fr (F := []) ?f k1 (by simp), cell_fr (F := []) ?f k2 (by simp), cell_fr (F := []) ?f k3 (by simp)⟩; case f => (repeat (with_reducible first | exact Fr.refl _ _ | refine Fr.same ?_ hfb | refine Fr.same ?_ hfa | refine Fr.alloc ?_ _ | refine Fr.drew ?_))))
 clear hK K
 try simp only [pE0, pE1, pE2, pE3, pE4, pE5, pE6]
 refine tkL 22 (v := ?_) rfl (Or.inl ⟨by rfl, ?hy⟩) ?_
 case hy => intro w hSw; (try dsimp only at hSw); go_simp; try with_reducible rfl
 try simp only [pE0, pE1, pE2, pE3, pE4, pE5, pE6]
 refine wpAnyL_ready (rs := [23]) (by kernel_rfl) (by simp) ?_
 refine AllReadyL.last rfl (fun K hK => ?_)
 go_simp
 refine hK.out _ _ ?_
 clear hK K
 try simp only [pE0, pE1, pE2, pE3, pE4, pE5, pE6]
 refine wpAnyL_done (by kernel_rfl) ?_ _
 rotate_left
 all_goals
  have H2 := (H.fr0 irokA hnw).set irokA 1 (.int .i64 (p2 : Int))
  have hF2 : Fr F w (w3.setCell ⟨e, 3, none⟩ (.int .i64 (p2 : Int))) := (hF.same hnw).nil.setCell (by obtain ⟨F1, rfl, _⟩ := H; simp) _
  simp only [List.set_cons_succ, List.set_cons_zero, Nat.reduceAdd] at H2
  generalize w3.setCell ⟨e, 3, none⟩ (.int .i64 (p2 : Int)) = W at *
  have l0 := H2.k0
  have l1 := H2.k1
  have HP := Lib.hid (And.intro hF2 H2)
  clear H k0 k1 k2 k3 hF hnw zf hfa hfb hF2 H2
  go_wp2_with fail
  refine (areplaces HP.out.2 (by omega) hc (by omega) true).mono ?_
  rintro en w4 ⟨v, F4, rfl, hgo, H4, hs4, hg4, hd4⟩
  obtain ⟨va, vc, hv⟩ := hgo.1.form
  subst hv
  have htt := repl_tot K p2 c true
  have l0 := H4.k0
  have l1 := H4.k1
  have HG := Lib.hid (And.intro hgo (And.intro H4 (And.intro hs4 (And.intro hg4 hd4))))
  clear hgo H4 hs4 hg4 hd4
  go_wp2_with fail
  refine (epushA HG.out.2.1 (by omega) (r := 1) (by omega) key hz).mono ?_
  rintro en w5 ⟨rfl, heg⟩
  obtain ⟨hgo, H4, hs4, hg4, hd4⟩ := HG.out
  obtain ⟨F5, i1, i2, i3, i4, i5⟩ := GRet.then (F2 := []) hgo hs4 hg4 hd4 heg
  have HE := Lib.hid (And.intro i1 (And.intro i2 (And.intro i3 (And.intro i4 i5))))
  clear l0 l1 HG hgo H4 hs4 hg4 hd4 heg i1 i2 i3 i4 i5
  go_wp2
  go_ret2
  exact ⟨_, F5, rfl, HE.out.1.old HP.out.1.size, HE.out.2.1, (Sub.refl F w).fr HP.out.1 HE.out.2.2.1, HP.out.1.via (Sub.refl F w) HE.out.2.2.2.1, HE.out.2.2.2.2⟩
end
end Go.Proofs.YtphlancijlljcaaGreat
