/- Texts of a proof about the given program, those parts that this claim reaches. -/
import Derived.Test.YtfeicmpbfbhiiaaGreatPEg37
import Derived.Test.YtfeicmpbfbhiiaaGreatPEg25
import Derived.StillTailTactics
import Derived.Test.YtfeicmpbfbhiiaaGreatPEg34
set_option linter.unusedVariables false
set_option linter.unusedSimpArgs false
namespace Go.Proofs.YtfeicmpbfbhiiaaGreat
open Go.RowKit
open Act renaming put → pE0
open List renaming getElem_toArray → pE1, getElem_cons_succ → pE2, getElem_cons_zero → pE3, setIfInBounds_toArray → pE4, set_cons_zero → pE5, set_cons_succ → pE6
attribute [local go_sem ↓] Go.wp_at_zero Go.wp_at_succ
theorem conv1 (w : World) (n : Int) (t : TypeId) : (convert 161 9 (.slice (some ⟨w.heap.size, 0, none⟩) 1 1)).run Tryz.prog (w.alloc (.cells #[.int .u8 n] t)) = .ok (.string ⟨#[UInt8.ofNat n.toNat]⟩) (w.alloc (.cells #[.int .u8 n] t)) :=
 run_convert_bytes_arg (P := Tryz.prog) _ 161 5 (by kernel_rfl) (by kernel_rfl) w.heap.size 0 1 1 [n] rfl (fun i hi => by
  obtain rfl : i = 0 := by omega
  simp [go_sem]) 9 (by kernel_rfl)
theorem conv2 (w : World) (b : Nat) (n : Int) (h : w.cell? ⟨b, 0, none⟩ = some (.int .u8 n)) : (convert 161 9 (.slice (some ⟨b, 0, none⟩) 1 1)).run Tryz.prog w = .ok (.string ⟨#[UInt8.ofNat n.toNat]⟩) w :=
 run_convert_bytes_arg (P := Tryz.prog) _ 161 5 (by kernel_rfl) (by kernel_rfl) b 0 1 1 [n] rfl (fun i hi => by
  obtain rfl : i = 0 := by omega
  simpa using h) 9 (by kernel_rfl)
theorem itB_one {n : Nat} (h : n < 10) : itB n = ⟨#[UInt8.ofNat (48 + n)]⟩ := by
 unfold itB; rw [Lib.decDigits]; simp [h]
theorem itB_two {n : Nat} (h : ¬ n < 10) (h2 : n < 100) : itB n = ⟨#[UInt8.ofNat (48 + n / 10)]⟩ ++ ⟨#[UInt8.ofNat (48 + n % 10)]⟩ := by
 unfold itB
 rw [Lib.decDigits]
 rw [Lib.decDigits]
 have : n / 10 < 10 := by omega
 simp only [h, this, dif_pos, dif_neg, not_false_eq_true]
 rfl
set_option maxRecDepth 100000 in
theorem digits1 (w : World) (n : Nat) (hn : n < 10) : Calls Tryz.prog 125 #[.int .i64 (n : Nat)] w fun en w' => en = .returned (.string ⟨#[UInt8.ofNat (48 + n)]⟩) ∧ Fr [] w w' := by
 have q1 : (n : Int) < 10 := by omega
 have e1 : IntKind.i64.wrap (48 + (n : Int)) = ((48 + n : Nat) : Int) := by rw [IntWalk.i64_in _ (by omega)]; omega
 have e2 : IntKind.u8.wrap ((48 + n : Nat) : Int) = ((48 + n : Nat) : Int) := IntWalk.u8_in _ (by omega)
 obtain ⟨m, hm⟩ : ∃ m : Int, m = ((48 + n : Nat) : Int) := ⟨_, rfl⟩
 rw [← hm] at e1 e2
 have hc := conv1
 go_enter Tryz.func125, Tryz.ntmps125
 go_wp2
 go_ret
 subst hm
 exact ⟨rfl, (Fr.refl [] w).alloc _⟩
set_option maxHeartbeats 400000 in
set_option maxRecDepth 100000 in
theorem digits2 (w : World) (n : Nat) (hn : n < 100) : Calls Tryz.prog 125 #[.int .i64 (n : Nat)] w fun en w' => en = .returned (.string (itB n)) ∧ Fr [] w w' := by
 by_cases h10 : n < 10
 ·rw [itB_one h10]; exact digits1 w n h10
 have e0 : (n : Int) / 10 = ((n / 10 : Nat) : Int) := by omega
 have e1 : (n : Int) % 10 = ((n % 10 : Nat) : Int) := by omega
 have q1 : ¬ (n : Int) < 10 := by omega
 have HD : Hid (∀ W, Calls Tryz.prog 125 #[.int .i64 (n / 10 : Nat)] W fun en w' => en = .returned (.string ⟨#[UInt8.ofNat (48 + n / 10)]⟩) ∧ Fr [] W w') := fun W => digits1 W _ (by omega)
 rw [itB_two h10 hn]
 have e2 : IntKind.i64.wrap (48 + ((n % 10 : Nat) : Int)) = ((48 + n % 10 : Nat) : Int) := by rw [IntWalk.i64_in _ (by omega)]; omega
 have e3 : IntKind.u8.wrap ((48 + n % 10 : Nat) : Int) = ((48 + n % 10 : Nat) : Int) := IntWalk.u8_in _ (by omega)
 have e4 : IntKind.i64.wrap (((n / 10 : Nat) : Int)) = ((n / 10 : Nat) : Int) := IntWalk.i64_in _ (by omega)
 have e5 : IntKind.i64.wrap (((n % 10 : Nat) : Int)) = ((n % 10 : Nat) : Int) := IntWalk.i64_in _ (by omega)
 have hdv : (n : Int).tdiv 10 = ((n / 10 : Nat) : Int) := by rw [Int.tdiv_eq_ediv_of_nonneg (by omega)]; omega
 have hmd : (n : Int).tmod 10 = ((n % 10 : Nat) : Int) := by rw [Int.tmod_eq_emod_of_nonneg (by omega)]; omega
 generalize n / 10 = d at *
 generalize n % 10 = r at *
 obtain ⟨m, hm⟩ : ∃ m : Int, m = ((48 + r : Nat) : Int) := ⟨_, rfl⟩
 have hc : Hid (∀ w b, w.cell? ⟨b, 0, none⟩ = some (.int .u8 m) → (convert 161 9 (.slice (some ⟨b, 0, none⟩) 1 1)).run Tryz.prog w = .ok (.string ⟨#[UInt8.ofNat (48 + r)]⟩) w) := fun w b h => by
  rw [conv2 w b m h, hm]; rfl
 rw [← hm] at e2 e3
 clear hm
 obtain ⟨A, hA⟩ : ∃ x : ByteArray, ⟨#[UInt8.ofNat (48 + d)]⟩ = x := ⟨_, rfl⟩
 obtain ⟨B, hB⟩ : ∃ x : ByteArray, ⟨#[UInt8.ofNat (48 + r)]⟩ = x := ⟨_, rfl⟩
 have qs : ¬ 9223372036854775807 < A.size + B.size := by rw [← hA, ← hB]; show ¬ 9223372036854775807 < 1 + 1; decide
 rw [hA] at HD ⊢
 rw [hB] at hc ⊢
 clear hA hB
 go_enter Tryz.func125, Tryz.ntmps125
 go_wp2_with fail
 refine wp_region_inv (fun j v wz => match j with | 0 | 3 => v = .int .i64 (n : Nat) | 1 => v = .int .i64 (d : Nat) | 2 => v = .string A | 4 => v = .int .i64 (r : Nat) | 5 => v = .int .i64 m | 6 => v = .int .u8 m | 7 => ∃ b, v = .slice (some ⟨b, 0, none⟩) 1 1 ∧ wz.cell? ⟨b, 0, none⟩ = some (.int .u8 m) | 8 => v = .string B | 9 | 10 => v = .string (A ++ B) | _ => True) (fun _ wz => Hid (Fr [] w wz)) (fun a b => Fr [] a b) (by kernel_rfl) (by kernel_rfl) (by kernel_rfl) ?hst ((Fr.refl [] _).drew) ?hops ?hfin
 case hst =>
  intro j v a b h f
  split at h <;> first | exact h | exact ⟨h.choose, h.choose_spec.1, cell_fr f h.choose_spec.2 (by simp)⟩
 case hops =>
  repeat' (first | exact OpsOk.nil | refine OpsOk.cons ?_ ?_)
  all_goals try exact rgT
  ·skip
   intro D X w' K hD hcl hS hI hK
   simp only [afterI, Region.binds, forall_const] at hI
   simp only [putL, pE0, pE1, pE4, pE5, pE6, Nat.reduceAdd, up, Nat.reduceEqDiff, if_true, if_false, reduceIte] at hK ⊢
   try simp only [hI] at hK
   go_simp
   refine (HD.out _).mono ?_
   rintro en w3 ⟨rfl, f3⟩
   exact hK.out _ _ rfl (hS.out.same f3) f3
  ·skip
   intro D X w' K hD hcl hS hI hK
   simp only [afterI, Region.binds, forall_const] at hI
   simp only [putL, pE0, pE1, pE4, pE5, pE6, Nat.reduceAdd, up, Nat.reduceEqDiff, if_true, if_false, reduceIte] at hK ⊢
   try simp only [hI] at hK
   go_simp
   exact hK.out _ _ ⟨_, rfl, by simp [go_sem]⟩ (hS.out.alloc _) ((Fr.refl [] _).alloc _)
  ·skip
   intro D X w' K hD hcl hS hI hK
   simp only [afterI, Region.binds, forall_const] at hI
   simp only [putL, pE0, pE1, pE4, pE5, pE6, Nat.reduceAdd, up, Nat.reduceEqDiff, if_true, if_false, reduceIte] at hK ⊢
   try simp only [hI] at hK
   obtain ⟨⟨b, hx, hb⟩, _⟩ := hI
   rw [hx] at hK ⊢
   have hcc := hc.out _ _ hb
   go_simp
   exact hK.out _ _ rfl hS (Fr.refl _ _)
 case hfin =>
  intro D X wa hS hD hI
  simp only [putL, pE0, pE1, pE4, pE5, pE6, Nat.reduceAdd]
  have h10 : X 10 = .string (A ++ B) := hI 10 (by decide)
  rw [h10]
  have HFW := hS
  clear h10 hS hD hI
  go_wp2
  go_ret
  exact ⟨rfl, HFW.out⟩
end Go.Proofs.YtfeicmpbfbhiiaaGreat
set_option linter.unusedVariables false
set_option linter.unusedSimpArgs false
namespace Go.Proofs.YtfeicmpbfbhiiaaGreat
open Go.RowKit
open Act renaming put → pE0
open List renaming getElem_toArray → pE1, getElem_cons_succ → pE2, getElem_cons_zero → pE3, setIfInBounds_toArray → pE4, set_cons_zero → pE5, set_cons_succ → pE6
attribute [local go_sem ↓] Go.wp_at_zero Go.wp_at_succ
theorem joinB_five (a b c d e s : ByteArray) : joinB [a, b, c, d, e] s = a ++ s ++ b ++ s ++ c ++ s ++ d ++ s ++ e := by
 have h1 := joinB_snoc a [b, c, d] e s
 have h2 := joinB_snoc a [b, c] d s
 have h3 := joinB_three a b c s
 simp only [List.nil_append, List.cons_append] at h1 h2
 rw [h1, h2, h3]
set_option maxHeartbeats 4000000 in
set_option maxRecDepth 100000 in
theorem r10state {w : World} {e : Nat} {F : List Nat} {s : Arc} (H : RE10 w e F s) (hp : s.p < 100) (hs : ∀ i, Short 10000 (s.K i)) : Calls Tryz.prog 65 #[ptr e] w fun en w' => en = .returned (.string s.text) ∧ Fr [] w w' := by
 have hlen := H.1.len
 obtain ⟨_, V, h⟩ := H
 obtain ⟨a0, n0, c0, a1, n1, c1, a2, n2, c2, a3, n3, c3, hn0, hn1, hn2, hn3, h⟩ := h.lit (by decide)
 have HP : Hid (∀ W, Calls Tryz.prog 125 #[.int .i64 (s.p : Nat)] W fun en w' => en = .returned (.string (itB s.p)) ∧ Fr [] W w') := fun W => digits2 W _ hp
 have HT0 := Lib.hid fun W (f : Fr [] w W) => ftextA (SS.fr0 (h.s 0 (by decide)) f) (Nat.le_trans (hlen 0) (by decide)) (hs 0) ⟨#[84, 49]⟩ (by decide)
 have hz0 := text_size (name := ⟨#[84, 49]⟩) (by decide) (hs 0) (Nat.le_trans (hlen 0) (by decide))
 have k0 := h.k (i := 0) (by decide)
 have HT1 := Lib.hid fun W (f : Fr [] w W) => ftextA (SS.fr0 (h.s 1 (by decide)) f) (Nat.le_trans (hlen 1) (by decide)) (hs 1) ⟨#[84, 50]⟩ (by decide)
 have hz1 := text_size (name := ⟨#[84, 50]⟩) (by decide) (hs 1) (Nat.le_trans (hlen 1) (by decide))
 have k1 := h.k (i := 1) (by decide)
 have HT2 := Lib.hid fun W (f : Fr [] w W) => ftextA (SS.fr0 (h.s 2 (by decide)) f) (Nat.le_trans (hlen 2) (by decide)) (hs 2) ⟨#[66, 49]⟩ (by decide)
 have hz2 := text_size (name := ⟨#[66, 49]⟩) (by decide) (hs 2) (Nat.le_trans (hlen 2) (by decide))
 have k2 := h.k (i := 2) (by decide)
 have HT3 := Lib.hid fun W (f : Fr [] w W) => ftextA (SS.fr0 (h.s 3 (by decide)) f) (Nat.le_trans (hlen 3) (by decide)) (hs 3) ⟨#[66, 50]⟩ (by decide)
 have hz3 := text_size (name := ⟨#[66, 50]⟩) (by decide) (hs 3) (Nat.le_trans (hlen 3) (by decide))
 have k3 := h.k (i := 3) (by decide)
 have k4 := h.kr 0 rfl
 unfold Arc.text
 have hzp : (itB s.p).size ≤ 100 := by
  unfold itB
  rw [Lib.size_eq]
  show (Lib.decDigits s.p).length ≤ 100
  exact Nat.le_trans (decDigits_le s.p hp) (by decide)
 obtain ⟨t0, ht0⟩ : ∃ t, textB ⟨#[84, 49]⟩ (s.K 0) = t := ⟨_, rfl⟩
 obtain ⟨t1, ht1⟩ : ∃ t, textB ⟨#[84, 50]⟩ (s.K 1) = t := ⟨_, rfl⟩
 obtain ⟨t2, ht2⟩ : ∃ t, textB ⟨#[66, 49]⟩ (s.K 2) = t := ⟨_, rfl⟩
 obtain ⟨t3, ht3⟩ : ∃ t, textB ⟨#[66, 50]⟩ (s.K 3) = t := ⟨_, rfl⟩
 obtain ⟨ip, hip⟩ : ∃ t, itB s.p = t := ⟨_, rfl⟩
 rw [ht0] at hz0 HT0 ⊢
 rw [ht1] at hz1 HT1 ⊢
 rw [ht2] at hz2 HT2 ⊢
 rw [ht3] at hz3 HT3 ⊢
 rw [hip] at hzp HP ⊢
 rw [joinB_five, ← ba_assoc, ba_assoc _ ⟨#[59]⟩ ⟨#[112, 58, 32]⟩]
 show Calls _ _ _ _ fun en w' => en = .returned (.string (t0 ++ ⟨#[59]⟩ ++ t1 ++ ⟨#[59]⟩ ++ t2 ++ ⟨#[59]⟩ ++ t3 ++ ⟨#[59, 112, 58, 32]⟩ ++ ip)) ∧ _
 have q0 : ¬ 9223372036854775807 < t0.size + 1 := by omega
 have q1 : ¬ 9223372036854775807 < t0.size + 1 + t1.size := by omega
 have q2 : ¬ 9223372036854775807 < t0.size + 1 + t1.size + 1 := by omega
 have q3 : ¬ 9223372036854775807 < t0.size + 1 + t1.size + 1 + t2.size := by omega
 have q4 : ¬ 9223372036854775807 < t0.size + 1 + t1.size + 1 + t2.size + 1 := by omega
 have q5 : ¬ 9223372036854775807 < t0.size + 1 + t1.size + 1 + t2.size + 1 + t3.size := by omega
 have q6 : ¬ 9223372036854775807 < t0.size + 1 + t1.size + 1 + t2.size + 1 + t3.size + 4 := by omega
 have q7 : ¬ 9223372036854775807 < t0.size + 1 + t1.size + 1 + t2.size + 1 + t3.size + 4 + ip.size := by omega
 simp only [V4] at k0 k1 k2 k3 HT0 HT1 HT2 HT3
 obtain ⟨p, hp2⟩ : ∃ c, s.p = c := ⟨_, rfl⟩
 rw [hp2] at k4 HP
 clear h hs hlen hn0 hn1 hn2 hn3 ht0 ht1 ht2 ht3 hip hp2 hp hz0 hz1 hz2 hz3 hzp
 go_enter Tryz.func65, Tryz.ntmps65
 go_wp2_with fail
 refine wp_region_inv (fun j v wz => match j with | 0 | 1 | 6 | 7 | 13 | 14 | 20 | 21 | 27 | 28 => v = ptr e | 2 => v = .pointer (some ⟨e, 0, none⟩) | 8 => v = .pointer (some ⟨e, 1, none⟩) | 15 => v = .pointer (some ⟨e, 2, none⟩) | 22 => v = .pointer (some ⟨e, 3, none⟩) | 29 => v = .pointer (some ⟨e, 4, none⟩) | 3 => v = .slice a0 n0 c0 | 9 => v = .slice a1 n1 c1 | 16 => v = .slice a2 n2 c2 | 23 => v = .slice a3 n3 c3 | 30 => v = .int .i64 (p : Nat) | 4 => v = .string t0 | 10 => v = .string t1 | 17 => v = .string t2 | 24 => v = .string t3 | 31 => v = .string ip | 5 => v = .string (t0 ++ ⟨#[59]⟩) | 11 => v = .string (t0 ++ ⟨#[59]⟩ ++ t1) | 12 => v = .string (t0 ++ ⟨#[59]⟩ ++ t1 ++ ⟨#[59]⟩) | 18 => v = .string (t0 ++ ⟨#[59]⟩ ++ t1 ++ ⟨#[59]⟩ ++ t2) | 19 => v = .string (t0 ++ ⟨#[59]⟩ ++ t1 ++ ⟨#[59]⟩ ++ t2 ++ ⟨#[59]⟩) | 25 => v = .string (t0 ++ ⟨#[59]⟩ ++ t1 ++ ⟨#[59]⟩ ++ t2 ++ ⟨#[59]⟩ ++ t3) | 26 => v = .string (t0 ++ ⟨#[59]⟩ ++ t1 ++ ⟨#[59]⟩ ++ t2 ++ ⟨#[59]⟩ ++ t3 ++ ⟨#[59, 112, 58, 32]⟩) | 32 | 33 => v = .string (t0 ++ ⟨#[59]⟩ ++ t1 ++ ⟨#[59]⟩ ++ t2 ++ ⟨#[59]⟩ ++ t3 ++ ⟨#[59, 112, 58, 32]⟩ ++ ip) | _ => True) (fun _ wz => (wz.cell? ⟨e, 0, none⟩ = some (.slice a0 n0 c0) ∧ wz.cell? ⟨e, 1, none⟩ = some (.slice a1 n1 c1) ∧ wz.cell? ⟨e, 2, none⟩ = some (.slice a2 n2 c2) ∧ wz.cell? ⟨e, 3, none⟩ = some (.slice a3 n3 c3) ∧ wz.cell? ⟨e, 4, none⟩ = some (.int .i64 (p : Nat))) ∧ Hid (Fr [] w wz)) (fun _ _ => True) (by kernel_rfl) (by kernel_rfl) (by kernel_rfl) (fun _ _ _ _ h _ => h) ⟨⟨k0, k1, k2, k3, k4⟩, (Fr.refl [] _).drew⟩ ?hops ?hfin
 case hops =>
  repeat' (first | exact OpsOk.nil | refine OpsOk.cons ?_ ?_)
  all_goals try exact rgT
  ·skip
   intro D X w' K hD hcl hS hI hK
   simp only [afterI, Region.binds, forall_const] at hI
   simp only [putL, pE0, pE1, pE4, pE5, pE6, Nat.reduceAdd, up, Nat.reduceEqDiff, if_true, if_false, reduceIte] at hK ⊢
   try simp only [hI] at hK
   go_simp
   refine (HT0.out _ hS.2.out).mono ?_
   rintro en w3 ⟨rfl, rfl⟩
   exact hK.out _ _ rfl hS trivial
  ·skip
   intro D X w' K hD hcl hS hI hK
   simp only [afterI, Region.binds, forall_const] at hI
   simp only [putL, pE0, pE1, pE4, pE5, pE6, Nat.reduceAdd, up, Nat.reduceEqDiff, if_true, if_false, reduceIte] at hK ⊢
   try simp only [hI] at hK
   go_simp
   refine (HT1.out _ hS.2.out).mono ?_
   rintro en w3 ⟨rfl, rfl⟩
   exact hK.out _ _ rfl hS trivial
  ·skip
   intro D X w' K hD hcl hS hI hK
   simp only [afterI, Region.binds, forall_const] at hI
   simp only [putL, pE0, pE1, pE4, pE5, pE6, Nat.reduceAdd, up, Nat.reduceEqDiff, if_true, if_false, reduceIte] at hK ⊢
   try simp only [hI] at hK
   go_simp
   refine (HT2.out _ hS.2.out).mono ?_
   rintro en w3 ⟨rfl, rfl⟩
   exact hK.out _ _ rfl hS trivial
  ·skip
   intro D X w' K hD hcl hS hI hK
   simp only [afterI, Region.binds, forall_const] at hI
   simp only [putL, pE0, pE1, pE4, pE5, pE6, Nat.reduceAdd, up, Nat.reduceEqDiff, if_true, if_false, reduceIte] at hK ⊢
   try simp only [hI] at hK
   go_simp
   refine (HT3.out _ hS.2.out).mono ?_
   rintro en w3 ⟨rfl, rfl⟩
   exact hK.out _ _ rfl hS trivial
  ·skip
   intro D X w' K hD hcl hS hI hK
   simp only [afterI, Region.binds, forall_const] at hI
   simp only [putL, pE0, pE1, pE4, pE5, pE6, Nat.reduceAdd, up, Nat.reduceEqDiff, if_true, if_false, reduceIte] at hK ⊢
   try simp only [hI] at hK
   go_simp
   refine (HP.out _).mono ?_
   rintro en w3 ⟨rfl, f3⟩
   exact hK.out _ _ rfl ⟨⟨cell_fr f3 hS.1.1 (by simp), cell_fr f3 hS.1.2.1 (by simp), cell_fr f3 hS.1.2.2.1 (by simp), cell_fr f3 hS.1.2.2.2.1 (by simp), cell_fr f3 hS.1.2.2.2.2 (by simp)⟩, hS.2.out.same f3⟩ trivial
 case hfin =>
  intro D X wa hS hD hI
  simp only [putL, pE0, pE1, pE4, pE5, pE6, Nat.reduceAdd]
  have h33 : X 33 = _ := hI 33 (by decide)
  rw [h33]
  have HFW := hS.2
  clear h33 hS hD hI
  go_wp2
  go_ret
  exact ⟨rfl, HFW.out⟩
end Go.Proofs.YtfeicmpbfbhiiaaGreat
set_option linter.unusedVariables false
set_option linter.unusedSimpArgs false
namespace Go.Proofs.YtfeicmpbfbhiiaaGreat
open Go.RowKit
open Act renaming put → pE0
open List renaming getElem_toArray → pE1, getElem_cons_succ → pE2, getElem_cons_zero → pE3, setIfInBounds_toArray → pE4, set_cons_zero → pE5, set_cons_succ → pE6
attribute [local go_sem ↓] Go.wp_at_zero Go.wp_at_succ
def cellT (x : ByteArray × Nat) : ByteArray := x.1 ++ ⟨#[47]⟩ ++ ⟨#[UInt8.ofNat (48 + x.2)]⟩
set_option maxHeartbeats 1000000 in
set_option maxRecDepth 100000 in
theorem ftextS {w : World} {v : Value} {l : List (ByteArray × Nat)} (h : RowAt w v (cellR12 l)) (hl : l.length ≤ 5000) (hs : Short 10000 (l.map cellT)) (hn3 : ∀ x ∈ l, x.2 ≤ 3) (name : ByteArray) (hnm : name.size ≤ 100) :
  Calls Tryz.prog 128 #[.string name, v] w fun en w' => en = .returned (.string (textB name (l.map cellT))) ∧ Fr [] w w' := by
 have H := Lib.hid h
 obtain ⟨a, c, hv⟩ := Sl.form h
 obtain ⟨n, hn⟩ : ∃ n, l.length = n := ⟨_, rfl⟩
 have HN : Hid (l.length = n) := hn
 replace hv : v = .slice a n c := by rw [hv, ← hn]
 have HSH := Lib.hid hs
 have HN3 := Lib.hid hn3
 rw [hn] at hl
 subst hv
 have q0 : ¬ 9223372036854775807 < name.size + 1 := by omega
 have hnil := textB_nil name
 have HNIL := Lib.hid hnil
 clear h hn hs hnil hn3
 go_enter Tryz.func128, Tryz.ntmps128
 go_wp2
 go_loopw [5, 6] (fun u5 u6 wr => ∃ (j : Nat) (t : ByteArray), j ≤ n ∧ u6 = .int .i64 j ∧ u5 = .string t ∧ Hid (Fr [] w wr) ∧ Hid (t = textB name ((l.map cellT).take j))) (fun _ u6 _ => n - (intOf u6).toNat)
 case atStart => exact ⟨0, _, Nat.zero_le _, rfl, rfl, Fr.refl _ _, by rw [List.take_zero]; exact HNIL.out.symm⟩
 case round =>
  obtain ⟨j, t, hj, rfl, rfl, hF, hT⟩ := hrel
  by_cases hlt : j < n
  ·have hjl : j < l.length := by rw [HN.out]; exact hlt
   have hjm : j < (l.map cellT).length := by rw [List.length_map]; exact hjl
   obtain ⟨g, o, rfl, x0, x1⟩ := cell12_at H.out hjl
   have hts : t.size ≤ 100000000 := by
    rw [hT.out]
    exact text_size hnm (fun k hk => HSH.out k (List.mem_of_mem_take hk)) (by rw [List.length_take, List.length_map]; omega)
   have hks : (l.map cellT)[j].size ≤ 10000 := HSH.out _ (List.getElem_mem hjm)
   have h3 := HN3.out _ (List.getElem_mem hjl)
   have HSN : Hid (textB name ((l.map cellT).take (j + 1)) = t ++ ⟨#[32]⟩ ++ (l.map cellT)[j]) := by
    show _ = _
    rw [List.take_add_one, List.getElem?_eq_getElem hjm]
    show textB name ((l.map cellT).take j ++ [(l.map cellT)[j]]) = _
    rw [textB_snoc, ← hT.out]
   rw [List.getElem_map] at hks HSN
   obtain ⟨x, hx⟩ : ∃ x, l[j] = x := ⟨_, rfl⟩
   rw [hx] at x0 x1 HSN hks h3
   obtain ⟨k, m⟩ := x
   simp only [cellT] at hks HSN
   obtain ⟨B, hB⟩ : ∃ x : ByteArray, ⟨#[UInt8.ofNat (48 + m)]⟩ = x := ⟨_, rfl⟩
   have hBs : B.size = 1 := by rw [← hB]; rfl
   rw [hB] at hks HSN
   rw [ByteArray.size_append, ByteArray.size_append] at hks
   have e2 : IntKind.i64.wrap (48 + (m : Int)) = ((48 + m : Nat) : Int) := by rw [IntWalk.i64_in _ (by omega)]; omega
   have e3 : IntKind.u8.wrap ((48 + m : Nat) : Int) = ((48 + m : Nat) : Int) := IntWalk.u8_in _ (by omega)
   obtain ⟨z, hz⟩ : ∃ z : Int, z = ((48 + m : Nat) : Int) := ⟨_, rfl⟩
   have hc : Hid (∀ w b, w.cell? ⟨b, 0, none⟩ = some (.int .u8 z) → (convert 161 9 (.slice (some ⟨b, 0, none⟩) 1 1)).run Tryz.prog w = .ok (.string B) w) := fun w b h => by
    rw [conv2 w b z h, hz, ← hB]; rfl
   rw [← hz] at e2 e3
   have q1 : (j : Int) < (n : Int) := by omega
   have q2 : ¬ 9223372036854775807 < t.size + 1 := by omega
   have q3 : ¬ 9223372036854775807 < t.size + 1 + k.size := by omega
   have q4 : ¬ 9223372036854775807 < t.size + 1 + k.size + 1 := by omega
   have q5 : ¬ 9223372036854775807 < t.size + 1 + k.size + 1 + B.size := by omega
   replace x0 := cell_fr hF.out x0 (by simp)
   replace x1 := cell_fr hF.out x1 (by simp)
   simp only at x0 x1
   clear hx hz hB hBs hks h3
   go_wp2_with fail
   refine wp_region_invY (fun j2 v wz => match j2 with | 0 => v = .string t | 1 => v = .string (t ++ ⟨#[32]⟩) | 2 | 9 => v = .slice (some ⟨g, o, none⟩) n c | 3 | 10 => v = .int .i64 (j : Nat) | 4 | 11 => v = .pointer (some ⟨g, o + j * 2, none⟩) | 5 => v = .pointer (some ⟨g, o + j * 2, none⟩) | 12 => v = .pointer (some ⟨g, o + j * 2 + 1, none⟩) | 6 => v = .string k | 7 => v = .string (t ++ ⟨#[32]⟩ ++ k) | 8 => v = .string (t ++ ⟨#[32]⟩ ++ k ++ ⟨#[47]⟩) | 13 => v = .int .i64 (m : Nat) | 14 => v = .int .i64 z | 15 => v = .int .u8 z | 16 => ∃ b, v = .slice (some ⟨b, 0, none⟩) 1 1 ∧ wz.cell? ⟨b, 0, none⟩ = some (.int .u8 z) | 17 => v = .string B | 18 | 19 => v = .string (t ++ ⟨#[32]⟩ ++ k ++ ⟨#[47]⟩ ++ B) | _ => True) (fun D X wz => (D 19 = false → X 19 = .string t) ∧ (wz.cell? ⟨g, o + j * 2, none⟩ = some (.string k) ∧ wz.cell? ⟨g, o + j * 2 + 1, none⟩ = some (.int .i64 (m : Nat))) ∧ Hid (Fr [] w wz)) (fun a b => Fr [] a b) (by kernel_rfl) (by kernel_rfl) (by kernel_rfl) ?hst ?hS ?hops ?hfin
   case hS =>
    intro X hX
    refine ⟨fun _ => ?_, ⟨x0, x1⟩, hF.out.drew⟩
    simp only [putL, pE0, pE1, pE4, pE5, pE6, Nat.reduceAdd] at hX
    have h5 := congrArg (fun b : Act => b.tmps[5]?) hX
    simpa using h5.symm
   case hst =>
    intro j v a b h f
    split at h <;> first | exact h | exact ⟨h.choose, h.choose_spec.1, cell_fr f h.choose_spec.2 (by simp)⟩
   case hops =>
    repeat' (first | exact OpsOkX.nil | refine OpsOkX.cons ?_ ?_)
    all_goals try exact rgTX
    ·skip
     intro D X w' K hD hcl hS hA hI hK
     have x19 := hS.1 (hcl.not hD 19 (by kernel_rfl))
     simp only [putL, pE0, pE1, pE4, pE5, pE6, Nat.reduceAdd, up, Nat.reduceEqDiff, if_true, if_false, reduceIte] at hK ⊢
     rw [x19] at hK ⊢
     go_simp
     exact hK.out _ _ rfl ⟨fun _ => rfl, hS.2⟩ (Fr.refl _ _)
    ·skip
     intro D X w' K hD hcl hS hA hI hK
     simp only [afterI, Region.binds, forall_const] at hI
     simp only [putL, pE0, pE1, pE4, pE5, pE6, Nat.reduceAdd, up, Nat.reduceEqDiff, if_true, if_false, reduceIte] at hK ⊢
     try simp only [hI] at hK
     go_simp
     exact hK.out _ _ ⟨_, rfl, by simp [go_sem]⟩ ⟨hS.1, ⟨cell_fr ((Fr.refl [] _).alloc _) hS.2.1.1 (by simp), cell_fr ((Fr.refl [] _).alloc _) hS.2.1.2 (by simp)⟩, hS.2.2.out.alloc _⟩ ((Fr.refl [] _).alloc _)
    ·skip
     intro D X w' K hD hcl hS hA hI hK
     simp only [afterI, Region.binds, forall_const] at hI
     simp only [putL, pE0, pE1, pE4, pE5, pE6, Nat.reduceAdd, up, Nat.reduceEqDiff, if_true, if_false, reduceIte] at hK ⊢
     obtain ⟨⟨b, hx, hb⟩, _⟩ := hI
     rw [hx] at hK ⊢
     have hcc := hc.out _ _ hb
     go_simp
     exact hK.out _ _ rfl hS (Fr.refl _ _)
    ·skip
     intro D X w' K hD hcl hS hA hI hK
     simp only [afterI, Region.binds, forall_const] at hI
     simp only [putL, pE0, pE1, pE4, pE5, pE6, Nat.reduceAdd, up, Nat.reduceEqDiff, if_true, if_false, reduceIte] at hK ⊢
     try simp only [hI] at hK
     go_simp
     exact hK.out _ _ rfl ⟨(fun h => Bool.noConfusion (show true = false from h)), hS.2⟩ (Fr.refl _ _)
   case hfin =>
    intro D X wa hS hD hI
    simp only [putL, pE0, pE1, pE4, pE5, pE6, Nat.reduceAdd]
    have h19 : X 19 = _ := hI 19 (by decide)
    rw [h19]
    have HFW := hS.2.2
    clear h19 hS hD hI
    go_wp2
    exact ⟨⟨j + 1, _, by omega, by go_num, rfl, HFW, by show _ = _; rw [HSN.out, ← ba_assoc, ← ba_assoc]⟩, by simp [intOf]; omega⟩
  ·have : n = j := by omega
   subst this
   go_wp2
   go_ret
   have hT := hT.out
   rw [← HN.out, ← List.length_map (f := cellT), List.take_length] at hT
   exact ⟨by rw [← hT]; rfl, hF.out⟩
end Go.Proofs.YtfeicmpbfbhiiaaGreat
