/- Package sample, walked; a panel's shadows in memory. -/
import Derived.Test.YtphlancijlljcaaGreatHeavy
set_option linter.unusedVariables false
set_option linter.unusedSimpArgs false
namespace Go.Proofs.YtphlancijlljcaaGreat
open Go.RowKit
attribute [local go_sem ↓] Go.wp_at_zero Go.wp_at_succ
def SaB (w : World) (p : Nat) (rate all taken : Nat) : Prop := w.heap[p]? = some (.cells #[.int .i64 rate, .int .i64 all, .int .i64 taken] 168 (0, 0))
theorem SaB.cells {w : World} {p r a t : Nat} (h : SaB w p r a t) : w.cell? ⟨p, 0, none⟩ = some (.int .i64 r) ∧ w.cell? ⟨p, 1, none⟩ = some (.int .i64 a) ∧ w.cell? ⟨p, 2, none⟩ = some (.int .i64 t) := by
 have c := cell_of_block h
 exact ⟨(c 0).trans rfl, (c 1).trans rfl, (c 2).trans rfl⟩
def rateN (rate : Int) : Nat := (min (max rate 0) 16777216).toNat
theorem rateN_le (rate : Int) : rateN rate ≤ 16777216 := by unfold rateN; omega
theorem sanew (w : World) (rate : Int) (h0 : -9223372036854775808 ≤ rate) (h1 : rate ≤ 9223372036854775807) :
  Calls Tryz.prog 78 #[.int .i64 rate] w fun en w' => ∃ p, en = .returned (.pointer (some ⟨p, 0, none⟩)) ∧ SaB w' p (rateN rate) 0 0 ∧ w.heap.size ≤ p ∧ Fr [] w w' := by
 have hb := rateN_le rate
 have e : min (max rate 0) 16777216 = (rateN rate : Int) := by unfold rateN; omega
 obtain ⟨r, hr⟩ : ∃ r, rateN rate = r := ⟨_, rfl⟩
 rw [hr] at e hb ⊢
 have HC := Lib.hid fun W => fixClamp rate 0 16777216 h0 h1 (by omega) (by omega) (by omega) W
 rw [e] at HC
 clear e hr
 go_enter Tryz.func78, Tryz.ntmps78
 go_wp2_with fail
 refine (HC.out _).mono ?_
 rintro en w1 ⟨rfl, rfl⟩
 go_wp2
 go_ret
 exact ⟨w.heap.size, rfl, block_alloc_new _ _, Nat.le_refl _, (Fr.refl [] _).alloc _⟩
def takesB (key : ByteArray) (r : Nat) : Bool := decide (hashI 21 key % 16777216 < (r : Int))
set_option maxRecDepth 100000 in
theorem satakes {w : World} {p r a t : Nat} (H : SaB w p r a t) (key : ByteArray) (hk : key.size ≤ maxLen) {b : Bool} (hb : takesB key r = b) :
  Calls Tryz.prog 79 #[.pointer (some ⟨p, 0, none⟩), .string key] w fun en w' => en = .returned (.bool b) ∧ SaB w' p r (incN a) (bif b then incN t else t) ∧ Fr [p] w w' := by
 obtain ⟨k0, k1, k2⟩ := H.cells
 have zf := fun i => free_of_block H i
 have hh := hashI_bd 21 key
 obtain ⟨h, hhe⟩ : ∃ h, hashI 21 key = h := ⟨_, rfl⟩
 have HH := Lib.hid fun W => mix_hash 21 (by omega) (by omega) key hk W
 rw [hhe] at HH hh
 have HSM := Lib.hid fun W => mix_sampled h hh.1 hh.2 (r : Int) W
 have hbe : decide (h % 16777216 < (r : Int)) = b := by rw [← hb, ← hhe]; rfl
 rw [hbe] at HSM
 have hb1 := block_set_same H 1 (.int .i64 (incN a : Nat))
 have hf1 := (Fr.refl [p] w).setCell (p := ⟨p, 1, none⟩) (by simp) (.int .i64 (incN a : Nat))
 have HB := Lib.hid (And.intro hb1 hf1)
 clear H hb hhe hbe hb1 hf1
 cases b with
 | false =>
  go_enter Tryz.func79, Tryz.ntmps79
  go_wp2_with (go_at_call 132; refine (fixIncN _ _).mono ?_; rintro en w1 ⟨rfl, rfl⟩)
  go_quiet (first | (go_at_call 139; exact Calls.quiet_of_same ((HH.out _).mono fun _ _ h => ⟨h.1, h.2.symm⟩)) | (go_at_call 138; exact Calls.quiet_of_same ((HSM.out _).mono fun _ _ h => ⟨h.1, h.2.symm⟩)))
  go_wp2
  go_ret
  exact ⟨rfl, block_drewN (HB.out.1.trans rfl), HB.out.2.drewN _⟩
 | true =>
  go_enter Tryz.func79, Tryz.ntmps79
  go_wp2_with (go_at_call 132; refine (fixIncN _ _).mono ?_; rintro en w1 ⟨rfl, rfl⟩)
  go_quiet (first | (go_at_call 139; exact Calls.quiet_of_same ((HH.out _).mono fun _ _ h => ⟨h.1, h.2.symm⟩)) | (go_at_call 138; exact Calls.quiet_of_same ((HSM.out _).mono fun _ _ h => ⟨h.1, h.2.symm⟩)))
  go_wp2_with (go_at_call 132; refine (fixIncN _ _).mono ?_; rintro en w1 ⟨rfl, rfl⟩)
  go_ret
  refine ⟨rfl, ?_, ?_⟩
  ·show _ = _
   rw [block_set_same (block_drewN HB.out.1)]; rfl
  ·exact (HB.out.2.drewN _).setCell (by simp) _
def roomS (c : Int) (r : Nat) : Nat := max 1 ((min (max c 0) 1024).toNat * r / 16777216)
set_option maxRecDepth 100000 in
theorem saroom {w : World} {p r a t : Nat} (H : SaB w p r a t) (hr : r ≤ 16777216) (c : Int) (h0 : -9223372036854775808 ≤ c) (h1 : c ≤ 9223372036854775807) :
  Calls Tryz.prog 81 #[.pointer (some ⟨p, 0, none⟩), .int .i64 c] w fun en w' => en = .returned (.int .i64 (roomS c r : Nat)) ∧ Fr [] w w' := by
 obtain ⟨k0, k1, k2⟩ := H.cells
 obtain ⟨n, hn⟩ : ∃ n, (min (max c 0) 1024).toNat = n := ⟨_, rfl⟩
 have e : min (max c 0) 1024 = (n : Int) := by omega
 have hnb : n ≤ 1024 := by omega
 have HC := Lib.hid fun W => fixClamp c 0 1024 h0 h1 (by omega) (by omega) (by omega) W
 rw [e] at HC
 unfold roomS
 rw [hn]
 obtain ⟨x, hx⟩ : ∃ x, n * r = x := ⟨_, rfl⟩
 have hxb : x ≤ 1024 * 16777216 := by rw [← hx]; exact Nat.mul_le_mul hnb hr
 have hw : IntKind.i64.wrap ((n : Int) * (r : Int)) = (x : Int) := by
  have e : (n : Int) * (r : Int) = (x : Int) := by rw [← hx]; simp
  rw [e]
  simp [IntKind.wrap, IntKind.bits, IntKind.signed]
  omega
 rw [hx]
 obtain ⟨q, hq⟩ : ∃ q, x / 16777216 = q := ⟨_, rfl⟩
 have hw2 : IntKind.i64.wrap (Int.tdiv (x : Int) 16777216) = (q : Int) := by
  have e : Int.tdiv (x : Int) 16777216 = (q : Int) := by rw [← hq]; rfl
  rw [e]
  simp [IntKind.wrap, IntKind.bits, IntKind.signed]
  omega
 rw [hq]
 have HQ := Lib.hid hq
 clear H hn e hx hq
 go_enter Tryz.func81, Tryz.ntmps81
 go_wp2
 go_quiet ((go_at_call 127; exact Calls.quiet_of_same ((HC.out _).mono fun _ _ h => ⟨h.1, h.2.symm⟩)))
 go_wp2
 all_goals
  go_ret
  refine ⟨?_, (Fr.refl [] _).drewN _⟩
  have hq := HQ.out
  show Ending.returned (Value.int .i64 _) = Ending.returned (Value.int .i64 _)
  congr 2
  omega
end Go.Proofs.YtphlancijlljcaaGreat
