/- hoardlaw18: known, PanelOfNothing. -/
import Derived.Test.YtphlancijlljcaaGreatPanel3
import Derived.Test.YtphlancijlljcaaGreatLaw17n
set_option linter.unusedVariables false
set_option linter.unusedSimpArgs false
namespace Go.Proofs.YtphlancijlljcaaGreat
open Go.RowKit
attribute [local go_sem ↓] Go.wp_at_zero Go.wp_at_succ
section
variable {w w' : World} {p : Nat} {F : List Nat} {s : Shd}
theorem shr_total (h : ShRep w p F s) : Calls Tryz.prog 19 #[ptr p] w fun en w' => en = .returned s.tot.val ∧ Fr [] w w' := by
 obtain ⟨_, v, q, h1, _⟩ := h.split
 exact shtotal h1
theorem shr_epoch (h : ShRep w p F s) : Calls Tryz.prog 17 #[ptr p] w fun en w' => en = .returned s.ep.val ∧ ShRep w' p F { s with ep := Cts.zero } ∧ Fr F w w' := by
 obtain ⟨h0, v, q, h1, h2⟩ := h.split
 refine (shepoch h1).mono ?_
 rintro en w' ⟨rfl, hb, f⟩
 exact ⟨rfl, h2 _ _ _ hb f, f.mono (by intro b hb _; simp at hb; subst hb; exact h0)⟩
theorem shr_kind (h : ShRep w p F s) : Calls Tryz.prog 25 #[ptr p] w fun en w' => en = .returned (.int .i64 s.kind) ∧ w = w' := by
 obtain ⟨_, v, q, h1, _⟩ := h.split
 obtain ⟨k0, _⟩ := h1.cell
 clear h h1
 go_enter Tryz.func25, Tryz.ntmps25
 go_wp2
 go_ret
 exact ⟨rfl, rfl⟩
end
/-- Each shadow is the one that s names. -/
def RX (s : Nat → Shd) : PRel := fun k w q F => ShRep w q F (s k)
theorem rxok (s : Nat → Shd) : PROk (RX s) := ⟨fun h f d => ShRep.fr h f d, fun h => ShRep.lt h⟩
def accAll (s : Nat → Shd) (key : ByteArray) : Nat → Shd := fun k => ((s k).access key).2
def epAll (s : Nat → Shd) : Nat → Shd := fun k => { s k with ep := Cts.zero }
def newAll (room : Int) : Nat → Shd := fun k => Shd.new k (En.new k room) room
theorem rx_access (s : Nat → Shd) (key : ByteArray) (hk : key.size ≤ maxLen) : ∀ k, k < 5 → ∀ w q F, RX s k w q F → Calls Tryz.prog 18 #[ptr q, .string key] w (ShStep (RX (accAll s key)) k w q F) := fun k _ w q F h => by
 refine (shaccess h key hk).mono ?_
 rintro en w' ⟨rfl, F', a, b, c⟩
 exact ⟨_, F', rfl, a, b, c⟩
theorem rx_epoch (s : Nat → Shd) : ∀ k, k < 5 → ∀ w q F, RX s k w q F → Calls Tryz.prog 17 #[ptr q] w fun en w' => en = .returned ((s k).ep).val ∧ RX (epAll s) k w' q F ∧ Fr F w w' := fun k _ w q F h => shr_epoch h
theorem rx_new (room : Int) (h0 : -9223372036854775808 ≤ room) (h1 : room ≤ 9223372036854775807) : ∀ k : Nat, k < 5 → ∀ W, Calls Tryz.prog 16 #[.int .i64 k, .int .i64 room] W (NewSh (RX (newAll room)) k W) := fun k hk W => by
 refine (shnew W k hk room h0 h1).mono ?_
 rintro en w' ⟨p, F, rfl, a, b, c⟩
 exact ⟨p, F, rfl, a, b, c⟩
theorem roomS_le (c : Int) (r : Nat) (hr : r ≤ 16777216) : roomS c r ≤ 1024 := by
 unfold roomS
 have h : (min (max c 0) 1024).toNat * r / 16777216 ≤ 1024 := by
  have h2 : (min (max c 0) 1024).toNat * r ≤ 1024 * 16777216 := Nat.mul_le_mul (by omega) hr
  omega
 omega
theorem rx_pnew (w : World) (rt c : Int) (r0 : -9223372036854775808 ≤ rt) (r1 : rt ≤ 9223372036854775807) (h0 : -9223372036854775808 ≤ c) (h1 : c ≤ 9223372036854775807) :
  Calls Tryz.prog 22 #[.int .i64 rt, .int .i64 c] w (PNewShet (RX (newAll (roomS c (rateN rt) : Nat))) w (rateN rt) (roomS c (rateN rt) : Nat)) :=
 pnew (rxok _) w rt c r0 r1 h0 h1 (rx_new _ (by omega) (by have := roomS_le c _ (rateN_le rt); omega))
theorem takes_all (key : ByteArray) : takesB key 16777216 = true := by unfold takesB; rw [decide_eq_true_eq]; omega
def kn18 : Nat → Shd := accAll (accAll (accAll (newAll (roomS 1 (rateN 16777216) : Nat)) kA) kB) kA
theorem kn18_g : (kn18 2).ep.ghosts = 1 := by kernel_rfl
theorem kn18_a : (kn18 4).ep.all = 3 := by kernel_rfl
def BoolFr (b : Bool) (w : World) (en : Ending) (w' : World) : Prop := en = .returned (.bool b) ∧ Fr [] w w'
/-- A panel that is new since w, its shadows named. -/
def PN (w : World) (p : Nat) (rate : Nat) (s : Nat → Shd) (w' : World) : Prop := ∃ sp all taken room P G, PAt (RX s) w' p sp rate all taken room P G ∧ Ge w.heap.size (paF p sp G) ∧ Fr [] w w'
theorem PN.acc {w w1 : World} {p rate : Nat} {s : Nat → Shd} (h : PN w p rate s w1) (key : ByteArray) (hk : key.size ≤ maxLen) (ht : takesB key rate = true) :
  Calls Tryz.prog 23 #[ptr p, .string key] w1 fun en w2 => en = .returned (.bool true) ∧ PN w p rate (accAll s key) w2 := by
 obtain ⟨sp, all, taken, room, P, G, hp, hg, hf⟩ := h
 refine (paccess_yes (rxok s) (rxok (accAll s key)) hp key hk ht (rx_access s key hk)).mono ?_
 rintro en w2 ⟨rfl, G', a, b, c⟩
 exact ⟨rfl, sp, _, _, room, P, G', a, b.ge hg hf.size, hf.fresh c hg⟩
theorem PN.epoch {w w1 : World} {p rate : Nat} {s : Nat → Shd} (h : PN w p rate s w1) :
  Calls Tryz.prog 26 #[ptr p] w1 fun en w2 => en = .returned (.tuple #[ghVal fun k => (s k).ep, .int .i64 ((s 4).ep.all : Nat)]) ∧ PN w p rate (epAll s) w2 := by
 obtain ⟨sp, all, taken, room, P, G, hp, hg, hf⟩ := h
 refine (pepoch (rxok s) (rxok (epAll s)) hp (rx_epoch s)).mono ?_
 rintro en w2 ⟨rfl, G', a, b, c⟩
 exact ⟨rfl, sp, _, _, room, P, G', a, b.ge hg hf.size, hf.fresh c hg⟩
set_option maxRecDepth 100000 in
theorem known18 (w : World) : Calls Tryz.prog 27 #[] w (BoolFr true w) := by
 have HN := Lib.hid fun W => rx_pnew W 16777216 1 (by omega) (by omega) (by omega) (by omega)
 go_enter Tryz.func27, Tryz.ntmps27
 go_wp2_with fail
 refine (HN.out _).mono ?_
 rintro en w1 ⟨p, sp, P, G, rfl, hp, hg, hf⟩
 have H1 : Hid (PN w p 16777216 (newAll (roomS 1 (rateN 16777216) : Nat)) w1) := ⟨sp, _, _, _, P, G, hp, hg, hf⟩
 clear hp hg hf
 go_wp2_with fail
 refine (H1.out.acc kA (by decide) (takes_all _)).mono ?_
 rintro en w2 ⟨rfl, h2⟩
 have H2 := Lib.hid h2
 clear h2
 go_wp2_with fail
 refine (H2.out.acc kB (by decide) (takes_all _)).mono ?_
 rintro en w3 ⟨rfl, h3⟩
 have H3 := Lib.hid h3
 clear h3
 go_wp2_with fail
 refine (H3.out.acc kA (by decide) (takes_all _)).mono ?_
 rintro en w4 ⟨rfl, h4⟩
 have H4 : Hid (PN w p 16777216 kn18 w4) := h4
 clear h4
 go_wp2_with fail
 refine H4.out.epoch.mono ?_
 rintro en w5 ⟨rfl, sp5, _, _, _, _, _, hp5, hg5, hf5⟩
 have HF := Lib.hid hf5
 clear hp5 hg5 hf5
 unfold ghVal
 rw [kn18_g, kn18_a]
 obtain ⟨x0, hx0⟩ : ∃ x, (kn18 0).ep.ghosts = x := ⟨_, rfl⟩
 obtain ⟨x1, hx1⟩ : ∃ x, (kn18 1).ep.ghosts = x := ⟨_, rfl⟩
 obtain ⟨x3, hx3⟩ : ∃ x, (kn18 3).ep.ghosts = x := ⟨_, rfl⟩
 obtain ⟨x4, hx4⟩ : ∃ x, (kn18 4).ep.ghosts = x := ⟨_, rfl⟩
 rw [hx0, hx1, hx3, hx4]
 clear hx0 hx1 hx3 hx4
 go_wp2
 go_ret
 exact ⟨by simp, HF.out.alloc _⟩
def kdIn (k : Int) : Bool := decide (0 ≤ k) && decide (k < 5)
theorem eq5 (w : World) : (binOp .eql 38 (.agg #[.int .i64 0, .int .i64 0, .int .i64 0, .int .i64 0, .int .i64 0]) (.agg #[.int .i64 0, .int .i64 0, .int .i64 0, .int .i64 0, .int .i64 0])).run Tryz.prog w = .ok (.bool true) w := by kernel_rfl
set_option maxRecDepth 100000 in
set_option maxHeartbeats 1000000 in
theorem panelOfNothing (key : ByteArray) (hk : key.size ≤ maxLen) (kind : Int) (w : World) : Calls Tryz.prog 5 #[.string key, .int .i64 kind] w (BoolFr true w) := by
 by_cases hs : 40 < key.size
 ·go_enter Tryz.func5, Tryz.ntmps5
  go_wp2
  go_ret
  exact ⟨rfl, Fr.refl _ _⟩
 have HN := Lib.hid fun W => rx_pnew W 16777216 5 (by omega) (by omega) (by omega) (by omega)
 have hcs : (kind < 0 ∨ 5 ≤ kind) ∨ ∃ k : Nat, kind = k ∧ k < 5 := by
  by_cases h1 : kind < 0
  ·exact .inl (.inl h1)
  ·by_cases h2 : 5 ≤ kind
   ·exact .inl (.inr h2)
   ·exact .inr ⟨kind.toNat, by omega, by omega⟩
 have HCS := Lib.hid hcs
 clear hcs
 have hq5 := eq5
 go_enter Tryz.func5, Tryz.ntmps5
 go_wp2_with fail
 refine (pepoch_nil _).mono ?_
 rintro en w1 ⟨rfl, hf1⟩
 go_wp2_with fail
 refine (pSeen_nil _).mono ?_
 rintro en w2 ⟨rfl, rfl⟩
 go_wp2_with fail
 refine (presize_nil _ _).mono ?_
 rintro en w2 ⟨rfl, rfl⟩
 go_wp2_with fail
 refine (HN.out _).mono ?_
 rintro en w3 ⟨p, sp, P, G, rfl, hp, hg, hf⟩
 have c0 : ∀ i v, (w1.alloc (.cells #[.int .i64 0, .int .i64 0, .int .i64 0, .int .i64 0, .int .i64 0] 38)).cell? ⟨w1.heap.size, i, none⟩ = some v → w3.cell? ⟨w1.heap.size, i, none⟩ = some v := fun i v h => cell_fr hf h (by simp)
 have e0 := c0 0 _ ((cell_of_block (block_alloc_new w1 _) 0).trans rfl)
 have e1 := c0 1 _ ((cell_of_block (block_alloc_new w1 _) 1).trans rfl)
 have e2 := c0 2 _ ((cell_of_block (block_alloc_new w1 _) 2).trans rfl)
 have e3 := c0 3 _ ((cell_of_block (block_alloc_new w1 _) 3).trans rfl)
 have e4 := c0 4 _ ((cell_of_block (block_alloc_new w1 _) 4).trans rfl)
 have HF : Hid (Fr [] w w3) := (hf1.alloc _).same hf
 have HP := Lib.hid hp
 clear hp hg hf hf1 c0
 go_wp2_with fail
 refine (paccess_nil _ _).mono ?_
 rintro en w4 ⟨rfl, rfl⟩
 go_wp2_with fail
 refine (pshadow_nil _ _).mono ?_
 rintro en w4 ⟨rfl, rfl⟩
 go_wp2_with fail
 refine (pRoom_nil _).mono ?_
 rintro en w4 ⟨rfl, rfl⟩
 rcases HCS.out with hc | ⟨k, rfl, hk5⟩
 ·have HC := Lib.hid hc
  rcases hc with hc | hc
  all_goals
   go_wp2_with fail
   refine (pshadow_no _ (.inr ⟨p, rfl⟩) kind HC.out).mono ?_
   rintro en w4 ⟨rfl, rfl⟩
   go_wp2_with fail
   refine (known18 _).mono ?_
   rintro en w5 ⟨rfl, hf5⟩
   have HF5 := Lib.hid (HF.out.same hf5)
   clear hf5
   go_wp2
   go_ret
   exact ⟨by simp; try omega, HF5.out⟩
 ·have hk5' : (k : Int) < 5 := by omega
  go_wp2_with fail
  refine (pshadow HP.out k hk5).mono ?_
  rintro en w4 ⟨rfl, rfl⟩
  go_wp2_with fail
  refine (known18 _).mono ?_
  rintro en w5 ⟨rfl, hf5⟩
  have HF5 := Lib.hid (HF.out.same hf5)
  clear hf5
  go_wp2
  go_ret
  exact ⟨by simp, HF5.out⟩
end Go.Proofs.YtphlancijlljcaaGreat
