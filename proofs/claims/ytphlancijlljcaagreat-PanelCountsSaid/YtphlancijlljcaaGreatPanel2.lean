/- Package panel, walked: Access, Shadow, Room, Seen, and what a nil Panel answers. -/
import Derived.Test.YtphlancijlljcaaGreatPanel
set_option linter.unusedVariables false
set_option linter.unusedSimpArgs false
namespace Go.Proofs.YtphlancijlljcaaGreat
open Go.RowKit
attribute [local go_sem ↓] Go.wp_at_zero Go.wp_at_succ
abbrev ptr (p : Nat) : Value := .pointer (some ⟨p, 0, none⟩)
theorem ix5 (P : Nat → Nat) (i : Nat) (hi : i < 5) (w : World) : (Instr.index 113 (.agg #[ptr (P 0), ptr (P 1), ptr (P 2), ptr (P 3), ptr (P 4)]) (.int .i64 (i : Nat))).run Tryz.prog w = .ok (ptr (P i)) w := by
 have : i = 0 ∨ i = 1 ∨ i = 2 ∨ i = 3 ∨ i = 4 := by omega
 rcases this with rfl | rfl | rfl | rfl | rfl <;> (show _ = _; kernel_rfl)
theorem PaB.cells {w : World} {p sp : Nat} {room : Int} {P : Nat → Nat} (h : PaB w p sp room P) : w.cell? ⟨p, 0, none⟩ = some (ptr sp) ∧ w.cell? ⟨p, 1, none⟩ = some (.int .i64 room) ∧ w.cell? ⟨p, 2, none⟩ = some (ptr (P 0)) ∧ w.cell? ⟨p, 3, none⟩ = some (ptr (P 1)) ∧ w.cell? ⟨p, 4, none⟩ = some (ptr (P 2)) ∧ w.cell? ⟨p, 5, none⟩ = some (ptr (P 3)) ∧ w.cell? ⟨p, 6, none⟩ = some (ptr (P 4)) := by
 have c := cell_of_block h
 exact ⟨(c 0).trans rfl, (c 1).trans rfl, (c 2).trans rfl, (c 3).trans rfl, (c 4).trans rfl, (c 5).trans rfl, (c 6).trans rfl⟩
/-- The first i shadows are as R' says, the others as R. -/
def pmix (R R' : PRel) (i : Nat) : PRel := fun k w p F => if k < i then R' k w p F else R k w p F
section
variable {R R' : PRel} {w w' : World} {p sp rate all taken : Nat} {room : Int} {P : Nat → Nat} {G : Nat → List Nat} {H : List Nat}
theorem pmix_ok (o : PROk R) (o' : PROk R') (i : Nat) : PROk (pmix R R' i) := by
 refine ⟨fun {k _ _ _ _ _} h f d => ?_, fun {k _ _ _} h => ?_⟩
 ·unfold pmix at h ⊢
  split <;> rename_i hk
  ·rw [if_pos hk] at h; exact o'.fr h f d
  ·rw [if_neg hk] at h; exact o.fr h f d
 ·unfold pmix at h
  split at h
  ·exact o'.lt h
  ·exact o.lt h
theorem PAt.imp (h : PAt R w p sp rate all taken room P G) (hR : ∀ k, k < 5 → ∀ q F, R k w q F → R' k w q F) : PAt R' w p sp rate all taken room P G :=
 ⟨h.blk, h.smp, fun k hk => hR k hk _ _ (h.sh k hk), h.n1, h.n2, h.n3, h.d⟩
theorem PAt.mixed (h : PAt R w p sp rate all taken room P G) : PAt (pmix R R' 0) w p sp rate all taken room P G := h.imp fun k _ q F hr => by unfold pmix; rw [if_neg (by omega)]; exact hr
theorem PAt.unmixed (h : PAt (pmix R R' 5) w p sp rate all taken room P G) : PAt R' w p sp rate all taken room P G := h.imp fun k hk q F hr => by unfold pmix at hr; rw [if_pos hk] at hr; exact hr
/-- What a step on one shadow gives. -/
def PaGo (R' : PRel) (w : World) (p sp rate all taken : Nat) (room : Int) (P : Nat → Nat) (F : List Nat) (w' : World) : Prop := ∃ G', PAt R' w' p sp rate all taken room P G' ∧ Sub (paF p sp G') F w ∧ Fr F w w'
def ShStep (R' : PRel) (k : Nat) (w : World) (q : Nat) (F : List Nat) (en : Ending) (w' : World) : Prop := ∃ (b : Bool) (F' : List Nat), en = .returned (.bool b) ∧ R' k w' q F' ∧ Sub F' F w ∧ Fr F w w'
theorem PAt.step (o : PROk R) (o' : PROk R') {i : Nat} (hi : i < 5) (h : PAt (pmix R R' i) w p sp rate all taken room P G) {F' : List Nat} (hr : R' i w' (P i) F') (hs : Sub F' (G i) w) (f : Fr (G i) w w') :
  PAt (pmix R R' (i + 1)) w' p sp rate all taken room P (up G i F') ∧ Sub (paF p sp (up G i F')) (paF p sp G) w ∧ Fr (paF p sp G) w w' :=
 h.one (pmix_ok o o' i) hi (R' := pmix R R' (i + 1)) (by unfold pmix; rw [if_pos (by omega)]; exact hr) hs f fun k hk w p F hh => by
  unfold pmix at hh ⊢
  by_cases e : k < i
  ·rw [if_pos e] at hh; rw [if_pos (by omega)]; exact hh
  ·rw [if_neg e] at hh; rw [if_neg (by omega)]; exact hh
theorem PAt.at {i : Nat} (h : PAt (pmix R R' i) w p sp rate all taken room P G) (hi : i < 5) : R i w (P i) (G i) := by
 have := h.sh i hi
 unfold pmix at this
 rw [if_neg (by omega)] at this
 exact this
set_option maxRecDepth 100000 in
theorem paccess_yes (o : PROk R) (o' : PROk R') (H : PAt R w p sp rate all taken room P G) (key : ByteArray) (hk : key.size ≤ maxLen) (ht : takesB key rate = true)
  (hstep : ∀ k, k < 5 → ∀ w q F, R k w q F → Calls Tryz.prog 18 #[ptr q, .string key] w (ShStep R' k w q F)) :
  Calls Tryz.prog 23 #[ptr p, .string key] w fun en w' => en = .returned (.bool true) ∧ PaGo R' w p sp rate (incN all) (incN taken) room P (paF p sp G) w' := by
 obtain ⟨k0, k1, k2, k3, k4, k5, k6⟩ := H.blk.cells
 have hn1 := H.n1
 have HT := Lib.hid (satakes H.smp key hk ht)
 have HH := Lib.hid H
 have HS := Lib.hid hstep
 have HX := Lib.hid (ix5 P)
 clear H hstep
 go_enter Tryz.func23, Tryz.ntmps23
 go_wp2_with fail
 refine HT.out.mono ?_
 rintro en w1 ⟨rfl, hsm, hf1⟩
 have H1 : PAt R w1 p sp rate (incN all) (incN taken) room P G := by
  obtain ⟨h1, h2, h3, h4, h5, h6, h7⟩ := HH.out
  exact ⟨hf1.get h1 (by simpa using h4), hsm, fun k hk => o.fr (h3 k hk) hf1 (fun b hb hx => by simp at hx; subst hx; exact h6 k hk hb), h4, h5, h6, h7⟩
 have hF1 : Fr (paF p sp G) w w1 := hf1.mono (by intro b hb _; simp at hb; subst hb; exact mem_paF.2 (.inr (.inl rfl)))
 obtain ⟨k0, k1, k2, k3, k4, k5, k6⟩ := H1.blk.cells
 have HI := Lib.hid H1
 have HF1 := Lib.hid hF1
 clear H1 hF1 hsm hf1 HT
 go_wp2_with fail
 go_loopw [22] (fun u22 wr => ∃ (i : Nat) (G' : Nat → List Nat), i ≤ 5 ∧ u22 = .int .i64 i ∧ Hid (PAt (pmix R R' i) wr p sp rate (incN all) (incN taken) room P G') ∧ Hid (Sub (paF p sp G') (paF p sp G) w1) ∧ Fr (paF p sp G) w1 wr) (fun u22 _ => 5 - (intOf u22).toNat)
 case atStart => exact ⟨0, G, by omega, rfl, HI.out.mixed, Sub.refl _ _, Fr.refl _ _⟩
 case round =>
  obtain ⟨i, G', hi, rfl, hp, hs, hf⟩ := hrel
  by_cases hlt : i < 5
  ·have q1 : (i : Int) < 5 := by omega
   have hx := HX.out i hlt
   have HC := Lib.hid (HS.out i hlt wr (P i) (G' i) (hp.out.at hlt))
   go_wp2_with fail
   refine HC.out.mono ?_
   rintro en w3 ⟨b, F', rfl, c1, c2, c3⟩
   obtain ⟨d1, d2, d3⟩ := PAt.step o o' hlt hp.out c1 c2 c3
   have D1 := Lib.hid d1
   have D2 : Hid (Sub (paF p sp (up G' i F')) (paF p sp G) w1) := hs.out.fr hf d2
   have D3 := hf.via hs.out d3
   clear d1 d2 d3 c1 c2 c3
   go_wp2_with fail
   exact ⟨⟨i + 1, _, by omega, by go_num, D1, D2, D3⟩, by simp [intOf]; omega⟩
  ·have : i = 5 := by omega
   subst this
   go_wp2
   go_ret
   exact ⟨rfl, G', hp.out.unmixed, (Sub.refl _ w).fr HF1.out hs.out, HF1.out.via (Sub.refl _ _) hf⟩
theorem paccess_no (o : PROk R) (H : PAt R w p sp rate all taken room P G) (key : ByteArray) (hk : key.size ≤ maxLen) (ht : takesB key rate = false) :
  Calls Tryz.prog 23 #[ptr p, .string key] w fun en w' => en = .returned (.bool false) ∧ PaGo R w p sp rate (incN all) taken room P (paF p sp G) w' := by
 obtain ⟨k0, k1, k2, k3, k4, k5, k6⟩ := H.blk.cells
 have HT := Lib.hid (satakes H.smp key hk ht)
 have HH := Lib.hid H
 clear H
 go_enter Tryz.func23, Tryz.ntmps23
 go_wp2_with fail
 refine HT.out.mono ?_
 rintro en w1 ⟨rfl, hsm, hf1⟩
 have H1 : PAt R w1 p sp rate (incN all) taken room P G := by
  obtain ⟨h1, h2, h3, h4, h5, h6, h7⟩ := HH.out
  exact ⟨hf1.get h1 (by simpa using h4), hsm, fun k hk => o.fr (h3 k hk) hf1 (fun b hb hx => by simp at hx; subst hx; exact h6 k hk hb), h4, h5, h6, h7⟩
 have HF1 : Hid (Fr (paF p sp G) w w1) := hf1.mono (by intro b hb _; simp at hb; subst hb; exact mem_paF.2 (.inr (.inl rfl)))
 have HI := Lib.hid H1
 clear H1 hsm hf1 HT
 go_wp2
 go_ret
 exact ⟨rfl, G, HI.out, Sub.refl _ _, HF1.out⟩
/-- The shadow of a kind that is one. -/
theorem pshadow (H : PAt R w p sp rate all taken room P G) (i : Nat) (hi : i < 5) : Calls Tryz.prog 24 #[ptr p, .int .i64 i] w fun en w' => en = .returned (ptr (P i)) ∧ w = w' := by
 have hc : w.cell? ⟨p, 2 + i, none⟩ = some (ptr (P i)) := by
  rw [cell_of_block H.blk (2 + i)]
  match i, hi with
  | 0, _ | 1, _ | 2, _ | 3, _ | 4, _ => rfl
 have q1 : (i : Int) < 5 := by omega
 have q2 : decide ((5 : Int) ≤ (i : Int)) = false := decide_eq_false (by omega)
 clear H
 go_enter Tryz.func24, Tryz.ntmps24
 go_wp2
 go_ret
 exact ⟨rfl, rfl⟩
theorem pshadow_no (v : Value) (hv : v = .pointer none ∨ ∃ p, v = ptr p) (k : Int) (hk : k < 0 ∨ 5 ≤ k) : Calls Tryz.prog 24 #[v, .int .i64 k] w fun en w' => en = .returned (.pointer none) ∧ w = w' := by
 rcases hv with rfl | ⟨p, rfl⟩ <;> rcases hk with hk | hk
 all_goals
  go_enter Tryz.func24, Tryz.ntmps24
  go_wp2
  go_ret
  exact ⟨rfl, rfl⟩
end
theorem pSeen_nil (w : World) : Calls Tryz.prog 28 #[.pointer none] w fun en w' => en = .returned (.tuple #[.int .i64 0, .int .i64 0]) ∧ w = w' := by
 go_enter Tryz.func28, Tryz.ntmps28
 go_wp2
 first | go_ret | go_ret2
 exact ⟨rfl, rfl⟩
theorem pRoom_nil (w : World) : Calls Tryz.prog 30 #[.pointer none] w fun en w' => en = .returned (.int .i64 0) ∧ w = w' := by
 go_enter Tryz.func30, Tryz.ntmps30
 go_wp2
 first | go_ret | go_ret2
 exact ⟨rfl, rfl⟩
theorem pshadow_nil (k : Int) (w : World) : Calls Tryz.prog 24 #[.pointer none, .int .i64 k] w fun en w' => en = .returned (.pointer none) ∧ w = w' := by
 go_enter Tryz.func24, Tryz.ntmps24
 go_wp2
 go_ret
 exact ⟨rfl, rfl⟩
theorem paccess_nil (key : ByteArray) (w : World) : Calls Tryz.prog 23 #[.pointer none, .string key] w fun en w' => en = .returned (.bool false) ∧ w = w' := by
 go_enter Tryz.func23, Tryz.ntmps23
 go_wp2
 go_ret
 exact ⟨rfl, rfl⟩
theorem presize_nil (k : Int) (w : World) : Calls Tryz.prog 29 #[.pointer none, .int .i64 k] w fun en w' => en = .returned (.tuple #[]) ∧ w = w' := by
 go_enter Tryz.func29, Tryz.ntmps29
 go_wp2
 refine bodyPost_ret (v := .tuple #[]) (by simp [results, Tryz.results29, go_sem]) rfl ?_
 exact ⟨rfl, rfl⟩
theorem pepoch_nil (w : World) : Calls Tryz.prog 26 #[.pointer none] w fun en w' => en = .returned (.tuple #[.agg #[.int .i64 0, .int .i64 0, .int .i64 0, .int .i64 0, .int .i64 0], .int .i64 0]) ∧ Fr [] w w' := by
 have HF := Lib.hid (Fr.refl [] w)
 go_enter Tryz.func26, Tryz.ntmps26
 go_wp2
 refine bodyPost_ret (v := .tuple #[.agg #[.int .i64 0, .int .i64 0, .int .i64 0, .int .i64 0, .int .i64 0], .int .i64 0]) (by simp [results, Tryz.results26, go_sem]) rfl ?_
 refine ⟨rfl, ?_⟩
 repeat (first | exact HF.out.alloc _ | exact (HF.out.alloc _).setNew (by simp) _)
end Go.Proofs.YtphlancijlljcaaGreat
