/- Package shadow, walked: counts. -/
import Derived.Test.YtphlancijlljcaaGreatGhost2
set_option linter.unusedVariables false
set_option linter.unusedSimpArgs false
namespace Go.Proofs.YtphlancijlljcaaGreat
open Go.RowKit
attribute [local go_sem ↓] Go.wp_at_zero Go.wp_at_succ
structure Cts where
  all : Nat
  hits : Nat
  ghosts : Nat
def incN (n : Nat) : Nat := if 1099511627776 ≤ n then n else n + 1
def Cts.count (c : Cts) (hit gone : Bool) : Cts := ⟨incN c.all, bif hit then incN c.hits else c.hits, bif gone then incN c.ghosts else c.ghosts⟩
def Cts.zero : Cts := ⟨0, 0, 0⟩
structure Cts.Ok (c : Cts) : Prop where
  a : c.all ≤ 1099511627776
  h : c.hits ≤ 1099511627776
  g : c.ghosts ≤ 1099511627776
theorem incN_le {n : Nat} (h : n ≤ 1099511627776) : incN n ≤ 1099511627776 := by unfold incN; split <;> omega
theorem Cts.Ok.count {c : Cts} (h : c.Ok) (hit gone : Bool) : (c.count hit gone).Ok := by
  refine ⟨incN_le h.a, ?_, ?_⟩
  · cases hit
    · exact h.h
    · exact incN_le h.h
  · cases gone
    · exact h.g
    · exact incN_le h.g
theorem Cts.Ok.zero : Cts.zero.Ok := ⟨Nat.zero_le _, Nat.zero_le _, Nat.zero_le _⟩
theorem fixIncN (n : Nat) (w : World) : Calls Tryz.prog 132 #[.int .i64 n, .int .i64 1099511627776] w fun e w' => e = .returned (.int .i64 (incN n : Nat)) ∧ w = w' := by
  refine (fixInc n 1099511627776 (by omega) (by omega) w).mono ?_
  rintro e w' ⟨rfl, rfl⟩
  refine ⟨?_, rfl⟩
  unfold incN
  congr 3
  split <;> split <;> omega
/-- A shadow's block. -/
def ShB (w : World) (p : Nat) (kind : Int) (v : Value) (q : Nat) (a b : Cts) : Prop :=
  w.heap[p]? = some (.cells #[.int .i64 kind, v, .pointer (some ⟨q, 0, none⟩), .int .i64 a.all, .int .i64 a.hits, .int .i64 a.ghosts, .int .i64 b.all, .int .i64 b.hits, .int .i64 b.ghosts] 106 (0, 0))
theorem ShB.cell {w : World} {p q : Nat} {kind : Int} {v : Value} {a b : Cts} (h : ShB w p kind v q a b) :
    w.cell? ⟨p, 0, none⟩ = some (.int .i64 kind) ∧ w.cell? ⟨p, 1, none⟩ = some v ∧ w.cell? ⟨p, 2, none⟩ = some (.pointer (some ⟨q, 0, none⟩)) ∧ w.cell? ⟨p, 3, none⟩ = some (.int .i64 a.all) ∧ w.cell? ⟨p, 4, none⟩ = some (.int .i64 a.hits) ∧ w.cell? ⟨p, 5, none⟩ = some (.int .i64 a.ghosts) ∧
    w.cell? ⟨p, 6, none⟩ = some (.int .i64 b.all) ∧ w.cell? ⟨p, 7, none⟩ = some (.int .i64 b.hits) ∧ w.cell? ⟨p, 8, none⟩ = some (.int .i64 b.ghosts) := by
  have c := cell_of_block h
  exact ⟨(c 0).trans rfl, (c 1).trans rfl, (c 2).trans rfl, (c 3).trans rfl, (c 4).trans rfl, (c 5).trans rfl, (c 6).trans rfl, (c 7).trans rfl, (c 8).trans rfl⟩
theorem scount3 {w : World} {p q : Nat} {kind : Int} {v : Value} {a b : Cts} (H : ShB w p kind v q a b) (hit gone : Bool) :
    Calls Tryz.prog 76 #[.pointer (some ⟨p, 3, none⟩), .bool hit, .bool gone] w fun en w' => en = .returned (.tuple #[]) ∧ ShB w' p kind v q (a.count hit gone) b ∧ Fr [p] w w' := by
  obtain ⟨_, _, _, a3, a4, a5, b3, b4, b5⟩ := H.cell
  have z := fun i => free_of_block H i
  have HH := Lib.hid H
  clear H
  have hfr := Lib.hid (Fr.refl [p] w)
  have hf1 := Lib.hid fun (u : Value) => hfr.out.setCell (p := ⟨p, 3, none⟩) (by simp) u
  have hf2 := Lib.hid fun (i : Nat) (u y : Value) => (hf1.out u).setCell (p := ⟨p, i, none⟩) (by simp) y
  have hf3 := Lib.hid fun (i j : Nat) (u y z : Value) => (hf2.out i u y).setCell (p := ⟨p, j, none⟩) (by simp) z
  have hb1 := Lib.hid fun (u : Value) => block_set_same HH.out 3 u
  have hb2 := Lib.hid fun (i : Nat) (u y : Value) => block_set_same (hb1.out u) i y
  have hb3 := Lib.hid fun (i j : Nat) (u y z : Value) => block_set_same (hb2.out i u y) j z
  clear hfr HH
  cases hit <;> cases gone
  case false.false =>
    go_enter Tryz.func76, Tryz.ntmps76
    go_wp2_with (go_at_call 132; refine (fixIncN _ _).mono ?_; rintro en w1 ⟨rfl, rfl⟩)
    go_end0
    exact ⟨rfl, hb1.out _, hf1.out _⟩
  case false.true =>
    go_enter Tryz.func76, Tryz.ntmps76
    go_wp2_with (go_at_call 132; refine (fixIncN _ _).mono ?_; rintro en w1 ⟨rfl, rfl⟩)
    go_end0
    exact ⟨rfl, hb2.out _ _ _, hf2.out _ _ _⟩
  case true.false =>
    go_enter Tryz.func76, Tryz.ntmps76
    go_wp2_with (go_at_call 132; refine (fixIncN _ _).mono ?_; rintro en w1 ⟨rfl, rfl⟩)
    go_end0
    exact ⟨rfl, hb2.out _ _ _, hf2.out _ _ _⟩
  case true.true =>
    go_enter Tryz.func76, Tryz.ntmps76
    go_wp2_with (go_at_call 132; refine (fixIncN _ _).mono ?_; rintro en w1 ⟨rfl, rfl⟩)
    go_end0
    exact ⟨rfl, hb3.out _ _ _ _ _, hf3.out _ _ _ _ _⟩
theorem scount6 {w : World} {p q : Nat} {kind : Int} {v : Value} {a b : Cts} (H : ShB w p kind v q a b) (hit gone : Bool) :
    Calls Tryz.prog 76 #[.pointer (some ⟨p, 6, none⟩), .bool hit, .bool gone] w fun en w' => en = .returned (.tuple #[]) ∧ ShB w' p kind v q a (b.count hit gone) ∧ Fr [p] w w' := by
  obtain ⟨_, _, _, a3, a4, a5, b3, b4, b5⟩ := H.cell
  have z := fun i => free_of_block H i
  have HH := Lib.hid H
  clear H
  have hfr := Lib.hid (Fr.refl [p] w)
  have hf1 := Lib.hid fun (u : Value) => hfr.out.setCell (p := ⟨p, 6, none⟩) (by simp) u
  have hf2 := Lib.hid fun (i : Nat) (u y : Value) => (hf1.out u).setCell (p := ⟨p, i, none⟩) (by simp) y
  have hf3 := Lib.hid fun (i j : Nat) (u y z : Value) => (hf2.out i u y).setCell (p := ⟨p, j, none⟩) (by simp) z
  have hb1 := Lib.hid fun (u : Value) => block_set_same HH.out 6 u
  have hb2 := Lib.hid fun (i : Nat) (u y : Value) => block_set_same (hb1.out u) i y
  have hb3 := Lib.hid fun (i j : Nat) (u y z : Value) => block_set_same (hb2.out i u y) j z
  clear hfr HH
  cases hit <;> cases gone
  case false.false =>
    go_enter Tryz.func76, Tryz.ntmps76
    go_wp2_with (go_at_call 132; refine (fixIncN _ _).mono ?_; rintro en w1 ⟨rfl, rfl⟩)
    go_end0
    exact ⟨rfl, hb1.out _, hf1.out _⟩
  case false.true =>
    go_enter Tryz.func76, Tryz.ntmps76
    go_wp2_with (go_at_call 132; refine (fixIncN _ _).mono ?_; rintro en w1 ⟨rfl, rfl⟩)
    go_end0
    exact ⟨rfl, hb2.out _ _ _, hf2.out _ _ _⟩
  case true.false =>
    go_enter Tryz.func76, Tryz.ntmps76
    go_wp2_with (go_at_call 132; refine (fixIncN _ _).mono ?_; rintro en w1 ⟨rfl, rfl⟩)
    go_end0
    exact ⟨rfl, hb2.out _ _ _, hf2.out _ _ _⟩
  case true.true =>
    go_enter Tryz.func76, Tryz.ntmps76
    go_wp2_with (go_at_call 132; refine (fixIncN _ _).mono ?_; rintro en w1 ⟨rfl, rfl⟩)
    go_end0
    exact ⟨rfl, hb3.out _ _ _ _ _, hf3.out _ _ _ _ _⟩
end Go.Proofs.YtphlancijlljcaaGreat
