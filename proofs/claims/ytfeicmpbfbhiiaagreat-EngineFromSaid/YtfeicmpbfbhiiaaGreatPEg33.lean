/- Texts of a proof about the given program, those parts that this claim reaches. -/
import Derived.Test.YtfeicmpbfbhiiaaGreatPEg16
import Derived.Test.YtfeicmpbfbhiiaaGreatPEg29
set_option linter.unusedVariables false
set_option linter.unusedSimpArgs false
namespace Go.Proofs.YtfeicmpbfbhiiaaGreat
open Go.RowKit
attribute [local go_sem ↓] Go.wp_at_zero Go.wp_at_succ
/-- The document's sketch at p. -/
def RK7 (w : World) (p : Nat) (F : List Nat) (s : Sk) : Prop := ∃ g cs, F = [p, g] ∧ p ≠ g ∧ w.heap[p]? = some (.cells #[.slice (some ⟨g, 0, none⟩) (4 * s.n) (4 * s.n), .int .i64 (s.n : Nat), .int .i64 (s.sum : Nat)] 265 (0, 0)) ∧ w.heap[g]? = some (.cells cs 3 (0, 0)) ∧ cs.size = 4 * s.n ∧ ∀ j, j < 4 * s.n → cs[j]? = some (.int .i64 (s.cell j : Nat))
/-- The document's door at p. -/
def RD8 (w : World) (p : Nat) (F : List Nat) (d : Dr) : Prop := ∃ g cs, F = [p, g] ∧ p ≠ g ∧ w.heap[p]? = some (.cells #[.slice (some ⟨g, 0, none⟩) d.n d.n] 268 (0, 0)) ∧ w.heap[g]? = some (.cells cs 4 (0, 0)) ∧ cs.size = d.n ∧ ∀ j, j < d.n → cs[j]? = some (.bool (d.bit j))
section
variable {w w' : World} {p : Nat} {F G : List Nat} {s : Sk} {d : Dr}
theorem RK7.fr (h : RK7 w p F s) (f : Fr G w w') (hd : Dis F G) : RK7 w' p F s := by
 obtain ⟨g, cs, rfl, h1, h2, h3, h4⟩ := h
 exact ⟨g, cs, rfl, h1, f.get h2 (hd p (by simp)), f.get h3 (hd g (by simp)), h4⟩
theorem RK7.lt (h : RK7 w p F s) : Lt F w := by
 obtain ⟨g, cs, rfl, h1, h2, h3, h4⟩ := h
 intro b hb
 simp at hb
 rcases hb with rfl | rfl
 ·exact lt_of_block h2
 ·exact lt_of_block h3
theorem RD8.fr (h : RD8 w p F d) (f : Fr G w w') (hd : Dis F G) : RD8 w' p F d := by
 obtain ⟨g, cs, rfl, h1, h2, h3, h4⟩ := h
 exact ⟨g, cs, rfl, h1, f.get h2 (hd p (by simp)), f.get h3 (hd g (by simp)), h4⟩
theorem RD8.lt (h : RD8 w p F d) : Lt F w := by
 obtain ⟨g, cs, rfl, h1, h2, h3, h4⟩ := h
 intro b hb
 simp at hb
 rcases hb with rfl | rfl
 ·exact lt_of_block h2
 ·exact lt_of_block h3
end
/-- The three rows, the sketch, the door. -/
def R14 (w : World) (e : Nat) (F : List Nat) (K : Rows) (k : Sk) (d : Dr) (c : Nat) : Prop := ∃ V p q Fk Fd, RV 3 167 w e F (Fk ++ Fd) V (fun i => strR (K i)) [ptr p, ptr q, .int .i64 (c : Nat)] ∧ RK7 w p Fk k ∧ RD8 w q Fd d ∧ Dis Fk Fd
def R14Go (w : World) (e : Nat) (F : List Nat) (K : Rows) (k : Sk) (d : Dr) (c : Nat) (w' : World) : Prop := ∃ F', R14 w' e F' K k d c ∧ Sub F' F w ∧ Fr F w w'
def RE14 (w : World) (e : Nat) (F : List Nat) (s : Tiny) : Prop := s.Inv ∧ R14 w e F s.K s.k s.d s.c
section
variable {w w' w1 w2 : World} {e c : Nat} {F G : List Nat} {K : Rows} {k : Sk} {d : Dr} {s : Tiny}
theorem R14.fr (h : R14 w e F K k d c) (f : Fr G w w') (hd : Dis F G) : R14 w' e F K k d c := by
 obtain ⟨V, p, q, Fk, Fd, h, h1, h2, h3⟩ := h
 exact ⟨V, p, q, Fk, Fd, h.fr f hd, h1.fr f (fun b hb => hd b (h.b.mem.2 (.inr (.inr (by simp [hb]))))), h2.fr f (fun b hb => hd b (h.b.mem.2 (.inr (.inr (by simp [hb]))))), h3⟩
theorem R14.fr0 (h : R14 w e F K k d c) (f : Fr [] w w') : R14 w' e F K k d c := h.fr f (fun _ _ => by simp)
theorem R14.lt (h : R14 w e F K k d c) : Lt F w := by
 obtain ⟨V, p, q, Fk, Fd, h, _⟩ := h
 exact h.lt
/-- A row has got longer. -/
theorem R14.app {V : Nat → Value} {p q i : Nat} {Fk Fd : List Nat} {w0 : World} {l : List ByteArray} {v' : Value} (h : RV 3 167 w e F (Fk ++ Fd) V (fun i => strR (K i)) [ptr p, ptr q, .int .i64 (c : Nat)]) (h1 : RK7 w p Fk k) (h2 : RD8 w q Fd d) (h3 : Dis Fk Fd) (hi : i < 3) (f : Fr [] w w0) (g : AppS w0 (V i) l v' w1) : R14Go w e F (up K i l) k d c (w1.setCell ⟨e, i, none⟩ v') := by
 obtain ⟨F', a, b, z⟩ := RV.app h hi f g
 rw [up_strR] at a
 have hk : ∀ b, b ∈ Fk ++ Fd → b ∉ (V i).ownBlock.toList ∧ b ≠ e := fun b hb => ⟨fun hh => h.b.dx i _ b (rv_get V _ hi) (by simpa using hh) hb, fun hh => h.b.x (hh ▸ hb)⟩
 have fe := (Fr.refl [e] w1).setCell (p := ⟨e, i, none⟩) (by simp) v'
 have hfr : ∀ (Fz : List Nat), (∀ b, b ∈ Fz → b ∈ Fk ++ Fd) → Dis Fz (V i).ownBlock.toList ∧ Dis Fz [e] := fun Fz hz => ⟨fun b hb => (hk b (hz b hb)).1, fun b hb hh => (hk b (hz b hb)).2 (by simpa using hh)⟩
 obtain ⟨k1, k2⟩ := hfr Fk (fun b hb => by simp [hb])
 obtain ⟨d1, d2⟩ := hfr Fd (fun b hb => by simp [hb])
 exact ⟨F', ⟨_, p, q, Fk, Fd, a, ((h1.fr f (fun _ _ => by simp)).fr g.2.1 k1).fr fe k2, ((h2.fr f (fun _ _ => by simp)).fr g.2.1 d1).fr fe d2, h3⟩, b, z⟩
set_option maxRecDepth 100000 in
theorem r14len (h : R14 w e F K k d c) (hb : ∀ i, (K i).length ≤ 4000) : Calls Tryz.prog 188 #[ptr e] w fun en w' => en = .returned (.int .i64 ((K 0).length + (K 1).length + (K 2).length : Nat)) ∧ ∃ m, w' = w.drewN m := by
 obtain ⟨V, p, q, Fk, Fd, h, _⟩ := h
 obtain ⟨a0, n0, c0, a1, n1, c1, a2, n2, c2, a3, n3, c3, hn0, hn1, hn2, hn3, h⟩ := h.lit (by decide)
 have k0 := h.k (i := 0) (by decide)
 have k1 := h.k (i := 1) (by decide)
 have k2 := h.k (i := 2) (by decide)
 have b0 := hb 0
 have b1 := hb 1
 have b2 := hb 2
 simp only [V4] at k0 k1 k2 hn0 hn1 hn2
 rw [hn0] at b0
 rw [hn1] at b1
 rw [hn2] at b2
 rw [hn0, hn1, hn2]
 clear h hn0 hn1 hn2 hn3 hb
 go_enter Tryz.func188, Tryz.ntmps188
 go_wp2
 go_quiet (fail)
 go_wp2
 go_ret
 exact ⟨rfl, _, rfl⟩
set_option maxRecDepth 100000 in
theorem r14has (h : R14 w e F K k d c) (hb : ∀ i, (K i).length ≤ 4000) (key : ByteArray) : Calls Tryz.prog 173 #[ptr e, .string key] w fun en w' => en = .returned (.bool (decide (key ∈ K 0 ∨ key ∈ K 1 ∨ key ∈ K 2))) ∧ w' = w := by
 obtain ⟨V, p, q, Fk, Fd, h, _⟩ := h
 obtain ⟨a0, n0, c0, a1, n1, c1, a2, n2, c2, a3, n3, c3, hn0, hn1, hn2, hn3, h⟩ := h.lit (by decide)
 have HC0 := Lib.hid (fhasU (h.s 0 (by decide)) (Nat.le_trans (hb 0) (by decide)) key)
 have k0 := h.k (i := 0) (by decide)
 have m0 := rhas_mem (l := K 0) (key := key)
 obtain ⟨r0, hr0⟩ : ∃ r, rhas (K 0) key = r := ⟨_, rfl⟩
 rw [hr0] at HC0 m0
 have HC1 := Lib.hid (fhasU (h.s 1 (by decide)) (Nat.le_trans (hb 1) (by decide)) key)
 have k1 := h.k (i := 1) (by decide)
 have m1 := rhas_mem (l := K 1) (key := key)
 obtain ⟨r1, hr1⟩ : ∃ r, rhas (K 1) key = r := ⟨_, rfl⟩
 rw [hr1] at HC1 m1
 have HC2 := Lib.hid (fhasU (h.s 2 (by decide)) (Nat.le_trans (hb 2) (by decide)) key)
 have k2 := h.k (i := 2) (by decide)
 have m2 := rhas_mem (l := K 2) (key := key)
 obtain ⟨r2, hr2⟩ : ∃ r, rhas (K 2) key = r := ⟨_, rfl⟩
 rw [hr2] at HC2 m2
 simp only [V4] at k0 k1 k2 HC0 HC1 HC2
 have hd : decide (key ∈ K 0 ∨ key ∈ K 1 ∨ key ∈ K 2) = decide (0 ≤ r0 ∨ 0 ≤ r1 ∨ 0 ≤ r2) := by rw [decide_eq_decide, m0, m1, m2]
 rw [hd]
 clear h hn0 hn1 hn2 hn3 hr0 hr1 hr2 hd m0 m1 m2
 by_cases q0 : 0 ≤ r0
 ·have b0 : decide (0 ≤ r0) = true := decide_eq_true q0
  rw [decide_eq_true (show 0 ≤ r0 ∨ 0 ≤ r1 ∨ 0 ≤ r2 from .inl q0)]
  go_enter Tryz.func173, Tryz.ntmps173
  go_wp2_with fail
  refine HC0.out.mono ?_
  rintro en w1 ⟨rfl, rfl⟩
  go_wp2
  go_ret
  exact ⟨rfl, rfl⟩
 have b0 : decide (0 ≤ r0) = false := decide_eq_false q0
 have q0' : r0 < 0 := by omega
 by_cases q1 : 0 ≤ r1
 ·have b1 : decide (0 ≤ r1) = true := decide_eq_true q1
  rw [decide_eq_true (show 0 ≤ r0 ∨ 0 ≤ r1 ∨ 0 ≤ r2 from .inr (.inl q1))]
  go_enter Tryz.func173, Tryz.ntmps173
  go_wp2_with fail
  refine HC0.out.mono ?_
  rintro en w1 ⟨rfl, rfl⟩
  go_wp2_with fail
  refine HC1.out.mono ?_
  rintro en w1 ⟨rfl, rfl⟩
  go_wp2
  go_ret
  exact ⟨rfl, rfl⟩
 have b1 : decide (0 ≤ r1) = false := decide_eq_false q1
 have q1' : r1 < 0 := by omega
 have b : decide (0 ≤ r0 ∨ 0 ≤ r1 ∨ 0 ≤ r2) = decide (0 ≤ r2) := by simp [q0, q1]
 rw [b]
 clear b
 go_enter Tryz.func173, Tryz.ntmps173
 go_wp2_with fail
 refine HC0.out.mono ?_
 rintro en w1 ⟨rfl, rfl⟩
 go_wp2_with fail
 refine HC1.out.mono ?_
 rintro en w1 ⟨rfl, rfl⟩
 go_wp2_with fail
 refine HC2.out.mono ?_
 rintro en w1 ⟨rfl, rfl⟩
 go_wp2
 go_ret
 exact ⟨rfl, rfl⟩
set_option maxRecDepth 100000 in
theorem r14window (h : R14 w e F K k d c) (h2 : c ≤ 1024) : Calls Tryz.prog 213 #[ptr e] w fun en w' => en = .returned (.int .i64 (max 1 (c / 8) : Nat)) ∧ w' = w := by
 obtain ⟨V, p, q, Fk, Fd, h, _⟩ := h
 have k5 := h.kr 2 rfl
 obtain ⟨x, hx⟩ : ∃ d, c / 8 = d := ⟨_, rfl⟩
 obtain ⟨m, hm⟩ : ∃ m, max 1 x = m := ⟨_, rfl⟩
 have e1 : (c : Int) / 8 = (x : Int) := by omega
 have e2 : (if (1 : Int) < (x : Int) then (x : Int) else 1) = (m : Int) := by split <;> omega
 have e4 : IntKind.i64.wrap ((c : Int) / 8) = (x : Int) := by rw [IntWalk.i64_in _ (by omega)]; exact e1
 rw [hx, hm]
 clear h hx hm
 go_enter Tryz.func213, Tryz.ntmps213
 go_wp2
 go_ret
 exact ⟨rfl, rfl⟩
set_option maxRecDepth 100000 in
theorem r14main (h : R14 w e F K k d c) (h1 : 1 ≤ c) (h2 : c ≤ 1024) : Calls Tryz.prog 189 #[ptr e] w fun en w' => en = .returned (.int .i64 (c - max 1 (c / 8) : Nat)) ∧ ∃ m, w' = w.drewN m := by
 have HW := Lib.hid fun m => r14window (h.fr0 ((Fr.refl [] w).drewN m)) h2
 obtain ⟨V, p, q, Fk, Fd, h, _⟩ := h
 have k5 := h.kr 2 rfl
 obtain ⟨m, hm⟩ : ∃ m, max 1 (c / 8) = m := ⟨_, rfl⟩
 obtain ⟨r, hr⟩ : ∃ r, c - m = r := ⟨_, rfl⟩
 have e3 : (c : Int) - (m : Int) = (r : Int) := by omega
 have e5 : IntKind.i64.wrap ((c : Int) - (m : Int)) = (r : Int) := by rw [IntWalk.i64_in _ (by omega)]; exact e3
 rw [hm] at HW ⊢
 rw [hr]
 clear h hm hr
 go_enter Tryz.func189, Tryz.ntmps189
 go_wp2
 go_quiet (first | (go_at_call 213; exact Calls.quiet_of_same (HW.out _)))
 go_wp2
 go_ret
 exact ⟨rfl, _, rfl⟩
end
end Go.Proofs.YtfeicmpbfbhiiaaGreat
set_option linter.unusedVariables false
set_option linter.unusedSimpArgs false
namespace Go.Proofs.YtfeicmpbfbhiiaaGreat
open Go.RowKit
attribute [local go_sem ↓] Go.wp_at_zero Go.wp_at_succ
set_option maxHeartbeats 1000000 in
set_option maxRecDepth 100000 in
theorem r7power (w : World) (room low : Nat) (h1 : 1 ≤ room) (h2 : room ≤ 1024) (h3 : low ≤ 1024) (h4 : 1 ≤ low) : Calls Tryz.prog 220 #[.int .i64 room, .int .i64 low] w fun en w' => en = .returned (.int .i64 (pow2From (max room low) 12 1 : Nat)) ∧ w' = w := by
 obtain ⟨mx, hmx⟩ : ∃ m, max room low = m := ⟨_, rfl⟩
 obtain ⟨res, hres⟩ : ∃ r, pow2From (max room low) 12 1 = r := ⟨_, rfl⟩
 rw [hres]
 rw [hmx] at hres
 have HS := Lib.hid hres
 have hmb : mx ≤ 1024 := by omega
 have hr1 : (if (1 : Int) < (room : Int) then (room : Int) else 1) = (room : Int) := by split <;> omega
 have hr2 : (if (room : Int) < 1 then (1 : Int) else (room : Int)) = (room : Int) := by split <;> omega
 have hr3 : (if (room : Int) < 1024 then (room : Int) else 1024) = (room : Int) := by split <;> omega
 have hr4 : (if (1024 : Int) < (room : Int) then (1024 : Int) else (room : Int)) = (room : Int) := by split <;> omega
 clear hres
 go_enter Tryz.func220, Tryz.ntmps220
 go_wp2_with fail
 go_loopg [5] 12 (fun gg u5 wr => wr = w ∧ ∃ a : Nat, u5 = .int .i64 a ∧ Aside (pow2From mx gg a = res ∧ mx ≤ a * 2 ^ gg) ∧ 1 ≤ a ∧ a ≤ 2048)
 case atStart => exact ⟨rfl, 1, rfl, ⟨HS.out, by omega⟩, by omega, by omega⟩
 case round =>
  obtain ⟨rfl, a, rfl, hA, ha1, ha2⟩ := hrel
  by_cases hlt : a < mx
  ·have hgk : ∃ f, gk = f + 1 := by
    cases gk with
    | zero => exfalso; have := hA.out.2; simp at this; omega
    | succ f => exact ⟨f, rfl⟩
   obtain ⟨f, rfl⟩ := hgk
   have hA1 := hA.out.1
   unfold pow2From at hA1
   rw [if_pos hlt] at hA1
   by_cases hra : a < room
   ·have q1 : (a : Int) < (room : Int) := by omega
    go_wp2_with fail
    go_roundg f
    case measure => omega
    case rel => exact ⟨rfl, a * 2, by go_num, ⟨hA1, by have := hA.out.2; rw [Nat.pow_succ] at this; rw [Nat.mul_assoc, Nat.mul_comm 2]; exact this⟩, by omega, by omega⟩
   ·have q1 : decide ((a : Int) < (room : Int)) = false := decide_eq_false (by omega)
    have q2 : (a : Int) < (low : Int) := by omega
    go_wp2_with fail
    go_roundg f
    case measure => omega
    case rel => exact ⟨rfl, a * 2, by go_num, ⟨hA1, by have := hA.out.2; rw [Nat.pow_succ] at this; rw [Nat.mul_assoc, Nat.mul_comm 2]; exact this⟩, by omega, by omega⟩
  ·have hra : res = a := by rw [← hA.out.1]; exact pow2From_done hlt _
   have q1 : decide ((a : Int) < (room : Int)) = false := decide_eq_false (by omega)
   have q2 : decide ((a : Int) < (low : Int)) = false := decide_eq_false (by omega)
   have q3 : (room : Int) ≤ (a : Int) := by omega
   have q4 : (low : Int) ≤ (a : Int) := by omega
   go_wp2
   go_ret
   exact ⟨by rw [hra]; rfl, rfl⟩
end Go.Proofs.YtfeicmpbfbhiiaaGreat
set_option linter.unusedVariables false
set_option linter.unusedSimpArgs false
namespace Go.Proofs.YtfeicmpbfbhiiaaGreat
open Go.RowKit
attribute [local go_sem ↓] Go.wp_at_zero Go.wp_at_succ
/-- A call that reads, in the second region of a walk. -/
theorem quiet9 {P : Program} {f : Nat} {args : Array Value} {w : World} {a x : Nat} {v : Value} (h : Calls P f args (w.drewN (a + x)) fun en w' => en = .returned v ∧ ∃ q, w' = (w.drewN (a + x)).drewN q) : Calls P f args (w.drewN (a + x)) fun en w' => en = .returned v ∧ ∃ n, w' = w.drewN (a + n) := by
 refine h.mono ?_
 rintro en w' ⟨rfl, q, rfl⟩
 exact ⟨rfl, x + q, by simp [World.drewN, Nat.add_assoc]⟩
theorem Tiny.Inv.len {s : Tiny} (h : s.Inv) (i : Nat) : (s.K i).length ≤ 4000 := by
 have h1 := h.win
 have h2 := h.res
 have h3 := h.c2
 unfold Tiny.main at h2
 unfold Tiny.window at h1 h2
 match i with
 | 0 => omega
 | 1 => omega
 | 2 => omega
 | n + 3 => rw [h.nd.out (n + 3) (by omega)]; simp
section
variable {w w' w1 w2 : World} {e : Nat} {F G : List Nat} {s : Tiny}
theorem RE14.reads (h : RE14 w e F s) (key : ByteArray) : Hid (∀ m, Calls Tryz.prog 173 #[ptr e, .string key] (w.drewN m) fun en w' => en = .returned (.bool (s.has key)) ∧ w' = w.drewN m) ∧ Hid (∀ m, Calls Tryz.prog 188 #[ptr e] (w.drewN m) fun en w' => en = .returned (.int .i64 (s.len : Nat)) ∧ ∃ q, w' = (w.drewN m).drewN q) :=
 ⟨fun m => r14has (h.2.fr0 ((Fr.refl [] w).drewN m)) h.1.len key, fun m => r14len (h.2.fr0 ((Fr.refl [] w).drewN m)) h.1.len⟩
set_option maxHeartbeats 1000000 in
set_option maxRecDepth 100000 in
theorem r14load_no (h : RE14 w e F s) (key : ByteArray) (hin : s.has key = true ∨ s.len = s.c) : Calls Tryz.prog 122 #[ptr e, .string key] w (StepRet RE14 w e F (.bool false) s) := by
 obtain ⟨HH, HL⟩ := h.reads key
 have HE := Lib.hid h
 obtain ⟨hi, V, p, q, Fk, Fd, h, _⟩ := h
 have k5 := h.kr 2 rfl
 generalize s.has key = b at *
 generalize s.len = n at *
 clear h hi
 cases b with
 | true =>
  go_enter Tryz.func122, Tryz.ntmps122
  go_wp2
  go_quiet (first | (go_at_call 173; exact Calls.quiet_of_same (HH.out _)))
  go_wp2
  go_ret
  exact ⟨rfl, F, ⟨HE.out.1, HE.out.2.fr0 ((Fr.refl [] w).drewN _)⟩, Sub.refl _ _, (Fr.refl _ w).drewN _⟩
 | false =>
  have hnc : n = s.c := by simpa using hin
  have q1 : (s.c : Int) ≤ (n : Int) := by omega
  have q2 : s.c ≤ n := by omega
  clear hin hnc
  go_enter Tryz.func122, Tryz.ntmps122
  go_wp2
  go_quiet (first | (go_at_call 173; exact Calls.quiet_of_same (HH.out _)) | (go_at_call 188; exact Calls.quiet_of (HL.out _)))
  go_wp2
  go_ret
  exact ⟨rfl, F, ⟨HE.out.1, HE.out.2.fr0 ((Fr.refl [] w).drewN _)⟩, Sub.refl _ _, (Fr.refl _ w).drewN _⟩
set_option maxHeartbeats 1000000 in
set_option maxRecDepth 100000 in
theorem r14load (h : RE14 w e F s) (key : ByteArray) (hz : key.size ≤ maxLen) : Calls Tryz.prog 122 #[ptr e, .string key] w (StepRet RE14 w e F (.bool (s.load key).1) (s.load key).2) := by
 have hinv := h.1.load hz
 unfold Tiny.load at hinv ⊢
 by_cases hin : s.has key = true ∨ s.len = s.c
 ·rw [if_pos hin]
  exact r14load_no h key hin
 rw [if_neg hin] at hinv ⊢
 have h1 : s.has key = false := by cases q : s.has key; rfl; exact absurd (.inl q) hin
 have hi := h.1
 have hwc : s.window ≤ s.c := by have := hi.c1; unfold Tiny.window; omega
 have h2 : s.len < s.c := by have a := hi.win; have b := hi.res; have : s.len ≠ s.c := fun q => hin (.inr q); unfold Tiny.len Tiny.main at *; omega
 clear hin
 have hlen := hi.len
 obtain ⟨HH, HL⟩ := h.reads key
 have hno : ∀ i, key ∉ s.K i := fun i => by
  have hq : ¬ (key ∈ s.K 0 ∨ key ∈ s.K 1 ∨ key ∈ s.K 2) := by unfold Tiny.has at h1; simpa using h1
  match i with
  | 0 => exact fun z => hq (.inl z)
  | 1 => exact fun z => hq (.inr (.inl z))
  | 2 => exact fun z => hq (.inr (.inr z))
  | n + 3 => rw [hi.nd.out (n + 3) (by omega)]; simp
 rw [h1] at HH
 have HMA := Lib.hid fun m => r14main (h.2.fr0 ((Fr.refl [] w).drewN m)) hi.c1 hi.c2
 have hmain : s.c - max 1 (s.c / 8) = s.main := rfl
 rw [hmain] at HMA
 obtain ⟨hi', V, p, q, Fk, Fd, hh, g1, g2, g3⟩ := h
 obtain ⟨a0, n0, c0, a1, n1, c1, a2, n2, c2, a3, n3, c3, hn0, hn1, hn2, hn3, hh⟩ := hh.lit (by decide)
 have HRV := Lib.hid (And.intro hh (And.intro g1 (And.intro g2 g3)))
 have k0 := hh.k (i := 0) (by decide)
 have k1 := hh.k (i := 1) (by decide)
 have k2 := hh.k (i := 2) (by decide)
 have k5 := hh.kr 2 rfl
 simp only [V4] at k0 k1 k2 hn1 hn2
 have b1 := hlen 1
 have b2 := hlen 2
 rw [hn1] at b1
 rw [hn2] at b2
 have q1 : decide (s.c ≤ s.len) = false := decide_eq_false (by omega)
 have q2 : (s.len : Int) < (s.c : Int) := by omega
 clear g1 g2 g3 hi'
 by_cases hlt : (s.K 1).length + (s.K 2).length < s.main
 ·rw [if_pos hlt] at hinv ⊢
  rw [hn1, hn2] at hlt
  have q3 : (n1 : Int) + (n2 : Int) < (s.main : Int) := by omega
  have HI := Lib.hid hinv
  have HB : Hid ((s.K 1).length ≤ 4000) := hlen 1
  have HP : Hid (up s.K 1 (s.K 1 ++ [key]) = pushK s.K 1 key) := push_fresh hno 1
  generalize s.main = mo at *
  generalize s.len = n at *
  clear hlen hinv hno hi h1 h2 hh hn0 hn1 hn2 hn3 hmain
  go_enter Tryz.func122, Tryz.ntmps122
  go_wp2
  go_quiet (first | (go_at_call 173; exact Calls.quiet_of_same (HH.out _)) | (go_at_call 188; exact Calls.quiet_of (HL.out _)))
  rename Nat => nq9
  go_wp2
  go_quiet (first | (go_at_call 189; exact quiet9 (HMA.out _)))
  go_wp2_with (at_builtin; refine app_list rfl _ _ rfl (.slice a1 n1 c1) (.slice (some ⟨w.heap.size, 0, none⟩) 1 1) (s.K 1) [key] rfl rfl ?hsl1 ?src1 ?hb1 ?_)
  case hsl1 => exact SS.fr0 (HRV.out.1.s 1 (by decide)) (((Fr.refl [] w).drewN _).alloc _)
  case src1 => exact SS.src (SS.one (w.drewN _) key)
  case hb1 => have := HB.out; show _ + 1 ≤ _; omega
  intro b' n' c' w4 hn' happ
  have HF0 : Fr [] w ((w.drewN (nq9 + nq)).alloc (.cells #[.string key] 9)) := ((Fr.refl [] w).drewN _).alloc _
  have HR : Hid (R14Go w e F (pushK s.K 1 key) s.k s.d s.c (w4.setCell ⟨e, 1, none⟩ (.slice b' n' c'))) := by
   have := R14.app (i := 1) HRV.out.1 HRV.out.2.1 HRV.out.2.2.1 HRV.out.2.2.2 (by decide) HF0 happ
   rw [HP.out] at this
   exact this
  have z1 := (RV.c1 (i := 1) HRV.out.1 (by decide) HF0 happ 1).1.trans k1
  have z2 := (RV.c1 (i := 1) HRV.out.1 (by decide) HF0 happ 1).2
  clear happ hn' HF0
  go_wp2
  go_ret
  obtain ⟨F4, a, b, z⟩ := HR.out
  exact ⟨rfl, F4, ⟨HI.out, a⟩, b, z⟩
 ·rw [if_neg hlt] at hinv ⊢
  rw [hn1, hn2] at hlt
  have q3 : decide ((n1 : Int) + (n2 : Int) < (s.main : Int)) = false := decide_eq_false (by omega)
  have q4 : (s.main : Int) ≤ (n1 : Int) + (n2 : Int) := by omega
  have HI := Lib.hid hinv
  have HB : Hid ((s.K 0).length ≤ 4000) := hlen 0
  have HP : Hid (up s.K 0 (s.K 0 ++ [key]) = pushK s.K 0 key) := push_fresh hno 0
  generalize s.main = mo at *
  generalize s.len = n at *
  clear hlen hinv hno hi h1 h2 hh hn0 hn1 hn2 hn3 hmain
  go_enter Tryz.func122, Tryz.ntmps122
  go_wp2
  go_quiet (first | (go_at_call 173; exact Calls.quiet_of_same (HH.out _)) | (go_at_call 188; exact Calls.quiet_of (HL.out _)))
  rename Nat => nq9
  go_wp2
  go_quiet (first | (go_at_call 189; exact quiet9 (HMA.out _)))
  go_wp2_with (at_builtin; refine app_list rfl _ _ rfl (.slice a0 n0 c0) (.slice (some ⟨w.heap.size, 0, none⟩) 1 1) (s.K 0) [key] rfl rfl ?hsl0 ?src0 ?hb0 ?_)
  case hsl0 => exact SS.fr0 (HRV.out.1.s 0 (by decide)) (((Fr.refl [] w).drewN _).alloc _)
  case src0 => exact SS.src (SS.one (w.drewN _) key)
  case hb0 => have := HB.out; show _ + 1 ≤ _; omega
  intro b' n' c' w4 hn' happ
  have HF0 : Fr [] w ((w.drewN (nq9 + nq)).alloc (.cells #[.string key] 9)) := ((Fr.refl [] w).drewN _).alloc _
  have HR : Hid (R14Go w e F (pushK s.K 0 key) s.k s.d s.c (w4.setCell ⟨e, 0, none⟩ (.slice b' n' c'))) := by
   have := R14.app (i := 0) HRV.out.1 HRV.out.2.1 HRV.out.2.2.1 HRV.out.2.2.2 (by decide) HF0 happ
   rw [HP.out] at this
   exact this
  have z1 := (RV.c1 (i := 0) HRV.out.1 (by decide) HF0 happ 0).1.trans k0
  have z2 := (RV.c1 (i := 0) HRV.out.1 (by decide) HF0 happ 0).2
  clear happ hn' HF0
  go_wp2
  go_ret
  obtain ⟨F4, a, b, z⟩ := HR.out
  exact ⟨rfl, F4, ⟨HI.out, a⟩, b, z⟩
end
end Go.Proofs.YtfeicmpbfbhiiaaGreat
set_option linter.unusedVariables false
set_option linter.unusedSimpArgs false
namespace Go.Proofs.YtfeicmpbfbhiiaaGreat
open Go.RowKit
attribute [local go_sem ↓] Go.wp_at_zero Go.wp_at_succ
theorem pow2_fuel (r : Nat) : ∀ f g a, r ≤ a * 2 ^ f → r ≤ a * 2 ^ g → pow2From r f a = pow2From r g a
 | 0, g, a, h, _ => by rw [pow2From_done (by simp at h; omega) g]; rfl
 | f + 1, g, a, h, h2 => by
  by_cases hlt : a < r
  ·cases g with
   | zero => simp at h2; omega
   | succ g =>
    unfold pow2From
    rw [if_pos hlt, if_pos hlt]
    refine pow2_fuel r f g (a * 2) ?_ ?_
    ·rw [Nat.pow_succ] at h; rw [Nat.mul_assoc, Nat.mul_comm 2]; exact h
    ·rw [Nat.pow_succ] at h2; rw [Nat.mul_assoc, Nat.mul_comm 2]; exact h2
  ·rw [pow2From_done hlt, pow2From_done hlt]
theorem pow2_max (r m : Nat) : ∀ f a, m ≤ a → pow2From (max r m) f a = pow2From r f a
 | 0, a, h => rfl
 | f + 1, a, h => by
  unfold pow2From
  by_cases hlt : a < r
  ·rw [if_pos hlt, if_pos (by omega)]; exact pow2_max r m f (a * 2) (by omega)
  ·rw [if_neg hlt, if_neg (by omega)]
theorem power8 {r : Nat} (h : r ≤ 1024) : pow2From (max r 8) 12 1 = pow2From r 11 8 := by
 have e1 : pow2From (max r 8) 12 1 = pow2From (max r 8) 9 8 := by
  rw [pow2From, if_pos (by omega), pow2From, if_pos (by omega), pow2From, if_pos (by omega)]
 rw [e1, pow2_max r 8 9 8 (by omega)]
 exact pow2_fuel r 9 11 8 (by omega) (by omega)
theorem power1 {r : Nat} (h : r ≤ 1024) (h1 : 1 ≤ r) : pow2From (max r 1) 12 1 = pow2From r 11 1 := by
 rw [show max r 1 = r by omega]
 exact pow2_fuel r 12 11 1 (by omega) (by omega)
theorem made_at (z : Value) (n j : Nat) (h : j < n) : (madeCells #[z] n)[j]? = some z := by
 simp [madeCells, h, Nat.mod_one]
theorem infoBool : (Tryz.prog.info? 4).map (fun i => (i.zero, i.size, i.bytes)) = some (some (.bool false), 1, 1) := by kernel_rfl
set_option maxRecDepth 100000 in
theorem r7new (w : World) (room : Nat) (h1 : 1 ≤ room) (h2 : room ≤ 1024) : Calls Tryz.prog 158 #[.int .i64 room] w fun en w' => ∃ p F, en = .returned (ptr p) ∧ RK7 w' p F (Sk.new room) ∧ Ge w.heap.size F ∧ Fr [] w w' := by
 obtain ⟨i0, hii, hz0, hz1, hz2⟩ := info_parts2 infoInt
 have HP := Lib.hid (r7power w room 8 h1 h2 (by decide) (by decide))
 rw [power8 h2] at HP
 obtain ⟨n, hn⟩ : ∃ n, pow2From room 11 8 = n := ⟨_, rfl⟩
 have hbd := pow2From_bd room 11 8 (by omega) h2
 have hS : Sk.new room = ⟨n, fun _ => 0, 0⟩ := by unfold Sk.new; rw [hn]
 rw [hS]
 rw [hn] at HP hbd
 obtain ⟨m, hm⟩ : ∃ m, 4 * n = m := ⟨_, rfl⟩
 have hmk : (Instr.makeSlice 72 (.int .i64 (m : Nat)) (.int .i64 (m : Nat))).run Tryz.prog w = .ok (.slice (some ⟨w.heap.size, 0, none⟩) m m) (w.alloc (.cells (madeCells #[.int .i64 0] (m * 1)) 3)) := by
  have hk := run_make (P := Tryz.prog) w 72 3 i0 _ Tryz.underlying72 hii hz0 .i64 .i64 m m (by omega) (Int.le_refl _) (by rw [hz2]; omega) (by omega)
  rw [hz1, Int.toNat_natCast] at hk
  exact hk
 have e1 : (4 : Int) * (n : Int) = (m : Int) := by omega
 have e2 : IntKind.i64.wrap ((4 : Int) * (n : Int)) = (m : Int) := by rw [IntWalk.i64_in _ (by omega)]; exact e1
 have HF : Hid (∃ F, RK7 ((w.alloc (.cells (madeCells #[.int .i64 0] (m * 1)) 3)).alloc (.cells #[.slice (some ⟨w.heap.size, 0, none⟩) m m, .int .i64 (n : Nat), .int .i64 0] 265)) (w.heap.size + 1) F ⟨n, fun _ => 0, 0⟩ ∧ Ge w.heap.size F ∧ Fr [] w ((w.alloc (.cells (madeCells #[.int .i64 0] (m * 1)) 3)).alloc (.cells #[.slice (some ⟨w.heap.size, 0, none⟩) m m, .int .i64 (n : Nat), .int .i64 0] 265))) := by
  have b2 := block_alloc_new (w.alloc (.cells (madeCells #[.int .i64 0] (m * 1)) 3)) (.cells #[.slice (some ⟨w.heap.size, 0, none⟩) m m, .int .i64 (n : Nat), .int .i64 0] 265)
  rw [World.size_alloc] at b2
  subst hm
  refine ⟨[w.heap.size + 1, w.heap.size], ⟨w.heap.size, _, rfl, by omega, b2, block_alloc_old (block_alloc_new w _) _, by rw [size_madeCells]; show 4 * n * 1 = 4 * n; omega, fun j hj => made_at _ _ _ (by show j < 4 * n * 1; have : j < 4 * n := hj; omega)⟩, by intro b hb; simp at hb; omega, ((Fr.refl [] w).alloc _).alloc _⟩
 clear hz0 hn hS hm hz1 hz2 hii
 go_enter Tryz.func158, Tryz.ntmps158
 go_wp2_with fail
 refine HP.out.mono ?_
 rintro en w1 ⟨rfl, rfl⟩
 go_wp2
 go_ret
 obtain ⟨F, a, b, d⟩ := HF.out
 rw [Nat.mul_one] at a d
 exact ⟨_, F, rfl, a, b, d⟩
set_option maxRecDepth 100000 in
theorem r8new (w : World) (room : Nat) (h1 : 1 ≤ room) (h2 : room ≤ 1024) : Calls Tryz.prog 159 #[.int .i64 room] w fun en w' => ∃ p F, en = .returned (ptr p) ∧ RD8 w' p F (Dr.new room) ∧ Ge w.heap.size F ∧ Fr [] w w' := by
 obtain ⟨i0, hii, hz0, hz1, hz2⟩ := info_parts2 infoBool
 have HP := Lib.hid (r7power w room 1 h1 h2 (by decide) (by decide))
 rw [power1 h2 h1] at HP
 obtain ⟨n, hn⟩ : ∃ n, pow2From room 11 1 = n := ⟨_, rfl⟩
 have hbd := pow2From_bd room 11 1 (by omega) h2
 obtain ⟨x, hx⟩ : ∃ m, 8 * n = m := ⟨_, rfl⟩
 obtain ⟨m, hm⟩ : ∃ m, max 64 x = m := ⟨_, rfl⟩
 have hS : Dr.new room = ⟨m, fun _ => false⟩ := by unfold Dr.new; rw [hn, hx, hm]
 rw [hS]
 rw [hn] at HP hbd
 have hmk : (Instr.makeSlice 266 (.int .i64 (m : Nat)) (.int .i64 (m : Nat))).run Tryz.prog w = .ok (.slice (some ⟨w.heap.size, 0, none⟩) m m) (w.alloc (.cells (madeCells #[.bool false] (m * 1)) 4)) := by
  have hk := run_make (P := Tryz.prog) w 266 4 i0 _ Tryz.underlying266 hii hz0 .i64 .i64 m m (by omega) (Int.le_refl _) (by rw [hz2]; omega) (by omega)
  rw [hz1, Int.toNat_natCast] at hk
  exact hk
 have e1 : (8 : Int) * (n : Int) = (x : Int) := by omega
 have e2 : IntKind.i64.wrap ((8 : Int) * (n : Int)) = (x : Int) := by rw [IntWalk.i64_in _ (by omega)]; exact e1
 have e3 : (if (64 : Int) < (x : Int) then (x : Int) else 64) = (m : Int) := by split <;> omega
 have HF : Hid (∃ F, RD8 ((w.alloc (.cells (madeCells #[.bool false] (m * 1)) 4)).alloc (.cells #[.slice (some ⟨w.heap.size, 0, none⟩) m m] 268)) (w.heap.size + 1) F ⟨m, fun _ => false⟩ ∧ Ge w.heap.size F ∧ Fr [] w ((w.alloc (.cells (madeCells #[.bool false] (m * 1)) 4)).alloc (.cells #[.slice (some ⟨w.heap.size, 0, none⟩) m m] 268))) := by
  have b2 := block_alloc_new (w.alloc (.cells (madeCells #[.bool false] (m * 1)) 4)) (.cells #[.slice (some ⟨w.heap.size, 0, none⟩) m m] 268)
  rw [World.size_alloc] at b2
  refine ⟨[w.heap.size + 1, w.heap.size], ⟨w.heap.size, _, rfl, by omega, b2, block_alloc_old (block_alloc_new w _) _, by rw [size_madeCells]; show m * 1 = m; omega, fun j hj => made_at _ _ _ (by show j < m * 1; have : j < m := hj; omega)⟩, by intro b hb; simp at hb; omega, ((Fr.refl [] w).alloc _).alloc _⟩
 clear hz0 hn hS hx hm hz1 hz2 hii
 go_enter Tryz.func159, Tryz.ntmps159
 go_wp2_with fail
 refine HP.out.mono ?_
 rintro en w1 ⟨rfl, rfl⟩
 go_wp2
 go_ret
 obtain ⟨F, a, b, d⟩ := HF.out
 rw [Nat.mul_one] at a d
 exact ⟨_, F, rfl, a, b, d⟩
end Go.Proofs.YtfeicmpbfbhiiaaGreat
