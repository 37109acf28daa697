/- Texts of a proof about the given program, those parts that this claim reaches. -/
import Derived.Test.YtfeicmpbfbhiiaaGreatPEg32
import Derived.Test.YtfeicmpbfbhiiaaGreatPEg34
import Derived.Test.YtfeicmpbfbhiiaaGreatPEg36
set_option linter.unusedVariables false
set_option linter.unusedSimpArgs false
namespace Go.Proofs.YtfeicmpbfbhiiaaGreat
open Go.RowKit
attribute [local go_sem ↓] Go.wp_at_zero Go.wp_at_succ
/-- The document's engine of whatever kind. -/
def RKind (w : World) (p : Nat) (F : List Nat) : En → Prop | .A s => RE10 w p F s | .L s => RE13 w p F s | .Q s => RE11 w p F s | .U s => RE14 w p F s | .S s => RE12 w p F s
def c15 (k p : Nat) : Array Value := match k with
 | 0 => #[.int .i64 0, ptr p, .pointer none, .pointer none, .pointer none, .pointer none]
 | 1 => #[.int .i64 1, .pointer none, ptr p, .pointer none, .pointer none, .pointer none]
 | 2 => #[.int .i64 2, .pointer none, .pointer none, ptr p, .pointer none, .pointer none]
 | 3 => #[.int .i64 3, .pointer none, .pointer none, .pointer none, ptr p, .pointer none]
 | _ => #[.int .i64 4, .pointer none, .pointer none, .pointer none, .pointer none, ptr p]
def RE15 (w : World) (x : Nat) (F : List Nat) (s : En) : Prop := ∃ p F1, F = x :: F1 ∧ x ∉ F1 ∧ w.heap[x]? = some (.cells (c15 s.kd p) 105 (0, 0)) ∧ RKind w p F1 s
section
variable {w w' w1 : World} {x p : Nat} {F F1 F2 G : List Nat} {s s' : En}
theorem RKind.fr (h : RKind w p F s) (f : Fr G w w') (hd : Dis F G) : RKind w' p F s := by
 cases s with
 | A s => exact ⟨h.1, h.2.fr f hd⟩
 | L s => exact ⟨h.1, h.2.fr f hd⟩
 | Q s => exact ⟨h.1, h.2.fr f hd⟩
 | U s => exact ⟨h.1, h.2.fr f hd⟩
 | S s => exact ⟨h.1, h.2.fr f hd⟩
theorem RKind.lt (h : RKind w p F s) : Lt F w := by
 cases s with
 | A s => exact h.2.lt
 | L s => exact h.2.lt
 | Q s => exact h.2.lt
 | U s => exact h.2.lt
 | S s => exact h.2.lt
theorem RE15.fr (h : RE15 w x F s) (f : Fr G w w') (hd : Dis F G) : RE15 w' x F s := by
 obtain ⟨p, F1, rfl, h1, h2, h3⟩ := h
 exact ⟨p, F1, rfl, h1, f.get h2 (hd x (by simp)), h3.fr f (fun b hb => hd b (by simp [hb]))⟩
theorem RE15.fr0 (h : RE15 w x F s) (f : Fr [] w w') : RE15 w' x F s := h.fr f (fun _ _ => by simp)
theorem RE15.lt (h : RE15 w x F s) : Lt F w := by
 obtain ⟨p, F1, rfl, h1, h2, h3⟩ := h
 intro b hb
 rcases List.mem_cons.1 hb with rfl | hb
 ·exact lt_of_block h2
 ·exact h3.lt b hb
/-- What is inside was changed. -/
theorem RE15.step (hx : x ∉ F1) (hb : w.heap[x]? = some (.cells (c15 s.kd p) 105 (0, 0))) (hk : s'.kd = s.kd) (h : RKind w1 p F2 s') (hs : Sub F2 F1 w) (f : Fr F1 w w1) : ∃ F', RE15 w1 x F' s' ∧ Sub F' (x :: F1) w ∧ Fr (x :: F1) w w1 := by
 have hl := lt_of_block hb
 refine ⟨x :: F2, ⟨p, F2, rfl, fun hh => ?_, ?_, h⟩, fun b hb => ?_, f.mono fun b hb _ => by simp [hb]⟩
 ·rcases hs x hh with z | z
  ·exact hx z
  ·omega
 ·rw [hk]; exact f.get hb hx
 ·rcases List.mem_cons.1 hb with rfl | hb
  ·exact .inl (by simp)
  ·exact (hs b hb).imp (fun z => by simp [z]) id
end
theorem hotB_stk (S : Stk) : hotB (stkB S) = thoseS S 1 := by
 unfold hotB stkB thoseS
 rw [List.filter_map, List.map_map]
 have : ((fun e : ByteArray × Nat => decide (e.2 = 104)) ∘ fun x : ByteArray × Nat => (x.1, isB x.2)) = fun e => decide (e.2 = 1) := by
  funext e
  simp [isB_hot]
 rw [this]
 rfl
section
variable {w w' w1 : World} {x : Nat} {F : List Nat}
set_option maxRecDepth 100000 in
theorem r15loadA {s : Arc} (h : RE15 w x F (.A s)) (key : ByteArray) (hz : key.size ≤ maxLen) : Calls Tryz.prog 64 #[ptr x, .string key] w (StepRet RE15 w x F (.bool ((En.A s).load key).1) ((En.A s).load key).2) := by
 obtain ⟨p, F1, rfl, hx, hb, h⟩ := h
 have HC := Lib.hid (r10load h key hz)
 have k0 := cell_of_block hb 0
 have kp := cell_of_block hb 1
 simp [c15, En.kd] at k0 kp
 have HF := Lib.hid fun (w1 : World) (F2 : List Nat) h1 h2 h3 => RE15.step (s' := ((En.A s).load key).2) (w1 := w1) (F2 := F2) hx hb rfl h1 h2 h3
 clear h hb hx
 go_enter Tryz.func64, Tryz.ntmps64
 go_wp2_with fail
 refine HC.out.mono ?_
 rintro en w1 ⟨rfl, F2, a, b, d⟩
 have HR := Lib.hid (HF.out w1 F2 a b d)
 clear a b d
 go_wp2
 go_ret
 exact ⟨rfl, HR.out⟩
set_option maxRecDepth 100000 in
theorem r15loadL {s : Lirs} (h : RE15 w x F (.L s)) (key : ByteArray) (hz : key.size ≤ maxLen) : Calls Tryz.prog 64 #[ptr x, .string key] w (StepRet RE15 w x F (.bool ((En.L s).load key).1) ((En.L s).load key).2) := by
 obtain ⟨p, F1, rfl, hx, hb, h⟩ := h
 have HC := Lib.hid (r13load h key hz)
 have k0 := cell_of_block hb 0
 have kp := cell_of_block hb 2
 simp [c15, En.kd] at k0 kp
 have HF := Lib.hid fun (w1 : World) (F2 : List Nat) h1 h2 h3 => RE15.step (s' := ((En.L s).load key).2) (w1 := w1) (F2 := F2) hx hb rfl h1 h2 h3
 clear h hb hx
 go_enter Tryz.func64, Tryz.ntmps64
 go_wp2_with fail
 refine HC.out.mono ?_
 rintro en w1 ⟨rfl, F2, a, b, d⟩
 have HR := Lib.hid (HF.out w1 F2 a b d)
 clear a b d
 go_wp2
 go_ret
 exact ⟨rfl, HR.out⟩
set_option maxRecDepth 100000 in
theorem r15loadQ {s : Twoq} (h : RE15 w x F (.Q s)) (key : ByteArray) (hz : key.size ≤ maxLen) : Calls Tryz.prog 64 #[ptr x, .string key] w (StepRet RE15 w x F (.bool ((En.Q s).load key).1) ((En.Q s).load key).2) := by
 obtain ⟨p, F1, rfl, hx, hb, h⟩ := h
 have HC := Lib.hid (r11load h key hz)
 have k0 := cell_of_block hb 0
 have kp := cell_of_block hb 3
 simp [c15, En.kd] at k0 kp
 have HF := Lib.hid fun (w1 : World) (F2 : List Nat) h1 h2 h3 => RE15.step (s' := ((En.Q s).load key).2) (w1 := w1) (F2 := F2) hx hb rfl h1 h2 h3
 clear h hb hx
 go_enter Tryz.func64, Tryz.ntmps64
 go_wp2_with fail
 refine HC.out.mono ?_
 rintro en w1 ⟨rfl, F2, a, b, d⟩
 have HR := Lib.hid (HF.out w1 F2 a b d)
 clear a b d
 go_wp2
 go_ret
 exact ⟨rfl, HR.out⟩
set_option maxRecDepth 100000 in
theorem r15loadU {s : Tiny} (h : RE15 w x F (.U s)) (key : ByteArray) (hz : key.size ≤ maxLen) : Calls Tryz.prog 64 #[ptr x, .string key] w (StepRet RE15 w x F (.bool ((En.U s).load key).1) ((En.U s).load key).2) := by
 obtain ⟨p, F1, rfl, hx, hb, h⟩ := h
 have HC := Lib.hid (r14load h key hz)
 have k0 := cell_of_block hb 0
 have kp := cell_of_block hb 4
 simp [c15, En.kd] at k0 kp
 have HF := Lib.hid fun (w1 : World) (F2 : List Nat) h1 h2 h3 => RE15.step (s' := ((En.U s).load key).2) (w1 := w1) (F2 := F2) hx hb rfl h1 h2 h3
 clear h hb hx
 go_enter Tryz.func64, Tryz.ntmps64
 go_wp2_with fail
 refine HC.out.mono ?_
 rintro en w1 ⟨rfl, F2, a, b, d⟩
 have HR := Lib.hid (HF.out w1 F2 a b d)
 clear a b d
 go_wp2
 go_ret
 exact ⟨rfl, HR.out⟩
set_option maxRecDepth 100000 in
theorem r15loadS {s : S3} (h : RE15 w x F (.S s)) (key : ByteArray) (hz : key.size ≤ maxLen) : Calls Tryz.prog 64 #[ptr x, .string key] w (StepRet RE15 w x F (.bool ((En.S s).load key).1) ((En.S s).load key).2) := by
 obtain ⟨p, F1, rfl, hx, hb, h⟩ := h
 have HC := Lib.hid (r12load h key hz)
 have k0 := cell_of_block hb 0
 have kp := cell_of_block hb 5
 simp [c15, En.kd] at k0 kp
 have HF := Lib.hid fun (w1 : World) (F2 : List Nat) h1 h2 h3 => RE15.step (s' := ((En.S s).load key).2) (w1 := w1) (F2 := F2) hx hb rfl h1 h2 h3
 clear h hb hx
 go_enter Tryz.func64, Tryz.ntmps64
 go_wp2_with fail
 refine HC.out.mono ?_
 rintro en w1 ⟨rfl, F2, a, b, d⟩
 have HR := Lib.hid (HF.out w1 F2 a b d)
 clear a b d
 go_wp2
 go_ret
 exact ⟨rfl, HR.out⟩
theorem r15load {s : En} (h : RE15 w x F s) (key : ByteArray) (hz : key.size ≤ maxLen) : Calls Tryz.prog 64 #[ptr x, .string key] w (StepRet RE15 w x F (.bool (s.load key).1) (s.load key).2) := by
 cases s with
 | A s => exact r15loadA h key hz
 | L s => exact r15loadL h key hz
 | Q s => exact r15loadQ h key hz
 | U s => exact r15loadU h key hz
 | S s => exact r15loadS h key hz
set_option maxRecDepth 100000 in
theorem r15keysA {s : Arc} (h : RE15 w x F (.A s)) : Calls Tryz.prog 70 #[ptr x] w (KeysRet w (En.A s).keys) := by
 obtain ⟨p, F1, rfl, hx, hb, h⟩ := h
 have HC : Hid (Calls Tryz.prog 129 #[ptr p] w (KeysRet w (En.A s).keys)) := by
  exact r10keysK h.2 h.1.len
 have k0 := cell_of_block hb 0
 have kp := cell_of_block hb 1
 simp [c15, En.kd] at k0 kp
 generalize (En.A s).keys = l at *
 clear h hb hx
 go_enter Tryz.func70, Tryz.ntmps70
 go_wp2_with fail
 refine HC.out.mono ?_
 rintro en w1 ⟨v, rfl, a, b⟩
 have HR := Lib.hid (And.intro a b)
 clear a b
 go_wp2
 go_ret
 exact ⟨_, rfl, HR.out⟩
set_option maxRecDepth 100000 in
theorem r15keysL {s : Lirs} (h : RE15 w x F (.L s)) : Calls Tryz.prog 70 #[ptr x] w (KeysRet w (En.L s).keys) := by
 obtain ⟨p, F1, rfl, hx, hb, h⟩ := h
 have HC : Hid (Calls Tryz.prog 130 #[ptr p] w (KeysRet w (En.L s).keys)) := by
  have := r13keys h.2 (by rw [stkB_len]; exact h.1.lens.1) h.1.lens.2; rw [hotB_stk] at this; exact this
 have k0 := cell_of_block hb 0
 have kp := cell_of_block hb 2
 simp [c15, En.kd] at k0 kp
 generalize (En.L s).keys = l at *
 clear h hb hx
 go_enter Tryz.func70, Tryz.ntmps70
 go_wp2_with fail
 refine HC.out.mono ?_
 rintro en w1 ⟨v, rfl, a, b⟩
 have HR := Lib.hid (And.intro a b)
 clear a b
 go_wp2
 go_ret
 exact ⟨_, rfl, HR.out⟩
set_option maxRecDepth 100000 in
theorem r15keysQ {s : Twoq} (h : RE15 w x F (.Q s)) : Calls Tryz.prog 70 #[ptr x] w (KeysRet w (En.Q s).keys) := by
 obtain ⟨p, F1, rfl, hx, hb, h⟩ := h
 have HC : Hid (Calls Tryz.prog 131 #[ptr p] w (KeysRet w (En.Q s).keys)) := by
  exact r11keysK h.2 h.1.len
 have k0 := cell_of_block hb 0
 have kp := cell_of_block hb 3
 simp [c15, En.kd] at k0 kp
 generalize (En.Q s).keys = l at *
 clear h hb hx
 go_enter Tryz.func70, Tryz.ntmps70
 go_wp2_with fail
 refine HC.out.mono ?_
 rintro en w1 ⟨v, rfl, a, b⟩
 have HR := Lib.hid (And.intro a b)
 clear a b
 go_wp2
 go_ret
 exact ⟨_, rfl, HR.out⟩
set_option maxRecDepth 100000 in
theorem r15keysU {s : Tiny} (h : RE15 w x F (.U s)) : Calls Tryz.prog 70 #[ptr x] w (KeysRet w (En.U s).keys) := by
 obtain ⟨p, F1, rfl, hx, hb, h⟩ := h
 have HC : Hid (Calls Tryz.prog 132 #[ptr p] w (KeysRet w (En.U s).keys)) := by
  have := r14keysK h.2 h.1.len; rw [List.append_assoc] at this; exact this
 have k0 := cell_of_block hb 0
 have kp := cell_of_block hb 4
 simp [c15, En.kd] at k0 kp
 generalize (En.U s).keys = l at *
 clear h hb hx
 go_enter Tryz.func70, Tryz.ntmps70
 go_wp2_with fail
 refine HC.out.mono ?_
 rintro en w1 ⟨v, rfl, a, b⟩
 have HR := Lib.hid (And.intro a b)
 clear a b
 go_wp2
 go_ret
 exact ⟨_, rfl, HR.out⟩
set_option maxRecDepth 100000 in
theorem r15keysS {s : S3} (h : RE15 w x F (.S s)) : Calls Tryz.prog 70 #[ptr x] w (KeysRet w (En.S s).keys) := by
 obtain ⟨p, F1, rfl, hx, hb, h⟩ := h
 have HC : Hid (Calls Tryz.prog 133 #[ptr p] w (KeysRet w (En.S s).keys)) := by
  have := r12keys h.2 rfl rfl (by rw [cellsOf_len]; exact h.1.len 0) (by rw [cellsOf_len]; exact h.1.len 1); rw [cellsOf_keys, cellsOf_keys] at this; exact this
 have k0 := cell_of_block hb 0
 have kp := cell_of_block hb 5
 simp [c15, En.kd] at k0 kp
 generalize (En.S s).keys = l at *
 clear h hb hx
 go_enter Tryz.func70, Tryz.ntmps70
 go_wp2_with fail
 refine HC.out.mono ?_
 rintro en w1 ⟨v, rfl, a, b⟩
 have HR := Lib.hid (And.intro a b)
 clear a b
 go_wp2
 go_ret
 exact ⟨_, rfl, HR.out⟩
theorem r15keys {s : En} (h : RE15 w x F s) : Calls Tryz.prog 70 #[ptr x] w (KeysRet w s.keys) := by
 cases s with
 | A s => exact r15keysA h
 | L s => exact r15keysL h
 | Q s => exact r15keysQ h
 | U s => exact r15keysU h
 | S s => exact r15keysS h
set_option maxRecDepth 100000 in
theorem r15len {s : En} (h : RE15 w x F s) : Calls Tryz.prog 18 #[ptr x] w fun en w' => en = .returned (.int .i64 (s.len : Nat)) ∧ Fr [] w w' := by
 have HC := Lib.hid (r15keys h)
 have hl := En.keys_len s
 rw [← hl]
 generalize s.keys = l at *
 clear h hl
 go_enter Tryz.func18, Tryz.ntmps18
 go_wp2_with fail
 refine HC.out.mono ?_
 rintro en w1 ⟨v, rfl, a, b⟩
 obtain ⟨va, vc, hv⟩ := a.1.form
 subst hv
 clear a
 go_wp2
 go_ret
 exact ⟨rfl, b⟩
end
end Go.Proofs.YtfeicmpbfbhiiaaGreat
set_option linter.unusedVariables false
set_option linter.unusedSimpArgs false
namespace Go.Proofs.YtfeicmpbfbhiiaaGreat
open Go.RowKit
attribute [local go_sem ↓] Go.wp_at_zero Go.wp_at_succ
def New15 (w : World) (s : En) (en : Ending) (w' : World) : Prop := ∃ x F, en = .returned (.tuple #[ptr x, .int .i64 0]) ∧ RE15 w' x F s ∧ Ge w.heap.size F ∧ Fr [] w w'
set_option maxRecDepth 100000 in
theorem r15newA (w : World) (room : Int) : Calls Tryz.prog 40 #[.int .i64 0, .int .i64 room] w (New15 w (.A (Arc.new room))) := by
 obtain ⟨w0, hw0⟩ : ∃ w0, w.alloc (.cells #[.int .i64 0, .pointer none, .pointer none, .pointer none, .pointer none, .pointer none] 105) = w0 := ⟨_, rfl⟩
 have HC := Lib.hid (r10new w0 room)
 have hb : w0.heap[w.heap.size]? = some (.cells #[.int .i64 0, .pointer none, .pointer none, .pointer none, .pointer none, .pointer none] 105 (0, 0)) := by rw [← hw0]; exact block_alloc_new w _
 have hz : w0.heap.size = w.heap.size + 1 := by rw [← hw0]; simp
 have hf0 : Fr [] w w0 := by rw [← hw0]; exact (Fr.refl [] w).alloc _
 have HB := Lib.hid (And.intro hb (And.intro hz hf0))
 go_enter Tryz.func40, Tryz.ntmps40
 go_wp2_with fail
 refine HC.out.mono ?_
 rintro en w1 ⟨p, F, rfl, a, b, d⟩
 have hb1 := d.get HB.out.1 (by simp)
 have kk := cell_of_block hb1 1
 have ky := free_of_block hb1 1
 simp at kk
 have HR : Hid (New15 w (.A (Arc.new room)) (.returned (.tuple #[ptr w.heap.size, .int .i64 0])) (w1.setCell ⟨w.heap.size, 1, none⟩ (ptr p))) := by
  have hz := HB.out.2.1
  have hn : w.heap.size ∉ F := fun hh => by have := b _ hh; omega
  have fs := (Fr.refl [w.heap.size] w1).setCell (p := ⟨w.heap.size, 1, none⟩) (by simp) (ptr p)
  refine ⟨_, w.heap.size :: F, rfl, ⟨p, F, rfl, hn, ?_, RKind.fr (s := .A (Arc.new room)) a fs (fun y hb hh => ?_)⟩, fun y hb => ?_, ?_⟩
  ·rw [block_set_same hb1]; rfl
  ·simp at hh; subst hh; exact hn hb
  ·rcases List.mem_cons.1 hb with rfl | hb
   ·omega
   ·have := b _ hb; omega
  ·exact (HB.out.2.2.same d).setNew (Nat.le_refl _) _
 clear hb hz hf0 a b d hb1 hw0
 go_wp2
 go_ret2
 exact HR.out
set_option maxRecDepth 100000 in
theorem r15newL (w : World) (room : Int) : Calls Tryz.prog 40 #[.int .i64 1, .int .i64 room] w (New15 w (.L (Lirs.new room))) := by
 obtain ⟨w0, hw0⟩ : ∃ w0, w.alloc (.cells #[.int .i64 1, .pointer none, .pointer none, .pointer none, .pointer none, .pointer none] 105) = w0 := ⟨_, rfl⟩
 have HC := Lib.hid (r13new w0 room)
 have hb : w0.heap[w.heap.size]? = some (.cells #[.int .i64 1, .pointer none, .pointer none, .pointer none, .pointer none, .pointer none] 105 (0, 0)) := by rw [← hw0]; exact block_alloc_new w _
 have hz : w0.heap.size = w.heap.size + 1 := by rw [← hw0]; simp
 have hf0 : Fr [] w w0 := by rw [← hw0]; exact (Fr.refl [] w).alloc _
 have HB := Lib.hid (And.intro hb (And.intro hz hf0))
 go_enter Tryz.func40, Tryz.ntmps40
 go_wp2_with fail
 refine HC.out.mono ?_
 rintro en w1 ⟨p, F, rfl, a, b, d⟩
 have hb1 := d.get HB.out.1 (by simp)
 have kk := cell_of_block hb1 2
 have ky := free_of_block hb1 2
 simp at kk
 have HR : Hid (New15 w (.L (Lirs.new room)) (.returned (.tuple #[ptr w.heap.size, .int .i64 0])) (w1.setCell ⟨w.heap.size, 2, none⟩ (ptr p))) := by
  have hz := HB.out.2.1
  have hn : w.heap.size ∉ F := fun hh => by have := b _ hh; omega
  have fs := (Fr.refl [w.heap.size] w1).setCell (p := ⟨w.heap.size, 2, none⟩) (by simp) (ptr p)
  refine ⟨_, w.heap.size :: F, rfl, ⟨p, F, rfl, hn, ?_, RKind.fr (s := .L (Lirs.new room)) a fs (fun y hb hh => ?_)⟩, fun y hb => ?_, ?_⟩
  ·rw [block_set_same hb1]; rfl
  ·simp at hh; subst hh; exact hn hb
  ·rcases List.mem_cons.1 hb with rfl | hb
   ·omega
   ·have := b _ hb; omega
  ·exact (HB.out.2.2.same d).setNew (Nat.le_refl _) _
 clear hb hz hf0 a b d hb1 hw0
 go_wp2
 go_ret2
 exact HR.out
set_option maxRecDepth 100000 in
theorem r15newQ (w : World) (room : Int) : Calls Tryz.prog 40 #[.int .i64 2, .int .i64 room] w (New15 w (.Q (Twoq.new room))) := by
 obtain ⟨w0, hw0⟩ : ∃ w0, w.alloc (.cells #[.int .i64 2, .pointer none, .pointer none, .pointer none, .pointer none, .pointer none] 105) = w0 := ⟨_, rfl⟩
 have HC := Lib.hid (r11new w0 room)
 have hb : w0.heap[w.heap.size]? = some (.cells #[.int .i64 2, .pointer none, .pointer none, .pointer none, .pointer none, .pointer none] 105 (0, 0)) := by rw [← hw0]; exact block_alloc_new w _
 have hz : w0.heap.size = w.heap.size + 1 := by rw [← hw0]; simp
 have hf0 : Fr [] w w0 := by rw [← hw0]; exact (Fr.refl [] w).alloc _
 have HB := Lib.hid (And.intro hb (And.intro hz hf0))
 go_enter Tryz.func40, Tryz.ntmps40
 go_wp2_with fail
 refine HC.out.mono ?_
 rintro en w1 ⟨p, F, rfl, a, b, d⟩
 have hb1 := d.get HB.out.1 (by simp)
 have kk := cell_of_block hb1 3
 have ky := free_of_block hb1 3
 simp at kk
 have HR : Hid (New15 w (.Q (Twoq.new room)) (.returned (.tuple #[ptr w.heap.size, .int .i64 0])) (w1.setCell ⟨w.heap.size, 3, none⟩ (ptr p))) := by
  have hz := HB.out.2.1
  have hn : w.heap.size ∉ F := fun hh => by have := b _ hh; omega
  have fs := (Fr.refl [w.heap.size] w1).setCell (p := ⟨w.heap.size, 3, none⟩) (by simp) (ptr p)
  refine ⟨_, w.heap.size :: F, rfl, ⟨p, F, rfl, hn, ?_, RKind.fr (s := .Q (Twoq.new room)) a fs (fun y hb hh => ?_)⟩, fun y hb => ?_, ?_⟩
  ·rw [block_set_same hb1]; rfl
  ·simp at hh; subst hh; exact hn hb
  ·rcases List.mem_cons.1 hb with rfl | hb
   ·omega
   ·have := b _ hb; omega
  ·exact (HB.out.2.2.same d).setNew (Nat.le_refl _) _
 clear hb hz hf0 a b d hb1 hw0
 go_wp2
 go_ret2
 exact HR.out
set_option maxRecDepth 100000 in
theorem r15newU (w : World) (room : Int) : Calls Tryz.prog 40 #[.int .i64 3, .int .i64 room] w (New15 w (.U (Tiny.new room))) := by
 obtain ⟨w0, hw0⟩ : ∃ w0, w.alloc (.cells #[.int .i64 3, .pointer none, .pointer none, .pointer none, .pointer none, .pointer none] 105) = w0 := ⟨_, rfl⟩
 have HC := Lib.hid (r14new w0 room)
 have hb : w0.heap[w.heap.size]? = some (.cells #[.int .i64 3, .pointer none, .pointer none, .pointer none, .pointer none, .pointer none] 105 (0, 0)) := by rw [← hw0]; exact block_alloc_new w _
 have hz : w0.heap.size = w.heap.size + 1 := by rw [← hw0]; simp
 have hf0 : Fr [] w w0 := by rw [← hw0]; exact (Fr.refl [] w).alloc _
 have HB := Lib.hid (And.intro hb (And.intro hz hf0))
 go_enter Tryz.func40, Tryz.ntmps40
 go_wp2_with fail
 refine HC.out.mono ?_
 rintro en w1 ⟨p, F, rfl, a, b, d⟩
 have hb1 := d.get HB.out.1 (by simp)
 have kk := cell_of_block hb1 4
 have ky := free_of_block hb1 4
 simp at kk
 have HR : Hid (New15 w (.U (Tiny.new room)) (.returned (.tuple #[ptr w.heap.size, .int .i64 0])) (w1.setCell ⟨w.heap.size, 4, none⟩ (ptr p))) := by
  have hz := HB.out.2.1
  have hn : w.heap.size ∉ F := fun hh => by have := b _ hh; omega
  have fs := (Fr.refl [w.heap.size] w1).setCell (p := ⟨w.heap.size, 4, none⟩) (by simp) (ptr p)
  refine ⟨_, w.heap.size :: F, rfl, ⟨p, F, rfl, hn, ?_, RKind.fr (s := .U (Tiny.new room)) a fs (fun y hb hh => ?_)⟩, fun y hb => ?_, ?_⟩
  ·rw [block_set_same hb1]; rfl
  ·simp at hh; subst hh; exact hn hb
  ·rcases List.mem_cons.1 hb with rfl | hb
   ·omega
   ·have := b _ hb; omega
  ·exact (HB.out.2.2.same d).setNew (Nat.le_refl _) _
 clear hb hz hf0 a b d hb1 hw0
 go_wp2
 go_ret2
 exact HR.out
set_option maxRecDepth 100000 in
theorem r15newS (w : World) (room : Int) : Calls Tryz.prog 40 #[.int .i64 4, .int .i64 room] w (New15 w (.S (S3.new room))) := by
 obtain ⟨w0, hw0⟩ : ∃ w0, w.alloc (.cells #[.int .i64 4, .pointer none, .pointer none, .pointer none, .pointer none, .pointer none] 105) = w0 := ⟨_, rfl⟩
 have HC := Lib.hid (r12new w0 room)
 have hb : w0.heap[w.heap.size]? = some (.cells #[.int .i64 4, .pointer none, .pointer none, .pointer none, .pointer none, .pointer none] 105 (0, 0)) := by rw [← hw0]; exact block_alloc_new w _
 have hz : w0.heap.size = w.heap.size + 1 := by rw [← hw0]; simp
 have hf0 : Fr [] w w0 := by rw [← hw0]; exact (Fr.refl [] w).alloc _
 have HB := Lib.hid (And.intro hb (And.intro hz hf0))
 go_enter Tryz.func40, Tryz.ntmps40
 go_wp2_with fail
 refine HC.out.mono ?_
 rintro en w1 ⟨p, F, rfl, a, b, d⟩
 have hb1 := d.get HB.out.1 (by simp)
 have kk := cell_of_block hb1 5
 have ky := free_of_block hb1 5
 simp at kk
 have HR : Hid (New15 w (.S (S3.new room)) (.returned (.tuple #[ptr w.heap.size, .int .i64 0])) (w1.setCell ⟨w.heap.size, 5, none⟩ (ptr p))) := by
  have hz := HB.out.2.1
  have hn : w.heap.size ∉ F := fun hh => by have := b _ hh; omega
  have fs := (Fr.refl [w.heap.size] w1).setCell (p := ⟨w.heap.size, 5, none⟩) (by simp) (ptr p)
  refine ⟨_, w.heap.size :: F, rfl, ⟨p, F, rfl, hn, ?_, RKind.fr (s := .S (S3.new room)) a fs (fun y hb hh => ?_)⟩, fun y hb => ?_, ?_⟩
  ·rw [block_set_same hb1]; rfl
  ·simp at hh; subst hh; exact hn hb
  ·rcases List.mem_cons.1 hb with rfl | hb
   ·omega
   ·have := b _ hb; omega
  ·exact (HB.out.2.2.same d).setNew (Nat.le_refl _) _
 clear hb hz hf0 a b d hb1 hw0
 go_wp2
 go_ret2
 exact HR.out
theorem r15new (w : World) (k : Nat) (hk : k < 5) (room : Int) : Calls Tryz.prog 40 #[.int .i64 k, .int .i64 room] w (New15 w (En.new k room)) := by
 match k, hk with
 | 0, _ => exact r15newA w room
 | 1, _ => exact r15newL w room
 | 2, _ => exact r15newQ w room
 | 3, _ => exact r15newU w room
 | 4, _ => exact r15newS w room
set_option maxRecDepth 100000 in
/-- A kind that is none. -/
theorem r15new_bad (w : World) (k room : Int) (hk : ¬ (0 ≤ k ∧ k < 5)) : Calls Tryz.prog 40 #[.int .i64 k, .int .i64 room] w fun en w' => en = .returned (.tuple #[.pointer none, .int .i64 4]) ∧ Fr [] w w' := by
 have b0 : (k == 0) = false := by rw [beq_eq_false_iff_ne]; omega
 have b1 : (k == 1) = false := by rw [beq_eq_false_iff_ne]; omega
 have b2 : (k == 2) = false := by rw [beq_eq_false_iff_ne]; omega
 have b3 : (k == 3) = false := by rw [beq_eq_false_iff_ne]; omega
 have b4 : (k == 4) = false := by rw [beq_eq_false_iff_ne]; omega
 go_enter Tryz.func40, Tryz.ntmps40
 go_wp2
 go_ret2
 exact ⟨rfl, (Fr.refl _ _).alloc _⟩
set_option maxRecDepth 100000 in
theorem r15from_bad (w : World) (k room : Int) (hk : ¬ (0 ≤ k ∧ k < 5)) (v : Value) : Calls Tryz.prog 16 #[.int .i64 k, .int .i64 room, v] w fun en w' => en = .returned (.tuple #[.pointer none, .int .i64 4]) ∧ Fr [] w w' := by
 have HC := Lib.hid (r15new_bad w k room hk)
 go_enter Tryz.func16, Tryz.ntmps16
 go_wp2_with fail
 refine HC.out.mono ?_
 rintro en w1 ⟨rfl, f⟩
 go_wp2
 go_ret2
 exact ⟨rfl, f⟩
end Go.Proofs.YtfeicmpbfbhiiaaGreat
set_option linter.unusedVariables false
set_option linter.unusedSimpArgs false
namespace Go.Proofs.YtfeicmpbfbhiiaaGreat
open Go.RowKit
attribute [local go_sem ↓] Go.wp_at_zero Go.wp_at_succ
theorem ba_ext {a b : ByteArray} (h : a.data.toList = b.data.toList) : a = b := by cases a; cases b; simp at h; simp [h]
theorem joinB_snoc (x : ByteArray) (l : List ByteArray) (k sep : ByteArray) : joinB (x :: (l ++ [k])) sep = joinB (x :: l) sep ++ sep ++ k := by
 apply ba_ext
 unfold joinB
 simp [Lib.join_cons, Lib.joinTail, ByteArray.data_append]
theorem joinB_one (x sep : ByteArray) : joinB [x] sep = x := by
 apply ba_ext
 unfold joinB
 simp [Lib.join_one]
theorem ba_assoc (a b c : ByteArray) : a ++ b ++ c = a ++ (b ++ c) := by
 apply ba_ext
 simp [ByteArray.data_append]
theorem ba_nil (a : ByteArray) : a ++ ⟨#[]⟩ = a := by
 apply ba_ext
 simp [ByteArray.data_append]
theorem textB_nil (name : ByteArray) : textB name [] = name ++ ⟨#[58]⟩ := by unfold textB; rw [joinB_one, ba_nil]
theorem textB_snoc (name : ByteArray) (l : List ByteArray) (k : ByteArray) : textB name (l ++ [k]) = textB name l ++ ⟨#[32]⟩ ++ k := by
 unfold textB
 rw [joinB_snoc, ba_assoc, ba_assoc, ba_assoc, ba_assoc, ba_assoc]
theorem joinB_three (a b c s : ByteArray) : joinB [a, b, c] s = a ++ s ++ b ++ s ++ c := by
 have h1 := joinB_snoc a [b] c s
 have h2 := joinB_snoc a [] b s
 rw [joinB_one] at h2
 simp only [List.nil_append, List.cons_append] at h1 h2
 rw [h1, h2]
set_option maxRecDepth 100000 in
theorem ftextA {w : World} {v : Value} {l : List ByteArray} (h : SS w v l) (hl : l.length ≤ 5000) (hs : Short 10000 l) (name : ByteArray) (hnm : name.size ≤ 100) :
  Calls Tryz.prog 124 #[.string name, v] w fun en w' => en = .returned (.string (textB name l)) ∧ w' = w := by
 have H := Lib.hid h
 obtain ⟨a, c, hv⟩ := h.form
 obtain ⟨n, hn⟩ : ∃ n, l.length = n := ⟨_, rfl⟩
 have HN : Hid (l.length = n) := hn
 have HSH := Lib.hid hs
 rw [hn] at hv hl
 subst hv
 have q0 : ¬ 9223372036854775807 < name.size + 1 := by omega
 have hnil := textB_nil name
 have HNIL := Lib.hid hnil
 clear h hn hs hnil
 go_enter Tryz.func124, Tryz.ntmps124
 go_wp2
 go_loopw [5, 6] (fun u5 u6 wr => ∃ (j : Nat) (t : ByteArray), j ≤ n ∧ u6 = .int .i64 j ∧ u5 = .string t ∧ wr = w ∧ Hid (t = textB name (l.take j))) (fun _ u6 _ => n - (intOf u6).toNat)
 case atStart => exact ⟨0, _, Nat.zero_le _, rfl, rfl, rfl, by rw [List.take_zero]; exact HNIL.out.symm⟩
 case round =>
  obtain ⟨j, t, hj, rfl, rfl, rfl, hT⟩ := hrel
  by_cases hlt : j < n
  ·have hjl : j < l.length := by rw [HN.out]; exact hlt
   obtain ⟨g, o, rfl, x0⟩ := RowAt.str (i := j) H.out hjl
   have hts : t.size ≤ 100000000 := by
    rw [hT.out]
    exact text_size hnm (fun k hk => HSH.out k (List.mem_of_mem_take hk)) (by rw [List.length_take]; omega)
   have hks : l[j].size ≤ 10000 := HSH.out _ (List.getElem_mem hjl)
   have HSN : Hid (textB name (l.take (j + 1)) = t ++ ⟨#[32]⟩ ++ l[j]) := by
    show _ = _
    rw [List.take_add_one, List.getElem?_eq_getElem hjl]
    show textB name (l.take j ++ [l[j]]) = _
    rw [textB_snoc, ← hT.out]
   obtain ⟨k, hk⟩ : ∃ k, l[j] = k := ⟨_, rfl⟩
   rw [hk] at x0 HSN hks
   have q1 : (j : Int) < (n : Int) := by omega
   have q2 : ¬ 9223372036854775807 < t.size + 1 := by omega
   have q3 : ¬ 9223372036854775807 < t.size + 1 + k.size := by omega
   clear hk
   go_wp2
   exact ⟨⟨j + 1, _, by omega, by go_num, rfl, by first | rfl | trivial, HSN.out.symm⟩, by simp [intOf]; omega⟩
  ·have : n = j := by omega
   subst this
   go_wp2
   go_ret
   have hT := hT.out
   rw [← HN.out, List.take_length] at hT
   exact ⟨by rw [← hT]; rfl, rfl⟩
set_option maxRecDepth 100000 in
theorem ftextQ {w : World} {v : Value} {l : List ByteArray} (h : SS w v l) (hl : l.length ≤ 5000) (hs : Short 10000 l) (name : ByteArray) (hnm : name.size ≤ 100) :
  Calls Tryz.prog 126 #[.string name, v] w fun en w' => en = .returned (.string (textB name l)) ∧ w' = w := by
 have H := Lib.hid h
 obtain ⟨a, c, hv⟩ := h.form
 obtain ⟨n, hn⟩ : ∃ n, l.length = n := ⟨_, rfl⟩
 have HN : Hid (l.length = n) := hn
 have HSH := Lib.hid hs
 rw [hn] at hv hl
 subst hv
 have q0 : ¬ 9223372036854775807 < name.size + 1 := by omega
 have hnil := textB_nil name
 have HNIL := Lib.hid hnil
 clear h hn hs hnil
 go_enter Tryz.func126, Tryz.ntmps126
 go_wp2
 go_loopw [5, 6] (fun u5 u6 wr => ∃ (j : Nat) (t : ByteArray), j ≤ n ∧ u6 = .int .i64 j ∧ u5 = .string t ∧ wr = w ∧ Hid (t = textB name (l.take j))) (fun _ u6 _ => n - (intOf u6).toNat)
 case atStart => exact ⟨0, _, Nat.zero_le _, rfl, rfl, rfl, by rw [List.take_zero]; exact HNIL.out.symm⟩
 case round =>
  obtain ⟨j, t, hj, rfl, rfl, rfl, hT⟩ := hrel
  by_cases hlt : j < n
  ·have hjl : j < l.length := by rw [HN.out]; exact hlt
   obtain ⟨g, o, rfl, x0⟩ := RowAt.str (i := j) H.out hjl
   have hts : t.size ≤ 100000000 := by
    rw [hT.out]
    exact text_size hnm (fun k hk => HSH.out k (List.mem_of_mem_take hk)) (by rw [List.length_take]; omega)
   have hks : l[j].size ≤ 10000 := HSH.out _ (List.getElem_mem hjl)
   have HSN : Hid (textB name (l.take (j + 1)) = t ++ ⟨#[32]⟩ ++ l[j]) := by
    show _ = _
    rw [List.take_add_one, List.getElem?_eq_getElem hjl]
    show textB name (l.take j ++ [l[j]]) = _
    rw [textB_snoc, ← hT.out]
   obtain ⟨k, hk⟩ : ∃ k, l[j] = k := ⟨_, rfl⟩
   rw [hk] at x0 HSN hks
   have q1 : (j : Int) < (n : Int) := by omega
   have q2 : ¬ 9223372036854775807 < t.size + 1 := by omega
   have q3 : ¬ 9223372036854775807 < t.size + 1 + k.size := by omega
   clear hk
   go_wp2
   exact ⟨⟨j + 1, _, by omega, by go_num, rfl, by first | rfl | trivial, HSN.out.symm⟩, by simp [intOf]; omega⟩
  ·have : n = j := by omega
   subst this
   go_wp2
   go_ret
   have hT := hT.out
   rw [← HN.out, List.take_length] at hT
   exact ⟨by rw [← hT]; rfl, rfl⟩
set_option maxRecDepth 100000 in
theorem ftextU {w : World} {v : Value} {l : List ByteArray} (h : SS w v l) (hl : l.length ≤ 5000) (hs : Short 10000 l) (name : ByteArray) (hnm : name.size ≤ 100) :
  Calls Tryz.prog 127 #[.string name, v] w fun en w' => en = .returned (.string (textB name l)) ∧ w' = w := by
 have H := Lib.hid h
 obtain ⟨a, c, hv⟩ := h.form
 obtain ⟨n, hn⟩ : ∃ n, l.length = n := ⟨_, rfl⟩
 have HN : Hid (l.length = n) := hn
 have HSH := Lib.hid hs
 rw [hn] at hv hl
 subst hv
 have q0 : ¬ 9223372036854775807 < name.size + 1 := by omega
 have hnil := textB_nil name
 have HNIL := Lib.hid hnil
 clear h hn hs hnil
 go_enter Tryz.func127, Tryz.ntmps127
 go_wp2
 go_loopw [5, 6] (fun u5 u6 wr => ∃ (j : Nat) (t : ByteArray), j ≤ n ∧ u6 = .int .i64 j ∧ u5 = .string t ∧ wr = w ∧ Hid (t = textB name (l.take j))) (fun _ u6 _ => n - (intOf u6).toNat)
 case atStart => exact ⟨0, _, Nat.zero_le _, rfl, rfl, rfl, by rw [List.take_zero]; exact HNIL.out.symm⟩
 case round =>
  obtain ⟨j, t, hj, rfl, rfl, rfl, hT⟩ := hrel
  by_cases hlt : j < n
  ·have hjl : j < l.length := by rw [HN.out]; exact hlt
   obtain ⟨g, o, rfl, x0⟩ := RowAt.str (i := j) H.out hjl
   have hts : t.size ≤ 100000000 := by
    rw [hT.out]
    exact text_size hnm (fun k hk => HSH.out k (List.mem_of_mem_take hk)) (by rw [List.length_take]; omega)
   have hks : l[j].size ≤ 10000 := HSH.out _ (List.getElem_mem hjl)
   have HSN : Hid (textB name (l.take (j + 1)) = t ++ ⟨#[32]⟩ ++ l[j]) := by
    show _ = _
    rw [List.take_add_one, List.getElem?_eq_getElem hjl]
    show textB name (l.take j ++ [l[j]]) = _
    rw [textB_snoc, ← hT.out]
   obtain ⟨k, hk⟩ : ∃ k, l[j] = k := ⟨_, rfl⟩
   rw [hk] at x0 HSN hks
   have q1 : (j : Int) < (n : Int) := by omega
   have q2 : ¬ 9223372036854775807 < t.size + 1 := by omega
   have q3 : ¬ 9223372036854775807 < t.size + 1 + k.size := by omega
   clear hk
   go_wp2
   exact ⟨⟨j + 1, _, by omega, by go_num, rfl, by first | rfl | trivial, HSN.out.symm⟩, by simp [intOf]; omega⟩
  ·have : n = j := by omega
   subst this
   go_wp2
   go_ret
   have hT := hT.out
   rw [← HN.out, List.take_length] at hT
   exact ⟨by rw [← hT]; rfl, rfl⟩
end Go.Proofs.YtfeicmpbfbhiiaaGreat
