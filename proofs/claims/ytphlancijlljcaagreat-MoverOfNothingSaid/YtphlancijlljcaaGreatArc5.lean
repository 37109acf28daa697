/- The walks over arc's engine: Access, New. -/
import Derived.Test.YtphlancijlljcaaGreatArc4
set_option linter.unusedVariables false
set_option linter.unusedSimpArgs false
namespace Go.Proofs.YtphlancijlljcaaGreat
open Go.RowKit
attribute [local go_sem ↓] Go.wp_at_zero Go.wp_at_succ
section
variable {w : World} {e g cap x : Nat} {F : List Nat} {K : Rows} {c p : Nat}
set_option maxRecDepth 100000 in
theorem aaccess_hit0 (H : ERows IRepA 4 197 w e g cap x F K [.int .i64 c, .int .i64 p]) (hi : RNd 4 K) (hl : tot 4 K ≤ 4000) (key : ByteArray) (hz : key.size ≤ maxLen) (hm : key ∈ K 0) :
  Calls Tryz.prog 290 #[.pointer (some ⟨e, 0, none⟩), .string key] w (ARet w e g cap x F (Arc.access ⟨K, p, c⟩ key)) := by
 have hn : ∀ i, i ≠ 0 → key ∉ K i := fun i h1 h => hi.dis 0 i (Ne.symm h1) _ hm h
 have hacc : Arc.access ⟨K, p, c⟩ key = (true, [], ⟨pushK K 1 key, p, c⟩) := by
  unfold Arc.access
  simp only [hm, true_or, or_true, if_true]
 rw [hacc]
 have k0 := H.k0
 have k1 := H.k1
 have HW := Lib.hid (ewhereA H key hz)
 have HM := Lib.hid (And.intro hn hm)
 clear hacc hn hm
 go_enter Tryz.func290, Tryz.ntmps290
 go_wp2_with fail
 refine HW.out.mono ?_
 rintro en w1 ⟨r, rfl, har, hf1⟩
 have hr : r = 0 := by
  obtain ⟨hn, hm⟩ := HM.out
  rcases har with ⟨i, hi4, rfl, hik⟩ | ⟨rfl, hno⟩
  ·by_cases h : i = 0
   ·subst h; rfl
   ·exact absurd hik (hn i h)
  ·exact absurd hm (hno 0)
 subst hr
 replace H := H.fr0 irokA hf1
 replace k0 := H.k0
 replace k1 := H.k1
 clear har HW
 have HF := Lib.hid hf1
 go_wp2_with fail
 refine (epushA H (by omega) (r := 1) (by omega) key hz).mono ?_
 rintro en w2 ⟨rfl, heg⟩
 have HE := Lib.hid (heg.old HF.out)
 clear H k0 k1 heg hf1
 go_wp2
 go_ret2
 obtain ⟨F', a, b, d⟩ := HE.out
 exact ⟨_, F', rfl, Gone.nil _ _, a, b, d, by intro b hb; simp [Value.ownBlock] at hb⟩
set_option maxRecDepth 100000 in
theorem aaccess_hit1 (H : ERows IRepA 4 197 w e g cap x F K [.int .i64 c, .int .i64 p]) (hi : RNd 4 K) (hl : tot 4 K ≤ 4000) (key : ByteArray) (hz : key.size ≤ maxLen) (hm : key ∈ K 1) :
  Calls Tryz.prog 290 #[.pointer (some ⟨e, 0, none⟩), .string key] w (ARet w e g cap x F (Arc.access ⟨K, p, c⟩ key)) := by
 have hn : ∀ i, i ≠ 1 → key ∉ K i := fun i h1 h => hi.dis 1 i (Ne.symm h1) _ hm h
 have hacc : Arc.access ⟨K, p, c⟩ key = (true, [], ⟨pushK K 1 key, p, c⟩) := by
  unfold Arc.access
  simp only [hm, true_or, or_true, if_true]
 rw [hacc]
 have k0 := H.k0
 have k1 := H.k1
 have HW := Lib.hid (ewhereA H key hz)
 have HM := Lib.hid (And.intro hn hm)
 clear hacc hn hm
 go_enter Tryz.func290, Tryz.ntmps290
 go_wp2_with fail
 refine HW.out.mono ?_
 rintro en w1 ⟨r, rfl, har, hf1⟩
 have hr : r = 1 := by
  obtain ⟨hn, hm⟩ := HM.out
  rcases har with ⟨i, hi4, rfl, hik⟩ | ⟨rfl, hno⟩
  ·by_cases h : i = 1
   ·subst h; rfl
   ·exact absurd hik (hn i h)
  ·exact absurd hm (hno 1)
 subst hr
 replace H := H.fr0 irokA hf1
 replace k0 := H.k0
 replace k1 := H.k1
 clear har HW
 have HF := Lib.hid hf1
 go_wp2_with fail
 refine (epushA H (by omega) (r := 1) (by omega) key hz).mono ?_
 rintro en w2 ⟨rfl, heg⟩
 have HE := Lib.hid (heg.old HF.out)
 clear H k0 k1 heg hf1
 go_wp2
 go_ret2
 obtain ⟨F', a, b, d⟩ := HE.out
 exact ⟨_, F', rfl, Gone.nil _ _, a, b, d, by intro b hb; simp [Value.ownBlock] at hb⟩
set_option maxRecDepth 100000 in
theorem aaccess_new (H : ERows IRepA 4 197 w e g cap x F K [.int .i64 c, .int .i64 p]) (hi : RNd 4 K) (hc : c ≤ 1024) (hp : p ≤ c) (hl : tot 4 K ≤ 4000) (hl2 : tot 4 (arcComes K p c).2 ≤ 4000) (key : ByteArray) (hz : key.size ≤ maxLen) (hm : ∀ i, key ∉ K i) :
  Calls Tryz.prog 290 #[.pointer (some ⟨e, 0, none⟩), .string key] w (ARet w e g cap x F (Arc.access ⟨K, p, c⟩ key)) := by
 have hacc : Arc.access ⟨K, p, c⟩ key = (false, (arcComes K p c).1, ⟨pushK (arcComes K p c).2 0 key, p, c⟩) := by
  unfold Arc.access
  simp only [hm, or_self, if_false]
 rw [hacc]
 have k0 := H.k0
 have k1 := H.k1
 have HW := Lib.hid (ewhereA H key hz)
 have HM := Lib.hid hm
 clear hacc hm
 go_enter Tryz.func290, Tryz.ntmps290
 go_wp2_with fail
 refine HW.out.mono ?_
 rintro en w1 ⟨r, rfl, har, hf1⟩
 have hr : r = -1 := by
  rcases har with ⟨i, hi4, rfl, hik⟩ | ⟨rfl, hno⟩
  ·exact absurd hik (HM.out i)
  ·rfl
 subst hr
 replace H := H.fr0 irokA hf1
 clear k0 k1 har HW
 have HF := Lib.hid hf1
 go_wp2_with fail
 refine (acomes H (by omega) hc (by omega)).mono ?_
 rintro en w4 ⟨v, F4, rfl, hgo, H4, hs4, hg4, hd4⟩
 obtain ⟨va, vc, hv⟩ := hgo.1.form
 subst hv
 have l0 := H4.k0
 have l1 := H4.k1
 have HG := Lib.hid (And.intro hgo (And.intro H4 (And.intro hs4 (And.intro hg4 hd4))))
 clear hgo H4 hs4 hg4 hd4 H hf1
 go_wp2_with fail
 refine (epushA HG.out.2.1 (by omega) (r := 0) (by omega) key hz).mono ?_
 rintro en w5 ⟨rfl, heg⟩
 obtain ⟨hgo, H4, hs4, hg4, hd4⟩ := HG.out
 obtain ⟨F5, i1, i2, i3, i4, i5⟩ := GRet.then (F2 := []) hgo hs4 hg4 hd4 heg
 have HE := Lib.hid (And.intro i1 (And.intro i2 (And.intro i3 (And.intro i4 i5))))
 clear l0 l1 HG hgo H4 hs4 hg4 hd4 heg i1 i2 i3 i4 i5
 go_wp2
 go_ret2
 exact ⟨_, F5, rfl, HE.out.1.old HF.out.size, HE.out.2.1, HE.out.2.2.1.old HF.out.size, HF.out.nil.same HE.out.2.2.2.1, HE.out.2.2.2.2⟩
end
/-- An engine of chapter 10. -/
def EArc (w : World) (e : Nat) (F : List Nat) (s : Arc) : Prop := s.Inv ∧ ∃ g cap x, ERows IRepA 4 197 w e g cap x F s.K [.int .i64 s.c, .int .i64 s.p]
theorem EArc.fr {w w' : World} {e : Nat} {F G : List Nat} {s : Arc} (h : EArc w e F s) (f : Fr G w w') (hd : Dis F G) : EArc w' e F s := by
 obtain ⟨hi, g, cap, x, h⟩ := h
 exact ⟨hi, g, cap, x, h.fr irokA f hd⟩
theorem EArc.lt {w : World} {e : Nat} {F : List Nat} {s : Arc} (h : EArc w e F s) : Lt F w := by
 obtain ⟨hi, g, cap, x, h⟩ := h
 exact h.lt irokA
/-- What an engine's Access hands back and leaves: E is what an engine is in memory. -/
def AccRet {α : Type} (E : World → Nat → List Nat → α → Prop) (w : World) (e : Nat) (F : List Nat) (r : Bool × List ByteArray × α) (en : Ending) (w' : World) : Prop :=
 ∃ v F', en = .returned (.tuple #[.bool r.1, v]) ∧ Gone w w' v r.2.1 ∧ E w' e F' r.2.2 ∧ Sub F' F w ∧ Fr F w w' ∧ Dis v.ownBlock.toList F'
theorem aaccess {w : World} {e : Nat} {F : List Nat} {s : Arc} (H : EArc w e F s) (key : ByteArray) (hz : key.size ≤ maxLen) :
  Calls Tryz.prog 290 #[.pointer (some ⟨e, 0, none⟩), .string key] w (AccRet EArc w e F (s.access key)) := by
 obtain ⟨hi, g, cap, x, h⟩ := H
 have hinv := hi.access hz
 have hall := hi.all
 have hc2 := hi.c2
 obtain ⟨K, p, c⟩ := s
 have hr : Calls Tryz.prog 290 #[.pointer (some ⟨e, 0, none⟩), .string key] w (ARet w e g cap x F (Arc.access ⟨K, p, c⟩ key)) := by
  simp only at h hall hc2
  have hl : tot 4 K ≤ 4000 := by omega
  by_cases h0 : key ∈ K 0
  ·exact aaccess_hit0 h hi.nd hl key hz h0
  by_cases h1 : key ∈ K 1
  ·exact aaccess_hit1 h hi.nd hl key hz h1
  by_cases h2 : key ∈ K 2
  ·exact aaccess_b1 h hi.nd hi.c1 hi.c2 hi.pc hl key hz h2
  by_cases h3 : key ∈ K 3
  ·exact aaccess_b2 h hi.nd hi.c1 hi.c2 hi.pc hl key hz h3
  have hn := (arcComes_len hi.nd hi.c1 hi.res hi.rc hi.all p).2.2.2
  simp only at hn
  refine aaccess_new h hi.nd hi.c2 hi.pc hl (by omega) key hz (not_rows hi.nd fun i hi4 => ?_)
  have : i = 0 ∨ i = 1 ∨ i = 2 ∨ i = 3 := by omega
  rcases this with rfl | rfl | rfl | rfl <;> assumption
 refine hr.mono ?_
 rintro en w' ⟨v, F', a, b, d, i, j, k⟩
 exact ⟨v, F', a, b, ⟨hinv, g, cap, x, d⟩, i, j, k⟩
/-- Where an engine of a room begins. -/
def roomN (room : Int) : Nat := (max 1 (min room 1024)).toNat
theorem roomN_bd (room : Int) : 1 ≤ roomN room ∧ roomN room ≤ 1024 := by unfold roomN; omega
def Arc.new (room : Int) : Arc := ⟨fun _ => [], 0, roomN room⟩
theorem Arc.Inv.new (room : Int) : (Arc.new room).Inv := by
 obtain ⟨h1, h2⟩ := roomN_bd room
 exact ⟨RNd.nil 4, h1, h2, Nat.zero_le _, by simp [Arc.new], by simp [Arc.new], by rw [tot4]; simp [Arc.new]⟩
theorem anew_at {w w1 : World} {room v : Int} {F1 : List Nat} {g cap x : Nat} (hr : RRep IRepA 4 w1 (.agg #[.slice (some ⟨g, 0, none⟩) 4 cap, .pointer (some ⟨x, 0, none⟩)]) F1 (fun _ => [])) (hge : Ge w.heap.size F1) (hf1 : Fr [] w w1) (hv : (roomN room : Int) = v) :
  ∃ F, EArc (w1.alloc (.cells #[.slice (some ⟨g, 0, none⟩) 4 cap, .pointer (some ⟨x, 0, none⟩), .int .i64 v, .int .i64 0] 197)) w1.heap.size F (Arc.new room) ∧ Ge w.heap.size F ∧ Fr [] w (w1.alloc (.cells #[.slice (some ⟨g, 0, none⟩) 4 cap, .pointer (some ⟨x, 0, none⟩), .int .i64 v, .int .i64 0] 197)) := by
 subst hv
 refine ⟨w1.heap.size :: F1, ⟨Arc.Inv.new room, g, cap, x, F1, rfl, fun h => ?_, block_alloc_new _ _, hr.fr irokA ((Fr.refl [] _).alloc _) (fun b _ => by simp)⟩, ?_, hf1.alloc _⟩
 ·have := hr.lt irokA _ h; omega
 ·intro b hb
  rcases List.mem_cons.1 hb with rfl | hb
  ·exact hf1.size
  ·exact hge b hb
/-- What New hands back. -/
def NewRet {α : Type} (E : World → Nat → List Nat → α → Prop) (w : World) (s : α) (en : Ending) (w' : World) : Prop :=
 ∃ e F, en = .returned (.pointer (some ⟨e, 0, none⟩)) ∧ E w' e F s ∧ Ge w.heap.size F ∧ Fr [] w w'
theorem anew_ret {w w1 : World} {room v : Int} {F1 : List Nat} {g cap x : Nat} (hr : RRep IRepA 4 w1 (.agg #[.slice (some ⟨g, 0, none⟩) 4 cap, .pointer (some ⟨x, 0, none⟩)]) F1 (fun _ => [])) (hge : Ge w.heap.size F1) (hf1 : Fr [] w w1) (hv : (roomN room : Int) = v) :
  NewRet EArc w (Arc.new room) (.returned (.pointer (some ⟨w1.heap.size, 0, none⟩))) (w1.alloc (.cells #[.slice (some ⟨g, 0, none⟩) 4 cap, .pointer (some ⟨x, 0, none⟩), .int .i64 v, .int .i64 0] 197)) := by
 obtain ⟨F, a, b, d⟩ := anew_at (room := room) hr hge hf1 hv
 exact ⟨_, F, rfl, a, b, d⟩
set_option maxRecDepth 100000 in
theorem anew (w : World) (room : Int) (h0 : -9223372036854775808 ≤ room) (h1 : room ≤ 9223372036854775807) : Calls Tryz.prog 102 #[.int .i64 room] w (NewRet EArc w (Arc.new room)) := by
 go_enter Tryz.func102, Tryz.ntmps102
 go_wp2_with fail
 refine (rnewA _).mono ?_
 rintro en w1 ⟨v, F1, rfl, hr, hge, hf1⟩
 obtain ⟨g, cap, x, rfl, hgl⟩ := hr.form
 have HX := Lib.hid (And.intro hr (And.intro hge hf1))
 clear hr hge hf1
 go_wp2
 all_goals
  go_ret
  obtain ⟨hr, hge, hf1⟩ := HX.out
  refine anew_ret hr hge hf1 ?_
  unfold roomN
  first | omega | (split <;> omega)
end Go.Proofs.YtphlancijlljcaaGreat
