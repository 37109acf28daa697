/- The walks over package list, third part: Get, Remove, Front, Next, Len, All, New. -/
import Derived.Test.YtphlancijlljcaaGreatList2
set_option linter.unusedVariables false
set_option linter.unusedSimpArgs false
namespace Go.Proofs.YtphlancijlljcaaGreat
open Go.RowKit
attribute [local go_sem ↓] Go.wp_at_zero Go.wp_at_succ

theorem has_in {w : World} {p : Nat} {F : List Nat} {L : List (Nat × ByteArray)} (H : LRep w p F L) {h : Nat} (hh : h ∈ L.map (·.1)) : Calls Tryz.prog 199 #[.pointer (some ⟨p, 0, none⟩), .int .i64 h] w fun e w' => e = .returned (.bool true) ∧ w = w' := by
  obtain ⟨g, off, c, m, f, vf, fr, rfl, hm, hi, hr⟩ := H
  obtain ⟨e, he, rfl⟩ := List.mem_map.1 hh
  obtain ⟨a1, a2, a3, a4⟩ := hi.at_ e he
  refine (has_b hr e.1 (by omega) (by omega)).mono ?_
  rintro x w' ⟨rfl, rfl⟩
  exact ⟨by simp [a1, a2, a3], rfl⟩
theorem has_out {w : World} {p : Nat} {F : List Nat} {L : List (Nat × ByteArray)} (H : LRep w p F L) {h : Nat} (hh : h ∉ L.map (·.1)) (hb : h ≤ 1000000) : Calls Tryz.prog 199 #[.pointer (some ⟨p, 0, none⟩), .int .i64 h] w fun e w' => e = .returned (.bool false) ∧ w = w' := by
  obtain ⟨g, off, c, m, f, vf, fr, rfl, hm, hi, hr⟩ := H
  refine (has_b hr h hb (by omega)).mono ?_
  rintro x w' ⟨rfl, rfl⟩
  refine ⟨?_, rfl⟩
  rw [decide_eq_false]
  rintro ⟨h1, h2, h3⟩
  exact hh (hi.all h h3 h2)
theorem get_in {w : World} {p : Nat} {F : List Nat} {L : List (Nat × ByteArray)} (H : LRep w p F L) {h : Nat} {v : ByteArray} (hh : (h, v) ∈ L) : Calls Tryz.prog 136 #[.pointer (some ⟨p, 0, none⟩), .int .i64 h] w fun e w' => e = .returned (.tuple #[.string v, .bool true]) ∧ w = w' := by
  have hc := has_in H (List.mem_map_of_mem (f := (·.1)) hh)
  obtain ⟨g, off, c, m, f, vf, fr, rfl, hm, hi, hr⟩ := H
  obtain ⟨a1, a2, a3, a4⟩ := hi.at_ _ hh
  simp at a1 a2 a4
  obtain ⟨k0, _, _⟩ := hr.head
  obtain ⟨k1, _, _, _⟩ := hr.cell h a2
  rw [a4] at k1
  have HC := Lib.hid hc
  clear hc hi hr hh a4 a3
  go_enter Tryz.func136, Tryz.ntmps136
  go_wp2_with fail
  refine HC.out.mono ?_
  rintro e w' ⟨rfl, rfl⟩
  go_wp2
  go_ret2
  exact ⟨rfl, rfl⟩
theorem get_out {w : World} {p : Nat} {F : List Nat} {L : List (Nat × ByteArray)} (H : LRep w p F L) {h : Nat} (hh : h ∉ L.map (·.1)) (hb : h ≤ 1000000) : Calls Tryz.prog 136 #[.pointer (some ⟨p, 0, none⟩), .int .i64 h] w fun e w' => e = .returned (.tuple #[.string ⟨#[]⟩, .bool false]) ∧ w = w' := by
  have hc := Lib.hid (has_out H hh hb)
  clear H hh
  go_enter Tryz.func136, Tryz.ntmps136
  go_wp2_with fail
  refine hc.out.mono ?_
  rintro e w' ⟨rfl, rfl⟩
  go_wp2
  go_ret2
  exact ⟨rfl, rfl⟩
theorem front {w : World} {p : Nat} {F : List Nat} {L : List (Nat × ByteArray)} (H : LRep w p F L) : Calls Tryz.prog 137 #[.pointer (some ⟨p, 0, none⟩)] w fun e w' => e = .returned (.int .i64 (hd0 L)) ∧ w = w' := by
  obtain ⟨g, off, c, m, f, vf, fr, rfl, hm, hi, hr⟩ := H
  obtain ⟨k0, _, _⟩ := hr.head
  have hm0 : 0 < m := by have := hi.size; omega
  obtain ⟨_, _, k1, _⟩ := hr.cell 0 hm0
  have e : (f 0).n = hd0 L := by
    rw [hi.seg.first]
    cases L <;> rfl
  rw [e] at k1
  simp at k1
  clear hi hr e
  go_enter Tryz.func137, Tryz.ntmps137
  go_wp2
  go_ret
  exact ⟨rfl, rfl⟩
theorem next {w : World} {p : Nat} {F : List Nat} {L1 L2 : List (Nat × ByteArray)} {h : Nat} {v : ByteArray} (H : LRep w p F (L1 ++ (h, v) :: L2)) : Calls Tryz.prog 214 #[.pointer (some ⟨p, 0, none⟩), .int .i64 h] w fun e w' => e = .returned (.int .i64 (hd0 L2)) ∧ w = w' := by
  have hc := has_in H (h := h) (by simp)
  obtain ⟨g, off, c, m, f, vf, fr, rfl, hm, hi, hr⟩ := H
  obtain ⟨k0, _, _⟩ := hr.head
  have a2 := (hi.at_ (h, v) (by simp)).2.1
  simp at a2
  obtain ⟨_, _, k1, _⟩ := hr.cell h a2
  have e : (f h).n = hd0 L2 := by
    have hs := hi.seg
    simp only [List.map_append, List.map_cons] at hs
    rw [(Seg.append.1 hs).2.first]
    cases L2 <;> rfl
  rw [e] at k1
  have HC := Lib.hid hc
  clear hi hr e hc
  go_enter Tryz.func214, Tryz.ntmps214
  go_wp2_with fail
  refine HC.out.mono ?_
  rintro e w' ⟨rfl, rfl⟩
  go_wp2
  go_ret
  exact ⟨rfl, rfl⟩
theorem len_l {w : World} {p : Nat} {F : List Nat} {L : List (Nat × ByteArray)} (H : LRep w p F L) : Calls Tryz.prog 135 #[.pointer (some ⟨p, 0, none⟩)] w fun e w' => e = .returned (.int .i64 L.length) ∧ w = w' := by
  obtain ⟨g, off, c, m, f, vf, fr, rfl, hm, hi, hr⟩ := H
  obtain ⟨_, _, k2⟩ := hr.head
  clear hi hr
  go_enter Tryz.func135, Tryz.ntmps135
  go_wp2
  go_ret
  exact ⟨rfl, rfl⟩
theorem remove_out {w : World} {p : Nat} {F : List Nat} {L : List (Nat × ByteArray)} (H : LRep w p F L) {h : Nat} (hh : h ∉ L.map (·.1)) (hb : h ≤ 1000000) : Calls Tryz.prog 131 #[.pointer (some ⟨p, 0, none⟩), .int .i64 h] w fun e w' => e = .returned (.tuple #[.string ⟨#[]⟩, .bool false]) ∧ w = w' := by
  have hc := Lib.hid (get_out H hh hb)
  clear H hh
  go_enter Tryz.func131, Tryz.ntmps131
  go_wp2_with fail
  refine hc.out.mono ?_
  rintro e w' ⟨rfl, rfl⟩
  go_wp2
  go_ret2
  exact ⟨rfl, rfl⟩
end Go.Proofs.YtphlancijlljcaaGreat
