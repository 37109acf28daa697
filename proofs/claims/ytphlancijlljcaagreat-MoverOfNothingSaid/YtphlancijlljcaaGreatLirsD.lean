/- The walks over lirs' engine: Access whole, New. -/
import Derived.Test.YtphlancijlljcaaGreatLirsC
set_option linter.unusedVariables false
set_option linter.unusedSimpArgs false
namespace Go.Proofs.YtphlancijlljcaaGreat
open Go.RowKit
attribute [local go_sem ↓] Go.wp_at_zero Go.wp_at_succ
theorem laccess {w : World} {e : Nat} {F : List Nat} {s : Lirs} (H : EL w e F s) (key : ByteArray) (hz : key.size ≤ maxLen) :
  Calls Tryz.prog 338 #[.pointer (some ⟨e, 0, none⟩), .string key] w (AccRet EL w e F (s.access key)) := by
 obtain ⟨hi, u, rfl, huc, hmo, t, Ht, hc⟩ := H
 have hinv := hi.access hz
 have hmost : u.most = s.most := hmo
 have hfin : ∀ r : Bool × List ByteArray × Lirs, s.access key = r → r.2.2.c = s.c → ∀ en w', LARet u w F r en w' → AccRet EL w u.e F (s.access key) en w' := by
  intro r he hrc en w' hu
  obtain ⟨v, F', rfl, a1, a2, a3, a4, a5⟩ := hu
  rw [he] at hinv ⊢
  exact ⟨v, F', rfl, a1, ⟨hinv, u, rfl, by rw [huc, hrc], by rw [hmo]; unfold Lirs.most; rw [hrc], a2⟩, a3, a4, a5⟩
 have hkc := kind_cases hc hi.si (fun e he => (Ht.pos e he).1) key
 rcases hkc with ⟨k1, k2⟩ | ⟨k1, k2, k3, k4⟩ | ⟨k1, k2, k3, k4⟩ | hmiss
 ·refine (laccess_warm Ht hc hi hmo key hz k1 rfl rfl (.inl rfl)).mono (hfin _ ?_ ?_)
  ·unfold Lirs.access; rw [if_pos (.inl k2)]
  ·show (s.heats key).c = s.c
   exact (heats_inv hi.si hz hi.hm).2.2.1
 ·refine (laccess_warm Ht hc hi hmo key hz k1 rfl rfl (.inr ⟨rfl, k2⟩)).mono (hfin _ ?_ ?_)
  ·unfold Lirs.access; rw [if_pos (.inr ⟨k3, k4⟩)]
  ·show (s.heats key).c = s.c
   exact (heats_inv hi.si hz hi.hm).2.2.1
 ·refine (laccess_cold Ht hc hi hmo key hz k1 k2 rfl rfl rfl).mono (hfin _ ?_ rfl)
  unfold Lirs.access
  rw [if_neg (by rintro (h | ⟨_, h⟩) <;> omega), if_pos k3]
 ·obtain ⟨x, hx⟩ : ∃ x, kindS s.S s.Q key = x := ⟨_, rfl⟩
  have hx12 : x ≠ 1 ∧ x ≠ 2 ∧ key ∉ s.Q ∧ stS s.S key ≠ 1 := by
   rcases hmiss with ⟨a, b, c⟩ | ⟨a, b, c⟩
   ·exact ⟨by omega, by omega, b, by omega⟩
   ·exact ⟨by omega, by omega, b, by omega⟩
  obtain ⟨hx1, hx2, hq, hs1⟩ := hx12
  have hacc : s.access key = (false, s.room.1, (if cntS s.room.2.S 1 < s.most ∨ stS s.room.2.S key = 3 then s.room.2.heats key else s.room.2.chills key).forgets.prunes) := by
   unfold Lirs.access
   rw [if_neg (by rintro (h | ⟨h, _⟩); exact hs1 h; exact hq h), if_neg hq]
  by_cases hlt : s.len < s.c
  ·have hr : s.room = ([], s) := by unfold Lirs.room; rw [if_pos hlt]
   rw [hr] at hacc
   refine (laccess_missA Ht hc hi huc hmo key hz hx rfl rfl hx1 hx2 hlt).mono (hfin _ hacc ?_)
   show (if _ then _ else _ : Lirs).c = s.c
   split
   ·exact (heats_inv hi.si hz hi.hm).2.2.1
   ·rfl
  ·have hr : s.room = ([s.evict.1], s.evict.2.2) := by unfold Lirs.room; rw [if_neg hlt]
   rw [hr] at hacc
   obtain ⟨e1, e2, e3⟩ := hi.evict
   have hms : s.evict.2.2.most = s.most := by unfold Lirs.most; rw [e2]
   simp only at hacc
   rw [← hms] at hacc
   refine (laccess_missB Ht hc hi huc hmo key hz hx rfl rfl hx1 hx2 hlt).mono (hfin _ hacc ?_)
   show (if _ then _ else _ : Lirs).c = s.c
   split
   ·exact (heats_inv e1.si hz e1.hm).2.2.1.trans e2
   ·exact e2
def Lirs.new (room : Int) : Lirs := ⟨[], [], roomN room⟩
theorem Lirs.Inv.new (room : Int) : (Lirs.new room).Inv := by
 obtain ⟨h1, h2⟩ := roomN_bd room
 exact ⟨⟨by simp [Lirs.new], by simp [Lirs.new], by simp [Lirs.new], by simp [Lirs.new], by simp [Lirs.new]⟩, h1, h2, by simp [Lirs.new, cntS], by simp [Lirs.new, cntS], by simp [Lirs.new, cntS]⟩
theorem lnew_ret {w w1 w2 w3 : World} {room v v1 : Int} {F1 F2 F3 : List Nat} {sp qp x : Nat} (hs : LRep w1 sp F1 []) (hge : Ge w.heap.size F1) (hf1 : Fr [] w w1)
  (hq : LRep w2 qp F2 []) (hge2 : Ge w1.heap.size F2) (hf2 : Fr [] w1 w2) (hx : IRepL w3 x F3 (fun _ => none) 0) (hge3 : Ge w2.heap.size F3) (hf3 : Fr [] w2 w3)
  (hv : (roomN room : Int) = v) (hv1 : ((Lirs.new room).most : Int) = v1) :
  NewRet EL w (Lirs.new room) (.returned (.pointer (some ⟨w3.heap.size, 0, none⟩))) (w3.alloc (.cells #[.int .i64 v, .int .i64 v1, .pointer (some ⟨sp, 0, none⟩), .pointer (some ⟨qp, 0, none⟩), .pointer (some ⟨x, 0, none⟩), .int .i64 0, .int .i64 0] 203)) := by
 subst hv hv1
 have hl1 := hs.lt
 have hl2 := hq.lt
 have hl3 := hx.lt
 have hs1 := hf1.size
 have hs2 := hf2.size
 have hs3 := hf3.size
 have fa : Fr [] w3 (w3.alloc (.cells #[.int .i64 (roomN room : Nat), .int .i64 ((Lirs.new room).most : Nat), .pointer (some ⟨sp, 0, none⟩), .pointer (some ⟨qp, 0, none⟩), .pointer (some ⟨x, 0, none⟩), .int .i64 0, .int .i64 0] 203)) := (Fr.refl [] _).alloc _
 have dn : ∀ F : List Nat, Dis F [] := fun F b _ => by simp
 refine ⟨w3.heap.size, w3.heap.size :: (F1 ++ (F2 ++ F3)), rfl, ⟨Lirs.Inv.new room, ⟨w3.heap.size, sp, qp, x, roomN room, (Lirs.new room).most⟩, rfl, rfl, rfl, ⟨[], [], fun _ => none, 0, 0⟩,
  ⟨F1, F2, F3, 0, rfl, ⟨fun h => ?_, fun h => ?_, fun h => ?_⟩, ⟨?_, ?_, ?_⟩, block_alloc_new _ _, (hs.fr (hf2.same hf3) (dn _)).fr fa (dn _), (hq.fr hf3 (dn _)).fr fa (dn _), hx.fr fa (dn _)⟩, ⟨rfl, rfl, fun k => by simp [entM, kindS, stS, Lirs.new], by simp [cntS, Lirs.new], by simp [cntS, Lirs.new]⟩⟩, ?_, ((hf1.same hf2).same hf3).alloc _⟩
 ·have : w3.heap.size < w1.heap.size := hl1 _ h
  omega
 ·have : w3.heap.size < w2.heap.size := hl2 _ h
  omega
 ·have : w3.heap.size < w3.heap.size := hl3 _ h
  omega
 ·intro b hb hb2
  have := hge2 b hb2
  have := hl1 b hb
  omega
 ·intro b hb hb2
  have := hge3 b hb2
  have := hl1 b hb
  omega
 ·intro b hb hb2
  have := hge3 b hb2
  have := hl2 b hb
  omega
 ·intro b hb
  simp at hb
  rcases hb with rfl | hb | hb | hb
  ·omega
  ·exact hge b hb
  ·have := hge2 b hb; omega
  ·have := hge3 b hb; omega
set_option maxHeartbeats 4000000 in
set_option maxRecDepth 100000 in
theorem lnew (w : World) (room : Int) (h0 : -9223372036854775808 ≤ room) (h1 : room ≤ 9223372036854775807) : Calls Tryz.prog 103 #[.int .i64 room] w (NewRet EL w (Lirs.new room)) := by
 have h : room ≤ 1 ∨ (∃ n : Nat, room = n ∧ 1 < n ∧ n < 20) ∨ (∃ n : Nat, room = n ∧ 20 ≤ n ∧ n ≤ 1024) ∨ 1024 < room := by
  by_cases a : room ≤ 1
  ·exact .inl a
  ·by_cases b : 1024 < room
   ·exact .inr (.inr (.inr b))
   ·by_cases c : room < 20
    ·exact .inr (.inl ⟨room.toNat, by omega, by omega, by omega⟩)
    ·exact .inr (.inr (.inl ⟨room.toNat, by omega, by omega, by omega⟩))
 rcases h with h | ⟨n, rfl, hn1, hn2⟩ | ⟨n, rfl, hn1, hn2⟩ | h
 ·have HR : Hid (roomN room = 1) := by show _ = _; unfold roomN; omega
  have h2 : room < 1 ∨ room = 1 := by omega
  rcases h2 with h2 | rfl
  all_goals
   go_enter Tryz.func103, Tryz.ntmps103
   go_wp2_with fail
   refine (listNew _).mono ?_
   rintro en w1 ⟨sp, F1, rfl, hs, hge, hf1⟩
   have HX := Lib.hid (And.intro hs (And.intro hge hf1))
   clear hs hge hf1
   go_wp2_with fail
   refine (listNew _).mono ?_
   rintro en w2 ⟨qp, F2, rfl, hq, hge2, hf2⟩
   have HY := Lib.hid (And.intro hq (And.intro hge2 hf2))
   clear hq hge2 hf2
   go_wp2_with fail
   refine (idxNewL _).mono ?_
   rintro en w3 ⟨x, F3, rfl, hx, hge3, hf3⟩
   have HZ := Lib.hid (And.intro hx (And.intro hge3 hf3))
   clear hx hge3 hf3
   go_wp2
   go_ret
   refine lnew_ret HX.out.1 HX.out.2.1 HX.out.2.2 HY.out.1 HY.out.2.1 HY.out.2.2 HZ.out.1 HZ.out.2.1 HZ.out.2.2 ?_ ?_
   all_goals
    simp only [Lirs.most, Lirs.new, HR.out]
    try omega
 ·have HR : Hid (roomN (n : Int) = n) := by show _ = _; unfold roomN; omega
  by_cases h8 : n < 10
  ·have q8 : (n : Int) / 10 < 1 := by omega
   go_enter Tryz.func103, Tryz.ntmps103
   go_wp2_with fail
   refine (listNew _).mono ?_
   rintro en w1 ⟨sp, F1, rfl, hs, hge, hf1⟩
   have HX := Lib.hid (And.intro hs (And.intro hge hf1))
   clear hs hge hf1
   go_wp2_with fail
   refine (listNew _).mono ?_
   rintro en w2 ⟨qp, F2, rfl, hq, hge2, hf2⟩
   have HY := Lib.hid (And.intro hq (And.intro hge2 hf2))
   clear hq hge2 hf2
   go_wp2_with fail
   refine (idxNewL _).mono ?_
   rintro en w3 ⟨x, F3, rfl, hx, hge3, hf3⟩
   have HZ := Lib.hid (And.intro hx (And.intro hge3 hf3))
   clear hx hge3 hf3
   go_wp2
   go_ret
   refine lnew_ret HX.out.1 HX.out.2.1 HX.out.2.2 HY.out.1 HY.out.2.1 HY.out.2.2 HZ.out.1 HZ.out.2.1 HZ.out.2.2 ?_ ?_
   all_goals
    simp only [Lirs.most, Lirs.new, HR.out]
    try omega
  ·have q8 : (n : Int) / 10 = 1 := by omega
   go_enter Tryz.func103, Tryz.ntmps103
   go_wp2_with fail
   refine (listNew _).mono ?_
   rintro en w1 ⟨sp, F1, rfl, hs, hge, hf1⟩
   have HX := Lib.hid (And.intro hs (And.intro hge hf1))
   clear hs hge hf1
   go_wp2_with fail
   refine (listNew _).mono ?_
   rintro en w2 ⟨qp, F2, rfl, hq, hge2, hf2⟩
   have HY := Lib.hid (And.intro hq (And.intro hge2 hf2))
   clear hq hge2 hf2
   go_wp2_with fail
   refine (idxNewL _).mono ?_
   rintro en w3 ⟨x, F3, rfl, hx, hge3, hf3⟩
   have HZ := Lib.hid (And.intro hx (And.intro hge3 hf3))
   clear hx hge3 hf3
   go_wp2
   go_ret
   refine lnew_ret HX.out.1 HX.out.2.1 HX.out.2.2 HY.out.1 HY.out.2.1 HY.out.2.2 HZ.out.1 HZ.out.2.1 HZ.out.2.2 ?_ ?_
   all_goals
    simp only [Lirs.most, Lirs.new, HR.out]
    try omega
 ·have HR : Hid (roomN (n : Int) = n) := by show _ = _; unfold roomN; omega
  have q8 : 1 < (n : Int) / 10 := by omega
  go_enter Tryz.func103, Tryz.ntmps103
  go_wp2_with fail
  refine (listNew _).mono ?_
  rintro en w1 ⟨sp, F1, rfl, hs, hge, hf1⟩
  have HX := Lib.hid (And.intro hs (And.intro hge hf1))
  clear hs hge hf1
  go_wp2_with fail
  refine (listNew _).mono ?_
  rintro en w2 ⟨qp, F2, rfl, hq, hge2, hf2⟩
  have HY := Lib.hid (And.intro hq (And.intro hge2 hf2))
  clear hq hge2 hf2
  go_wp2_with fail
  refine (idxNewL _).mono ?_
  rintro en w3 ⟨x, F3, rfl, hx, hge3, hf3⟩
  have HZ := Lib.hid (And.intro hx (And.intro hge3 hf3))
  clear hx hge3 hf3
  go_wp2
  go_ret
  refine lnew_ret HX.out.1 HX.out.2.1 HX.out.2.2 HY.out.1 HY.out.2.1 HY.out.2.2 HZ.out.1 HZ.out.2.1 HZ.out.2.2 ?_ ?_
  all_goals
   simp only [Lirs.most, Lirs.new, HR.out]
   try omega
 ·have HR : Hid (roomN room = 1024) := by show _ = _; unfold roomN; omega
  go_enter Tryz.func103, Tryz.ntmps103
  go_wp2_with fail
  refine (listNew _).mono ?_
  rintro en w1 ⟨sp, F1, rfl, hs, hge, hf1⟩
  have HX := Lib.hid (And.intro hs (And.intro hge hf1))
  clear hs hge hf1
  go_wp2_with fail
  refine (listNew _).mono ?_
  rintro en w2 ⟨qp, F2, rfl, hq, hge2, hf2⟩
  have HY := Lib.hid (And.intro hq (And.intro hge2 hf2))
  clear hq hge2 hf2
  go_wp2_with fail
  refine (idxNewL _).mono ?_
  rintro en w3 ⟨x, F3, rfl, hx, hge3, hf3⟩
  have HZ := Lib.hid (And.intro hx (And.intro hge3 hf3))
  clear hx hge3 hf3
  go_wp2
  go_ret
  refine lnew_ret HX.out.1 HX.out.2.1 HX.out.2.2 HY.out.1 HY.out.2.1 HY.out.2.2 HZ.out.1 HZ.out.2.1 HZ.out.2.2 ?_ ?_
  all_goals
   simp only [Lirs.most, Lirs.new, HR.out]
   try omega
end Go.Proofs.YtphlancijlljcaaGreat
