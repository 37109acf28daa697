/- The walks over tinylfu's engine: Access whole, New. -/
import Derived.Test.YtphlancijlljcaaGreatTiny5
set_option linter.unusedVariables false
set_option linter.unusedSimpArgs false
namespace Go.Proofs.YtphlancijlljcaaGreat
open Go.RowKit
attribute [local go_sem ↓] Go.wp_at_zero Go.wp_at_succ
def EU (w : World) (e : Nat) (F : List Nat) (s : Tiny) : Prop := s.Inv ∧ ∃ u : UC, u.e = e ∧ u.c = s.c ∧ u.wi = s.window ∧ u.ma = s.main ∧ u.pr = s.prot ∧ UR u w F s.K s.k s.d
theorem EU.fr {w w' : World} {e : Nat} {F G : List Nat} {s : Tiny} (h : EU w e F s) (f : Fr G w w') (hd : Dis F G) : EU w' e F s := by
 obtain ⟨hi, u, a, b, c, d, g, h⟩ := h
 exact ⟨hi, u, a, b, c, d, g, h.fr f hd⟩
theorem EU.lt {w : World} {e : Nat} {F : List Nat} {s : Tiny} (h : EU w e F s) : Lt F w := by
 obtain ⟨hi, u, a, b, c, d, g, h⟩ := h
 exact h.lt
theorem notes_eq (s : Tiny) (key : ByteArray) : s.notes key = { s with k := noteK s.k s.d key, d := noteD s.k s.d key } := by
 unfold Tiny.notes noteK noteD
 split
 ·rfl
 ·split <;> rfl
theorem uaccess {w : World} {e : Nat} {F : List Nat} {s : Tiny} (H : EU w e F s) (key : ByteArray) (hz : key.size ≤ maxLen) :
  Calls Tryz.prog 391 #[.pointer (some ⟨e, 0, none⟩), .string key] w (AccRet EU w e F (s.access key)) := by
 obtain ⟨hi, u, rfl, hc, hwi, hma, hpr, h⟩ := H
 have hinv := hi.access hz
 have hni := (hi.notes key).1
 rw [notes_eq] at hni
 obtain ⟨nd, c1, c2, win, res, pr, ki, di⟩ := id hi
 obtain ⟨w1, w2, w3⟩ := Tiny.win_le c1
 have hpm : s.prot ≤ s.main := by unfold Tiny.prot; omega
 have ht : tot 3 s.K ≤ 5000 := by rw [tot3]; omega
 obtain ⟨K, k, d, c⟩ := s
 simp only at *
 have hfin : ∀ (b : Bool) (l : List ByteArray) (K' : Rows), Tiny.access ⟨K, k, d, c⟩ key = (b, l, ⟨K', noteK k d key, noteD k d key, c⟩) → ∀ en w', UARet u w F b l K' (noteK k d key) (noteD k d key) en w' → AccRet EU w u.e F (Tiny.access ⟨K, k, d, c⟩ key) en w' := by
  intro b l K' he en w' hu
  obtain ⟨v, F', rfl, a1, a2, a3, a4, a5⟩ := hu
  rw [he] at hinv ⊢
  exact ⟨v, F', rfl, a1, ⟨hinv, u, rfl, hc, hwi, hma, hpr, a2⟩, a3, a4, a5⟩
 by_cases h0 : key ∈ K 0
 ·refine (uaccess0 h ki di (by omega) key hz h0).mono (hfin _ _ _ ?_)
  unfold Tiny.access
  rw [notes_eq]
  simp only [h0, if_true]
 ·by_cases h12 : key ∈ K 1 ∨ key ∈ K 2
  ·have hp : (pushK K 2 key 2).length ≤ u.pr + 1 := by
    have := push_len K 2 2 key
    have := drop_len_le K key 2
    rw [hpr]
    simp at *
    omega
   have hb : u.pr ≤ 1024 := by rw [hpr]; omega
   have hacc : Tiny.access ⟨K, k, d, c⟩ key = (true, [], ⟨demK u.pr (pushK K 2 key), noteK k d key, noteD k d key, c⟩) := by
    unfold Tiny.access
    rw [notes_eq]
    simp only [h0, h12, if_true, if_false]
    unfold Tiny.demote demK
    rw [hpr]
    show (true, [], if (⟨K, k, d, c⟩ : Tiny).prot < _ then _ else _) = _
    split <;> rfl
   rcases h12 with h1 | h2
   ·exact (uaccess12 h ki di (by omega) hb key hz hp (.inl rfl) h1).mono (hfin _ _ _ hacc)
   ·exact (uaccess12 h ki di (by omega) hb key hz hp (.inr rfl) h2).mono (hfin _ _ _ hacc)
  ·have hm : ∀ i, key ∉ K i := not_rows nd fun i hi => by
    have : i = 0 ∨ i = 1 ∨ i = 2 := by omega
    rcases this with rfl | rfl | rfl
    ·exact h0
    ·exact fun h => h12 (.inl h)
    ·exact fun h => h12 (.inr h)
   have hp : (pushK K 0 key 0).length ≤ u.wi + 1 := by
    have d0 := push_new hm 0 0
    rw [hwi]
    simp at d0
    omega
   refine (uaccessN (c := c) h ki di hni.ki hni.di (by omega) (by rw [hwi]; omega) hwi hma hz hp hm).mono (hfin _ _ _ ?_)
   unfold Tiny.access
   rw [notes_eq]
   simp only [h0, h12, if_false]
   unfold fitT
   have e : (⟨pushK K 0 key, noteK k d key, noteD k d key, c⟩ : Tiny).fits.2 = ⟨(⟨pushK K 0 key, noteK k d key, noteD k d key, c⟩ : Tiny).fits.2.K, noteK k d key, noteD k d key, c⟩ := by
    unfold Tiny.fits Tiny.admits
    split
    ·split
     ·rfl
     ·split <;> rfl
    ·rfl
   exact congrArg (Prod.mk false) (Prod.ext rfl e)
def Tiny.new (room : Int) : Tiny := ⟨fun _ => [], Sk.new (roomN room), Dr.new (roomN room), roomN room⟩
theorem pow2From_p8 (r : Nat) : ∀ f a, (a = 1 ∨ a = 2 ∨ a = 4 ∨ 8 ∣ a) → (pow2From r f a = 1 ∨ pow2From r f a = 2 ∨ pow2From r f a = 4 ∨ 8 ∣ pow2From r f a)
 | 0, a, h => h
 | f + 1, a, h => by
  unfold pow2From
  split
  ·exact pow2From_p8 r f (a * 2) (by omega)
  ·exact h
theorem Dr.Inv.new {room : Nat} (h2 : room ≤ 1024) : (Dr.new room).Inv := by
 obtain ⟨a, b⟩ := pow2From_bd room 11 1 (by omega) h2
 refine ⟨Nat.le_max_left _ _, ?_, ?_⟩
 ·show max 64 (8 * _) ≤ _; omega
 ·show 64 ∣ max 64 (8 * pow2From room 11 1)
  have h8 := pow2From_p8 room 11 1 (.inl rfl)
  omega
theorem Tiny.Inv.new (room : Int) : (Tiny.new room).Inv := by
 obtain ⟨h1, h2⟩ := roomN_bd room
 exact ⟨RNd.nil 3, h1, h2, by simp [Tiny.new], by simp [Tiny.new], by simp [Tiny.new], Sk.Inv.new h2, Dr.Inv.new h2⟩
theorem unew_ret {w w1 w2 w3 : World} {room v v1 v2 v3 : Int} {F1 F2 F3 : List Nat} {g cap x kp dp : Nat} (hr : RRep IRepU 3 w1 (.agg #[.slice (some ⟨g, 0, none⟩) 3 cap, .pointer (some ⟨x, 0, none⟩)]) F1 (fun _ => [])) (hge : Ge w.heap.size F1) (hf1 : Fr [] w w1)
  (hk : KRep w2 kp F2 (Sk.new (roomN room))) (hge2 : Ge w1.heap.size F2) (hf2 : Fr [] w1 w2) (hd : DRep w3 dp F3 (Dr.new (roomN room))) (hge3 : Ge w2.heap.size F3) (hf3 : Fr [] w2 w3)
  (hv : (roomN room : Int) = v) (hv1 : ((Tiny.new room).window : Int) = v1) (hv2 : ((Tiny.new room).main : Int) = v2) (hv3 : ((Tiny.new room).prot : Int) = v3) :
  NewRet EU w (Tiny.new room) (.returned (.pointer (some ⟨w3.heap.size, 0, none⟩))) (w3.alloc (.cells #[.slice (some ⟨g, 0, none⟩) 3 cap, .pointer (some ⟨x, 0, none⟩), .int .i64 v, .int .i64 v1, .int .i64 v2, .int .i64 v3, .pointer (some ⟨kp, 0, none⟩), .pointer (some ⟨dp, 0, none⟩)] 219)) := by
 subst hv hv1 hv2 hv3
 have hl1 := hr.lt irokU
 have hl2 := hk.lt
 have hl3 := hd.lt
 have hs1 := hf1.size
 have hs2 := hf2.size
 have hs3 := hf3.size
 have fa : Fr [] w3 (w3.alloc (.cells #[.slice (some ⟨g, 0, none⟩) 3 cap, .pointer (some ⟨x, 0, none⟩), .int .i64 (roomN room : Nat), .int .i64 ((Tiny.new room).window : Nat), .int .i64 ((Tiny.new room).main : Nat), .int .i64 ((Tiny.new room).prot : Nat), .pointer (some ⟨kp, 0, none⟩), .pointer (some ⟨dp, 0, none⟩)] 219)) := (Fr.refl [] _).alloc _
 have dn : ∀ F : List Nat, Dis F [] := fun F b _ => by simp
 refine ⟨w3.heap.size, (w3.heap.size :: F1) ++ (F2 ++ F3), rfl, ⟨Tiny.Inv.new room, ⟨w3.heap.size, g, cap, x, kp, dp, roomN room, (Tiny.new room).window, (Tiny.new room).main, (Tiny.new room).prot⟩, rfl, rfl, rfl, rfl, rfl, w3.heap.size :: F1, F2, F3, rfl, ⟨F1, rfl, fun h => ?_, block_alloc_new _ _, hr.fr irokU ((hf2.same hf3).same fa) (dn _)⟩, (hk.fr hf3 (dn _)).fr fa (dn _), hd.fr fa (dn _), ?_, ?_, ?_⟩, ?_, ((hf1.same hf2).same hf3).alloc _⟩
 ·have : w3.heap.size < w1.heap.size := hl1 _ h; omega
 ·intro b hb hb2
  have h2 := hge2 b hb2
  have h3 := hl2 b hb2
  rcases List.mem_cons.1 hb with rfl | hb
  ·omega
  ·have := hl1 b hb; omega
 ·intro b hb hb2
  have h2 := hge3 b hb2
  have h3 := hl3 b hb2
  rcases List.mem_cons.1 hb with rfl | hb
  ·omega
  ·have := hl1 b hb; omega
 ·intro b hb hb2
  have h2 := hge3 b hb2
  have := hl2 b hb; omega
 ·intro b hb
  simp at hb
  rcases hb with rfl | hb | hb | hb
  ·omega
  ·exact hge b hb
  ·have := hge2 b hb; omega
  ·have := hge3 b hb; omega
set_option maxHeartbeats 4000000 in
set_option maxRecDepth 100000 in
theorem unew (w : World) (room : Int) (h0 : -9223372036854775808 ≤ room) (h1 : room ≤ 9223372036854775807) : Calls Tryz.prog 105 #[.int .i64 room] w (NewRet EU w (Tiny.new room)) := by
 have h : room ≤ 1 ∨ (∃ n : Nat, room = n ∧ 1 < n ∧ n < 16) ∨ (∃ n : Nat, room = n ∧ 16 ≤ n ∧ n ≤ 1024) ∨ 1024 < room := by
  by_cases a : room ≤ 1
  ·exact .inl a
  ·by_cases b : 1024 < room
   ·exact .inr (.inr (.inr b))
   ·by_cases c : room < 16
    ·exact .inr (.inl ⟨room.toNat, by omega, by omega, by omega⟩)
    ·exact .inr (.inr (.inl ⟨room.toNat, by omega, by omega, by omega⟩))
 rcases h with h | ⟨n, rfl, hn1, hn2⟩ | ⟨n, rfl, hn1, hn2⟩ | h
 ·have HR : Hid (roomN room = 1) := by show _ = _; unfold roomN; omega
  have h2 : room < 1 ∨ room = 1 := by omega
  rcases h2 with h2 | rfl
  all_goals
   go_enter Tryz.func105, Tryz.ntmps105
   go_wp2_with fail
   refine (rnewU _).mono ?_
   rintro en w1 ⟨v, F1, rfl, hr, hge, hf1⟩
   obtain ⟨g, cap, x, rfl, hgl⟩ := hr.form
   have HX := Lib.hid (And.intro hr (And.intro hge hf1))
   clear hr hge hf1
   go_wp2_with fail
   refine (knew _ 1 (by omega) (by omega)).mono ?_
   rintro en w2 ⟨kp, F2, rfl, hk, hge2, hf2⟩
   have HY := Lib.hid (And.intro hk (And.intro hge2 hf2))
   clear hk hge2 hf2
   go_wp2_with fail
   refine (dnew _ 1 (by omega) (by omega)).mono ?_
   rintro en w3 ⟨dp, F3, rfl, hd, hge3, hf3⟩
   have HZ := Lib.hid (And.intro hd (And.intro hge3 hf3))
   clear hd hge3 hf3
   go_wp2
   go_ret
   rw [← HR.out] at HY HZ
   refine unew_ret HX.out.1 HX.out.2.1 HX.out.2.2 HY.out.1 HY.out.2.1 HY.out.2.2 HZ.out.1 HZ.out.2.1 HZ.out.2.2 ?_ ?_ ?_ ?_
   all_goals
    simp only [Tiny.prot, Tiny.main, Tiny.window, Tiny.new, HR.out]
    try omega
 ·have HR : Hid (roomN (n : Int) = n) := by show _ = _; unfold roomN; omega
  by_cases h8 : n < 8
  ·have q8 : (n : Int) / 8 < 1 := by omega
   go_enter Tryz.func105, Tryz.ntmps105
   go_wp2_with fail
   refine (rnewU _).mono ?_
   rintro en w1 ⟨v, F1, rfl, hr, hge, hf1⟩
   obtain ⟨g, cap, x, rfl, hgl⟩ := hr.form
   have HX := Lib.hid (And.intro hr (And.intro hge hf1))
   clear hr hge hf1
   go_wp2_with fail
   refine (knew _ n (by omega) (by omega)).mono ?_
   rintro en w2 ⟨kp, F2, rfl, hk, hge2, hf2⟩
   have HY := Lib.hid (And.intro hk (And.intro hge2 hf2))
   clear hk hge2 hf2
   go_wp2_with fail
   refine (dnew _ n (by omega) (by omega)).mono ?_
   rintro en w3 ⟨dp, F3, rfl, hd, hge3, hf3⟩
   have HZ := Lib.hid (And.intro hd (And.intro hge3 hf3))
   clear hd hge3 hf3
   go_wp2
   go_ret
   rw [← HR.out] at HY HZ
   refine unew_ret HX.out.1 HX.out.2.1 HX.out.2.2 HY.out.1 HY.out.2.1 HY.out.2.2 HZ.out.1 HZ.out.2.1 HZ.out.2.2 ?_ ?_ ?_ ?_
   all_goals
    simp only [Tiny.prot, Tiny.main, Tiny.window, Tiny.new, HR.out]
    try omega
  ·have q8 : (n : Int) / 8 = 1 := by omega
   go_enter Tryz.func105, Tryz.ntmps105
   go_wp2_with fail
   refine (rnewU _).mono ?_
   rintro en w1 ⟨v, F1, rfl, hr, hge, hf1⟩
   obtain ⟨g, cap, x, rfl, hgl⟩ := hr.form
   have HX := Lib.hid (And.intro hr (And.intro hge hf1))
   clear hr hge hf1
   go_wp2_with fail
   refine (knew _ n (by omega) (by omega)).mono ?_
   rintro en w2 ⟨kp, F2, rfl, hk, hge2, hf2⟩
   have HY := Lib.hid (And.intro hk (And.intro hge2 hf2))
   clear hk hge2 hf2
   go_wp2_with fail
   refine (dnew _ n (by omega) (by omega)).mono ?_
   rintro en w3 ⟨dp, F3, rfl, hd, hge3, hf3⟩
   have HZ := Lib.hid (And.intro hd (And.intro hge3 hf3))
   clear hd hge3 hf3
   go_wp2
   go_ret
   rw [← HR.out] at HY HZ
   refine unew_ret HX.out.1 HX.out.2.1 HX.out.2.2 HY.out.1 HY.out.2.1 HY.out.2.2 HZ.out.1 HZ.out.2.1 HZ.out.2.2 ?_ ?_ ?_ ?_
   all_goals
    simp only [Tiny.prot, Tiny.main, Tiny.window, Tiny.new, HR.out]
    try omega
 ·have HR : Hid (roomN (n : Int) = n) := by show _ = _; unfold roomN; omega
  have q8 : 1 < (n : Int) / 8 := by omega
  go_enter Tryz.func105, Tryz.ntmps105
  go_wp2_with fail
  refine (rnewU _).mono ?_
  rintro en w1 ⟨v, F1, rfl, hr, hge, hf1⟩
  obtain ⟨g, cap, x, rfl, hgl⟩ := hr.form
  have HX := Lib.hid (And.intro hr (And.intro hge hf1))
  clear hr hge hf1
  go_wp2_with fail
  refine (knew _ n (by omega) (by omega)).mono ?_
  rintro en w2 ⟨kp, F2, rfl, hk, hge2, hf2⟩
  have HY := Lib.hid (And.intro hk (And.intro hge2 hf2))
  clear hk hge2 hf2
  go_wp2_with fail
  refine (dnew _ n (by omega) (by omega)).mono ?_
  rintro en w3 ⟨dp, F3, rfl, hd, hge3, hf3⟩
  have HZ := Lib.hid (And.intro hd (And.intro hge3 hf3))
  clear hd hge3 hf3
  go_wp2
  go_ret
  rw [← HR.out] at HY HZ
  refine unew_ret HX.out.1 HX.out.2.1 HX.out.2.2 HY.out.1 HY.out.2.1 HY.out.2.2 HZ.out.1 HZ.out.2.1 HZ.out.2.2 ?_ ?_ ?_ ?_
  all_goals
   simp only [Tiny.prot, Tiny.main, Tiny.window, Tiny.new, HR.out]
   try omega
 ·have HR : Hid (roomN room = 1024) := by show _ = _; unfold roomN; omega
  go_enter Tryz.func105, Tryz.ntmps105
  go_wp2_with fail
  refine (rnewU _).mono ?_
  rintro en w1 ⟨v, F1, rfl, hr, hge, hf1⟩
  obtain ⟨g, cap, x, rfl, hgl⟩ := hr.form
  have HX := Lib.hid (And.intro hr (And.intro hge hf1))
  clear hr hge hf1
  go_wp2_with fail
  refine (knew _ 1024 (by omega) (by omega)).mono ?_
  rintro en w2 ⟨kp, F2, rfl, hk, hge2, hf2⟩
  have HY := Lib.hid (And.intro hk (And.intro hge2 hf2))
  clear hk hge2 hf2
  go_wp2_with fail
  refine (dnew _ 1024 (by omega) (by omega)).mono ?_
  rintro en w3 ⟨dp, F3, rfl, hd, hge3, hf3⟩
  have HZ := Lib.hid (And.intro hd (And.intro hge3 hf3))
  clear hd hge3 hf3
  go_wp2
  go_ret
  rw [← HR.out] at HY HZ
  refine unew_ret HX.out.1 HX.out.2.1 HX.out.2.2 HY.out.1 HY.out.2.1 HY.out.2.2 HZ.out.1 HZ.out.2.1 HZ.out.2.2 ?_ ?_ ?_ ?_
  all_goals
   simp only [Tiny.prot, Tiny.main, Tiny.window, Tiny.new, HR.out]
   try omega
end Go.Proofs.YtphlancijlljcaaGreat
