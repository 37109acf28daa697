/- Texts of a proof about the given program, those parts that this claim reaches. -/
import Derived.Test.YtfeicmpbfbhiiaaGreatPEg22
import Derived.Test.YtfeicmpbfbhiiaaGreatPEg19
import Derived.Test.YtfeicmpbfbhiiaaGreatPEg17
set_option linter.unusedVariables false
set_option linter.unusedSimpArgs false
namespace Go.Proofs.YtfeicmpbfbhiiaaGreat
open Go.RowKit
attribute [local go_sem ↓] Go.wp_at_zero Go.wp_at_succ
section
variable {u : LC} {w w0 w1 w2 w' W : World} {F F1 G : List Nat} {t : LSt} {s : Lirs}
theorem llen {S : Stk} {Q : List ByteArray} (H : LK u w F S Q) (hl : S.length + Q.length ≤ 50000) {n : Nat} (hn : Q.length + cntS S 1 = n) :
  Calls Tryz.prog 337 #[.pointer (some ⟨u.e, 0, none⟩)] w fun en w' => en = .returned (.int .i64 n) ∧ Fr [] w w' := by
 obtain ⟨t, Ht, hco⟩ := H
 obtain ⟨_, _, _, k3, _, k5, _⟩ := Ht.cells
 rw [hco.h] at k5
 have hle : cntS S 1 ≤ S.length := List.countP_le_length
 have hq := hco.lens.2
 obtain ⟨a, ha⟩ : ∃ a, Q.length = a := ⟨_, rfl⟩
 obtain ⟨b, hb⟩ : ∃ b, cntS S 1 = b := ⟨_, rfl⟩
 rw [ha] at hq hn hl
 rw [hb] at k5 hn hle
 have hw : IntKind.i64.wrap ((a : Int) + (b : Int)) = (n : Int) := by
  simp [IntKind.wrap, IntKind.bits, IntKind.signed]
  omega
 have HL := Lib.hid fun (W : World) (f : Fr [] w W) => (Ht.fr0 f).lenQ hq
 clear Ht hco hq ha hb hn
 go_enter Tryz.func337, Tryz.ntmps337
 go_wp2
 go_quiet ((go_at_call 197; exact Calls.quiet_of_same ((HL.out _ ((Fr.refl [] _).drewN _)).mono fun _ _ h => ⟨h.1, h.2.symm⟩)))
 go_wp2
 go_ret
 exact ⟨rfl, (Fr.refl [] _).drewN _⟩
end
end Go.Proofs.YtfeicmpbfbhiiaaGreat
set_option linter.unusedVariables false
set_option linter.unusedSimpArgs false
namespace Go.Proofs.YtfeicmpbfbhiiaaGreat
open Go.RowKit
attribute [local go_sem ↓] Go.wp_at_zero Go.wp_at_succ
def EL (w : World) (e : Nat) (F : List Nat) (s : Lirs) : Prop := s.Inv ∧ ∃ u : LC, u.e = e ∧ u.c = s.c ∧ u.most = s.most ∧ LK u w F s.S s.Q
theorem EL.fr {w w' : World} {e : Nat} {F G : List Nat} {s : Lirs} (h : EL w e F s) (f : Fr G w w') (hd : Dis F G) : EL w' e F s := by
 obtain ⟨hi, u, a, b, c, h⟩ := h
 exact ⟨hi, u, a, b, c, h.fr f hd⟩
theorem EL.lt {w : World} {e : Nat} {F : List Nat} {s : Lirs} (h : EL w e F s) : Lt F w := by
 obtain ⟨hi, u, a, b, c, h⟩ := h
 exact h.lt
theorem kind_cases {S : Stk} {Q : List ByteArray} {t : LSt} (hc : Coh S Q t) (hi : SInv S Q) (hp : ∀ e, e ∈ t.LS → 0 < e.1) (key : ByteArray) :
  (kindS S Q key = 1 ∧ stS S key = 1) ∨ (kindS S Q key = 2 ∧ hOf t.LS key ≠ 0 ∧ key ∈ Q ∧ stS S key = 2) ∨ (kindS S Q key = 2 ∧ hOf t.LS key = 0 ∧ key ∈ Q ∧ stS S key = 0) ∨ (kindS S Q key = 3 ∧ key ∉ Q ∧ stS S key = 3) ∨ (kindS S Q key = 0 ∧ key ∉ Q ∧ stS S key = 0) := by
 by_cases hm : key ∈ S.map (·.1)
 ·have h0 : hOf t.LS key ≠ 0 := by
   have := hp _ (hOf_in (L := t.LS) (key := key) (by rw [hc.ls]; exact hm))
   simp only at this
   omega
  have hk : kindS S Q key = stS S key := by
   unfold kindS
   rw [if_neg (fun e => (stS_zero hi).1 e hm)]
  rcases stS_in hi hm with ⟨a, b⟩ | ⟨a, b⟩ | ⟨a, b⟩
  ·exact .inl ⟨by rw [hk, a], a⟩
  ·exact .inr (.inl ⟨by rw [hk, a], h0, b, a⟩)
  ·exact .inr (.inr (.inr (.inl ⟨by rw [hk, a], b, a⟩)))
 ·have h0 : hOf t.LS key = 0 := hOf_out (by rw [hc.ls]; exact hm)
  have hs : stS S key = 0 := stS_not hm
  by_cases hq : key ∈ Q
  ·exact .inr (.inr (.inl ⟨by unfold kindS; rw [if_pos hs, if_pos hq], h0, hq, hs⟩))
  ·exact .inr (.inr (.inr (.inr ⟨by unfold kindS; rw [if_pos hs, if_neg hq], hq, hs⟩)))
section
variable {u : LC} {w w0 w1 w2 w' W : World} {F F1 G : List Nat} {t : LSt} {s : Lirs}
end
end Go.Proofs.YtfeicmpbfbhiiaaGreat
set_option linter.unusedVariables false
set_option linter.unusedSimpArgs false
namespace Go.Proofs.YtfeicmpbfbhiiaaGreat
open Go.RowKit
attribute [local go_sem ↓] Go.wp_at_zero Go.wp_at_succ
def Lirs.new (room : Int) : Lirs := ⟨[], [], roomN room⟩
theorem Lirs.Inv.new (room : Int) : (Lirs.new room).Inv := by
 obtain ⟨h1, h2⟩ := roomN_bd room
 exact ⟨⟨by simp [Lirs.new], by simp [Lirs.new], by simp [Lirs.new], by simp [Lirs.new], by simp [Lirs.new]⟩, h1, h2, by simp [Lirs.new, cntS], by simp [Lirs.new, cntS], by simp [Lirs.new, cntS]⟩
theorem lnew_ret {w w1 w2 w3 : World} {room v v1 : Int} {F1 F2 F3 : List Nat} {sp qp x : Nat} (hs : LRep w1 sp F1 []) (hge : Ge w.heap.size F1) (hf1 : Fr [] w w1)
  (hq : LRep w2 qp F2 []) (hge2 : Ge w1.heap.size F2) (hf2 : Fr [] w1 w2) (hx : IRepL w3 x F3 (fun _ => none) 0) (hge3 : Ge w2.heap.size F3) (hf3 : Fr [] w2 w3)
  (hv : (roomN room : Int) = v) (hv1 : ((Lirs.new room).most : Int) = v1) :
  NewRet EL w (Lirs.new room) (.returned (.pointer (some ⟨w3.heap.size, 0, none⟩))) (w3.alloc (.cells #[.int .i64 v, .int .i64 v1, .pointer (some ⟨sp, 0, none⟩), .pointer (some ⟨qp, 0, none⟩), .pointer (some ⟨x, 0, none⟩), .int .i64 0, .int .i64 0] 197)) := by
 subst hv hv1
 have hl1 := hs.lt
 have hl2 := hq.lt
 have hl3 := hx.lt
 have hs1 := hf1.size
 have hs2 := hf2.size
 have hs3 := hf3.size
 have fa : Fr [] w3 (w3.alloc (.cells #[.int .i64 (roomN room : Nat), .int .i64 ((Lirs.new room).most : Nat), .pointer (some ⟨sp, 0, none⟩), .pointer (some ⟨qp, 0, none⟩), .pointer (some ⟨x, 0, none⟩), .int .i64 0, .int .i64 0] 197)) := (Fr.refl [] _).alloc _
 have dn : ∀ F : List Nat, Dis F [] := fun F b _ => by simp
 refine ⟨w3.heap.size, w3.heap.size :: (F1 ++ (F2 ++ F3)), rfl, ⟨Lirs.Inv.new room, ⟨w3.heap.size, sp, qp, x, roomN room, (Lirs.new room).most⟩, rfl, rfl, rfl, ⟨[], [], fun _ => none, 0, 0⟩,
  ⟨F1, F2, F3, 0, rfl, ⟨fun h => ?_, fun h => ?_, fun h => ?_⟩, ⟨?_, ?_, ?_⟩, block_alloc_new _ _, (hs.fr (hf2.same hf3) (dn _)).fr fa (dn _), (hq.fr hf3 (dn _)).fr fa (dn _), hx.fr fa (dn _)⟩, ⟨rfl, rfl, fun k => by simp [entM, kindS, stS, Lirs.new], by simp [cntS, Lirs.new], by simp [cntS, Lirs.new]⟩⟩, ?_, ((hf1.same hf2).same hf3).alloc _⟩
 ·have : w3.heap.size < w1.heap.size := hl1 _ h
  omega
 ·have : w3.heap.size < w2.heap.size := hl2 _ h
  omega
 ·have : w3.heap.size < w3.heap.size := hl3 _ h
  omega
 ·intro b hb hb2
  have := hge2 b hb2
  have := hl1 b hb
  omega
 ·intro b hb hb2
  have := hge3 b hb2
  have := hl1 b hb
  omega
 ·intro b hb hb2
  have := hge3 b hb2
  have := hl2 b hb
  omega
 ·intro b hb
  simp at hb
  rcases hb with rfl | hb | hb | hb
  ·omega
  ·exact hge b hb
  ·have := hge2 b hb; omega
  ·have := hge3 b hb; omega
set_option maxHeartbeats 4000000 in
set_option maxRecDepth 100000 in
theorem lnew (w : World) (room : Int) (h0 : -9223372036854775808 ≤ room) (h1 : room ≤ 9223372036854775807) : Calls Tryz.prog 93 #[.int .i64 room] w (NewRet EL w (Lirs.new room)) := by
 have h : room ≤ 1 ∨ (∃ n : Nat, room = n ∧ 1 < n ∧ n < 20) ∨ (∃ n : Nat, room = n ∧ 20 ≤ n ∧ n ≤ 1024) ∨ 1024 < room := by
  by_cases a : room ≤ 1
  ·exact .inl a
  ·by_cases b : 1024 < room
   ·exact .inr (.inr (.inr b))
   ·by_cases c : room < 20
    ·exact .inr (.inl ⟨room.toNat, by omega, by omega, by omega⟩)
    ·exact .inr (.inr (.inl ⟨room.toNat, by omega, by omega, by omega⟩))
 rcases h with h | ⟨n, rfl, hn1, hn2⟩ | ⟨n, rfl, hn1, hn2⟩ | h
 ·have HR : Hid (roomN room = 1) := by show _ = _; unfold roomN; omega
  have h2 : room < 1 ∨ room = 1 := by omega
  rcases h2 with h2 | rfl
  all_goals
   go_enter Tryz.func93, Tryz.ntmps93
   go_wp2_with fail
   refine (listNew _).mono ?_
   rintro en w1 ⟨sp, F1, rfl, hs, hge, hf1⟩
   have HX := Lib.hid (And.intro hs (And.intro hge hf1))
   clear hs hge hf1
   go_wp2_with fail
   refine (listNew _).mono ?_
   rintro en w2 ⟨qp, F2, rfl, hq, hge2, hf2⟩
   have HY := Lib.hid (And.intro hq (And.intro hge2 hf2))
   clear hq hge2 hf2
   go_wp2_with fail
   refine (idxNewL _).mono ?_
   rintro en w3 ⟨x, F3, rfl, hx, hge3, hf3⟩
   have HZ := Lib.hid (And.intro hx (And.intro hge3 hf3))
   clear hx hge3 hf3
   go_wp2
   go_ret
   refine lnew_ret HX.out.1 HX.out.2.1 HX.out.2.2 HY.out.1 HY.out.2.1 HY.out.2.2 HZ.out.1 HZ.out.2.1 HZ.out.2.2 ?_ ?_
   all_goals
    simp only [Lirs.most, Lirs.new, HR.out]
    try omega
 ·have HR : Hid (roomN (n : Int) = n) := by show _ = _; unfold roomN; omega
  by_cases h8 : n < 10
  ·have q8 : (n : Int) / 10 < 1 := by omega
   go_enter Tryz.func93, Tryz.ntmps93
   go_wp2_with fail
   refine (listNew _).mono ?_
   rintro en w1 ⟨sp, F1, rfl, hs, hge, hf1⟩
   have HX := Lib.hid (And.intro hs (And.intro hge hf1))
   clear hs hge hf1
   go_wp2_with fail
   refine (listNew _).mono ?_
   rintro en w2 ⟨qp, F2, rfl, hq, hge2, hf2⟩
   have HY := Lib.hid (And.intro hq (And.intro hge2 hf2))
   clear hq hge2 hf2
   go_wp2_with fail
   refine (idxNewL _).mono ?_
   rintro en w3 ⟨x, F3, rfl, hx, hge3, hf3⟩
   have HZ := Lib.hid (And.intro hx (And.intro hge3 hf3))
   clear hx hge3 hf3
   go_wp2
   go_ret
   refine lnew_ret HX.out.1 HX.out.2.1 HX.out.2.2 HY.out.1 HY.out.2.1 HY.out.2.2 HZ.out.1 HZ.out.2.1 HZ.out.2.2 ?_ ?_
   all_goals
    simp only [Lirs.most, Lirs.new, HR.out]
    try omega
  ·have q8 : (n : Int) / 10 = 1 := by omega
   go_enter Tryz.func93, Tryz.ntmps93
   go_wp2_with fail
   refine (listNew _).mono ?_
   rintro en w1 ⟨sp, F1, rfl, hs, hge, hf1⟩
   have HX := Lib.hid (And.intro hs (And.intro hge hf1))
   clear hs hge hf1
   go_wp2_with fail
   refine (listNew _).mono ?_
   rintro en w2 ⟨qp, F2, rfl, hq, hge2, hf2⟩
   have HY := Lib.hid (And.intro hq (And.intro hge2 hf2))
   clear hq hge2 hf2
   go_wp2_with fail
   refine (idxNewL _).mono ?_
   rintro en w3 ⟨x, F3, rfl, hx, hge3, hf3⟩
   have HZ := Lib.hid (And.intro hx (And.intro hge3 hf3))
   clear hx hge3 hf3
   go_wp2
   go_ret
   refine lnew_ret HX.out.1 HX.out.2.1 HX.out.2.2 HY.out.1 HY.out.2.1 HY.out.2.2 HZ.out.1 HZ.out.2.1 HZ.out.2.2 ?_ ?_
   all_goals
    simp only [Lirs.most, Lirs.new, HR.out]
    try omega
 ·have HR : Hid (roomN (n : Int) = n) := by show _ = _; unfold roomN; omega
  have q8 : 1 < (n : Int) / 10 := by omega
  go_enter Tryz.func93, Tryz.ntmps93
  go_wp2_with fail
  refine (listNew _).mono ?_
  rintro en w1 ⟨sp, F1, rfl, hs, hge, hf1⟩
  have HX := Lib.hid (And.intro hs (And.intro hge hf1))
  clear hs hge hf1
  go_wp2_with fail
  refine (listNew _).mono ?_
  rintro en w2 ⟨qp, F2, rfl, hq, hge2, hf2⟩
  have HY := Lib.hid (And.intro hq (And.intro hge2 hf2))
  clear hq hge2 hf2
  go_wp2_with fail
  refine (idxNewL _).mono ?_
  rintro en w3 ⟨x, F3, rfl, hx, hge3, hf3⟩
  have HZ := Lib.hid (And.intro hx (And.intro hge3 hf3))
  clear hx hge3 hf3
  go_wp2
  go_ret
  refine lnew_ret HX.out.1 HX.out.2.1 HX.out.2.2 HY.out.1 HY.out.2.1 HY.out.2.2 HZ.out.1 HZ.out.2.1 HZ.out.2.2 ?_ ?_
  all_goals
   simp only [Lirs.most, Lirs.new, HR.out]
   try omega
 ·have HR : Hid (roomN room = 1024) := by show _ = _; unfold roomN; omega
  go_enter Tryz.func93, Tryz.ntmps93
  go_wp2_with fail
  refine (listNew _).mono ?_
  rintro en w1 ⟨sp, F1, rfl, hs, hge, hf1⟩
  have HX := Lib.hid (And.intro hs (And.intro hge hf1))
  clear hs hge hf1
  go_wp2_with fail
  refine (listNew _).mono ?_
  rintro en w2 ⟨qp, F2, rfl, hq, hge2, hf2⟩
  have HY := Lib.hid (And.intro hq (And.intro hge2 hf2))
  clear hq hge2 hf2
  go_wp2_with fail
  refine (idxNewL _).mono ?_
  rintro en w3 ⟨x, F3, rfl, hx, hge3, hf3⟩
  have HZ := Lib.hid (And.intro hx (And.intro hge3 hf3))
  clear hx hge3 hf3
  go_wp2
  go_ret
  refine lnew_ret HX.out.1 HX.out.2.1 HX.out.2.2 HY.out.1 HY.out.2.1 HY.out.2.2 HZ.out.1 HZ.out.2.1 HZ.out.2.2 ?_ ?_
  all_goals
   simp only [Lirs.most, Lirs.new, HR.out]
   try omega
end Go.Proofs.YtfeicmpbfbhiiaaGreat
set_option linter.unusedVariables false
set_option linter.unusedSimpArgs false
namespace Go.Proofs.YtfeicmpbfbhiiaaGreat
open Go.RowKit
def Went (l : List ByteArray) : Prop := l.length ≤ 100 ∧ ∀ k, k ∈ l → k.size ≤ maxLen
theorem Went.nil : Went [] := ⟨by simp, by simp⟩
theorem Went.one {k : ByteArray} (h : k.size ≤ maxLen) : Went [k] := ⟨by simp, by intro x hx; simp at hx; subst hx; exact h⟩
theorem Twoq.Inv.went {s : Twoq} (h : s.Inv) (key : ByteArray) (hk : key.size ≤ maxLen) : Went (s.access key).2.1 := by
 have he : ∀ t : Twoq, RNd 3 t.K → Went t.reclaim.1 := by
  intro t ht
  unfold Twoq.reclaim
  split
  ·exact Went.nil
  ·refine Went.one ?_
   unfold Twoq.evict
   split
   ·exact Nat.zero_le _
   ·split
    ·exact oldest_sz ht 2
    ·exact oldest_sz ht 0
 unfold Twoq.access
 split
 ·exact Went.nil
 ·split
  ·exact Went.nil
  ·split
   ·exact he _ (h.nd.drop _)
   ·exact he _ h.nd
theorem arcRepl_went {K : Rows} (h : RNd 4 K) (p c : Nat) (a : Bool) : Went (arcRepl K p c a).1 := by
 unfold arcRepl
 split
 ·exact Went.nil
 ·exact Went.one (oldest_sz h _)
theorem Arc.Inv.went {s : Arc} (h : s.Inv) (key : ByteArray) (hk : key.size ≤ maxLen) : Went (s.access key).2.1 := by
 unfold Arc.access
 split
 ·exact Went.nil
 ·split
  ·exact arcRepl_went h.nd _ _ _
  ·split
   ·exact arcRepl_went h.nd _ _ _
   ·simp only
    unfold arcComes
    split
    ·exact arcRepl_went (h.nd.drop _) _ _ _
    ·split
     ·exact Went.one (oldest_sz h.nd _)
     ·split
      ·exact Went.nil
      ·split
       ·exact arcRepl_went (h.nd.drop _) _ _ _
       ·exact arcRepl_went h.nd _ _ _
theorem Tiny.Inv.went {s : Tiny} (h : s.Inv) (key : ByteArray) (hk : key.size ≤ maxLen) : Went (s.access key).2.1 := by
 have hn := (h.notes key).1
 unfold Tiny.access
 simp only
 generalize s.notes key = s at hn ⊢
 split
 ·exact Went.nil
 ·split
  ·exact Went.nil
  ·simp only
   have hnd := hn.nd.push (r := 0) (by omega) key hk
   unfold Tiny.fits
   split
   ·unfold Tiny.admits
    split
    ·exact Went.nil
    ·split
     ·exact Went.one (oldest_sz hnd _)
     ·exact Went.one (oldest_sz hnd _)
   ·exact Went.nil
theorem s3Small_sz (g : Nat) : ∀ (f : Nat) (K : Rows) (C : Cnt), RNd 3 K → RNd 3 (s3Small g f K C).2.1 ∧ ∀ k, (s3Small g f K C).1 = some k → k.size ≤ maxLen
 | 0, K, C, h => ⟨h, by intro k hk; cases hk⟩
 | f + 1, K, C, h => by
  unfold s3Small
  split
  ·exact ⟨h, by intro k hk; cases hk⟩
  ·split
   ·exact s3Small_sz g f _ _ (h.push (by omega) _ (oldest_sz h 0))
   ·refine ⟨(h.push (by omega) _ (oldest_sz h 0)).trim _ _, ?_⟩
    intro k hk
    simp at hk
    subst hk
    exact oldest_sz h 0
theorem s3Main_sz : ∀ (f : Nat) (K : Rows) (C : Cnt), RNd 3 K → (s3Main f K C).1.size ≤ maxLen
 | 0, K, C, h => Nat.zero_le _
 | f + 1, K, C, h => by
  unfold s3Main
  split
  ·exact oldest_sz h 1
  ·exact s3Main_sz f _ _ (h.push (by omega) _ (oldest_sz h 1))
theorem S3.Inv.went {s : S3} (h : s.Inv) (key : ByteArray) (hk : key.size ≤ maxLen) : Went (s.access key).2.1 := by
 unfold S3.access
 split
 ·exact Went.nil
 ·simp only
  unfold S3.room
  split
  ·exact Went.nil
  ·refine Went.one ?_
   unfold S3.evict
   split
   ·exact Nat.zero_le _
   ·split
    ·obtain ⟨h1, h2⟩ := s3Small_sz s.ghosts ((s.K 0).length + 1) s.K s.C h.ci.nd
     simp only
     cases hr : (s3Small s.ghosts ((s.K 0).length + 1) s.K s.C).1 with
     | some k => exact h2 k hr
     | none => exact s3Main_sz _ _ _ h1
    ·exact s3Main_sz _ _ _ h.ci.nd
theorem Lirs.Inv.went {s : Lirs} (h : s.Inv) (key : ByteArray) (hk : key.size ≤ maxLen) : Went (s.access key).2.1 := by
 unfold Lirs.access
 split
 ·exact Went.nil
 ·split
  ·exact Went.nil
  ·simp only
   unfold Lirs.room
   split
   ·exact Went.nil
   ·refine Went.one ?_
    unfold Lirs.evict
    split
    ·exact Nat.zero_le _
    ·rename_i hl
     obtain ⟨a1, a2, _⟩ := ready_inv h hl
     simp only
     cases hq : s.ready.Q with
     | nil => exact absurd hq a2
     | cons k q => exact a1.qz k (by rw [hq]; simp)
end Go.Proofs.YtfeicmpbfbhiiaaGreat
set_option linter.unusedVariables false
set_option linter.unusedSimpArgs false
namespace Go.Proofs.YtfeicmpbfbhiiaaGreat
open Go.RowKit
attribute [local go_sem ↓] Go.wp_at_zero Go.wp_at_succ
inductive En where
 | A (s : Arc)
 | L (s : Lirs)
 | Q (s : Twoq)
 | U (s : Tiny)
 | S (s : S3)
namespace En
/-- Its kind. -/
def kd : En → Nat | A _ => 0 | L _ => 1 | Q _ => 2 | U _ => 3 | S _ => 4
def lift {α : Type} (f : α → En) (r : Bool × List ByteArray × α) : Bool × List ByteArray × En := (r.1, r.2.1, f r.2.2)
def access : En → ByteArray → Bool × List ByteArray × En
 | A s, k => lift A (s.access k) | L s, k => lift L (s.access k) | Q s, k => lift Q (s.access k) | U s, k => lift U (s.access k) | S s, k => lift S (s.access k)
def new (k : Nat) (room : Int) : En := match k with | 0 => A (Arc.new room) | 1 => L (Lirs.new room) | 2 => Q (Twoq.new room) | 3 => U (Tiny.new room) | _ => S (S3.new room)
theorem kd_lt (s : En) : s.kd < 5 := by cases s <;> simp [kd]
end En
/-- The numbers of a kind's type and functions. -/
def kTy (k : Nat) : TypeId := match k with | 0 => 132 | 1 => 134 | 2 => 136 | 3 => 138 | _ => 140
def EE (w : World) (e : Nat) (F : List Nat) : En → Prop
 | .A s => EArc w e F s | .L s => EL w e F s | .Q s => EQ w e F s | .U s => EU w e F s | .S s => ES w e F s
section
variable {w w' : World} {e : Nat} {F G : List Nat} {s : En}
theorem EE.fr (h : EE w e F s) (f : Fr G w w') (hd : Dis F G) : EE w' e F s := by
 cases s
 ·exact EArc.fr h f hd
 ·exact EL.fr h f hd
 ·exact EQ.fr h f hd
 ·exact EU.fr h f hd
 ·exact ES.fr h f hd
theorem EE.lt (h : EE w e F s) : Lt F w := by
 cases s
 ·exact EArc.lt h
 ·exact EL.lt h
 ·exact EQ.lt h
 ·exact EU.lt h
 ·exact ES.lt h
theorem EE.went (h : EE w e F s) (key : ByteArray) (hk : key.size ≤ maxLen) : Went (s.access key).2.1 := by
 cases s
 ·exact Arc.Inv.went h.1 key hk
 ·exact Lirs.Inv.went h.1 key hk
 ·exact Twoq.Inv.went h.1 key hk
 ·exact Tiny.Inv.went h.1 key hk
 ·exact S3.Inv.went h.1 key hk
end
def EnNew (w : World) (s : En) (en : Ending) (w' : World) : Prop := ∃ e F, en = .returned (.tuple #[.iface (kTy s.kd) (.pointer (some ⟨e, 0, none⟩)), .int .i64 0]) ∧ EE w' e F s ∧ Ge w.heap.size F ∧ Fr [] w w'
set_option maxRecDepth 100000 in
theorem ennewA (w : World) (room : Int) (h0 : -9223372036854775808 ≤ room) (h1 : room ≤ 9223372036854775807) :
  Calls Tryz.prog 39 #[.int .i64 0, .int .i64 room] w (EnNew w (En.new 0 room)) := by
 go_enter Tryz.func39, Tryz.ntmps39
 go_wp2_with fail
 refine (anew _ room h0 h1).mono ?_
 rintro en w1 ⟨e, F, rfl, he, hge, hf⟩
 have HE := Lib.hid (And.intro he (And.intro hge hf))
 clear he hge hf
 go_wp2
 go_ret2
 exact ⟨e, F, rfl, HE.out⟩
set_option maxRecDepth 100000 in
theorem ennewL (w : World) (room : Int) (h0 : -9223372036854775808 ≤ room) (h1 : room ≤ 9223372036854775807) :
  Calls Tryz.prog 39 #[.int .i64 1, .int .i64 room] w (EnNew w (En.new 1 room)) := by
 go_enter Tryz.func39, Tryz.ntmps39
 go_wp2_with fail
 refine (lnew _ room h0 h1).mono ?_
 rintro en w1 ⟨e, F, rfl, he, hge, hf⟩
 have HE := Lib.hid (And.intro he (And.intro hge hf))
 clear he hge hf
 go_wp2
 go_ret2
 exact ⟨e, F, rfl, HE.out⟩
set_option maxRecDepth 100000 in
theorem ennewQ (w : World) (room : Int) (h0 : -9223372036854775808 ≤ room) (h1 : room ≤ 9223372036854775807) :
  Calls Tryz.prog 39 #[.int .i64 2, .int .i64 room] w (EnNew w (En.new 2 room)) := by
 go_enter Tryz.func39, Tryz.ntmps39
 go_wp2_with fail
 refine (qnew _ room h0 h1).mono ?_
 rintro en w1 ⟨e, F, rfl, he, hge, hf⟩
 have HE := Lib.hid (And.intro he (And.intro hge hf))
 clear he hge hf
 go_wp2
 go_ret2
 exact ⟨e, F, rfl, HE.out⟩
set_option maxRecDepth 100000 in
theorem ennewU (w : World) (room : Int) (h0 : -9223372036854775808 ≤ room) (h1 : room ≤ 9223372036854775807) :
  Calls Tryz.prog 39 #[.int .i64 3, .int .i64 room] w (EnNew w (En.new 3 room)) := by
 go_enter Tryz.func39, Tryz.ntmps39
 go_wp2_with fail
 refine (unew _ room h0 h1).mono ?_
 rintro en w1 ⟨e, F, rfl, he, hge, hf⟩
 have HE := Lib.hid (And.intro he (And.intro hge hf))
 clear he hge hf
 go_wp2
 go_ret2
 exact ⟨e, F, rfl, HE.out⟩
set_option maxRecDepth 100000 in
theorem ennewS (w : World) (room : Int) (h0 : -9223372036854775808 ≤ room) (h1 : room ≤ 9223372036854775807) :
  Calls Tryz.prog 39 #[.int .i64 4, .int .i64 room] w (EnNew w (En.new 4 room)) := by
 go_enter Tryz.func39, Tryz.ntmps39
 go_wp2_with fail
 refine (snew _ room h0 h1).mono ?_
 rintro en w1 ⟨e, F, rfl, he, hge, hf⟩
 have HE := Lib.hid (And.intro he (And.intro hge hf))
 clear he hge hf
 go_wp2
 go_ret2
 exact ⟨e, F, rfl, HE.out⟩
theorem ennew (w : World) (k : Nat) (hk : k < 5) (room : Int) (h0 : -9223372036854775808 ≤ room) (h1 : room ≤ 9223372036854775807) : Calls Tryz.prog 39 #[.int .i64 k, .int .i64 room] w (EnNew w (En.new k room)) := by
 match k, hk with
 | 0, _ => exact ennewA w room h0 h1
 | 1, _ => exact ennewL w room h0 h1
 | 2, _ => exact ennewQ w room h0 h1
 | 3, _ => exact ennewU w room h0 h1
 | 4, _ => exact ennewS w room h0 h1
end Go.Proofs.YtfeicmpbfbhiiaaGreat
