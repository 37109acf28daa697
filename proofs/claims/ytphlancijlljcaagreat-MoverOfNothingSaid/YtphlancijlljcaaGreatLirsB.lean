/- The walks over lirs' engine: Access of keys that are resident. -/
import Derived.Test.YtphlancijlljcaaGreatLirsA
set_option linter.unusedVariables false
set_option linter.unusedSimpArgs false
namespace Go.Proofs.YtphlancijlljcaaGreat
open Go.RowKit
attribute [local go_sem ↓] Go.wp_at_zero Go.wp_at_succ
def EL (w : World) (e : Nat) (F : List Nat) (s : Lirs) : Prop := s.Inv ∧ ∃ u : LC, u.e = e ∧ u.c = s.c ∧ u.most = s.most ∧ LK u w F s.S s.Q
theorem EL.fr {w w' : World} {e : Nat} {F G : List Nat} {s : Lirs} (h : EL w e F s) (f : Fr G w w') (hd : Dis F G) : EL w' e F s := by
 obtain ⟨hi, u, a, b, c, h⟩ := h
 exact ⟨hi, u, a, b, c, h.fr f hd⟩
theorem EL.lt {w : World} {e : Nat} {F : List Nat} {s : Lirs} (h : EL w e F s) : Lt F w := by
 obtain ⟨hi, u, a, b, c, h⟩ := h
 exact h.lt
theorem kind_cases {S : Stk} {Q : List ByteArray} {t : LSt} (hc : Coh S Q t) (hi : SInv S Q) (hp : ∀ e, e ∈ t.LS → 0 < e.1) (key : ByteArray) :
  (kindS S Q key = 1 ∧ stS S key = 1) ∨ (kindS S Q key = 2 ∧ hOf t.LS key ≠ 0 ∧ key ∈ Q ∧ stS S key = 2) ∨ (kindS S Q key = 2 ∧ hOf t.LS key = 0 ∧ key ∈ Q ∧ stS S key = 0) ∨ (kindS S Q key = 3 ∧ key ∉ Q ∧ stS S key = 3) ∨ (kindS S Q key = 0 ∧ key ∉ Q ∧ stS S key = 0) := by
 by_cases hm : key ∈ S.map (·.1)
 ·have h0 : hOf t.LS key ≠ 0 := by
   have := hp _ (hOf_in (L := t.LS) (key := key) (by rw [hc.ls]; exact hm))
   simp only at this
   omega
  have hk : kindS S Q key = stS S key := by
   unfold kindS
   rw [if_neg (fun e => (stS_zero hi).1 e hm)]
  rcases stS_in hi hm with ⟨a, b⟩ | ⟨a, b⟩ | ⟨a, b⟩
  ·exact .inl ⟨by rw [hk, a], a⟩
  ·exact .inr (.inl ⟨by rw [hk, a], h0, b, a⟩)
  ·exact .inr (.inr (.inr (.inl ⟨by rw [hk, a], b, a⟩)))
 ·have h0 : hOf t.LS key = 0 := hOf_out (by rw [hc.ls]; exact hm)
  have hs : stS S key = 0 := stS_not hm
  by_cases hq : key ∈ Q
  ·exact .inr (.inr (.inl ⟨by unfold kindS; rw [if_pos hs, if_pos hq], h0, hq, hs⟩))
  ·exact .inr (.inr (.inr (.inr ⟨by unfold kindS; rw [if_pos hs, if_neg hq], hq, hs⟩)))
/-- What Access hands back. -/
def LARet (u : LC) (w : World) (F : List Nat) (r : Bool × List ByteArray × Lirs) (en : Ending) (w' : World) : Prop :=
 ∃ v F', en = .returned (.tuple #[.bool r.1, v]) ∧ Gone w w' v r.2.1 ∧ LK u w' F' r.2.2.S r.2.2.Q ∧ Sub F' F w ∧ Fr F w w' ∧ Dis v.ownBlock.toList F'
section
variable {u : LC} {w w0 w1 w2 w' W : World} {F F1 G : List Nat} {t : LSt} {s : Lirs}
set_option maxRecDepth 100000 in
theorem laccess_warm (Ht : LRw u w F t) (hc : Coh s.S s.Q t) (hi : s.Inv) (hmo : u.most = s.most) (key : ByteArray) (hz : key.size ≤ maxLen) {x y z : Nat} (hx : kindS s.S s.Q key = x) (hy : hOf t.LS key = y) (hzz : hOf t.LQ key = z) (hcase : x = 1 ∨ (x = 2 ∧ y ≠ 0)) :
  Calls Tryz.prog 338 #[.pointer (some ⟨u.e, 0, none⟩), .string key] w (LARet u w F (true, [], (s.heats key).prunes)) := by
 have hslen := hi.si.len
 have hres := hi.res
 have hgh := hi.gh
 have hhm := hi.hm
 have hcb := hi.c2
 have hsi := hi.si
 have hmb : s.most ≤ 1024 := by unfold Lirs.most; omega
 have hbd : s.S.length + s.Q.length ≤ 10000 := by omega
 obtain ⟨_, _, _, _, k4, _, _⟩ := Ht.cells
 have hel : u.e < w.heap.size := Ht.lt _ Ht.ein
 have hget := hc.get hsi key
 rw [hx, hy, hzz] at hget
 have HGET := Lib.hid (Ht.get key hz hget)
 have HHE := Lib.hid fun (W : World) (f : Fr [] w W) => lheats (Ht.fr0 f) hc hsi (by omega) hmo hmb key hz x hy hzz
 obtain ⟨a1, a2, a3, a4, a5⟩ := heats_inv hsi hz hhm
 have hl2 : (s.heats key).S.length + (s.heats key).Q.length ≤ 50000 := by
  have h1 := a1.len
  have h2 := cutQ_le s.Q key
  have h3 := cntS_cut_le s.S key 1
  omega
 have HSI := Lib.hid (And.intro a1 hl2)
 clear Ht hc hi hmo hx hy hzz hslen hres hgh hhm hcb hsi hmb hbd hget a1 a2 a3 a4 a5 hl2
 have hby : x = 1 ∨ (x = 2 ∧ ((y : Int) != 0) = true ∧ ((y : Int) == 0) = false) := by
  rcases hcase with h | ⟨h, h2⟩
  ·exact .inl h
  ·refine .inr ⟨h, by simpa using h2, ?_⟩
   rw [beq_eq_false_iff_ne]; omega
 clear hcase
 rcases hby with rfl | ⟨rfl, hy1, hy2⟩
 all_goals
  go_enter Tryz.func338, Tryz.ntmps338
  go_wp2_with fail
  refine HGET.out.mono ?_
  rintro en w1 ⟨⟨bb, rfl⟩, f1⟩
  have hs1 := f1.size
  have HF := Lib.hid f1
  clear f1
  go_wp2_with fail
  refine (HHE.out _ (HF.out.alloc _)).mono ?_
  rintro en w2 ⟨rfl, F2, h2, s2, f2⟩
  have HPR := Lib.hid (lprunes h2 HSI.out.1 HSI.out.2)
  have HF2 := Lib.hid (And.intro (s2.old (HF.out.alloc _).size) ((HF.out.alloc _).nil.same f2))
  clear h2 s2 f2
  go_wp2_with fail
  refine HPR.out.mono ?_
  rintro en w3 ⟨rfl, hg⟩
  have HG := Lib.hid (LKGo.trans HF2.out.1 HF2.out.2 hg)
  clear hg
  go_wp2
  go_ret2
  obtain ⟨F3, b1, b2, b3⟩ := HG.out
  exact ⟨_, F3, rfl, Gone.nil _ _, b1, b2, b3, by intro b hb; simp [Value.ownBlock] at hb⟩
set_option maxRecDepth 100000 in
theorem laccess_cold (Ht : LRw u w F t) (hc : Coh s.S s.Q t) (hi : s.Inv) (hmo : u.most = s.most) (key : ByteArray) (hz : key.size ≤ maxLen) {x y z : Nat} (hx : kindS s.S s.Q key = x) (hy : hOf t.LS key = y) (hzz : hOf t.LQ key = z) (hx2 : x = 2) (hy0 : y = 0) :
  Calls Tryz.prog 338 #[.pointer (some ⟨u.e, 0, none⟩), .string key] w (LARet u w F (true, [], (s.chills key).prunes)) := by
 have hslen := hi.si.len
 have hres := hi.res
 have hgh := hi.gh
 have hhm := hi.hm
 have hcb := hi.c2
 have hsi := hi.si
 have hmb : s.most ≤ 1024 := by unfold Lirs.most; omega
 have hbd : s.S.length + s.Q.length ≤ 10000 := by omega
 obtain ⟨_, _, _, _, k4, _, _⟩ := Ht.cells
 have hel : u.e < w.heap.size := Ht.lt _ Ht.ein
 have hget := hc.get hsi key
 rw [hx, hy, hzz] at hget
 have HGET := Lib.hid (Ht.get key hz hget)
 have HHE := Lib.hid fun (W : World) (f : Fr [] w W) => lchills (Ht.fr0 f) hc hsi (by omega) key hz x hy hzz
 obtain ⟨a1, a2, a3, a4⟩ := chills_inv hsi hz (key := key)
 have hl2 : (s.chills key).S.length + (s.chills key).Q.length ≤ 50000 := by
  have h1 := a1.len
  have h2 := cutQ_le s.Q key
  have h3 := cntS_cut_le s.S key 1
  have h4 := cntS_cut_le s.S key 3
  omega
 have HSI := Lib.hid (And.intro a1 hl2)
 clear Ht hc hi hmo hx hy hzz hslen hres hgh hhm hcb hsi hmb hbd hget a1 a2 a3 a4 hl2
 subst hx2 hy0
 go_enter Tryz.func338, Tryz.ntmps338
 go_wp2_with fail
 refine HGET.out.mono ?_
 rintro en w1 ⟨⟨bb, rfl⟩, f1⟩
 have hs1 := f1.size
 have HF := Lib.hid f1
 clear f1
 go_wp2_with fail
 refine (HHE.out _ (HF.out.alloc _)).mono ?_
 rintro en w2 ⟨rfl, F2, h2, s2, f2⟩
 have HPR := Lib.hid (lprunes h2 HSI.out.1 HSI.out.2)
 have HF2 := Lib.hid (And.intro (s2.old (HF.out.alloc _).size) ((HF.out.alloc _).nil.same f2))
 clear h2 s2 f2
 go_wp2_with fail
 refine HPR.out.mono ?_
 rintro en w3 ⟨rfl, hg⟩
 have HG := Lib.hid (LKGo.trans HF2.out.1 HF2.out.2 hg)
 clear hg
 go_wp2
 go_ret2
 obtain ⟨F3, b1, b2, b3⟩ := HG.out
 exact ⟨_, F3, rfl, Gone.nil _ _, b1, b2, b3, by intro b hb; simp [Value.ownBlock] at hb⟩
end
end Go.Proofs.YtphlancijlljcaaGreat
