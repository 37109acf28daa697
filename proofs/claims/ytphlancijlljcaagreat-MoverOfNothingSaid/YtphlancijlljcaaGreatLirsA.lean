/- The walks over lirs' engine: Len, Evict. -/
import Derived.Test.YtphlancijlljcaaGreatG7
set_option linter.unusedVariables false
set_option linter.unusedSimpArgs false
namespace Go.Proofs.YtphlancijlljcaaGreat
open Go.RowKit
attribute [local go_sem ↓] Go.wp_at_zero Go.wp_at_succ
section
variable {u : LC} {w w0 w1 w2 w' W : World} {F F1 G : List Nat} {t : LSt} {s : Lirs}
theorem llen {S : Stk} {Q : List ByteArray} (H : LK u w F S Q) (hl : S.length + Q.length ≤ 50000) {n : Nat} (hn : Q.length + cntS S 1 = n) :
  Calls Tryz.prog 343 #[.pointer (some ⟨u.e, 0, none⟩)] w fun en w' => en = .returned (.int .i64 n) ∧ Fr [] w w' := by
 obtain ⟨t, Ht, hco⟩ := H
 obtain ⟨_, _, _, k3, _, k5, _⟩ := Ht.cells
 rw [hco.h] at k5
 have hle : cntS S 1 ≤ S.length := List.countP_le_length
 have hq := hco.lens.2
 obtain ⟨a, ha⟩ : ∃ a, Q.length = a := ⟨_, rfl⟩
 obtain ⟨b, hb⟩ : ∃ b, cntS S 1 = b := ⟨_, rfl⟩
 rw [ha] at hq hn hl
 rw [hb] at k5 hn hle
 have hw : IntKind.i64.wrap ((a : Int) + (b : Int)) = (n : Int) := by
  simp [IntKind.wrap, IntKind.bits, IntKind.signed]
  omega
 have HL := Lib.hid fun (W : World) (f : Fr [] w W) => (Ht.fr0 f).lenQ hq
 clear Ht hco hq ha hb hn
 go_enter Tryz.func343, Tryz.ntmps343
 go_wp2
 go_quiet ((go_at_call 135; exact Calls.quiet_of_same ((HL.out _ ((Fr.refl [] _).drewN _)).mono fun _ _ h => ⟨h.1, h.2.symm⟩)))
 go_wp2
 go_ret
 exact ⟨rfl, (Fr.refl [] _).drewN _⟩
def LEv (u : LC) (w : World) (F : List Nat) (r : ByteArray × Bool × Lirs) (en : Ending) (w' : World) : Prop := en = .returned (.tuple #[.string r.1, .bool r.2.1]) ∧ LKGo u w F r.2.2.S r.2.2.Q w'
theorem evict_eq {r : Lirs} {k : ByteArray} {q : List ByteArray} (hl : s.len ≠ 0) (hr : s.ready = r) (hq : r.Q = k :: q) (hc : r.c = s.c) :
  s.evict = (k, true, { S := pruneS (forgetS s.c (toGhost r.S k)), Q := q, c := s.c }) := by
 unfold Lirs.evict
 rw [if_neg hl, hr]
 unfold Lirs.prunes Lirs.forgets Lirs.leaves
 simp only [hq, List.headD_cons, List.tail_cons, hc]
set_option maxHeartbeats 2000000 in
set_option maxRecDepth 100000 in
theorem levict (H : LK u w F s.S s.Q) (hi : s.Inv) (hc : u.c = s.c) : Calls Tryz.prog 339 #[.pointer (some ⟨u.e, 0, none⟩)] w (LEv u w F s.evict) := by
 have hslen := hi.si.len
 have hres := hi.res
 have hgh := hi.gh
 have hcb := hi.c2
 have hcc : u.c ≤ 1024 := by omega
 have hbd : s.S.length + s.Q.length ≤ 10000 := by omega
 by_cases hl0 : s.len = 0
 ·have he : s.evict = (⟨#[]⟩, false, s) := by unfold Lirs.evict; rw [if_pos hl0]
  rw [he]
  have HLN := Lib.hid (llen H (by omega) hl0)
  have HH := Lib.hid H
  clear H hi hl0 he
  go_enter Tryz.func339, Tryz.ntmps339
  go_wp2_with fail
  refine HLN.out.mono ?_
  rintro en w1 ⟨rfl, f1⟩
  have HF := Lib.hid f1
  clear f1
  go_wp2
  go_ret2
  exact ⟨rfl, F, HH.out.fr0 HF.out, Sub.refl _ _, HF.out.nil⟩
 ·obtain ⟨r, hr⟩ : ∃ r, s.ready = r := ⟨_, rfl⟩
  obtain ⟨a1, a2, a3, a4, a5, a6⟩ := ready_inv hi hl0
  rw [hr] at a1 a2 a3 a4 a5 a6
  obtain ⟨k, q, hkq⟩ : ∃ k q, r.Q = k :: q := by
   cases h : r.Q with
   | nil => exact absurd h a2
   | cons k q => exact ⟨k, q, rfl⟩
  have hev := evict_eq hl0 hr hkq a6
  have hrs := a1.len
  have hrl : r.S.length + r.Q.length ≤ 30000 := by simp only [Lirs.len] at a3; omega
  have HEV := Lib.hid hev
  have HRI : Hid (SInv r.S r.Q ∧ r.Q = k :: q ∧ cntS r.S 3 ≤ u.c ∧ r.S.length + r.Q.length ≤ 30000) := ⟨a1, hkq, by omega, hrl⟩
  have HUC := Lib.hid hc
  obtain ⟨n, hn⟩ : ∃ n, s.len = n := ⟨_, rfl⟩
  have hnb : n ≤ 1024 := by rw [← hn]; simp only [Lirs.len]; omega
  have bn : ((n : Int) == 0) = false := by rw [beq_eq_false_iff_ne]; omega
  have HLN := Lib.hid (llen H (by omega) (show s.Q.length + cntS s.S 1 = n from hn))
  have HH := Lib.hid (And.intro H hi)
  obtain ⟨t0, Ht0, hco0⟩ := H
  obtain ⟨_, _, _, k3, k4, _, _⟩ := Ht0.cells
  have hlq := hco0.lens.2
  obtain ⟨m, hm⟩ : ∃ m, s.Q.length = m := ⟨_, rfl⟩
  have hmb : m ≤ 1024 := by omega
  rw [hm] at hlq
  have HLQ := Lib.hid fun (W : World) (f : Fr [] w W) => (Ht0.fr0 f).lenQ hlq
  have HT0 := Lib.hid (And.intro Ht0 hco0)
  have HM := Lib.hid (And.intro hm (And.intro hr hn))
  clear hi hc hev hr hl0 a1 a2 a3 a4 a5 a6 hkq hrs hrl hn Ht0 hco0 hlq hslen hres hgh hcb hm
  go_enter Tryz.func339, Tryz.ntmps339
  go_wp2_with fail
  refine HLN.out.mono ?_
  rintro en w1 ⟨rfl, f1⟩
  replace k3 := cell_fr f1 k3 (by simp)
  replace k4 := cell_fr f1 k4 (by simp)
  have HF1 := Lib.hid f1
  clear f1
  go_wp2_with fail
  refine (HLQ.out _ HF1.out).mono ?_
  rintro en w1' ⟨rfl, rfl⟩
  by_cases hm0 : m = 0
  ·subst hm0
   have hq0 : s.Q = [] := List.eq_nil_of_length_eq_zero HM.out.1
   have h1c : 0 < cntS s.S 1 := by
    have h1 := HM.out.2.2
    simp only [Lirs.len, hq0, List.length_nil] at h1
    have h2 : n ≠ 0 := by intro e; rw [e] at bn; cases bn
    omega
   obtain ⟨kk, hlow, hmm⟩ := lowS_some h1c
   have hrr : r = ⟨pruneS (cutS s.S kk), s.Q ++ [kk], s.c⟩ := by
    rw [← HM.out.2.1]
    unfold Lirs.ready Lirs.cools
    rw [if_pos hq0, hlow]; rfl
   have HCO := Lib.hid (lcools (HT0.out.1.fr0 HF1.out) HT0.out.2 HH.out.2.si (by omega) hlow hmm)
   have HRR := Lib.hid hrr
   clear hq0 h1c hlow hmm hrr
   go_wp2_with fail
   refine HCO.out.mono ?_
   rintro en wB ⟨rfl, FB, hB, sB, fB⟩
   have HB : Hid (LK u wB FB r.S r.Q) := by
    show LK u wB FB r.S r.Q
    rw [HRR.out]; exact hB
   have HFB := Lib.hid (And.intro (sB.old HF1.out.size) (HF1.out.nil.same fB))
   clear hB sB fB k3 k4
   obtain ⟨t, Ht, hco⟩ := HB.out
   obtain ⟨hri, hrq, hr3, hrl⟩ := HRI.out
   rw [hrq] at hco hri hrl
   obtain ⟨_, _, _, k3, k4, _, _⟩ := Ht.cells
   obtain ⟨b, L', hbL⟩ : ∃ b L', t.LQ = b :: L' := by
    cases h : t.LQ with
    | nil => have := hco.lq; rw [h] at this; cases this
    | cons b l => exact ⟨b, l, rfl⟩
   have hbk : b.2 = k := by
    have := hco.lq
    rw [hbL] at this
    simp at this
    exact this.1
   obtain ⟨h, k'⟩ := b
   simp only at hbk
   subst hbk
   have hz : k'.size ≤ maxLen := hri.qz k' (by simp)
   have hget := hco.get hri k'
   obtain ⟨x, hx⟩ : ∃ x, kindS r.S (k' :: q) k' = x := ⟨_, rfl⟩
   obtain ⟨y, hy⟩ : ∃ y, hOf t.LS k' = y := ⟨_, rfl⟩
   obtain ⟨z, hzz⟩ : ∃ y, hOf t.LQ k' = y := ⟨_, rfl⟩
   rw [hx, hy, hzz] at hget
   have hnd := hco.nds hri
   have hgi := ghost_inv hri
   have hlv := hco.leave hri (fun e he => (Ht.pos e he).1)
   rw [hy] at hlv
   have hel : u.e < wB.heap.size := Ht.lt _ Ht.ein
   have hl1 : (toGhost r.S k').length = r.S.length := by unfold toGhost; simp
   have hfs : (forgetS u.c (toGhost r.S k')).Sublist (toGhost r.S k') := by
    unfold forgetS
    split
    ·exact cutS_sub _ _
    ·exact List.Sublist.refl _
   have hqn : q.length + 1 = (k' :: q).length := rfl
   have HFRO := Lib.hid fun (W : World) (f : Fr [] wB W) => (Ht.fr0 f).frontQ hbL
   have HAT := Lib.hid fun (W : World) (f : Fr [] wB W) => (Ht.fr0 f).atQ (a := (h, k')) (by rw [hbL]; simp)
   have HGET := Lib.hid fun (W : World) (f : Fr [] wB W) => (Ht.fr0 f).get k' hz hget
   have HSET := Lib.hid fun (W : World) (F' : List Nat) (LQ' : HL) (h : LRw u W F' { t with LQ := LQ' }) (x y z : Nat) => lset h (by have := hco.small (k := 50000) (by omega); unfold Sm at *; simp only at *; omega) (hco.cover hri) (by simp at hrl ⊢; omega) k' hz x y z
   have HTT := Lib.hid (And.intro Ht (And.intro hnd.2 (And.intro hzz hlv)))
   have HGI := Lib.hid (And.intro hgi (And.intro hl1 (And.intro hfs (And.intro hrl hr3))))
   clear Ht hco hri hrq hr3 hrl hbL hget hx hy hzz hnd hgi hlv hl1 hfs hqn
   go_wp2_with fail
   go_quiet (first | (go_at_call 137; exact Calls.quiet_of_same ((HFRO.out _ ((Fr.refl [] _).drewN _)).mono fun _ _ h => ⟨h.1, h.2.symm⟩)) | (go_at_call 136; exact Calls.quiet_of_same ((HAT.out _ ((Fr.refl [] _).drewN _)).mono fun _ _ h => ⟨h.1, h.2.symm⟩)))
   go_wp2_with fail
   refine (HGET.out _ ((Fr.refl [] _).drewN _)).mono ?_
   rintro en wG ⟨⟨bb, rfl⟩, fG⟩
   have fa : Fr [] wB (wG.alloc (.cells #[.int .i64 x, .int .i64 y, .int .i64 z] 201)) := (((Fr.refl [] _).drewN _).same fG).alloc _
   have hb0 : EB (wG.alloc (.cells #[.int .i64 x, .int .i64 y, .int .i64 z] 201)) wG.heap.size (x, y, z) := block_alloc_new _ _
   have hsG : wB.heap.size ≤ wG.heap.size := fG.size
   have hnF : wG.heap.size ∉ FB := not_ge HTT.out.1.lt hsG
   have helG : u.e < wG.heap.size := by omega
   have HLV := Lib.hid (lleaves (HTT.out.1.fr0 fa) hb0 hnF HTT.out.2.1 k' HTT.out.2.2.1)
   have HA := Lib.hid (And.intro fa hsG)
   clear fG fa hb0 hnF hsG
   go_wp2_with fail
   refine HLV.out.mono ?_
   rintro en w3 ⟨rfl, ht3⟩
   obtain ⟨F3, h3, g3, nf3, s3, f3⟩ := id ht3
   obtain ⟨kb0, kb1, kb2⟩ := g3.cells
   have zb := fun i => g3.fz i
   have HLVC := Lib.hid HTT.out.2.2.2
   have HFIN : ∀ (w4 : World) (v : Nat), Hid (LTop u (wG.alloc (.cells #[.int .i64 x, .int .i64 y, .int .i64 z] 201)) FB wG.heap.size (v, y, 0) { t with LQ := cutL t.LQ k' } w4 → ∃ F4, LRw u w4 F4 { t with LQ := cutL t.LQ k' } ∧ EB w4 wG.heap.size (v, y, 0) ∧ Sub F4 F w ∧ Fr F w w4) := fun w4 v ht => by
    obtain ⟨F4, h4, g4, nf4, s4, f4⟩ := ht
    obtain ⟨a, b⟩ := fin2 HA.out.1 HA.out.2 s4 f4
    exact ⟨F4, h4, g4, HFB.out.1.fr HFB.out.2 a, HFB.out.2.via HFB.out.1 b⟩
   by_cases hy0 : y = 0
   ·have ht4 := (ht3.set (fun h => h.setI 3)).set (fun h => h.setI 0)
    obtain ⟨F4, h4, g4, s4, f4⟩ := (HFIN _ 0).out ht4
    subst hy0
    obtain ⟨kb0, kb1, kb2⟩ := g4.cells
    have hlv := HLVC.out
    first
     | rw [if_pos rfl] at hlv
     | rw [if_neg hy0] at hlv
    have HS4 := Lib.hid (HSET.out _ _ _ h4 0 0 0)
    have HF4 := Lib.hid (And.intro s4 f4)
    have HCO := Lib.hid hlv
    clear ht3 h3 g3 nf3 s3 f3 ht4 h4 g4 s4 f4 HFIN hlv
    go_wp2_with fail
    refine HS4.out.mono ?_
    rintro en w5 ⟨rfl, F5, h5, s5, f5⟩
    obtain ⟨⟨hg1, hg2, hg3⟩, hl1, hfs, hrl, hr3⟩ := HGI.out
    have hqn : q.length + 1 = (k' :: q).length := rfl
    have hls := hfs.length_le
    have HFO := Lib.hid (lforgets ⟨_, h5, HCO.out⟩ hg1 (by omega) hcc (by omega))
    have HF5 := Lib.hid (And.intro (HF4.out.1.fr HF4.out.2 s5) (HF4.out.2.via HF4.out.1 f5))
    have HPI := Lib.hid (And.intro (hg1.sub hfs) (show (forgetS u.c (toGhost r.S k')).length + q.length ≤ 50000 by omega))
    clear h5 s5 f5 hg1 hg2 hg3 hl1 hfs hrl hr3 hqn hls
    go_wp2_with fail
    refine HFO.out.mono ?_
    rintro en w6 ⟨rfl, F6, h6, s6, f6⟩
    have HPR := Lib.hid (lprunes h6 HPI.out.1 HPI.out.2)
    have HF6 := Lib.hid (And.intro (HF5.out.1.fr HF5.out.2 s6) (HF5.out.2.via HF5.out.1 f6))
    clear h6 s6 f6
    go_wp2_with fail
    refine HPR.out.mono ?_
    rintro en w7 ⟨rfl, hg7⟩
    have HG := Lib.hid (LKGo.trans HF6.out.1 HF6.out.2 hg7)
    clear hg7
    go_wp2
    go_ret2
    rw [HEV.out]
    refine ⟨rfl, ?_⟩
    rw [← HUC.out]
    exact HG.out
   ·have ht4 := ht3.set (fun h => h.setI 3)
    obtain ⟨F4, h4, g4, s4, f4⟩ := (HFIN _ 3).out ht4
    have by0 : ((y : Int) == 0) = false := by rw [beq_eq_false_iff_ne]; omega
    obtain ⟨kb0, kb1, kb2⟩ := g4.cells
    have hlv := HLVC.out
    first
     | rw [if_pos rfl] at hlv
     | rw [if_neg hy0] at hlv
    have HS4 := Lib.hid (HSET.out _ _ _ h4 3 y 0)
    have HF4 := Lib.hid (And.intro s4 f4)
    have HCO := Lib.hid hlv
    clear ht3 h3 g3 nf3 s3 f3 ht4 h4 g4 s4 f4 HFIN hlv
    go_wp2_with fail
    refine HS4.out.mono ?_
    rintro en w5 ⟨rfl, F5, h5, s5, f5⟩
    obtain ⟨⟨hg1, hg2, hg3⟩, hl1, hfs, hrl, hr3⟩ := HGI.out
    have hqn : q.length + 1 = (k' :: q).length := rfl
    have hls := hfs.length_le
    have HFO := Lib.hid (lforgets ⟨_, h5, HCO.out⟩ hg1 (by omega) hcc (by omega))
    have HF5 := Lib.hid (And.intro (HF4.out.1.fr HF4.out.2 s5) (HF4.out.2.via HF4.out.1 f5))
    have HPI := Lib.hid (And.intro (hg1.sub hfs) (show (forgetS u.c (toGhost r.S k')).length + q.length ≤ 50000 by omega))
    clear h5 s5 f5 hg1 hg2 hg3 hl1 hfs hrl hr3 hqn hls
    go_wp2_with fail
    refine HFO.out.mono ?_
    rintro en w6 ⟨rfl, F6, h6, s6, f6⟩
    have HPR := Lib.hid (lprunes h6 HPI.out.1 HPI.out.2)
    have HF6 := Lib.hid (And.intro (HF5.out.1.fr HF5.out.2 s6) (HF5.out.2.via HF5.out.1 f6))
    clear h6 s6 f6
    go_wp2_with fail
    refine HPR.out.mono ?_
    rintro en w7 ⟨rfl, hg7⟩
    have HG := Lib.hid (LKGo.trans HF6.out.1 HF6.out.2 hg7)
    clear hg7
    go_wp2
    go_ret2
    rw [HEV.out]
    refine ⟨rfl, ?_⟩
    rw [← HUC.out]
    exact HG.out
  ·have bm : ((m : Int) == 0) = false := by rw [beq_eq_false_iff_ne]; omega
   have hrr : r = s := by
    rw [← HM.out.2.1]
    unfold Lirs.ready
    rw [if_neg (fun h => by have := HM.out.1; rw [h] at this; simp at this; omega)]
   have HB : Hid (LK u w1 F r.S r.Q) := by
    show LK u w1 F r.S r.Q
    rw [hrr]; exact HH.out.1.fr0 HF1.out
   have HFB := Lib.hid (And.intro (Sub.refl F w) HF1.out.nil : Sub F F w ∧ Fr F w w1)
   obtain ⟨wB, hwB⟩ : ∃ wB, wB = w1 := ⟨_, rfl⟩
   obtain ⟨FB, hFBe⟩ : ∃ FB, FB = F := ⟨_, rfl⟩
   rw [← hwB, ← hFBe] at HB
   have HFB : Hid (Sub FB F w ∧ Fr F w wB) := by
    show Sub FB F w ∧ Fr F w wB
    rw [hwB, hFBe]; exact HFB.out
   rw [← hwB]
   clear hrr k3 k4 hwB hFBe hm0
   obtain ⟨t, Ht, hco⟩ := HB.out
   obtain ⟨hri, hrq, hr3, hrl⟩ := HRI.out
   rw [hrq] at hco hri hrl
   obtain ⟨_, _, _, k3, k4, _, _⟩ := Ht.cells
   obtain ⟨b, L', hbL⟩ : ∃ b L', t.LQ = b :: L' := by
    cases h : t.LQ with
    | nil => have := hco.lq; rw [h] at this; cases this
    | cons b l => exact ⟨b, l, rfl⟩
   have hbk : b.2 = k := by
    have := hco.lq
    rw [hbL] at this
    simp at this
    exact this.1
   obtain ⟨h, k'⟩ := b
   simp only at hbk
   subst hbk
   have hz : k'.size ≤ maxLen := hri.qz k' (by simp)
   have hget := hco.get hri k'
   obtain ⟨x, hx⟩ : ∃ x, kindS r.S (k' :: q) k' = x := ⟨_, rfl⟩
   obtain ⟨y, hy⟩ : ∃ y, hOf t.LS k' = y := ⟨_, rfl⟩
   obtain ⟨z, hzz⟩ : ∃ y, hOf t.LQ k' = y := ⟨_, rfl⟩
   rw [hx, hy, hzz] at hget
   have hnd := hco.nds hri
   have hgi := ghost_inv hri
   have hlv := hco.leave hri (fun e he => (Ht.pos e he).1)
   rw [hy] at hlv
   have hel : u.e < wB.heap.size := Ht.lt _ Ht.ein
   have hl1 : (toGhost r.S k').length = r.S.length := by unfold toGhost; simp
   have hfs : (forgetS u.c (toGhost r.S k')).Sublist (toGhost r.S k') := by
    unfold forgetS
    split
    ·exact cutS_sub _ _
    ·exact List.Sublist.refl _
   have hqn : q.length + 1 = (k' :: q).length := rfl
   have HFRO := Lib.hid fun (W : World) (f : Fr [] wB W) => (Ht.fr0 f).frontQ hbL
   have HAT := Lib.hid fun (W : World) (f : Fr [] wB W) => (Ht.fr0 f).atQ (a := (h, k')) (by rw [hbL]; simp)
   have HGET := Lib.hid fun (W : World) (f : Fr [] wB W) => (Ht.fr0 f).get k' hz hget
   have HSET := Lib.hid fun (W : World) (F' : List Nat) (LQ' : HL) (h : LRw u W F' { t with LQ := LQ' }) (x y z : Nat) => lset h (by have := hco.small (k := 50000) (by omega); unfold Sm at *; simp only at *; omega) (hco.cover hri) (by simp at hrl ⊢; omega) k' hz x y z
   have HTT := Lib.hid (And.intro Ht (And.intro hnd.2 (And.intro hzz hlv)))
   have HGI := Lib.hid (And.intro hgi (And.intro hl1 (And.intro hfs (And.intro hrl hr3))))
   clear Ht hco hri hrq hr3 hrl hbL hget hx hy hzz hnd hgi hlv hl1 hfs hqn
   go_wp2_with fail
   go_quiet (first | (go_at_call 137; exact Calls.quiet_of_same ((HFRO.out _ ((Fr.refl [] _).drewN _)).mono fun _ _ h => ⟨h.1, h.2.symm⟩)) | (go_at_call 136; exact Calls.quiet_of_same ((HAT.out _ ((Fr.refl [] _).drewN _)).mono fun _ _ h => ⟨h.1, h.2.symm⟩)))
   go_wp2_with fail
   refine (HGET.out _ ((Fr.refl [] _).drewN _)).mono ?_
   rintro en wG ⟨⟨bb, rfl⟩, fG⟩
   have fa : Fr [] wB (wG.alloc (.cells #[.int .i64 x, .int .i64 y, .int .i64 z] 201)) := (((Fr.refl [] _).drewN _).same fG).alloc _
   have hb0 : EB (wG.alloc (.cells #[.int .i64 x, .int .i64 y, .int .i64 z] 201)) wG.heap.size (x, y, z) := block_alloc_new _ _
   have hsG : wB.heap.size ≤ wG.heap.size := fG.size
   have hnF : wG.heap.size ∉ FB := not_ge HTT.out.1.lt hsG
   have helG : u.e < wG.heap.size := by omega
   have HLV := Lib.hid (lleaves (HTT.out.1.fr0 fa) hb0 hnF HTT.out.2.1 k' HTT.out.2.2.1)
   have HA := Lib.hid (And.intro fa hsG)
   clear fG fa hb0 hnF hsG
   go_wp2_with fail
   refine HLV.out.mono ?_
   rintro en w3 ⟨rfl, ht3⟩
   obtain ⟨F3, h3, g3, nf3, s3, f3⟩ := id ht3
   obtain ⟨kb0, kb1, kb2⟩ := g3.cells
   have zb := fun i => g3.fz i
   have HLVC := Lib.hid HTT.out.2.2.2
   have HFIN : ∀ (w4 : World) (v : Nat), Hid (LTop u (wG.alloc (.cells #[.int .i64 x, .int .i64 y, .int .i64 z] 201)) FB wG.heap.size (v, y, 0) { t with LQ := cutL t.LQ k' } w4 → ∃ F4, LRw u w4 F4 { t with LQ := cutL t.LQ k' } ∧ EB w4 wG.heap.size (v, y, 0) ∧ Sub F4 F w ∧ Fr F w w4) := fun w4 v ht => by
    obtain ⟨F4, h4, g4, nf4, s4, f4⟩ := ht
    obtain ⟨a, b⟩ := fin2 HA.out.1 HA.out.2 s4 f4
    exact ⟨F4, h4, g4, HFB.out.1.fr HFB.out.2 a, HFB.out.2.via HFB.out.1 b⟩
   by_cases hy0 : y = 0
   ·have ht4 := (ht3.set (fun h => h.setI 3)).set (fun h => h.setI 0)
    obtain ⟨F4, h4, g4, s4, f4⟩ := (HFIN _ 0).out ht4
    subst hy0
    obtain ⟨kb0, kb1, kb2⟩ := g4.cells
    have hlv := HLVC.out
    first
     | rw [if_pos rfl] at hlv
     | rw [if_neg hy0] at hlv
    have HS4 := Lib.hid (HSET.out _ _ _ h4 0 0 0)
    have HF4 := Lib.hid (And.intro s4 f4)
    have HCO := Lib.hid hlv
    clear ht3 h3 g3 nf3 s3 f3 ht4 h4 g4 s4 f4 HFIN hlv
    go_wp2_with fail
    refine HS4.out.mono ?_
    rintro en w5 ⟨rfl, F5, h5, s5, f5⟩
    obtain ⟨⟨hg1, hg2, hg3⟩, hl1, hfs, hrl, hr3⟩ := HGI.out
    have hqn : q.length + 1 = (k' :: q).length := rfl
    have hls := hfs.length_le
    have HFO := Lib.hid (lforgets ⟨_, h5, HCO.out⟩ hg1 (by omega) hcc (by omega))
    have HF5 := Lib.hid (And.intro (HF4.out.1.fr HF4.out.2 s5) (HF4.out.2.via HF4.out.1 f5))
    have HPI := Lib.hid (And.intro (hg1.sub hfs) (show (forgetS u.c (toGhost r.S k')).length + q.length ≤ 50000 by omega))
    clear h5 s5 f5 hg1 hg2 hg3 hl1 hfs hrl hr3 hqn hls
    go_wp2_with fail
    refine HFO.out.mono ?_
    rintro en w6 ⟨rfl, F6, h6, s6, f6⟩
    have HPR := Lib.hid (lprunes h6 HPI.out.1 HPI.out.2)
    have HF6 := Lib.hid (And.intro (HF5.out.1.fr HF5.out.2 s6) (HF5.out.2.via HF5.out.1 f6))
    clear h6 s6 f6
    go_wp2_with fail
    refine HPR.out.mono ?_
    rintro en w7 ⟨rfl, hg7⟩
    have HG := Lib.hid (LKGo.trans HF6.out.1 HF6.out.2 hg7)
    clear hg7
    go_wp2
    go_ret2
    rw [HEV.out]
    refine ⟨rfl, ?_⟩
    rw [← HUC.out]
    exact HG.out
   ·have ht4 := ht3.set (fun h => h.setI 3)
    obtain ⟨F4, h4, g4, s4, f4⟩ := (HFIN _ 3).out ht4
    have by0 : ((y : Int) == 0) = false := by rw [beq_eq_false_iff_ne]; omega
    obtain ⟨kb0, kb1, kb2⟩ := g4.cells
    have hlv := HLVC.out
    first
     | rw [if_pos rfl] at hlv
     | rw [if_neg hy0] at hlv
    have HS4 := Lib.hid (HSET.out _ _ _ h4 3 y 0)
    have HF4 := Lib.hid (And.intro s4 f4)
    have HCO := Lib.hid hlv
    clear ht3 h3 g3 nf3 s3 f3 ht4 h4 g4 s4 f4 HFIN hlv
    go_wp2_with fail
    refine HS4.out.mono ?_
    rintro en w5 ⟨rfl, F5, h5, s5, f5⟩
    obtain ⟨⟨hg1, hg2, hg3⟩, hl1, hfs, hrl, hr3⟩ := HGI.out
    have hqn : q.length + 1 = (k' :: q).length := rfl
    have hls := hfs.length_le
    have HFO := Lib.hid (lforgets ⟨_, h5, HCO.out⟩ hg1 (by omega) hcc (by omega))
    have HF5 := Lib.hid (And.intro (HF4.out.1.fr HF4.out.2 s5) (HF4.out.2.via HF4.out.1 f5))
    have HPI := Lib.hid (And.intro (hg1.sub hfs) (show (forgetS u.c (toGhost r.S k')).length + q.length ≤ 50000 by omega))
    clear h5 s5 f5 hg1 hg2 hg3 hl1 hfs hrl hr3 hqn hls
    go_wp2_with fail
    refine HFO.out.mono ?_
    rintro en w6 ⟨rfl, F6, h6, s6, f6⟩
    have HPR := Lib.hid (lprunes h6 HPI.out.1 HPI.out.2)
    have HF6 := Lib.hid (And.intro (HF5.out.1.fr HF5.out.2 s6) (HF5.out.2.via HF5.out.1 f6))
    clear h6 s6 f6
    go_wp2_with fail
    refine HPR.out.mono ?_
    rintro en w7 ⟨rfl, hg7⟩
    have HG := Lib.hid (LKGo.trans HF6.out.1 HF6.out.2 hg7)
    clear hg7
    go_wp2
    go_ret2
    rw [HEV.out]
    refine ⟨rfl, ?_⟩
    rw [← HUC.out]
    exact HG.out
end
end Go.Proofs.YtphlancijlljcaaGreat
