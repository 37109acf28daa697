/- The walks over lirs' engine: Has, Room, Load. -/
import Derived.Test.YtphlancijlljcaaGreatGF
set_option linter.unusedVariables false
set_option linter.unusedSimpArgs false
namespace Go.Proofs.YtphlancijlljcaaGreat
open Go.RowKit
open Act renaming put → pE0
open List renaming getElem_toArray → pE1, getElem_cons_succ → pE2, getElem_cons_zero → pE3, setIfInBounds_toArray → pE4, set_cons_zero → pE5, set_cons_succ → pE6
attribute [local go_sem ↓] Go.wp_at_zero Go.wp_at_succ
section
variable {u : LC} {w w0 w1 w2 w' W : World} {F F1 G : List Nat} {t : LSt} {s : Lirs}
theorem kind_has (hc : Coh s.S s.Q t) (hi : SInv s.S s.Q) (hp : ∀ e, e ∈ t.LS → 0 < e.1) (key : ByteArray) {x : Nat} (hx : kindS s.S s.Q key = x) {b : Bool} (hb : s.has key = b) : (x = 1 ∧ b = true) ∨ (x = 2 ∧ b = true) ∨ (x = 3 ∧ b = false) ∨ (x = 0 ∧ b = false) := by
 rw [← hx, ← hb]
 unfold Lirs.has
 rcases kind_cases hc hi hp key with ⟨a, c⟩ | ⟨a, _, c, _⟩ | ⟨a, _, c, _⟩ | ⟨a, c, d⟩ | ⟨a, c, d⟩
 ·exact .inl ⟨a, by simp [c]⟩
 ·exact .inr (.inl ⟨a, by simp [c]⟩)
 ·exact .inr (.inl ⟨a, by simp [c]⟩)
 ·exact .inr (.inr (.inl ⟨a, by simp [c, d]⟩))
 ·exact .inr (.inr (.inr ⟨a, by simp [c, d]⟩))
set_option maxRecDepth 100000 in
theorem lhas (H : LK u w F s.S s.Q) (hi : SInv s.S s.Q) (key : ByteArray) (hz : key.size ≤ maxLen) {b : Bool} (hb : s.has key = b) :
  Calls Tryz.prog 341 #[ptr u.e, .string key] w fun en w' => en = .returned (.bool b) ∧ Fr [] w w' := by
 obtain ⟨t, Ht, hc⟩ := H
 obtain ⟨x, hx⟩ : ∃ x, kindS s.S s.Q key = x := ⟨_, rfl⟩
 obtain ⟨y, hy⟩ : ∃ x, hOf t.LS key = x := ⟨_, rfl⟩
 obtain ⟨z, hzz⟩ : ∃ x, hOf t.LQ key = x := ⟨_, rfl⟩
 have hcs := kind_has hc hi (fun e he => (Ht.pos e he).1) key hx hb
 obtain ⟨_, _, _, _, k4, _, _⟩ := Ht.cells
 have hget := hc.get hi key
 rw [hx, hy, hzz] at hget
 have HGET := Lib.hid (Ht.get key hz hget)
 clear Ht hc hx hy hzz hget hb hi
 rcases hcs with ⟨rfl, rfl⟩ | ⟨rfl, rfl⟩ | ⟨rfl, rfl⟩ | ⟨rfl, rfl⟩
 all_goals
  go_enter Tryz.func341, Tryz.ntmps341
  go_wp2_with fail
  refine HGET.out.mono ?_
  rintro en w1 ⟨⟨bb, rfl⟩, f1⟩
  have HF := Lib.hid f1
  clear f1 HGET
  go_wp2
  go_ret
  exact ⟨by simp, HF.out.alloc _⟩
theorem lroom {S : Stk} {Q : List ByteArray} (H : LK u w F S Q) : Calls Tryz.prog 346 #[ptr u.e] w fun en w' => en = .returned (.int .i64 (u.c : Nat)) ∧ w = w' := by
 obtain ⟨t, Ht, hc⟩ := H
 obtain ⟨k0, _⟩ := Ht.cells
 clear Ht hc
 go_enter Tryz.func346, Tryz.ntmps346
 go_wp2
 go_ret
 exact ⟨rfl, rfl⟩
def LLo (s : Lirs) (key : ByteArray) : Lirs := if cntS s.S 1 < s.most then s.heats key else s.chills key
set_option maxHeartbeats 1000000 in
set_option maxRecDepth 100000 in
theorem lloadGo (Ht : LRw u w F t) (hc : Coh s.S s.Q t) (hi : s.Inv) (hmo : u.most = s.most) (key : ByteArray) (hz : key.size ≤ maxLen) {n c : Nat} (huc : u.c = c) (hb : ((n : Int) == (c : Int)) = false)
  (HH : Hid (∀ W, Fr [] w W → Calls Tryz.prog 341 #[ptr u.e, .string key] W fun en w' => en = .returned (.bool false) ∧ Fr [] W w')) (HL : Hid (∀ W, Fr [] w W → Calls Tryz.prog 343 #[ptr u.e] W fun en w' => en = .returned (.int .i64 (n : Nat)) ∧ Fr [] W w')) :
  Calls Tryz.prog 344 #[ptr u.e, .string key] w fun en w' => en = .returned (.bool true) ∧ LKGo u w F (pruneS (LLo s key).S) (LLo s key).Q w' := by
 obtain ⟨kc, k1, _, _, k4, k5, _⟩ := Ht.cells
 rw [huc] at kc
 rw [hc.h] at k5
 obtain ⟨x, hx⟩ : ∃ x, kindS s.S s.Q key = x := ⟨_, rfl⟩
 obtain ⟨y, hy⟩ : ∃ x, hOf t.LS key = x := ⟨_, rfl⟩
 obtain ⟨z, hzz⟩ : ∃ x, hOf t.LQ key = x := ⟨_, rfl⟩
 obtain ⟨hh, hhe⟩ : ∃ x, cntS s.S 1 = x := ⟨_, rfl⟩
 obtain ⟨mm, hme⟩ : ∃ x, s.most = x := ⟨_, rfl⟩
 rw [hhe] at k5
 rw [hmo, hme] at k1
 have hslen := hi.si.len
 have hres := hi.res
 have hgh := hi.gh
 have hhm := hi.hm
 have hcb := hi.c2
 have hsi := hi.si
 have hmb : s.most ≤ 1024 := by unfold Lirs.most; omega
 have hbd : s.S.length + s.Q.length ≤ 10000 := by omega
 have hget := hc.get hsi key
 rw [hx, hy, hzz] at hget
 have HGET := Lib.hid fun W (f : Fr [] w W) => (Ht.fr0 f).get key hz hget
 have CHE := Lib.hid fun (W : World) (f : Fr [] w W) => lheats (Ht.fr0 f) hc hsi (by omega) hmo hmb key hz x hy hzz
 have CCH := Lib.hid fun (W : World) (f : Fr [] w W) => lchills (Ht.fr0 f) hc hsi (by omega) key hz x hy hzz
 obtain ⟨SR, hSR⟩ : ∃ R, pruneS (LLo s key).S = R := ⟨_, rfl⟩
 obtain ⟨QR, hQR⟩ : ∃ R, (LLo s key).Q = R := ⟨_, rfl⟩
 rw [hSR, hQR]
 have hhb : hh ≤ 1024 := by omega
 have hmm : mm ≤ 1024 := by omega
 have h3 := cntS_cut_le s.S key 1
 have h2 := cutQ_le s.Q key
 have hcase : (hh < mm ∧ LLo s key = s.heats key) ∨ (mm ≤ hh ∧ LLo s key = s.chills key) := by
  unfold LLo
  rw [hhe, hme]
  by_cases h : hh < mm
  ·exact .inl ⟨h, by rw [if_pos h]⟩
  ·exact .inr ⟨by omega, by rw [if_neg h]⟩
 have HSI : Hid ((SInv (s.heats key).S (s.heats key).Q ∧ (s.heats key).S.length + (s.heats key).Q.length ≤ 50000) ∧ (SInv (s.chills key).S (s.chills key).Q ∧ (s.chills key).S.length + (s.chills key).Q.length ≤ 50000)) := by
  obtain ⟨a1, a2⟩ := heats_inv hsi hz hhm
  obtain ⟨b1, b2⟩ := chills_inv hsi hz (key := key)
  have a3 := a1.len
  have b3 := b1.len
  have h33 := cntS_cut_le s.S key 3
  exact ⟨⟨a1, by omega⟩, ⟨b1, by omega⟩⟩
 have HSS := HSI
 have HCR := Lib.hid (And.intro hSR hQR)
 clear Ht hc hi hmo huc hx hy hzz hhe hme hslen hres hgh hhm hcb hsi hmb hbd hget hSR hQR h2 h3 HSI
 go_enter Tryz.func344, Tryz.ntmps344
 go_wp2_with fail
 refine wp_region_inv (fun j v _ => match j with | 0 | 3 | 8 | 10 | 11 => v = ptr u.e | 1 | 2 | 5 | 6 | 7 => v = .bool false | 4 => v = .string key | 9 => v = .int .i64 (n : Nat) | 12 => v = .pointer (some ⟨u.e, 0, none⟩) | 13 => v = .int .i64 (c : Nat) | 14 | 15 => v = .bool false | _ => True) (fun _ w' => w'.cell? ⟨u.e, 0, none⟩ = some (.int .i64 (c : Nat)) ∧ Hid (Fr [] w w')) (fun _ _ => True) (by kernel_rfl) (by kernel_rfl) (by kernel_rfl) (fun _ _ _ _ h _ => h) ⟨kc, (Fr.refl [] _).drew⟩ ?hops ?hfin
 case hops =>
  repeat' (first | exact OpsOk.nil | refine OpsOk.cons ?_ ?_)
  all_goals try exact rgT
  ·skip
   intro D X w' K hD hcl hS hI hK
   simp only [afterI, Region.binds, forall_const] at hI
   simp only [putL, pE0, pE1, pE4, pE5, pE6, Nat.reduceAdd, up, Nat.reduceEqDiff, if_true, if_false, reduceIte] at hK ⊢
   try simp only [hI] at hK
   go_simp
   refine (HH.out _ hS.2.out).mono ?_
   rintro en w3 ⟨rfl, f3⟩
   exact hK.out _ _ rfl ⟨cell_fr f3 hS.1 (by simp), hS.2.out.same f3⟩ trivial
  ·skip
   intro D X w' K hD hcl hS hI hK
   simp only [afterI, Region.binds, forall_const] at hI
   simp only [putL, pE0, pE1, pE4, pE5, pE6, Nat.reduceAdd, up, Nat.reduceEqDiff, if_true, if_false, reduceIte] at hK ⊢
   try simp only [hI] at hK
   go_simp
   refine (HL.out _ hS.2.out).mono ?_
   rintro en w3 ⟨rfl, f3⟩
   exact hK.out _ _ rfl ⟨cell_fr f3 hS.1 (by simp), hS.2.out.same f3⟩ trivial
 case hfin =>
  intro D X wa hS hD hI
  simp only [putL, pE0, pE1, pE4, pE5, pE6, Nat.reduceAdd]
  have h15 : X 15 = .bool false := hI 15 (by decide)
  rw [h15]
  have HFW := hS.2
  clear h15 hS hD hI kc hb HL HH
  have k1 := cell_fr HFW.out k1 (by simp)
  have k4 := cell_fr HFW.out k4 (by simp)
  have k5 := cell_fr HFW.out k5 (by simp)
  go_wp2_with fail
  refine (HGET.out _ HFW.out).mono ?_
  rintro en w1 ⟨⟨bb, rfl⟩, f1⟩
  have k1 := cell_fr f1 k1 (by simp)
  have k5 := cell_fr f1 k5 (by simp)
  have k1l := World.block_lt_of_cell? _ _ k1
  simp at k1l
  have F1 := Lib.hid (HFW.out.same f1)
  clear f1 k4
  rcases hcase with ⟨q, hr⟩ | ⟨q, hr⟩
  ·have q1 : (hh : Int) < (mm : Int) := by omega
   have HRR := HCR
   have HSI := Lib.hid (hr ▸ HSS.out.1)
   have HR2 := Lib.hid hr
   clear hr
   go_wp2
   go_quiet (fail)
   have FD := Lib.hid ((F1.out.alloc (.cells #[.int .i64 x, .int .i64 y, .int .i64 z] 201)).drewN nq)
   go_wp2_with fail
   refine (CHE.out _ FD.out).mono ?_
   rw [← HR2.out]
   rintro en w2 ⟨rfl, F2, h2, s2, f2⟩
   have HPR := Lib.hid (lprunes h2 HSI.out.1 HSI.out.2)
   have HF2 := Lib.hid (And.intro (s2.old FD.out.size) (FD.out.nil.same f2))
   clear h2 s2 f2
   go_wp2_with fail
   refine HPR.out.mono ?_
   rintro en w3 ⟨rfl, hg⟩
   have HG := Lib.hid (LKGo.trans HF2.out.1 HF2.out.2 hg)
   clear hg
   go_wp2
   go_ret
   rw [← HRR.out.1, ← HRR.out.2]
   exact ⟨rfl, HG.out⟩
  ·have q1 : (mm : Int) ≤ (hh : Int) := by omega
   have q2 : decide (hh < mm) = false := decide_eq_false (by omega)
   have HRR := HCR
   have HSI := Lib.hid (hr ▸ HSS.out.2)
   have HR2 := Lib.hid hr
   clear hr
   go_wp2
   go_quiet (fail)
   have FD := Lib.hid ((F1.out.alloc (.cells #[.int .i64 x, .int .i64 y, .int .i64 z] 201)).drewN nq)
   go_wp2_with fail
   refine (CCH.out _ FD.out).mono ?_
   rw [← HR2.out]
   rintro en w2 ⟨rfl, F2, h2, s2, f2⟩
   have HPR := Lib.hid (lprunes h2 HSI.out.1 HSI.out.2)
   have HF2 := Lib.hid (And.intro (s2.old FD.out.size) (FD.out.nil.same f2))
   clear h2 s2 f2
   go_wp2_with fail
   refine HPR.out.mono ?_
   rintro en w3 ⟨rfl, hg⟩
   have HG := Lib.hid (LKGo.trans HF2.out.1 HF2.out.2 hg)
   clear hg
   go_wp2
   go_ret
   rw [← HRR.out.1, ← HRR.out.2]
   exact ⟨rfl, HG.out⟩
end
end Go.Proofs.YtphlancijlljcaaGreat

set_option linter.unusedVariables false
set_option linter.unusedSimpArgs false
namespace Go.Proofs.YtphlancijlljcaaGreat
open Go.RowKit
open Act renaming put → pE0
open List renaming getElem_toArray → pE1, getElem_cons_succ → pE2, getElem_cons_zero → pE3, setIfInBounds_toArray → pE4, set_cons_zero → pE5, set_cons_succ → pE6
attribute [local go_sem ↓] Go.wp_at_zero Go.wp_at_succ
section
variable {u : LC} {w w0 w1 w2 w' W : World} {F F1 G : List Nat} {t : LSt} {s : Lirs}
set_option maxHeartbeats 1000000 in
set_option maxRecDepth 100000 in
theorem lremYes (Ht : LRw u w F t) (hc : Coh s.S s.Q t) (hi : s.Inv) (key : ByteArray) (hz : key.size ≤ maxLen) (HH : Hid (∀ W, Fr [] w W → Calls Tryz.prog 341 #[ptr u.e, .string key] W fun en w' => en = .returned (.bool true) ∧ Fr [] W w')) :
  Calls Tryz.prog 345 #[ptr u.e, .string key] w fun en w' => en = .returned (.bool true) ∧ LKGo u w F (pruneS (cutS s.S key)) (cutQ s.Q key) w' := by
 obtain ⟨x, hx⟩ : ∃ x, kindS s.S s.Q key = x := ⟨_, rfl⟩
 obtain ⟨y, hy⟩ : ∃ x, hOf t.LS key = x := ⟨_, rfl⟩
 obtain ⟨z, hzz⟩ : ∃ x, hOf t.LQ key = x := ⟨_, rfl⟩
 have hslen := hi.si.len
 have hres := hi.res
 have hgh := hi.gh
 have hcb := hi.c2
 have hsi := hi.si
 have hbd : s.S.length + s.Q.length ≤ 10000 := by omega
 have hget := hc.get hsi key
 rw [hx, hy, hzz] at hget
 have hndS : (t.LS.map (·.2)).Nodup := by rw [hc.ls]; exact hsi.nd
 have hndQ : (t.LQ.map (·.2)).Nodup := by rw [hc.lq]; exact hsi.qd
 have hgone := hc.gone hsi key
 have hcut := hsi.cut key
 have hcl : (cutS s.S key).length + (cutQ s.Q key).length ≤ 50000 := by
  have a := List.length_filter_le (fun e : ByteArray × Nat => decide (e.1 ≠ key)) s.S
  have b := cutQ_le s.Q key
  unfold cutS; omega
 have HSET := Lib.hid fun (W : World) (F' : List Nat) (LS' LQ' : HL) (h : LRw u W F' { t with LS := LS', LQ := LQ' }) => lset h (by have := hc.small (k := 50000) (by omega); unfold Sm at *; simp only at *; omega) (hc.cover hsi) (by simp; omega) key hz 0 0 0
 have HT := Lib.hid Ht
 have HY := Lib.hid (And.intro hget (And.intro hy (And.intro hzz (And.intro hndS hndQ))))
 have HG := Lib.hid (And.intro hgone (And.intro hcut hcl))
 have HLT := Lib.hid Ht.lt
 clear Ht hc hi hx hy hzz hslen hres hgh hcb hsi hbd hget hndS hndQ hgone hcut hcl
 go_enter Tryz.func345, Tryz.ntmps345
 go_wp2_with fail
 refine (HH.out _ (Fr.refl _ _)).mono ?_
 rintro en w1 ⟨rfl, f1⟩
 have F1 := Lib.hid f1
 obtain ⟨_, _, _, _, k4, _, _⟩ := (HT.out.fr0 f1).cells
 clear f1
 go_wp2_with fail
 refine ((HT.out.fr0 F1.out).get key hz HY.out.1).mono ?_
 rintro en w2 ⟨⟨bb, rfl⟩, f2⟩
 have F2 := Lib.hid ((F1.out.same f2).alloc (.cells #[.int .i64 x, .int .i64 y, .int .i64 z] 201))
 have HBE : Hid (EB (w2.alloc (.cells #[.int .i64 x, .int .i64 y, .int .i64 z] 201)) w2.heap.size (x, y, z)) := block_alloc_new _ _
 have hbs : w2.heap.size < (w2.alloc (.cells #[.int .i64 x, .int .i64 y, .int .i64 z] 201)).heap.size := by simp
 have hw2 := (F1.out.same f2).size
 have HNF : Hid (w2.heap.size ∉ F) := fun h => by have := HLT.out _ h; omega
 clear f2 k4
 go_wp2_with fail
 generalize w2.alloc (.cells #[.int .i64 x, .int .i64 y, .int .i64 z] 201) = wb at *
 obtain ⟨_, _, k2, _, _, _, _⟩ := (HT.out.fr0 F2.out).cells
 obtain ⟨_, kb1, _⟩ := HBE.out.cells
 refine wp_region_inv (fun j v _ => match j with | 0 | 1 => v = ptr u.e | 2 => v = .pointer (some ⟨u.e, 2, none⟩) | 3 => v = ptr u.sp | 4 => v = .pointer (some ⟨w2.heap.size, 1, none⟩) | 5 => v = .int .i64 (y : Nat) | _ => True) (fun D wz => (wz.cell? ⟨u.e, 2, none⟩ = some (ptr u.sp) ∧ wz.cell? ⟨w2.heap.size, 1, none⟩ = some (.int .i64 (y : Nat))) ∧ Hid (if D 6 = true then LTop u wb F w2.heap.size (x, y, z) { t with LS := cutL t.LS key } wz else Fr [] wb wz)) (fun _ _ => True) (by kernel_rfl) (by kernel_rfl) (by kernel_rfl) (fun _ _ _ _ h _ => h) ⟨⟨k2, kb1⟩, (Fr.refl [] _).drew⟩ ?hops ?hfin
 case hops =>
  repeat' (first | exact OpsOk.nil | refine OpsOk.cons ?_ ?_)
  all_goals try exact rgT
  intro D X w' K hD hcl hS hI hK
  simp only [afterI, Region.binds, forall_const] at hI
  simp only [putL, pE0, pE1, pE4, pE5, pE6, Nat.reduceAdd, up, Nat.reduceEqDiff, if_true, if_false, reduceIte] at hK ⊢
  try simp only [hI] at hK
  have hq := hS.2.out
  rw [hD] at hq
  have HQ := Lib.hid hq
  clear hq
  go_simp
  refine ((HT.out.fr0 (F2.out.same HQ.out)).rmS HY.out.2.2.2.1 key HY.out.2.1).mono ?_
  rintro en w3 ⟨⟨v, b, rfl⟩, hg⟩
  have hl := LTop.ofGo hg (HQ.out.get HBE.out (by simp)) HNF.out
  obtain ⟨F3, h3, g3, nf3, s3, f3⟩ := id hl
  obtain ⟨_, _, c2, _, _, _, _⟩ := h3.cells
  obtain ⟨_, cb1, _⟩ := g3.cells
  exact hK.out _ _ trivial ⟨⟨c2, cb1⟩, F3, h3, g3, nf3, s3.old HQ.out.size, HQ.out.nil.same f3⟩ trivial
 case hfin =>
  intro D X wc hS hD hI
  simp only [putL, pE0, pE1, pE4, pE5, pE6, Nat.reduceAdd]
  have ht : LTop u wb F w2.heap.size (x, y, z) { t with LS := cutL t.LS key } wc := by have := hS.2.out; rw [hD 6 (by decide)] at this; exact this
  clear hS hD hI k2 kb1
  obtain ⟨F3, h3, g3, nf3, s3, f3⟩ := ht
  have HLV := Lib.hid (lleaves h3 g3 nf3 HY.out.2.2.2.2 key HY.out.2.2.1)
  have HF3 := Lib.hid (And.intro s3 f3)
  clear h3 g3 nf3 s3 f3
  go_wp2_with fail
  refine HLV.out.mono ?_
  rintro en w4 ⟨rfl, ht4⟩
  have ht4 := LTop.via HF3.out.1 HF3.out.2 ht4
  obtain ⟨F4, h4, g4, nf4, s4, f4⟩ := ht4
  have HS := Lib.hid (HSET.out w4 F4 (cutL t.LS key) (cutL t.LQ key) h4)
  have HF4 := Lib.hid (And.intro s4 f4)
  clear h4 g4 nf4 s4 f4
  go_wp2_with fail
  refine HS.out.mono ?_
  rintro en w5 ⟨rfl, F5, h5, s5, f5⟩
  obtain ⟨fa, fb⟩ := fin2 F2.out hw2 HF4.out.1 HF4.out.2
  obtain ⟨F6, hk6, s6, f6⟩ := (LGo.trans fa fb ⟨F5, h5, s5, f5⟩).coh HG.out.1
  have HPR := Lib.hid (lprunes hk6 HG.out.2.1 HG.out.2.2)
  have HF6 := Lib.hid (And.intro s6 f6)
  clear fa fb h5 s5 f5 hk6 s6 f6
  go_wp2_with fail
  refine HPR.out.mono ?_
  rintro en w6 ⟨rfl, hg⟩
  have HFN := Lib.hid (LKGo.trans HF6.out.1 HF6.out.2 hg)
  clear hg
  go_wp2
  go_ret
  exact ⟨rfl, HFN.out⟩
end
set_option maxRecDepth 100000 in
theorem lremNo {w : World} {e : Nat} {F : List Nat} {s : Lirs} (HE : Hid (EL w e F s)) (key : ByteArray) (HH : Hid (∀ W, Fr [] w W → Calls Tryz.prog 341 #[ptr e, .string key] W fun en w' => en = .returned (.bool false) ∧ Fr [] W w')) :
  Calls Tryz.prog 345 #[ptr e, .string key] w (StepRet EL w e F (.bool false) s) := by
 go_enter Tryz.func345, Tryz.ntmps345
 go_wp2_with fail
 refine (HH.out _ (Fr.refl _ _)).mono ?_
 rintro en w1 ⟨rfl, f1⟩
 have HF := Lib.hid f1
 clear f1
 go_wp2
 go_ret
 exact ⟨rfl, F, HE.out.fr HF.out (fun b _ => by simp), Sub.refl _ _, HF.out.nil⟩
section
variable {w : World} {e : Nat} {F : List Nat} {s : Lirs}
theorem lload (H : EL w e F s) (key : ByteArray) (hz : key.size ≤ maxLen) : Calls Tryz.prog 344 #[ptr e, .string key] w (StepRet EL w e F (.bool (s.load key).1) (s.load key).2) := by
 have HE := Lib.hid H
 have hinv := H.1.load hz
 obtain ⟨hi, u, rfl, hc, hm, h⟩ := H
 have hb : s.S.length + s.Q.length ≤ 50000 := by have a := hi.si.len; have b := hi.res; have c := hi.gh; have d := hi.c2; omega
 have HL : Hid (∀ W, Fr [] w W → Calls Tryz.prog 343 #[ptr u.e] W fun en w' => en = .returned (.int .i64 (s.len : Nat)) ∧ Fr [] W w') := fun W f => llen (h.fr f (fun b _ => by simp)) hb rfl
 have HH : ∀ b, s.has key = b → Hid (∀ W, Fr [] w W → Calls Tryz.prog 341 #[ptr u.e, .string key] W fun en w' => en = .returned (.bool b) ∧ Fr [] W w') := fun b hb W f => lhas (h.fr f (fun b _ => by simp)) hi.si key hz hb
 obtain ⟨t, Ht, hco⟩ := h
 obtain ⟨kc, _⟩ := Ht.cells
 rw [hc] at kc
 have hlc : ∀ k : ByteArray, (LLo s key).prunes.c = s.c := fun _ => by
  show (LLo s key).c = s.c
  unfold LLo
  split
  ·exact (heats_inv hi.si hz hi.hm).2.2.1
  ·rfl
 refine load_ways (L := Lirs.load) (has := s.has key) (len := s.len) (c := s.c) (s2 := (LLo s key).prunes) rfl (fun h1 => loadHitL HE key (HH true h1)) (fun h1 h2 => loadFullL HE key kc (beq_iff_eq.2 (congrArg Nat.cast h2)) (HH false h1) HL) (fun h1 h2 => ?_)
 have e1 : (s.load key).2 = (LLo s key).prunes := by unfold Lirs.load; rw [if_neg (by rw [h1]; rintro (h | h); cases h; exact h2 h)]; rfl
 rw [e1] at hinv
 refine (lloadGo Ht hco hi hm key hz hc (by rw [beq_eq_false_iff_ne]; intro hh; exact h2 (by exact_mod_cast hh)) (HH false h1) HL).mono ?_
 rintro en w' ⟨rfl, F2, h2, hs, hf⟩
 exact ⟨rfl, F2, ⟨hinv, u, rfl, by rw [hlc key]; exact hc, by rw [hm]; unfold Lirs.most; rw [hlc key], h2⟩, hs, hf⟩
theorem lremove (H : EL w e F s) (key : ByteArray) (hz : key.size ≤ maxLen) : Calls Tryz.prog 345 #[ptr e, .string key] w (StepRet EL w e F (.bool (s.remove key).1) (s.remove key).2) := by
 have HE := Lib.hid H
 have hinv := H.1.remove key
 obtain ⟨hi, u, rfl, hc, hm, h⟩ := H
 have HH : ∀ b, s.has key = b → Hid (∀ W, Fr [] w W → Calls Tryz.prog 341 #[ptr u.e, .string key] W fun en w' => en = .returned (.bool b) ∧ Fr [] W w') := fun b hb W f => lhas (h.fr f (fun b _ => by simp)) hi.si key hz hb
 obtain ⟨t, Ht, hco⟩ := h
 unfold Lirs.remove at hinv ⊢
 cases hb : s.has key with
 | false => exact lremNo HE key (HH false hb)
 | true =>
  rw [hb] at hinv
  refine (lremYes Ht hco hi key hz (HH true hb)).mono ?_
  rintro en w' ⟨rfl, F2, h2, hs, hf⟩
  exact ⟨rfl, F2, ⟨hinv, u, rfl, hc, hm, h2⟩, hs, hf⟩
end
end Go.Proofs.YtphlancijlljcaaGreat

set_option linter.unusedVariables false
set_option linter.unusedSimpArgs false
namespace Go.Proofs.YtphlancijlljcaaGreat
open Go.RowKit
/-- A slice of strings that its holder owns. -/
abbrev SS (w : World) (v : Value) (l : List ByteArray) : Prop := Sl w 9 1 v l.length (l.map Value.string)
theorem oneS {l : List ByteArray} : ∀ u ∈ l.map Value.string, u.oneCell' = true := by
 intro u hu
 obtain ⟨_, _, rfl⟩ := List.mem_map.1 hu
 rfl
theorem SS.src {w : World} {v : Value} {l : List ByteArray} (h : SS w v l) : Src Tryz.prog 1 22 v l.length (l.map Value.string) w := Sl.src Tryz.underlying22 h oneS
theorem SS.one (w : World) (k : ByteArray) : SS (w.alloc (.cells #[.string k] 9)) (.slice (some ⟨w.heap.size, 0, none⟩) 1 1) [k] := Sl.built (size := 1) (e := 9) w #[.string k] 1 rfl (by decide)
/-- What append leaves. -/
def AppS (w : World) (v : Value) (l : List ByteArray) (v' : Value) (w' : World) : Prop := SS w' v' l ∧ Fr v.ownBlock.toList w w' ∧ (v'.ownBlock = v.ownBlock ∨ v'.ownBlock = some w.heap.size)
section
variable {w : World} {ops : Array Oper} {rest : List Oper} {o : Oper} {a : Act} {Q : Exit → Act → World → Prop}
theorem app_list (hgd : o.guard = none) (s x : Operand) (ho : o.op = .call { callee := .builtin .append, args := #[s, x], argTypes := #[22, 22] }) (v vx : Value) (l l2 : List ByteArray) (hvs : a.eval s = v) (hvx : a.eval x = vx) (hv : SS w v l) (hx : Src Tryz.prog 1 22 vx l2.length (l2.map Value.string) w) (hb : l.length + l2.length ≤ 1000000)
  (h : ∀ b n c w', n = l.length + l2.length → AppS w v (l ++ l2) (.slice b n c) w' → wpList Tryz.prog ops Q rest (a.put o.dst (.slice b n c)) w') : wpList Tryz.prog ops Q (o :: rest) a w := by
 obtain ⟨i0, hii, hz0, hz1, hz2⟩ := info_parts2 infoStr
 refine wpList_app hgd s x _ _ ho Tryz.underlying22 hii hz0 hz1 hz2 rfl v vx l.length l2.length _ _ hvs hvx hv oneS hx (by unfold maxLen; omega) (by omega) _ rfl fun b c w' h1 h2 h3 => h b _ c w' rfl ⟨?_, h2, h3⟩
 rw [← List.map_append] at h1
 show Sl _ _ _ _ _ _
 rw [List.length_append]
 exact h1
theorem app_step {K : Act → World → Prop} {E : Prop} (hgd : o.guard = none) (s x : Operand) (ho : o.op = .call { callee := .builtin .append, args := #[s, x], argTypes := #[22, 22] }) (v vx : Value) (l l2 : List ByteArray) (hvs : a.eval s = v) (hvx : a.eval x = vx) (hv : SS w v l) (hx : Src Tryz.prog 1 22 vx l2.length (l2.map Value.string) w) (hb : l.length + l2.length ≤ 1000000)
  (h : ∀ b n c w', n = l.length + l2.length → AppS w v (l ++ l2) (.slice b n c) w' → K (a.put o.dst (.slice b n c)) w') : if Region.wanted o (yielded ops a.tmps) = true then Oper.wp Tryz.prog o a w K Q else E := by
 obtain ⟨i0, hii, hz0, hz1, hz2⟩ := info_parts2 infoStr
 refine step_app hgd s x _ _ ho Tryz.underlying22 hii hz0 hz1 hz2 rfl v vx l.length l2.length _ _ hvs hvx hv oneS hx (by unfold maxLen; omega) (by omega) _ rfl fun b c w' h1 h2 h3 => h b _ c w' rfl ⟨?_, h2, h3⟩
 rw [← List.map_append] at h1
 show Sl _ _ _ _ _ _
 rw [List.length_append]
 exact h1
end
/-- Onto a slice that is new since W. -/
theorem AppS.new {W w w' : World} {v v' : Value} {l : List ByteArray} (h : AppS w v l v' w') (f : Fr [] W w) (g : Ge W.heap.size v.ownBlock.toList) : Gone W w' v' l ∧ Fr [] W w' := by
 obtain ⟨h1, h2, h3⟩ := h
 refine ⟨⟨h1, fun q hq => ?_⟩, f.fresh h2 g⟩
 rcases h3 with e | e
 ·rw [e] at hq; exact g q hq
 ·rw [e] at hq; simp at hq; have := f.size; omega
end Go.Proofs.YtphlancijlljcaaGreat

set_option linter.unusedVariables false
set_option linter.unusedSimpArgs false
namespace Go.Proofs.YtphlancijlljcaaGreat
open Go.RowKit
attribute [local go_sem ↓] Go.wp_at_zero Go.wp_at_succ
/-- The keys of S of a sort, from the bottom on. -/
def thoseS (S : Stk) (is : Nat) : List ByteArray := (S.filter fun e => decide (e.2 = is)).map (·.1)
theorem thoseS_snoc (S : Stk) (is j : Nat) (hj : j < S.length) : thoseS (S.take (j + 1)) is = thoseS (S.take j) is ++ (if S[j].2 = is then [S[j].1] else []) := by
 have e : (S[j]?).toList = [S[j]] := by rw [List.getElem?_eq_getElem hj]; rfl
 unfold thoseS
 rw [List.take_add_one, e, List.filter_append, List.map_append]
 congr 1
 by_cases h : S[j].2 = is
 ·rw [if_pos h, List.filter_cons_of_pos (by simpa using h)]; rfl
 ·rw [if_neg h, List.filter_cons_of_neg (by simpa using h)]; rfl
theorem thoseS_len (S : Stk) (is : Nat) : (thoseS S is).length ≤ S.length := by
 unfold thoseS
 rw [List.length_map]
 exact List.length_filter_le _ _
theorem kind_at {S : Stk} {Q : List ByteArray} (hi : SInv S Q) (j : Nat) (hj : j < S.length) : kindS S Q S[j].1 = S[j].2 := by
 have hm : S[j].1 ∈ S.map (·.1) := List.mem_map_of_mem (List.getElem_mem hj)
 unfold kindS
 rw [if_neg (fun e => (stS_zero hi).1 e hm)]
 exact stS_mem hi.nd (List.getElem_mem hj)
section
variable {u : LC} {w w0 w1 w2 w' W : World} {F F1 G : List Nat} {t : LSt} {S : Stk} {Q : List ByteArray}
theorem LRw.allS (h : LRw u w F t) {l : List ByteArray} (hl : t.LS.map (·.2) = l) : Calls Tryz.prog 155 #[.pointer (some ⟨u.sp, 0, none⟩)] w (KeysRet w l) := by
 obtain ⟨Fs, Fq, Fx, n, rfl, h1, h2, h3, h4, h5, h6⟩ := h
 refine (all_l h4).mono ?_
 rintro en w' ⟨v, rfl, ho, hf⟩
 refine ⟨v, rfl, ⟨?_, Own.base_le ho⟩, hf⟩
 have := Sl.ofOwn ho
 rw [← hl, List.length_map, List.map_map]
 exact this
theorem LRw.allQ (h : LRw u w F t) {l : List ByteArray} (hl : t.LQ.map (·.2) = l) : Calls Tryz.prog 155 #[.pointer (some ⟨u.qp, 0, none⟩)] w (KeysRet w l) := by
 obtain ⟨Fs, Fq, Fx, n, rfl, h1, h2, h3, h4, h5, h6⟩ := h
 refine (all_l h5).mono ?_
 rintro en w' ⟨v, rfl, ho, hf⟩
 refine ⟨v, rfl, ⟨?_, Own.base_le ho⟩, hf⟩
 have := Sl.ofOwn ho
 rw [← hl, List.length_map, List.map_map]
 exact this
set_option maxHeartbeats 1000000 in
set_option maxRecDepth 100000 in
theorem lthose (Ht : LRw u w F t) (hc : Coh S Q t) (hi : SInv S Q) (hb : S.length ≤ 50000) (hzz : ∀ k, k ∈ S.map (·.1) → k.size ≤ maxLen) (is : Nat) (his : is ≤ 3) :
  Calls Tryz.prog 356 #[ptr u.e, .int .i64 is] w (KeysRet w (thoseS S is)) := by
 obtain ⟨_, _, k2, _, k4, _, _⟩ := Ht.cells
 have HA := Lib.hid (Ht.allS hc.ls)
 have HGET := Lib.hid fun (W : World) (f : Fr [] w W) (j : Nat) (hj : j < S.length) => (Ht.fr0 f).get S[j].1 (hzz _ (List.mem_map_of_mem (List.getElem_mem hj))) ((hc.get hi S[j].1).trans (by rw [kind_at hi j hj]))
 obtain ⟨n, hn⟩ : ∃ n, S.length = n := ⟨_, rfl⟩
 have hnl : (S.map (·.1)).length = n := by rw [List.length_map, hn]
 have HN := Lib.hid (And.intro hn hnl)
 rw [hn] at hb
 clear Ht hc hi hn hnl hzz
 go_enter Tryz.func356, Tryz.ntmps356
 go_wp2_with fail
 refine HA.out.mono ?_
 rintro en w1 ⟨v, rfl, hgo, f1⟩
 obtain ⟨va, vc, hv⟩ := hgo.1.form
 rw [HN.out.2] at hv
 subst hv
 have HGO := Lib.hid (And.intro hgo f1)
 have k4 := cell_fr f1 k4 (by simp)
 clear hgo f1 k2 HA
 go_wp2_with fail
 go_loopw [5, 16] (fun u5 u16 wr => ∃ (j m : Nat) (b : Option Addr) (c : Nat), j ≤ n ∧ u16 = .int .i64 j ∧ u5 = .slice b m c ∧ m ≤ j ∧ Hid (m = (thoseS (S.take j) is).length) ∧ Hid (Gone w1 wr (.slice b m c) (thoseS (S.take j) is)) ∧ Fr [] w1 wr) (fun _ u16 _ => n - (intOf u16).toNat)
 case atStart => exact ⟨0, 0, none, 0, by omega, rfl, rfl, by omega, rfl, Gone.nil _ _, Fr.refl _ _⟩
 case round =>
  obtain ⟨j, m, b, c, hj, rfl, rfl, hm, hM, hG, hf⟩ := hrel
  by_cases hlt : j < n
  ·have hjl : j < S.length := by rw [HN.out.1]; exact hlt
   have hsl := HGO.out.1.1.fr hf (fun _ _ => by simp)
   obtain ⟨gb, go, gc, hgv, _⟩ := hsl.pos (by rw [HN.out.2]; omega)
   rw [HN.out.2] at hgv
   simp at hgv
   obtain ⟨rfl, rfl⟩ := hgv
   have x0 := HGO.out.1.1
   rw [HN.out.2] at x0
   replace x0 := cell_fr hf (x0.cell (j := j) (u := .string S[j].1) (by simp [hjl])) (by simp)
   have HGJ := Lib.hid (HGET.out wr (HGO.out.2.same hf) j hjl)
   have k4 := cell_fr hf k4 (by simp)
   have q1 : (j : Int) < (n : Int) := by omega
   have hsn := thoseS_snoc S is j hjl
   obtain ⟨key, hke⟩ : ∃ k, S[j].1 = k := ⟨_, rfl⟩
   obtain ⟨kd, hkd⟩ : ∃ k, S[j].2 = k := ⟨_, rfl⟩
   rw [hke] at x0 HGJ hsn
   rw [hkd] at HGJ hsn
   obtain ⟨y, hy⟩ : ∃ x, hOf t.LS key = x := ⟨_, rfl⟩
   obtain ⟨z, hz⟩ : ∃ x, hOf t.LQ key = x := ⟨_, rfl⟩
   rw [hy, hz] at HGJ
   have HSN := Lib.hid hsn
   clear hsl hsn hke hkd hy hz
   go_wp2_with fail
   refine HGJ.out.mono ?_
   rintro en w3 ⟨⟨bb, rfl⟩, f3⟩
   have F3 := Lib.hid (hf.same f3)
   have HG3 := Lib.hid (hG.out.fr0 f3)
   clear f3 x0
   by_cases hkk : kd = is
   ·subst hkk
    have HSN2 : Hid (thoseS (S.take (j + 1)) kd = thoseS (S.take j) kd ++ [key]) := by have := HSN.out; rw [if_pos rfl] at this; exact this
    go_wp2_with (at_builtin; refine app_list rfl _ _ rfl (.slice b m c) (.slice (some ⟨w3.heap.size + 1, 0, none⟩) 1 1) (thoseS (S.take j) kd) [key] rfl rfl ?hsl ?src ?hb ?_)
    case hsl => exact ((HG3.out.fr0 ((Fr.refl [] _).alloc _)).fr0 ((Fr.refl [] _).alloc _)).1
    case src => exact SS.src (by have := SS.one (w3.alloc (.cells #[.int .i64 kd, .int .i64 y, .int .i64 z] 201)) key; rw [World.size_alloc] at this; exact this)
    case hb => have := hM.out; simp; omega
    intro b' n' c' w4 hn' happ
    obtain ⟨g1, g2⟩ := happ.new ((F3.out.alloc _).alloc _) HG3.out.2
    have G1 := Lib.hid g1
    have G2 := g2
    have hn2 : n' = m + 1 := by rw [hn', hM.out]
    clear hn'
    subst hn2
    clear happ g1 g2
    go_wp2_with fail
    refine ⟨⟨j + 1, m + 1, b', c', by omega, by go_num, rfl, by omega, ?_, ?_, G2⟩, by simp [intOf]; omega⟩
    ·show _ = _; rw [HSN2.out, List.length_append, ← hM.out]; rfl
    ·show Gone _ _ _ _; rw [HSN2.out]; exact G1.out
   ·have q2 : ((kd : Int) == (is : Int)) = false := by rw [beq_eq_false_iff_ne]; omega
    have HSN2 : Hid (thoseS (S.take (j + 1)) is = thoseS (S.take j) is) := by have := HSN.out; rw [if_neg hkk, List.append_nil] at this; exact this
    go_wp2_with fail
    refine ⟨⟨j + 1, m, b, c, by omega, by go_num, rfl, by omega, ?_, ?_, F3.out.alloc _⟩, by simp [intOf]; omega⟩
    ·show _ = _; rw [HSN2.out]; exact hM.out
    ·show Gone _ _ _ _; rw [HSN2.out]; exact HG3.out.fr0 ((Fr.refl [] _).alloc _)
  ·have : j = n := by omega
   subst this
   go_wp2
   go_ret
   have e : S.take j = S := by rw [← HN.out.1]; exact List.take_length
   have hg := hG.out
   rw [e] at hg
   exact ⟨_, rfl, hg.old HGO.out.2.size, HGO.out.2.same hf⟩
end
section
variable {w : World} {e : Nat} {F : List Nat} {s : Lirs}
def Lirs.keys (s : Lirs) : List ByteArray := s.Q ++ thoseS s.S 1
def Lirs.ghosts (s : Lirs) : List ByteArray := thoseS s.S 3
theorem SInv.keySz {S : Stk} {Q : List ByteArray} (h : SInv S Q) : ∀ k, k ∈ S.map (·.1) → k.size ≤ maxLen := fun k hk => by
 obtain ⟨x, hx, rfl⟩ := List.mem_map.1 hk
 exact h.sz x hx
set_option maxRecDepth 100000 in
theorem lghosts (H : EL w e F s) : Calls Tryz.prog 340 #[ptr e] w (KeysRet w s.ghosts) := by
 obtain ⟨hi, u, rfl, hc, hm, t, Ht, hco⟩ := H
 have hb : s.S.length + s.Q.length ≤ 50000 := by have a := hi.si.len; have b := hi.res; have c := hi.gh; have d := hi.c2; omega
 have HT := Lib.hid (lthose Ht hco hi.si (by omega) hi.si.keySz 3 (by omega))
 unfold Lirs.ghosts
 clear Ht hco hi hc hm
 go_enter Tryz.func340, Tryz.ntmps340
 go_wp2_with fail
 refine HT.out.mono ?_
 rintro en w1 ⟨v, rfl, hg, hf⟩
 obtain ⟨va, vc, hv⟩ := hg.1.form
 obtain ⟨n, hn⟩ : ∃ n, (thoseS s.S 3).length = n := ⟨_, rfl⟩
 rw [hn] at hv
 subst hv
 have HG := Lib.hid (And.intro hg hf)
 clear hg hf hn
 go_wp2
 go_ret
 exact ⟨_, rfl, HG.out⟩
set_option maxRecDepth 100000 in
theorem lkeys (H : EL w e F s) : Calls Tryz.prog 342 #[ptr e] w (KeysRet w s.keys) := by
 obtain ⟨hi, u, rfl, hc, hm, t, Ht, hco⟩ := H
 have hb : s.S.length + s.Q.length ≤ 50000 := by have a := hi.si.len; have b := hi.res; have c := hi.gh; have d := hi.c2; omega
 obtain ⟨_, _, _, k3, _, _, _⟩ := Ht.cells
 have HQ := Lib.hid (Ht.allQ hco.lq)
 have HT := Lib.hid fun W (f : Fr [] w W) => lthose (Ht.fr0 f) hco hi.si (by omega) hi.si.keySz 1 (by omega)
 unfold Lirs.keys
 obtain ⟨T1, hT1⟩ : ∃ x, thoseS s.S 1 = x := ⟨_, rfl⟩
 have hl1 : T1.length ≤ 50000 := by rw [← hT1]; exact Nat.le_trans (thoseS_len _ _) (by omega)
 rw [hT1] at HT ⊢
 obtain ⟨Q, hQ⟩ : ∃ x, s.Q = x := ⟨_, rfl⟩
 have hl2 : Q.length ≤ 50000 := by rw [← hQ]; omega
 rw [hQ] at HQ ⊢
 clear Ht hco hi hc hm hT1 hQ hb
 go_enter Tryz.func342, Tryz.ntmps342
 go_wp2_with fail
 refine HQ.out.mono ?_
 rintro en w1 ⟨v, rfl, hg, hf⟩
 obtain ⟨va, vc, hv⟩ := hg.1.form
 subst hv
 have HG := Lib.hid (And.intro hg hf)
 clear k3
 go_wp2_with fail
 refine (HT.out _ hf).mono ?_
 rintro en w2 ⟨v2, rfl, hg2, hf2⟩
 obtain ⟨va2, vc2, hv2⟩ := hg2.1.form
 subst hv2
 have HG2 := Lib.hid (And.intro hg2 hf2)
 clear hg hf hg2 hf2
 go_wp2_with (at_builtin; refine app_list rfl _ _ rfl (.slice va Q.length vc) (.slice va2 T1.length vc2) Q T1 rfl rfl ?hsl ?src ?hb ?_)
 case hsl => exact (HG.out.1.fr0 HG2.out.2).1
 case src => exact SS.src HG2.out.1.1
 case hb => omega
 intro b n c w3 hn happ
 obtain ⟨g1, g2⟩ := happ.new (HG.out.2.same HG2.out.2) HG.out.1.2
 have FIN := Lib.hid (And.intro g1 g2)
 clear happ g1 g2 hn
 go_wp2
 go_ret
 exact ⟨_, rfl, FIN.out⟩
end
end Go.Proofs.YtphlancijlljcaaGreat
