/- Texts of a proof about the given program, those parts that this claim reaches. -/
import Derived.Test.YtfeicmpbfbhiiaaGreatPEg28
import Derived.Test.YtfeicmpbfbhiiaaGreatPEg14
import Derived.Test.YtfeicmpbfbhiiaaGreatPEg23
set_option linter.unusedVariables false
set_option linter.unusedSimpArgs false
namespace Go.Proofs.YtfeicmpbfbhiiaaGreat
open Go.RowKit
open Act renaming put → pE0
open List renaming getElem_toArray → pE1, getElem_cons_succ → pE2, getElem_cons_zero → pE3, setIfInBounds_toArray → pE4, set_cons_zero → pE5, set_cons_succ → pE6
attribute [local go_sem ↓] Go.wp_at_zero Go.wp_at_succ
section
variable {u : LC} {w w0 w1 w2 w' W : World} {F F1 G : List Nat} {t : LSt} {s : Lirs}
theorem kind_has (hc : Coh s.S s.Q t) (hi : SInv s.S s.Q) (hp : ∀ e, e ∈ t.LS → 0 < e.1) (key : ByteArray) {x : Nat} (hx : kindS s.S s.Q key = x) {b : Bool} (hb : s.has key = b) : (x = 1 ∧ b = true) ∨ (x = 2 ∧ b = true) ∨ (x = 3 ∧ b = false) ∨ (x = 0 ∧ b = false) := by
 rw [← hx, ← hb]
 unfold Lirs.has
 rcases kind_cases hc hi hp key with ⟨a, c⟩ | ⟨a, _, c, _⟩ | ⟨a, _, c, _⟩ | ⟨a, c, d⟩ | ⟨a, c, d⟩
 ·exact .inl ⟨a, by simp [c]⟩
 ·exact .inr (.inl ⟨a, by simp [c]⟩)
 ·exact .inr (.inl ⟨a, by simp [c]⟩)
 ·exact .inr (.inr (.inl ⟨a, by simp [c, d]⟩))
 ·exact .inr (.inr (.inr ⟨a, by simp [c, d]⟩))
set_option maxRecDepth 100000 in
theorem lhas (H : LK u w F s.S s.Q) (hi : SInv s.S s.Q) (key : ByteArray) (hz : key.size ≤ maxLen) {b : Bool} (hb : s.has key = b) :
  Calls Tryz.prog 335 #[ptr u.e, .string key] w fun en w' => en = .returned (.bool b) ∧ Fr [] w w' := by
 obtain ⟨t, Ht, hc⟩ := H
 obtain ⟨x, hx⟩ : ∃ x, kindS s.S s.Q key = x := ⟨_, rfl⟩
 obtain ⟨y, hy⟩ : ∃ x, hOf t.LS key = x := ⟨_, rfl⟩
 obtain ⟨z, hzz⟩ : ∃ x, hOf t.LQ key = x := ⟨_, rfl⟩
 have hcs := kind_has hc hi (fun e he => (Ht.pos e he).1) key hx hb
 obtain ⟨_, _, _, _, k4, _, _⟩ := Ht.cells
 have hget := hc.get hi key
 rw [hx, hy, hzz] at hget
 have HGET := Lib.hid (Ht.get key hz hget)
 clear Ht hc hx hy hzz hget hb hi
 rcases hcs with ⟨rfl, rfl⟩ | ⟨rfl, rfl⟩ | ⟨rfl, rfl⟩ | ⟨rfl, rfl⟩
 all_goals
  go_enter Tryz.func335, Tryz.ntmps335
  go_wp2_with fail
  refine HGET.out.mono ?_
  rintro en w1 ⟨⟨bb, rfl⟩, f1⟩
  have HF := Lib.hid f1
  clear f1 HGET
  go_wp2
  go_ret
  exact ⟨by simp, HF.out.alloc _⟩
def LLo (s : Lirs) (key : ByteArray) : Lirs := if cntS s.S 1 < s.most then s.heats key else s.chills key
set_option maxHeartbeats 1000000 in
set_option maxRecDepth 100000 in
theorem lloadGo (Ht : LRw u w F t) (hc : Coh s.S s.Q t) (hi : s.Inv) (hmo : u.most = s.most) (key : ByteArray) (hz : key.size ≤ maxLen) {n c : Nat} (huc : u.c = c) (hb : ((n : Int) == (c : Int)) = false)
  (HH : Hid (∀ W, Fr [] w W → Calls Tryz.prog 335 #[ptr u.e, .string key] W fun en w' => en = .returned (.bool false) ∧ Fr [] W w')) (HL : Hid (∀ W, Fr [] w W → Calls Tryz.prog 337 #[ptr u.e] W fun en w' => en = .returned (.int .i64 (n : Nat)) ∧ Fr [] W w')) :
  Calls Tryz.prog 338 #[ptr u.e, .string key] w fun en w' => en = .returned (.bool true) ∧ LKGo u w F (pruneS (LLo s key).S) (LLo s key).Q w' := by
 obtain ⟨kc, k1, _, _, k4, k5, _⟩ := Ht.cells
 rw [huc] at kc
 rw [hc.h] at k5
 obtain ⟨x, hx⟩ : ∃ x, kindS s.S s.Q key = x := ⟨_, rfl⟩
 obtain ⟨y, hy⟩ : ∃ x, hOf t.LS key = x := ⟨_, rfl⟩
 obtain ⟨z, hzz⟩ : ∃ x, hOf t.LQ key = x := ⟨_, rfl⟩
 obtain ⟨hh, hhe⟩ : ∃ x, cntS s.S 1 = x := ⟨_, rfl⟩
 obtain ⟨mm, hme⟩ : ∃ x, s.most = x := ⟨_, rfl⟩
 rw [hhe] at k5
 rw [hmo, hme] at k1
 have hslen := hi.si.len
 have hres := hi.res
 have hgh := hi.gh
 have hhm := hi.hm
 have hcb := hi.c2
 have hsi := hi.si
 have hmb : s.most ≤ 1024 := by unfold Lirs.most; omega
 have hbd : s.S.length + s.Q.length ≤ 10000 := by omega
 have hget := hc.get hsi key
 rw [hx, hy, hzz] at hget
 have HGET := Lib.hid fun W (f : Fr [] w W) => (Ht.fr0 f).get key hz hget
 have CHE := Lib.hid fun (W : World) (f : Fr [] w W) => lheats (Ht.fr0 f) hc hsi (by omega) hmo hmb key hz x hy hzz
 have CCH := Lib.hid fun (W : World) (f : Fr [] w W) => lchills (Ht.fr0 f) hc hsi (by omega) key hz x hy hzz
 obtain ⟨SR, hSR⟩ : ∃ R, pruneS (LLo s key).S = R := ⟨_, rfl⟩
 obtain ⟨QR, hQR⟩ : ∃ R, (LLo s key).Q = R := ⟨_, rfl⟩
 rw [hSR, hQR]
 have hhb : hh ≤ 1024 := by omega
 have hmm : mm ≤ 1024 := by omega
 have h3 := cntS_cut_le s.S key 1
 have h2 := cutQ_le s.Q key
 have hcase : (hh < mm ∧ LLo s key = s.heats key) ∨ (mm ≤ hh ∧ LLo s key = s.chills key) := by
  unfold LLo
  rw [hhe, hme]
  by_cases h : hh < mm
  ·exact .inl ⟨h, by rw [if_pos h]⟩
  ·exact .inr ⟨by omega, by rw [if_neg h]⟩
 have HSI : Hid ((SInv (s.heats key).S (s.heats key).Q ∧ (s.heats key).S.length + (s.heats key).Q.length ≤ 50000) ∧ (SInv (s.chills key).S (s.chills key).Q ∧ (s.chills key).S.length + (s.chills key).Q.length ≤ 50000)) := by
  obtain ⟨a1, a2⟩ := heats_inv hsi hz hhm
  obtain ⟨b1, b2⟩ := chills_inv hsi hz (key := key)
  have a3 := a1.len
  have b3 := b1.len
  have h33 := cntS_cut_le s.S key 3
  exact ⟨⟨a1, by omega⟩, ⟨b1, by omega⟩⟩
 have HSS := HSI
 have HCR := Lib.hid (And.intro hSR hQR)
 clear Ht hc hi hmo huc hx hy hzz hhe hme hslen hres hgh hhm hcb hsi hmb hbd hget hSR hQR h2 h3 HSI
 go_enter Tryz.func338, Tryz.ntmps338
 go_wp2_with fail
 refine wp_region_inv (fun j v _ => match j with | 0 | 3 | 8 | 10 | 11 => v = ptr u.e | 1 | 2 | 5 | 6 | 7 => v = .bool false | 4 => v = .string key | 9 => v = .int .i64 (n : Nat) | 12 => v = .pointer (some ⟨u.e, 0, none⟩) | 13 => v = .int .i64 (c : Nat) | 14 | 15 => v = .bool false | _ => True) (fun _ w' => w'.cell? ⟨u.e, 0, none⟩ = some (.int .i64 (c : Nat)) ∧ Hid (Fr [] w w')) (fun _ _ => True) (by kernel_rfl) (by kernel_rfl) (by kernel_rfl) (fun _ _ _ _ h _ => h) ⟨kc, (Fr.refl [] _).drew⟩ ?hops ?hfin
 case hops =>
  repeat' (first | exact OpsOk.nil | refine OpsOk.cons ?_ ?_)
  all_goals try exact rgT
  ·skip
   intro D X w' K hD hcl hS hI hK
   simp only [afterI, Region.binds, forall_const] at hI
   simp only [putL, pE0, pE1, pE4, pE5, pE6, Nat.reduceAdd, up, Nat.reduceEqDiff, if_true, if_false, reduceIte] at hK ⊢
   try simp only [hI] at hK
   go_simp
   refine (HH.out _ hS.2.out).mono ?_
   rintro en w3 ⟨rfl, f3⟩
   exact hK.out _ _ rfl ⟨cell_fr f3 hS.1 (by simp), hS.2.out.same f3⟩ trivial
  ·skip
   intro D X w' K hD hcl hS hI hK
   simp only [afterI, Region.binds, forall_const] at hI
   simp only [putL, pE0, pE1, pE4, pE5, pE6, Nat.reduceAdd, up, Nat.reduceEqDiff, if_true, if_false, reduceIte] at hK ⊢
   try simp only [hI] at hK
   go_simp
   refine (HL.out _ hS.2.out).mono ?_
   rintro en w3 ⟨rfl, f3⟩
   exact hK.out _ _ rfl ⟨cell_fr f3 hS.1 (by simp), hS.2.out.same f3⟩ trivial
 case hfin =>
  intro D X wa hS hD hI
  simp only [putL, pE0, pE1, pE4, pE5, pE6, Nat.reduceAdd]
  have h15 : X 15 = .bool false := hI 15 (by decide)
  rw [h15]
  have HFW := hS.2
  clear h15 hS hD hI kc hb HL HH
  have k1 := cell_fr HFW.out k1 (by simp)
  have k4 := cell_fr HFW.out k4 (by simp)
  have k5 := cell_fr HFW.out k5 (by simp)
  go_wp2_with fail
  refine (HGET.out _ HFW.out).mono ?_
  rintro en w1 ⟨⟨bb, rfl⟩, f1⟩
  have k1 := cell_fr f1 k1 (by simp)
  have k5 := cell_fr f1 k5 (by simp)
  have k1l := World.block_lt_of_cell? _ _ k1
  simp at k1l
  have F1 := Lib.hid (HFW.out.same f1)
  clear f1 k4
  rcases hcase with ⟨q, hr⟩ | ⟨q, hr⟩
  ·have q1 : (hh : Int) < (mm : Int) := by omega
   have HRR := HCR
   have HSI := Lib.hid (hr ▸ HSS.out.1)
   have HR2 := Lib.hid hr
   clear hr
   go_wp2
   go_quiet (fail)
   have FD := Lib.hid ((F1.out.alloc (.cells #[.int .i64 x, .int .i64 y, .int .i64 z] 195)).drewN nq)
   go_wp2_with fail
   refine (CHE.out _ FD.out).mono ?_
   rw [← HR2.out]
   rintro en w2 ⟨rfl, F2, h2, s2, f2⟩
   have HPR := Lib.hid (lprunes h2 HSI.out.1 HSI.out.2)
   have HF2 := Lib.hid (And.intro (s2.old FD.out.size) (FD.out.nil.same f2))
   clear h2 s2 f2
   go_wp2_with fail
   refine HPR.out.mono ?_
   rintro en w3 ⟨rfl, hg⟩
   have HG := Lib.hid (LKGo.trans HF2.out.1 HF2.out.2 hg)
   clear hg
   go_wp2
   go_ret
   rw [← HRR.out.1, ← HRR.out.2]
   exact ⟨rfl, HG.out⟩
  ·have q1 : (mm : Int) ≤ (hh : Int) := by omega
   have q2 : decide (hh < mm) = false := decide_eq_false (by omega)
   have HRR := HCR
   have HSI := Lib.hid (hr ▸ HSS.out.2)
   have HR2 := Lib.hid hr
   clear hr
   go_wp2
   go_quiet (fail)
   have FD := Lib.hid ((F1.out.alloc (.cells #[.int .i64 x, .int .i64 y, .int .i64 z] 195)).drewN nq)
   go_wp2_with fail
   refine (CCH.out _ FD.out).mono ?_
   rw [← HR2.out]
   rintro en w2 ⟨rfl, F2, h2, s2, f2⟩
   have HPR := Lib.hid (lprunes h2 HSI.out.1 HSI.out.2)
   have HF2 := Lib.hid (And.intro (s2.old FD.out.size) (FD.out.nil.same f2))
   clear h2 s2 f2
   go_wp2_with fail
   refine HPR.out.mono ?_
   rintro en w3 ⟨rfl, hg⟩
   have HG := Lib.hid (LKGo.trans HF2.out.1 HF2.out.2 hg)
   clear hg
   go_wp2
   go_ret
   rw [← HRR.out.1, ← HRR.out.2]
   exact ⟨rfl, HG.out⟩
end
end Go.Proofs.YtfeicmpbfbhiiaaGreat
set_option linter.unusedVariables false
set_option linter.unusedSimpArgs false
namespace Go.Proofs.YtfeicmpbfbhiiaaGreat
open Go.RowKit
open Act renaming put → pE0
open List renaming getElem_toArray → pE1, getElem_cons_succ → pE2, getElem_cons_zero → pE3, setIfInBounds_toArray → pE4, set_cons_zero → pE5, set_cons_succ → pE6
attribute [local go_sem ↓] Go.wp_at_zero Go.wp_at_succ
section
variable {u : LC} {w w0 w1 w2 w' W : World} {F F1 G : List Nat} {t : LSt} {s : Lirs}
end
section
variable {w : World} {e : Nat} {F : List Nat} {s : Lirs}
theorem lload (H : EL w e F s) (key : ByteArray) (hz : key.size ≤ maxLen) : Calls Tryz.prog 338 #[ptr e, .string key] w (StepRet EL w e F (.bool (s.load key).1) (s.load key).2) := by
 have HE := Lib.hid H
 have hinv := H.1.load hz
 obtain ⟨hi, u, rfl, hc, hm, h⟩ := H
 have hb : s.S.length + s.Q.length ≤ 50000 := by have a := hi.si.len; have b := hi.res; have c := hi.gh; have d := hi.c2; omega
 have HL : Hid (∀ W, Fr [] w W → Calls Tryz.prog 337 #[ptr u.e] W fun en w' => en = .returned (.int .i64 (s.len : Nat)) ∧ Fr [] W w') := fun W f => llen (h.fr f (fun b _ => by simp)) hb rfl
 have HH : ∀ b, s.has key = b → Hid (∀ W, Fr [] w W → Calls Tryz.prog 335 #[ptr u.e, .string key] W fun en w' => en = .returned (.bool b) ∧ Fr [] W w') := fun b hb W f => lhas (h.fr f (fun b _ => by simp)) hi.si key hz hb
 obtain ⟨t, Ht, hco⟩ := h
 obtain ⟨kc, _⟩ := Ht.cells
 rw [hc] at kc
 have hlc : ∀ k : ByteArray, (LLo s key).prunes.c = s.c := fun _ => by
  show (LLo s key).c = s.c
  unfold LLo
  split
  ·exact (heats_inv hi.si hz hi.hm).2.2.1
  ·rfl
 refine load_ways (L := Lirs.load) (has := s.has key) (len := s.len) (c := s.c) (s2 := (LLo s key).prunes) rfl (fun h1 => loadHitL HE key (HH true h1)) (fun h1 h2 => loadFullL HE key kc (beq_iff_eq.2 (congrArg Nat.cast h2)) (HH false h1) HL) (fun h1 h2 => ?_)
 have e1 : (s.load key).2 = (LLo s key).prunes := by unfold Lirs.load; rw [if_neg (by rw [h1]; rintro (h | h); cases h; exact h2 h)]; rfl
 rw [e1] at hinv
 refine (lloadGo Ht hco hi hm key hz hc (by rw [beq_eq_false_iff_ne]; intro hh; exact h2 (by exact_mod_cast hh)) (HH false h1) HL).mono ?_
 rintro en w' ⟨rfl, F2, h2, hs, hf⟩
 exact ⟨rfl, F2, ⟨hinv, u, rfl, by rw [hlc key]; exact hc, by rw [hm]; unfold Lirs.most; rw [hlc key], h2⟩, hs, hf⟩
end
end Go.Proofs.YtfeicmpbfbhiiaaGreat
set_option linter.unusedVariables false
set_option linter.unusedSimpArgs false
namespace Go.Proofs.YtfeicmpbfbhiiaaGreat
open Go.RowKit
attribute [local go_sem ↓] Go.wp_at_zero Go.wp_at_succ
/-- The keys of S of a sort, from the bottom on. -/
def thoseS (S : Stk) (is : Nat) : List ByteArray := (S.filter fun e => decide (e.2 = is)).map (·.1)
theorem thoseS_snoc (S : Stk) (is j : Nat) (hj : j < S.length) : thoseS (S.take (j + 1)) is = thoseS (S.take j) is ++ (if S[j].2 = is then [S[j].1] else []) := by
 have e : (S[j]?).toList = [S[j]] := by rw [List.getElem?_eq_getElem hj]; rfl
 unfold thoseS
 rw [List.take_add_one, e, List.filter_append, List.map_append]
 congr 1
 by_cases h : S[j].2 = is
 ·rw [if_pos h, List.filter_cons_of_pos (by simpa using h)]; rfl
 ·rw [if_neg h, List.filter_cons_of_neg (by simpa using h)]; rfl
theorem kind_at {S : Stk} {Q : List ByteArray} (hi : SInv S Q) (j : Nat) (hj : j < S.length) : kindS S Q S[j].1 = S[j].2 := by
 have hm : S[j].1 ∈ S.map (·.1) := List.mem_map_of_mem (List.getElem_mem hj)
 unfold kindS
 rw [if_neg (fun e => (stS_zero hi).1 e hm)]
 exact stS_mem hi.nd (List.getElem_mem hj)
section
variable {u : LC} {w w0 w1 w2 w' W : World} {F F1 G : List Nat} {t : LSt} {S : Stk} {Q : List ByteArray}
theorem LRw.allS (h : LRw u w F t) {l : List ByteArray} (hl : t.LS.map (·.2) = l) : Calls Tryz.prog 306 #[.pointer (some ⟨u.sp, 0, none⟩)] w (KeysRet w l) := by
 obtain ⟨Fs, Fq, Fx, n, rfl, h1, h2, h3, h4, h5, h6⟩ := h
 refine (all_l h4).mono ?_
 rintro en w' ⟨v, rfl, ho, hf⟩
 refine ⟨v, rfl, ⟨?_, Own.base_le ho⟩, hf⟩
 have := Sl.ofOwn ho
 rw [← hl, List.length_map, List.map_map]
 exact this
theorem LRw.allQ (h : LRw u w F t) {l : List ByteArray} (hl : t.LQ.map (·.2) = l) : Calls Tryz.prog 306 #[.pointer (some ⟨u.qp, 0, none⟩)] w (KeysRet w l) := by
 obtain ⟨Fs, Fq, Fx, n, rfl, h1, h2, h3, h4, h5, h6⟩ := h
 refine (all_l h5).mono ?_
 rintro en w' ⟨v, rfl, ho, hf⟩
 refine ⟨v, rfl, ⟨?_, Own.base_le ho⟩, hf⟩
 have := Sl.ofOwn ho
 rw [← hl, List.length_map, List.map_map]
 exact this
set_option maxHeartbeats 1000000 in
set_option maxRecDepth 100000 in
theorem lthose (Ht : LRw u w F t) (hc : Coh S Q t) (hi : SInv S Q) (hb : S.length ≤ 50000) (hzz : ∀ k, k ∈ S.map (·.1) → k.size ≤ maxLen) (is : Nat) (his : is ≤ 3) :
  Calls Tryz.prog 350 #[ptr u.e, .int .i64 is] w (KeysRet w (thoseS S is)) := by
 obtain ⟨_, _, k2, _, k4, _, _⟩ := Ht.cells
 have HA := Lib.hid (Ht.allS hc.ls)
 have HGET := Lib.hid fun (W : World) (f : Fr [] w W) (j : Nat) (hj : j < S.length) => (Ht.fr0 f).get S[j].1 (hzz _ (List.mem_map_of_mem (List.getElem_mem hj))) ((hc.get hi S[j].1).trans (by rw [kind_at hi j hj]))
 obtain ⟨n, hn⟩ : ∃ n, S.length = n := ⟨_, rfl⟩
 have hnl : (S.map (·.1)).length = n := by rw [List.length_map, hn]
 have HN := Lib.hid (And.intro hn hnl)
 rw [hn] at hb
 clear Ht hc hi hn hnl hzz
 go_enter Tryz.func350, Tryz.ntmps350
 go_wp2_with fail
 refine HA.out.mono ?_
 rintro en w1 ⟨v, rfl, hgo, f1⟩
 obtain ⟨va, vc, hv⟩ := hgo.1.form
 rw [HN.out.2] at hv
 subst hv
 have HGO := Lib.hid (And.intro hgo f1)
 have k4 := cell_fr f1 k4 (by simp)
 clear hgo f1 k2 HA
 go_wp2_with fail
 go_loopw [5, 16] (fun u5 u16 wr => ∃ (j m : Nat) (b : Option Addr) (c : Nat), j ≤ n ∧ u16 = .int .i64 j ∧ u5 = .slice b m c ∧ m ≤ j ∧ Hid (m = (thoseS (S.take j) is).length) ∧ Hid (Gone w1 wr (.slice b m c) (thoseS (S.take j) is)) ∧ Fr [] w1 wr) (fun _ u16 _ => n - (intOf u16).toNat)
 case atStart => exact ⟨0, 0, none, 0, by omega, rfl, rfl, by omega, rfl, Gone.nil _ _, Fr.refl _ _⟩
 case round =>
  obtain ⟨j, m, b, c, hj, rfl, rfl, hm, hM, hG, hf⟩ := hrel
  by_cases hlt : j < n
  ·have hjl : j < S.length := by rw [HN.out.1]; exact hlt
   have hsl := HGO.out.1.1.fr hf (fun _ _ => by simp)
   obtain ⟨gb, go, gc, hgv, _⟩ := hsl.pos (by rw [HN.out.2]; omega)
   rw [HN.out.2] at hgv
   simp at hgv
   obtain ⟨rfl, rfl⟩ := hgv
   have x0 := HGO.out.1.1
   rw [HN.out.2] at x0
   replace x0 := cell_fr hf (x0.cell (j := j) (u := .string S[j].1) (by simp [hjl])) (by simp)
   have HGJ := Lib.hid (HGET.out wr (HGO.out.2.same hf) j hjl)
   have k4 := cell_fr hf k4 (by simp)
   have q1 : (j : Int) < (n : Int) := by omega
   have hsn := thoseS_snoc S is j hjl
   obtain ⟨key, hke⟩ : ∃ k, S[j].1 = k := ⟨_, rfl⟩
   obtain ⟨kd, hkd⟩ : ∃ k, S[j].2 = k := ⟨_, rfl⟩
   rw [hke] at x0 HGJ hsn
   rw [hkd] at HGJ hsn
   obtain ⟨y, hy⟩ : ∃ x, hOf t.LS key = x := ⟨_, rfl⟩
   obtain ⟨z, hz⟩ : ∃ x, hOf t.LQ key = x := ⟨_, rfl⟩
   rw [hy, hz] at HGJ
   have HSN := Lib.hid hsn
   clear hsl hsn hke hkd hy hz
   go_wp2_with fail
   refine HGJ.out.mono ?_
   rintro en w3 ⟨⟨bb, rfl⟩, f3⟩
   have F3 := Lib.hid (hf.same f3)
   have HG3 := Lib.hid (hG.out.fr0 f3)
   clear f3 x0
   by_cases hkk : kd = is
   ·subst hkk
    have HSN2 : Hid (thoseS (S.take (j + 1)) kd = thoseS (S.take j) kd ++ [key]) := by have := HSN.out; rw [if_pos rfl] at this; exact this
    go_wp2_with (at_builtin; refine app_list rfl _ _ rfl (.slice b m c) (.slice (some ⟨w3.heap.size + 1, 0, none⟩) 1 1) (thoseS (S.take j) kd) [key] rfl rfl ?hsl ?src ?hb ?_)
    case hsl => exact ((HG3.out.fr0 ((Fr.refl [] _).alloc _)).fr0 ((Fr.refl [] _).alloc _)).1
    case src => exact SS.src (by have := SS.one (w3.alloc (.cells #[.int .i64 kd, .int .i64 y, .int .i64 z] 195)) key; rw [World.size_alloc] at this; exact this)
    case hb => have := hM.out; simp; omega
    intro b' n' c' w4 hn' happ
    obtain ⟨g1, g2⟩ := happ.new ((F3.out.alloc _).alloc _) HG3.out.2
    have G1 := Lib.hid g1
    have G2 := g2
    have hn2 : n' = m + 1 := by rw [hn', hM.out]
    clear hn'
    subst hn2
    clear happ g1 g2
    go_wp2_with fail
    refine ⟨⟨j + 1, m + 1, b', c', by omega, by go_num, rfl, by omega, ?_, ?_, G2⟩, by simp [intOf]; omega⟩
    ·show _ = _; rw [HSN2.out, List.length_append, ← hM.out]; rfl
    ·show Gone _ _ _ _; rw [HSN2.out]; exact G1.out
   ·have q2 : ((kd : Int) == (is : Int)) = false := by rw [beq_eq_false_iff_ne]; omega
    have HSN2 : Hid (thoseS (S.take (j + 1)) is = thoseS (S.take j) is) := by have := HSN.out; rw [if_neg hkk, List.append_nil] at this; exact this
    go_wp2_with fail
    refine ⟨⟨j + 1, m, b, c, by omega, by go_num, rfl, by omega, ?_, ?_, F3.out.alloc _⟩, by simp [intOf]; omega⟩
    ·show _ = _; rw [HSN2.out]; exact hM.out
    ·show Gone _ _ _ _; rw [HSN2.out]; exact HG3.out.fr0 ((Fr.refl [] _).alloc _)
  ·have : j = n := by omega
   subst this
   go_wp2
   go_ret
   have e : S.take j = S := by rw [← HN.out.1]; exact List.take_length
   have hg := hG.out
   rw [e] at hg
   exact ⟨_, rfl, hg.old HGO.out.2.size, HGO.out.2.same hf⟩
end
section
variable {w : World} {e : Nat} {F : List Nat} {s : Lirs}
def Lirs.keys (s : Lirs) : List ByteArray := s.Q ++ thoseS s.S 1
def Lirs.ghosts (s : Lirs) : List ByteArray := thoseS s.S 3
theorem SInv.keySz {S : Stk} {Q : List ByteArray} (h : SInv S Q) : ∀ k, k ∈ S.map (·.1) → k.size ≤ maxLen := fun k hk => by
 obtain ⟨x, hx, rfl⟩ := List.mem_map.1 hk
 exact h.sz x hx
set_option maxRecDepth 100000 in
theorem lghosts (H : EL w e F s) : Calls Tryz.prog 334 #[ptr e] w (KeysRet w s.ghosts) := by
 obtain ⟨hi, u, rfl, hc, hm, t, Ht, hco⟩ := H
 have hb : s.S.length + s.Q.length ≤ 50000 := by have a := hi.si.len; have b := hi.res; have c := hi.gh; have d := hi.c2; omega
 have HT := Lib.hid (lthose Ht hco hi.si (by omega) hi.si.keySz 3 (by omega))
 unfold Lirs.ghosts
 clear Ht hco hi hc hm
 go_enter Tryz.func334, Tryz.ntmps334
 go_wp2_with fail
 refine HT.out.mono ?_
 rintro en w1 ⟨v, rfl, hg, hf⟩
 obtain ⟨va, vc, hv⟩ := hg.1.form
 obtain ⟨n, hn⟩ : ∃ n, (thoseS s.S 3).length = n := ⟨_, rfl⟩
 rw [hn] at hv
 subst hv
 have HG := Lib.hid (And.intro hg hf)
 clear hg hf hn
 go_wp2
 go_ret
 exact ⟨_, rfl, HG.out⟩
end
end Go.Proofs.YtfeicmpbfbhiiaaGreat
set_option linter.unusedVariables false
set_option linter.unusedSimpArgs false
namespace Go.Proofs.YtfeicmpbfbhiiaaGreat
open Go.RowKit
attribute [local go_sem ↓] Go.wp_at_zero Go.wp_at_succ
namespace En
def load : En → ByteArray → Bool × En
 | A s, k => ((s.load k).1, A (s.load k).2) | L s, k => ((s.load k).1, L (s.load k).2) | Q s, k => ((s.load k).1, Q (s.load k).2) | U s, k => ((s.load k).1, U (s.load k).2) | S s, k => ((s.load k).1, S (s.load k).2)
def remove : En → ByteArray → Bool × En
 | A s, k => ((s.remove k).1, A (s.remove k).2) | L s, k => ((s.remove k).1, L (s.remove k).2) | Q s, k => ((s.remove k).1, Q (s.remove k).2) | U s, k => ((s.remove k).1, U (s.remove k).2) | S s, k => ((s.remove k).1, S (s.remove k).2)
def evict : En → ByteArray × Bool × En
 | A s => (s.evict.1, s.evict.2.1, A s.evict.2.2) | L s => (s.evict.1, s.evict.2.1, L s.evict.2.2) | Q s => (s.evict.1, s.evict.2.1, Q s.evict.2.2) | U s => (s.evict.1, s.evict.2.1, U s.evict.2.2) | S s => (s.evict.1, s.evict.2.1, S s.evict.2.2)
def has : En → ByteArray → Bool | A s => s.has | L s => s.has | Q s => s.has | U s => s.has | S s => s.has
def len : En → Nat | A s => s.len | L s => s.len | Q s => s.len | U s => s.len | S s => s.len
def cap : En → Nat | A s => s.c | L s => s.c | Q s => s.c | U s => s.c | S s => s.c
def keys : En → List ByteArray | A s => s.K 0 ++ s.K 1 | L s => s.keys | Q s => s.K 0 ++ s.K 2 | U s => s.K 0 ++ (s.K 1 ++ s.K 2) | S s => s.K 0 ++ s.K 1
theorem load_kd (s : En) (key : ByteArray) : (s.load key).2.kd = s.kd := by cases s <;> rfl
theorem new_kd (k : Nat) (hk : k < 5) (room : Int) : (En.new k room).kd = k := by
 match k, hk with
 | 0, _ => rfl
 | 1, _ => rfl
 | 2, _ => rfl
 | 3, _ => rfl
 | 4, _ => rfl
end En
def kLoad (k : Nat) : Nat := match k with | 0 => 288 | 1 => 338 | 2 => 367 | 3 => 391 | _ => 429
theorem enmLoad {k : Nat} (hk : k < 5) (a : Addr) (w : World) : (method 502 (kTy k) (.pointer (some a)) "Load").run Tryz.prog w = .ok (kLoad k, .pointer (some a)) w := by
 have : k = 0 ∨ k = 1 ∨ k = 2 ∨ k = 3 ∨ k = 4 := by omega
 rcases this with rfl | rfl | rfl | rfl | rfl <;> (show _ = _; kernel_rfl)
theorem encLoad {k : Nat} (hk : k < 5) (args : Array Value) (w : World) : (callFunc (kLoad k) args).run Tryz.prog w = .ok (.enter (kLoad k) args) w := by
 have : k = 0 ∨ k = 1 ∨ k = 2 ∨ k = 3 ∨ k = 4 := by omega
 rcases this with rfl | rfl | rfl | rfl | rfl <;> (show _ = _; kernel_rfl)
def kLen (k : Nat) : Nat := match k with | 0 => 287 | 1 => 337 | 2 => 366 | 3 => 390 | _ => 428
theorem enmLen {k : Nat} (hk : k < 5) (a : Addr) (w : World) : (method 502 (kTy k) (.pointer (some a)) "Len").run Tryz.prog w = .ok (kLen k, .pointer (some a)) w := by
 have : k = 0 ∨ k = 1 ∨ k = 2 ∨ k = 3 ∨ k = 4 := by omega
 rcases this with rfl | rfl | rfl | rfl | rfl <;> (show _ = _; kernel_rfl)
theorem encLen {k : Nat} (hk : k < 5) (args : Array Value) (w : World) : (callFunc (kLen k) args).run Tryz.prog w = .ok (.enter (kLen k) args) w := by
 have : k = 0 ∨ k = 1 ∨ k = 2 ∨ k = 3 ∨ k = 4 := by omega
 rcases this with rfl | rfl | rfl | rfl | rfl <;> (show _ = _; kernel_rfl)
def kState (k : Nat) : Nat := match k with | 0 => 291 | 1 => 341 | 2 => 370 | 3 => 394 | _ => 432
theorem enmState {k : Nat} (hk : k < 5) (a : Addr) (w : World) : (method 502 (kTy k) (.pointer (some a)) "State").run Tryz.prog w = .ok (kState k, .pointer (some a)) w := by
 have : k = 0 ∨ k = 1 ∨ k = 2 ∨ k = 3 ∨ k = 4 := by omega
 rcases this with rfl | rfl | rfl | rfl | rfl <;> (show _ = _; kernel_rfl)
theorem encState {k : Nat} (hk : k < 5) (args : Array Value) (w : World) : (callFunc (kState k) args).run Tryz.prog w = .ok (.enter (kState k) args) w := by
 have : k = 0 ∨ k = 1 ∨ k = 2 ∨ k = 3 ∨ k = 4 := by omega
 rcases this with rfl | rfl | rfl | rfl | rfl <;> (show _ = _; kernel_rfl)
section
variable {w : World} {e : Nat} {F : List Nat} {s : En}
theorem enLoad (h : EE w e F s) (key : ByteArray) (hk : key.size ≤ maxLen) : Calls Tryz.prog (kLoad s.kd) #[ptr e, .string key] w (StepRet EE w e F (.bool (s.load key).1) (s.load key).2) := by
 cases s
 ·exact aload h key hk
 ·exact lload h key hk
 ·exact qload h key hk
 ·exact uload h key hk
 ·exact sload h key hk
theorem enLen (h : EE w e F s) : Calls Tryz.prog (kLen s.kd) #[ptr e] w fun en w' => en = .returned (.int .i64 (s.len : Nat)) ∧ Fr [] w w' := by
 cases s with
 | A s => obtain ⟨hi, g, cap, x, h⟩ := h; exact elenA h rfl
 | L s => obtain ⟨hi, u, rfl, hc, hm, h⟩ := h; exact llen h (by have a := hi.si.len; have b := hi.res; have c := hi.gh; have d := hi.c2; omega) rfl
 | Q s => obtain ⟨hi, g, cap, x, h⟩ := h; exact elenQ h rfl
 | U s => obtain ⟨hi, u, rfl, hc, hwi, hma, hpr, h⟩ := h; obtain ⟨F0, h0⟩ := h.er; exact elenU h0 rfl
 | S s => obtain ⟨hi, g, cap, x, y, h⟩ := h; obtain ⟨F0, h0⟩ := h.er; exact elenS h0 rfl
end
end Go.Proofs.YtfeicmpbfbhiiaaGreat
