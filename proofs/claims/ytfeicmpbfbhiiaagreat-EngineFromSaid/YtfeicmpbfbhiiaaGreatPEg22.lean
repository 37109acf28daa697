/- Texts of a proof about the given program, those parts that this claim reaches. -/
import Derived.Test.YtfeicmpbfbhiiaaGreatPEg21
set_option linter.unusedVariables false
set_option linter.unusedSimpArgs false
namespace Go.Proofs.YtfeicmpbfbhiiaaGreat
open Go.RowKit
attribute [local go_sem ↓] Go.wp_at_zero Go.wp_at_succ
def LK (u : LC) (w : World) (F : List Nat) (S : Stk) (Q : List ByteArray) : Prop := ∃ t, LRw u w F t ∧ Coh S Q t
def LKGo (u : LC) (w : World) (F : List Nat) (S : Stk) (Q : List ByteArray) (w' : World) : Prop := ∃ F', LK u w' F' S Q ∧ Sub F' F w ∧ Fr F w w'
section
variable {u : LC} {w w0 w1 w2 w' W : World} {F F1 G : List Nat} {t : LSt} {S : Stk} {Q : List ByteArray}
theorem LK.fr (h : LK u w F S Q) (f : Fr G w w') (hd : Dis F G) : LK u w' F S Q := by
 obtain ⟨t, a, b⟩ := h
 exact ⟨t, a.fr f hd, b⟩
theorem LK.fr0 (h : LK u w F S Q) (f : Fr [] w w') : LK u w' F S Q := h.fr f (fun b _ => by simp)
theorem LK.lt (h : LK u w F S Q) : Lt F w := by
 obtain ⟨t, a, b⟩ := h
 exact a.lt
theorem LKGo.refl (h : LK u w F S Q) : LKGo u w F S Q w := ⟨F, h, Sub.refl _ _, Fr.refl _ _⟩
theorem LKGo.trans (h1 : Sub F1 F w) (h2 : Fr F w w1) (h : LKGo u w1 F1 S Q w2) : LKGo u w F S Q w2 := by
 obtain ⟨F', a1, a2, a3⟩ := h
 exact ⟨F', a1, h1.fr h2 a2, h2.via h1 a3⟩
theorem LKGo.old (h : LKGo u w F S Q w1) (f : Fr [] w0 w) : LKGo u w0 F S Q w1 := by
 obtain ⟨F', h1, h2, h3⟩ := h
 exact ⟨F', h1, h2.old f.size, f.nil.same h3⟩
theorem LKGo.fr (h : LKGo u w F S Q w1) (f : Fr [] w1 w2) : LKGo u w F S Q w2 := by
 obtain ⟨F', h1, h2, h3⟩ := h
 exact ⟨F', h1.fr0 f, h2, h3.same f.nil⟩
theorem LGo.coh (h : LGo u w F t w') (c : Coh S Q t) : LKGo u w F S Q w' := by
 obtain ⟨F', h1, h2, h3⟩ := h
 exact ⟨F', ⟨t, h1, c⟩, h2, h3⟩
theorem LTop.fin {b : Nat} {n : Nat × Nat × Nat} (f : Fr [] w W) (hb : w.heap.size ≤ b) (h : LTop u W F b n t w1) : LGo u w F t w1 := by
 obtain ⟨F', h1, h2, h3, h4, h5⟩ := h
 refine ⟨F', h1, h4.old f.size, f.nil.trans h5 (fun _ h _ => h) (fun q hq hl => ?_)⟩
 rcases List.mem_cons.1 hq with rfl | hq
 ·omega
 ·exact hq
theorem fin2 {b : Nat} (f : Fr [] w W) (hb : w.heap.size ≤ b) (s : Sub F1 F W) (k : Fr (b :: F) W w1) : Sub F1 F w ∧ Fr F w w1 := by
 refine ⟨s.old f.size, f.nil.trans k (fun _ h _ => h) (fun q hq hl => ?_)⟩
 rcases List.mem_cons.1 hq with rfl | hq
 ·omega
 ·exact hq
theorem Coh.lens (h : Coh S Q t) : t.LS.length = S.length ∧ t.LQ.length = Q.length := by
 have a := congrArg List.length h.ls
 have b := congrArg List.length h.lq
 simp only [List.length_map] at a b
 exact ⟨a, b⟩
theorem Coh.nds (h : Coh S Q t) (hi : SInv S Q) : (t.LS.map (·.2)).Nodup ∧ (t.LQ.map (·.2)).Nodup := ⟨by rw [h.ls]; exact hi.nd, by rw [h.lq]; exact hi.qd⟩
set_option maxRecDepth 100000 in
theorem llifts (H : LRw u w F t) (hc : Coh S Q t) (hi : SInv S Q) (hl : S.length + Q.length ≤ 50000) {key : ByteArray} (hk : key ∈ S.map (·.1)) (hnh : stS S key ≠ 1) {x y z : Nat} (hx : kindS S Q key = x) (hy : hOf t.LS key = y) (hzz : hOf t.LQ key = z) :
  Calls Tryz.prog 355 #[.pointer (some ⟨u.e, 0, none⟩), .agg #[.int .i64 x, .int .i64 y, .int .i64 z], .string key] w fun en w' => en = .returned (.tuple #[]) ∧ LKGo u w F (cutS S key) Q w' := by
 have hz : key.size ≤ maxLen := by
  obtain ⟨e, he, rfl⟩ := List.mem_map.1 hk
  exact hi.sz e he
 have hlf := hc.lift hi hk hnh
 rw [hx, hzz] at hlf
 have ha : Fr [] w (w.alloc (.cells #[.int .i64 x, .int .i64 y, .int .i64 z] 195)) := (Fr.refl [] _).alloc _
 have hb0 : EB (w.alloc (.cells #[.int .i64 x, .int .i64 y, .int .i64 z] 195)) w.heap.size (x, y, z) := block_alloc_new _ _
 have hlt : ∀ b, b ∈ F → b < w.heap.size := H.lt
 have hel : u.e < w.heap.size := hlt _ H.ein
 have hnF : w.heap.size ∉ F := fun h => by have := hlt _ h; omega
 have H0 := H.fr0 ha
 obtain ⟨_, _, k2, _, _, _, _⟩ := H.cells
 have hnd := hc.nds hi
 have HRM := Lib.hid ((H0.fr0 ((Fr.refl [] _).drew)).rmS hnd.1 key hy)
 have HSET := Lib.hid fun (W : World) (F' : List Nat) (h : LRw u W F' { t with LS := cutL t.LS key }) (x y z : Nat) => lset h (by have := hc.small (k := 50000) (by omega); unfold Sm at *; simp only at *; omega) (hc.cover hi) (by simp; omega) key hz x y z
 have HA := Lib.hid (And.intro ha (And.intro hb0 hnF))
 have HL := Lib.hid hlf
 clear H H0 hc hi hx hy hzz hnd hlf ha hb0 hk hnh hlt hnF
 go_enter Tryz.func355, Tryz.ntmps355
 go_wp2
 replace k2 := cell_fr HA.out.1 k2 (by simp)
 obtain ⟨kb0, kb1, kb2⟩ := HA.out.2.1.cells
 generalize w.alloc (.cells #[.int .i64 x, .int .i64 y, .int .i64 z] 195) = W0 at *
 go_still_tail 6, (by kernel_rfl)
 change wpList _ _ _ _ _ W0.drew
 go_wp2_with fail
 refine HRM.out.mono ?_
 rintro en w1 ⟨⟨v, bb, rfl⟩, hg⟩
 have ht := LTop.drew (LTop.ofGo hg HA.out.2.1 HA.out.2.2)
 obtain ⟨F1, h1, g1, nf, s1, f1⟩ := id ht
 obtain ⟨kb0, kb1, kb2⟩ := g1.cells
 have zb := fun i => g1.fz i
 by_cases h3 : x = 3
 ·subst h3
  have ht2 := (ht.set (fun h => h.setS 0)).set (fun h => h.setI 0)
  obtain ⟨F2, h2, g2, nf2, s2, f2⟩ := id ht2
  obtain ⟨kb0, kb1, kb2⟩ := g2.cells
  have hsf := fin2 HA.out.1 (Nat.le_refl _) s2 f2
  have HS2 := Lib.hid (HSET.out _ _ h2 0 0 z)
  have HFF := Lib.hid hsf
  clear ht ht2 h1 g1 nf s1 f1 hg h2 g2 nf2 s2 f2 hsf
  go_wp2_with fail
  refine HS2.out.mono ?_
  rintro en w3 ⟨rfl, hg3⟩
  have HG := Lib.hid (LGo.trans HFF.out.1 HFF.out.2 hg3)
  clear hg3
  go_wp2
  go_end0
  refine ⟨rfl, ?_⟩
  have hl := HL.out
  simp only [if_true] at hl
  exact HG.out.coh hl
 ·have b3 : ((x : Int) == 3) = false := by rw [beq_eq_false_iff_ne]; omega
  have ht2 := ht.set (fun h => h.setS 0)
  have H3 := Lib.hid h3
  clear h3
  obtain ⟨F2, h2, g2, nf2, s2, f2⟩ := id ht2
  obtain ⟨kb0, kb1, kb2⟩ := g2.cells
  have hsf := fin2 HA.out.1 (Nat.le_refl _) s2 f2
  have HS2 := Lib.hid (HSET.out _ _ h2 x 0 z)
  have HFF := Lib.hid hsf
  clear ht ht2 h1 g1 nf s1 f1 hg h2 g2 nf2 s2 f2 hsf
  go_wp2_with fail
  refine HS2.out.mono ?_
  rintro en w3 ⟨rfl, hg3⟩
  have HG := Lib.hid (LGo.trans HFF.out.1 HFF.out.2 hg3)
  clear hg3
  go_wp2
  go_end0
  refine ⟨rfl, ?_⟩
  have hl := HL.out
  rw [if_neg H3.out] at hl
  exact HG.out.coh hl
end
end Go.Proofs.YtfeicmpbfbhiiaaGreat
set_option linter.unusedVariables false
set_option linter.unusedSimpArgs false
namespace Go.Proofs.YtfeicmpbfbhiiaaGreat
open Go.RowKit
attribute [local go_sem ↓] Go.wp_at_zero Go.wp_at_succ
section
variable {u : LC} {w w0 w1 w2 w' W : World} {F F1 G : List Nat} {t : LSt} {S : Stk} {Q : List ByteArray}
theorem LRw.lS (h : LRw u w F t) : ∃ Fs, LRep w u.sp Fs t.LS := by
 obtain ⟨Fs, Fq, Fx, n, rfl, h1, h2, h3, h4, h5, h6⟩ := h
 exact ⟨Fs, h4⟩
theorem LRw.lQ (h : LRw u w F t) : ∃ Fs, LRep w u.qp Fs t.LQ := by
 obtain ⟨Fs, Fq, Fx, n, rfl, h1, h2, h3, h4, h5, h6⟩ := h
 exact ⟨Fq, h5⟩
theorem LRw.lenS (h : LRw u w F t) {n : Nat} (hn : t.LS.length = n) : Calls Tryz.prog 197 #[.pointer (some ⟨u.sp, 0, none⟩)] w fun e w' => e = .returned (.int .i64 n) ∧ w = w' := by
 obtain ⟨Fs, h⟩ := h.lS
 rw [← hn]
 exact len_l h
theorem LRw.frontS (h : LRw u w F t) {a : Nat × ByteArray} {l : HL} (hl : t.LS = a :: l) : Calls Tryz.prog 199 #[.pointer (some ⟨u.sp, 0, none⟩)] w fun e w' => e = .returned (.int .i64 a.1) ∧ w = w' := by
 obtain ⟨Fs, h⟩ := h.lS
 have := front h
 rw [hl] at this
 exact this
theorem LRw.atS (h : LRw u w F t) {a : Nat × ByteArray} (ha : a ∈ t.LS) : Calls Tryz.prog 198 #[.pointer (some ⟨u.sp, 0, none⟩), .int .i64 a.1] w fun e w' => e = .returned (.tuple #[.string a.2, .bool true]) ∧ w = w' := by
 obtain ⟨Fs, h⟩ := h.lS
 exact get_in h ha
theorem LRw.lenQ (h : LRw u w F t) {n : Nat} (hn : t.LQ.length = n) : Calls Tryz.prog 197 #[.pointer (some ⟨u.qp, 0, none⟩)] w fun e w' => e = .returned (.int .i64 n) ∧ w = w' := by
 obtain ⟨Fs, h⟩ := h.lQ
 rw [← hn]
 exact len_l h
theorem cutS_head {k : ByteArray} {is : Nat} {S : Stk} (hn : (((k, is) :: S).map (·.1)).Nodup) : cutS ((k, is) :: S) k = S := by
 have h2 := (List.nodup_cons.1 hn).1
 unfold cutS
 rw [List.filter_cons_of_neg (by simp), List.filter_eq_self]
 intro a ha
 have : a.1 ≠ k := fun e => h2 (e ▸ List.mem_map_of_mem (f := (·.1)) ha)
 simpa using this
set_option maxHeartbeats 1000000 in
set_option maxRecDepth 100000 in
theorem lprunes (H : LK u w F S Q) (hi : SInv S Q) (hl : S.length + Q.length ≤ 50000) :
  Calls Tryz.prog 345 #[.pointer (some ⟨u.e, 0, none⟩)] w fun en w' => en = .returned (.tuple #[]) ∧ LKGo u w F (pruneS S) Q w' := by
 have HH := Lib.hid H
 have HI := Lib.hid hi
 clear H hi
 obtain ⟨P, hP⟩ : ∃ P, pruneS S = P := ⟨_, rfl⟩
 rw [hP]
 have HP := Lib.hid hP
 clear hP
 go_enter Tryz.func345, Tryz.ntmps345
 go_wp2_with fail
 go_loopg [] S.length (fun gg wr => ∃ (Sc : Stk) (Fc : List Nat), Aside (pruneS Sc = P ∧ Sc.length = gg) ∧ Hid (SInv Sc Q) ∧ gg ≤ S.length ∧ LK u wr Fc Sc Q ∧ Sub Fc F w ∧ Fr F w wr)
 case atStart => exact ⟨S, F, ⟨HP.out, rfl⟩, HI.out, Nat.le_refl _, HH.out, Sub.refl _ _, Fr.refl _ _⟩
 case round =>
  obtain ⟨Sc, Fc, hA, hic, hgl, ⟨t, Ht, hco⟩, hsc, hgc⟩ := hrel
  obtain ⟨_, _, k2, _, k4, _, _⟩ := Ht.cells
  have hle := hco.lens.1
  have HC := Lib.hid (And.intro Ht (And.intro hco (And.intro hsc hgc)))
  have hel : u.e < wr.heap.size := Ht.lt _ Ht.ein
  cases Sc with
  | nil =>
   have HLEN := Lib.hid (Ht.lenS (n := 0) hle)
   clear Ht hco hsc hgc hle
   go_wp2_with fail
   refine HLEN.out.mono ?_
   rintro en w1 ⟨rfl, rfl⟩
   go_wp2
   go_end0
   have h1 : P = [] := hA.out.1.symm
   rw [h1]
   exact ⟨rfl, Fc, ⟨t, HC.out.1, HC.out.2.1⟩, HC.out.2.2.1, HC.out.2.2.2⟩
  | cons a S' =>
   obtain ⟨k, is⟩ := a
   obtain ⟨b, L', hbL⟩ : ∃ b L', t.LS = b :: L' := by
    cases h : t.LS with
    | nil => rw [h] at hle; cases hle
    | cons b l => exact ⟨b, l, rfl⟩
   have hbk : b.2 = k := by
    have := hco.ls
    rw [hbL] at this
    simp at this
    exact this.1
   obtain ⟨h, k'⟩ := b
   simp only at hbk
   subst hbk
   have hno := hic.out.nd
   have hok := hic.out.ok (k', is) (by simp)
   have hst : stS ((k', is) :: S') k' = is := stS_mem hno (by simp)
   have his : is = 1 ∨ is = 2 ∨ is = 3 := by
    rcases hok with ⟨a, _⟩ | ⟨a, _⟩ | ⟨a, _⟩
    ·exact .inl a
    ·exact .inr (.inl a)
    ·exact .inr (.inr a)
   have hkd : kindS ((k', is) :: S') Q k' = is := by unfold kindS; rw [hst, if_neg (by omega)]
   have hget := hco.get hic.out k'
   rw [hkd] at hget
   have hz : k'.size ≤ maxLen := hic.out.sz (k', is) (by simp)
   obtain ⟨y, hy⟩ : ∃ y, hOf t.LS k' = y := ⟨_, rfl⟩
   obtain ⟨z, hzz⟩ : ∃ y, hOf t.LQ k' = y := ⟨_, rfl⟩
   rw [hy, hzz] at hget
   obtain ⟨n, hn⟩ : ∃ n, t.LS.length = n := ⟨_, rfl⟩
   have hn1 : 0 < n := by rw [← hn, hle]; simp
   have hn2 : n ≤ 50000 := by rw [← hn, hle, hA.out.2]; omega
   have HLEN := Lib.hid (Ht.lenS hn)
   have HFRO := Lib.hid fun (W : World) (f : Fr [] wr W) => (Ht.fr0 f).frontS hbL
   have HAT := Lib.hid fun (W : World) (f : Fr [] wr W) => (Ht.fr0 f).atS (a := (h, k')) (by rw [hbL]; simp)
   have HGET := Lib.hid fun (W : World) (f : Fr [] wr W) => (Ht.fr0 f).get k' hz hget
   have HIS := Lib.hid (And.intro hno (And.intro hst (And.intro hkd (And.intro hy hzz))))
   clear Ht hco hsc hgc hle hok hst hkd hget hy hzz hn hno hbL
   go_wp2_with fail
   refine HLEN.out.mono ?_
   rintro en w1 ⟨rfl, rfl⟩
   go_wp2_with fail
   go_quiet (first | (go_at_call 199; exact Calls.quiet_of_same ((HFRO.out _ ((Fr.refl [] _).drewN _)).mono fun _ _ h => ⟨h.1, h.2.symm⟩)) | (go_at_call 198; exact Calls.quiet_of_same ((HAT.out _ ((Fr.refl [] _).drewN _)).mono fun _ _ h => ⟨h.1, h.2.symm⟩)))
   go_wp2_with fail
   refine (HGET.out _ ((Fr.refl [] _).drewN _)).mono ?_
   rintro en w2 ⟨⟨bb, rfl⟩, f2⟩
   have f02 : Fr [] wr w2 := ((Fr.refl [] _).drewN _).same f2
   have HF := Lib.hid f02
   have hel2 : u.e < w2.heap.size := Nat.lt_of_lt_of_le hel f02.size
   clear f2 f02
   by_cases h1 : is = 1
   ·subst h1
    go_wp2
    refine bodyPost_ret (v := .tuple #[]) (by simp [results, Tryz.results345, go_sem]) rfl ?_
    have hp : P = (k', 1) :: S' := by
     rw [← hA.out.1]
     unfold pruneS
     rw [List.dropWhile_cons_of_neg (by simp)]
    rw [hp]
    refine ⟨rfl, Fc, ⟨t, HC.out.1.fr0 (HF.out.alloc _), HC.out.2.1⟩, HC.out.2.2.1, ?_⟩
    exact (HC.out.2.2.2.same HF.out.nil).alloc _
   ·have b1 : ((is : Int) == 1) = false := by rw [beq_eq_false_iff_ne]; omega
    have hni : stS ((k', is) :: S') k' ≠ 1 := by rw [HIS.out.2.1]; exact h1
    have HLI := Lib.hid (llifts (HC.out.1.fr0 (HF.out.alloc (.cells #[.int .i64 is, .int .i64 y, .int .i64 z] 195))) HC.out.2.1 hic.out (by have := hA.out.2; omega) (by simp) hni HIS.out.2.2.1 HIS.out.2.2.2.1 HIS.out.2.2.2.2)
    have hcut := cutS_head HIS.out.1
    have hp : pruneS S' = P := by
     rw [← hA.out.1]
     unfold pruneS
     rw [List.dropWhile_cons_of_pos (by simpa using h1)]
    have hic2 : Hid (SInv S' Q) := hic.out.sub (List.sublist_cons_self _ _)
    have HPP := Lib.hid (And.intro hcut hp)
    clear h1 hni hcut hp
    go_wp2_with fail
    refine HLI.out.mono ?_
    rintro en w3 ⟨rfl, F3, h3, s3, f3⟩
    rw [HPP.out.1] at h3
    have HFN := Lib.hid (And.intro h3 (And.intro (HC.out.2.2.1.fr HC.out.2.2.2 (s3.old (HF.out.alloc _).size)) (HC.out.2.2.2.via HC.out.2.2.1 ((HF.out.alloc _).nil.same f3))))
    clear h3 s3 f3
    go_wp2_with fail
    go_roundg S'.length
    case measure => have := hA.out.2; simp at this; omega
    case rel => exact ⟨S', F3, ⟨HPP.out.2, rfl⟩, hic2, by have := hA.out.2; simp at this; omega, HFN.out.1, HFN.out.2.1, HFN.out.2.2⟩
end
end Go.Proofs.YtfeicmpbfbhiiaaGreat
set_option linter.unusedVariables false
set_option linter.unusedSimpArgs false
namespace Go.Proofs.YtfeicmpbfbhiiaaGreat
open Go.RowKit
attribute [local go_sem ↓] Go.wp_at_zero Go.wp_at_succ
theorem lowS_app {S1 S2 : Stk} {k : ByteArray} {is : Nat} (h : ∀ e, e ∈ S1 → e.2 ≠ is) : lowS (S1 ++ (k, is) :: S2) is = some k := by
 unfold lowS
 rw [List.find?_append, List.find?_eq_none.2 (by intro e he; simpa using h e he), List.find?_cons_of_pos (by simp)]
 rfl
section
variable {u : LC} {w w0 w1 w2 w' W : World} {F F1 G : List Nat} {t : LSt} {S : Stk} {Q : List ByteArray}
theorem LRw.nextS (h : LRw u w F t) {L1 L2 : HL} {a : Nat × ByteArray} (hl : t.LS = L1 ++ a :: L2) : Calls Tryz.prog 315 #[.pointer (some ⟨u.sp, 0, none⟩), .int .i64 a.1] w fun e w' => e = .returned (.int .i64 (hd0 L2)) ∧ w = w' := by
 obtain ⟨Fs, h⟩ := h.lS
 rw [hl] at h
 exact next (h := a.1) (v := a.2) h
theorem LRw.front0 (h : LRw u w F t) : Calls Tryz.prog 199 #[.pointer (some ⟨u.sp, 0, none⟩)] w fun e w' => e = .returned (.int .i64 (hd0 t.LS)) ∧ w = w' := by
 obtain ⟨Fs, h⟩ := h.lS
 exact front h
theorem LRw.pos (h : LRw u w F t) : ∀ e, e ∈ t.LS → 0 < e.1 ∧ e.1 < 100000 := by
 obtain ⟨Fs, h⟩ := h.lS
 exact h.hnd
set_option maxHeartbeats 1000000 in
set_option maxRecDepth 100000 in
theorem llowest1 (H : LRw u w F t) (hc : Coh S Q t) (hi : SInv S Q) {key : ByteArray} (hlow : lowS S 1 = some key) {y z : Nat} (hy : hOf t.LS key = y) (hzz : hOf t.LQ key = z) :
  Calls Tryz.prog 351 #[.pointer (some ⟨u.e, 0, none⟩), .int .i64 1] w fun en w' => en = .returned (.tuple #[.string key, .agg #[.int .i64 1, .int .i64 y, .int .i64 z]]) ∧ Fr [] w w' := by
 obtain ⟨_, _, k2, _, k4, _, _⟩ := H.cells
 have hel : u.e < w.heap.size := H.lt _ H.ein
 have ha : Fr [] w (w.alloc (.cells #[.int .i64 0, .int .i64 0, .int .i64 0] 195)) := (Fr.refl [] _).alloc _
 have hb0 : EB (w.alloc (.cells #[.int .i64 0, .int .i64 0, .int .i64 0] 195)) w.heap.size (0, 0, 0) := block_alloc_new _ _
 have HFRO := Lib.hid fun (W : World) (f : Fr [] w W) => (H.fr0 f).front0
 have HA := Lib.hid (And.intro ha hb0)
 have HC := Lib.hid (And.intro H (And.intro hc (And.intro hi hlow)))
 have HY := Lib.hid (And.intro hy hzz)
 clear H hc hi hlow ha hb0 hy hzz
 go_enter Tryz.func351, Tryz.ntmps351
 go_wp2_with fail
 refine (HFRO.out _ HA.out.1).mono ?_
 rintro en w0 ⟨rfl, rfl⟩
 replace k2 := cell_fr HA.out.1 k2 (by simp)
 replace k4 := cell_fr HA.out.1 k4 (by simp)
 have hbs : w.heap.size < (w.alloc (.cells #[.int .i64 0, .int .i64 0, .int .i64 0] 195)).heap.size := HA.out.2.lt
 generalize w.alloc (.cells #[.int .i64 0, .int .i64 0, .int .i64 0] 195) = W0 at *
 go_wp2_with fail
 go_loopg [6] S.length (fun gg u6 wr => ∃ (S1 S2 : Stk) (L1 L2 : HL), Aside (S = S1 ++ S2 ∧ t.LS = L1 ++ L2 ∧ L2.map (·.2) = S2.map (·.1) ∧ (∀ e, e ∈ S1 → e.2 ≠ 1) ∧ S2.length = gg) ∧ u6 = .int .i64 (hd0 L2) ∧ Fr [] W0 wr)
 case atStart => exact ⟨[], S, [], t.LS, ⟨rfl, rfl, HC.out.2.1.ls, by simp, rfl⟩, rfl, Fr.refl _ _⟩
 case round =>
  obtain ⟨S1, S2, L1, L2, hA, rfl, hf⟩ := hrel
  replace k2 := cell_fr hf k2 (by simp)
  replace k4 := cell_fr hf k4 (by simp)
  obtain ⟨hS, hL, hm, hno, hgg⟩ := hA.out
  obtain ⟨H, hc, hi, hlow⟩ := HC.out
  cases S2 with
  | nil =>
   exfalso
   simp only [List.append_nil] at hS
   subst hS
   unfold lowS at hlow
   rw [List.find?_eq_none.2 (by intro e he; simpa using hno e he)] at hlow
   cases hlow
  | cons a S2' =>
   obtain ⟨k, j⟩ := a
   cases L2 with
   | nil => cases hm
   | cons b L2' =>
    obtain ⟨h, k'⟩ := b
    simp only [List.map_cons, List.cons.injEq] at hm
    obtain ⟨hk, hm'⟩ := hm
    subst hk
    have hmemS : (k', j) ∈ S := by rw [hS]; simp
    have hmemL : (h, k') ∈ t.LS := by rw [hL]; simp
    have hst : stS S k' = j := stS_mem hi.nd hmemS
    have hj : j = 1 ∨ j = 2 ∨ j = 3 := by
     rcases hi.ok _ hmemS with ⟨a, _⟩ | ⟨a, _⟩ | ⟨a, _⟩
     ·exact .inl a
     ·exact .inr (.inl a)
     ·exact .inr (.inr a)
    have hkd : kindS S Q k' = j := by unfold kindS; rw [hst, if_neg (by omega)]
    have hget := hc.get hi k'
    rw [hkd] at hget
    have hz : k'.size ≤ maxLen := hi.sz _ hmemS
    obtain ⟨hp0, hp1⟩ := H.pos _ hmemL
    simp only at hp0 hp1
    have hf0 : Fr [] w wr := HA.out.1.same hf
    have HAT := Lib.hid ((H.fr0 hf0).atS hmemL)
    obtain ⟨y', hy'⟩ : ∃ y, hOf t.LS k' = y := ⟨_, rfl⟩
    obtain ⟨z', hz'⟩ : ∃ y, hOf t.LQ k' = y := ⟨_, rfl⟩
    rw [hy', hz'] at hget
    have HGET := Lib.hid ((H.fr0 hf0).get k' hz hget)
    have HNX := Lib.hid fun (W : World) (f : Fr [] wr W) => (H.fr0 (hf0.same f)).nextS (a := (h, k')) hL
    have hd : hd0 ((h, k') :: L2') = h := rfl
    rw [hd]
    have hh0 : ((h : Int) == 0) = false := by rw [beq_eq_false_iff_ne]; omega
    have hh1 : ((h : Int) != 0) = true := by simp; omega
    have HJ := Lib.hid (And.intro hj (And.intro hy' hz'))
    have hbw : w.heap.size < wr.heap.size := Nat.lt_of_lt_of_le hbs hf.size
    have hew : u.e < wr.heap.size := Nat.lt_of_lt_of_le hel hf0.size
    have HB := Lib.hid (hf.get HA.out.2 (by simp) : EB wr w.heap.size (0, 0, 0))
    have HFW := Lib.hid hf0
    have HFW0 := Lib.hid hf
    clear hS hL hm' hno hgg H hc hi hlow hmemS hmemL hst hj hkd hget hy' hz' hd hf hf0
    go_wp2_with fail
    refine HAT.out.mono ?_
    rintro en w1 ⟨rfl, rfl⟩
    go_wp2_with fail
    refine HGET.out.mono ?_
    rintro en w2 ⟨⟨bb, rfl⟩, f2⟩
    have hfa : Fr [] w2 (w2.alloc (.cells #[.int .i64 j, .int .i64 y', .int .i64 z'] 195)) := (Fr.refl [] _).alloc _
    have hba : EB (w2.alloc (.cells #[.int .i64 j, .int .i64 y', .int .i64 z'] 195)) w2.heap.size (j, y', z') := block_alloc_new _ _
    have hbw2 : w.heap.size < w2.heap.size := Nat.lt_of_lt_of_le hbw f2.size
    have hew2 : u.e < w2.heap.size := Nat.lt_of_lt_of_le hew f2.size
    have HFA := Lib.hid (And.intro (f2.same hfa) hba)
    replace k2 := cell_fr f2 k2 (by simp)
    replace k4 := cell_fr f2 k4 (by simp)
    clear f2 hfa hba
    by_cases hji : j = 1
    ·subst hji
     have hkey : k' = key := by
      obtain ⟨hS, hL, hm, hno, hgg⟩ := hA.out
      have h1 := HC.out.2.2.2
      rw [hS, lowS_app hno] at h1
      cases h1; rfl
     subst hkey
     have hyy : y' = y := by rw [← HJ.out.2.1, ← HY.out.1]
     have hzzz : z' = z := by rw [← HJ.out.2.2, ← HY.out.2]
     subst hyy hzzz
     go_wp2
     have hbz : EB (w2.alloc (.cells #[.int .i64 1, .int .i64 y', .int .i64 z'] 195)) w.heap.size (0, 0, 0) := HFA.out.1.get HB.out (by simp)
     have hbx := HFA.out.2
     have hF3 : Fr [] w (w2.alloc (.cells #[.int .i64 1, .int .i64 y', .int .i64 z'] 195)) := HFW.out.same HFA.out.1
     obtain ⟨kx0, kx1, kx2⟩ := hbx.cells
     obtain ⟨kz0, kz1, kz2⟩ := hbz.cells
     have zf := fun i => hbz.fz i
     have hne : w2.heap.size ≠ w.heap.size := by omega
     have HZ := Lib.hid (And.intro hbz hF3)
     generalize w2.alloc (.cells #[.int .i64 1, .int .i64 y', .int .i64 z'] 195) = W3 at *
     clear hbz hbx hF3 HFA k2 k4
     go_still_tail 3, (by kernel_rfl)
     change wpList _ _ _ _ _ W3.drew
     go_wp2
     have b4 := block_set_same (block_set_same (block_set_same HZ.out.1 0 (.int .i64 1)) 1 (.int .i64 (y' : Nat))) 2 (.int .i64 (z' : Nat))
     have hff := ((HZ.out.2.setNew (p := ⟨w.heap.size, 0, none⟩) (Nat.le_refl _) (.int .i64 1)).setNew (p := ⟨w.heap.size, 1, none⟩) (Nat.le_refl _) (.int .i64 (y' : Nat))).setNew (p := ⟨w.heap.size, 2, none⟩) (Nat.le_refl _) (.int .i64 (z' : Nat))
     generalize ((W3.setCell ⟨w.heap.size, 0, none⟩ (.int .i64 1)).setCell ⟨w.heap.size, 1, none⟩ (.int .i64 (y' : Nat))).setCell ⟨w.heap.size, 2, none⟩ (.int .i64 (z' : Nat)) = W4 at b4 hff ⊢
     have k := cell_of_block b4
     have k0 : W4.cell? ⟨w.heap.size, 0, none⟩ = some (.int .i64 1) := by rw [k]; rfl
     have k1 : W4.cell? ⟨w.heap.size, 1, none⟩ = some (.int .i64 (y' : Nat)) := by rw [k]; rfl
     have k2 : W4.cell? ⟨w.heap.size, 2, none⟩ = some (.int .i64 (z' : Nat)) := by rw [k]; rfl
     refine bodyPost_ret (v := .tuple #[.string k', .agg #[.int .i64 1, .int .i64 (y' : Nat), .int .i64 (z' : Nat)]]) (by simp [results, Tryz.results351, go_sem, k0, k1, k2]) rfl ?_
     exact ⟨rfl, hff.drew⟩
    ·have b1 : ((j : Int) == 1) = false := by rw [beq_eq_false_iff_ne]; omega
     go_wp2_with fail
     refine (HNX.out _ HFA.out.1).mono ?_
     rintro en w3 ⟨rfl, rfl⟩
     go_wp2_with fail
     go_roundg S2'.length
     case measure => have := hA.out.2.2.2.2; simp at this; omega
     case rel =>
      obtain ⟨hS, hL, hm, hno, hgg⟩ := hA.out
      refine ⟨S1 ++ [(k', j)], S2', L1 ++ [(h, k')], L2', ⟨by rw [hS]; simp, by rw [hL]; simp, ?_, ?_, rfl⟩, rfl, HFW0.out.same HFA.out.1⟩
      ·simp only [List.map_cons, List.cons.injEq] at hm; exact hm.2
      ·intro e he
       rcases List.mem_append.1 he with he | he
       ·exact hno e he
       ·simp at he; subst he; exact hji
end
end Go.Proofs.YtfeicmpbfbhiiaaGreat
set_option linter.unusedVariables false
set_option linter.unusedSimpArgs false
namespace Go.Proofs.YtfeicmpbfbhiiaaGreat
open Go.RowKit
attribute [local go_sem ↓] Go.wp_at_zero Go.wp_at_succ
section
variable {u : LC} {w w0 w1 w2 w' W : World} {F F1 G : List Nat} {t : LSt} {S : Stk} {Q : List ByteArray}
theorem not_ge {b : Nat} (h : Lt F w) (hb : w.heap.size ≤ b) : b ∉ F := fun hx => by have := h b hx; omega
set_option maxHeartbeats 1000000 in
set_option maxRecDepth 100000 in
theorem lcools (H : LRw u w F t) (hc : Coh S Q t) (hi : SInv S Q) (hl : S.length + Q.length ≤ 40000) {key : ByteArray} (hlow : lowS S 1 = some key) (hm : (key, 1) ∈ S) :
  Calls Tryz.prog 342 #[.pointer (some ⟨u.e, 0, none⟩)] w fun en w' => en = .returned (.tuple #[]) ∧ LKGo u w F (pruneS (cutS S key)) (Q ++ [key]) w' := by
 obtain ⟨_, _, k2, _, k4, _, _⟩ := H.cells
 have hel : u.e < w.heap.size := H.lt _ H.ein
 have hz : key.size ≤ maxLen := hi.sz _ hm
 have hq : key ∉ Q := by
  rcases hi.ok _ hm with ⟨_, b⟩ | ⟨a, _⟩ | ⟨a, _⟩
  ·exact b
  ·cases a
  ·cases a
 have hi2 : SInv (cutS S key) (Q ++ [key]) := ((hi.sub (cutS_sub S key)).cold hz (not_mem_cutS _ _) hq).1
 have hlen := hc.lens
 have hnd := hc.nds hi
 have hl2 : (cutS S key).length + (Q ++ [key]).length ≤ 50000 := by
  have := (cutS_sub S key).length_le
  rw [List.length_append]; simp; omega
 obtain ⟨y, hy⟩ : ∃ y, hOf t.LS key = y := ⟨_, rfl⟩
 obtain ⟨z, hzz⟩ : ∃ y, hOf t.LQ key = y := ⟨_, rfl⟩
 have HLOW := Lib.hid (llowest1 H hc hi hlow hy hzz)
 have HH := Lib.hid (And.intro H (And.intro hc (And.intro hi hm)))
 have HY := Lib.hid (And.intro hy (And.intro hzz (And.intro hnd hlen)))
 have HI2 := Lib.hid (And.intro hi2 hl2)
 have HSET := Lib.hid fun (W : World) (F' : List Nat) (LS' LQ' : HL) (h : LRw u W F' { t with LS := LS', LQ := LQ' }) (x y z : Nat) => lset h (by have := hc.small (k := 50000) (by omega); unfold Sm at *; simp only at *; omega) (hc.cover hi) (by simp; omega) key hz x y z
 clear H hc hi hlow hm hq hi2 hlen hnd hl2 hy hzz
 go_enter Tryz.func342, Tryz.ntmps342
 go_wp2_with fail
 refine HLOW.out.mono ?_
 rintro en w1 ⟨rfl, f1⟩
 have fa : Fr [] w (w1.alloc (.cells #[.int .i64 1, .int .i64 y, .int .i64 z] 195)) := f1.alloc _
 have hb0 : EB (w1.alloc (.cells #[.int .i64 1, .int .i64 y, .int .i64 z] 195)) w1.heap.size (1, y, z) := block_alloc_new _ _
 have hsz1 := f1.size
 have hel1 : u.e < w1.heap.size := by omega
 have hH0 := HH.out.1.fr0 fa
 have hnF : w1.heap.size ∉ F := not_ge HH.out.1.lt hsz1
 have HRM := Lib.hid ((hH0.fr0 ((Fr.refl [] _).drew)).rmS HY.out.2.2.1.1 key HY.out.1)
 have HA := Lib.hid (And.intro fa (And.intro hb0 hnF))
 have HB1 := Lib.hid hsz1
 replace k2 := cell_fr fa k2 (by simp)
 replace k4 := cell_fr fa k4 (by simp)
 obtain ⟨kb0, kb1, kb2⟩ := hb0.cells
 clear fa hb0 f1 hH0 hnF hsz1
 go_wp2
 generalize w1.alloc (.cells #[.int .i64 1, .int .i64 y, .int .i64 z] 195) = W0 at *
 go_still_tail 6, (by kernel_rfl)
 change wpList _ _ _ _ _ W0.drew
 go_wp2_with fail
 refine HRM.out.mono ?_
 rintro en w2 ⟨⟨v, bb, rfl⟩, hg⟩
 have ht := LTop.drew (LTop.ofGo hg HA.out.2.1 HA.out.2.2)
 have ht2 := (ht.set (fun h => h.setI 2)).set (fun h => h.setS 0)
 obtain ⟨F1, h1, g1, nf, s1, f1⟩ := id ht
 obtain ⟨kb0, kb1, kb2⟩ := g1.cells
 have zb := fun i => g1.fz i
 obtain ⟨F2, h2, g2, nf2, s2, f2⟩ := id ht2
 have HEND := Lib.hid (lend h2 g2 nf2 HY.out.2.2.1.2 (by show t.LQ.length ≤ _; rw [HY.out.2.2.2.2]; omega) key HY.out.2.1)
 have HT2 := Lib.hid (And.intro s2 f2)
 clear ht ht2 h1 g1 nf s1 f1 h2 g2 nf2 s2 f2 hg
 go_wp2_with fail
 refine HEND.out.mono ?_
 rintro en w3 ⟨rfl, i, i0, i1, F3, h3, g3, nf3, s3, f3⟩
 obtain ⟨kb0, kb1, kb2⟩ := g3.cells
 have hsz2 := HT2.out.2.size
 have s3' : Sub F3 F W0 := fun q hq => by
  rcases s3 q hq with h | h
  ·exact HT2.out.1 q h
  ·right; omega
 have f3' : Fr (w1.heap.size :: F) W0 w3 := HT2.out.2.trans f3 (fun _ h _ => h) (fun q hq hl => by
  rcases List.mem_cons.1 hq with rfl | hq
  ·simp
  ·rcases HT2.out.1 q hq with h | h
   ·simp [h]
   ·omega)
 have hfin := fin2 HA.out.1 HB1.out s3' f3'
 have HS := Lib.hid (HSET.out w3 F3 (cutL t.LS key) (cutL t.LQ key ++ [(i, key)]) h3 2 0 i)
 have HFF := Lib.hid hfin
 clear h3 g3 nf3 s3 f3 s3' f3' hfin hsz2
 go_wp2_with fail
 refine HS.out.mono ?_
 rintro en w4 ⟨rfl, F4, h4, s4, f4⟩
 have hco4 := HH.out.2.1.cool HH.out.2.2.1 HH.out.2.2.2 i
 have HP := Lib.hid (lprunes ⟨_, h4, hco4⟩ HI2.out.1 HI2.out.2)
 have HF4 := Lib.hid (And.intro (HFF.out.1.fr HFF.out.2 s4) (HFF.out.2.via HFF.out.1 f4))
 clear h4 s4 f4 hco4
 go_wp2_with fail
 refine HP.out.mono ?_
 rintro en w5 ⟨rfl, hg5⟩
 have HG := Lib.hid (LKGo.trans HF4.out.1 HF4.out.2 hg5)
 clear hg5
 go_wp2
 go_end0
 exact ⟨rfl, HG.out⟩
end
end Go.Proofs.YtfeicmpbfbhiiaaGreat
set_option linter.unusedVariables false
set_option linter.unusedSimpArgs false
namespace Go.Proofs.YtfeicmpbfbhiiaaGreat
open Go.RowKit
attribute [local go_sem ↓] Go.wp_at_zero Go.wp_at_succ
section
variable {u : LC} {w w0 w1 w2 w' W : World} {F F1 G : List Nat} {t : LSt} {S : Stk} {Q : List ByteArray}
theorem LTop.via {B : Nat} {n' : Nat × Nat × Nat} {t' : LSt} {W0 : World} (s2 : Sub F1 F W0) (f2 : Fr (B :: F) W0 w1) (h : LTop u w1 F1 B n' t' w2) : LTop u W0 F B n' t' w2 := by
 obtain ⟨F3, h3, g3, nf3, s3, f3⟩ := h
 have hsz2 := f2.size
 refine ⟨F3, h3, g3, nf3, fun q hq => ?_, f2.trans f3 (fun _ h _ => h) (fun q hq hl => ?_)⟩
 ·rcases s3 q hq with h | h
  ·exact s2 q h
  ·right; omega
 ·rcases List.mem_cons.1 hq with rfl | hq
  ·simp
  ·rcases s2 q hq with h | h
   ·simp [h]
   ·omega
/-- How long S may be. -/
theorem SInv.len (hi : SInv S Q) : S.length ≤ cntS S 1 + Q.length + cntS S 3 := by
 have h2 : cntS S 2 ≤ Q.length := by
  have e : cntS S 2 = ((S.filter fun e => decide (e.2 = 2)).map (·.1)).length := by rw [List.length_map]; exact List.countP_eq_length_filter
  rw [e]
  refine nd_le (hi.nd.sublist (List.filter_sublist.map _)) fun k hk => ?_
  obtain ⟨e, he, rfl⟩ := List.mem_map.1 hk
  have h3 := List.mem_filter.1 he
  have h4 : e.2 = 2 := by simpa using h3.2
  rcases hi.ok e h3.1 with ⟨a, _⟩ | ⟨_, b⟩ | ⟨a, _⟩
  ·omega
  ·exact b
  ·omega
 have h4 : S.length = cntS S 1 + cntS S 2 + cntS S 3 := by
  have hok := hi.ok
  clear hi h2
  induction S with
  | nil => rfl
  | cons a l ih =>
   have h5 := ih (fun e he => hok e (by simp [he]))
   have h6 := hok a (by simp)
   simp only [cntS, List.countP_cons, List.length_cons] at h5 ⊢
   rcases h6 with ⟨a, _⟩ | ⟨a, _⟩ | ⟨a, _⟩ <;> simp [a] <;> omega
 omega
end
end Go.Proofs.YtfeicmpbfbhiiaaGreat
set_option linter.unusedVariables false
set_option linter.unusedSimpArgs false
namespace Go.Proofs.YtfeicmpbfbhiiaaGreat
open Go.RowKit
attribute [local go_sem ↓] Go.wp_at_zero Go.wp_at_succ
section
variable {u : LC} {w w0 w1 w2 w' W : World} {F F1 G : List Nat} {t : LSt} {s : Lirs}
set_option maxHeartbeats 1000000 in
set_option maxRecDepth 100000 in
theorem lheats (H : LRw u w F t) (hc : Coh s.S s.Q t) (hi : SInv s.S s.Q) (hl : s.S.length + s.Q.length ≤ 30000) (hm : u.most = s.most) (hmb : s.most ≤ 1024) (key : ByteArray) (hz : key.size ≤ maxLen) (x : Nat) {y z : Nat} (hy : hOf t.LS key = y) (hzz : hOf t.LQ key = z) :
  Calls Tryz.prog 344 #[.pointer (some ⟨u.e, 0, none⟩), .agg #[.int .i64 x, .int .i64 y, .int .i64 z], .string key] w fun en w' => en = .returned (.tuple #[]) ∧ LKGo u w F (s.heats key).S (s.heats key).Q w' := by
 obtain ⟨SR, hSR⟩ : ∃ x, (s.heats key).S = x := ⟨_, rfl⟩
 obtain ⟨QR, hQR⟩ : ∃ x, (s.heats key).Q = x := ⟨_, rfl⟩
 rw [hSR, hQR]
 have HR := Lib.hid (And.intro hSR (And.intro hQR hm))
 clear hSR hQR hm
 have hel : u.e < w.heap.size := H.lt _ H.ein
 have fa : Fr [] w (w.alloc (.cells #[.int .i64 1, .int .i64 y, .int .i64 z] 195)) := (Fr.refl [] _).alloc _
 have hb0 : EB (w.alloc (.cells #[.int .i64 1, .int .i64 y, .int .i64 z] 195)) w.heap.size (1, y, z) := block_alloc_new _ _
 have hnF : w.heap.size ∉ F := not_ge H.lt (Nat.le_refl _)
 have hlen := hc.lens
 have hnd := hc.nds hi
 have HH := Lib.hid (And.intro H (And.intro hc hi))
 have HA := Lib.hid (And.intro fa (And.intro hb0 hnF))
 have HY := Lib.hid (And.intro hy (And.intro hzz (And.intro hnd hlen)))
 have HSET := Lib.hid fun (W : World) (F' : List Nat) (LS' LQ' : HL) (h : LRw u W F' { t with LS := LS', LQ := LQ' }) (x y z : Nat) => lset h (by have := hc.small (k := 50000) (by omega); unfold Sm at *; simp only at *; omega) (hc.cover hi) (by simp; omega) key hz x y z
 have ht0 : LTop u (w.alloc (.cells #[.int .i64 1, .int .i64 y, .int .i64 z] 195)) F w.heap.size (1, y, z) t (w.alloc (.cells #[.int .i64 1, .int .i64 y, .int .i64 z] 195)) := ⟨F, H.fr0 fa, hb0, hnF, Sub.refl _ _, Fr.refl _ _⟩
 have ht1 := ht0
 obtain ⟨F1, h1, g1, nf1, s1, f1⟩ := id ht1
 have HTOP := Lib.hid (ltop h1 g1 nf1 hnd.1 (by rw [hlen.1]; omega) key hy)
 have HT1 := Lib.hid (And.intro s1 f1)
 have zb := fun i => hb0.fz i
 have hbs : w.heap.size < (w.alloc (.cells #[.int .i64 1, .int .i64 y, .int .i64 z] 195)).heap.size := hb0.lt
 clear H hc hi hy hzz fa hb0 hnF hlen hnd ht0 ht1 h1 g1 nf1 s1 f1
 go_enter Tryz.func344, Tryz.ntmps344
 go_wp2_with fail
 refine HTOP.out.mono ?_
 rintro en w2 ⟨rfl, i, i0, i1, ht2⟩
 have ht2 := LTop.via HT1.out.1 HT1.out.2 ht2
 obtain ⟨F2, h2, g2, nf2, s2, f2⟩ := id ht2
 have HLV := Lib.hid (lleaves h2 g2 nf2 HY.out.2.2.1.2 key HY.out.2.1)
 have HT2 := Lib.hid (And.intro s2 f2)
 clear ht2 h2 g2 nf2 s2 f2
 go_wp2_with fail
 refine HLV.out.mono ?_
 rintro en w3 ⟨rfl, ht3⟩
 have ht3 := LTop.via HT2.out.1 HT2.out.2 ht3
 obtain ⟨F3, h3, g3, nf3, s3, f3⟩ := id ht3
 obtain ⟨kb0, kb1, kb2⟩ := g3.cells
 have hfin := fin2 HA.out.1 (Nat.le_refl _) s3 f3
 have HS := Lib.hid (HSET.out w3 F3 (cutL t.LS key ++ [(i, key)]) (cutL t.LQ key) h3 1 i 0)
 have HFF := Lib.hid hfin
 clear ht3 h3 g3 nf3 s3 f3 hfin zb
 go_wp2_with fail
 refine HS.out.mono ?_
 rintro en w4 ⟨rfl, F4, h4, s4, f4⟩
 have hco4 := HH.out.2.1.heat HH.out.2.2 key i
 obtain ⟨_, k1, _, _, _, k5, _⟩ := h4.cells
 rw [hco4.h] at k5
 have hi4 : SInv (cutS s.S key ++ [(key, 1)]) (cutQ s.Q key) := (HH.out.2.2.cut key).hot hz (not_mem_cutS _ _) (not_mem_cutQ _ _)
 have hn4 : cntS (cutS s.S key ++ [(key, 1)]) 1 ≤ 40000 := by
  have h5 : cntS (cutS s.S key ++ [(key, 1)]) 1 ≤ (cutS s.S key ++ [(key, 1)]).length := List.countP_le_length
  have h6 := (cutS_sub s.S key).length_le
  rw [List.length_append] at h5
  simp at h5
  omega
 have hl4 : (cutS s.S key ++ [(key, 1)]).length + (cutQ s.Q key).length ≤ 40000 := by
  have h6 := (cutS_sub s.S key).length_le
  have h7 := cutQ_le s.Q key
  rw [List.length_append]
  simp
  omega
 obtain ⟨n, hn⟩ : ∃ n, cntS (cutS s.S key ++ [(key, 1)]) 1 = n := ⟨_, rfl⟩
 rw [hn] at k5 hn4
 have HF4 := Lib.hid (And.intro (HFF.out.1.fr HFF.out.2 s4) (HFF.out.2.via HFF.out.1 f4))
 have H4 := Lib.hid (And.intro h4 (And.intro hco4 (And.intro hi4 hn)))
 have hmm := HR.out.2.2
 clear h4 hco4 hi4 hn s4 f4
 by_cases hlt : u.most < n
 ·have q1 : (u.most : Int) < (n : Int) := by omega
  obtain ⟨k, hlow, hm⟩ := lowS_some (S := cutS s.S key ++ [(key, 1)]) (is := 1) (by rw [H4.out.2.2.2]; omega)
  have HCO := Lib.hid fun (W : World) (f : Fr [] w4 W) => lcools (H4.out.1.fr0 f) H4.out.2.1 H4.out.2.2.1 hl4 hlow hm
  have he : s.heats key = (s.heats1 key).cools := by
   unfold Lirs.heats
   rw [if_pos (show s.most < cntS (s.heats1 key).S 1 by show s.most < cntS (cutS s.S key ++ [(key, 1)]) 1; rw [H4.out.2.2.2, ← hmm]; exact hlt)]
  have hr := HR.out
  rw [he] at hr
  have e1 : (s.heats1 key).cools.S = pruneS (cutS (cutS s.S key ++ [(key, 1)]) k) := by
   unfold Lirs.cools
   show pruneS (cutS (cutS s.S key ++ [(key, 1)]) ((lowS (cutS s.S key ++ [(key, 1)]) 1).getD ⟨#[]⟩)) = _
   rw [hlow]; rfl
  have e2 : (s.heats1 key).cools.Q = cutQ s.Q key ++ [k] := by
   unfold Lirs.cools
   show cutQ s.Q key ++ [(lowS (cutS s.S key ++ [(key, 1)]) 1).getD ⟨#[]⟩] = _
   rw [hlow]; rfl
  rw [e1, e2] at hr
  have HRR := Lib.hid (And.intro hr.1 hr.2.1)
  clear he hr e1 e2 hlow hm hmm
  go_wp2
  go_quiet (fail)
  go_wp2_with fail
  refine (HCO.out _ ((Fr.refl [] _).drewN _)).mono ?_
  rintro en w5 ⟨rfl, hg5⟩
  have HG := Lib.hid (LKGo.trans HF4.out.1 HF4.out.2 (hg5.old ((Fr.refl [] _).drewN _)))
  clear hg5
  go_wp2
  go_end0
  rw [← HRR.out.1, ← HRR.out.2]
  exact ⟨rfl, HG.out⟩
 ·have q1 : (n : Int) ≤ (u.most : Int) := by omega
  have he : s.heats key = s.heats1 key := by
   unfold Lirs.heats
   rw [if_neg (show ¬ s.most < cntS (s.heats1 key).S 1 by show ¬ s.most < cntS (cutS s.S key ++ [(key, 1)]) 1; rw [H4.out.2.2.2, ← hmm]; exact hlt)]
  have hr := HR.out
  rw [he] at hr
  have HRR := Lib.hid hr
  clear he hr hmm
  go_wp2
  go_quiet (fail)
  go_wp2
  go_end0
  rw [← HRR.out.1, ← HRR.out.2.1]
  exact ⟨rfl, F4, ⟨_, H4.out.1.fr0 ((Fr.refl [] _).drewN _), H4.out.2.1⟩, HF4.out.1, HF4.out.2.drewN _⟩
set_option maxHeartbeats 1000000 in
set_option maxRecDepth 100000 in
theorem lchills (H : LRw u w F t) (hc : Coh s.S s.Q t) (hi : SInv s.S s.Q) (hl : s.S.length + s.Q.length ≤ 30000) (key : ByteArray) (hz : key.size ≤ maxLen) (x : Nat) {y z : Nat} (hy : hOf t.LS key = y) (hzz : hOf t.LQ key = z) :
  Calls Tryz.prog 346 #[.pointer (some ⟨u.e, 0, none⟩), .agg #[.int .i64 x, .int .i64 y, .int .i64 z], .string key] w fun en w' => en = .returned (.tuple #[]) ∧ LKGo u w F (s.chills key).S (s.chills key).Q w' := by
 have hel : u.e < w.heap.size := H.lt _ H.ein
 have fa : Fr [] w (w.alloc (.cells #[.int .i64 2, .int .i64 y, .int .i64 z] 195)) := (Fr.refl [] _).alloc _
 have hb0 : EB (w.alloc (.cells #[.int .i64 2, .int .i64 y, .int .i64 z] 195)) w.heap.size (2, y, z) := block_alloc_new _ _
 have hnF : w.heap.size ∉ F := not_ge H.lt (Nat.le_refl _)
 have hlen := hc.lens
 have hnd := hc.nds hi
 have HH := Lib.hid (And.intro H (And.intro hc hi))
 have HA := Lib.hid (And.intro fa (And.intro hb0 hnF))
 have HY := Lib.hid (And.intro hy (And.intro hzz (And.intro hnd hlen)))
 have HSET := Lib.hid fun (W : World) (F' : List Nat) (LS' LQ' : HL) (h : LRw u W F' { t with LS := LS', LQ := LQ' }) (x y z : Nat) => lset h (by have := hc.small (k := 50000) (by omega); unfold Sm at *; simp only at *; omega) (hc.cover hi) (by simp; omega) key hz x y z
 have ht0 : LTop u (w.alloc (.cells #[.int .i64 2, .int .i64 y, .int .i64 z] 195)) F w.heap.size (2, y, z) t (w.alloc (.cells #[.int .i64 2, .int .i64 y, .int .i64 z] 195)) := ⟨F, H.fr0 fa, hb0, hnF, Sub.refl _ _, Fr.refl _ _⟩
 have ht1 := ht0
 obtain ⟨F1, h1, g1, nf1, s1, f1⟩ := id ht1
 have HTOP := Lib.hid (ltop h1 g1 nf1 hnd.1 (by rw [hlen.1]; omega) key hy)
 have HT1 := Lib.hid (And.intro s1 f1)
 have zb := fun i => hb0.fz i
 have hbs : w.heap.size < (w.alloc (.cells #[.int .i64 2, .int .i64 y, .int .i64 z] 195)).heap.size := hb0.lt
 clear H hc hi hy hzz fa hb0 hnF hlen hnd ht0 ht1 h1 g1 nf1 s1 f1
 go_enter Tryz.func346, Tryz.ntmps346
 go_wp2_with fail
 refine HTOP.out.mono ?_
 rintro en w2 ⟨rfl, i, i0, i1, ht2⟩
 have ht2 := LTop.via HT1.out.1 HT1.out.2 ht2
 obtain ⟨F2, h2, g2, nf2, s2, f2⟩ := id ht2
 have HLV := Lib.hid (lend h2 g2 nf2 HY.out.2.2.1.2 (by show t.LQ.length ≤ _; rw [HY.out.2.2.2.2]; omega) key HY.out.2.1)
 have HT2 := Lib.hid (And.intro s2 f2)
 clear ht2 h2 g2 nf2 s2 f2
 go_wp2_with fail
 refine HLV.out.mono ?_
 rintro en w3 ⟨rfl, j, j0, j1, ht3⟩
 have ht3 := LTop.via HT2.out.1 HT2.out.2 ht3
 obtain ⟨F3, h3, g3, nf3, s3, f3⟩ := id ht3
 obtain ⟨kb0, kb1, kb2⟩ := g3.cells
 have hfin := fin2 HA.out.1 (Nat.le_refl _) s3 f3
 have HS := Lib.hid (HSET.out w3 F3 (cutL t.LS key ++ [(i, key)]) (cutL t.LQ key ++ [(j, key)]) h3 2 i j)
 have HFF := Lib.hid hfin
 clear ht3 h3 g3 nf3 s3 f3 hfin zb
 go_wp2_with fail
 refine HS.out.mono ?_
 rintro en w4 ⟨rfl, hg4⟩
 have HG := Lib.hid (LKGo.trans HFF.out.1 HFF.out.2 (hg4.coh (HH.out.2.1.chill HH.out.2.2 key i j)))
 clear hg4
 go_wp2
 go_end0
 exact ⟨rfl, HG.out⟩
end
end Go.Proofs.YtfeicmpbfbhiiaaGreat
