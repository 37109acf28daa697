/- The walk over hoardlaw17.ShadowEpochs. -/
import Derived.Test.YtphlancijlljcaaGreatHeavy
import Derived.Test.YtphlancijlljcaaGreatLaw17n
set_option linter.unusedVariables false
set_option linter.unusedSimpArgs false
namespace Go.Proofs.YtphlancijlljcaaGreat
open Go.RowKit
attribute [local go_sem ↓] Go.wp_at_zero Go.wp_at_succ
theorem incN_small {n : Nat} (h : n ≤ 1000000) : incN n = n + 1 := by unfold incN; rw [if_neg (by omega)]
theorem incN_le1 (n : Nat) : n ≤ incN n ∧ incN n ≤ n + 1 := by unfold incN; split <;> omega
def CB (w : World) (B x y z : Nat) : Prop := w.heap[B]? = some (.cells #[.int .i64 x, .int .i64 y, .int .i64 z] 29 (0, 0))
theorem CB.cells {w : World} {B x y z : Nat} (h : CB w B x y z) : w.cell? ⟨B, 0, none⟩ = some (.int .i64 x) ∧ w.cell? ⟨B, 1, none⟩ = some (.int .i64 y) ∧ w.cell? ⟨B, 2, none⟩ = some (.int .i64 z) := by
 have c := cell_of_block h
 exact ⟨(c 0).trans rfl, (c 1).trans rfl, (c 2).trans rfl⟩
/-- One access more: sums stay sums. -/
theorem count_sum {a1 a2 a3 s1 s2 s3 : Nat} (hit back : Bool) (h1 : s1 + a1 ≤ 1000) (h2 : s2 + a2 ≤ 1000) (h3 : s3 + a3 ≤ 1000) :
  ∃ d1 d2 d3, d1 ≤ 1 ∧ d2 ≤ 1 ∧ d3 ≤ 1 ∧ (⟨a1, a2, a3⟩ : Cts).count hit back = ⟨a1 + d1, a2 + d2, a3 + d3⟩ ∧ (⟨s1 + a1, s2 + a2, s3 + a3⟩ : Cts).count hit back = ⟨s1 + (a1 + d1), s2 + (a2 + d2), s3 + (a3 + d3)⟩ := by
 refine ⟨1, hit.toNat, back.toNat, by omega, by cases hit <;> simp, by cases back <;> simp, ?_, ?_⟩
 ·unfold Cts.count
  simp only [Cts.mk.injEq]
  refine ⟨incN_small (by omega), ?_, ?_⟩
  ·cases hit
   ·rfl
   ·exact incN_small (by omega)
  ·cases back
   ·rfl
   ·exact incN_small (by omega)
 ·unfold Cts.count
  simp only [Cts.mk.injEq]
  refine ⟨by rw [incN_small (by omega)]; omega, ?_, ?_⟩
  ·cases hit
   ·rfl
   ·simp only [cond_true, Bool.toNat_true]; rw [incN_small (by omega)]; omega
  ·cases back
   ·rfl
   ·simp only [cond_true, Bool.toNat_true]; rw [incN_small (by omega)]; omega
set_option maxHeartbeats 400000 in
set_option maxRecDepth 100000 in
theorem shadowEpochs_no (kind room : Int) (l : List ByteArray) (a : Option Addr) (n cp : Nat) (hn : l.length = n) (every : Int) (w : World) (h : Rd w 1 (.slice a n cp) l.length (l.flatMap strE)) (hl : Hid (l.length ≤ maxLen))
  (hg : heavyS 200 l = true ∨ 200 < n ∨ every < 1 ∨ 100 < every ∨ kind < 0 ∨ 5 ≤ kind) :
  Calls Tryz.prog 3 #[.int .i64 kind, .int .i64 room, .slice a n cp, .int .i64 every] w fun e w' => e = .returned (.bool true) ∧ Fr [] w w' := by
 have hv := heavy17 l _ w h hl
 by_cases hh : heavyS 200 l = true
 ·rw [hh] at hv
  have HV := Lib.hid hv
  clear hv hh hg h hn
  go_enter Tryz.func3, Tryz.ntmps3
  go_wp2_with fail
  refine HV.out.mono ?_
  rintro e w1 ⟨rfl, rfl⟩
  go_wp2
  go_ret
  exact ⟨rfl, Fr.refl _ _⟩
 rw [Bool.not_eq_true] at hh
 rw [hh] at hv hg
 have HV := Lib.hid hv
 have hlm := hl.out
 unfold maxLen at hlm
 have hnb : n ≤ 9223372036854775807 := by omega
 clear hv hh h hn hlm hl
 by_cases h1 : 200 < n
 ·have q1 : (200 : Int) < (n : Int) := by omega
  clear hg
  go_enter Tryz.func3, Tryz.ntmps3
  go_wp2_with fail
  refine HV.out.mono ?_
  rintro e w1 ⟨rfl, rfl⟩
  go_wp2
  go_ret
  exact ⟨rfl, Fr.refl _ _⟩
 have q1 : (n : Int) ≤ 200 := by omega
 by_cases h2 : every < 1
 ·clear hg
  go_enter Tryz.func3, Tryz.ntmps3
  go_wp2_with fail
  refine HV.out.mono ?_
  rintro e w1 ⟨rfl, rfl⟩
  go_wp2
  go_ret
  exact ⟨rfl, Fr.refl _ _⟩
 have q2 : 1 ≤ every := by omega
 by_cases h3 : 100 < every
 ·clear hg
  go_enter Tryz.func3, Tryz.ntmps3
  go_wp2_with fail
  refine HV.out.mono ?_
  rintro e w1 ⟨rfl, rfl⟩
  go_wp2
  go_ret
  exact ⟨rfl, Fr.refl _ _⟩
 have q3 : every ≤ 100 := by omega
 by_cases h4 : kind < 0
 ·clear hg
  go_enter Tryz.func3, Tryz.ntmps3
  go_wp2_with fail
  refine HV.out.mono ?_
  rintro e w1 ⟨rfl, rfl⟩
  go_wp2
  go_ret
  exact ⟨rfl, Fr.refl _ _⟩
 have q4 : 0 ≤ kind := by omega
 have h5 : 5 ≤ kind := by
  rcases hg with h | h | h | h | h | h
  ·cases h
  all_goals omega
 clear hg
 go_enter Tryz.func3, Tryz.ntmps3
 go_wp2_with fail
 refine HV.out.mono ?_
 rintro e w1 ⟨rfl, rfl⟩
 go_wp2
 go_ret
 exact ⟨rfl, Fr.refl _ _⟩
/-- What stands in a loop's round. -/
structure EpI (w wr : World) (p B : Nat) (kind : Int) (i n a1 a2 a3 s1 s2 s3 : Nat) (F : List Nat) : Prop where
 sh : ShAny wr p F kind ⟨a1, a2, a3⟩ ⟨s1 + a1, s2 + a2, s3 + a3⟩
 cb : CB wr B s1 s2 s3
 nb : B ∉ F
 ge : Ge w.heap.size F
 gb : w.heap.size ≤ B
 fr : Fr [] w wr
 z : n < i → a1 = 0 ∧ a2 = 0 ∧ a3 = 0
/-- The keys of a row that came in: where each lies. -/
theorem keys_at {w : World} {l : List ByteArray} {a : Option Addr} {n cp m : Nat} (h : Rd w 1 (.slice a n cp) l.length (l.flatMap strE)) (hn : l.length = n) (hg : heavyS m l = false) (hm : n ≤ m) :
  ∀ k, k < n → ∃ (b o : Nat) (s : ByteArray), a = some ⟨b, o, none⟩ ∧ s.size ≤ maxLen ∧ w.cell? ⟨b, o + k, none⟩ = some (.string s) := by
 intro k hk
 obtain ⟨hlen, a', c, hv, hcc⟩ := h
 simp at hv
 obtain ⟨rfl, hv2, rfl⟩ := hv
 rcases hcc with hz | ⟨b, o, rfl, hcell⟩
 ·omega
 ·refine ⟨b, o, l[k], rfl, ?_, str_cell (c := cp) hcell k (by omega)⟩
  have := heavyS_no hg k (by omega) (by omega)
  unfold maxLen
  omega
theorem EpI.epoch {w wr w2 : World} {p B : Nat} {kind : Int} {i n a1 a2 a3 s1 s2 s3 : Nat} {F : List Nat} {o : Obj} (H : EpI w wr p B kind i n a1 a2 a3 s1 s2 s3 F) (hs : ShAny w2 p F kind Cts.zero ⟨s1 + a1, s2 + a2, s3 + a3⟩) (hf : Fr F wr w2) :
  EpI w ((((w2.setCell ⟨B, 0, none⟩ (.int .i64 ((s1 : Int) + (a1 : Int)))).setCell ⟨B, 1, none⟩ (.int .i64 ((s2 : Int) + (a2 : Int)))).setCell ⟨B, 2, none⟩ (.int .i64 ((s3 : Int) + (a3 : Int)))).alloc o) p B kind i n 0 0 0 (s1 + a1) (s2 + a2) (s3 + a3) F := by
 obtain ⟨sh, cb, nb, ge, gb, fr, z⟩ := H
 have hf3 : Fr [B] w2 (((w2.setCell ⟨B, 0, none⟩ (.int .i64 ((s1 : Int) + (a1 : Int)))).setCell ⟨B, 1, none⟩ (.int .i64 ((s2 : Int) + (a2 : Int)))).setCell ⟨B, 2, none⟩ (.int .i64 ((s3 : Int) + (a3 : Int)))) := (((Fr.refl _ _).setCell (by simp) _).setCell (by simp) _).setCell (by simp) _
 have hdB : Dis F [B] := fun b hb hx => by simp at hx; subst hx; exact nb hb
 have hb2 : CB w2 B s1 s2 s3 := hf.get cb nb
 refine ⟨?_, ?_, nb, ge, gb, ((fr.fresh hf ge).trans hf3 (fun _ h _ => h) (fun q hq hl => by simp at hq; omega)).alloc _, fun _ => ⟨rfl, rfl, rfl⟩⟩
 ·exact (hs.fr hf3 hdB).fr0 ((Fr.refl [] _).alloc _)
 ·refine block_alloc_old ?_ _
  rw [block_set_same (block_set_same (block_set_same hb2 _ _) _ _) _ _]
  simp
theorem EpI.access {w wr w3 : World} {p B : Nat} {kind : Int} {i n a1 a2 a3 s1 s2 s3 : Nat} {F : List Nat} {en : Ending} (H : EpI w wr p B kind i n a1 a2 a3 s1 s2 s3 F) (h1 : s1 + a1 ≤ 1000) (h2 : s2 + a2 ≤ 1000) (h3 : s3 + a3 ≤ 1000) (hin : i < n)
  (h : ShAccRet wr p F kind ⟨a1, a2, a3⟩ ⟨s1 + a1, s2 + a2, s3 + a3⟩ en w3) : (∃ b, en = .returned (.bool b)) ∧ ∃ d1 d2 d3 F', d1 ≤ 1 ∧ d2 ≤ 1 ∧ d3 ≤ 1 ∧ EpI w w3 p B kind (i + 1) n (a1 + d1) (a2 + d2) (a3 + d3) s1 s2 s3 F' := by
 obtain ⟨hit, back, rfl, _, F', hs, hsub, hf⟩ := h
 obtain ⟨sh, cb, nb, ge, gb, fr, z⟩ := H
 obtain ⟨d1, d2, d3, e1, e2, e3, c1, c2⟩ := count_sum (a1 := a1) (a2 := a2) (a3 := a3) (s1 := s1) (s2 := s2) (s3 := s3) hit back h1 h2 h3
 rw [c1, c2] at hs
 exact ⟨⟨_, rfl⟩, d1, d2, d3, F', e1, e2, e3, hs, hf.get cb nb, not_sub nb hsub (lt_of_block cb), hsub.ge ge fr.size, gb, fr.fresh hf ge, fun h => by omega⟩
def EpAcc (w wr : World) (p B : Nat) (kind : Int) (i n a1 a2 a3 s1 s2 s3 : Nat) (en : Ending) (w3 : World) : Prop := (∃ b, en = .returned (.bool b)) ∧ ∃ d1 d2 d3 F', d1 ≤ 1 ∧ d2 ≤ 1 ∧ d3 ≤ 1 ∧ EpI w w3 p B kind (i + 1) n (a1 + d1) (a2 + d2) (a3 + d3) s1 s2 s3 F'
theorem EpI.acc {w wr : World} {p B : Nat} {kind : Int} {i n a1 a2 a3 s1 s2 s3 : Nat} {F : List Nat} (H : EpI w wr p B kind i n a1 a2 a3 s1 s2 s3 F) (h1 : s1 + a1 ≤ 1000) (h2 : s2 + a2 ≤ 1000) (h3 : s3 + a3 ≤ 1000) (hin : i < n) (s : ByteArray) (hs : s.size ≤ maxLen) :
  Calls Tryz.prog 18 #[.pointer (some ⟨p, 0, none⟩), .string s] wr (EpAcc w wr p B kind i n a1 a2 a3 s1 s2 s3) :=
 (shany_access H.sh s hs).mono fun _ _ h => H.access h1 h2 h3 hin h
set_option maxHeartbeats 4000000 in
set_option maxRecDepth 100000 in
theorem shadowEpochs_yes (kind room : Int) (r0 : -9223372036854775808 ≤ room) (r1 : room ≤ 9223372036854775807) (l : List ByteArray) (a : Option Addr) (n cp : Nat) (hn : l.length = n) (ev : Nat) (w : World) (h : Rd w 1 (.slice a n cp) l.length (l.flatMap strE)) (hl : Hid (l.length ≤ maxLen))
  (hg1 : heavyS 200 l = false) (hg2 : n ≤ 200) (e1 : 1 ≤ ev) (e2 : ev ≤ 100) (k0 : 0 ≤ kind) (k1 : kind < 5) :
  Calls Tryz.prog 3 #[.int .i64 kind, .int .i64 room, .slice a n cp, .int .i64 ev] w fun e w' => e = .returned (.bool true) ∧ Fr [] w w' := by
 have hv := heavy17 l _ w h hl
 rw [hg1] at hv
 have HV := Lib.hid hv
 have HNEW := Lib.hid (shany_new w kind room k0 k1 r0 r1)
 have HS := Lib.hid (keys_at h hn hg1 (by omega))
 clear hv h hl hg1 hn r0 r1
 go_enter Tryz.func3, Tryz.ntmps3
 go_wp2_with fail
 refine HV.out.mono ?_
 rintro e w1 ⟨rfl, rfl⟩
 go_wp2_with fail
 refine HNEW.out.mono ?_
 rintro e w1 ⟨p, F, rfl, hsh, hge, hf⟩
 have hst : EpI w (w1.alloc (.cells #[.int .i64 0, .int .i64 0, .int .i64 0] 29)) p w1.heap.size kind 0 n 0 0 0 0 0 0 F := by
  refine ⟨hsh.fr0 ((Fr.refl [] _).alloc _), block_alloc_new _ _, fun hb => by have := hsh.lt _ hb; omega, hge, hf.size, hf.alloc _, fun h => by omega⟩
 have HST := Lib.hid hst
 obtain ⟨B, hB⟩ : ∃ B, B = w1.heap.size := ⟨_, rfl⟩
 clear hsh hge hf hst
 go_wp2_with fail
 go_loopw [12] (fun u12 wr => ∃ (i a1 a2 a3 s1 s2 s3 : Nat) (F : List Nat), i ≤ n + 1 ∧ u12 = .int .i64 i ∧ Hid (EpI w wr p w1.heap.size kind i n a1 a2 a3 s1 s2 s3 F) ∧ s1 + a1 ≤ i ∧ s2 + a2 ≤ i ∧ s3 + a3 ≤ i) (fun u12 _ => n + 1 - (intOf u12).toNat)
 case atStart => exact ⟨0, 0, 0, 0, 0, 0, 0, F, by omega, rfl, HST.out, by omega, by omega, by omega⟩
 case round =>
  obtain ⟨i, a1, a2, a3, s1, s2, s3, F, hi, rfl, hE, hs1, hs2, hs3⟩ := hrel
  obtain ⟨kb0, kb1, kb2⟩ := hE.out.cb.cells
  have zb := fun j => free_of_block hE.out.cb j
  by_cases hin : i = n + 1
  ·subst hin
   obtain ⟨z1, z2, z3⟩ := hE.out.z (by omega)
   subst z1 z2 z3
   have HTOT : Hid (∀ (W : World), Fr [] wr W → Calls Tryz.prog 19 #[.pointer (some ⟨p, 0, none⟩)] W fun en w' => en = .returned (.agg #[.int .i64 s1, .int .i64 s2, .int .i64 s3]) ∧ Fr [] wr w') := fun W f =>
    (shany_total (hE.out.sh.fr0 f)).mono fun _ _ h => ⟨h.1, f.same h.2⟩
   have HEP : Hid (∀ (W : World), Fr [] wr W → Calls Tryz.prog 17 #[.pointer (some ⟨p, 0, none⟩)] W fun en w' => en = .returned (.agg #[.int .i64 0, .int .i64 0, .int .i64 0]) ∧ Fr F wr w') := fun W f =>
    (shany_epoch (hE.out.sh.fr0 f)).mono fun _ _ h => ⟨h.1, f.nil.same h.2.2⟩
   have HKN : Hid (∀ (W : World), Fr F wr W → Calls Tryz.prog 20 #[] W fun en w' => en = .returned (.bool true) ∧ Fr F wr w') := fun W f =>
    (known17 W).mono fun _ _ h => ⟨h.1, f.same h.2.nil⟩
   have hnb := hE.out.nb
   go_wp2_with fail
   first
    | (go_region_held3 (fun w' => w'.cell? ⟨w1.heap.size, 0, none⟩ = some (.int .i64 s1) ∧ w'.cell? ⟨w1.heap.size, 1, none⟩ = some (.int .i64 s2) ∧ w'.cell? ⟨w1.heap.size, 2, none⟩ = some (.int .i64 s3))
      (first
       | exact ⟨kb0, kb1, kb2⟩
       | exact ⟨cell_fr (F := []) (w := wr) (by first | assumption | exact (Fr.refl [] _).drew) kb0 (by simp), cell_fr (F := []) (w := wr) (by first | assumption | exact (Fr.refl [] _).drew) kb1 (by simp), cell_fr (F := []) (w := wr) (by first | assumption | exact (Fr.refl [] _).drew) kb2 (by simp)⟩
       | exact ⟨cell_fr (F := F) (w := wr) (by assumption) kb0 hnb, cell_fr (F := F) (w := wr) (by assumption) kb1 hnb, cell_fr (F := F) (w := wr) (by assumption) kb2 hnb⟩)
      (first
       | (go_at_call 19; refine (HTOT.out _ (by first | assumption | exact (Fr.refl [] _).drew)).mono ?_; rintro en w5 ⟨rfl, f5⟩)
       | (go_at_call 17; refine (HEP.out _ (by first | assumption | exact (Fr.refl [] _).drew)).mono ?_; rintro en w6 ⟨rfl, f6⟩)
       | (go_at_call 20; refine (HKN.out _ (by assumption)).mono ?_; rintro en w7 ⟨rfl, f7⟩)))
    | fail
   have HFIN := Lib.hid (hE.out.fr.fresh (F := F) (by assumption) hE.out.ge)
   clear kb0 kb1 kb2
   go_wp2
   go_ret
   exact ⟨by simp, HFIN.out⟩
  ·have hle : (i : Int) ≤ (n : Int) := by omega
   have HEP : Hid (Calls Tryz.prog 17 #[.pointer (some ⟨p, 0, none⟩)] wr fun en w' => en = .returned (.agg #[.int .i64 a1, .int .i64 a2, .int .i64 a3]) ∧ ShAny w' p F kind Cts.zero ⟨s1 + a1, s2 + a2, s3 + a3⟩ ∧ Fr F wr w') := shany_epoch hE.out.sh
   have hnb := hE.out.nb
   have hbl : w1.heap.size < wr.heap.size := lt_of_block hE.out.cb
   have hs1b : s1 + a1 ≤ 1000 := by omega
   have hs2b : s2 + a2 ≤ 1000 := by omega
   have hs3b : s3 + a3 ≤ 1000 := by omega
   by_cases hi0 : i = n
   ·subst hi0
    go_wp2_with fail
    refine HEP.out.mono ?_
    rintro en w2 ⟨rfl, hs2', hf2⟩
    replace kb0 := cell_fr hf2 kb0 hnb
    replace kb1 := cell_fr hf2 kb1 hnb
    replace kb2 := cell_fr hf2 kb2 hnb
    have zb2 : ∀ j, w2.frozen? ⟨w1.heap.size, j, none⟩ = false := fun j => free_of_block (hf2.get hE.out.cb hnb) j
    have hbl2 : w1.heap.size < w2.heap.size := Nat.lt_of_lt_of_le hbl hf2.size
    have HN := Lib.hid fun (o : Obj) => hE.out.epoch (o := o) hs2' hf2
    clear hs2' hf2 zb
    go_wp2_with fail
    refine ⟨⟨i + 1, 0, 0, 0, s1 + a1, s2 + a2, s3 + a3, F, by omega, by go_num, ?_, by omega, by omega, by omega⟩, by simp [intOf]⟩
    obtain ⟨x1, x2, x3, x4, x5, x6, x7⟩ := HN.out (.cells #[.int .i64 a1, .int .i64 a2, .int .i64 a3] 29)
    exact ⟨x1, x2, x3, x4, x5, x6, fun _ => ⟨rfl, rfl, rfl⟩⟩
   ·have hin' : i < n := by omega
    have q1 : ((i : Int) == (n : Int)) = false := by rw [beq_eq_false_iff_ne]; omega
    have q1b : (i == n) = false := by rw [beq_eq_false_iff_ne]; omega
    have q2 : (i : Int) < (n : Int) := by omega
    obtain ⟨b, o, s, rfl, hsz, hcell⟩ := HS.out i hin'
    have hcell0 := hcell
    replace hcell := cell_fr hE.out.fr hcell (by simp)
    by_cases hm : i % ev = 0
    ·have q3 : ((i : Int) % (ev : Int) == 0) = true := by rw [beq_iff_eq, ← Int.natCast_emod, hm]; rfl
     go_wp2_with fail
     refine HEP.out.mono ?_
     rintro en w2 ⟨rfl, hs2', hf2⟩
     replace kb0 := cell_fr hf2 kb0 hnb
     replace kb1 := cell_fr hf2 kb1 hnb
     replace kb2 := cell_fr hf2 kb2 hnb
     have zb2 : ∀ j, w2.frozen? ⟨w1.heap.size, j, none⟩ = false := fun j => free_of_block (hf2.get hE.out.cb hnb) j
     have hbl2 : w1.heap.size < w2.heap.size := Nat.lt_of_lt_of_le hbl hf2.size
     have hN := fun (o : Obj) => hE.out.epoch (o := o) hs2' hf2
     have HAC := Lib.hid fun (o : Obj) => (hN o).acc (by omega) (by omega) (by omega) hin' s hsz
     have hcell2 := fun (o : Obj) => cell_fr (hN o).fr hcell0 (by simp)
     clear hs2' hf2 zb hN
     go_wp2_with fail
     refine (HAC.out _).mono ?_
     rintro en w4 ⟨⟨bb, rfl⟩, d1, d2, d3, F', c1, c2, c3, hE2⟩
     have HE2 := Lib.hid hE2
     clear hE2 kb0 kb1 kb2 hcell2
     go_wp2_with fail
     exact ⟨⟨i + 1, 0 + d1, 0 + d2, 0 + d3, s1 + a1, s2 + a2, s3 + a3, F', by omega, by go_num, HE2.out, by omega, by omega, by omega⟩, by simp [intOf]; omega⟩
    ·have q3 : ((i : Int) % (ev : Int) == 0) = false := by
      rw [beq_eq_false_iff_ne, ← Int.natCast_emod]
      omega
     have HAC := Lib.hid (hE.out.acc hs1b hs2b hs3b hin' s hsz)
     clear kb0 kb1 kb2 zb
     go_wp2_with fail
     refine HAC.out.mono ?_
     rintro en w4 ⟨⟨bb, rfl⟩, d1, d2, d3, F', c1, c2, c3, hE2⟩
     have HE2 := Lib.hid hE2
     clear hE2
     go_wp2_with fail
     exact ⟨⟨i + 1, a1 + d1, a2 + d2, a3 + d3, s1, s2, s3, F', by omega, by go_num, HE2.out, by omega, by omega, by omega⟩, by simp [intOf]; omega⟩
theorem shadowEpochs (kind room : Int) (r0 : -9223372036854775808 ≤ room) (r1 : room ≤ 9223372036854775807) (l : List ByteArray) (a : Option Addr) (cp : Nat) (every : Int) (w : World) (h : Rd w 1 (.slice a l.length cp) l.length (l.flatMap strE)) (hl : l.length ≤ maxLen) :
  Calls Tryz.prog 3 #[.int .i64 kind, .int .i64 room, .slice a l.length cp, .int .i64 every] w fun e w' => e = .returned (.bool true) ∧ Fr [] w w' := by
 by_cases hg : heavyS 200 l = true ∨ 200 < l.length ∨ every < 1 ∨ 100 < every ∨ kind < 0 ∨ 5 ≤ kind
 ·exact shadowEpochs_no kind room l a l.length cp rfl every w h hl hg
 ·have h1 : heavyS 200 l = false := by
   cases hh : heavyS 200 l with
   | false => rfl
   | true => exact absurd (.inl hh) hg
  have h2 : ¬ (200 < l.length ∨ every < 1 ∨ 100 < every ∨ kind < 0 ∨ 5 ≤ kind) := fun x => hg (.inr x)
  obtain ⟨ev, rfl⟩ := Int.eq_ofNat_of_zero_le (show 0 ≤ every by omega)
  exact shadowEpochs_yes kind room r0 r1 l a l.length cp rfl ev w h hl h1 (by omega) (by omega) (by omega) (by omega) (by omega)
end Go.Proofs.YtphlancijlljcaaGreat
