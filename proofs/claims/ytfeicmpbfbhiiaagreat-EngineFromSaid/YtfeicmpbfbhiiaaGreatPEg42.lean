/- Texts of a proof about the given program, those parts that this claim reaches. -/
import Derived.Test.YtfeicmpbfbhiiaaGreatPEg41
import Derived.Test.YtfeicmpbfbhiiaaGreatPEg36
import Derived.Test.YtfeicmpbfbhiiaaGreatPEg37
import Derived.Test.YtfeicmpbfbhiiaaGreatPEg34
set_option linter.unusedVariables false
set_option linter.unusedSimpArgs false
namespace Go.Proofs.YtfeicmpbfbhiiaaGreat
open Go.RowKit
attribute [local go_sem ↓] Go.wp_at_zero Go.wp_at_succ
theorem Rd.strAt {w : World} {a : Option Addr} {n c i : Nat} {l : List ByteArray} (h : Rd w 1 (.slice a n c) l.length (l.map Value.string)) (hn : l.length = n) (hi : i < l.length) : ∃ g o, a = some ⟨g, o, none⟩ ∧ w.cell? ⟨g, o + i, none⟩ = some (.string l[i]) := by
 obtain ⟨_, a', c', hv, h⟩ := h
 simp at hv
 obtain ⟨rfl, _, rfl⟩ := hv
 rcases h with hz | ⟨b, o, rfl, hc⟩
 ·omega
 ·exact ⟨b, o, rfl, hc i _ (by simp [hi])⟩
set_option maxRecDepth 100000 in
theorem ennew_bad (w : World) (k room : Int) (hk : ¬ (0 ≤ k ∧ k < 5)) : Calls Tryz.prog 39 #[.int .i64 k, .int .i64 room] w fun en w' => en = .returned (.tuple #[.nilIface, .int .i64 4]) ∧ Fr [] w w' := by
 have b0 : (k == 0) = false := by rw [beq_eq_false_iff_ne]; omega
 have b1 : (k == 1) = false := by rw [beq_eq_false_iff_ne]; omega
 have b2 : (k == 2) = false := by rw [beq_eq_false_iff_ne]; omega
 have b3 : (k == 3) = false := by rw [beq_eq_false_iff_ne]; omega
 have b4 : (k == 4) = false := by rw [beq_eq_false_iff_ne]; omega
 go_enter Tryz.func39, Tryz.ntmps39
 go_wp2
 go_ret2
 exact ⟨rfl, Fr.refl _ _⟩
set_option maxRecDepth 100000 in
theorem enFrom_bad (w : World) (k room : Int) (hk : ¬ (0 ≤ k ∧ k < 5)) (v : Value) : Calls Tryz.prog 15 #[.int .i64 k, .int .i64 room, v] w fun en w' => en = .returned (.tuple #[.nilIface, .int .i64 4]) ∧ Fr [] w w' := by
 have HC := Lib.hid (ennew_bad w k room hk)
 go_enter Tryz.func15, Tryz.ntmps15
 go_wp2_with fail
 refine HC.out.mono ?_
 rintro en w1 ⟨rfl, f⟩
 go_wp2
 go_ret2
 exact ⟨rfl, f⟩
set_option maxRecDepth 100000 in
/-- The keys' row is new memory or at least none of the engine's. -/
theorem enFromR (w : World) (k : Nat) (hk : k < 5) (room : Int) (h0 : -9223372036854775808 ≤ room) (h1 : room ≤ 9223372036854775807) (v : Value) (l : List ByteArray) (hv : Rd w 1 v l.length (l.map Value.string)) (hl : l.length ≤ 100000) (hz : ∀ k, k ∈ l → k.size ≤ maxLen) :
  Calls Tryz.prog 15 #[.int .i64 k, .int .i64 room, v] w (EnNew w (loadAll (En.new k room) l)) := by
 have hkd := En.new_kd k hk room
 have HN := ennew w k hk room h0 h1
 generalize En.new k room = s at HN hkd ⊢
 subst hkd
 have hkl := fun i => loadAll_kd (l.take i) s
 have HLD := Lib.hid fun (i : Nat) W e F (h : EE W e F (loadAll s (l.take i))) (hi : i < l.length) => (hkl i) ▸ enLoad h l[i] (hz _ (List.getElem_mem hi))
 have hfin := loadAll_kd l s
 unfold EnNew at HN
 unfold EnNew
 rw [hfin]
 obtain ⟨hm, hc⟩ := findsLoad s
 generalize kTy s.kd = ty at HN hm ⊢
 generalize kLoad s.kd = f at HLD hm hc
 generalize s.kd = k at HN ⊢
 have HN := Lib.hid HN
 have HV := Lib.hid hv
 obtain ⟨_, va, vc, hvf, _⟩ := hv
 obtain ⟨n, hn⟩ : ∃ n, l.length = n := ⟨_, rfl⟩
 rw [hn] at hvf hl
 subst hvf
 have HNN := Lib.hid hn
 clear hkl hfin hz hn hk
 go_enter Tryz.func15, Tryz.ntmps15
 go_wp2_with fail
 refine HN.out.mono ?_
 rintro en w1 ⟨e, F, rfl, he, hge, hf⟩
 have HE := Lib.hid (And.intro he (And.intro hge hf))
 clear he hge hf
 go_wp2_with fail
 go_loopw [23] (fun u23 wr => ∃ (i : Nat) (F' : List Nat), i ≤ n ∧ u23 = .int .i64 i ∧ Hid (EE wr e F' (loadAll s (l.take i)) ∧ Ge w.heap.size F' ∧ Fr [] w wr)) (fun u23 _ => n - (intOf u23).toNat)
 case atStart => exact ⟨0, F, Nat.zero_le _, rfl, HE⟩
 case round =>
  obtain ⟨i, F', hi, rfl, hI⟩ := hrel
  by_cases hlt : i < n
  ·have hil : i < l.length := by rw [HNN.out]; exact hlt
   obtain ⟨gb, go, rfl, x0⟩ := Rd.strAt HV.out HNN.out hil
   replace x0 := cell_fr hI.out.2.2 x0 (by simp)
   have HL1 := Lib.hid (HLD.out i wr e F' hI.out.1 hil)
   have HSN := Lib.hid (loadAll_snoc s l i hil)
   obtain ⟨key, hke⟩ : ∃ k, l[i] = k := ⟨_, rfl⟩
   rw [hke] at x0 HL1 HSN
   have q1 : (i : Int) < (n : Int) := by omega
   obtain ⟨b1, s1, hld⟩ : ∃ b y, (loadAll s (l.take i)).load key = (b, y) := ⟨_, _, rfl⟩
   rw [hld] at HL1 HSN
   clear hke hld
   go_wp2_with fail
   refine HL1.out.mono ?_
   rintro en w2 ⟨rfl, F2, a1, a2, a3⟩
   have HI2 : Hid (EE w2 e F2 (loadAll s (l.take (i + 1))) ∧ Ge w.heap.size F2 ∧ Fr [] w w2) := by
    refine ⟨?_, a2.ge hI.out.2.1 hI.out.2.2.size, hI.out.2.2.fresh a3 hI.out.2.1⟩
    rw [HSN.out]
    exact a1
   clear a1 a2 a3 x0
   go_wp2
   exact ⟨⟨i + 1, F2, by omega, by go_num, HI2⟩, by simp [intOf]; omega⟩
  ·have : i = n := by omega
   subst this
   go_wp2
   go_ret2
   have e1 : l.take i = l := by rw [← HNN.out]; exact List.take_length
   obtain ⟨c1, c2, c3⟩ := hI.out
   rw [e1] at c1
   exact ⟨e, F', rfl, c1, c2, c3⟩
set_option maxRecDepth 100000 in
theorem r15fromR (w : World) (k : Nat) (hk : k < 5) (room : Int) (v : Value) (l : List ByteArray) (hv : Rd w 1 v l.length (l.map Value.string)) (hl : l.length ≤ 100000) (hz : ∀ k, k ∈ l → k.size ≤ maxLen) :
  Calls Tryz.prog 16 #[.int .i64 k, .int .i64 room, v] w (New15 w (loadAll (En.new k room) l)) := by
 have HN := Lib.hid (r15new w k hk room)
 generalize En.new k room = s at HN ⊢
 have HLD := Lib.hid fun (i : Nat) W x F (h : RE15 W x F (loadAll s (l.take i))) (hi : i < l.length) => r15load h l[i] (hz _ (List.getElem_mem hi))
 have HV := Lib.hid hv
 obtain ⟨_, va, vc, hvf, _⟩ := hv
 obtain ⟨n, hn⟩ : ∃ n, l.length = n := ⟨_, rfl⟩
 rw [hn] at hvf hl
 subst hvf
 have HNN := Lib.hid hn
 clear hz hn hk
 go_enter Tryz.func16, Tryz.ntmps16
 go_wp2_with fail
 refine HN.out.mono ?_
 rintro en w1 ⟨x, F, rfl, he, hge, hf⟩
 have HE := Lib.hid (And.intro he (And.intro hge hf))
 clear he hge hf
 go_wp2_with fail
 go_loopw [10] (fun u10 wr => ∃ (i : Nat) (F' : List Nat), i ≤ n ∧ u10 = .int .i64 i ∧ Hid (RE15 wr x F' (loadAll s (l.take i)) ∧ Ge w.heap.size F' ∧ Fr [] w wr)) (fun u10 _ => n - (intOf u10).toNat)
 case atStart => exact ⟨0, F, Nat.zero_le _, rfl, HE⟩
 case round =>
  obtain ⟨i, F', hi, rfl, hI⟩ := hrel
  by_cases hlt : i < n
  ·have hil : i < l.length := by rw [HNN.out]; exact hlt
   obtain ⟨gb, go, rfl, x0⟩ := Rd.strAt HV.out HNN.out hil
   replace x0 := cell_fr hI.out.2.2 x0 (by simp)
   have HL1 := Lib.hid (HLD.out i wr x F' hI.out.1 hil)
   have HSN := Lib.hid (loadAll_snoc s l i hil)
   obtain ⟨key, hke⟩ : ∃ k, l[i] = k := ⟨_, rfl⟩
   rw [hke] at x0 HL1 HSN
   have q1 : (i : Int) < (n : Int) := by omega
   obtain ⟨b1, s1, hld⟩ : ∃ b y, (loadAll s (l.take i)).load key = (b, y) := ⟨_, _, rfl⟩
   rw [hld] at HL1 HSN
   clear hke hld
   go_wp2_with fail
   refine HL1.out.mono ?_
   rintro en w2 ⟨rfl, F2, a1, a2, a3⟩
   have HI2 : Hid (RE15 w2 x F2 (loadAll s (l.take (i + 1))) ∧ Ge w.heap.size F2 ∧ Fr [] w w2) := by
    refine ⟨?_, a2.ge hI.out.2.1 hI.out.2.2.size, hI.out.2.2.fresh a3 hI.out.2.1⟩
    rw [HSN.out]
    exact a1
   clear a1 a2 a3 x0
   go_wp2
   exact ⟨⟨i + 1, F2, by omega, by go_num, HI2⟩, by simp [intOf]; omega⟩
  ·have : i = n := by omega
   subst this
   go_wp2
   go_ret2
   have e1 : l.take i = l := by rw [← HNN.out]; exact List.take_length
   obtain ⟨c1, c2, c3⟩ := hI.out
   rw [e1] at c1
   exact ⟨x, F', rfl, c1, c2, c3⟩
end Go.Proofs.YtfeicmpbfbhiiaaGreat
set_option linter.unusedVariables false
set_option linter.unusedSimpArgs false
namespace Go.Proofs.YtfeicmpbfbhiiaaGreat
open Go.RowKit
attribute [local go_sem ↓] Go.wp_at_zero Go.wp_at_succ
theorem flat1 (l : List ByteArray) : l.flatMap (fun z : ByteArray => [Value.string z]) = l.map Value.string := by
 induction l with
 | nil => rfl
 | cons a r ih => simp [List.flatMap_cons, ih]
set_option maxHeartbeats 1000000 in
set_option maxRecDepth 100000 in
theorem engineFrom (k room : Int) (c0 : -9223372036854775808 ≤ room) (c1 : room ≤ 9223372036854775807) (l : List ByteArray) (a : Option Addr) (n cp : Nat) (hn : l.length = n) (w : World)
  (h : Rd w 1 (.slice a n cp) l.length (l.map Value.string)) (hl : Hid (l.length ≤ maxLen)) : Calls Tryz.prog 3 #[.int .i64 k, .int .i64 room, .slice a n cp] w (fun en w' => en = .returned (.bool true) ∧ Fr [] w w') := by
 by_cases h150 : 150 < n
 ·have q : (150 : Int) < (n : Int) := by omega
  clear h
  go_enter Tryz.func3, Tryz.ntmps3
  go_wp2
  go_ret
  exact ⟨rfl, Fr.refl _ _⟩
 have q0 : ¬ (150 : Int) < (n : Int) := by omega
 have HV := Lib.hid h
 have HN := Lib.hid hn
 clear h hn hl
 go_enter Tryz.func3, Tryz.ntmps3
 go_wp2
 go_loopw [7] (fun u7 wr => ∃ j : Nat, j ≤ n ∧ u7 = .int .i64 j ∧ wr = w ∧ Hid (∀ i (hi : i < l.length), i < j → l[i].size ≤ 40)) (fun u7 _ => n - (intOf u7).toNat)
 case atStart => exact ⟨0, Nat.zero_le _, rfl, rfl, fun i hi h => by omega⟩
 case round =>
  obtain ⟨j, hj, rfl, rfl, hS⟩ := hrel
  by_cases hlt : j < n
  ·have hjl : j < l.length := by rw [HN.out]; exact hlt
   obtain ⟨g, o, rfl, x0⟩ := Rd.strAt HV.out HN.out hjl
   have HK : Hid (∀ m, l[j].size = m → m ≤ 40 → ∀ i (hi : i < l.length), i < j + 1 → l[i].size ≤ 40) := fun m hm h4 i hi hij => by
    by_cases e : i = j
    ·subst e; omega
    ·exact hS.out i hi (by omega)
   have q1 : (j : Int) < (n : Int) := by omega
   by_cases h40 : 40 < l[j].size
   ·obtain ⟨key, hke⟩ : ∃ k, l[j] = k := ⟨_, rfl⟩
    rw [hke] at x0 h40
    have q2 : (40 : Int) < (key.size : Int) := by omega
    clear HK hke
    go_wp2
    go_ret
    exact ⟨rfl, Fr.refl _ _⟩
   ·have HK2 := Lib.hid (HK.out _ rfl (by omega))
    obtain ⟨key, hke⟩ : ∃ k, l[j] = k := ⟨_, rfl⟩
    rw [hke] at x0 h40
    have q2 : ¬ (40 : Int) < (key.size : Int) := by omega
    clear HK hke
    go_wp2
    exact ⟨⟨j + 1, by omega, by go_num, by first | rfl | trivial, HK2⟩, by simp [intOf]; omega⟩
  ·have : n = j := by omega
   subst this
   have HSH : Hid (Short 40 l) := fun x hx => by
    obtain ⟨i, hi, rfl⟩ := List.mem_iff_getElem.1 hx
    exact hS.out i hi (by rw [← HN.out]; exact hi)
   clear hS
   by_cases hk : 0 ≤ k ∧ k < 5
   ·obtain ⟨kk, rfl⟩ := Int.eq_ofNat_of_zero_le hk.1
    have hkk : kk < 5 := by omega
    have hn150 : l.length ≤ 100000 := by rw [HN.out]; omega
    have hmx : ∀ x ∈ l, x.size ≤ maxLen := fun x hx => Nat.le_trans (HSH.out x hx) (by decide)
    have HA := Lib.hid (enFromR wr kk hkk room c0 c1 _ l HV.out hn150 hmx)
    have HR := Lib.hid fun (W : World) (f : Fr [] wr W) => r15fromR W kk hkk room _ l (Rd.fr0 HV.out f) hn150 hmx
    have hfr : (loadAll (En.new kk room) l).Fresh := En.Fresh.all HSH.out (En.Fresh.new kk room)
    generalize loadAll (En.new kk room) l = s at HA HR hfr
    have HFS := Lib.hid hfr
    clear hn150 hmx hkk hfr
    go_wp2_with fail
    refine HA.out.mono ?_
    rintro en w1 ⟨e, F, rfl, he, _, f1⟩
    have HE := Lib.hid he
    have F1 := Lib.hid f1
    clear f1 he
    go_wp2_with fail
    refine (HR.out _ F1.out).mono ?_
    rintro en w2 ⟨x, G, rfl, hx, _, f2⟩
    have HX := Lib.hid hx
    have HE2 := Lib.hid (HE.out.fr f2 (fun _ _ => by simp))
    have F2 := Lib.hid (Fr.same F1.out f2)
    clear hx f2 HE F1
    have HLS := Lib.hid fun (W : World) (f : Fr [] w2 W) => enWords (HE2.out.fr f (fun _ _ => by simp)) HFS.out.tx
    have HRS := Lib.hid fun (W : World) (f : Fr [] w2 W) => r15state (HX.out.fr0 f) HFS.out.tx
    have HLL := Lib.hid fun (W : World) (f : Fr [] w2 W) => enLen (HE2.out.fr f (fun _ _ => by simp))
    have HRL := Lib.hid fun (W : World) (f : Fr [] w2 W) => r15len (HX.out.fr0 f)
    have HLG := Lib.hid fun (W : World) (f : Fr [] w2 W) => enGhosts (HE2.out.fr f (fun _ _ => by simp)) HFS.out
    obtain ⟨hm1, hc1⟩ := findsState s
    obtain ⟨hm2, hc2⟩ := findsLen s
    obtain ⟨hm3, hc3⟩ := findsGhosts s
    clear HE2 HX HFS
    generalize s.words = t at HLS HRS
    generalize s.len = sl at HLL HRL
    generalize kTy s.kd = ty at *
    generalize kState s.kd = f1 at HLS hm1 hc1
    generalize kLen s.kd = f2 at HLL hm2 hc2
    generalize kGhosts s.kd = f3 at HLG hm3 hc3
    go_wp2_with fail
    refine (HLS.out _ (Fr.refl _ _)).mono ?_
    rintro en w3 ⟨rfl, g3⟩
    have G3 := Lib.hid g3
    clear g3
    go_wp2_with fail
    refine (HRS.out _ G3.out).mono ?_
    rintro en w4 ⟨rfl, g4⟩
    have G4 := Lib.hid (Fr.same G3.out g4)
    clear g4 G3
    go_wp2_with fail
    refine (HLL.out _ G4.out).mono ?_
    rintro en w5 ⟨rfl, g5⟩
    have G5 := Lib.hid (Fr.same G4.out g5)
    clear g5 G4
    go_wp2_with fail
    refine (HRL.out _ G5.out).mono ?_
    rintro en w6 ⟨rfl, g6⟩
    have G6 := Lib.hid (Fr.same G5.out g6)
    clear g6 G5
    go_wp2_with fail
    refine (HLG.out _ G6.out).mono ?_
    rintro en w7 ⟨vg, rfl, hg, g7⟩
    obtain ⟨ga, gc, hgv⟩ := hg.1.form
    subst hgv
    have G7 := Lib.hid (Fr.same G6.out g7)
    clear g7 G6 hg
    go_wp2_with fail
    refine (known15 _).mono ?_
    rintro en w8 ⟨rfl, rfl⟩
    go_wp2
    go_ret
    exact ⟨rfl, Fr.same F2.out G7.out⟩
   ·have HB := Lib.hid fun (W : World) v => enFrom_bad W k room hk v
    have HR := Lib.hid fun (W : World) v => r15from_bad W k room hk v
    go_wp2_with fail
    refine (HB.out _ _).mono ?_
    rintro en w1 ⟨rfl, f1⟩
    have F1 := Lib.hid f1
    clear f1
    go_wp2_with fail
    refine (HR.out _ _).mono ?_
    rintro en w2 ⟨rfl, f2⟩
    have F2 := Lib.hid (Fr.same F1.out f2)
    clear f2
    go_wp2_with fail
    refine (known15 _).mono ?_
    rintro en w3 ⟨rfl, rfl⟩
    go_wp2
    go_ret
    exact ⟨rfl, F2.out⟩
end Go.Proofs.YtfeicmpbfbhiiaaGreat
