/- Texts of a proof about the given program, those parts that this claim reaches. -/
import Derived.Test.YtfeicmpbfbhiiaaGreatPEg05
set_option linter.unusedVariables false
set_option linter.unusedSimpArgs false
namespace Go.Proofs.YtfeicmpbfbhiiaaGreat
open Go.RowKit
attribute [local go_sem ↓] Go.wp_at_zero Go.wp_at_succ
/-- No key is too long. -/
def KSz {α : Type} (T : Nat → Pl α) (m : Nat) : Prop := ∀ i, i < m → (T i).key.size ≤ maxLen
theorem KSz.up {α : Type} {T : Nat → Pl α} {m : Nat} (h : KSz T m) (i : Nat) (x : Pl α) (hx : x.key.size ≤ maxLen) : KSz (up T i x) m := by
 intro j hj
 by_cases e : j = i
 ·rw [e, up_same]; exact hx
 ·rw [up_other _ _ _ _ e]; exact h j hj
theorem made_flat (zc : Array Value) (s : Nat) (hs : zc.size = s) (h0 : 0 < s) (m : Nat) : (madeCells zc (m * s)).toList = (List.range m).flatMap fun _ => zc.toList := by
 have hF : ∀ i : Nat, ((fun _ : Nat => zc.toList) i).length = s := fun _ => by simp [hs]
 apply List.ext_getElem?
 intro k
 by_cases hk : k < m * s
 ·have hi : k / s < m := by rw [Nat.div_lt_iff_lt_mul h0]; exact hk
  have hr : k % s < s := Nat.mod_lt _ h0
  have e1 : k = k / s * s + k % s := by rw [Nat.mul_comm]; exact (Nat.div_add_mod k s).symm
  conv => rhs; rw [e1]
  rw [range_get hF m (k / s) (k % s) hi hr]
  simp [madeCells, hk, hs]
  rw [Array.getElem?_eq_getElem (by omega)]
  simp
  rw [getElem!_pos zc (k % s) (by omega)]
 ·rw [List.getElem?_eq_none (by simp [madeCells]; omega), List.getElem?_eq_none (by rw [range_len hF]; omega)]
theorem stI_lt (m : Nat) (hm : 0 < m) (k : ByteArray) : stI m k < m := placeN_lt _ _ hm
theorem infoPlI : (Tryz.prog.info? 272).map (fun i => (i.zero, i.size, i.bytes)) = some (some (.agg (encI ⟨0, ⟨#[]⟩, 0⟩).toArray), 3, 32) := by kernel_rfl
def IRepI (w : World) (p : Nat) (F : List Nat) (M : ByteArray → Option (Nat)) (n : Nat) : Prop :=
 ∃ (g off c m : Nat) (T : Nat → Pl (Nat)) (used : Nat), F = [p, g] ∧ IRawI w p g off c m T n used ∧ TInv m T (stI m) M n used ∧ 2 * used ≤ m ∧ m ≤ 500000 ∧ KSz T m
theorem IRepI.fr {w w' : World} {p n : Nat} {F G : List Nat} {M : ByteArray → Option (Nat)} (h : IRepI w p F M n) (k : Fr G w w') (hd : Dis F G) : IRepI w' p F M n := by
 obtain ⟨g, off, c, m, T, used, rfl, hr, ht⟩ := h
 exact ⟨g, off, c, m, T, used, rfl, hr.keep k (hd p (by simp)) (hd g (by simp)), ht⟩
theorem IRepI.lt {w : World} {p n : Nat} {F : List Nat} {M : ByteArray → Option (Nat)} (h : IRepI w p F M n) : Lt F w := by
 obtain ⟨g, off, c, m, T, used, rfl, hr, ht⟩ := h
 intro b hb
 simp at hb
 rcases hb with rfl | rfl
 ·exact lt_of_block hr.2.1
 ·exact hr.2.2.lt b (by simp [Value.ownBlock])
theorem newI_raw (w : World) (m : Nat) (hm : m ≤ 1000000) : Sl (w.alloc (.cells (madeCells (encI ⟨0, ⟨#[]⟩, 0⟩).toArray (m * 3)) 272)) 272 3 (.slice (some ⟨w.heap.size, 0, none⟩) m m) m (tblI (fun _ => ⟨0, ⟨#[]⟩, 0⟩) m) := by
 have e := made_flat (encI ⟨0, ⟨#[]⟩, 0⟩).toArray 3 rfl (by omega) m
 have h := Sl.built (size := 3) (e := 272) w (madeCells (encI ⟨0, ⟨#[]⟩, 0⟩).toArray (m * 3)) m (by simp [madeCells]) (by unfold maxLen; omega)
 rw [e] at h
 exact h
theorem idxNewI (w : World) : Calls Tryz.prog 157 #[.int .u64 0] w fun e w' => ∃ p F, e = .returned (.pointer (some ⟨p, 0, none⟩)) ∧ IRepI w' p F (fun _ => none) 0 ∧ Ge w.heap.size F ∧ Fr [] w w' := by
 obtain ⟨i0, hii, hz0, hz1, hz2⟩ := info_parts2 infoPlI
 have hk := run_make (P := Tryz.prog) w 261 272 i0 _ Tryz.underlying261 hii hz0 .i64 .i64 8 8 (by decide) (Int.le_refl _) (by rw [hz2]; decide) (by decide)
 rw [hz1] at hk
 have hs := newI_raw w 8 (by omega)
 obtain ⟨cur, hcur⟩ : ∃ cur, madeCells (encI ⟨0, ⟨#[]⟩, 0⟩).toArray (8 * 3) = cur := ⟨_, rfl⟩
 rw [hcur] at hs
 have hk2 : (Instr.makeSlice 261 (.int .i64 8) (.int .i64 8)).run Tryz.prog w = .ok (.slice (some ⟨w.heap.size, 0, none⟩) 8 8) (w.alloc (.cells cur 272)) := by
  rw [← hcur]; exact hk
 have HS := Lib.hid hs
 clear hk hcur hs hz0
 go_enter Tryz.func157, Tryz.ntmps157
 go_wp2
 go_ret
 have b2 := block_alloc_new (w.alloc (.cells cur 272)) (.cells #[.int .u64 0, .slice (some ⟨w.heap.size, 0, none⟩) 8 8, .int .i64 0, .int .i64 0] 263)
 rw [World.size_alloc] at b2
 refine ⟨w.heap.size + 1, [w.heap.size + 1, w.heap.size], rfl, ⟨w.heap.size, 0, 8, 8, _, 0, rfl, ⟨by omega, b2, HS.out.fr ((Fr.refl [] _).alloc _) (fun b _ => by simp)⟩, TInv.new 8 (by omega) _ (stI_lt 8 (by omega)) 0 ⟨#[]⟩, by omega, by omega, fun _ _ => Nat.zero_le _⟩, by intro b hb; simp at hb; omega, ((Fr.refl [] w).alloc _).alloc _⟩
set_option maxRecDepth 100000 in
set_option maxHeartbeats 1000000 in
theorem growsI {w : World} {p g off c m n used : Nat} {T : Nat → Pl (Nat)} {M : ByteArray → Option (Nat)} (H : IRawI w p g off c m T n used) (ht : TInv m T (stI m) M n used) (hm : m ≤ 1000000) (hn1 : 1 ≤ n) (hn : n ≤ 100000) (hk : KSz T m) :
  Calls Tryz.prog 239 #[.pointer (some ⟨p, 0, none⟩)] w fun e w' => e = .returned (.tuple #[]) ∧ ∃ g', IRepI w' p [p, g'] M n ∧ w.heap.size ≤ g' ∧ Fr [p] w w' := by
 obtain ⟨i0, hii, hz0, hz1, hz2⟩ := info_parts2 infoPlI
 have hmk := run_make (P := Tryz.prog) w 261 272 i0 _ Tryz.underlying261 hii hz0 .i64 .i64 (4 * ((n : Int) + 1)) (4 * ((n : Int) + 1)) (by omega) (Int.le_refl _) (by rw [hz2]; omega) (by omega)
 obtain ⟨m', hm'⟩ : ∃ m', 4 * (n + 1) = m' := ⟨_, rfl⟩
 have em : (4 * ((n : Int) + 1)).toNat = m' := by omega
 rw [hz1, em] at hmk
 have hs := fun (W : World) (hW : W.heap.size = w.heap.size) => hW ▸ newI_raw W m' (by omega)
 obtain ⟨cur, hcur⟩ : ∃ cur, madeCells (encI ⟨0, ⟨#[]⟩, 0⟩).toArray (m' * 3) = cur := ⟨_, rfl⟩
 rw [hcur] at hs
 have hk2 : (Instr.makeSlice 261 (.int .i64 (4 * ((n : Int) + 1))) (.int .i64 (4 * ((n : Int) + 1)))).run Tryz.prog w = .ok (.slice (some ⟨w.heap.size, 0, none⟩) m' m') (w.alloc (.cells cur 272)) := by
  rw [← hcur]; exact hmk
 obtain ⟨h0, h1, h2, h3⟩ := H.head
 have zp := fun i => free_of_block H.2.1 i
 have hpl := lt_of_block H.2.1
 have hgl := H.2.2.lt g (by simp [Value.ownBlock])
 have HS := Lib.hid hs
 have HT := Lib.hid ht
 have HH := Lib.hid H
 have HK := Lib.hid hk
 have HM := Lib.hid hm'
 have hm8 : 8 ≤ m' := by omega
 have hmx : m' ≤ 400004 := by omega
 clear hmk hcur hs H ht em hm' hk
 have hgp := HH.out.1
 have hcase : (n = 1 ∧ (Instr.makeSlice 261 (.int .i64 8) (.int .i64 8)).run Tryz.prog w = .ok (.slice (some ⟨w.heap.size, 0, none⟩) m' m') (w.alloc (.cells cur 272))) ∨ (8 : Int) < 4 * ((n : Int) + 1) := by
  by_cases h : n = 1
  ·subst h; exact .inl ⟨rfl, hk2⟩
  ·right; omega
 rcases hcase with ⟨hne, hk3⟩ | hlt8
 case' inl => clear hk2
 all_goals
  go_enter Tryz.func239, Tryz.ntmps239
  go_wp2_with fail
  have hst : IRawI ((((w.setCell ⟨p, 1, none⟩ (.slice (some ⟨w.heap.size, 0, none⟩) m' m')).setCell ⟨p, 2, none⟩ (.int .i64 0)).setCell ⟨p, 3, none⟩ (.int .i64 0)).alloc (.cells cur 272)) p w.heap.size 0 m' m' (fun _ => ⟨0, ⟨#[]⟩, 0⟩) 0 0 := by
   refine ⟨by omega, ?_, HS.out _ (by simp)⟩
   refine block_alloc_old ?_ _
   rw [block_set_same (block_set_same (block_set_same HH.out.2.1 _ _) _ _) _ _]
   simp
  have hfr : Fr [p] w ((((w.setCell ⟨p, 1, none⟩ (.slice (some ⟨w.heap.size, 0, none⟩) m' m')).setCell ⟨p, 2, none⟩ (.int .i64 0)).setCell ⟨p, 3, none⟩ (.int .i64 0)).alloc (.cells cur 272)) := ((((Fr.refl [p] w).setCell (by simp) _).setCell (by simp) _).setCell (by simp) _).alloc _
  have hnew := TInv.new m' (by omega) (stI m') (stI_lt m' (by omega)) (0 : Nat) ⟨#[]⟩
  rw [← upto_zero T M] at hnew
  go_loopw [30] (fun u wr => ∃ (j : Nat) (T' : Nat → Pl (Nat)) (n' u' : Nat), j ≤ m ∧ u = .int .i64 j ∧ u' ≤ n' ∧ Hid (n' = cnt (isF T) j) ∧ IRawI wr p w.heap.size 0 m' m' T' n' u' ∧ Hid (TInv m' T' (stI m') (upto T M j) n' u') ∧ Hid (KSz T' m') ∧ Fr [p] w wr ∧ w.heap.size < wr.heap.size) (fun u _ => m - (intOf u).toNat)
  case atStart => exact ⟨0, _, 0, 0, Nat.zero_le _, rfl, Nat.le_refl _, rfl, hst, hnew, fun _ _ => Nat.zero_le _, hfr, by simp⟩
  case round =>
   obtain ⟨j, T', n', u', hj, rfl, hu', hcn, hraw, htn, hksz, hfr2, hsz2⟩ := hrel
   clear hst hfr hnew
   by_cases hlt : j < m
   ·obtain ⟨k0, k1, _⟩ := HH.out.cell j hlt
    obtain ⟨q2, _⟩ := HH.out.vcell j hlt
    have k0 := cell_fr hfr2 k0 (by simp; omega)
    have k1 := cell_fr hfr2 k1 (by simp; omega)
    have q2 := cell_fr hfr2 q2 (by simp; omega)
    have hle := HT.out.le2 j hlt
    have hks := HK.out j hlt
    have hnn : n' + (isF T j).toNat ≤ n := by
     rw [hcn.out, HT.out.cn]
     exact cnt_le_of_le (isF T) (a := j + 1) hlt
    obtain ⟨y, hy⟩ : ∃ y, (T j).is = y := ⟨_, rfl⟩
    obtain ⟨ky, hky⟩ : ∃ y, (T j).key = y := ⟨_, rfl⟩
    obtain ⟨x, hx⟩ : ∃ y, (T j).v = y := ⟨_, rfl⟩
    rw [hy] at k0 hle
    rw [hky] at k1 hks
    rw [hx] at q2
    have HY := Lib.hid (And.intro hy (And.intro hky hx))
    clear hy hky hx
    by_cases hy2 : y = 2
    ·subst hy2
     go_wp2_with fail
     refine (findI (hraw.keep ((Fr.refl [] _).alloc _) (by simp) (by simp)) htn.out (by omega) ky hks).mono ?_
     rintro e w1 ⟨i, b, rfl, hfd, q, rfl⟩
     have hb : b = false := by
      cases b with
      | false => rfl
      | true =>
       exfalso
       obtain ⟨hi, ht2, _⟩ := hfd
       obtain ⟨a1, a2⟩ := ht2 rfl
       have h1 := htn.out.ok i hi a1
       have h2 := (HT.out.upto_full hlt HY.out.1).2
       rw [HY.out.2.1] at h2
       rw [a2, h2] at h1
       cases h1
     subst hb
     have hm4 := HM.out
     go_wp2_with fail
     refine (laysI (hraw.keep (((Fr.refl [] _).alloc _).drewN q) (by simp) (by simp)) i hfd.1 (by omega) (by omega) (by omega) (htn.out.le2 i hfd.1) ky x).mono ?_
     rintro e w2 ⟨rfl, hraw2, hf2⟩
     have htn2 := htn.out.lays (x := x) hfd (by omega)
     have eupto := (HT.out.upto_full hlt HY.out.1).1
     rw [HY.out.2.1, HY.out.2.2] at eupto
     have fin1 := Lib.hid (htn2.congrM eupto.symm)
     have fin2 : Fr [p] w w2 := ((hfr2.alloc _).drewN q).trans hf2 (fun b hb _ => hb) (fun b hb hl => by simp at hb ⊢; rcases hb with h | h; exact h; omega)
     have fin3 : w.heap.size < w2.heap.size := by have := hf2.size; simp at this; omega
     have fin4 : Hid (n' + 1 = cnt (isF T) (j + 1)) := by
      show n' + 1 = cnt (isF T) j + (isF T j).toNat
      rw [← hcn.out]
      simp [isF, HY.out.1]
     clear htn2 eupto hraw hfd hf2
     go_wp2_with fail
     exact ⟨⟨j + 1, _, n' + 1, _, by omega, by go_num, by split <;> omega, fin4, hraw2, fin1.out, hksz.out.up _ _ hks, fin2, fin3⟩, by simp [intOf]; omega⟩
    ·have b2 : ((y : Int) == 2) = false := by rw [beq_eq_false_iff_ne]; omega
     have hy3 := Lib.hid hy2
     clear hy2
     have fin1 : Hid (TInv m' T' (stI m') (upto T M (j + 1)) n' u') := by
      have e := HT.out.upto_not (j := j) (by rw [HY.out.1]; exact hy3.out)
      exact htn.out.congrM e.symm
     have fin4 : Hid (n' = cnt (isF T) (j + 1)) := by
      show n' = cnt (isF T) j + (isF T j).toNat
      rw [← hcn.out]
      have : isF T j = false := by simp [isF, HY.out.1, hy3.out]
      rw [this]; rfl
     go_wp2_with fail
     exact ⟨⟨j + 1, T', n', u', by omega, by go_num, hu', fin4, hraw.keep ((Fr.refl [] _).alloc _) (by simp) (by simp), fin1, hksz, hfr2.alloc _, by simp; omega⟩, by simp [intOf]; omega⟩
   ·have : j = m := by omega
    subst this
    have e : n' = n := by rw [hcn.out, HT.out.cn]
    go_wp2_with fail
    go_end0
    refine ⟨rfl, w.heap.size, ⟨w.heap.size, 0, m', m', T', u', rfl, by rw [← e]; exact hraw, by rw [← e]; exact htn.out.congrM HT.out.upto_all, by have := HM.out; omega, by omega, hksz.out⟩, Nat.le_refl _, hfr2⟩
theorem infoPlA : (Tryz.prog.info? 325).map (fun i => (i.zero, i.size, i.bytes)) = some (some (.agg (encA ⟨0, ⟨#[]⟩, (0, 0)⟩).toArray), 4, 40) := by kernel_rfl
def IRepA (w : World) (p : Nat) (F : List Nat) (M : ByteArray → Option (Nat × Nat)) (n : Nat) : Prop :=
 ∃ (g off c m : Nat) (T : Nat → Pl (Nat × Nat)) (used : Nat), F = [p, g] ∧ IRawA w p g off c m T n used ∧ TInv m T (stI m) M n used ∧ 2 * used ≤ m ∧ m ≤ 500000 ∧ KSz T m
theorem IRepA.fr {w w' : World} {p n : Nat} {F G : List Nat} {M : ByteArray → Option (Nat × Nat)} (h : IRepA w p F M n) (k : Fr G w w') (hd : Dis F G) : IRepA w' p F M n := by
 obtain ⟨g, off, c, m, T, used, rfl, hr, ht⟩ := h
 exact ⟨g, off, c, m, T, used, rfl, hr.keep k (hd p (by simp)) (hd g (by simp)), ht⟩
theorem IRepA.lt {w : World} {p n : Nat} {F : List Nat} {M : ByteArray → Option (Nat × Nat)} (h : IRepA w p F M n) : Lt F w := by
 obtain ⟨g, off, c, m, T, used, rfl, hr, ht⟩ := h
 intro b hb
 simp at hb
 rcases hb with rfl | rfl
 ·exact lt_of_block hr.2.1
 ·exact hr.2.2.lt b (by simp [Value.ownBlock])
theorem newA_raw (w : World) (m : Nat) (hm : m ≤ 1000000) : Sl (w.alloc (.cells (madeCells (encA ⟨0, ⟨#[]⟩, (0, 0)⟩).toArray (m * 4)) 325)) 325 4 (.slice (some ⟨w.heap.size, 0, none⟩) m m) m (tblA (fun _ => ⟨0, ⟨#[]⟩, (0, 0)⟩) m) := by
 have e := made_flat (encA ⟨0, ⟨#[]⟩, (0, 0)⟩).toArray 4 rfl (by omega) m
 have h := Sl.built (size := 4) (e := 325) w (madeCells (encA ⟨0, ⟨#[]⟩, (0, 0)⟩).toArray (m * 4)) m (by simp [madeCells]) (by unfold maxLen; omega)
 rw [e] at h
 exact h
theorem zZIdx31 {P : Prop} (h : P := by
 obtain ⟨i0, hii, hz0, hz1, hz2⟩ := info_parts2 z1
 have hk := run_make (P := Tryz.prog) w z2 z3 i0 _ z4 hii hz0 .i64 .i64 8 8 (by decide) (Int.le_refl _) (by rw [hz2]; decide) (by decide)
 rw [hz1] at hk
 have hs := z5 w 8 (by omega)
 obtain ⟨cur, hcur⟩ : ∃ cur, madeCells (z6 ⟨0, ⟨#[]⟩, (0, 0)⟩).toArray (8 * 4) = cur := ⟨_, rfl⟩
 rw [hcur] at hs
 have hk2 : (Instr.makeSlice z2 (.int .i64 8) (.int .i64 8)).run Tryz.prog w = .ok (.slice (some ⟨w.heap.size, 0, none⟩) 8 8) (w.alloc (.cells cur z3)) := by
  rw [← hcur]; exact hk
 have HS := Lib.hid hs
 clear hk hcur hs hz0
 go_enter z7, z8
 go_wp2
 go_ret
 have b2 := block_alloc_new (w.alloc (.cells cur z3)) (.cells #[.int .u64 0, .slice (some ⟨w.heap.size, 0, none⟩) 8 8, .int .i64 0, .int .i64 0] z9)
 rw [World.size_alloc] at b2
 refine ⟨w.heap.size + 1, [w.heap.size + 1, w.heap.size], rfl, ⟨w.heap.size, 0, 8, 8, _, 0, rfl, ⟨by omega, b2, HS.out.fr ((Fr.refl [] _).alloc _) (fun b _ => by simp)⟩, TInv.new 8 (by omega) _ (stI_lt 8 (by omega)) (0, 0) ⟨#[]⟩, by omega, by omega, fun _ _ => Nat.zero_le _⟩, by intro b hb; simp at hb; omega, ((Fr.refl [] w).alloc _).alloc _⟩
 ) : P := h
abbrev nIdx31z2a : Nat := 278
abbrev nIdx31z3a : Nat := 325
abbrev nIdx31z9a : Nat := 280
open YtfeicmpbfbhiiaaGreat renaming infoPlA → z1, nIdx31z2a → z2, nIdx31z3a → z3, newA_raw → z5, encA → z6, nIdx31z9a → z9 in
open Tryz renaming underlying278 → z4, func216 → z7, ntmps216 → z8 in
theorem idxNewA (w : World) : Calls Tryz.prog 216 #[.int .u64 0] w fun e w' => ∃ p F, e = .returned (.pointer (some ⟨p, 0, none⟩)) ∧ IRepA w' p F (fun _ => none) 0 ∧ Ge w.heap.size F ∧ Fr [] w w' := by exact zZIdx31
theorem zZIdx32 {P : Prop} (h : P := by
 obtain ⟨i0, hii, hz0, hz1, hz2⟩ := info_parts2 z1
 have hmk := run_make (P := Tryz.prog) w z2 z3 i0 _ z4 hii hz0 .i64 .i64 (4 * ((n : Int) + 1)) (4 * ((n : Int) + 1)) (by omega) (Int.le_refl _) (by rw [hz2]; omega) (by omega)
 obtain ⟨m', hm'⟩ : ∃ m', 4 * (n + 1) = m' := ⟨_, rfl⟩
 have em : (4 * ((n : Int) + 1)).toNat = m' := by omega
 rw [hz1, em] at hmk
 have hs := fun (W : World) (hW : W.heap.size = w.heap.size) => hW ▸ z5 W m' (by omega)
 obtain ⟨cur, hcur⟩ : ∃ cur, madeCells (z6 ⟨0, ⟨#[]⟩, (0, 0)⟩).toArray (m' * 4) = cur := ⟨_, rfl⟩
 rw [hcur] at hs
 have hk2 : (Instr.makeSlice z2 (.int .i64 (4 * ((n : Int) + 1))) (.int .i64 (4 * ((n : Int) + 1)))).run Tryz.prog w = .ok (.slice (some ⟨w.heap.size, 0, none⟩) m' m') (w.alloc (.cells cur z3)) := by
  rw [← hcur]; exact hmk
 obtain ⟨h0, h1, h2, h3⟩ := H.head
 have zp := fun i => free_of_block H.2.1 i
 have hpl := lt_of_block H.2.1
 have hgl := H.2.2.lt g (by simp [Value.ownBlock])
 have HS := Lib.hid hs
 have HT := Lib.hid ht
 have HH := Lib.hid H
 have HK := Lib.hid hk
 have HM := Lib.hid hm'
 have hm8 : 8 ≤ m' := by omega
 have hmx : m' ≤ 400004 := by omega
 clear hmk hcur hs H ht em hm' hk
 have hgp := HH.out.1
 have hcase : (n = 1 ∧ (Instr.makeSlice z2 (.int .i64 8) (.int .i64 8)).run Tryz.prog w = .ok (.slice (some ⟨w.heap.size, 0, none⟩) m' m') (w.alloc (.cells cur z3))) ∨ (8 : Int) < 4 * ((n : Int) + 1) := by
  by_cases h : n = 1
  ·subst h; exact .inl ⟨rfl, hk2⟩
  ·right; omega
 rcases hcase with ⟨hne, hk3⟩ | hlt8
 case' inl => clear hk2
 all_goals
  go_enter z7, z8
  go_wp2_with fail
  have hst : z9 ((((w.setCell ⟨p, 1, none⟩ (.slice (some ⟨w.heap.size, 0, none⟩) m' m')).setCell ⟨p, 2, none⟩ (.int .i64 0)).setCell ⟨p, 3, none⟩ (.int .i64 0)).alloc (.cells cur z3)) p w.heap.size 0 m' m' (fun _ => ⟨0, ⟨#[]⟩, (0, 0)⟩) 0 0 := by
   refine ⟨by omega, ?_, HS.out _ (by simp)⟩
   refine block_alloc_old ?_ _
   rw [block_set_same (block_set_same (block_set_same HH.out.2.1 _ _) _ _) _ _]
   simp
  have hfr : Fr [p] w ((((w.setCell ⟨p, 1, none⟩ (.slice (some ⟨w.heap.size, 0, none⟩) m' m')).setCell ⟨p, 2, none⟩ (.int .i64 0)).setCell ⟨p, 3, none⟩ (.int .i64 0)).alloc (.cells cur z3)) := ((((Fr.refl [p] w).setCell (by simp) _).setCell (by simp) _).setCell (by simp) _).alloc _
  have hnew := TInv.new m' (by omega) (stI m') (stI_lt m' (by omega)) ((0, 0) : Nat × Nat) ⟨#[]⟩
  rw [← upto_zero T M] at hnew
  go_loopw [30] (fun u wr => ∃ (j : Nat) (T' : Nat → Pl (Nat × Nat)) (n' u' : Nat), j ≤ m ∧ u = .int .i64 j ∧ u' ≤ n' ∧ Hid (n' = cnt (isF T) j) ∧ z9 wr p w.heap.size 0 m' m' T' n' u' ∧ Hid (TInv m' T' (stI m') (upto T M j) n' u') ∧ Hid (KSz T' m') ∧ Fr [p] w wr ∧ w.heap.size < wr.heap.size) (fun u _ => m - (intOf u).toNat)
  case atStart => exact ⟨0, _, 0, 0, Nat.zero_le _, rfl, Nat.le_refl _, rfl, hst, hnew, fun _ _ => Nat.zero_le _, hfr, by simp⟩
  case round =>
   obtain ⟨j, T', n', u', hj, rfl, hu', hcn, hraw, htn, hksz, hfr2, hsz2⟩ := hrel
   clear hst hfr hnew
   by_cases hlt : j < m
   ·obtain ⟨k0, k1, _⟩ := HH.out.cell j hlt
    obtain ⟨q2, q3, _⟩ := HH.out.vcell j hlt
    have k0 := cell_fr hfr2 k0 (by simp; omega)
    have k1 := cell_fr hfr2 k1 (by simp; omega)
    have q2 := cell_fr hfr2 q2 (by simp; omega); have q3 := cell_fr hfr2 q3 (by simp; omega)
    have hle := HT.out.le2 j hlt
    have hks := HK.out j hlt
    have hnn : n' + (isF T j).toNat ≤ n := by
     rw [hcn.out, HT.out.cn]
     exact cnt_le_of_le (isF T) (a := j + 1) hlt
    obtain ⟨y, hy⟩ : ∃ y, (T j).is = y := ⟨_, rfl⟩
    obtain ⟨ky, hky⟩ : ∃ y, (T j).key = y := ⟨_, rfl⟩
    obtain ⟨x, hx⟩ : ∃ y, (T j).v = y := ⟨_, rfl⟩
    rw [hy] at k0 hle
    rw [hky] at k1 hks
    rw [hx] at q2 q3
    have HY := Lib.hid (And.intro hy (And.intro hky hx))
    clear hy hky hx
    by_cases hy2 : y = 2
    ·subst hy2
     go_wp2_with fail
     refine (z10 (hraw.keep ((Fr.refl [] _).alloc _) (by simp) (by simp)) htn.out (by omega) ky hks).mono ?_
     rintro e w1 ⟨i, b, rfl, hfd, q, rfl⟩
     have hb : b = false := by
      cases b with
      | false => rfl
      | true =>
       exfalso
       obtain ⟨hi, ht2, _⟩ := hfd
       obtain ⟨a1, a2⟩ := ht2 rfl
       have h1 := htn.out.ok i hi a1
       have h2 := (HT.out.upto_full hlt HY.out.1).2
       rw [HY.out.2.1] at h2
       rw [a2, h2] at h1
       cases h1
     subst hb
     have hm4 := HM.out
     go_wp2_with fail
     refine (z11 (hraw.keep (((Fr.refl [] _).alloc _).drewN q) (by simp) (by simp)) i hfd.1 (by omega) (by omega) (by omega) (htn.out.le2 i hfd.1) ky x).mono ?_
     rintro e w2 ⟨rfl, hraw2, hf2⟩
     have htn2 := htn.out.lays (x := x) hfd (by omega)
     have eupto := (HT.out.upto_full hlt HY.out.1).1
     rw [HY.out.2.1, HY.out.2.2] at eupto
     have fin1 := Lib.hid (htn2.congrM eupto.symm)
     have fin2 : Fr [p] w w2 := ((hfr2.alloc _).drewN q).trans hf2 (fun b hb _ => hb) (fun b hb hl => by simp at hb ⊢; rcases hb with h | h; exact h; omega)
     have fin3 : w.heap.size < w2.heap.size := by have := hf2.size; simp at this; omega
     have fin4 : Hid (n' + 1 = cnt (isF T) (j + 1)) := by
      show n' + 1 = cnt (isF T) j + (isF T j).toNat
      rw [← hcn.out]
      simp [isF, HY.out.1]
     clear htn2 eupto hraw hfd hf2
     go_wp2_with fail
     exact ⟨⟨j + 1, _, n' + 1, _, by omega, by go_num, by split <;> omega, fin4, hraw2, fin1.out, hksz.out.up _ _ hks, fin2, fin3⟩, by simp [intOf]; omega⟩
    ·have b2 : ((y : Int) == 2) = false := by rw [beq_eq_false_iff_ne]; omega
     have hy3 := Lib.hid hy2
     clear hy2
     have fin1 : Hid (TInv m' T' (stI m') (upto T M (j + 1)) n' u') := by
      have e := HT.out.upto_not (j := j) (by rw [HY.out.1]; exact hy3.out)
      exact htn.out.congrM e.symm
     have fin4 : Hid (n' = cnt (isF T) (j + 1)) := by
      show n' = cnt (isF T) j + (isF T j).toNat
      rw [← hcn.out]
      have : isF T j = false := by simp [isF, HY.out.1, hy3.out]
      rw [this]; rfl
     go_wp2_with fail
     exact ⟨⟨j + 1, T', n', u', by omega, by go_num, hu', fin4, hraw.keep ((Fr.refl [] _).alloc _) (by simp) (by simp), fin1, hksz, hfr2.alloc _, by simp; omega⟩, by simp [intOf]; omega⟩
   ·have : j = m := by omega
    subst this
    have e : n' = n := by rw [hcn.out, HT.out.cn]
    go_wp2_with fail
    go_end0
    refine ⟨rfl, w.heap.size, ⟨w.heap.size, 0, m', m', T', u', rfl, by rw [← e]; exact hraw, by rw [← e]; exact htn.out.congrM HT.out.upto_all, by have := HM.out; omega, by omega, hksz.out⟩, Nat.le_refl _, hfr2⟩
 ) : P := h
abbrev nIdx32z2a : Nat := 278
abbrev nIdx32z3a : Nat := 325
set_option maxRecDepth 100000 in
set_option maxHeartbeats 1000000 in
open YtfeicmpbfbhiiaaGreat renaming infoPlA → z1, nIdx32z2a → z2, nIdx32z3a → z3, newA_raw → z5, encA → z6, IRawA → z9, findA → z10, laysA → z11 in
open Tryz renaming underlying278 → z4, func314 → z7, ntmps314 → z8 in
theorem growsA {w : World} {p g off c m n used : Nat} {T : Nat → Pl (Nat × Nat)} {M : ByteArray → Option (Nat × Nat)} (H : IRawA w p g off c m T n used) (ht : TInv m T (stI m) M n used) (hm : m ≤ 1000000) (hn1 : 1 ≤ n) (hn : n ≤ 100000) (hk : KSz T m) :
  Calls Tryz.prog 314 #[.pointer (some ⟨p, 0, none⟩)] w fun e w' => e = .returned (.tuple #[]) ∧ ∃ g', IRepA w' p [p, g'] M n ∧ w.heap.size ≤ g' ∧ Fr [p] w w' := by exact zZIdx32
theorem infoPlQ : (Tryz.prog.info? 364).map (fun i => (i.zero, i.size, i.bytes)) = some (some (.agg (encQ ⟨0, ⟨#[]⟩, (0, 0)⟩).toArray), 4, 40) := by kernel_rfl
def IRepQ (w : World) (p : Nat) (F : List Nat) (M : ByteArray → Option (Nat × Nat)) (n : Nat) : Prop :=
 ∃ (g off c m : Nat) (T : Nat → Pl (Nat × Nat)) (used : Nat), F = [p, g] ∧ IRawQ w p g off c m T n used ∧ TInv m T (stI m) M n used ∧ 2 * used ≤ m ∧ m ≤ 500000 ∧ KSz T m
theorem IRepQ.fr {w w' : World} {p n : Nat} {F G : List Nat} {M : ByteArray → Option (Nat × Nat)} (h : IRepQ w p F M n) (k : Fr G w w') (hd : Dis F G) : IRepQ w' p F M n := by
 obtain ⟨g, off, c, m, T, used, rfl, hr, ht⟩ := h
 exact ⟨g, off, c, m, T, used, rfl, hr.keep k (hd p (by simp)) (hd g (by simp)), ht⟩
theorem IRepQ.lt {w : World} {p n : Nat} {F : List Nat} {M : ByteArray → Option (Nat × Nat)} (h : IRepQ w p F M n) : Lt F w := by
 obtain ⟨g, off, c, m, T, used, rfl, hr, ht⟩ := h
 intro b hb
 simp at hb
 rcases hb with rfl | rfl
 ·exact lt_of_block hr.2.1
 ·exact hr.2.2.lt b (by simp [Value.ownBlock])
theorem newQ_raw (w : World) (m : Nat) (hm : m ≤ 1000000) : Sl (w.alloc (.cells (madeCells (encQ ⟨0, ⟨#[]⟩, (0, 0)⟩).toArray (m * 4)) 364)) 364 4 (.slice (some ⟨w.heap.size, 0, none⟩) m m) m (tblQ (fun _ => ⟨0, ⟨#[]⟩, (0, 0)⟩) m) := by
 have e := made_flat (encQ ⟨0, ⟨#[]⟩, (0, 0)⟩).toArray 4 rfl (by omega) m
 have h := Sl.built (size := 4) (e := 364) w (madeCells (encQ ⟨0, ⟨#[]⟩, (0, 0)⟩).toArray (m * 4)) m (by simp [madeCells]) (by unfold maxLen; omega)
 rw [e] at h
 exact h
abbrev nIdx31z2b : Nat := 281
abbrev nIdx31z3b : Nat := 364
abbrev nIdx31z9b : Nat := 283
open YtfeicmpbfbhiiaaGreat renaming infoPlQ → z1, nIdx31z2b → z2, nIdx31z3b → z3, newQ_raw → z5, encQ → z6, nIdx31z9b → z9 in
open Tryz renaming underlying281 → z4, func217 → z7, ntmps217 → z8 in
theorem idxNewQ (w : World) : Calls Tryz.prog 217 #[.int .u64 0] w fun e w' => ∃ p F, e = .returned (.pointer (some ⟨p, 0, none⟩)) ∧ IRepQ w' p F (fun _ => none) 0 ∧ Ge w.heap.size F ∧ Fr [] w w' := by exact zZIdx31
abbrev nIdx32z2b : Nat := 281
abbrev nIdx32z3b : Nat := 364
set_option maxRecDepth 100000 in
set_option maxHeartbeats 1000000 in
open YtfeicmpbfbhiiaaGreat renaming infoPlQ → z1, nIdx32z2b → z2, nIdx32z3b → z3, newQ_raw → z5, encQ → z6, IRawQ → z9, findQ → z10, laysQ → z11 in
open Tryz renaming underlying281 → z4, func384 → z7, ntmps384 → z8 in
theorem growsQ {w : World} {p g off c m n used : Nat} {T : Nat → Pl (Nat × Nat)} {M : ByteArray → Option (Nat × Nat)} (H : IRawQ w p g off c m T n used) (ht : TInv m T (stI m) M n used) (hm : m ≤ 1000000) (hn1 : 1 ≤ n) (hn : n ≤ 100000) (hk : KSz T m) :
  Calls Tryz.prog 384 #[.pointer (some ⟨p, 0, none⟩)] w fun e w' => e = .returned (.tuple #[]) ∧ ∃ g', IRepQ w' p [p, g'] M n ∧ w.heap.size ≤ g' ∧ Fr [p] w w' := by exact zZIdx32
theorem infoPlU : (Tryz.prog.info? 374).map (fun i => (i.zero, i.size, i.bytes)) = some (some (.agg (encU ⟨0, ⟨#[]⟩, (0, 0)⟩).toArray), 4, 40) := by kernel_rfl
def IRepU (w : World) (p : Nat) (F : List Nat) (M : ByteArray → Option (Nat × Nat)) (n : Nat) : Prop :=
 ∃ (g off c m : Nat) (T : Nat → Pl (Nat × Nat)) (used : Nat), F = [p, g] ∧ IRawU w p g off c m T n used ∧ TInv m T (stI m) M n used ∧ 2 * used ≤ m ∧ m ≤ 500000 ∧ KSz T m
theorem IRepU.fr {w w' : World} {p n : Nat} {F G : List Nat} {M : ByteArray → Option (Nat × Nat)} (h : IRepU w p F M n) (k : Fr G w w') (hd : Dis F G) : IRepU w' p F M n := by
 obtain ⟨g, off, c, m, T, used, rfl, hr, ht⟩ := h
 exact ⟨g, off, c, m, T, used, rfl, hr.keep k (hd p (by simp)) (hd g (by simp)), ht⟩
theorem IRepU.lt {w : World} {p n : Nat} {F : List Nat} {M : ByteArray → Option (Nat × Nat)} (h : IRepU w p F M n) : Lt F w := by
 obtain ⟨g, off, c, m, T, used, rfl, hr, ht⟩ := h
 intro b hb
 simp at hb
 rcases hb with rfl | rfl
 ·exact lt_of_block hr.2.1
 ·exact hr.2.2.lt b (by simp [Value.ownBlock])
theorem newU_raw (w : World) (m : Nat) (hm : m ≤ 1000000) : Sl (w.alloc (.cells (madeCells (encU ⟨0, ⟨#[]⟩, (0, 0)⟩).toArray (m * 4)) 374)) 374 4 (.slice (some ⟨w.heap.size, 0, none⟩) m m) m (tblU (fun _ => ⟨0, ⟨#[]⟩, (0, 0)⟩) m) := by
 have e := made_flat (encU ⟨0, ⟨#[]⟩, (0, 0)⟩).toArray 4 rfl (by omega) m
 have h := Sl.built (size := 4) (e := 374) w (madeCells (encU ⟨0, ⟨#[]⟩, (0, 0)⟩).toArray (m * 4)) m (by simp [madeCells]) (by unfold maxLen; omega)
 rw [e] at h
 exact h
abbrev nIdx31z2c : Nat := 284
abbrev nIdx31z3c : Nat := 374
abbrev nIdx31z9c : Nat := 286
open YtfeicmpbfbhiiaaGreat renaming infoPlU → z1, nIdx31z2c → z2, nIdx31z3c → z3, newU_raw → z5, encU → z6, nIdx31z9c → z9 in
open Tryz renaming underlying284 → z4, func218 → z7, ntmps218 → z8 in
theorem idxNewU (w : World) : Calls Tryz.prog 218 #[.int .u64 0] w fun e w' => ∃ p F, e = .returned (.pointer (some ⟨p, 0, none⟩)) ∧ IRepU w' p F (fun _ => none) 0 ∧ Ge w.heap.size F ∧ Fr [] w w' := by exact zZIdx31
abbrev nIdx32z2c : Nat := 284
abbrev nIdx32z3c : Nat := 374
set_option maxRecDepth 100000 in
set_option maxHeartbeats 1000000 in
open YtfeicmpbfbhiiaaGreat renaming infoPlU → z1, nIdx32z2c → z2, nIdx32z3c → z3, newU_raw → z5, encU → z6, IRawU → z9, findU → z10, laysU → z11 in
open Tryz renaming underlying284 → z4, func422 → z7, ntmps422 → z8 in
theorem growsU {w : World} {p g off c m n used : Nat} {T : Nat → Pl (Nat × Nat)} {M : ByteArray → Option (Nat × Nat)} (H : IRawU w p g off c m T n used) (ht : TInv m T (stI m) M n used) (hm : m ≤ 1000000) (hn1 : 1 ≤ n) (hn : n ≤ 100000) (hk : KSz T m) :
  Calls Tryz.prog 422 #[.pointer (some ⟨p, 0, none⟩)] w fun e w' => e = .returned (.tuple #[]) ∧ ∃ g', IRepU w' p [p, g'] M n ∧ w.heap.size ≤ g' ∧ Fr [p] w w' := by exact zZIdx32
theorem infoPlS : (Tryz.prog.info? 380).map (fun i => (i.zero, i.size, i.bytes)) = some (some (.agg (encS ⟨0, ⟨#[]⟩, (0, 0)⟩).toArray), 4, 40) := by kernel_rfl
def IRepS (w : World) (p : Nat) (F : List Nat) (M : ByteArray → Option (Nat × Nat)) (n : Nat) : Prop :=
 ∃ (g off c m : Nat) (T : Nat → Pl (Nat × Nat)) (used : Nat), F = [p, g] ∧ IRawS w p g off c m T n used ∧ TInv m T (stI m) M n used ∧ 2 * used ≤ m ∧ m ≤ 500000 ∧ KSz T m
theorem IRepS.fr {w w' : World} {p n : Nat} {F G : List Nat} {M : ByteArray → Option (Nat × Nat)} (h : IRepS w p F M n) (k : Fr G w w') (hd : Dis F G) : IRepS w' p F M n := by
 obtain ⟨g, off, c, m, T, used, rfl, hr, ht⟩ := h
 exact ⟨g, off, c, m, T, used, rfl, hr.keep k (hd p (by simp)) (hd g (by simp)), ht⟩
theorem IRepS.lt {w : World} {p n : Nat} {F : List Nat} {M : ByteArray → Option (Nat × Nat)} (h : IRepS w p F M n) : Lt F w := by
 obtain ⟨g, off, c, m, T, used, rfl, hr, ht⟩ := h
 intro b hb
 simp at hb
 rcases hb with rfl | rfl
 ·exact lt_of_block hr.2.1
 ·exact hr.2.2.lt b (by simp [Value.ownBlock])
theorem newS_raw (w : World) (m : Nat) (hm : m ≤ 1000000) : Sl (w.alloc (.cells (madeCells (encS ⟨0, ⟨#[]⟩, (0, 0)⟩).toArray (m * 4)) 380)) 380 4 (.slice (some ⟨w.heap.size, 0, none⟩) m m) m (tblS (fun _ => ⟨0, ⟨#[]⟩, (0, 0)⟩) m) := by
 have e := made_flat (encS ⟨0, ⟨#[]⟩, (0, 0)⟩).toArray 4 rfl (by omega) m
 have h := Sl.built (size := 4) (e := 380) w (madeCells (encS ⟨0, ⟨#[]⟩, (0, 0)⟩).toArray (m * 4)) m (by simp [madeCells]) (by unfold maxLen; omega)
 rw [e] at h
 exact h
abbrev nIdx31z2d : Nat := 287
abbrev nIdx31z3d : Nat := 380
abbrev nIdx31z9d : Nat := 289
open YtfeicmpbfbhiiaaGreat renaming infoPlS → z1, nIdx31z2d → z2, nIdx31z3d → z3, newS_raw → z5, encS → z6, nIdx31z9d → z9 in
open Tryz renaming underlying287 → z4, func219 → z7, ntmps219 → z8 in
theorem idxNewS (w : World) : Calls Tryz.prog 219 #[.int .u64 0] w fun e w' => ∃ p F, e = .returned (.pointer (some ⟨p, 0, none⟩)) ∧ IRepS w' p F (fun _ => none) 0 ∧ Ge w.heap.size F ∧ Fr [] w w' := by exact zZIdx31
abbrev nIdx32z2d : Nat := 287
abbrev nIdx32z3d : Nat := 380
set_option maxRecDepth 100000 in
set_option maxHeartbeats 1000000 in
open YtfeicmpbfbhiiaaGreat renaming infoPlS → z1, nIdx32z2d → z2, nIdx32z3d → z3, newS_raw → z5, encS → z6, IRawS → z9, findS → z10, laysS → z11 in
open Tryz renaming underlying287 → z4, func450 → z7, ntmps450 → z8 in
theorem growsS {w : World} {p g off c m n used : Nat} {T : Nat → Pl (Nat × Nat)} {M : ByteArray → Option (Nat × Nat)} (H : IRawS w p g off c m T n used) (ht : TInv m T (stI m) M n used) (hm : m ≤ 1000000) (hn1 : 1 ≤ n) (hn : n ≤ 100000) (hk : KSz T m) :
  Calls Tryz.prog 450 #[.pointer (some ⟨p, 0, none⟩)] w fun e w' => e = .returned (.tuple #[]) ∧ ∃ g', IRepS w' p [p, g'] M n ∧ w.heap.size ≤ g' ∧ Fr [p] w w' := by exact zZIdx32
theorem infoPlL : (Tryz.prog.info? 355).map (fun i => (i.zero, i.size, i.bytes)) = some (some (.agg (encL ⟨0, ⟨#[]⟩, (0, 0, 0)⟩).toArray), 5, 48) := by kernel_rfl
def IRepL (w : World) (p : Nat) (F : List Nat) (M : ByteArray → Option (Nat × Nat × Nat)) (n : Nat) : Prop :=
 ∃ (g off c m : Nat) (T : Nat → Pl (Nat × Nat × Nat)) (used : Nat), F = [p, g] ∧ IRawL w p g off c m T n used ∧ TInv m T (stI m) M n used ∧ 2 * used ≤ m ∧ m ≤ 500000 ∧ KSz T m
theorem IRepL.fr {w w' : World} {p n : Nat} {F G : List Nat} {M : ByteArray → Option (Nat × Nat × Nat)} (h : IRepL w p F M n) (k : Fr G w w') (hd : Dis F G) : IRepL w' p F M n := by
 obtain ⟨g, off, c, m, T, used, rfl, hr, ht⟩ := h
 exact ⟨g, off, c, m, T, used, rfl, hr.keep k (hd p (by simp)) (hd g (by simp)), ht⟩
theorem IRepL.lt {w : World} {p n : Nat} {F : List Nat} {M : ByteArray → Option (Nat × Nat × Nat)} (h : IRepL w p F M n) : Lt F w := by
 obtain ⟨g, off, c, m, T, used, rfl, hr, ht⟩ := h
 intro b hb
 simp at hb
 rcases hb with rfl | rfl
 ·exact lt_of_block hr.2.1
 ·exact hr.2.2.lt b (by simp [Value.ownBlock])
theorem newL_raw (w : World) (m : Nat) (hm : m ≤ 1000000) : Sl (w.alloc (.cells (madeCells (encL ⟨0, ⟨#[]⟩, (0, 0, 0)⟩).toArray (m * 5)) 355)) 355 5 (.slice (some ⟨w.heap.size, 0, none⟩) m m) m (tblL (fun _ => ⟨0, ⟨#[]⟩, (0, 0, 0)⟩) m) := by
 have e := made_flat (encL ⟨0, ⟨#[]⟩, (0, 0, 0)⟩).toArray 5 rfl (by omega) m
 have h := Sl.built (size := 5) (e := 355) w (madeCells (encL ⟨0, ⟨#[]⟩, (0, 0, 0)⟩).toArray (m * 5)) m (by simp [madeCells]) (by unfold maxLen; omega)
 rw [e] at h
 exact h
theorem idxNewL (w : World) : Calls Tryz.prog 151 #[.int .u64 0] w fun e w' => ∃ p F, e = .returned (.pointer (some ⟨p, 0, none⟩)) ∧ IRepL w' p F (fun _ => none) 0 ∧ Ge w.heap.size F ∧ Fr [] w w' := by
 obtain ⟨i0, hii, hz0, hz1, hz2⟩ := info_parts2 infoPlL
 have hk := run_make (P := Tryz.prog) w 244 355 i0 _ Tryz.underlying244 hii hz0 .i64 .i64 8 8 (by decide) (Int.le_refl _) (by rw [hz2]; decide) (by decide)
 rw [hz1] at hk
 have hs := newL_raw w 8 (by omega)
 obtain ⟨cur, hcur⟩ : ∃ cur, madeCells (encL ⟨0, ⟨#[]⟩, (0, 0, 0)⟩).toArray (8 * 5) = cur := ⟨_, rfl⟩
 rw [hcur] at hs
 have hk2 : (Instr.makeSlice 244 (.int .i64 8) (.int .i64 8)).run Tryz.prog w = .ok (.slice (some ⟨w.heap.size, 0, none⟩) 8 8) (w.alloc (.cells cur 355)) := by
  rw [← hcur]; exact hk
 have HS := Lib.hid hs
 clear hk hcur hs hz0
 go_enter Tryz.func151, Tryz.ntmps151
 go_wp2
 go_ret
 have b2 := block_alloc_new (w.alloc (.cells cur 355)) (.cells #[.int .u64 0, .slice (some ⟨w.heap.size, 0, none⟩) 8 8, .int .i64 0, .int .i64 0] 246)
 rw [World.size_alloc] at b2
 refine ⟨w.heap.size + 1, [w.heap.size + 1, w.heap.size], rfl, ⟨w.heap.size, 0, 8, 8, _, 0, rfl, ⟨by omega, b2, HS.out.fr ((Fr.refl [] _).alloc _) (fun b _ => by simp)⟩, TInv.new 8 (by omega) _ (stI_lt 8 (by omega)) (0, 0, 0) ⟨#[]⟩, by omega, by omega, fun _ _ => Nat.zero_le _⟩, by intro b hb; simp at hb; omega, ((Fr.refl [] w).alloc _).alloc _⟩
set_option maxRecDepth 100000 in
set_option maxHeartbeats 1000000 in
theorem growsL {w : World} {p g off c m n used : Nat} {T : Nat → Pl (Nat × Nat × Nat)} {M : ByteArray → Option (Nat × Nat × Nat)} (H : IRawL w p g off c m T n used) (ht : TInv m T (stI m) M n used) (hm : m ≤ 1000000) (hn1 : 1 ≤ n) (hn : n ≤ 100000) (hk : KSz T m) :
  Calls Tryz.prog 360 #[.pointer (some ⟨p, 0, none⟩)] w fun e w' => e = .returned (.tuple #[]) ∧ ∃ g', IRepL w' p [p, g'] M n ∧ w.heap.size ≤ g' ∧ Fr [p] w w' := by
 obtain ⟨i0, hii, hz0, hz1, hz2⟩ := info_parts2 infoPlL
 have hmk := run_make (P := Tryz.prog) w 244 355 i0 _ Tryz.underlying244 hii hz0 .i64 .i64 (4 * ((n : Int) + 1)) (4 * ((n : Int) + 1)) (by omega) (Int.le_refl _) (by rw [hz2]; omega) (by omega)
 obtain ⟨m', hm'⟩ : ∃ m', 4 * (n + 1) = m' := ⟨_, rfl⟩
 have em : (4 * ((n : Int) + 1)).toNat = m' := by omega
 rw [hz1, em] at hmk
 have hs := fun (W : World) (hW : W.heap.size = w.heap.size) => hW ▸ newL_raw W m' (by omega)
 obtain ⟨cur, hcur⟩ : ∃ cur, madeCells (encL ⟨0, ⟨#[]⟩, (0, 0, 0)⟩).toArray (m' * 5) = cur := ⟨_, rfl⟩
 rw [hcur] at hs
 have hk2 : (Instr.makeSlice 244 (.int .i64 (4 * ((n : Int) + 1))) (.int .i64 (4 * ((n : Int) + 1)))).run Tryz.prog w = .ok (.slice (some ⟨w.heap.size, 0, none⟩) m' m') (w.alloc (.cells cur 355)) := by
  rw [← hcur]; exact hmk
 obtain ⟨h0, h1, h2, h3⟩ := H.head
 have zp := fun i => free_of_block H.2.1 i
 have hpl := lt_of_block H.2.1
 have hgl := H.2.2.lt g (by simp [Value.ownBlock])
 have HS := Lib.hid hs
 have HT := Lib.hid ht
 have HH := Lib.hid H
 have HK := Lib.hid hk
 have HM := Lib.hid hm'
 have hm8 : 8 ≤ m' := by omega
 have hmx : m' ≤ 400004 := by omega
 clear hmk hcur hs H ht em hm' hk
 have hgp := HH.out.1
 have hcase : (n = 1 ∧ (Instr.makeSlice 244 (.int .i64 8) (.int .i64 8)).run Tryz.prog w = .ok (.slice (some ⟨w.heap.size, 0, none⟩) m' m') (w.alloc (.cells cur 355))) ∨ (8 : Int) < 4 * ((n : Int) + 1) := by
  by_cases h : n = 1
  ·subst h; exact .inl ⟨rfl, hk2⟩
  ·right; omega
 rcases hcase with ⟨hne, hk3⟩ | hlt8
 case' inl => clear hk2
 all_goals
  go_enter Tryz.func360, Tryz.ntmps360
  go_wp2_with fail
  have hst : IRawL ((((w.setCell ⟨p, 1, none⟩ (.slice (some ⟨w.heap.size, 0, none⟩) m' m')).setCell ⟨p, 2, none⟩ (.int .i64 0)).setCell ⟨p, 3, none⟩ (.int .i64 0)).alloc (.cells cur 355)) p w.heap.size 0 m' m' (fun _ => ⟨0, ⟨#[]⟩, (0, 0, 0)⟩) 0 0 := by
   refine ⟨by omega, ?_, HS.out _ (by simp)⟩
   refine block_alloc_old ?_ _
   rw [block_set_same (block_set_same (block_set_same HH.out.2.1 _ _) _ _) _ _]
   simp
  have hfr : Fr [p] w ((((w.setCell ⟨p, 1, none⟩ (.slice (some ⟨w.heap.size, 0, none⟩) m' m')).setCell ⟨p, 2, none⟩ (.int .i64 0)).setCell ⟨p, 3, none⟩ (.int .i64 0)).alloc (.cells cur 355)) := ((((Fr.refl [p] w).setCell (by simp) _).setCell (by simp) _).setCell (by simp) _).alloc _
  have hnew := TInv.new m' (by omega) (stI m') (stI_lt m' (by omega)) ((0, 0, 0) : Nat × Nat × Nat) ⟨#[]⟩
  rw [← upto_zero T M] at hnew
  go_loopw [30] (fun u wr => ∃ (j : Nat) (T' : Nat → Pl (Nat × Nat × Nat)) (n' u' : Nat), j ≤ m ∧ u = .int .i64 j ∧ u' ≤ n' ∧ Hid (n' = cnt (isF T) j) ∧ IRawL wr p w.heap.size 0 m' m' T' n' u' ∧ Hid (TInv m' T' (stI m') (upto T M j) n' u') ∧ Hid (KSz T' m') ∧ Fr [p] w wr ∧ w.heap.size < wr.heap.size) (fun u _ => m - (intOf u).toNat)
  case atStart => exact ⟨0, _, 0, 0, Nat.zero_le _, rfl, Nat.le_refl _, rfl, hst, hnew, fun _ _ => Nat.zero_le _, hfr, by simp⟩
  case round =>
   obtain ⟨j, T', n', u', hj, rfl, hu', hcn, hraw, htn, hksz, hfr2, hsz2⟩ := hrel
   clear hst hfr hnew
   by_cases hlt : j < m
   ·obtain ⟨k0, k1, _⟩ := HH.out.cell j hlt
    obtain ⟨q2, q3, q4, _⟩ := HH.out.vcell j hlt
    have k0 := cell_fr hfr2 k0 (by simp; omega)
    have k1 := cell_fr hfr2 k1 (by simp; omega)
    have q2 := cell_fr hfr2 q2 (by simp; omega); have q3 := cell_fr hfr2 q3 (by simp; omega); have q4 := cell_fr hfr2 q4 (by simp; omega)
    have hle := HT.out.le2 j hlt
    have hks := HK.out j hlt
    have hnn : n' + (isF T j).toNat ≤ n := by
     rw [hcn.out, HT.out.cn]
     exact cnt_le_of_le (isF T) (a := j + 1) hlt
    obtain ⟨y, hy⟩ : ∃ y, (T j).is = y := ⟨_, rfl⟩
    obtain ⟨ky, hky⟩ : ∃ y, (T j).key = y := ⟨_, rfl⟩
    obtain ⟨x, hx⟩ : ∃ y, (T j).v = y := ⟨_, rfl⟩
    rw [hy] at k0 hle
    rw [hky] at k1 hks
    rw [hx] at q2 q3 q4
    have HY := Lib.hid (And.intro hy (And.intro hky hx))
    clear hy hky hx
    by_cases hy2 : y = 2
    ·subst hy2
     go_wp2_with fail
     refine (findL (hraw.keep ((Fr.refl [] _).alloc _) (by simp) (by simp)) htn.out (by omega) ky hks).mono ?_
     rintro e w1 ⟨i, b, rfl, hfd, q, rfl⟩
     have hb : b = false := by
      cases b with
      | false => rfl
      | true =>
       exfalso
       obtain ⟨hi, ht2, _⟩ := hfd
       obtain ⟨a1, a2⟩ := ht2 rfl
       have h1 := htn.out.ok i hi a1
       have h2 := (HT.out.upto_full hlt HY.out.1).2
       rw [HY.out.2.1] at h2
       rw [a2, h2] at h1
       cases h1
     subst hb
     have hm4 := HM.out
     go_wp2_with fail
     refine (laysL (hraw.keep (((Fr.refl [] _).alloc _).drewN q) (by simp) (by simp)) i hfd.1 (by omega) (by omega) (by omega) (htn.out.le2 i hfd.1) ky x).mono ?_
     rintro e w2 ⟨rfl, hraw2, hf2⟩
     have htn2 := htn.out.lays (x := x) hfd (by omega)
     have eupto := (HT.out.upto_full hlt HY.out.1).1
     rw [HY.out.2.1, HY.out.2.2] at eupto
     have fin1 := Lib.hid (htn2.congrM eupto.symm)
     have fin2 : Fr [p] w w2 := ((hfr2.alloc _).drewN q).trans hf2 (fun b hb _ => hb) (fun b hb hl => by simp at hb ⊢; rcases hb with h | h; exact h; omega)
     have fin3 : w.heap.size < w2.heap.size := by have := hf2.size; simp at this; omega
     have fin4 : Hid (n' + 1 = cnt (isF T) (j + 1)) := by
      show n' + 1 = cnt (isF T) j + (isF T j).toNat
      rw [← hcn.out]
      simp [isF, HY.out.1]
     clear htn2 eupto hraw hfd hf2
     go_wp2_with fail
     exact ⟨⟨j + 1, _, n' + 1, _, by omega, by go_num, by split <;> omega, fin4, hraw2, fin1.out, hksz.out.up _ _ hks, fin2, fin3⟩, by simp [intOf]; omega⟩
    ·have b2 : ((y : Int) == 2) = false := by rw [beq_eq_false_iff_ne]; omega
     have hy3 := Lib.hid hy2
     clear hy2
     have fin1 : Hid (TInv m' T' (stI m') (upto T M (j + 1)) n' u') := by
      have e := HT.out.upto_not (j := j) (by rw [HY.out.1]; exact hy3.out)
      exact htn.out.congrM e.symm
     have fin4 : Hid (n' = cnt (isF T) (j + 1)) := by
      show n' = cnt (isF T) j + (isF T j).toNat
      rw [← hcn.out]
      have : isF T j = false := by simp [isF, HY.out.1, hy3.out]
      rw [this]; rfl
     go_wp2_with fail
     exact ⟨⟨j + 1, T', n', u', by omega, by go_num, hu', fin4, hraw.keep ((Fr.refl [] _).alloc _) (by simp) (by simp), fin1, hksz, hfr2.alloc _, by simp; omega⟩, by simp [intOf]; omega⟩
   ·have : j = m := by omega
    subst this
    have e : n' = n := by rw [hcn.out, HT.out.cn]
    go_wp2_with fail
    go_end0
    refine ⟨rfl, w.heap.size, ⟨w.heap.size, 0, m', m', T', u', rfl, by rw [← e]; exact hraw, by rw [← e]; exact htn.out.congrM HT.out.upto_all, by have := HM.out; omega, by omega, hksz.out⟩, Nat.le_refl _, hfr2⟩
end Go.Proofs.YtfeicmpbfbhiiaaGreat
