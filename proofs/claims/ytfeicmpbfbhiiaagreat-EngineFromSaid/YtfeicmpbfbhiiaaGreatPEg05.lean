/- Texts of a proof about the given program, those parts that this claim reaches. -/
import Derived.Test.YtfeicmpbfbhiiaaGreatPEg04
import Derived.Handy
set_option linter.unusedVariables false
set_option linter.unusedSimpArgs false
namespace Go.Proofs.YtfeicmpbfbhiiaaGreat
open Go.RowKit
attribute [local go_sem ↓] Go.wp_at_zero Go.wp_at_succ
theorem zZIdx2s1 {P : Prop} (h : P := by
 obtain ⟨h0, h1, h2, h3⟩ := H.head
 obtain ⟨k0, k1, _⟩ := H.cell i hi
 obtain ⟨q2, q3, _⟩ := H.vcell i hi
 have z := H.frz
 have zp := fun i => free_of_block H.2.1 i
 have hgp := H.1
 have hpl := lt_of_block H.2.1
 have hgl := H.2.2.lt g (by simp [Value.ownBlock])
 have hA := (H.setAll i hi ⟨2, key, x⟩).setN (n + 1)
 have hB := ((H.setU (used + 1)).setAll i hi ⟨2, key, x⟩).setN (n + 1)
 simp only [Int.natCast_add, Int.cast_ofNat_Int, Int.natCast_one] at hA hB
 have HA := Lib.hid hA
 have HB := Lib.hid hB
 obtain ⟨y, hy⟩ : ∃ y, (T i).is = y := ⟨_, rfl⟩
 rw [hy] at k0 hle ⊢
 clear H hA hB hy
 by_cases hy0 : y = 0
 ·subst hy0
  go_enter z1, z2
  go_wp2
  go_region
  all_goals
   go_wp2
   go_end0
   have c2 := HB.out.keep (((Fr.refl [] _).alloc (.cells #[.int .i64 (x.1 : Nat), .int .i64 (x.2 : Nat)] z3)).drew) (by simp) (by simp)
   refine ⟨rfl, by first | exact c2 | (rw [if_pos rfl]; exact c2), ?_⟩
   have q0 := Fr.refl [p, g] w
   replace q0 := q0.setCell (p := ⟨p, 3, none⟩) (by simp) (.int .i64 ((used : Int) + 1)); replace q0 := q0.setCell (p := ⟨g, off + i * 4, none⟩) (by simp) (.int .i64 2); replace q0 := q0.setCell (p := ⟨g, off + i * 4 + 1, none⟩) (by simp) (.string key); replace q0 := q0.setCell (p := ⟨g, off + i * 4 + 2, none⟩) (by simp) (.int .i64 (x.1 : Nat)); replace q0 := q0.setCell (p := ⟨g, off + i * 4 + 3, none⟩) (by simp) (.int .i64 (x.2 : Nat)); replace q0 := q0.setCell (p := ⟨p, 2, none⟩) (by simp) (.int .i64 ((n : Int) + 1))
   exact (q0.alloc _).drew
 ·have b0 : ((y : Int) == 0) = false := by rw [beq_eq_false_iff_ne]; omega
  have hy1 := Lib.hid hy0
  clear hy0
  go_enter z1, z2
  go_wp2
  go_region
  all_goals
   go_wp2
   go_end0
   have c2 := HA.out.keep (((Fr.refl [] _).alloc (.cells #[.int .i64 (x.1 : Nat), .int .i64 (x.2 : Nat)] z3)).drew) (by simp) (by simp)
   refine ⟨rfl, by first | exact c2 | (rw [if_neg hy1.out]; exact c2), ?_⟩
   have q0 := Fr.refl [p, g] w
   replace q0 := q0.setCell (p := ⟨g, off + i * 4, none⟩) (by simp) (.int .i64 2); replace q0 := q0.setCell (p := ⟨g, off + i * 4 + 1, none⟩) (by simp) (.string key); replace q0 := q0.setCell (p := ⟨g, off + i * 4 + 2, none⟩) (by simp) (.int .i64 (x.1 : Nat)); replace q0 := q0.setCell (p := ⟨g, off + i * 4 + 3, none⟩) (by simp) (.int .i64 (x.2 : Nat)); replace q0 := q0.setCell (p := ⟨p, 2, none⟩) (by simp) (.int .i64 ((n : Int) + 1))
   exact (q0.alloc _).drew
 ) : P := h
abbrev nIdx2s1z3a : Nat := 240
set_option maxRecDepth 100000 in
set_option maxHeartbeats 1000000 in
open YtfeicmpbfbhiiaaGreat renaming nIdx2s1z3a → z3 in
open Tryz renaming func313 → z1, ntmps313 → z2 in
theorem laysA {w : World} {p g off c m n used : Nat} {T : Nat → Pl (Nat × Nat)} (H : IRawA w p g off c m T n used) (i : Nat) (hi : i < m) (hm : m ≤ 1000000) (hn : n ≤ 1000000) (hu : used ≤ 1000000) (hle : (T i).is ≤ 2) (key : ByteArray) (x : Nat × Nat) :
  Calls Tryz.prog 313 #[.pointer (some ⟨p, 0, none⟩), .int .i64 i, .string key, .agg #[.int .i64 (x.1 : Nat), .int .i64 (x.2 : Nat)]] w fun e w' => e = .returned (.tuple #[]) ∧ IRawA w' p g off c m (up T i ⟨2, key, x⟩) (n + 1) (if (T i).is = 0 then used + 1 else used) ∧ Fr [p, g] w w' := by exact zZIdx2s1
theorem zZIdx2s2 {P : Prop} (h : P := by
 have hf := fun (w' : World) (k : Fr [] w w') => z1 (H.keep k (by simp) (by simp)) ht hm key hk
 have hpl := lt_of_block H.2.1
 have hgl := H.2.2.lt g (by simp [Value.ownBlock])
 have HF := Lib.hid hf
 have HT := Lib.hid ht
 have HH := Lib.hid H
 clear H ht hf
 go_enter z2, z3
 go_wp2_with fail
 refine (HF.out _ ((Fr.refl [] w).alloc _)).mono ?_
 rintro e w1 ⟨i, b, rfl, hfd, q, hw1⟩
 have hfr1 : Fr [] w w1 := by rw [hw1]; exact ((Fr.refl [] w).alloc _).drewN q
 have hres : w1.heap[w.heap.size]? = some (.cells #[.int .i64 0, .int .i64 0] z4 (0, 0)) := by rw [hw1]; exact block_drewN (block_alloc_new _ _)
 clear hw1
 have hlt1 := lt_of_block hres
 cases b with
 | true =>
  obtain ⟨hi, hft, _⟩ := hfd
  obtain ⟨h2', hkey⟩ := hft rfl
  have hr1 := HH.out.keep hfr1 (by simp) (by simp)
  obtain ⟨q2, q3, _⟩ := hr1.vcell i hi
  obtain ⟨b0, b1, b2, b3⟩ := hr1.head
  have hM := HT.out.ok i hi h2'
  rw [hkey] at hM
  have HM := Lib.hid hM
  have HFR := Lib.hid hfr1
  have kc := cell_of_block hres
  have kf := free_of_block hres
  have k0 : w1.cell? ⟨w.heap.size, 0, none⟩ = some (.int .i64 0) := (kc 0).trans rfl; have k1 : w1.cell? ⟨w.heap.size, 1, none⟩ = some (.int .i64 0) := (kc 1).trans rfl
  clear hM hft h2' hkey hr1 hfr1 hres kc
  go_wp2
  refine bodyPost_ret (v := .tuple #[.agg #[.int .i64 ((T i).v.1 : Nat), .int .i64 ((T i).v.2 : Nat)], .bool true]) (by simp [results, z5, go_sem, World.cell?_setCell_same, k0, k1, hlt1]) rfl ?_
  exact ⟨.inl ⟨(T i).v, HM.out, rfl⟩, by have q0 := HFR.out; replace q0 := q0.setNew (p := ⟨w.heap.size, 0, none⟩) (by simp) (.int .i64 ((T i).v.1 : Nat)); replace q0 := q0.setNew (p := ⟨w.heap.size, 1, none⟩) (by simp) (.int .i64 ((T i).v.2 : Nat)); exact q0⟩
 | false =>
  have hM := (hfd.2.2 rfl).1
  have HM := Lib.hid hM
  have HFR := Lib.hid hfr1
  have kc := cell_of_block hres
  have kf := free_of_block hres
  have k0 : w1.cell? ⟨w.heap.size, 0, none⟩ = some (.int .i64 0) := (kc 0).trans rfl; have k1 : w1.cell? ⟨w.heap.size, 1, none⟩ = some (.int .i64 0) := (kc 1).trans rfl
  clear hM hfd hfr1 hres kc
  go_wp2
  refine bodyPost_ret (v := .tuple #[.agg #[.int .i64 0, .int .i64 0], .bool false]) (by simp [results, z5, go_sem, World.cell?_setCell_same, k0, k1, hlt1]) rfl ?_
  exact ⟨.inr ⟨HM.out, rfl⟩, by have q0 := HFR.out; replace q0 := q0.setNew (p := ⟨w.heap.size, 0, none⟩) (by simp) (.int .i64 0); replace q0 := q0.setNew (p := ⟨w.heap.size, 1, none⟩) (by simp) (.int .i64 0); exact q0.alloc _⟩
 ) : P := h
abbrev nIdx2s2z4a : Nat := 240
set_option maxRecDepth 100000 in
open YtfeicmpbfbhiiaaGreat renaming findA → z1, nIdx2s2z4a → z4 in
open Tryz renaming func304 → z2, ntmps304 → z3, results304 → z5 in
theorem getA_raw {w : World} {p g off c m n used : Nat} {T : Nat → Pl (Nat × Nat)} {M : ByteArray → Option (Nat × Nat)} (H : IRawA w p g off c m T n used) (ht : TInv m T (stI m) M n used) (hm : m ≤ 1000000) (key : ByteArray) (hk : key.size ≤ maxLen) :
  Calls Tryz.prog 304 #[.pointer (some ⟨p, 0, none⟩), .string key] w fun e w' => ((∃ x, M key = some x ∧ e = .returned (.tuple #[.agg #[.int .i64 (x.1 : Nat), .int .i64 (x.2 : Nat)], .bool true])) ∨ M key = none ∧ e = .returned (.tuple #[.agg #[.int .i64 0, .int .i64 0], .bool false])) ∧ Fr [] w w' := by exact zZIdx2s2
abbrev nIdx2s1z3b : Nat := 249
set_option maxRecDepth 100000 in
set_option maxHeartbeats 1000000 in
open YtfeicmpbfbhiiaaGreat renaming nIdx2s1z3b → z3 in
open Tryz renaming func383 → z1, ntmps383 → z2 in
theorem laysQ {w : World} {p g off c m n used : Nat} {T : Nat → Pl (Nat × Nat)} (H : IRawQ w p g off c m T n used) (i : Nat) (hi : i < m) (hm : m ≤ 1000000) (hn : n ≤ 1000000) (hu : used ≤ 1000000) (hle : (T i).is ≤ 2) (key : ByteArray) (x : Nat × Nat) :
  Calls Tryz.prog 383 #[.pointer (some ⟨p, 0, none⟩), .int .i64 i, .string key, .agg #[.int .i64 (x.1 : Nat), .int .i64 (x.2 : Nat)]] w fun e w' => e = .returned (.tuple #[]) ∧ IRawQ w' p g off c m (up T i ⟨2, key, x⟩) (n + 1) (if (T i).is = 0 then used + 1 else used) ∧ Fr [p, g] w w' := by exact zZIdx2s1
abbrev nIdx2s2z4b : Nat := 249
set_option maxRecDepth 100000 in
open YtfeicmpbfbhiiaaGreat renaming findQ → z1, nIdx2s2z4b → z4 in
open Tryz renaming func379 → z2, ntmps379 → z3, results379 → z5 in
theorem getQ_raw {w : World} {p g off c m n used : Nat} {T : Nat → Pl (Nat × Nat)} {M : ByteArray → Option (Nat × Nat)} (H : IRawQ w p g off c m T n used) (ht : TInv m T (stI m) M n used) (hm : m ≤ 1000000) (key : ByteArray) (hk : key.size ≤ maxLen) :
  Calls Tryz.prog 379 #[.pointer (some ⟨p, 0, none⟩), .string key] w fun e w' => ((∃ x, M key = some x ∧ e = .returned (.tuple #[.agg #[.int .i64 (x.1 : Nat), .int .i64 (x.2 : Nat)], .bool true])) ∨ M key = none ∧ e = .returned (.tuple #[.agg #[.int .i64 0, .int .i64 0], .bool false])) ∧ Fr [] w w' := by exact zZIdx2s2
abbrev nIdx2s1z3c : Nat := 252
set_option maxRecDepth 100000 in
set_option maxHeartbeats 1000000 in
open YtfeicmpbfbhiiaaGreat renaming nIdx2s1z3c → z3 in
open Tryz renaming func421 → z1, ntmps421 → z2 in
theorem laysU {w : World} {p g off c m n used : Nat} {T : Nat → Pl (Nat × Nat)} (H : IRawU w p g off c m T n used) (i : Nat) (hi : i < m) (hm : m ≤ 1000000) (hn : n ≤ 1000000) (hu : used ≤ 1000000) (hle : (T i).is ≤ 2) (key : ByteArray) (x : Nat × Nat) :
  Calls Tryz.prog 421 #[.pointer (some ⟨p, 0, none⟩), .int .i64 i, .string key, .agg #[.int .i64 (x.1 : Nat), .int .i64 (x.2 : Nat)]] w fun e w' => e = .returned (.tuple #[]) ∧ IRawU w' p g off c m (up T i ⟨2, key, x⟩) (n + 1) (if (T i).is = 0 then used + 1 else used) ∧ Fr [p, g] w w' := by exact zZIdx2s1
abbrev nIdx2s2z4c : Nat := 252
set_option maxRecDepth 100000 in
open YtfeicmpbfbhiiaaGreat renaming findU → z1, nIdx2s2z4c → z4 in
open Tryz renaming func409 → z2, ntmps409 → z3, results409 → z5 in
theorem getU_raw {w : World} {p g off c m n used : Nat} {T : Nat → Pl (Nat × Nat)} {M : ByteArray → Option (Nat × Nat)} (H : IRawU w p g off c m T n used) (ht : TInv m T (stI m) M n used) (hm : m ≤ 1000000) (key : ByteArray) (hk : key.size ≤ maxLen) :
  Calls Tryz.prog 409 #[.pointer (some ⟨p, 0, none⟩), .string key] w fun e w' => ((∃ x, M key = some x ∧ e = .returned (.tuple #[.agg #[.int .i64 (x.1 : Nat), .int .i64 (x.2 : Nat)], .bool true])) ∨ M key = none ∧ e = .returned (.tuple #[.agg #[.int .i64 0, .int .i64 0], .bool false])) ∧ Fr [] w w' := by exact zZIdx2s2
abbrev nIdx2s1z3d : Nat := 260
set_option maxRecDepth 100000 in
set_option maxHeartbeats 1000000 in
open YtfeicmpbfbhiiaaGreat renaming nIdx2s1z3d → z3 in
open Tryz renaming func449 → z1, ntmps449 → z2 in
theorem laysS {w : World} {p g off c m n used : Nat} {T : Nat → Pl (Nat × Nat)} (H : IRawS w p g off c m T n used) (i : Nat) (hi : i < m) (hm : m ≤ 1000000) (hn : n ≤ 1000000) (hu : used ≤ 1000000) (hle : (T i).is ≤ 2) (key : ByteArray) (x : Nat × Nat) :
  Calls Tryz.prog 449 #[.pointer (some ⟨p, 0, none⟩), .int .i64 i, .string key, .agg #[.int .i64 (x.1 : Nat), .int .i64 (x.2 : Nat)]] w fun e w' => e = .returned (.tuple #[]) ∧ IRawS w' p g off c m (up T i ⟨2, key, x⟩) (n + 1) (if (T i).is = 0 then used + 1 else used) ∧ Fr [p, g] w w' := by exact zZIdx2s1
abbrev nIdx2s2z4d : Nat := 260
set_option maxRecDepth 100000 in
open YtfeicmpbfbhiiaaGreat renaming findS → z1, nIdx2s2z4d → z4 in
open Tryz renaming func442 → z2, ntmps442 → z3, results442 → z5 in
theorem getS_raw {w : World} {p g off c m n used : Nat} {T : Nat → Pl (Nat × Nat)} {M : ByteArray → Option (Nat × Nat)} (H : IRawS w p g off c m T n used) (ht : TInv m T (stI m) M n used) (hm : m ≤ 1000000) (key : ByteArray) (hk : key.size ≤ maxLen) :
  Calls Tryz.prog 442 #[.pointer (some ⟨p, 0, none⟩), .string key] w fun e w' => ((∃ x, M key = some x ∧ e = .returned (.tuple #[.agg #[.int .i64 (x.1 : Nat), .int .i64 (x.2 : Nat)], .bool true])) ∨ M key = none ∧ e = .returned (.tuple #[.agg #[.int .i64 0, .int .i64 0], .bool false])) ∧ Fr [] w w' := by exact zZIdx2s2
set_option maxRecDepth 100000 in
set_option maxHeartbeats 1000000 in
theorem laysL {w : World} {p g off c m n used : Nat} {T : Nat → Pl (Nat × Nat × Nat)} (H : IRawL w p g off c m T n used) (i : Nat) (hi : i < m) (hm : m ≤ 1000000) (hn : n ≤ 1000000) (hu : used ≤ 1000000) (hle : (T i).is ≤ 2) (key : ByteArray) (x : Nat × Nat × Nat) :
  Calls Tryz.prog 359 #[.pointer (some ⟨p, 0, none⟩), .int .i64 i, .string key, .agg #[.int .i64 (x.1 : Nat), .int .i64 (x.2.1 : Nat), .int .i64 (x.2.2 : Nat)]] w fun e w' => e = .returned (.tuple #[]) ∧ IRawL w' p g off c m (up T i ⟨2, key, x⟩) (n + 1) (if (T i).is = 0 then used + 1 else used) ∧ Fr [p, g] w w' := by
 obtain ⟨h0, h1, h2, h3⟩ := H.head
 obtain ⟨k0, k1, _⟩ := H.cell i hi
 obtain ⟨q2, q3, q4, _⟩ := H.vcell i hi
 have z := H.frz
 have zp := fun i => free_of_block H.2.1 i
 have hgp := H.1
 have hpl := lt_of_block H.2.1
 have hgl := H.2.2.lt g (by simp [Value.ownBlock])
 have hA := (H.setAll i hi ⟨2, key, x⟩).setN (n + 1)
 have hB := ((H.setU (used + 1)).setAll i hi ⟨2, key, x⟩).setN (n + 1)
 simp only [Int.natCast_add, Int.cast_ofNat_Int, Int.natCast_one] at hA hB
 have HA := Lib.hid hA
 have HB := Lib.hid hB
 obtain ⟨y, hy⟩ : ∃ y, (T i).is = y := ⟨_, rfl⟩
 rw [hy] at k0 hle ⊢
 clear H hA hB hy
 by_cases hy0 : y = 0
 ·subst hy0
  go_enter Tryz.func359, Tryz.ntmps359
  go_wp2
  go_region
  all_goals
   go_wp2
   go_end0
   have c2 := HB.out.keep (((Fr.refl [] _).alloc (.cells #[.int .i64 (x.1 : Nat), .int .i64 (x.2.1 : Nat), .int .i64 (x.2.2 : Nat)] 195)).drew) (by simp) (by simp)
   refine ⟨rfl, by first | exact c2 | (rw [if_pos rfl]; exact c2), ?_⟩
   have q0 := Fr.refl [p, g] w
   replace q0 := q0.setCell (p := ⟨p, 3, none⟩) (by simp) (.int .i64 ((used : Int) + 1)); replace q0 := q0.setCell (p := ⟨g, off + i * 5, none⟩) (by simp) (.int .i64 2); replace q0 := q0.setCell (p := ⟨g, off + i * 5 + 1, none⟩) (by simp) (.string key); replace q0 := q0.setCell (p := ⟨g, off + i * 5 + 2, none⟩) (by simp) (.int .i64 (x.1 : Nat)); replace q0 := q0.setCell (p := ⟨g, off + i * 5 + 3, none⟩) (by simp) (.int .i64 (x.2.1 : Nat)); replace q0 := q0.setCell (p := ⟨g, off + i * 5 + 4, none⟩) (by simp) (.int .i64 (x.2.2 : Nat)); replace q0 := q0.setCell (p := ⟨p, 2, none⟩) (by simp) (.int .i64 ((n : Int) + 1))
   exact (q0.alloc _).drew
 ·have b0 : ((y : Int) == 0) = false := by rw [beq_eq_false_iff_ne]; omega
  have hy1 := Lib.hid hy0
  clear hy0
  go_enter Tryz.func359, Tryz.ntmps359
  go_wp2
  go_region
  all_goals
   go_wp2
   go_end0
   have c2 := HA.out.keep (((Fr.refl [] _).alloc (.cells #[.int .i64 (x.1 : Nat), .int .i64 (x.2.1 : Nat), .int .i64 (x.2.2 : Nat)] 195)).drew) (by simp) (by simp)
   refine ⟨rfl, by first | exact c2 | (rw [if_neg hy1.out]; exact c2), ?_⟩
   have q0 := Fr.refl [p, g] w
   replace q0 := q0.setCell (p := ⟨g, off + i * 5, none⟩) (by simp) (.int .i64 2); replace q0 := q0.setCell (p := ⟨g, off + i * 5 + 1, none⟩) (by simp) (.string key); replace q0 := q0.setCell (p := ⟨g, off + i * 5 + 2, none⟩) (by simp) (.int .i64 (x.1 : Nat)); replace q0 := q0.setCell (p := ⟨g, off + i * 5 + 3, none⟩) (by simp) (.int .i64 (x.2.1 : Nat)); replace q0 := q0.setCell (p := ⟨g, off + i * 5 + 4, none⟩) (by simp) (.int .i64 (x.2.2 : Nat)); replace q0 := q0.setCell (p := ⟨p, 2, none⟩) (by simp) (.int .i64 ((n : Int) + 1))
   exact (q0.alloc _).drew
set_option maxRecDepth 100000 in
theorem getL_raw {w : World} {p g off c m n used : Nat} {T : Nat → Pl (Nat × Nat × Nat)} {M : ByteArray → Option (Nat × Nat × Nat)} (H : IRawL w p g off c m T n used) (ht : TInv m T (stI m) M n used) (hm : m ≤ 1000000) (key : ByteArray) (hk : key.size ≤ maxLen) :
  Calls Tryz.prog 343 #[.pointer (some ⟨p, 0, none⟩), .string key] w fun e w' => ((∃ x, M key = some x ∧ e = .returned (.tuple #[.agg #[.int .i64 (x.1 : Nat), .int .i64 (x.2.1 : Nat), .int .i64 (x.2.2 : Nat)], .bool true])) ∨ M key = none ∧ e = .returned (.tuple #[.agg #[.int .i64 0, .int .i64 0, .int .i64 0], .bool false])) ∧ Fr [] w w' := by
 have hf := fun (w' : World) (k : Fr [] w w') => findL (H.keep k (by simp) (by simp)) ht hm key hk
 have hpl := lt_of_block H.2.1
 have hgl := H.2.2.lt g (by simp [Value.ownBlock])
 have HF := Lib.hid hf
 have HT := Lib.hid ht
 have HH := Lib.hid H
 clear H ht hf
 go_enter Tryz.func343, Tryz.ntmps343
 go_wp2_with fail
 refine (HF.out _ ((Fr.refl [] w).alloc _)).mono ?_
 rintro e w1 ⟨i, b, rfl, hfd, q, hw1⟩
 have hfr1 : Fr [] w w1 := by rw [hw1]; exact ((Fr.refl [] w).alloc _).drewN q
 have hres : w1.heap[w.heap.size]? = some (.cells #[.int .i64 0, .int .i64 0, .int .i64 0] 195 (0, 0)) := by rw [hw1]; exact block_drewN (block_alloc_new _ _)
 clear hw1
 have hlt1 := lt_of_block hres
 cases b with
 | true =>
  obtain ⟨hi, hft, _⟩ := hfd
  obtain ⟨h2', hkey⟩ := hft rfl
  have hr1 := HH.out.keep hfr1 (by simp) (by simp)
  obtain ⟨q2, q3, q4, _⟩ := hr1.vcell i hi
  obtain ⟨b0, b1, b2, b3⟩ := hr1.head
  have hM := HT.out.ok i hi h2'
  rw [hkey] at hM
  have HM := Lib.hid hM
  have HFR := Lib.hid hfr1
  have kc := cell_of_block hres
  have kf := free_of_block hres
  have k0 : w1.cell? ⟨w.heap.size, 0, none⟩ = some (.int .i64 0) := (kc 0).trans rfl; have k1 : w1.cell? ⟨w.heap.size, 1, none⟩ = some (.int .i64 0) := (kc 1).trans rfl; have k2 : w1.cell? ⟨w.heap.size, 2, none⟩ = some (.int .i64 0) := (kc 2).trans rfl
  clear hM hft h2' hkey hr1 hfr1 hres kc
  go_wp2
  refine bodyPost_ret (v := .tuple #[.agg #[.int .i64 ((T i).v.1 : Nat), .int .i64 ((T i).v.2.1 : Nat), .int .i64 ((T i).v.2.2 : Nat)], .bool true]) (by simp [results, Tryz.results343, go_sem, World.cell?_setCell_same, k0, k1, k2, hlt1]) rfl ?_
  exact ⟨.inl ⟨(T i).v, HM.out, rfl⟩, by have q0 := HFR.out; replace q0 := q0.setNew (p := ⟨w.heap.size, 0, none⟩) (by simp) (.int .i64 ((T i).v.1 : Nat)); replace q0 := q0.setNew (p := ⟨w.heap.size, 1, none⟩) (by simp) (.int .i64 ((T i).v.2.1 : Nat)); replace q0 := q0.setNew (p := ⟨w.heap.size, 2, none⟩) (by simp) (.int .i64 ((T i).v.2.2 : Nat)); exact q0⟩
 | false =>
  have hM := (hfd.2.2 rfl).1
  have HM := Lib.hid hM
  have HFR := Lib.hid hfr1
  have kc := cell_of_block hres
  have kf := free_of_block hres
  have k0 : w1.cell? ⟨w.heap.size, 0, none⟩ = some (.int .i64 0) := (kc 0).trans rfl; have k1 : w1.cell? ⟨w.heap.size, 1, none⟩ = some (.int .i64 0) := (kc 1).trans rfl; have k2 : w1.cell? ⟨w.heap.size, 2, none⟩ = some (.int .i64 0) := (kc 2).trans rfl
  clear hM hfd hfr1 hres kc
  go_wp2
  refine bodyPost_ret (v := .tuple #[.agg #[.int .i64 0, .int .i64 0, .int .i64 0], .bool false]) (by simp [results, Tryz.results343, go_sem, World.cell?_setCell_same, k0, k1, k2, hlt1]) rfl ?_
  exact ⟨.inr ⟨HM.out, rfl⟩, by have q0 := HFR.out; replace q0 := q0.setNew (p := ⟨w.heap.size, 0, none⟩) (by simp) (.int .i64 0); replace q0 := q0.setNew (p := ⟨w.heap.size, 1, none⟩) (by simp) (.int .i64 0); replace q0 := q0.setNew (p := ⟨w.heap.size, 2, none⟩) (by simp) (.int .i64 0); exact q0.alloc _⟩
end Go.Proofs.YtfeicmpbfbhiiaaGreat
