/- Texts of a proof about the given program, those parts that this claim reaches. -/
import Derived.Test.YtfeicmpbfbhiiaaGreatPEg08
set_option linter.unusedVariables false
set_option linter.unusedSimpArgs false
namespace Go.Proofs.YtfeicmpbfbhiiaaGreat
open Go.RowKit
attribute [local go_sem ↓] Go.wp_at_zero Go.wp_at_succ
theorem zZIdx5s1 {P : Prop} (h : P := by
 have hg := fun (w' : World) (k : Fr [] w w') => z1 (H.fr k (fun b _ => by simp)) key hk hM
 obtain ⟨g, off, c, m, T, used, rfl, hr, ht, h2, hm, hks⟩ := H
 have hf := fun (w' : World) (k : Fr [] w w') => z2 (hr.keep k (by simp) (by simp)) ht (by omega) key hk
 have hn0 : 0 < n := by
  obtain ⟨i, hi, h1, _⟩ := ht.cover key x hM
  rw [ht.cn]; exact cnt_pos hi (by simp [isF, h1])
 have hgl := hr.2.2.lt g (by simp [Value.ownBlock])
 have hpl := lt_of_block hr.2.1
 have HG := Lib.hid hg
 have HF := Lib.hid hf
 have HT := Lib.hid (And.intro ht (And.intro hM hks))
 have HR := Lib.hid hr
 clear hg hf ht hM hks hr
 go_enter z3, z4
 go_wp2_with fail
 refine (HG.out _ ((Fr.refl [] w).alloc _)).mono ?_
 rintro e w0 ⟨rfl, hf0⟩
 have hres0 : w0.heap[w.heap.size]? = some (.cells #[.int .i64 0, .int .i64 0] z5 (0, 0)) := hf0.get (block_alloc_new _ _) (by simp)
 have hfr0 : Fr [] w w0 := ((Fr.refl [] w).alloc _).same hf0
 have hlt0 := lt_of_block hres0
 clear hf0
 go_wp2_with fail
 refine (HF.out _ (hfr0.alloc _)).mono ?_
 rintro e w1 ⟨i, b, rfl, hfd, qb, hw1⟩
 have hb : b = true := by
  cases b with
  | true => rfl
  | false => have := (hfd.2.2 rfl).1; rw [HT.out.2.1] at this; cases this
 subst hb
 have hF0 : Fr [] w w1 := by rw [hw1]; exact (hfr0.alloc _).drewN qb
 have hres : w1.heap[w.heap.size]? = some (.cells #[.int .i64 0, .int .i64 0] z5 (0, 0)) := by rw [hw1]; exact block_drewN (block_alloc_old hres0 _)
 have hcop : w1.heap[w0.heap.size]? = some (.cells #[.int .i64 (x.1 : Nat), .int .i64 (x.2 : Nat)] z5 (0, 0)) := by rw [hw1]; exact block_drewN (block_alloc_new _ _)
 have hlt1 := lt_of_block hcop
 have hlt2 := lt_of_block hres
 have kc := cell_of_block hres
 have kf := free_of_block hres
 have k0 : w1.cell? ⟨w.heap.size, 0, none⟩ = some (.int .i64 0) := (kc 0).trans rfl; have k1 : w1.cell? ⟨w.heap.size, 1, none⟩ = some (.int .i64 0) := (kc 1).trans rfl
 have jc := cell_of_block hcop
 have j0 : w1.cell? ⟨w0.heap.size, 0, none⟩ = some (.int .i64 (x.1 : Nat)) := (jc 0).trans rfl; have j1 : w1.cell? ⟨w0.heap.size, 1, none⟩ = some (.int .i64 (x.2 : Nat)) := (jc 1).trans rfl
 obtain ⟨hi, ht2, _⟩ := hfd
 obtain ⟨e1, e2⟩ := ht2 rfl
 have hraw := HR.out.keep hF0 (by simp) (by simp)
 obtain ⟨b0, b1, b2, b3⟩ := hraw.head
 obtain ⟨c0, c1, _⟩ := hraw.cell i hi
 obtain ⟨q2, q3, _⟩ := hraw.vcell i hi
 have z := hraw.frz
 have zp := fun i => free_of_block hraw.2.1 i
 have hgp := hraw.1
 have F1 := Lib.hid ((hraw.setAll i hi ⟨1, ⟨#[]⟩, (0, 0)⟩).setN (n - 1))
 have F2 := Lib.hid (HT.out.1.del (k0 := ⟨#[]⟩) (x0 := (0, 0)) hi e1 e2)
 have hN : nDel M key n = n - 1 := by simp [nDel, HT.out.2.1]
 have HN := Lib.hid hN
 have HF1 := Lib.hid hF0
 obtain ⟨n0, hn0'⟩ : ∃ n0, n = n0 + 1 := ⟨n - 1, by omega⟩
 subst hn0'
 clear hraw ht2 e1 e2 hN hF0 hres hcop kc jc hw1 hfr0 hres0
 generalize hr0 : w.heap.size = r0 at *
 generalize hr1 : w0.heap.size = r1 at *
 have HR0 := Lib.hid (And.intro hr0 hr1)
 clear hr0 hr1 HG HF HR
 go_upto_region 6 with fail
 obtain ⟨w5, hw5⟩ : ∃ w5, ((((((w1).setCell ⟨g, off + i * 4, none⟩ (.int .i64 1)).setCell ⟨g, off + i * 4 + 1, none⟩ (.string ⟨#[]⟩)).setCell ⟨g, off + i * 4 + 2, none⟩ (.int .i64 0)).setCell ⟨g, off + i * 4 + 3, none⟩ (.int .i64 0)).setCell ⟨p, 2, none⟩ (.int .i64 n0)) = w5 := ⟨_, rfl⟩
 have q0 : Fr [p, g] w1 w1 := Fr.refl _ _
 replace q0 := q0.setCell (p := ⟨g, off + i * 4, none⟩) (by simp) (.int .i64 1); replace q0 := q0.setCell (p := ⟨g, off + i * 4 + 1, none⟩) (by simp) (.string ⟨#[]⟩); replace q0 := q0.setCell (p := ⟨g, off + i * 4 + 2, none⟩) (by simp) (.int .i64 0); replace q0 := q0.setCell (p := ⟨g, off + i * 4 + 3, none⟩) (by simp) (.int .i64 0); replace q0 := q0.setCell (p := ⟨p, 2, none⟩) (by simp) (.int .i64 n0)
 rw [hw5] at q0 ⊢
 have F1' : z6 w5 p g off c m _ _ used := hw5 ▸ F1.out
 have u0 := cell_fr q0 k0 (by simp; omega); have v0 := cell_fr q0 j0 (by simp; omega); have u1 := cell_fr q0 k1 (by simp; omega); have v1 := cell_fr q0 j1 (by simp; omega)
 have kf5 : ∀ i, w5.frozen? ⟨r0, i, none⟩ = false := fun i => by rw [World.frozen?_of_block (q0.block r0 hlt2 (by simp; omega))]; exact kf i
 have hl5 : r0 < w5.heap.size := Nat.lt_of_lt_of_le hlt2 q0.size
 have Q0 := Lib.hid q0
 have F5 := Lib.hid F1'
 clear hw5 q0 F1' F1 kf z zp b0 b1 b2 b3 c0 c1
 go_wp2
 refine bodyPost_ret (v := .tuple #[.agg #[.int .i64 (x.1 : Nat), .int .i64 (x.2 : Nat)], .bool true]) (by simp [results, z7, go_sem, World.cell?_setCell_same, u0, v0, u1, v1, hl5]) rfl ?_
 obtain ⟨hr0, hr1⟩ := HR0.out
 have q1 : Fr [p, g] w w5 := (HF1.out.mono (by simp)).same Q0.out
 have q2 : Fr [] w5 w5 := Fr.refl _ _
 have qn : Fr [r0] w5 w5 := Fr.refl _ _
 replace qn := qn.setCell (p := ⟨r0, 0, none⟩) (by simp) (.int .i64 (x.1 : Nat)); replace qn := qn.setCell (p := ⟨r0, 1, none⟩) (by simp) (.int .i64 (x.2 : Nat))
 have hrp : ∀ b, b ∈ [r0] → b ≠ p ∧ b ≠ g := by intro b hb; simp at hb; omega
 refine ⟨rfl, ?_, ?_⟩
 ·rw [HN.out]
  exact ⟨g, off, c, m, _, used, rfl, F5.out.keep qn (fun h => (hrp p h).1 rfl) (fun h => (hrp g h).2 rfl), F2.out, h2, hm, HT.out.2.2.up _ _ (Nat.zero_le _)⟩
 ·exact q1.trans qn (fun _ h _ => h) (fun b hb hl => by simp at hb; omega)
 ) : P := h
abbrev nIdx5s1z5a : Nat := 240
set_option maxRecDepth 100000 in
set_option maxHeartbeats 1000000 in
open YtfeicmpbfbhiiaaGreat renaming igetA → z1, findA → z2, nIdx5s1z5a → z5, IRawA → z6 in
open Tryz renaming func307 → z3, ntmps307 → z4, results307 → z7 in
theorem idelA {w : World} {p n : Nat} {F : List Nat} {M : ByteArray → Option (Nat × Nat)} (H : IRepA w p F M n) (hn : n ≤ 90000) (key : ByteArray) (hk : key.size ≤ maxLen) {x : Nat × Nat} (hM : M key = some x) :
  Calls Tryz.prog 307 #[.pointer (some ⟨p, 0, none⟩), .string key] w fun e w' => e = .returned (.tuple #[.agg #[.int .i64 (x.1 : Nat), .int .i64 (x.2 : Nat)], .bool true]) ∧ DelRetA w p n F M key w' := by exact zZIdx5s1
abbrev nIdx5s1z5b : Nat := 249
set_option maxRecDepth 100000 in
set_option maxHeartbeats 1000000 in
open YtfeicmpbfbhiiaaGreat renaming igetQ → z1, findQ → z2, nIdx5s1z5b → z5, IRawQ → z6 in
open Tryz renaming func381 → z3, ntmps381 → z4, results381 → z7 in
theorem idelQ {w : World} {p n : Nat} {F : List Nat} {M : ByteArray → Option (Nat × Nat)} (H : IRepQ w p F M n) (hn : n ≤ 90000) (key : ByteArray) (hk : key.size ≤ maxLen) {x : Nat × Nat} (hM : M key = some x) :
  Calls Tryz.prog 381 #[.pointer (some ⟨p, 0, none⟩), .string key] w fun e w' => e = .returned (.tuple #[.agg #[.int .i64 (x.1 : Nat), .int .i64 (x.2 : Nat)], .bool true]) ∧ DelRetQ w p n F M key w' := by exact zZIdx5s1
abbrev nIdx5s1z5c : Nat := 252
set_option maxRecDepth 100000 in
set_option maxHeartbeats 1000000 in
open YtfeicmpbfbhiiaaGreat renaming igetU → z1, findU → z2, nIdx5s1z5c → z5, IRawU → z6 in
open Tryz renaming func412 → z3, ntmps412 → z4, results412 → z7 in
theorem idelU {w : World} {p n : Nat} {F : List Nat} {M : ByteArray → Option (Nat × Nat)} (H : IRepU w p F M n) (hn : n ≤ 90000) (key : ByteArray) (hk : key.size ≤ maxLen) {x : Nat × Nat} (hM : M key = some x) :
  Calls Tryz.prog 412 #[.pointer (some ⟨p, 0, none⟩), .string key] w fun e w' => e = .returned (.tuple #[.agg #[.int .i64 (x.1 : Nat), .int .i64 (x.2 : Nat)], .bool true]) ∧ DelRetU w p n F M key w' := by exact zZIdx5s1
abbrev nIdx5s1z5d : Nat := 260
set_option maxRecDepth 100000 in
set_option maxHeartbeats 1000000 in
open YtfeicmpbfbhiiaaGreat renaming igetS → z1, findS → z2, nIdx5s1z5d → z5, IRawS → z6 in
open Tryz renaming func448 → z3, ntmps448 → z4, results448 → z7 in
theorem idelS {w : World} {p n : Nat} {F : List Nat} {M : ByteArray → Option (Nat × Nat)} (H : IRepS w p F M n) (hn : n ≤ 90000) (key : ByteArray) (hk : key.size ≤ maxLen) {x : Nat × Nat} (hM : M key = some x) :
  Calls Tryz.prog 448 #[.pointer (some ⟨p, 0, none⟩), .string key] w fun e w' => e = .returned (.tuple #[.agg #[.int .i64 (x.1 : Nat), .int .i64 (x.2 : Nat)], .bool true]) ∧ DelRetS w p n F M key w' := by exact zZIdx5s1
set_option maxRecDepth 100000 in
set_option maxHeartbeats 1000000 in
theorem idelL {w : World} {p n : Nat} {F : List Nat} {M : ByteArray → Option (Nat × Nat × Nat)} (H : IRepL w p F M n) (hn : n ≤ 90000) (key : ByteArray) (hk : key.size ≤ maxLen) {x : Nat × Nat × Nat} (hM : M key = some x) :
  Calls Tryz.prog 357 #[.pointer (some ⟨p, 0, none⟩), .string key] w fun e w' => e = .returned (.tuple #[.agg #[.int .i64 (x.1 : Nat), .int .i64 (x.2.1 : Nat), .int .i64 (x.2.2 : Nat)], .bool true]) ∧ DelRetL w p n F M key w' := by
 have hg := fun (w' : World) (k : Fr [] w w') => igetL (H.fr k (fun b _ => by simp)) key hk hM
 obtain ⟨g, off, c, m, T, used, rfl, hr, ht, h2, hm, hks⟩ := H
 have hf := fun (w' : World) (k : Fr [] w w') => findL (hr.keep k (by simp) (by simp)) ht (by omega) key hk
 have hn0 : 0 < n := by
  obtain ⟨i, hi, h1, _⟩ := ht.cover key x hM
  rw [ht.cn]; exact cnt_pos hi (by simp [isF, h1])
 have hgl := hr.2.2.lt g (by simp [Value.ownBlock])
 have hpl := lt_of_block hr.2.1
 have HG := Lib.hid hg
 have HF := Lib.hid hf
 have HT := Lib.hid (And.intro ht (And.intro hM hks))
 have HR := Lib.hid hr
 clear hg hf ht hM hks hr
 go_enter Tryz.func357, Tryz.ntmps357
 go_wp2_with fail
 refine (HG.out _ ((Fr.refl [] w).alloc _)).mono ?_
 rintro e w0 ⟨rfl, hf0⟩
 have hres0 : w0.heap[w.heap.size]? = some (.cells #[.int .i64 0, .int .i64 0, .int .i64 0] 195 (0, 0)) := hf0.get (block_alloc_new _ _) (by simp)
 have hfr0 : Fr [] w w0 := ((Fr.refl [] w).alloc _).same hf0
 have hlt0 := lt_of_block hres0
 clear hf0
 go_wp2_with fail
 refine (HF.out _ (hfr0.alloc _)).mono ?_
 rintro e w1 ⟨i, b, rfl, hfd, qb, hw1⟩
 have hb : b = true := by
  cases b with
  | true => rfl
  | false => have := (hfd.2.2 rfl).1; rw [HT.out.2.1] at this; cases this
 subst hb
 have hF0 : Fr [] w w1 := by rw [hw1]; exact (hfr0.alloc _).drewN qb
 have hres : w1.heap[w.heap.size]? = some (.cells #[.int .i64 0, .int .i64 0, .int .i64 0] 195 (0, 0)) := by rw [hw1]; exact block_drewN (block_alloc_old hres0 _)
 have hcop : w1.heap[w0.heap.size]? = some (.cells #[.int .i64 (x.1 : Nat), .int .i64 (x.2.1 : Nat), .int .i64 (x.2.2 : Nat)] 195 (0, 0)) := by rw [hw1]; exact block_drewN (block_alloc_new _ _)
 have hlt1 := lt_of_block hcop
 have hlt2 := lt_of_block hres
 have kc := cell_of_block hres
 have kf := free_of_block hres
 have k0 : w1.cell? ⟨w.heap.size, 0, none⟩ = some (.int .i64 0) := (kc 0).trans rfl; have k1 : w1.cell? ⟨w.heap.size, 1, none⟩ = some (.int .i64 0) := (kc 1).trans rfl; have k2 : w1.cell? ⟨w.heap.size, 2, none⟩ = some (.int .i64 0) := (kc 2).trans rfl
 have jc := cell_of_block hcop
 have j0 : w1.cell? ⟨w0.heap.size, 0, none⟩ = some (.int .i64 (x.1 : Nat)) := (jc 0).trans rfl; have j1 : w1.cell? ⟨w0.heap.size, 1, none⟩ = some (.int .i64 (x.2.1 : Nat)) := (jc 1).trans rfl; have j2 : w1.cell? ⟨w0.heap.size, 2, none⟩ = some (.int .i64 (x.2.2 : Nat)) := (jc 2).trans rfl
 obtain ⟨hi, ht2, _⟩ := hfd
 obtain ⟨e1, e2⟩ := ht2 rfl
 have hraw := HR.out.keep hF0 (by simp) (by simp)
 obtain ⟨b0, b1, b2, b3⟩ := hraw.head
 obtain ⟨c0, c1, _⟩ := hraw.cell i hi
 obtain ⟨q2, q3, q4, _⟩ := hraw.vcell i hi
 have z := hraw.frz
 have zp := fun i => free_of_block hraw.2.1 i
 have hgp := hraw.1
 have F1 := Lib.hid ((hraw.setAll i hi ⟨1, ⟨#[]⟩, (0, 0, 0)⟩).setN (n - 1))
 have F2 := Lib.hid (HT.out.1.del (k0 := ⟨#[]⟩) (x0 := (0, 0, 0)) hi e1 e2)
 have hN : nDel M key n = n - 1 := by simp [nDel, HT.out.2.1]
 have HN := Lib.hid hN
 have HF1 := Lib.hid hF0
 obtain ⟨n0, hn0'⟩ : ∃ n0, n = n0 + 1 := ⟨n - 1, by omega⟩
 subst hn0'
 clear hraw ht2 e1 e2 hN hF0 hres hcop kc jc hw1 hfr0 hres0
 generalize hr0 : w.heap.size = r0 at *
 generalize hr1 : w0.heap.size = r1 at *
 have HR0 := Lib.hid (And.intro hr0 hr1)
 clear hr0 hr1 HG HF HR
 go_upto_region 6 with fail
 obtain ⟨w5, hw5⟩ : ∃ w5, (((((((w1).setCell ⟨g, off + i * 5, none⟩ (.int .i64 1)).setCell ⟨g, off + i * 5 + 1, none⟩ (.string ⟨#[]⟩)).setCell ⟨g, off + i * 5 + 2, none⟩ (.int .i64 0)).setCell ⟨g, off + i * 5 + 3, none⟩ (.int .i64 0)).setCell ⟨g, off + i * 5 + 4, none⟩ (.int .i64 0)).setCell ⟨p, 2, none⟩ (.int .i64 n0)) = w5 := ⟨_, rfl⟩
 have q0 : Fr [p, g] w1 w1 := Fr.refl _ _
 replace q0 := q0.setCell (p := ⟨g, off + i * 5, none⟩) (by simp) (.int .i64 1); replace q0 := q0.setCell (p := ⟨g, off + i * 5 + 1, none⟩) (by simp) (.string ⟨#[]⟩); replace q0 := q0.setCell (p := ⟨g, off + i * 5 + 2, none⟩) (by simp) (.int .i64 0); replace q0 := q0.setCell (p := ⟨g, off + i * 5 + 3, none⟩) (by simp) (.int .i64 0); replace q0 := q0.setCell (p := ⟨g, off + i * 5 + 4, none⟩) (by simp) (.int .i64 0); replace q0 := q0.setCell (p := ⟨p, 2, none⟩) (by simp) (.int .i64 n0)
 rw [hw5] at q0 ⊢
 have F1' : IRawL w5 p g off c m _ _ used := hw5 ▸ F1.out
 have u0 := cell_fr q0 k0 (by simp; omega); have v0 := cell_fr q0 j0 (by simp; omega); have u1 := cell_fr q0 k1 (by simp; omega); have v1 := cell_fr q0 j1 (by simp; omega); have u2 := cell_fr q0 k2 (by simp; omega); have v2 := cell_fr q0 j2 (by simp; omega)
 have kf5 : ∀ i, w5.frozen? ⟨r0, i, none⟩ = false := fun i => by rw [World.frozen?_of_block (q0.block r0 hlt2 (by simp; omega))]; exact kf i
 have hl5 : r0 < w5.heap.size := Nat.lt_of_lt_of_le hlt2 q0.size
 have Q0 := Lib.hid q0
 have F5 := Lib.hid F1'
 clear hw5 q0 F1' F1 kf z zp b0 b1 b2 b3 c0 c1
 go_wp2
 refine bodyPost_ret (v := .tuple #[.agg #[.int .i64 (x.1 : Nat), .int .i64 (x.2.1 : Nat), .int .i64 (x.2.2 : Nat)], .bool true]) (by simp [results, Tryz.results357, go_sem, World.cell?_setCell_same, u0, v0, u1, v1, u2, v2, hl5]) rfl ?_
 obtain ⟨hr0, hr1⟩ := HR0.out
 have q1 : Fr [p, g] w w5 := (HF1.out.mono (by simp)).same Q0.out
 have q2 : Fr [] w5 w5 := Fr.refl _ _
 have qn : Fr [r0] w5 w5 := Fr.refl _ _
 replace qn := qn.setCell (p := ⟨r0, 0, none⟩) (by simp) (.int .i64 (x.1 : Nat)); replace qn := qn.setCell (p := ⟨r0, 1, none⟩) (by simp) (.int .i64 (x.2.1 : Nat)); replace qn := qn.setCell (p := ⟨r0, 2, none⟩) (by simp) (.int .i64 (x.2.2 : Nat))
 have hrp : ∀ b, b ∈ [r0] → b ≠ p ∧ b ≠ g := by intro b hb; simp at hb; omega
 refine ⟨rfl, ?_, ?_⟩
 ·rw [HN.out]
  exact ⟨g, off, c, m, _, used, rfl, F5.out.keep qn (fun h => (hrp p h).1 rfl) (fun h => (hrp g h).2 rfl), F2.out, h2, hm, HT.out.2.2.up _ _ (Nat.zero_le _)⟩
 ·exact q1.trans qn (fun _ h _ => h) (fun b hb hl => by simp at hb; omega)
end Go.Proofs.YtfeicmpbfbhiiaaGreat
