/- Texts of a proof about the given program, those parts that this claim reaches. -/
import Derived.Test.YtfeicmpbfbhiiaaGreatPEg17
import Derived.StillTailTactics
import Derived.Test.YtfeicmpbfbhiiaaGreatPEg00
import Derived.Test.YtfeicmpbfbhiiaaGreatPEg10
import Derived.Test.YtfeicmpbfbhiiaaGreatPEg16
set_option linter.unusedVariables false
set_option linter.unusedSimpArgs false
namespace Go.Proofs.YtfeicmpbfbhiiaaGreat
open Go.RowKit
attribute [local go_sem ↓] Go.wp_at_zero Go.wp_at_succ
def encB (bs : List Nat) : List Value := bs.map fun x => .int .u8 (x : Nat)
/-- Cell j of a row of bytes. -/
def nib (bs : List Nat) (j : Nat) : Nat := if j % 2 = 0 then (bs[j / 2]?.getD 0) % 16 else (bs[j / 2]?.getD 0) / 16
/-- A sketch at p: its bytes lie in block g. -/
def KRaw (w : World) (p g m : Nat) (bs : List Nat) (s : Sk) : Prop :=
 p ≠ g ∧ w.heap[p]? = some (.cells #[.int .i64 (s.n : Nat), .slice (some ⟨g, 0, none⟩) m m, .int .i64 (s.sum : Nat)] 254 (0, 0)) ∧ Sl w 5 1 (.slice (some ⟨g, 0, none⟩) m m) m (encB bs) ∧ bs.length = m ∧ m = 2 * s.n ∧
  (∀ x ∈ bs, x < 256) ∧ ∀ j, j < 2 * m → s.cell j = nib bs j
def KRep (w : World) (p : Nat) (F : List Nat) (s : Sk) : Prop := ∃ g m bs, F = [p, g] ∧ KRaw w p g m bs s
section
variable {w w' : World} {p g m : Nat} {F G : List Nat} {bs : List Nat} {s : Sk}
theorem KRaw.fr (h : KRaw w p g m bs s) (f : Fr G w w') (hp : p ∉ G) (hg : g ∉ G) : KRaw w' p g m bs s :=
 ⟨h.1, f.get h.2.1 hp, h.2.2.1.fr f (fun b hb => by simp [Value.ownBlock] at hb; subst hb; exact hg), h.2.2.2⟩
theorem KRep.fr (h : KRep w p F s) (f : Fr G w w') (hd : Dis F G) : KRep w' p F s := by
 obtain ⟨g, m, bs, rfl, h⟩ := h
 exact ⟨g, m, bs, rfl, h.fr f (hd p (by simp)) (hd g (by simp))⟩
theorem KRep.lt (h : KRep w p F s) : Lt F w := by
 obtain ⟨g, m, bs, rfl, h⟩ := h
 intro b hb
 simp at hb
 rcases hb with rfl | rfl
 ·exact lt_of_block h.2.1
 ·exact h.2.2.1.lt _ (by simp [Value.ownBlock])
theorem KRaw.head (h : KRaw w p g m bs s) : w.cell? ⟨p, 0, none⟩ = some (.int .i64 (s.n : Nat)) ∧ w.cell? ⟨p, 1, none⟩ = some (.slice (some ⟨g, 0, none⟩) m m) ∧ w.cell? ⟨p, 2, none⟩ = some (.int .i64 (s.sum : Nat)) := by
 have k := cell_of_block h.2.1
 exact ⟨by rw [k]; rfl, by rw [k]; rfl, by rw [k]; rfl⟩
theorem KRaw.cell (h : KRaw w p g m bs s) (i : Nat) (hi : i < m) : w.cell? ⟨g, i, none⟩ = some (.int .u8 ((bs[i]?.getD 0 : Nat) : Int)) ∧ (bs[i]?.getD 0) < 256 := by
 have hl : i < bs.length := by rw [h.2.2.2.1]; exact hi
 constructor
 ·have := h.2.2.1.cell (j := i) (u := .int .u8 ((bs[i]?.getD 0 : Nat) : Int)) (by
   unfold encB
   rw [List.getElem?_map, List.getElem?_eq_getElem hl]; rfl)
  simpa using this
 ·rw [List.getElem?_eq_getElem hl]
  exact h.2.2.2.2.2.1 _ (List.getElem_mem _)
theorem KRaw.frz (h : KRaw w p g m bs s) (i : Nat) : w.frozen? ⟨g, i, none⟩ = false := by
 rcases h.2.2.1.2 with ⟨h1, _⟩ | ⟨g', off', cap, cur, h1, hgg, _⟩
 ·simp at h1
 ·simp at h1
  obtain ⟨⟨rfl, rfl⟩, rfl⟩ := h1
  exact free_of_block hgg _
end
theorem and15 (v : Nat) (h : v < 256) : bits BinOp.and IntKind.i64 (v : Int) 15 = ((v % 16 : Nat) : Int) := by
 show IntKind.i64.wrap ((BitVec.ofInt 64 (v : Int) &&& BitVec.ofInt 64 15).toNat : Int) = _
 have h2 : (BitVec.ofInt 64 (15 : Int)).toNat = 15 := by decide
 rw [BitVec.toNat_and, ofInt64 v (by omega), h2, show (15 : Nat) = 2 ^ 4 - 1 from rfl, Nat.and_two_pow_sub_one_eq_mod]
 have : v % 2 ^ 4 < 16 := Nat.mod_lt _ (by decide)
 show IntKind.i64.wrap ((v % 16 : Nat) : Int) = _
 simp [IntKind.wrap, IntKind.bits, IntKind.signed]
 omega
set_option maxRecDepth 100000 in
theorem kat {w : World} {p g m : Nat} {bs : List Nat} {s : Sk} (H : KRaw w p g m bs s) (hm : m ≤ 10000) (j : Nat) (hj : j < 4 * s.n) :
  Calls Tryz.prog 417 #[.pointer (some ⟨p, 0, none⟩), .int .i64 j] w fun en w' => en = .returned (.int .i64 (s.cell j : Nat)) ∧ w = w' := by
 have h1 := H.head.2.1
 have hm2 := H.2.2.2.2.1
 have hc := H.2.2.2.2.2.2 j (by omega)
 obtain ⟨q, hq⟩ : ∃ q, j / 2 = q := ⟨_, rfl⟩
 obtain ⟨k1, k2⟩ := H.cell q (by omega)
 rw [hc]
 unfold nib
 rw [hq]
 obtain ⟨x, hx⟩ : ∃ x, bs[q]?.getD 0 = x := ⟨_, rfl⟩
 rw [hx] at k1 k2 ⊢
 have hqi : (j : Int) / 2 = q := by omega
 have hqm : (q : Int) < m := by omega
 clear H hc hx hm2
 by_cases he : j % 2 = 0
 ·rw [if_pos he]
  have e1 : (j : Int) % 2 = 0 := by omega
  have e2 := and15 x k2
  go_enter Tryz.func417, Tryz.ntmps417
  go_wp2
  go_ret
  exact ⟨by rw [show ((x : Int) % 16) = ((x % 16 : Nat) : Int) by omega]; rfl, rfl⟩
 ·rw [if_neg he]
  have e1 : (j : Int) % 2 = 1 := by omega
  have e2 := and15 (x / 16) (by omega)
  go_enter Tryz.func417, Tryz.ntmps417
  go_wp2
  go_ret
  refine ⟨?_, rfl⟩
  rw [show ((x : Int) / 16) = ((x / 16 : Nat) : Int) by omega, e2, show x / 16 % 16 = x / 16 by omega]
  rfl
theorem KRaw.put {w : World} {p g m : Nat} {bs : List Nat} {s : Sk} (H : KRaw w p g m bs s) {j q x y v : Nat} (hj : j < 2 * m) (hq : j / 2 = q) (hx : bs[q]?.getD 0 = x) (hy : y < 256) (hn : (j % 2 = 0 ∧ y % 16 = v ∧ y / 16 = x / 16) ∨ (j % 2 = 1 ∧ y / 16 = v ∧ y % 16 = x % 16)) :
  KRaw (w.setCell ⟨g, q, none⟩ (.int .u8 (y : Int))) p g m (bs.set q y) { s with cell := fun t => if t = j then v else s.cell t } := by
 obtain ⟨h1, h2, h3, h4, h5, h6, h7⟩ := H
 have e := h3.set q (.int .u8 (y : Int))
 rw [Nat.zero_add] at e
 have e2 : (encB bs).set q (.int .u8 (y : Int)) = encB (bs.set q y) := by unfold encB; rw [List.map_set]
 rw [e2] at e
 refine ⟨h1, ((Fr.refl [g] w).setCell (p := ⟨g, q, none⟩) (by simp) _).get h2 (by simpa using h1), e, by simpa using h4, h5, ?_, ?_⟩
 ·intro z hz
  rcases List.mem_or_eq_of_mem_set hz with h | rfl
  ·exact h6 z h
  ·exact hy
 ·intro t ht
  have h := h7 t ht
  show (if t = j then v else s.cell t) = _
  rw [h]
  unfold nib
  by_cases e1 : t / 2 = q
  ·rw [e1, List.getElem?_set_self (by omega), hx]
   simp only [Option.getD_some]
   split <;> split <;> omega
  ·rw [List.getElem?_set_ne (fun h => e1 h.symm), if_neg (by rintro rfl; exact e1 hq)]
end Go.Proofs.YtfeicmpbfbhiiaaGreat
set_option linter.unusedVariables false
set_option linter.unusedSimpArgs false
namespace Go.Proofs.YtfeicmpbfbhiiaaGreat
open Go.RowKit
attribute [local go_sem ↓] Go.wp_at_zero Go.wp_at_succ
def four (s : Sk) (key : ByteArray) (k : Nat) (i : Nat) : Value := .int .i64 (if i < k then s.at key i else 0 : Nat)
set_option maxRecDepth 100000 in
theorem kplaces {w : World} {p g m : Nat} {bs : List Nat} {s : Sk} (H : KRaw w p g m bs s) (hm : m ≤ 10000) (hn : 1 ≤ s.n) (key : ByteArray) (hk : key.size ≤ maxLen) :
  Calls Tryz.prog 416 #[.pointer (some ⟨p, 0, none⟩), .string key] w fun en w' => en = .returned (.agg #[.int .i64 (s.at key 0 : Nat), .int .i64 (s.at key 1 : Nat), .int .i64 (s.at key 2 : Nat), .int .i64 (s.at key 3 : Nat)]) ∧ Fr [] w w' := by
 have HH := Lib.hid H
 have hm2 := H.2.2.2.2.1
 have hl := lt_of_block H.2.1
 clear H
 go_enter Tryz.func416, Tryz.ntmps416
 go_wp2
 go_loopg [7] 4 (fun gg u7 wr => ∃ i : Nat, u7 = .int .i64 i ∧ i + gg = 4 ∧ Fr [] w wr ∧ wr.heap[w.heap.size + 1]? = some (.cells #[four s key i 0, four s key i 1, four s key i 2, four s key i 3] 293 (0, 0)) ∧ wr.heap[w.heap.size]? = some (.cells #[.int .i64 0, .int .i64 0, .int .i64 0, .int .i64 0] 293 (0, 0)))
 case atStart =>
  refine ⟨0, rfl, rfl, ((Fr.refl [] w).alloc _).alloc _, ?_, ?_⟩
  ·have b := block_alloc_new (w.alloc (.cells #[.int .i64 0, .int .i64 0, .int .i64 0, .int .i64 0] 293)) (.cells #[.int .i64 0, .int .i64 0, .int .i64 0, .int .i64 0] 293)
   rw [World.size_alloc] at b
   exact b
  ·exact ((Fr.refl [] _).alloc _).get (block_alloc_new _ _) (by simp)
 case round =>
  obtain ⟨i, rfl, hi, hf, hb, hb0⟩ := hrel
  by_cases hlt : i < 4
  ·have h0 := (HH.out.fr hf (by simp) (by simp)).head.1
   have hh := hashI_bd (i + 1) key
   have q1 : (i : Int) < 4 := by omega
   have hmul : i * s.n ≤ 3 * s.n := Nat.mul_le_mul_right _ (by omega)
   obtain ⟨z, hz⟩ : ∃ z, i * s.n = z := ⟨_, rfl⟩
   have hzi : (i : Int) * (s.n : Int) = z := by rw [← hz]; simp
   obtain ⟨n, hn'⟩ : ∃ n, s.n = n := ⟨_, rfl⟩
   rw [hn'] at h0 hzi hmul hm2 hn
   have hw1 : IntKind.i64.wrap ((i : Int) + 1) = (i : Int) + 1 := by
    simp [IntKind.wrap, IntKind.bits, IntKind.signed]
    omega
   have hw2 : IntKind.u64.wrap ((i : Int) + 1) = (i : Int) + 1 := by
    have := wrap64s (i + 1) (by omega)
    simpa using this
   have hw3 : IntKind.i64.wrap (z : Int) = (z : Int) := by
    simp [IntKind.wrap, IntKind.bits, IntKind.signed]
    omega
   have hpl : placeN (hashI ((i : Int) + 1) key) n < n := placeN_lt _ _ hn
   have HPL := Lib.hid fun W => mix_place (hashI ((i : Int) + 1) key) hh.1 hh.2 n (by omega) (by omega) W
   obtain ⟨pl, hpe⟩ : ∃ pl, placeN (hashI ((i : Int) + 1) key) n = pl := ⟨_, rfl⟩
   rw [hpe] at hpl HPL
   have HPE := Lib.hid hpe
   clear hpe
   have hw4 : IntKind.i64.wrap ((z : Int) + (pl : Int)) = (z : Int) + (pl : Int) := by
    simp [IntKind.wrap, IntKind.bits, IntKind.signed]
    omega
   have hk0 : wr.cell? ⟨w.heap.size + 1, i, none⟩ = some (.int .i64 0) := by
    rw [cell_of_block hb]
    have : i = 0 ∨ i = 1 ∨ i = 2 ∨ i = 3 := by omega
    rcases this with rfl | rfl | rfl | rfl <;> simp [four]
   have hfz := fun j => free_of_block hb j
   have HF := Lib.hid (And.intro hf (And.intro hb hb0))
   have HNN := Lib.hid (And.intro hn' hz)
   clear hf hb hb0 hn' hz
   go_wp2
   refine wp_region_still_tail 19 (by kernel_rfl) (by kernel_rfl) ?_
   simp only [List.take_succ_cons, List.take_zero, List.drop_succ_cons, List.drop_zero]
   repeat still_step
   still_call ((mix_hash ((i : Int) + 1) (by omega) (by omega) key hk _).mono fun _ _ h => ⟨h.1, h.2.symm⟩)
   repeat still_step
   still_call ((HPL.out _).mono fun _ _ h => ⟨h.1, h.2.symm⟩)
   repeat still_step
   refine wpStill_nil ?_
   change wpList _ _ _ _ _ wr.drew
   go_wp2
   have hat : s.at key i = z + pl := by
    unfold Sk.at
    rw [HNN.out.1, HPE.out, ← HNN.out.2, HNN.out.1]
   go_roundg (3 - i)
   case measure => omega
   case rel =>
    refine ⟨i + 1, by go_num, by omega, (HF.out.1.setNew (p := ⟨w.heap.size + 1, i, none⟩) (by simp) _).drew, ?_, block_set_other HF.out.2.2 (by simp) _⟩
    have b := block_set_same HF.out.2.1 i (.int .i64 ((z : Int) + (pl : Int)))
    refine b.trans ?_
    have e1 : (z : Int) + (pl : Int) = ((s.at key i : Nat) : Int) := by rw [hat]; simp
    rw [e1]
    have : i = 0 ∨ i = 1 ∨ i = 2 ∨ i = 3 := by omega
    rcases this with rfl | rfl | rfl | rfl <;> simp [four]
  ·have hi4 : i = 4 := by omega
   subst hi4
   have c := cell_of_block hb
   have c0 : wr.cell? ⟨w.heap.size + 1, 0, none⟩ = some (.int .i64 (s.at key 0 : Nat)) := by rw [c]; simp [four]
   have c1 : wr.cell? ⟨w.heap.size + 1, 1, none⟩ = some (.int .i64 (s.at key 1 : Nat)) := by rw [c]; simp [four]
   have c2 : wr.cell? ⟨w.heap.size + 1, 2, none⟩ = some (.int .i64 (s.at key 2 : Nat)) := by rw [c]; simp [four]
   have c3 : wr.cell? ⟨w.heap.size + 1, 3, none⟩ = some (.int .i64 (s.at key 3 : Nat)) := by rw [c]; simp [four]
   have d := cell_of_block hb0
   have d0 : wr.cell? ⟨w.heap.size, 0, none⟩ = some (.int .i64 0) := by rw [d]; simp
   have d1 : wr.cell? ⟨w.heap.size, 1, none⟩ = some (.int .i64 0) := by rw [d]; simp
   have d2 : wr.cell? ⟨w.heap.size, 2, none⟩ = some (.int .i64 0) := by rw [d]; simp
   have d3 : wr.cell? ⟨w.heap.size, 3, none⟩ = some (.int .i64 0) := by rw [d]; simp
   have zf := fun j => free_of_block hb0 j
   have HF := Lib.hid (And.intro hf hb0)
   clear c d hb hb0 hf
   go_wp2
   have b4 := block_set_same (block_set_same (block_set_same (block_set_same HF.out.2 0 (.int .i64 (s.at key 0 : Nat))) 1 (.int .i64 (s.at key 1 : Nat))) 2 (.int .i64 (s.at key 2 : Nat))) 3 (.int .i64 (s.at key 3 : Nat))
   have hff := (((((HF.out.1.setNew (p := ⟨w.heap.size, 0, none⟩) (Nat.le_refl _) (.int .i64 (s.at key 0 : Nat))).setNew (p := ⟨w.heap.size, 1, none⟩) (Nat.le_refl _) (.int .i64 (s.at key 1 : Nat))).setNew (p := ⟨w.heap.size, 2, none⟩) (Nat.le_refl _) (.int .i64 (s.at key 2 : Nat))).setNew (p := ⟨w.heap.size, 3, none⟩) (Nat.le_refl _) (.int .i64 (s.at key 3 : Nat))))
   generalize (((wr.setCell ⟨w.heap.size, 0, none⟩ (.int .i64 (s.at key 0 : Nat))).setCell ⟨w.heap.size, 1, none⟩ (.int .i64 (s.at key 1 : Nat))).setCell ⟨w.heap.size, 2, none⟩ (.int .i64 (s.at key 2 : Nat))).setCell ⟨w.heap.size, 3, none⟩ (.int .i64 (s.at key 3 : Nat)) = w4 at b4 hff ⊢
   have k := cell_of_block b4
   have k0 : w4.cell? ⟨w.heap.size, 0, none⟩ = some (.int .i64 (s.at key 0 : Nat)) := by rw [k]; simp
   have k1 : w4.cell? ⟨w.heap.size, 1, none⟩ = some (.int .i64 (s.at key 1 : Nat)) := by rw [k]; simp
   have k2 : w4.cell? ⟨w.heap.size, 2, none⟩ = some (.int .i64 (s.at key 2 : Nat)) := by rw [k]; simp
   have k3 : w4.cell? ⟨w.heap.size, 3, none⟩ = some (.int .i64 (s.at key 3 : Nat)) := by rw [k]; simp
   refine bodyPost_ret (v := .agg #[.int .i64 (s.at key 0 : Nat), .int .i64 (s.at key 1 : Nat), .int .i64 (s.at key 2 : Nat), .int .i64 (s.at key 3 : Nat)]) (by simp [results, Tryz.results416, go_sem, k0, k1, k2, k3]) rfl ?_
   exact ⟨rfl, hff⟩
end Go.Proofs.YtfeicmpbfbhiiaaGreat
set_option linter.unusedVariables false
set_option linter.unusedSimpArgs false
namespace Go.Proofs.YtfeicmpbfbhiiaaGreat
open Go.RowKit
attribute [local go_sem ↓] Go.wp_at_zero Go.wp_at_succ
end Go.Proofs.YtfeicmpbfbhiiaaGreat
set_option linter.unusedVariables false
set_option linter.unusedSimpArgs false
namespace Go.Proofs.YtfeicmpbfbhiiaaGreat
open Go.RowKit
attribute [local go_sem ↓] Go.wp_at_zero Go.wp_at_succ
def least4 (s : Sk) (key : ByteArray) : Nat → Nat
 | 0 => 15
 | i + 1 => min (least4 s key i) (s.cell (s.at key i))
set_option maxRecDepth 100000 in
theorem kcount {w : World} {p g m : Nat} {bs : List Nat} {s : Sk} (H : KRaw w p g m bs s) (hi : s.Inv) (key : ByteArray) (hk : key.size ≤ maxLen) :
  Calls Tryz.prog 415 #[.pointer (some ⟨p, 0, none⟩), .string key] w fun en w' => en = .returned (.int .i64 (s.count key : Nat)) ∧ Fr [] w w' := by
 have hn8 := hi.n8
 have hn2 := hi.n2
 have hm : m ≤ 10000 := by have := H.2.2.2.2.1; omega
 have HP := Lib.hid (kplaces H hm (by omega) key hk)
 have HA := Lib.hid fun (W : World) (f : Fr [] w W) (i : Nat) (h4 : i < 4) => kat (H.fr f (by simp) (by simp)) hm (s.at key i) (by
  have := placeN_lt (hashI (i + 1) key) s.n (by omega)
  unfold Sk.at
  have : i * s.n ≤ 3 * s.n := Nat.mul_le_mul_right _ (by omega)
  omega)
 have HL := Lib.hid hi.le
 have hix := Lib.hid fun (a b c d : Int) => (⟨fun _ => by kernel_rfl, fun _ => by kernel_rfl, fun _ => by kernel_rfl, fun _ => by kernel_rfl⟩ :
  (∀ w, (Instr.index 293 (.agg #[.int .i64 a, .int .i64 b, .int .i64 c, .int .i64 d]) (.int .i64 0)).run Tryz.prog w = .ok (.int .i64 a) w) ∧
  (∀ w, (Instr.index 293 (.agg #[.int .i64 a, .int .i64 b, .int .i64 c, .int .i64 d]) (.int .i64 1)).run Tryz.prog w = .ok (.int .i64 b) w) ∧
  (∀ w, (Instr.index 293 (.agg #[.int .i64 a, .int .i64 b, .int .i64 c, .int .i64 d]) (.int .i64 2)).run Tryz.prog w = .ok (.int .i64 c) w) ∧
  (∀ w, (Instr.index 293 (.agg #[.int .i64 a, .int .i64 b, .int .i64 c, .int .i64 d]) (.int .i64 3)).run Tryz.prog w = .ok (.int .i64 d) w))
 obtain ⟨x0, x1, x2, x3⟩ := hix.out (s.at key 0 : Nat) (s.at key 1 : Nat) (s.at key 2 : Nat) (s.at key 3 : Nat)
 clear H hi hix
 go_enter Tryz.func415, Tryz.ntmps415
 go_wp2_with fail
 refine HP.out.mono ?_
 rintro en w0 ⟨rfl, hf0⟩
 go_wp2_with fail
 go_loopg [5, 13] 4 (fun gg u5 u13 wr => wr = w0 ∧ ∃ (i a : Nat), u13 = .int .i64 i ∧ u5 = .int .i64 a ∧ i + gg = 4 ∧ a ≤ 15 ∧ Aside (a = least4 s key i))
 case atStart => exact ⟨rfl, 0, 15, rfl, rfl, rfl, by omega, rfl⟩
 case round =>
  obtain ⟨rfl, i, a, rfl, rfl, hi, ha, hA⟩ := hrel
  have HF := Lib.hid hf0
  clear hf0
  have h5 : i = 0 ∨ i = 1 ∨ i = 2 ∨ i = 3 ∨ i = 4 := by omega
  rcases h5 with rfl | rfl | rfl | rfl | rfl
  case inr.inr.inr.inr =>
   go_wp2
   go_ret
   refine ⟨?_, HF.out⟩
   have e : a = s.count key := by
    rw [hA.out]
    have := HL.out (s.at key 0)
    simp only [least4, Sk.count]
    omega
   rw [e]; rfl
  case inl =>
   obtain ⟨c, hc⟩ : ∃ c, s.cell (s.at key 0) = c := ⟨_, rfl⟩
   have HC := HA.out _ HF.out 0 (by omega)
   have hc15 := HL.out (s.at key 0)
   rw [hc] at HC hc15
   have hA2 : Hid (min a c = least4 s key 1) := by show _ = _; rw [hA.out, ← hc]; rfl
   have HC := Lib.hid HC
   clear hc
   go_wp2_with fail
   refine HC.out.mono ?_
   rintro en w1 ⟨rfl, rfl⟩
   go_wp2_with fail
   all_goals
    go_roundg 3
    case measure => omega
    case rel =>
     first
      | exact ⟨rfl, 1, c, rfl, by go_num, by omega, by omega, by show _ = _; rw [← hA2.out]; omega⟩
      | exact ⟨rfl, 1, a, rfl, by go_num, by omega, by omega, by show _ = _; rw [← hA2.out]; omega⟩
  case inr.inl =>
   obtain ⟨c, hc⟩ : ∃ c, s.cell (s.at key 1) = c := ⟨_, rfl⟩
   have HC := HA.out _ HF.out 1 (by omega)
   have hc15 := HL.out (s.at key 1)
   rw [hc] at HC hc15
   have hA2 : Hid (min a c = least4 s key 2) := by show _ = _; rw [hA.out, ← hc]; rfl
   have HC := Lib.hid HC
   clear hc
   go_wp2_with fail
   refine HC.out.mono ?_
   rintro en w1 ⟨rfl, rfl⟩
   go_wp2_with fail
   all_goals
    go_roundg 2
    case measure => omega
    case rel =>
     first
      | exact ⟨rfl, 2, c, rfl, by go_num, by omega, by omega, by show _ = _; rw [← hA2.out]; omega⟩
      | exact ⟨rfl, 2, a, rfl, by go_num, by omega, by omega, by show _ = _; rw [← hA2.out]; omega⟩
  case inr.inr.inl =>
   obtain ⟨c, hc⟩ : ∃ c, s.cell (s.at key 2) = c := ⟨_, rfl⟩
   have HC := HA.out _ HF.out 2 (by omega)
   have hc15 := HL.out (s.at key 2)
   rw [hc] at HC hc15
   have hA2 : Hid (min a c = least4 s key 3) := by show _ = _; rw [hA.out, ← hc]; rfl
   have HC := Lib.hid HC
   clear hc
   go_wp2_with fail
   refine HC.out.mono ?_
   rintro en w1 ⟨rfl, rfl⟩
   go_wp2_with fail
   all_goals
    go_roundg 1
    case measure => omega
    case rel =>
     first
      | exact ⟨rfl, 3, c, rfl, by go_num, by omega, by omega, by show _ = _; rw [← hA2.out]; omega⟩
      | exact ⟨rfl, 3, a, rfl, by go_num, by omega, by omega, by show _ = _; rw [← hA2.out]; omega⟩
  case inr.inr.inr.inl =>
   obtain ⟨c, hc⟩ : ∃ c, s.cell (s.at key 3) = c := ⟨_, rfl⟩
   have HC := HA.out _ HF.out 3 (by omega)
   have hc15 := HL.out (s.at key 3)
   rw [hc] at HC hc15
   have hA2 : Hid (min a c = least4 s key 4) := by show _ = _; rw [hA.out, ← hc]; rfl
   have HC := Lib.hid HC
   clear hc
   go_wp2_with fail
   refine HC.out.mono ?_
   rintro en w1 ⟨rfl, rfl⟩
   go_wp2_with fail
   all_goals
    go_roundg 0
    case measure => omega
    case rel =>
     first
      | exact ⟨rfl, 4, c, rfl, by go_num, by omega, by omega, by show _ = _; rw [← hA2.out]; omega⟩
      | exact ⟨rfl, 4, a, rfl, by go_num, by omega, by omega, by show _ = _; rw [← hA2.out]; omega⟩
end Go.Proofs.YtfeicmpbfbhiiaaGreat
set_option linter.unusedVariables false
set_option linter.unusedSimpArgs false
namespace Go.Proofs.YtfeicmpbfbhiiaaGreat
open Go.RowKit
attribute [local go_sem ↓] Go.wp_at_zero Go.wp_at_succ
theorem KRaw.congr {w : World} {p g m : Nat} {bs : List Nat} {s s' : Sk} (h : KRaw w p g m bs s) (hn : s'.n = s.n) (hs : s'.sum = s.sum) (hc : ∀ j, j < 2 * m → s'.cell j = s.cell j) : KRaw w p g m bs s' := by
 obtain ⟨h1, h2, h3, h4, h5, h6, h7⟩ := h
 exact ⟨h1, by rw [hn, hs]; exact h2, h3, h4, by rw [hn]; exact h5, h6, fun j hj => (hc j hj).trans (h7 j hj)⟩
theorem count_le (s : Sk) (key : ByteArray) (i : Nat) (hi : i < 4) : s.count key ≤ s.cell (s.at key i) := by
 have : i = 0 ∨ i = 1 ∨ i = 2 ∨ i = 3 := by omega
 unfold Sk.count
 rcases this with rfl | rfl | rfl | rfl <;> omega
end Go.Proofs.YtfeicmpbfbhiiaaGreat
set_option linter.unusedVariables false
set_option linter.unusedSimpArgs false
namespace Go.Proofs.YtfeicmpbfbhiiaaGreat
open Go.RowKit
attribute [local go_sem ↓] Go.wp_at_zero Go.wp_at_succ
/-- Keys that went. -/
structure Gh where
 L : List ByteArray
 room : Nat
def Gh.take (g : Gh) (key : ByteArray) : Gh := { g with L := cutQ g.L key }
def Gh.add (g : Gh) (key : ByteArray) : Gh := { g with L := if (cutQ g.L key ++ [key]).length ≤ g.room then cutQ g.L key ++ [key] else (cutQ g.L key ++ [key]).tail }
structure Gh.Inv (g : Gh) : Prop where
 nd : g.L.Nodup
 sz : ∀ k, k ∈ g.L → k.size ≤ maxLen
 r1 : 1 ≤ g.room
 r2 : g.room ≤ 1024
 le : g.L.length ≤ g.room
/-- A list of keys, and an index of where each stands. -/
structure GAt (w : World) (l x : Nat) (Fl Fx : List Nat) (L : List (Nat × ByteArray)) (M : ByteArray → Option Nat) (n : Nat) : Prop where
 lst : LRep w l Fl L
 idx : IRepI w x Fx M n
 d : Dis Fl Fx
 nd : (L.map (·.2)).Nodup
 sz : ∀ k, k ∈ L.map (·.2) → k.size ≤ maxLen
 co : ∀ k h, M k = some h ↔ (h, k) ∈ L
 le : n ≤ L.length
def GhB (w : World) (p room l x : Nat) : Prop := w.heap[p]? = some (.cells #[.int .i64 room, .pointer (some ⟨l, 0, none⟩), .pointer (some ⟨x, 0, none⟩)] 230 (0, 0))
def GhRep (w : World) (p : Nat) (F : List Nat) (g : Gh) : Prop :=
 ∃ l x Fl Fx L M n, F = p :: (Fl ++ Fx) ∧ p ∉ Fl ∧ p ∉ Fx ∧ GhB w p g.room l x ∧ GAt w l x Fl Fx L M n ∧ L.map (·.2) = g.L
def GhGo (w : World) (p : Nat) (F : List Nat) (g : Gh) (w' : World) : Prop := ∃ F', GhRep w' p F' g ∧ Sub F' F w ∧ Fr F w w'
section
variable {w w' w0 w1 w2 : World} {p l x n : Nat} {F F1 Fl Fx G : List Nat} {L : List (Nat × ByteArray)} {M : ByteArray → Option Nat} {g : Gh}
theorem GAt.fr (h : GAt w l x Fl Fx L M n) (f : Fr G w w') (h1 : Dis Fl G) (h2 : Dis Fx G) : GAt w' l x Fl Fx L M n :=
 ⟨h.lst.fr f h1, h.idx.fr f h2, h.d, h.nd, h.sz, h.co, h.le⟩
theorem GAt.nop (h : GAt w l x Fl Fx L M n) (k : ByteArray) : M k = none ↔ k ∉ L.map (·.2) := by
 constructor
 ·intro hn hk
  obtain ⟨e, he, rfl⟩ := List.mem_map.1 hk
  have := (h.co e.2 e.1).2 he
  rw [hn] at this; cases this
 ·intro hk
  cases hM : M k with
  | none => rfl
  | some i => exact absurd (List.mem_map_of_mem (f := (·.2)) ((h.co k i).1 hM)) hk
theorem GhRep.fr (h : GhRep w p F g) (f : Fr G w w') (hd : Dis F G) : GhRep w' p F g := by
 obtain ⟨l, x, Fl, Fx, L, M, n, rfl, h1, h2, h3, h4, h5⟩ := h
 exact ⟨l, x, Fl, Fx, L, M, n, rfl, h1, h2, f.get h3 (hd p (by simp)), h4.fr f (fun b hb => hd b (by simp [hb])) (fun b hb => hd b (by simp [hb])), h5⟩
theorem GhRep.fr0 (h : GhRep w p F g) (f : Fr [] w w') : GhRep w' p F g := h.fr f (fun b _ => by simp)
theorem GhRep.lt (h : GhRep w p F g) : Lt F w := by
 obtain ⟨l, x, Fl, Fx, L, M, n, rfl, h1, h2, h3, h4, h5⟩ := h
 intro b hb
 simp at hb
 rcases hb with rfl | hb | hb
 ·exact lt_of_block h3
 ·exact h4.lst.lt b hb
 ·exact h4.idx.lt b hb
theorem GhGo.refl (h : GhRep w p F g) : GhGo w p F g w := ⟨F, h, Sub.refl _ _, Fr.refl _ _⟩
theorem GhGo.trans (h1 : Sub F1 F w) (h2 : Fr F w w1) (h : GhGo w1 p F1 g w2) : GhGo w p F g w2 := by
 obtain ⟨F', a1, a2, a3⟩ := h
 exact ⟨F', a1, h1.fr h2 a2, h2.via h1 a3⟩
theorem GhGo.fr (h : GhGo w p F g w1) (f : Fr [] w1 w2) : GhGo w p F g w2 := by
 obtain ⟨F', h1, h2, h3⟩ := h
 exact ⟨F', h1.fr0 f, h2, h3.same f.nil⟩
theorem GhGo.old (h : GhGo w p F g w1) (f : Fr [] w0 w) : GhGo w0 p F g w1 := by
 obtain ⟨F', h1, h2, h3⟩ := h
 exact ⟨F', h1, h2.old f.size, f.nil.same h3⟩
theorem GhB.cells (h : GhB w p n l x) : w.cell? ⟨p, 0, none⟩ = some (.int .i64 n) ∧ w.cell? ⟨p, 1, none⟩ = some (.pointer (some ⟨l, 0, none⟩)) ∧ w.cell? ⟨p, 2, none⟩ = some (.pointer (some ⟨x, 0, none⟩)) :=
 ⟨(cell_of_block h 0).trans rfl, (cell_of_block h 1).trans rfl, (cell_of_block h 2).trans rfl⟩
end
theorem GAt.del {w w1 w2 : World} {l x n : Nat} {Fl Fx Fl2 : List Nat} {L1 L2 : List (Nat × ByteArray)} {M : ByteArray → Option Nat} {h : Nat} {key : ByteArray}
  (H : GAt w l x Fl Fx (L1 ++ (h, key) :: L2) M n) (hd : DelRetI w x n Fx M key w1) (hl : LRep w2 l Fl2 (L1 ++ L2)) (hs : Sub Fl2 Fl w1) (hf : Fr Fl w1 w2) (hlt : Lt Fx w1) : GAt w2 l x Fl2 Fx (L1 ++ L2) (upM M key none) (n - 1) := by
 obtain ⟨lst, idx, d, nd, sz, co, le⟩ := H
 have hsub : List.Sublist (L1 ++ L2) (L1 ++ (h, key) :: L2) := (List.Sublist.refl L1).append (List.sublist_cons_self _ _)
 have hMk : M key = some h := (co key h).2 (by simp)
 have e1 : nDel M key n = n - 1 := by simp [nDel, hMk]
 obtain ⟨hd1, hd2⟩ := hd
 rw [e1] at hd1
 refine ⟨hl, hd1.fr hf d.symm, d.sub hs hlt, nd.sublist (hsub.map _), fun k hk => sz k ((hsub.map _).subset hk), fun k i => ?_, by simp at le ⊢; omega⟩
 unfold upM
 by_cases e : k = key
 ·subst e
  rw [if_pos rfl]
  constructor
  ·intro h; cases h
  ·intro hm
   simp only [List.map_append, List.map_cons] at nd
   have := (List.nodup_cons.1 (List.nodup_append.1 nd).2.1).1
   have n3 := (List.nodup_append.1 nd).2.2
   rcases List.mem_append.1 hm with hm | hm
   ·exact absurd rfl (n3 k (List.mem_map_of_mem (f := (·.2)) hm) k (by simp))
   ·exact absurd (List.mem_map_of_mem (f := (·.2)) hm) this
 ·rw [if_neg e, co]
  simp only [List.mem_append, List.mem_cons]
  constructor
  ·rintro (h | h | h)
   ·exact .inl h
   ·cases h; exact absurd rfl e
   ·exact .inr h
  ·rintro (h | h)
   ·exact .inl h
   ·exact .inr (.inr h)
section
variable {w : World} {p : Nat} {F : List Nat} {g : Gh}
end
end Go.Proofs.YtfeicmpbfbhiiaaGreat
set_option linter.unusedVariables false
set_option linter.unusedSimpArgs false
namespace Go.Proofs.YtfeicmpbfbhiiaaGreat
open Go.RowKit
attribute [local go_sem ↓] Go.wp_at_zero Go.wp_at_succ
theorem GAt.push {w w1 w2 : World} {l x n : Nat} {Fl Fx Fl2 Fx2 : List Nat} {L : List (Nat × ByteArray)} {M : ByteArray → Option Nat} {h : Nat} {key : ByteArray}
  (H : GAt w l x Fl Fx L M n) (hk : key ∉ L.map (·.2)) (hz : key.size ≤ maxLen) (hl : LRep w1 l Fl2 (L ++ [(h, key)])) (hs : Sub Fl2 Fl w) (hf : Fr Fl w w1)
  (hi : IRepI w2 x Fx2 (upM M key (some h)) (nPut M key n)) (hs2 : Sub Fx2 Fx w1) (hf2 : Fr Fx w1 w2) : GAt w2 l x Fl2 Fx2 (L ++ [(h, key)]) (upM M key (some h)) (n + 1) := by
 have hM := (H.nop key).2 hk
 obtain ⟨lst, idx, d, nd, sz, co, le⟩ := H
 have e1 : nPut M key n = n + 1 := by simp [nPut, hM]
 rw [e1] at hi
 have d1 : Dis Fl2 Fx := d.sub hs idx.lt
 refine ⟨hl.fr hf2 d1, hi, (d1.symm.sub hs2 hl.lt).symm, ?_, ?_, fun k i => ?_, by simp; omega⟩
 ·rw [List.map_append]; exact nd_snoc nd hk
 ·intro k hk2
  rw [List.map_append] at hk2
  rcases List.mem_append.1 hk2 with h | h
  ·exact sz k h
  ·simp at h; subst h; exact hz
 ·unfold upM
  by_cases e : k = key
  ·subst e
   rw [if_pos rfl]
   simp only [List.mem_append, List.mem_singleton]
   constructor
   ·intro h; cases h; exact .inr rfl
   ·rintro (h | h)
    ·exact absurd (List.mem_map_of_mem (f := (·.2)) h) hk
    ·cases h; rfl
  ·rw [if_neg e, co]
   simp only [List.mem_append, List.mem_singleton]
   constructor
   ·exact fun h => .inl h
   ·rintro (h | h)
    ·exact h
    ·cases h; exact absurd rfl e
section
variable {w : World} {p : Nat} {F : List Nat} {g : Gh}
end
theorem Gh.Inv.add {g : Gh} (h : g.Inv) {key : ByteArray} (hz : key.size ≤ maxLen) : (g.add key).Inv := by
 obtain ⟨nd, sz, r1, r2, le⟩ := h
 have hn : (cutQ g.L key ++ [key]).Nodup := nd_snoc (nd.filter _) (not_mem_cutQ _ _)
 have hs : ∀ k, k ∈ cutQ g.L key ++ [key] → k.size ≤ maxLen := fun k hk => by
  rcases List.mem_append.1 hk with h | h
  ·exact sz k (mem_cutQ.1 h).1
  ·simp at h; subst h; exact hz
 have hl := cutQ_le g.L key
 unfold Gh.add
 split
 ·rename_i h; exact ⟨hn, hs, r1, r2, h⟩
 ·rename_i h
  refine ⟨hn.sublist (List.tail_sublist _), fun k hk => hs k ((List.tail_sublist _).subset hk), r1, r2, ?_⟩
  simp only [List.length_tail, List.length_append, List.length_singleton] at *
  omega
theorem Gh.Inv.take {g : Gh} (h : g.Inv) (key : ByteArray) : (g.take key).Inv := by
 obtain ⟨nd, sz, r1, r2, le⟩ := h
 exact ⟨nd.filter _, fun k hk => sz k (mem_cutQ.1 hk).1, r1, r2, Nat.le_trans (cutQ_le _ _) le⟩
def Gh.new (room : Int) : Gh := ⟨[], roomN room⟩
theorem Gh.Inv.new (room : Int) : (Gh.new room).Inv := ⟨List.nodup_nil, by simp [Gh.new], (roomN_bd room).1, (roomN_bd room).2, Nat.zero_le _⟩
end Go.Proofs.YtfeicmpbfbhiiaaGreat
set_option linter.unusedVariables false
set_option linter.unusedSimpArgs false
namespace Go.Proofs.YtfeicmpbfbhiiaaGreat
open Go.RowKit
attribute [local go_sem ↓] Go.wp_at_zero Go.wp_at_succ
structure Cts where
 all : Nat
 hits : Nat
 ghosts : Nat
def incN (n : Nat) : Nat := if 1099511627776 ≤ n then n else n + 1
def Cts.count (c : Cts) (hit gone : Bool) : Cts := ⟨incN c.all, bif hit then incN c.hits else c.hits, bif gone then incN c.ghosts else c.ghosts⟩
def Cts.zero : Cts := ⟨0, 0, 0⟩
structure Cts.Ok (c : Cts) : Prop where
 a : c.all ≤ 1099511627776
 h : c.hits ≤ 1099511627776
 g : c.ghosts ≤ 1099511627776
theorem incN_le {n : Nat} (h : n ≤ 1099511627776) : incN n ≤ 1099511627776 := by unfold incN; split <;> omega
theorem Cts.Ok.count {c : Cts} (h : c.Ok) (hit gone : Bool) : (c.count hit gone).Ok := by
 refine ⟨incN_le h.a, ?_, ?_⟩
 ·cases hit
  ·exact h.h
  ·exact incN_le h.h
 ·cases gone
  ·exact h.g
  ·exact incN_le h.g
theorem Cts.Ok.zero : Cts.zero.Ok := ⟨Nat.zero_le _, Nat.zero_le _, Nat.zero_le _⟩
/-- A shadow's block. -/
def ShB (w : World) (p : Nat) (kind : Int) (v : Value) (q : Nat) (a b : Cts) : Prop :=
 w.heap[p]? = some (.cells #[.int .i64 kind, v, .pointer (some ⟨q, 0, none⟩), .int .i64 a.all, .int .i64 a.hits, .int .i64 a.ghosts, .int .i64 b.all, .int .i64 b.hits, .int .i64 b.ghosts] 178 (0, 0))
theorem ShB.cell {w : World} {p q : Nat} {kind : Int} {v : Value} {a b : Cts} (h : ShB w p kind v q a b) :
  w.cell? ⟨p, 0, none⟩ = some (.int .i64 kind) ∧ w.cell? ⟨p, 1, none⟩ = some v ∧ w.cell? ⟨p, 2, none⟩ = some (.pointer (some ⟨q, 0, none⟩)) ∧ w.cell? ⟨p, 3, none⟩ = some (.int .i64 a.all) ∧ w.cell? ⟨p, 4, none⟩ = some (.int .i64 a.hits) ∧ w.cell? ⟨p, 5, none⟩ = some (.int .i64 a.ghosts) ∧
  w.cell? ⟨p, 6, none⟩ = some (.int .i64 b.all) ∧ w.cell? ⟨p, 7, none⟩ = some (.int .i64 b.hits) ∧ w.cell? ⟨p, 8, none⟩ = some (.int .i64 b.ghosts) := by
 have c := cell_of_block h
 exact ⟨(c 0).trans rfl, (c 1).trans rfl, (c 2).trans rfl, (c 3).trans rfl, (c 4).trans rfl, (c 5).trans rfl, (c 6).trans rfl, (c 7).trans rfl, (c 8).trans rfl⟩
end Go.Proofs.YtfeicmpbfbhiiaaGreat
