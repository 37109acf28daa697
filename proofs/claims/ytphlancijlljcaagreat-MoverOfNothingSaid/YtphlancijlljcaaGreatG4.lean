/- The walks over package sketch: two cells to a byte. -/
import Derived.Test.YtphlancijlljcaaGreatG3
import Derived.StillTailTactics
set_option linter.unusedVariables false
set_option linter.unusedSimpArgs false
namespace Go.Proofs.YtphlancijlljcaaGreat
open Go.RowKit
attribute [local go_sem ↓] Go.wp_at_zero Go.wp_at_succ
def encB (bs : List Nat) : List Value := bs.map fun x => .int .u8 (x : Nat)
/-- Cell j of a row of bytes. -/
def nib (bs : List Nat) (j : Nat) : Nat := if j % 2 = 0 then (bs[j / 2]?.getD 0) % 16 else (bs[j / 2]?.getD 0) / 16
/-- A sketch at p: its bytes lie in block g. -/
def KRaw (w : World) (p g m : Nat) (bs : List Nat) (s : Sk) : Prop :=
 p ≠ g ∧ w.heap[p]? = some (.cells #[.int .i64 (s.n : Nat), .slice (some ⟨g, 0, none⟩) m m, .int .i64 (s.sum : Nat)] 262 (0, 0)) ∧ Sl w 5 1 (.slice (some ⟨g, 0, none⟩) m m) m (encB bs) ∧ bs.length = m ∧ m = 2 * s.n ∧
  (∀ x ∈ bs, x < 256) ∧ ∀ j, j < 2 * m → s.cell j = nib bs j
def KRep (w : World) (p : Nat) (F : List Nat) (s : Sk) : Prop := ∃ g m bs, F = [p, g] ∧ KRaw w p g m bs s
section
variable {w w' : World} {p g m : Nat} {F G : List Nat} {bs : List Nat} {s : Sk}
theorem KRaw.fr (h : KRaw w p g m bs s) (f : Fr G w w') (hp : p ∉ G) (hg : g ∉ G) : KRaw w' p g m bs s :=
 ⟨h.1, f.get h.2.1 hp, h.2.2.1.fr f (fun b hb => by simp [Value.ownBlock] at hb; subst hb; exact hg), h.2.2.2⟩
theorem KRep.fr (h : KRep w p F s) (f : Fr G w w') (hd : Dis F G) : KRep w' p F s := by
 obtain ⟨g, m, bs, rfl, h⟩ := h
 exact ⟨g, m, bs, rfl, h.fr f (hd p (by simp)) (hd g (by simp))⟩
theorem KRep.lt (h : KRep w p F s) : Lt F w := by
 obtain ⟨g, m, bs, rfl, h⟩ := h
 intro b hb
 simp at hb
 rcases hb with rfl | rfl
 ·exact lt_of_block h.2.1
 ·exact h.2.2.1.lt _ (by simp [Value.ownBlock])
theorem KRaw.head (h : KRaw w p g m bs s) : w.cell? ⟨p, 0, none⟩ = some (.int .i64 (s.n : Nat)) ∧ w.cell? ⟨p, 1, none⟩ = some (.slice (some ⟨g, 0, none⟩) m m) ∧ w.cell? ⟨p, 2, none⟩ = some (.int .i64 (s.sum : Nat)) := by
 have k := cell_of_block h.2.1
 exact ⟨by rw [k]; rfl, by rw [k]; rfl, by rw [k]; rfl⟩
theorem KRaw.cell (h : KRaw w p g m bs s) (i : Nat) (hi : i < m) : w.cell? ⟨g, i, none⟩ = some (.int .u8 ((bs[i]?.getD 0 : Nat) : Int)) ∧ (bs[i]?.getD 0) < 256 := by
 have hl : i < bs.length := by rw [h.2.2.2.1]; exact hi
 constructor
 ·have := h.2.2.1.cell (j := i) (u := .int .u8 ((bs[i]?.getD 0 : Nat) : Int)) (by
   unfold encB
   rw [List.getElem?_map, List.getElem?_eq_getElem hl]; rfl)
  simpa using this
 ·rw [List.getElem?_eq_getElem hl]
  exact h.2.2.2.2.2.1 _ (List.getElem_mem _)
theorem KRaw.frz (h : KRaw w p g m bs s) (i : Nat) : w.frozen? ⟨g, i, none⟩ = false := by
 rcases h.2.2.1.2 with ⟨h1, _⟩ | ⟨g', off', cap, cur, h1, hgg, _⟩
 ·simp at h1
 ·simp at h1
  obtain ⟨⟨rfl, rfl⟩, rfl⟩ := h1
  exact free_of_block hgg _
end
theorem and15 (v : Nat) (h : v < 256) : bits BinOp.and IntKind.i64 (v : Int) 15 = ((v % 16 : Nat) : Int) := by
 show IntKind.i64.wrap ((BitVec.ofInt 64 (v : Int) &&& BitVec.ofInt 64 15).toNat : Int) = _
 have h2 : (BitVec.ofInt 64 (15 : Int)).toNat = 15 := by decide
 rw [BitVec.toNat_and, ofInt64 v (by omega), h2, show (15 : Nat) = 2 ^ 4 - 1 from rfl, Nat.and_two_pow_sub_one_eq_mod]
 have : v % 2 ^ 4 < 16 := Nat.mod_lt _ (by decide)
 show IntKind.i64.wrap ((v % 16 : Nat) : Int) = _
 simp [IntKind.wrap, IntKind.bits, IntKind.signed]
 omega
set_option maxRecDepth 100000 in
theorem kat {w : World} {p g m : Nat} {bs : List Nat} {s : Sk} (H : KRaw w p g m bs s) (hm : m ≤ 10000) (j : Nat) (hj : j < 4 * s.n) :
  Calls Tryz.prog 423 #[.pointer (some ⟨p, 0, none⟩), .int .i64 j] w fun en w' => en = .returned (.int .i64 (s.cell j : Nat)) ∧ w = w' := by
 have h1 := H.head.2.1
 have hm2 := H.2.2.2.2.1
 have hc := H.2.2.2.2.2.2 j (by omega)
 obtain ⟨q, hq⟩ : ∃ q, j / 2 = q := ⟨_, rfl⟩
 obtain ⟨k1, k2⟩ := H.cell q (by omega)
 rw [hc]
 unfold nib
 rw [hq]
 obtain ⟨x, hx⟩ : ∃ x, bs[q]?.getD 0 = x := ⟨_, rfl⟩
 rw [hx] at k1 k2 ⊢
 have hqi : (j : Int) / 2 = q := by omega
 have hqm : (q : Int) < m := by omega
 clear H hc hx hm2
 by_cases he : j % 2 = 0
 ·rw [if_pos he]
  have e1 : (j : Int) % 2 = 0 := by omega
  have e2 := and15 x k2
  go_enter Tryz.func423, Tryz.ntmps423
  go_wp2
  go_ret
  exact ⟨by rw [show ((x : Int) % 16) = ((x % 16 : Nat) : Int) by omega]; rfl, rfl⟩
 ·rw [if_neg he]
  have e1 : (j : Int) % 2 = 1 := by omega
  have e2 := and15 (x / 16) (by omega)
  go_enter Tryz.func423, Tryz.ntmps423
  go_wp2
  go_ret
  refine ⟨?_, rfl⟩
  rw [show ((x : Int) / 16) = ((x / 16 : Nat) : Int) by omega, e2, show x / 16 % 16 = x / 16 by omega]
  rfl
theorem lowNib : ∀ x : Fin 256, ∀ v : Fin 16, bits .or .u8 (bits .andNot .u8 ((x.val : Nat) : Int) 15) ((v.val : Nat) : Int) = ((x.val / 16 * 16 + v.val : Nat) : Int) := by decide +kernel
theorem highNib : ∀ x : Fin 256, ∀ v : Fin 16, bits .or .u8 (bits .andNot .u8 ((x.val : Nat) : Int) 240) (((v.val : Nat) : Int) * 16) = ((x.val % 16 + 16 * v.val : Nat) : Int) := by decide +kernel
theorem KRaw.put {w : World} {p g m : Nat} {bs : List Nat} {s : Sk} (H : KRaw w p g m bs s) {j q x y v : Nat} (hj : j < 2 * m) (hq : j / 2 = q) (hx : bs[q]?.getD 0 = x) (hy : y < 256) (hn : (j % 2 = 0 ∧ y % 16 = v ∧ y / 16 = x / 16) ∨ (j % 2 = 1 ∧ y / 16 = v ∧ y % 16 = x % 16)) :
  KRaw (w.setCell ⟨g, q, none⟩ (.int .u8 (y : Int))) p g m (bs.set q y) { s with cell := fun t => if t = j then v else s.cell t } := by
 obtain ⟨h1, h2, h3, h4, h5, h6, h7⟩ := H
 have e := h3.set q (.int .u8 (y : Int))
 rw [Nat.zero_add] at e
 have e2 : (encB bs).set q (.int .u8 (y : Int)) = encB (bs.set q y) := by unfold encB; rw [List.map_set]
 rw [e2] at e
 refine ⟨h1, ((Fr.refl [g] w).setCell (p := ⟨g, q, none⟩) (by simp) _).get h2 (by simpa using h1), e, by simpa using h4, h5, ?_, ?_⟩
 ·intro z hz
  rcases List.mem_or_eq_of_mem_set hz with h | rfl
  ·exact h6 z h
  ·exact hy
 ·intro t ht
  have h := h7 t ht
  show (if t = j then v else s.cell t) = _
  rw [h]
  unfold nib
  by_cases e1 : t / 2 = q
  ·rw [e1, List.getElem?_set_self (by omega), hx]
   simp only [Option.getD_some]
   split <;> split <;> omega
  ·rw [List.getElem?_set_ne (fun h => e1 h.symm), if_neg (by rintro rfl; exact e1 hq)]
set_option maxRecDepth 100000 in
theorem kset {w : World} {p g m : Nat} {bs : List Nat} {s : Sk} (H : KRaw w p g m bs s) (hm : m ≤ 10000) (j : Nat) (hj : j < 4 * s.n) (v : Nat) (hv : v ≤ 15) :
  Calls Tryz.prog 424 #[.pointer (some ⟨p, 0, none⟩), .int .i64 j, .int .i64 v] w fun en w' => en = .returned (.tuple #[]) ∧ (∃ bs', KRaw w' p g m bs' { s with cell := fun t => if t = j then v else s.cell t }) ∧ Fr [g] w w' := by
 have h1 := H.head.2.1
 have hm2 := H.2.2.2.2.1
 obtain ⟨q, hq⟩ : ∃ q, j / 2 = q := ⟨_, rfl⟩
 obtain ⟨k1, k2⟩ := H.cell q (by omega)
 have zg := fun i => H.frz i
 obtain ⟨x, hx⟩ : ∃ x, bs[q]?.getD 0 = x := ⟨_, rfl⟩
 rw [hx] at k1 k2
 have hqi : (j : Int) / 2 = q := by omega
 have hqm : (q : Int) < m := by omega
 have hwq : IntKind.i64.wrap (q : Int) = q := by
  simp [IntKind.wrap, IntKind.bits, IntKind.signed]
  omega
 have hwv : IntKind.u8.wrap (v : Int) = v := by
  simp [IntKind.wrap, IntKind.bits, IntKind.signed]
  omega
 have HH := Lib.hid H
 have HX := Lib.hid hx
 clear H hx hm2
 by_cases he : j % 2 = 0
 ·have e1 : (j : Int) % 2 = 0 := by omega
  go_enter Tryz.func424, Tryz.ntmps424
  go_wp2
  go_still_tail 23, (by kernel_rfl)
  change wpList _ _ _ _ _ w.drew
  go_wp2
  go_end0
  obtain ⟨y, hy⟩ : ∃ y, x / 16 * 16 + v = y := ⟨_, rfl⟩
  have hb : bits BinOp.or IntKind.u8 (bits BinOp.andNot IntKind.u8 (x : Int) 15) (v : Int) = (y : Int) := by rw [← hy]; exact lowNib ⟨x, k2⟩ ⟨v, by omega⟩
  refine ⟨rfl, ⟨bs.set q y, ?_⟩, ((Fr.refl [g] w).setCell (p := ⟨g, q, none⟩) (by simp) _).drew⟩
  rw [show bits BinOp.or IntKind.u8 (bits BinOp.andNot IntKind.u8 (x : Int) 15) (v : Int) = (y : Int) from hb]
  exact (HH.out.put (by have := HH.out.2.2.2.2.1; omega) hq HX.out (by omega) (by omega)).fr ((Fr.refl [] _).drew) (by simp) (by simp)
 ·have e1 : (j : Int) % 2 = 1 := by omega
  go_enter Tryz.func424, Tryz.ntmps424
  go_wp2
  go_still_tail 23, (by kernel_rfl)
  change wpList _ _ _ _ _ w.drew
  go_wp2
  go_end0
  obtain ⟨y, hy⟩ : ∃ y, x % 16 + 16 * v = y := ⟨_, rfl⟩
  have hb : bits BinOp.or IntKind.u8 (bits BinOp.andNot IntKind.u8 (x : Int) 240) ((v : Int) * 16) = (y : Int) := by rw [← hy]; exact highNib ⟨x, k2⟩ ⟨v, by omega⟩
  refine ⟨rfl, ⟨bs.set q y, ?_⟩, ((Fr.refl [g] w).setCell (p := ⟨g, q, none⟩) (by simp) _).drew⟩
  rw [show bits BinOp.or IntKind.u8 (bits BinOp.andNot IntKind.u8 (x : Int) 240) ((v : Int) * 16) = (y : Int) from hb]
  exact (HH.out.put (by have := HH.out.2.2.2.2.1; omega) hq HX.out (by omega) (by omega)).fr ((Fr.refl [] _).drew) (by simp) (by simp)
end Go.Proofs.YtphlancijlljcaaGreat

set_option linter.unusedVariables false
set_option linter.unusedSimpArgs false
namespace Go.Proofs.YtphlancijlljcaaGreat
open Go.RowKit
attribute [local go_sem ↓] Go.wp_at_zero Go.wp_at_succ
def four (s : Sk) (key : ByteArray) (k : Nat) (i : Nat) : Value := .int .i64 (if i < k then s.at key i else 0 : Nat)
set_option maxRecDepth 100000 in
theorem kplaces {w : World} {p g m : Nat} {bs : List Nat} {s : Sk} (H : KRaw w p g m bs s) (hm : m ≤ 10000) (hn : 1 ≤ s.n) (key : ByteArray) (hk : key.size ≤ maxLen) :
  Calls Tryz.prog 422 #[.pointer (some ⟨p, 0, none⟩), .string key] w fun en w' => en = .returned (.agg #[.int .i64 (s.at key 0 : Nat), .int .i64 (s.at key 1 : Nat), .int .i64 (s.at key 2 : Nat), .int .i64 (s.at key 3 : Nat)]) ∧ Fr [] w w' := by
 have HH := Lib.hid H
 have hm2 := H.2.2.2.2.1
 have hl := lt_of_block H.2.1
 clear H
 go_enter Tryz.func422, Tryz.ntmps422
 go_wp2
 go_loopg [7] 4 (fun gg u7 wr => ∃ i : Nat, u7 = .int .i64 i ∧ i + gg = 4 ∧ Fr [] w wr ∧ wr.heap[w.heap.size + 1]? = some (.cells #[four s key i 0, four s key i 1, four s key i 2, four s key i 3] 291 (0, 0)) ∧ wr.heap[w.heap.size]? = some (.cells #[.int .i64 0, .int .i64 0, .int .i64 0, .int .i64 0] 291 (0, 0)))
 case atStart =>
  refine ⟨0, rfl, rfl, ((Fr.refl [] w).alloc _).alloc _, ?_, ?_⟩
  ·have b := block_alloc_new (w.alloc (.cells #[.int .i64 0, .int .i64 0, .int .i64 0, .int .i64 0] 291)) (.cells #[.int .i64 0, .int .i64 0, .int .i64 0, .int .i64 0] 291)
   rw [World.size_alloc] at b
   exact b
  ·exact ((Fr.refl [] _).alloc _).get (block_alloc_new _ _) (by simp)
 case round =>
  obtain ⟨i, rfl, hi, hf, hb, hb0⟩ := hrel
  by_cases hlt : i < 4
  ·have h0 := (HH.out.fr hf (by simp) (by simp)).head.1
   have hh := hashI_bd (i + 1) key
   have q1 : (i : Int) < 4 := by omega
   have hmul : i * s.n ≤ 3 * s.n := Nat.mul_le_mul_right _ (by omega)
   obtain ⟨z, hz⟩ : ∃ z, i * s.n = z := ⟨_, rfl⟩
   have hzi : (i : Int) * (s.n : Int) = z := by rw [← hz]; simp
   obtain ⟨n, hn'⟩ : ∃ n, s.n = n := ⟨_, rfl⟩
   rw [hn'] at h0 hzi hmul hm2 hn
   have hw1 : IntKind.i64.wrap ((i : Int) + 1) = (i : Int) + 1 := by
    simp [IntKind.wrap, IntKind.bits, IntKind.signed]
    omega
   have hw2 : IntKind.u64.wrap ((i : Int) + 1) = (i : Int) + 1 := by
    have := wrap64s (i + 1) (by omega)
    simpa using this
   have hw3 : IntKind.i64.wrap (z : Int) = (z : Int) := by
    simp [IntKind.wrap, IntKind.bits, IntKind.signed]
    omega
   have hpl : placeN (hashI ((i : Int) + 1) key) n < n := placeN_lt _ _ hn
   have HPL := Lib.hid fun W => mix_place (hashI ((i : Int) + 1) key) hh.1 hh.2 n (by omega) (by omega) W
   obtain ⟨pl, hpe⟩ : ∃ pl, placeN (hashI ((i : Int) + 1) key) n = pl := ⟨_, rfl⟩
   rw [hpe] at hpl HPL
   have HPE := Lib.hid hpe
   clear hpe
   have hw4 : IntKind.i64.wrap ((z : Int) + (pl : Int)) = (z : Int) + (pl : Int) := by
    simp [IntKind.wrap, IntKind.bits, IntKind.signed]
    omega
   have hk0 : wr.cell? ⟨w.heap.size + 1, i, none⟩ = some (.int .i64 0) := by
    rw [cell_of_block hb]
    have : i = 0 ∨ i = 1 ∨ i = 2 ∨ i = 3 := by omega
    rcases this with rfl | rfl | rfl | rfl <;> simp [four]
   have hfz := fun j => free_of_block hb j
   have HF := Lib.hid (And.intro hf (And.intro hb hb0))
   have HNN := Lib.hid (And.intro hn' hz)
   clear hf hb hb0 hn' hz
   go_wp2
   refine wp_region_still_tail 19 (by kernel_rfl) (by kernel_rfl) ?_
   simp only [List.take_succ_cons, List.take_zero, List.drop_succ_cons, List.drop_zero]
   repeat still_step
   still_call ((mix_hash ((i : Int) + 1) (by omega) (by omega) key hk _).mono fun _ _ h => ⟨h.1, h.2.symm⟩)
   repeat still_step
   still_call ((HPL.out _).mono fun _ _ h => ⟨h.1, h.2.symm⟩)
   repeat still_step
   refine wpStill_nil ?_
   change wpList _ _ _ _ _ wr.drew
   go_wp2
   have hat : s.at key i = z + pl := by
    unfold Sk.at
    rw [HNN.out.1, HPE.out, ← HNN.out.2, HNN.out.1]
   go_roundg (3 - i)
   case measure => omega
   case rel =>
    refine ⟨i + 1, by go_num, by omega, (HF.out.1.setNew (p := ⟨w.heap.size + 1, i, none⟩) (by simp) _).drew, ?_, block_set_other HF.out.2.2 (by simp) _⟩
    have b := block_set_same HF.out.2.1 i (.int .i64 ((z : Int) + (pl : Int)))
    refine b.trans ?_
    have e1 : (z : Int) + (pl : Int) = ((s.at key i : Nat) : Int) := by rw [hat]; simp
    rw [e1]
    have : i = 0 ∨ i = 1 ∨ i = 2 ∨ i = 3 := by omega
    rcases this with rfl | rfl | rfl | rfl <;> simp [four]
  ·have hi4 : i = 4 := by omega
   subst hi4
   have c := cell_of_block hb
   have c0 : wr.cell? ⟨w.heap.size + 1, 0, none⟩ = some (.int .i64 (s.at key 0 : Nat)) := by rw [c]; simp [four]
   have c1 : wr.cell? ⟨w.heap.size + 1, 1, none⟩ = some (.int .i64 (s.at key 1 : Nat)) := by rw [c]; simp [four]
   have c2 : wr.cell? ⟨w.heap.size + 1, 2, none⟩ = some (.int .i64 (s.at key 2 : Nat)) := by rw [c]; simp [four]
   have c3 : wr.cell? ⟨w.heap.size + 1, 3, none⟩ = some (.int .i64 (s.at key 3 : Nat)) := by rw [c]; simp [four]
   have d := cell_of_block hb0
   have d0 : wr.cell? ⟨w.heap.size, 0, none⟩ = some (.int .i64 0) := by rw [d]; simp
   have d1 : wr.cell? ⟨w.heap.size, 1, none⟩ = some (.int .i64 0) := by rw [d]; simp
   have d2 : wr.cell? ⟨w.heap.size, 2, none⟩ = some (.int .i64 0) := by rw [d]; simp
   have d3 : wr.cell? ⟨w.heap.size, 3, none⟩ = some (.int .i64 0) := by rw [d]; simp
   have zf := fun j => free_of_block hb0 j
   have HF := Lib.hid (And.intro hf hb0)
   clear c d hb hb0 hf
   go_wp2
   have b4 := block_set_same (block_set_same (block_set_same (block_set_same HF.out.2 0 (.int .i64 (s.at key 0 : Nat))) 1 (.int .i64 (s.at key 1 : Nat))) 2 (.int .i64 (s.at key 2 : Nat))) 3 (.int .i64 (s.at key 3 : Nat))
   have hff := (((((HF.out.1.setNew (p := ⟨w.heap.size, 0, none⟩) (Nat.le_refl _) (.int .i64 (s.at key 0 : Nat))).setNew (p := ⟨w.heap.size, 1, none⟩) (Nat.le_refl _) (.int .i64 (s.at key 1 : Nat))).setNew (p := ⟨w.heap.size, 2, none⟩) (Nat.le_refl _) (.int .i64 (s.at key 2 : Nat))).setNew (p := ⟨w.heap.size, 3, none⟩) (Nat.le_refl _) (.int .i64 (s.at key 3 : Nat))))
   generalize (((wr.setCell ⟨w.heap.size, 0, none⟩ (.int .i64 (s.at key 0 : Nat))).setCell ⟨w.heap.size, 1, none⟩ (.int .i64 (s.at key 1 : Nat))).setCell ⟨w.heap.size, 2, none⟩ (.int .i64 (s.at key 2 : Nat))).setCell ⟨w.heap.size, 3, none⟩ (.int .i64 (s.at key 3 : Nat)) = w4 at b4 hff ⊢
   have k := cell_of_block b4
   have k0 : w4.cell? ⟨w.heap.size, 0, none⟩ = some (.int .i64 (s.at key 0 : Nat)) := by rw [k]; simp
   have k1 : w4.cell? ⟨w.heap.size, 1, none⟩ = some (.int .i64 (s.at key 1 : Nat)) := by rw [k]; simp
   have k2 : w4.cell? ⟨w.heap.size, 2, none⟩ = some (.int .i64 (s.at key 2 : Nat)) := by rw [k]; simp
   have k3 : w4.cell? ⟨w.heap.size, 3, none⟩ = some (.int .i64 (s.at key 3 : Nat)) := by rw [k]; simp
   refine bodyPost_ret (v := .agg #[.int .i64 (s.at key 0 : Nat), .int .i64 (s.at key 1 : Nat), .int .i64 (s.at key 2 : Nat), .int .i64 (s.at key 3 : Nat)]) (by simp [results, Tryz.results422, go_sem, k0, k1, k2, k3]) rfl ?_
   exact ⟨rfl, hff⟩
end Go.Proofs.YtphlancijlljcaaGreat

set_option linter.unusedVariables false
set_option linter.unusedSimpArgs false
namespace Go.Proofs.YtphlancijlljcaaGreat
open Go.RowKit
attribute [local go_sem ↓] Go.wp_at_zero Go.wp_at_succ
theorem ksum {w : World} {p g m : Nat} {bs : List Nat} {s : Sk} (H : KRaw w p g m bs s) : Calls Tryz.prog 412 #[.pointer (some ⟨p, 0, none⟩)] w fun en w' => en = .returned (.int .i64 (s.sum : Nat)) ∧ w = w' := by
 have h2 := H.head.2.2
 clear H
 go_enter Tryz.func412, Tryz.ntmps412
 go_wp2
 go_ret
 exact ⟨rfl, rfl⟩
end Go.Proofs.YtphlancijlljcaaGreat

set_option linter.unusedVariables false
set_option linter.unusedSimpArgs false
namespace Go.Proofs.YtphlancijlljcaaGreat
open Go.RowKit
attribute [local go_sem ↓] Go.wp_at_zero Go.wp_at_succ
def least4 (s : Sk) (key : ByteArray) : Nat → Nat
 | 0 => 15
 | i + 1 => min (least4 s key i) (s.cell (s.at key i))
set_option maxRecDepth 100000 in
theorem kcount {w : World} {p g m : Nat} {bs : List Nat} {s : Sk} (H : KRaw w p g m bs s) (hi : s.Inv) (key : ByteArray) (hk : key.size ≤ maxLen) :
  Calls Tryz.prog 421 #[.pointer (some ⟨p, 0, none⟩), .string key] w fun en w' => en = .returned (.int .i64 (s.count key : Nat)) ∧ Fr [] w w' := by
 have hn8 := hi.n8
 have hn2 := hi.n2
 have hm : m ≤ 10000 := by have := H.2.2.2.2.1; omega
 have HP := Lib.hid (kplaces H hm (by omega) key hk)
 have HA := Lib.hid fun (W : World) (f : Fr [] w W) (i : Nat) (h4 : i < 4) => kat (H.fr f (by simp) (by simp)) hm (s.at key i) (by
  have := placeN_lt (hashI (i + 1) key) s.n (by omega)
  unfold Sk.at
  have : i * s.n ≤ 3 * s.n := Nat.mul_le_mul_right _ (by omega)
  omega)
 have HL := Lib.hid hi.le
 have hix := Lib.hid fun (a b c d : Int) => (⟨fun _ => by kernel_rfl, fun _ => by kernel_rfl, fun _ => by kernel_rfl, fun _ => by kernel_rfl⟩ :
  (∀ w, (Instr.index 291 (.agg #[.int .i64 a, .int .i64 b, .int .i64 c, .int .i64 d]) (.int .i64 0)).run Tryz.prog w = .ok (.int .i64 a) w) ∧
  (∀ w, (Instr.index 291 (.agg #[.int .i64 a, .int .i64 b, .int .i64 c, .int .i64 d]) (.int .i64 1)).run Tryz.prog w = .ok (.int .i64 b) w) ∧
  (∀ w, (Instr.index 291 (.agg #[.int .i64 a, .int .i64 b, .int .i64 c, .int .i64 d]) (.int .i64 2)).run Tryz.prog w = .ok (.int .i64 c) w) ∧
  (∀ w, (Instr.index 291 (.agg #[.int .i64 a, .int .i64 b, .int .i64 c, .int .i64 d]) (.int .i64 3)).run Tryz.prog w = .ok (.int .i64 d) w))
 obtain ⟨x0, x1, x2, x3⟩ := hix.out (s.at key 0 : Nat) (s.at key 1 : Nat) (s.at key 2 : Nat) (s.at key 3 : Nat)
 clear H hi hix
 go_enter Tryz.func421, Tryz.ntmps421
 go_wp2_with fail
 refine HP.out.mono ?_
 rintro en w0 ⟨rfl, hf0⟩
 go_wp2_with fail
 go_loopg [5, 13] 4 (fun gg u5 u13 wr => wr = w0 ∧ ∃ (i a : Nat), u13 = .int .i64 i ∧ u5 = .int .i64 a ∧ i + gg = 4 ∧ a ≤ 15 ∧ Aside (a = least4 s key i))
 case atStart => exact ⟨rfl, 0, 15, rfl, rfl, rfl, by omega, rfl⟩
 case round =>
  obtain ⟨rfl, i, a, rfl, rfl, hi, ha, hA⟩ := hrel
  have HF := Lib.hid hf0
  clear hf0
  have h5 : i = 0 ∨ i = 1 ∨ i = 2 ∨ i = 3 ∨ i = 4 := by omega
  rcases h5 with rfl | rfl | rfl | rfl | rfl
  case inr.inr.inr.inr =>
   go_wp2
   go_ret
   refine ⟨?_, HF.out⟩
   have e : a = s.count key := by
    rw [hA.out]
    have := HL.out (s.at key 0)
    simp only [least4, Sk.count]
    omega
   rw [e]; rfl
  case inl =>
   obtain ⟨c, hc⟩ : ∃ c, s.cell (s.at key 0) = c := ⟨_, rfl⟩
   have HC := HA.out _ HF.out 0 (by omega)
   have hc15 := HL.out (s.at key 0)
   rw [hc] at HC hc15
   have hA2 : Hid (min a c = least4 s key 1) := by show _ = _; rw [hA.out, ← hc]; rfl
   have HC := Lib.hid HC
   clear hc
   go_wp2_with fail
   refine HC.out.mono ?_
   rintro en w1 ⟨rfl, rfl⟩
   go_wp2_with fail
   all_goals
    go_roundg 3
    case measure => omega
    case rel =>
     first
      | exact ⟨rfl, 1, c, rfl, by go_num, by omega, by omega, by show _ = _; rw [← hA2.out]; omega⟩
      | exact ⟨rfl, 1, a, rfl, by go_num, by omega, by omega, by show _ = _; rw [← hA2.out]; omega⟩
  case inr.inl =>
   obtain ⟨c, hc⟩ : ∃ c, s.cell (s.at key 1) = c := ⟨_, rfl⟩
   have HC := HA.out _ HF.out 1 (by omega)
   have hc15 := HL.out (s.at key 1)
   rw [hc] at HC hc15
   have hA2 : Hid (min a c = least4 s key 2) := by show _ = _; rw [hA.out, ← hc]; rfl
   have HC := Lib.hid HC
   clear hc
   go_wp2_with fail
   refine HC.out.mono ?_
   rintro en w1 ⟨rfl, rfl⟩
   go_wp2_with fail
   all_goals
    go_roundg 2
    case measure => omega
    case rel =>
     first
      | exact ⟨rfl, 2, c, rfl, by go_num, by omega, by omega, by show _ = _; rw [← hA2.out]; omega⟩
      | exact ⟨rfl, 2, a, rfl, by go_num, by omega, by omega, by show _ = _; rw [← hA2.out]; omega⟩
  case inr.inr.inl =>
   obtain ⟨c, hc⟩ : ∃ c, s.cell (s.at key 2) = c := ⟨_, rfl⟩
   have HC := HA.out _ HF.out 2 (by omega)
   have hc15 := HL.out (s.at key 2)
   rw [hc] at HC hc15
   have hA2 : Hid (min a c = least4 s key 3) := by show _ = _; rw [hA.out, ← hc]; rfl
   have HC := Lib.hid HC
   clear hc
   go_wp2_with fail
   refine HC.out.mono ?_
   rintro en w1 ⟨rfl, rfl⟩
   go_wp2_with fail
   all_goals
    go_roundg 1
    case measure => omega
    case rel =>
     first
      | exact ⟨rfl, 3, c, rfl, by go_num, by omega, by omega, by show _ = _; rw [← hA2.out]; omega⟩
      | exact ⟨rfl, 3, a, rfl, by go_num, by omega, by omega, by show _ = _; rw [← hA2.out]; omega⟩
  case inr.inr.inr.inl =>
   obtain ⟨c, hc⟩ : ∃ c, s.cell (s.at key 3) = c := ⟨_, rfl⟩
   have HC := HA.out _ HF.out 3 (by omega)
   have hc15 := HL.out (s.at key 3)
   rw [hc] at HC hc15
   have hA2 : Hid (min a c = least4 s key 4) := by show _ = _; rw [hA.out, ← hc]; rfl
   have HC := Lib.hid HC
   clear hc
   go_wp2_with fail
   refine HC.out.mono ?_
   rintro en w1 ⟨rfl, rfl⟩
   go_wp2_with fail
   all_goals
    go_roundg 0
    case measure => omega
    case rel =>
     first
      | exact ⟨rfl, 4, c, rfl, by go_num, by omega, by omega, by show _ = _; rw [← hA2.out]; omega⟩
      | exact ⟨rfl, 4, a, rfl, by go_num, by omega, by omega, by show _ = _; rw [← hA2.out]; omega⟩
end Go.Proofs.YtphlancijlljcaaGreat

set_option linter.unusedVariables false
set_option linter.unusedSimpArgs false
namespace Go.Proofs.YtphlancijlljcaaGreat
open Go.RowKit
attribute [local go_sem ↓] Go.wp_at_zero Go.wp_at_succ
theorem KRaw.congr {w : World} {p g m : Nat} {bs : List Nat} {s s' : Sk} (h : KRaw w p g m bs s) (hn : s'.n = s.n) (hs : s'.sum = s.sum) (hc : ∀ j, j < 2 * m → s'.cell j = s.cell j) : KRaw w p g m bs s' := by
 obtain ⟨h1, h2, h3, h4, h5, h6, h7⟩ := h
 exact ⟨h1, by rw [hn, hs]; exact h2, h3, h4, by rw [hn]; exact h5, h6, fun j hj => (hc j hj).trans (h7 j hj)⟩
theorem KRaw.setSum {w : World} {p g m : Nat} {bs : List Nat} {s : Sk} (h : KRaw w p g m bs s) (t : Nat) : KRaw (w.setCell ⟨p, 2, none⟩ (.int .i64 (t : Nat))) p g m bs { s with sum := t } := by
 obtain ⟨h1, h2, h3, h4⟩ := h
 refine ⟨h1, ?_, h3.fr ((Fr.refl [p] w).setCell (by simp) _) (fun b hb hx => by simp [Value.ownBlock] at hb hx; omega), h4⟩
 rw [block_set_same h2]; rfl
set_option maxRecDepth 100000 in
theorem khalve {w : World} {p g m : Nat} {bs : List Nat} {s : Sk} (H : KRaw w p g m bs s) (hn8 : 8 ≤ s.n) (hn2 : s.n ≤ 2048) (hle : ∀ j, s.cell j ≤ 15) (hsum : s.sum ≤ 100000) :
  Calls Tryz.prog 425 #[.pointer (some ⟨p, 0, none⟩)] w fun en w' => en = .returned (.tuple #[]) ∧ (∃ bs', KRaw w' p g m bs' s.halve) ∧ Fr [p, g] w w' := by
 obtain ⟨h0, h1, h2⟩ := H.head
 have hm2 := H.2.2.2.2.1
 have hne := H.1
 have HH := Lib.hid H
 have HI := Lib.hid hle
 obtain ⟨n, hn⟩ : ∃ n, s.n = n := ⟨_, rfl⟩
 obtain ⟨sm, hsm⟩ : ∃ n, s.sum = n := ⟨_, rfl⟩
 rw [hn] at h0 hn8 hn2 hm2
 rw [hsm] at h2 hsum
 have HN := Lib.hid (And.intro hn hsm)
 have hz := fun i => free_of_block H.2.1 i
 clear H hle hn hsm
 go_enter Tryz.func425, Tryz.ntmps425
 go_wp2_with fail
 go_loopw [10] (fun u10 wr => ∃ (i : Nat) (bs' : List Nat), i ≤ 4 * n ∧ u10 = .int .i64 i ∧ Hid (KRaw wr p g m bs' { s with cell := fun j => if j < i then s.cell j / 2 else s.cell j }) ∧ Fr [g] w wr) (fun u10 _ => 4 * n - (intOf u10).toNat)
 case atStart => exact ⟨0, bs, Nat.zero_le _, rfl, HH.out.congr rfl rfl (fun j _ => by simp), Fr.refl _ _⟩
 case round =>
  obtain ⟨i, bs', hi, rfl, hk, hf⟩ := hrel
  by_cases hlt : i < 4 * n
  ·have q1 : (i : Int) < 4 * (n : Int) := by omega
   obtain ⟨c, hc⟩ : ∃ c, s.cell i = c := ⟨_, rfl⟩
   have hc15 := HI.out i
   have ka := kat hk.out (by omega) i (by rw [show ({ s with cell := fun j => if j < i then s.cell j / 2 else s.cell j } : Sk).n = n from HN.out.1]; exact hlt)
   simp only [Nat.lt_irrefl, if_false] at ka
   have ks := fun (v : Nat) (hv : v ≤ 15) => kset hk.out (by omega) i (by rw [show ({ s with cell := fun j => if j < i then s.cell j / 2 else s.cell j } : Sk).n = n from HN.out.1]; exact hlt) v hv
   rw [hc] at ka hc15
   have HA := Lib.hid ka
   have HS := Lib.hid ks
   have HC := Lib.hid hc
   have hf3 := Lib.hid hf
   clear ka ks hc
   go_wp2_with fail
   refine HA.out.mono ?_
   rintro en w1 ⟨rfl, rfl⟩
   go_wp2_with fail
   have e2 : (c : Int) / 2 = ((c / 2 : Nat) : Int) := by omega
   rw [e2]
   clear e2
   refine (HS.out (c / 2) (by omega)).mono ?_
   rintro en w2 ⟨rfl, ⟨bs2, hk2⟩, hf2⟩
   have fin : Hid (KRaw w2 p g m bs2 { s with cell := fun j => if j < i + 1 then s.cell j / 2 else s.cell j }) := by
    refine hk2.congr rfl rfl (fun j _ => ?_)
    simp only
    by_cases e : j = i
    ·subst e; rw [if_pos (by omega), if_pos rfl, HC.out]
    ·rw [if_neg e]
     by_cases e2 : j < i
     ·rw [if_pos (by omega), if_pos e2]
     ·rw [if_neg (by omega), if_neg e2]
   have finF : Fr [g] w w2 := hf3.out.same hf2
   clear hk2 hf2
   go_wp2_with fail
   exact ⟨⟨i + 1, bs2, by omega, by go_num, fin, finF⟩, by simp [intOf]; omega⟩
  ·have hi4 : i = 4 * n := by omega
   subst hi4
   have h2 := cell_fr hf h2 (by simpa using hne)
   have HF := Lib.hid hf
   have hz := fun i => free_of_block hk.out.2.1 i
   clear h0 h1 hf
   go_wp2
   go_end0
   have e : ((sm : Int) / 2) = ((sm / 2 : Nat) : Int) := by omega
   rw [e]
   refine ⟨rfl, ⟨bs', (hk.out.setSum (sm / 2)).congr rfl (by show s.sum / 2 = _; rw [HN.out.2]) (fun j hj => ?_)⟩, (HF.out.mono (by intro b hb _; simp at hb; simp [hb])).setCell (by simp) _⟩
   show s.cell j / 2 = if j < 4 * n then _ else _
   rw [if_pos (by omega)]
def Sk.isAtK (s : Sk) (key : ByteArray) (k j : Nat) : Bool := (List.range k).any fun i => decide (j = s.at key i)
def Sk.upK (s : Sk) (key : ByteArray) (k : Nat) : Sk := { s with cell := fun j => if s.isAtK key k j = true ∧ s.cell j = s.count key then s.count key + 1 else s.cell j }
theorem isAtK_succ (s : Sk) (key : ByteArray) (k j : Nat) : s.isAtK key (k + 1) j = (s.isAtK key k j || decide (j = s.at key k)) := by
 unfold Sk.isAtK
 rw [List.range_succ, List.any_append]
 simp
theorem isAtK_four (s : Sk) (key : ByteArray) (j : Nat) : s.isAtK key 4 j = s.isAt key j := by
 simp only [isAtK_succ]
 unfold Sk.isAtK Sk.isAt
 rw [Bool.eq_iff_iff]
 simp [or_assoc]
theorem at_bd (s : Sk) (key : ByteArray) (i : Nat) (hn : 0 < s.n) : i * s.n ≤ s.at key i ∧ s.at key i < (i + 1) * s.n := by
 have := placeN_lt (hashI (i + 1) key) s.n hn
 unfold Sk.at
 rw [Nat.add_mul]
 omega
theorem at_new (s : Sk) (key : ByteArray) (k : Nat) (hn : 0 < s.n) : s.isAtK key k (s.at key k) = false := by
 unfold Sk.isAtK
 rw [List.any_eq_false]
 intro i hi
 have hi := List.mem_range.1 hi
 have h1 := at_bd s key i hn
 have h2 := at_bd s key k hn
 have h3 : (i + 1) * s.n ≤ k * s.n := Nat.mul_le_mul_right _ hi
 simp
 omega
theorem count_le (s : Sk) (key : ByteArray) (i : Nat) (hi : i < 4) : s.count key ≤ s.cell (s.at key i) := by
 have : i = 0 ∨ i = 1 ∨ i = 2 ∨ i = 3 := by omega
 unfold Sk.count
 rcases this with rfl | rfl | rfl | rfl <;> omega
end Go.Proofs.YtphlancijlljcaaGreat
