/- Texts of a proof about the given program, those parts that this claim reaches. -/
import Derived.Test.YtfeicmpbfbhiiaaGreatChecked
import Derived.Test.YtfeicmpbfbhiiaaGreatPEg00
import Derived.Test.YtfeicmpbfbhiiaaGreatPEg02
set_option linter.unusedVariables false
set_option linter.unusedSimpArgs false
namespace Go.Proofs.YtfeicmpbfbhiiaaGreat
open Go.RowKit
attribute [local go_sem ↓] Go.wp_at_zero Go.wp_at_succ
def encN1 (v : Nat) : List Value := [.int .i64 v]
def encN2 (v : Nat × Nat) : List Value := [.int .i64 v.1, .int .i64 v.2]
def encN3 (v : Nat × Nat × Nat) : List Value := [.int .i64 v.1, .int .i64 v.2.1, .int .i64 v.2.2]
def frI (o : Option Nat) : Int := match o with | none => -1 | some i => i
def stI (m : Nat) (k : ByteArray) : Nat := placeN (hashI 0 k) m
/-- What find hands back. -/
def FindRet {α : Type} (m : Nat) (T : Nat → Pl α) (M : ByteArray → Option α) (key : ByteArray) (w : World) (e : Ending) (w' : World) : Prop :=
 ∃ i b, e = .returned (.tuple #[.int .i64 (i : Nat), .bool b]) ∧ Found1 m T (stI m) M key i b ∧ ∃ q, w' = w.drewN q
def encI (x : Pl (Nat)) : List Value := .int .i64 x.is :: .string x.key :: encN1 x.v
def tblI (T : Nat → Pl (Nat)) (m : Nat) : List Value := (List.range m).flatMap fun i => encI (T i)
theorem tblI_get (T : Nat → Pl (Nat)) (m i j : Nat) (hi : i < m) (hj : j < 3) : (tblI T m)[i * 3 + j]? = (encI (T i))[j]? := range_get (F := fun i => encI (T i)) (fun _ => rfl) m i j hi hj
theorem tblI_set (T : Nat → Pl (Nat)) (m h j : Nat) (hh : h < m) (hj : j < 3) (u : Value) (x : Pl (Nat)) (hx : encI x = (encI (T h)).set j u) : (tblI T m).set (h * 3 + j) u = tblI (up T h x) m := by
 unfold tblI
 rw [range_set (F := fun i => encI (T i)) (fun _ => rfl) m h j hh hj u]
 refine range_congr fun i _ => ?_
 by_cases c : i = h
 ·subst c; simp [up, hx]
 ·simp [up, c]
def IRawI (w : World) (p g off c m : Nat) (T : Nat → Pl (Nat)) (n used : Nat) : Prop :=
 g ≠ p ∧ w.heap[p]? = some (.cells #[.int .u64 0, .slice (some ⟨g, off, none⟩) m c, .int .i64 n, .int .i64 used] 263 (0, 0)) ∧ Sl w 272 3 (.slice (some ⟨g, off, none⟩) m c) m (tblI T m)
section
variable {w : World} {p g off c m n used : Nat} {T : Nat → Pl (Nat)}
theorem IRawI.head (h : IRawI w p g off c m T n used) : w.cell? ⟨p, 0, none⟩ = some (.int .u64 0) ∧ w.cell? ⟨p, 1, none⟩ = some (.slice (some ⟨g, off, none⟩) m c) ∧ w.cell? ⟨p, 2, none⟩ = some (.int .i64 n) ∧ w.cell? ⟨p, 3, none⟩ = some (.int .i64 used) := by
 have k := cell_of_block h.2.1
 exact ⟨by rw [k]; rfl, by rw [k]; rfl, by rw [k]; rfl, by rw [k]; rfl⟩
theorem IRawI.cell (h : IRawI w p g off c m T n used) (i : Nat) (hi : i < m) : w.cell? ⟨g, off + i * 3, none⟩ = some (.int .i64 (T i).is) ∧ w.cell? ⟨g, off + i * 3 + 1, none⟩ = some (.string (T i).key) ∧
  (∀ j u, (encN1 (T i).v)[j]? = some u → w.cell? ⟨g, off + i * 3 + (2 + j), none⟩ = some u) := by
 refine ⟨?_, ?_, ?_⟩
 ·exact h.2.2.cell (j := i * 3 + 0) (by rw [tblI_get T m i 0 hi (by omega)]; rfl)
 ·rw [Nat.add_assoc]; exact h.2.2.cell (by rw [tblI_get T m i 1 hi (by omega)]; rfl)
 ·intro j u hu
  have hj : j < 1 := (List.getElem?_eq_some_iff.1 hu).1
  rw [Nat.add_assoc]
  exact h.2.2.cell (by rw [tblI_get T m i (2 + j) hi (by omega), Nat.add_comm 2 j]; exact hu)
theorem IRawI.frz (h : IRawI w p g off c m T n used) (i : Nat) : w.frozen? ⟨g, i, none⟩ = false := by
 rcases h.2.2.2 with ⟨h1, _⟩ | ⟨g', off', cap, cur, h1, hgg, _⟩
 ·simp at h1
 ·simp at h1
  obtain ⟨⟨rfl, rfl⟩, rfl⟩ := h1
  exact free_of_block hgg i
theorem IRawI.keep (h : IRawI w p g off c m T n used) {G : List Nat} {w' : World} (k : Fr G w w') (hp : p ∉ G) (hg : g ∉ G) : IRawI w' p g off c m T n used :=
 ⟨h.1, k.get h.2.1 hp, h.2.2.fr k (fun b hb => by simp [Value.ownBlock] at hb; subst hb; exact hg)⟩
theorem zZIdx1 {P : Prop} (h : P := by
 obtain ⟨h0, h1, h2, h3⟩ := H.head
 have m8 := ht.m8
 have s0 : stI m key < m := ht.stl key
 have hh := hashI_bd 0 key
 have HT := Lib.hid ht
 have HH := Lib.hid H
 clear H ht
 go_enter z1, z2
 go_wp2
 go_quiet (first | (go_at_call 136; exact Calls.quiet_of_same ((mix_hash 0 (by omega) (by omega) key hk _).mono fun _ _ h => ⟨h.1, h.2.symm⟩)) | (go_at_call 248; exact Calls.quiet_of_same ((mix_place (hashI 0 key) hh.1 hh.2 m (by omega) (by omega) _).mono fun _ _ h => ⟨h.1, h.2.symm⟩)))
 go_wp2_with fail
 go_loopg [6, 7] m (fun gg u6 u7 wr => wr = w.drewN nq ∧ ∃ (d : Nat) (free : Option Nat), d < m ∧ d + gg = m ∧ u6 = .int .i64 (frI free) ∧ u7 = .int .i64 ((stI m key + d) % m : Nat) ∧ Hid (Way m T (stI m key) key d free) ∧ Hid (∃ e, d ≤ e ∧ e < m ∧ (T ((stI m key + e) % m)).is = 0))
 case atStart =>
  refine ⟨rfl, 0, none, by omega, by omega, rfl, ?_, Way.start _ _ _ _, ?_⟩
  ·rw [Nat.add_zero, Nat.mod_eq_of_lt s0]; rfl
  ·obtain ⟨e, he, h0⟩ := HT.out.empty _ s0
   exact ⟨e, by omega, he, h0⟩
 case round =>
  obtain ⟨rfl, d, free, hd, hg, rfl, rfl, hway, hemp⟩ := hrel
  obtain ⟨i, hi⟩ : ∃ i, (stI m key + d) % m = i := ⟨_, rfl⟩
  have him : i < m := by rw [← hi]; exact Nat.mod_lt _ (by omega)
  have hnx : (i + 1) % m = (stI m key + (d + 1)) % m := by rw [← hi]; exact step_mod _ _ _ (by omega)
  obtain ⟨k0, k1, _⟩ := HH.out.cell i him
  have hle := HT.out.le2 i him
  rw [hi]
  have HI := Lib.hid hi
  have HN := Lib.hid hnx
  obtain ⟨z, hz⟩ : ∃ z, (T i).is = z := ⟨_, rfl⟩
  obtain ⟨ky, hky⟩ : ∃ z, (T i).key = z := ⟨_, rfl⟩
  rw [hz] at k0 hle
  rw [hky] at k1
  have HZ := Lib.hid (And.intro hz hky)
  clear hi hnx hz hky
  have hd1 : ((m : Int) == 0) = false := by rw [beq_eq_false_iff_ne]; omega
  have hm2 : ((i : Int) + 1) % (m : Int) = (((stI m key + (d + 1)) % m : Nat) : Int) := by rw [← HN.out]; simp
  have HM := Lib.hid hm2
  have hlast : Hid (z ≠ 0 → d + 1 < m ∧ ∃ e, d + 1 ≤ e ∧ e < m ∧ (T ((stI m key + e) % m)).is = 0) := by
   intro h0
   obtain ⟨e, h1, h2, h3⟩ := hemp.out
   have : e ≠ d := by rintro rfl; rw [HI.out, HZ.out.1] at h3; exact h0 h3
   exact ⟨by omega, e, by omega, h2, h3⟩
  have hst : Hid (z ≠ 0 → ¬ (z = 2 ∧ ky = key) → Way m T (stI m key) key (d + 1) free) := fun h0 hf => hway.out.step (by rw [HI.out, HZ.out.1]; exact h0) (by rw [HI.out, HZ.out.1, HZ.out.2]; exact hf)
  clear hm2
  by_cases c2 : z = 2
  ·subst c2
   by_cases ck : ky = key
   ·have hfin : Found1 m T (stI m) M key i true := ⟨him, fun _ => by rw [← ck]; exact HZ.out, by simp⟩
    have HF := Lib.hid hfin
    have ck2 := str_eq_t ck
    clear hfin ck
    go_wp2_with fail
    go_ret2
    exact ⟨i, true, rfl, HF.out, nq, rfl⟩
   ·have ck2 := str_ne_f ck
    obtain ⟨l1, l2⟩ := hlast.out (by omega)
    go_wp2_with fail
    go_roundg (gk - 1)
    case measure => omega
    case rel => exact ⟨rfl, d + 1, free, l1, by omega, rfl, by rw [HM.out], hst.out (by omega) (fun h => ck h.2), l2⟩
  ·have b2 : ((z : Int) == 2) = false := by rw [beq_eq_false_iff_ne]; omega
   by_cases c1 : z = 1
   ·subst c1
    obtain ⟨l1, l2⟩ := hlast.out (by omega)
    cases free with
    | none =>
     have e0 : frI none = -1 := rfl
     rw [e0]
     go_wp2_with fail
     go_roundg (gk - 1)
     case measure => omega
     case rel => exact ⟨rfl, d + 1, some i, l1, by omega, rfl, by rw [HM.out], by have := hway.out.free (by rw [HI.out]; exact HZ.out.1); rw [HI.out] at this; exact this, l2⟩
    | some j =>
     have e0 : frI (some j) = (j : Int) := rfl
     rw [e0]
     go_wp2_with fail
     go_roundg (gk - 1)
     case measure => omega
     case rel => exact ⟨rfl, d + 1, some j, l1, by omega, rfl, by rw [HM.out], hst.out (by omega) (by omega), l2⟩
   ·have hz0 : z = 0 := by omega
    subst hz0
    have hfin := HT.out.found_empty hway.out (by rw [HI.out]; exact HZ.out.1) hd
    rw [HI.out] at hfin
    have HF := Lib.hid hfin
    clear hfin
    cases free with
    | none =>
     have e0 : frI none = -1 := rfl
     rw [e0]
     go_wp2_with fail
     go_ret2
     exact ⟨i, false, rfl, HF.out, nq, rfl⟩
    | some j =>
     have e0 : frI (some j) = (j : Int) := rfl
     rw [e0]
     go_wp2_with fail
     go_ret2
     exact ⟨j, false, rfl, HF.out, nq, rfl⟩
 ) : P := h
set_option maxRecDepth 100000 in
open Tryz renaming func236 → z1, ntmps236 → z2 in
theorem findI {M : ByteArray → Option (Nat)} (H : IRawI w p g off c m T n used) (ht : TInv m T (stI m) M n used) (hm : m ≤ 1000000) (key : ByteArray) (hk : key.size ≤ maxLen) :
  Calls Tryz.prog 236 #[.pointer (some ⟨p, 0, none⟩), .string key] w (FindRet m T M key w) := by exact zZIdx1
end
def encA (x : Pl (Nat × Nat)) : List Value := .int .i64 x.is :: .string x.key :: encN2 x.v
def tblA (T : Nat → Pl (Nat × Nat)) (m : Nat) : List Value := (List.range m).flatMap fun i => encA (T i)
theorem tblA_get (T : Nat → Pl (Nat × Nat)) (m i j : Nat) (hi : i < m) (hj : j < 4) : (tblA T m)[i * 4 + j]? = (encA (T i))[j]? := range_get (F := fun i => encA (T i)) (fun _ => rfl) m i j hi hj
theorem tblA_set (T : Nat → Pl (Nat × Nat)) (m h j : Nat) (hh : h < m) (hj : j < 4) (u : Value) (x : Pl (Nat × Nat)) (hx : encA x = (encA (T h)).set j u) : (tblA T m).set (h * 4 + j) u = tblA (up T h x) m := by
 unfold tblA
 rw [range_set (F := fun i => encA (T i)) (fun _ => rfl) m h j hh hj u]
 refine range_congr fun i _ => ?_
 by_cases c : i = h
 ·subst c; simp [up, hx]
 ·simp [up, c]
def IRawA (w : World) (p g off c m : Nat) (T : Nat → Pl (Nat × Nat)) (n used : Nat) : Prop :=
 g ≠ p ∧ w.heap[p]? = some (.cells #[.int .u64 0, .slice (some ⟨g, off, none⟩) m c, .int .i64 n, .int .i64 used] 280 (0, 0)) ∧ Sl w 325 4 (.slice (some ⟨g, off, none⟩) m c) m (tblA T m)
section
variable {w : World} {p g off c m n used : Nat} {T : Nat → Pl (Nat × Nat)}
theorem IRawA.head (h : IRawA w p g off c m T n used) : w.cell? ⟨p, 0, none⟩ = some (.int .u64 0) ∧ w.cell? ⟨p, 1, none⟩ = some (.slice (some ⟨g, off, none⟩) m c) ∧ w.cell? ⟨p, 2, none⟩ = some (.int .i64 n) ∧ w.cell? ⟨p, 3, none⟩ = some (.int .i64 used) := by
 have k := cell_of_block h.2.1
 exact ⟨by rw [k]; rfl, by rw [k]; rfl, by rw [k]; rfl, by rw [k]; rfl⟩
theorem IRawA.cell (h : IRawA w p g off c m T n used) (i : Nat) (hi : i < m) : w.cell? ⟨g, off + i * 4, none⟩ = some (.int .i64 (T i).is) ∧ w.cell? ⟨g, off + i * 4 + 1, none⟩ = some (.string (T i).key) ∧
  (∀ j u, (encN2 (T i).v)[j]? = some u → w.cell? ⟨g, off + i * 4 + (2 + j), none⟩ = some u) := by
 refine ⟨?_, ?_, ?_⟩
 ·exact h.2.2.cell (j := i * 4 + 0) (by rw [tblA_get T m i 0 hi (by omega)]; rfl)
 ·rw [Nat.add_assoc]; exact h.2.2.cell (by rw [tblA_get T m i 1 hi (by omega)]; rfl)
 ·intro j u hu
  have hj : j < 2 := (List.getElem?_eq_some_iff.1 hu).1
  rw [Nat.add_assoc]
  exact h.2.2.cell (by rw [tblA_get T m i (2 + j) hi (by omega), Nat.add_comm 2 j]; exact hu)
theorem IRawA.frz (h : IRawA w p g off c m T n used) (i : Nat) : w.frozen? ⟨g, i, none⟩ = false := by
 rcases h.2.2.2 with ⟨h1, _⟩ | ⟨g', off', cap, cur, h1, hgg, _⟩
 ·simp at h1
 ·simp at h1
  obtain ⟨⟨rfl, rfl⟩, rfl⟩ := h1
  exact free_of_block hgg i
theorem IRawA.keep (h : IRawA w p g off c m T n used) {G : List Nat} {w' : World} (k : Fr G w w') (hp : p ∉ G) (hg : g ∉ G) : IRawA w' p g off c m T n used :=
 ⟨h.1, k.get h.2.1 hp, h.2.2.fr k (fun b hb => by simp [Value.ownBlock] at hb; subst hb; exact hg)⟩
set_option maxRecDepth 100000 in
open Tryz renaming func312 → z1, ntmps312 → z2 in
theorem findA {M : ByteArray → Option (Nat × Nat)} (H : IRawA w p g off c m T n used) (ht : TInv m T (stI m) M n used) (hm : m ≤ 1000000) (key : ByteArray) (hk : key.size ≤ maxLen) :
  Calls Tryz.prog 312 #[.pointer (some ⟨p, 0, none⟩), .string key] w (FindRet m T M key w) := by exact zZIdx1
end
def encQ (x : Pl (Nat × Nat)) : List Value := .int .i64 x.is :: .string x.key :: encN2 x.v
def tblQ (T : Nat → Pl (Nat × Nat)) (m : Nat) : List Value := (List.range m).flatMap fun i => encQ (T i)
theorem tblQ_get (T : Nat → Pl (Nat × Nat)) (m i j : Nat) (hi : i < m) (hj : j < 4) : (tblQ T m)[i * 4 + j]? = (encQ (T i))[j]? := range_get (F := fun i => encQ (T i)) (fun _ => rfl) m i j hi hj
theorem tblQ_set (T : Nat → Pl (Nat × Nat)) (m h j : Nat) (hh : h < m) (hj : j < 4) (u : Value) (x : Pl (Nat × Nat)) (hx : encQ x = (encQ (T h)).set j u) : (tblQ T m).set (h * 4 + j) u = tblQ (up T h x) m := by
 unfold tblQ
 rw [range_set (F := fun i => encQ (T i)) (fun _ => rfl) m h j hh hj u]
 refine range_congr fun i _ => ?_
 by_cases c : i = h
 ·subst c; simp [up, hx]
 ·simp [up, c]
def IRawQ (w : World) (p g off c m : Nat) (T : Nat → Pl (Nat × Nat)) (n used : Nat) : Prop :=
 g ≠ p ∧ w.heap[p]? = some (.cells #[.int .u64 0, .slice (some ⟨g, off, none⟩) m c, .int .i64 n, .int .i64 used] 283 (0, 0)) ∧ Sl w 364 4 (.slice (some ⟨g, off, none⟩) m c) m (tblQ T m)
section
variable {w : World} {p g off c m n used : Nat} {T : Nat → Pl (Nat × Nat)}
theorem IRawQ.head (h : IRawQ w p g off c m T n used) : w.cell? ⟨p, 0, none⟩ = some (.int .u64 0) ∧ w.cell? ⟨p, 1, none⟩ = some (.slice (some ⟨g, off, none⟩) m c) ∧ w.cell? ⟨p, 2, none⟩ = some (.int .i64 n) ∧ w.cell? ⟨p, 3, none⟩ = some (.int .i64 used) := by
 have k := cell_of_block h.2.1
 exact ⟨by rw [k]; rfl, by rw [k]; rfl, by rw [k]; rfl, by rw [k]; rfl⟩
theorem IRawQ.cell (h : IRawQ w p g off c m T n used) (i : Nat) (hi : i < m) : w.cell? ⟨g, off + i * 4, none⟩ = some (.int .i64 (T i).is) ∧ w.cell? ⟨g, off + i * 4 + 1, none⟩ = some (.string (T i).key) ∧
  (∀ j u, (encN2 (T i).v)[j]? = some u → w.cell? ⟨g, off + i * 4 + (2 + j), none⟩ = some u) := by
 refine ⟨?_, ?_, ?_⟩
 ·exact h.2.2.cell (j := i * 4 + 0) (by rw [tblQ_get T m i 0 hi (by omega)]; rfl)
 ·rw [Nat.add_assoc]; exact h.2.2.cell (by rw [tblQ_get T m i 1 hi (by omega)]; rfl)
 ·intro j u hu
  have hj : j < 2 := (List.getElem?_eq_some_iff.1 hu).1
  rw [Nat.add_assoc]
  exact h.2.2.cell (by rw [tblQ_get T m i (2 + j) hi (by omega), Nat.add_comm 2 j]; exact hu)
theorem IRawQ.frz (h : IRawQ w p g off c m T n used) (i : Nat) : w.frozen? ⟨g, i, none⟩ = false := by
 rcases h.2.2.2 with ⟨h1, _⟩ | ⟨g', off', cap, cur, h1, hgg, _⟩
 ·simp at h1
 ·simp at h1
  obtain ⟨⟨rfl, rfl⟩, rfl⟩ := h1
  exact free_of_block hgg i
theorem IRawQ.keep (h : IRawQ w p g off c m T n used) {G : List Nat} {w' : World} (k : Fr G w w') (hp : p ∉ G) (hg : g ∉ G) : IRawQ w' p g off c m T n used :=
 ⟨h.1, k.get h.2.1 hp, h.2.2.fr k (fun b hb => by simp [Value.ownBlock] at hb; subst hb; exact hg)⟩
set_option maxRecDepth 100000 in
open Tryz renaming func382 → z1, ntmps382 → z2 in
theorem findQ {M : ByteArray → Option (Nat × Nat)} (H : IRawQ w p g off c m T n used) (ht : TInv m T (stI m) M n used) (hm : m ≤ 1000000) (key : ByteArray) (hk : key.size ≤ maxLen) :
  Calls Tryz.prog 382 #[.pointer (some ⟨p, 0, none⟩), .string key] w (FindRet m T M key w) := by exact zZIdx1
end
def encU (x : Pl (Nat × Nat)) : List Value := .int .i64 x.is :: .string x.key :: encN2 x.v
def tblU (T : Nat → Pl (Nat × Nat)) (m : Nat) : List Value := (List.range m).flatMap fun i => encU (T i)
theorem tblU_get (T : Nat → Pl (Nat × Nat)) (m i j : Nat) (hi : i < m) (hj : j < 4) : (tblU T m)[i * 4 + j]? = (encU (T i))[j]? := range_get (F := fun i => encU (T i)) (fun _ => rfl) m i j hi hj
theorem tblU_set (T : Nat → Pl (Nat × Nat)) (m h j : Nat) (hh : h < m) (hj : j < 4) (u : Value) (x : Pl (Nat × Nat)) (hx : encU x = (encU (T h)).set j u) : (tblU T m).set (h * 4 + j) u = tblU (up T h x) m := by
 unfold tblU
 rw [range_set (F := fun i => encU (T i)) (fun _ => rfl) m h j hh hj u]
 refine range_congr fun i _ => ?_
 by_cases c : i = h
 ·subst c; simp [up, hx]
 ·simp [up, c]
def IRawU (w : World) (p g off c m : Nat) (T : Nat → Pl (Nat × Nat)) (n used : Nat) : Prop :=
 g ≠ p ∧ w.heap[p]? = some (.cells #[.int .u64 0, .slice (some ⟨g, off, none⟩) m c, .int .i64 n, .int .i64 used] 286 (0, 0)) ∧ Sl w 374 4 (.slice (some ⟨g, off, none⟩) m c) m (tblU T m)
section
variable {w : World} {p g off c m n used : Nat} {T : Nat → Pl (Nat × Nat)}
theorem IRawU.head (h : IRawU w p g off c m T n used) : w.cell? ⟨p, 0, none⟩ = some (.int .u64 0) ∧ w.cell? ⟨p, 1, none⟩ = some (.slice (some ⟨g, off, none⟩) m c) ∧ w.cell? ⟨p, 2, none⟩ = some (.int .i64 n) ∧ w.cell? ⟨p, 3, none⟩ = some (.int .i64 used) := by
 have k := cell_of_block h.2.1
 exact ⟨by rw [k]; rfl, by rw [k]; rfl, by rw [k]; rfl, by rw [k]; rfl⟩
theorem IRawU.cell (h : IRawU w p g off c m T n used) (i : Nat) (hi : i < m) : w.cell? ⟨g, off + i * 4, none⟩ = some (.int .i64 (T i).is) ∧ w.cell? ⟨g, off + i * 4 + 1, none⟩ = some (.string (T i).key) ∧
  (∀ j u, (encN2 (T i).v)[j]? = some u → w.cell? ⟨g, off + i * 4 + (2 + j), none⟩ = some u) := by
 refine ⟨?_, ?_, ?_⟩
 ·exact h.2.2.cell (j := i * 4 + 0) (by rw [tblU_get T m i 0 hi (by omega)]; rfl)
 ·rw [Nat.add_assoc]; exact h.2.2.cell (by rw [tblU_get T m i 1 hi (by omega)]; rfl)
 ·intro j u hu
  have hj : j < 2 := (List.getElem?_eq_some_iff.1 hu).1
  rw [Nat.add_assoc]
  exact h.2.2.cell (by rw [tblU_get T m i (2 + j) hi (by omega), Nat.add_comm 2 j]; exact hu)
theorem IRawU.frz (h : IRawU w p g off c m T n used) (i : Nat) : w.frozen? ⟨g, i, none⟩ = false := by
 rcases h.2.2.2 with ⟨h1, _⟩ | ⟨g', off', cap, cur, h1, hgg, _⟩
 ·simp at h1
 ·simp at h1
  obtain ⟨⟨rfl, rfl⟩, rfl⟩ := h1
  exact free_of_block hgg i
theorem IRawU.keep (h : IRawU w p g off c m T n used) {G : List Nat} {w' : World} (k : Fr G w w') (hp : p ∉ G) (hg : g ∉ G) : IRawU w' p g off c m T n used :=
 ⟨h.1, k.get h.2.1 hp, h.2.2.fr k (fun b hb => by simp [Value.ownBlock] at hb; subst hb; exact hg)⟩
set_option maxRecDepth 100000 in
open Tryz renaming func420 → z1, ntmps420 → z2 in
theorem findU {M : ByteArray → Option (Nat × Nat)} (H : IRawU w p g off c m T n used) (ht : TInv m T (stI m) M n used) (hm : m ≤ 1000000) (key : ByteArray) (hk : key.size ≤ maxLen) :
  Calls Tryz.prog 420 #[.pointer (some ⟨p, 0, none⟩), .string key] w (FindRet m T M key w) := by exact zZIdx1
end
def encS (x : Pl (Nat × Nat)) : List Value := .int .i64 x.is :: .string x.key :: encN2 x.v
def tblS (T : Nat → Pl (Nat × Nat)) (m : Nat) : List Value := (List.range m).flatMap fun i => encS (T i)
theorem tblS_get (T : Nat → Pl (Nat × Nat)) (m i j : Nat) (hi : i < m) (hj : j < 4) : (tblS T m)[i * 4 + j]? = (encS (T i))[j]? := range_get (F := fun i => encS (T i)) (fun _ => rfl) m i j hi hj
theorem tblS_set (T : Nat → Pl (Nat × Nat)) (m h j : Nat) (hh : h < m) (hj : j < 4) (u : Value) (x : Pl (Nat × Nat)) (hx : encS x = (encS (T h)).set j u) : (tblS T m).set (h * 4 + j) u = tblS (up T h x) m := by
 unfold tblS
 rw [range_set (F := fun i => encS (T i)) (fun _ => rfl) m h j hh hj u]
 refine range_congr fun i _ => ?_
 by_cases c : i = h
 ·subst c; simp [up, hx]
 ·simp [up, c]
def IRawS (w : World) (p g off c m : Nat) (T : Nat → Pl (Nat × Nat)) (n used : Nat) : Prop :=
 g ≠ p ∧ w.heap[p]? = some (.cells #[.int .u64 0, .slice (some ⟨g, off, none⟩) m c, .int .i64 n, .int .i64 used] 289 (0, 0)) ∧ Sl w 380 4 (.slice (some ⟨g, off, none⟩) m c) m (tblS T m)
section
variable {w : World} {p g off c m n used : Nat} {T : Nat → Pl (Nat × Nat)}
theorem IRawS.head (h : IRawS w p g off c m T n used) : w.cell? ⟨p, 0, none⟩ = some (.int .u64 0) ∧ w.cell? ⟨p, 1, none⟩ = some (.slice (some ⟨g, off, none⟩) m c) ∧ w.cell? ⟨p, 2, none⟩ = some (.int .i64 n) ∧ w.cell? ⟨p, 3, none⟩ = some (.int .i64 used) := by
 have k := cell_of_block h.2.1
 exact ⟨by rw [k]; rfl, by rw [k]; rfl, by rw [k]; rfl, by rw [k]; rfl⟩
theorem IRawS.cell (h : IRawS w p g off c m T n used) (i : Nat) (hi : i < m) : w.cell? ⟨g, off + i * 4, none⟩ = some (.int .i64 (T i).is) ∧ w.cell? ⟨g, off + i * 4 + 1, none⟩ = some (.string (T i).key) ∧
  (∀ j u, (encN2 (T i).v)[j]? = some u → w.cell? ⟨g, off + i * 4 + (2 + j), none⟩ = some u) := by
 refine ⟨?_, ?_, ?_⟩
 ·exact h.2.2.cell (j := i * 4 + 0) (by rw [tblS_get T m i 0 hi (by omega)]; rfl)
 ·rw [Nat.add_assoc]; exact h.2.2.cell (by rw [tblS_get T m i 1 hi (by omega)]; rfl)
 ·intro j u hu
  have hj : j < 2 := (List.getElem?_eq_some_iff.1 hu).1
  rw [Nat.add_assoc]
  exact h.2.2.cell (by rw [tblS_get T m i (2 + j) hi (by omega), Nat.add_comm 2 j]; exact hu)
theorem IRawS.frz (h : IRawS w p g off c m T n used) (i : Nat) : w.frozen? ⟨g, i, none⟩ = false := by
 rcases h.2.2.2 with ⟨h1, _⟩ | ⟨g', off', cap, cur, h1, hgg, _⟩
 ·simp at h1
 ·simp at h1
  obtain ⟨⟨rfl, rfl⟩, rfl⟩ := h1
  exact free_of_block hgg i
theorem IRawS.keep (h : IRawS w p g off c m T n used) {G : List Nat} {w' : World} (k : Fr G w w') (hp : p ∉ G) (hg : g ∉ G) : IRawS w' p g off c m T n used :=
 ⟨h.1, k.get h.2.1 hp, h.2.2.fr k (fun b hb => by simp [Value.ownBlock] at hb; subst hb; exact hg)⟩
set_option maxRecDepth 100000 in
open Tryz renaming func446 → z1, ntmps446 → z2 in
theorem findS {M : ByteArray → Option (Nat × Nat)} (H : IRawS w p g off c m T n used) (ht : TInv m T (stI m) M n used) (hm : m ≤ 1000000) (key : ByteArray) (hk : key.size ≤ maxLen) :
  Calls Tryz.prog 446 #[.pointer (some ⟨p, 0, none⟩), .string key] w (FindRet m T M key w) := by exact zZIdx1
end
def encL (x : Pl (Nat × Nat × Nat)) : List Value := .int .i64 x.is :: .string x.key :: encN3 x.v
def tblL (T : Nat → Pl (Nat × Nat × Nat)) (m : Nat) : List Value := (List.range m).flatMap fun i => encL (T i)
theorem tblL_get (T : Nat → Pl (Nat × Nat × Nat)) (m i j : Nat) (hi : i < m) (hj : j < 5) : (tblL T m)[i * 5 + j]? = (encL (T i))[j]? := range_get (F := fun i => encL (T i)) (fun _ => rfl) m i j hi hj
theorem tblL_set (T : Nat → Pl (Nat × Nat × Nat)) (m h j : Nat) (hh : h < m) (hj : j < 5) (u : Value) (x : Pl (Nat × Nat × Nat)) (hx : encL x = (encL (T h)).set j u) : (tblL T m).set (h * 5 + j) u = tblL (up T h x) m := by
 unfold tblL
 rw [range_set (F := fun i => encL (T i)) (fun _ => rfl) m h j hh hj u]
 refine range_congr fun i _ => ?_
 by_cases c : i = h
 ·subst c; simp [up, hx]
 ·simp [up, c]
def IRawL (w : World) (p g off c m : Nat) (T : Nat → Pl (Nat × Nat × Nat)) (n used : Nat) : Prop :=
 g ≠ p ∧ w.heap[p]? = some (.cells #[.int .u64 0, .slice (some ⟨g, off, none⟩) m c, .int .i64 n, .int .i64 used] 246 (0, 0)) ∧ Sl w 355 5 (.slice (some ⟨g, off, none⟩) m c) m (tblL T m)
section
variable {w : World} {p g off c m n used : Nat} {T : Nat → Pl (Nat × Nat × Nat)}
theorem IRawL.head (h : IRawL w p g off c m T n used) : w.cell? ⟨p, 0, none⟩ = some (.int .u64 0) ∧ w.cell? ⟨p, 1, none⟩ = some (.slice (some ⟨g, off, none⟩) m c) ∧ w.cell? ⟨p, 2, none⟩ = some (.int .i64 n) ∧ w.cell? ⟨p, 3, none⟩ = some (.int .i64 used) := by
 have k := cell_of_block h.2.1
 exact ⟨by rw [k]; rfl, by rw [k]; rfl, by rw [k]; rfl, by rw [k]; rfl⟩
theorem IRawL.cell (h : IRawL w p g off c m T n used) (i : Nat) (hi : i < m) : w.cell? ⟨g, off + i * 5, none⟩ = some (.int .i64 (T i).is) ∧ w.cell? ⟨g, off + i * 5 + 1, none⟩ = some (.string (T i).key) ∧
  (∀ j u, (encN3 (T i).v)[j]? = some u → w.cell? ⟨g, off + i * 5 + (2 + j), none⟩ = some u) := by
 refine ⟨?_, ?_, ?_⟩
 ·exact h.2.2.cell (j := i * 5 + 0) (by rw [tblL_get T m i 0 hi (by omega)]; rfl)
 ·rw [Nat.add_assoc]; exact h.2.2.cell (by rw [tblL_get T m i 1 hi (by omega)]; rfl)
 ·intro j u hu
  have hj : j < 3 := (List.getElem?_eq_some_iff.1 hu).1
  rw [Nat.add_assoc]
  exact h.2.2.cell (by rw [tblL_get T m i (2 + j) hi (by omega), Nat.add_comm 2 j]; exact hu)
theorem IRawL.frz (h : IRawL w p g off c m T n used) (i : Nat) : w.frozen? ⟨g, i, none⟩ = false := by
 rcases h.2.2.2 with ⟨h1, _⟩ | ⟨g', off', cap, cur, h1, hgg, _⟩
 ·simp at h1
 ·simp at h1
  obtain ⟨⟨rfl, rfl⟩, rfl⟩ := h1
  exact free_of_block hgg i
theorem IRawL.keep (h : IRawL w p g off c m T n used) {G : List Nat} {w' : World} (k : Fr G w w') (hp : p ∉ G) (hg : g ∉ G) : IRawL w' p g off c m T n used :=
 ⟨h.1, k.get h.2.1 hp, h.2.2.fr k (fun b hb => by simp [Value.ownBlock] at hb; subst hb; exact hg)⟩
set_option maxRecDepth 100000 in
open Tryz renaming func353 → z1, ntmps353 → z2 in
theorem findL {M : ByteArray → Option (Nat × Nat × Nat)} (H : IRawL w p g off c m T n used) (ht : TInv m T (stI m) M n used) (hm : m ≤ 1000000) (key : ByteArray) (hk : key.size ≤ maxLen) :
  Calls Tryz.prog 353 #[.pointer (some ⟨p, 0, none⟩), .string key] w (FindRet m T M key w) := by exact zZIdx1
end
end Go.Proofs.YtfeicmpbfbhiiaaGreat
