/- Texts of a proof about the given program, those parts that this claim reaches. -/
import Derived.Test.YtfeicmpbfbhiiaaGreatPEg07
import Derived.Handy
set_option linter.unusedVariables false
set_option linter.unusedSimpArgs false
namespace Go.Proofs.YtfeicmpbfbhiiaaGreat
open Go.RowKit
attribute [local go_sem ↓] Go.wp_at_zero Go.wp_at_succ
/-- Of a key that is there. -/
theorem igetA {w : World} {p n : Nat} {F : List Nat} {M : ByteArray → Option (Nat × Nat)} (H : IRepA w p F M n) (key : ByteArray) (hk : key.size ≤ maxLen) {x : Nat × Nat} (hM : M key = some x) :
  Calls Tryz.prog 304 #[.pointer (some ⟨p, 0, none⟩), .string key] w fun e w' => e = .returned (.tuple #[.agg #[.int .i64 (x.1 : Nat), .int .i64 (x.2 : Nat)], .bool true]) ∧ Fr [] w w' := by
 obtain ⟨g, off, c, m, T, used, rfl, hr, ht, h2, hm, hks⟩ := H
 refine (getA_raw hr ht (by omega) key hk).mono ?_
 rintro e w' ⟨⟨y, hy, rfl⟩ | ⟨hy, _⟩, hq⟩
 ·rw [hM] at hy; cases hy; exact ⟨rfl, hq⟩
 ·rw [hM] at hy; cases hy
theorem igetA_none {w : World} {p n : Nat} {F : List Nat} {M : ByteArray → Option (Nat × Nat)} (H : IRepA w p F M n) (key : ByteArray) (hk : key.size ≤ maxLen) (hM : M key = none) :
  Calls Tryz.prog 304 #[.pointer (some ⟨p, 0, none⟩), .string key] w fun e w' => e = .returned (.tuple #[.agg #[.int .i64 0, .int .i64 0], .bool false]) ∧ Fr [] w w' := by
 obtain ⟨g, off, c, m, T, used, rfl, hr, ht, h2, hm, hks⟩ := H
 refine (getA_raw hr ht (by omega) key hk).mono ?_
 rintro e w' ⟨⟨y, hy, _⟩ | ⟨_, rfl⟩, hq⟩
 ·rw [hM] at hy; cases hy
 ·exact ⟨rfl, hq⟩
def PutRetA (w : World) (p n : Nat) (F : List Nat) (M : ByteArray → Option (Nat × Nat)) (key : ByteArray) (x : Nat × Nat) (e : Ending) (w' : World) : Prop :=
 ∃ b F', e = .returned (.bool b) ∧ IRepA w' p F' (upM M key (some x)) (nPut M key n) ∧ Sub F' F w ∧ Fr F w w'
theorem zZIdx4s1 {P : Prop} (h : P := by
 obtain ⟨g, off, c, m, T, used, rfl, hr, ht, h2, hm, hks⟩ := H
 have hf := fun (w' : World) (k : Fr [] w w') => z1 (hr.keep k (by simp) (by simp)) ht (by omega) key hk
 have hgl := hr.2.2.lt g (by simp [Value.ownBlock])
 have hpl := lt_of_block hr.2.1
 have hle := ht.nle
 have HF := Lib.hid hf
 have HT := Lib.hid ht
 have HK := Lib.hid hks
 have HR := Lib.hid hr
 clear hf ht hks hr
 go_enter z2, z3
 go_wp2_with fail
 refine (HF.out _ ((Fr.refl [] w).alloc _)).mono ?_
 rintro e w1 ⟨i, b, rfl, hfd, q, hw1⟩
 have hfr1 : Fr [] w w1 := by rw [hw1]; exact ((Fr.refl [] w).alloc _).drewN q
 have hres : w1.heap[w.heap.size]? = some (.cells #[.int .i64 (x.1 : Nat), .int .i64 (x.2 : Nat)] z4 (0, 0)) := by rw [hw1]; exact block_drewN (block_alloc_new _ _)
 have hlt1 := lt_of_block hres
 have kc := cell_of_block hres
 have k0 : w1.cell? ⟨w.heap.size, 0, none⟩ = some (.int .i64 (x.1 : Nat)) := (kc 0).trans rfl; have k1 : w1.cell? ⟨w.heap.size, 1, none⟩ = some (.int .i64 (x.2 : Nat)) := (kc 1).trans rfl
 clear hw1 hres kc
 have hraw := HR.out.keep hfr1 (by simp) (by simp)
 obtain ⟨a0, a1, a2, a3⟩ := hraw.head
 have z := hraw.frz
 have hgp := hraw.1
 cases b with
 | true =>
  obtain ⟨hi, ht2, _⟩ := hfd
  obtain ⟨e1, e2⟩ := ht2 rfl
  obtain ⟨q2, q3, _⟩ := hraw.vcell i hi
  have hfin : z5 _ p g off c m (up T i { T i with v := x }) n used := hraw.setV i hi x
  have hfin2 := HT.out.set (x := x) hi e1 e2
  have hM := HT.out.ok i hi e1
  rw [e2] at hM
  have F1 := Lib.hid (And.intro hfin (And.intro hfin2 (And.intro hM (HK.out.up i { T i with v := x } (by show (T i).key.size ≤ maxLen; rw [e2]; exact hk)))))
  have HFR := Lib.hid hfr1
  clear hfin hfin2 hM ht2 e1 e2 hraw hfr1
  go_wp2
  go_region
  all_goals
   go_wp2
   go_ret
   have e : nPut M key n = n := by simp [nPut, F1.out.2.2.1]
   refine ⟨false, [p, g], rfl, by rw [e]; exact ⟨g, off, c, m, _, used, rfl, F1.out.1.keep ((Fr.refl [] _).drew) (by simp) (by simp), F1.out.2.1, h2, hm, F1.out.2.2.2⟩, by intro b hb; exact .inl hb, ?_⟩
   have q0 : Fr [p, g] w w1 := HFR.out.mono (by simp)
   replace q0 := q0.setCell (p := ⟨g, off + i * 4 + 2, none⟩) (by simp) (.int .i64 (x.1 : Nat)); replace q0 := q0.setCell (p := ⟨g, off + i * 4 + 3, none⟩) (by simp) (.int .i64 (x.2 : Nat))
   exact q0.drew
 | false =>
  have hMn := (hfd.2.2 rfl).1
  have hm8 := HT.out.m8
  go_wp2_with fail
  refine (z6 hraw i hfd.1 (by omega) (by omega) (by omega) (HT.out.le2 i hfd.1) key x).mono ?_
  rintro e w2 ⟨rfl, hraw2, hf2⟩
  have htn := HT.out.lays (x := x) hfd (by omega)
  have hks2 := HK.out.up i ⟨2, key, x⟩ hk
  have hu2 : (if (T i).is = 0 then used + 1 else used) ≤ used + 1 := by split <;> omega
  obtain ⟨u2, hu⟩ : ∃ u2, (if (T i).is = 0 then used + 1 else used) = u2 := ⟨_, rfl⟩
  rw [hu] at hraw2 htn hu2
  obtain ⟨T2, hT2⟩ : ∃ T2, up T i ⟨2, key, x⟩ = T2 := ⟨_, rfl⟩
  rw [hT2] at hraw2 htn hks2
  have hfr : Fr [p, g] w w2 := (hfr1.mono (by simp)).same hf2
  have F1 := Lib.hid (And.intro htn (And.intro hks2 hMn))
  obtain ⟨b0, b1, b2, b3⟩ := hraw2.head
  clear htn hks2 hMn hfd hu hT2 hf2 hraw a0 a1 a2 a3 z
  go_wp2_with fail
  go_quiet (fail)
  have hraw3 := hraw2.keep ((Fr.refl [] _).drewN nq) (by simp) (by simp)
  have hfr3 := hfr.drewN nq
  have hn1 : nPut M key n = n + 1 := by simp [nPut, F1.out.2.2]
  have HN := Lib.hid hn1
  clear hn1 hraw2 hfr
  by_cases hbig : m < 2 * u2
  ·go_wp2_with fail
   refine (z7 hraw3 F1.out.1 (by omega) (by omega) (by omega) F1.out.2.1).mono ?_
   rintro e w3 ⟨rfl, g', hrep, hg', hf3⟩
   go_wp2
   go_ret
   refine ⟨true, [p, g'], rfl, by rw [HN.out]; exact hrep, ?_, hfr3.same (hf3.mono (fun b hb _ => by simp at hb; simp [hb]))⟩
   intro b hb
   simp at hb ⊢
   rcases hb with h | h
   ·exact .inl (.inl h)
   ·right
    have := hfr3.size
    omega
  ·go_wp2
   go_ret
   exact ⟨true, [p, g], rfl, ⟨g, off, c, m, T2, u2, rfl, by rw [HN.out]; exact hraw3, by rw [HN.out]; exact F1.out.1, by omega, hm, F1.out.2.1⟩, by intro b hb; exact .inl hb, hfr3⟩
 ) : P := h
abbrev nIdx4s1z4a : Nat := 240
set_option maxRecDepth 100000 in
set_option maxHeartbeats 1000000 in
open YtfeicmpbfbhiiaaGreat renaming findA → z1, nIdx4s1z4a → z4, IRawA → z5, laysA → z6, growsA → z7 in
open Tryz renaming func305 → z2, ntmps305 → z3 in
theorem iputA {w : World} {p n : Nat} {F : List Nat} {M : ByteArray → Option (Nat × Nat)} (H : IRepA w p F M n) (hn : n ≤ 90000) (key : ByteArray) (hk : key.size ≤ maxLen) (x : Nat × Nat) :
  Calls Tryz.prog 305 #[.pointer (some ⟨p, 0, none⟩), .string key, .agg #[.int .i64 (x.1 : Nat), .int .i64 (x.2 : Nat)]] w (PutRetA w p n F M key x) := by exact zZIdx4s1
def DelRetA (w : World) (p n : Nat) (F : List Nat) (M : ByteArray → Option (Nat × Nat)) (key : ByteArray) (w' : World) : Prop :=
 IRepA w' p F (upM M key none) (nDel M key n) ∧ Fr F w w'
theorem zZIdx4s2 {P : Prop} (h : P := by
 have hg := fun (w' : World) (k : Fr [] w w') => z1 (H.fr k (fun b _ => by simp)) key hk hM
 have hd : ∀ w', Fr [] w w' → z2 w p n F M key w' := fun w' k => ⟨by
  have e1 : upM M key none = M := by funext k; unfold upM; split; rename_i h; rw [h, hM]; rfl
  have e2 : nDel M key n = n := by simp [nDel, hM]
  rw [e1, e2]; exact H.fr k (fun b _ => by simp), k.mono (by simp)⟩
 have HG := Lib.hid hg
 have HD := Lib.hid hd
 clear hg hd H hM
 go_enter z3, z4
 go_wp2_with fail
 refine (HG.out _ ((Fr.refl [] w).alloc _)).mono ?_
 rintro e w1 ⟨rfl, hf1⟩
 have hres : w1.heap[w.heap.size]? = some (.cells #[.int .i64 0, .int .i64 0] z5 (0, 0)) := hf1.get (block_alloc_new _ _) (by simp)
 have hlt1 := lt_of_block hres
 have kc := cell_of_block hres
 have kf := free_of_block hres
 have k0 : w1.cell? ⟨w.heap.size, 0, none⟩ = some (.int .i64 0) := (kc 0).trans rfl; have k1 : w1.cell? ⟨w.heap.size, 1, none⟩ = some (.int .i64 0) := (kc 1).trans rfl
 have HFR := Lib.hid (((Fr.refl [] w).alloc _).same hf1)
 clear kc hres hf1
 go_wp2
 refine bodyPost_ret (v := .tuple #[.agg #[.int .i64 0, .int .i64 0], .bool false]) (by simp [results, z6, go_sem, World.cell?_setCell_same, k0, k1, hlt1]) rfl ?_
 refine ⟨rfl, HD.out _ ?_⟩
 have q0 := HFR.out; replace q0 := q0.setNew (p := ⟨w.heap.size, 0, none⟩) (by simp) (.int .i64 0); replace q0 := q0.setNew (p := ⟨w.heap.size, 1, none⟩) (by simp) (.int .i64 0)
 exact q0.alloc _
 ) : P := h
abbrev nIdx4s2z5a : Nat := 240
set_option maxRecDepth 100000 in
open YtfeicmpbfbhiiaaGreat renaming igetA_none → z1, DelRetA → z2, nIdx4s2z5a → z5 in
open Tryz renaming func307 → z3, ntmps307 → z4, results307 → z6 in
theorem idelA_none {w : World} {p n : Nat} {F : List Nat} {M : ByteArray → Option (Nat × Nat)} (H : IRepA w p F M n) (key : ByteArray) (hk : key.size ≤ maxLen) (hM : M key = none) :
  Calls Tryz.prog 307 #[.pointer (some ⟨p, 0, none⟩), .string key] w fun e w' => e = .returned (.tuple #[.agg #[.int .i64 0, .int .i64 0], .bool false]) ∧ DelRetA w p n F M key w' := by exact zZIdx4s2
/-- Of a key that is there. -/
theorem igetQ {w : World} {p n : Nat} {F : List Nat} {M : ByteArray → Option (Nat × Nat)} (H : IRepQ w p F M n) (key : ByteArray) (hk : key.size ≤ maxLen) {x : Nat × Nat} (hM : M key = some x) :
  Calls Tryz.prog 379 #[.pointer (some ⟨p, 0, none⟩), .string key] w fun e w' => e = .returned (.tuple #[.agg #[.int .i64 (x.1 : Nat), .int .i64 (x.2 : Nat)], .bool true]) ∧ Fr [] w w' := by
 obtain ⟨g, off, c, m, T, used, rfl, hr, ht, h2, hm, hks⟩ := H
 refine (getQ_raw hr ht (by omega) key hk).mono ?_
 rintro e w' ⟨⟨y, hy, rfl⟩ | ⟨hy, _⟩, hq⟩
 ·rw [hM] at hy; cases hy; exact ⟨rfl, hq⟩
 ·rw [hM] at hy; cases hy
theorem igetQ_none {w : World} {p n : Nat} {F : List Nat} {M : ByteArray → Option (Nat × Nat)} (H : IRepQ w p F M n) (key : ByteArray) (hk : key.size ≤ maxLen) (hM : M key = none) :
  Calls Tryz.prog 379 #[.pointer (some ⟨p, 0, none⟩), .string key] w fun e w' => e = .returned (.tuple #[.agg #[.int .i64 0, .int .i64 0], .bool false]) ∧ Fr [] w w' := by
 obtain ⟨g, off, c, m, T, used, rfl, hr, ht, h2, hm, hks⟩ := H
 refine (getQ_raw hr ht (by omega) key hk).mono ?_
 rintro e w' ⟨⟨y, hy, _⟩ | ⟨_, rfl⟩, hq⟩
 ·rw [hM] at hy; cases hy
 ·exact ⟨rfl, hq⟩
def PutRetQ (w : World) (p n : Nat) (F : List Nat) (M : ByteArray → Option (Nat × Nat)) (key : ByteArray) (x : Nat × Nat) (e : Ending) (w' : World) : Prop :=
 ∃ b F', e = .returned (.bool b) ∧ IRepQ w' p F' (upM M key (some x)) (nPut M key n) ∧ Sub F' F w ∧ Fr F w w'
abbrev nIdx4s1z4b : Nat := 249
set_option maxRecDepth 100000 in
set_option maxHeartbeats 1000000 in
open YtfeicmpbfbhiiaaGreat renaming findQ → z1, nIdx4s1z4b → z4, IRawQ → z5, laysQ → z6, growsQ → z7 in
open Tryz renaming func380 → z2, ntmps380 → z3 in
theorem iputQ {w : World} {p n : Nat} {F : List Nat} {M : ByteArray → Option (Nat × Nat)} (H : IRepQ w p F M n) (hn : n ≤ 90000) (key : ByteArray) (hk : key.size ≤ maxLen) (x : Nat × Nat) :
  Calls Tryz.prog 380 #[.pointer (some ⟨p, 0, none⟩), .string key, .agg #[.int .i64 (x.1 : Nat), .int .i64 (x.2 : Nat)]] w (PutRetQ w p n F M key x) := by exact zZIdx4s1
def DelRetQ (w : World) (p n : Nat) (F : List Nat) (M : ByteArray → Option (Nat × Nat)) (key : ByteArray) (w' : World) : Prop :=
 IRepQ w' p F (upM M key none) (nDel M key n) ∧ Fr F w w'
abbrev nIdx4s2z5b : Nat := 249
set_option maxRecDepth 100000 in
open YtfeicmpbfbhiiaaGreat renaming igetQ_none → z1, DelRetQ → z2, nIdx4s2z5b → z5 in
open Tryz renaming func381 → z3, ntmps381 → z4, results381 → z6 in
theorem idelQ_none {w : World} {p n : Nat} {F : List Nat} {M : ByteArray → Option (Nat × Nat)} (H : IRepQ w p F M n) (key : ByteArray) (hk : key.size ≤ maxLen) (hM : M key = none) :
  Calls Tryz.prog 381 #[.pointer (some ⟨p, 0, none⟩), .string key] w fun e w' => e = .returned (.tuple #[.agg #[.int .i64 0, .int .i64 0], .bool false]) ∧ DelRetQ w p n F M key w' := by exact zZIdx4s2
/-- Of a key that is there. -/
theorem igetU {w : World} {p n : Nat} {F : List Nat} {M : ByteArray → Option (Nat × Nat)} (H : IRepU w p F M n) (key : ByteArray) (hk : key.size ≤ maxLen) {x : Nat × Nat} (hM : M key = some x) :
  Calls Tryz.prog 409 #[.pointer (some ⟨p, 0, none⟩), .string key] w fun e w' => e = .returned (.tuple #[.agg #[.int .i64 (x.1 : Nat), .int .i64 (x.2 : Nat)], .bool true]) ∧ Fr [] w w' := by
 obtain ⟨g, off, c, m, T, used, rfl, hr, ht, h2, hm, hks⟩ := H
 refine (getU_raw hr ht (by omega) key hk).mono ?_
 rintro e w' ⟨⟨y, hy, rfl⟩ | ⟨hy, _⟩, hq⟩
 ·rw [hM] at hy; cases hy; exact ⟨rfl, hq⟩
 ·rw [hM] at hy; cases hy
theorem igetU_none {w : World} {p n : Nat} {F : List Nat} {M : ByteArray → Option (Nat × Nat)} (H : IRepU w p F M n) (key : ByteArray) (hk : key.size ≤ maxLen) (hM : M key = none) :
  Calls Tryz.prog 409 #[.pointer (some ⟨p, 0, none⟩), .string key] w fun e w' => e = .returned (.tuple #[.agg #[.int .i64 0, .int .i64 0], .bool false]) ∧ Fr [] w w' := by
 obtain ⟨g, off, c, m, T, used, rfl, hr, ht, h2, hm, hks⟩ := H
 refine (getU_raw hr ht (by omega) key hk).mono ?_
 rintro e w' ⟨⟨y, hy, _⟩ | ⟨_, rfl⟩, hq⟩
 ·rw [hM] at hy; cases hy
 ·exact ⟨rfl, hq⟩
def PutRetU (w : World) (p n : Nat) (F : List Nat) (M : ByteArray → Option (Nat × Nat)) (key : ByteArray) (x : Nat × Nat) (e : Ending) (w' : World) : Prop :=
 ∃ b F', e = .returned (.bool b) ∧ IRepU w' p F' (upM M key (some x)) (nPut M key n) ∧ Sub F' F w ∧ Fr F w w'
abbrev nIdx4s1z4c : Nat := 252
set_option maxRecDepth 100000 in
set_option maxHeartbeats 1000000 in
open YtfeicmpbfbhiiaaGreat renaming findU → z1, nIdx4s1z4c → z4, IRawU → z5, laysU → z6, growsU → z7 in
open Tryz renaming func410 → z2, ntmps410 → z3 in
theorem iputU {w : World} {p n : Nat} {F : List Nat} {M : ByteArray → Option (Nat × Nat)} (H : IRepU w p F M n) (hn : n ≤ 90000) (key : ByteArray) (hk : key.size ≤ maxLen) (x : Nat × Nat) :
  Calls Tryz.prog 410 #[.pointer (some ⟨p, 0, none⟩), .string key, .agg #[.int .i64 (x.1 : Nat), .int .i64 (x.2 : Nat)]] w (PutRetU w p n F M key x) := by exact zZIdx4s1
def DelRetU (w : World) (p n : Nat) (F : List Nat) (M : ByteArray → Option (Nat × Nat)) (key : ByteArray) (w' : World) : Prop :=
 IRepU w' p F (upM M key none) (nDel M key n) ∧ Fr F w w'
abbrev nIdx4s2z5c : Nat := 252
set_option maxRecDepth 100000 in
open YtfeicmpbfbhiiaaGreat renaming igetU_none → z1, DelRetU → z2, nIdx4s2z5c → z5 in
open Tryz renaming func412 → z3, ntmps412 → z4, results412 → z6 in
theorem idelU_none {w : World} {p n : Nat} {F : List Nat} {M : ByteArray → Option (Nat × Nat)} (H : IRepU w p F M n) (key : ByteArray) (hk : key.size ≤ maxLen) (hM : M key = none) :
  Calls Tryz.prog 412 #[.pointer (some ⟨p, 0, none⟩), .string key] w fun e w' => e = .returned (.tuple #[.agg #[.int .i64 0, .int .i64 0], .bool false]) ∧ DelRetU w p n F M key w' := by exact zZIdx4s2
/-- Of a key that is there. -/
theorem igetS {w : World} {p n : Nat} {F : List Nat} {M : ByteArray → Option (Nat × Nat)} (H : IRepS w p F M n) (key : ByteArray) (hk : key.size ≤ maxLen) {x : Nat × Nat} (hM : M key = some x) :
  Calls Tryz.prog 442 #[.pointer (some ⟨p, 0, none⟩), .string key] w fun e w' => e = .returned (.tuple #[.agg #[.int .i64 (x.1 : Nat), .int .i64 (x.2 : Nat)], .bool true]) ∧ Fr [] w w' := by
 obtain ⟨g, off, c, m, T, used, rfl, hr, ht, h2, hm, hks⟩ := H
 refine (getS_raw hr ht (by omega) key hk).mono ?_
 rintro e w' ⟨⟨y, hy, rfl⟩ | ⟨hy, _⟩, hq⟩
 ·rw [hM] at hy; cases hy; exact ⟨rfl, hq⟩
 ·rw [hM] at hy; cases hy
theorem igetS_none {w : World} {p n : Nat} {F : List Nat} {M : ByteArray → Option (Nat × Nat)} (H : IRepS w p F M n) (key : ByteArray) (hk : key.size ≤ maxLen) (hM : M key = none) :
  Calls Tryz.prog 442 #[.pointer (some ⟨p, 0, none⟩), .string key] w fun e w' => e = .returned (.tuple #[.agg #[.int .i64 0, .int .i64 0], .bool false]) ∧ Fr [] w w' := by
 obtain ⟨g, off, c, m, T, used, rfl, hr, ht, h2, hm, hks⟩ := H
 refine (getS_raw hr ht (by omega) key hk).mono ?_
 rintro e w' ⟨⟨y, hy, _⟩ | ⟨_, rfl⟩, hq⟩
 ·rw [hM] at hy; cases hy
 ·exact ⟨rfl, hq⟩
def PutRetS (w : World) (p n : Nat) (F : List Nat) (M : ByteArray → Option (Nat × Nat)) (key : ByteArray) (x : Nat × Nat) (e : Ending) (w' : World) : Prop :=
 ∃ b F', e = .returned (.bool b) ∧ IRepS w' p F' (upM M key (some x)) (nPut M key n) ∧ Sub F' F w ∧ Fr F w w'
abbrev nIdx4s1z4d : Nat := 260
set_option maxRecDepth 100000 in
set_option maxHeartbeats 1000000 in
open YtfeicmpbfbhiiaaGreat renaming findS → z1, nIdx4s1z4d → z4, IRawS → z5, laysS → z6, growsS → z7 in
open Tryz renaming func447 → z2, ntmps447 → z3 in
theorem iputS {w : World} {p n : Nat} {F : List Nat} {M : ByteArray → Option (Nat × Nat)} (H : IRepS w p F M n) (hn : n ≤ 90000) (key : ByteArray) (hk : key.size ≤ maxLen) (x : Nat × Nat) :
  Calls Tryz.prog 447 #[.pointer (some ⟨p, 0, none⟩), .string key, .agg #[.int .i64 (x.1 : Nat), .int .i64 (x.2 : Nat)]] w (PutRetS w p n F M key x) := by exact zZIdx4s1
def DelRetS (w : World) (p n : Nat) (F : List Nat) (M : ByteArray → Option (Nat × Nat)) (key : ByteArray) (w' : World) : Prop :=
 IRepS w' p F (upM M key none) (nDel M key n) ∧ Fr F w w'
abbrev nIdx4s2z5d : Nat := 260
set_option maxRecDepth 100000 in
open YtfeicmpbfbhiiaaGreat renaming igetS_none → z1, DelRetS → z2, nIdx4s2z5d → z5 in
open Tryz renaming func448 → z3, ntmps448 → z4, results448 → z6 in
theorem idelS_none {w : World} {p n : Nat} {F : List Nat} {M : ByteArray → Option (Nat × Nat)} (H : IRepS w p F M n) (key : ByteArray) (hk : key.size ≤ maxLen) (hM : M key = none) :
  Calls Tryz.prog 448 #[.pointer (some ⟨p, 0, none⟩), .string key] w fun e w' => e = .returned (.tuple #[.agg #[.int .i64 0, .int .i64 0], .bool false]) ∧ DelRetS w p n F M key w' := by exact zZIdx4s2
/-- Of a key that is there. -/
theorem igetL {w : World} {p n : Nat} {F : List Nat} {M : ByteArray → Option (Nat × Nat × Nat)} (H : IRepL w p F M n) (key : ByteArray) (hk : key.size ≤ maxLen) {x : Nat × Nat × Nat} (hM : M key = some x) :
  Calls Tryz.prog 343 #[.pointer (some ⟨p, 0, none⟩), .string key] w fun e w' => e = .returned (.tuple #[.agg #[.int .i64 (x.1 : Nat), .int .i64 (x.2.1 : Nat), .int .i64 (x.2.2 : Nat)], .bool true]) ∧ Fr [] w w' := by
 obtain ⟨g, off, c, m, T, used, rfl, hr, ht, h2, hm, hks⟩ := H
 refine (getL_raw hr ht (by omega) key hk).mono ?_
 rintro e w' ⟨⟨y, hy, rfl⟩ | ⟨hy, _⟩, hq⟩
 ·rw [hM] at hy; cases hy; exact ⟨rfl, hq⟩
 ·rw [hM] at hy; cases hy
theorem igetL_none {w : World} {p n : Nat} {F : List Nat} {M : ByteArray → Option (Nat × Nat × Nat)} (H : IRepL w p F M n) (key : ByteArray) (hk : key.size ≤ maxLen) (hM : M key = none) :
  Calls Tryz.prog 343 #[.pointer (some ⟨p, 0, none⟩), .string key] w fun e w' => e = .returned (.tuple #[.agg #[.int .i64 0, .int .i64 0, .int .i64 0], .bool false]) ∧ Fr [] w w' := by
 obtain ⟨g, off, c, m, T, used, rfl, hr, ht, h2, hm, hks⟩ := H
 refine (getL_raw hr ht (by omega) key hk).mono ?_
 rintro e w' ⟨⟨y, hy, _⟩ | ⟨_, rfl⟩, hq⟩
 ·rw [hM] at hy; cases hy
 ·exact ⟨rfl, hq⟩
def PutRetL (w : World) (p n : Nat) (F : List Nat) (M : ByteArray → Option (Nat × Nat × Nat)) (key : ByteArray) (x : Nat × Nat × Nat) (e : Ending) (w' : World) : Prop :=
 ∃ b F', e = .returned (.bool b) ∧ IRepL w' p F' (upM M key (some x)) (nPut M key n) ∧ Sub F' F w ∧ Fr F w w'
set_option maxRecDepth 100000 in
set_option maxHeartbeats 1000000 in
theorem iputL {w : World} {p n : Nat} {F : List Nat} {M : ByteArray → Option (Nat × Nat × Nat)} (H : IRepL w p F M n) (hn : n ≤ 90000) (key : ByteArray) (hk : key.size ≤ maxLen) (x : Nat × Nat × Nat) :
  Calls Tryz.prog 358 #[.pointer (some ⟨p, 0, none⟩), .string key, .agg #[.int .i64 (x.1 : Nat), .int .i64 (x.2.1 : Nat), .int .i64 (x.2.2 : Nat)]] w (PutRetL w p n F M key x) := by
 obtain ⟨g, off, c, m, T, used, rfl, hr, ht, h2, hm, hks⟩ := H
 have hf := fun (w' : World) (k : Fr [] w w') => findL (hr.keep k (by simp) (by simp)) ht (by omega) key hk
 have hgl := hr.2.2.lt g (by simp [Value.ownBlock])
 have hpl := lt_of_block hr.2.1
 have hle := ht.nle
 have HF := Lib.hid hf
 have HT := Lib.hid ht
 have HK := Lib.hid hks
 have HR := Lib.hid hr
 clear hf ht hks hr
 go_enter Tryz.func358, Tryz.ntmps358
 go_wp2_with fail
 refine (HF.out _ ((Fr.refl [] w).alloc _)).mono ?_
 rintro e w1 ⟨i, b, rfl, hfd, q, hw1⟩
 have hfr1 : Fr [] w w1 := by rw [hw1]; exact ((Fr.refl [] w).alloc _).drewN q
 have hres : w1.heap[w.heap.size]? = some (.cells #[.int .i64 (x.1 : Nat), .int .i64 (x.2.1 : Nat), .int .i64 (x.2.2 : Nat)] 195 (0, 0)) := by rw [hw1]; exact block_drewN (block_alloc_new _ _)
 have hlt1 := lt_of_block hres
 have kc := cell_of_block hres
 have k0 : w1.cell? ⟨w.heap.size, 0, none⟩ = some (.int .i64 (x.1 : Nat)) := (kc 0).trans rfl; have k1 : w1.cell? ⟨w.heap.size, 1, none⟩ = some (.int .i64 (x.2.1 : Nat)) := (kc 1).trans rfl; have k2 : w1.cell? ⟨w.heap.size, 2, none⟩ = some (.int .i64 (x.2.2 : Nat)) := (kc 2).trans rfl
 clear hw1 hres kc
 have hraw := HR.out.keep hfr1 (by simp) (by simp)
 obtain ⟨a0, a1, a2, a3⟩ := hraw.head
 have z := hraw.frz
 have hgp := hraw.1
 cases b with
 | true =>
  obtain ⟨hi, ht2, _⟩ := hfd
  obtain ⟨e1, e2⟩ := ht2 rfl
  obtain ⟨q2, q3, q4, _⟩ := hraw.vcell i hi
  have hfin : IRawL _ p g off c m (up T i { T i with v := x }) n used := hraw.setV i hi x
  have hfin2 := HT.out.set (x := x) hi e1 e2
  have hM := HT.out.ok i hi e1
  rw [e2] at hM
  have F1 := Lib.hid (And.intro hfin (And.intro hfin2 (And.intro hM (HK.out.up i { T i with v := x } (by show (T i).key.size ≤ maxLen; rw [e2]; exact hk)))))
  have HFR := Lib.hid hfr1
  clear hfin hfin2 hM ht2 e1 e2 hraw hfr1
  go_wp2
  go_region
  all_goals
   go_wp2
   go_ret
   have e : nPut M key n = n := by simp [nPut, F1.out.2.2.1]
   refine ⟨false, [p, g], rfl, by rw [e]; exact ⟨g, off, c, m, _, used, rfl, F1.out.1.keep ((Fr.refl [] _).drew) (by simp) (by simp), F1.out.2.1, h2, hm, F1.out.2.2.2⟩, by intro b hb; exact .inl hb, ?_⟩
   have q0 : Fr [p, g] w w1 := HFR.out.mono (by simp)
   replace q0 := q0.setCell (p := ⟨g, off + i * 5 + 2, none⟩) (by simp) (.int .i64 (x.1 : Nat)); replace q0 := q0.setCell (p := ⟨g, off + i * 5 + 3, none⟩) (by simp) (.int .i64 (x.2.1 : Nat)); replace q0 := q0.setCell (p := ⟨g, off + i * 5 + 4, none⟩) (by simp) (.int .i64 (x.2.2 : Nat))
   exact q0.drew
 | false =>
  have hMn := (hfd.2.2 rfl).1
  have hm8 := HT.out.m8
  go_wp2_with fail
  refine (laysL hraw i hfd.1 (by omega) (by omega) (by omega) (HT.out.le2 i hfd.1) key x).mono ?_
  rintro e w2 ⟨rfl, hraw2, hf2⟩
  have htn := HT.out.lays (x := x) hfd (by omega)
  have hks2 := HK.out.up i ⟨2, key, x⟩ hk
  have hu2 : (if (T i).is = 0 then used + 1 else used) ≤ used + 1 := by split <;> omega
  obtain ⟨u2, hu⟩ : ∃ u2, (if (T i).is = 0 then used + 1 else used) = u2 := ⟨_, rfl⟩
  rw [hu] at hraw2 htn hu2
  obtain ⟨T2, hT2⟩ : ∃ T2, up T i ⟨2, key, x⟩ = T2 := ⟨_, rfl⟩
  rw [hT2] at hraw2 htn hks2
  have hfr : Fr [p, g] w w2 := (hfr1.mono (by simp)).same hf2
  have F1 := Lib.hid (And.intro htn (And.intro hks2 hMn))
  obtain ⟨b0, b1, b2, b3⟩ := hraw2.head
  clear htn hks2 hMn hfd hu hT2 hf2 hraw a0 a1 a2 a3 z
  go_wp2_with fail
  go_quiet (fail)
  have hraw3 := hraw2.keep ((Fr.refl [] _).drewN nq) (by simp) (by simp)
  have hfr3 := hfr.drewN nq
  have hn1 : nPut M key n = n + 1 := by simp [nPut, F1.out.2.2]
  have HN := Lib.hid hn1
  clear hn1 hraw2 hfr
  by_cases hbig : m < 2 * u2
  ·go_wp2_with fail
   refine (growsL hraw3 F1.out.1 (by omega) (by omega) (by omega) F1.out.2.1).mono ?_
   rintro e w3 ⟨rfl, g', hrep, hg', hf3⟩
   go_wp2
   go_ret
   refine ⟨true, [p, g'], rfl, by rw [HN.out]; exact hrep, ?_, hfr3.same (hf3.mono (fun b hb _ => by simp at hb; simp [hb]))⟩
   intro b hb
   simp at hb ⊢
   rcases hb with h | h
   ·exact .inl (.inl h)
   ·right
    have := hfr3.size
    omega
  ·go_wp2
   go_ret
   exact ⟨true, [p, g], rfl, ⟨g, off, c, m, T2, u2, rfl, by rw [HN.out]; exact hraw3, by rw [HN.out]; exact F1.out.1, by omega, hm, F1.out.2.1⟩, by intro b hb; exact .inl hb, hfr3⟩
def DelRetL (w : World) (p n : Nat) (F : List Nat) (M : ByteArray → Option (Nat × Nat × Nat)) (key : ByteArray) (w' : World) : Prop :=
 IRepL w' p F (upM M key none) (nDel M key n) ∧ Fr F w w'
set_option maxRecDepth 100000 in
theorem idelL_none {w : World} {p n : Nat} {F : List Nat} {M : ByteArray → Option (Nat × Nat × Nat)} (H : IRepL w p F M n) (key : ByteArray) (hk : key.size ≤ maxLen) (hM : M key = none) :
  Calls Tryz.prog 357 #[.pointer (some ⟨p, 0, none⟩), .string key] w fun e w' => e = .returned (.tuple #[.agg #[.int .i64 0, .int .i64 0, .int .i64 0], .bool false]) ∧ DelRetL w p n F M key w' := by
 have hg := fun (w' : World) (k : Fr [] w w') => igetL_none (H.fr k (fun b _ => by simp)) key hk hM
 have hd : ∀ w', Fr [] w w' → DelRetL w p n F M key w' := fun w' k => ⟨by
  have e1 : upM M key none = M := by funext k; unfold upM; split; rename_i h; rw [h, hM]; rfl
  have e2 : nDel M key n = n := by simp [nDel, hM]
  rw [e1, e2]; exact H.fr k (fun b _ => by simp), k.mono (by simp)⟩
 have HG := Lib.hid hg
 have HD := Lib.hid hd
 clear hg hd H hM
 go_enter Tryz.func357, Tryz.ntmps357
 go_wp2_with fail
 refine (HG.out _ ((Fr.refl [] w).alloc _)).mono ?_
 rintro e w1 ⟨rfl, hf1⟩
 have hres : w1.heap[w.heap.size]? = some (.cells #[.int .i64 0, .int .i64 0, .int .i64 0] 195 (0, 0)) := hf1.get (block_alloc_new _ _) (by simp)
 have hlt1 := lt_of_block hres
 have kc := cell_of_block hres
 have kf := free_of_block hres
 have k0 : w1.cell? ⟨w.heap.size, 0, none⟩ = some (.int .i64 0) := (kc 0).trans rfl; have k1 : w1.cell? ⟨w.heap.size, 1, none⟩ = some (.int .i64 0) := (kc 1).trans rfl; have k2 : w1.cell? ⟨w.heap.size, 2, none⟩ = some (.int .i64 0) := (kc 2).trans rfl
 have HFR := Lib.hid (((Fr.refl [] w).alloc _).same hf1)
 clear kc hres hf1
 go_wp2
 refine bodyPost_ret (v := .tuple #[.agg #[.int .i64 0, .int .i64 0, .int .i64 0], .bool false]) (by simp [results, Tryz.results357, go_sem, World.cell?_setCell_same, k0, k1, k2, hlt1]) rfl ?_
 refine ⟨rfl, HD.out _ ?_⟩
 have q0 := HFR.out; replace q0 := q0.setNew (p := ⟨w.heap.size, 0, none⟩) (by simp) (.int .i64 0); replace q0 := q0.setNew (p := ⟨w.heap.size, 1, none⟩) (by simp) (.int .i64 0); replace q0 := q0.setNew (p := ⟨w.heap.size, 2, none⟩) (by simp) (.int .i64 0)
 exact q0.alloc _
end Go.Proofs.YtfeicmpbfbhiiaaGreat
