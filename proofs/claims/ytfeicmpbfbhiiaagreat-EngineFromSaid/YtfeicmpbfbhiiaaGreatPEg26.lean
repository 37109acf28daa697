/- Texts of a proof about the given program, those parts that this claim reaches. -/
import Derived.Test.YtfeicmpbfbhiiaaGreatPEg16
import Derived.Test.YtfeicmpbfbhiiaaGreatPEg24
set_option linter.unusedVariables false
set_option linter.unusedSimpArgs false
namespace Go.Proofs.YtfeicmpbfbhiiaaGreat
open Go.RowKit
attribute [local go_sem ↓] Go.wp_at_zero Go.wp_at_succ
/-- How the slice of a cell grows, whatever its cells. -/
theorem RV.appX {n : Nat} {T : TypeId} {w w0 w1 : World} {e i : Nat} {F Fx : List Nat} {V : Nat → Value} {X : Nat → RowD} {rest : List Value} {v' : Value} {r : RowD} (h : RV n T w e F Fx V X rest) (hi : i < n) (f : Fr [] w w0) (g1 : RowAt w1 v' r) (g2 : Fr (V i).ownBlock.toList w0 w1) (g3 : v'.ownBlock = (V i).ownBlock ∨ v'.ownBlock = some w0.heap.size) :
  RG n T w e F Fx (up V i v') (up X i r) rest (w1.setCell ⟨e, i, none⟩ v') ∧ w1.cell? ⟨e, i, none⟩ = w.cell? ⟨e, i, none⟩ ∧ w1.frozen? ⟨e, i, none⟩ = false := by
 have b := g2.get (f.get h.b.blk (by simp)) (fun q => h.ne hi (by simpa using q))
 refine ⟨h.put hi ((f.mono (fun _ q => by cases q)).same g2) (fun b hb => ?_) g1, by rw [cell_of_block b, cell_of_block h.b.blk], free_of_block b i⟩
 rcases g3 with q | q
 ·rw [q] at hb; exact .inl hb
 ·rw [q] at hb; simp at hb; have := f.size; exact .inr (by omega)
abbrev cellR12 (l : List (ByteArray × Nat)) : RowD := ⟨228, 2, l.length, l.flatMap fun x => [.string x.1, .int .i64 (x.2 : Nat)]⟩
theorem oneC12 (l : List (ByteArray × Nat)) : ∀ u ∈ (cellR12 l).xs, u.oneCell' = true := by
 intro u hu
 obtain ⟨x, _, hx⟩ := List.mem_flatMap.1 hu
 simp at hx
 rcases hx with rfl | rfl <;> rfl
theorem infoC12 : (Tryz.prog.info? 228).map (fun i => (i.zero, i.size, i.bytes)) = some (some (.agg #[.string ⟨#[]⟩, .int .i64 0]), 2, 24) := by kernel_rfl
theorem cell12_at {w : World} {a : Option Addr} {n c i : Nat} {l : List (ByteArray × Nat)} (h : RowAt w (.slice a n c) (cellR12 l)) (hi : i < l.length) :
  ∃ g o, a = some ⟨g, o, none⟩ ∧ w.cell? ⟨g, o + i * 2, none⟩ = some (.string l[i].1) ∧ w.cell? ⟨g, o + i * 2 + 1, none⟩ = some (.int .i64 (l[i].2 : Nat)) := by
 obtain ⟨g, o, d, hv, _⟩ := Sl.pos h (by show 0 < l.length; omega)
 simp at hv
 obtain ⟨rfl, hn, rfl⟩ := hv
 subst hn
 have hf := flat_get (f := fun x : ByteArray × Nat => [Value.string x.1, Value.int .i64 (x.2 : Nat)]) (s := 2) (fun _ => rfl) l i hi
 refine ⟨g, o, rfl, Sl.cell (j := i * 2) h (hf 0 (by decide)), ?_⟩
 rw [Nat.add_assoc]
 exact Sl.cell (j := i * 2 + 1) h (hf 1 (by decide))
abbrev cellR13 (l : List (ByteArray × Nat)) : RowD := ⟨160, 2, l.length, l.flatMap fun x => [.string x.1, .int .u8 (x.2 : Nat)]⟩
theorem oneC13 (l : List (ByteArray × Nat)) : ∀ u ∈ (cellR13 l).xs, u.oneCell' = true := by
 intro u hu
 obtain ⟨x, _, hx⟩ := List.mem_flatMap.1 hu
 simp at hx
 rcases hx with rfl | rfl <;> rfl
theorem infoC13 : (Tryz.prog.info? 160).map (fun i => (i.zero, i.size, i.bytes)) = some (some (.agg #[.string ⟨#[]⟩, .int .u8 0]), 2, 24) := by kernel_rfl
theorem cell13_at {w : World} {a : Option Addr} {n c i : Nat} {l : List (ByteArray × Nat)} (h : RowAt w (.slice a n c) (cellR13 l)) (hi : i < l.length) :
  ∃ g o, a = some ⟨g, o, none⟩ ∧ w.cell? ⟨g, o + i * 2, none⟩ = some (.string l[i].1) ∧ w.cell? ⟨g, o + i * 2 + 1, none⟩ = some (.int .u8 (l[i].2 : Nat)) := by
 obtain ⟨g, o, d, hv, _⟩ := Sl.pos h (by show 0 < l.length; omega)
 simp at hv
 obtain ⟨rfl, hn, rfl⟩ := hv
 subst hn
 have hf := flat_get (f := fun x : ByteArray × Nat => [Value.string x.1, Value.int .u8 (x.2 : Nat)]) (s := 2) (fun _ => rfl) l i hi
 refine ⟨g, o, rfl, Sl.cell (j := i * 2) h (hf 0 (by decide)), ?_⟩
 rw [Nat.add_assoc]
 exact Sl.cell (j := i * 2 + 1) h (hf 1 (by decide))
/-- Cells in new memory. -/
def GoneC (w w' : World) (v : Value) (l : List (ByteArray × Nat)) : Prop := RowAt w' v (cellR13 l) ∧ Ge w.heap.size v.ownBlock.toList
theorem GoneC.nil (w w' : World) : GoneC w w' (.slice none 0 0) [] := ⟨Sl.nil _ _ _, by intro b hb; simp [Value.ownBlock] at hb⟩
theorem GoneC.fr0 {w w' w2 : World} {v : Value} {l : List (ByteArray × Nat)} (h : GoneC w w' v l) (f : Fr [] w' w2) : GoneC w w2 v l := ⟨Sl.fr h.1 f (fun b _ => by simp), h.2⟩
theorem GoneC.old {w0 w w' : World} {v : Value} {l : List (ByteArray × Nat)} (h : GoneC w w' v l) (k : w0.heap.size ≤ w.heap.size) : GoneC w0 w' v l := ⟨h.1, h.2.mono k⟩
theorem GoneC.app {W w0 w1 : World} {v v' : Value} {l l2 : List (ByteArray × Nat)} (h : GoneC W w0 v l) (f : Fr [] W w0) (a1 : RowAt w1 v' (cellR13 l2)) (a2 : Fr v.ownBlock.toList w0 w1) (a3 : v'.ownBlock = v.ownBlock ∨ v'.ownBlock = some w0.heap.size) : GoneC W w1 v' l2 ∧ Fr [] W w1 := by
 refine ⟨⟨a1, fun q hq => ?_⟩, f.fresh a2 h.2⟩
 rcases a3 with e | e
 ·rw [e] at hq; exact h.2 q hq
 ·rw [e] at hq; simp at hq; have := f.size; omega
theorem RV.cutX {n : Nat} {T : TypeId} {w w1 : World} {e i : Nat} {F Fx : List Nat} {V : Nat → Value} {X : Nat → RowD} {rest : List Value} {v' : Value} {r : RowD} (h : RV n T w e F Fx V X rest) (hi : i < n) (f : Fr [] w w1) (g : RowAt w1 v' r) (g2 : Ge w.heap.size v'.ownBlock.toList) : RG n T w e F Fx (up V i v') (up X i r) rest (w1.setCell ⟨e, i, none⟩ v') :=
 h.put hi (f.mono (fun _ q => by cases q)) (fun b hb => .inr (g2 b (by simp [hb]))) g
theorem cell13_snoc {w : World} {b : Option Addr} {n c : Nat} {l : List (ByteArray × Nat)} {x : ByteArray × Nat} (hn : n = l.length + 1) (h : Sl w 160 2 (.slice b n c) n ((cellR13 l).xs ++ [.string x.1, .int .u8 (x.2 : Nat)])) : RowAt w (.slice b n c) (cellR13 (l ++ [x])) := by
 subst hn
 have e2 : (cellR13 (l ++ [x])).xs = (cellR13 l).xs ++ [.string x.1, .int .u8 (x.2 : Nat)] := by simp
 show Sl w 160 2 _ (l ++ [x]).length (cellR13 (l ++ [x])).xs
 rw [e2, List.length_append]
 exact h
theorem RowAt.cellN {w : World} {a : Option Addr} {n c : Nat} {l : List (ByteArray × Nat)} (h : RowAt w (.slice a n c) (cellR13 l)) (hn : l.length = n) : Sl w 160 2 (.slice a n c) n (cellR13 l).xs := by
 subst hn; exact h
set_option maxRecDepth 100000 in
theorem fat12 {w : World} {v : Value} {l : List (ByteArray × Nat)} (h : RowAt w v (cellR12 l)) (hl : l.length ≤ 1000000) (key : ByteArray) :
  Calls Tryz.prog 215 #[v, .string key] w fun en w' => en = .returned (.int .i64 (rhas (l.map (·.1)) key)) ∧ w' = w := by
 have H := Lib.hid h
 obtain ⟨a, c, hv⟩ := Sl.form h
 obtain ⟨n, hn⟩ : ∃ n, l.length = n := ⟨_, rfl⟩
 have HN : Hid (l.length = n) := hn
 replace hv : v = .slice a n c := by rw [hv, ← hn]
 rw [hn] at hl
 subst hv
 clear h hn
 go_enter Tryz.func215, Tryz.ntmps215
 go_wp2
 go_loopw [5] (fun i wr => ∃ j : Nat, j ≤ n ∧ i = .int .i64 j ∧ wr = w ∧ Hid (∀ x, x ∈ (l.map (·.1)).take j → x ≠ key)) (fun i _ => n - (intOf i).toNat)
 case atStart => exact ⟨0, Nat.zero_le _, rfl, rfl, fun x hx => by simp at hx⟩
 case round =>
  obtain ⟨j, hj, rfl, rfl, hno⟩ := hrel
  by_cases hlt : j < n
  ·have hjl : j < l.length := by rw [HN.out]; exact hlt
   obtain ⟨g, o, rfl, x0, x1⟩ := cell12_at H.out hjl
   obtain ⟨k, hk⟩ : ∃ k, l[j].1 = k := ⟨_, rfl⟩
   have hjm : j < (l.map (·.1)).length := by rw [List.length_map]; exact hjl
   have HK : Hid ((l.map (·.1))[j] = k) := by show _ = _; rw [List.getElem_map]; exact hk
   rw [hk] at x0
   clear hk x1
   by_cases e : k = key
   ·have b := str_eq_t e
    have HE := Lib.hid e
    clear e
    go_wp2
    go_ret
    exact ⟨by rw [rhas_at hjm (HK.out.trans HE.out) hno.out]; rfl, rfl⟩
   ·have b := str_ne_f e
    have hno2 : Hid (∀ x, x ∈ (l.map (·.1)).take (j + 1) → x ≠ key) := fun x hx => by
     rw [List.take_add_one, List.getElem?_eq_getElem hjm] at hx
     rcases List.mem_append.1 hx with q | q
     ·exact hno.out x q
     ·simp only [Option.toList_some, List.mem_singleton] at q; rw [q, HK.out]; exact e
    go_wp2
    exact ⟨⟨j + 1, by omega, by go_num, by first | rfl | trivial, hno2⟩, by simp [intOf]; omega⟩
  ·have : j = n := by omega
   subst this
   go_wp2
   go_ret
   have hno := hno.out
   rw [← HN.out, ← List.length_map (f := (·.1)), List.take_length] at hno
   exact ⟨by rw [rhas_none (fun q => hno key q rfl)]; rfl, rfl⟩
end Go.Proofs.YtfeicmpbfbhiiaaGreat
set_option linter.unusedVariables false
set_option linter.unusedSimpArgs false
namespace Go.Proofs.YtfeicmpbfbhiiaaGreat
open Go.RowKit
attribute [local go_sem ↓] Go.wp_at_zero Go.wp_at_succ
def R12 (w : World) (e : Nat) (F : List Nat) (X : Nat → RowD) (c : Nat) : Prop := ∃ V, RV 3 171 w e F [] V X [.int .i64 (c : Nat)]
def R12Go (w : World) (e : Nat) (F : List Nat) (X : Nat → RowD) (c : Nat) (w' : World) : Prop := ∃ F', R12 w' e F' X c ∧ Sub F' F w ∧ Fr F w w'
def cellsOf (l : List ByteArray) (C : Cnt) : List (ByteArray × Nat) := l.map fun k => (k, cntOf C k)
theorem cellsOf_keys (l : List ByteArray) (C : Cnt) : (cellsOf l C).map (·.1) = l := by simp [cellsOf, Function.comp_def]
theorem cellsOf_len (l : List ByteArray) (C : Cnt) : (cellsOf l C).length = l.length := by simp [cellsOf]
theorem cellsOf_upM {l : List ByteArray} {C : Cnt} {key : ByteArray} (h : key ∉ l) (v : Option Nat) : cellsOf l (upM C key v) = cellsOf l C := by
 unfold cellsOf
 refine List.map_congr_left fun k hk => ?_
 have : k ≠ key := fun q => h (q ▸ hk)
 simp [cntOf, upM, this]
/-- What the three rows are. -/
def XS3 (K : Rows) (C : Cnt) : Nat → RowD := fun i => match i with | 0 => cellR12 (cellsOf (K 0) C) | 1 => cellR12 (cellsOf (K 1) C) | i + 2 => strR (K (i + 2))
/-- The document's engine of chapter 12. -/
def RE12 (w : World) (e : Nat) (F : List Nat) (s : S3) : Prop := s.Inv ∧ R12 w e F (XS3 s.K s.C) s.c
theorem S3.Inv.len {s : S3} (h : s.Inv) (i : Nat) : (s.K i).length ≤ 4000 := by
 have h1 := h.res
 have h2 := h.c2
 have h3 := h.gh
 unfold S3.ghosts S3.small at h3
 match i with
 | 0 => omega
 | 1 => omega
 | 2 => omega
 | n + 3 => rw [h.ci.nd.out (n + 3) (by omega)]; simp
section
variable {w w' w1 w2 : World} {e c : Nat} {F G : List Nat} {X : Nat → RowD} {s : S3}
theorem R12.fr (h : R12 w e F X c) (f : Fr G w w') (hd : Dis F G) : R12 w' e F X c := by
 obtain ⟨V, h⟩ := h
 exact ⟨V, h.fr f hd⟩
theorem R12.fr0 (h : R12 w e F X c) (f : Fr [] w w') : R12 w' e F X c := h.fr f (fun _ _ => by simp)
theorem R12.lt (h : R12 w e F X c) : Lt F w := by
 obtain ⟨V, h⟩ := h
 exact h.lt
theorem RG.r12 {V : Nat → Value} {X X' : Nat → RowD} {c : Nat} (h : RG 3 171 w e F [] V X [.int .i64 (c : Nat)] w') (hX : X = X') : R12Go w e F X' c w' := by
 obtain ⟨F', h1, h2, h3⟩ := h
 subst hX
 exact ⟨F', ⟨V, h1⟩, h2, h3⟩
set_option maxRecDepth 100000 in
theorem r12len (h : R12 w e F X c) (hb : (X 0).n + (X 1).n ≤ 500000) : Calls Tryz.prog 190 #[ptr e] w fun en w' => en = .returned (.int .i64 ((X 0).n + (X 1).n : Nat)) ∧ ∃ m, w' = w.drewN m := by
 obtain ⟨V, h⟩ := h
 obtain ⟨a0, n0, c0, a1, n1, c1, a2, n2, c2, a3, n3, c3, hn0, hn1, hn2, hn3, h⟩ := h.lit (by decide)
 have k0 := h.k (i := 0) (by decide)
 have k1 := h.k (i := 1) (by decide)
 simp only [V4] at k0 k1
 rw [hn0, hn1] at hb ⊢
 clear h hn0 hn1 hn2 hn3
 go_enter Tryz.func190, Tryz.ntmps190
 go_wp2
 go_quiet (fail)
 go_wp2
 go_ret
 exact ⟨rfl, _, rfl⟩
set_option maxRecDepth 100000 in
theorem r12has {l0 l1 : List (ByteArray × Nat)} (h : R12 w e F X c) (h0 : X 0 = cellR12 l0) (h1 : X 1 = cellR12 l1) (hb0 : l0.length ≤ 100000) (hb1 : l1.length ≤ 100000) (key : ByteArray) : Calls Tryz.prog 174 #[ptr e, .string key] w fun en w' => en = .returned (.bool (decide (key ∈ l0.map (·.1) ∨ key ∈ l1.map (·.1)))) ∧ w' = w := by
 obtain ⟨V, h⟩ := h
 obtain ⟨a0, n0, c0, a1, n1, c1, a2, n2, c2, a3, n3, c3, hn0, hn1, hn2, hn3, h⟩ := h.lit (by decide)
 have HC0 := Lib.hid (fat12 (h0 ▸ h.s 0 (by decide)) (Nat.le_trans hb0 (by decide)) key)
 have HC1 := Lib.hid (fat12 (h1 ▸ h.s 1 (by decide)) (Nat.le_trans hb1 (by decide)) key)
 have k0 := h.k (i := 0) (by decide)
 have k1 := h.k (i := 1) (by decide)
 simp only [V4] at k0 k1 HC0 HC1
 have m0 := rhas_mem (l := l0.map (·.1)) (key := key)
 have m1 := rhas_mem (l := l1.map (·.1)) (key := key)
 obtain ⟨r0, hr0⟩ : ∃ r, rhas (l0.map (·.1)) key = r := ⟨_, rfl⟩
 obtain ⟨r1, hr1⟩ : ∃ r, rhas (l1.map (·.1)) key = r := ⟨_, rfl⟩
 rw [hr0] at HC0 m0
 rw [hr1] at HC1 m1
 have hd : decide (key ∈ l0.map (·.1) ∨ key ∈ l1.map (·.1)) = decide (0 ≤ r0 ∨ 0 ≤ r1) := by rw [decide_eq_decide, m0, m1]
 rw [hd]
 clear h hn0 hn1 hn2 hn3 hr0 hr1 hd m0 m1
 by_cases q0 : 0 ≤ r0
 ·have b0 : decide (0 ≤ r0) = true := decide_eq_true q0
  have b : decide (0 ≤ r0 ∨ 0 ≤ r1) = true := decide_eq_true (.inl q0)
  rw [b]
  clear b
  go_enter Tryz.func174, Tryz.ntmps174
  go_wp2_with fail
  refine HC0.out.mono ?_
  rintro en w1 ⟨rfl, rfl⟩
  go_wp2
  go_ret
  exact ⟨rfl, rfl⟩
 ·have b0 : decide (0 ≤ r0) = false := decide_eq_false q0
  have q0' : r0 < 0 := by omega
  have b : decide (0 ≤ r0 ∨ 0 ≤ r1) = decide (0 ≤ r1) := by simp [q0]
  rw [b]
  clear b
  go_enter Tryz.func174, Tryz.ntmps174
  go_wp2_with fail
  refine HC0.out.mono ?_
  rintro en w1 ⟨rfl, rfl⟩
  go_wp2_with fail
  refine HC1.out.mono ?_
  rintro en w1 ⟨rfl, rfl⟩
  go_wp2
  go_ret
  exact ⟨rfl, rfl⟩
set_option maxHeartbeats 1000000 in
set_option maxRecDepth 100000 in
/-- A key is a ghost no more. -/
theorem r12known {l : List ByteArray} (h : R12 w e F X c) (h2 : X 2 = strR l) (hl : l.length ≤ 100000) (key : ByteArray) :
  Calls Tryz.prog 191 #[ptr e, .string key] w fun en w' => en = .returned (.bool (decide ((cutQ l key).length < l.length))) ∧ R12Go w e F (up X 2 (strR (cutQ l key))) c w' := by
 obtain ⟨V, h⟩ := h
 obtain ⟨a0, n0, c0, a1, n1, c1, a2, n, c2, a3, n3, c3, hn0, hn1, hn2, hn3, h⟩ := h.lit (by decide)
 have H := Lib.hid h
 have k2 := h.k (i := 2) (by decide)
 simp only [V4] at k2
 have hn : l.length = n := by rw [← hn2, h2]
 have HSS : Hid (SS w (.slice a2 n c2) l) := by have := h.s 2 (by decide); rw [h2] at this; exact this
 have HN : Hid (l.length = n) := hn
 rw [hn] at hl
 have hew : e < w.heap.size := lt_of_block h.b.blk
 clear h hn0 hn1 hn2 hn3 hn
 go_enter Tryz.func191, Tryz.ntmps191
 go_wp2
 go_loopw [5, 6] (fun u5 u6 wr => ∃ (j m : Nat) (b : Option Addr) (cc : Nat), j ≤ n ∧ u6 = .int .i64 j ∧ u5 = .slice b m cc ∧ m ≤ j ∧ Hid (m = (cutQ (l.take j) key).length) ∧ Hid (Gone w wr (.slice b m cc) (cutQ (l.take j) key)) ∧ Fr [] w wr) (fun _ u6 _ => n - (intOf u6).toNat)
 case atStart => exact ⟨0, 0, none, 0, by omega, rfl, rfl, by omega, rfl, Gone.nil _ _, Fr.refl _ _⟩
 case round =>
  obtain ⟨j, m, b, cc, hj, rfl, rfl, hm, hM, hG, hf⟩ := hrel
  have k2 := (H.out.c0 hf 2).1.trans k2
  by_cases hlt : j < n
  ·have hjl : j < l.length := by rw [HN.out]; exact hlt
   obtain ⟨g, o, rfl, x0⟩ := RowAt.str (i := j) (SS.fr0 HSS.out hf) hjl
   have hsn := cutQ_snoc l key j hjl
   obtain ⟨k, hk⟩ : ∃ k, l[j] = k := ⟨_, rfl⟩
   rw [hk] at x0 hsn
   have q1 : (j : Int) < (n : Int) := by omega
   clear hk
   by_cases eq : k = key
   ·have b9 := str_eq_t eq
    have HSN2 : Hid (cutQ (l.take (j + 1)) key = cutQ (l.take j) key) := by rw [if_pos eq, List.append_nil] at hsn; exact hsn
    clear eq hsn
    go_wp2
    exact ⟨⟨j + 1, m, _, cc, by omega, by go_num, rfl, by omega, by show _ = _; rw [HSN2.out]; exact hM.out, by show Gone _ _ _ _; rw [HSN2.out]; exact hG.out, hf⟩, by simp [intOf]; omega⟩
   ·have b9 := str_ne_f eq
    have HSN2 : Hid (cutQ (l.take (j + 1)) key = cutQ (l.take j) key ++ [k]) := by rw [if_neg eq] at hsn; exact hsn
    clear eq hsn
    go_wp2_with (at_builtin; refine app_list rfl _ _ rfl (.slice b m cc) (.slice (some ⟨wr.heap.size, 0, none⟩) 1 1) (cutQ (l.take j) key) [k] rfl rfl ?hsl ?src ?hb ?_)
    case hsl => exact (hG.out.fr0 ((Fr.refl [] _).alloc _)).1
    case src => exact SS.src (SS.one wr k)
    case hb => have := hM.out; simp; omega
    intro b' n' c' w4 hn' happ
    obtain ⟨g1, g2⟩ := happ.new (hf.alloc _) hG.out.2
    have G1 := Lib.hid g1
    have hn2 : n' = m + 1 := by rw [hn', hM.out]
    clear hn'
    subst hn2
    clear happ g1
    go_wp2
    exact ⟨⟨j + 1, m + 1, b', c', by omega, by go_num, rfl, by omega, by show _ = _; rw [HSN2.out, List.length_append, ← hM.out]; rfl, by show Gone _ _ _ _; rw [HSN2.out]; exact G1.out, g2⟩, by simp [intOf]; omega⟩
  ·have : j = n := by omega
   subst this
   have e9 : l.take j = l := by rw [← HN.out]; exact List.take_length
   have hg := hG.out
   have hM' := hM.out
   rw [e9] at hg hM'
   have hR := RV.cut (i := 2) H.out (by decide) hf hg
   have HR := Lib.hid (hR.r12 (X' := up X 2 (strR (cutQ l key))) rfl)
   have HB : Hid (decide (m < j) = decide ((cutQ l key).length < l.length)) := by show _ = _; rw [hM', HN.out]
   have kf := (H.out.c0 hf 2).2
   clear hg hR hM' e9
   go_wp2
   go_ret
   exact ⟨by rw [← HB.out]; rfl, HR.out⟩
end
end Go.Proofs.YtfeicmpbfbhiiaaGreat
