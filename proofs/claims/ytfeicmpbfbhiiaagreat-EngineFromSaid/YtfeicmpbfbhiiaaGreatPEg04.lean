/- Texts of a proof about the given program, those parts that this claim reaches. -/
import Derived.Test.YtfeicmpbfbhiiaaGreatPEg03
import Derived.Test.YtfeicmpbfbhiiaaGreatPEg02
set_option linter.unusedVariables false
set_option linter.unusedSimpArgs false
namespace Go.Proofs.YtfeicmpbfbhiiaaGreat
open Go.RowKit
attribute [local go_sem ↓] Go.wp_at_zero Go.wp_at_succ
theorem IRawI.store {w : World} {p g off c m n used : Nat} {T : Nat → Pl (Nat)} (h : IRawI w p g off c m T n used) (i j : Nat) (hi : i < m) (hj : j < 3) (u : Value) (x : Pl (Nat)) (hx : encI x = (encI (T i)).set j u) :
  IRawI (w.setCell ⟨g, off + i * 3 + j, none⟩ u) p g off c m (up T i x) n used := by
 obtain ⟨h1, h2, h3⟩ := h
 refine ⟨h1, block_set_other h2 h1 _, ?_⟩
 have := h3.set (i * 3 + j) u
 rw [tblI_set T m i j hi hj u x hx, ← Nat.add_assoc] at this
 exact this
theorem IRawI.setN {w : World} {p g off c m n used : Nat} {T : Nat → Pl (Nat)} (h : IRawI w p g off c m T n used) (n' : Nat) : IRawI (w.setCell ⟨p, 2, none⟩ (.int .i64 n')) p g off c m T n' used := by
 obtain ⟨h1, h2, h3⟩ := h
 refine ⟨h1, ?_, h3.fr ((Fr.refl [p] w).setCell (by simp) _) (fun b hb hp => by simp [Value.ownBlock] at hb hp; exact h1 (hb.symm.trans hp))⟩
 rw [block_set_same h2]; simp
theorem IRawI.setU {w : World} {p g off c m n used : Nat} {T : Nat → Pl (Nat)} (h : IRawI w p g off c m T n used) (n' : Nat) : IRawI (w.setCell ⟨p, 3, none⟩ (.int .i64 n')) p g off c m T n n' := by
 obtain ⟨h1, h2, h3⟩ := h
 refine ⟨h1, ?_, h3.fr ((Fr.refl [p] w).setCell (by simp) _) (fun b hb hp => by simp [Value.ownBlock] at hb hp; exact h1 (hb.symm.trans hp))⟩
 rw [block_set_same h2]; simp
theorem IRawI.congr {w : World} {p g off c m n used : Nat} {T T' : Nat → Pl (Nat)} (h : IRawI w p g off c m T n used) (e : ∀ k, k < m → T k = T' k) : IRawI w p g off c m T' n used := by
 have e2 : tblI T m = tblI T' m := range_congr fun i hi => by rw [e i hi]
 obtain ⟨h1, h2, h3⟩ := h
 exact ⟨h1, h2, by rw [← e2]; exact h3⟩
theorem IRawA.store {w : World} {p g off c m n used : Nat} {T : Nat → Pl (Nat × Nat)} (h : IRawA w p g off c m T n used) (i j : Nat) (hi : i < m) (hj : j < 4) (u : Value) (x : Pl (Nat × Nat)) (hx : encA x = (encA (T i)).set j u) :
  IRawA (w.setCell ⟨g, off + i * 4 + j, none⟩ u) p g off c m (up T i x) n used := by
 obtain ⟨h1, h2, h3⟩ := h
 refine ⟨h1, block_set_other h2 h1 _, ?_⟩
 have := h3.set (i * 4 + j) u
 rw [tblA_set T m i j hi hj u x hx, ← Nat.add_assoc] at this
 exact this
theorem IRawA.setN {w : World} {p g off c m n used : Nat} {T : Nat → Pl (Nat × Nat)} (h : IRawA w p g off c m T n used) (n' : Nat) : IRawA (w.setCell ⟨p, 2, none⟩ (.int .i64 n')) p g off c m T n' used := by
 obtain ⟨h1, h2, h3⟩ := h
 refine ⟨h1, ?_, h3.fr ((Fr.refl [p] w).setCell (by simp) _) (fun b hb hp => by simp [Value.ownBlock] at hb hp; exact h1 (hb.symm.trans hp))⟩
 rw [block_set_same h2]; simp
theorem IRawA.setU {w : World} {p g off c m n used : Nat} {T : Nat → Pl (Nat × Nat)} (h : IRawA w p g off c m T n used) (n' : Nat) : IRawA (w.setCell ⟨p, 3, none⟩ (.int .i64 n')) p g off c m T n n' := by
 obtain ⟨h1, h2, h3⟩ := h
 refine ⟨h1, ?_, h3.fr ((Fr.refl [p] w).setCell (by simp) _) (fun b hb hp => by simp [Value.ownBlock] at hb hp; exact h1 (hb.symm.trans hp))⟩
 rw [block_set_same h2]; simp
theorem IRawA.congr {w : World} {p g off c m n used : Nat} {T T' : Nat → Pl (Nat × Nat)} (h : IRawA w p g off c m T n used) (e : ∀ k, k < m → T k = T' k) : IRawA w p g off c m T' n used := by
 have e2 : tblA T m = tblA T' m := range_congr fun i hi => by rw [e i hi]
 obtain ⟨h1, h2, h3⟩ := h
 exact ⟨h1, h2, by rw [← e2]; exact h3⟩
theorem IRawQ.store {w : World} {p g off c m n used : Nat} {T : Nat → Pl (Nat × Nat)} (h : IRawQ w p g off c m T n used) (i j : Nat) (hi : i < m) (hj : j < 4) (u : Value) (x : Pl (Nat × Nat)) (hx : encQ x = (encQ (T i)).set j u) :
  IRawQ (w.setCell ⟨g, off + i * 4 + j, none⟩ u) p g off c m (up T i x) n used := by
 obtain ⟨h1, h2, h3⟩ := h
 refine ⟨h1, block_set_other h2 h1 _, ?_⟩
 have := h3.set (i * 4 + j) u
 rw [tblQ_set T m i j hi hj u x hx, ← Nat.add_assoc] at this
 exact this
theorem IRawQ.setN {w : World} {p g off c m n used : Nat} {T : Nat → Pl (Nat × Nat)} (h : IRawQ w p g off c m T n used) (n' : Nat) : IRawQ (w.setCell ⟨p, 2, none⟩ (.int .i64 n')) p g off c m T n' used := by
 obtain ⟨h1, h2, h3⟩ := h
 refine ⟨h1, ?_, h3.fr ((Fr.refl [p] w).setCell (by simp) _) (fun b hb hp => by simp [Value.ownBlock] at hb hp; exact h1 (hb.symm.trans hp))⟩
 rw [block_set_same h2]; simp
theorem IRawQ.setU {w : World} {p g off c m n used : Nat} {T : Nat → Pl (Nat × Nat)} (h : IRawQ w p g off c m T n used) (n' : Nat) : IRawQ (w.setCell ⟨p, 3, none⟩ (.int .i64 n')) p g off c m T n n' := by
 obtain ⟨h1, h2, h3⟩ := h
 refine ⟨h1, ?_, h3.fr ((Fr.refl [p] w).setCell (by simp) _) (fun b hb hp => by simp [Value.ownBlock] at hb hp; exact h1 (hb.symm.trans hp))⟩
 rw [block_set_same h2]; simp
theorem IRawQ.congr {w : World} {p g off c m n used : Nat} {T T' : Nat → Pl (Nat × Nat)} (h : IRawQ w p g off c m T n used) (e : ∀ k, k < m → T k = T' k) : IRawQ w p g off c m T' n used := by
 have e2 : tblQ T m = tblQ T' m := range_congr fun i hi => by rw [e i hi]
 obtain ⟨h1, h2, h3⟩ := h
 exact ⟨h1, h2, by rw [← e2]; exact h3⟩
theorem IRawU.store {w : World} {p g off c m n used : Nat} {T : Nat → Pl (Nat × Nat)} (h : IRawU w p g off c m T n used) (i j : Nat) (hi : i < m) (hj : j < 4) (u : Value) (x : Pl (Nat × Nat)) (hx : encU x = (encU (T i)).set j u) :
  IRawU (w.setCell ⟨g, off + i * 4 + j, none⟩ u) p g off c m (up T i x) n used := by
 obtain ⟨h1, h2, h3⟩ := h
 refine ⟨h1, block_set_other h2 h1 _, ?_⟩
 have := h3.set (i * 4 + j) u
 rw [tblU_set T m i j hi hj u x hx, ← Nat.add_assoc] at this
 exact this
theorem IRawU.setN {w : World} {p g off c m n used : Nat} {T : Nat → Pl (Nat × Nat)} (h : IRawU w p g off c m T n used) (n' : Nat) : IRawU (w.setCell ⟨p, 2, none⟩ (.int .i64 n')) p g off c m T n' used := by
 obtain ⟨h1, h2, h3⟩ := h
 refine ⟨h1, ?_, h3.fr ((Fr.refl [p] w).setCell (by simp) _) (fun b hb hp => by simp [Value.ownBlock] at hb hp; exact h1 (hb.symm.trans hp))⟩
 rw [block_set_same h2]; simp
theorem IRawU.setU {w : World} {p g off c m n used : Nat} {T : Nat → Pl (Nat × Nat)} (h : IRawU w p g off c m T n used) (n' : Nat) : IRawU (w.setCell ⟨p, 3, none⟩ (.int .i64 n')) p g off c m T n n' := by
 obtain ⟨h1, h2, h3⟩ := h
 refine ⟨h1, ?_, h3.fr ((Fr.refl [p] w).setCell (by simp) _) (fun b hb hp => by simp [Value.ownBlock] at hb hp; exact h1 (hb.symm.trans hp))⟩
 rw [block_set_same h2]; simp
theorem IRawU.congr {w : World} {p g off c m n used : Nat} {T T' : Nat → Pl (Nat × Nat)} (h : IRawU w p g off c m T n used) (e : ∀ k, k < m → T k = T' k) : IRawU w p g off c m T' n used := by
 have e2 : tblU T m = tblU T' m := range_congr fun i hi => by rw [e i hi]
 obtain ⟨h1, h2, h3⟩ := h
 exact ⟨h1, h2, by rw [← e2]; exact h3⟩
theorem IRawS.store {w : World} {p g off c m n used : Nat} {T : Nat → Pl (Nat × Nat)} (h : IRawS w p g off c m T n used) (i j : Nat) (hi : i < m) (hj : j < 4) (u : Value) (x : Pl (Nat × Nat)) (hx : encS x = (encS (T i)).set j u) :
  IRawS (w.setCell ⟨g, off + i * 4 + j, none⟩ u) p g off c m (up T i x) n used := by
 obtain ⟨h1, h2, h3⟩ := h
 refine ⟨h1, block_set_other h2 h1 _, ?_⟩
 have := h3.set (i * 4 + j) u
 rw [tblS_set T m i j hi hj u x hx, ← Nat.add_assoc] at this
 exact this
theorem IRawS.setN {w : World} {p g off c m n used : Nat} {T : Nat → Pl (Nat × Nat)} (h : IRawS w p g off c m T n used) (n' : Nat) : IRawS (w.setCell ⟨p, 2, none⟩ (.int .i64 n')) p g off c m T n' used := by
 obtain ⟨h1, h2, h3⟩ := h
 refine ⟨h1, ?_, h3.fr ((Fr.refl [p] w).setCell (by simp) _) (fun b hb hp => by simp [Value.ownBlock] at hb hp; exact h1 (hb.symm.trans hp))⟩
 rw [block_set_same h2]; simp
theorem IRawS.setU {w : World} {p g off c m n used : Nat} {T : Nat → Pl (Nat × Nat)} (h : IRawS w p g off c m T n used) (n' : Nat) : IRawS (w.setCell ⟨p, 3, none⟩ (.int .i64 n')) p g off c m T n n' := by
 obtain ⟨h1, h2, h3⟩ := h
 refine ⟨h1, ?_, h3.fr ((Fr.refl [p] w).setCell (by simp) _) (fun b hb hp => by simp [Value.ownBlock] at hb hp; exact h1 (hb.symm.trans hp))⟩
 rw [block_set_same h2]; simp
theorem IRawS.congr {w : World} {p g off c m n used : Nat} {T T' : Nat → Pl (Nat × Nat)} (h : IRawS w p g off c m T n used) (e : ∀ k, k < m → T k = T' k) : IRawS w p g off c m T' n used := by
 have e2 : tblS T m = tblS T' m := range_congr fun i hi => by rw [e i hi]
 obtain ⟨h1, h2, h3⟩ := h
 exact ⟨h1, h2, by rw [← e2]; exact h3⟩
theorem IRawL.store {w : World} {p g off c m n used : Nat} {T : Nat → Pl (Nat × Nat × Nat)} (h : IRawL w p g off c m T n used) (i j : Nat) (hi : i < m) (hj : j < 5) (u : Value) (x : Pl (Nat × Nat × Nat)) (hx : encL x = (encL (T i)).set j u) :
  IRawL (w.setCell ⟨g, off + i * 5 + j, none⟩ u) p g off c m (up T i x) n used := by
 obtain ⟨h1, h2, h3⟩ := h
 refine ⟨h1, block_set_other h2 h1 _, ?_⟩
 have := h3.set (i * 5 + j) u
 rw [tblL_set T m i j hi hj u x hx, ← Nat.add_assoc] at this
 exact this
theorem IRawL.setN {w : World} {p g off c m n used : Nat} {T : Nat → Pl (Nat × Nat × Nat)} (h : IRawL w p g off c m T n used) (n' : Nat) : IRawL (w.setCell ⟨p, 2, none⟩ (.int .i64 n')) p g off c m T n' used := by
 obtain ⟨h1, h2, h3⟩ := h
 refine ⟨h1, ?_, h3.fr ((Fr.refl [p] w).setCell (by simp) _) (fun b hb hp => by simp [Value.ownBlock] at hb hp; exact h1 (hb.symm.trans hp))⟩
 rw [block_set_same h2]; simp
theorem IRawL.setU {w : World} {p g off c m n used : Nat} {T : Nat → Pl (Nat × Nat × Nat)} (h : IRawL w p g off c m T n used) (n' : Nat) : IRawL (w.setCell ⟨p, 3, none⟩ (.int .i64 n')) p g off c m T n n' := by
 obtain ⟨h1, h2, h3⟩ := h
 refine ⟨h1, ?_, h3.fr ((Fr.refl [p] w).setCell (by simp) _) (fun b hb hp => by simp [Value.ownBlock] at hb hp; exact h1 (hb.symm.trans hp))⟩
 rw [block_set_same h2]; simp
theorem IRawL.congr {w : World} {p g off c m n used : Nat} {T T' : Nat → Pl (Nat × Nat × Nat)} (h : IRawL w p g off c m T n used) (e : ∀ k, k < m → T k = T' k) : IRawL w p g off c m T' n used := by
 have e2 : tblL T m = tblL T' m := range_congr fun i hi => by rw [e i hi]
 obtain ⟨h1, h2, h3⟩ := h
 exact ⟨h1, h2, by rw [← e2]; exact h3⟩
theorem IRawI.setAll {w : World} {p g off c m n used : Nat} {T : Nat → Pl Nat} (h : IRawI w p g off c m T n used) (i : Nat) (hi : i < m) (x : Pl Nat) :
  IRawI (((w.setCell ⟨g, off + i * 3, none⟩ (.int .i64 x.is)).setCell ⟨g, off + i * 3 + 1, none⟩ (.string x.key)).setCell ⟨g, off + i * 3 + 2, none⟩ (.int .i64 x.v)) p g off c m (up T i x) n used := by
 have h0 := h.store i 0 hi (by omega) (.int .i64 x.is) { T i with is := x.is } rfl
 have h1 := h0.store i 1 hi (by omega) (.string x.key) { T i with is := x.is, key := x.key } (by rw [up_same]; rfl)
 have h2 := h1.store i 2 hi (by omega) (.int .i64 x.v) x (by rw [up_same]; rfl)
 refine h2.congr fun k _ => ?_
 first | rfl | (simp only [up]; split <;> rfl)
theorem IRawI.setV {w : World} {p g off c m n used : Nat} {T : Nat → Pl Nat} (h : IRawI w p g off c m T n used) (i : Nat) (hi : i < m) (x : Nat) :
  IRawI ((w).setCell ⟨g, off + i * 3 + 2, none⟩ (.int .i64 (x : Nat))) p g off c m (up T i { T i with v := x }) n used := by
 have h2 := h.store i 2 hi (by omega) (.int .i64 (x : Nat)) { T i with v := x } (by rfl)
 refine h2.congr fun k _ => ?_
 first | rfl | (simp only [up]; split <;> rfl)
theorem IRawI.vcell {w : World} {p g off c m n used : Nat} {T : Nat → Pl Nat} (h : IRawI w p g off c m T n used) (i : Nat) (hi : i < m) : w.cell? ⟨g, off + i * 3 + 2, none⟩ = some (.int .i64 (T i).v) ∧ True :=
 ⟨(h.cell i hi).2.2 0 _ rfl, trivial⟩
theorem IRawA.setAll {w : World} {p g off c m n used : Nat} {T : Nat → Pl (Nat × Nat)} (h : IRawA w p g off c m T n used) (i : Nat) (hi : i < m) (x : Pl (Nat × Nat)) :
  IRawA ((((w.setCell ⟨g, off + i * 4, none⟩ (.int .i64 x.is)).setCell ⟨g, off + i * 4 + 1, none⟩ (.string x.key)).setCell ⟨g, off + i * 4 + 2, none⟩ (.int .i64 x.v.1)).setCell ⟨g, off + i * 4 + 3, none⟩ (.int .i64 x.v.2)) p g off c m (up T i x) n used := by
 have h0 := h.store i 0 hi (by omega) (.int .i64 x.is) { T i with is := x.is } rfl
 have h1 := h0.store i 1 hi (by omega) (.string x.key) { T i with is := x.is, key := x.key } (by rw [up_same]; rfl)
 have h2 := h1.store i 2 hi (by omega) (.int .i64 x.v.1) { is := x.is, key := x.key, v := (x.v.1, (T i).v.2) } (by rw [up_same]; rfl)
 have h3 := h2.store i 3 hi (by omega) (.int .i64 x.v.2) x (by rw [up_same]; rfl)
 refine h3.congr fun k _ => ?_
 first | rfl | (simp only [up]; split <;> rfl)
theorem IRawA.setV {w : World} {p g off c m n used : Nat} {T : Nat → Pl (Nat × Nat)} (h : IRawA w p g off c m T n used) (i : Nat) (hi : i < m) (x : (Nat × Nat)) :
  IRawA (((w).setCell ⟨g, off + i * 4 + 2, none⟩ (.int .i64 (x.1 : Nat))).setCell ⟨g, off + i * 4 + 3, none⟩ (.int .i64 (x.2 : Nat))) p g off c m (up T i { T i with v := x }) n used := by
 have h2 := h.store i 2 hi (by omega) (.int .i64 (x.1 : Nat)) { T i with v := (x.1, (T i).v.2) } (by rfl)
 have h3 := h2.store i 3 hi (by omega) (.int .i64 (x.2 : Nat)) { T i with v := x } (by rw [up_same]; rfl)
 refine h3.congr fun k _ => ?_
 first | rfl | (simp only [up]; split <;> rfl)
theorem IRawA.vcell {w : World} {p g off c m n used : Nat} {T : Nat → Pl (Nat × Nat)} (h : IRawA w p g off c m T n used) (i : Nat) (hi : i < m) : w.cell? ⟨g, off + i * 4 + 2, none⟩ = some (.int .i64 (T i).v.1) ∧ w.cell? ⟨g, off + i * 4 + 3, none⟩ = some (.int .i64 (T i).v.2) ∧ True :=
 ⟨(h.cell i hi).2.2 0 _ rfl, (h.cell i hi).2.2 1 _ rfl, trivial⟩
theorem IRawQ.setAll {w : World} {p g off c m n used : Nat} {T : Nat → Pl (Nat × Nat)} (h : IRawQ w p g off c m T n used) (i : Nat) (hi : i < m) (x : Pl (Nat × Nat)) :
  IRawQ ((((w.setCell ⟨g, off + i * 4, none⟩ (.int .i64 x.is)).setCell ⟨g, off + i * 4 + 1, none⟩ (.string x.key)).setCell ⟨g, off + i * 4 + 2, none⟩ (.int .i64 x.v.1)).setCell ⟨g, off + i * 4 + 3, none⟩ (.int .i64 x.v.2)) p g off c m (up T i x) n used := by
 have h0 := h.store i 0 hi (by omega) (.int .i64 x.is) { T i with is := x.is } rfl
 have h1 := h0.store i 1 hi (by omega) (.string x.key) { T i with is := x.is, key := x.key } (by rw [up_same]; rfl)
 have h2 := h1.store i 2 hi (by omega) (.int .i64 x.v.1) { is := x.is, key := x.key, v := (x.v.1, (T i).v.2) } (by rw [up_same]; rfl)
 have h3 := h2.store i 3 hi (by omega) (.int .i64 x.v.2) x (by rw [up_same]; rfl)
 refine h3.congr fun k _ => ?_
 first | rfl | (simp only [up]; split <;> rfl)
theorem IRawQ.setV {w : World} {p g off c m n used : Nat} {T : Nat → Pl (Nat × Nat)} (h : IRawQ w p g off c m T n used) (i : Nat) (hi : i < m) (x : (Nat × Nat)) :
  IRawQ (((w).setCell ⟨g, off + i * 4 + 2, none⟩ (.int .i64 (x.1 : Nat))).setCell ⟨g, off + i * 4 + 3, none⟩ (.int .i64 (x.2 : Nat))) p g off c m (up T i { T i with v := x }) n used := by
 have h2 := h.store i 2 hi (by omega) (.int .i64 (x.1 : Nat)) { T i with v := (x.1, (T i).v.2) } (by rfl)
 have h3 := h2.store i 3 hi (by omega) (.int .i64 (x.2 : Nat)) { T i with v := x } (by rw [up_same]; rfl)
 refine h3.congr fun k _ => ?_
 first | rfl | (simp only [up]; split <;> rfl)
theorem IRawQ.vcell {w : World} {p g off c m n used : Nat} {T : Nat → Pl (Nat × Nat)} (h : IRawQ w p g off c m T n used) (i : Nat) (hi : i < m) : w.cell? ⟨g, off + i * 4 + 2, none⟩ = some (.int .i64 (T i).v.1) ∧ w.cell? ⟨g, off + i * 4 + 3, none⟩ = some (.int .i64 (T i).v.2) ∧ True :=
 ⟨(h.cell i hi).2.2 0 _ rfl, (h.cell i hi).2.2 1 _ rfl, trivial⟩
theorem IRawU.setAll {w : World} {p g off c m n used : Nat} {T : Nat → Pl (Nat × Nat)} (h : IRawU w p g off c m T n used) (i : Nat) (hi : i < m) (x : Pl (Nat × Nat)) :
  IRawU ((((w.setCell ⟨g, off + i * 4, none⟩ (.int .i64 x.is)).setCell ⟨g, off + i * 4 + 1, none⟩ (.string x.key)).setCell ⟨g, off + i * 4 + 2, none⟩ (.int .i64 x.v.1)).setCell ⟨g, off + i * 4 + 3, none⟩ (.int .i64 x.v.2)) p g off c m (up T i x) n used := by
 have h0 := h.store i 0 hi (by omega) (.int .i64 x.is) { T i with is := x.is } rfl
 have h1 := h0.store i 1 hi (by omega) (.string x.key) { T i with is := x.is, key := x.key } (by rw [up_same]; rfl)
 have h2 := h1.store i 2 hi (by omega) (.int .i64 x.v.1) { is := x.is, key := x.key, v := (x.v.1, (T i).v.2) } (by rw [up_same]; rfl)
 have h3 := h2.store i 3 hi (by omega) (.int .i64 x.v.2) x (by rw [up_same]; rfl)
 refine h3.congr fun k _ => ?_
 first | rfl | (simp only [up]; split <;> rfl)
theorem IRawU.setV {w : World} {p g off c m n used : Nat} {T : Nat → Pl (Nat × Nat)} (h : IRawU w p g off c m T n used) (i : Nat) (hi : i < m) (x : (Nat × Nat)) :
  IRawU (((w).setCell ⟨g, off + i * 4 + 2, none⟩ (.int .i64 (x.1 : Nat))).setCell ⟨g, off + i * 4 + 3, none⟩ (.int .i64 (x.2 : Nat))) p g off c m (up T i { T i with v := x }) n used := by
 have h2 := h.store i 2 hi (by omega) (.int .i64 (x.1 : Nat)) { T i with v := (x.1, (T i).v.2) } (by rfl)
 have h3 := h2.store i 3 hi (by omega) (.int .i64 (x.2 : Nat)) { T i with v := x } (by rw [up_same]; rfl)
 refine h3.congr fun k _ => ?_
 first | rfl | (simp only [up]; split <;> rfl)
theorem IRawU.vcell {w : World} {p g off c m n used : Nat} {T : Nat → Pl (Nat × Nat)} (h : IRawU w p g off c m T n used) (i : Nat) (hi : i < m) : w.cell? ⟨g, off + i * 4 + 2, none⟩ = some (.int .i64 (T i).v.1) ∧ w.cell? ⟨g, off + i * 4 + 3, none⟩ = some (.int .i64 (T i).v.2) ∧ True :=
 ⟨(h.cell i hi).2.2 0 _ rfl, (h.cell i hi).2.2 1 _ rfl, trivial⟩
theorem IRawS.setAll {w : World} {p g off c m n used : Nat} {T : Nat → Pl (Nat × Nat)} (h : IRawS w p g off c m T n used) (i : Nat) (hi : i < m) (x : Pl (Nat × Nat)) :
  IRawS ((((w.setCell ⟨g, off + i * 4, none⟩ (.int .i64 x.is)).setCell ⟨g, off + i * 4 + 1, none⟩ (.string x.key)).setCell ⟨g, off + i * 4 + 2, none⟩ (.int .i64 x.v.1)).setCell ⟨g, off + i * 4 + 3, none⟩ (.int .i64 x.v.2)) p g off c m (up T i x) n used := by
 have h0 := h.store i 0 hi (by omega) (.int .i64 x.is) { T i with is := x.is } rfl
 have h1 := h0.store i 1 hi (by omega) (.string x.key) { T i with is := x.is, key := x.key } (by rw [up_same]; rfl)
 have h2 := h1.store i 2 hi (by omega) (.int .i64 x.v.1) { is := x.is, key := x.key, v := (x.v.1, (T i).v.2) } (by rw [up_same]; rfl)
 have h3 := h2.store i 3 hi (by omega) (.int .i64 x.v.2) x (by rw [up_same]; rfl)
 refine h3.congr fun k _ => ?_
 first | rfl | (simp only [up]; split <;> rfl)
theorem IRawS.setV {w : World} {p g off c m n used : Nat} {T : Nat → Pl (Nat × Nat)} (h : IRawS w p g off c m T n used) (i : Nat) (hi : i < m) (x : (Nat × Nat)) :
  IRawS (((w).setCell ⟨g, off + i * 4 + 2, none⟩ (.int .i64 (x.1 : Nat))).setCell ⟨g, off + i * 4 + 3, none⟩ (.int .i64 (x.2 : Nat))) p g off c m (up T i { T i with v := x }) n used := by
 have h2 := h.store i 2 hi (by omega) (.int .i64 (x.1 : Nat)) { T i with v := (x.1, (T i).v.2) } (by rfl)
 have h3 := h2.store i 3 hi (by omega) (.int .i64 (x.2 : Nat)) { T i with v := x } (by rw [up_same]; rfl)
 refine h3.congr fun k _ => ?_
 first | rfl | (simp only [up]; split <;> rfl)
theorem IRawS.vcell {w : World} {p g off c m n used : Nat} {T : Nat → Pl (Nat × Nat)} (h : IRawS w p g off c m T n used) (i : Nat) (hi : i < m) : w.cell? ⟨g, off + i * 4 + 2, none⟩ = some (.int .i64 (T i).v.1) ∧ w.cell? ⟨g, off + i * 4 + 3, none⟩ = some (.int .i64 (T i).v.2) ∧ True :=
 ⟨(h.cell i hi).2.2 0 _ rfl, (h.cell i hi).2.2 1 _ rfl, trivial⟩
theorem IRawL.setAll {w : World} {p g off c m n used : Nat} {T : Nat → Pl (Nat × Nat × Nat)} (h : IRawL w p g off c m T n used) (i : Nat) (hi : i < m) (x : Pl (Nat × Nat × Nat)) :
  IRawL (((((w.setCell ⟨g, off + i * 5, none⟩ (.int .i64 x.is)).setCell ⟨g, off + i * 5 + 1, none⟩ (.string x.key)).setCell ⟨g, off + i * 5 + 2, none⟩ (.int .i64 x.v.1)).setCell ⟨g, off + i * 5 + 3, none⟩ (.int .i64 x.v.2.1)).setCell ⟨g, off + i * 5 + 4, none⟩ (.int .i64 x.v.2.2)) p g off c m (up T i x) n used := by
 have h0 := h.store i 0 hi (by omega) (.int .i64 x.is) { T i with is := x.is } rfl
 have h1 := h0.store i 1 hi (by omega) (.string x.key) { T i with is := x.is, key := x.key } (by rw [up_same]; rfl)
 have h2 := h1.store i 2 hi (by omega) (.int .i64 x.v.1) { is := x.is, key := x.key, v := (x.v.1, (T i).v.2.1, (T i).v.2.2) } (by rw [up_same]; rfl)
 have h3 := h2.store i 3 hi (by omega) (.int .i64 x.v.2.1) { is := x.is, key := x.key, v := (x.v.1, x.v.2.1, (T i).v.2.2) } (by rw [up_same]; rfl)
 have h4 := h3.store i 4 hi (by omega) (.int .i64 x.v.2.2) x (by rw [up_same]; rfl)
 refine h4.congr fun k _ => ?_
 first | rfl | (simp only [up]; split <;> rfl)
theorem IRawL.setV {w : World} {p g off c m n used : Nat} {T : Nat → Pl (Nat × Nat × Nat)} (h : IRawL w p g off c m T n used) (i : Nat) (hi : i < m) (x : (Nat × Nat × Nat)) :
  IRawL ((((w).setCell ⟨g, off + i * 5 + 2, none⟩ (.int .i64 (x.1 : Nat))).setCell ⟨g, off + i * 5 + 3, none⟩ (.int .i64 (x.2.1 : Nat))).setCell ⟨g, off + i * 5 + 4, none⟩ (.int .i64 (x.2.2 : Nat))) p g off c m (up T i { T i with v := x }) n used := by
 have h2 := h.store i 2 hi (by omega) (.int .i64 (x.1 : Nat)) { T i with v := (x.1, (T i).v.2.1, (T i).v.2.2) } (by rfl)
 have h3 := h2.store i 3 hi (by omega) (.int .i64 (x.2.1 : Nat)) { T i with v := (x.1, x.2.1, (T i).v.2.2) } (by rw [up_same]; rfl)
 have h4 := h3.store i 4 hi (by omega) (.int .i64 (x.2.2 : Nat)) { T i with v := x } (by rw [up_same]; rfl)
 refine h4.congr fun k _ => ?_
 first | rfl | (simp only [up]; split <;> rfl)
theorem IRawL.vcell {w : World} {p g off c m n used : Nat} {T : Nat → Pl (Nat × Nat × Nat)} (h : IRawL w p g off c m T n used) (i : Nat) (hi : i < m) : w.cell? ⟨g, off + i * 5 + 2, none⟩ = some (.int .i64 (T i).v.1) ∧ w.cell? ⟨g, off + i * 5 + 3, none⟩ = some (.int .i64 (T i).v.2.1) ∧ w.cell? ⟨g, off + i * 5 + 4, none⟩ = some (.int .i64 (T i).v.2.2) ∧ True :=
 ⟨(h.cell i hi).2.2 0 _ rfl, (h.cell i hi).2.2 1 _ rfl, (h.cell i hi).2.2 2 _ rfl, trivial⟩
set_option maxRecDepth 100000 in
set_option maxHeartbeats 1000000 in
theorem laysI {w : World} {p g off c m n used : Nat} {T : Nat → Pl (Nat)} (H : IRawI w p g off c m T n used) (i : Nat) (hi : i < m) (hm : m ≤ 1000000) (hn : n ≤ 1000000) (hu : used ≤ 1000000) (hle : (T i).is ≤ 2) (key : ByteArray) (x : Nat) :
  Calls Tryz.prog 238 #[.pointer (some ⟨p, 0, none⟩), .int .i64 i, .string key, .int .i64 (x : Nat)] w fun e w' => e = .returned (.tuple #[]) ∧ IRawI w' p g off c m (up T i ⟨2, key, x⟩) (n + 1) (if (T i).is = 0 then used + 1 else used) ∧ Fr [p, g] w w' := by
 obtain ⟨h0, h1, h2, h3⟩ := H.head
 obtain ⟨k0, k1, k2⟩ := H.cell i hi
 obtain ⟨q2, _⟩ := H.vcell i hi
 have z := H.frz
 have zp := fun i => free_of_block H.2.1 i
 have hgp := H.1
 have hA := (H.setAll i hi ⟨2, key, x⟩).setN (n + 1)
 have hB := ((H.setU (used + 1)).setAll i hi ⟨2, key, x⟩).setN (n + 1)
 have HA := Lib.hid hA
 have HB := Lib.hid hB
 obtain ⟨y, hy⟩ : ∃ y, (T i).is = y := ⟨_, rfl⟩
 rw [hy] at k0 hle ⊢
 clear H hA hB k2 hy
 by_cases hy0 : y = 0
 ·subst hy0
  go_enter Tryz.func238, Tryz.ntmps238
  go_wp2
  go_end0
  refine ⟨rfl, by first | exact HB.out | (rw [if_pos rfl]; exact HB.out), ?_⟩
  exact (by repeat (first | refine Fr.setCell ?_ (by simp) _ | exact Fr.refl _ _))
 ·have b0 : ((y : Int) == 0) = false := by rw [beq_eq_false_iff_ne]; omega
  have hy1 := Lib.hid hy0
  clear hy0
  go_enter Tryz.func238, Tryz.ntmps238
  go_wp2
  go_end0
  refine ⟨rfl, by first | exact HA.out | (rw [if_neg hy1.out]; exact HA.out), ?_⟩
  exact (by repeat (first | refine Fr.setCell ?_ (by simp) _ | exact Fr.refl _ _))
theorem getI_raw {w : World} {p g off c m n used : Nat} {T : Nat → Pl (Nat)} {M : ByteArray → Option (Nat)} (H : IRawI w p g off c m T n used) (ht : TInv m T (stI m) M n used) (hm : m ≤ 1000000) (key : ByteArray) (hk : key.size ≤ maxLen) :
  Calls Tryz.prog 235 #[.pointer (some ⟨p, 0, none⟩), .string key] w fun e w' => ((∃ x, M key = some x ∧ e = .returned (.tuple #[.int .i64 (x : Nat), .bool true])) ∨ M key = none ∧ e = .returned (.tuple #[.int .i64 0, .bool false])) ∧ ∃ q, w' = w.drewN q := by
 have hf := findI H ht hm key hk
 obtain ⟨h0, h1, h2, h3⟩ := H.head
 have HF := Lib.hid hf
 have HT := Lib.hid ht
 have HH := Lib.hid H
 clear H ht hf
 go_enter Tryz.func235, Tryz.ntmps235
 go_wp2_with fail
 refine HF.out.mono ?_
 rintro e w1 ⟨i, b, rfl, hfd, q, rfl⟩
 cases b with
 | true =>
  obtain ⟨hi, hft, _⟩ := hfd
  obtain ⟨h2', hkey⟩ := hft rfl
  obtain ⟨q2, _⟩ := HH.out.vcell i hi
  have hM := HT.out.ok i hi h2'
  rw [hkey] at hM
  have HM := Lib.hid hM
  clear hM hft h2' hkey
  go_wp2
  go_ret2
  exact ⟨.inl ⟨(T i).v, HM.out, rfl⟩, q, rfl⟩
 | false =>
  have hM := (hfd.2.2 rfl).1
  have HM := Lib.hid hM
  clear hM hfd
  go_wp2
  go_ret2
  exact ⟨.inr ⟨HM.out, rfl⟩, q, rfl⟩
end Go.Proofs.YtfeicmpbfbhiiaaGreat
