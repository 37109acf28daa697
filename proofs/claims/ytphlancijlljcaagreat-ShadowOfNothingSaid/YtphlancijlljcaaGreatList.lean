/- The walks over package list: rows in an arena. -/
import Derived.Test.YtphlancijlljcaaGreatChecked
import Derived.Test.YtphlancijlljcaaGreatListPure
import Derived.WalkKit
import Derived.WalkSpells
import Derived.WalkLawsBesides
import Derived.Deep.QuietTactic
import Derived.BigQuiet
import Derived.IntWalk
import Derived.Lib.Hide
import Derived.Deep.RegionHeld3
import Derived.Deep.DrawnRows
import Derived.Deep.Cut
import Derived.Deep.DeepCutAuto
import Derived.Deep.LoopGhost
import Derived.Deep.AppendSrc
set_option linter.unusedVariables false
set_option linter.unusedSimpArgs false
namespace Go.Proofs.YtphlancijlljcaaGreat
open Go.RowKit
attribute [local go_sem ↓] Go.wp_at_zero Go.wp_at_succ

def LRaw (w : World) (p g off c m : Nat) (f : Nat → Lk) (vf : Value) (fr : List Nat) (n : Nat) : Prop :=
  g ≠ p ∧ (∀ b, vf.ownBlock = some b → b ≠ p ∧ b ≠ g) ∧ w.heap[p]? = some (.cells #[.slice (some ⟨g, off, none⟩) m c, vf, .int .i64 n] 230 (0, 0)) ∧
    Sl w 237 4 (.slice (some ⟨g, off, none⟩) m c) m (arena f m) ∧ Sl w 3 1 vf fr.length (fr.map fun i => Value.int .i64 (i : Nat))
section
variable {w : World} {p g off c m n : Nat} {f : Nat → Lk} {vf : Value} {fr : List Nat}
theorem LRaw.head (h : LRaw w p g off c m f vf fr n) : w.cell? ⟨p, 0, none⟩ = some (.slice (some ⟨g, off, none⟩) m c) ∧ w.cell? ⟨p, 1, none⟩ = some vf ∧ w.cell? ⟨p, 2, none⟩ = some (.int .i64 n) := by
  have k := cell_of_block h.2.2.1
  exact ⟨by rw [k]; rfl, by rw [k]; rfl, by rw [k]; rfl⟩
theorem LRaw.cell (h : LRaw w p g off c m f vf fr n) (i : Nat) (hi : i < m) : w.cell? ⟨g, off + i * 4, none⟩ = some (.string (f i).v) ∧ w.cell? ⟨g, off + i * 4 + 1, none⟩ = some (.int .i64 (f i).p) ∧
    w.cell? ⟨g, off + i * 4 + 2, none⟩ = some (.int .i64 (f i).n) ∧ w.cell? ⟨g, off + i * 4 + 3, none⟩ = some (.bool (f i).t) := by
  refine ⟨?_, ?_, ?_, ?_⟩
  · exact h.2.2.2.1.cell (j := i * 4 + 0) (by rw [arena_get f m i 0 hi (by omega)]; rfl)
  · rw [Nat.add_assoc]; exact h.2.2.2.1.cell (by rw [arena_get f m i 1 hi (by omega)]; rfl)
  · rw [Nat.add_assoc]; exact h.2.2.2.1.cell (by rw [arena_get f m i 2 hi (by omega)]; rfl)
  · rw [Nat.add_assoc]; exact h.2.2.2.1.cell (by rw [arena_get f m i 3 hi (by omega)]; rfl)
theorem LRaw.frz (h : LRaw w p g off c m f vf fr n) (i : Nat) : w.frozen? ⟨g, i, none⟩ = false := by
  rcases h.2.2.2.1.2 with ⟨h1, _⟩ | ⟨g', off', cap, cur, h1, hgg, _⟩
  · simp at h1
  · simp at h1
    obtain ⟨⟨rfl, rfl⟩, rfl⟩ := h1
    exact free_of_block hgg i
theorem LRaw.frp (h : LRaw w p g off c m f vf fr n) (i : Nat) : w.frozen? ⟨p, i, none⟩ = false := free_of_block h.2.2.1 i

theorem has_b (h : LRaw w p g off c m f vf fr n) (i : Nat) (hi : i ≤ 1000000) (hm : m ≤ 1000000) : Calls Tryz.prog 199 #[.pointer (some ⟨p, 0, none⟩), .int .i64 i] w fun e w' => e = .returned (.bool (decide (0 < i ∧ i < m ∧ (f i).t = true))) ∧ w = w' := by
  obtain ⟨h0, h1, h2⟩ := h.head
  by_cases c1 : 0 < i
  · by_cases c2 : i < m
    · obtain ⟨k0, k1, k2, k3⟩ := h.cell i c2
      clear h
      obtain ⟨t, ht⟩ : ∃ t, (f i).t = t := ⟨_, rfl⟩
      rw [ht] at k3 ⊢
      go_enter Tryz.func199, Tryz.ntmps199
      go_wp2
      go_ret
      cases t <;> simp [c1, c2]
    · clear h
      go_enter Tryz.func199, Tryz.ntmps199
      go_wp2
      go_ret
      simp [c1, c2]
  · have : i = 0 := by omega
    subst this
    clear h
    go_enter Tryz.func199, Tryz.ntmps199
    go_wp2
    go_ret
    simp

theorem LRaw.store (h : LRaw w p g off c m f vf fr n) (i j : Nat) (hi : i < m) (hj : j < 4) (u : Value) (x : Lk) (hx : x.enc = (f i).enc.set j u) : LRaw (w.setCell ⟨g, off + i * 4 + j, none⟩ u) p g off c m (up f i x) vf fr n := by
  obtain ⟨h1, h2, h3, h4, h5⟩ := h
  refine ⟨h1, h2, ?_, ?_, ?_⟩
  · exact block_set_other h3 h1 _
  · have := h4.set (i * 4 + j) u
    rw [arena_set f m i j hi hj u x hx, ← Nat.add_assoc] at this
    exact this
  · exact h5.fr ((Fr.refl [g] w).setCell (p := ⟨g, off + i * 4 + j, none⟩) (by simp) u) (fun b hb hg => by simp at hb hg; exact (h2 b hb).2 hg)
theorem LRaw.setP (h : LRaw w p g off c m f vf fr n) (i q : Nat) (hi : i < m) : LRaw (w.setCell ⟨g, off + i * 4 + 1, none⟩ (.int .i64 (q : Nat))) p g off c m (up f i { f i with p := q }) vf fr n := h.store i 1 hi (by omega) _ _ rfl
theorem LRaw.setN (h : LRaw w p g off c m f vf fr n) (i q : Nat) (hi : i < m) : LRaw (w.setCell ⟨g, off + i * 4 + 2, none⟩ (.int .i64 (q : Nat))) p g off c m (up f i { f i with n := q }) vf fr n := h.store i 2 hi (by omega) _ _ rfl
theorem LRaw.keep (h : LRaw w p g off c m f vf fr n) {G : List Nat} {w' : World} (k : Fr G w w') (hp : p ∉ G) (hg : g ∉ G) (hv : Dis vf.ownBlock.toList G) : LRaw w' p g off c m f vf fr n :=
  ⟨h.1, h.2.1, k.get h.2.2.1 hp, h.2.2.2.1.fr k (fun b hb => by simp [Value.ownBlock] at hb; subst hb; exact hg), h.2.2.2.2.fr k hv⟩

theorem LRaw.congr (h : LRaw w p g off c m f vf fr n) {f' : Nat → Lk} (e : ∀ k, k < m → f k = f' k) : LRaw w p g off c m f' vf fr n := by
  have e2 : arena f m = arena f' m := range_congr fun i hi => by rw [e i hi]
  obtain ⟨h1, h2, h3, h4, h5⟩ := h
  exact ⟨h1, h2, h3, by rw [← e2]; exact h4, h5⟩
def laysF (f : Nat → Lk) (h q r : Nat) : Nat → Lk := fun k => { v := (f k).v, p := if k = r then h else if k = h then q else (f k).p, n := if k = q then h else if k = h then r else (f k).n, t := (f k).t }
theorem lays (H : LRaw w p g off c m f vf fr n) (h q r : Nat) (hh : h < m) (hq : q < m) (hr : r < m) (hm : m ≤ 1000000) (hq1 : h ≠ q) (hr1 : h ≠ r) :
    Calls Tryz.prog 198 #[.pointer (some ⟨p, 0, none⟩), .int .i64 h, .int .i64 q, .int .i64 r] w fun e w' => e = .returned (.tuple #[]) ∧ LRaw w' p g off c m (laysF f h q r) vf fr n ∧ Fr [g] w w' := by
  obtain ⟨h0, h1, h2⟩ := H.head
  have z := H.frz
  have hgp := H.1
  obtain ⟨_, a1, a2, _⟩ := H.cell h hh
  obtain ⟨_, _, b2, _⟩ := H.cell q hq
  obtain ⟨_, b1, _, _⟩ := H.cell r hr
  have HH := Lib.hid H
  clear H h1 h2
  go_enter Tryz.func198, Tryz.ntmps198
  go_wp2
  go_region
  all_goals
    go_wp2
    go_region
    all_goals
      go_wp2
      go_end0
      have c := (((HH.out.setP h q hh).setN h r hh).setN q h hq).setP r h hr
      have c2 := c.keep (((Fr.refl [] _).drew).drew) (by simp) (by simp) (fun b _ => by simp)
      refine ⟨rfl, ?_, ((((((Fr.refl [g] w).setCell (by simp) _).setCell (by simp) _).setCell (by simp) _).setCell (by simp) _).drew).drew⟩
      refine c2.congr fun k _ => ?_
      simp only [up, laysF]
      by_cases e1 : k = h <;> by_cases e2 : k = q <;> by_cases e3 : k = r <;> by_cases e4 : q = r <;> simp_all

def liftsF (f : Nat → Lk) (h : Nat) : Nat → Lk := fun k => { v := (f k).v, p := if k = (f h).n then (f h).p else (f k).p, n := if k = (f h).p then (f h).n else (f k).n, t := (f k).t }
theorem lifts (H : LRaw w p g off c m f vf fr n) (h : Nat) (hh : h < m) (hq : (f h).p < m) (hr : (f h).n < m) (hm : m ≤ 1000000) :
    Calls Tryz.prog 194 #[.pointer (some ⟨p, 0, none⟩), .int .i64 h] w fun e w' => e = .returned (.tuple #[]) ∧ LRaw w' p g off c m (liftsF f h) vf fr n ∧ Fr [g] w w' := by
  obtain ⟨h0, h1, h2⟩ := H.head
  have z := H.frz
  have hgp := H.1
  obtain ⟨_, a1, a2, _⟩ := H.cell h hh
  obtain ⟨_, _, b2, _⟩ := H.cell _ hq
  obtain ⟨_, b1, _, _⟩ := H.cell _ hr
  have HH := Lib.hid H
  obtain ⟨q, hq'⟩ : ∃ q, (f h).p = q := ⟨_, rfl⟩
  obtain ⟨r, hr'⟩ : ∃ r, (f h).n = r := ⟨_, rfl⟩
  rw [hq'] at a1 b2 hq
  rw [hr'] at a2 b1 hr
  have HQ := Lib.hid hq'
  have HR := Lib.hid hr'
  clear H h1 h2 hq' hr'
  go_enter Tryz.func194, Tryz.ntmps194
  go_wp2
  go_quiet (fail)
  go_wp2
  go_region
  all_goals
    go_wp2
    go_end0
    have c := (HH.out.keep ((Fr.refl [] _).drewN nq) (by simp) (by simp) (fun b _ => by simp)).setN q r hq |>.setP r q hr
    have c2 := c.keep ((Fr.refl [] _).drew) (by simp) (by simp) (fun b _ => by simp)
    refine ⟨rfl, c2.congr fun k _ => ?_, (((((Fr.refl [g] w).drewN nq).setCell (by simp) _).setCell (by simp) _).drew)⟩
    simp only [up, liftsF, HQ.out, HR.out]
    by_cases e2 : k = q <;> by_cases e3 : k = r <;> by_cases e4 : q = r <;> simp_all
end
end Go.Proofs.YtphlancijlljcaaGreat
