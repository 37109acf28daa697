/- Texts of a proof about the given program, those parts that this claim reaches. -/
import Derived.Test.YtfeicmpbfbhiiaaGreatChecked
import Derived.Test.YtfeicmpbfbhiiaaGreatPEg00
import Derived.WalkKit
import Derived.WalkSpells
import Derived.WalkLawsBesides
import Derived.Deep.QuietTactic
import Derived.BigQuiet
import Derived.IntWalk
import Derived.Lib.Hide
import Derived.Deep.RegionHeld3
import Derived.Deep.DrawnRows
import Derived.Deep.Cut
import Derived.Deep.DeepCutAuto
import Derived.Deep.LoopGhost
import Derived.Deep.AppendSrc
set_option linter.unusedVariables false
set_option linter.unusedSimpArgs false
namespace Go.Proofs.YtfeicmpbfbhiiaaGreat
open Go.RowKit
attribute [local go_sem ↓] Go.wp_at_zero Go.wp_at_succ
def LRaw (w : World) (p g off c m : Nat) (f : Nat → Lk) (vf : Value) (fr : List Nat) (n : Nat) : Prop :=
 g ≠ p ∧ (∀ b, vf.ownBlock = some b → b ≠ p ∧ b ≠ g) ∧ w.heap[p]? = some (.cells #[.slice (some ⟨g, off, none⟩) m c, vf, .int .i64 n] 243 (0, 0)) ∧
  Sl w 274 4 (.slice (some ⟨g, off, none⟩) m c) m (arena f m) ∧ Sl w 3 1 vf fr.length (fr.map fun i => Value.int .i64 (i : Nat))
section
variable {w : World} {p g off c m n : Nat} {f : Nat → Lk} {vf : Value} {fr : List Nat}
theorem LRaw.head (h : LRaw w p g off c m f vf fr n) : w.cell? ⟨p, 0, none⟩ = some (.slice (some ⟨g, off, none⟩) m c) ∧ w.cell? ⟨p, 1, none⟩ = some vf ∧ w.cell? ⟨p, 2, none⟩ = some (.int .i64 n) := by
 have k := cell_of_block h.2.2.1
 exact ⟨by rw [k]; rfl, by rw [k]; rfl, by rw [k]; rfl⟩
theorem LRaw.cell (h : LRaw w p g off c m f vf fr n) (i : Nat) (hi : i < m) : w.cell? ⟨g, off + i * 4, none⟩ = some (.string (f i).v) ∧ w.cell? ⟨g, off + i * 4 + 1, none⟩ = some (.int .i64 (f i).p) ∧
  w.cell? ⟨g, off + i * 4 + 2, none⟩ = some (.int .i64 (f i).n) ∧ w.cell? ⟨g, off + i * 4 + 3, none⟩ = some (.bool (f i).t) := by
 refine ⟨?_, ?_, ?_, ?_⟩
 ·exact h.2.2.2.1.cell (j := i * 4 + 0) (by rw [arena_get f m i 0 hi (by omega)]; rfl)
 ·rw [Nat.add_assoc]; exact h.2.2.2.1.cell (by rw [arena_get f m i 1 hi (by omega)]; rfl)
 ·rw [Nat.add_assoc]; exact h.2.2.2.1.cell (by rw [arena_get f m i 2 hi (by omega)]; rfl)
 ·rw [Nat.add_assoc]; exact h.2.2.2.1.cell (by rw [arena_get f m i 3 hi (by omega)]; rfl)
theorem LRaw.frz (h : LRaw w p g off c m f vf fr n) (i : Nat) : w.frozen? ⟨g, i, none⟩ = false := by
 rcases h.2.2.2.1.2 with ⟨h1, _⟩ | ⟨g', off', cap, cur, h1, hgg, _⟩
 ·simp at h1
 ·simp at h1
  obtain ⟨⟨rfl, rfl⟩, rfl⟩ := h1
  exact free_of_block hgg i
theorem LRaw.frp (h : LRaw w p g off c m f vf fr n) (i : Nat) : w.frozen? ⟨p, i, none⟩ = false := free_of_block h.2.2.1 i
theorem has_b (h : LRaw w p g off c m f vf fr n) (i : Nat) (hi : i ≤ 1000000) (hm : m ≤ 1000000) : Calls Tryz.prog 242 #[.pointer (some ⟨p, 0, none⟩), .int .i64 i] w fun e w' => e = .returned (.bool (decide (0 < i ∧ i < m ∧ (f i).t = true))) ∧ w = w' := by
 obtain ⟨h0, h1, h2⟩ := h.head
 by_cases c1 : 0 < i
 ·by_cases c2 : i < m
  ·obtain ⟨k0, k1, k2, k3⟩ := h.cell i c2
   clear h
   obtain ⟨t, ht⟩ : ∃ t, (f i).t = t := ⟨_, rfl⟩
   rw [ht] at k3 ⊢
   go_enter Tryz.func242, Tryz.ntmps242
   go_wp2
   go_ret
   cases t <;> simp [c1, c2]
  ·clear h
   go_enter Tryz.func242, Tryz.ntmps242
   go_wp2
   go_ret
   simp [c1, c2]
 ·have : i = 0 := by omega
  subst this
  clear h
  go_enter Tryz.func242, Tryz.ntmps242
  go_wp2
  go_ret
  simp
theorem LRaw.store (h : LRaw w p g off c m f vf fr n) (i j : Nat) (hi : i < m) (hj : j < 4) (u : Value) (x : Lk) (hx : x.enc = (f i).enc.set j u) : LRaw (w.setCell ⟨g, off + i * 4 + j, none⟩ u) p g off c m (up f i x) vf fr n := by
 obtain ⟨h1, h2, h3, h4, h5⟩ := h
 refine ⟨h1, h2, ?_, ?_, ?_⟩
 ·exact block_set_other h3 h1 _
 ·have := h4.set (i * 4 + j) u
  rw [arena_set f m i j hi hj u x hx, ← Nat.add_assoc] at this
  exact this
 ·exact h5.fr ((Fr.refl [g] w).setCell (p := ⟨g, off + i * 4 + j, none⟩) (by simp) u) (fun b hb hg => by simp at hb hg; exact (h2 b hb).2 hg)
theorem LRaw.setP (h : LRaw w p g off c m f vf fr n) (i q : Nat) (hi : i < m) : LRaw (w.setCell ⟨g, off + i * 4 + 1, none⟩ (.int .i64 (q : Nat))) p g off c m (up f i { f i with p := q }) vf fr n := h.store i 1 hi (by omega) _ _ rfl
theorem LRaw.setN (h : LRaw w p g off c m f vf fr n) (i q : Nat) (hi : i < m) : LRaw (w.setCell ⟨g, off + i * 4 + 2, none⟩ (.int .i64 (q : Nat))) p g off c m (up f i { f i with n := q }) vf fr n := h.store i 2 hi (by omega) _ _ rfl
theorem LRaw.keep (h : LRaw w p g off c m f vf fr n) {G : List Nat} {w' : World} (k : Fr G w w') (hp : p ∉ G) (hg : g ∉ G) (hv : Dis vf.ownBlock.toList G) : LRaw w' p g off c m f vf fr n :=
 ⟨h.1, h.2.1, k.get h.2.2.1 hp, h.2.2.2.1.fr k (fun b hb => by simp [Value.ownBlock] at hb; subst hb; exact hg), h.2.2.2.2.fr k hv⟩
theorem LRaw.congr (h : LRaw w p g off c m f vf fr n) {f' : Nat → Lk} (e : ∀ k, k < m → f k = f' k) : LRaw w p g off c m f' vf fr n := by
 have e2 : arena f m = arena f' m := range_congr fun i hi => by rw [e i hi]
 obtain ⟨h1, h2, h3, h4, h5⟩ := h
 exact ⟨h1, h2, h3, by rw [← e2]; exact h4, h5⟩
def laysF (f : Nat → Lk) (h q r : Nat) : Nat → Lk := fun k => { v := (f k).v, p := if k = r then h else if k = h then q else (f k).p, n := if k = q then h else if k = h then r else (f k).n, t := (f k).t }
theorem lays (H : LRaw w p g off c m f vf fr n) (h q r : Nat) (hh : h < m) (hq : q < m) (hr : r < m) (hm : m ≤ 1000000) (hq1 : h ≠ q) (hr1 : h ≠ r) :
  Calls Tryz.prog 241 #[.pointer (some ⟨p, 0, none⟩), .int .i64 h, .int .i64 q, .int .i64 r] w fun e w' => e = .returned (.tuple #[]) ∧ LRaw w' p g off c m (laysF f h q r) vf fr n ∧ Fr [g] w w' := by
 obtain ⟨h0, h1, h2⟩ := H.head
 have z := H.frz
 have hgp := H.1
 obtain ⟨_, a1, a2, _⟩ := H.cell h hh
 obtain ⟨_, _, b2, _⟩ := H.cell q hq
 obtain ⟨_, b1, _, _⟩ := H.cell r hr
 have HH := Lib.hid H
 clear H h1 h2
 go_enter Tryz.func241, Tryz.ntmps241
 go_wp2
 go_region
 all_goals
  go_wp2
  go_region
  all_goals
   go_wp2
   go_end0
   have c := (((HH.out.setP h q hh).setN h r hh).setN q h hq).setP r h hr
   have c2 := c.keep (((Fr.refl [] _).drew).drew) (by simp) (by simp) (fun b _ => by simp)
   refine ⟨rfl, ?_, ((((((Fr.refl [g] w).setCell (by simp) _).setCell (by simp) _).setCell (by simp) _).setCell (by simp) _).drew).drew⟩
   refine c2.congr fun k _ => ?_
   simp only [up, laysF]
   by_cases e1 : k = h <;> by_cases e2 : k = q <;> by_cases e3 : k = r <;> by_cases e4 : q = r <;> simp_all
def liftsF (f : Nat → Lk) (h : Nat) : Nat → Lk := fun k => { v := (f k).v, p := if k = (f h).n then (f h).p else (f k).p, n := if k = (f h).p then (f h).n else (f k).n, t := (f k).t }
theorem lifts (H : LRaw w p g off c m f vf fr n) (h : Nat) (hh : h < m) (hq : (f h).p < m) (hr : (f h).n < m) (hm : m ≤ 1000000) :
  Calls Tryz.prog 237 #[.pointer (some ⟨p, 0, none⟩), .int .i64 h] w fun e w' => e = .returned (.tuple #[]) ∧ LRaw w' p g off c m (liftsF f h) vf fr n ∧ Fr [g] w w' := by
 obtain ⟨h0, h1, h2⟩ := H.head
 have z := H.frz
 have hgp := H.1
 obtain ⟨_, a1, a2, _⟩ := H.cell h hh
 obtain ⟨_, _, b2, _⟩ := H.cell _ hq
 obtain ⟨_, b1, _, _⟩ := H.cell _ hr
 have HH := Lib.hid H
 obtain ⟨q, hq'⟩ : ∃ q, (f h).p = q := ⟨_, rfl⟩
 obtain ⟨r, hr'⟩ : ∃ r, (f h).n = r := ⟨_, rfl⟩
 rw [hq'] at a1 b2 hq
 rw [hr'] at a2 b1 hr
 have HQ := Lib.hid hq'
 have HR := Lib.hid hr'
 clear H h1 h2 hq' hr'
 go_enter Tryz.func237, Tryz.ntmps237
 go_wp2
 go_quiet (fail)
 go_wp2
 go_region
 all_goals
  go_wp2
  go_end0
  have c := (HH.out.keep ((Fr.refl [] _).drewN nq) (by simp) (by simp) (fun b _ => by simp)).setN q r hq |>.setP r q hr
  have c2 := c.keep ((Fr.refl [] _).drew) (by simp) (by simp) (fun b _ => by simp)
  refine ⟨rfl, c2.congr fun k _ => ?_, (((((Fr.refl [g] w).drewN nq).setCell (by simp) _).setCell (by simp) _).drew)⟩
  simp only [up, liftsF, HQ.out, HR.out]
  by_cases e2 : k = q <;> by_cases e3 : k = r <;> by_cases e4 : q = r <;> simp_all
end
end Go.Proofs.YtfeicmpbfbhiiaaGreat
set_option linter.unusedVariables false
set_option linter.unusedSimpArgs false
namespace Go.Proofs.YtfeicmpbfbhiiaaGreat
open Go.RowKit
attribute [local go_sem ↓] Go.wp_at_zero Go.wp_at_succ
theorem infoInt : (Tryz.prog.info? 3).map (fun i => (i.zero, i.size, i.bytes)) = some (some (.int .i64 0), 1, 8) := by kernel_rfl
theorem infoStr : (Tryz.prog.info? 9).map (fun i => (i.zero, i.size, i.bytes)) = some (some (.string ⟨#[]⟩), 1, 16) := by kernel_rfl
theorem infoLk : (Tryz.prog.info? 274).map (fun i => (i.zero, i.size, i.bytes)) = some (some (.agg #[.string ⟨#[]⟩, .int .i64 0, .int .i64 0, .bool false]), 4, 40) := by kernel_rfl
theorem info_parts2 {P : Program} {t : TypeId} {z : Value} {s b : Nat} (h : (P.info? t).map (fun i => (i.zero, i.size, i.bytes)) = some (some z, s, b)) : ∃ i, P.info? t = some i ∧ i.zero = some z ∧ i.size = s ∧ i.bytes = b := by
 cases hi : P.info? t with
 | none => rw [hi] at h; cases h
 | some i => rw [hi] at h; simp at h; exact ⟨i, rfl, h⟩
section
variable {w : World} {p g off c m n : Nat} {f : Nat → Lk} {vf : Value} {fr : List Nat}
theorem LRaw.setAll (h : LRaw w p g off c m f vf fr n) (i : Nat) (hi : i < m) (x : Lk) : LRaw ((((w.setCell ⟨g, off + i * 4, none⟩ (.string x.v)).setCell ⟨g, off + i * 4 + 1, none⟩ (.int .i64 x.p)).setCell ⟨g, off + i * 4 + 2, none⟩ (.int .i64 x.n)).setCell ⟨g, off + i * 4 + 3, none⟩ (.bool x.t)) p g off c m (up f i x) vf fr n := by
 have h0 := h.store i 0 hi (by omega) (.string x.v) { f i with v := x.v } rfl
 have h1 := h0.store i 1 hi (by omega) (.int .i64 x.p) { f i with v := x.v, p := x.p } (by rw [up_same]; rfl)
 have h2 := h1.store i 2 hi (by omega) (.int .i64 x.n) { f i with v := x.v, p := x.p, n := x.n } (by rw [up_same]; rfl)
 have h3 := h2.store i 3 hi (by omega) (.bool x.t) x (by rw [up_same]; rfl)
 refine h3.congr fun k _ => ?_
 simp only [up]; split <;> rfl
theorem LRaw.setFree (h : LRaw w p g off c m f vf fr n) {vf' : Value} {fr' : List Nat} (hv : ∀ b, vf'.ownBlock = some b → b ≠ p ∧ b ≠ g) (hs : Sl w 3 1 vf' fr'.length (fr'.map fun i => Value.int .i64 (i : Nat))) :
  LRaw (w.setCell ⟨p, 1, none⟩ vf') p g off c m f vf' fr' n := by
 obtain ⟨h1, h2, h3, h4, h5⟩ := h
 have k := (Fr.refl [p] w).setCell (p := ⟨p, 1, none⟩) (by simp) vf'
 refine ⟨h1, hv, ?_, h4.fr k (fun b hb hp => by simp [Value.ownBlock] at hb hp; exact h1 (hb.symm.trans hp)), hs.fr k (fun b hb hp => by simp at hb hp; exact (hv b hb).1 hp)⟩
 rw [block_set_same h3]; simp
theorem LRaw.setLen (h : LRaw w p g off c m f vf fr n) (n' : Nat) : LRaw (w.setCell ⟨p, 2, none⟩ (.int .i64 n')) p g off c m f vf fr n' := by
 obtain ⟨h1, h2, h3, h4, h5⟩ := h
 have k := (Fr.refl [p] w).setCell (p := ⟨p, 2, none⟩) (by simp) (.int .i64 n')
 refine ⟨h1, h2, ?_, h4.fr k (fun b hb hp => by simp [Value.ownBlock] at hb hp; exact h1 (hb.symm.trans hp)), h5.fr k (fun b hb hp => by simp at hb hp; exact (h2 b hb).1 hp)⟩
 rw [block_set_same h3]; simp
/-- What take gives. -/
def Taken (w : World) (p g m n : Nat) (f : Nat → Lk) (vf : Value) (fr : List Nat) (v : ByteArray) (e : Ending) (w' : World) : Prop :=
 ∃ (h g' off' c' m' : Nat) (vf' : Value) (fr' : List Nat), e = .returned (.int .i64 h) ∧ LRaw w' p g' off' c' m' (up f h ⟨v, 0, 0, true⟩) vf' fr' (n + 1) ∧ ((fr = fr' ++ [h] ∧ m' = m) ∨ (fr = [] ∧ fr' = [] ∧ h = m ∧ m' = m + 1)) ∧
  (g' = g ∨ w.heap.size ≤ g') ∧ (vf'.ownBlock = vf.ownBlock) ∧ Fr [p, g] w w'
set_option maxRecDepth 100000 in
theorem take_free (H : LRaw w p g off c m f vf fr n) {fr' : List Nat} {h : Nat} (hfr : fr = fr' ++ [h]) (hh : h < m) (hm : m ≤ 100000) (hn : n ≤ 100000) (hfl : fr.length ≤ 100000) (v : ByteArray) :
  Calls Tryz.prog 240 #[.pointer (some ⟨p, 0, none⟩), .string v] w (Taken w p g m n f vf fr v) := by
 obtain ⟨i0, hi, hz0, hz1, hz2⟩ := info_parts2 infoInt
 obtain ⟨h0, h1, h2⟩ := H.head
 have z := H.frz
 have zp := H.frp
 have hgp := H.1
 obtain ⟨a1, a2, a3, a4⟩ := H.cell h hh
 have hsf := H.2.2.2.2
 have hlen : fr.length = fr'.length + 1 := by rw [hfr]; simp
 rw [hlen] at hsf
 obtain ⟨gf, of, cf, rfl, hgf⟩ := hsf.pos (by omega)
 have y0 : w.cell? ⟨gf, of + fr'.length, none⟩ = some (.int .i64 h) := hsf.cell (by rw [hfr]; simp)
 obtain ⟨k, hk⟩ : ∃ k, fr'.length = k := ⟨_, rfl⟩
 rw [hk] at y0 hlen hsf h1
 have hcf : k + 1 ≤ cf := by
  rcases hsf.2 with ⟨h1, _⟩ | ⟨g', off', cap, cur, h1, hgg, a1, _⟩
  ·simp at h1
  ·simp at h1; omega
 have hrun := fun w' => run_slice_upto (P := Tryz.prog) Tryz.underlying72 hi (some ⟨gf, of, none⟩) (k + 1) cf k (by omega) w'
 simp only [show ¬ cf = 0 by omega, if_false, Option.map_some, Nat.zero_mul, Nat.sub_zero] at hrun
 rw [show (⟨gf, of, none⟩ : Addr).add 0 = ⟨gf, of, none⟩ by simp [Addr.add]] at hrun
 have HH := Lib.hid H
 have HK := Lib.hid (And.intro hfr hk)
 have hgfp : gf ≠ p ∧ gf ≠ g := H.2.1 gf rfl
 have HF := Lib.hid hsf
 have hk2 : k + 1 ≤ 100000 := by omega
 have c0 : ((0 : Int) < (((k + 1 : Nat)) : Int)) := by omega
 clear H hsf hfr hk hlen
 go_enter Tryz.func240, Tryz.ntmps240
 go_wp2
 go_ret
 have hsl := (HF.out.slice (lo := 0) (hi := k) (by omega) (by omega))
 simp only [show ¬ cf = 0 by omega, if_false, Option.map_some, Nat.zero_mul, Nat.sub_zero, List.drop_zero, Nat.mul_one] at hsl
 rw [show (⟨gf, of, none⟩ : Addr).add 0 = ⟨gf, of, none⟩ by simp [Addr.add]] at hsl
 obtain ⟨hfr, hk⟩ := HK.out
 have e1 : (fr.map fun i => Value.int .i64 (i : Nat)).take k = fr'.map fun i => Value.int .i64 (i : Nat) := by
  rw [hfr, List.map_append, ← hk]; simp
 rw [e1] at hsl
 have q1 := HH.out.setFree (vf' := .slice (some ⟨gf, of, none⟩) k cf) (fr' := fr') (fun b hb => by simp [Value.ownBlock] at hb; subst hb; exact hgfp) (by rw [hk]; exact hsl)
 have q2 := (q1.setAll h hh ⟨v, 0, 0, true⟩).setLen (n + 1)
 refine ⟨h, g, off, c, m, _, fr', rfl, q2, .inl ⟨hfr, rfl⟩, .inl rfl, rfl, ?_⟩
 exact ((((((Fr.refl [p, g] w).setCell (by simp) _).setCell (by simp) _).setCell (by simp) _).setCell (by simp) _).setCell (by simp) _).setCell (by simp) _
set_option maxRecDepth 100000 in
theorem take_grow (H : LRaw w p g off c m f vf [] n) (hm : m ≤ 100000) (hn : n ≤ 100000) (v : ByteArray) :
  Calls Tryz.prog 240 #[.pointer (some ⟨p, 0, none⟩), .string v] w (Taken w p g m n f vf [] v) := by
 obtain ⟨i0, hi, hz0, hz1, hz2⟩ := info_parts2 infoLk
 obtain ⟨h0, h1, h2⟩ := H.head
 have z := H.frz
 have zp := H.frp
 have hgp := H.1
 have hsf := H.2.2.2.2
 obtain ⟨af, cf, rfl⟩ := hsf.form
 have hsl := H.2.2.2.1
 have hpl := lt_of_block H.2.2.1
 have HH := Lib.hid H
 clear H hsf
 simp at h1
 go_enter Tryz.func240, Tryz.ntmps240
 go_wp2_with (at_builtin; refine wpList_app rfl _ _ _ _ rfl Tryz.underlying241 hi hz0 hz1 hz2 rfl (.slice (some ⟨g, off, none⟩) m c) _ m 1 (arena f m) [.string ⟨#[]⟩, .int .i64 0, .int .i64 0, .bool false] rfl rfl ?hsl (arena_one f m) ?src ?c3 ?c4 _ rfl ?_)
 case hsl => exact hsl.fr ((Fr.refl [] _).alloc _) (fun b _ => by simp)
 case src => exact Src.built Tryz.underlying241 _ [.string ⟨#[]⟩, .int .i64 0, .int .i64 0, .bool false] _ _ (by simp) rfl (by simp [Value.oneCell'])
 case c3 => unfold maxLen; omega
 case c4 => omega
 intro b' cp w1 hs1 hf1 hat
 obtain ⟨g', off', c', hb', hg'⟩ := hs1.pos (by omega)
 simp at hb'
 obtain ⟨rfl, rfl⟩ := hb'
 replace hs1 : Sl w1 274 4 (.slice (some ⟨g', off', none⟩) (m + 1) cp) (m + 1) (arena (up f m Lk.zero) (m + 1)) := by rw [arena_snoc]; exact hs1
 have hg2 : g' ≠ p := by
  rcases hat with h | h
  ·simp [Value.ownBlock] at h; rw [h]; exact hgp
  ·simp [Value.ownBlock] at h; omega
 have q0 := HH.out.keep ((Fr.refl [] w).alloc (.cells #[.string ⟨#[]⟩, .int .i64 0, .int .i64 0, .bool false] 274)) (by simp) (by simp) (fun b _ => by simp)
 have hpb := hf1.get q0.2.2.1 (by simp [Value.ownBlock]; exact fun h => hgp h.symm)
 have q1 : LRaw (w1.setCell ⟨p, 0, none⟩ (.slice (some ⟨g', off', none⟩) (m + 1) cp)) p g' off' cp (m + 1) (up f m Lk.zero) (.slice af 0 cf) [] n := by
  have kp := (Fr.refl [p] w1).setCell (p := ⟨p, 0, none⟩) (by simp) (.slice (some ⟨g', off', none⟩) (m + 1) cp)
  refine ⟨hg2, ?_, ?_, hs1.fr kp (fun b hb hp => by simp [Value.ownBlock] at hb hp; exact hg2 (hb.symm.trans hp)), (q0.2.2.2.2.fr hf1 ?_).fr kp ?_⟩
  ·intro b hb
   refine ⟨(q0.2.1 b hb).1, ?_⟩
   rintro rfl
   rcases hat with h | h
   ·simp [Value.ownBlock] at h; exact (q0.2.1 b hb).2 h
   ·have := q0.2.2.2.2.lt b (by simp [hb]); simp [Value.ownBlock] at h; simp at this; omega
  ·rw [block_set_same hpb]; simp
  ·intro b hb hg; simp [Value.ownBlock] at hg; simp at hb; exact (q0.2.1 b hb).2 hg
  ·intro b hb hp; simp at hp hb; exact (q0.2.1 b hb).1 hp
 have k0 : w1.cell? ⟨p, 0, none⟩ = some (.slice (some ⟨g, off, none⟩) m c) := by rw [cell_of_block hpb]; rfl
 have k2 : w1.cell? ⟨p, 2, none⟩ = some (.int .i64 n) := by rw [cell_of_block hpb]; rfl
 have zp1 := fun i => free_of_block hpb i
 have a0 : w1.cell? ⟨g', off' + m * 4, none⟩ = some (.string ⟨#[]⟩) := hs1.cell (j := m * 4 + 0) (by rw [arena_get _ _ _ _ (by omega) (by omega), up_same]; rfl)
 have a1 : w1.cell? ⟨g', off' + m * 4 + 1, none⟩ = some (.int .i64 0) := by rw [Nat.add_assoc]; exact hs1.cell (by rw [arena_get _ _ _ _ (by omega) (by omega), up_same]; rfl)
 have a2 : w1.cell? ⟨g', off' + m * 4 + 2, none⟩ = some (.int .i64 0) := by rw [Nat.add_assoc]; exact hs1.cell (by rw [arena_get _ _ _ _ (by omega) (by omega), up_same]; rfl)
 have a3 : w1.cell? ⟨g', off' + m * 4 + 3, none⟩ = some (.bool false) := by rw [Nat.add_assoc]; exact hs1.cell (by rw [arena_get _ _ _ _ (by omega) (by omega), up_same]; rfl)
 have z1 : ∀ i, w1.frozen? ⟨g', i, none⟩ = false := by
  intro i
  rcases hs1.2 with ⟨h1, _⟩ | ⟨g'', off'', cap, cur, h1, hgg, _⟩
  ·simp at h1
  ·simp at h1
   obtain ⟨⟨rfl, rfl⟩, rfl⟩ := h1
   exact free_of_block hgg i
 have q2 := (q1.setAll m (by omega) ⟨v, 0, 0, true⟩).setLen (n + 1)
 have hfr : Fr [p, g] w w1 := (((Fr.refl [] w).alloc _).mono (by simp)).same (hf1.mono (fun b hb _ => by simp [Value.ownBlock] at hb; simp [hb]))
 have hge : g' = g ∨ w.heap.size ≤ g' := by
  rcases hat with h | h
  ·left; simpa [Value.ownBlock] using h
  ·right; simp [Value.ownBlock] at h; omega
 have Q := Lib.hid (And.intro q2 (And.intro hfr hge))
 have hb1 : g' < w1.heap.size := hg'
 clear q2 q1 hfr hge hpb hat hs1 hf1 q0 hsl h0 h1 h2 z zp HH
 go_wp2
 go_ret
 obtain ⟨q2, hfr, hge⟩ := Q.out
 refine ⟨m, g', off', cp, m + 1, _, [], rfl, q2.congr (fun k _ => by simp only [up]; split <;> rfl), .inr ⟨rfl, rfl, rfl, rfl⟩, hge, rfl, ?_⟩
 have h3 : Fr [p, g, g'] w w1 := hfr.mono (fun b hb _ => by simp at hb ⊢; rcases hb with h | h <;> simp [h])
 refine (((((((h3.setCell (by simp) _).setCell (by simp) _).setCell (by simp) _).setCell (by simp) _).setCell (by simp) _).setCell (by simp) _)).mono (fun b hb hlt => ?_)
 simp at hb ⊢
 rcases hb with h | h | h
 ·exact .inl h
 ·exact .inr h
 ·rcases hge with h2 | h2
  ·right; rw [h, h2]
  ·omega
end
/-- A list: its handles with their values, from the front on. -/
def LRep (w : World) (p : Nat) (F : List Nat) (L : List (Nat × ByteArray)) : Prop :=
 ∃ (g off c m : Nat) (f : Nat → Lk) (vf : Value) (fr : List Nat), F = p :: g :: vf.ownBlock.toList ∧ m ≤ 100000 ∧ LInv m f fr L ∧ LRaw w p g off c m f vf fr L.length
theorem LRep.fr {w w' : World} {p : Nat} {F G : List Nat} {L : List (Nat × ByteArray)} (h : LRep w p F L) (k : Fr G w w') (hd : Dis F G) : LRep w' p F L := by
 obtain ⟨g, off, c, m, f, vf, fr, rfl, hm, hi, hr⟩ := h
 exact ⟨g, off, c, m, f, vf, fr, rfl, hm, hi, hr.keep k (hd p (by simp)) (hd g (by simp)) (fun b hb => hd b (by simp at hb; simp [hb]))⟩
theorem LRep.lt {w : World} {p : Nat} {F : List Nat} {L : List (Nat × ByteArray)} (h : LRep w p F L) : Lt F w := by
 obtain ⟨g, off, c, m, f, vf, fr, rfl, hm, hi, h1, h2, h3, h4, h5⟩ := h
 intro b hb
 simp at hb
 rcases hb with rfl | rfl | hb
 ·exact lt_of_block h3
 ·exact h4.lt b (by simp [Value.ownBlock])
 ·exact h5.lt b (by simp [hb])
theorem LRep.len {w : World} {p : Nat} {F : List Nat} {L : List (Nat × ByteArray)} (h : LRep w p F L) : L.length < 100000 := by
 obtain ⟨g, off, c, m, f, vf, fr, rfl, hm, hi, hr⟩ := h
 have := hi.size
 omega
theorem LRep.hnd {w : World} {p : Nat} {F : List Nat} {L : List (Nat × ByteArray)} (h : LRep w p F L) : ∀ e, e ∈ L → 0 < e.1 ∧ e.1 < 100000 := by
 obtain ⟨g, off, c, m, f, vf, fr, rfl, hm, hi, hr⟩ := h
 intro e he
 have := hi.at_ e he
 omega
theorem LRep.nd {w : World} {p : Nat} {F : List Nat} {L : List (Nat × ByteArray)} (h : LRep w p F L) : (L.map (·.1)).Nodup := by
 obtain ⟨g, off, c, m, f, vf, fr, rfl, hm, hi, hr⟩ := h
 exact hi.nd
theorem pushBack {w : World} {p : Nat} {F : List Nat} {L : List (Nat × ByteArray)} (H : LRep w p F L) (hL : L.length ≤ 99000) (v : ByteArray) :
  Calls Tryz.prog 196 #[.pointer (some ⟨p, 0, none⟩), .string v] w fun e w' => ∃ (h : Nat) (F' : List Nat), e = .returned (.int .i64 h) ∧ 0 < h ∧ h < 100000 ∧ h ∉ L.map (·.1) ∧ LRep w' p F' (L ++ [(h, v)]) ∧ Sub F' F w ∧ Fr F w w' := by
 have hlt := H.lt
 obtain ⟨g, off, c, m, f, vf, fr, rfl, hm, hi, hr⟩ := H
 have hsz := hi.size
 have htake : Calls Tryz.prog 240 #[.pointer (some ⟨p, 0, none⟩), .string v] w (Taken w p g m L.length f vf fr v) := by
  rcases List.eq_nil_or_concat fr with rfl | ⟨fr', h, e⟩
  ·exact take_grow hr hm (by omega) v
  ·rw [List.concat_eq_append] at e
   subst e
   exact take_free hr rfl (hi.free h (by simp)).2.1 hm (by omega) (by omega) v
 have HT := Lib.hid htake
 have HI := Lib.hid hi
 have HLT := Lib.hid hlt
 clear htake hr hi hlt
 go_enter Tryz.func196, Tryz.ntmps196
 go_wp2_with fail
 refine HT.out.mono ?_
 rintro e w1 ⟨h, g', off', c', m', vf', fr', rfl, hr, hh, hge, hvf, hf1⟩
 obtain ⟨q1, q2, q3, q4, q5⟩ := HI.out.fresh hh
 obtain ⟨k0, k1, k2⟩ := hr.head
 obtain ⟨_, a1, _, _⟩ := hr.cell 0 (by omega)
 rw [up_other _ _ _ _ (by omega)] at a1
 simp at a1
 obtain ⟨q, hq⟩ : ∃ q, (f 0).p = q := ⟨_, rfl⟩
 rw [hq] at q4 q5 a1
 have HQ := Lib.hid hq
 have HHH := Lib.hid hh
 have hm' : m' ≤ 100001 := by rcases hh with ⟨_, rfl⟩ | ⟨_, _, _, rfl⟩ <;> omega
 have hm2 : m' ≤ 100000 := by
  have := HI.out.size
  rcases hh with ⟨_, rfl⟩ | ⟨rfl, _, _, rfl⟩
  ·omega
  ·simp at this; omega
 clear hh hq
 go_wp2_with fail
 refine (lays hr h q 0 q2 q5 (by omega) (by omega) (by omega) (by omega)).mono ?_
 rintro e w2 ⟨rfl, hr2, hf2⟩
 go_wp2
 go_ret
 have hi2 : LInv m' (laysF (up f h ⟨v, 0, 0, true⟩) h q 0) fr' (L ++ [(h, v)]) := by
  refine HI.out.push v HHH.out ?_
  rw [HQ.out]
  funext k
  simp only [laysF, up]
  by_cases e1 : k = h <;> by_cases e2 : k = q <;> by_cases e3 : k = 0 <;> by_cases e4 : q = 0 <;> by_cases e5 : h = 0 <;> by_cases e6 : q = h <;> simp_all <;> omega
 refine ⟨h, p :: g' :: vf'.ownBlock.toList, rfl, q1, by omega, q3, ⟨g', off', c', m', _, vf', fr', rfl, hm2, hi2, by simpa using hr2⟩, ?_, ?_⟩
 ·intro b hb
  simp at hb ⊢
  rw [hvf] at hb
  rcases hb with h | h | h
  ·exact .inl (.inl h)
  ·rcases hge with h2 | h2
   ·left; right; left; rw [h, h2]
   ·right; omega
  ·exact .inl (.inr (.inr h))
 ·refine hf1.trans hf2 (fun b hb _ => ?_) (fun b hb hlt => ?_)
  ·simp at hb ⊢
   rcases hb with h | h
   ·exact .inl h
   ·exact .inr (.inl h)
  ·simp at hb ⊢
   rcases hge with h2 | h2
   ·right; left; omega
   ·omega
end Go.Proofs.YtfeicmpbfbhiiaaGreat
set_option linter.unusedVariables false
set_option linter.unusedSimpArgs false
namespace Go.Proofs.YtfeicmpbfbhiiaaGreat
open Go.RowKit
attribute [local go_sem ↓] Go.wp_at_zero Go.wp_at_succ
theorem has_in {w : World} {p : Nat} {F : List Nat} {L : List (Nat × ByteArray)} (H : LRep w p F L) {h : Nat} (hh : h ∈ L.map (·.1)) : Calls Tryz.prog 242 #[.pointer (some ⟨p, 0, none⟩), .int .i64 h] w fun e w' => e = .returned (.bool true) ∧ w = w' := by
 obtain ⟨g, off, c, m, f, vf, fr, rfl, hm, hi, hr⟩ := H
 obtain ⟨e, he, rfl⟩ := List.mem_map.1 hh
 obtain ⟨a1, a2, a3, a4⟩ := hi.at_ e he
 refine (has_b hr e.1 (by omega) (by omega)).mono ?_
 rintro x w' ⟨rfl, rfl⟩
 exact ⟨by simp [a1, a2, a3], rfl⟩
theorem has_out {w : World} {p : Nat} {F : List Nat} {L : List (Nat × ByteArray)} (H : LRep w p F L) {h : Nat} (hh : h ∉ L.map (·.1)) (hb : h ≤ 1000000) : Calls Tryz.prog 242 #[.pointer (some ⟨p, 0, none⟩), .int .i64 h] w fun e w' => e = .returned (.bool false) ∧ w = w' := by
 obtain ⟨g, off, c, m, f, vf, fr, rfl, hm, hi, hr⟩ := H
 refine (has_b hr h hb (by omega)).mono ?_
 rintro x w' ⟨rfl, rfl⟩
 refine ⟨?_, rfl⟩
 rw [decide_eq_false]
 rintro ⟨h1, h2, h3⟩
 exact hh (hi.all h h3 h2)
theorem get_in {w : World} {p : Nat} {F : List Nat} {L : List (Nat × ByteArray)} (H : LRep w p F L) {h : Nat} {v : ByteArray} (hh : (h, v) ∈ L) : Calls Tryz.prog 198 #[.pointer (some ⟨p, 0, none⟩), .int .i64 h] w fun e w' => e = .returned (.tuple #[.string v, .bool true]) ∧ w = w' := by
 have hc := has_in H (List.mem_map_of_mem (f := (·.1)) hh)
 obtain ⟨g, off, c, m, f, vf, fr, rfl, hm, hi, hr⟩ := H
 obtain ⟨a1, a2, a3, a4⟩ := hi.at_ _ hh
 simp at a1 a2 a4
 obtain ⟨k0, _, _⟩ := hr.head
 obtain ⟨k1, _, _, _⟩ := hr.cell h a2
 rw [a4] at k1
 have HC := Lib.hid hc
 clear hc hi hr hh a4 a3
 go_enter Tryz.func198, Tryz.ntmps198
 go_wp2_with fail
 refine HC.out.mono ?_
 rintro e w' ⟨rfl, rfl⟩
 go_wp2
 go_ret2
 exact ⟨rfl, rfl⟩
theorem get_out {w : World} {p : Nat} {F : List Nat} {L : List (Nat × ByteArray)} (H : LRep w p F L) {h : Nat} (hh : h ∉ L.map (·.1)) (hb : h ≤ 1000000) : Calls Tryz.prog 198 #[.pointer (some ⟨p, 0, none⟩), .int .i64 h] w fun e w' => e = .returned (.tuple #[.string ⟨#[]⟩, .bool false]) ∧ w = w' := by
 have hc := Lib.hid (has_out H hh hb)
 clear H hh
 go_enter Tryz.func198, Tryz.ntmps198
 go_wp2_with fail
 refine hc.out.mono ?_
 rintro e w' ⟨rfl, rfl⟩
 go_wp2
 go_ret2
 exact ⟨rfl, rfl⟩
theorem front {w : World} {p : Nat} {F : List Nat} {L : List (Nat × ByteArray)} (H : LRep w p F L) : Calls Tryz.prog 199 #[.pointer (some ⟨p, 0, none⟩)] w fun e w' => e = .returned (.int .i64 (hd0 L)) ∧ w = w' := by
 obtain ⟨g, off, c, m, f, vf, fr, rfl, hm, hi, hr⟩ := H
 obtain ⟨k0, _, _⟩ := hr.head
 have hm0 : 0 < m := by have := hi.size; omega
 obtain ⟨_, _, k1, _⟩ := hr.cell 0 hm0
 have e : (f 0).n = hd0 L := by
  rw [hi.seg.first]
  cases L <;> rfl
 rw [e] at k1
 simp at k1
 clear hi hr e
 go_enter Tryz.func199, Tryz.ntmps199
 go_wp2
 go_ret
 exact ⟨rfl, rfl⟩
theorem next {w : World} {p : Nat} {F : List Nat} {L1 L2 : List (Nat × ByteArray)} {h : Nat} {v : ByteArray} (H : LRep w p F (L1 ++ (h, v) :: L2)) : Calls Tryz.prog 315 #[.pointer (some ⟨p, 0, none⟩), .int .i64 h] w fun e w' => e = .returned (.int .i64 (hd0 L2)) ∧ w = w' := by
 have hc := has_in H (h := h) (by simp)
 obtain ⟨g, off, c, m, f, vf, fr, rfl, hm, hi, hr⟩ := H
 obtain ⟨k0, _, _⟩ := hr.head
 have a2 := (hi.at_ (h, v) (by simp)).2.1
 simp at a2
 obtain ⟨_, _, k1, _⟩ := hr.cell h a2
 have e : (f h).n = hd0 L2 := by
  have hs := hi.seg
  simp only [List.map_append, List.map_cons] at hs
  rw [(Seg.append.1 hs).2.first]
  cases L2 <;> rfl
 rw [e] at k1
 have HC := Lib.hid hc
 clear hi hr e hc
 go_enter Tryz.func315, Tryz.ntmps315
 go_wp2_with fail
 refine HC.out.mono ?_
 rintro e w' ⟨rfl, rfl⟩
 go_wp2
 go_ret
 exact ⟨rfl, rfl⟩
theorem len_l {w : World} {p : Nat} {F : List Nat} {L : List (Nat × ByteArray)} (H : LRep w p F L) : Calls Tryz.prog 197 #[.pointer (some ⟨p, 0, none⟩)] w fun e w' => e = .returned (.int .i64 L.length) ∧ w = w' := by
 obtain ⟨g, off, c, m, f, vf, fr, rfl, hm, hi, hr⟩ := H
 obtain ⟨_, _, k2⟩ := hr.head
 clear hi hr
 go_enter Tryz.func197, Tryz.ntmps197
 go_wp2
 go_ret
 exact ⟨rfl, rfl⟩
theorem remove_out {w : World} {p : Nat} {F : List Nat} {L : List (Nat × ByteArray)} (H : LRep w p F L) {h : Nat} (hh : h ∉ L.map (·.1)) (hb : h ≤ 1000000) : Calls Tryz.prog 194 #[.pointer (some ⟨p, 0, none⟩), .int .i64 h] w fun e w' => e = .returned (.tuple #[.string ⟨#[]⟩, .bool false]) ∧ w = w' := by
 have hc := Lib.hid (get_out H hh hb)
 clear H hh
 go_enter Tryz.func194, Tryz.ntmps194
 go_wp2_with fail
 refine hc.out.mono ?_
 rintro e w' ⟨rfl, rfl⟩
 go_wp2
 go_ret2
 exact ⟨rfl, rfl⟩
end Go.Proofs.YtfeicmpbfbhiiaaGreat
set_option linter.unusedVariables false
set_option linter.unusedSimpArgs false
namespace Go.Proofs.YtfeicmpbfbhiiaaGreat
open Go.RowKit
attribute [local go_sem ↓] Go.wp_at_zero Go.wp_at_succ
/-- The free places get one more. -/
theorem LRaw.pushFree {w w2 : World} {p g off c m n h H : Nat} {f : Nat → Lk} {vf vf' : Value} {fr : List Nat} {X : Obj} (q : LRaw w p g off c m f vf fr n) (hf2 : Fr vf.ownBlock.toList (w.alloc X) w2)
  (hs2 : Sl w2 3 1 vf' (fr.length + 1) ((fr.map fun i => Value.int .i64 (i : Nat)) ++ [.int .i64 h])) (hat : vf'.ownBlock = vf.ownBlock ∨ vf'.ownBlock = some H) (hp : p < H) (hg : g < H) :
  LRaw (w2.setCell ⟨p, 1, none⟩ vf') p g off c m f vf' (fr ++ [h]) n := by
 have q' := q.keep ((Fr.refl [] w).alloc X) (by simp) (by simp) (fun b _ => by simp)
 obtain ⟨h1, h2, h3, h4, h5⟩ := q'
 have k := (Fr.refl [p] w2).setCell (p := ⟨p, 1, none⟩) (by simp) vf'
 have hv : ∀ b, vf'.ownBlock = some b → b ≠ p ∧ b ≠ g := by
  intro b hb
  rcases hat with h | h
  ·exact h2 b (by rw [← h]; exact hb)
  ·rw [h] at hb; simp at hb; omega
 have n1 : p ∉ vf.ownBlock.toList := by simp; intro e; exact (h2 p e).1 rfl
 refine ⟨h1, hv, ?_, (h4.fr hf2 (fun b hb hx => by simp [Value.ownBlock] at hb; simp at hx; exact (h2 b hx).2 hb)).fr k (fun b hb hp => by simp [Value.ownBlock] at hb hp; exact h1 (hb.symm.trans hp)), ?_⟩
 ·rw [block_set_same (hf2.get h3 n1)]; simp
 ·have : Sl w2 3 1 vf' (fr ++ [h]).length ((fr ++ [h]).map fun i => Value.int .i64 (i : Nat)) := by
   rw [List.length_append, List.map_append]; exact hs2
  exact this.fr k (fun b hb hp => by simp at hb hp; exact (hv b hb).1 hp)
theorem LRaw.after {w w2 : World} {p g off c m n : Nat} {f : Nat → Lk} {vf : Value} {fr : List Nat} {X : Obj} (q : LRaw w p g off c m f vf fr n) (hf2 : Fr vf.ownBlock.toList (w.alloc X) w2) :
  w2.heap[p]? = some (.cells #[.slice (some ⟨g, off, none⟩) m c, vf, .int .i64 n] 243 (0, 0)) := by
 have q' := q.keep ((Fr.refl [] w).alloc X) (by simp) (by simp) (fun b _ => by simp)
 exact hf2.get q'.2.2.1 (by simp; intro e; exact (q'.2.1 p e).1 rfl)
set_option maxRecDepth 100000 in
theorem remove_in {w : World} {p : Nat} {F : List Nat} {L1 L2 : List (Nat × ByteArray)} {h : Nat} {v : ByteArray} (H : LRep w p F (L1 ++ (h, v) :: L2)) :
  Calls Tryz.prog 194 #[.pointer (some ⟨p, 0, none⟩), .int .i64 h] w fun e w' => e = .returned (.tuple #[.string v, .bool true]) ∧ ∃ F', LRep w' p F' (L1 ++ L2) ∧ Sub F' F w ∧ Fr F w w' := by
 obtain ⟨i0, hii, hz0, hz1, hz2⟩ := info_parts2 infoInt
 have hc := get_in H (h := h) (v := v) (by simp)
 have hlen := H.len
 obtain ⟨g, off, c, m, f, vf, fr, rfl, hm, hi, hr⟩ := H
 have hsz := hi.size
 have ha := hi.at_ (h, v) (by simp)
 simp at ha
 have hsg := hi.seg
 simp only [List.map_append, List.map_cons] at hsg
 obtain ⟨s1, s2⟩ := Seg.append.1 hsg
 have hpm : (f h).p < m := hi.bd _ (by have := s1.last.1; simp at this ⊢; grind)
 have hnm : (f h).n < m := by
  have hf := s2.first
  have : (f h).n ∈ L2.map (·.1) ++ [0] := by rw [hf]; exact List.head_mem _
  refine hi.bd _ ?_
  simp at this ⊢; grind
 have hfm : fr.length ≤ 100000 := by omega
 have hm2 : (L1 ++ (h, v) :: L2).length = L1.length + L2.length + 1 := by simp; omega
 rw [hm2] at hr
 have HC := Lib.hid hc
 have HI := Lib.hid hi
 have hpl := lt_of_block hr.2.2.1
 have hgl := hr.2.2.2.1.lt g (by simp [Value.ownBlock])
 have hhm : h < m := ha.2.1
 clear hc hi hsg s1 s2 ha hsz hm2
 obtain ⟨n, hn⟩ : ∃ n, L1.length + L2.length = n := ⟨_, rfl⟩
 rw [hn] at hr
 have HN := Lib.hid hn
 have hnb : n ≤ 100000 := by simp at hlen; omega
 clear hn
 go_enter Tryz.func194, Tryz.ntmps194
 go_wp2_with fail
 refine HC.out.mono ?_
 rintro e w0 ⟨rfl, rfl⟩
 go_wp2_with fail
 refine (lifts hr h hhm hpm hnm (by omega)).mono ?_
 rintro e w1 ⟨rfl, hr1, hf1⟩
 have q1 := hr1.setAll h hhm Lk.zero
 obtain ⟨k0, k1, k2⟩ := hr1.head
 obtain ⟨a0, a1, a2, a3⟩ := hr1.cell h hhm
 have z := hr1.frz
 have zp := hr1.frp
 have hgp := hr1.1
 obtain ⟨af, cf, rfl⟩ := hr1.2.2.2.2.form
 have hw1 := hf1.size
 have Q1 := Lib.hid q1
 have HF1 := Lib.hid hf1
 clear q1 hr1 hf1 hr
 go_wp2_with (at_builtin; refine wpList_app rfl _ _ _ _ rfl Tryz.underlying72 hii hz0 hz1 hz2 rfl (.slice af fr.length cf) _ fr.length 1 (fr.map fun i => Value.int .i64 (i : Nat)) [.int .i64 h] rfl rfl ?hsl ?hone ?src ?c3 ?c4 _ rfl ?_)
 case hsl => exact Q1.out.2.2.2.2.fr ((Fr.refl [] _).alloc _) (fun b _ => by simp)
 case hone => intro u hu; obtain ⟨i, _, rfl⟩ := List.mem_map.1 hu; rfl
 case src => exact Src.built Tryz.underlying72 _ [.int .i64 h] _ _ (by simp) rfl (by simp [Value.oneCell'])
 case c3 => unfold maxLen; omega
 case c4 => omega
 intro b' cp w2 hs2 hf2 hat
 have q2 := Q1.out.pushFree hf2 hs2 hat (by omega) (by omega)
 have q3 := q2.setLen n
 have hpb := Q1.out.after hf2
 have k0' : w2.cell? ⟨p, 1, none⟩ = some (.slice af fr.length cf) := by rw [cell_of_block hpb]; rfl
 have k2' : w2.cell? ⟨p, 2, none⟩ = some (.int .i64 ((n : Int) + 1)) := by rw [cell_of_block hpb]; rfl
 have zp2 := fun i => free_of_block hpb i
 have hF2 : Fr (p :: g :: (Value.slice af fr.length cf).ownBlock.toList) w w2 := by
  refine (HF1.out.mono (fun b hb _ => by simp at hb; simp [hb])).same (Fr.same ?_ (hf2.mono (fun b hb _ => by simp at hb ⊢; simp [hb])))
  exact ((((((Fr.refl (p :: g :: (Value.slice af fr.length cf).ownBlock.toList) w1).setCell (by simp) _).setCell (by simp) _).setCell (by simp) _).setCell (by simp) _)).alloc _
 have Q3 := Lib.hid q3
 have HF2 := Lib.hid hF2
 have hat2 := Lib.hid hat
 clear q2 q3 hF2 hat hs2 hf2 hpb Q1 HF1 k0 k1 k2 a0 a1 a2 a3 z zp
 go_wp2
 go_ret2
 refine ⟨rfl, p :: g :: (Value.slice b' (fr.length + 1) cp).ownBlock.toList, ⟨g, off, c, m, _, _, fr ++ [h], rfl, hm, ?_, by rw [show (L1 ++ L2).length = n by rw [List.length_append]; exact HN.out]; exact Q3.out⟩, ?_, (HF2.out.setCell (by simp) _).setCell (by simp) _⟩
 ·refine HI.out.remove ?_ ?_ ?_ ?_ ?_ ?_
  ·by_cases e : (f h).p = h
   ·exact .inr e
   ·left; simp [up, liftsF, e]
  ·by_cases e : (f h).n = h
   ·exact .inr e
   ·left; simp [up, liftsF, e]
  ·intro k k1 k2; simp [up, liftsF, k1, k2]
  ·intro k k1 k2; simp [up, liftsF, k1, k2]
  ·intro k k1; simp [up, liftsF, k1]
  ·simp [up, Lk.zero]
 ·intro b hb
  simp at hb ⊢
  rcases hb with e | e | e
  ·exact .inl (.inl e)
  ·exact .inl (.inr (.inl e))
  ·rcases hat2.out with h2 | h2
   ·left; right; right; rw [← h2]; exact e
   ·right; rw [h2] at e; simp at e; omega
theorem all_l {w : World} {p : Nat} {F : List Nat} {L : List (Nat × ByteArray)} (H : LRep w p F L) :
  Calls Tryz.prog 306 #[.pointer (some ⟨p, 0, none⟩)] w fun e w' => ∃ v, e = .returned v ∧ w'.ownsRow w.heap.size 9 1 v L.length (L.map fun e => Value.string e.2) ∧ Fr [] w w' := by
 obtain ⟨i0, hii, hz0, hz1, hz2⟩ := info_parts2 infoStr
 have hf := front H
 have hlen := H.len
 have HF := Lib.hid hf
 have HH := Lib.hid H
 clear hf H
 go_enter Tryz.func306, Tryz.ntmps306
 go_wp2_with fail
 refine HF.out.mono ?_
 rintro e w1 ⟨rfl, rfl⟩
 go_wp2_with fail
 go_loopg [3, 4] L.length (fun gg u3 u4 wr => ∃ (L1 L2 : List (Nat × ByteArray)), Aside (L1 ++ L2 = L ∧ L2.length = gg) ∧ u4 = .int .i64 (hd0 L2) ∧ wr.ownsRow w.heap.size 9 1 u3 L1.length (L1.map fun e => Value.string e.2) ∧ Fr [] w wr)
 case atStart => exact ⟨[], L, ⟨rfl, rfl⟩, rfl, World.ownsRow_nil _ _ _ _, Fr.refl _ _⟩
 case round =>
  obtain ⟨L1, L2, hA, rfl, hown, hfr⟩ := hrel
  cases L2 with
  | nil =>
   have e1 : L1 = L := by have := hA.out.1; simpa using this
   subst e1
   have e0 : hd0 [] = 0 := rfl
   rw [e0]
   go_wp2_with fail
   go_ret
   exact ⟨_, rfl, hown, hfr⟩
  | cons x L2 =>
   obtain ⟨h, v⟩ := x
   obtain ⟨e1, e2⟩ := hA.out
   have HL := HH.out.fr hfr (fun b _ => by simp)
   rw [← e1] at HL
   have hn := HL.hnd (h, v) (by simp)
   simp at hn
   have hne : ((h : Int) == 0) = false := by rw [beq_eq_false_iff_ne]; omega
   have hne2 : ((h : Int) != 0) = true := by rw [bne_iff_ne]; omega
   have e0 : hd0 ((h, v) :: L2) = h := rfl
   rw [e0]
   have hl1 : L1.length + 1 ≤ 100000 := by have := HL.len; simp at this; omega
   obtain ⟨g, off, c, m, f, vf, fr, hF, hm, hi, hr⟩ := id HL
   have hat := hi.at_ (h, v) (by simp)
   simp at hat
   obtain ⟨k0, _, _⟩ := hr.head
   obtain ⟨k1, _, _, _⟩ := hr.cell h hat.2.1
   rw [hat.2.2.2] at k1
   have hhm : h < m := hat.2.1
   have HLL := Lib.hid HL
   have HE := Lib.hid (And.intro e1 e2)
   clear hi hr HL hat hF e1 e2 e0 hA
   go_wp2_with (at_builtin; refine wpList_append_lies _ rfl _ _ _ rfl w.heap.size 9 i0 (.string ⟨#[]⟩) 1 16 Tryz.underlying22 hii hz0 hz1 hz2 rfl (by decide) u3 L1.length (L1.map fun e => Value.string e.2) rfl (by exact hown.alloc _) ⟨wr.heap.size, 0, none⟩ 1 1 [.string v] rfl rfl ?c1 ?c2 (by omega) ?c3 ?c4 ?c5 _ rfl ?_)
   case c1 => exact cell_one_new _ _ _
   case c2 => simp [Value.oneCell']
   case c3 => unfold maxLen; omega
   case c4 => omega
   case c5 => have := hfr.size; simp; omega
   intro g2 cp w2 hown2 hgrow hat hlt2
   have hF2 : Fr [] w w2 := (hfr.alloc _).grownOwn hgrow hown
   have HO := Lib.hid hown2
   clear hown2 hat k0 k1
   go_wp2_with fail
   have hnx := (next (HH.out.fr hF2 (fun b _ => by simp) |> fun z => HE.out.1.symm ▸ z))
   refine hnx.mono ?_
   rintro e w3 ⟨rfl, rfl⟩
   go_wp2_with fail
   obtain ⟨e1, e2⟩ := HE.out
   go_roundg L2.length
   case measure => rw [← e2]; simp
   case rel => exact ⟨L1 ++ [(h, v)], L2, ⟨by rw [← e1]; simp, rfl⟩, rfl, by simpa using HO.out, hF2⟩
theorem listNew (w : World) : Calls Tryz.prog 150 #[] w fun e w' => ∃ p F, e = .returned (.pointer (some ⟨p, 0, none⟩)) ∧ LRep w' p F [] ∧ Ge w.heap.size F ∧ Fr [] w w' := by
 obtain ⟨i0, hii, hz0, hz1, hz2⟩ := info_parts2 infoLk
 have hk := run_make (P := Tryz.prog) w 241 274 i0 _ Tryz.underlying241 hii hz0 .i64 .i64 1 1 (by decide) (Int.le_refl _) (by rw [hz2]; decide) (by decide)
 have em : madeCells (Value.agg #[.string ⟨#[]⟩, .int .i64 0, .int .i64 0, .bool false]).cells ((1 : Int).toNat * i0.size) = #[.string ⟨#[]⟩, .int .i64 0, .int .i64 0, .bool false] := by
  rw [hz1]
  apply Array.ext'
  simp [madeCells, Value.cells, List.range_succ]
 rw [em] at hk
 simp at hk
 go_enter Tryz.func150, Tryz.ntmps150
 go_wp2
 go_ret
 have b1 := block_alloc_old (block_alloc_new w (.cells #[.string ⟨#[]⟩, .int .i64 0, .int .i64 0, .bool false] 274)) (.cells #[.slice (some ⟨w.heap.size, 0, none⟩) 1 1, .slice none 0 0, .int .i64 0] 243)
 have b2 := block_alloc_new (w.alloc (.cells #[.string ⟨#[]⟩, .int .i64 0, .int .i64 0, .bool false] 274)) (.cells #[.slice (some ⟨w.heap.size, 0, none⟩) 1 1, .slice none 0 0, .int .i64 0] 243)
 rw [World.size_alloc] at b2
 refine ⟨w.heap.size + 1, [w.heap.size + 1, w.heap.size], rfl, ⟨w.heap.size, 0, 1, 1, fun _ => Lk.zero, .slice none 0 0, [], rfl, by omega, LInv.nil, by omega, by simp [Value.ownBlock], b2, ?_, Sl.nil _ _ _⟩, by intro b hb; simp at hb; omega, ((Fr.refl [] w).alloc _).alloc _⟩
 refine (Sl.built (size := 4) (e := 274) w #[.string ⟨#[]⟩, .int .i64 0, .int .i64 0, .bool false] 1 rfl (by decide)).fr ((Fr.refl [] _).alloc _) (fun b _ => by simp)
end Go.Proofs.YtfeicmpbfbhiiaaGreat
set_option linter.unusedVariables false
set_option linter.unusedSimpArgs false
namespace Go.Proofs.YtfeicmpbfbhiiaaGreat
open Go.RowKit
abbrev IRT := World → Nat → List Nat → (ByteArray → Option (Nat × Nat)) → Nat → Prop
structure IRok (IR : IRT) : Prop where
 fr : ∀ {w w' : World} {p n : Nat} {F G : List Nat} {M : ByteArray → Option (Nat × Nat)}, IR w p F M n → Fr G w w' → Dis F G → IR w' p F M n
 lt : ∀ {w : World} {p n : Nat} {F : List Nat} {M : ByteArray → Option (Nat × Nat)}, IR w p F M n → Lt F w
def rowsF (k g : Nat) (Fx : List Nat) (G : Nat → List Nat) : List Nat := g :: (Fx ++ (List.range k).flatMap G)
theorem mem_rowsF {k g : Nat} {Fx : List Nat} {G : Nat → List Nat} {b : Nat} : b ∈ rowsF k g Fx G ↔ b = g ∨ b ∈ Fx ∨ ∃ i, i < k ∧ b ∈ G i := by simp [rowsF]
structure RAt (IR : IRT) (k : Nat) (w : World) (g x : Nat) (Fx : List Nat) (P : Nat → Nat) (G : Nat → List Nat) (L : Nat → List (Nat × ByteArray)) (M : ByteArray → Option (Nat × Nat)) (n : Nat) : Prop where
 blk : ∃ cur T z, w.heap[g]? = some (.cells cur T z) ∧ ∀ i, i < k → cur[i]? = some (.pointer (some ⟨P i, 0, none⟩))
 idx : IR w x Fx M n
 lst : ∀ i, i < k → LRep w (P i) (G i) (L i)
 g1 : g ∉ Fx
 g2 : ∀ i, i < k → g ∉ G i
 d1 : ∀ i, i < k → Dis Fx (G i)
 d2 : ∀ i j, i < k → j < k → i ≠ j → Dis (G i) (G j)
section
variable {IR : IRT} {k : Nat} {w w' : World} {g x : Nat} {Fx : List Nat} {P : Nat → Nat} {G : Nat → List Nat} {L : Nat → List (Nat × ByteArray)} {M : ByteArray → Option (Nat × Nat)} {n : Nat}
theorem RAt.fr (o : IRok IR) (h : RAt IR k w g x Fx P G L M n) {H : List Nat} (f : Fr H w w') (hd : Dis (rowsF k g Fx G) H) : RAt IR k w' g x Fx P G L M n := by
 obtain ⟨⟨cur, T, z, hb, hc⟩, idx, lst, g1, g2, d1, d2⟩ := h
 exact ⟨⟨cur, T, z, f.get hb (hd g (mem_rowsF.2 (.inl rfl))), hc⟩, o.fr idx f (fun b hb => hd b (mem_rowsF.2 (.inr (.inl hb)))), fun i hi => (lst i hi).fr f (fun b hb => hd b (mem_rowsF.2 (.inr (.inr ⟨i, hi, hb⟩)))), g1, g2, d1, d2⟩
theorem RAt.lt (o : IRok IR) (h : RAt IR k w g x Fx P G L M n) : Lt (rowsF k g Fx G) w := by
 obtain ⟨⟨cur, T, z, hb, hc⟩, idx, lst, g1, g2, d1, d2⟩ := h
 intro b hb2
 rcases mem_rowsF.1 hb2 with rfl | hb2 | ⟨i, hi, hb2⟩
 ·exact lt_of_block hb
 ·exact o.lt idx b hb2
 ·exact (lst i hi).lt b hb2
theorem RAt.cell (h : RAt IR k w g x Fx P G L M n) {i : Nat} (hi : i < k) : w.cell? ⟨g, i, none⟩ = some (.pointer (some ⟨P i, 0, none⟩)) := by
 obtain ⟨cur, T, z, hb, hc⟩ := h.blk
 rw [cell_of_block hb]; exact hc i hi
/-- One of the lists is changed. -/
theorem RAt.list (o : IRok IR) (h : RAt IR k w g x Fx P G L M n) {r : Nat} (hr : r < k) {Gr : List Nat} {Lr : List (Nat × ByteArray)} (hl : LRep w' (P r) Gr Lr) (hs : Sub Gr (G r) w) (f : Fr (G r) w w') :
  RAt IR k w' g x Fx P (up G r Gr) (up L r Lr) M n ∧ Sub (rowsF k g Fx (up G r Gr)) (rowsF k g Fx G) w ∧ Fr (rowsF k g Fx G) w w' := by
 have hlt := h.lt o
 obtain ⟨⟨cur, T, z, hb, hc⟩, idx, lst, g1, g2, d1, d2⟩ := h
 refine ⟨⟨⟨cur, T, z, f.get hb (g2 r hr), hc⟩, o.fr idx f (d1 r hr), fun i hi => ?_, g1, fun i hi => ?_, fun i hi => ?_, fun i j hi hj hij => ?_⟩, ?_, f.mono fun b hb _ => mem_rowsF.2 (.inr (.inr ⟨r, hr, hb⟩))⟩
 ·by_cases e : i = r
  ·subst e; rw [up_same, up_same]; exact hl
  ·rw [up_other _ _ _ _ e, up_other _ _ _ _ e]; exact (lst i hi).fr f (d2 i r hi hr e)
 ·by_cases e : i = r
  ·subst e
   rw [up_same]
   intro hg
   rcases hs g hg with h1 | h1
   ·exact g2 i hi h1
   ·have := hlt g (mem_rowsF.2 (.inl rfl)); omega
  ·rw [up_other _ _ _ _ e]; exact g2 i hi
 ·by_cases e : i = r
  ·subst e; rw [up_same]; exact ((d1 i hi).symm.sub hs (fun b hb => hlt b (mem_rowsF.2 (.inr (.inl hb))))).symm
  ·rw [up_other _ _ _ _ e]; exact d1 i hi
 ·by_cases e : i = r
  ·subst e
   rw [up_same, up_other _ _ _ _ (Ne.symm hij)]
   exact (d2 i j hi hj hij).sub hs (fun b hb => hlt b (mem_rowsF.2 (.inr (.inr ⟨j, hj, hb⟩))))
  ·rw [up_other _ _ _ _ e]
   by_cases e2 : j = r
   ·subst e2
    rw [up_same]
    exact ((d2 j i hj hi (Ne.symm hij)).sub hs (fun b hb => hlt b (mem_rowsF.2 (.inr (.inr ⟨i, hi, hb⟩))))).symm
   ·rw [up_other _ _ _ _ e2]; exact d2 i j hi hj hij
 ·intro b hb
  rcases mem_rowsF.1 hb with rfl | hb | ⟨i, hi, hb⟩
  ·exact .inl (mem_rowsF.2 (.inl rfl))
  ·exact .inl (mem_rowsF.2 (.inr (.inl hb)))
  ·by_cases e : i = r
   ·subst e
    rw [up_same] at hb
    rcases hs b hb with h1 | h1
    ·exact .inl (mem_rowsF.2 (.inr (.inr ⟨i, hi, h1⟩)))
    ·exact .inr h1
   ·rw [up_other _ _ _ _ e] at hb
    exact .inl (mem_rowsF.2 (.inr (.inr ⟨i, hi, hb⟩)))
/-- The index is changed. -/
theorem RAt.index (o : IRok IR) (h : RAt IR k w g x Fx P G L M n) {Fx' : List Nat} {M' : ByteArray → Option (Nat × Nat)} {n' : Nat} (hi : IR w' x Fx' M' n') (hs : Sub Fx' Fx w) (f : Fr Fx w w') :
  RAt IR k w' g x Fx' P G L M' n' ∧ Sub (rowsF k g Fx' G) (rowsF k g Fx G) w ∧ Fr (rowsF k g Fx G) w w' := by
 have hlt := h.lt o
 obtain ⟨⟨cur, T, z, hb, hc⟩, idx, lst, g1, g2, d1, d2⟩ := h
 refine ⟨⟨⟨cur, T, z, f.get hb g1, hc⟩, hi, fun i hi => (lst i hi).fr f (d1 i hi).symm, ?_, g2, fun i hi => (d1 i hi).sub hs (fun b hb => hlt b (mem_rowsF.2 (.inr (.inr ⟨i, hi, hb⟩)))), d2⟩, ?_, f.mono fun b hb _ => mem_rowsF.2 (.inr (.inl hb))⟩
 ·intro hg
  rcases hs g hg with h1 | h1
  ·exact g1 h1
  ·have := hlt g (mem_rowsF.2 (.inl rfl)); omega
 ·intro b hb
  rcases mem_rowsF.1 hb with rfl | hb | ⟨i, hi, hb⟩
  ·exact .inl (mem_rowsF.2 (.inl rfl))
  ·rcases hs b hb with h1 | h1
   ·exact .inl (mem_rowsF.2 (.inr (.inl h1)))
   ·exact .inr h1
  ·exact .inl (mem_rowsF.2 (.inr (.inr ⟨i, hi, hb⟩)))
end
theorem Fr.via {F G : List Nat} {a b c : World} (h : Fr F a b) (s : Sub G F a) (k : Fr G b c) : Fr F a c :=
 h.trans k (fun _ h _ => h) (fun x hx hl => by
  rcases s x hx with h1 | h1
  ·exact h1
  ·omega)
theorem Sub.fr {F G H : List Nat} {a b : World} (s : Sub G F a) (h : Fr F a b) (k : Sub H G b) : Sub H F a := s.trans k h.size
theorem Sub.old {F G : List Nat} {a b : World} (s : Sub G F b) (h : a.heap.size ≤ b.heap.size) : Sub G F a := fun x hx => by
 rcases s x hx with h1 | h1
 ·exact .inl h1
 ·right; omega
theorem Fr.nil {F : List Nat} {a b : World} (h : Fr [] a b) : Fr F a b := h.mono (by simp)
/-- k rows: their keys. -/
def RRep (IR : IRT) (k : Nat) (w : World) (v : Value) (F : List Nat) (K : Rows) : Prop :=
 ∃ (g cap x : Nat) (Fx : List Nat) (P : Nat → Nat) (G : Nat → List Nat) (L : Nat → List (Nat × ByteArray)) (M : ByteArray → Option (Nat × Nat)) (n : Nat),
  v = .agg #[.slice (some ⟨g, 0, none⟩) k cap, .pointer (some ⟨x, 0, none⟩)] ∧ F = rowsF k g Fx G ∧ RAt IR k w g x Fx P G L M n ∧ n ≤ tot k K ∧ RNd k K ∧ RCoh k K L M
theorem RRep.fr {IR : IRT} (o : IRok IR) {k : Nat} {w w' : World} {v : Value} {F H : List Nat} {K : Rows} (h : RRep IR k w v F K) (f : Fr H w w') (hd : Dis F H) : RRep IR k w' v F K := by
 obtain ⟨g, cap, x, Fx, P, G, L, M, n, rfl, rfl, ha, hr⟩ := h
 exact ⟨g, cap, x, Fx, P, G, L, M, n, rfl, rfl, ha.fr o f hd, hr⟩
theorem RRep.lt {IR : IRT} (o : IRok IR) {k : Nat} {w : World} {v : Value} {F : List Nat} {K : Rows} (h : RRep IR k w v F K) : Lt F w := by
 obtain ⟨g, cap, x, Fx, P, G, L, M, n, rfl, rfl, ha, hr⟩ := h
 exact ha.lt o
theorem RRep.nd {IR : IRT} {k : Nat} {w : World} {v : Value} {F : List Nat} {K : Rows} (h : RRep IR k w v F K) : RNd k K := by
 obtain ⟨g, cap, x, Fx, P, G, L, M, n, rfl, rfl, ha, hn, hr, hc⟩ := h
 exact hr
theorem RRep.form {IR : IRT} {k : Nat} {w : World} {v : Value} {F : List Nat} {K : Rows} (h : RRep IR k w v F K) : ∃ g cap x, v = .agg #[.slice (some ⟨g, 0, none⟩) k cap, .pointer (some ⟨x, 0, none⟩)] ∧ g < w.heap.size := by
 obtain ⟨g, cap, x, Fx, P, G, L, M, n, rfl, rfl, ha, hr⟩ := h
 obtain ⟨cur, T, z, hb, _⟩ := ha.blk
 exact ⟨g, cap, x, rfl, lt_of_block hb⟩
/-- Where a key stands: its row; below 0: nowhere. -/
def AtRow (k : Nat) (K : Rows) (key : ByteArray) (r : Int) : Prop := (∃ i : Nat, i < k ∧ r = i ∧ key ∈ K i) ∨ (r = -1 ∧ ∀ i, key ∉ K i)
/-- What is left behind a change of the rows. -/
def RowsRet (IR : IRT) (k : Nat) (w : World) (v : Value) (F : List Nat) (K : Rows) (w' : World) : Prop := ∃ F', RRep IR k w' v F' K ∧ Sub F' F w ∧ Fr F w w'
theorem RowsRet.fr {IR : IRT} (o : IRok IR) {k : Nat} {w w1 w2 : World} {v : Value} {F : List Nat} {K : Rows} (h : RowsRet IR k w v F K w1) (f : Fr [] w1 w2) : RowsRet IR k w v F K w2 := by
 obtain ⟨F', h1, h2, h3⟩ := h
 exact ⟨F', h1.fr o f (fun b _ => by simp), h2, h3.same f.nil⟩
theorem RowsRet.old {IR : IRT} {k : Nat} {w0 w w1 : World} {v : Value} {F : List Nat} {K : Rows} (h : RowsRet IR k w v F K w1) (f : Fr [] w0 w) : RowsRet IR k w0 v F K w1 := by
 obtain ⟨F', h1, h2, h3⟩ := h
 exact ⟨F', h1, h2.old f.size, f.nil.same h3⟩
theorem RowsRet.trans {IR : IRT} {k : Nat} {w w1 w2 : World} {v : Value} {F F1 : List Nat} {K : Rows} (h1 : Sub F1 F w) (h2 : Fr F w w1) (h : RowsRet IR k w1 v F1 K w2) : RowsRet IR k w v F K w2 := by
 obtain ⟨F', a1, a2, a3⟩ := h
 exact ⟨F', a1, h1.fr h2 a2, h2.via h1 a3⟩
/-- What comes back is a slice in new memory that reads as xs. -/
def SlRet (w : World) (e : TypeId) (size n : Nat) (xs : List Value) (en : Ending) (w' : World) : Prop := ∃ v, en = .returned v ∧ Sl w' e size v n xs ∧ Ge w.heap.size v.ownBlock.toList ∧ Fr [] w w'
theorem OwnRet.sl {w w' : World} {e : TypeId} {size n : Nat} {xs : List Value} {en : Ending} (h : OwnRet w e size n xs en w') : SlRet w e size n xs en w' := by
 obtain ⟨v, h1, h2, h3⟩ := h
 exact ⟨v, h1, Sl.ofOwn h2, Own.base_le h2, h3⟩
end Go.Proofs.YtfeicmpbfbhiiaaGreat
