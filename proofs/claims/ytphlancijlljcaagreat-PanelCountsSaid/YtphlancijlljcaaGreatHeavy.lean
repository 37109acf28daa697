/- 'heavy' of several laws: is one of the first keys too long? And shadows of whatever kind, by their counts alone. -/
import Derived.Test.YtphlancijlljcaaGreatShadow3
import Derived.Test.YtphlancijlljcaaGreatArg
set_option linter.unusedVariables false
set_option linter.unusedSimpArgs false
namespace Go.Proofs.YtphlancijlljcaaGreat
open Go.RowKit
attribute [local go_sem ↓] Go.wp_at_zero Go.wp_at_succ
def strE (s : ByteArray) : List Value := [.string s]
def heavyS (m : Nat) (l : List ByteArray) : Bool := (l.take m).any fun a => decide (40 < a.size)
theorem heavyS_no {m : Nat} {l : List ByteArray} (h : heavyS m l = false) (k : Nat) (hk : k < l.length) (hk2 : k < m) : l[k].size ≤ 40 := by
 unfold heavyS at h
 rw [List.any_eq_false] at h
 have := h l[k] (by rw [List.mem_take_iff_getElem]; exact ⟨k, by omega, rfl⟩)
 simpa using this
theorem str_cell {w : World} {l : List ByteArray} {b o c : Nat} (hc : ∀ j u, (l.flatMap strE)[j]? = some u → w.cell? ⟨b, o + j, none⟩ = some u) (k : Nat) (hk : k < l.length) : w.cell? ⟨b, o + k, none⟩ = some (.string l[k]) := by
 have := hc k (.string l[k]) (by have := flat_get (f := strE) (s := 1) (fun _ => rfl) l k hk 0 (by omega); rw [Nat.mul_one] at this; exact this)
 exact this
set_option maxRecDepth 100000 in
theorem heavy17 (l : List ByteArray) (v : Value) (w : World) (h : Rd w 1 v l.length (l.flatMap strE)) (hl : Hid (l.length ≤ maxLen)) :
  Calls Tryz.prog 15 #[v] w fun e w' => e = .returned (.bool (heavyS 200 l)) ∧ w = w' := by
 obtain ⟨hlen, a, c, rfl, hcc⟩ := h
 have HC := Lib.hid hcc
 clear hcc hlen
 go_enter Tryz.func15, Tryz.ntmps15
 go_wp2
 go_loop [3] (fun i => ∃ k : Nat, k ≤ l.length ∧ k ≤ 200 ∧ i = .int .i64 k ∧ Hid (∀ j (hj : j < l.length), j < k → ¬ 40 < l[j].size)) (fun i => 200 - (intOf i).toNat)
 case atStart => exact ⟨0, by omega, by omega, rfl, fun j _ hj => absurd hj (by omega)⟩
 case round =>
  obtain ⟨k, hk, hk2, rfl, hn⟩ := hrel
  by_cases hlt : k < l.length ∧ k < 200
  ·obtain ⟨hl1, hl2⟩ := hlt
   rcases HC.out with hz | ⟨b, o, rfl, hcell⟩
   ·omega
   have y3 := str_cell (c := c) hcell k hl1
   obtain ⟨key, hkey⟩ : ∃ x, l[k] = x := ⟨_, rfl⟩
   rw [hkey] at y3
   have HK := Lib.hid hkey
   clear hcell hkey
   by_cases hs : 40 < key.size
   ·have fin : heavyS 200 l = true := by
     unfold heavyS
     rw [List.any_eq_true]
     exact ⟨l[k], by rw [List.mem_take_iff_getElem]; exact ⟨k, by omega, rfl⟩, by rw [HK.out]; simpa using hs⟩
    have FIN := Lib.hid fin
    clear fin
    go_wp2
    go_ret
    exact ⟨by rw [FIN.out]; rfl, rfl⟩
   ·go_wp2
    refine ⟨⟨k + 1, by omega, by omega, by go_num, fun j hj hjk => ?_⟩, by simp [intOf]; omega⟩
    by_cases e : j = k
    ·subst e; rw [HK.out]; exact hs
    ·exact hn.out j hj (by omega)
  ·have fin : heavyS 200 l = false := by
    unfold heavyS
    rw [List.any_eq_false]
    intro x hx
    rw [List.mem_take_iff_getElem] at hx
    obtain ⟨j, hj, rfl⟩ := hx
    simpa using hn.out j (by omega) (by omega)
   have FIN := Lib.hid fin
   clear fin
   have hge : l.length ≤ k ∨ (k < l.length ∧ 200 ≤ k) := by omega
   rcases hge with hge | ⟨hge0, hge⟩
   all_goals
    go_wp2
    go_ret
    exact ⟨by rw [FIN.out]; rfl, rfl⟩
set_option maxRecDepth 100000 in
theorem heavy18 (l : List ByteArray) (v : Value) (w : World) (h : Rd w 1 v l.length (l.flatMap strE)) (hl : Hid (l.length ≤ maxLen)) :
  Calls Tryz.prog 21 #[v] w fun e w' => e = .returned (.bool (heavyS 120 l)) ∧ w = w' := by
 obtain ⟨hlen, a, c, rfl, hcc⟩ := h
 have HC := Lib.hid hcc
 clear hcc hlen
 go_enter Tryz.func21, Tryz.ntmps21
 go_wp2
 go_loop [3] (fun i => ∃ k : Nat, k ≤ l.length ∧ k ≤ 120 ∧ i = .int .i64 k ∧ Hid (∀ j (hj : j < l.length), j < k → ¬ 40 < l[j].size)) (fun i => 120 - (intOf i).toNat)
 case atStart => exact ⟨0, by omega, by omega, rfl, fun j _ hj => absurd hj (by omega)⟩
 case round =>
  obtain ⟨k, hk, hk2, rfl, hn⟩ := hrel
  by_cases hlt : k < l.length ∧ k < 120
  ·obtain ⟨hl1, hl2⟩ := hlt
   rcases HC.out with hz | ⟨b, o, rfl, hcell⟩
   ·omega
   have y3 := str_cell (c := c) hcell k hl1
   obtain ⟨key, hkey⟩ : ∃ x, l[k] = x := ⟨_, rfl⟩
   rw [hkey] at y3
   have HK := Lib.hid hkey
   clear hcell hkey
   by_cases hs : 40 < key.size
   ·have fin : heavyS 120 l = true := by
     unfold heavyS
     rw [List.any_eq_true]
     exact ⟨l[k], by rw [List.mem_take_iff_getElem]; exact ⟨k, by omega, rfl⟩, by rw [HK.out]; simpa using hs⟩
    have FIN := Lib.hid fin
    clear fin
    go_wp2
    go_ret
    exact ⟨by rw [FIN.out]; rfl, rfl⟩
   ·go_wp2
    refine ⟨⟨k + 1, by omega, by omega, by go_num, fun j hj hjk => ?_⟩, by simp [intOf]; omega⟩
    by_cases e : j = k
    ·subst e; rw [HK.out]; exact hs
    ·exact hn.out j hj (by omega)
  ·have fin : heavyS 120 l = false := by
    unfold heavyS
    rw [List.any_eq_false]
    intro x hx
    rw [List.mem_take_iff_getElem] at hx
    obtain ⟨j, hj, rfl⟩ := hx
    simpa using hn.out j (by omega) (by omega)
   have FIN := Lib.hid fin
   clear fin
   have hge : l.length ≤ k ∨ (k < l.length ∧ 120 ≤ k) := by omega
   rcases hge with hge | ⟨hge0, hge⟩
   all_goals
    go_wp2
    go_ret
    exact ⟨by rw [FIN.out]; rfl, rfl⟩
/-- A shadow of whatever kind, by its counts. -/
def ShAny (w : World) (p : Nat) (F : List Nat) (kind : Int) (a b : Cts) : Prop := ∃ s : Shd, ShRep w p F s ∧ s.kind = kind ∧ s.ep = a ∧ s.tot = b
def ShAnyGo (w : World) (p : Nat) (F : List Nat) (kind : Int) (a b : Cts) (w' : World) : Prop := ∃ F', ShAny w' p F' kind a b ∧ Sub F' F w ∧ Fr F w w'
section
variable {w w' : World} {p : Nat} {F G : List Nat} {kind : Int} {a b : Cts}
theorem ShAny.fr (h : ShAny w p F kind a b) (f : Fr G w w') (hd : Dis F G) : ShAny w' p F kind a b := by
 obtain ⟨s, h, r⟩ := h
 exact ⟨s, h.fr f hd, r⟩
theorem ShAny.fr0 (h : ShAny w p F kind a b) (f : Fr [] w w') : ShAny w' p F kind a b := h.fr f (fun b _ => by simp)
theorem ShAny.lt (h : ShAny w p F kind a b) : Lt F w := by
 obtain ⟨s, h, r⟩ := h
 exact h.lt
/-- Its block, and what it is when the block is written. -/
theorem ShRep.split {s : Shd} (h : ShRep w p F s) : p ∈ F ∧ ∃ v q, ShB w p s.kind v q s.ep s.tot ∧ ∀ (w' : World) (a' b' : Cts), ShB w' p s.kind v q a' b' → Fr [p] w w' → ShRep w' p F { s with ep := a', tot := b' } := by
 obtain ⟨e, q, Fe, Fg, rfl, h1, h2, h3, h4, h5, h6, h7⟩ := h
 have d : ∀ {A : List Nat}, p ∉ A → Dis A [p] := fun hn b hb hx => by simp at hx; subst hx; exact hn hb
 exact ⟨by simp, _, q, h4, fun w' a' b' hb f => ⟨e, q, Fe, Fg, rfl, h1, h2, h3, hb, h5.fr f (d h1), h6.fr f (d h2), h7⟩⟩
theorem ShAny.split (h : ShAny w p F kind a b) : p ∈ F ∧ ∃ v q, ShB w p kind v q a b ∧ ∀ (w' : World) (a' b' : Cts), ShB w' p kind v q a' b' → Fr [p] w w' → ShAny w' p F kind a' b' := by
 obtain ⟨s, h, rfl, rfl, rfl⟩ := h
 obtain ⟨h0, v, q, h1, h2⟩ := h.split
 exact ⟨h0, v, q, h1, fun w' a' b' x y => ⟨_, h2 w' a' b' x y, rfl, rfl, rfl⟩⟩
def ShAccRet (w : World) (p : Nat) (F : List Nat) (kind : Int) (a b : Cts) (en : Ending) (w' : World) : Prop :=
 ∃ hit back : Bool, en = .returned (.bool hit) ∧ (hit && back) = false ∧ ShAnyGo w p F kind (a.count hit back) (b.count hit back) w'
theorem nand (x y : Bool) : (x && (!x && y)) = false := by cases x <;> rfl
theorem shany_access (h : ShAny w p F kind a b) (key : ByteArray) (hk : key.size ≤ maxLen) : Calls Tryz.prog 18 #[.pointer (some ⟨p, 0, none⟩), .string key] w (ShAccRet w p F kind a b) := by
 obtain ⟨s, h, rfl, rfl, rfl⟩ := h
 refine (shaccess h key hk).mono ?_
 rintro en w' ⟨rfl, F', h1, h2, h3⟩
 exact ⟨_, _, rfl, nand _ _, F', ⟨_, h1, rfl, rfl, rfl⟩, h2, h3⟩
def ShAnyNew (w : World) (kind : Int) (en : Ending) (w' : World) : Prop := ∃ p F, en = .returned (.tuple #[.pointer (some ⟨p, 0, none⟩), .int .i64 0]) ∧ ShAny w' p F kind Cts.zero Cts.zero ∧ Ge w.heap.size F ∧ Fr [] w w'
theorem shany_new (w : World) (kind room : Int) (k0 : 0 ≤ kind) (k1 : kind < 5) (h0 : -9223372036854775808 ≤ room) (h1 : room ≤ 9223372036854775807) :
  Calls Tryz.prog 16 #[.int .i64 kind, .int .i64 room] w (ShAnyNew w kind) := by
 obtain ⟨k, rfl⟩ := Int.eq_ofNat_of_zero_le k0
 refine (shnew w k (by omega) room h0 h1).mono ?_
 rintro en w' ⟨p, F, rfl, a, b, c⟩
 exact ⟨p, F, rfl, ⟨_, a, rfl, rfl, rfl⟩, b, c⟩
theorem shany_total (h : ShAny w p F kind a b) : Calls Tryz.prog 19 #[.pointer (some ⟨p, 0, none⟩)] w fun en w' => en = .returned b.val ∧ Fr [] w w' := by
 obtain ⟨_, v, q, h1, _⟩ := h.split
 exact shtotal h1
theorem shany_epoch (h : ShAny w p F kind a b) : Calls Tryz.prog 17 #[.pointer (some ⟨p, 0, none⟩)] w fun en w' => en = .returned a.val ∧ ShAny w' p F kind Cts.zero b ∧ Fr F w w' := by
 obtain ⟨h0, v, q, h1, h2⟩ := h.split
 refine (shepoch h1).mono ?_
 rintro en w' ⟨rfl, hb, f⟩
 exact ⟨rfl, h2 _ _ _ hb f, f.mono (by intro b hb _; simp at hb; subst hb; exact h0)⟩
theorem shany_kind (h : ShAny w p F kind a b) : Calls Tryz.prog 25 #[.pointer (some ⟨p, 0, none⟩)] w fun en w' => en = .returned (.int .i64 kind) ∧ w = w' := by
 obtain ⟨_, v, q, h1, _⟩ := h.split
 obtain ⟨k0, _⟩ := h1.cell
 clear h h1
 go_enter Tryz.func25, Tryz.ntmps25
 go_wp2
 go_ret
 exact ⟨rfl, rfl⟩
end
end Go.Proofs.YtphlancijlljcaaGreat
