/- The engine of chapter 14 (tinylfu) in plain Lean: rows 0 the window, 1 probation, 2 protected; a sketch (chapter 7), a door (chapter 8). -/
import Derived.Test.YtphlancijlljcaaGreatS3Pure
import Derived.Test.YtphlancijlljcaaGreatMix
set_option linter.unusedVariables false
set_option linter.unusedSimpArgs false
namespace Go.Proofs.YtphlancijlljcaaGreat
open Go.RowKit

structure Sk where
  n : Nat
  cell : Nat → Nat
  sum : Nat
/-- A key's cell in row i. -/
def Sk.at (s : Sk) (key : ByteArray) (i : Nat) : Nat := i * s.n + placeN (hashI (i + 1) key) s.n
def Sk.count (s : Sk) (key : ByteArray) : Nat := min (s.cell (s.at key 0)) (min (s.cell (s.at key 1)) (min (s.cell (s.at key 2)) (s.cell (s.at key 3))))
def Sk.isAt (s : Sk) (key : ByteArray) (j : Nat) : Bool := decide (j = s.at key 0 ∨ j = s.at key 1 ∨ j = s.at key 2 ∨ j = s.at key 3)
def Sk.halve (s : Sk) : Sk := { s with cell := fun j => s.cell j / 2, sum := s.sum / 2 }
def Sk.up (s : Sk) (key : ByteArray) : Sk := { s with cell := fun j => if s.isAt key j = true ∧ s.cell j = s.count key then s.count key + 1 else s.cell j, sum := s.sum + 1 }
def Sk.add (s : Sk) (key : ByteArray) : Sk :=
  if s.count key = 15 then s
  else if s.sum + 1 = 10 * s.n then (s.up key).halve
  else s.up key
/-- The least power of two (from a on) that is not below r; f: how often it is doubled at most. -/
def pow2From (r : Nat) : Nat → Nat → Nat
  | 0, a => a
  | f + 1, a => if a < r then pow2From r f (a * 2) else a
def Sk.new (room : Nat) : Sk := ⟨pow2From room 11 8, fun _ => 0, 0⟩
structure Sk.Inv (s : Sk) : Prop where
  n8 : 8 ≤ s.n
  n2 : s.n ≤ 2048
  ev : 2 ∣ s.n
  le : ∀ j, s.cell j ≤ 15
  sum : s.sum < 10 * s.n

structure Dr where
  n : Nat
  bit : Nat → Bool
def Dr.at (d : Dr) (key : ByteArray) (i : Nat) : Nat := placeN (hashI (11 + i) key) d.n
def Dr.has (d : Dr) (key : ByteArray) : Bool := d.bit (d.at key 0) && d.bit (d.at key 1) && d.bit (d.at key 2)
def Dr.add (d : Dr) (key : ByteArray) : Dr := { d with bit := fun j => d.bit j || decide (j = d.at key 0 ∨ j = d.at key 1 ∨ j = d.at key 2) }
def Dr.clear (d : Dr) : Dr := { d with bit := fun _ => false }
def Dr.new (room : Nat) : Dr := ⟨max 64 (8 * pow2From room 11 1), fun _ => false⟩
structure Dr.Inv (d : Dr) : Prop where
  n64 : 64 ≤ d.n
  n2 : d.n ≤ 16384
  ev : 64 ∣ d.n

structure Tiny where
  K : Rows
  k : Sk
  d : Dr
  c : Nat
def Tiny.window (s : Tiny) : Nat := max 1 (s.c / 8)
def Tiny.main (s : Tiny) : Nat := s.c - s.window
def Tiny.prot (s : Tiny) : Nat := s.main * 4 / 5
def Tiny.len (s : Tiny) : Nat := (s.K 0).length + (s.K 1).length + (s.K 2).length
def Tiny.has (s : Tiny) (key : ByteArray) : Bool := decide (key ∈ s.K 0 ∨ key ∈ s.K 1 ∨ key ∈ s.K 2)
def Tiny.notes (s : Tiny) (key : ByteArray) : Tiny :=
  if s.d.has key = false then { s with d := s.d.add key }
  else if (s.k.add key).sum < s.k.sum then { s with k := s.k.add key, d := (s.d.add key).clear }
  else { s with k := s.k.add key, d := s.d.add key }
def Tiny.often (s : Tiny) (key : ByteArray) : Nat := s.k.count key + (s.d.has key).toNat
def Tiny.victim (s : Tiny) : Nat := if 0 < (s.K 1).length then 1 else if 0 < (s.K 2).length then 2 else 0
def Tiny.admits (s : Tiny) : List ByteArray × Tiny :=
  if (s.K 1).length + (s.K 2).length < s.main then ([], { s with K := pushK s.K 1 (oldest s.K 0) })
  else if s.victim = 0 ∨ s.often (oldest s.K 0) ≤ s.often (oldest s.K s.victim) then ([oldest s.K 0], { s with K := dropK s.K (oldest s.K 0) })
  else ([oldest s.K s.victim], { s with K := pushK (dropK s.K (oldest s.K s.victim)) 1 (oldest s.K 0) })
def Tiny.demote (s : Tiny) : Tiny := if s.prot < (s.K 2).length then { s with K := pushK s.K 1 (oldest s.K 2) } else s
def Tiny.fits (s : Tiny) : List ByteArray × Tiny := if s.window < (s.K 0).length then s.admits else ([], s)
def Tiny.access (s0 : Tiny) (key : ByteArray) : Bool × List ByteArray × Tiny :=
  let s := s0.notes key
  if key ∈ s.K 0 then (true, [], { s with K := pushK s.K 0 key })
  else if key ∈ s.K 1 ∨ key ∈ s.K 2 then (true, [], ({ s with K := pushK s.K 2 key } : Tiny).demote)
  else (false, ({ s with K := pushK s.K 0 key } : Tiny).fits)
def Tiny.load (s : Tiny) (key : ByteArray) : Bool × Tiny :=
  if s.has key = true ∨ s.len = s.c then (false, s)
  else if (s.K 1).length + (s.K 2).length < s.main then (true, { s with K := pushK s.K 1 key })
  else (true, { s with K := pushK s.K 0 key })
def Tiny.remove (s : Tiny) (key : ByteArray) : Bool × Tiny := if s.has key then (true, { s with K := dropK s.K key }) else (false, s)
def Tiny.evict (s : Tiny) : ByteArray × Bool × Tiny :=
  if s.len = 0 then (⟨#[]⟩, false, s) else (oldest s.K s.victim, true, { s with K := dropK s.K (oldest s.K s.victim) })
structure Tiny.Inv (s : Tiny) : Prop where
  nd : RNd 3 s.K
  c1 : 1 ≤ s.c
  c2 : s.c ≤ 1024
  win : (s.K 0).length ≤ s.window
  res : (s.K 1).length + (s.K 2).length ≤ s.main
  pr : (s.K 2).length ≤ s.prot
  ki : s.k.Inv
  di : s.d.Inv

theorem Sk.Inv.up_le {s : Sk} (h : s.Inv) (key : ByteArray) (hc : s.count key ≠ 15) : ∀ j, (s.up key).cell j ≤ 15 := by
  intro j
  simp only [Sk.up]
  have := h.le (s.at key 0)
  have : s.count key ≤ s.cell (s.at key 0) := Nat.min_le_left _ _
  split
  · omega
  · exact h.le j
theorem Sk.Inv.add {s : Sk} (h : s.Inv) (key : ByteArray) : (s.add key).Inv := by
  have hs := h.sum
  have hn := h.n8
  unfold Sk.add
  split
  · exact h
  · rename_i hc
    have hl := h.up_le key hc
    split
    · rename_i h10
      exact ⟨h.n8, h.n2, h.ev, fun j => by have := hl j; simp only [Sk.halve]; omega, by simp only [Sk.halve, Sk.up]; omega⟩
    · exact ⟨h.n8, h.n2, h.ev, hl, by simp only [Sk.up]; omega⟩
theorem Tiny.Inv.notes {s : Tiny} (h : s.Inv) (key : ByteArray) : (s.notes key).Inv ∧ (s.notes key).K = s.K ∧ (s.notes key).c = s.c := by
  obtain ⟨nd, c1, c2, win, res, pr, ki, di⟩ := h
  unfold Tiny.notes
  have d1 : (s.d.add key).Inv := ⟨di.n64, di.n2, di.ev⟩
  split
  · exact ⟨⟨nd, c1, c2, win, res, pr, ki, d1⟩, rfl, rfl⟩
  · split
    · exact ⟨⟨nd, c1, c2, win, res, pr, ki.add key, ⟨di.n64, di.n2, di.ev⟩⟩, rfl, rfl⟩
    · exact ⟨⟨nd, c1, c2, win, res, pr, ki.add key, d1⟩, rfl, rfl⟩
theorem Tiny.win_le {s : Tiny} (h1 : 1 ≤ s.c) : s.window ≤ s.c ∧ 1 ≤ s.window ∧ s.main + s.window = s.c := by
  unfold Tiny.main Tiny.window
  omega
theorem Tiny.victim_pos {s : Tiny} (h : s.victim ≠ 0) : 0 < (s.K s.victim).length ∧ (s.victim = 1 ∨ s.victim = 2) := by
  unfold Tiny.victim at *
  split at h
  · rename_i h1; rw [if_pos h1]; exact ⟨h1, .inl rfl⟩
  · rename_i h1
    split at h
    · rename_i h2; rw [if_neg h1, if_pos h2]; exact ⟨h2, .inr rfl⟩
    · exact absurd rfl h
theorem Tiny.victim_zero {s : Tiny} (h : s.victim = 0) : (s.K 1).length = 0 ∧ (s.K 2).length = 0 := by
  unfold Tiny.victim at h
  split at h
  · cases h
  · split at h
    · cases h
    · omega
/-- What is between a push into the window and the admission. -/
structure Tiny.Inv1 (s : Tiny) : Prop where
  nd : RNd 3 s.K
  c1 : 1 ≤ s.c
  c2 : s.c ≤ 1024
  win : (s.K 0).length ≤ s.window + 1
  res : (s.K 1).length + (s.K 2).length ≤ s.main
  pr : (s.K 2).length ≤ s.prot
  ki : s.k.Inv
  di : s.d.Inv
theorem Tiny.Inv1.fits {s : Tiny} (h : s.Inv1) : s.fits.2.Inv ∧ s.fits.2.c = s.c ∧ (s.fits.2.len + s.fits.1.length = s.len) := by
  obtain ⟨nd, c1, c2, win, res, pr, ki, di⟩ := h
  obtain ⟨w1, w2, w3⟩ := Tiny.win_le c1
  unfold Tiny.fits
  split
  · rename_i hw
    have h0 : 0 < (s.K 0).length := by omega
    have hm := oldest_mem h0
    unfold Tiny.admits
    split
    · have hd := push_move nd hm 1
      have d0 := hd 0
      have d1 := hd 1
      have d2 := hd 2
      simp at d0 d1 d2
      exact ⟨⟨nd.push (by omega) _ (oldest_sz nd 0), c1, c2, by simp only [Tiny.window] at *; omega, by simp only [Tiny.main, Tiny.window] at *; omega, by simp only [Tiny.prot, Tiny.main, Tiny.window] at *; omega, ki, di⟩, rfl, by simp only [Tiny.len, List.length_nil]; omega⟩
    · split
      · have hd := drop_len_in nd hm
        have d0 := hd 0
        have d1 := hd 1
        have d2 := hd 2
        simp at d0 d1 d2
        exact ⟨⟨nd.drop _, c1, c2, by simp only [Tiny.window] at *; omega, by simp only [Tiny.main, Tiny.window] at *; omega, by simp only [Tiny.prot, Tiny.main, Tiny.window] at *; omega, ki, di⟩, rfl, by simp only [Tiny.len, List.length_cons, List.length_nil]; omega⟩
      · rename_i h1 h2
        simp only [not_or] at h2
        obtain ⟨v1, v2⟩ := Tiny.victim_pos h2.1
        have hmv := oldest_mem v1
        have hne : oldest s.K 0 ≠ oldest s.K s.victim := fun e => nd.dis 0 s.victim (fun e2 => h2.1 e2.symm) _ hm (e ▸ hmv)
        have hm2 : oldest s.K 0 ∈ dropK s.K (oldest s.K s.victim) 0 := mem_dropK.2 ⟨hm, hne⟩
        have hd := push_move (nd.drop (oldest s.K s.victim)) hm2 1
        have he := drop_len_in nd hmv
        have d0 := hd 0
        have d1 := hd 1
        have d2 := hd 2
        have e0 := he 0
        have e1 := he 1
        have e2 := he 2
        simp at d0 d1 d2
        have f0 : (dropK s.K (oldest s.K s.victim) 0).length = (s.K 0).length := by rcases v2 with v | v <;> simp [v] at e0 ⊢ <;> exact e0
        have f12 : (dropK s.K (oldest s.K s.victim) 1).length + (dropK s.K (oldest s.K s.victim) 2).length + 1 = (s.K 1).length + (s.K 2).length := by
          rcases v2 with v | v <;> simp [v] at e1 e2 ⊢ <;> omega
        have f2 := drop_len_le s.K (oldest s.K s.victim) 2
        exact ⟨⟨((nd.drop _).push (by omega) _ (oldest_sz nd 0) : RNd 3 (pushK (dropK s.K (oldest s.K s.victim)) 1 (oldest s.K 0))), c1, c2, by simp only [Tiny.window] at *; omega, by simp only [Tiny.main, Tiny.window] at *; omega, by simp only [Tiny.prot, Tiny.main, Tiny.window] at *; omega, ki, di⟩, rfl, by simp only [Tiny.len, List.length_cons, List.length_nil]; omega⟩
  · rename_i hw
    have win2 : (s.K 0).length ≤ s.window := by omega
    exact ⟨⟨nd, c1, c2, win2, res, pr, ki, di⟩, rfl, rfl⟩
theorem Tiny.Inv.access {s0 : Tiny} (h0 : s0.Inv) {key : ByteArray} (hz : key.size ≤ maxLen) : (s0.access key).2.2.Inv := by
  obtain ⟨h, _, _⟩ := h0.notes key
  obtain ⟨nd, c1, c2, win, res, pr, ki, di⟩ := id h
  unfold Tiny.access
  simp only
  generalize s0.notes key = s at *
  split
  · rename_i hm
    have hd := push_move nd hm 0
    have d0 := hd 0
    have d1 := hd 1
    have d2 := hd 2
    simp at d0 d1 d2
    exact ⟨nd.push (by omega) _ hz, c1, c2, by simp only [Tiny.window] at *; omega, by simp only [Tiny.main, Tiny.window] at *; omega, by simp only [Tiny.prot, Tiny.main, Tiny.window] at *; omega, ki, di⟩
  · split
    · rename_i hn0 hm
      have hnd2 := nd.push (r := 2) (by omega) key hz
      have hl : (pushK s.K 2 key 0).length = (s.K 0).length ∧ (pushK s.K 2 key 1).length + (pushK s.K 2 key 2).length = (s.K 1).length + (s.K 2).length ∧ (pushK s.K 2 key 2).length ≤ (s.K 2).length + 1 := by
        rcases hm with hm | hm
        · have hd := push_move nd hm 2
          have d0 := hd 0
          have d1 := hd 1
          have d2 := hd 2
          simp at d0 d1 d2
          omega
        · have hd := push_move nd hm 2
          have d0 := hd 0
          have d1 := hd 1
          have d2 := hd 2
          simp at d0 d1 d2
          omega
      obtain ⟨l0, l1, l2⟩ := hl
      unfold Tiny.demote
      split
      · rename_i hp
        simp only at hp ⊢
        have hm2 := oldest_mem (K := pushK s.K 2 key) (r := 2) (by omega)
        have hd := push_move hnd2 hm2 1
        have d0 := hd 0
        have d1 := hd 1
        have d2 := hd 2
        simp at d0 d1 d2
        exact ⟨hnd2.push (by omega) _ (oldest_sz hnd2 2), c1, c2, by simp only [Tiny.window] at *; omega, by simp only [Tiny.main, Tiny.window] at *; omega, by simp only [Tiny.prot, Tiny.main, Tiny.window] at *; omega, ki, di⟩
      · rename_i hp
        exact ⟨hnd2, c1, c2, by simp only [Tiny.window] at *; omega, by simp only [Tiny.main, Tiny.window] at *; omega, by simp only [Tiny.prot, Tiny.main, Tiny.window] at *; omega, ki, di⟩
    · rename_i hn0 hm
      simp only [not_or] at hm
      have hk : ∀ i, key ∉ s.K i := not_rows nd fun i hi => by
        have : i = 0 ∨ i = 1 ∨ i = 2 := by omega
        rcases this with rfl | rfl | rfl
        · exact hn0
        · exact hm.1
        · exact hm.2
      have hd := push_new hk 0
      have d0 := hd 0
      have d1 := hd 1
      have d2 := hd 2
      simp at d0 d1 d2
      exact (Tiny.Inv1.fits (s := { s with K := pushK s.K 0 key }) ⟨nd.push (by omega) _ hz, c1, c2, by simp only [Tiny.window] at *; omega, by simp only [Tiny.main, Tiny.window] at *; omega, by simp only [Tiny.prot, Tiny.main, Tiny.window] at *; omega, ki, di⟩).1
end Go.Proofs.YtphlancijlljcaaGreat
