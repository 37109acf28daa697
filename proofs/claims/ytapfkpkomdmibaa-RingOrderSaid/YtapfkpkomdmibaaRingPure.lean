/- The plain laws of a row that goes round: what Push, Pop and At do to the values that wait. -/
import Derived.Test.YtapfkpkomdmibaaBase
set_option linter.unusedVariables false
set_option linter.unusedSimpArgs false
namespace Go.Proofs.Ytapfkpkomdmibaa
open Go.RowKit

section
variable {α : Type}
def clRoom (r : Int) : Nat := (min (max r 0) 4096).toNat
def atV (z : α) (L : List α) (i : Int) : α := if i < 0 then z else L.getD i.toNat z
def atB (L : List α) (i : Int) : Bool := decide (0 ≤ i) && decide (i < L.length)
def popV (z : α) (L : List α) : α := L.headD z
def popB (L : List α) : Bool := !L.isEmpty
def popL (L : List α) : List α := L.tail
def pushB (cap : Nat) (L : List α) : Bool := decide (L.length < cap)
def pushL (cap : Nat) (L : List α) (v : α) : List α := if L.length < cap then L ++ [v] else L

/-- What waits, read off the room l from place f on. -/
def Waits (l : List α) (f : Nat) (L : List α) : Prop := L.length ≤ l.length ∧ (f < l.length ∨ l.length = 0) ∧ ∀ i, i < L.length → l[(f + i) % l.length]? = L[i]?

theorem Waits.push {l : List α} {f : Nat} {L : List α} (h : Waits l f L) (hn : L.length < l.length) (v : α) : Waits (l.set ((f + L.length) % l.length) v) f (L ++ [v]) := by
  obtain ⟨h1, h2, h3⟩ := h
  refine ⟨by simp; omega, by simpa using h2, fun i hi => ?_⟩
  have hp : 0 < l.length := by omega
  have hm := Nat.mod_lt (f + L.length) hp
  simp only [List.length_set]
  by_cases e : i = L.length
  · subst e; simp [hm]
  · have hi' : i < L.length := by simp at hi; omega
    have hne : (f + L.length) % l.length ≠ (f + i) % l.length := by
      intro he
      have h4 : f < l.length := by omega
      rcases Nat.lt_or_ge (f + L.length) l.length with a | a <;> rcases Nat.lt_or_ge (f + i) l.length with b | b
      · rw [Nat.mod_eq_of_lt a, Nat.mod_eq_of_lt b] at he; omega
      · omega
      · rw [Nat.mod_eq_sub_mod a, Nat.mod_eq_of_lt (by omega), Nat.mod_eq_of_lt b] at he; omega
      · rw [Nat.mod_eq_sub_mod a, Nat.mod_eq_of_lt (by omega), Nat.mod_eq_sub_mod b, Nat.mod_eq_of_lt (by omega)] at he; omega
    rw [List.getElem?_set_ne hne, h3 i hi', List.getElem?_append_left hi']

theorem Waits.pop {l : List α} {f : Nat} {L : List α} (h : Waits l f L) (hn : 0 < L.length) (v : α) : Waits (l.set f v) ((f + 1) % l.length) L.tail := by
  obtain ⟨h1, h2, h3⟩ := h
  have hp : 0 < l.length := by omega
  have hf : f < l.length := by omega
  refine ⟨by simp; omega, by simp; exact .inl (Nat.mod_lt _ hp), fun i hi => ?_⟩
  simp only [List.length_set]
  have hi' : i + 1 < L.length := by simp at hi; omega
  have e1 : ((f + 1) % l.length + i) % l.length = (f + (i + 1)) % l.length := by rw [Nat.add_mod ((f+1) % l.length), Nat.mod_mod, ← Nat.add_mod]; congr 1; omega
  have hne : f ≠ (f + (i + 1)) % l.length := by
    intro he
    rcases Nat.lt_or_ge (f + (i + 1)) l.length with b | b
    · rw [Nat.mod_eq_of_lt b] at he; omega
    · rw [Nat.mod_eq_sub_mod b, Nat.mod_eq_of_lt (by omega)] at he; omega
  rw [e1, List.getElem?_set_ne hne, h3 _ hi']
  simp
end
end Go.Proofs.Ytapfkpkomdmibaa
