/- Texts of a proof about the given program, those parts that this claim reaches. -/
import Derived.Test.YtfeicmpbfbhiiaaGreatPEg00
import Derived.ChangeOld
import Derived.Deep.Slices
set_option linter.unusedVariables false
set_option linter.unusedSimpArgs false
namespace Go.Proofs.YtfeicmpbfbhiiaaGreat
open Go.RowKit Go.ChangeShapes Go.WideShapes
/-- What a cell that came in keeps: a number fits its kind, a string is not too long. -/
def Good : Value → Prop
 | .int k n => (Lit.int k n).wf = true
 | .string s => s.size ≤ maxLen
 | _ => True
theorem addr_none {w : World} {b o : Nat} {s : Option Nat} {v : Value} (h : w.cell? ⟨b, o, s⟩ = some v) : s = none := by
 cases s with
 | none => rfl
 | some y => simp [World.cell?] at h; split at h <;> simp at h
theorem rd_of_trod {H : Type} {enc : TypeId × Value → H} {P : Program} {w : World} {spare : Nat → Bool} {held : Bool} {t e : TypeId} {fuel : Nat} {x : DataW H × List MemPlace} {α : Type} (A : α → List Value) (size : Nat)
  (hsz : ∀ a, (A a).length = size) (hpos : 0 < size) (hc : P.cellsOf e = size) (ht : P.underlying t = some (.slice e)) {a : Option Addr} {len cap : Nat}
  (hdec : ∀ n cs y, DataW.trod enc P w 0 spare held n e cs = some y → ∃ b : α, cs = A b ∧ ∀ u ∈ A b, Good u)
  (h : DataW.trod enc P w 0 spare held fuel t [.slice a len cap] = some x) :
  ∃ l : List α, l.length = len ∧ len ≤ maxLen ∧ Rd w size (.slice a len cap) len (l.flatMap A) ∧ ∀ y ∈ l, ∀ u ∈ A y, Good u := by
 rcases DataW.trod_slice ht h with ⟨h1, _⟩ | ⟨a', len', cap', elems, rest, n, _, h1, _, _, hl, hm, hel, hall, _, _⟩
 ·simp at h1
  obtain ⟨rfl, rfl, rfl⟩ := h1
  exact ⟨[], rfl, by decide, ⟨by simp, _, _, rfl, .inl rfl⟩, by simp⟩
 ·simp at h1
  obtain ⟨rfl, rfl, rfl⟩ := h1
  rw [hc] at hall
  by_cases h0 : len = 0
  ·subst h0
   exact ⟨[], rfl, by decide, ⟨by simp, _, _, rfl, .inl rfl⟩, by simp⟩
  have key : ∀ i, i < len → ∃ b : α, (w.cells? 0 (a'.add (i * size)) size = some (A b)) ∧ ∀ u ∈ A b, Good u := by
   intro i hi
   have hx := hall i hi
   rw [List.getElem?_eq_getElem (by omega)] at hx
   obtain ⟨cs', k1, k2⟩ := Option.bind_eq_some_iff.1 hx
   obtain ⟨b, rfl, hg⟩ := hdec _ _ _ k2
   exact ⟨b, k1, hg⟩
  obtain ⟨b0, _⟩ := key 0 (by omega)
  obtain ⟨f, hf⟩ := @Go.Deep.choose_lt α ⟨b0⟩ len _ key
  obtain ⟨b, o, s⟩ := a'
  have hs : s = none := by
   obtain ⟨_, _, h3⟩ := World.cells?_some (hf 0 (by omega)).1
   have := h3 0 hpos
   rw [List.getElem?_eq_getElem (by rw [hsz]; exact hpos)] at this
   simp [Addr.add] at this
   exact addr_none this
  subst hs
  refine ⟨(List.range len).map f, by simp, by omega, ⟨by rw [flat_len hsz]; simp, _, _, rfl, .inr ⟨b, o, rfl, ?_⟩⟩, ?_⟩
  ·intro j u hj
   have hjl : j < len * size := by
    have := (List.getElem?_eq_some_iff.1 hj).1
    rw [flat_len hsz] at this
    simpa using this
   have hk : j / size < len := by rw [Nat.div_lt_iff_lt_mul hpos]; exact hjl
   have hr : j % size < size := Nat.mod_lt _ hpos
   have e1 : j = j / size * size + j % size := by rw [Nat.mul_comm]; exact (Nat.div_add_mod j size).symm
   obtain ⟨_, _, h3⟩ := World.cells?_some (hf (j / size) hk).1
   have h4 := h3 (j % size) hr
   rw [addr_add, addr_add] at h4
   rw [e1] at hj
   rw [flat_get hsz _ (j / size) (by simpa using hk) _ hr] at hj
   simp at hj
   rw [e1, ← Nat.add_assoc, h4, hj]
  ·intro y hy u hu
   simp at hy
   obtain ⟨i, hi, rfl⟩ := hy
   exact (hf i hi).2 u hu
theorem dec_str {H : Type} {enc : TypeId × Value → H} {P : Program} {w : World} {spare : Nat → Bool} {held : Bool} {e : TypeId} (he : P.underlying e = some .string) (n : Nat) (cs : List Value) (y : DataW H × List MemPlace)
  (h : DataW.trod enc P w 0 spare held n e cs = some y) : ∃ b : ByteArray, cs = [.string b] ∧ ∀ u ∈ [Value.string b], Good u := by
 obtain ⟨n, rfl, _, hw⟩ := DataW.trod_string he h
 exact ⟨n, rfl, by simpa [Good] using hw⟩
end Go.Proofs.YtfeicmpbfbhiiaaGreat
