/- The engine of chapter 11 (twoq) in plain Lean: rows 0 A1in, 1 A1out, 2 Am. -/
import Derived.Test.YtphlancijlljcaaGreatArcPure
set_option linter.unusedVariables false
set_option linter.unusedSimpArgs false
namespace Go.Proofs.YtphlancijlljcaaGreat
open Go.RowKit

structure Twoq where
  K : Rows
  c : Nat
def Twoq.kin (s : Twoq) : Nat := max 1 (s.c / 4)
def Twoq.kout (s : Twoq) : Nat := max 1 (s.c / 2)
def Twoq.len (s : Twoq) : Nat := (s.K 0).length + (s.K 2).length
def Twoq.has (s : Twoq) (key : ByteArray) : Bool := decide (key ∈ s.K 0 ∨ key ∈ s.K 2)
def Twoq.evict (s : Twoq) : ByteArray × Bool × Twoq :=
  if s.len = 0 then (⟨#[]⟩, false, s)
  else if (s.K 0).length ≤ s.kin ∧ 0 < (s.K 2).length then (oldest s.K 2, true, { s with K := dropK s.K (oldest s.K 2) })
  else (oldest s.K 0, true, { s with K := trim (pushK s.K 1 (oldest s.K 0)) 1 s.kout })
def Twoq.reclaim (s : Twoq) : List ByteArray × Twoq := if s.len < s.c then ([], s) else ([s.evict.1], s.evict.2.2)
def Twoq.access (s : Twoq) (key : ByteArray) : Bool × List ByteArray × Twoq :=
  if key ∈ s.K 2 then (true, [], { s with K := pushK s.K 2 key })
  else if key ∈ s.K 0 then (true, [], s)
  else if key ∈ s.K 1 then
    let r := ({ s with K := dropK s.K key } : Twoq).reclaim
    (false, r.1, { s with K := pushK r.2.K 2 key })
  else (false, s.reclaim.1, { s with K := pushK s.reclaim.2.K 0 key })
def Twoq.load (s : Twoq) (key : ByteArray) : Bool × Twoq := if s.has key = true ∨ s.len = s.c then (false, s) else (true, { s with K := pushK s.K 2 key })
def Twoq.remove (s : Twoq) (key : ByteArray) : Bool × Twoq := if s.has key then (true, { s with K := dropK s.K key }) else (false, s)
structure Twoq.Inv (s : Twoq) : Prop where
  nd : RNd 3 s.K
  c1 : 1 ≤ s.c
  c2 : s.c ≤ 1024
  res : (s.K 0).length + (s.K 2).length ≤ s.c
  out : (s.K 1).length ≤ s.kout
theorem Twoq.Inv.evict {s : Twoq} (h : s.Inv) : s.evict.2.2.Inv ∧ s.evict.2.2.c = s.c ∧ s.evict.2.2.len + (if s.len = 0 then 0 else 1) = s.len ∧ (∀ x i, x ∈ s.evict.2.2.K i → ∃ j, x ∈ s.K j) := by
  unfold Twoq.evict
  split
  · exact ⟨h, rfl, by simp, fun x i hx => ⟨i, hx⟩⟩
  · rename_i hl
    obtain ⟨hn, c1, c2, res, out⟩ := id h
    simp only [Twoq.len] at hl
    split
    · rename_i h2
      have hd := drop_len_in hn (oldest_mem h2.2)
      have d0 := hd 0
      have d1 := hd 1
      have d2 := hd 2
      simp at d0 d1 d2
      exact ⟨⟨hn.drop _, c1, c2, by simp only; omega, by simp only [Twoq.kout] at out ⊢; omega⟩, rfl, by simp only [Twoq.len]; omega, fun x i hx => ⟨i, (mem_dropK.1 hx).1⟩⟩
    · rename_i h2
      have hk : 1 ≤ s.kin := Nat.le_max_left _ _
      have h0 : 0 < (s.K 0).length := by omega
      have hd := push_move hn (oldest_mem h0) 1
      have d0 := hd 0
      have d1 := hd 1
      have d2 := hd 2
      simp at d0 d1 d2
      have hn2 := hn.push (r := 1) (by omega) (oldest s.K 0) (oldest_sz hn 0)
      have t0 := trim_other (pushK s.K 1 (oldest s.K 0)) (r := 1) (i := 0) s.kout (by omega)
      have t1 := trim_len (pushK s.K 1 (oldest s.K 0)) 1 s.kout
      have t2 := trim_other (pushK s.K 1 (oldest s.K 0)) (r := 1) (i := 2) s.kout (by omega)
      refine ⟨⟨hn2.trim _ _, c1, c2, ?_, ?_⟩, rfl, ?_, ?_⟩
      · simp only; rw [t0, t2]; omega
      · simp only [Twoq.kout] at t1 ⊢; rw [t1]; exact Nat.min_le_right _ _
      · simp only [Twoq.len]; rw [t0, t2]; omega
      · intro x i hx
        have hx2 : x ∈ pushK s.K 1 (oldest s.K 0) i := by
          simp only at hx
          unfold trim at hx
          by_cases e : i = 1
          · subst e; rw [up_same] at hx; exact List.mem_of_mem_drop hx
          · rw [up_other _ _ _ _ e] at hx; exact hx
        rcases mem_pushK.1 hx2 with ⟨a, _⟩ | ⟨_, rfl⟩
        · exact ⟨i, a⟩
        · exact ⟨0, oldest_mem h0⟩
theorem Twoq.Inv.reclaim {s : Twoq} (h : s.Inv) : s.reclaim.2.Inv ∧ s.reclaim.2.c = s.c ∧ s.reclaim.2.len < s.c ∧ (∀ x i, x ∈ s.reclaim.2.K i → ∃ j, x ∈ s.K j) := by
  unfold Twoq.reclaim
  split
  · rename_i hl
    exact ⟨h, rfl, hl, fun x i hx => ⟨i, hx⟩⟩
  · rename_i hl
    obtain ⟨a1, a2, a3, a4⟩ := h.evict
    have hc := h.c1
    have hr := h.res
    simp only [Twoq.len] at hl
    refine ⟨a1, a2, ?_, a4⟩
    rw [if_neg (by simp only [Twoq.len]; omega)] at a3
    simp only [Twoq.len] at a3 ⊢
    omega
theorem Twoq.Inv.access {s : Twoq} (h : s.Inv) {key : ByteArray} (hz : key.size ≤ maxLen) : (s.access key).2.2.Inv := by
  obtain ⟨hn, c1, c2, res, out⟩ := id h
  unfold Twoq.access
  split
  · rename_i hm
    have hd := push_move hn hm 2
    have d0 := hd 0
    have d1 := hd 1
    have d2 := hd 2
    simp at d0 d1 d2
    exact ⟨hn.push (by omega) key hz, c1, c2, by simp only; omega, by simp only [Twoq.kout] at out ⊢; omega⟩
  · split
    · exact h
    · split
      · rename_i h2 h0 h1
        have hd := drop_len_in hn h1
        have d0 := hd 0
        have d1 := hd 1
        have d2 := hd 2
        simp at d0 d1 d2
        have hi : ({ s with K := dropK s.K key } : Twoq).Inv := ⟨hn.drop _, c1, c2, by simp only; omega, by simp only [Twoq.kout] at out ⊢; omega⟩
        obtain ⟨a1, a2, a3, a4⟩ := hi.reclaim
        have hk : ∀ i, key ∉ ({ s with K := dropK s.K key } : Twoq).reclaim.2.K i := fun i hx => by
          obtain ⟨j, hj⟩ := a4 key i hx
          exact not_mem_dropK j hj
        have hd := push_new hk 2
        have d0 := hd 0
        have d1 := hd 1
        have d2 := hd 2
        simp at d0 d1 d2
        have o := a1.out
        rw [Twoq.kout, a2] at o
        simp only [Twoq.len] at a3
        exact ⟨a1.nd.push (by omega) key hz, c1, c2, by simp only; omega, by simp only [Twoq.kout] at o ⊢; omega⟩
      · rename_i h2 h0 h1
        have hk0 : ∀ i, key ∉ s.K i := not_rows hn fun i hi => by
          have : i = 0 ∨ i = 1 ∨ i = 2 := by omega
          rcases this with rfl | rfl | rfl
          · exact h0
          · exact h1
          · exact h2
        obtain ⟨a1, a2, a3, a4⟩ := h.reclaim
        have hk : ∀ i, key ∉ s.reclaim.2.K i := fun i hx => by
          obtain ⟨j, hj⟩ := a4 key i hx
          exact hk0 j hj
        have hd := push_new hk 0
        have d0 := hd 0
        have d1 := hd 1
        have d2 := hd 2
        simp at d0 d1 d2
        have o := a1.out
        rw [Twoq.kout, a2] at o
        simp only [Twoq.len] at a3
        exact ⟨a1.nd.push (by omega) key hz, c1, c2, by simp only; omega, by simp only [Twoq.kout] at o ⊢; omega⟩
theorem Twoq.Inv.load {s : Twoq} (h : s.Inv) {key : ByteArray} (hz : key.size ≤ maxLen) : (s.load key).2.Inv := by
  unfold Twoq.load
  split
  · exact h
  · rename_i hx
    simp only [not_or, Twoq.len, Twoq.has] at hx
    obtain ⟨hx1, hx2⟩ := hx
    obtain ⟨hn, c1, c2, res, out⟩ := id h
    have p0 := push_len s.K 2 0 key
    have p1 := push_len s.K 2 1 key
    have p2 := push_len s.K 2 2 key
    have e0 := drop_len_le s.K key 0
    have e1 := drop_len_le s.K key 1
    have e2 := drop_len_le s.K key 2
    simp at p0 p1 p2
    exact ⟨hn.push (by omega) key hz, c1, c2, by simp only; omega, by simp only [Twoq.kout] at out ⊢; omega⟩
theorem Twoq.Inv.remove {s : Twoq} (h : s.Inv) (key : ByteArray) : (s.remove key).2.Inv := by
  unfold Twoq.remove
  split
  · obtain ⟨hn, c1, c2, res, out⟩ := h
    have e0 := drop_len_le s.K key 0
    have e1 := drop_len_le s.K key 1
    have e2 := drop_len_le s.K key 2
    exact ⟨hn.drop _, c1, c2, by simp only; omega, by simp only [Twoq.kout] at out ⊢; omega⟩
  · exact h
end Go.Proofs.YtphlancijlljcaaGreat
