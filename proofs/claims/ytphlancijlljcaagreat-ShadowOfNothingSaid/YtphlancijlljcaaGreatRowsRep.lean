/- Rows in memory: lists in a slice, and an index of where each key stands. -/
import Derived.Test.YtphlancijlljcaaGreatArcPure
import Derived.Test.YtphlancijlljcaaGreatList4
set_option linter.unusedVariables false
set_option linter.unusedSimpArgs false
namespace Go.Proofs.YtphlancijlljcaaGreat
open Go.RowKit

abbrev IRT := World → Nat → List Nat → (ByteArray → Option (Nat × Nat)) → Nat → Prop
structure IRok (IR : IRT) : Prop where
  fr : ∀ {w w' : World} {p n : Nat} {F G : List Nat} {M : ByteArray → Option (Nat × Nat)}, IR w p F M n → Fr G w w' → Dis F G → IR w' p F M n
  lt : ∀ {w : World} {p n : Nat} {F : List Nat} {M : ByteArray → Option (Nat × Nat)}, IR w p F M n → Lt F w
def rowsF (k g : Nat) (Fx : List Nat) (G : Nat → List Nat) : List Nat := g :: (Fx ++ (List.range k).flatMap G)
theorem mem_rowsF {k g : Nat} {Fx : List Nat} {G : Nat → List Nat} {b : Nat} : b ∈ rowsF k g Fx G ↔ b = g ∨ b ∈ Fx ∨ ∃ i, i < k ∧ b ∈ G i := by simp [rowsF]
structure RAt (IR : IRT) (k : Nat) (w : World) (g x : Nat) (Fx : List Nat) (P : Nat → Nat) (G : Nat → List Nat) (L : Nat → List (Nat × ByteArray)) (M : ByteArray → Option (Nat × Nat)) (n : Nat) : Prop where
  blk : ∃ cur T z, w.heap[g]? = some (.cells cur T z) ∧ ∀ i, i < k → cur[i]? = some (.pointer (some ⟨P i, 0, none⟩))
  idx : IR w x Fx M n
  lst : ∀ i, i < k → LRep w (P i) (G i) (L i)
  g1 : g ∉ Fx
  g2 : ∀ i, i < k → g ∉ G i
  d1 : ∀ i, i < k → Dis Fx (G i)
  d2 : ∀ i j, i < k → j < k → i ≠ j → Dis (G i) (G j)
section
variable {IR : IRT} {k : Nat} {w w' : World} {g x : Nat} {Fx : List Nat} {P : Nat → Nat} {G : Nat → List Nat} {L : Nat → List (Nat × ByteArray)} {M : ByteArray → Option (Nat × Nat)} {n : Nat}
theorem RAt.fr (o : IRok IR) (h : RAt IR k w g x Fx P G L M n) {H : List Nat} (f : Fr H w w') (hd : Dis (rowsF k g Fx G) H) : RAt IR k w' g x Fx P G L M n := by
  obtain ⟨⟨cur, T, z, hb, hc⟩, idx, lst, g1, g2, d1, d2⟩ := h
  exact ⟨⟨cur, T, z, f.get hb (hd g (mem_rowsF.2 (.inl rfl))), hc⟩, o.fr idx f (fun b hb => hd b (mem_rowsF.2 (.inr (.inl hb)))), fun i hi => (lst i hi).fr f (fun b hb => hd b (mem_rowsF.2 (.inr (.inr ⟨i, hi, hb⟩)))), g1, g2, d1, d2⟩
theorem RAt.lt (o : IRok IR) (h : RAt IR k w g x Fx P G L M n) : Lt (rowsF k g Fx G) w := by
  obtain ⟨⟨cur, T, z, hb, hc⟩, idx, lst, g1, g2, d1, d2⟩ := h
  intro b hb2
  rcases mem_rowsF.1 hb2 with rfl | hb2 | ⟨i, hi, hb2⟩
  · exact lt_of_block hb
  · exact o.lt idx b hb2
  · exact (lst i hi).lt b hb2
theorem RAt.cell (h : RAt IR k w g x Fx P G L M n) {i : Nat} (hi : i < k) : w.cell? ⟨g, i, none⟩ = some (.pointer (some ⟨P i, 0, none⟩)) := by
  obtain ⟨cur, T, z, hb, hc⟩ := h.blk
  rw [cell_of_block hb]; exact hc i hi
/-- One of the lists is changed. -/
theorem RAt.list (o : IRok IR) (h : RAt IR k w g x Fx P G L M n) {r : Nat} (hr : r < k) {Gr : List Nat} {Lr : List (Nat × ByteArray)} (hl : LRep w' (P r) Gr Lr) (hs : Sub Gr (G r) w) (f : Fr (G r) w w') :
    RAt IR k w' g x Fx P (up G r Gr) (up L r Lr) M n ∧ Sub (rowsF k g Fx (up G r Gr)) (rowsF k g Fx G) w ∧ Fr (rowsF k g Fx G) w w' := by
  have hlt := h.lt o
  obtain ⟨⟨cur, T, z, hb, hc⟩, idx, lst, g1, g2, d1, d2⟩ := h
  refine ⟨⟨⟨cur, T, z, f.get hb (g2 r hr), hc⟩, o.fr idx f (d1 r hr), fun i hi => ?_, g1, fun i hi => ?_, fun i hi => ?_, fun i j hi hj hij => ?_⟩, ?_, f.mono fun b hb _ => mem_rowsF.2 (.inr (.inr ⟨r, hr, hb⟩))⟩
  · by_cases e : i = r
    · subst e; rw [up_same, up_same]; exact hl
    · rw [up_other _ _ _ _ e, up_other _ _ _ _ e]; exact (lst i hi).fr f (d2 i r hi hr e)
  · by_cases e : i = r
    · subst e
      rw [up_same]
      intro hg
      rcases hs g hg with h1 | h1
      · exact g2 i hi h1
      · have := hlt g (mem_rowsF.2 (.inl rfl)); omega
    · rw [up_other _ _ _ _ e]; exact g2 i hi
  · by_cases e : i = r
    · subst e; rw [up_same]; exact ((d1 i hi).symm.sub hs (fun b hb => hlt b (mem_rowsF.2 (.inr (.inl hb))))).symm
    · rw [up_other _ _ _ _ e]; exact d1 i hi
  · by_cases e : i = r
    · subst e
      rw [up_same, up_other _ _ _ _ (Ne.symm hij)]
      exact (d2 i j hi hj hij).sub hs (fun b hb => hlt b (mem_rowsF.2 (.inr (.inr ⟨j, hj, hb⟩))))
    · rw [up_other _ _ _ _ e]
      by_cases e2 : j = r
      · subst e2
        rw [up_same]
        exact ((d2 j i hj hi (Ne.symm hij)).sub hs (fun b hb => hlt b (mem_rowsF.2 (.inr (.inr ⟨i, hi, hb⟩))))).symm
      · rw [up_other _ _ _ _ e2]; exact d2 i j hi hj hij
  · intro b hb
    rcases mem_rowsF.1 hb with rfl | hb | ⟨i, hi, hb⟩
    · exact .inl (mem_rowsF.2 (.inl rfl))
    · exact .inl (mem_rowsF.2 (.inr (.inl hb)))
    · by_cases e : i = r
      · subst e
        rw [up_same] at hb
        rcases hs b hb with h1 | h1
        · exact .inl (mem_rowsF.2 (.inr (.inr ⟨i, hi, h1⟩)))
        · exact .inr h1
      · rw [up_other _ _ _ _ e] at hb
        exact .inl (mem_rowsF.2 (.inr (.inr ⟨i, hi, hb⟩)))
/-- The index is changed. -/
theorem RAt.index (o : IRok IR) (h : RAt IR k w g x Fx P G L M n) {Fx' : List Nat} {M' : ByteArray → Option (Nat × Nat)} {n' : Nat} (hi : IR w' x Fx' M' n') (hs : Sub Fx' Fx w) (f : Fr Fx w w') :
    RAt IR k w' g x Fx' P G L M' n' ∧ Sub (rowsF k g Fx' G) (rowsF k g Fx G) w ∧ Fr (rowsF k g Fx G) w w' := by
  have hlt := h.lt o
  obtain ⟨⟨cur, T, z, hb, hc⟩, idx, lst, g1, g2, d1, d2⟩ := h
  refine ⟨⟨⟨cur, T, z, f.get hb g1, hc⟩, hi, fun i hi => (lst i hi).fr f (d1 i hi).symm, ?_, g2, fun i hi => (d1 i hi).sub hs (fun b hb => hlt b (mem_rowsF.2 (.inr (.inr ⟨i, hi, hb⟩)))), d2⟩, ?_, f.mono fun b hb _ => mem_rowsF.2 (.inr (.inl hb))⟩
  · intro hg
    rcases hs g hg with h1 | h1
    · exact g1 h1
    · have := hlt g (mem_rowsF.2 (.inl rfl)); omega
  · intro b hb
    rcases mem_rowsF.1 hb with rfl | hb | ⟨i, hi, hb⟩
    · exact .inl (mem_rowsF.2 (.inl rfl))
    · rcases hs b hb with h1 | h1
      · exact .inl (mem_rowsF.2 (.inr (.inl h1)))
      · exact .inr h1
    · exact .inl (mem_rowsF.2 (.inr (.inr ⟨i, hi, hb⟩)))
end
theorem Fr.via {F G : List Nat} {a b c : World} (h : Fr F a b) (s : Sub G F a) (k : Fr G b c) : Fr F a c :=
  h.trans k (fun _ h _ => h) (fun x hx hl => by
    rcases s x hx with h1 | h1
    · exact h1
    · omega)
theorem Sub.fr {F G H : List Nat} {a b : World} (s : Sub G F a) (h : Fr F a b) (k : Sub H G b) : Sub H F a := s.trans k h.size
theorem Sub.old {F G : List Nat} {a b : World} (s : Sub G F b) (h : a.heap.size ≤ b.heap.size) : Sub G F a := fun x hx => by
  rcases s x hx with h1 | h1
  · exact .inl h1
  · right; omega
theorem Fr.nil {F : List Nat} {a b : World} (h : Fr [] a b) : Fr F a b := h.mono (by simp)
/-- k rows: their keys. -/
def RRep (IR : IRT) (k : Nat) (w : World) (v : Value) (F : List Nat) (K : Rows) : Prop :=
  ∃ (g cap x : Nat) (Fx : List Nat) (P : Nat → Nat) (G : Nat → List Nat) (L : Nat → List (Nat × ByteArray)) (M : ByteArray → Option (Nat × Nat)) (n : Nat),
    v = .agg #[.slice (some ⟨g, 0, none⟩) k cap, .pointer (some ⟨x, 0, none⟩)] ∧ F = rowsF k g Fx G ∧ RAt IR k w g x Fx P G L M n ∧ n ≤ tot k K ∧ RNd k K ∧ RCoh k K L M
theorem RRep.fr {IR : IRT} (o : IRok IR) {k : Nat} {w w' : World} {v : Value} {F H : List Nat} {K : Rows} (h : RRep IR k w v F K) (f : Fr H w w') (hd : Dis F H) : RRep IR k w' v F K := by
  obtain ⟨g, cap, x, Fx, P, G, L, M, n, rfl, rfl, ha, hr⟩ := h
  exact ⟨g, cap, x, Fx, P, G, L, M, n, rfl, rfl, ha.fr o f hd, hr⟩
theorem RRep.lt {IR : IRT} (o : IRok IR) {k : Nat} {w : World} {v : Value} {F : List Nat} {K : Rows} (h : RRep IR k w v F K) : Lt F w := by
  obtain ⟨g, cap, x, Fx, P, G, L, M, n, rfl, rfl, ha, hr⟩ := h
  exact ha.lt o
theorem RRep.nd {IR : IRT} {k : Nat} {w : World} {v : Value} {F : List Nat} {K : Rows} (h : RRep IR k w v F K) : RNd k K := by
  obtain ⟨g, cap, x, Fx, P, G, L, M, n, rfl, rfl, ha, hn, hr, hc⟩ := h
  exact hr
theorem RRep.form {IR : IRT} {k : Nat} {w : World} {v : Value} {F : List Nat} {K : Rows} (h : RRep IR k w v F K) : ∃ g cap x, v = .agg #[.slice (some ⟨g, 0, none⟩) k cap, .pointer (some ⟨x, 0, none⟩)] ∧ g < w.heap.size := by
  obtain ⟨g, cap, x, Fx, P, G, L, M, n, rfl, rfl, ha, hr⟩ := h
  obtain ⟨cur, T, z, hb, _⟩ := ha.blk
  exact ⟨g, cap, x, rfl, lt_of_block hb⟩
/-- Where a key stands: its row; below 0: nowhere. -/
def AtRow (k : Nat) (K : Rows) (key : ByteArray) (r : Int) : Prop := (∃ i : Nat, i < k ∧ r = i ∧ key ∈ K i) ∨ (r = -1 ∧ ∀ i, key ∉ K i)
/-- What is left behind a change of the rows. -/
def RowsRet (IR : IRT) (k : Nat) (w : World) (v : Value) (F : List Nat) (K : Rows) (w' : World) : Prop := ∃ F', RRep IR k w' v F' K ∧ Sub F' F w ∧ Fr F w w'
theorem RowsRet.fr {IR : IRT} (o : IRok IR) {k : Nat} {w w1 w2 : World} {v : Value} {F : List Nat} {K : Rows} (h : RowsRet IR k w v F K w1) (f : Fr [] w1 w2) : RowsRet IR k w v F K w2 := by
  obtain ⟨F', h1, h2, h3⟩ := h
  exact ⟨F', h1.fr o f (fun b _ => by simp), h2, h3.same f.nil⟩
theorem RowsRet.old {IR : IRT} {k : Nat} {w0 w w1 : World} {v : Value} {F : List Nat} {K : Rows} (h : RowsRet IR k w v F K w1) (f : Fr [] w0 w) : RowsRet IR k w0 v F K w1 := by
  obtain ⟨F', h1, h2, h3⟩ := h
  exact ⟨F', h1, h2.old f.size, f.nil.same h3⟩
theorem RowsRet.trans {IR : IRT} {k : Nat} {w w1 w2 : World} {v : Value} {F F1 : List Nat} {K : Rows} (h1 : Sub F1 F w) (h2 : Fr F w w1) (h : RowsRet IR k w1 v F1 K w2) : RowsRet IR k w v F K w2 := by
  obtain ⟨F', a1, a2, a3⟩ := h
  exact ⟨F', a1, h1.fr h2 a2, h2.via h1 a3⟩
/-- What comes back is a slice in new memory that reads as xs. -/
def SlRet (w : World) (e : TypeId) (size n : Nat) (xs : List Value) (en : Ending) (w' : World) : Prop := ∃ v, en = .returned v ∧ Sl w' e size v n xs ∧ Ge w.heap.size v.ownBlock.toList ∧ Fr [] w w'
theorem OwnRet.sl {w w' : World} {e : TypeId} {size n : Nat} {xs : List Value} {en : Ending} (h : OwnRet w e size n xs en w') : SlRet w e size n xs en w' := by
  obtain ⟨v, h1, h2, h3⟩ := h
  exact ⟨v, h1, Sl.ofOwn h2, Own.base_le h2, h3⟩
end Go.Proofs.YtphlancijlljcaaGreat
