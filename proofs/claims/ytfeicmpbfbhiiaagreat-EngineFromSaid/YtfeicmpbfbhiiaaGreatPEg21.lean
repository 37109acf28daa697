/- Texts of a proof about the given program, those parts that this claim reaches. -/
import Derived.Test.YtfeicmpbfbhiiaaGreatPEg00
import Derived.Test.YtfeicmpbfbhiiaaGreatPEg16
set_option linter.unusedVariables false
set_option linter.unusedSimpArgs false
namespace Go.Proofs.YtfeicmpbfbhiiaaGreat
open Go.RowKit
attribute [local go_sem ↓] Go.wp_at_zero Go.wp_at_succ
abbrev HL := List (Nat × ByteArray)
abbrev EM := ByteArray → Option (Nat × Nat × Nat)
/-- The handle of a key in a list; 0: it is not there. -/
def hOf (L : HL) (key : ByteArray) : Nat := ((L.find? fun e => decide (e.2 = key)).map (·.1)).getD 0
def cutL (L : HL) (key : ByteArray) : HL := L.filter fun e => decide (e.2 ≠ key)
theorem hOf_in {L : HL} {key : ByteArray} (h : key ∈ L.map (·.2)) : (hOf L key, key) ∈ L := by
 unfold hOf
 cases hf : L.find? fun e => decide (e.2 = key) with
 | none =>
  obtain ⟨e, he, rfl⟩ := List.mem_map.1 h
  have := List.find?_eq_none.1 hf e he
  simp at this
 | some x =>
  have h3 := List.find?_some hf
  have h4 := List.mem_of_find?_eq_some hf
  simp at h3
  simp only [Option.map_some, Option.getD_some]
  rw [← h3]; exact h4
theorem hOf_out {L : HL} {key : ByteArray} (h : key ∉ L.map (·.2)) : hOf L key = 0 := by
 unfold hOf
 rw [List.find?_eq_none.2]
 ·rfl
 ·intro e he
  simp
  rintro rfl
  exact h (List.mem_map_of_mem he)
theorem cutL_not {L : HL} {key : ByteArray} (h : key ∉ L.map (·.2)) : cutL L key = L := by
 unfold cutL
 rw [List.filter_eq_self]
 intro x hx
 simp
 rintro rfl
 exact h (List.mem_map_of_mem hx)
theorem cutL_split {L1 L2 : HL} {h : Nat} {key : ByteArray} (hn : ((L1 ++ (h, key) :: L2).map (·.2)).Nodup) : cutL (L1 ++ (h, key) :: L2) key = L1 ++ L2 := by
 simp only [List.map_append, List.map_cons] at hn
 rw [List.nodup_append] at hn
 obtain ⟨n1, n2, n3⟩ := hn
 have n4 := List.nodup_cons.1 n2
 unfold cutL
 rw [List.filter_append, List.filter_cons_of_neg (by simp)]
 congr 1
 ·rw [List.filter_eq_self]
  intro a ha
  simpa using fun e => n3 a.2 (List.mem_map_of_mem ha) key (by simp) e
 ·rw [List.filter_eq_self]
  intro a ha
  have : a.2 ≠ key := fun e => n4.1 (e ▸ List.mem_map_of_mem (f := (·.2)) ha)
  simpa using this
theorem cutL_map (L : HL) (key : ByteArray) : (cutL L key).map (·.2) = cutQ (L.map (·.2)) key := by
 unfold cutL cutQ
 rw [List.filter_map]
 rfl
def LrmRet (w : World) (p : Nat) (F : List Nat) (L : HL) (en : Ending) (w' : World) : Prop := (∃ v b, en = .returned (.tuple #[.string v, .bool b])) ∧ ∃ F', LRep w' p F' L ∧ Sub F' F w ∧ Fr F w w'
theorem lrm {w : World} {p : Nat} {F : List Nat} {L : HL} (H : LRep w p F L) (hn : (L.map (·.2)).Nodup) (key : ByteArray) {h : Nat} (hh : hOf L key = h) :
  Calls Tryz.prog 194 #[.pointer (some ⟨p, 0, none⟩), .int .i64 h] w (LrmRet w p F (cutL L key)) := by
 by_cases hk : key ∈ L.map (·.2)
 ·have hm := hOf_in hk
  rw [hh] at hm
  obtain ⟨L1, L2, rfl⟩ := mem_split hm
  rw [cutL_split hn]
  refine (remove_in H).mono ?_
  rintro en w' ⟨rfl, h⟩
  exact ⟨⟨_, _, rfl⟩, h⟩
 ·rw [hOf_out hk] at hh
  subst hh
  rw [cutL_not hk]
  refine (remove_out H (h := 0) (fun h0 => ?_) (by omega)).mono ?_
  ·obtain ⟨e, he, h1⟩ := List.mem_map.1 h0
   have := (H.hnd e he).1
   omega
  ·rintro en w' ⟨rfl, rfl⟩
   exact ⟨⟨_, _, rfl⟩, F, H, Sub.refl _ _, Fr.refl _ _⟩
/-- No more keys than a list that has them all. -/
theorem nd_le {α : Type} [DecidableEq α] : ∀ {l1 l2 : List α}, l1.Nodup → (∀ a, a ∈ l1 → a ∈ l2) → l1.length ≤ l2.length
 | [], _, _, _ => Nat.zero_le _
 | a :: l, l2, hn, hs => by
  have h2 := List.nodup_cons.1 hn
  have ha := hs a (by simp)
  have := nd_le (l1 := l) (l2 := l2.erase a) h2.2 (fun b hb => by
   have hne : b ≠ a := fun e => h2.1 (e ▸ hb)
   exact (List.mem_erase_of_ne hne).2 (hs b (by simp [hb])))
  rw [List.length_erase_of_mem ha] at this
  have := List.length_pos_of_mem ha
  simp
  omega
theorem cnt_keys {α : Type} {T : Nat → Pl α} : ∀ {m : Nat}, (∀ i j, i < m → j < m → (T i).is = 2 → (T j).is = 2 → (T i).key = (T j).key → i = j) →
  (((List.range m).filter fun i => isF T i).map fun i => (T i).key).Nodup ∧ (((List.range m).filter fun i => isF T i).map fun i => (T i).key).length = cnt (isF T) m
 | 0, _ => ⟨by simp, rfl⟩
 | m + 1, h => by
  obtain ⟨h1, h2⟩ := cnt_keys (T := T) (m := m) (fun i j hi hj => h i j (by omega) (by omega))
  rw [List.range_succ, List.filter_append, List.map_append]
  by_cases e : isF T m = true
  ·rw [List.filter_cons_of_pos (by simpa using e)]
   simp only [List.filter_nil, List.map_cons, List.map_nil]
   refine ⟨nd_snoc h1 (fun hm => ?_), ?_⟩
   ·obtain ⟨i, hi, h3⟩ := List.mem_map.1 hm
    have h4 := List.mem_filter.1 hi
    have h5 := List.mem_range.1 h4.1
    have := h i m (by omega) (by omega) (by simpa [isF] using h4.2) (by simpa [isF] using e) h3
    omega
   ·rw [List.length_append, h2]
    simp [cnt, e]
  ·rw [List.filter_cons_of_neg (by simpa using e)]
   simp only [List.filter_nil, List.map_nil, List.append_nil]
   exact ⟨h1, by rw [h2]; simp [cnt, e]⟩
theorem n_le {w : World} {p n : Nat} {F : List Nat} {M : EM} (h : IRepL w p F M n) {l : List ByteArray} (hl : ∀ k, M k ≠ none → k ∈ l) : n ≤ l.length := by
 obtain ⟨g, off, c, m, T, used, rfl, hr, ht, h2, hm, hks⟩ := h
 obtain ⟨h3, h4⟩ := cnt_keys (T := T) (m := m) ht.uniq
 rw [ht.cn, ← h4]
 refine nd_le h3 fun a ha => ?_
 obtain ⟨i, hi, rfl⟩ := List.mem_map.1 ha
 have h5 := List.mem_filter.1 hi
 have h6 := ht.ok i (List.mem_range.1 h5.1) (by simpa [isF] using h5.2)
 exact hl _ (by rw [h6]; simp)
structure LC where
 e : Nat
 sp : Nat
 qp : Nat
 x : Nat
 c : Nat
 most : Nat
structure LSt where
 LS : HL
 LQ : HL
 M : EM
 hots : Int
 ghosts : Int
def LB (u : LC) (w : World) (a b : Int) : Prop :=
 w.heap[u.e]? = some (.cells #[.int .i64 (u.c : Nat), .int .i64 (u.most : Nat), .pointer (some ⟨u.sp, 0, none⟩), .pointer (some ⟨u.qp, 0, none⟩), .pointer (some ⟨u.x, 0, none⟩), .int .i64 a, .int .i64 b] 197 (0, 0))
def LRw (u : LC) (w : World) (F : List Nat) (t : LSt) : Prop :=
 ∃ Fs Fq Fx n, F = u.e :: (Fs ++ (Fq ++ Fx)) ∧ (u.e ∉ Fs ∧ u.e ∉ Fq ∧ u.e ∉ Fx) ∧ (Dis Fs Fq ∧ Dis Fs Fx ∧ Dis Fq Fx) ∧ LB u w t.hots t.ghosts ∧ LRep w u.sp Fs t.LS ∧ LRep w u.qp Fq t.LQ ∧ IRepL w u.x Fx t.M n
def LGo (u : LC) (w : World) (F : List Nat) (t : LSt) (w' : World) : Prop := ∃ F', LRw u w' F' t ∧ Sub F' F w ∧ Fr F w w'
section
variable {u : LC} {w w' w0 w1 w2 : World} {F F1 G : List Nat} {t : LSt}
theorem LRw.fr (h : LRw u w F t) (f : Fr G w w') (hd : Dis F G) : LRw u w' F t := by
 obtain ⟨Fs, Fq, Fx, n, rfl, h1, h2, h3, h4, h5, h6⟩ := h
 exact ⟨Fs, Fq, Fx, n, rfl, h1, h2, f.get h3 (hd _ (by simp)), h4.fr f (fun b hb => hd b (by simp [hb])), h5.fr f (fun b hb => hd b (by simp [hb])), h6.fr f (fun b hb => hd b (by simp [hb]))⟩
theorem LRw.fr0 (h : LRw u w F t) (f : Fr [] w w') : LRw u w' F t := h.fr f (fun b _ => by simp)
theorem LRw.lt (h : LRw u w F t) : Lt F w := by
 obtain ⟨Fs, Fq, Fx, n, rfl, h1, h2, h3, h4, h5, h6⟩ := h
 intro b hb
 simp at hb
 rcases hb with rfl | hb | hb | hb
 ·exact lt_of_block h3
 ·exact h4.lt b hb
 ·exact h5.lt b hb
 ·exact h6.lt b hb
theorem LRw.cells (h : LRw u w F t) : w.cell? ⟨u.e, 0, none⟩ = some (.int .i64 (u.c : Nat)) ∧ w.cell? ⟨u.e, 1, none⟩ = some (.int .i64 (u.most : Nat)) ∧ w.cell? ⟨u.e, 2, none⟩ = some (.pointer (some ⟨u.sp, 0, none⟩)) ∧ w.cell? ⟨u.e, 3, none⟩ = some (.pointer (some ⟨u.qp, 0, none⟩)) ∧
  w.cell? ⟨u.e, 4, none⟩ = some (.pointer (some ⟨u.x, 0, none⟩)) ∧ w.cell? ⟨u.e, 5, none⟩ = some (.int .i64 t.hots) ∧ w.cell? ⟨u.e, 6, none⟩ = some (.int .i64 t.ghosts) := by
 obtain ⟨Fs, Fq, Fx, n, rfl, h1, h2, h3, h4, h5, h6⟩ := h
 have c := cell_of_block h3
 exact ⟨(c 0).trans rfl, (c 1).trans rfl, (c 2).trans rfl, (c 3).trans rfl, (c 4).trans rfl, (c 5).trans rfl, (c 6).trans rfl⟩
theorem LRw.fz (h : LRw u w F t) (i : Nat) : w.frozen? ⟨u.e, i, none⟩ = false := by
 obtain ⟨Fs, Fq, Fx, n, rfl, h1, h2, h3, h4, h5, h6⟩ := h
 exact free_of_block h3 i
theorem LRw.ein (h : LRw u w F t) : u.e ∈ F := by
 obtain ⟨Fs, Fq, Fx, n, rfl, h1, h2, h3, h4, h5, h6⟩ := h
 simp
theorem LGo.refl (h : LRw u w F t) : LGo u w F t w := ⟨F, h, Sub.refl _ _, Fr.refl _ _⟩
theorem LGo.trans (h1 : Sub F1 F w) (h2 : Fr F w w1) (h : LGo u w1 F1 t w2) : LGo u w F t w2 := by
 obtain ⟨F', a1, a2, a3⟩ := h
 exact ⟨F', a1, h1.fr h2 a2, h2.via h1 a3⟩
theorem LGo.old (h : LGo u w F t w1) (f : Fr [] w0 w) : LGo u w0 F t w1 := by
 obtain ⟨F', h1, h2, h3⟩ := h
 exact ⟨F', h1, h2.old f.size, f.nil.same h3⟩
theorem LGo.fr (h : LGo u w F t w1) (f : Fr [] w1 w2) : LGo u w F t w2 := by
 obtain ⟨F', h1, h2, h3⟩ := h
 exact ⟨F', h1.fr0 f, h2, h3.same f.nil⟩
theorem LRw.setHots (h : LRw u w F t) (a : Int) : LGo u w F { t with hots := a } (w.setCell ⟨u.e, 5, none⟩ (.int .i64 a)) := by
 obtain ⟨Fs, Fq, Fx, n, rfl, h1, h2, h3, h4, h5, h6⟩ := h
 have f : Fr [u.e] w (w.setCell ⟨u.e, 5, none⟩ (.int .i64 a)) := (Fr.refl _ _).setCell (by simp) _
 have d : ∀ {F : List Nat}, u.e ∉ F → Dis F [u.e] := fun hn b hb hx => by simp at hx; subst hx; exact hn hb
 exact ⟨_, ⟨Fs, Fq, Fx, n, rfl, h1, h2, by unfold LB; rw [block_set_same h3]; rfl, h4.fr f (d h1.1), h5.fr f (d h1.2.1), h6.fr f (d h1.2.2)⟩, Sub.refl _ _, f.mono (by intro b hb _; simp at hb; simp [hb])⟩
theorem LRw.setGhosts (h : LRw u w F t) (a : Int) : LGo u w F { t with ghosts := a } (w.setCell ⟨u.e, 6, none⟩ (.int .i64 a)) := by
 obtain ⟨Fs, Fq, Fx, n, rfl, h1, h2, h3, h4, h5, h6⟩ := h
 have f : Fr [u.e] w (w.setCell ⟨u.e, 6, none⟩ (.int .i64 a)) := (Fr.refl _ _).setCell (by simp) _
 have d : ∀ {F : List Nat}, u.e ∉ F → Dis F [u.e] := fun hn b hb hx => by simp at hx; subst hx; exact hn hb
 exact ⟨_, ⟨Fs, Fq, Fx, n, rfl, h1, h2, by unfold LB; rw [block_set_same h3]; rfl, h4.fr f (d h1.1), h5.fr f (d h1.2.1), h6.fr f (d h1.2.2)⟩, Sub.refl _ _, f.mono (by intro b hb _; simp at hb; simp [hb])⟩
/-- One of the three parts is changed. -/
theorem LRw.chS {Fs Fq Fx Fs' : List Nat} {n : Nat} {L : HL} (h1 : u.e ∉ Fs ∧ u.e ∉ Fq ∧ u.e ∉ Fx) (h2 : Dis Fs Fq ∧ Dis Fs Fx ∧ Dis Fq Fx) (h3 : LB u w t.hots t.ghosts) (h5 : LRep w u.qp Fq t.LQ) (h6 : IRepL w u.x Fx t.M n)
  (g : LRep w' u.sp Fs' L) (s : Sub Fs' Fs w) (f : Fr Fs w w') : LGo u w (u.e :: (Fs ++ (Fq ++ Fx))) { t with LS := L } w' := by
 have he := lt_of_block h3
 refine ⟨u.e :: (Fs' ++ (Fq ++ Fx)), ⟨Fs', Fq, Fx, n, rfl, ⟨fun h => ?_, h1.2⟩, ⟨h2.1.sub s h5.lt, h2.2.1.sub s h6.lt, h2.2.2⟩, f.get h3 h1.1, g, h5.fr f h2.1.symm, h6.fr f h2.2.1.symm⟩, ?_, f.mono (by intro b hb _; simp [hb])⟩
 ·rcases s _ h with h | h
  ·exact h1.1 h
  ·omega
 ·intro b hb
  simp at hb
  rcases hb with rfl | hb | hb | hb
  ·exact .inl (by simp)
  ·rcases s b hb with h | h
   ·exact .inl (by simp [h])
   ·exact .inr h
  ·exact .inl (by simp [hb])
  ·exact .inl (by simp [hb])
theorem LRw.chQ {Fs Fq Fx Fq' : List Nat} {n : Nat} {L : HL} (h1 : u.e ∉ Fs ∧ u.e ∉ Fq ∧ u.e ∉ Fx) (h2 : Dis Fs Fq ∧ Dis Fs Fx ∧ Dis Fq Fx) (h3 : LB u w t.hots t.ghosts) (h4 : LRep w u.sp Fs t.LS) (h6 : IRepL w u.x Fx t.M n)
  (g : LRep w' u.qp Fq' L) (s : Sub Fq' Fq w) (f : Fr Fq w w') : LGo u w (u.e :: (Fs ++ (Fq ++ Fx))) { t with LQ := L } w' := by
 have he := lt_of_block h3
 refine ⟨u.e :: (Fs ++ (Fq' ++ Fx)), ⟨Fs, Fq', Fx, n, rfl, ⟨h1.1, fun h => ?_, h1.2.2⟩, ⟨(h2.1.symm.sub s h4.lt).symm, h2.2.1, h2.2.2.sub s h6.lt⟩, f.get h3 h1.2.1, h4.fr f h2.1, g, h6.fr f h2.2.2.symm⟩, ?_, f.mono (by intro b hb _; simp [hb])⟩
 ·rcases s _ h with h | h
  ·exact h1.2.1 h
  ·omega
 ·intro b hb
  simp at hb
  rcases hb with rfl | hb | hb | hb
  ·exact .inl (by simp)
  ·exact .inl (by simp [hb])
  ·rcases s b hb with h | h
   ·exact .inl (by simp [h])
   ·exact .inr h
  ·exact .inl (by simp [hb])
theorem LRw.chX {Fs Fq Fx Fx' : List Nat} {n : Nat} {M : EM} (h1 : u.e ∉ Fs ∧ u.e ∉ Fq ∧ u.e ∉ Fx) (h2 : Dis Fs Fq ∧ Dis Fs Fx ∧ Dis Fq Fx) (h3 : LB u w t.hots t.ghosts) (h4 : LRep w u.sp Fs t.LS) (h5 : LRep w u.qp Fq t.LQ)
  (g : IRepL w' u.x Fx' M n) (s : Sub Fx' Fx w) (f : Fr Fx w w') : LGo u w (u.e :: (Fs ++ (Fq ++ Fx))) { t with M := M } w' := by
 have he := lt_of_block h3
 refine ⟨u.e :: (Fs ++ (Fq ++ Fx')), ⟨Fs, Fq, Fx', n, rfl, ⟨h1.1, h1.2.1, fun h => ?_⟩, ⟨h2.1, (h2.2.1.symm.sub s h4.lt).symm, (h2.2.2.symm.sub s h5.lt).symm⟩, f.get h3 h1.2.2, h4.fr f h2.2.1, h5.fr f h2.2.2, g⟩, ?_, f.mono (by intro b hb _; simp [hb])⟩
 ·rcases s _ h with h | h
  ·exact h1.2.2 h
  ·omega
 ·intro b hb
  simp at hb
  rcases hb with rfl | hb | hb | hb
  ·exact .inl (by simp)
  ·exact .inl (by simp [hb])
  ·exact .inl (by simp [hb])
  ·rcases s b hb with h | h
   ·exact .inl (by simp [h])
   ·exact .inr h
theorem LRw.rmS (h : LRw u w F t) (hn : (t.LS.map (·.2)).Nodup) (key : ByteArray) {i : Nat} (hh : hOf t.LS key = i) :
  Calls Tryz.prog 194 #[.pointer (some ⟨u.sp, 0, none⟩), .int .i64 i] w fun en w' => (∃ v b, en = .returned (.tuple #[.string v, .bool b])) ∧ LGo u w F { t with LS := cutL t.LS key } w' := by
 obtain ⟨Fs, Fq, Fx, n, rfl, h1, h2, h3, h4, h5, h6⟩ := h
 refine (lrm h4 hn key hh).mono ?_
 rintro en w' ⟨he, F', a, b, c⟩
 exact ⟨he, LRw.chS h1 h2 h3 h5 h6 a b c⟩
theorem LRw.rmQ (h : LRw u w F t) (hn : (t.LQ.map (·.2)).Nodup) (key : ByteArray) {i : Nat} (hh : hOf t.LQ key = i) :
  Calls Tryz.prog 194 #[.pointer (some ⟨u.qp, 0, none⟩), .int .i64 i] w fun en w' => (∃ v b, en = .returned (.tuple #[.string v, .bool b])) ∧ LGo u w F { t with LQ := cutL t.LQ key } w' := by
 obtain ⟨Fs, Fq, Fx, n, rfl, h1, h2, h3, h4, h5, h6⟩ := h
 refine (lrm h5 hn key hh).mono ?_
 rintro en w' ⟨he, F', a, b, c⟩
 exact ⟨he, LRw.chQ h1 h2 h3 h4 h6 a b c⟩
theorem LRw.pushS (h : LRw u w F t) (hl : t.LS.length ≤ 99000) (key : ByteArray) :
  Calls Tryz.prog 196 #[.pointer (some ⟨u.sp, 0, none⟩), .string key] w fun en w' => ∃ i : Nat, en = .returned (.int .i64 i) ∧ 0 < i ∧ i < 100000 ∧ LGo u w F { t with LS := t.LS ++ [(i, key)] } w' := by
 obtain ⟨Fs, Fq, Fx, n, rfl, h1, h2, h3, h4, h5, h6⟩ := h
 refine (pushBack h4 hl key).mono ?_
 rintro en w' ⟨i, F', rfl, i0, i1, i2, a, b, c⟩
 exact ⟨i, rfl, i0, i1, LRw.chS h1 h2 h3 h5 h6 a b c⟩
theorem LRw.pushQ (h : LRw u w F t) (hl : t.LQ.length ≤ 99000) (key : ByteArray) :
  Calls Tryz.prog 196 #[.pointer (some ⟨u.qp, 0, none⟩), .string key] w fun en w' => ∃ i : Nat, en = .returned (.int .i64 i) ∧ 0 < i ∧ i < 100000 ∧ LGo u w F { t with LQ := t.LQ ++ [(i, key)] } w' := by
 obtain ⟨Fs, Fq, Fx, n, rfl, h1, h2, h3, h4, h5, h6⟩ := h
 refine (pushBack h5 hl key).mono ?_
 rintro en w' ⟨i, F', rfl, i0, i1, i2, a, b, c⟩
 exact ⟨i, rfl, i0, i1, LRw.chQ h1 h2 h3 h4 h6 a b c⟩
def EGet (n : Nat × Nat × Nat) (w : World) (en : Ending) (w' : World) : Prop := (∃ b, en = .returned (.tuple #[.agg #[.int .i64 (n.1 : Nat), .int .i64 (n.2.1 : Nat), .int .i64 (n.2.2 : Nat)], .bool b])) ∧ Fr [] w w'
theorem LRw.get (h : LRw u w F t) (key : ByteArray) (hz : key.size ≤ maxLen) {n : Nat × Nat × Nat} (hn : (t.M key).getD (0, 0, 0) = n) :
  Calls Tryz.prog 343 #[.pointer (some ⟨u.x, 0, none⟩), .string key] w (EGet n w) := by
 obtain ⟨Fs, Fq, Fx, m, rfl, h1, h2, h3, h4, h5, h6⟩ := h
 cases hM : t.M key with
 | none =>
  refine (igetL_none h6 key hz hM).mono ?_
  rintro en w' ⟨rfl, f⟩
  rw [hM] at hn
  subst hn
  exact ⟨⟨false, rfl⟩, f⟩
 | some x =>
  refine (igetL h6 key hz hM).mono ?_
  rintro en w' ⟨rfl, f⟩
  rw [hM] at hn
  subst hn
  exact ⟨⟨true, rfl⟩, f⟩
theorem LRw.put (h : LRw u w F t) {l : List ByteArray} (hl : ∀ k, t.M k ≠ none → k ∈ l) (hb : l.length ≤ 80000) (key : ByteArray) (hz : key.size ≤ maxLen) (x : Nat × Nat × Nat) :
  Calls Tryz.prog 358 #[.pointer (some ⟨u.x, 0, none⟩), .string key, .agg #[.int .i64 (x.1 : Nat), .int .i64 (x.2.1 : Nat), .int .i64 (x.2.2 : Nat)]] w fun en w' => (∃ b, en = .returned (.bool b)) ∧ LGo u w F { t with M := upM t.M key (some x) } w' := by
 obtain ⟨Fs, Fq, Fx, m, rfl, h1, h2, h3, h4, h5, h6⟩ := h
 have := n_le h6 hl
 refine (iputL h6 (by omega) key hz x).mono ?_
 rintro en w' ⟨b, F', rfl, a, s, f⟩
 exact ⟨⟨b, rfl⟩, LRw.chX h1 h2 h3 h4 h5 a s f⟩
theorem LRw.del (h : LRw u w F t) {l : List ByteArray} (hl : ∀ k, t.M k ≠ none → k ∈ l) (hb : l.length ≤ 80000) (key : ByteArray) (hz : key.size ≤ maxLen) :
  Calls Tryz.prog 357 #[.pointer (some ⟨u.x, 0, none⟩), .string key] w fun en w' => (∃ (n : Nat × Nat × Nat) (b : Bool), en = .returned (.tuple #[.agg #[.int .i64 (n.1 : Nat), .int .i64 (n.2.1 : Nat), .int .i64 (n.2.2 : Nat)], .bool b])) ∧ LGo u w F { t with M := upM t.M key none } w' := by
 obtain ⟨Fs, Fq, Fx, m, rfl, h1, h2, h3, h4, h5, h6⟩ := h
 have := n_le h6 hl
 cases hM : t.M key with
 | none =>
  refine (idelL_none h6 key hz hM).mono ?_
  rintro en w' ⟨rfl, a, f⟩
  exact ⟨⟨(0, 0, 0), false, rfl⟩, LRw.chX h1 h2 h3 h4 h5 a (Sub.refl _ _) f⟩
 | some x =>
  refine (idelL h6 (by omega) key hz hM).mono ?_
  rintro en w' ⟨rfl, a, f⟩
  exact ⟨⟨x, true, rfl⟩, LRw.chX h1 h2 h3 h4 h5 a (Sub.refl _ _) f⟩
end
end Go.Proofs.YtfeicmpbfbhiiaaGreat
set_option linter.unusedVariables false
set_option linter.unusedSimpArgs false
namespace Go.Proofs.YtfeicmpbfbhiiaaGreat
open Go.RowKit
attribute [local go_sem ↓] Go.wp_at_zero Go.wp_at_succ
def ct (t : LSt) (is : Nat) (by_ : Int) : LSt := { t with hots := t.hots + (if is = 1 then by_ else 0), ghosts := t.ghosts + (if is = 3 then by_ else 0) }
/-- The counts are small. -/
def Sm (t : LSt) (k : Int) : Prop := -k ≤ t.hots ∧ t.hots ≤ k ∧ -k ≤ t.ghosts ∧ t.ghosts ≤ k
theorem Sm.ct {t : LSt} {k : Int} (h : Sm t k) (is : Nat) {b : Int} (h1 : -1 ≤ b) (h2 : b ≤ 1) : Sm (ct t is b) (k + 1) := by
 obtain ⟨a1, a2, a3, a4⟩ := h
 unfold Go.Proofs.YtfeicmpbfbhiiaaGreat.ct Sm
 simp only
 split <;> split <;> omega
section
variable {u : LC} {w w' : World} {F : List Nat} {t : LSt}
theorem lcounts (H : LRw u w F t) (hs : Sm t 1000000) (is : Nat) (b : Int) (h1 : -1 ≤ b) (h2 : b ≤ 1) :
  Calls Tryz.prog 356 #[.pointer (some ⟨u.e, 0, none⟩), .int .i64 is, .int .i64 b] w fun en w' => en = .returned (.tuple #[]) ∧ LGo u w F (ct t is b) w' := by
 obtain ⟨_, _, _, _, _, k5, k6⟩ := H.cells
 have z := fun i => H.fz i
 obtain ⟨a1, a2, a3, a4⟩ := hs
 by_cases e1 : is = 1
 ·subst e1
  have hg := H.setHots (t.hots + b)
  have e : ct t 1 b = { t with hots := t.hots + b } := by unfold ct; simp
  rw [e]
  have HG := Lib.hid hg
  clear hg e H
  go_enter Tryz.func356, Tryz.ntmps356
  go_wp2
  go_end0
  exact ⟨rfl, HG.out⟩
 ·by_cases e3 : is = 3
  ·subst e3
   have hg := H.setGhosts (t.ghosts + b)
   have e : ct t 3 b = { t with ghosts := t.ghosts + b } := by unfold ct; simp
   rw [e]
   have HG := Lib.hid hg
   clear hg e H
   go_enter Tryz.func356, Tryz.ntmps356
   go_wp2
   go_end0
   exact ⟨rfl, HG.out⟩
  ·have b1 : ((is : Int) == 1) = false := by rw [beq_eq_false_iff_ne]; omega
   have b3 : ((is : Int) == 3) = false := by rw [beq_eq_false_iff_ne]; omega
   have e : ct t is b = t := by unfold ct; simp [e1, e3]
   rw [e]
   have HG := Lib.hid (LGo.refl H)
   clear e H e1 e3
   go_enter Tryz.func356, Tryz.ntmps356
   go_wp2
   go_end0
   exact ⟨rfl, HG.out⟩
def EB (w : World) (b : Nat) (n : Nat × Nat × Nat) : Prop := w.heap[b]? = some (.cells #[.int .i64 n.1, .int .i64 n.2.1, .int .i64 n.2.2] 195 (0, 0))
theorem EB.cells {b : Nat} {x y z : Nat} (h : EB w b (x, y, z)) : w.cell? ⟨b, 0, none⟩ = some (.int .i64 x) ∧ w.cell? ⟨b, 1, none⟩ = some (.int .i64 y) ∧ w.cell? ⟨b, 2, none⟩ = some (.int .i64 z) := by
 have c := cell_of_block h
 exact ⟨(c 0).trans rfl, (c 1).trans rfl, (c 2).trans rfl⟩
def setM (M : EM) (key : ByteArray) (n : Nat × Nat × Nat) : EM := upM M key (if n.1 = 0 then none else some n)
/-- What set leaves. -/
def setT (t : LSt) (key : ByteArray) (n : Nat × Nat × Nat) : LSt := { ct (ct t ((t.M key).getD (0, 0, 0)).1 (-1)) n.1 1 with M := setM t.M key n }
set_option maxRecDepth 100000 in
theorem lset (H : LRw u w F t) (hs : Sm t 100000) {l : List ByteArray} (hl : ∀ k, t.M k ≠ none → k ∈ l) (hb : l.length ≤ 80000) (key : ByteArray) (hz : key.size ≤ maxLen) (x y z : Nat) :
  Calls Tryz.prog 349 #[.pointer (some ⟨u.e, 0, none⟩), .string key, .agg #[.int .i64 x, .int .i64 y, .int .i64 z]] w fun en w' => en = .returned (.tuple #[]) ∧ LGo u w F (setT t key (x, y, z)) w' := by
 obtain ⟨_, _, _, _, k4, _, _⟩ := H.cells
 obtain ⟨n, hn⟩ : ∃ n, (t.M key).getD (0, 0, 0) = n := ⟨_, rfl⟩
 unfold setT
 rw [hn]
 obtain ⟨n1, n2, n3⟩ := n
 have ha : Fr [] w (w.alloc (.cells #[.int .i64 x, .int .i64 y, .int .i64 z] 195)) := (Fr.refl [] _).alloc _
 have hb0 : EB (w.alloc (.cells #[.int .i64 x, .int .i64 y, .int .i64 z] 195)) w.heap.size (x, y, z) := block_alloc_new _ _
 have HGET := Lib.hid ((H.fr0 ha).get key hz hn)
 have HH := Lib.hid H
 have HA := Lib.hid (And.intro ha hb0)
 have HS := Lib.hid hs
 have HL := Lib.hid hl
 have hlt : ∀ b, b ∈ F → b < w.heap.size := H.lt
 have hel : u.e < w.heap.size := hlt _ H.ein
 have HLT := Lib.hid hlt
 clear H ha hb0 hs hl hn hlt
 go_enter Tryz.func349, Tryz.ntmps349
 go_wp2_with fail
 refine HGET.out.mono ?_
 rintro en w1 ⟨⟨b, rfl⟩, f1⟩
 have f01 : Fr [] w w1 := HA.out.1.same f1
 have hb1 : EB w1 w.heap.size (x, y, z) := f1.get HA.out.2 (by simp)
 have HF := Lib.hid (And.intro f01 hb1)
 replace k4 := cell_fr f01 k4 (by simp)
 obtain ⟨kb0, kb1, kb2⟩ := hb1.cells
 clear f1 f01 hb1
 go_wp2_with fail
 refine (lcounts (HH.out.fr0 (HF.out.1.alloc _)) (by have := HS.out; unfold Sm at *; omega) n1 (-1) (by omega) (by omega)).mono ?_
 rintro en w2 ⟨rfl, F2, h2, s2, f2⟩
 have hnF : w.heap.size ∉ F := fun h => by have := HLT.out _ h; omega
 have hb2 : EB w2 w.heap.size (x, y, z) := f2.get (block_alloc_old HF.out.2 _) hnF
 have hs1 := HF.out.1.size
 have hbw : w.heap.size < w1.heap.size := lt_of_block HF.out.2
 have hnF2 : w.heap.size ∉ F2 := fun h => by
  rcases s2 _ h with h | h
  ·exact hnF h
  ·rw [World.size_alloc] at h; omega
 have H2 := Lib.hid (And.intro h2 (And.intro (s2.old (HF.out.1.alloc _).size) (And.intro ((HF.out.1.alloc _).nil.same f2) (And.intro hb2 hnF2))))
 obtain ⟨kb0, kb1, kb2⟩ := hb2.cells
 obtain ⟨_, _, _, _, k4, _, _⟩ := h2.cells
 clear h2 s2 f2 hb2 hnF2
 go_wp2_with fail
 refine (lcounts H2.out.1 (by have := Sm.ct HS.out n1 (b := -1) (by omega) (by omega); unfold Sm at *; omega) x 1 (by omega) (by omega)).mono ?_
 rintro en w3 ⟨rfl, F3, h3, s3, f3⟩
 have hb3 : EB w3 w.heap.size (x, y, z) := f3.get H2.out.2.2.2.1 H2.out.2.2.2.2
 have H3 := Lib.hid (And.intro h3 (And.intro (H2.out.2.1.fr H2.out.2.2.1 s3) (And.intro (H2.out.2.2.1.via H2.out.2.1 f3) hb3)))
 obtain ⟨kb0, kb1, kb2⟩ := hb3.cells
 obtain ⟨_, _, _, _, k4, _, _⟩ := h3.cells
 clear h3 s3 f3 hb3
 by_cases hx : x = 0
 ·subst hx
  have HDEL := Lib.hid (H3.out.1.del HL.out hb key hz)
  go_wp2_with fail
  refine HDEL.out.mono ?_
  rintro en w4 ⟨⟨n, b, rfl⟩, hg⟩
  have HG := Lib.hid (LGo.trans H3.out.2.1 H3.out.2.2.1 hg)
  clear hg
  go_wp2
  refine bodyPost_ret (v := .tuple #[]) (by simp [results, Tryz.results349, go_sem]) rfl ?_
  refine ⟨rfl, ?_⟩
  have e : setM t.M key (0, y, z) = upM t.M key none := rfl
  rw [e]
  exact HG.out
 ·have b0 : ((x : Int) == 0) = false := by rw [beq_eq_false_iff_ne]; omega
  have HPUT := Lib.hid ((H3.out.1.fr0 ((Fr.refl [] _).drew)).put HL.out hb key hz (x, y, z))
  have HX := Lib.hid hx
  clear hx
  go_wp2
  go_still_tail 6, (by kernel_rfl)
  change wpList _ _ _ _ _ w3.drew
  go_wp2_with fail
  refine HPUT.out.mono ?_
  rintro en w4 ⟨⟨b, rfl⟩, hg⟩
  have HG := Lib.hid (LGo.trans H3.out.2.1 H3.out.2.2.1.drew hg)
  clear hg
  go_wp2
  go_end0
  refine ⟨rfl, ?_⟩
  have e : setM t.M key (x, y, z) = upM t.M key (some (x, y, z)) := by unfold setM; rw [if_neg HX.out]
  rw [e]
  exact HG.out
end
end Go.Proofs.YtfeicmpbfbhiiaaGreat
set_option linter.unusedVariables false
set_option linter.unusedSimpArgs false
namespace Go.Proofs.YtfeicmpbfbhiiaaGreat
open Go.RowKit
attribute [local go_sem ↓] Go.wp_at_zero Go.wp_at_succ
/-- What is left behind a change of an entry's place: b holds the entry. -/
def LTop (u : LC) (w : World) (F : List Nat) (b : Nat) (n : Nat × Nat × Nat) (t : LSt) (w' : World) : Prop := ∃ F', LRw u w' F' t ∧ EB w' b n ∧ b ∉ F' ∧ Sub F' F w ∧ Fr (b :: F) w w'
theorem EB.fz {w : World} {b : Nat} {n : Nat × Nat × Nat} (h : EB w b n) (i : Nat) : w.frozen? ⟨b, i, none⟩ = false := free_of_block h i
theorem EB.lt {w : World} {b : Nat} {n : Nat × Nat × Nat} (h : EB w b n) : b < w.heap.size := lt_of_block h
theorem EB.setS {w : World} {b x y z : Nat} (h : EB w b (x, y, z)) (i : Nat) : EB (w.setCell ⟨b, 1, none⟩ (.int .i64 (i : Nat))) b (x, i, z) := by
 unfold EB; rw [block_set_same h]; rfl
theorem EB.setQ {w : World} {b x y z : Nat} (h : EB w b (x, y, z)) (i : Nat) : EB (w.setCell ⟨b, 2, none⟩ (.int .i64 (i : Nat))) b (x, y, i) := by
 unfold EB; rw [block_set_same h]; rfl
theorem EB.setI {w : World} {b x y z : Nat} (h : EB w b (x, y, z)) (i : Nat) : EB (w.setCell ⟨b, 0, none⟩ (.int .i64 (i : Nat))) b (i, y, z) := by
 unfold EB; rw [block_set_same h]; rfl
section
variable {u : LC} {w w1 w' : World} {F F1 : List Nat} {t t' : LSt}
theorem not_sub {b : Nat} (h : b ∉ F) (s : Sub F1 F w) (hb : b < w.heap.size) : b ∉ F1 := fun hx => by
 rcases s b hx with h1 | h1
 ·exact h h1
 ·omega
/-- The entry is written; the engine stays. -/
theorem LTop.set {b : Nat} {n n' : Nat × Nat × Nat} {c : Nat} {v : Value} (h : LTop u w F b n t w1) (he : EB w1 b n → EB (w1.setCell ⟨b, c, none⟩ v) b n') : LTop u w F b n' t (w1.setCell ⟨b, c, none⟩ v) := by
 obtain ⟨F', h1, h2, h3, h4, h5⟩ := h
 refine ⟨F', h1.fr ((Fr.refl [b] w1).setCell (by simp) v) (fun q hq hx => by simp at hx; subst hx; exact h3 hq), he h2, h3, h4, h5.setCell (by simp) v⟩
theorem LTop.ofGo {b : Nat} {n : Nat × Nat × Nat} (h : LGo u w F t w') (he : EB w b n) (hb : b ∉ F) : LTop u w F b n t w' := by
 obtain ⟨F', h1, h2, h3⟩ := h
 exact ⟨F', h1, h3.get he hb, not_sub hb h2 he.lt, h2, h3.mono (by intro q hq _; simp [hq])⟩
theorem LTop.trans {b : Nat} {n n' : Nat × Nat × Nat} (h : LTop u w F b n t w1) (k : ∀ F1, LRw u w1 F1 t → EB w1 b n → b ∉ F1 → LTop u w1 F1 b n' t' w') : LTop u w F b n' t' w' := by
 obtain ⟨F1, h1, h2, h3, h4, h5⟩ := h
 obtain ⟨F2, g1, g2, g3, g4, g5⟩ := k F1 h1 h2 h3
 have hs := h5.size
 refine ⟨F2, g1, g2, g3, fun q hq => ?_, h5.trans g5 (fun _ h _ => h) (fun q hq hl => ?_)⟩
 ·rcases g4 q hq with h | h
  ·exact h4 q h
  ·right; omega
 ·rcases List.mem_cons.1 hq with rfl | hq
  ·simp
  ·rcases h4 q hq with h | h
   ·simp [h]
   ·omega
theorem LTop.drew {b : Nat} {n : Nat × Nat × Nat} (h : LTop u w.drew F b n t w') : LTop u w F b n t w' := by
 obtain ⟨F', h1, h2, h3, h4, h5⟩ := h
 exact ⟨F', h1, h2, h3, h4, ((Fr.refl (b :: F) w).drew).same h5⟩
set_option maxRecDepth 100000 in
theorem ltop (H : LRw u w F t) {b x y z : Nat} (hb : EB w b (x, y, z)) (hbF : b ∉ F) (hn : (t.LS.map (·.2)).Nodup) (hlen : t.LS.length ≤ 90000) (key : ByteArray) (hh : hOf t.LS key = y) :
  Calls Tryz.prog 354 #[.pointer (some ⟨u.e, 0, none⟩), .pointer (some ⟨b, 0, none⟩), .string key] w fun en w' => en = .returned (.tuple #[]) ∧ ∃ i : Nat, 0 < i ∧ i < 100000 ∧ LTop u w F b (x, i, z) { t with LS := cutL t.LS key ++ [(i, key)] } w' := by
 obtain ⟨_, _, k2, k3, _, _, _⟩ := H.cells
 obtain ⟨kb0, kb1, kb2⟩ := hb.cells
 have HRM := Lib.hid ((H.fr0 ((Fr.refl [] _).drew)).rmS hn key hh)
 have HH := Lib.hid (And.intro hb hbF)
 have hcl : (cutL t.LS key).length ≤ 90000 := Nat.le_trans (List.length_filter_le _ _) hlen
 clear hb hbF H hn
 go_enter Tryz.func354, Tryz.ntmps354
 go_wp2
 go_still_tail 8, (by kernel_rfl)
 change wpList _ _ _ _ _ w.drew
 go_wp2_with fail
 refine HRM.out.mono ?_
 rintro en w1 ⟨⟨v, bb, rfl⟩, hg⟩
 have ht := LTop.drew (LTop.ofGo hg HH.out.1 HH.out.2)
 obtain ⟨F1, h1, g1, nf, s1, f1⟩ := id ht
 obtain ⟨_, _, k2, k3, _, _, _⟩ := h1.cells
 obtain ⟨kb0, kb1, kb2⟩ := g1.cells
 have zb := fun i => g1.fz i
 have HPU := Lib.hid (h1.pushS (by show (cutL t.LS key).length ≤ _; omega) key)
 have HT := Lib.hid ht
 have HG := Lib.hid (And.intro g1 (And.intro nf (And.intro s1 f1)))
 clear ht hg h1 g1 nf s1 f1
 go_wp2_with fail
 refine HPU.out.mono ?_
 rintro en w2 ⟨i, rfl, i0, i1, hg2⟩
 have h2 : LTop u w1 F1 b (x, y, z) { t with LS := cutL t.LS key ++ [(i, key)] } w2 := LTop.ofGo hg2 HG.out.1 HG.out.2.1
 obtain ⟨F2, g2, e2, nf2, s2, f2⟩ := id h2
 obtain ⟨kb0, kb1, kb2⟩ := e2.cells
 have zb := fun i => e2.fz i
 have h3 : LTop u w F b (x, y, z) { t with LS := cutL t.LS key ++ [(i, key)] } w2 := by
  have hs := HG.out.2.2.2.size
  refine ⟨F2, g2, e2, nf2, fun q hq => ?_, HG.out.2.2.2.trans f2 (fun _ h _ => h) (fun q hq hl => ?_)⟩
  ·rcases s2 q hq with h | h
   ·exact HG.out.2.2.1 q h
   ·right; omega
  ·rcases List.mem_cons.1 hq with rfl | hq
   ·simp
   ·rcases HG.out.2.2.1 q hq with h | h
    ·simp [h]
    ·omega
 have HFIN := Lib.hid (h3.set (fun h => h.setS i))
 clear h2 h3 g2 e2 nf2 s2 f2 hg2
 go_wp2
 go_end0
 exact ⟨rfl, i, i0, i1, HFIN.out⟩
set_option maxRecDepth 100000 in
theorem lend (H : LRw u w F t) {b x y z : Nat} (hb : EB w b (x, y, z)) (hbF : b ∉ F) (hn : (t.LQ.map (·.2)).Nodup) (hlen : t.LQ.length ≤ 90000) (key : ByteArray) (hh : hOf t.LQ key = z) :
  Calls Tryz.prog 352 #[.pointer (some ⟨u.e, 0, none⟩), .pointer (some ⟨b, 0, none⟩), .string key] w fun en w' => en = .returned (.tuple #[]) ∧ ∃ i : Nat, 0 < i ∧ i < 100000 ∧ LTop u w F b (x, y, i) { t with LQ := cutL t.LQ key ++ [(i, key)] } w' := by
 obtain ⟨_, _, k2, k3, _, _, _⟩ := H.cells
 obtain ⟨kb0, kb1, kb2⟩ := hb.cells
 have HRM := Lib.hid ((H.fr0 ((Fr.refl [] _).drew)).rmQ hn key hh)
 have HH := Lib.hid (And.intro hb hbF)
 have hcl : (cutL t.LQ key).length ≤ 90000 := Nat.le_trans (List.length_filter_le _ _) hlen
 clear hb hbF H hn
 go_enter Tryz.func352, Tryz.ntmps352
 go_wp2
 go_still_tail 8, (by kernel_rfl)
 change wpList _ _ _ _ _ w.drew
 go_wp2_with fail
 refine HRM.out.mono ?_
 rintro en w1 ⟨⟨v, bb, rfl⟩, hg⟩
 have ht := LTop.drew (LTop.ofGo hg HH.out.1 HH.out.2)
 obtain ⟨F1, h1, g1, nf, s1, f1⟩ := id ht
 obtain ⟨_, _, k2, k3, _, _, _⟩ := h1.cells
 obtain ⟨kb0, kb1, kb2⟩ := g1.cells
 have zb := fun i => g1.fz i
 have HPU := Lib.hid (h1.pushQ (by show (cutL t.LQ key).length ≤ _; omega) key)
 have HT := Lib.hid ht
 have HG := Lib.hid (And.intro g1 (And.intro nf (And.intro s1 f1)))
 clear ht hg h1 g1 nf s1 f1
 go_wp2_with fail
 refine HPU.out.mono ?_
 rintro en w2 ⟨i, rfl, i0, i1, hg2⟩
 have h2 : LTop u w1 F1 b (x, y, z) { t with LQ := cutL t.LQ key ++ [(i, key)] } w2 := LTop.ofGo hg2 HG.out.1 HG.out.2.1
 obtain ⟨F2, g2, e2, nf2, s2, f2⟩ := id h2
 obtain ⟨kb0, kb1, kb2⟩ := e2.cells
 have zb := fun i => e2.fz i
 have h3 : LTop u w F b (x, y, z) { t with LQ := cutL t.LQ key ++ [(i, key)] } w2 := by
  have hs := HG.out.2.2.2.size
  refine ⟨F2, g2, e2, nf2, fun q hq => ?_, HG.out.2.2.2.trans f2 (fun _ h _ => h) (fun q hq hl => ?_)⟩
  ·rcases s2 q hq with h | h
   ·exact HG.out.2.2.1 q h
   ·right; omega
  ·rcases List.mem_cons.1 hq with rfl | hq
   ·simp
   ·rcases HG.out.2.2.1 q hq with h | h
    ·simp [h]
    ·omega
 have HFIN := Lib.hid (h3.set (fun h => h.setQ i))
 clear h2 h3 g2 e2 nf2 s2 f2 hg2
 go_wp2
 go_end0
 exact ⟨rfl, i, i0, i1, HFIN.out⟩
set_option maxRecDepth 100000 in
theorem lleaves (H : LRw u w F t) {b x y z : Nat} (hb : EB w b (x, y, z)) (hbF : b ∉ F) (hn : (t.LQ.map (·.2)).Nodup) (key : ByteArray) (hh : hOf t.LQ key = z) :
  Calls Tryz.prog 348 #[.pointer (some ⟨u.e, 0, none⟩), .pointer (some ⟨b, 0, none⟩)] w fun en w' => en = .returned (.tuple #[]) ∧ LTop u w F b (x, y, 0) { t with LQ := cutL t.LQ key } w' := by
 obtain ⟨_, _, k2, k3, _, _, _⟩ := H.cells
 obtain ⟨kb0, kb1, kb2⟩ := hb.cells
 have HRM := Lib.hid ((H.fr0 ((Fr.refl [] _).drew)).rmQ hn key hh)
 have HH := Lib.hid (And.intro hb hbF)
 clear hb hbF H hn
 go_enter Tryz.func348, Tryz.ntmps348
 go_wp2
 go_still_tail 8, (by kernel_rfl)
 change wpList _ _ _ _ _ w.drew
 go_wp2_with fail
 refine HRM.out.mono ?_
 rintro en w1 ⟨⟨v, bb, rfl⟩, hg⟩
 have ht := LTop.drew (LTop.ofGo hg HH.out.1 HH.out.2)
 obtain ⟨F1, h1, g1, nf, s1, f1⟩ := id ht
 obtain ⟨kb0, kb1, kb2⟩ := g1.cells
 have zb := fun i => g1.fz i
 have HFIN := Lib.hid (ht.set (fun h => h.setQ 0))
 clear ht hg h1 g1 nf s1 f1
 go_wp2
 go_end0
 exact ⟨rfl, HFIN.out⟩
end
end Go.Proofs.YtfeicmpbfbhiiaaGreat
set_option linter.unusedVariables false
set_option linter.unusedSimpArgs false
namespace Go.Proofs.YtfeicmpbfbhiiaaGreat
open Go.RowKit
def kindS (S : Stk) (Q : List ByteArray) (k : ByteArray) : Nat := if stS S k = 0 then (if k ∈ Q then 2 else 0) else stS S k
def entM (S : Stk) (Q : List ByteArray) (LS LQ : HL) (k : ByteArray) : Option (Nat × Nat × Nat) := if kindS S Q k = 0 then none else some (kindS S Q k, hOf LS k, hOf LQ k)
structure Coh (S : Stk) (Q : List ByteArray) (t : LSt) : Prop where
 ls : t.LS.map (·.2) = S.map (·.1)
 lq : t.LQ.map (·.2) = Q
 m : ∀ k, t.M k = entM S Q t.LS t.LQ k
 h : t.hots = cntS S 1
 g : t.ghosts = cntS S 3
theorem hOf_cut_ne (L : HL) {key k : ByteArray} (h : k ≠ key) : hOf (cutL L key) k = hOf L k := by
 unfold hOf cutL
 congr 2
 induction L with
 | nil => rfl
 | cons a l ih =>
  by_cases e : a.2 = key
  ·rw [List.filter_cons_of_neg (by simpa using e), List.find?_cons_of_neg (by simp; rw [e]; exact fun e => h e.symm)]
   exact ih
  ·rw [List.filter_cons_of_pos (by simpa using e)]
   by_cases e2 : a.2 = k
   ·rw [List.find?_cons_of_pos (by simpa using e2), List.find?_cons_of_pos (by simpa using e2)]
   ·rw [List.find?_cons_of_neg (by simpa using e2), List.find?_cons_of_neg (by simpa using e2)]
    exact ih
theorem not_cutL (L : HL) (key : ByteArray) : key ∉ (cutL L key).map (·.2) := by
 rw [cutL_map]; exact not_mem_cutQ _ _
theorem hOf_cut_eq (L : HL) (key : ByteArray) : hOf (cutL L key) key = 0 := hOf_out (not_cutL L key)
theorem hOf_snoc_ne (L : HL) {key k : ByteArray} (i : Nat) (h : k ≠ key) : hOf (L ++ [(i, key)]) k = hOf L k := by
 unfold hOf
 rw [List.find?_append, List.find?_cons_of_neg (by simpa using fun e => h e.symm)]
 simp
theorem hOf_snoc_eq {L : HL} {key : ByteArray} (i : Nat) (h : key ∉ L.map (·.2)) : hOf (L ++ [(i, key)]) key = i := by
 unfold hOf
 rw [List.find?_append, List.find?_eq_none.2, List.find?_cons_of_pos (by simp)]
 ·rfl
 ·intro e he
  simp
  rintro rfl
  exact h (List.mem_map_of_mem he)
theorem stS_cut_ne (S : Stk) {key k : ByteArray} (h : k ≠ key) : stS (cutS S key) k = stS S k := by
 unfold stS cutS
 congr 2
 induction S with
 | nil => rfl
 | cons a l ih =>
  by_cases e : a.1 = key
  ·rw [List.filter_cons_of_neg (by simpa using e), List.find?_cons_of_neg (by simp; rw [e]; exact fun e => h e.symm)]
   exact ih
  ·rw [List.filter_cons_of_pos (by simpa using e)]
   by_cases e2 : a.1 = k
   ·rw [List.find?_cons_of_pos (by simpa using e2), List.find?_cons_of_pos (by simpa using e2)]
   ·rw [List.find?_cons_of_neg (by simpa using e2), List.find?_cons_of_neg (by simpa using e2)]
    exact ih
theorem stS_cut_eq (S : Stk) (key : ByteArray) : stS (cutS S key) key = 0 := stS_not (not_mem_cutS S key)
theorem stS_snoc_ne (S : Stk) {key k : ByteArray} (x : Nat) (h : k ≠ key) : stS (S ++ [(key, x)]) k = stS S k := by
 unfold stS
 rw [List.find?_append, List.find?_cons_of_neg (by simpa using fun e => h e.symm)]
 simp
theorem stS_snoc_eq {S : Stk} {key : ByteArray} (x : Nat) (h : key ∉ S.map (·.1)) : stS (S ++ [(key, x)]) key = x := by
 unfold stS
 rw [List.find?_append, List.find?_eq_none.2, List.find?_cons_of_pos (by simp)]
 ·rfl
 ·intro e he
  simp
  rintro rfl
  exact h (List.mem_map_of_mem he)
theorem stS_in {S : Stk} {Q : List ByteArray} (h : SInv S Q) {key : ByteArray} (hk : key ∈ S.map (·.1)) : (stS S key = 1 ∧ key ∉ Q) ∨ (stS S key = 2 ∧ key ∈ Q) ∨ (stS S key = 3 ∧ key ∉ Q) := by
 obtain ⟨e, he, rfl⟩ := List.mem_map.1 hk
 rw [stS_mem h.nd (show (e.1, e.2) ∈ S from he)]
 exact h.ok e he
theorem stS_zero {S : Stk} {Q : List ByteArray} (h : SInv S Q) {key : ByteArray} : stS S key = 0 ↔ key ∉ S.map (·.1) := by
 constructor
 ·intro h0 hk
  rcases stS_in h hk with ⟨a, _⟩ | ⟨a, _⟩ | ⟨a, _⟩ <;> omega
 ·exact stS_not
section
variable {S S' : Stk} {Q Q' : List ByteArray} {t : LSt}
theorem Coh.get (h : Coh S Q t) (hi : SInv S Q) (key : ByteArray) : (t.M key).getD (0, 0, 0) = (kindS S Q key, hOf t.LS key, hOf t.LQ key) := by
 rw [h.m]
 unfold entM
 split
 ·rename_i hk
  have h1 : stS S key = 0 := by unfold kindS at hk; split at hk; assumption; exact hk
  have h2 : key ∉ Q := by unfold kindS at hk; rw [if_pos h1] at hk; split at hk; cases hk; assumption
  rw [hOf_out (by rw [h.ls]; exact (stS_zero hi).1 h1), hOf_out (by rw [h.lq]; exact h2), hk]
  rfl
 ·rfl
theorem Coh.cover (h : Coh S Q t) (hi : SInv S Q) : ∀ k, t.M k ≠ none → k ∈ S.map (·.1) ++ Q := by
 intro k hk
 rw [h.m] at hk
 unfold entM at hk
 split at hk
 ·exact absurd rfl hk
 ·rename_i h1
  rw [List.mem_append]
  by_cases hs : k ∈ S.map (·.1)
  ·exact .inl hs
  ·right
   unfold kindS at h1
   rw [if_pos (stS_not hs)] at h1
   by_cases hq : k ∈ Q
   ·exact hq
   ·rw [if_neg hq] at h1; exact absurd rfl h1
theorem Coh.set (h : Coh S Q t) (hi : SInv S Q) {key : ByteArray} {LS' LQ' : HL} {n : Nat × Nat × Nat} (hls : LS'.map (·.2) = S'.map (·.1)) (hlq : LQ'.map (·.2) = Q')
  (ho : ∀ k, k ≠ key → hOf LS' k = hOf t.LS k ∧ hOf LQ' k = hOf t.LQ k ∧ kindS S' Q' k = kindS S Q k) (hn : n = (kindS S' Q' key, hOf LS' key, hOf LQ' key))
  (h1 : cntS S' 1 + (if kindS S Q key = 1 then 1 else 0) = cntS S 1 + (if kindS S' Q' key = 1 then 1 else 0))
  (h3 : cntS S' 3 + (if kindS S Q key = 3 then 1 else 0) = cntS S 3 + (if kindS S' Q' key = 3 then 1 else 0)) :
  Coh S' Q' (setT { t with LS := LS', LQ := LQ' } key n) := by
 have hg := h.get hi key
 subst hn
 refine ⟨hls, hlq, fun k => ?_, ?_, ?_⟩
 ·show setM t.M key _ k = entM S' Q' LS' LQ' k
  unfold setM upM
  by_cases e : k = key
  ·subst e
   rw [if_pos rfl]
   rfl
  ·rw [if_neg e, h.m]
   obtain ⟨a, b, c⟩ := ho k e
   unfold entM
   rw [a, b, c]
 ·show (t.hots + (if ((t.M key).getD (0, 0, 0)).1 = 1 then (-1 : Int) else 0)) + (if kindS S' Q' key = 1 then (1 : Int) else 0) = _
  rw [hg, h.h]
  simp only
  split at h1 <;> split at h1 <;> simp_all <;> omega
 ·show (t.ghosts + (if ((t.M key).getD (0, 0, 0)).1 = 3 then (-1 : Int) else 0)) + (if kindS S' Q' key = 3 then (1 : Int) else 0) = _
  rw [hg, h.g]
  simp only
  split at h3 <;> split at h3 <;> simp_all <;> omega
theorem Coh.small (h : Coh S Q t) {k : Nat} (hl : S.length ≤ k) : Sm t k := by
 have h1 : cntS S 1 ≤ S.length := List.countP_le_length
 have h3 : cntS S 3 ≤ S.length := List.countP_le_length
 unfold Sm
 rw [h.h, h.g]
 omega
/-- A key that is not hot leaves S. -/
theorem Coh.lift (h : Coh S Q t) (hi : SInv S Q) {key : ByteArray} (hk : key ∈ S.map (·.1)) (hnh : stS S key ≠ 1) :
  Coh (cutS S key) Q (setT { t with LS := cutL t.LS key } key (if kindS S Q key = 3 then 0 else kindS S Q key, 0, hOf t.LQ key)) := by
 have hst := stS_in hi hk
 have hkd : kindS S Q key = stS S key := by unfold kindS; rw [if_neg (by omega)]
 have hk2 : kindS (cutS S key) Q key = if stS S key = 2 then 2 else 0 := by
  unfold kindS
  rw [if_pos (stS_cut_eq S key)]
  rcases hst with ⟨a, b⟩ | ⟨a, b⟩ | ⟨a, b⟩ <;> simp [a, b]
 have hm : (key, stS S key) ∈ S := stS_pos rfl (by omega)
 have c1 := cntS_cut hi.nd hm 1
 have c3 := cntS_cut hi.nd hm 3
 refine h.set hi (LQ' := t.LQ) (by rw [cutL_map, h.ls]; unfold cutQ cutS; rw [List.filter_map]; rfl) h.lq (fun k e => ⟨hOf_cut_ne _ e, rfl, ?_⟩) ?_ ?_ ?_
 ·unfold kindS; rw [stS_cut_ne S e]
 ·rw [hk2, hkd, hOf_cut_eq]
  rcases hst with ⟨a, b⟩ | ⟨a, b⟩ | ⟨a, b⟩ <;> simp [a]
  exact absurd a hnh
 ·rw [hkd, hk2]; split at c1 <;> (rcases hst with ⟨a, b⟩ | ⟨a, b⟩ | ⟨a, b⟩ <;> simp [a] at * <;> omega)
 ·rw [hkd, hk2]; split at c3 <;> (rcases hst with ⟨a, b⟩ | ⟨a, b⟩ | ⟨a, b⟩ <;> simp [a] at * <;> omega)
end
end Go.Proofs.YtfeicmpbfbhiiaaGreat
set_option linter.unusedVariables false
set_option linter.unusedSimpArgs false
namespace Go.Proofs.YtfeicmpbfbhiiaaGreat
open Go.RowKit
theorem cutS_keys (S : Stk) (key : ByteArray) : (cutS S key).map (·.1) = cutQ (S.map (·.1)) key := by
 unfold cutQ cutS; rw [List.filter_map]; rfl
theorem kindS_hot {S : Stk} {Q : List ByteArray} (hi : SInv S Q) (key : ByteArray) : kindS S Q key = 1 ↔ stS S key = 1 := by
 unfold kindS
 by_cases h : stS S key = 0
 ·rw [if_pos h]; split <;> omega
 ·rw [if_neg h]
theorem kindS_ghost {S : Stk} {Q : List ByteArray} (hi : SInv S Q) (key : ByteArray) : kindS S Q key = 3 ↔ stS S key = 3 := by
 unfold kindS
 by_cases h : stS S key = 0
 ·rw [if_pos h]; split <;> omega
 ·rw [if_neg h]
/-- How many of a sort there are without a key. -/
theorem cnt_without {S : Stk} {Q : List ByteArray} (hi : SInv S Q) (key : ByteArray) {is : Nat} (h0 : is ≠ 0) : cntS (cutS S key) is + (if stS S key = is then 1 else 0) = cntS S is := by
 by_cases hk : key ∈ S.map (·.1)
 ·have hm : (key, stS S key) ∈ S := stS_pos rfl (by rcases stS_in hi hk with ⟨a, _⟩ | ⟨a, _⟩ | ⟨a, _⟩ <;> omega)
  exact cntS_cut hi.nd hm is
 ·rw [cutS_not hk, stS_not hk, if_neg (by omega)]; rfl
theorem if_iff {p q : Prop} [Decidable p] [Decidable q] (h : p ↔ q) (a b : Nat) : (if p then a else b) = if q then a else b := by
 by_cases hp : p
 ·rw [if_pos hp, if_pos (h.1 hp)]
 ·rw [if_neg hp, if_neg (fun x => hp (h.2 x))]
section
variable {S : Stk} {Q : List ByteArray} {t : LSt}
theorem Coh.heat (h : Coh S Q t) (hi : SInv S Q) (key : ByteArray) (i : Nat) :
  Coh (cutS S key ++ [(key, 1)]) (cutQ Q key) (setT { t with LS := cutL t.LS key ++ [(i, key)], LQ := cutL t.LQ key } key (1, i, 0)) := by
 have hst : stS (cutS S key ++ [(key, 1)]) key = 1 := stS_snoc_eq 1 (not_mem_cutS _ _)
 have hk : kindS (cutS S key ++ [(key, 1)]) (cutQ Q key) key = 1 := by unfold kindS; rw [hst]; rfl
 have c1 := cnt_without hi key (is := 1) (by omega)
 have c3 := cnt_without hi key (is := 3) (by omega)
 refine h.set hi (by rw [List.map_append, cutL_map, h.ls, List.map_append, cutS_keys]; rfl) (by rw [cutL_map, h.lq]) (fun k e => ⟨?_, hOf_cut_ne _ e, ?_⟩) ?_ ?_ ?_
 ·rw [hOf_snoc_ne _ _ e, hOf_cut_ne _ e]
 ·unfold kindS
  rw [stS_snoc_ne _ _ e, stS_cut_ne _ e]
  rw [if_iff (show k ∈ cutQ Q key ↔ k ∈ Q by rw [mem_cutQ]; simp [e])]
 ·rw [hk, hOf_snoc_eq _ (not_cutL _ _), hOf_cut_eq]
 ·rw [hk, cntS_snoc, if_iff (kindS_hot hi key)]; simp; omega
 ·rw [hk, cntS_snoc, if_iff (kindS_ghost hi key)]; simp; omega
theorem Coh.chill (h : Coh S Q t) (hi : SInv S Q) (key : ByteArray) (i j : Nat) :
  Coh (cutS S key ++ [(key, 2)]) (cutQ Q key ++ [key]) (setT { t with LS := cutL t.LS key ++ [(i, key)], LQ := cutL t.LQ key ++ [(j, key)] } key (2, i, j)) := by
 have hst : stS (cutS S key ++ [(key, 2)]) key = 2 := stS_snoc_eq 2 (not_mem_cutS _ _)
 have hk : kindS (cutS S key ++ [(key, 2)]) (cutQ Q key ++ [key]) key = 2 := by unfold kindS; rw [hst]; rfl
 have c1 := cnt_without hi key (is := 1) (by omega)
 have c3 := cnt_without hi key (is := 3) (by omega)
 refine h.set hi (by rw [List.map_append, cutL_map, h.ls, List.map_append, cutS_keys]; rfl) (by rw [List.map_append, cutL_map, h.lq]; rfl) (fun k e => ⟨?_, ?_, ?_⟩) ?_ ?_ ?_
 ·rw [hOf_snoc_ne _ _ e, hOf_cut_ne _ e]
 ·rw [hOf_snoc_ne _ _ e, hOf_cut_ne _ e]
 ·unfold kindS
  rw [stS_snoc_ne _ _ e, stS_cut_ne _ e]
  rw [if_iff (show k ∈ cutQ Q key ++ [key] ↔ k ∈ Q by rw [List.mem_append, mem_cutQ]; simp [e])]
 ·rw [hk, hOf_snoc_eq _ (not_cutL _ _), hOf_snoc_eq _ (not_cutL _ _)]
 ·rw [hk, cntS_snoc, if_iff (kindS_hot hi key)]; simp; omega
 ·rw [hk, cntS_snoc, if_iff (kindS_ghost hi key)]; simp; omega
/-- A hot key becomes cold, and leaves S. -/
theorem Coh.cool (h : Coh S Q t) (hi : SInv S Q) {key : ByteArray} (hk1 : (key, 1) ∈ S) (j : Nat) :
  Coh (cutS S key) (Q ++ [key]) (setT { t with LS := cutL t.LS key, LQ := cutL t.LQ key ++ [(j, key)] } key (2, 0, j)) := by
 have hs : stS S key = 1 := stS_mem hi.nd hk1
 have hq : key ∉ Q := by
  rcases hi.ok _ hk1 with ⟨_, b⟩ | ⟨a, _⟩ | ⟨a, _⟩
  ·exact b
  ·cases a
  ·cases a
 have hk : kindS (cutS S key) (Q ++ [key]) key = 2 := by unfold kindS; rw [if_pos (stS_cut_eq _ _), if_pos (by simp)]
 have c1 := cnt_without hi key (is := 1) (by omega)
 have c3 := cnt_without hi key (is := 3) (by omega)
 have hlq : cutL t.LQ key = t.LQ := cutL_not (by rw [h.lq]; exact hq)
 refine h.set hi (by rw [cutL_map, h.ls, cutS_keys]) (by rw [List.map_append, hlq, h.lq]; rfl) (fun k e => ⟨hOf_cut_ne _ e, ?_, ?_⟩) ?_ ?_ ?_
 ·rw [hOf_snoc_ne _ _ e, hOf_cut_ne _ e]
 ·unfold kindS
  rw [stS_cut_ne _ e]
  rw [if_iff (show k ∈ Q ++ [key] ↔ k ∈ Q by rw [List.mem_append]; simp [e])]
 ·rw [hk, hOf_cut_eq, hOf_snoc_eq _ (not_cutL _ _)]
 ·rw [hk, if_iff (kindS_hot hi key)]; simp; omega
 ·rw [hk, if_iff (kindS_ghost hi key)]; simp; omega
theorem Coh.gone (h : Coh S Q t) (hi : SInv S Q) (key : ByteArray) :
  Coh (cutS S key) (cutQ Q key) (setT { t with LS := cutL t.LS key, LQ := cutL t.LQ key } key (0, 0, 0)) := by
 have hk : kindS (cutS S key) (cutQ Q key) key = 0 := by unfold kindS; rw [if_pos (stS_cut_eq _ _), if_neg (not_mem_cutQ _ _)]
 have c1 := cnt_without hi key (is := 1) (by omega)
 have c3 := cnt_without hi key (is := 3) (by omega)
 refine h.set hi (by rw [cutL_map, h.ls, cutS_keys]) (by rw [cutL_map, h.lq]) (fun k e => ⟨hOf_cut_ne _ e, hOf_cut_ne _ e, ?_⟩) ?_ ?_ ?_
 ·unfold kindS
  rw [stS_cut_ne _ e, if_iff (show k ∈ cutQ Q key ↔ k ∈ Q by rw [mem_cutQ]; simp [e])]
 ·rw [hk, hOf_cut_eq, hOf_cut_eq]
 ·rw [hk, if_iff (kindS_hot hi key)]; simp; omega
 ·rw [hk, if_iff (kindS_ghost hi key)]; simp; omega
end
end Go.Proofs.YtfeicmpbfbhiiaaGreat
