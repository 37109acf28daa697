/- Rows in an arena, in plain Lean: links, and what pushing and taking does to them. -/
import Derived.Test.YtphlancijlljcaaGreatSl
set_option linter.unusedVariables false
set_option linter.unusedSimpArgs false
namespace Go.Proofs.YtphlancijlljcaaGreat
open Go.RowKit

structure Lk where
  v : ByteArray
  p : Nat
  n : Nat
  t : Bool
def Lk.enc (a : Lk) : List Value := [.string a.v, .int .i64 a.p, .int .i64 a.n, .bool a.t]
def Lk.zero : Lk := ⟨⟨#[]⟩, 0, 0, false⟩
def up {α : Type} (f : Nat → α) (i : Nat) (x : α) : Nat → α := fun k => if k = i then x else f k
theorem up_same {α : Type} (f : Nat → α) (i : Nat) (x : α) : up f i x i = x := by simp [up]
theorem up_other {α : Type} (f : Nat → α) (i j : Nat) (x : α) (h : j ≠ i) : up f i x j = f j := by simp [up, h]
/-- The arena's cells. -/
def arena (f : Nat → Lk) (m : Nat) : List Value := (List.range m).flatMap fun i => (f i).enc

theorem range_get {F : Nat → List Value} {s : Nat} (hF : ∀ i, (F i).length = s) (m i j : Nat) (hi : i < m) (hj : j < s) : ((List.range m).flatMap F)[i * s + j]? = (F i)[j]? := by
  rw [flat_get hF (List.range m) i (by simpa using hi) j hj]
  simp
theorem range_len {F : Nat → List Value} {s : Nat} (hF : ∀ i, (F i).length = s) (m : Nat) : ((List.range m).flatMap F).length = m * s := by rw [flat_len hF]; simp
theorem range_set {F : Nat → List Value} {s : Nat} (hF : ∀ i, (F i).length = s) (m h j : Nat) (hh : h < m) (hj : j < s) (u : Value) :
    ((List.range m).flatMap F).set (h * s + j) u = (List.range m).flatMap (fun i => if i = h then (F i).set j u else F i) := by
  have hF2 : ∀ i, ((fun i => if i = h then (F i).set j u else F i) i).length = s := by intro i; simp only; split <;> simp [hF]
  have hlt : h * s + j < m * s := by
    have : (h + 1) * s ≤ m * s := Nat.mul_le_mul_right _ hh
    rw [Nat.add_mul] at this; omega
  apply List.ext_getElem?
  intro k
  by_cases hk : k < m * s
  · have hs : 0 < s := by omega
    have hi : k / s < m := by rw [Nat.div_lt_iff_lt_mul hs]; exact hk
    have hr : k % s < s := Nat.mod_lt _ hs
    have e1 : k = k / s * s + k % s := by rw [Nat.mul_comm]; exact (Nat.div_add_mod k s).symm
    generalize k / s = a at *
    generalize k % s = b at *
    subst e1
    rw [range_get hF2 m a b hi hr, List.getElem?_set]
    by_cases c : h * s + j = a * s + b
    · have ha : h = a := by
        rcases Nat.lt_trichotomy h a with h1 | h1 | h1
        · have : (h + 1) * s ≤ a * s := Nat.mul_le_mul_right _ h1
          rw [Nat.add_mul] at this; omega
        · exact h1
        · have : (a + 1) * s ≤ h * s := Nat.mul_le_mul_right _ h1
          rw [Nat.add_mul] at this; omega
      subst ha
      have hb : j = b := by omega
      subst hb
      rw [if_pos rfl, if_pos (by rw [range_len hF]; exact hlt)]
      show some u = (if h = h then (F h).set j u else F h)[j]?
      rw [if_pos rfl, List.getElem?_set, if_pos rfl, if_pos (by rw [hF]; exact hj)]
    · rw [if_neg c, range_get hF m a b hi hr]
      split
      · rename_i e; subst e
        rw [List.getElem?_set, if_neg (by intro e; apply c; rw [e])]
      · rfl
  · rw [List.getElem?_eq_none (by rw [List.length_set, range_len hF]; omega), List.getElem?_eq_none (by rw [range_len hF2]; omega)]
theorem range_congr {F G : Nat → List Value} {m : Nat} (h : ∀ i, i < m → F i = G i) : (List.range m).flatMap F = (List.range m).flatMap G := by
  rw [List.flatMap_def, List.flatMap_def, List.map_congr_left fun i hi => h i (List.mem_range.1 hi)]

theorem arena_len (f : Nat → Lk) (m : Nat) : (arena f m).length = m * 4 := range_len (F := fun i => (f i).enc) (fun _ => rfl) m
theorem arena_get (f : Nat → Lk) (m i j : Nat) (hi : i < m) (hj : j < 4) : (arena f m)[i * 4 + j]? = (f i).enc[j]? := range_get (F := fun i => (f i).enc) (fun _ => rfl) m i j hi hj
theorem arena_set (f : Nat → Lk) (m h j : Nat) (hh : h < m) (hj : j < 4) (u : Value) (x : Lk) (hx : x.enc = (f h).enc.set j u) : (arena f m).set (h * 4 + j) u = arena (up f h x) m := by
  unfold arena
  rw [range_set (F := fun i => (f i).enc) (fun _ => rfl) m h j hh hj u]
  refine range_congr fun i _ => ?_
  by_cases c : i = h
  · subst c; simp [up, hx]
  · simp [up, c]
theorem arena_snoc (f : Nat → Lk) (m : Nat) (x : Lk) : arena (up f m x) (m + 1) = arena f m ++ x.enc := by
  unfold arena
  rw [List.range_succ, List.flatMap_append]
  congr 1
  · exact range_congr fun i hi => by simp [up, show i ≠ m by omega]
  · simp [up]
theorem arena_one (f : Nat → Lk) (m : Nat) : ∀ u ∈ arena f m, u.oneCell' = true := by
  intro u hu
  obtain ⟨i, _, hi⟩ := List.mem_flatMap.1 hu
  simp [Lk.enc] at hi
  rcases hi with rfl | rfl | rfl | rfl <;> rfl

/-- From a on, these, up to b: next and prev agree. -/
def Seg (f : Nat → Lk) : Nat → List Nat → Nat → Prop
  | a, [], b => (f a).n = b ∧ (f b).p = a
  | a, h :: t, b => (f a).n = h ∧ (f h).p = a ∧ Seg f h t b
theorem Seg.congr {f g : Nat → Lk} : ∀ {l : List Nat} {a b : Nat}, Seg f a l b → (∀ i, i ∈ a :: l → (g i).n = (f i).n) → (∀ i, i ∈ l ++ [b] → (g i).p = (f i).p) → Seg g a l b
  | [], a, b, h, h1, h2 => ⟨by rw [h1 a (by simp)]; exact h.1, by rw [h2 b (by simp)]; exact h.2⟩
  | x :: t, a, b, h, h1, h2 => ⟨by rw [h1 a (by simp)]; exact h.1, by rw [h2 x (by simp)]; exact h.2.1, h.2.2.congr (fun i hi => h1 i (List.mem_cons_of_mem _ hi)) (fun i hi => h2 i (by simp at hi ⊢; grind))⟩
theorem Seg.append {f : Nat → Lk} {h b : Nat} {l2 : List Nat} : ∀ {l1 : List Nat} {a : Nat}, Seg f a (l1 ++ h :: l2) b ↔ Seg f a l1 h ∧ Seg f h l2 b
  | [], a => by simp [Seg, and_assoc]
  | x :: t, a => by simp [Seg, Seg.append (l1 := t), and_assoc]
/-- What stands last ahead of b. -/
theorem Seg.last {f : Nat → Lk} : ∀ {l : List Nat} {a b : Nat}, Seg f a l b → (f b).p ∈ a :: l ∧ (f (f b).p).n = b
  | [], a, b, h => by obtain ⟨h1, h2⟩ := h; rw [h2]; exact ⟨by simp, h1⟩
  | x :: t, a, b, h => ⟨List.mem_cons_of_mem _ h.2.2.last.1, h.2.2.last.2⟩
theorem Seg.first {f : Nat → Lk} {l : List Nat} {a b : Nat} (h : Seg f a l b) : (f a).n = (l ++ [b]).head (by simp) := by
  cases l with
  | nil => exact h.1
  | cons x t => exact h.1

/-- A handle is taken from between its neighbours. -/
theorem Seg.lift {f g : Nat → Lk} {h b : Nat} {l2 : List Nat} (h2 : Seg f h l2 b) : ∀ {l1 : List Nat} {a : Nat}, Seg f a l1 h → (a :: l1 ++ h :: l2).Nodup → (∀ x, x ∈ l1 ++ h :: l2 → x ≠ b) →
    (g (f h).p).n = (f h).n → (g (f h).n).p = (f h).p → (∀ i, i ≠ (f h).p → i ≠ h → (g i).n = (f i).n) → (∀ i, i ≠ (f h).n → i ≠ h → (g i).p = (f i).p) → h ≠ b → Seg g a (l1 ++ l2) b
  | [], a, h1, hn, hb, g1, g2, g3, g4, hhb => by
    obtain ⟨k1, k2⟩ := h1
    rw [k2] at g1 g2 g3
    simp only [List.nil_append]
    cases l2 with
    | nil =>
      obtain ⟨e1, e2⟩ := h2
      rw [e1] at g1 g2
      exact ⟨g1, g2⟩
    | cons x t =>
      obtain ⟨e1, e2, e3⟩ := h2
      rw [e1] at g1 g2 g4
      refine ⟨g1, g2, e3.congr (fun i hi => g3 i ?_ ?_) (fun i hi => g4 i ?_ ?_)⟩
      · rintro rfl; simp at hn hi; rcases hi with rfl | hi <;> simp_all
      · rintro rfl; simp at hn hi; rcases hi with rfl | hi <;> simp_all
      · rintro rfl
        rcases List.mem_append.1 hi with hi | hi
        · simp at hn; exact hn.2.2.1 hi
        · simp at hi; exact hb i (by simp) hi
      · rintro rfl
        rcases List.mem_append.1 hi with hi | hi
        · simp at hn; exact hn.2.1.2 hi
        · simp at hi; exact hhb hi
  | y :: t, a, h1, hn, hb, g1, g2, g3, g4, hhb => by
    obtain ⟨k1, k2, k3⟩ := h1
    have hl := k3.last
    refine ⟨?_, ?_, Seg.lift h2 k3 (List.nodup_cons.1 hn).2 (fun x hx => hb x (List.mem_cons_of_mem _ hx)) g1 g2 g3 g4 hhb⟩
    · rw [g3 a ?_ ?_]; exact k1
      · intro e
        have := (List.nodup_cons.1 hn).1
        apply this
        rw [e]
        exact List.mem_append_left _ hl.1
      · rintro rfl
        exact (List.nodup_cons.1 hn).1 (by simp)
    · rw [g4 y ?_ ?_]; exact k2
      · intro e
        have hf := h2.first
        have hn2 := (List.nodup_cons.1 hn).2
        have : y ∈ l2 ++ [b] := by rw [e, hf]; exact List.head_mem _
        rcases List.mem_append.1 this with hy | hy
        · exact (List.nodup_cons.1 hn2).1 (by simp [hy])
        · simp at hy; exact hb y (by simp) hy
      · rintro rfl
        exact (List.nodup_cons.1 (List.nodup_cons.1 hn).2).1 (by simp)
/-- A handle is laid at the end. -/
theorem Seg.snoc {f g : Nat → Lk} {h b : Nat} : ∀ {l : List Nat} {a : Nat}, Seg f a l b → (a :: l).Nodup → h ∉ a :: l → h ≠ b → b ∉ l →
    (g h).p = (f b).p → (g h).n = b → (g (f b).p).n = h → (g b).p = h → (∀ i, i ≠ (f b).p → i ≠ h → (g i).n = (f i).n) → (∀ i, i ≠ b → i ≠ h → (g i).p = (f i).p) → Seg g a (l ++ [h]) b
  | [], a, h1, hn, hh, hhb, hbl, g1, g2, g3, g4, g5, g6 => by
    obtain ⟨k1, k2⟩ := h1
    rw [k2] at g1 g3
    exact ⟨g3, g1, g2, g4⟩
  | y :: t, a, h1, hn, hh, hhb, hbl, g1, g2, g3, g4, g5, g6 => by
    obtain ⟨k1, k2, k3⟩ := h1
    have hl := k3.last
    refine ⟨?_, ?_, Seg.snoc k3 (List.nodup_cons.1 hn).2 (fun hx => hh (List.mem_cons_of_mem _ hx)) hhb (fun hx => hbl (List.mem_cons_of_mem _ hx)) g1 g2 g3 g4 g5 g6⟩
    · rw [g5 a ?_ ?_]; exact k1
      · intro e
        exact (List.nodup_cons.1 hn).1 (by rw [e]; exact hl.1)
      · rintro rfl; exact hh (by simp)
    · rw [g6 y ?_ ?_]; exact k2
      · rintro rfl; exact hbl (by simp)
      · rintro rfl; exact hh (by simp)

/-- An arena of m links, the free places fr, the row L: handles with their values. -/
structure LInv (m : Nat) (f : Nat → Lk) (fr : List Nat) (L : List (Nat × ByteArray)) : Prop where
  size : m = L.length + fr.length + 1
  seg : Seg f 0 (L.map (·.1)) 0
  at_ : ∀ e, e ∈ L → 0 < e.1 ∧ e.1 < m ∧ (f e.1).t = true ∧ (f e.1).v = e.2
  nd : (L.map (·.1)).Nodup
  all : ∀ i, (f i).t = true → i < m → i ∈ L.map (·.1)
  frnd : fr.Nodup
  free : ∀ i, i ∈ fr → 0 < i ∧ i < m ∧ (f i).t = false

/-- The handle at the front; 0: there is none. -/
def hd0 (L : List (Nat × ByteArray)) : Nat := (L.map (·.1)).headD 0
theorem LInv.bd {m : Nat} {f : Nat → Lk} {fr : List Nat} {L : List (Nat × ByteArray)} (h : LInv m f fr L) : ∀ i, i ∈ (0 : Nat) :: L.map (·.1) → i < m := by
  intro i hi
  rcases List.mem_cons.1 hi with rfl | hi
  · have := h.size; omega
  · obtain ⟨e, he, rfl⟩ := List.mem_map.1 hi
    exact (h.at_ e he).2.1
theorem LInv.zero {m : Nat} {f : Nat → Lk} {fr : List Nat} {L : List (Nat × ByteArray)} (h : LInv m f fr L) : 0 ∉ L.map (·.1) := by
  intro hi
  obtain ⟨e, he, h0⟩ := List.mem_map.1 hi
  have := (h.at_ e he).1
  omega
theorem LInv.pv {m : Nat} {f : Nat → Lk} {fr : List Nat} {L : List (Nat × ByteArray)} (h : LInv m f fr L) : (f 0).p < m := h.bd _ h.seg.last.1
theorem LInv.nil : LInv 1 (fun _ => Lk.zero) [] [] := ⟨rfl, ⟨rfl, rfl⟩, (fun e h => by cases h), List.nodup_nil, (fun i hi => by cases hi), List.nodup_nil, (fun e h => by cases h)⟩
/-- A value is laid at the back, by a handle h that is free (or the first one behind the arena). -/
theorem LInv.push {m m' h : Nat} {f g : Nat → Lk} {fr fr' : List Nat} {L : List (Nat × ByteArray)} (i : LInv m f fr L) (v : ByteArray) (hh : (fr = fr' ++ [h] ∧ m' = m) ∨ (fr = [] ∧ fr' = [] ∧ h = m ∧ m' = m + 1))
    (hg : g = up (up (up f h ⟨v, (f 0).p, 0, true⟩) (f 0).p { up f h ⟨v, (f 0).p, 0, true⟩ (f 0).p with n := h }) 0 { up (up f h ⟨v, (f 0).p, 0, true⟩) (f 0).p { up f h ⟨v, (f 0).p, 0, true⟩ (f 0).p with n := h } 0 with p := h }) :
    LInv m' g fr' (L ++ [(h, v)]) := by
  have hfree : 0 < h ∧ h < m' ∧ h ∉ L.map (·.1) := by
    rcases hh with ⟨rfl, rfl⟩ | ⟨rfl, rfl, rfl, rfl⟩
    · obtain ⟨a, b, c⟩ := i.free h (by simp)
      refine ⟨a, b, fun hm => ?_⟩
      obtain ⟨e, he, rfl⟩ := List.mem_map.1 hm
      rw [(i.at_ e he).2.2.1] at c
      cases c
    · refine ⟨by have := i.size; omega, by omega, fun hm => ?_⟩
      have := i.bd h (List.mem_cons_of_mem _ hm)
      omega
  obtain ⟨h0, hm', hL⟩ := hfree
  have hmm : m ≤ m' := by rcases hh with ⟨_, rfl⟩ | ⟨_, _, _, rfl⟩ <;> omega
  have hpv := i.seg.last
  have hph : (f 0).p ≠ h := by
    intro e
    rcases List.mem_cons.1 hpv.1 with e1 | e1
    · omega
    · rw [e] at e1; exact hL e1
  have ght : ∀ k, k ≠ h → (g k).t = (f k).t ∧ (g k).v = (f k).v := by
    intro k hk
    subst hg
    by_cases c1 : k = 0 <;> by_cases c2 : k = (f 0).p <;> simp_all [up]
    all_goals (repeat' split) <;> simp_all
  have gh : (g h).t = true ∧ (g h).v = v ∧ (g h).p = (f 0).p ∧ (g h).n = 0 := by
    have e1 : h ≠ 0 := by omega
    subst hg
    simp [up, e1, hph.symm]
  refine ⟨?_, ?_, ?_, ?_, ?_, ?_, ?_⟩
  · have := i.size
    rcases hh with ⟨rfl, rfl⟩ | ⟨rfl, rfl, rfl, rfl⟩
    · simp at this ⊢; omega
    · simp at this ⊢; omega
  · rw [List.map_append]
    refine i.seg.snoc (h := h) (List.nodup_cons.2 ⟨i.zero, i.nd⟩) (fun hx => ?_) (by omega) i.zero gh.2.2.1 gh.2.2.2 ?_ ?_ ?_ ?_
    · rcases List.mem_cons.1 hx with hx | hx
      · omega
      · exact hL hx
    · subst hg
      by_cases c : (f 0).p = 0
      · simp [up, c]
      · simp [up, c]
    · subst hg; simp [up]
    · intro k k1 k2
      subst hg
      by_cases c : k = 0
      · subst c; simp [up, Ne.symm k1, Ne.symm k2]
        rw [if_neg (by omega)]
        rw [if_neg (by omega)]
      · simp [up, c, k1, k2]
    · intro k k1 k2
      subst hg
      by_cases c : k = (f 0).p
      · simp [up, k1]; rw [if_pos c]; rw [if_neg hph, ← c]
      · simp [up, c, k1, k2]
  · intro e he
    rcases List.mem_append.1 he with he | he
    · obtain ⟨a, b, c, d⟩ := i.at_ e he
      have hne : e.1 ≠ h := fun e1 => hL (by rw [← e1]; exact List.mem_map_of_mem he)
      exact ⟨a, by omega, by rw [(ght _ hne).1]; exact c, by rw [(ght _ hne).2]; exact d⟩
    · simp at he
      subst he
      exact ⟨h0, hm', gh.1, gh.2.1⟩
  · rw [List.map_append]
    simp only [List.map_cons, List.map_nil]
    rw [List.nodup_append]
    exact ⟨i.nd, by simp, by intro a ha b hb; simp at hb; subst hb; rintro rfl; exact hL ha⟩
  · intro k hk hkm
    by_cases c : k = h
    · simp [c]
    · rw [(ght _ c).1] at hk
      have : k < m := by
        rcases hh with ⟨_, rfl⟩ | ⟨_, _, rfl, rfl⟩ <;> omega
      have := i.all k hk this
      rw [List.map_append]
      exact List.mem_append_left _ this
  · rcases hh with ⟨rfl, _⟩ | ⟨_, rfl, _⟩
    · exact (List.nodup_append.1 i.frnd).1
    · simp
  · intro k hk
    rcases hh with ⟨rfl, rfl⟩ | ⟨_, rfl, _⟩
    · obtain ⟨a, b, c⟩ := i.free k (by simp [hk])
      have : k ≠ h := by rintro rfl; exact (List.nodup_append.1 i.frnd).2.2 k hk k (by simp) rfl
      exact ⟨a, b, by rw [(ght _ this).1]; exact c⟩
    · simp at hk
theorem LInv.fresh {m m' h : Nat} {f : Nat → Lk} {fr fr' : List Nat} {L : List (Nat × ByteArray)} (i : LInv m f fr L) (hh : (fr = fr' ++ [h] ∧ m' = m) ∨ (fr = [] ∧ fr' = [] ∧ h = m ∧ m' = m + 1)) :
    0 < h ∧ h < m' ∧ h ∉ L.map (·.1) ∧ (f 0).p ≠ h ∧ (f 0).p < m' := by
  have hfree : 0 < h ∧ h < m' ∧ h ∉ L.map (·.1) := by
    rcases hh with ⟨rfl, rfl⟩ | ⟨rfl, rfl, rfl, rfl⟩
    · obtain ⟨a, b, c⟩ := i.free h (by simp)
      refine ⟨a, b, fun hm => ?_⟩
      obtain ⟨e, he, rfl⟩ := List.mem_map.1 hm
      rw [(i.at_ e he).2.2.1] at c
      cases c
    · refine ⟨by have := i.size; omega, by omega, fun hm => ?_⟩
      have := i.bd h (List.mem_cons_of_mem _ hm)
      omega
  have hmm : m ≤ m' := by rcases hh with ⟨_, rfl⟩ | ⟨_, _, _, rfl⟩ <;> omega
  refine ⟨hfree.1, hfree.2.1, hfree.2.2, ?_, Nat.lt_of_lt_of_le i.pv hmm⟩
  intro e
  rcases List.mem_cons.1 i.seg.last.1 with e1 | e1
  · omega
  · rw [e] at e1; exact hfree.2.2 e1
/-- A handle is taken away. -/
theorem LInv.remove {m h : Nat} {f g : Nat → Lk} {fr : List Nat} {L1 L2 : List (Nat × ByteArray)} {v : ByteArray} (i : LInv m f fr (L1 ++ (h, v) :: L2))
    (g1 : (g (f h).p).n = (f h).n ∨ (f h).p = h) (g2 : (g (f h).n).p = (f h).p ∨ (f h).n = h) (g3 : ∀ k, k ≠ (f h).p → k ≠ h → (g k).n = (f k).n) (g4 : ∀ k, k ≠ (f h).n → k ≠ h → (g k).p = (f k).p)
    (g5 : ∀ k, k ≠ h → (g k).t = (f k).t ∧ (g k).v = (f k).v) (g6 : (g h).t = false) : LInv m g (fr ++ [h]) (L1 ++ L2) := by
  have hz := i.zero
  have hnd := i.nd
  have hat := i.at_ (h, v) (by simp)
  have hseg := i.seg
  simp only [List.map_append, List.map_cons] at hseg hnd hz
  obtain ⟨s1, s2⟩ := Seg.append.1 hseg
  have hh0 : h ≠ 0 := by have := hat.1; simp at this; omega
  have hnd0 : (0 :: (L1.map (·.1)) ++ h :: L2.map (·.1)).Nodup := List.nodup_cons.2 ⟨hz, hnd⟩
  have hsp := s1.last
  have hp : (f h).p ≠ h := by
    intro e
    rw [e] at hsp
    rcases List.mem_cons.1 hsp.1 with e1 | e1
    · exact hh0 e1
    · exact (List.nodup_append.1 hnd).2.2 h e1 h (by simp) rfl
  have hn : (f h).n ≠ h := by
    intro e
    have hf := s2.first
    have : h ∈ L2.map (·.1) ++ [0] := by rw [← e, hf]; exact List.head_mem _
    rcases List.mem_append.1 this with e1 | e1
    · exact (List.nodup_cons.1 (List.nodup_append.1 hnd).2.1).1 e1
    · simp at e1; exact hh0 e1
  refine ⟨?_, ?_, ?_, ?_, ?_, ?_, ?_⟩
  · have := i.size; simp at this ⊢; omega
  · rw [List.map_append]
    refine Seg.lift s2 s1 hnd0 (fun x hx => ?_) (g1.resolve_right hp) (g2.resolve_right hn) g3 g4 hh0
    rintro rfl
    exact hz hx
  · intro e he
    have hne : e.1 ≠ h := by
      rintro e1
      rcases List.mem_append.1 he with he | he
      · exact (List.nodup_append.1 hnd).2.2 e.1 (List.mem_map_of_mem he) h (by simp) e1
      · exact (List.nodup_cons.1 (List.nodup_append.1 hnd).2.1).1 (by rw [← e1]; exact List.mem_map_of_mem he)
    obtain ⟨a, b, c, d⟩ := i.at_ e (by simp at he ⊢; grind)
    exact ⟨a, b, by rw [(g5 _ hne).1]; exact c, by rw [(g5 _ hne).2]; exact d⟩
  · rw [List.map_append]
    exact hnd.sublist (List.Sublist.append (List.Sublist.refl _) (List.sublist_cons_self _ _))
  · intro k hk hkm
    have hne : k ≠ h := by rintro rfl; rw [g6] at hk; cases hk
    rw [(g5 _ hne).1] at hk
    have := i.all k hk hkm
    simp only [List.map_append, List.map_cons, List.mem_append, List.mem_cons] at this ⊢
    grind
  · rw [List.nodup_append]
    refine ⟨i.frnd, by simp, ?_⟩
    intro a ha b hb
    simp at hb
    subst hb
    rintro rfl
    have := (i.free a ha).2.2
    have h2 := hat.2.2.1
    simp at h2
    rw [h2] at this
    cases this
  · intro k hk
    rcases List.mem_append.1 hk with hk | hk
    · obtain ⟨a, b, c⟩ := i.free k hk
      refine ⟨a, b, ?_⟩
      by_cases e : k = h
      · rw [e]; exact g6
      · rw [(g5 _ e).1]; exact c
    · simp at hk
      subst hk
      exact ⟨hat.1, hat.2.1, g6⟩
end Go.Proofs.YtphlancijlljcaaGreat
