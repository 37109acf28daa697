/- The engine of chapter 10 (arc) in plain Lean: rows 0 T1, 1 T2, 2 B1, 3 B2. -/
import Derived.Test.YtphlancijlljcaaGreatRowsPure
set_option linter.unusedVariables false
set_option linter.unusedSimpArgs false
namespace Go.Proofs.YtphlancijlljcaaGreat
open Go.RowKit

/-- A row's oldest key; the empty one, if there is none. -/
def oldest (K : Rows) (r : Nat) : ByteArray := (K r).headD ⟨#[]⟩
/-- A row has at most n keys: the oldest go. -/
def trim (K : Rows) (r n : Nat) : Rows := up K r ((K r).drop ((K r).length - n))
theorem oldest_mem {K : Rows} {r : Nat} (h : 0 < (K r).length) : oldest K r ∈ K r := by
  unfold oldest
  cases hk : K r with
  | nil => rw [hk] at h; simp at h
  | cons a l => simp
theorem dropK_oldest {k : Nat} {K : Rows} (hn : RNd k K) {r : Nat} (h : 0 < (K r).length) : dropK K (oldest K r) = up K r (K r).tail := by
  rw [dropK_one hn (oldest_mem h)]
  congr 1
  have hnd := hn.nd r
  unfold oldest
  cases hk : K r with
  | nil => rw [hk] at h; simp at h
  | cons a l =>
    rw [hk] at hnd
    have h1 := (List.nodup_cons.1 hnd).1
    simp only [List.headD_cons, List.tail_cons]
    rw [List.filter_cons_of_neg (by simp), List.filter_eq_self]
    intro x hx
    exact decide_eq_true fun e => h1 (e ▸ hx)
theorem up_up {α : Type} (f : Nat → α) (i : Nat) (x y : α) : up (up f i x) i y = up f i y := by
  funext k; simp only [up]; split <;> rfl
theorem up_self {α : Type} (f : Nat → α) (i : Nat) : up f i (f i) = f := by
  funext k; simp only [up]; split
  · rename_i h; rw [h]
  · rfl
theorem up_comm {α : Type} (f : Nat → α) {i j : Nat} (h : i ≠ j) (x y : α) : up (up f i x) j y = up (up f j y) i x := by
  funext k; simp only [up]
  by_cases h1 : k = i <;> by_cases h2 : k = j <;> simp_all
/-- One round of 'drop the oldest'. -/
theorem trim_step {k : Nat} {K : Rows} (hn : RNd k K) {r n : Nat} (h : n < (K r).length) : trim (dropK K (oldest K r)) r n = trim K r n := by
  rw [dropK_oldest hn (by omega)]
  unfold trim
  rw [up_same, up_up, List.length_tail, List.drop_tail]
  congr 2
  omega
theorem trim_le {K : Rows} {r n : Nat} (h : (K r).length ≤ n) : trim K r n = K := by
  unfold trim
  rw [show (K r).length - n = 0 by omega, List.drop_zero, up_self]
theorem trim_len (K : Rows) (r n : Nat) : (trim K r n r).length = min (K r).length n := by
  unfold trim; rw [up_same, List.length_drop]; omega
theorem trim_other (K : Rows) {r i : Nat} (n : Nat) (h : i ≠ r) : trim K r n i = K i := up_other _ _ _ _ h
theorem RNd.sub {k : Nat} {K K' : Rows} (h : RNd k K) (hs : ∀ i, (K' i).Sublist (K i)) : RNd k K' :=
  ⟨fun i => (h.nd i).sublist (hs i), fun i j hij x hx hy => h.dis i j hij x ((hs i).subset hx) ((hs j).subset hy), fun i hi => by have := hs i; rw [h.out i hi] at this; exact List.sublist_nil.1 this, fun i x hx => h.sz i x ((hs i).subset hx)⟩
theorem RNd.trim {k : Nat} {K : Rows} (h : RNd k K) (r n : Nat) : RNd k (trim K r n) := h.sub fun i => by
  unfold Go.Proofs.YtphlancijlljcaaGreat.trim
  by_cases e : i = r
  · subst e; rw [up_same]; exact List.drop_sublist _ _
  · rw [up_other _ _ _ _ e]; exact List.Sublist.refl _
theorem oldest_sz {k : Nat} {K : Rows} (h : RNd k K) (r : Nat) : (oldest K r).size ≤ maxLen := by
  unfold oldest
  cases hk : K r with
  | nil => exact Nat.zero_le _
  | cons a l => exact h.sz r a (by rw [hk]; simp)
theorem push_other {K : Rows} {r i : Nat} {key : ByteArray} (h : i ≠ r) : pushK K r key i = dropK K key i := up_other _ _ _ _ h
theorem push_same {K : Rows} {r : Nat} {key : ByteArray} : pushK K r key r = dropK K key r ++ [key] := up_same _ _ _
theorem push_len (K : Rows) (r i : Nat) (key : ByteArray) : (pushK K r key i).length = (dropK K key i).length + (if i = r then 1 else 0) := by
  by_cases e : i = r
  · subst e; rw [push_same]; simp
  · rw [push_other e]; simp [e]
theorem drop_len_in {k : Nat} {K : Rows} (hn : RNd k K) {j : Nat} {key : ByteArray} (h : key ∈ K j) (i : Nat) : (dropK K key i).length + (if i = j then 1 else 0) = (K i).length := by
  by_cases e : i = j
  · subst e
    have := len_filter_nd (hn.nd i) h
    simp [dropK] at this ⊢; omega
  · rw [dropK_not fun h2 => hn.dis j i (Ne.symm e) key h h2]; simp [e]
theorem drop_len_le (K : Rows) (key : ByteArray) (i : Nat) : (dropK K key i).length ≤ (K i).length := List.length_filter_le _ _
theorem tot3 (K : Rows) : tot 3 K = (K 0).length + (K 1).length + (K 2).length := by simp [tot]
theorem tot4 (K : Rows) : tot 4 K = (K 0).length + (K 1).length + (K 2).length + (K 3).length := by simp [tot]
theorem in_or (K : Rows) (key : ByteArray) : (∃ i, key ∈ K i) ∨ ∀ i, key ∉ K i := by
  by_cases h : ∃ i, key ∈ K i
  · exact .inl h
  · exact .inr fun i hi => h ⟨i, hi⟩

instance memB (a : ByteArray) (l : List ByteArray) : Decidable (a ∈ l) := decidable_of_iff (l.any (fun x => decide (x = a)) = true) (by simp)
structure Arc where
  K : Rows
  p : Nat
  c : Nat
def arcOusts (K : Rows) (recent : Bool) : List ByteArray × Rows :=
  let key := oldest K (if recent then 0 else 1)
  ([key], pushK K (if recent then 2 else 3) key)
def arcRec (K : Rows) (p : Nat) (again : Bool) : Bool := decide (0 < (K 0).length ∧ (p < (K 0).length ∨ ((K 0).length = p ∧ again = true) ∨ (K 1).length = 0))
def arcRepl (K : Rows) (p c : Nat) (again : Bool) : List ByteArray × Rows :=
  if (K 0).length + (K 1).length < c then ([], K) else arcOusts K (arcRec K p again)
def arcComes (K : Rows) (p c : Nat) : List ByteArray × Rows :=
  if c ≤ (K 0).length + (K 2).length ∧ (K 0).length < c then arcRepl (dropK K (oldest K 2)) p c false
  else if c ≤ (K 0).length + (K 2).length then ([oldest K 0], dropK K (oldest K 0))
  else if tot 4 K < c then ([], K)
  else if 2 * c ≤ tot 4 K then arcRepl (dropK K (oldest K 3)) p c false
  else arcRepl K p c false
def Arc.access (s : Arc) (key : ByteArray) : Bool × List ByteArray × Arc :=
  if key ∈ s.K 0 ∨ key ∈ s.K 1 then (true, [], { s with K := pushK s.K 1 key })
  else if key ∈ s.K 2 then
    let p := min s.c (s.p + max 1 ((s.K 3).length / (s.K 2).length))
    let r := arcRepl s.K p s.c false
    (false, r.1, { s with K := pushK r.2 1 key, p := p })
  else if key ∈ s.K 3 then
    let p := s.p - max 1 ((s.K 2).length / (s.K 3).length)
    let r := arcRepl s.K p s.c true
    (false, r.1, { s with K := pushK r.2 1 key, p := p })
  else
    let r := arcComes s.K s.p s.c
    (false, r.1, { s with K := pushK r.2 0 key })
def Arc.has (s : Arc) (key : ByteArray) : Bool := decide (key ∈ s.K 0 ∨ key ∈ s.K 1)
def Arc.len (s : Arc) : Nat := (s.K 0).length + (s.K 1).length
def arcTrim2 (c : Nat) (K : Rows) : Rows := trim K 2 (c - (K 0).length)
def arcTrim3 (c : Nat) (K : Rows) : Rows := trim K 3 (2 * c - ((K 0).length + (K 1).length + (K 2).length))
def Arc.load (s : Arc) (key : ByteArray) : Bool × Arc :=
  if s.has key = true ∨ s.len = s.c then (false, s)
  else (true, { s with K := arcTrim3 s.c (arcTrim2 s.c (pushK s.K 0 key)) })
def Arc.remove (s : Arc) (key : ByteArray) : Bool × Arc := if s.has key then (true, { s with K := dropK s.K key }) else (false, s)
def Arc.evict (s : Arc) : ByteArray × Bool × Arc :=
  if s.len = 0 then (⟨#[]⟩, false, s)
  else
    let b := arcRec s.K s.p false
    (oldest s.K (if b then 0 else 1), true, { s with K := (arcOusts s.K b).2 })

structure Arc.Inv (s : Arc) : Prop where
  nd : RNd 4 s.K
  c1 : 1 ≤ s.c
  c2 : s.c ≤ 1024
  pc : s.p ≤ s.c
  res : (s.K 0).length + (s.K 1).length ≤ s.c
  rc : (s.K 0).length + (s.K 2).length ≤ s.c
  all : tot 4 s.K ≤ 2 * s.c
theorem push_move {k : Nat} {K : Rows} (hn : RNd k K) {j : Nat} {key : ByteArray} (h : key ∈ K j) (r i : Nat) : (pushK K r key i).length + (if i = j then 1 else 0) = (K i).length + (if i = r then 1 else 0) := by
  have h1 := drop_len_in hn h i
  have h2 := push_len K r i key
  omega
theorem push_new {K : Rows} {key : ByteArray} (h : ∀ i, key ∉ K i) (r i : Nat) : (pushK K r key i).length = (K i).length + (if i = r then 1 else 0) := by
  rw [push_len, dropK_none h]
theorem not_rows {K : Rows} {k : Nat} (hn : RNd k K) {key : ByteArray} (h : ∀ i, i < k → key ∉ K i) : ∀ i, key ∉ K i := fun i hi => by
  by_cases e : i < k
  · exact h i e hi
  · rw [hn.out i (by omega)] at hi; cases hi
theorem arcRec_t {K : Rows} {p : Nat} {again : Bool} (h : arcRec K p again = true) : 0 < (K 0).length := by unfold arcRec at h; simp at h; omega
theorem arcRec_f {K : Rows} {p : Nat} {again : Bool} (h : arcRec K p again = false) (h0 : 0 < (K 0).length + (K 1).length) : 0 < (K 1).length := by
  by_cases e : (K 1).length = 0
  · exfalso
    have : arcRec K p again = true := decide_eq_true ⟨by omega, .inr (.inr e)⟩
    rw [this] at h; cases h
  · omega
/-- What ousts does to the lengths. -/
theorem arcOusts_len {K : Rows} (hn : RNd 4 K) {b : Bool} (hb : 0 < (K (if b then 0 else 1)).length) :
    RNd 4 (arcOusts K b).2 ∧ ((arcOusts K b).2 0).length + b.toNat = (K 0).length ∧ ((arcOusts K b).2 1).length + (!b).toNat = (K 1).length ∧ ((arcOusts K b).2 2).length = (K 2).length + b.toNat ∧ ((arcOusts K b).2 3).length = (K 3).length + (!b).toNat ∧
    ∀ x, x ≠ oldest K (if b then 0 else 1) → ∀ i, x ∈ (arcOusts K b).2 i ↔ x ∈ K i := by
  unfold arcOusts
  have hm := oldest_mem hb
  have h := fun r i => push_move hn hm r i
  refine ⟨hn.push (by split <;> omega) _ (oldest_sz hn _), ?_, ?_, ?_, ?_, fun x hx i => by rw [mem_pushK]; simp [hx]⟩
  · have := h (if b then 2 else 3) 0; cases b <;> simp at this ⊢ <;> omega
  · have := h (if b then 2 else 3) 1; cases b <;> simp at this ⊢ <;> omega
  · have := h (if b then 2 else 3) 2; cases b <;> simp at this ⊢ <;> omega
  · have := h (if b then 2 else 3) 3; cases b <;> simp at this ⊢ <;> omega
theorem arcRepl_len {K : Rows} (hn : RNd 4 K) {c : Nat} (hc : 1 ≤ c) (hr : (K 0).length + (K 1).length ≤ c) (p : Nat) (again : Bool) :
    RNd 4 (arcRepl K p c again).2 ∧ ((arcRepl K p c again).2 0).length + ((arcRepl K p c again).2 1).length < c ∧ ((arcRepl K p c again).2 0).length + ((arcRepl K p c again).2 2).length = (K 0).length + (K 2).length ∧
    ((arcRepl K p c again).2 1).length + ((arcRepl K p c again).2 3).length = (K 1).length + (K 3).length ∧ ((arcRepl K p c again).2 0).length ≤ (K 0).length := by
  unfold arcRepl
  split
  · exact ⟨hn, by omega, rfl, rfl, Nat.le_refl _⟩
  · rename_i hlt
    have hb : 0 < (K (if arcRec K p again then 0 else 1)).length := by
      cases e : arcRec K p again with
      | true => simpa using arcRec_t e
      | false => simpa using arcRec_f e (by omega)
    obtain ⟨h1, h2, h3, h4, h5, _⟩ := arcOusts_len hn hb
    refine ⟨h1, ?_, by omega, by omega, by omega⟩
    cases e : arcRec K p again <;> rw [e] at h2 h3 <;> simp at h2 h3 ⊢ <;> omega
/-- A key that is in no row but among the ghosts is where it was, or ... : replaces does not touch it. -/
theorem arcRepl_mem {K : Rows} (hn : RNd 4 K) {c p : Nat} (hc : 1 ≤ c) {again : Bool} {key : ByteArray} {j : Nat} (h : key ∈ K j) (hj : 2 ≤ j) : key ∈ (arcRepl K p c again).2 j := by
  unfold arcRepl
  split
  · exact h
  · rename_i hlt
    have hb : 0 < (K (if arcRec K p again then 0 else 1)).length := by
      cases e : arcRec K p again with
      | true => simpa using arcRec_t e
      | false => simpa using arcRec_f e (by omega)
    refine ((arcOusts_len hn hb).2.2.2.2.2 key ?_ j).2 h
    rintro rfl
    exact hn.dis j _ (by split <;> omega) _ h (oldest_mem hb)
theorem arcRepl_new {K : Rows} (hn : RNd 4 K) {c p : Nat} (hc : 1 ≤ c) {again : Bool} {key : ByteArray} (h : ∀ i, key ∉ K i) : ∀ i, key ∉ (arcRepl K p c again).2 i := by
  unfold arcRepl
  split
  · exact h
  · rename_i hlt
    have hb : 0 < (K (if arcRec K p again then 0 else 1)).length := by
      cases e : arcRec K p again with
      | true => simpa using arcRec_t e
      | false => simpa using arcRec_f e (by omega)
    intro i hi
    refine h i (((arcOusts_len hn hb).2.2.2.2.2 key ?_ i).1 hi)
    rintro rfl
    exact h _ (oldest_mem hb)
theorem arcComes_len {K : Rows} (hn : RNd 4 K) {c : Nat} (hc : 1 ≤ c) (hr : (K 0).length + (K 1).length ≤ c) (hrec : (K 0).length + (K 2).length ≤ c) (hall : tot 4 K ≤ 2 * c) (p : Nat) :
    RNd 4 (arcComes K p c).2 ∧ ((arcComes K p c).2 0).length + ((arcComes K p c).2 1).length < c ∧ ((arcComes K p c).2 0).length + ((arcComes K p c).2 2).length < c ∧ tot 4 (arcComes K p c).2 < 2 * c := by
  rw [tot4] at hall
  unfold arcComes
  split
  · rename_i h1
    have hb : 0 < (K 2).length := by omega
    have hd := drop_len_in hn (oldest_mem hb)
    have d0 := hd 0
    have d1 := hd 1
    have d2 := hd 2
    have d3 := hd 3
    simp at d0 d1 d2 d3
    obtain ⟨a1, a2, a3, a4, a5⟩ := arcRepl_len (hn.drop (oldest K 2)) hc (by omega) p false
    exact ⟨a1, a2, by omega, by rw [tot4]; omega⟩
  · split
    · have hb : 0 < (K 0).length := by omega
      have hd := drop_len_in hn (oldest_mem hb)
      have d0 := hd 0
      have d1 := hd 1
      have d2 := hd 2
      have d3 := hd 3
      simp at d0 d1 d2 d3
      exact ⟨hn.drop _, by simp only; omega, by simp only; omega, by rw [tot4]; simp only; omega⟩
    · split
      · rename_i h1 h2 h3
        rw [tot4] at h3
        exact ⟨hn, by simp only; omega, by simp only; omega, by rw [tot4]; simp only; omega⟩
      · split
        · rename_i h1 h2 h3 h4
          rw [tot4] at h4
          have hb : 0 < (K 3).length := by omega
          have hd := drop_len_in hn (oldest_mem hb)
          have d0 := hd 0
          have d1 := hd 1
          have d2 := hd 2
          have d3 := hd 3
          simp at d0 d1 d2 d3
          obtain ⟨a1, a2, a3, a4, a5⟩ := arcRepl_len (hn.drop (oldest K 3)) hc (by omega) p false
          exact ⟨a1, a2, by omega, by rw [tot4]; omega⟩
        · rename_i h1 h2 h3 h4
          rw [tot4] at h4
          obtain ⟨a1, a2, a3, a4, a5⟩ := arcRepl_len hn hc hr p false
          exact ⟨a1, a2, by omega, by rw [tot4]; omega⟩
theorem arcComes_new {K : Rows} (hn : RNd 4 K) {c p : Nat} (hc : 1 ≤ c) {key : ByteArray} (h : ∀ i, key ∉ K i) : ∀ i, key ∉ (arcComes K p c).2 i := by
  unfold arcComes
  have hd : ∀ x i, key ∉ dropK K x i := fun x i hi => h i (mem_dropK.1 hi).1
  split
  · exact arcRepl_new (hn.drop _) hc (hd _)
  · split
    · exact hd _
    · split
      · exact h
      · split
        · exact arcRepl_new (hn.drop _) hc (hd _)
        · exact arcRepl_new hn hc h
theorem Arc.Inv.access {s : Arc} (h : s.Inv) {key : ByteArray} (hz : key.size ≤ maxLen) : (s.access key).2.2.Inv := by
  obtain ⟨hn, c1, c2, pc, res, rc, all⟩ := h
  rw [tot4] at all
  unfold Arc.access
  split
  · rename_i hm
    have hn2 := hn.push (r := 1) (by omega) key hz
    rcases hm with hm | hm
    · have hd := push_move hn hm 1
      have d0 := hd 0
      have d1 := hd 1
      have d2 := hd 2
      have d3 := hd 3
      simp at d0 d1 d2 d3
      exact ⟨hn2, c1, c2, pc, by simp only; omega, by simp only; omega, by rw [tot4]; simp only; omega⟩
    · have hd := push_move hn hm 1
      have d0 := hd 0
      have d1 := hd 1
      have d2 := hd 2
      have d3 := hd 3
      simp at d0 d1 d2 d3
      exact ⟨hn2, c1, c2, pc, by simp only; omega, by simp only; omega, by rw [tot4]; simp only; omega⟩
  · split
    · rename_i hx hm
      have hd := push_move (arcRepl_len hn c1 res (min s.c (s.p + max 1 ((s.K 3).length / (s.K 2).length))) false).1 (arcRepl_mem (p := min s.c (s.p + max 1 ((s.K 3).length / (s.K 2).length))) (again := false) hn c1 hm (by omega)) 1
      obtain ⟨a1, a2, a3, a4, a5⟩ := arcRepl_len hn c1 res (min s.c (s.p + max 1 ((s.K 3).length / (s.K 2).length))) false
      have d0 := hd 0
      have d1 := hd 1
      have d2 := hd 2
      have d3 := hd 3
      simp at d0 d1 d2 d3
      exact ⟨a1.push (by omega) key hz, c1, c2, Nat.min_le_left _ _, by simp only; omega, by simp only; omega, by rw [tot4]; simp only; omega⟩
    · split
      · rename_i hx hx2 hm
        have hd := push_move (arcRepl_len hn c1 res (s.p - max 1 ((s.K 2).length / (s.K 3).length)) true).1 (arcRepl_mem (p := s.p - max 1 ((s.K 2).length / (s.K 3).length)) (again := true) hn c1 hm (by omega)) 1
        obtain ⟨a1, a2, a3, a4, a5⟩ := arcRepl_len hn c1 res (s.p - max 1 ((s.K 2).length / (s.K 3).length)) true
        have d0 := hd 0
        have d1 := hd 1
        have d2 := hd 2
        have d3 := hd 3
        simp at d0 d1 d2 d3
        exact ⟨a1.push (by omega) key hz, c1, c2, by simp only; omega, by simp only; omega, by simp only; omega, by rw [tot4]; simp only; omega⟩
      · rename_i h1 h2 h3
        have hk : ∀ i, key ∉ s.K i := not_rows hn fun i hi => by
          have : i = 0 ∨ i = 1 ∨ i = 2 ∨ i = 3 := by omega
          rcases this with rfl | rfl | rfl | rfl
          · exact fun h => h1 (.inl h)
          · exact fun h => h1 (.inr h)
          · exact h2
          · exact h3
        obtain ⟨a1, a2, a3, a4⟩ := arcComes_len hn c1 res rc (by rw [tot4]; exact all) s.p
        have hd := push_new (arcComes_new (p := s.p) hn c1 hk) 0
        have d0 := hd 0
        have d1 := hd 1
        have d2 := hd 2
        have d3 := hd 3
        simp at d0 d1 d2 d3
        rw [tot4] at a4
        exact ⟨a1.push (by omega) key hz, c1, c2, pc, by simp only; omega, by simp only; omega, by rw [tot4]; simp only; omega⟩
theorem Arc.Inv.load {s : Arc} (h : s.Inv) {key : ByteArray} (hz : key.size ≤ maxLen) : (s.load key).2.Inv := by
  obtain ⟨hn, c1, c2, pc, res, rc, all⟩ := id h
  rw [tot4] at all
  unfold Arc.load
  split
  · exact h
  · rename_i hx
    simp only [not_or, Arc.len] at hx
    obtain ⟨hx1, hx2⟩ := hx
    have hn2 := hn.push (r := 0) (by omega) key hz
    have p0 := push_len s.K 0 0 key
    have p1 := push_len s.K 0 1 key
    have e0 := drop_len_le s.K key 0
    have e1 := drop_len_le s.K key 1
    simp at p0 p1
    have t2 := trim_len (pushK s.K 0 key) 2 (s.c - (pushK s.K 0 key 0).length)
    have t0 := trim_other (pushK s.K 0 key) (r := 2) (i := 0) (s.c - (pushK s.K 0 key 0).length) (by omega)
    have t1 := trim_other (pushK s.K 0 key) (r := 2) (i := 1) (s.c - (pushK s.K 0 key 0).length) (by omega)
    have hn3 := hn2.trim 2 (s.c - (pushK s.K 0 key 0).length)
    unfold arcTrim2 arcTrim3
    generalize hK2 : trim (pushK s.K 0 key) 2 (s.c - (pushK s.K 0 key 0).length) = K2 at *
    have u3 := trim_len K2 3 (2 * s.c - ((K2 0).length + (K2 1).length + (K2 2).length))
    have u0 := trim_other K2 (r := 3) (i := 0) (2 * s.c - ((K2 0).length + (K2 1).length + (K2 2).length)) (by omega)
    have u1 := trim_other K2 (r := 3) (i := 1) (2 * s.c - ((K2 0).length + (K2 1).length + (K2 2).length)) (by omega)
    have u2 := trim_other K2 (r := 3) (i := 2) (2 * s.c - ((K2 0).length + (K2 1).length + (K2 2).length)) (by omega)
    refine ⟨hn3.trim _ _, c1, c2, pc, ?_, ?_, ?_⟩
    · simp only; rw [u0, u1, t0, t1]; omega
    · simp only; rw [u0, u2, t2, t0]; omega
    · rw [tot4]; simp only; rw [u3, u0, u1, u2, t2, t0, t1]; omega
theorem Arc.Inv.remove {s : Arc} (h : s.Inv) (key : ByteArray) : (s.remove key).2.Inv := by
  unfold Arc.remove
  split
  · obtain ⟨hn, c1, c2, pc, res, rc, all⟩ := h
    have e0 := drop_len_le s.K key 0
    have e1 := drop_len_le s.K key 1
    have e2 := drop_len_le s.K key 2
    have e3 := tot_drop 4 s.K key
    exact ⟨hn.drop _, c1, c2, pc, by simp only; omega, by simp only; omega, by simp only; omega⟩
  · exact h
theorem Arc.Inv.evict {s : Arc} (h : s.Inv) : s.evict.2.2.Inv := by
  unfold Arc.evict
  split
  · exact h
  · rename_i hl
    obtain ⟨hn, c1, c2, pc, res, rc, all⟩ := h
    rw [tot4] at all
    simp only [Arc.len] at hl
    have hb : 0 < (s.K (if arcRec s.K s.p false then 0 else 1)).length := by
      cases e : arcRec s.K s.p false with
      | true => simpa using arcRec_t e
      | false => simpa using arcRec_f e (by omega)
    obtain ⟨h1, h2, h3, h4, h5, _⟩ := arcOusts_len hn hb
    exact ⟨h1, c1, c2, pc, by simp only; omega, by simp only; omega, by rw [tot4]; simp only; omega⟩
end Go.Proofs.YtphlancijlljcaaGreat
