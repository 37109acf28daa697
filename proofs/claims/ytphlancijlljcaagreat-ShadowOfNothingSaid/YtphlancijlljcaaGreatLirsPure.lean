/- The engine of chapter 13 (lirs) in plain Lean: S from the bottom on, with what each key is (1 hot, 2 cold, 3 a ghost); Q from the front on. -/
import Derived.Test.YtphlancijlljcaaGreatTinyPure
set_option linter.unusedVariables false
set_option linter.unusedSimpArgs false
namespace Go.Proofs.YtphlancijlljcaaGreat
open Go.RowKit

abbrev Stk := List (ByteArray × Nat)
structure Lirs where
  S : Stk
  Q : List ByteArray
  c : Nat
/-- What a key is in S; 0: it is not there. -/
def stS (S : Stk) (key : ByteArray) : Nat := ((S.find? fun e => decide (e.1 = key)).map (·.2)).getD 0
def cutS (S : Stk) (key : ByteArray) : Stk := S.filter fun e => decide (e.1 ≠ key)
def cutQ (Q : List ByteArray) (key : ByteArray) : List ByteArray := Q.filter fun e => decide (e ≠ key)
def cntS (S : Stk) (is : Nat) : Nat := S.countP fun e => decide (e.2 = is)
def lowS (S : Stk) (is : Nat) : Option ByteArray := (S.find? fun e => decide (e.2 = is)).map (·.1)
def pruneS (S : Stk) : Stk := S.dropWhile fun e => decide (e.2 ≠ 1)
def forgetS (c : Nat) (S : Stk) : Stk := if c < cntS S 3 then cutS S ((lowS S 3).getD ⟨#[]⟩) else S
def Lirs.most (s : Lirs) : Nat := s.c - max 1 (s.c / 10)
def Lirs.len (s : Lirs) : Nat := s.Q.length + cntS s.S 1
def Lirs.has (s : Lirs) (key : ByteArray) : Bool := decide (stS s.S key = 1 ∨ key ∈ s.Q)
def Lirs.cools (s : Lirs) : Lirs := let k := (lowS s.S 1).getD ⟨#[]⟩; { s with S := pruneS (cutS s.S k), Q := s.Q ++ [k] }
def Lirs.heats1 (s : Lirs) (key : ByteArray) : Lirs := { s with S := cutS s.S key ++ [(key, 1)], Q := cutQ s.Q key }
def Lirs.heats (s : Lirs) (key : ByteArray) : Lirs := if s.most < cntS (s.heats1 key).S 1 then (s.heats1 key).cools else s.heats1 key
def Lirs.chills (s : Lirs) (key : ByteArray) : Lirs := { s with S := cutS s.S key ++ [(key, 2)], Q := cutQ s.Q key ++ [key] }
def Lirs.prunes (s : Lirs) : Lirs := { s with S := pruneS s.S }
def Lirs.forgets (s : Lirs) : Lirs := { s with S := forgetS s.c s.S }
def toGhost (S : Stk) (k : ByteArray) : Stk := S.map fun e => if e.1 = k then (e.1, 3) else e
def Lirs.leaves (s : Lirs) : Lirs := { s with S := toGhost s.S (s.Q.headD ⟨#[]⟩), Q := s.Q.tail }
def Lirs.ready (s : Lirs) : Lirs := if s.Q = [] then s.cools else s
def Lirs.evict (s : Lirs) : ByteArray × Bool × Lirs :=
  if s.len = 0 then (⟨#[]⟩, false, s) else (s.ready.Q.headD ⟨#[]⟩, true, s.ready.leaves.forgets.prunes)
def Lirs.room (s : Lirs) : List ByteArray × Lirs := if s.len < s.c then ([], s) else ([s.evict.1], s.evict.2.2)
def Lirs.access (s : Lirs) (key : ByteArray) : Bool × List ByteArray × Lirs :=
  if stS s.S key = 1 ∨ (key ∈ s.Q ∧ stS s.S key = 2) then (true, [], (s.heats key).prunes)
  else if key ∈ s.Q then (true, [], (s.chills key).prunes)
  else
    let r := s.room
    (false, r.1, (if cntS r.2.S 1 < s.most ∨ stS r.2.S key = 3 then r.2.heats key else r.2.chills key).forgets.prunes)
def Lirs.load (s : Lirs) (key : ByteArray) : Bool × Lirs :=
  if s.has key = true ∨ s.len = s.c then (false, s)
  else (true, (if cntS s.S 1 < s.most then s.heats key else s.chills key).prunes)
def Lirs.remove (s : Lirs) (key : ByteArray) : Bool × Lirs :=
  if s.has key then (true, ({ s with S := cutS s.S key, Q := cutQ s.Q key } : Lirs).prunes) else (false, s)

structure SInv (S : Stk) (Q : List ByteArray) : Prop where
  nd : (S.map (·.1)).Nodup
  qd : Q.Nodup
  ok : ∀ e, e ∈ S → (e.2 = 1 ∧ e.1 ∉ Q) ∨ (e.2 = 2 ∧ e.1 ∈ Q) ∨ (e.2 = 3 ∧ e.1 ∉ Q)
  sz : ∀ e, e ∈ S → e.1.size ≤ maxLen
  qz : ∀ k, k ∈ Q → k.size ≤ maxLen
structure Lirs.Inv (s : Lirs) : Prop where
  si : SInv s.S s.Q
  c1 : 1 ≤ s.c
  c2 : s.c ≤ 1024
  res : s.Q.length + cntS s.S 1 ≤ s.c
  hm : cntS s.S 1 ≤ s.most
  gh : cntS s.S 3 ≤ s.c

theorem SInv.sub {S S' : Stk} {Q : List ByteArray} (h : SInv S Q) (hs : S'.Sublist S) : SInv S' Q :=
  ⟨h.nd.sublist (hs.map _), h.qd, fun e he => h.ok e (hs.subset he), fun e he => h.sz e (hs.subset he), h.qz⟩
theorem cutS_sub (S : Stk) (key : ByteArray) : (cutS S key).Sublist S := List.filter_sublist
theorem pruneS_sub (S : Stk) : (pruneS S).Sublist S := List.dropWhile_sublist _
theorem mem_cutS {S : Stk} {key : ByteArray} {e : ByteArray × Nat} : e ∈ cutS S key ↔ e ∈ S ∧ e.1 ≠ key := by simp [cutS]
theorem mem_cutQ {Q : List ByteArray} {key e : ByteArray} : e ∈ cutQ Q key ↔ e ∈ Q ∧ e ≠ key := by simp [cutQ]
theorem SInv.cut {S : Stk} {Q : List ByteArray} (h : SInv S Q) (key : ByteArray) : SInv (cutS S key) (cutQ Q key) := by
  have h1 := h.sub (cutS_sub S key)
  refine ⟨h1.nd, h.qd.filter _, fun e he => ?_, h1.sz, fun k hk => h.qz k (mem_cutQ.1 hk).1⟩
  have hn := (mem_cutS.1 he).2
  rcases h1.ok e he with ⟨a, b⟩ | ⟨a, b⟩ | ⟨a, b⟩
  · exact .inl ⟨a, fun hx => b (mem_cutQ.1 hx).1⟩
  · exact .inr (.inl ⟨a, mem_cutQ.2 ⟨b, hn⟩⟩)
  · exact .inr (.inr ⟨a, fun hx => b (mem_cutQ.1 hx).1⟩)
theorem not_mem_cutS (S : Stk) (key : ByteArray) : key ∉ (cutS S key).map (·.1) := by
  intro h
  obtain ⟨e, he, h2⟩ := List.mem_map.1 h
  exact (mem_cutS.1 he).2 h2
theorem not_mem_cutQ (Q : List ByteArray) (key : ByteArray) : key ∉ cutQ Q key := fun h => (mem_cutQ.1 h).2 rfl
theorem nd_snoc {α : Type} {l : List α} {a : α} (h : l.Nodup) (ha : a ∉ l) : (l ++ [a]).Nodup := by
  rw [List.nodup_append]
  exact ⟨h, by simp, by intro x hx y hy; simp at hy; subst hy; rintro rfl; exact ha hx⟩
theorem SInv.hot {S : Stk} {Q : List ByteArray} (h : SInv S Q) {key : ByteArray} (hz : key.size ≤ maxLen) (h1 : key ∉ S.map (·.1)) (h2 : key ∉ Q) : SInv (S ++ [(key, 1)]) Q := by
  refine ⟨by rw [List.map_append]; exact nd_snoc h.nd h1, h.qd, fun e he => ?_, fun e he => ?_, h.qz⟩
  · rcases List.mem_append.1 he with he | he
    · exact h.ok e he
    · simp at he; subst he; exact .inl ⟨rfl, h2⟩
  · rcases List.mem_append.1 he with he | he
    · exact h.sz e he
    · simp at he; subst he; exact hz
theorem SInv.cold {S : Stk} {Q : List ByteArray} (h : SInv S Q) {key : ByteArray} (hz : key.size ≤ maxLen) (h1 : key ∉ S.map (·.1)) (h2 : key ∉ Q) : SInv S (Q ++ [key]) ∧ SInv (S ++ [(key, 2)]) (Q ++ [key]) := by
  have hne : ∀ e, e ∈ S → e.1 ≠ key := fun e he h3 => h1 (by rw [← h3]; exact List.mem_map_of_mem he)
  have hok : ∀ e, e ∈ S → (e.2 = 1 ∧ e.1 ∉ Q ++ [key]) ∨ (e.2 = 2 ∧ e.1 ∈ Q ++ [key]) ∨ (e.2 = 3 ∧ e.1 ∉ Q ++ [key]) := fun e he => by
    have := hne e he
    rcases h.ok e he with ⟨a, b⟩ | ⟨a, b⟩ | ⟨a, b⟩
    · exact .inl ⟨a, by simp [b, this]⟩
    · exact .inr (.inl ⟨a, by simp [b]⟩)
    · exact .inr (.inr ⟨a, by simp [b, this]⟩)
  have hqz : ∀ k, k ∈ Q ++ [key] → k.size ≤ maxLen := fun k hk => by
    rcases List.mem_append.1 hk with hk | hk
    · exact h.qz k hk
    · simp at hk; subst hk; exact hz
  refine ⟨⟨h.nd, nd_snoc h.qd h2, hok, h.sz, hqz⟩, ⟨by rw [List.map_append]; exact nd_snoc h.nd h1, nd_snoc h.qd h2, fun e he => ?_, fun e he => ?_, hqz⟩⟩
  · rcases List.mem_append.1 he with he | he
    · exact hok e he
    · simp at he; subst he; exact .inr (.inl ⟨rfl, by simp⟩)
  · rcases List.mem_append.1 he with he | he
    · exact h.sz e he
    · simp at he; subst he; exact hz
theorem cntS_cut_le (S : Stk) (key : ByteArray) (is : Nat) : cntS (cutS S key) is ≤ cntS S is := (cutS_sub S key).countP_le
theorem cntS_cut {S : Stk} {key : ByteArray} {n : Nat} (hn : (S.map (·.1)).Nodup) (h : (key, n) ∈ S) (is : Nat) : cntS (cutS S key) is + (if n = is then 1 else 0) = cntS S is := by
  induction S with
  | nil => cases h
  | cons a l ih =>
    simp only [List.map_cons] at hn
    have hn2 := List.nodup_cons.1 hn
    by_cases e : a.1 = key
    · have ha : a = (key, n) := by
        rcases List.mem_cons.1 h with h | h
        · exact h.symm
        · exact absurd (by rw [e]; exact List.mem_map_of_mem (f := (·.1)) h) hn2.1
      subst ha
      have hc : cutS ((key, n) :: l) key = l := by
        unfold cutS
        rw [List.filter_cons_of_neg (by simp), List.filter_eq_self]
        intro x hx
        simp
        intro e2
        exact hn2.1 (by simp only; rw [← e2]; exact List.mem_map_of_mem (f := (·.1)) hx)
      rw [hc]
      simp only [cntS, List.countP_cons]
      by_cases e3 : n = is <;> simp [e3]
    · have hc : cutS (a :: l) key = a :: cutS l key := by
        unfold cutS
        rw [List.filter_cons_of_pos (by simpa using e)]
      have hl : (key, n) ∈ l := by
        rcases List.mem_cons.1 h with h | h
        · exact absurd (by rw [← h]) e
        · exact h
      have := ih hn2.2 hl
      rw [hc]
      simp only [cntS, List.countP_cons] at this ⊢
      omega
theorem cutS_not {S : Stk} {key : ByteArray} (h : key ∉ S.map (·.1)) : cutS S key = S := by
  unfold cutS
  rw [List.filter_eq_self]
  intro x hx
  simp
  rintro rfl
  exact h (List.mem_map_of_mem hx)
theorem cutQ_not {Q : List ByteArray} {key : ByteArray} (h : key ∉ Q) : cutQ Q key = Q := by
  unfold cutQ
  rw [List.filter_eq_self]
  intro x hx
  simp
  rintro rfl
  exact h hx
theorem cutQ_len {Q : List ByteArray} {key : ByteArray} (hn : Q.Nodup) (h : key ∈ Q) : (cutQ Q key).length + 1 = Q.length := len_filter_nd hn h
theorem cutQ_le (Q : List ByteArray) (key : ByteArray) : (cutQ Q key).length ≤ Q.length := List.length_filter_le _ _
theorem cntS_snoc (S : Stk) (key : ByteArray) (n is : Nat) : cntS (S ++ [(key, n)]) is = cntS S is + (if n = is then 1 else 0) := by
  simp only [cntS, List.countP_append, List.countP_cons, List.countP_nil]
  by_cases e : n = is <;> simp [e]
theorem cntS_prune1 (S : Stk) : cntS (pruneS S) 1 = cntS S 1 := by
  induction S with
  | nil => rfl
  | cons a l ih =>
    unfold pruneS at *
    by_cases e : a.2 = 1
    · rw [List.dropWhile_cons_of_neg (by simp [e])]
    · rw [List.dropWhile_cons_of_pos (by simpa using e), ih]
      simp [cntS, List.countP_cons, e]
theorem cntS_prune_le (S : Stk) (is : Nat) : cntS (pruneS S) is ≤ cntS S is := (pruneS_sub S).countP_le
theorem lowS_some {S : Stk} {is : Nat} (h : 0 < cntS S is) : ∃ k, lowS S is = some k ∧ (k, is) ∈ S := by
  unfold cntS at h
  obtain ⟨e, he, h2⟩ := List.countP_pos_iff.1 h
  cases hf : S.find? fun e => decide (e.2 = is) with
  | none => exact absurd h2 (by have := List.find?_eq_none.1 hf e he; simpa using this)
  | some x =>
    have h3 := List.find?_some hf
    have h4 := List.mem_of_find?_eq_some hf
    simp at h3
    exact ⟨x.1, by simp [lowS, hf], by rw [← h3]; exact h4⟩
theorem stS_mem {S : Stk} {key : ByteArray} {n : Nat} (hn : (S.map (·.1)).Nodup) (h : (key, n) ∈ S) : stS S key = n := by
  induction S with
  | nil => cases h
  | cons a l ih =>
    simp only [List.map_cons] at hn
    have hn2 := List.nodup_cons.1 hn
    unfold stS at *
    by_cases e : a.1 = key
    · rw [List.find?_cons_of_pos (by simpa using e)]
      rcases List.mem_cons.1 h with h | h
      · subst h; rfl
      · exact absurd (by rw [e]; exact List.mem_map_of_mem (f := (·.1)) h) hn2.1
    · rw [List.find?_cons_of_neg (by simpa using e)]
      refine ih hn2.2 ?_
      rcases List.mem_cons.1 h with h | h
      · exact absurd (by rw [← h]) e
      · exact h
theorem stS_not {S : Stk} {key : ByteArray} (h : key ∉ S.map (·.1)) : stS S key = 0 := by
  unfold stS
  rw [List.find?_eq_none.2]
  · rfl
  · intro x hx
    simp
    rintro rfl
    exact h (List.mem_map_of_mem hx)
theorem stS_pos {S : Stk} {key : ByteArray} {n : Nat} (h : stS S key = n) (h0 : n ≠ 0) : (key, n) ∈ S := by
  unfold stS at h
  cases hf : S.find? fun e => decide (e.1 = key) with
  | none => rw [hf] at h; simp at h; omega
  | some x =>
    have h3 := List.find?_some hf
    have h4 := List.mem_of_find?_eq_some hf
    rw [hf] at h
    simp at h3 h
    rw [← h3, ← h]
    exact h4

/-- The parts of the invariant that cools keeps. -/
theorem cools_inv {s : Lirs} (h : SInv s.S s.Q) (h1 : 0 < cntS s.S 1) :
    SInv s.cools.S s.cools.Q ∧ cntS s.cools.S 1 + 1 = cntS s.S 1 ∧ s.cools.Q.length = s.Q.length + 1 ∧ cntS s.cools.S 3 ≤ cntS s.S 3 ∧ s.cools.c = s.c := by
  obtain ⟨k, hk, hm⟩ := lowS_some h1
  have hq : k ∉ s.Q := by
    rcases h.ok _ hm with ⟨_, b⟩ | ⟨a, _⟩ | ⟨a, _⟩
    · exact b
    · cases a
    · cases a
  have hz := h.sz _ hm
  unfold Lirs.cools
  simp only [hk, Option.getD_some]
  have a1 := cntS_cut h.nd hm 1
  have a3 := cntS_cut_le s.S k 3
  have hs := (h.sub (cutS_sub s.S k)).cold hz (not_mem_cutS _ _) hq
  refine ⟨hs.1.sub (pruneS_sub _), ?_, by simp, Nat.le_trans (cntS_prune_le _ _) a3, trivial⟩
  rw [cntS_prune1]
  simpa using a1
theorem heats_inv {s : Lirs} (h : SInv s.S s.Q) {key : ByteArray} (hz : key.size ≤ maxLen) (hm : cntS s.S 1 ≤ s.most) :
    SInv (s.heats key).S (s.heats key).Q ∧ cntS (s.heats key).S 1 ≤ s.most ∧ (s.heats key).c = s.c ∧ cntS (s.heats key).S 3 ≤ cntS s.S 3 ∧
    (s.heats key).Q.length + cntS (s.heats key).S 1 = (cutQ s.Q key).length + cntS (cutS s.S key) 1 + 1 := by
  have hi : SInv (s.heats1 key).S (s.heats1 key).Q := (h.cut key).hot hz (not_mem_cutS _ _) (not_mem_cutQ _ _)
  have e1 : cntS (s.heats1 key).S 1 = cntS (cutS s.S key) 1 + 1 := by
    show cntS (cutS s.S key ++ [(key, 1)]) 1 = _
    rw [cntS_snoc]; simp
  have e3 : cntS (s.heats1 key).S 3 = cntS (cutS s.S key) 3 := by
    show cntS (cutS s.S key ++ [(key, 1)]) 3 = _
    rw [cntS_snoc]; simp
  have l1 := cntS_cut_le s.S key 1
  have l3 := cntS_cut_le s.S key 3
  unfold Lirs.heats
  split
  · rename_i hlt
    obtain ⟨a1, a2, a3, a4, a5⟩ := cools_inv hi (by omega)
    exact ⟨a1, by omega, a5, by omega, by rw [a3]; show (cutQ s.Q key).length + 1 + _ = _; omega⟩
  · rename_i hlt
    exact ⟨hi, by omega, rfl, by omega, by show (cutQ s.Q key).length + _ = _; omega⟩
theorem chills_inv {s : Lirs} (h : SInv s.S s.Q) {key : ByteArray} (hz : key.size ≤ maxLen) :
    SInv (s.chills key).S (s.chills key).Q ∧ cntS (s.chills key).S 1 = cntS (cutS s.S key) 1 ∧ cntS (s.chills key).S 3 = cntS (cutS s.S key) 3 ∧ (s.chills key).Q.length = (cutQ s.Q key).length + 1 := by
  refine ⟨((h.cut key).cold hz (not_mem_cutS _ _) (not_mem_cutQ _ _)).2, ?_, ?_, ?_⟩
  · show cntS (cutS s.S key ++ [(key, 2)]) 1 = _
    rw [cntS_snoc]; simp
  · show cntS (cutS s.S key ++ [(key, 2)]) 3 = _
    rw [cntS_snoc]; simp
  · show (cutQ s.Q key ++ [key]).length = _
    simp
theorem Lirs.Inv.prunes {s : Lirs} (h : s.Inv) : s.prunes.Inv ∧ s.prunes.len = s.len := by
  obtain ⟨si, c1, c2, res, hm, gh⟩ := h
  have e1 := cntS_prune1 s.S
  have e3 := cntS_prune_le s.S 3
  exact ⟨⟨si.sub (pruneS_sub _), c1, c2, by simp only [Lirs.prunes]; omega, by simp only [Lirs.prunes, Lirs.most] at *; omega, by simp only [Lirs.prunes]; omega⟩, by simp only [Lirs.len, Lirs.prunes]; omega⟩
/-- With one ghost too many, at most. -/
theorem forgets_inv {s : Lirs} (si : SInv s.S s.Q) (c1 : 1 ≤ s.c) (c2 : s.c ≤ 1024) (res : s.Q.length + cntS s.S 1 ≤ s.c) (hm : cntS s.S 1 ≤ s.most) (gh : cntS s.S 3 ≤ s.c + 1) : s.forgets.Inv ∧ s.forgets.len = s.len := by
  unfold Lirs.forgets forgetS
  split
  · rename_i hlt
    obtain ⟨k, hk, hmm⟩ := lowS_some (S := s.S) (is := 3) (by omega)
    rw [hk]
    simp only [Option.getD_some]
    have a1 := cntS_cut si.nd hmm 1
    have a3 := cntS_cut si.nd hmm 3
    simp at a1 a3
    exact ⟨⟨si.sub (cutS_sub _ _), c1, c2, by simp only; omega, by simp only [Lirs.most] at *; omega, by simp only; omega⟩, by simp only [Lirs.len]; omega⟩
  · rename_i hlt
    exact ⟨⟨si, c1, c2, res, hm, by simp only; omega⟩, rfl⟩
theorem countP_map_le {S : Stk} (f : ByteArray × Nat → ByteArray × Nat) (p : ByteArray × Nat → Bool) (h : ∀ e, p (f e) = true → p e = true) : (S.map f).countP p ≤ S.countP p := by
  rw [List.countP_map]
  exact List.countP_mono_left fun e _ h2 => h e h2
theorem ready_inv {s : Lirs} (h : s.Inv) (hl : s.len ≠ 0) : SInv s.ready.S s.ready.Q ∧ s.ready.Q ≠ [] ∧ s.ready.Q.length + cntS s.ready.S 1 = s.len ∧ cntS s.ready.S 1 ≤ s.most ∧ cntS s.ready.S 3 ≤ s.c ∧ s.ready.c = s.c := by
  obtain ⟨si, c1, c2, res, hm, gh⟩ := h
  simp only [Lirs.len] at hl
  unfold Lirs.ready
  split
  · rename_i hq
    rw [hq] at hl
    simp at hl
    obtain ⟨a1, a2, a3, a4, a5⟩ := cools_inv si (by omega)
    exact ⟨a1, by intro e; rw [e] at a3; simp at a3, by simp only [Lirs.len]; omega, by omega, by omega, a5⟩
  · rename_i hq
    exact ⟨si, hq, rfl, hm, gh, rfl⟩
theorem ghost_inv {S : Stk} {k : ByteArray} {q : List ByteArray} (si : SInv S (k :: q)) : SInv (toGhost S k) q ∧ cntS (toGhost S k) 1 = cntS S 1 ∧ cntS (toGhost S k) 3 ≤ cntS S 3 + 1 := by
    unfold toGhost
    have hqn := List.nodup_cons.1 si.qd
    have hne : ∀ e, e ∈ S → e.1 = k → e.2 = 2 := fun e he h2 => by
      rcases si.ok e he with ⟨_, b⟩ | ⟨a, _⟩ | ⟨_, b⟩
      · exact absurd (by rw [h2]; simp) b
      · exact a
      · exact absurd (by rw [h2]; simp) b
    refine ⟨⟨?_, hqn.2, ?_, ?_, fun x hx => si.qz x (List.mem_cons_of_mem _ hx)⟩, ?_, ?_⟩
    · have : (S.map fun e => if e.1 = k then (e.1, 3) else e).map (·.1) = S.map (·.1) := by
        rw [List.map_map]
        apply List.map_congr_left
        intro e _
        simp only [Function.comp]
        split <;> rfl
      rw [this]; exact si.nd
    · intro e he
      obtain ⟨x, hx, rfl⟩ := List.mem_map.1 he
      by_cases e1 : x.1 = k
      · rw [if_pos e1]
        exact .inr (.inr ⟨rfl, by simp only; rw [e1]; exact hqn.1⟩)
      · rw [if_neg e1]
        rcases si.ok x hx with ⟨a, b⟩ | ⟨a, b⟩ | ⟨a, b⟩
        · exact .inl ⟨a, fun h => b (List.mem_cons_of_mem _ h)⟩
        · exact .inr (.inl ⟨a, by simpa [e1] using b⟩)
        · exact .inr (.inr ⟨a, fun h => b (List.mem_cons_of_mem _ h)⟩)
    · intro e he
      obtain ⟨x, hx, rfl⟩ := List.mem_map.1 he
      have := si.sz x hx
      split <;> exact this
    · simp only [cntS]
      rw [List.countP_map]
      apply List.countP_congr
      intro e he
      simp only [Function.comp]
      by_cases e1 : e.1 = k
      · have := hne e he e1
        simp [e1, this]
      · simp [e1]
    · have hnd := si.nd
      clear si hqn
      simp only [cntS]
      induction S with
      | nil => simp
      | cons a l ih =>
        simp only [List.map_cons] at hnd
        have hn2 := List.nodup_cons.1 hnd
        simp only [List.map_cons, List.countP_cons]
        by_cases e1 : a.1 = k
        · have hid : (l.map fun e => if e.1 = k then (e.1, 3) else e) = l := by
            conv => rhs; rw [← List.map_id l]
            apply List.map_congr_left
            intro e he
            rw [if_neg]
            · rfl
            · intro e2; exact hn2.1 (by rw [e1, ← e2]; exact List.mem_map_of_mem (f := (·.1)) he)
          rw [hid, if_pos e1]
          simp only
          split <;> omega
        · rw [if_neg e1]
          have := ih (fun e he => hne e (List.mem_cons_of_mem _ he)) hn2.2
          omega
theorem leaves_inv {s : Lirs} (si : SInv s.S s.Q) (hq : s.Q ≠ []) : SInv s.leaves.S s.leaves.Q ∧ s.leaves.Q.length + 1 = s.Q.length ∧ cntS s.leaves.S 1 = cntS s.S 1 ∧ cntS s.leaves.S 3 ≤ cntS s.S 3 + 1 := by
  obtain ⟨S, Q, c⟩ := s
  cases Q with
  | nil => exact absurd rfl hq
  | cons k q =>
    obtain ⟨h1, h2, h3⟩ := ghost_inv si
    exact ⟨h1, rfl, h2, h3⟩
theorem Lirs.Inv.evict {s : Lirs} (h : s.Inv) : s.evict.2.2.Inv ∧ s.evict.2.2.c = s.c ∧ s.evict.2.2.len + (if s.len = 0 then 0 else 1) = s.len := by
  unfold Lirs.evict
  split
  · exact ⟨h, rfl, by simp⟩
  · rename_i hl
    obtain ⟨a1, a2, a3, a4, a5, a6⟩ := ready_inv h hl
    obtain ⟨b1, b2, b3, b4⟩ := leaves_inv a1 a2
    have hc : s.ready.leaves.c = s.c := a6
    have hr : s.len ≤ s.c := h.res
    obtain ⟨d1, d2⟩ := forgets_inv b1 (by rw [hc]; exact h.c1) (by rw [hc]; exact h.c2) (by omega) (by rw [b3]; simp only [Lirs.most] at *; rw [hc]; exact a4) (by omega)
    obtain ⟨f1, f2⟩ := d1.prunes
    refine ⟨f1, hc, ?_⟩
    simp only
    rw [f2, d2]
    simp only [Lirs.len] at *
    omega
theorem Lirs.Inv.room {s : Lirs} (h : s.Inv) : s.room.2.Inv ∧ s.room.2.c = s.c ∧ s.room.2.len < s.c := by
  unfold Lirs.room
  split
  · rename_i hl
    exact ⟨h, rfl, hl⟩
  · rename_i hl
    obtain ⟨a1, a2, a3⟩ := h.evict
    have hc := h.c1
    have hr : s.len ≤ s.c := h.res
    refine ⟨a1, a2, ?_⟩
    rw [if_neg (by omega)] at a3
    simp only
    omega
theorem Lirs.Inv.access {s : Lirs} (h : s.Inv) {key : ByteArray} (hz : key.size ≤ maxLen) : (s.access key).2.2.Inv := by
  obtain ⟨si, c1, c2, res, hm, gh⟩ := id h
  unfold Lirs.access
  split
  · rename_i hx
    obtain ⟨a1, a2, a3, a4, a5⟩ := heats_inv si hz hm
    have hle : (cutQ s.Q key).length + cntS (cutS s.S key) 1 + 1 ≤ s.c := by
      rcases hx with hx | ⟨hx, _⟩
      · have hmem := stS_pos hx (by omega)
        have := cntS_cut si.nd hmem 1
        have := cutQ_le s.Q key
        simp at *
        omega
      · have := cutQ_len si.qd hx
        have := cntS_cut_le s.S key 1
        omega
    exact (Lirs.Inv.prunes (s := s.heats key) ⟨a1, by rw [a3]; exact c1, by rw [a3]; exact c2, by rw [a3]; omega, by simp only [Lirs.most] at *; rw [a3]; exact a2, by rw [a3]; omega⟩).1
  · split
    · rename_i hx hq
      obtain ⟨a1, a2, a3, a4⟩ := chills_inv si hz (key := key)
      have := cutQ_len si.qd hq
      have := cntS_cut_le s.S key 1
      have := cntS_cut_le s.S key 3
      exact (Lirs.Inv.prunes (s := s.chills key) ⟨a1, c1, c2, by show _ ≤ s.c; omega, by show _ ≤ s.most; omega, by show _ ≤ s.c; omega⟩).1
    · rename_i hx hq
      obtain ⟨hr, rc, rl⟩ := h.room
      simp only
      generalize s.room = r at *
      obtain ⟨g, r⟩ := r
      simp only at *
      obtain ⟨si, c1, c2, res, hm, gh⟩ := hr
      simp only [Lirs.len] at rl
      have l1 := cntS_cut_le r.S key 1
      have l3 := cntS_cut_le r.S key 3
      have lq := cutQ_le r.Q key
      split
      · obtain ⟨a1, a2, a3, a4, a5⟩ := heats_inv si hz hm
        exact (forgets_inv (s := r.heats key) a1 (by rw [a3]; exact c1) (by rw [a3]; exact c2) (by rw [a3]; omega) (by simp only [Lirs.most] at *; rw [a3]; exact a2) (by rw [a3]; omega)).1.prunes.1
      · obtain ⟨a1, a2, a3, a4⟩ := chills_inv si hz (key := key)
        exact (forgets_inv (s := r.chills key) a1 c1 c2 (by show _ ≤ r.c; omega) (by show _ ≤ r.most; omega) (by show _ ≤ r.c + 1; omega)).1.prunes.1
theorem Lirs.Inv.load {s : Lirs} (h : s.Inv) {key : ByteArray} (hz : key.size ≤ maxLen) : (s.load key).2.Inv := by
  obtain ⟨si, c1, c2, res, hm, gh⟩ := id h
  unfold Lirs.load
  split
  · exact h
  · rename_i hx
    simp only [not_or, Lirs.len] at hx
    have l1 := cntS_cut_le s.S key 1
    have l3 := cntS_cut_le s.S key 3
    have lq := cutQ_le s.Q key
    split
    · obtain ⟨a1, a2, a3, a4, a5⟩ := heats_inv si hz hm
      exact (Lirs.Inv.prunes (s := s.heats key) ⟨a1, by rw [a3]; exact c1, by rw [a3]; exact c2, by rw [a3]; omega, by simp only [Lirs.most] at *; rw [a3]; exact a2, by rw [a3]; omega⟩).1
    · obtain ⟨a1, a2, a3, a4⟩ := chills_inv si hz (key := key)
      exact (Lirs.Inv.prunes (s := s.chills key) ⟨a1, c1, c2, by show _ ≤ s.c; omega, by show _ ≤ s.most; omega, by show _ ≤ s.c; omega⟩).1
theorem Lirs.Inv.remove {s : Lirs} (h : s.Inv) (key : ByteArray) : (s.remove key).2.Inv := by
  unfold Lirs.remove
  split
  · obtain ⟨si, c1, c2, res, hm, gh⟩ := id h
    have l1 := cntS_cut_le s.S key 1
    have l3 := cntS_cut_le s.S key 3
    have lq := cutQ_le s.Q key
    exact (Lirs.Inv.prunes (s := { s with S := cutS s.S key, Q := cutQ s.Q key }) ⟨si.cut key, c1, c2, by simp only; omega, by simp only [Lirs.most] at *; omega, by simp only; omega⟩).1
  · exact h
end Go.Proofs.YtphlancijlljcaaGreat
