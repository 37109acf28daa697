/- The engine of chapter 12 (s3fifo) in plain Lean: rows 0 S, 1 M, 2 G; how often resident keys were used. -/
import Derived.Test.YtphlancijlljcaaGreatTwoqPure
set_option linter.unusedVariables false
set_option linter.unusedSimpArgs false
namespace Go.Proofs.YtphlancijlljcaaGreat
open Go.RowKit

abbrev Cnt := ByteArray → Option Nat
structure S3 where
  K : Rows
  C : Cnt
  c : Nat
def S3.small (s : S3) : Nat := max 1 (s.c / 10)
def S3.ghosts (s : S3) : Nat := max 1 (s.c - s.small)
def S3.len (s : S3) : Nat := (s.K 0).length + (s.K 1).length
def S3.has (s : S3) (key : ByteArray) : Bool := decide (key ∈ s.K 0 ∨ key ∈ s.K 1)
def cntOf (C : Cnt) (key : ByteArray) : Nat := (C key).getD 0
/-- One of S goes; none: all of them are M's now. -/
def s3Small (g : Nat) : Nat → Rows → Cnt → Option ByteArray × Rows × Cnt
  | 0, K, C => (none, K, C)
  | f + 1, K, C =>
    if (K 0).length = 0 then (none, K, C)
    else if 1 < cntOf C (oldest K 0) then s3Small g f (pushK K 1 (oldest K 0)) (upM C (oldest K 0) (some 0))
    else (some (oldest K 0), trim (pushK K 2 (oldest K 0)) 2 g, upM C (oldest K 0) none)
/-- One of M goes. -/
def s3Main : Nat → Rows → Cnt → ByteArray × Rows × Cnt
  | 0, K, C => (⟨#[]⟩, K, C)
  | f + 1, K, C =>
    if cntOf C (oldest K 1) = 0 then (oldest K 1, dropK K (oldest K 1), upM C (oldest K 1) none)
    else s3Main f (pushK K 1 (oldest K 1)) (upM C (oldest K 1) (some (cntOf C (oldest K 1) - 1)))
def wt (C : Cnt) (l : List ByteArray) : Nat := (l.map (cntOf C)).sum
def S3.fromMain (s : S3) : ByteArray × S3 :=
  let r := s3Main (wt s.C (s.K 1) + 1) s.K s.C
  (r.1, { s with K := r.2.1, C := r.2.2 })
def S3.evict (s : S3) : ByteArray × Bool × S3 :=
  if s.len = 0 then (⟨#[]⟩, false, s)
  else if s.small < (s.K 0).length ∨ (s.K 1).length = 0 then
    let r := s3Small s.ghosts ((s.K 0).length + 1) s.K s.C
    match r.1 with
    | some k => (k, true, { s with K := r.2.1, C := r.2.2 })
    | none => (({ s with K := r.2.1, C := r.2.2 } : S3).fromMain.1, true, ({ s with K := r.2.1, C := r.2.2 } : S3).fromMain.2)
  else (s.fromMain.1, true, s.fromMain.2)
def S3.room (s : S3) : List ByteArray × S3 := if s.len < s.c then ([], s) else ([s.evict.1], s.evict.2.2)
def S3.access (s : S3) (key : ByteArray) : Bool × List ByteArray × S3 :=
  if s.has key then (true, [], { s with C := upM s.C key (some (min 3 (cntOf s.C key + 1))) })
  else
    let r := s.room
    (false, r.1, { s with K := pushK r.2.K (if key ∈ r.2.K 2 then 1 else 0) key, C := upM r.2.C key (some 0) })
def S3.load (s : S3) (key : ByteArray) : Bool × S3 := if s.has key = true ∨ s.len = s.c then (false, s) else (true, { s with K := pushK s.K 1 key, C := upM s.C key (some 0) })
def S3.remove (s : S3) (key : ByteArray) : Bool × S3 := if s.has key then (true, { s with K := dropK s.K key, C := upM s.C key none }) else (false, s)

structure CInv (K : Rows) (C : Cnt) : Prop where
  nd : RNd 3 K
  is : ∀ key, (C key).isSome = true ↔ key ∈ K 0 ∨ key ∈ K 1
  le : ∀ key n, C key = some n → n ≤ 3
structure S3.Inv (s : S3) : Prop where
  ci : CInv s.K s.C
  c1 : 1 ≤ s.c
  c2 : s.c ≤ 1024
  res : (s.K 0).length + (s.K 1).length ≤ s.c
  gh : (s.K 2).length ≤ s.ghosts
theorem cnt_le3 {K : Rows} {C : Cnt} (h : CInv K C) (key : ByteArray) : cntOf C key ≤ 3 := by
  unfold cntOf
  cases e : C key with
  | none => simp
  | some n => simpa using h.le key n e
/-- A resident key is M's newest, with a count. -/
theorem CInv.toMain {K : Rows} {C : Cnt} (h : CInv K C) {key : ByteArray} (hz : key.size ≤ maxLen) {n : Nat} (hn : n ≤ 3) : CInv (pushK K 1 key) (upM C key (some n)) := by
  refine ⟨h.nd.push (by omega) key hz, fun k => ?_, fun k m hm => ?_⟩
  · rw [mem_pushK, mem_pushK]
    unfold upM
    by_cases e : k = key
    · simp [e]
    · simp [e]; exact h.is k
  · unfold upM at hm
    split at hm
    · cases hm; exact hn
    · exact h.le k m hm
theorem CInv.toSmall {K : Rows} {C : Cnt} (h : CInv K C) {key : ByteArray} (hz : key.size ≤ maxLen) {n : Nat} (hn : n ≤ 3) : CInv (pushK K 0 key) (upM C key (some n)) := by
  refine ⟨h.nd.push (by omega) key hz, fun k => ?_, fun k m hm => ?_⟩
  · rw [mem_pushK, mem_pushK]
    unfold upM
    by_cases e : k = key
    · simp [e]
    · simp [e]; exact h.is k
  · unfold upM at hm
    split at hm
    · cases hm; exact hn
    · exact h.le k m hm
theorem CInv.gone {K : Rows} {C : Cnt} (h : CInv K C) (key : ByteArray) : CInv (dropK K key) (upM C key none) := by
  refine ⟨h.nd.drop key, fun k => ?_, fun k m hm => ?_⟩
  · rw [mem_dropK, mem_dropK]
    unfold upM
    by_cases e : k = key
    · simp [e]
    · simp [e]; exact h.is k
  · unfold upM at hm
    split at hm
    · cases hm
    · exact h.le k m hm
theorem trim_mem {K : Rows} {r n i : Nat} {x : ByteArray} (h : x ∈ trim K r n i) : x ∈ K i := by
  unfold trim at h
  by_cases e : i = r
  · subst e; rw [up_same] at h; exact List.mem_of_mem_drop h
  · rw [up_other _ _ _ _ e] at h; exact h
theorem CInv.ghost {K : Rows} {C : Cnt} (h : CInv K C) {key : ByteArray} (hz : key.size ≤ maxLen) (g : Nat) : CInv (trim (pushK K 2 key) 2 g) (upM C key none) := by
  refine ⟨(h.nd.push (by omega) key hz).trim _ _, fun k => ?_, fun k m hm => ?_⟩
  · rw [trim_other _ _ (by omega), trim_other _ _ (by omega), mem_pushK, mem_pushK]
    unfold upM
    by_cases e : k = key
    · simp [e]
    · simp [e]; exact h.is k
  · unfold upM at hm
    split at hm
    · cases hm
    · exact h.le k m hm
theorem s3Small_inv (g : Nat) : ∀ (f : Nat) (K : Rows) (C : Cnt), CInv K C → (K 0).length < f → (K 2).length ≤ g →
    CInv (s3Small g f K C).2.1 (s3Small g f K C).2.2 ∧ ((s3Small g f K C).2.1 2).length ≤ g ∧
    ((s3Small g f K C).1 = none → ((s3Small g f K C).2.1 0).length = 0 ∧ ((s3Small g f K C).2.1 1).length = (K 0).length + (K 1).length) ∧
    (∀ k, (s3Small g f K C).1 = some k → ((s3Small g f K C).2.1 0).length + ((s3Small g f K C).2.1 1).length + 1 = (K 0).length + (K 1).length) ∧
    (∀ x i, x ∈ (s3Small g f K C).2.1 i → ∃ j, x ∈ K j)
  | 0, K, C, hc, hf, hg => by omega
  | f + 1, K, C, hc, hf, hg => by
    unfold s3Small
    split
    · rename_i h0
      exact ⟨hc, hg, fun _ => ⟨h0, by simp only; omega⟩, fun k hk => (by cases hk), fun x i hx => ⟨i, hx⟩⟩
    · rename_i h0
      have hm := oldest_mem (K := K) (r := 0) (by omega)
      have hsz := oldest_sz hc.nd 0
      split
      · have hd := push_move hc.nd hm 1
        have d0 := hd 0
        have d1 := hd 1
        have d2 := hd 2
        simp at d0 d1 d2
        obtain ⟨a1, a2, a3, a4, a5⟩ := s3Small_inv g f (pushK K 1 (oldest K 0)) (upM C (oldest K 0) (some 0)) (hc.toMain hsz (by omega)) (by omega) (by omega)
        refine ⟨a1, a2, fun h => ?_, fun k h => ?_, fun x i hx => ?_⟩
        · obtain ⟨b1, b2⟩ := a3 h; exact ⟨b1, by omega⟩
        · have := a4 k h; omega
        · obtain ⟨j, hj⟩ := a5 x i hx
          rcases mem_pushK.1 hj with ⟨h, _⟩ | ⟨_, rfl⟩
          · exact ⟨j, h⟩
          · exact ⟨0, hm⟩
      · have hd := push_move hc.nd hm 2
        have d0 := hd 0
        have d1 := hd 1
        simp at d0 d1
        refine ⟨hc.ghost hsz g, by rw [trim_len]; exact Nat.min_le_right _ _, fun h => (by cases h), fun k _ => ?_, fun x i hx => ?_⟩
        · simp only; rw [trim_other _ _ (by omega), trim_other _ _ (by omega)]; omega
        · rcases mem_pushK.1 (trim_mem hx) with ⟨h, _⟩ | ⟨_, rfl⟩
          · exact ⟨i, h⟩
          · exact ⟨0, hm⟩
theorem wt_filter (C : Cnt) (key : ByteArray) (v : Option Nat) : ∀ l : List ByteArray, (wt (upM C key v) (l.filter fun x => decide (x ≠ key))) = wt C (l.filter fun x => decide (x ≠ key))
  | [] => rfl
  | a :: l => by
    by_cases e : a = key
    · subst e
      rw [List.filter_cons_of_neg (by simp)]
      exact wt_filter C a v l
    · rw [List.filter_cons_of_pos (by simpa using e)]
      simp only [wt, List.map_cons, List.sum_cons] at *
      have := wt_filter C key v l
      simp only [wt] at this
      rw [this]
      simp [cntOf, upM, e]
theorem wt_in (C : Cnt) {key : ByteArray} : ∀ {l : List ByteArray}, l.Nodup → key ∈ l → wt C (l.filter fun x => decide (x ≠ key)) + cntOf C key = wt C l
  | a :: l, hn, h => by
    have hn2 := List.nodup_cons.1 hn
    by_cases e : a = key
    · subst e
      rw [List.filter_cons_of_neg (by simp), List.filter_eq_self.2 (fun x hx => by simp; rintro rfl; exact hn2.1 hx)]
      simp [wt]; omega
    · rw [List.filter_cons_of_pos (by simpa using e)]
      have := wt_in C (key := key) hn2.2 (by simpa [Ne.symm e] using h)
      simp only [wt, List.map_cons, List.sum_cons] at *
      omega
/-- A round of fromMain takes one off the sum. -/
theorem wt_round {K : Rows} {C : Cnt} (h : CInv K C) (h1 : 0 < (K 1).length) (hc : cntOf C (oldest K 1) ≠ 0) : wt (upM C (oldest K 1) (some (cntOf C (oldest K 1) - 1))) (pushK K 1 (oldest K 1) 1) + 1 = wt C (K 1) := by
  have h2 := wt_in C (h.nd.nd 1) (oldest_mem h1)
  have h3 := wt_filter C (oldest K 1) (some (cntOf C (oldest K 1) - 1)) (K 1)
  rw [push_same]
  have e : ∀ (C : Cnt) (a b : List ByteArray), wt C (a ++ b) = wt C a + wt C b := fun C a b => by simp [wt]
  rw [e]
  have e2 : wt (upM C (oldest K 1) (some (cntOf C (oldest K 1) - 1))) [oldest K 1] = cntOf C (oldest K 1) - 1 := by simp [wt, cntOf, upM]
  rw [e2]
  simp only [dropK]
  omega
theorem s3Main_inv : ∀ (f : Nat) (K : Rows) (C : Cnt), CInv K C → wt C (K 1) < f → 0 < (K 1).length →
    CInv (s3Main f K C).2.1 (s3Main f K C).2.2 ∧ ((s3Main f K C).2.1 2).length = (K 2).length ∧ ((s3Main f K C).2.1 0).length = (K 0).length ∧ ((s3Main f K C).2.1 1).length + 1 = (K 1).length ∧
    (s3Main f K C).1 ∈ K 1 ∧ (∀ x i, x ∈ (s3Main f K C).2.1 i → ∃ j, x ∈ K j)
  | 0, K, C, hc, hf, hg => by omega
  | f + 1, K, C, hc, hf, h1 => by
    unfold s3Main
    have hm := oldest_mem (K := K) (r := 1) h1
    have hsz := oldest_sz hc.nd 1
    split
    · have hd := drop_len_in hc.nd hm
      have d0 := hd 0
      have d1 := hd 1
      have d2 := hd 2
      simp at d0 d1 d2
      exact ⟨hc.gone _, d2, d0, d1, hm, fun x i hx => ⟨i, (mem_dropK.1 hx).1⟩⟩
    · rename_i h0
      have hw := wt_round hc h1 h0
      have h3 := cnt_le3 hc (oldest K 1)
      have hd := push_move hc.nd hm 1
      have d0 := hd 0
      have d1 := hd 1
      have d2 := hd 2
      simp at d0 d1 d2
      obtain ⟨a1, a2, a3, a4, a5, a6⟩ := s3Main_inv f (pushK K 1 (oldest K 1)) (upM C (oldest K 1) (some (cntOf C (oldest K 1) - 1))) (hc.toMain hsz (by omega)) (by omega) (by omega)
      have hb : ∀ x i, x ∈ pushK K 1 (oldest K 1) i → x ∈ K i := fun x i hx => by
        rcases mem_pushK.1 hx with ⟨h, _⟩ | ⟨rfl, rfl⟩
        · exact h
        · exact hm
      exact ⟨a1, by omega, by omega, by omega, hb _ _ a5, fun x i hx => by obtain ⟨j, hj⟩ := a6 x i hx; exact ⟨j, hb _ _ hj⟩⟩
theorem S3.Inv.fromMain {s : S3} (h : s.Inv) (h1 : 0 < (s.K 1).length) : s.fromMain.2.Inv ∧ s.fromMain.2.c = s.c ∧ s.fromMain.2.len + 1 = s.len ∧ (∀ x i, x ∈ s.fromMain.2.K i → ∃ j, x ∈ s.K j) := by
  obtain ⟨a1, a2, a3, a4, a5, a6⟩ := s3Main_inv (wt s.C (s.K 1) + 1) s.K s.C h.ci (by omega) h1
  have hr := h.res
  have hg := h.gh
  unfold S3.fromMain
  exact ⟨⟨a1, h.c1, h.c2, by simp only; omega, by simp only [S3.ghosts, S3.small] at hg ⊢; omega⟩, rfl, by simp only [S3.len]; omega, a6⟩
theorem S3.Inv.evict {s : S3} (h : s.Inv) : s.evict.2.2.Inv ∧ s.evict.2.2.c = s.c ∧ s.evict.2.2.len + (if s.len = 0 then 0 else 1) = s.len ∧ (∀ x i, x ∈ s.evict.2.2.K i → ∃ j, x ∈ s.K j) := by
  unfold S3.evict
  split
  · exact ⟨h, rfl, by simp, fun x i hx => ⟨i, hx⟩⟩
  · rename_i hl
    have hr := h.res
    have hg := h.gh
    simp only [S3.len] at hl
    split
    · obtain ⟨a1, a2, a3, a4, a5⟩ := s3Small_inv s.ghosts ((s.K 0).length + 1) s.K s.C h.ci (by omega) h.gh
      generalize s3Small s.ghosts ((s.K 0).length + 1) s.K s.C = r at *
      obtain ⟨o, K', C'⟩ := r
      simp only at a1 a2 a3 a4 a5
      cases o with
      | some k =>
        have := a4 k rfl
        exact ⟨⟨a1, h.c1, h.c2, by simp only; omega, by simp only [S3.ghosts, S3.small] at a2 ⊢; omega⟩, rfl, by simp only [S3.len]; omega, a5⟩
      | none =>
        obtain ⟨b1, b2⟩ := a3 rfl
        have hi : ({ s with K := K', C := C' } : S3).Inv := ⟨a1, h.c1, h.c2, by simp only; omega, by simp only [S3.ghosts, S3.small] at a2 ⊢; omega⟩
        obtain ⟨c1, c2, c3, c4⟩ := hi.fromMain (by simp only; omega)
        refine ⟨c1, c2, ?_, fun x i hx => ?_⟩
        · simp only [S3.len] at c3 ⊢; omega
        · obtain ⟨j, hj⟩ := c4 x i hx; exact a5 x j hj
    · rename_i h2
      obtain ⟨c1, c2, c3, c4⟩ := h.fromMain (by omega)
      exact ⟨c1, c2, c3, c4⟩
theorem S3.Inv.room {s : S3} (h : s.Inv) : s.room.2.Inv ∧ s.room.2.c = s.c ∧ s.room.2.len < s.c ∧ (∀ x i, x ∈ s.room.2.K i → ∃ j, x ∈ s.K j) := by
  unfold S3.room
  split
  · rename_i hl
    exact ⟨h, rfl, hl, fun x i hx => ⟨i, hx⟩⟩
  · rename_i hl
    obtain ⟨a1, a2, a3, a4⟩ := h.evict
    have hc := h.c1
    have hr := h.res
    simp only [S3.len] at hl
    refine ⟨a1, a2, ?_, a4⟩
    rw [if_neg (by simp only [S3.len]; omega)] at a3
    simp only [S3.len] at a3 ⊢
    omega
end Go.Proofs.YtphlancijlljcaaGreat
