/- Keys in rows, in plain Lean: each key stands once, in one row. -/
import Derived.Test.YtphlancijlljcaaGreatListPure
import Derived.Test.YtphlancijlljcaaGreatIdxPure
set_option linter.unusedVariables false
set_option linter.unusedSimpArgs false
namespace Go.Proofs.YtphlancijlljcaaGreat
open Go.RowKit

abbrev Rows := Nat → List ByteArray
def dropK (K : Rows) (key : ByteArray) : Rows := fun i => (K i).filter fun x => decide (x ≠ key)
def pushK (K : Rows) (r : Nat) (key : ByteArray) : Rows := up (dropK K key) r (dropK K key r ++ [key])
/-- How many keys k rows have. -/
def tot : Nat → Rows → Nat
  | 0, _ => 0
  | k + 1, K => tot k K + (K k).length
structure RNd (k : Nat) (K : Rows) : Prop where
  nd : ∀ i, (K i).Nodup
  dis : ∀ i j, i ≠ j → ∀ x, x ∈ K i → x ∉ K j
  out : ∀ i, k ≤ i → K i = []
  sz : ∀ i x, x ∈ K i → x.size ≤ maxLen

theorem mem_dropK {K : Rows} {key x : ByteArray} {i : Nat} : x ∈ dropK K key i ↔ x ∈ K i ∧ x ≠ key := by simp [dropK]
theorem dropK_not {K : Rows} {key : ByteArray} {i : Nat} (h : key ∉ K i) : dropK K key i = K i := by
  simp only [dropK]
  rw [List.filter_eq_self]
  intro a ha
  simp
  rintro rfl
  exact h ha
theorem dropK_none {K : Rows} {key : ByteArray} (h : ∀ i, key ∉ K i) : dropK K key = K := funext fun i => dropK_not (h i)
theorem not_mem_dropK {K : Rows} {key : ByteArray} (i : Nat) : key ∉ dropK K key i := by simp [mem_dropK]
theorem RNd.drop {k : Nat} {K : Rows} (h : RNd k K) (key : ByteArray) : RNd k (dropK K key) :=
  ⟨fun i => (h.nd i).filter _, fun i j hij x hx hy => h.dis i j hij x (mem_dropK.1 hx).1 (mem_dropK.1 hy).1, fun i hi => by simp [dropK, h.out i hi], fun i x hx => h.sz i x (mem_dropK.1 hx).1⟩
theorem RNd.push1 {k : Nat} {K : Rows} (h : RNd k K) {r : Nat} (hr : r < k) {key : ByteArray} (hk : ∀ i, key ∉ K i) (hz : key.size ≤ maxLen) : RNd k (up K r (K r ++ [key])) := by
  refine ⟨fun i => ?_, fun i j hij x hx hy => ?_, fun i hi => ?_, fun i x hx => ?_⟩
  · by_cases e : i = r
    · subst e
      rw [up_same, List.nodup_append]
      refine ⟨h.nd i, by simp, ?_⟩
      intro a ha b hb
      simp at hb
      subst hb
      rintro rfl
      exact hk i ha
    · rw [up_other _ _ _ _ e]; exact h.nd i
  · by_cases e : i = r
    · subst e
      rw [up_same] at hx
      rw [up_other _ _ _ _ (Ne.symm hij)] at hy
      simp at hx
      rcases hx with hx | rfl
      · exact h.dis i j hij x hx hy
      · exact hk j hy
    · rw [up_other _ _ _ _ e] at hx
      by_cases e2 : j = r
      · subst e2
        rw [up_same] at hy
        simp at hy
        rcases hy with hy | rfl
        · exact h.dis i j hij x hx hy
        · exact hk i hx
      · rw [up_other _ _ _ _ e2] at hy
        exact h.dis i j hij x hx hy
  · rw [up_other _ _ _ _ (by omega)]; exact h.out i hi
  · by_cases e : i = r
    · subst e
      rw [up_same] at hx
      simp at hx
      rcases hx with hx | rfl
      · exact h.sz i x hx
      · exact hz
    · rw [up_other _ _ _ _ e] at hx; exact h.sz i x hx
theorem RNd.push {k : Nat} {K : Rows} (h : RNd k K) {r : Nat} (hr : r < k) (key : ByteArray) (hz : key.size ≤ maxLen) : RNd k (pushK K r key) := (h.drop key).push1 hr not_mem_dropK hz
theorem RNd.nil (k : Nat) : RNd k (fun _ => []) := ⟨by simp, by simp, by simp, by simp⟩
theorem mem_pushK {K : Rows} {r i : Nat} {key x : ByteArray} : x ∈ pushK K r key i ↔ (x ∈ K i ∧ x ≠ key) ∨ (i = r ∧ x = key) := by
  unfold pushK
  by_cases e : i = r
  · subst e; rw [up_same]; simp [mem_dropK]
  · rw [up_other _ _ _ _ e]; simp [mem_dropK, e]

theorem tot_le {K K' : Rows} : ∀ {k : Nat}, (∀ i, i < k → (K' i).length ≤ (K i).length) → tot k K' ≤ tot k K
  | 0, _ => Nat.le_refl _
  | k + 1, h => by
    have h1 := tot_le (k := k) fun i hi => h i (by omega)
    have h2 := h k (by omega)
    simp only [tot]; omega
theorem tot_drop (k : Nat) (K : Rows) (key : ByteArray) : tot k (dropK K key) ≤ tot k K := tot_le fun i _ => List.length_filter_le _ _
theorem len_tot {K : Rows} : ∀ {k i : Nat}, i < k → (K i).length ≤ tot k K
  | k + 1, i, h => by
    simp only [tot]
    by_cases e : i = k
    · subst e; omega
    · have := len_tot (K := K) (k := k) (i := i) (by omega); omega
theorem tot_up (K : Rows) {r : Nat} (l : List ByteArray) : ∀ {k : Nat}, r < k → tot k (up K r l) + (K r).length = tot k K + l.length
  | k + 1, h => by
    simp only [tot]
    by_cases e : r = k
    · subst e
      rw [up_same]
      have : tot r (up K r l) = tot r K := Nat.le_antisymm (tot_le fun i hi => by rw [up_other _ _ _ _ (by omega)]; exact Nat.le_refl _) (tot_le fun i hi => by rw [up_other _ _ _ _ (by omega)]; exact Nat.le_refl _)
      omega
    · have := tot_up K (r := r) l (k := k) (by omega)
      rw [up_other _ _ _ _ (by omega)]
      omega
theorem tot_push {K : Rows} {k r : Nat} (hr : r < k) (key : ByteArray) : tot k (pushK K r key) ≤ tot k K + 1 := by
  have h1 := tot_up (dropK K key) (dropK K key r ++ [key]) hr
  have h2 := tot_drop k K key
  simp only [List.length_append, List.length_cons, List.length_nil] at h1
  unfold pushK
  omega
theorem dropK_one {K : Rows} {k : Nat} (hn : RNd k K) {i : Nat} {key : ByteArray} (hi : key ∈ K i) : dropK K key = up K i ((K i).filter fun x => decide (x ≠ key)) := by
  funext j
  by_cases e : j = i
  · subst e; rw [up_same]; rfl
  · rw [up_other _ _ _ _ e, dropK_not fun h => hn.dis i j (Ne.symm e) key hi h]
theorem len_filter_nd {l : List ByteArray} {key : ByteArray} (hn : l.Nodup) (h : key ∈ l) : (l.filter fun x => decide (x ≠ key)).length + 1 = l.length := by
  induction l with
  | nil => cases h
  | cons a l ih =>
    have hn2 := (List.nodup_cons.1 hn)
    by_cases e : a = key
    · subst e
      rw [List.filter_cons_of_neg (by simp)]
      rw [List.filter_eq_self.2 (fun x hx => by simp; rintro rfl; exact hn2.1 hx)]
      rfl
    · rw [List.filter_cons_of_pos (by simpa using e)]
      simp only [List.length_cons]
      have := ih hn2.2 (by simpa [Ne.symm e] using h)
      omega
theorem tot_drop_in {K : Rows} {k i : Nat} (hn : RNd k K) (hi : i < k) {key : ByteArray} (h : key ∈ K i) : tot k (dropK K key) + 1 = tot k K := by
  rw [dropK_one hn h]
  have h1 := tot_up K ((K i).filter fun x => decide (x ≠ key)) hi
  have h2 := len_filter_nd (hn.nd i) h
  omega

/-- The rows' keys, with their handles; where each key stands. -/
structure RCoh (k : Nat) (K : Rows) (L : Nat → List (Nat × ByteArray)) (M : ByteArray → Option (Nat × Nat)) : Prop where
  snd : ∀ i, i < k → (L i).map (·.2) = K i
  coh : ∀ key i h, M key = some (i, h) ↔ i < k ∧ (h, key) ∈ L i
theorem RCoh.isNone {k : Nat} {K : Rows} {L : Nat → List (Nat × ByteArray)} {M : ByteArray → Option (Nat × Nat)} (c : RCoh k K L M) (hn : RNd k K) {key : ByteArray} : M key = none ↔ ∀ i, key ∉ K i := by
  constructor
  · intro h i hi
    by_cases e : i < k
    · rw [← c.snd i e] at hi
      obtain ⟨⟨a, b⟩, h1, h2⟩ := List.mem_map.1 hi
      simp at h2
      subst h2
      have := (c.coh b i a).2 ⟨e, h1⟩
      rw [h] at this; cases this
    · rw [hn.out i (by omega)] at hi; cases hi
  · intro h
    cases hm : M key with
    | none => rfl
    | some p =>
      obtain ⟨i, a⟩ := p
      obtain ⟨h1, h2⟩ := (c.coh key i a).1 hm
      exfalso
      apply h i
      rw [← c.snd i h1]
      exact List.mem_map_of_mem (f := (·.2)) h2
theorem RCoh.isSome {k : Nat} {K : Rows} {L : Nat → List (Nat × ByteArray)} {M : ByteArray → Option (Nat × Nat)} (c : RCoh k K L M) {key : ByteArray} {i h : Nat} (hm : M key = some (i, h)) : i < k ∧ (h, key) ∈ L i ∧ key ∈ K i := by
  obtain ⟨h1, h2⟩ := (c.coh key i h).1 hm
  exact ⟨h1, h2, by rw [← c.snd i h1]; exact List.mem_map_of_mem (f := (·.2)) h2⟩
theorem RCoh.drop {k : Nat} {K : Rows} {L : Nat → List (Nat × ByteArray)} {M : ByteArray → Option (Nat × Nat)} (c : RCoh k K L M) (hn : RNd k K) {key : ByteArray} {i h : Nat} {L1 L2 : List (Nat × ByteArray)} (hi : i < k) (hL : L i = L1 ++ (h, key) :: L2) :
    RCoh k (dropK K key) (up L i (L1 ++ L2)) (upM M key none) := by
  have hK : K i = L1.map (·.2) ++ key :: L2.map (·.2) := by rw [← c.snd i hi, hL]; simp
  have hnd := hn.nd i
  rw [hK, List.nodup_append] at hnd
  obtain ⟨n1, n2, n3⟩ := hnd
  have k1 : key ∉ L1.map (·.2) := fun h => n3 key h key (by simp) rfl
  have k2 : key ∉ L2.map (·.2) := (List.nodup_cons.1 n2).1
  have hki : key ∈ K i := by rw [hK]; simp
  refine ⟨fun j hj => ?_, fun key' j h' => ?_⟩
  · by_cases e : j = i
    · subst e
      rw [up_same]
      unfold dropK
      rw [hK, List.filter_append, List.filter_cons_of_neg (by simp), List.filter_eq_self.2, List.filter_eq_self.2, List.map_append]
      · intro a ha; simp; rintro rfl; exact k2 ha
      · intro a ha; simp; rintro rfl; exact k1 ha
    · rw [up_other _ _ _ _ e, c.snd j hj, dropK_not fun h => hn.dis i j (Ne.symm e) key hki h]
  · by_cases e : key' = key
    · subst e
      simp only [upM, if_true]
      constructor
      · intro h; cases h
      · rintro ⟨hj, hm⟩
        exfalso
        by_cases e : j = i
        · subst e
          rw [up_same] at hm
          rcases List.mem_append.1 hm with hm | hm
          · exact k1 (List.mem_map_of_mem (f := (·.2)) hm)
          · exact k2 (List.mem_map_of_mem (f := (·.2)) hm)
        · rw [up_other _ _ _ _ e] at hm
          have := List.mem_map_of_mem (f := (·.2)) hm
          rw [c.snd j hj] at this
          exact hn.dis i j (Ne.symm e) _ hki this
    · simp only [upM, if_neg e]
      rw [c.coh]
      by_cases e2 : j = i
      · subst e2
        rw [up_same, hL]
        simp [e]
      · rw [up_other _ _ _ _ e2]
theorem RCoh.push {k : Nat} {K : Rows} {L : Nat → List (Nat × ByteArray)} {M : ByteArray → Option (Nat × Nat)} (c : RCoh k K L M) (hn : RNd k K) {key : ByteArray} {r h : Nat} (hr : r < k) (hk : ∀ i, key ∉ K i) :
    RCoh k (up K r (K r ++ [key])) (up L r (L r ++ [(h, key)])) (upM M key (some (r, h))) := by
  refine ⟨fun j hj => ?_, fun key' j h' => ?_⟩
  · by_cases e : j = r
    · subst e; rw [up_same, up_same, List.map_append, c.snd j hj]; rfl
    · rw [up_other _ _ _ _ e, up_other _ _ _ _ e, c.snd j hj]
  · by_cases e : key' = key
    · subst e
      simp only [upM, if_true]
      have hno : ∀ i h', i < k → (h', key') ∉ L i := fun i h' hi hm => hk i (by rw [← c.snd i hi]; exact List.mem_map_of_mem (f := (·.2)) hm)
      constructor
      · intro hh
        simp at hh
        obtain ⟨rfl, rfl⟩ := hh
        exact ⟨hr, by rw [up_same]; simp⟩
      · rintro ⟨hj, hm⟩
        by_cases e : j = r
        · subst e
          rw [up_same] at hm
          rcases List.mem_append.1 hm with hm | hm
          · exact absurd hm (hno _ _ hj)
          · simp at hm; simp [hm]
        · rw [up_other _ _ _ _ e] at hm
          exact absurd hm (hno _ _ hj)
    · simp only [upM, if_neg e]
      rw [c.coh]
      by_cases e2 : j = r
      · subst e2
        rw [up_same]
        simp [e]
      · rw [up_other _ _ _ _ e2]
theorem mem_split {α : Type} {a : α} {l : List α} (h : a ∈ l) : ∃ s t, l = s ++ a :: t := List.append_of_mem h
end Go.Proofs.YtphlancijlljcaaGreat
