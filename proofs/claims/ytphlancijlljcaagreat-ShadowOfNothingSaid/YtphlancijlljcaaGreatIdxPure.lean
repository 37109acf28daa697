/- Values by keys in a table with open places, in plain Lean. -/
import Derived.Test.YtphlancijlljcaaGreatListPure
set_option linter.unusedVariables false
set_option linter.unusedSimpArgs false
namespace Go.Proofs.YtphlancijlljcaaGreat
open Go.RowKit

structure Pl (α : Type) where
  is : Nat
  key : ByteArray
  v : α

def cnt (f : Nat → Bool) : Nat → Nat
  | 0 => 0
  | m + 1 => cnt f m + (f m).toNat
theorem cnt_congr {f g : Nat → Bool} : ∀ {m : Nat}, (∀ i, i < m → f i = g i) → cnt f m = cnt g m
  | 0, _ => rfl
  | m + 1, h => by simp only [cnt]; rw [cnt_congr (m := m) (fun i hi => h i (by omega)), h m (by omega)]
theorem cnt_up {f g : Nat → Bool} {i : Nat} : ∀ {m : Nat}, i < m → (∀ k, k ≠ i → g k = f k) → cnt g m + (f i).toNat = cnt f m + (g i).toNat
  | m + 1, hi, h => by
    simp only [cnt]
    by_cases e : i = m
    · subst e
      rw [cnt_congr (m := i) (f := g) (g := f) (fun k hk => h k (by omega))]
      omega
    · have := cnt_up (m := m) (by omega) h
      rw [h m (Ne.symm e)]
      omega
theorem cnt_le (f : Nat → Bool) : ∀ m, cnt f m ≤ m
  | 0 => Nat.le_refl _
  | m + 1 => by have := cnt_le f m; simp only [cnt]; cases f m <;> simp <;> omega
theorem cnt_lt {f : Nat → Bool} : ∀ {m : Nat}, cnt f m < m → ∃ i, i < m ∧ f i = false
  | m + 1, h => by
    simp only [cnt] at h
    cases e : f m with
    | false => exact ⟨m, by omega, e⟩
    | true =>
      rw [e] at h
      obtain ⟨i, hi, h2⟩ := cnt_lt (m := m) (by simp at h; omega)
      exact ⟨i, by omega, h2⟩
theorem cnt_pos {f : Nat → Bool} {i : Nat} : ∀ {m : Nat}, i < m → f i = true → 0 < cnt f m
  | m + 1, hi, h => by
    simp only [cnt]
    by_cases e : i = m
    · subst e; rw [h]; simp
    · have := cnt_pos (m := m) (by omega) h; omega
theorem cnt_mono {f g : Nat → Bool} : ∀ {m : Nat}, (∀ i, i < m → f i = true → g i = true) → cnt f m ≤ cnt g m
  | 0, _ => Nat.le_refl _
  | m + 1, h => by
    have h1 := cnt_mono (m := m) (fun i hi => h i (by omega))
    have h2 := h m (by omega)
    simp only [cnt]
    cases e : f m <;> cases e2 : g m <;> simp_all <;> omega
theorem cnt_le_of_le (f : Nat → Bool) {a : Nat} : ∀ {b : Nat}, a ≤ b → cnt f a ≤ cnt f b
  | 0, h => by have : a = 0 := by omega
               subst this; exact Nat.le_refl _
  | b + 1, h => by
    by_cases e : a = b + 1
    · subst e; exact Nat.le_refl _
    · have := cnt_le_of_le f (a := a) (b := b) (by omega); simp only [cnt]; omega

section
variable {α : Type}
def isF (T : Nat → Pl α) (i : Nat) : Bool := (T i).is == 2
def isU (T : Nat → Pl α) (i : Nat) : Bool := (T i).is != 0
/-- A table of m places: it holds M; n keys; so many places are not empty. -/
structure TInv (m : Nat) (T : Nat → Pl α) (st : ByteArray → Nat) (M : ByteArray → Option α) (n used : Nat) : Prop where
  m8 : 8 ≤ m
  stl : ∀ k, st k < m
  le2 : ∀ i, i < m → (T i).is ≤ 2
  ok : ∀ i, i < m → (T i).is = 2 → M (T i).key = some (T i).v
  uniq : ∀ i j, i < m → j < m → (T i).is = 2 → (T j).is = 2 → (T i).key = (T j).key → i = j
  path : ∀ i, i < m → (T i).is = 2 → ∃ d, d < m ∧ i = (st (T i).key + d) % m ∧ ∀ d', d' < d → (T ((st (T i).key + d') % m)).is ≠ 0
  cover : ∀ k x, M k = some x → ∃ i, i < m ∧ (T i).is = 2 ∧ (T i).key = k
  cn : n = cnt (isF T) m
  cu : used = cnt (isU T) m
  room : used < m

variable {m n used : Nat} {T : Nat → Pl α} {st : ByteArray → Nat} {M : ByteArray → Option α}
theorem TInv.nle (h : TInv m T st M n used) : n ≤ used := by
  rw [h.cn, h.cu]
  exact cnt_mono (fun i _ hi => by simp [isF] at hi; simp [isU, hi])
/-- From any place on there is an empty one. -/
theorem TInv.empty (h : TInv m T st M n used) (s : Nat) (hs : s < m) : ∃ e, e < m ∧ (T ((s + e) % m)).is = 0 := by
  obtain ⟨i, hi, h0⟩ := cnt_lt (f := isU T) (m := m) (by rw [← h.cu]; exact h.room)
  simp [isU] at h0
  refine ⟨(i + m - s) % m, Nat.mod_lt _ (by omega), ?_⟩
  have : (s + (i + m - s) % m) % m = i := by
    by_cases c : s ≤ i
    · rw [show i + m - s = (i - s) + m by omega, Nat.add_mod_right, Nat.mod_eq_of_lt (show i - s < m by omega), show s + (i - s) = i by omega, Nat.mod_eq_of_lt hi]
    · rw [Nat.mod_eq_of_lt (show i + m - s < m by omega), show s + (i + m - s) = i + m by omega, Nat.add_mod_right, Nat.mod_eq_of_lt hi]
  rw [this]; exact h0
/-- What find gives. -/
def Found1 (m : Nat) (T : Nat → Pl α) (st : ByteArray → Nat) (M : ByteArray → Option α) (k : ByteArray) (i : Nat) (b : Bool) : Prop :=
  i < m ∧ (b = true → (T i).is = 2 ∧ (T i).key = k) ∧ (b = false → M k = none ∧ (T i).is ≠ 2 ∧ ∃ d, d < m ∧ i = (st k + d) % m ∧ ∀ d', d' < d → (T ((st k + d') % m)).is ≠ 0)
/-- So far, on the way from the key's own place. -/
def Way (m : Nat) (T : Nat → Pl α) (s : Nat) (k : ByteArray) (d : Nat) (free : Option Nat) : Prop :=
  (∀ d', d' < d → (T ((s + d') % m)).is ≠ 0 ∧ ¬ ((T ((s + d') % m)).is = 2 ∧ (T ((s + d') % m)).key = k)) ∧ (∀ i, free = some i → ∃ e, e < d ∧ i = (s + e) % m ∧ (T i).is = 1)
theorem TInv.none_of_way (h : TInv m T st M n used) {k : ByteArray} {d : Nat} {free : Option Nat} (w : Way m T (st k) k d free) (h0 : (T ((st k + d) % m)).is = 0) : M k = none := by
  cases e : M k with
  | none => rfl
  | some x =>
    exfalso
    obtain ⟨i, hi, h2, hk⟩ := h.cover k x e
    obtain ⟨d2, hd2, hp, hq⟩ := h.path i hi h2
    rw [hk] at hp hq
    rcases Nat.lt_trichotomy d2 d with c | c | c
    · exact (w.1 d2 c).2 (by rw [← hp]; exact ⟨h2, hk⟩)
    · subst c; rw [← hp, h2] at h0; cases h0
    · exact hq d c h0
theorem TInv.found_empty (h : TInv m T st M n used) {k : ByteArray} {d : Nat} {free : Option Nat} (w : Way m T (st k) k d free) (h0 : (T ((st k + d) % m)).is = 0) (hd : d < m) :
    Found1 m T st M k ((free.getD ((st k + d) % m))) false := by
  have hm := h.m8
  have hn := h.none_of_way w h0
  cases free with
  | none => exact ⟨Nat.mod_lt _ (by omega), by simp, fun _ => ⟨hn, by simp [h0], d, hd, rfl, fun d' hd' => (w.1 d' hd').1⟩⟩
  | some i =>
    obtain ⟨e, he, hi, h1⟩ := w.2 i rfl
    refine ⟨by rw [Option.getD_some, hi]; exact Nat.mod_lt _ (by omega), by simp, fun _ => ⟨hn, by simp [h1], e, by omega, by simp [hi], fun d' hd' => (w.1 d' (by omega)).1⟩⟩
theorem Way.start (m : Nat) (T : Nat → Pl α) (s : Nat) (k : ByteArray) : Way m T s k 0 none := ⟨fun d' h => absurd h (Nat.not_lt_zero _), by simp⟩
theorem Way.step {s d : Nat} {k : ByteArray} {free : Option Nat} (w : Way m T s k d free) (h0 : (T ((s + d) % m)).is ≠ 0) (hf : ¬ ((T ((s + d) % m)).is = 2 ∧ (T ((s + d) % m)).key = k)) : Way m T s k (d + 1) free := by
  refine ⟨fun d' hd' => ?_, fun i hi => ?_⟩
  · by_cases e : d' = d
    · subst e; exact ⟨h0, hf⟩
    · exact w.1 d' (by omega)
  · obtain ⟨e, he, h1⟩ := w.2 i hi
    exact ⟨e, by omega, h1⟩
theorem Way.free {s d : Nat} {k : ByteArray} (w : Way m T s k d none) (h1 : (T ((s + d) % m)).is = 1) : Way m T s k (d + 1) (some ((s + d) % m)) := by
  have w2 := w.step (by omega) (by omega)
  exact ⟨w2.1, fun i hi => by simp at hi; subst hi; exact ⟨d, by omega, rfl, h1⟩⟩
theorem step_mod (s d m : Nat) (hm : 0 < m) : ((s + d) % m + 1) % m = (s + (d + 1)) % m := by
  rw [Nat.mod_add_mod, Nat.add_assoc]

def upM (M : ByteArray → Option α) (k : ByteArray) (x : Option α) : ByteArray → Option α := fun k' => if k' = k then x else M k'
/-- A key that was nowhere is laid. -/
theorem TInv.lays (h : TInv m T st M n used) {k : ByteArray} {i : Nat} {x : α} (f : Found1 m T st M k i false) (hr : used + 1 < m) :
    TInv m (up T i ⟨2, k, x⟩) st (upM M k (some x)) (n + 1) (if (T i).is = 0 then used + 1 else used) := by
  obtain ⟨hi, _, hf⟩ := f
  obtain ⟨hn, h2, d, hd, hp, hq⟩ := hf rfl
  have other : ∀ j, j < m → (T j).is = 2 → (T j).key ≠ k := by
    intro j hj hj2 e
    have := h.ok j hj hj2
    rw [e, hn] at this
    cases this
  have nz : ∀ j, (T j).is ≠ 0 → (up T i ⟨2, k, x⟩ j).is ≠ 0 := by intro j hj; by_cases e : j = i <;> simp [up, e]; exact fun h => hj (by first | exact h | (subst e; exact h))
  refine ⟨h.m8, h.stl, ?_, ?_, ?_, ?_, ?_, ?_, ?_, ?_⟩
  · intro j hj
    by_cases e : j = i
    · simp [up, e]
    · rw [up_other _ _ _ _ e]; exact h.le2 j hj
  · intro j hj hj2
    by_cases e : j = i
    · subst e; simp [up, upM]
    · rw [up_other _ _ _ _ e] at hj2 ⊢
      rw [upM, if_neg (other j hj hj2)]
      exact h.ok j hj hj2
  · intro a b ha hb ha2 hb2 hk
    by_cases e1 : a = i <;> by_cases e2 : b = i
    · rw [e1, e2]
    · subst e1
      rw [up_same, up_other _ _ _ _ e2] at hk
      rw [up_other _ _ _ _ e2] at hb2
      exact absurd hk.symm (other b hb hb2)
    · subst e2
      rw [up_same, up_other _ _ _ _ e1] at hk
      rw [up_other _ _ _ _ e1] at ha2
      exact absurd hk (other a ha ha2)
    · rw [up_other _ _ _ _ e1] at ha2 hk
      rw [up_other _ _ _ _ e2] at hb2 hk
      exact h.uniq a b ha hb ha2 hb2 hk
  · intro j hj hj2
    by_cases e : j = i
    · subst e
      rw [up_same]
      exact ⟨d, hd, hp, fun d' hd' => nz _ (hq d' hd')⟩
    · rw [up_other _ _ _ _ e] at hj2 ⊢
      obtain ⟨d2, h1, h3, h4⟩ := h.path j hj hj2
      exact ⟨d2, h1, h3, fun d' hd' => nz _ (h4 d' hd')⟩
  · intro k' x' hx
    by_cases e : k' = k
    · exact ⟨i, hi, by simp [up], by simp [up, e]⟩
    · rw [upM, if_neg e] at hx
      obtain ⟨j, hj, hj2, hk⟩ := h.cover k' x' hx
      have : j ≠ i := by rintro rfl; exact h2 hj2
      exact ⟨j, hj, by rw [up_other _ _ _ _ this]; exact hj2, by rw [up_other _ _ _ _ this]; exact hk⟩
  · have := cnt_up (f := isF T) (g := isF (up T i ⟨2, k, x⟩)) (i := i) hi (fun k' hk' => by simp [isF, up_other _ _ _ _ hk'])
    rw [← h.cn] at this
    have e1 : isF T i = false := by simp [isF, h2]
    have e2 : isF (up T i ⟨2, k, x⟩) i = true := by simp [isF, up]
    rw [e1, e2] at this
    simpa using this.symm
  · have := cnt_up (f := isU T) (g := isU (up T i ⟨2, k, x⟩)) (i := i) hi (fun k' hk' => by simp [isU, up_other _ _ _ _ hk'])
    rw [← h.cu] at this
    have e2 : isU (up T i ⟨2, k, x⟩) i = true := by simp [isU, up]
    rw [e2] at this
    by_cases c : (T i).is = 0
    · have e1 : isU T i = false := by simp [isU, c]
      rw [e1] at this
      rw [if_pos c]; simpa using this.symm
    · have e1 : isU T i = true := by simp [isU, c]
      rw [e1] at this
      rw [if_neg c]; simp at this; omega
  · split <;> omega
/-- A key that is there gets another value. -/
theorem TInv.set (h : TInv m T st M n used) {k : ByteArray} {i : Nat} {x : α} (hi : i < m) (h2 : (T i).is = 2) (hk : (T i).key = k) : TInv m (up T i { T i with v := x }) st (upM M k (some x)) n used := by
  have eis : ∀ j, (up T i { T i with v := x } j).is = (T j).is := by intro j; by_cases e : j = i <;> simp [up, e]
  have ekey : ∀ j, (up T i { T i with v := x } j).key = (T j).key := by intro j; by_cases e : j = i <;> simp [up, e]
  refine ⟨h.m8, h.stl, ?_, ?_, ?_, ?_, ?_, ?_, ?_, h.room⟩
  · intro j hj; rw [eis]; exact h.le2 j hj
  · intro j hj hj2
    rw [eis] at hj2
    rw [ekey]
    by_cases e : j = i
    · subst e; simp [up, upM, hk]
    · rw [up_other _ _ _ _ e, upM, if_neg (fun hkk => e (h.uniq j i hj hi hj2 h2 (by rw [hk, hkk])))]
      exact h.ok j hj hj2
  · intro a b ha hb ha2 hb2 hkk
    rw [eis] at ha2 hb2
    rw [ekey, ekey] at hkk
    exact h.uniq a b ha hb ha2 hb2 hkk
  · intro j hj hj2
    rw [eis] at hj2
    rw [ekey]
    obtain ⟨d, a, b, c⟩ := h.path j hj hj2
    exact ⟨d, a, b, fun d' hd' => by rw [eis]; exact c d' hd'⟩
  · intro k' x' hx
    by_cases e : k' = k
    · subst e; exact ⟨i, hi, by rw [eis]; exact h2, by rw [ekey]; exact hk⟩
    · rw [upM, if_neg e] at hx
      obtain ⟨j, a, b, c⟩ := h.cover k' x' hx
      exact ⟨j, a, by rw [eis]; exact b, by rw [ekey]; exact c⟩
  · rw [h.cn]; exact cnt_congr fun j _ => by simp [isF, eis]
  · rw [h.cu]; exact cnt_congr fun j _ => by simp [isU, eis]
/-- A key is taken away. -/
theorem TInv.del (h : TInv m T st M n used) {k k0 : ByteArray} {i : Nat} {x0 : α} (hi : i < m) (h2 : (T i).is = 2) (hk : (T i).key = k) : TInv m (up T i ⟨1, k0, x0⟩) st (upM M k none) (n - 1) used := by
  have enz : ∀ j, (up T i ⟨1, k0, x0⟩ j).is ≠ 0 ↔ (T j).is ≠ 0 := by intro j; by_cases e : j = i <;> simp [up, e, h2]
  have e2 : ∀ j, (up T i ⟨1, k0, x0⟩ j).is = 2 → j ≠ i ∧ (T j).is = 2 := by
    intro j hj
    by_cases e : j = i
    · simp [up, e] at hj
    · rw [up_other _ _ _ _ e] at hj; exact ⟨e, hj⟩
  refine ⟨h.m8, h.stl, ?_, ?_, ?_, ?_, ?_, ?_, ?_, h.room⟩
  · intro j hj
    by_cases e : j = i
    · simp [up, e]
    · rw [up_other _ _ _ _ e]; exact h.le2 j hj
  · intro j hj hj2
    obtain ⟨e, hj3⟩ := e2 j hj2
    rw [up_other _ _ _ _ e, upM, if_neg (fun hkk => e (h.uniq j i hj hi hj3 h2 (by rw [hk, hkk])))]
    exact h.ok j hj hj3
  · intro a b ha hb ha2 hb2 hkk
    obtain ⟨a1, a3⟩ := e2 a ha2
    obtain ⟨b1, b3⟩ := e2 b hb2
    rw [up_other _ _ _ _ a1, up_other _ _ _ _ b1] at hkk
    exact h.uniq a b ha hb a3 b3 hkk
  · intro j hj hj2
    obtain ⟨e, hj3⟩ := e2 j hj2
    rw [up_other _ _ _ _ e]
    obtain ⟨d, a, b, c⟩ := h.path j hj hj3
    exact ⟨d, a, b, fun d' hd' => (enz _).2 (c d' hd')⟩
  · intro k' x' hx
    by_cases e : k' = k
    · rw [upM, if_pos e] at hx; cases hx
    · rw [upM, if_neg e] at hx
      obtain ⟨j, a, b, c⟩ := h.cover k' x' hx
      have : j ≠ i := by rintro rfl; exact e (by rw [← c, hk])
      exact ⟨j, a, by rw [up_other _ _ _ _ this]; exact b, by rw [up_other _ _ _ _ this]; exact c⟩
  · have := cnt_up (f := isF T) (g := isF (up T i ⟨1, k0, x0⟩)) (i := i) hi (fun k' hk' => by simp [isF, up_other _ _ _ _ hk'])
    rw [← h.cn] at this
    have q1 : isF T i = true := by simp [isF, h2]
    have q2 : isF (up T i ⟨1, k0, x0⟩) i = false := by simp [isF, up]
    rw [q1, q2] at this
    simp at this
    omega
  · rw [h.cu]
    refine cnt_congr fun j _ => ?_
    have := enz j
    simp only [isU]
    by_cases c : (T j).is = 0
    · have : (up T i ⟨1, k0, x0⟩ j).is = 0 := Classical.byContradiction fun hh => (enz j).1 hh c
      simp [c, this]
    · have := (enz j).2 c
      rw [bne_iff_ne.2 c, bne_iff_ne.2 this]
/-- A table with nothing. -/
theorem TInv.new (m : Nat) (hm : 8 ≤ m) (st : ByteArray → Nat) (hst : ∀ k, st k < m) (x0 : α) (k0 : ByteArray) : TInv m (fun _ => ⟨0, k0, x0⟩) st (fun _ => none) 0 0 := by
  have c1 : ∀ m, cnt (isF (fun _ : Nat => (⟨0, k0, x0⟩ : Pl α))) m = 0 := by intro m; induction m with | zero => rfl | succ m ih => simp [cnt, ih, isF]
  have c2 : ∀ m, cnt (isU (fun _ : Nat => (⟨0, k0, x0⟩ : Pl α))) m = 0 := by intro m; induction m with | zero => rfl | succ m ih => simp [cnt, ih, isU]
  exact ⟨hm, hst, fun _ _ => by simp, fun _ _ h => by simp at h, fun _ _ _ _ h => by simp at h, fun _ _ h => by simp at h, fun _ _ h => by simp at h, (c1 m).symm, (c2 m).symm, by omega⟩
/-- What is in the first j places. -/
noncomputable def upto (T : Nat → Pl α) (M : ByteArray → Option α) (j : Nat) : ByteArray → Option α := by
  classical exact fun k => if ∃ i, i < j ∧ (T i).is = 2 ∧ (T i).key = k then M k else none
theorem upto_zero (T : Nat → Pl α) (M : ByteArray → Option α) : upto T M 0 = fun _ => none := by funext k; simp [upto]
theorem TInv.upto_all (h : TInv m T st M n used) : upto T M m = M := by
  funext k
  unfold upto
  split
  · rfl
  · rename_i hne
    cases e : M k with
    | none => rfl
    | some x => exact absurd (h.cover k x e) hne
theorem TInv.upto_full (h : TInv m T st M n used) {j : Nat} (hj : j < m) (h2 : (T j).is = 2) : upto T M (j + 1) = upM (upto T M j) (T j).key (some (T j).v) ∧ upto T M j (T j).key = none := by
  constructor
  · funext k
    unfold upto upM
    by_cases e : k = (T j).key
    · subst e
      rw [if_pos ⟨j, by omega, h2, rfl⟩, if_pos rfl]
      exact h.ok j hj h2
    · rw [if_neg e]
      show _ = (if ∃ i, i < j ∧ (T i).is = 2 ∧ (T i).key = k then M k else none)
      by_cases c : ∃ i, i < j ∧ (T i).is = 2 ∧ (T i).key = k
      · rw [if_pos c]
        obtain ⟨i, a, b, d⟩ := c
        rw [if_pos ⟨i, by omega, b, d⟩]
      · rw [if_neg c, if_neg]
        rintro ⟨i, a, b, d⟩
        by_cases q : i = j
        · subst q; exact e d.symm
        · exact c ⟨i, by omega, b, d⟩
  · unfold upto
    rw [if_neg]
    rintro ⟨i, a, b, d⟩
    have := h.uniq i j (by omega) hj b h2 d
    omega
theorem TInv.upto_not (h : TInv m T st M n used) {j : Nat} (h2 : (T j).is ≠ 2) : upto T M (j + 1) = upto T M j := by
  funext k
  unfold upto
  by_cases c : ∃ i, i < j ∧ (T i).is = 2 ∧ (T i).key = k
  · rw [if_pos c]
    obtain ⟨i, a, b, d⟩ := c
    rw [if_pos ⟨i, by omega, b, d⟩]
  · rw [if_neg c, if_neg]
    rintro ⟨i, a, b, d⟩
    by_cases q : i = j
    · subst q; exact h2 b
    · exact c ⟨i, by omega, b, d⟩
theorem TInv.congrM (h : TInv m T st M n used) {M' : ByteArray → Option α} (e : M = M') : TInv m T st M' n used := e ▸ h
end
end Go.Proofs.YtphlancijlljcaaGreat
