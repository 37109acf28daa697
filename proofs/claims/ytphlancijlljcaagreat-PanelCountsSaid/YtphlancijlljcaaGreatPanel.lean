/- Package panel, walked: a sample and five shadows, of whatever relation. -/
import Derived.Test.YtphlancijlljcaaGreatSample
set_option linter.unusedVariables false
set_option linter.unusedSimpArgs false
namespace Go.Proofs.YtphlancijlljcaaGreat
open Go.RowKit
attribute [local go_sem ↓] Go.wp_at_zero Go.wp_at_succ
/-- What is known of the shadow of each kind. -/
abbrev PRel := Nat → World → Nat → List Nat → Prop
structure PROk (R : PRel) : Prop where
 fr : ∀ {k : Nat} {w w' : World} {p : Nat} {F G : List Nat}, R k w p F → Fr G w w' → Dis F G → R k w' p F
 lt : ∀ {k : Nat} {w : World} {p : Nat} {F : List Nat}, R k w p F → Lt F w
def paF (p sp : Nat) (G : Nat → List Nat) : List Nat := p :: sp :: (List.range 5).flatMap G
theorem mem_paF {p sp : Nat} {G : Nat → List Nat} {b : Nat} : b ∈ paF p sp G ↔ b = p ∨ b = sp ∨ ∃ i, i < 5 ∧ b ∈ G i := by simp [paF]
def PaB (w : World) (p sp : Nat) (room : Int) (P : Nat → Nat) : Prop :=
 w.heap[p]? = some (.cells #[.pointer (some ⟨sp, 0, none⟩), .int .i64 room, .pointer (some ⟨P 0, 0, none⟩), .pointer (some ⟨P 1, 0, none⟩), .pointer (some ⟨P 2, 0, none⟩), .pointer (some ⟨P 3, 0, none⟩), .pointer (some ⟨P 4, 0, none⟩)] 115 (0, 0))
structure PAt (R : PRel) (w : World) (p sp : Nat) (rate all taken : Nat) (room : Int) (P : Nat → Nat) (G : Nat → List Nat) : Prop where
 blk : PaB w p sp room P
 smp : SaB w sp rate all taken
 sh : ∀ k, k < 5 → R k w (P k) (G k)
 n1 : p ≠ sp
 n2 : ∀ k, k < 5 → p ∉ G k
 n3 : ∀ k, k < 5 → sp ∉ G k
 d : ∀ i j, i < 5 → j < 5 → i ≠ j → Dis (G i) (G j)
section
variable {R R' : PRel} {w w' : World} {p sp rate all taken : Nat} {room : Int} {P : Nat → Nat} {G : Nat → List Nat} {H : List Nat}
theorem PAt.fr (o : PROk R) (h : PAt R w p sp rate all taken room P G) (f : Fr H w w') (hd : Dis (paF p sp G) H) : PAt R w' p sp rate all taken room P G := by
 obtain ⟨h1, h2, h3, h4, h5, h6, h7⟩ := h
 exact ⟨f.get h1 (hd p (mem_paF.2 (.inl rfl))), f.get h2 (hd sp (mem_paF.2 (.inr (.inl rfl)))), fun k hk => o.fr (h3 k hk) f (fun b hb => hd b (mem_paF.2 (.inr (.inr ⟨k, hk, hb⟩)))), h4, h5, h6, h7⟩
theorem PAt.lt (o : PROk R) (h : PAt R w p sp rate all taken room P G) : Lt (paF p sp G) w := by
 intro b hb
 rcases mem_paF.1 hb with rfl | rfl | ⟨i, hi, hb⟩
 ·exact lt_of_block h.blk
 ·exact lt_of_block h.smp
 ·exact o.lt (h.sh i hi) b hb
/-- The shadow of kind r is changed. -/
theorem PAt.one (o : PROk R) (h : PAt R w p sp rate all taken room P G) {r : Nat} (hr : r < 5) {Gr : List Nat} (hl : R' r w' (P r) Gr) (hs : Sub Gr (G r) w) (f : Fr (G r) w w') (hR : ∀ k, k ≠ r → ∀ w p F, R k w p F → R' k w p F) :
  PAt R' w' p sp rate all taken room P (up G r Gr) ∧ Sub (paF p sp (up G r Gr)) (paF p sp G) w ∧ Fr (paF p sp G) w w' := by
 have hlt := h.lt o
 obtain ⟨h1, h2, h3, h4, h5, h6, h7⟩ := h
 have hn : ∀ {b : Nat}, b ∉ G r → b < w.heap.size → b ∉ Gr := fun hb hl => not_sub hb hs hl
 refine ⟨⟨f.get h1 (h5 r hr), f.get h2 (h6 r hr), fun k hk => ?_, h4, fun k hk => ?_, fun k hk => ?_, fun i j hi hj hij => ?_⟩, fun b hb => ?_, f.mono fun b hb _ => mem_paF.2 (.inr (.inr ⟨r, hr, hb⟩))⟩
 ·by_cases e : k = r
  ·subst e; rw [up_same]; exact hl
  ·rw [up_other _ _ _ _ e]; exact hR k e _ _ _ (o.fr (h3 k hk) f (h7 k r hk hr e))
 ·by_cases e : k = r
  ·subst e; rw [up_same]; exact hn (h5 k hk) (lt_of_block h1)
  ·rw [up_other _ _ _ _ e]; exact h5 k hk
 ·by_cases e : k = r
  ·subst e; rw [up_same]; exact hn (h6 k hk) (lt_of_block h2)
  ·rw [up_other _ _ _ _ e]; exact h6 k hk
 ·by_cases e : i = r
  ·subst e
   rw [up_same, up_other _ _ _ _ (Ne.symm hij)]
   exact (h7 i j hi hj hij).sub hs (o.lt (h3 j hj))
  ·rw [up_other _ _ _ _ e]
   by_cases e2 : j = r
   ·subst e2
    rw [up_same]
    exact ((h7 j i hj hi (Ne.symm hij)).sub hs (o.lt (h3 i hi))).symm
   ·rw [up_other _ _ _ _ e2]; exact h7 i j hi hj hij
 ·rcases mem_paF.1 hb with rfl | rfl | ⟨i, hi, hb⟩
  ·exact .inl (mem_paF.2 (.inl rfl))
  ·exact .inl (mem_paF.2 (.inr (.inl rfl)))
  ·by_cases e : i = r
   ·subst e
    rw [up_same] at hb
    rcases hs b hb with h | h
    ·exact .inl (mem_paF.2 (.inr (.inr ⟨i, hi, h⟩)))
    ·exact .inr h
   ·rw [up_other _ _ _ _ e] at hb
    exact .inl (mem_paF.2 (.inr (.inr ⟨i, hi, hb⟩)))
end
end Go.Proofs.YtphlancijlljcaaGreat
