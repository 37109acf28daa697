/- The walks over package feed: first. -/
import Derived.Test.YtapfkpkomdmibaaFeed
set_option linter.unusedVariables false
set_option linter.unusedSimpArgs false
namespace Go.Proofs.Ytapfkpkomdmibaa
open Go.RowKit Go.Conc
attribute [local go_sem ↓] Go.wp_at_zero Go.wp_at_succ

theorem FeedRaw.fr {w w' : World} {p c1 c2 cap1 cap2 : Nat} {h1 : Bool} {x1 : Ev} {b1 : List Ev} {h2 : Bool} {x2 : Ev} {b2 : List Ev} {n lost : Nat} {G : List Nat} (h : FeedRaw w p c1 c2 cap1 cap2 h1 x1 b1 h2 x2 b2 n lost) (k : Fr G w w')
    (hd : Dis [p, c1, c2] G) : FeedRaw w' p c1 c2 cap1 cap2 h1 x1 b1 h2 x2 b2 n lost := by
  obtain ⟨q1, q2, q3, hp, ⟨s1, r1, hc1⟩, ⟨s2, r2, hc2⟩⟩ := h
  exact ⟨q1, q2, q3, k.get hp (hd p (by simp)), ⟨s1, r1, k.get hc1 (hd c1 (by simp))⟩, ⟨s2, r2, k.get hc2 (hd c2 (by simp))⟩⟩
theorem FeedRaw.lt {w : World} {p c1 c2 cap1 cap2 : Nat} {h1 : Bool} {x1 : Ev} {b1 : List Ev} {h2 : Bool} {x2 : Ev} {b2 : List Ev} {n lost : Nat} (h : FeedRaw w p c1 c2 cap1 cap2 h1 x1 b1 h2 x2 b2 n lost) : Lt [p, c1, c2] w := by
  obtain ⟨q1, q2, q3, hp, ⟨s1, r1, hc1⟩, ⟨s2, r2, hc2⟩⟩ := h
  intro b hb
  simp at hb
  rcases hb with rfl | rfl | rfl
  · exact lt_of_block hp
  · exact lt_of_block hc1
  · exact lt_of_block hc2

/-- Which lane is first. -/
def firstP (p : Nat) (t1 t2 : Bool) (n1 n2 : Nat) : Option Addr := if t2 && (!t1 || decide (n2 < n1)) then some ⟨p, 5, none⟩ else if t1 then some ⟨p, 0, none⟩ else none

set_option maxHeartbeats 1000000 in
theorem first_raw {w : World} {p c1 c2 cap1 cap2 : Nat} {h1 : Bool} {x1 : Ev} {b1 : List Ev} {h2 : Bool} {x2 : Ev} {b2 : List Ev} {n lost : Nat} (h : FeedRaw w p c1 c2 cap1 cap2 h1 x1 b1 h2 x2 b2 n lost) :
    Calls Try.prog 52 #[.pointer (some ⟨p, 0, none⟩)] w fun e w' => e = .returned (.pointer (firstP p (pkH h1 b1) (pkH h2 b2) (pkX h1 x1 b1).n (pkX h2 x2 b2).n)) ∧
      FeedRaw w' p c1 c2 cap1 cap2 (pkH h1 b1) (pkX h1 x1 b1) (pkR h1 b1) (pkH h2 b2) (pkX h2 x2 b2) (pkR h2 b2) n lost ∧ Fr [p, c1, c2] w w' := by
  have hpk1 := fun (w' : World) (hf : Fr [] w w') => peek1 (h.fr hf (fun b _ => by simp))
  obtain ⟨t1, ht1⟩ : ∃ t, pkH h1 b1 = t := ⟨_, rfl⟩
  obtain ⟨t2, ht2⟩ : ∃ t, pkH h2 b2 = t := ⟨_, rfl⟩
  obtain ⟨y1, hy1⟩ : ∃ y, pkX h1 x1 b1 = y := ⟨_, rfl⟩
  obtain ⟨y2, hy2⟩ : ∃ y, pkX h2 x2 b2 = y := ⟨_, rfl⟩
  obtain ⟨z1, hz1⟩ : ∃ y, pkR h1 b1 = y := ⟨_, rfl⟩
  obtain ⟨z2, hz2⟩ : ∃ y, pkR h2 b2 = y := ⟨_, rfl⟩
  have hpk2 := fun (w' : World) (hf : FeedRaw w' p c1 c2 cap1 cap2 t1 y1 z1 h2 x2 b2 n lost) => peek2 hf
  rw [ht2, hy2, hz2] at hpk2
  rw [ht1, hy1, hz1] at hpk1
  rw [ht1, ht2, hy1, hy2, hz1, hz2]
  have P1 := Lib.hid hpk1
  have P2 := Lib.hid hpk2
  have fin : ∀ w3 w4, Fr [p, c1] w.drew w3 → Fr [p, c2] w3 w4 → Fr [p, c1, c2] w w4 := fun w3 w4 a b =>
    ((Fr.refl [p, c1, c2] w).drew).same ((a.mono (fun x hx _ => by simp at hx ⊢; omega)).same (b.mono (fun x hx _ => by simp at hx ⊢; omega)))
  have FIN := Lib.hid fin
  clear ht1 ht2 hy1 hy2 hz1 hz2 hpk1 hpk2 fin h
  go_enter Try.func52, Try.ntmps52
  go_wp2_with fail
  go_region_held3 (fun _ => True) (trivial)
    (first
      | (go_at_call_of 53 (Value.pointer (some (⟨p, 0, none⟩ : Addr))); refine (P1.out _ (by exact (Fr.refl [] w).drew)).mono ?_; rintro e w3 ⟨rfl, hr3, hf3⟩)
      | (go_at_call_of 53 (Value.pointer (some (⟨p, 5, none⟩ : Addr))); refine (P2.out _ hr3).mono ?_; rintro e w4 ⟨rfl, hr4, hf4⟩))
  have hF := FIN.out _ _ hf3 hf4
  have hr5 : ∀ q, FeedRaw (w4.drewN q) p c1 c2 cap1 cap2 t1 y1 z1 t2 y2 z2 n lost := fun q => hr4.fr ((Fr.refl [] _).drewN q) (fun b _ => by simp)
  have d1 := cell_of_block hr4.2.2.2.1 3
  have d2 := cell_of_block hr4.2.2.2.1 8
  simp at d1 d2
  have HR := Lib.hid hr5
  clear hr5 hr4 hr3 hf3 hf4 FIN
  cases t2 with
  | false =>
    cases t1 with
    | false =>
      go_wp2_with fail
      go_quiet (fail)
      go_wp2
      go_ret
      exact ⟨rfl, HR.out _, hF.drewN _⟩
    | true =>
      go_wp2_with fail
      go_quiet (fail)
      go_wp2
      go_ret
      exact ⟨rfl, HR.out _, hF.drewN _⟩
  | true =>
    cases t1 with
    | false =>
      go_wp2_with fail
      go_quiet (fail)
      go_wp2
      go_ret
      exact ⟨rfl, HR.out _, hF.drewN _⟩
    | true =>
      by_cases hn : y2.n < y1.n
      · have hd : decide (y2.n < y1.n) = true := decide_eq_true hn
        have hP : firstP p true true y1.n y2.n = some ⟨p, 5, none⟩ := by simp [firstP, hn]
        have HP := Lib.hid hP
        clear hP
        go_wp2_with fail
        go_quiet (fail)
        go_wp2
        go_ret
        exact ⟨by rw [HP.out]; rfl, HR.out _, hF.drewN _⟩
      · have hd : decide (y2.n < y1.n) = false := decide_eq_false hn
        have hP : firstP p true true y1.n y2.n = some ⟨p, 0, none⟩ := by simp [firstP, hn]
        have HP := Lib.hid hP
        clear hP
        go_wp2_with fail
        go_quiet (fail)
        go_wp2
        go_ret
        exact ⟨by rw [HP.out]; rfl, HR.out _, hF.drewN _⟩
end Go.Proofs.Ytapfkpkomdmibaa
