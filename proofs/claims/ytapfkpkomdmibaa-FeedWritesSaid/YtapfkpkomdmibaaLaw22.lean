/- The walks over hoardlaw22: heavy, known. -/
import Derived.Test.YtapfkpkomdmibaaRef22
set_option linter.unusedVariables false
set_option linter.unusedSimpArgs false
namespace Go.Proofs.Ytapfkpkomdmibaa
open Go.RowKit
attribute [local go_sem ↓] Go.wp_at_zero Go.wp_at_succ

structure FAct where
  k : Int
  n : Int
  key : ByteArray
def FAct.enc (a : FAct) : List Value := [.int .i64 a.k, .int .i64 a.n, .string a.key]
def heavyB (l : List FAct) : Bool := (l.take 250).any fun a => decide (40 < a.key.size)
theorem heavy_no {l : List FAct} (h : heavyB l = false) (k : Nat) (hk : k < l.length) (hk2 : k < 250) : l[k].key.size ≤ 40 := by
  unfold heavyB at h
  rw [List.any_eq_false] at h
  have := h l[k] (by rw [List.mem_take_iff_getElem]; exact ⟨k, by omega, rfl⟩)
  simpa using this
set_option maxRecDepth 100000 in
theorem heavy22 (l : List FAct) (v : Value) (w : World) (h : Rd w 3 v l.length (l.flatMap FAct.enc)) (hl : Hid (l.length ≤ maxLen)) :
    Calls Try.prog 34 #[v] w fun e w' => e = .returned (.bool (heavyB l)) ∧ w = w' := by
  obtain ⟨hlen, a, c, rfl, hcc⟩ := h
  have HC := Lib.hid hcc
  clear hcc hlen
  go_enter Try.func34, Try.ntmps34
  go_wp2
  go_loop [3] (fun i => ∃ k : Nat, k ≤ l.length ∧ k ≤ 250 ∧ i = .int .i64 k ∧ Hid (∀ j (hj : j < l.length), j < k → ¬ 40 < l[j].key.size)) (fun i => 250 - (intOf i).toNat)
  case atStart => exact ⟨0, by omega, by omega, rfl, fun j _ hj => absurd hj (by omega)⟩
  case round =>
    obtain ⟨k, hk, hk2, rfl, hn⟩ := hrel
    by_cases hlt : k < l.length ∧ k < 250
    · obtain ⟨hl1, hl2⟩ := hlt
      rcases HC.out with hz | ⟨b, o, rfl, hcell⟩
      · omega
      have y3 := hcell (k * 3 + 2) (.string l[k].key) (by rw [flat_get (s := 3) (fun _ => rfl) l k hl1 2 (by omega)]; rfl)
      rw [← Nat.add_assoc] at y3
      obtain ⟨key, hkey⟩ : ∃ x, l[k].key = x := ⟨_, rfl⟩
      rw [hkey] at y3
      have HK := Lib.hid hkey
      clear hcell hkey
      by_cases hs : 40 < key.size
      · have fin : heavyB l = true := by
          unfold heavyB
          rw [List.any_eq_true]
          exact ⟨l[k], by rw [List.mem_take_iff_getElem]; exact ⟨k, by omega, rfl⟩, by rw [HK.out]; simpa using hs⟩
        have FIN := Lib.hid fin
        clear fin
        go_wp2
        go_ret
        exact ⟨by rw [FIN.out]; rfl, rfl⟩
      · go_wp2
        refine ⟨⟨k + 1, by omega, by omega, by go_num, fun j hj hjk => ?_⟩, by simp [intOf]; omega⟩
        by_cases e : j = k
        · subst e; rw [HK.out]; exact hs
        · exact hn.out j hj (by omega)
    · have fin : heavyB l = false := by
        unfold heavyB
        rw [List.any_eq_false]
        intro x hx
        rw [List.mem_take_iff_getElem] at hx
        obtain ⟨j, hj, rfl⟩ := hx
        simpa using hn.out j (by omega) (by omega)
      have FIN := Lib.hid fin
      clear fin
      have hge : l.length ≤ k ∨ (k < l.length ∧ 250 ≤ k) := by omega
      rcases hge with hge | ⟨hge0, hge⟩
      all_goals
        go_wp2
        go_ret
        exact ⟨by rw [FIN.out]; rfl, rfl⟩

set_option maxHeartbeats 400000 in
theorem known22 (w : World) : Calls Try.prog 40 #[] w fun e w' => e = .returned (.bool true) ∧ Fr [] w w' := by
  have r1 : readB 1 [] = true := rfl
  have q1 : readE 1 [] ⟨#[97]⟩ = [(1, ⟨#[97]⟩)] := rfl
  have l1 : readL 1 [] 0 = 0 := rfl
  have r2 : writeB 2 [(1, ⟨#[97]⟩)] 2 = true := by decide
  have q2 : writeE 2 [(1, ⟨#[97]⟩)] 2 ⟨#[98]⟩ = [(1, ⟨#[97]⟩), (2, ⟨#[98]⟩)] := by
    unfold writeE; rw [if_pos (by decide)]; rfl
  have r3 : readB 1 [(1, ⟨#[97]⟩), (2, ⟨#[98]⟩)] = false := by decide
  have q3 : readE 1 [(1, ⟨#[97]⟩), (2, ⟨#[98]⟩)] ⟨#[99]⟩ = [(1, ⟨#[97]⟩), (2, ⟨#[98]⟩)] := by
    unfold readE; rw [if_neg (by decide)]
  have l3 : readL 1 [(1, ⟨#[97]⟩), (2, ⟨#[98]⟩)] 0 = 1 := by
    unfold readL; rw [if_neg (by decide)]
  go_enter Try.func40, Try.ntmps40
  go_wp2_with fail
  refine (feedNew 1 2 _ (by omega) (by omega) (by omega)).mono ?_
  rintro e w1 ⟨p, F, rfl, h1, hge, hf1⟩
  go_wp2_with fail
  refine (read h1 (by omega) (by omega) _).mono ?_
  rintro e w2 ⟨rfl, ⟨n2, hn2, h2⟩, hf2⟩
  rw [q1, l1] at h2
  rw [r1]
  go_wp2_with fail
  refine (write h2 (by omega) _ _).mono ?_
  rintro e w3 ⟨rfl, ⟨n3, hn3, h3⟩, hf3⟩
  rw [q2] at h3
  rw [r2]
  go_wp2_with fail
  refine (read h3 (by omega) (by omega) _).mono ?_
  rintro e w4 ⟨rfl, ⟨n4, hn4, h4⟩, hf4⟩
  rw [q3, l3] at h4
  rw [r3]
  go_wp2_with fail
  refine (lost_c h4).mono ?_
  rintro e w5 ⟨rfl, rfl⟩
  go_wp2_with fail
  refine (drain h4 (by decide)).mono ?_
  rintro e w5 ⟨v, rfl, hv, h5, hf5⟩
  obtain ⟨a, c, rfl⟩ := (Sl.ofOwn hv).form
  have hF : Fr [] w w5 := (((hf1.fresh hf2 hge).fresh hf3 hge).fresh hf4 hge).fresh hf5 hge
  clear h1 h2 h3 h4 h5 hf1 hf2 hf3 hf4 hf5 hge
  go_wp2_with fail
  have s1 := (Sl.ofOwn hv).fr ((Fr.refl [] _).alloc (.cells #[.int .i64 1, .string ⟨#[97]⟩, .int .i64 2, .string ⟨#[98]⟩] 58)) (fun b _ => by simp)
  have s2 := Sl.built (size := 2) (e := 58) w5 #[.int .i64 1, .string ⟨#[97]⟩, .int .i64 2, .string ⟨#[98]⟩] 2 rfl (by decide)
  refine (events22 _ _ [(1, ⟨#[97]⟩), (2, ⟨#[98]⟩)] _ s1 s2 (by decide)).mono ?_
  rintro e w8 ⟨rfl, hf8⟩
  have hF2 := (hF.alloc (.cells #[.int .i64 1, .string ⟨#[97]⟩, .int .i64 2, .string ⟨#[98]⟩] 58)).same hf8
  clear s1 s2 hv hF hf8
  go_wp2
  go_ret
  exact ⟨rfl, hF2⟩
end Go.Proofs.Ytapfkpkomdmibaa
