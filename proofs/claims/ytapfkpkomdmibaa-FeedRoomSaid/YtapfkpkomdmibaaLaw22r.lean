/- The walk over hoardlaw22.FeedRoom. -/
import Derived.Test.YtapfkpkomdmibaaLaw22
set_option linter.unusedVariables false
set_option linter.unusedSimpArgs false
namespace Go.Proofs.Ytapfkpkomdmibaa
open Go.RowKit
attribute [local go_sem ↓] Go.wp_at_zero Go.wp_at_succ

theorem nRW_len (E : List (Int × ByteArray)) : nR E + nW E = E.length := by
  unfold nR nW
  induction E with
  | nil => rfl
  | cons e E ih => by_cases h : e.1 = 1 <;> simp [List.filter_cons, h] at ih ⊢ <;> omega
/-- One round of FeedRoom: a read and a write that is no read. -/
theorem room_round (r wr i : Nat) (E : List (Int × ByteArray)) (lost base : Nat) (a b : ByteArray) (h1 : nR E = min i r) (h2 : nW E = min i wr) (h3 : lost = base + (i - r)) :
    readB r E = decide (i < r) ∧ writeB wr (readE r E a) 3 = decide (i < wr) ∧ nR (writeE wr (readE r E a) 3 b) = min (i + 1) r ∧ nW (writeE wr (readE r E a) 3 b) = min (i + 1) wr ∧ readL r E lost = base + (i + 1 - r) := by
  have e1 : nR (readE r E a) = min (i + 1) r := by
    unfold readE; split
    · rw [nR_snoc]; simp; omega
    · omega
  have e2 : nW (readE r E a) = min i wr := by
    unfold readE; split
    · rw [nW_snoc]; simp; omega
    · omega
  refine ⟨by unfold readB; congr 1; rw [h1]; apply propext; omega, by unfold writeB; congr 1; rw [e2]; apply propext; simp; omega, ?_, ?_, ?_⟩
  · unfold writeE; split
    · rw [nR_snoc]; simp; omega
    · omega
  · unfold writeE; split
    · rename_i h; rw [e2] at h; rw [nW_snoc]; simp; omega
    · rename_i h; rw [e2] at h; simp at h; omega
  · unfold readL; split <;> omega

theorem room_out (r wr n : Int) (w : World) (h : ¬ (0 ≤ r ∧ r ≤ 256 ∧ 1 ≤ wr ∧ wr ≤ 256 ∧ 0 ≤ n ∧ n ≤ 300)) :
  Calls Try.prog 9 #[.int .i64 r, .int .i64 wr, .int .i64 n] w fun e w' => e = .returned (.bool true) ∧ Fr [] w w' := by
  go_enter Try.func9, Try.ntmps9
  go_wp2_with fail
  all_goals
    refine (known22 _).mono ?_
    rintro e w1 ⟨rfl, hf⟩
    go_wp2
    go_ret
    exact ⟨rfl, hf⟩

set_option maxRecDepth 100000 in
set_option maxHeartbeats 1000000 in
theorem room_in (r cw n : Nat) (w : World) (hr : r ≤ 256) (hw1 : 1 ≤ cw) (hw2 : cw ≤ 256) (hn : n ≤ 300) :
  Calls Try.prog 9 #[.int .i64 r, .int .i64 cw, .int .i64 n] w fun e w' => e = .returned (.bool true) ∧ Fr [] w w' := by
  go_enter Try.func9, Try.ntmps9
  go_wp2_with fail
  refine (feedNew r cw _ (by omega) (by omega) (by omega)).mono ?_
  rintro e w1 ⟨p, F, rfl, h1, hge, hf1⟩
  go_wp2_with fail
  go_loopw [9] (fun i wr => ∃ (k m : Nat), k ≤ 2 ∧ i = .int .i64 k ∧ m ≤ 600 * k ∧ FeedAt wr p F r cw [] m (k * (n - r)) ∧ Fr [] w wr) (fun i _ => 2 - (intOf i).toNat)
  case atStart => exact ⟨0, 0, by omega, rfl, by omega, by simpa using h1, hf1⟩
  case round =>
    obtain ⟨k, m, hk, rfl, hm, hf, hF⟩ := hrel
    clear h1 hf1
    have hkn : k * (n - r) ≤ 600 := by have := Nat.mul_le_mul hk (show n - r ≤ 300 by omega); omega
    by_cases hlt : k < 2
    · go_wp2_with fail
      go_loopw [10] (fun i wr => ∃ (j m : Nat) (E : List (Int × ByteArray)) (lost : Nat), j ≤ n ∧ i = .int .i64 j ∧ m ≤ 600 * k + 2 * j ∧ Hid (nR E = min j r ∧ nW E = min j cw ∧ lost = k * (n - r) + (j - r) ∧ E.length ≤ 512 ∧ lost ≤ 2000) ∧ FeedAt wr p F r cw E m lost ∧ Fr [] w wr) (fun i _ => n - (intOf i).toNat)
      case atStart => exact ⟨0, m, [], _, by omega, rfl, by omega, ⟨by simp [nR], by simp [nW], by omega, by simp, by omega⟩, hf, hF⟩
      case round =>
        clear hf hF
        obtain ⟨j, m, E, lost, hj, rfl, hm, hE, hf, hF⟩ := hrel
        by_cases hlt2 : j < n
        · obtain ⟨g1, g2, g3, g4, g5⟩ := hE.out
          obtain ⟨q1, q2, q3, q4, q5⟩ := room_round r cw j E lost _ ⟨#[97]⟩ ⟨#[98]⟩ g1 g2 g3
          have Q := Lib.hid (And.intro q1 (And.intro q2 (And.intro q3 (And.intro q4 q5))))
          clear q1 q2 q3 q4 q5 g1 g2 g3
          go_wp2_with fail
          refine (read hf (by omega) (by omega) _).mono ?_
          rintro e w2 ⟨rfl, ⟨m2, hm2, h2⟩, hf2⟩
          rw [Q.out.1]
          have hl2 : (readE r E ⟨#[97]⟩).length ≤ 513 := by unfold readE; split <;> (try simp) <;> omega
          by_cases c1 : j < r
          all_goals
            simp only [c1, decide_true, decide_false]
            go_wp2_with fail
            refine (write h2 (by omega) _ _).mono ?_
            rintro e w3 ⟨rfl, ⟨m3, hm3, h3⟩, hf3⟩
            rw [Q.out.2.1]
            by_cases c2 : j < cw
            all_goals
              simp only [c2, decide_true, decide_false]
              go_wp2_with fail
              refine ⟨⟨j + 1, m3, _, _, by omega, by go_num, by omega, ⟨Q.out.2.2.1, Q.out.2.2.2.1, Q.out.2.2.2.2, by rw [← nRW_len, Q.out.2.2.1, Q.out.2.2.2.1]; omega, by rw [Q.out.2.2.2.2]; omega⟩, h3, (hF.fresh hf2 hge).fresh hf3 hge⟩, by simp [intOf]; omega⟩
        · have ej : j = n := by omega
          subst ej
          obtain ⟨g1, g2, g3, g4, g5⟩ := hE.out
          go_wp2_with fail
          refine (drain hf (by omega)).mono ?_
          rintro e w2 ⟨v, rfl, hv, h2, hf2⟩
          obtain ⟨a, c, rfl⟩ := (Sl.ofOwn hv).form
          have hl : E.length = min j r + min j cw := by rw [← nRW_len, g1, g2]
          rw [hl]
          have hF2 := hF.fresh hf2 hge
          have hL : k * (j - r) + (j - r) = (k + 1) * (j - r) := by rw [Nat.add_mul]; omega
          rw [g3, hL] at h2
          clear hv hl g1 g2 g3 hL
          go_wp2_with fail
          exact ⟨⟨k + 1, m, by omega, by go_num, by omega, h2, hF2⟩, by simp [intOf]; omega⟩
    · have ek : k = 2 := by omega
      subst ek
      go_wp2_with fail
      refine (waiting hf).mono ?_
      rintro e w2 ⟨rfl, q, rfl⟩
      have hf2 := hf.fr ((Fr.refl [] _).drewN q) (fun b _ => by simp)
      have hF2 := hF.drewN q
      have z1 : nR ([] : List (Int × ByteArray)) = 0 := rfl
      have z2 : nW ([] : List (Int × ByteArray)) = 0 := rfl
      rw [z1, z2]
      generalize wr.drewN q = w3 at *
      clear hf hF z1 z2
      obtain ⟨d, hd⟩ : ∃ d : Nat, n - r = d := ⟨_, rfl⟩
      rw [hd] at hf2 hkn
      have hmul : 2 * d ≤ 600 := by omega
      by_cases hc : n ≤ r
      · have hd0 : d = 0 := by omega
        subst hd0
        clear hd
        go_wp2_with fail
        refine (lost_c hf2).mono ?_
        rintro e w4 ⟨rfl, rfl⟩
        go_wp2_with fail
        refine (known22 _).mono ?_
        rintro e w5 ⟨rfl, hf5⟩
        go_wp2
        go_ret
        exact ⟨rfl, hF2.same hf5⟩
      · have hd1 : ((n : Int) - (r : Int)) = (d : Int) := by omega
        clear hd
        go_wp2_with fail
        refine (lost_c hf2).mono ?_
        rintro e w4 ⟨rfl, rfl⟩
        go_wp2_with fail
        refine (known22 _).mono ?_
        rintro e w5 ⟨rfl, hf5⟩
        go_wp2
        go_ret
        exact ⟨rfl, hF2.same hf5⟩
end Go.Proofs.Ytapfkpkomdmibaa
