/- The walk over hoardlaw5.RingOrder. -/
import Derived.Test.YtapfkpkomdmibaaLaw5
import Derived.Test.YtapfkpkomdmibaaName5
set_option linter.unusedVariables false
set_option linter.unusedSimpArgs false
namespace Go.Proofs.Ytapfkpkomdmibaa
open Go.RowKit
attribute [local go_sem ↓] Go.wp_at_zero Go.wp_at_succ
/-- The names from number b on, c of them. -/
def nmL (b c : Nat) : List ByteArray := (List.range c).map fun i => nm (b + i)
theorem nmL_len (b c : Nat) : (nmL b c).length = c := by simp [nmL]
theorem nmL_snoc (b c : Nat) : nmL b (c + 1) = nmL b c ++ [nm (b + c)] := by simp [nmL, List.range_succ]
theorem nmL_tail (b c : Nat) : popL (nmL b (c + 1)) = nmL (b + 1) c ∧ popV ByteArray.empty (nmL b (c + 1)) = nm b ∧ popB (nmL b (c + 1)) = true := by
  unfold nmL popL popV popB
  rw [List.range_succ_eq_map]
  simp
  intro a ha
  congr 1
  omega

def I5 (w wr : World) (p : Nat) (F : List Nat) (room b c : Nat) : Prop := RingS wr p F room (nmL b c) ∧ Ge w.heap.size F ∧ Fr [] w wr
theorem I5.step {w wr w' : World} {p : Nat} {F : List Nat} {room b c b' c' : Nat} (h : I5 w wr p F room b c) (hr : RingS w' p F room (nmL b' c')) (hf : Fr F wr w') : I5 w w' p F room b' c' := ⟨hr, h.2.1, h.2.2.fresh hf h.2.1⟩
theorem I5.fr {w wr w' : World} {p : Nat} {F : List Nat} {room b c : Nat} (h : I5 w wr p F room b c) (hf : Fr [] wr w') : I5 w w' p F room b c := ⟨h.1.fr hf (fun b _ => by simp), h.2.1, h.2.2.same hf⟩
theorem I5.len {w wr : World} {p : Nat} {F : List Nat} {room b c : Nat} (h : I5 w wr p F room b c) : c ≤ room := by
  obtain ⟨⟨a, f, l, _, _, h1, h2, h3, _⟩, _⟩ := h
  have := h3.1
  rw [nmL_len] at this
  omega

set_option maxRecDepth 100000 in
theorem ringOrder_out (room n : Int) (v : Value) (w : World) (h : ¬ (1 ≤ room ∧ room ≤ 100 ∧ 0 ≤ n ∧ n ≤ 300)) : Calls Try.prog 5 #[.int .i64 room, .int .i64 n, v] w fun e w' => e = .returned (.bool true) ∧ Fr [] w w' := by
  go_enter Try.func5, Try.ntmps5
  go_wp2_with fail
  all_goals
    refine (known5 _).mono ?_
    rintro e w2 ⟨rfl, hf2⟩
    go_wp2
    go_ret
    exact ⟨rfl, hf2⟩

set_option maxRecDepth 100000 in
set_option maxHeartbeats 1000000 in
theorem ringOrder_in (room n : Nat) (a : Option Addr) (np c : Nat) (zs : List Int) (w : World) (hr1 : 1 ≤ room) (hr2 : room ≤ 100) (hn : n ≤ 300) (hnp : np ≤ 9223372036854775807)
  (hcell : ∀ k, k < np → ∃ b o, a = some ⟨b, o, none⟩ ∧ b < w.heap.size ∧ w.cell? ⟨b, o + k, none⟩ = some (.int .i64 (zs.getD k 0))) :
  Calls Try.prog 5 #[.int .i64 room, .int .i64 n, .slice a np c] w fun e w' => e = .returned (.bool true) ∧ Fr [] w w' := by
  have hcl : clRoom room = room := by unfold clRoom; omega
  go_enter Try.func5, Try.ntmps5
  go_wp2_with fail
  refine (newS room _).mono ?_
  rintro e w1 ⟨rfl, hr, hf⟩
  rw [hcl] at hr
  obtain ⟨p, hp⟩ : ∃ p, w.heap.size + 1 = p := ⟨_, rfl⟩
  have hI : I5 w w1 p [p, w.heap.size] room 0 0 := ⟨by rw [← hp]; exact hr, by intro b hb; simp at hb; omega, hf⟩
  rw [hp]
  have HC := Lib.hid hcell
  clear hr hf hp hcl hcell
  go_wp2_with fail
  go_loopw [8, 9, 10] (fun ia ib i wr => ∃ (k b d : Nat) (F : List Nat), k ≤ n ∧ b + d ≤ k ∧ i = .int .i64 k ∧ ib = .int .i64 b ∧ ia = .int .i64 (b + d : Nat) ∧ I5 w wr p F room b d) (fun _ _ i _ => n - (intOf i).toNat)
  case atStart => exact ⟨0, 0, 0, _, by omega, by omega, rfl, rfl, rfl, hI⟩
  case round =>
    obtain ⟨k, b, d, F, hk, hbd, rfl, rfl, rfl, hI⟩ := hrel
    by_cases hlt : k < n
    · have hd := hI.len
      go_wp2_with fail
      refine (name5 (b + d) (by omega) _).mono ?_
      rintro e w2 ⟨rfl, hf2⟩
      have hI2 := hI.fr hf2
      clear hI hf2
      go_wp2_with fail
      refine (pushS _ _ _ _ (nm (b + d)) _ hI2.1).mono ?_
      rintro e w3 ⟨rfl, hr3, hf3⟩
      rw [pushL, nmL_len] at hr3
      rw [pushB, nmL_len]
      have hstep : ∃ d', I5 w w3 p F room b d' ∧ d' ≤ d + 1 ∧ ((decide (d < room) = true ∧ d' = d + 1) ∨ (decide (d < room) = false ∧ d' = d)) := by
        by_cases hp : d < room
        · rw [if_pos hp, ← nmL_snoc] at hr3
          exact ⟨d + 1, hI2.step hr3 hf3, by omega, .inl ⟨decide_eq_true hp, rfl⟩⟩
        · rw [if_neg hp] at hr3
          exact ⟨d, hI2.step hr3 hf3, by omega, .inr ⟨decide_eq_false hp, rfl⟩⟩
      obtain ⟨d', hI3, hd', hpd⟩ := hstep
      clear hI2 hr3 hf3
      have hfacts : b + d' ≤ k + 1 := by omega
      have key : ∀ (wq : World) (j : Nat), k < np → ∃ g o, a = some ⟨g, o, none⟩ ∧ (I5 w wq p F room b d' → wq.cell? ⟨g, o + k, none⟩ = some (.int .i64 (zs.getD k 0))) := by
        intro wq _ hk
        obtain ⟨g, o, h1, h2, h3⟩ := HC.out k hk
        exact ⟨g, o, h1, fun hI => cell_fr hI.2.2 h3 (by simp)⟩
      have hy := i64_and3_bd (zs.getD k 0)
      obtain ⟨y, hyy⟩ : ∃ y, zs.getD k 0 = y := ⟨_, rfl⟩
      rw [hyy] at hy key
      have KEY := Lib.hid key
      clear key hyy
      obtain ⟨kk, hkk⟩ : ∃ kk : Nat, bits .and .i64 y 3 = kk := Int.eq_ofNat_of_zero_le hy.1
      rw [hkk] at hy
      have hkk3 : kk ≤ 3 := by omega
      have HKK := Lib.hid hkk
      have hbb : ((b + d : Nat) : Int) + 1 = ((b + (d + 1) : Nat) : Int) := by omega
      have HBB := Lib.hid hbb
      clear hkk hy hbb
      rcases hpd with ⟨hp, rfl⟩ | ⟨hp, rfl⟩ <;> rw [hp] <;> clear hp <;> by_cases hpi : k < np
      · obtain ⟨g, o, rfl, hg⟩ := KEY.out w3 0 hpi
        have hg' := hg hI3
        clear hg
        go_wp2_with fail
        rw [HKK.out]
        go_loopw [9, 11] (fun ib ik wq => ∃ (b' c' kk : Nat), kk ≤ 3 ∧ ib = .int .i64 b' ∧ ik = .int .i64 kk ∧ b' + c' ≤ b + (d + 1) ∧ b + (d + 1) ≤ b' + c' ∧ I5 w wq p F room b' c') (fun _ ik _ => (intOf ik).toNat)
        case atStart => exact ⟨b, (d + 1), kk, by omega, rfl, rfl, by omega, by omega, hI3⟩
        case round =>
          obtain ⟨b', c', kk', hkk', rfl, rfl, he1, he2, hI⟩ := hrel
          clear hI3
          by_cases hk0 : 0 < kk'
          · go_wp2_with fail
            refine (popS _ _ _ _ _ hI.1).mono ?_
            rintro e w4 ⟨rfl, hr4, hf4⟩
            cases c' with
            | zero =>
              have e1 : popB (nmL b' 0) = false := rfl
              rw [e1]
              have hI := hI.step (c' := 0) (b' := b') hr4 hf4
              have hlen := hI.len
              go_wp2_with fail
              refine (lenS _ _ _ _ _ hI.1).mono ?_
              rintro e w6 ⟨rfl, rfl⟩
              rw [nmL_len]
              go_wp2_with fail
              refine (lenS _ _ _ _ _ hI.1).mono ?_
              rintro e w6 ⟨rfl, rfl⟩
              rw [nmL_len]
              go_wp2_with fail
              exact ⟨⟨k + 1, b', _, F, by omega, by omega, by go_num, rfl, congrArg (Value.int .i64) (by omega), hI⟩, by simp [intOf]; omega⟩
            | succ c2 =>
              obtain ⟨e1, e2, e3⟩ := nmL_tail b' c2
              rw [e2, e3]
              rw [e1] at hr4
              have hI := hI.step hr4 hf4
              clear hr4 hf4 e1 e2 e3
              go_wp2_with fail
              refine (name5 b' (by omega) _).mono ?_
              rintro e w5 ⟨rfl, hf5⟩
              have hI := hI.fr hf5
              clear hf5
              go_wp2_with fail
              exact ⟨⟨b' + 1, c2, kk' - 1, by omega, by go_num, by go_num, by omega, by omega, hI⟩, by simp [intOf]; omega⟩
          · have hlen := hI.len
            go_wp2_with fail
            refine (lenS _ _ _ _ _ hI.1).mono ?_
            rintro e w6 ⟨rfl, rfl⟩
            rw [nmL_len]
            go_wp2_with fail
            refine (lenS _ _ _ _ _ hI.1).mono ?_
            rintro e w6 ⟨rfl, rfl⟩
            rw [nmL_len]
            go_wp2_with fail
            exact ⟨⟨k + 1, b', _, F, by omega, by omega, by go_num, rfl, congrArg (Value.int .i64) (by omega), hI⟩, by simp [intOf]; omega⟩
      · go_wp2_with fail
        go_loopw [9, 11] (fun ib ik wq => ∃ (b' c' kk : Nat), kk ≤ 3 ∧ ib = .int .i64 b' ∧ ik = .int .i64 kk ∧ b' + c' ≤ b + (d + 1) ∧ b + (d + 1) ≤ b' + c' ∧ I5 w wq p F room b' c') (fun _ ik _ => (intOf ik).toNat)
        case atStart => exact ⟨b, (d + 1), 1, by omega, rfl, rfl, by omega, by omega, hI3⟩
        case round =>
          obtain ⟨b', c', kk', hkk', rfl, rfl, he1, he2, hI⟩ := hrel
          clear hI3
          by_cases hk0 : 0 < kk'
          · go_wp2_with fail
            refine (popS _ _ _ _ _ hI.1).mono ?_
            rintro e w4 ⟨rfl, hr4, hf4⟩
            cases c' with
            | zero =>
              have e1 : popB (nmL b' 0) = false := rfl
              rw [e1]
              have hI := hI.step (c' := 0) (b' := b') hr4 hf4
              have hlen := hI.len
              go_wp2_with fail
              refine (lenS _ _ _ _ _ hI.1).mono ?_
              rintro e w6 ⟨rfl, rfl⟩
              rw [nmL_len]
              go_wp2_with fail
              refine (lenS _ _ _ _ _ hI.1).mono ?_
              rintro e w6 ⟨rfl, rfl⟩
              rw [nmL_len]
              go_wp2_with fail
              exact ⟨⟨k + 1, b', _, F, by omega, by omega, by go_num, rfl, congrArg (Value.int .i64) (by omega), hI⟩, by simp [intOf]; omega⟩
            | succ c2 =>
              obtain ⟨e1, e2, e3⟩ := nmL_tail b' c2
              rw [e2, e3]
              rw [e1] at hr4
              have hI := hI.step hr4 hf4
              clear hr4 hf4 e1 e2 e3
              go_wp2_with fail
              refine (name5 b' (by omega) _).mono ?_
              rintro e w5 ⟨rfl, hf5⟩
              have hI := hI.fr hf5
              clear hf5
              go_wp2_with fail
              exact ⟨⟨b' + 1, c2, kk' - 1, by omega, by go_num, by go_num, by omega, by omega, hI⟩, by simp [intOf]; omega⟩
          · have hlen := hI.len
            go_wp2_with fail
            refine (lenS _ _ _ _ _ hI.1).mono ?_
            rintro e w6 ⟨rfl, rfl⟩
            rw [nmL_len]
            go_wp2_with fail
            refine (lenS _ _ _ _ _ hI.1).mono ?_
            rintro e w6 ⟨rfl, rfl⟩
            rw [nmL_len]
            go_wp2_with fail
            exact ⟨⟨k + 1, b', _, F, by omega, by omega, by go_num, rfl, congrArg (Value.int .i64) (by omega), hI⟩, by simp [intOf]; omega⟩
      · obtain ⟨g, o, rfl, hg⟩ := KEY.out w3 0 hpi
        have hg' := hg hI3
        clear hg
        go_wp2_with fail
        rw [HKK.out]
        go_loopw [9, 11] (fun ib ik wq => ∃ (b' c' kk : Nat), kk ≤ 3 ∧ ib = .int .i64 b' ∧ ik = .int .i64 kk ∧ b' + c' ≤ b + d' ∧ b + d' ≤ b' + c' ∧ I5 w wq p F room b' c') (fun _ ik _ => (intOf ik).toNat)
        case atStart => exact ⟨b, d', kk, by omega, rfl, rfl, by omega, by omega, hI3⟩
        case round =>
          obtain ⟨b', c', kk', hkk', rfl, rfl, he1, he2, hI⟩ := hrel
          clear hI3
          by_cases hk0 : 0 < kk'
          · go_wp2_with fail
            refine (popS _ _ _ _ _ hI.1).mono ?_
            rintro e w4 ⟨rfl, hr4, hf4⟩
            cases c' with
            | zero =>
              have e1 : popB (nmL b' 0) = false := rfl
              rw [e1]
              have hI := hI.step (c' := 0) (b' := b') hr4 hf4
              have hlen := hI.len
              go_wp2_with fail
              refine (lenS _ _ _ _ _ hI.1).mono ?_
              rintro e w6 ⟨rfl, rfl⟩
              rw [nmL_len]
              go_wp2_with fail
              refine (lenS _ _ _ _ _ hI.1).mono ?_
              rintro e w6 ⟨rfl, rfl⟩
              rw [nmL_len]
              go_wp2_with fail
              exact ⟨⟨k + 1, b', _, F, by omega, by omega, by go_num, rfl, congrArg (Value.int .i64) (by omega), hI⟩, by simp [intOf]; omega⟩
            | succ c2 =>
              obtain ⟨e1, e2, e3⟩ := nmL_tail b' c2
              rw [e2, e3]
              rw [e1] at hr4
              have hI := hI.step hr4 hf4
              clear hr4 hf4 e1 e2 e3
              go_wp2_with fail
              refine (name5 b' (by omega) _).mono ?_
              rintro e w5 ⟨rfl, hf5⟩
              have hI := hI.fr hf5
              clear hf5
              go_wp2_with fail
              exact ⟨⟨b' + 1, c2, kk' - 1, by omega, by go_num, by go_num, by omega, by omega, hI⟩, by simp [intOf]; omega⟩
          · have hlen := hI.len
            go_wp2_with fail
            refine (lenS _ _ _ _ _ hI.1).mono ?_
            rintro e w6 ⟨rfl, rfl⟩
            rw [nmL_len]
            go_wp2_with fail
            refine (lenS _ _ _ _ _ hI.1).mono ?_
            rintro e w6 ⟨rfl, rfl⟩
            rw [nmL_len]
            go_wp2_with fail
            exact ⟨⟨k + 1, b', _, F, by omega, by omega, by go_num, rfl, congrArg (Value.int .i64) (by omega), hI⟩, by simp [intOf]; omega⟩
      · go_wp2_with fail
        go_loopw [9, 11] (fun ib ik wq => ∃ (b' c' kk : Nat), kk ≤ 3 ∧ ib = .int .i64 b' ∧ ik = .int .i64 kk ∧ b' + c' ≤ b + d' ∧ b + d' ≤ b' + c' ∧ I5 w wq p F room b' c') (fun _ ik _ => (intOf ik).toNat)
        case atStart => exact ⟨b, d', 1, by omega, rfl, rfl, by omega, by omega, hI3⟩
        case round =>
          obtain ⟨b', c', kk', hkk', rfl, rfl, he1, he2, hI⟩ := hrel
          clear hI3
          by_cases hk0 : 0 < kk'
          · go_wp2_with fail
            refine (popS _ _ _ _ _ hI.1).mono ?_
            rintro e w4 ⟨rfl, hr4, hf4⟩
            cases c' with
            | zero =>
              have e1 : popB (nmL b' 0) = false := rfl
              rw [e1]
              have hI := hI.step (c' := 0) (b' := b') hr4 hf4
              have hlen := hI.len
              go_wp2_with fail
              refine (lenS _ _ _ _ _ hI.1).mono ?_
              rintro e w6 ⟨rfl, rfl⟩
              rw [nmL_len]
              go_wp2_with fail
              refine (lenS _ _ _ _ _ hI.1).mono ?_
              rintro e w6 ⟨rfl, rfl⟩
              rw [nmL_len]
              go_wp2_with fail
              exact ⟨⟨k + 1, b', _, F, by omega, by omega, by go_num, rfl, congrArg (Value.int .i64) (by omega), hI⟩, by simp [intOf]; omega⟩
            | succ c2 =>
              obtain ⟨e1, e2, e3⟩ := nmL_tail b' c2
              rw [e2, e3]
              rw [e1] at hr4
              have hI := hI.step hr4 hf4
              clear hr4 hf4 e1 e2 e3
              go_wp2_with fail
              refine (name5 b' (by omega) _).mono ?_
              rintro e w5 ⟨rfl, hf5⟩
              have hI := hI.fr hf5
              clear hf5
              go_wp2_with fail
              exact ⟨⟨b' + 1, c2, kk' - 1, by omega, by go_num, by go_num, by omega, by omega, hI⟩, by simp [intOf]; omega⟩
          · have hlen := hI.len
            go_wp2_with fail
            refine (lenS _ _ _ _ _ hI.1).mono ?_
            rintro e w6 ⟨rfl, rfl⟩
            rw [nmL_len]
            go_wp2_with fail
            refine (lenS _ _ _ _ _ hI.1).mono ?_
            rintro e w6 ⟨rfl, rfl⟩
            rw [nmL_len]
            go_wp2_with fail
            exact ⟨⟨k + 1, b', _, F, by omega, by omega, by go_num, rfl, congrArg (Value.int .i64) (by omega), hI⟩, by simp [intOf]; omega⟩
    · go_wp2_with fail
      refine (known5 _).mono ?_
      rintro e w2 ⟨rfl, hf2⟩
      go_wp2
      go_ret
      exact ⟨rfl, hI.2.2.same hf2⟩
end Go.Proofs.Ytapfkpkomdmibaa
