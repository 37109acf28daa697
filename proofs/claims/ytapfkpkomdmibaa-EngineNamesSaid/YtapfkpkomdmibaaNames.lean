/- Names of engines: the walks over engine.Name, engine.Kind, hoardref15.Name, hoardref15.Kind; hoardlaw15.EngineNames. -/
import Derived.Test.YtapfkpkomdmibaaProg
import Derived.Test.YtapfkpkomdmibaaBase
set_option linter.unusedVariables false
set_option linter.unusedSimpArgs false
namespace Go.Proofs.Ytapfkpkomdmibaa
open Go.RowKit

def ename (k : Int) : ByteArray :=
  if k = 0 then ⟨#[97, 114, 99]⟩ else if k = 1 then ⟨#[108, 105, 114, 115]⟩ else if k = 2 then ⟨#[50, 113]⟩ else if k = 3 then ⟨#[116, 105, 110, 121, 108, 102, 117]⟩ else if k = 4 then ⟨#[115, 51, 102, 105, 102, 111]⟩ else ⟨#[]⟩
def kindB (s : ByteArray) : Bool := decide (∃ k : Nat, k < 5 ∧ ename k = s)
def kindV (s : ByteArray) : Int := if s = ename 0 then 0 else if s = ename 1 then 1 else if s = ename 2 then 2 else if s = ename 3 then 3 else if s = ename 4 then 4 else 0
theorem kind_at (k : Nat) (hk : k < 5) (s : ByteArray) (h : ename k = s) : kindB s = true ∧ kindV s = k := by
  refine ⟨decide_eq_true ⟨k, hk, h⟩, ?_⟩
  subst h
  obtain rfl | rfl | rfl | rfl | rfl : k = 0 ∨ k = 1 ∨ k = 2 ∨ k = 3 ∨ k = 4 := by omega
  all_goals decide
theorem kind_none (s : ByteArray) (h : ∀ k : Nat, k < 5 → ename k ≠ s) : kindB s = false ∧ kindV s = 0 := by
  refine ⟨decide_eq_false (fun ⟨k, h1, h2⟩ => h k h1 h2), ?_⟩
  have a0 := h 0 (by omega)
  have a1 := h 1 (by omega)
  have a2 := h 2 (by omega)
  have a3 := h 3 (by omega)
  have a4 := h 4 (by omega)
  unfold kindV
  rw [if_neg (fun e => a0 e.symm), if_neg (fun e => a1 e.symm), if_neg (fun e => a2 e.symm), if_neg (fun e => a3 e.symm), if_neg (fun e => a4 e.symm)]
theorem kind_name (k : Int) : kindB (ename k) = (decide (0 ≤ k) && decide (k < 5)) ∧ (kindB (ename k) = true → kindV (ename k) = k) := by
  by_cases h : 0 ≤ k ∧ k < 5
  · obtain ⟨j, rfl⟩ := Int.eq_ofNat_of_zero_le h.1
    have := kind_at j (by omega) _ rfl
    refine ⟨by rw [this.1]; simp; omega, fun _ => this.2⟩
  · have e : ename k = ⟨#[]⟩ := by
      unfold ename
      rw [if_neg (by omega), if_neg (by omega), if_neg (by omega), if_neg (by omega), if_neg (by omega)]
    have : kindB (ename k) = false := by rw [e]; decide
    refine ⟨by rw [this]; simp; omega, fun h => by rw [this] at h; cases h⟩

theorem nameE (k : Int) (w : World) : Calls Try.prog 13 #[.int .i64 k] w fun e w' => e = .returned (.string (ename k)) ∧ w = w' := by
  have fin : ∀ s, ename k = s → (Ending.returned (.string s) = Ending.returned (.string (ename k))) := fun s h => by rw [h]
  have FIN := Lib.hid fin
  clear fin
  by_cases h0 : k = 0
  · have hs : ename k = ⟨#[97, 114, 99]⟩ := by rw [h0]; rfl
    have HS := Lib.hid hs
    clear hs
    subst h0
    go_enter Try.func13, Try.ntmps13
    go_wp2
    go_ret
    exact ⟨FIN.out _ HS.out, rfl⟩
  by_cases h1 : k = 1
  · have hs : ename k = ⟨#[108, 105, 114, 115]⟩ := by rw [h1]; rfl
    have HS := Lib.hid hs
    clear hs
    subst h1
    go_enter Try.func13, Try.ntmps13
    go_wp2
    go_ret
    exact ⟨FIN.out _ HS.out, rfl⟩
  by_cases h2 : k = 2
  · have hs : ename k = ⟨#[50, 113]⟩ := by rw [h2]; rfl
    have HS := Lib.hid hs
    clear hs
    subst h2
    go_enter Try.func13, Try.ntmps13
    go_wp2
    go_ret
    exact ⟨FIN.out _ HS.out, rfl⟩
  by_cases h3 : k = 3
  · have hs : ename k = ⟨#[116, 105, 110, 121, 108, 102, 117]⟩ := by rw [h3]; rfl
    have HS := Lib.hid hs
    clear hs
    subst h3
    go_enter Try.func13, Try.ntmps13
    go_wp2
    go_ret
    exact ⟨FIN.out _ HS.out, rfl⟩
  by_cases h4 : k = 4
  · have hs : ename k = ⟨#[115, 51, 102, 105, 102, 111]⟩ := by rw [h4]; rfl
    have HS := Lib.hid hs
    clear hs
    subst h4
    go_enter Try.func13, Try.ntmps13
    go_wp2
    go_ret
    exact ⟨FIN.out _ HS.out, rfl⟩
  have hs : ename k = ⟨#[]⟩ := by
    unfold ename
    rw [if_neg h0, if_neg h1, if_neg h2, if_neg h3, if_neg h4]
  have HS := Lib.hid hs
  have b0 : (k == 0) = false := by simpa using h0
  have b1 : (k == 1) = false := by simpa using h1
  have b2 : (k == 2) = false := by simpa using h2
  have b3 : (k == 3) = false := by simpa using h3
  have b4 : (k == 4) = false := by simpa using h4
  clear hs h0 h1 h2 h3 h4
  go_enter Try.func13, Try.ntmps13
  go_wp2
  go_ret
  exact ⟨FIN.out _ HS.out, rfl⟩
theorem nameR (k : Int) (w : World) : Calls Try.prog 14 #[.int .i64 k] w fun e w' => e = .returned (.string (ename k)) ∧ w = w' := by
  have fin : ∀ s, ename k = s → (Ending.returned (.string s) = Ending.returned (.string (ename k))) := fun s h => by rw [h]
  have FIN := Lib.hid fin
  clear fin
  by_cases h0 : k = 0
  · have hs : ename k = ⟨#[97, 114, 99]⟩ := by rw [h0]; rfl
    have HS := Lib.hid hs
    clear hs
    subst h0
    go_enter Try.func14, Try.ntmps14
    go_wp2
    go_ret
    exact ⟨FIN.out _ HS.out, rfl⟩
  by_cases h1 : k = 1
  · have hs : ename k = ⟨#[108, 105, 114, 115]⟩ := by rw [h1]; rfl
    have HS := Lib.hid hs
    clear hs
    subst h1
    go_enter Try.func14, Try.ntmps14
    go_wp2
    go_ret
    exact ⟨FIN.out _ HS.out, rfl⟩
  by_cases h2 : k = 2
  · have hs : ename k = ⟨#[50, 113]⟩ := by rw [h2]; rfl
    have HS := Lib.hid hs
    clear hs
    subst h2
    go_enter Try.func14, Try.ntmps14
    go_wp2
    go_ret
    exact ⟨FIN.out _ HS.out, rfl⟩
  by_cases h3 : k = 3
  · have hs : ename k = ⟨#[116, 105, 110, 121, 108, 102, 117]⟩ := by rw [h3]; rfl
    have HS := Lib.hid hs
    clear hs
    subst h3
    go_enter Try.func14, Try.ntmps14
    go_wp2
    go_ret
    exact ⟨FIN.out _ HS.out, rfl⟩
  by_cases h4 : k = 4
  · have hs : ename k = ⟨#[115, 51, 102, 105, 102, 111]⟩ := by rw [h4]; rfl
    have HS := Lib.hid hs
    clear hs
    subst h4
    go_enter Try.func14, Try.ntmps14
    go_wp2
    go_ret
    exact ⟨FIN.out _ HS.out, rfl⟩
  have hs : ename k = ⟨#[]⟩ := by
    unfold ename
    rw [if_neg h0, if_neg h1, if_neg h2, if_neg h3, if_neg h4]
  have HS := Lib.hid hs
  have b0 : (k == 0) = false := by simpa using h0
  have b1 : (k == 1) = false := by simpa using h1
  have b2 : (k == 2) = false := by simpa using h2
  have b3 : (k == 3) = false := by simpa using h3
  have b4 : (k == 4) = false := by simpa using h4
  clear hs h0 h1 h2 h3 h4
  go_enter Try.func14, Try.ntmps14
  go_wp2
  go_ret
  exact ⟨FIN.out _ HS.out, rfl⟩

theorem kindE (s : ByteArray) (w : World) : Calls Try.prog 11 #[.string s] w fun e w' => e = .returned (.tuple #[.int .i64 (kindV s), .bool (kindB s)]) ∧ w = w' := by
  go_enter Try.func11, Try.ntmps11
  go_wp2
  go_loop [5] (fun i => ∃ k : Nat, k ≤ 5 ∧ i = .int .i64 k ∧ Hid (∀ j : Nat, j < k → ename j ≠ s)) (fun i => 5 - (intOf i).toNat)
  case atStart => exact ⟨0, by omega, rfl, fun j h => absurd h (by omega)⟩
  case round =>
    obtain ⟨k, hk, rfl, hn⟩ := hrel
    by_cases hlt : k < 5
    · go_wp2_with (go_at_call 13; refine (nameE _ _).mono ?_; rintro e w' ⟨rfl, rfl⟩)
      · rename_i hq
        have := kind_at k hlt s (str_eq hq)
        go_ret2
        rw [this.1, this.2]
        exact ⟨rfl, rfl⟩
      · rename_i hq
        refine ⟨⟨k + 1, by omega, by go_num, fun j hj => ?_⟩, by simp [intOf]; omega⟩
        by_cases e : j = k
        · subst e; exact str_ne hq
        · exact hn.out j (by omega)
    · have := kind_none s (fun j hj => hn.out j (by omega))
      go_wp2_with fail
      go_ret2
      exact ⟨rfl, rfl⟩
theorem kindR (s : ByteArray) (w : World) : Calls Try.prog 12 #[.string s] w fun e w' => e = .returned (.tuple #[.int .i64 (kindV s), .bool (kindB s)]) ∧ w = w' := by
  go_enter Try.func12, Try.ntmps12
  go_wp2
  go_loop [4] (fun i => ∃ k : Nat, k ≤ 5 ∧ i = .int .i64 k ∧ Hid (∀ j : Nat, j < k → ename j ≠ s)) (fun i => 5 - (intOf i).toNat)
  case atStart => exact ⟨0, by omega, rfl, fun j h => absurd h (by omega)⟩
  case round =>
    obtain ⟨k, hk, rfl, hn⟩ := hrel
    by_cases hlt : k < 5
    · go_wp2_with (go_at_call 14; refine (nameR _ _).mono ?_; rintro e w' ⟨rfl, rfl⟩)
      · rename_i hq
        have := kind_at k hlt s (str_eq hq)
        go_ret2
        rw [this.1, this.2]
        exact ⟨rfl, rfl⟩
      · rename_i hq
        refine ⟨⟨k + 1, by omega, by go_num, fun j hj => ?_⟩, by simp [intOf]; omega⟩
        by_cases e : j = k
        · subst e; exact str_ne hq
        · exact hn.out j (by omega)
    · have := kind_none s (fun j hj => hn.out j (by omega))
      go_wp2_with fail
      go_ret2
      exact ⟨rfl, rfl⟩

theorem known15 (w : World) : Calls Try.prog 15 #[] w fun e w' => e = .returned (.bool true) ∧ w = w' := by
  have e1 : kindB ⟨#[50, 113]⟩ = true := (kind_at 2 (by omega) _ rfl).1
  have e2 : kindV ⟨#[50, 113]⟩ = 2 := (kind_at 2 (by omega) _ rfl).2
  have e3 : ename 4 = ⟨#[115, 51, 102, 105, 102, 111]⟩ := rfl
  go_enter Try.func15, Try.ntmps15
  go_wp2_with fail
  refine (kindE _ _).mono ?_
  rintro e w' ⟨rfl, rfl⟩
  rw [e1, e2]
  go_wp2_with fail
  refine (nameE _ _).mono ?_
  rintro e w' ⟨rfl, rfl⟩
  rw [e3]
  go_wp2
  go_ret
  exact ⟨by simp, rfl⟩

set_option maxHeartbeats 400000 in
theorem engineNames (k : Int) (s : ByteArray) (w : World) (hs : s.size ≤ maxLen) : Calls Try.prog 3 #[.int .i64 k, .string s] w fun e w' => e = .returned (.bool true) ∧ w = w' := by
  unfold maxLen at hs
  by_cases hb : 100 < s.size
  · go_enter Try.func3, Try.ntmps3
    go_wp2
    go_ret
    exact ⟨rfl, rfl⟩
  · have hk := kind_name k
    obtain ⟨kb, hkb⟩ : ∃ b, kindB (ename k) = b := ⟨_, rfl⟩
    obtain ⟨kv, hkv⟩ : ∃ v, kindV (ename k) = v := ⟨_, rfl⟩
    obtain ⟨nm, hnm⟩ : ∃ v, ename k = v := ⟨_, rfl⟩
    obtain ⟨sb, hsb⟩ : ∃ b, kindB s = b := ⟨_, rfl⟩
    obtain ⟨sv, hsv⟩ : ∃ b, kindV s = b := ⟨_, rfl⟩
    rw [hkb, hkv] at hk
    have H1 := Lib.hid hkb
    have H2 := Lib.hid hkv
    have H3 := Lib.hid hsb
    have H4 := Lib.hid hsv
    have HN := Lib.hid hnm
    clear hkb hkv hsb hsv hnm
    go_enter Try.func3, Try.ntmps3
    go_wp2_with fail
    refine (kindE _ _).mono ?_
    rintro e w' ⟨rfl, rfl⟩
    rw [H3.out, H4.out]
    go_wp2_with fail
    refine (kindR _ _).mono ?_
    rintro e w' ⟨rfl, rfl⟩
    rw [H3.out, H4.out]
    go_wp2_with fail
    refine (nameE _ _).mono ?_
    rintro e w' ⟨rfl, rfl⟩
    go_wp2_with fail
    refine (kindE _ _).mono ?_
    rintro e w' ⟨rfl, rfl⟩
    rw [H1.out, H2.out]
    go_wp2_with fail
    refine (nameE _ _).mono ?_
    rintro e w' ⟨rfl, rfl⟩
    go_wp2_with fail
    refine (nameR _ _).mono ?_
    rintro e w' ⟨rfl, rfl⟩
    go_wp2_with fail
    all_goals
      refine (known15 _).mono ?_
      rintro e w' ⟨rfl, rfl⟩
      go_wp2
      go_ret
      exact ⟨by simp, rfl⟩
end Go.Proofs.Ytapfkpkomdmibaa
