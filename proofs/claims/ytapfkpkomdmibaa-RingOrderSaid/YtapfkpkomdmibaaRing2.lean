/- The walks over package ring: At, Pop, All, New. -/
import Derived.Test.YtapfkpkomdmibaaRing
set_option linter.unusedVariables false
set_option linter.unusedSimpArgs false
namespace Go.Proofs.Ytapfkpkomdmibaa
open Go.RowKit
attribute [local go_sem ↓] Go.wp_at_zero Go.wp_at_succ

theorem atI_in (p a : Nat) (l : List Int) (f n i k : Nat) (x : Int) (w : World)
  (c0 : w.cell? ⟨p, 0, none⟩ = some (.slice (some ⟨a, 0, none⟩) l.length l.length)) (c1 : w.cell? ⟨p, 1, none⟩ = some (.int .i64 f)) (c2 : w.cell? ⟨p, 2, none⟩ = some (.int .i64 n))
  (ca : w.cell? ⟨a, k, none⟩ = some (Value.int .i64 x)) (hl : l.length ≤ 4096) (hf : f < l.length) (hn : n ≤ l.length) (hi : i < n) (hk : (f + i) % l.length = k) :
  Calls Try.prog 22 #[.pointer (some ⟨p, 0, none⟩), .int .i64 i] w fun e w' => e = .returned (.tuple #[Value.int .i64 x, .bool true]) ∧ ∃ q, w' = w.drewN q := by
  have hm : k < l.length := hk ▸ Nat.mod_lt _ (by omega)
  have H := Lib.hid hk
  have b1 : decide ((i : Int) < 0) = false := by simp
  have b2 : decide ((n : Int) ≤ i) = false := by simp; omega
  clear hk
  go_enter Try.func22, Try.ntmps22
  go_wp2_with (first | (go_at_call 26; refine (lenI_c p n _ c2).mono ?_; rintro e w' ⟨rfl, rfl⟩))
  go_quiet ((go_at_call 47; exact Calls.quiet_of (placeI_c p _ _ _ f i k _ c0 c1 (by omega) (by omega) (by omega) H.out)))
  go_wp2
  go_ret2
  exact ⟨rfl, _, rfl⟩

theorem atI_low (p : Nat) (i : Int) (w : World) (hi : i < 0) :
  Calls Try.prog 22 #[.pointer (some ⟨p, 0, none⟩), .int .i64 i] w fun e w' => e = .returned (.tuple #[Value.int .i64 (0 : Int), .bool false]) ∧ w = w' := by
  have b1 : decide (i < 0) = true := by simpa using hi
  go_enter Try.func22, Try.ntmps22
  go_wp2
  go_ret2
  exact ⟨rfl, rfl⟩
theorem atI_high (p : Nat) (i n : Nat) (w : World) (c2 : w.cell? ⟨p, 2, none⟩ = some (.int .i64 n)) (hi : n ≤ i) :
  Calls Try.prog 22 #[.pointer (some ⟨p, 0, none⟩), .int .i64 i] w fun e w' => e = .returned (.tuple #[Value.int .i64 (0 : Int), .bool false]) ∧ w = w' := by
  have b1 : decide ((i : Int) < 0) = false := by simp
  have b2 : decide ((n : Int) ≤ i) = true := by simp; omega
  go_enter Try.func22, Try.ntmps22
  go_wp2_with (first | (go_at_call 26; refine (lenI_c p n _ c2).mono ?_; rintro e w' ⟨rfl, rfl⟩))
  go_ret2
  exact ⟨rfl, rfl⟩
theorem atI_nil (i : Int) (w : World) :
  Calls Try.prog 22 #[.pointer none, .int .i64 i] w fun e w' => e = .returned (.tuple #[Value.int .i64 (0 : Int), .bool false]) ∧ w = w' := by
  by_cases hi : i < 0
  · have b1 : decide (i < 0) = true := by simpa using hi
    go_enter Try.func22, Try.ntmps22
    go_wp2
    go_ret2
    exact ⟨rfl, rfl⟩
  · have b1 : decide (i < 0) = false := by simpa using hi
    have b2 : decide (0 ≤ i) = true := by simp; omega
    go_enter Try.func22, Try.ntmps22
    go_wp2_with (first | (go_at_call 26; refine (lenI_nil _).mono ?_; rintro e w' ⟨rfl, rfl⟩))
    go_ret2
    exact ⟨rfl, rfl⟩

theorem lenI (p cap : Nat) (F : List Nat) (L : List Int) (w : World) (h : RingI w p F cap L) : Calls Try.prog 26 #[.pointer (some ⟨p, 0, none⟩)] w fun e w' => e = .returned (.int .i64 L.length) ∧ w = w' := by
  obtain ⟨a, f, l, rfl, h1, h2, h3, h4, h5, h6⟩ := h
  exact lenI_c p _ w (by rw [cell_of_block h5 2]; rfl)
theorem roomI (p cap : Nat) (F : List Nat) (L : List Int) (w : World) (h : RingI w p F cap L) : Calls Try.prog 27 #[.pointer (some ⟨p, 0, none⟩)] w fun e w' => e = .returned (.int .i64 cap) ∧ w = w' := by
  obtain ⟨a, f, l, rfl, h1, h2, h3, h4, h5, h6⟩ := h
  subst h2
  exact roomI_c p _ _ _ w (by rw [cell_of_block h5 0]; rfl)
theorem atI (p cap : Nat) (F : List Nat) (L : List Int) (i : Int) (w : World) (h : RingI w p F cap L) :
  Calls Try.prog 22 #[.pointer (some ⟨p, 0, none⟩), .int .i64 i] w fun e w' => e = .returned (.tuple #[Value.int .i64 (atV (0 : Int) L i), .bool (atB L i)]) ∧ RingI w' p F cap L ∧ Fr [] w w' := by
  have h0 := h
  obtain ⟨a, f, l, rfl, h1, h2, h3, h4, h5, h6⟩ := h
  have c0 := cell_of_block h5 0
  have c1 := cell_of_block h5 1
  have c2 := cell_of_block h5 2
  simp at c0 c1 c2
  by_cases hn : i < 0
  · refine (atI_low p i w hn).mono ?_
    rintro e w' ⟨rfl, rfl⟩
    exact ⟨by simp [atV, atB, hn]; omega, h0, Fr.refl _ _⟩
  · obtain ⟨j, rfl⟩ := Int.eq_ofNat_of_zero_le (Int.not_lt.1 hn)
    by_cases hj : j < L.length
    · have hx := h4.2.2 j hj
      have hm : (f + j) % l.length < l.length := Nat.mod_lt _ (by have := h4.1; omega)
      have ca := cell_of_block h6 ((f + j) % l.length)
      simp [hm] at ca
      have hx' : l[(f + j) % l.length] = L[j] := by
        rw [List.getElem?_eq_getElem hm, List.getElem?_eq_getElem hj] at hx; exact Option.some.inj hx
      rw [hx'] at ca
      refine (atI_in p a l f L.length j _ _ w c0 c1 c2 ca (by omega) (by have := h4.2.1; have := h4.1; omega) h4.1 hj rfl).mono ?_
      rintro e w' ⟨rfl, q, rfl⟩
      refine ⟨?_, h0.fr ((Fr.refl [] _).drewN q) (fun b _ => by simp), (Fr.refl _ _).drewN q⟩
      have e2 : atB L (j : Int) = true := by simp [atB]; omega
      have e1 : atV (0 : Int) L (j : Int) = L[j] := by simp [atV, hj]; omega
      rw [e1, e2]
    · refine (atI_high p j L.length w c2 (by omega)).mono ?_
      rintro e w' ⟨rfl, rfl⟩
      refine ⟨?_, h0, Fr.refl _ _⟩
      have e2 : atB L (j : Int) = false := by simp [atB]; omega
      have e1 : atV (0 : Int) L (j : Int) = (0 : Int) := by simp [atV, List.getD, List.getElem?_eq_none (Nat.not_lt.1 hj)]
      rw [e1, e2]
theorem atS_in (p a : Nat) (l : List ByteArray) (f n i k : Nat) (x : ByteArray) (w : World)
  (c0 : w.cell? ⟨p, 0, none⟩ = some (.slice (some ⟨a, 0, none⟩) l.length l.length)) (c1 : w.cell? ⟨p, 1, none⟩ = some (.int .i64 f)) (c2 : w.cell? ⟨p, 2, none⟩ = some (.int .i64 n))
  (ca : w.cell? ⟨a, k, none⟩ = some (Value.string x)) (hl : l.length ≤ 4096) (hf : f < l.length) (hn : n ≤ l.length) (hi : i < n) (hk : (f + i) % l.length = k) :
  Calls Try.prog 50 #[.pointer (some ⟨p, 0, none⟩), .int .i64 i] w fun e w' => e = .returned (.tuple #[Value.string x, .bool true]) ∧ ∃ q, w' = w.drewN q := by
  have hm : k < l.length := hk ▸ Nat.mod_lt _ (by omega)
  have H := Lib.hid hk
  have b1 : decide ((i : Int) < 0) = false := by simp
  have b2 : decide ((n : Int) ≤ i) = false := by simp; omega
  clear hk
  go_enter Try.func50, Try.ntmps50
  go_wp2_with (first | (go_at_call 33; refine (lenS_c p n _ c2).mono ?_; rintro e w' ⟨rfl, rfl⟩))
  go_quiet ((go_at_call 49; exact Calls.quiet_of (placeS_c p _ _ _ f i k _ c0 c1 (by omega) (by omega) (by omega) H.out)))
  go_wp2
  go_ret2
  exact ⟨rfl, _, rfl⟩

theorem atS_low (p : Nat) (i : Int) (w : World) (hi : i < 0) :
  Calls Try.prog 50 #[.pointer (some ⟨p, 0, none⟩), .int .i64 i] w fun e w' => e = .returned (.tuple #[Value.string ByteArray.empty, .bool false]) ∧ w = w' := by
  have b1 : decide (i < 0) = true := by simpa using hi
  go_enter Try.func50, Try.ntmps50
  go_wp2
  go_ret2
  exact ⟨rfl, rfl⟩
theorem atS_high (p : Nat) (i n : Nat) (w : World) (c2 : w.cell? ⟨p, 2, none⟩ = some (.int .i64 n)) (hi : n ≤ i) :
  Calls Try.prog 50 #[.pointer (some ⟨p, 0, none⟩), .int .i64 i] w fun e w' => e = .returned (.tuple #[Value.string ByteArray.empty, .bool false]) ∧ w = w' := by
  have b1 : decide ((i : Int) < 0) = false := by simp
  have b2 : decide ((n : Int) ≤ i) = true := by simp; omega
  go_enter Try.func50, Try.ntmps50
  go_wp2_with (first | (go_at_call 33; refine (lenS_c p n _ c2).mono ?_; rintro e w' ⟨rfl, rfl⟩))
  go_ret2
  exact ⟨rfl, rfl⟩
theorem atS_nil (i : Int) (w : World) :
  Calls Try.prog 50 #[.pointer none, .int .i64 i] w fun e w' => e = .returned (.tuple #[Value.string ByteArray.empty, .bool false]) ∧ w = w' := by
  by_cases hi : i < 0
  · have b1 : decide (i < 0) = true := by simpa using hi
    go_enter Try.func50, Try.ntmps50
    go_wp2
    go_ret2
    exact ⟨rfl, rfl⟩
  · have b1 : decide (i < 0) = false := by simpa using hi
    have b2 : decide (0 ≤ i) = true := by simp; omega
    go_enter Try.func50, Try.ntmps50
    go_wp2_with (first | (go_at_call 33; refine (lenS_nil _).mono ?_; rintro e w' ⟨rfl, rfl⟩))
    go_ret2
    exact ⟨rfl, rfl⟩

theorem lenS (p cap : Nat) (F : List Nat) (L : List ByteArray) (w : World) (h : RingS w p F cap L) : Calls Try.prog 33 #[.pointer (some ⟨p, 0, none⟩)] w fun e w' => e = .returned (.int .i64 L.length) ∧ w = w' := by
  obtain ⟨a, f, l, rfl, h1, h2, h3, h4, h5, h6⟩ := h
  exact lenS_c p _ w (by rw [cell_of_block h5 2]; rfl)
theorem roomS (p cap : Nat) (F : List Nat) (L : List ByteArray) (w : World) (h : RingS w p F cap L) : Calls Try.prog 48 #[.pointer (some ⟨p, 0, none⟩)] w fun e w' => e = .returned (.int .i64 cap) ∧ w = w' := by
  obtain ⟨a, f, l, rfl, h1, h2, h3, h4, h5, h6⟩ := h
  subst h2
  exact roomS_c p _ _ _ w (by rw [cell_of_block h5 0]; rfl)
theorem atS (p cap : Nat) (F : List Nat) (L : List ByteArray) (i : Int) (w : World) (h : RingS w p F cap L) :
  Calls Try.prog 50 #[.pointer (some ⟨p, 0, none⟩), .int .i64 i] w fun e w' => e = .returned (.tuple #[Value.string (atV ByteArray.empty L i), .bool (atB L i)]) ∧ RingS w' p F cap L ∧ Fr [] w w' := by
  have h0 := h
  obtain ⟨a, f, l, rfl, h1, h2, h3, h4, h5, h6⟩ := h
  have c0 := cell_of_block h5 0
  have c1 := cell_of_block h5 1
  have c2 := cell_of_block h5 2
  simp at c0 c1 c2
  by_cases hn : i < 0
  · refine (atS_low p i w hn).mono ?_
    rintro e w' ⟨rfl, rfl⟩
    exact ⟨by simp [atV, atB, hn]; omega, h0, Fr.refl _ _⟩
  · obtain ⟨j, rfl⟩ := Int.eq_ofNat_of_zero_le (Int.not_lt.1 hn)
    by_cases hj : j < L.length
    · have hx := h4.2.2 j hj
      have hm : (f + j) % l.length < l.length := Nat.mod_lt _ (by have := h4.1; omega)
      have ca := cell_of_block h6 ((f + j) % l.length)
      simp [hm] at ca
      have hx' : l[(f + j) % l.length] = L[j] := by
        rw [List.getElem?_eq_getElem hm, List.getElem?_eq_getElem hj] at hx; exact Option.some.inj hx
      rw [hx'] at ca
      refine (atS_in p a l f L.length j _ _ w c0 c1 c2 ca (by omega) (by have := h4.2.1; have := h4.1; omega) h4.1 hj rfl).mono ?_
      rintro e w' ⟨rfl, q, rfl⟩
      refine ⟨?_, h0.fr ((Fr.refl [] _).drewN q) (fun b _ => by simp), (Fr.refl _ _).drewN q⟩
      have e2 : atB L (j : Int) = true := by simp [atB]; omega
      have e1 : atV ByteArray.empty L (j : Int) = L[j] := by simp [atV, hj]; omega
      rw [e1, e2]
    · refine (atS_high p j L.length w c2 (by omega)).mono ?_
      rintro e w' ⟨rfl, rfl⟩
      refine ⟨?_, h0, Fr.refl _ _⟩
      have e2 : atB L (j : Int) = false := by simp [atB]; omega
      have e1 : atV ByteArray.empty L (j : Int) = ByteArray.empty := by simp [atV, List.getD, List.getElem?_eq_none (Nat.not_lt.1 hj)]
      rw [e1, e2]
end Go.Proofs.Ytapfkpkomdmibaa
