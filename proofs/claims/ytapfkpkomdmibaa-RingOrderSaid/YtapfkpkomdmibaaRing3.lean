/- The walks over package ring: Pop, All, New. -/
import Derived.Test.YtapfkpkomdmibaaRing2
set_option linter.unusedVariables false
set_option linter.unusedSimpArgs false
namespace Go.Proofs.Ytapfkpkomdmibaa
open Go.RowKit
attribute [local go_sem ↓] Go.wp_at_zero Go.wp_at_succ

theorem popI_in (p a : Nat) (l : List Int) (f n k : Nat) (x : Int) (w : World)
  (c0 : w.cell? ⟨p, 0, none⟩ = some (.slice (some ⟨a, 0, none⟩) l.length l.length)) (c1 : w.cell? ⟨p, 1, none⟩ = some (.int .i64 f)) (c2 : w.cell? ⟨p, 2, none⟩ = some (.int .i64 n))
  (ca : w.cell? ⟨a, f, none⟩ = some (Value.int .i64 x)) (hap : p ≠ a) (hl : l.length ≤ 4096) (hf : f < l.length) (hn : n ≤ l.length) (hi : 0 < n) (hk : (f + 1) % l.length = k)
  (fa : w.frozen? ⟨a, f, none⟩ = false) (f1 : w.frozen? ⟨p, 1, none⟩ = false) (f2 : w.frozen? ⟨p, 2, none⟩ = false) :
  Calls Try.prog 18 #[.pointer (some ⟨p, 0, none⟩)] w fun e w' => e = .returned (.tuple #[Value.int .i64 x, .bool true]) ∧ ∃ q, w' = (((w.setCell ⟨a, f, none⟩ (Value.int .i64 (0 : Int))).setCell ⟨p, 1, none⟩ (.int .i64 k)).setCell ⟨p, 2, none⟩ (.int .i64 (n - 1))).drewN q := by
  have H := Lib.hid hk
  have hpa := Ne.symm hap
  clear hk
  go_enter Try.func18, Try.ntmps18
  go_wp2_with (first | (go_at_call 22; refine (atI_in p a l f n 0 f x _ c0 c1 c2 ca (by omega) (by omega) (by omega) (by omega) (by simp [Nat.mod_eq_of_lt hf])).mono ?_; rintro e w' ⟨rfl, q, rfl⟩))
  go_region_held3 (fun w' => w'.cell? ⟨p, 0, none⟩ = some (.slice (some ⟨a, 0, none⟩) l.length l.length) ∧ w'.cell? ⟨p, 1, none⟩ = some (.int .i64 f) ∧ w'.cell? ⟨p, 2, none⟩ = some (.int .i64 n)) (go_keep) (fail)
  go_wp2_with (first | (go_at_call 47; refine (placeI_c p (some ⟨a, 0, none⟩) l.length l.length f 1 k _ (by simp [*]) (by simp [*]) (by omega) (by omega) (by omega) H.out).mono ?_; rintro e w' ⟨rfl, q2, rfl⟩))
  go_ret2
  exact ⟨rfl, q + 1 + q2, by simp only [drewN_setCell, World.drewN_drewN]; try rfl⟩
theorem popI_none (p n : Nat) (w : World) (c2 : w.cell? ⟨p, 2, none⟩ = some (.int .i64 n)) (hn : n = 0) :
  Calls Try.prog 18 #[.pointer (some ⟨p, 0, none⟩)] w fun e w' => e = .returned (.tuple #[Value.int .i64 (0 : Int), .bool false]) ∧ w = w' := by
  subst hn
  go_enter Try.func18, Try.ntmps18
  go_wp2_with (first | (go_at_call 22; refine (atI_high p 0 0 _ c2 (by omega)).mono ?_; rintro e w' ⟨rfl, rfl⟩))
  go_ret2
  exact ⟨rfl, rfl⟩
theorem popI_nil (w : World) :
  Calls Try.prog 18 #[.pointer none] w fun e w' => e = .returned (.tuple #[Value.int .i64 (0 : Int), .bool false]) ∧ w = w' := by
  go_enter Try.func18, Try.ntmps18
  go_wp2_with (first | (go_at_call 22; refine (atI_nil 0 _).mono ?_; rintro e w' ⟨rfl, rfl⟩))
  go_ret2
  exact ⟨rfl, rfl⟩
theorem popI (p cap : Nat) (F : List Nat) (L : List Int) (w : World) (h : RingI w p F cap L) :
  Calls Try.prog 18 #[.pointer (some ⟨p, 0, none⟩)] w fun e w' => e = .returned (.tuple #[Value.int .i64 (popV (0 : Int) L), .bool (popB L)]) ∧ RingI w' p F cap (popL L) ∧ Fr F w w' := by
  have h0 := h
  obtain ⟨a, f, l, rfl, h1, h2, h3, h4, h5, h6⟩ := h
  have c0 := cell_of_block h5 0
  have c1 := cell_of_block h5 1
  have c2 := cell_of_block h5 2
  simp at c0 c1 c2
  cases hL : L with
  | nil =>
    subst hL
    refine (popI_none p 0 w (by simpa using c2) rfl).mono ?_
    rintro e w' ⟨rfl, rfl⟩
    exact ⟨by simp [popV, popB], h0, Fr.refl _ _⟩
  | cons x M =>
    have hlen : 0 < L.length := by rw [hL]; simp
    have hf : f < l.length := by have := h4.2.1; have := h4.1; omega
    have hx := h4.2.2 0 hlen
    simp [Nat.mod_eq_of_lt hf, hL] at hx
    have ca := cell_of_block h6 f
    simp [hx] at ca
    rw [← hL]
    refine (popI_in p a l f L.length _ x w c0 c1 c2 ca h1 (by omega) hf h4.1 hlen rfl (free_of_block h6 f) (free_of_block h5 1) (free_of_block h5 2)).mono ?_
    rintro e w' ⟨rfl, q, rfl⟩
    refine ⟨by simp [popV, popB, hL], ⟨a, (f + 1) % l.length, l.set f (0 : Int), rfl, h1, by simpa using h2, h3, by simpa [popL] using h4.pop hlen (0 : Int), ?_, ?_⟩, ?_⟩
    · refine block_drewN ?_
      rw [block_set_same (block_set_same (block_set_other h5 (p := ⟨a, _, none⟩) (Ne.symm h1) _) 1 _)]
      simp [popL, hL]
    · refine block_drewN (block_set_other (block_set_other ?_ h1 _) h1 _)
      rw [block_set_same h6]
      simp
    · exact ((((Fr.refl _ _).setCell (by simp) _).setCell (by simp) _).setCell (by simp) _).drewN _

theorem newI (room : Int) (w : World) :
  Calls Try.prog 16 #[.int .i64 room] w fun e w' => e = .returned (.pointer (some ⟨w.heap.size + 1, 0, none⟩)) ∧ RingI w' (w.heap.size + 1) [w.heap.size + 1, w.heap.size] (clRoom room) [] ∧ Fr [] w w' := by
  obtain ⟨i0, hi, hz0, hz1, hz2⟩ := info_parts infoI
  have hmk := fun (w : World) (c : Int) (h0 : 0 ≤ c) (hc : c ≤ 4096) => run_make (P := Try.prog) w 27 3 i0 (Value.int .i64 (0 : Int)) Try.underlying27 hi hz0 .i64 .i64 c c h0 (Int.le_refl _) (by rw [hz2]; omega) (by omega)
  have fin : ∀ c : Nat, c = clRoom room → RingI ((w.alloc (.cells (madeCells #[Value.int .i64 (0 : Int)] c) 3)).alloc (.cells #[.slice (some ⟨w.heap.size, 0, none⟩) c c, .int .i64 0, .int .i64 0] 71)) (w.heap.size + 1) [w.heap.size + 1, w.heap.size] (clRoom room) [] := by
    intro c hc
    refine ⟨w.heap.size, 0, List.replicate c (0 : Int), rfl, by omega, by simpa using hc, by unfold clRoom; omega, ⟨by simp, by simp; omega, fun i hi => by simp at hi⟩, ?_, ?_⟩
    · have := block_alloc_new (w.alloc (.cells (madeCells #[Value.int .i64 (0 : Int)] c) 3)) (.cells #[.slice (some ⟨w.heap.size, 0, none⟩) c c, .int .i64 0, .int .i64 0] 71)
      simpa using this
    · refine (block_alloc_old (block_alloc_new _ _) _).trans ?_
      congr 2
      apply Array.ext
      · simp [madeCells]
      · intro i h1 h2
        simp [madeCells, Nat.mod_one]
  have H := Lib.hid fin
  clear fin
  rcases Int.lt_or_le 0 room with h | h
  · rcases Int.lt_or_le 4096 room with h' | h'
    · have hk := hmk w 4096 (by omega) (by omega)
      have hc : 4096 = clRoom room := by unfold clRoom; omega
      have HC := Lib.hid hc
      clear hmk hc
      simp [hz1, Value.cells] at hk
      go_enter Try.func16, Try.ntmps16
      go_wp2
      go_ret
      exact ⟨rfl, H.out 4096 HC.out, ((Fr.refl _ _).alloc _).alloc _⟩
    · obtain ⟨c, rfl⟩ := Int.eq_ofNat_of_zero_le (Int.le_of_lt h)
      have hk := hmk w c (by omega) (by omega)
      have hc : c = clRoom c := by unfold clRoom; omega
      have HC := Lib.hid hc
      clear hmk hc
      simp [hz1, Value.cells] at hk
      go_enter Try.func16, Try.ntmps16
      go_wp2
      go_ret
      exact ⟨rfl, H.out c HC.out, ((Fr.refl _ _).alloc _).alloc _⟩
  · have hk := hmk w 0 (by omega) (by omega)
    have hc : 0 = clRoom room := by unfold clRoom; omega
    have HC := Lib.hid hc
    clear hmk hc
    simp [hz1, Value.cells] at hk
    go_enter Try.func16, Try.ntmps16
    go_wp2
    go_ret
    exact ⟨rfl, H.out 0 HC.out, ((Fr.refl _ _).alloc _).alloc _⟩
theorem popS_in (p a : Nat) (l : List ByteArray) (f n k : Nat) (x : ByteArray) (w : World)
  (c0 : w.cell? ⟨p, 0, none⟩ = some (.slice (some ⟨a, 0, none⟩) l.length l.length)) (c1 : w.cell? ⟨p, 1, none⟩ = some (.int .i64 f)) (c2 : w.cell? ⟨p, 2, none⟩ = some (.int .i64 n))
  (ca : w.cell? ⟨a, f, none⟩ = some (Value.string x)) (hap : p ≠ a) (hl : l.length ≤ 4096) (hf : f < l.length) (hn : n ≤ l.length) (hi : 0 < n) (hk : (f + 1) % l.length = k)
  (fa : w.frozen? ⟨a, f, none⟩ = false) (f1 : w.frozen? ⟨p, 1, none⟩ = false) (f2 : w.frozen? ⟨p, 2, none⟩ = false) :
  Calls Try.prog 32 #[.pointer (some ⟨p, 0, none⟩)] w fun e w' => e = .returned (.tuple #[Value.string x, .bool true]) ∧ ∃ q, w' = (((w.setCell ⟨a, f, none⟩ (Value.string ByteArray.empty)).setCell ⟨p, 1, none⟩ (.int .i64 k)).setCell ⟨p, 2, none⟩ (.int .i64 (n - 1))).drewN q := by
  have H := Lib.hid hk
  have hpa := Ne.symm hap
  clear hk
  go_enter Try.func32, Try.ntmps32
  go_wp2_with (first | (go_at_call 50; refine (atS_in p a l f n 0 f x _ c0 c1 c2 ca (by omega) (by omega) (by omega) (by omega) (by simp [Nat.mod_eq_of_lt hf])).mono ?_; rintro e w' ⟨rfl, q, rfl⟩))
  go_region_held3 (fun w' => w'.cell? ⟨p, 0, none⟩ = some (.slice (some ⟨a, 0, none⟩) l.length l.length) ∧ w'.cell? ⟨p, 1, none⟩ = some (.int .i64 f) ∧ w'.cell? ⟨p, 2, none⟩ = some (.int .i64 n)) (go_keep) (fail)
  go_wp2_with (first | (go_at_call 49; refine (placeS_c p (some ⟨a, 0, none⟩) l.length l.length f 1 k _ (by simp [*]) (by simp [*]) (by omega) (by omega) (by omega) H.out).mono ?_; rintro e w' ⟨rfl, q2, rfl⟩))
  go_ret2
  exact ⟨rfl, q + 1 + q2, by simp only [drewN_setCell, World.drewN_drewN]; try rfl⟩
theorem popS_none (p n : Nat) (w : World) (c2 : w.cell? ⟨p, 2, none⟩ = some (.int .i64 n)) (hn : n = 0) :
  Calls Try.prog 32 #[.pointer (some ⟨p, 0, none⟩)] w fun e w' => e = .returned (.tuple #[Value.string ByteArray.empty, .bool false]) ∧ w = w' := by
  subst hn
  go_enter Try.func32, Try.ntmps32
  go_wp2_with (first | (go_at_call 50; refine (atS_high p 0 0 _ c2 (by omega)).mono ?_; rintro e w' ⟨rfl, rfl⟩))
  go_ret2
  exact ⟨rfl, rfl⟩
theorem popS_nil (w : World) :
  Calls Try.prog 32 #[.pointer none] w fun e w' => e = .returned (.tuple #[Value.string ByteArray.empty, .bool false]) ∧ w = w' := by
  go_enter Try.func32, Try.ntmps32
  go_wp2_with (first | (go_at_call 50; refine (atS_nil 0 _).mono ?_; rintro e w' ⟨rfl, rfl⟩))
  go_ret2
  exact ⟨rfl, rfl⟩
theorem popS (p cap : Nat) (F : List Nat) (L : List ByteArray) (w : World) (h : RingS w p F cap L) :
  Calls Try.prog 32 #[.pointer (some ⟨p, 0, none⟩)] w fun e w' => e = .returned (.tuple #[Value.string (popV ByteArray.empty L), .bool (popB L)]) ∧ RingS w' p F cap (popL L) ∧ Fr F w w' := by
  have h0 := h
  obtain ⟨a, f, l, rfl, h1, h2, h3, h4, h5, h6⟩ := h
  have c0 := cell_of_block h5 0
  have c1 := cell_of_block h5 1
  have c2 := cell_of_block h5 2
  simp at c0 c1 c2
  cases hL : L with
  | nil =>
    subst hL
    refine (popS_none p 0 w (by simpa using c2) rfl).mono ?_
    rintro e w' ⟨rfl, rfl⟩
    exact ⟨by simp [popV, popB], h0, Fr.refl _ _⟩
  | cons x M =>
    have hlen : 0 < L.length := by rw [hL]; simp
    have hf : f < l.length := by have := h4.2.1; have := h4.1; omega
    have hx := h4.2.2 0 hlen
    simp [Nat.mod_eq_of_lt hf, hL] at hx
    have ca := cell_of_block h6 f
    simp [hx] at ca
    rw [← hL]
    refine (popS_in p a l f L.length _ x w c0 c1 c2 ca h1 (by omega) hf h4.1 hlen rfl (free_of_block h6 f) (free_of_block h5 1) (free_of_block h5 2)).mono ?_
    rintro e w' ⟨rfl, q, rfl⟩
    refine ⟨by simp [popV, popB, hL], ⟨a, (f + 1) % l.length, l.set f ByteArray.empty, rfl, h1, by simpa using h2, h3, by simpa [popL] using h4.pop hlen ByteArray.empty, ?_, ?_⟩, ?_⟩
    · refine block_drewN ?_
      rw [block_set_same (block_set_same (block_set_other h5 (p := ⟨a, _, none⟩) (Ne.symm h1) _) 1 _)]
      simp [popL, hL]
    · refine block_drewN (block_set_other (block_set_other ?_ h1 _) h1 _)
      rw [block_set_same h6]
      simp
    · exact ((((Fr.refl _ _).setCell (by simp) _).setCell (by simp) _).setCell (by simp) _).drewN _

theorem newS (room : Int) (w : World) :
  Calls Try.prog 29 #[.int .i64 room] w fun e w' => e = .returned (.pointer (some ⟨w.heap.size + 1, 0, none⟩)) ∧ RingS w' (w.heap.size + 1) [w.heap.size + 1, w.heap.size] (clRoom room) [] ∧ Fr [] w w' := by
  obtain ⟨i0, hi, hz0, hz1, hz2⟩ := info_parts infoS
  have hmk := fun (w : World) (c : Int) (h0 : 0 ≤ c) (hc : c ≤ 4096) => run_make (P := Try.prog) w 73 9 i0 (Value.string ByteArray.empty) Try.underlying73 hi hz0 .i64 .i64 c c h0 (Int.le_refl _) (by rw [hz2]; omega) (by omega)
  have fin : ∀ c : Nat, c = clRoom room → RingS ((w.alloc (.cells (madeCells #[Value.string ByteArray.empty] c) 9)).alloc (.cells #[.slice (some ⟨w.heap.size, 0, none⟩) c c, .int .i64 0, .int .i64 0] 75)) (w.heap.size + 1) [w.heap.size + 1, w.heap.size] (clRoom room) [] := by
    intro c hc
    refine ⟨w.heap.size, 0, List.replicate c ByteArray.empty, rfl, by omega, by simpa using hc, by unfold clRoom; omega, ⟨by simp, by simp; omega, fun i hi => by simp at hi⟩, ?_, ?_⟩
    · have := block_alloc_new (w.alloc (.cells (madeCells #[Value.string ByteArray.empty] c) 9)) (.cells #[.slice (some ⟨w.heap.size, 0, none⟩) c c, .int .i64 0, .int .i64 0] 75)
      simpa using this
    · refine (block_alloc_old (block_alloc_new _ _) _).trans ?_
      congr 2
      apply Array.ext
      · simp [madeCells]
      · intro i h1 h2
        simp [madeCells, Nat.mod_one]
  have H := Lib.hid fin
  clear fin
  rcases Int.lt_or_le 0 room with h | h
  · rcases Int.lt_or_le 4096 room with h' | h'
    · have hk := hmk w 4096 (by omega) (by omega)
      have hc : 4096 = clRoom room := by unfold clRoom; omega
      have HC := Lib.hid hc
      clear hmk hc
      simp [hz1, Value.cells] at hk
      go_enter Try.func29, Try.ntmps29
      go_wp2
      go_ret
      exact ⟨rfl, H.out 4096 HC.out, ((Fr.refl _ _).alloc _).alloc _⟩
    · obtain ⟨c, rfl⟩ := Int.eq_ofNat_of_zero_le (Int.le_of_lt h)
      have hk := hmk w c (by omega) (by omega)
      have hc : c = clRoom c := by unfold clRoom; omega
      have HC := Lib.hid hc
      clear hmk hc
      simp [hz1, Value.cells] at hk
      go_enter Try.func29, Try.ntmps29
      go_wp2
      go_ret
      exact ⟨rfl, H.out c HC.out, ((Fr.refl _ _).alloc _).alloc _⟩
  · have hk := hmk w 0 (by omega) (by omega)
    have hc : 0 = clRoom room := by unfold clRoom; omega
    have HC := Lib.hid hc
    clear hmk hc
    simp [hz1, Value.cells] at hk
    go_enter Try.func29, Try.ntmps29
    go_wp2
    go_ret
    exact ⟨rfl, H.out 0 HC.out, ((Fr.refl _ _).alloc _).alloc _⟩
end Go.Proofs.Ytapfkpkomdmibaa
