/- The walks over package ring: what each function does to what waits. -/
import Derived.Test.YtapfkpkomdmibaaProg
import Derived.Test.YtapfkpkomdmibaaRingPure
set_option linter.unusedVariables false
set_option linter.unusedSimpArgs false
namespace Go.Proofs.Ytapfkpkomdmibaa
open Go.RowKit
attribute [local go_sem ↓] Go.wp_at_zero Go.wp_at_succ

theorem infoI : (Try.prog.info? 3).map (fun i => (i.zero, i.size, i.bytes)) = some (some (Value.int .i64 (0 : Int)), 1, 8) := by kernel_rfl

/-- A ring at p: room for cap, in it waits L. -/
def RingI (w : World) (p : Nat) (F : List Nat) (cap : Nat) (L : List Int) : Prop :=
  ∃ (a f : Nat) (l : List Int), F = [p, a] ∧ p ≠ a ∧ l.length = cap ∧ cap ≤ 4096 ∧ Waits l f L ∧
    w.heap[p]? = some (.cells #[.slice (some ⟨a, 0, none⟩) l.length l.length, .int .i64 f, .int .i64 L.length] 71 (0, 0)) ∧
    w.heap[a]? = some (.cells (l.map (Value.int .i64)).toArray 3 (0, 0))

theorem RingI.fr {w w' : World} {p cap : Nat} {F G : List Nat} {L : List Int} (h : RingI w p F cap L) (k : Fr G w w') (hd : Dis F G) : RingI w' p F cap L := by
  obtain ⟨a, f, l, rfl, h1, h2, h3, h4, h5, h6⟩ := h
  exact ⟨a, f, l, rfl, h1, h2, h3, h4, k.get h5 (hd p (by simp)), k.get h6 (hd a (by simp))⟩
theorem RingI.lt {w : World} {p cap : Nat} {F : List Nat} {L : List Int} (h : RingI w p F cap L) : Lt F w := by
  obtain ⟨a, f, l, rfl, h1, h2, h3, h4, h5, h6⟩ := h
  intro b hb
  simp at hb
  rcases hb with rfl | rfl
  · exact lt_of_block h5
  · exact lt_of_block h6

theorem lenI_c (p : Nat) (n : Int) (w : World) (h2 : w.cell? ⟨p, 2, none⟩ = some (.int .i64 n)) : Calls Try.prog 26 #[.pointer (some ⟨p, 0, none⟩)] w fun e w' => e = .returned (.int .i64 n) ∧ w = w' := by
  go_enter Try.func26, Try.ntmps26
  go_wp2
  go_ret
  exact ⟨rfl, rfl⟩
theorem lenI_nil (w : World) : Calls Try.prog 26 #[.pointer none] w fun e w' => e = .returned (.int .i64 0) ∧ w = w' := by
  go_enter Try.func26, Try.ntmps26
  go_wp2
  go_ret
  exact ⟨rfl, rfl⟩
theorem roomI_c (p : Nat) (a : Option Addr) (n c : Nat) (w : World) (h0 : w.cell? ⟨p, 0, none⟩ = some (.slice a n c)) : Calls Try.prog 27 #[.pointer (some ⟨p, 0, none⟩)] w fun e w' => e = .returned (.int .i64 n) ∧ w = w' := by
  go_enter Try.func27, Try.ntmps27
  go_wp2
  go_ret
  exact ⟨rfl, rfl⟩
theorem roomI_nil (w : World) : Calls Try.prog 27 #[.pointer none] w fun e w' => e = .returned (.int .i64 0) ∧ w = w' := by
  go_enter Try.func27, Try.ntmps27
  go_wp2
  go_ret
  exact ⟨rfl, rfl⟩
theorem placeI_c (p : Nat) (a : Option Addr) (n c : Nat) (f i k : Nat) (w : World) (h0 : w.cell? ⟨p, 0, none⟩ = some (.slice a n c)) (h1 : w.cell? ⟨p, 1, none⟩ = some (.int .i64 f))
  (hf1 : f ≤ 4096) (hi1 : i ≤ 4096) (hn : 0 < n) (hk : (f + i) % n = k) : Calls Try.prog 47 #[.pointer (some ⟨p, 0, none⟩), .int .i64 i] w fun e w' => e = .returned (.int .i64 k) ∧ ∃ q, w' = w.drewN q := by
  have hs : IntKind.i64.wrap (f + i) = f + i := IntWalk.i64_in _ (by omega)
  have hnn : ((n : Int) == 0) = false := by simp; omega
  have hk' : ((f : Int) + i) % n = k := by rw [← hk]; simp
  have H := Lib.hid hk'
  clear hk hk'
  go_enter Try.func47, Try.ntmps47
  go_wp2
  go_quiet (fail)
  go_wp2
  go_ret
  rw [← H.out]
  exact ⟨rfl, _, rfl⟩

theorem pushI_room (p a : Nat) (l : List Int) (f n k : Nat) (v : Int) (w : World)
  (hp : w.heap[p]? = some (.cells #[.slice (some ⟨a, 0, none⟩) l.length l.length, .int .i64 f, .int .i64 n] 71 (0, 0)))
  (ha : w.heap[a]? = some (.cells (l.map (Value.int .i64)).toArray 3 (0, 0))) (hap : p ≠ a) (hl : l.length ≤ 4096) (hf : f < l.length) (hn : n < l.length) (hk : (f + n) % l.length = k) :
  Calls Try.prog 20 #[.pointer (some ⟨p, 0, none⟩), Value.int .i64 v] w fun e w' => e = .returned (.bool true) ∧
    ∃ q, w' = ((w.setCell ⟨a, k, none⟩ (Value.int .i64 v)).setCell ⟨p, 2, none⟩ (.int .i64 (n + 1))).drewN q := by
  have c0 := cell_of_block hp 0
  have c1 := cell_of_block hp 1
  have c2 := cell_of_block hp 2
  have ca := cell_of_block ha k
  have fa := free_of_block ha k
  have fp := free_of_block hp 2
  have hm : k < l.length := hk ▸ Nat.mod_lt _ (by omega)
  simp at c0 c1 c2
  simp [hm] at ca
  have hnl : ((n : Int) == l.length) = false := by simp; omega
  have H := Lib.hid hk
  have hpa := Ne.symm hap
  clear hp ha hk
  go_enter Try.func20, Try.ntmps20
  go_wp2_with (first | (go_at_call 26; refine (lenI_c p n _ c2).mono ?_; rintro e w' ⟨rfl, rfl⟩) | (go_at_call 27; refine (roomI_c p _ _ _ _ c0).mono ?_; rintro e w' ⟨rfl, rfl⟩))
  go_region_held3 (fun w' => w'.cell? ⟨p, 0, none⟩ = some (.slice (some ⟨a, 0, none⟩) l.length l.length) ∧ w'.cell? ⟨p, 1, none⟩ = some (.int .i64 f) ∧ w'.cell? ⟨p, 2, none⟩ = some (.int .i64 n)) (go_keep) (first | (go_at_call 47; refine (placeI_c p _ _ _ _ _ k _ (by assumption) (by assumption) (by omega) (by omega) (by omega) H.out).mono ?_; rintro e w' ⟨rfl, q, rfl⟩))
  go_wp2
  go_ret
  exact ⟨rfl, _, rfl⟩

theorem pushI_full (p : Nat) (a : Option Addr) (n c : Nat) (v : Int) (w : World) (c0 : w.cell? ⟨p, 0, none⟩ = some (.slice a n c)) (c2 : w.cell? ⟨p, 2, none⟩ = some (.int .i64 n)) :
  Calls Try.prog 20 #[.pointer (some ⟨p, 0, none⟩), Value.int .i64 v] w fun e w' => e = .returned (.bool false) ∧ w = w' := by
  go_enter Try.func20, Try.ntmps20
  go_wp2_with (first | (go_at_call 26; refine (lenI_c p n _ c2).mono ?_; rintro e w' ⟨rfl, rfl⟩) | (go_at_call 27; refine (roomI_c p _ _ _ _ c0).mono ?_; rintro e w' ⟨rfl, rfl⟩))
  go_ret
  exact ⟨rfl, rfl⟩
theorem pushI_nil (v : Int) (w : World) : Calls Try.prog 20 #[.pointer none, Value.int .i64 v] w fun e w' => e = .returned (.bool false) ∧ w = w' := by
  go_enter Try.func20, Try.ntmps20
  go_wp2_with (first | (go_at_call 26; refine (lenI_nil _).mono ?_; rintro e w' ⟨rfl, rfl⟩) | (go_at_call 27; refine (roomI_nil _).mono ?_; rintro e w' ⟨rfl, rfl⟩))
  go_ret
  exact ⟨rfl, rfl⟩

theorem pushI (p cap : Nat) (F : List Nat) (L : List Int) (v : Int) (w : World) (h : RingI w p F cap L) :
  Calls Try.prog 20 #[.pointer (some ⟨p, 0, none⟩), Value.int .i64 v] w fun e w' => e = .returned (.bool (pushB cap L)) ∧ RingI w' p F cap (pushL cap L v) ∧ Fr F w w' := by
  obtain ⟨a, f, l, rfl, h1, h2, h3, h4, h5, h6⟩ := h
  by_cases hlt : L.length < cap
  · refine (pushI_room p a l f L.length _ v w h5 h6 h1 (by omega) (by have := h4.2.1; omega) (by omega) rfl).mono ?_
    rintro e w' ⟨rfl, q, rfl⟩
    simp only [pushB, pushL, hlt, if_true, decide_true]
    refine ⟨trivial, ⟨a, f, l.set ((f + L.length) % l.length) v, rfl, h1, by simpa using h2, h3, h4.push (by omega) v, ?_, ?_⟩, ?_⟩
    · refine block_drewN ?_
      rw [block_set_same (block_set_other h5 (p := ⟨a, _, none⟩) (Ne.symm h1) _)]
      simp
    · refine block_drewN (block_set_other ?_ h1 _)
      rw [block_set_same h6]
      simp
    · exact ((((Fr.refl _ _).setCell (by simp) _).setCell (by simp) _).drewN _)
  · have he : L.length = l.length := by have := h4.1; omega
    have c0 := cell_of_block h5 0
    have c2 := cell_of_block h5 2
    simp at c0 c2
    rw [he] at c2
    refine (pushI_full p _ _ _ v w c0 c2).mono ?_
    rintro e w' ⟨rfl, rfl⟩
    simp only [pushB, pushL, hlt, if_false, decide_false]
    exact ⟨trivial, ⟨a, f, l, rfl, h1, h2, h3, h4, h5, h6⟩, Fr.refl _ _⟩
theorem infoS : (Try.prog.info? 9).map (fun i => (i.zero, i.size, i.bytes)) = some (some (Value.string ByteArray.empty), 1, 16) := by kernel_rfl

/-- A ring at p: room for cap, in it waits L. -/
def RingS (w : World) (p : Nat) (F : List Nat) (cap : Nat) (L : List ByteArray) : Prop :=
  ∃ (a f : Nat) (l : List ByteArray), F = [p, a] ∧ p ≠ a ∧ l.length = cap ∧ cap ≤ 4096 ∧ Waits l f L ∧
    w.heap[p]? = some (.cells #[.slice (some ⟨a, 0, none⟩) l.length l.length, .int .i64 f, .int .i64 L.length] 75 (0, 0)) ∧
    w.heap[a]? = some (.cells (l.map (Value.string)).toArray 9 (0, 0))

theorem RingS.fr {w w' : World} {p cap : Nat} {F G : List Nat} {L : List ByteArray} (h : RingS w p F cap L) (k : Fr G w w') (hd : Dis F G) : RingS w' p F cap L := by
  obtain ⟨a, f, l, rfl, h1, h2, h3, h4, h5, h6⟩ := h
  exact ⟨a, f, l, rfl, h1, h2, h3, h4, k.get h5 (hd p (by simp)), k.get h6 (hd a (by simp))⟩
theorem RingS.lt {w : World} {p cap : Nat} {F : List Nat} {L : List ByteArray} (h : RingS w p F cap L) : Lt F w := by
  obtain ⟨a, f, l, rfl, h1, h2, h3, h4, h5, h6⟩ := h
  intro b hb
  simp at hb
  rcases hb with rfl | rfl
  · exact lt_of_block h5
  · exact lt_of_block h6

theorem lenS_c (p : Nat) (n : Int) (w : World) (h2 : w.cell? ⟨p, 2, none⟩ = some (.int .i64 n)) : Calls Try.prog 33 #[.pointer (some ⟨p, 0, none⟩)] w fun e w' => e = .returned (.int .i64 n) ∧ w = w' := by
  go_enter Try.func33, Try.ntmps33
  go_wp2
  go_ret
  exact ⟨rfl, rfl⟩
theorem lenS_nil (w : World) : Calls Try.prog 33 #[.pointer none] w fun e w' => e = .returned (.int .i64 0) ∧ w = w' := by
  go_enter Try.func33, Try.ntmps33
  go_wp2
  go_ret
  exact ⟨rfl, rfl⟩
theorem roomS_c (p : Nat) (a : Option Addr) (n c : Nat) (w : World) (h0 : w.cell? ⟨p, 0, none⟩ = some (.slice a n c)) : Calls Try.prog 48 #[.pointer (some ⟨p, 0, none⟩)] w fun e w' => e = .returned (.int .i64 n) ∧ w = w' := by
  go_enter Try.func48, Try.ntmps48
  go_wp2
  go_ret
  exact ⟨rfl, rfl⟩
theorem roomS_nil (w : World) : Calls Try.prog 48 #[.pointer none] w fun e w' => e = .returned (.int .i64 0) ∧ w = w' := by
  go_enter Try.func48, Try.ntmps48
  go_wp2
  go_ret
  exact ⟨rfl, rfl⟩
theorem placeS_c (p : Nat) (a : Option Addr) (n c : Nat) (f i k : Nat) (w : World) (h0 : w.cell? ⟨p, 0, none⟩ = some (.slice a n c)) (h1 : w.cell? ⟨p, 1, none⟩ = some (.int .i64 f))
  (hf1 : f ≤ 4096) (hi1 : i ≤ 4096) (hn : 0 < n) (hk : (f + i) % n = k) : Calls Try.prog 49 #[.pointer (some ⟨p, 0, none⟩), .int .i64 i] w fun e w' => e = .returned (.int .i64 k) ∧ ∃ q, w' = w.drewN q := by
  have hs : IntKind.i64.wrap (f + i) = f + i := IntWalk.i64_in _ (by omega)
  have hnn : ((n : Int) == 0) = false := by simp; omega
  have hk' : ((f : Int) + i) % n = k := by rw [← hk]; simp
  have H := Lib.hid hk'
  clear hk hk'
  go_enter Try.func49, Try.ntmps49
  go_wp2
  go_quiet (fail)
  go_wp2
  go_ret
  rw [← H.out]
  exact ⟨rfl, _, rfl⟩

theorem pushS_room (p a : Nat) (l : List ByteArray) (f n k : Nat) (v : ByteArray) (w : World)
  (hp : w.heap[p]? = some (.cells #[.slice (some ⟨a, 0, none⟩) l.length l.length, .int .i64 f, .int .i64 n] 75 (0, 0)))
  (ha : w.heap[a]? = some (.cells (l.map (Value.string)).toArray 9 (0, 0))) (hap : p ≠ a) (hl : l.length ≤ 4096) (hf : f < l.length) (hn : n < l.length) (hk : (f + n) % l.length = k) :
  Calls Try.prog 30 #[.pointer (some ⟨p, 0, none⟩), Value.string v] w fun e w' => e = .returned (.bool true) ∧
    ∃ q, w' = ((w.setCell ⟨a, k, none⟩ (Value.string v)).setCell ⟨p, 2, none⟩ (.int .i64 (n + 1))).drewN q := by
  have c0 := cell_of_block hp 0
  have c1 := cell_of_block hp 1
  have c2 := cell_of_block hp 2
  have ca := cell_of_block ha k
  have fa := free_of_block ha k
  have fp := free_of_block hp 2
  have hm : k < l.length := hk ▸ Nat.mod_lt _ (by omega)
  simp at c0 c1 c2
  simp [hm] at ca
  have hnl : ((n : Int) == l.length) = false := by simp; omega
  have H := Lib.hid hk
  have hpa := Ne.symm hap
  clear hp ha hk
  go_enter Try.func30, Try.ntmps30
  go_wp2_with (first | (go_at_call 33; refine (lenS_c p n _ c2).mono ?_; rintro e w' ⟨rfl, rfl⟩) | (go_at_call 48; refine (roomS_c p _ _ _ _ c0).mono ?_; rintro e w' ⟨rfl, rfl⟩))
  go_region_held3 (fun w' => w'.cell? ⟨p, 0, none⟩ = some (.slice (some ⟨a, 0, none⟩) l.length l.length) ∧ w'.cell? ⟨p, 1, none⟩ = some (.int .i64 f) ∧ w'.cell? ⟨p, 2, none⟩ = some (.int .i64 n)) (go_keep) (first | (go_at_call 49; refine (placeS_c p _ _ _ _ _ k _ (by assumption) (by assumption) (by omega) (by omega) (by omega) H.out).mono ?_; rintro e w' ⟨rfl, q, rfl⟩))
  go_wp2
  go_ret
  exact ⟨rfl, _, rfl⟩

theorem pushS_full (p : Nat) (a : Option Addr) (n c : Nat) (v : ByteArray) (w : World) (c0 : w.cell? ⟨p, 0, none⟩ = some (.slice a n c)) (c2 : w.cell? ⟨p, 2, none⟩ = some (.int .i64 n)) :
  Calls Try.prog 30 #[.pointer (some ⟨p, 0, none⟩), Value.string v] w fun e w' => e = .returned (.bool false) ∧ w = w' := by
  go_enter Try.func30, Try.ntmps30
  go_wp2_with (first | (go_at_call 33; refine (lenS_c p n _ c2).mono ?_; rintro e w' ⟨rfl, rfl⟩) | (go_at_call 48; refine (roomS_c p _ _ _ _ c0).mono ?_; rintro e w' ⟨rfl, rfl⟩))
  go_ret
  exact ⟨rfl, rfl⟩
theorem pushS_nil (v : ByteArray) (w : World) : Calls Try.prog 30 #[.pointer none, Value.string v] w fun e w' => e = .returned (.bool false) ∧ w = w' := by
  go_enter Try.func30, Try.ntmps30
  go_wp2_with (first | (go_at_call 33; refine (lenS_nil _).mono ?_; rintro e w' ⟨rfl, rfl⟩) | (go_at_call 48; refine (roomS_nil _).mono ?_; rintro e w' ⟨rfl, rfl⟩))
  go_ret
  exact ⟨rfl, rfl⟩

theorem pushS (p cap : Nat) (F : List Nat) (L : List ByteArray) (v : ByteArray) (w : World) (h : RingS w p F cap L) :
  Calls Try.prog 30 #[.pointer (some ⟨p, 0, none⟩), Value.string v] w fun e w' => e = .returned (.bool (pushB cap L)) ∧ RingS w' p F cap (pushL cap L v) ∧ Fr F w w' := by
  obtain ⟨a, f, l, rfl, h1, h2, h3, h4, h5, h6⟩ := h
  by_cases hlt : L.length < cap
  · refine (pushS_room p a l f L.length _ v w h5 h6 h1 (by omega) (by have := h4.2.1; omega) (by omega) rfl).mono ?_
    rintro e w' ⟨rfl, q, rfl⟩
    simp only [pushB, pushL, hlt, if_true, decide_true]
    refine ⟨trivial, ⟨a, f, l.set ((f + L.length) % l.length) v, rfl, h1, by simpa using h2, h3, h4.push (by omega) v, ?_, ?_⟩, ?_⟩
    · refine block_drewN ?_
      rw [block_set_same (block_set_other h5 (p := ⟨a, _, none⟩) (Ne.symm h1) _)]
      simp
    · refine block_drewN (block_set_other ?_ h1 _)
      rw [block_set_same h6]
      simp
    · exact ((((Fr.refl _ _).setCell (by simp) _).setCell (by simp) _).drewN _)
  · have he : L.length = l.length := by have := h4.1; omega
    have c0 := cell_of_block h5 0
    have c2 := cell_of_block h5 2
    simp at c0 c2
    rw [he] at c2
    refine (pushS_full p _ _ _ v w c0 c2).mono ?_
    rintro e w' ⟨rfl, rfl⟩
    simp only [pushB, pushL, hlt, if_false, decide_false]
    exact ⟨trivial, ⟨a, f, l, rfl, h1, h2, h3, h4, h5, h6⟩, Fr.refl _ _⟩
end Go.Proofs.Ytapfkpkomdmibaa
