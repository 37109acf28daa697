/- The walks over hoardref5. -/
import Derived.Test.YtapfkpkomdmibaaRing4
import Derived.Test.YtapfkpkomdmibaaSl
set_option linter.unusedVariables false
set_option linter.unusedSimpArgs false
namespace Go.Proofs.Ytapfkpkomdmibaa
open Go.RowKit
attribute [local go_sem ↓] Go.wp_at_zero Go.wp_at_succ

theorem oneI (L : List Int) : ∀ u ∈ L.map (Value.int .i64), u.oneCell' = true := by
  intro u hu
  obtain ⟨x, _, rfl⟩ := List.mem_map.1 hu
  rfl

/-- The document's row at x: room for cap, in it waits L. -/
def Ref5 (w : World) (x : Nat) (F : List Nat) (cap : Nat) (L : List Int) : Prop :=
  ∃ (a : Option Addr) (c : Nat), F = x :: (Value.slice a L.length c).ownBlock.toList ∧ (Value.slice a L.length c).ownBlock ≠ some x ∧ cap ≤ 4096 ∧ L.length ≤ cap ∧ Sl w 3 1 (.slice a L.length c) L.length (L.map (Value.int .i64)) ∧
    w.heap[x]? = some (.cells #[.slice a L.length c, .int .i64 cap] 38 (0, 0))
theorem Ref5.fr {w w' : World} {x cap : Nat} {F G : List Nat} {L : List Int} (h : Ref5 w x F cap L) (k : Fr G w w') (hd : Dis F G) : Ref5 w' x F cap L := by
  obtain ⟨a, c, rfl, h1, h2, h3, h4, h5⟩ := h
  exact ⟨a, c, rfl, h1, h2, h3, h4.fr k (fun b hb => hd b (by simp at hb ⊢; exact .inr hb)), k.get h5 (hd x (by simp))⟩
theorem Ref5.lt {w : World} {x cap : Nat} {F : List Nat} {L : List Int} (h : Ref5 w x F cap L) : Lt F w := by
  obtain ⟨a, c, rfl, h1, h2, h3, h4, h5⟩ := h
  intro b hb
  rcases List.mem_cons.1 hb with rfl | hb
  · exact lt_of_block h5
  · exact Sl.lt h4 b hb
/-- The row's slice is another one now. -/
theorem Ref5.store {w w1 : World} {x cap n : Nat} {L : List Int} {a : Option Addr} {c n' c' : Nat} {F : List Nat} {a' : Option Addr} (hx : w.heap[x]? = some (.cells #[.slice a n c, .int .i64 cap] 38 (0, 0)))
    (hF : F = x :: (Value.slice a n c).ownBlock.toList) (hne : (Value.slice a n c).ownBlock ≠ some x) (hc : cap ≤ 4096) (hn : L.length ≤ cap) (hk : Fr (Value.slice a n c).ownBlock.toList w w1)
    (hs : Sl w1 3 1 (.slice a' n' c') n' (L.map (Value.int .i64))) (hat : ∀ b, (Value.slice a' n' c').ownBlock = some b → (Value.slice a n c).ownBlock = some b ∨ w.heap.size ≤ b) :
    ∃ F', Ref5 (w1.setCell ⟨x, 0, none⟩ (.slice a' n' c')) x F' cap L ∧ Sub F' F w ∧ Fr F w (w1.setCell ⟨x, 0, none⟩ (.slice a' n' c')) := by
  subst hF
  have hn' : n' = L.length := by simpa using hs.1.symm
  subst hn'
  have hx1 := hk.get hx (by simpa using hne)
  have hlx := lt_of_block hx
  have hne' : (Value.slice a' L.length c').ownBlock ≠ some x := by
    intro he
    rcases hat x he with h | h
    · exact hne h
    · omega
  refine ⟨_, ⟨a', c', rfl, hne', hc, hn, hs.fr ((Fr.refl [x] w1).setCell (p := ⟨x, 0, none⟩) (by simp) _) (fun b hb => ?_), ?_⟩, ?_, ?_⟩
  · intro h
    simp at h hb
    exact hne' (by rw [hb, h])
  · rw [block_set_same hx1]; simp
  · intro b hb
    rcases List.mem_cons.1 hb with rfl | hb
    · left; simp
    · rcases hat b (by simpa using hb) with h | h
      · left; simp [h]
      · exact .inr h
  · exact (hk.mono (fun y hy _ => by simp at hy ⊢; exact .inr hy)).setCell (by simp) _

theorem new5 (room : Int) (w : World) : Calls Try.prog 17 #[.int .i64 room] w fun e w' => e = .returned (.pointer (some ⟨w.heap.size, 0, none⟩)) ∧ Ref5 w' w.heap.size [w.heap.size] (clRoom room) [] ∧ Fr [] w w' := by
  have fin : ∀ c : Int, c = (clRoom room : Int) → Ref5 (w.alloc (.cells #[.slice none 0 0, .int .i64 c] 38)) w.heap.size [w.heap.size] (clRoom room) [] := by
    intro c hc
    subst hc
    exact ⟨none, 0, rfl, by simp [Value.ownBlock], by unfold clRoom; omega, by simp, Sl.nil _ _ _, block_alloc_new _ _⟩
  have H := Lib.hid fin
  clear fin
  rcases Int.lt_or_le room 0 with h | h <;> rcases Int.lt_or_le 4096 room with h' | h'
  · omega
  · have hc : (0 : Int) = (clRoom room : Int) := by unfold clRoom; omega
    have HC := Lib.hid hc
    clear hc
    go_enter Try.func17, Try.ntmps17
    go_wp2
    go_ret
    exact ⟨rfl, H.out _ HC.out, (Fr.refl _ _).alloc _⟩
  · have hc : (4096 : Int) = (clRoom room : Int) := by unfold clRoom; omega
    have HC := Lib.hid hc
    clear hc
    go_enter Try.func17, Try.ntmps17
    go_wp2
    go_ret
    exact ⟨rfl, H.out _ HC.out, (Fr.refl _ _).alloc _⟩
  · have hc : room = (clRoom room : Int) := by unfold clRoom; omega
    have HC := Lib.hid hc
    clear hc
    go_enter Try.func17, Try.ntmps17
    go_wp2
    go_ret
    exact ⟨rfl, H.out _ HC.out, (Fr.refl _ _).alloc _⟩

theorem at5_c (x : Nat) (a : Option Addr) (n c : Nat) (i : Int) (w : World) (c0 : w.cell? ⟨x, 0, none⟩ = some (.slice a n c)) (hi : i < 0 ∨ (n : Int) ≤ i) :
  Calls Try.prog 23 #[.pointer (some ⟨x, 0, none⟩), .int .i64 i] w fun e w' => e = .returned (.tuple #[.int .i64 0, .bool false]) ∧ w = w' := by
  by_cases h : i < 0
  · have b1 : decide (i < 0) = true := by simpa using h
    go_enter Try.func23, Try.ntmps23
    go_wp2
    go_ret2
    exact ⟨rfl, rfl⟩
  · have b1 : decide (i < 0) = false := by simpa using h
    have b2 : decide ((n : Int) ≤ i) = true := by simp; omega
    go_enter Try.func23, Try.ntmps23
    go_wp2
    go_ret2
    exact ⟨rfl, rfl⟩
theorem at5_in (x g off : Nat) (n c i : Nat) (y : Int) (w : World) (c0 : w.cell? ⟨x, 0, none⟩ = some (.slice (some ⟨g, off, none⟩) n c)) (hi : i < n) (hg : w.cell? ⟨g, off + i, none⟩ = some (.int .i64 y)) :
  Calls Try.prog 23 #[.pointer (some ⟨x, 0, none⟩), .int .i64 i] w fun e w' => e = .returned (.tuple #[.int .i64 y, .bool true]) ∧ w = w' := by
  have b1 : decide ((i : Int) < 0) = false := by simp
  have b2 : decide (n ≤ i) = false := by simp; omega
  go_enter Try.func23, Try.ntmps23
  go_wp2
  go_ret2
  exact ⟨rfl, rfl⟩
theorem at5 (x cap : Nat) (F : List Nat) (L : List Int) (i : Int) (w : World) (h : Ref5 w x F cap L) :
  Calls Try.prog 23 #[.pointer (some ⟨x, 0, none⟩), .int .i64 i] w fun e w' => e = .returned (.tuple #[.int .i64 (atV 0 L i), .bool (atB L i)]) ∧ w = w' := by
  obtain ⟨a, c, rfl, h1, h2, h3, h4, h5⟩ := h
  have c0 := cell_of_block h5 0
  simp at c0
  by_cases hn : i < 0 ∨ (L.length : Int) ≤ i
  · refine (at5_c x _ _ _ i w c0 hn).mono ?_
    rintro e w' ⟨rfl, rfl⟩
    refine ⟨?_, rfl⟩
    have e2 : atB L i = false := by simp [atB]; omega
    have e1 : atV 0 L i = 0 := by
      unfold atV
      split
      · rfl
      · simp [List.getD, List.getElem?_eq_none (show L.length ≤ i.toNat by omega)]
    rw [e1, e2]
  · obtain ⟨j, rfl⟩ := Int.eq_ofNat_of_zero_le (show 0 ≤ i by omega)
    have hj : j < L.length := by omega
    obtain ⟨g, off, c', hv, _⟩ := h4.pos (by omega)
    simp at hv
    obtain ⟨rfl, rfl⟩ := hv
    have cg : w.cell? ⟨g, off + j, none⟩ = some (.int .i64 L[j]) := h4.cell (by simp [hj])
    refine (at5_in x g off _ _ j _ w c0 hj cg).mono ?_
    rintro e w' ⟨rfl, rfl⟩
    refine ⟨?_, rfl⟩
    have e2 : atB L (j : Int) = true := by simp [atB]; omega
    have e1 : atV 0 L (j : Int) = L[j] := by simp [atV, hj]; omega
    rw [e1, e2]

theorem push5_full (x cap n c : Nat) (a : Option Addr) (y : Int) (w : World) (c0 : w.cell? ⟨x, 0, none⟩ = some (.slice a n c)) (c1 : w.cell? ⟨x, 1, none⟩ = some (.int .i64 cap)) (hn : cap ≤ n) :
  Calls Try.prog 21 #[.pointer (some ⟨x, 0, none⟩), .int .i64 y] w fun e w' => e = .returned (.bool false) ∧ ∃ q, w' = w.drewN q := by
  have b : decide (cap ≤ n) = true := by simp; omega
  go_enter Try.func21, Try.ntmps21
  go_wp2
  go_quiet (fail)
  go_wp2
  go_ret
  exact ⟨rfl, _, rfl⟩

theorem push5_room (x cap : Nat) (F : List Nat) (L : List Int) (y : Int) (w : World) (h : Ref5 w x F cap L) (hn : L.length < cap) :
  Calls Try.prog 21 #[.pointer (some ⟨x, 0, none⟩), .int .i64 y] w fun e w' => e = .returned (.bool true) ∧ ∃ F', Ref5 w' x F' cap (L ++ [y]) ∧ Sub F' F w ∧ Fr F w w' := by
  obtain ⟨i0, hi, hz0, hz1, hz2⟩ := info_parts infoI
  obtain ⟨a, c, hF, hne, hc, hn2, hs, hx⟩ := h
  have c0 := cell_of_block hx 0
  have c1 := cell_of_block hx 1
  simp at c0 c1
  have hxl := lt_of_block hx
  have b : decide (cap ≤ L.length) = false := by simp; omega
  have HF := Lib.hid hF
  clear hF
  go_enter Try.func21, Try.ntmps21
  go_wp2
  go_quiet (fail)
  go_wp2_with (at_builtin; refine wpList_app rfl _ _ _ _ rfl Try.underlying27 hi hz0 hz1 hz2 rfl (.slice a L.length c) _ L.length 1 _ [.int .i64 y] rfl rfl ?hsl (oneI L) ?src ?c3 ?c4 _ rfl ?_)
  case hsl => exact hs.fr (((Fr.refl [] _).drewN nq).alloc _) (fun b _ => by simp)
  case src => exact Src.ofSlice _ Try.underlying27 ⟨w.heap.size, 0, none⟩ 1 1 [.int .i64 y] rfl (cell_one_new _ _ _) (by simp [Value.oneCell'])
  case c3 => unfold maxLen; omega
  case c4 => omega
  intro b cp w1 hown1 hfr1 hat
  have hgr : Fr (Value.slice a L.length c).ownBlock.toList w w1 := (((Fr.refl _ w).drewN nq).alloc (.cells #[.int .i64 y] 3)).same hfr1
  have d0 := hgr.get hx (by simpa using hne)
  have e0 := cell_of_block d0 0
  have g0 := free_of_block d0 0
  simp at e0
  have hown2 : Sl w1 3 1 (.slice b (L.length + 1) cp) (L.length + 1) ((L ++ [y]).map (Value.int .i64)) := by simpa using hown1
  have fin := Ref5.store (L := L ++ [y]) hx HF.out hne hc (by simp; omega) hgr hown2 (fun b' hb' => by
    rcases hat with h | h
    · left; rw [← h]; exact hb'
    · right
      rw [h] at hb'
      simp at hb'
      omega)
  have FIN := Lib.hid fin
  clear c0 c1 hat fin hown1 hown2
  go_wp2
  go_ret
  exact ⟨rfl, FIN.out⟩

theorem push5 (x cap : Nat) (F : List Nat) (L : List Int) (y : Int) (w : World) (h : Ref5 w x F cap L) :
  Calls Try.prog 21 #[.pointer (some ⟨x, 0, none⟩), .int .i64 y] w fun e w' => e = .returned (.bool (pushB cap L)) ∧ ∃ F', Ref5 w' x F' cap (pushL cap L y) ∧ Sub F' F w ∧ Fr F w w' := by
  by_cases hlt : L.length < cap
  · simp only [pushB, pushL, hlt, if_true, decide_true]
    exact push5_room x cap F L y w h hlt
  · simp only [pushB, pushL, hlt, if_false, decide_false]
    have h0 := h
    obtain ⟨a, c, rfl, h1, h2, h3, h4, h5⟩ := h
    have c0 := cell_of_block h5 0
    have c1 := cell_of_block h5 1
    simp at c0 c1
    refine (push5_full x cap _ c a y w c0 c1 (by omega)).mono ?_
    rintro e w' ⟨rfl, q, rfl⟩
    exact ⟨rfl, _, h0.fr ((Fr.refl [] _).drewN q) (fun b _ => by simp), Sub.refl _ _, (Fr.refl _ _).drewN q⟩

theorem pop5_none (x : Nat) (a : Option Addr) (c : Nat) (w : World) (c0 : w.cell? ⟨x, 0, none⟩ = some (.slice a 0 c)) :
  Calls Try.prog 19 #[.pointer (some ⟨x, 0, none⟩)] w fun e w' => e = .returned (.tuple #[.int .i64 0, .bool false]) ∧ w = w' := by
  go_enter Try.func19, Try.ntmps19
  go_wp2
  go_ret2
  exact ⟨rfl, rfl⟩

theorem pop5_in (x cap : Nat) (F : List Nat) (L : List Int) (y : Int) (M : List Int) (w : World) (hL : L = y :: M) (h : Ref5 w x F cap L) :
  Calls Try.prog 19 #[.pointer (some ⟨x, 0, none⟩)] w fun e w' => e = .returned (.tuple #[.int .i64 y, .bool true]) ∧ ∃ F', Ref5 w' x F' cap M ∧ Sub F' F w ∧ Fr F w w' := by
  obtain ⟨i0, hi, hz0, hz1, hz2⟩ := info_parts infoI
  obtain ⟨a, c, hF, hne, hc, hn2, hs, hx⟩ := h
  have hlen : L.length = M.length + 1 := by rw [hL]; rfl
  obtain ⟨g, off, c', hv, hgl⟩ := hs.pos (by omega)
  simp at hv
  obtain ⟨rfl, rfl⟩ := hv
  have c0 := cell_of_block hx 0
  have f0 := free_of_block hx 0
  simp at c0
  have cg : w.cell? ⟨g, off, none⟩ = some (.int .i64 y) := hs.cell (j := 0) (by simp [hL])
  have hxl := lt_of_block hx
  have b0 : ((L.length : Int) == 0) = false := by rw [beq_eq_false_iff_ne]; omega
  have b1 : (0 : Int) < (L.length : Int) := by omega
  have hpc := hs.slice (lo := 1) (hi := L.length) (by omega) (Nat.le_refl _)
  have hrun := fun w' => run_slice_from (P := Try.prog) Try.underlying27 hi (some ⟨g, off, none⟩) L.length c 1 (by omega) w'
  rw [hz1] at hrun
  obtain ⟨a2, ha2⟩ : ∃ a2, (if c = 1 then some (⟨g, off, none⟩ : Addr) else (some ⟨g, off, none⟩ : Option Addr).map (·.add (1 * 1))) = a2 := ⟨_, rfl⟩
  rw [ha2] at hrun hpc
  obtain ⟨n2, hn2'⟩ : ∃ n2, L.length - 1 = n2 := ⟨_, rfl⟩
  rw [hn2'] at hrun hpc
  have hM : ((L.map (Value.int .i64)).drop (1 * 1)).take (n2 * 1) = M.map (Value.int .i64) := by
    rw [hL]
    simp
    rw [List.take_of_length_le]
    simp
    omega
  rw [hM] at hpc
  have hmade := Sl.ofOwn (World.ownsRow_made (base := 0) (e := 3) (size := 1) w #[] 0 (Nat.zero_le _) (Nat.zero_le _) rfl)
  have HF := Lib.hid hF
  have HL := Lib.hid hlen
  have hmm : n2 = M.length := by omega
  have HM := Lib.hid hmm
  have hm2 : n2 ≤ 4096 := by omega
  simp only [Int.ofNat_one, Int.natCast_one] at hrun
  clear hF hlen hL ha2 hM hn2' hmm
  go_enter Try.func19, Try.ntmps19
  go_wp2_with (at_builtin; refine wpList_app rfl _ _ _ _ rfl Try.underlying27 hi hz0 hz1 hz2 rfl (.slice (some ⟨w.heap.size, 0, none⟩) 0 0) (.slice a2 n2 (c - 1)) 0 n2 [] (M.map (Value.int .i64)) rfl rfl ?hsl (by simp) ?src ?c3 ?c4 _ rfl ?_)
  case hsl => exact hmade
  case src => exact (hpc.fr ((Fr.refl [] w).alloc _) (fun b _ => by simp)).src Try.underlying27 (oneI M)
  case c3 => unfold maxLen; omega
  case c4 => omega
  intro b cp w1 hown1 hfr1 hat
  have hgr : Fr (Value.slice (some ⟨g, off, none⟩) L.length c).ownBlock.toList w w1 := ((Fr.refl _ w).alloc (.cells #[] 3)).trans hfr1 (fun _ h _ => h) (fun y hy hl => by simp [Value.ownBlock] at hy; omega)
  have d0 := hgr.get hx (by simpa using hne)
  have e0 := cell_of_block d0 0
  have g0 := free_of_block d0 0
  simp at e0
  have hown2 : Sl w1 3 1 (.slice b n2 cp) n2 (M.map (Value.int .i64)) := by simpa using hown1
  have fin := Ref5.store (L := M) hx HF.out hne hc (by have := HL.out; omega) hgr hown2 (fun b' hb' => by
    right
    rcases hat with h | h
    · rw [h] at hb'; simp [Value.ownBlock] at hb'; omega
    · rw [h] at hb'; simp at hb'; omega)
  have FIN := Lib.hid fin
  clear c0 f0 hat fin hown1 hown2 cg
  go_wp2
  go_ret2
  exact ⟨rfl, FIN.out⟩

theorem pop5 (x cap : Nat) (F : List Nat) (L : List Int) (w : World) (h : Ref5 w x F cap L) :
  Calls Try.prog 19 #[.pointer (some ⟨x, 0, none⟩)] w fun e w' => e = .returned (.tuple #[.int .i64 (popV 0 L), .bool (popB L)]) ∧ ∃ F', Ref5 w' x F' cap (popL L) ∧ Sub F' F w ∧ Fr F w w' := by
  cases hL : L with
  | nil =>
    subst hL
    have h0 := h
    obtain ⟨a, c, rfl, h1, h2, h3, h4, h5⟩ := h
    have c0 := cell_of_block h5 0
    simp at c0
    refine (pop5_none x _ _ w c0).mono ?_
    rintro e w' ⟨rfl, rfl⟩
    exact ⟨by simp [popV, popB], _, h0, Sub.refl _ _, Fr.refl _ _⟩
  | cons y M =>
    rw [← hL]
    refine (pop5_in x cap F L y M w hL h).mono ?_
    rintro e w' ⟨rfl, h⟩
    exact ⟨by simp [popV, popB, hL], by simpa [popL, hL] using h⟩
end Go.Proofs.Ytapfkpkomdmibaa
