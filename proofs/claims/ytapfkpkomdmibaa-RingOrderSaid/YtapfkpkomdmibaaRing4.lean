/- The walks over package ring: All. -/
import Derived.Test.YtapfkpkomdmibaaRing3
set_option linter.unusedVariables false
set_option linter.unusedSimpArgs false
namespace Go.Proofs.Ytapfkpkomdmibaa
open Go.RowKit
attribute [local go_sem ↓] Go.wp_at_zero Go.wp_at_succ

theorem allI_nil (w : World) : Calls Try.prog 25 #[.pointer none] w (OwnRet w 3 1 0 []) := by
  go_enter Try.func25, Try.ntmps25
  go_wp2_with (first | (go_at_call 26; refine (lenI_nil _).mono ?_; rintro e w' ⟨rfl, rfl⟩))
  go_loop [3, 7] (fun v i => v = .slice none 0 0 ∧ i = .int .i64 0) (fun _ _ => 0)
  case atStart => exact ⟨rfl, rfl⟩
  case round =>
    obtain ⟨rfl, rfl⟩ := hrel
    go_wp2
    go_ret
    exact ⟨_, rfl, World.ownsRow_nil _ _ _ _, Fr.refl _ _⟩
set_option maxHeartbeats 400000 in
theorem allI (p cap : Nat) (F : List Nat) (L : List Int) (w : World) (h : RingI w p F cap L) :
  Calls Try.prog 25 #[.pointer (some ⟨p, 0, none⟩)] w (OwnRet w 3 1 L.length (L.map (Value.int .i64))) := by
  obtain ⟨i0, hi, hz0, hz1, hz2⟩ := info_parts infoI
  obtain ⟨a, f, l, rfl, h1, h2, h3, h4, h5, h6⟩ := h
  have c0 := cell_of_block h5 0
  have c1 := cell_of_block h5 1
  have c2 := cell_of_block h5 2
  have hll := h4.1
  simp at c0 c1 c2
  have hce : ∀ k (hk : k < L.length), w.cell? ⟨a, (f + k) % l.length, none⟩ = some (Value.int .i64 L[k]) := by
    intro k hk
    have hx := h4.2.2 k hk
    have hm : (f + k) % l.length < l.length := Nat.mod_lt _ (by omega)
    have ca := cell_of_block h6 ((f + k) % l.length)
    simp [hm] at ca
    rw [List.getElem?_eq_getElem hm, List.getElem?_eq_getElem hk] at hx
    rw [ca, Option.some.inj hx]
  have HC := Lib.hid hce
  have hf : L.length = 0 ∨ f < l.length := by have := h4.2.1; omega
  have hml : l.length ≤ 4096 := by omega
  clear hce h2 h3 h4 h5 h6
  go_enter Try.func25, Try.ntmps25
  go_wp2_with (first | (go_at_call 26; refine (lenI_c p _ _ c2).mono ?_; rintro e w' ⟨rfl, rfl⟩))
  go_loopw [3, 7] (fun v i wr => ∃ k : Nat, k ≤ L.length ∧ i = .int .i64 k ∧ wr.ownsRow w.heap.size 3 1 v k ((L.take k).map (Value.int .i64)) ∧ Fr [] w wr) (fun _ i _ => L.length - (intOf i).toNat)
  case atStart => exact ⟨0, Nat.zero_le _, rfl, World.ownsRow_nil _ _ _ _, Fr.refl _ _⟩
  case round =>
    obtain ⟨k, hk, rfl, hown, hfr⟩ := hrel
    by_cases hlt : k < L.length
    · have d0 := cell_fr hfr c0 (by simp)
      have d1 := cell_fr hfr c1 (by simp)
      have d2 := cell_fr hfr (HC.out k hlt) (by simp)
      obtain ⟨x, hx⟩ : ∃ x, L[k] = x := ⟨_, rfl⟩
      obtain ⟨m, hm⟩ : ∃ m, (f + k) % l.length = m := ⟨_, rfl⟩
      have hml : m < l.length := hm ▸ Nat.mod_lt _ (by omega)
      rw [hx, hm] at d2
      have HX := Lib.hid hx
      have HM := Lib.hid hm
      have lp := World.block_lt_of_cell? w _ c0
      have la := World.block_lt_of_cell? w _ (HC.out k hlt)
      have hnp := ownNe hown lp
      have hna := ownNe hown la
      have hsz := hfr.size
      have hk1 : (0 : Int) ≤ (m : Int) := by omega
      have hk2 : (m : Int) < (l.length : Int) := by omega
      have ks : IntKind.i64.wrap ((k : Int) + 1) = (k : Int) + 1 := IntWalk.i64_in _ (by omega)
      have fin : (L.take (k + 1)).map (Value.int .i64) = (L.take k).map (Value.int .i64) ++ [Value.int .i64 x] := by
        rw [List.take_succ_eq_append_getElem hlt, List.map_append, HX.out]; rfl
      have FIN := Lib.hid fin
      clear c0 c1 c2 hx hm fin
      go_wp2_with fail
      go_region_held3 (fun w' => w'.cell? ⟨p, 0, none⟩ = some (.slice (some ⟨a, 0, none⟩) l.length l.length) ∧ w'.cell? ⟨p, 1, none⟩ = some (.int .i64 f) ∧ w'.cell? ⟨a, m, none⟩ = some (Value.int .i64 x))
        (first
          | go_keep
          | (go_split_ands
             refine ⟨?_, ?_, ?_⟩
             · exact hgrow.cell (by assumption) hnp
             · exact hgrow.cell (by assumption) hnp
             · exact hgrow.cell (by assumption) hna))
        (first
          | (go_at_call 47; refine (placeI_c p _ _ _ _ _ m _ (by assumption) (by assumption) (by omega) (by omega) (by omega) HM.out).mono ?_; rintro e w' ⟨rfl, q, rfl⟩)
          | (refine step_append_lies _ (by rfl) _ _ _ (by rfl) w.heap.size 3 i0 (Value.int .i64 (0 : Int)) 1 8 Try.underlying27 hi hz0 hz1 hz2 rfl (by omega) u3 k ((L.take k).map (Value.int .i64)) (by rfl) (by exact hown.alloc _)
              ⟨wr.heap.size, 0, none⟩ 1 1 [Value.int .i64 x] (by rfl) (by rfl) (by exact cell_one_new _ _ _) (by simp [Value.oneCell']) (by omega) (by unfold maxLen; omega) (by omega) (by simp; omega) (wr.heap.size + 1) (by simp) ?_; intro g cap w1 hown1 hgrow hat hlt1))
      go_wp2
      refine ⟨⟨k + 1, by omega, by go_num, by rw [FIN.out]; exact hown1, ?_⟩, by simp [intOf]; omega⟩
      exact ((hfr.drewN _).alloc _).grownOwn hgrow hown
    · have : k = L.length := by omega
      subst this
      rw [List.take_length] at hown
      go_wp2
      go_ret
      exact ⟨_, rfl, hown, hfr⟩
end Go.Proofs.Ytapfkpkomdmibaa
