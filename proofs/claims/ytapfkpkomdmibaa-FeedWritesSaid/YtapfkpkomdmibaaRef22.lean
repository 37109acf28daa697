/- The walks over hoardref22, and hoardlaw22's events. -/
import Derived.Test.YtapfkpkomdmibaaFeed4
import Derived.Laws.StructEq
set_option linter.unusedVariables false
set_option linter.unusedSimpArgs false
namespace Go.Proofs.Ytapfkpkomdmibaa
open Go.RowKit
attribute [local go_sem ↓] Go.wp_at_zero Go.wp_at_succ

/-- The document's feed at x. -/
def Ref22 (w : World) (x : Nat) (F : List Nat) (cap1 cap2 : Nat) (E : List (Int × ByteArray)) (lost : Nat) : Prop :=
  ∃ (a : Option Addr) (c : Nat), F = x :: (Value.slice a E.length c).ownBlock.toList ∧ (Value.slice a E.length c).ownBlock ≠ some x ∧ Sl w 58 2 (.slice a E.length c) E.length (encEs E) ∧
    w.heap[x]? = some (.cells #[.slice a E.length c, .int .i64 (nR E), .int .i64 (nW E), .int .i64 cap1, .int .i64 cap2, .int .i64 lost] 68 (0, 0))
theorem Ref22.fr {w w' : World} {x cap1 cap2 lost : Nat} {F G : List Nat} {E : List (Int × ByteArray)} (h : Ref22 w x F cap1 cap2 E lost) (k : Fr G w w') (hd : Dis F G) : Ref22 w' x F cap1 cap2 E lost := by
  obtain ⟨a, c, rfl, h1, h4, h5⟩ := h
  exact ⟨a, c, rfl, h1, h4.fr k (fun b hb => hd b (by simp at hb ⊢; exact .inr hb)), k.get h5 (hd x (by simp))⟩
theorem Ref22.lt {w : World} {x cap1 cap2 lost : Nat} {F : List Nat} {E : List (Int × ByteArray)} (h : Ref22 w x F cap1 cap2 E lost) : Lt F w := by
  obtain ⟨a, c, rfl, h1, h4, h5⟩ := h
  intro b hb
  rcases List.mem_cons.1 hb with rfl | hb
  · exact lt_of_block h5
  · exact Sl.lt h4 b hb

theorem new22_bad (r wr : Int) (w : World) (h : ¬ (0 ≤ r ∧ r ≤ 256 ∧ 1 ≤ wr ∧ wr ≤ 256)) : Calls Try.prog 41 #[.int .i64 r, .int .i64 wr] w fun e w' => e = .returned (.tuple #[.pointer none, .int .i64 1]) ∧ w = w' := by
  go_enter Try.func41, Try.ntmps41
  go_wp2
  all_goals
    go_ret2
    exact ⟨rfl, rfl⟩
theorem new22 (r wr : Nat) (w : World) (h1 : r ≤ 256) (h2 : 1 ≤ wr) (h3 : wr ≤ 256) : Calls Try.prog 41 #[.int .i64 r, .int .i64 wr] w fun e w' => e = .returned (.tuple #[.pointer (some ⟨w.heap.size, 0, none⟩), .int .i64 0]) ∧ Ref22 w' w.heap.size [w.heap.size] r wr [] 0 ∧ Fr [] w w' := by
  go_enter Try.func41, Try.ntmps41
  go_wp2
  go_ret2
  exact ⟨rfl, ⟨none, 0, rfl, by simp [Value.ownBlock], Sl.nil _ _ _, block_alloc_new _ _⟩, (Fr.refl _ _).alloc _⟩

section
variable {w : World} {x cap1 cap2 lost : Nat} {F : List Nat} {E : List (Int × ByteArray)}
/-- An event has come behind the others. -/
theorem Ref22.pushed {w1 w2 : World} {a b : Option Addr} {c cp : Nat} (kd : Int) (key : ByteArray) (hF : F = x :: (Value.slice a E.length c).ownBlock.toList) (hne : (Value.slice a E.length c).ownBlock ≠ some x) (hxl : x < w.heap.size)
    (hk : Fr (x :: (Value.slice a E.length c).ownBlock.toList) w w1) (hs : Sl w1 58 2 (.slice b (E.length + 1) cp) (E.length + 1) (encEs (E ++ [(kd, key)])))
    (hat : ∀ g, (Value.slice b (E.length + 1) cp).ownBlock = some g → (Value.slice a E.length c).ownBlock = some g ∨ w.heap.size ≤ g)
    (hw2 : Fr [x] w1 w2) (hx : w2.heap[x]? = some (.cells #[.slice b (E.length + 1) cp, .int .i64 (nR (E ++ [(kd, key)])), .int .i64 (nW (E ++ [(kd, key)])), .int .i64 cap1, .int .i64 cap2, .int .i64 lost] 68 (0, 0))) :
    ∃ F', Ref22 w2 x F' cap1 cap2 (E ++ [(kd, key)]) lost ∧ Sub F' F w ∧ Fr F w w2 := by
  subst hF
  have hl : (E ++ [(kd, key)]).length = E.length + 1 := by simp
  have hne' : (Value.slice b (E.length + 1) cp).ownBlock ≠ some x := by
    intro he
    rcases hat x he with h | h
    · exact hne h
    · omega
  refine ⟨_, ⟨b, cp, rfl, ?_, ?_, ?_⟩, ?_, ?_⟩
  · rw [hl]; exact hne'
  · rw [hl]
    exact hs.fr hw2 (fun g hg h => by simp at h hg; exact hne' (by rw [hg, h]))
  · rw [hl]; exact hx
  · rw [hl]
    intro g hg
    rcases List.mem_cons.1 hg with rfl | hg
    · left; simp
    · rcases hat g (by simpa using hg) with h | h
      · left; simp [h]
      · exact .inr h
  · exact hk.same (hw2.mono (fun g hg _ => by simp at hg; simp [hg]))

theorem nR_snoc (E : List (Int × ByteArray)) (e : Int × ByteArray) : nR (E ++ [e]) = if e.1 = 1 then nR E + 1 else nR E := by
  unfold nR; rw [List.filter_append, List.length_append]; by_cases h : e.1 = 1 <;> simp [List.filter_cons, h]
theorem nW_snoc (E : List (Int × ByteArray)) (e : Int × ByteArray) : nW (E ++ [e]) = if e.1 = 1 then nW E else nW E + 1 := by
  unfold nW; rw [List.filter_append, List.length_append]; by_cases h : e.1 = 1 <;> simp [List.filter_cons, h]

theorem read22_full (h : Ref22 w x F cap1 cap2 E lost) (hl : lost ≤ 1000000000) (hlt : ¬ nR E < cap1) (key : ByteArray) :
    Calls Try.prog 42 #[.pointer (some ⟨x, 0, none⟩), .string key] w fun e w' => e = .returned (.bool false) ∧ Ref22 w' x F cap1 cap2 E (lost + 1) ∧ Fr F w w' := by
  obtain ⟨a, c, hF, hne, hs, hx⟩ := h
  have k := cell_of_block hx
  have k1 : w.cell? ⟨x, 1, none⟩ = some (.int .i64 (nR E)) := by rw [k]; rfl
  have k3 : w.cell? ⟨x, 3, none⟩ = some (.int .i64 cap1) := by rw [k]; rfl
  have k5 : w.cell? ⟨x, 5, none⟩ = some (.int .i64 lost) := by rw [k]; rfl
  have f5 := free_of_block hx 5
  have b : decide (cap1 ≤ nR E) = true := by simp; omega
  have fin : ∀ q, Ref22 ((w.drewN q).setCell ⟨x, 5, none⟩ (.int .i64 ((lost : Int) + 1))) x F cap1 cap2 E (lost + 1) ∧ Fr F w ((w.drewN q).setCell ⟨x, 5, none⟩ (.int .i64 ((lost : Int) + 1))) := by
    intro q
    refine ⟨⟨a, c, hF, hne, hs.fr (((Fr.refl [x] w).drewN q).setCell (by simp) _) (fun g hg h => by simp at h hg; exact hne (by rw [hg, h])), ?_⟩, ((Fr.refl F w).drewN q).setCell (by simp [hF]) _⟩
    rw [block_set_same (block_drewN hx)]
    simp
  have FIN := Lib.hid fin
  clear k hs hF hne fin
  go_enter Try.func42, Try.ntmps42
  go_wp2
  go_quiet (fail)
  go_wp2
  go_ret
  exact ⟨rfl, (FIN.out _).1, (FIN.out _).2⟩

theorem read22_room (h : Ref22 w x F cap1 cap2 E lost) (hE : E.length ≤ 1000000) (hlt : nR E < cap1) (key : ByteArray) :
    Calls Try.prog 42 #[.pointer (some ⟨x, 0, none⟩), .string key] w fun e w' => e = .returned (.bool true) ∧ ∃ F', Ref22 w' x F' cap1 cap2 (E ++ [(1, key)]) lost ∧ Sub F' F w ∧ Fr F w w' := by
  obtain ⟨i0, hi, hz0, hz1, hz2⟩ := info_parts infoE
  obtain ⟨a, c, hF, hne, hs, hx⟩ := h
  have k := cell_of_block hx
  have k0 : w.cell? ⟨x, 0, none⟩ = some (.slice a E.length c) := by rw [k]; rfl
  have k1 : w.cell? ⟨x, 1, none⟩ = some (.int .i64 (nR E)) := by rw [k]; rfl
  have k3 : w.cell? ⟨x, 3, none⟩ = some (.int .i64 cap1) := by rw [k]; rfl
  have f1 := free_of_block hx 1
  have hxl := lt_of_block hx
  have b : decide (cap1 ≤ nR E) = false := by simp; omega
  have hnr : nR E ≤ 1000000 := by have := nRW E; omega
  obtain ⟨r, hr⟩ : ∃ r, nR E = r := ⟨_, rfl⟩
  have HF := Lib.hid hF
  rw [hr] at k1 b hnr
  have HR := Lib.hid hr
  have hlr : r < cap1 := by omega
  clear k hF hr hlt
  go_enter Try.func42, Try.ntmps42
  go_wp2
  go_quiet (fail)
  go_wp2_with (at_builtin; refine wpList_app rfl _ _ _ _ rfl Try.underlying54 hi hz0 hz1 hz2 rfl (.slice a E.length c) _ E.length 1 _ [.int .i64 1, .string key] rfl rfl ?hsl (oneE E) ?src ?c3 ?c4 _ rfl ?_)
  case hsl => exact hs.fr ((((Fr.refl [x] w).drewN nq).setCell (p := ⟨x, 1, none⟩) (by simp) _).alloc _) (fun g hg h => by simp at h hg; exact hne (by rw [hg, h]))
  case src => exact Src.built Try.underlying54 _ [.int .i64 1, .string key] _ _ (by simp) rfl (by simp [Value.oneCell'])
  case c3 => unfold maxLen; omega
  case c4 => omega
  intro b' cp w1 hown1 hfr1 hat
  have hf0 : Fr [x] w (((w.drewN nq).setCell ⟨x, 1, none⟩ (.int .i64 ((r : Int) + 1))).alloc (.cells #[.int .i64 1, .string key] 58)) := (((Fr.refl [x] w).drewN nq).setCell (by simp) _).alloc _
  have d00 : (((w.drewN nq).setCell ⟨x, 1, none⟩ (.int .i64 ((r : Int) + 1))).alloc (.cells #[.int .i64 1, .string key] 58)).heap[x]? = some (.cells #[.slice a E.length c, .int .i64 ((r : Int) + 1), .int .i64 (nW E), .int .i64 cap1, .int .i64 cap2, .int .i64 lost] 68 (0, 0)) := by
    refine block_alloc_old ?_ _
    rw [block_set_same (block_drewN hx)]
    simp
  have d0 := hfr1.get d00 (by simpa using hne)
  have e0 := cell_of_block d0 0
  have g0 := free_of_block d0 0
  simp at e0
  have hk : Fr (x :: (Value.slice a E.length c).ownBlock.toList) w w1 := (hf0.mono (fun g hg _ => by simp at hg; simp [hg])).same (hfr1.mono (fun g hg _ => List.mem_cons_of_mem _ hg))
  have hs1 : Sl w1 58 2 (.slice b' (E.length + 1) cp) (E.length + 1) (encEs (E ++ [(1, key)])) := by rw [encEs_snoc]; exact hown1
  have fin := Ref22.pushed (w2 := w1.setCell ⟨x, 0, none⟩ (.slice b' (E.length + 1) cp)) (cap1 := cap1) (cap2 := cap2) (lost := lost) 1 key HF.out hne hxl hk hs1 (fun g hg => by
    rcases hat with h | h
    · left; rw [← h]; exact hg
    · right; rw [h] at hg; simp at hg; omega) ((Fr.refl _ _).setCell (by simp) _) (by
    rw [block_set_same d0, nR_snoc, nW_snoc, HR.out]; simp)
  have FIN := Lib.hid fin
  clear k0 k1 k3 f1 hat fin hown1 hs1 d00 hf0 hk hx hs
  go_wp2
  go_ret
  exact ⟨rfl, FIN.out⟩
theorem write22_room (h : Ref22 w x F cap1 cap2 E lost) (hE : E.length ≤ 1000000) (hlt : nW E < cap2) (kd : Int) (hkd : kd = 2 ∨ kd = 3) (key : ByteArray) :
    Calls Try.prog 43 #[.pointer (some ⟨x, 0, none⟩), .int .i64 kd, .string key] w fun e w' => e = .returned (.bool true) ∧ ∃ F', Ref22 w' x F' cap1 cap2 (E ++ [(kd, key)]) lost ∧ Sub F' F w ∧ Fr F w w' := by
  obtain ⟨i0, hi, hz0, hz1, hz2⟩ := info_parts infoE
  obtain ⟨a, c, hF, hne, hs, hx⟩ := h
  have k := cell_of_block hx
  have k0 : w.cell? ⟨x, 0, none⟩ = some (.slice a E.length c) := by rw [k]; rfl
  have k1 : w.cell? ⟨x, 2, none⟩ = some (.int .i64 (nW E)) := by rw [k]; rfl
  have k3 : w.cell? ⟨x, 4, none⟩ = some (.int .i64 cap2) := by rw [k]; rfl
  have f1 := free_of_block hx 2
  have hxl := lt_of_block hx
  have b : decide (cap2 ≤ nW E) = false := by simp; omega
  have hnr : nW E ≤ 1000000 := by have := nRW E; omega
  obtain ⟨r, hr⟩ : ∃ r, nW E = r := ⟨_, rfl⟩
  have HF := Lib.hid hF
  rw [hr] at k1 b hnr
  have HR := Lib.hid hr
  have hlr : r < cap2 := by omega
  have hk1 : kd ≠ 1 := by omega
  have HK := Lib.hid hk1
  have hb3 : (kd != 2) = false ∨ ((kd != 2) = true ∧ (kd != 3) = false) := by rcases hkd with rfl | rfl <;> simp
  clear k hF hr hlt hk1 hkd
  rcases hb3 with b2 | ⟨b2, b3⟩
  all_goals
    go_enter Try.func43, Try.ntmps43
    go_wp2
    go_quiet (fail)
    go_wp2_with (at_builtin; refine wpList_app rfl _ _ _ _ rfl Try.underlying54 hi hz0 hz1 hz2 rfl (.slice a E.length c) _ E.length 1 _ [.int .i64 kd, .string key] rfl rfl ?hsl (oneE E) ?src ?c3 ?c4 _ rfl ?_)
    case hsl => exact hs.fr ((((Fr.refl [x] w).drewN nq).setCell (p := ⟨x, 2, none⟩) (by simp) _).alloc _) (fun g hg h => by simp at h hg; exact hne (by rw [hg, h]))
    case src => exact Src.built Try.underlying54 _ [.int .i64 kd, .string key] _ _ (by simp) rfl (by simp [Value.oneCell'])
    case c3 => unfold maxLen; omega
    case c4 => omega
    intro b' cp w1 hown1 hfr1 hat
    have hf0 : Fr [x] w (((w.drewN nq).setCell ⟨x, 2, none⟩ (.int .i64 ((r : Int) + 1))).alloc (.cells #[.int .i64 kd, .string key] 58)) := (((Fr.refl [x] w).drewN nq).setCell (by simp) _).alloc _
    have d00 : (((w.drewN nq).setCell ⟨x, 2, none⟩ (.int .i64 ((r : Int) + 1))).alloc (.cells #[.int .i64 kd, .string key] 58)).heap[x]? = some (.cells #[.slice a E.length c, .int .i64 (nR E), .int .i64 ((r : Int) + 1), .int .i64 cap1, .int .i64 cap2, .int .i64 lost] 68 (0, 0)) := by
      refine block_alloc_old ?_ _
      rw [block_set_same (block_drewN hx)]
      simp
    have d0 := hfr1.get d00 (by simpa using hne)
    have e0 := cell_of_block d0 0
    have g0 := free_of_block d0 0
    simp at e0
    have hk : Fr (x :: (Value.slice a E.length c).ownBlock.toList) w w1 := (hf0.mono (fun g hg _ => by simp at hg; simp [hg])).same (hfr1.mono (fun g hg _ => List.mem_cons_of_mem _ hg))
    have hs1 : Sl w1 58 2 (.slice b' (E.length + 1) cp) (E.length + 1) (encEs (E ++ [(kd, key)])) := by rw [encEs_snoc]; exact hown1
    have fin := Ref22.pushed (w2 := w1.setCell ⟨x, 0, none⟩ (.slice b' (E.length + 1) cp)) (cap1 := cap1) (cap2 := cap2) (lost := lost) kd key HF.out hne hxl hk hs1 (fun g hg => by
      rcases hat with h | h
      · left; rw [← h]; exact hg
      · right; rw [h] at hg; simp at hg; omega) ((Fr.refl _ _).setCell (by simp) _) (by
      rw [block_set_same d0, nR_snoc, nW_snoc, HR.out, if_neg (by simpa using HK.out), if_neg (by simpa using HK.out)]; simp)
    have FIN := Lib.hid fin
    clear k0 k1 k3 f1 hat fin hown1 hs1 d00 hf0 hk hx hs
    go_wp2
    go_ret
    exact ⟨rfl, FIN.out⟩

theorem write22_no (h : Ref22 w x F cap1 cap2 E lost) (kd : Int) (hb : ¬ ((kd = 2 ∨ kd = 3) ∧ nW E < cap2)) (key : ByteArray) :
    Calls Try.prog 43 #[.pointer (some ⟨x, 0, none⟩), .int .i64 kd, .string key] w fun e w' => e = .returned (.bool false) ∧ Ref22 w' x F cap1 cap2 E lost ∧ Fr F w w' := by
  have h0 := h
  obtain ⟨a, c, hF, hne, hs, hx⟩ := h
  have k := cell_of_block hx
  have k1 : w.cell? ⟨x, 2, none⟩ = some (.int .i64 (nW E)) := by rw [k]; rfl
  have k3 : w.cell? ⟨x, 4, none⟩ = some (.int .i64 cap2) := by rw [k]; rfl
  have fin : ∀ q, Ref22 (w.drewN q) x F cap1 cap2 E lost ∧ Fr F w (w.drewN q) := fun q => ⟨h0.fr ((Fr.refl [] w).drewN q) (fun b _ => by simp), (Fr.refl F w).drewN q⟩
  have FIN := Lib.hid fin
  clear k hs hF hne fin hx h0
  by_cases hk : kd = 2 ∨ kd = 3
  · have b : decide (cap2 ≤ nW E) = true := by simp; omega
    rcases hk with rfl | rfl
    all_goals
      go_enter Try.func43, Try.ntmps43
      go_wp2
      go_quiet (fail)
      go_wp2
      go_ret
      exact ⟨rfl, (FIN.out _).1, (FIN.out _).2⟩
  · have b2 : (kd != 2) = true := by rw [bne_iff_ne]; omega
    have b3 : (kd != 3) = true := by rw [bne_iff_ne]; omega
    go_enter Try.func43, Try.ntmps43
    go_wp2
    go_quiet (fail)
    go_wp2
    go_ret
    exact ⟨rfl, (FIN.out _).1, (FIN.out _).2⟩

theorem read22 (h : Ref22 w x F cap1 cap2 E lost) (hE : E.length ≤ 1000000) (hl : lost ≤ 1000000000) (key : ByteArray) :
    Calls Try.prog 42 #[.pointer (some ⟨x, 0, none⟩), .string key] w fun e w' => e = .returned (.bool (readB cap1 E)) ∧ ∃ F', Ref22 w' x F' cap1 cap2 (readE cap1 E key) (readL cap1 E lost) ∧ Sub F' F w ∧ Fr F w w' := by
  by_cases hlt : nR E < cap1
  · simp only [readB, readE, readL, hlt, if_true, decide_true]
    exact read22_room h hE hlt key
  · simp only [readB, readE, readL, hlt, if_false, decide_false]
    refine (read22_full h hl hlt key).mono ?_
    rintro e w' ⟨rfl, h1, h2⟩
    exact ⟨rfl, F, h1, Sub.refl _ _, h2⟩
theorem write22 (h : Ref22 w x F cap1 cap2 E lost) (hE : E.length ≤ 1000000) (kd : Int) (key : ByteArray) :
    Calls Try.prog 43 #[.pointer (some ⟨x, 0, none⟩), .int .i64 kd, .string key] w fun e w' => e = .returned (.bool (writeB cap2 E kd)) ∧ ∃ F', Ref22 w' x F' cap1 cap2 (writeE cap2 E kd key) lost ∧ Sub F' F w ∧ Fr F w w' := by
  by_cases hlt : (kd = 2 ∨ kd = 3) ∧ nW E < cap2
  · simp only [writeB, writeE, if_pos hlt, decide_eq_true hlt]
    exact write22_room h hE hlt.2 kd hlt.1 key
  · simp only [writeB, writeE, if_neg hlt, decide_eq_false hlt]
    refine (write22_no h kd hlt key).mono ?_
    rintro e w' ⟨rfl, h1, h2⟩
    exact ⟨rfl, F, h1, Sub.refl _ _, h2⟩

theorem drain22 (h : Ref22 w x F cap1 cap2 E lost) :
    Calls Try.prog 44 #[.pointer (some ⟨x, 0, none⟩)] w fun e w' => ∃ v, e = .returned v ∧ Sl w' 58 2 v E.length (encEs E) ∧ Ref22 w' x [x] cap1 cap2 [] lost ∧ x ∈ F ∧ (∀ b, v.ownBlock = some b → b ∈ F ∧ b ≠ x) ∧ Fr [x] w w' := by
  obtain ⟨a, c, hF, hne, hs, hx⟩ := h
  have k := cell_of_block hx
  have k0 : w.cell? ⟨x, 0, none⟩ = some (.slice a E.length c) := by rw [k]; rfl
  have k1 : w.cell? ⟨x, 1, none⟩ = some (.int .i64 (nR E)) := by rw [k]; rfl
  have k2 : w.cell? ⟨x, 2, none⟩ = some (.int .i64 (nW E)) := by rw [k]; rfl
  have f0 := free_of_block hx 0
  have f1 := free_of_block hx 1
  have f2 := free_of_block hx 2
  have hfr := (((Fr.refl [x] w).setCell (p := ⟨x, 0, none⟩) (by simp) (.slice none 0 0)).setCell (p := ⟨x, 1, none⟩) (by simp) (.int .i64 0)).setCell (p := ⟨x, 2, none⟩) (by simp) (.int .i64 0)
  have hb : (((w.setCell ⟨x, 0, none⟩ (.slice none 0 0)).setCell ⟨x, 1, none⟩ (.int .i64 0)).setCell ⟨x, 2, none⟩ (.int .i64 0)).heap[x]? = some (.cells #[.slice none 0 0, .int .i64 0, .int .i64 0, .int .i64 cap1, .int .i64 cap2, .int .i64 lost] 68 (0, 0)) := by
    rw [block_set_same (block_set_same (block_set_same hx _ _) _ _) _ _]
    simp
  have hs' := hs.fr hfr (fun g hg h => by simp at h hg; exact hne (by rw [hg, h]))
  have HA := Lib.hid (And.intro hs' (And.intro hb (And.intro hfr (And.intro hF hne))))
  clear k hs' hb hfr hs hx hF hne
  go_enter Try.func44, Try.ntmps44
  go_wp2
  go_ret
  obtain ⟨a1, a2, a3, a4, a5⟩ := HA.out
  exact ⟨.slice a E.length c, rfl, a1, ⟨none, 0, rfl, by simp [Value.ownBlock], Sl.nil _ _ _, a2⟩, by simp [a4], fun b hb => ⟨by rw [a4]; simp [hb], fun h => a5 (by rw [hb, h])⟩, a3⟩
end

theorem events22 (v1 v2 : Value) (E : List (Int × ByteArray)) (w : World) (h1 : Sl w 58 2 v1 E.length (encEs E)) (h2 : Sl w 58 2 v2 E.length (encEs E)) (hl : E.length ≤ 1000000) :
  Calls Try.prog 39 #[v1, v2] w fun e w' => e = .returned (.bool true) ∧ Fr [] w w' := by
  obtain ⟨a1, c1, rfl⟩ := h1.form
  obtain ⟨a2, c2, rfl⟩ := h2.form
  have hcell : ∀ k (hk : k < E.length), (encEs E)[k * 2]? = some (.int .i64 E[k].1) ∧ (encEs E)[k * 2 + 1]? = some (.string E[k].2) := by
    clear h1 h2 hl
    induction E with
    | nil => intro k hk; simp at hk
    | cons e E ih =>
      intro k hk
      cases k with
      | zero => simp [encEs, encE]
      | succ k =>
        have := ih k (by simpa using hk)
        have e1 : (k + 1) * 2 = k * 2 + 2 := by omega
        rw [e1]
        simpa [encEs, encE] using this
  have HC := Lib.hid hcell
  clear hcell
  go_enter Try.func39, Try.ntmps39
  go_wp2
  go_loopw [5] (fun i wr => ∃ k : Nat, k ≤ E.length ∧ i = .int .i64 k ∧ Fr [] w wr) (fun i _ => E.length - (intOf i).toNat)
  case atStart => exact ⟨0, Nat.zero_le _, rfl, Fr.refl _ _⟩
  case round =>
    obtain ⟨k, hk, rfl, hfr⟩ := hrel
    by_cases hlt : k < E.length
    · obtain ⟨g1, o1, d1, hv1, _⟩ := h1.pos (by omega)
      obtain ⟨g2, o2, d2, hv2, _⟩ := h2.pos (by omega)
      simp at hv1 hv2
      obtain ⟨rfl, rfl⟩ := hv1
      obtain ⟨rfl, rfl⟩ := hv2
      obtain ⟨q1, q2⟩ := HC.out k hlt
      have y1 := cell_fr hfr (h1.cell q1) (by simp)
      have y2 := cell_fr hfr (h1.cell q2) (by simp)
      have y3 := cell_fr hfr (h2.cell q1) (by simp)
      have y4 := cell_fr hfr (h2.cell q2) (by simp)
      obtain ⟨⟨ek, ekey⟩, he⟩ : ∃ x, E[k] = x := ⟨_, rfl⟩
      rw [he] at y1 y2 y3 y4
      simp only at y1 y2 y3 y4
      rw [← Nat.add_assoc] at y2 y4
      clear q1 q2 he
      go_wp2_with fail
      go_quiet (fail)
      go_wp2
      go_outline
      exact ⟨⟨k + 1, by omega, by go_num, hfr.drewN _⟩, by simp [intOf]; omega⟩
    · go_wp2
      go_ret
      exact ⟨rfl, hfr⟩
end Go.Proofs.Ytapfkpkomdmibaa
