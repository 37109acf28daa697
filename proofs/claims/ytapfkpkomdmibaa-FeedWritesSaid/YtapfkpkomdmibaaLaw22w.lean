/- The walk over hoardlaw22.FeedWrites. -/
import Derived.Test.YtapfkpkomdmibaaLaw22
set_option linter.unusedVariables false
set_option linter.unusedSimpArgs false
namespace Go.Proofs.Ytapfkpkomdmibaa
open Go.RowKit
attribute [local go_sem ↓] Go.wp_at_zero Go.wp_at_succ

/-- What was taken (vI), what came out (vO), and the feed between. -/
def W22 (w : World) (p : Nat) (F : List Nat) (r cw : Nat) (E : List (Int × ByteArray)) (n lost : Nat) (vI vO : Value) (O : List (Int × ByteArray)) (nI nO B : Nat) : Prop :=
  FeedAt w p F r cw E n lost ∧ Sl w 58 2 vI nI (encEs (O ++ E)) ∧ Sl w 58 2 vO nO (encEs O) ∧ Dis F vI.ownBlock.toList ∧ Dis F vO.ownBlock.toList ∧ Dis vI.ownBlock.toList vO.ownBlock.toList ∧ Ge B F ∧ Ge B vI.ownBlock.toList ∧ Ge B vO.ownBlock.toList
theorem W22.feed {w w' : World} {p r cw n n' lost lost' nI nO B : Nat} {F : List Nat} {E O : List (Int × ByteArray)} {vI vO : Value} (h : W22 w p F r cw E n lost vI vO O nI nO B) (hf : FeedAt w' p F r cw E n' lost') (k : Fr F w w') : W22 w' p F r cw E n' lost' vI vO O nI nO B := by
  obtain ⟨h1, h2, h3, d1, d2, d3, g1, g2, g3⟩ := h
  exact ⟨hf, h2.fr k d1.symm, h3.fr k d2.symm, d1, d2, d3, g1, g2, g3⟩
theorem W22.fr {w w' : World} {p r cw n lost nI nO B : Nat} {F : List Nat} {E O : List (Int × ByteArray)} {vI vO : Value} (h : W22 w p F r cw E n lost vI vO O nI nO B) (k : Fr [] w w') : W22 w' p F r cw E n lost vI vO O nI nO B := by
  obtain ⟨h1, h2, h3, d1, d2, d3, g1, g2, g3⟩ := h
  exact ⟨h1.fr k (fun b _ => by simp), h2.fr k (fun b _ => by simp), h3.fr k (fun b _ => by simp), d1, d2, d3, g1, g2, g3⟩
/-- An event was taken: the feed holds it, and so does vI. -/
theorem W22.took {w w1 w2 : World} {p r cw n n' lost lost' nI nO B H : Nat} {F : List Nat} {E O : List (Int × ByteArray)} {vI vO vI' : Value} {e : Int × ByteArray} (h : W22 w p F r cw E n lost vI vO O nI nO B) (hB : B ≤ w.heap.size)
    (hf : FeedAt w1 p F r cw (E ++ [e]) n' lost') (k : Fr F w w1) (hs : Sl w2 58 2 vI' (nI + 1) (encEs (O ++ E) ++ [.int .i64 e.1, .string e.2])) (k2 : Fr vI.ownBlock.toList w1 w2)
    (hat : vI'.ownBlock = vI.ownBlock ∨ vI'.ownBlock = some H) (hH : w1.heap.size ≤ H) : W22 w2 p F r cw (E ++ [e]) n' lost' vI' vO O (nI + 1) nO B ∧ Fr (F ++ vI.ownBlock.toList) w w2 := by
  obtain ⟨h1, h2, h3, d1, d2, d3, g1, g2, g3⟩ := h
  have hsz := k.size
  have hsub : Sub vI'.ownBlock.toList vI.ownBlock.toList w1 := by
    intro b hb
    rcases hat with e | e
    · rw [e] at hb; exact .inl hb
    · rw [e] at hb; simp at hb; subst hb; exact .inr hH
  refine ⟨⟨hf.fr k2 d1, ?_, (h3.fr k d2.symm).fr k2 d3.symm, (d1.symm.sub hsub hf.lt).symm, d2, d3.sub hsub (h3.fr k d2.symm).lt, g1, hsub.ge g2 (by omega), g3⟩, ?_⟩
  · rw [← List.append_assoc, encEs_snoc]; exact hs
  · exact (k.mono (fun b hb _ => by simp [hb])).same (k2.mono (fun b hb _ => by simp [hb]))
/-- All that waited has come out. -/
theorem W22.out {w w1 w2 : World} {p r cw n n' lost lost' nI nO B H : Nat} {F : List Nat} {E O : List (Int × ByteArray)} {vI vO vO' : Value} (h : W22 w p F r cw E n lost vI vO O nI nO B) (hB : B ≤ w.heap.size)
    (hf : FeedAt w1 p F r cw [] n' lost') (k : Fr F w w1) (hs : Sl w2 58 2 vO' (nO + E.length) (encEs O ++ encEs E)) (k2 : Fr vO.ownBlock.toList w1 w2)
    (hat : vO'.ownBlock = vO.ownBlock ∨ vO'.ownBlock = some H) (hH : w1.heap.size ≤ H) : W22 w2 p F r cw [] n' lost' vI vO' (O ++ E) nI (nO + E.length) B ∧ Fr (F ++ vO.ownBlock.toList) w w2 := by
  obtain ⟨h1, h2, h3, d1, d2, d3, g1, g2, g3⟩ := h
  have hsz := k.size
  have hsub : Sub vO'.ownBlock.toList vO.ownBlock.toList w1 := by
    intro b hb
    rcases hat with e | e
    · rw [e] at hb; exact .inl hb
    · rw [e] at hb; simp at hb; subst hb; exact .inr hH
  refine ⟨⟨hf.fr k2 d2, ?_, ?_, d1, (d2.symm.sub hsub hf.lt).symm, (d3.symm.sub hsub (h2.fr k d1.symm).lt).symm, g1, g2, hsub.ge g3 (by omega)⟩, ?_⟩
  · rw [List.append_nil]; exact (h2.fr k d1.symm).fr k2 d3
  · rw [show encEs (O ++ E) = encEs O ++ encEs E by simp [encEs]]; exact hs
  · exact (k.mono (fun b hb _ => by simp [hb])).same (k2.mono (fun b hb _ => by simp [hb]))

theorem writes_out (r wr : Int) (l : List FAct) (v : Value) (w : World) (h : Rd w 3 v l.length (l.flatMap FAct.enc)) (hl : Hid (l.length ≤ maxLen)) (hv : heavyB l = true ∨ ¬ (0 ≤ r ∧ r ≤ 20 ∧ 1 ≤ wr ∧ wr ≤ 20)) :
  Calls Try.prog 7 #[.int .i64 r, .int .i64 wr, v] w fun e w' => e = .returned (.bool true) ∧ Fr [] w w' := by
  rcases Bool.eq_false_or_eq_true (heavyB l) with hh | hh
  · go_enter Try.func7, Try.ntmps7
    go_wp2_with fail
    refine (heavy22 l v w h hl).mono ?_
    rintro e w1 ⟨rfl, rfl⟩
    rw [hh]
    go_wp2
    go_ret
    exact ⟨rfl, Fr.refl _ _⟩
  · have hv : ¬ (0 ≤ r ∧ r ≤ 20 ∧ 1 ≤ wr ∧ wr ≤ 20) := by
      rcases hv with h | h
      · rw [hh] at h; cases h
      · exact h
    go_enter Try.func7, Try.ntmps7
    go_wp2_with fail
    refine (heavy22 l v w h hl).mono ?_
    rintro e w1 ⟨rfl, rfl⟩
    rw [hh]
    go_wp2
    all_goals
      go_ret
      exact ⟨rfl, Fr.refl _ _⟩

set_option maxRecDepth 100000 in
set_option maxHeartbeats 1000000 in
theorem writes_in (r cw : Nat) (l : List FAct) (v : Value) (w : World) (h : Rd w 3 v l.length (l.flatMap FAct.enc)) (hl : Hid (l.length ≤ maxLen)) (hh : heavyB l = false) (hr : r ≤ 20) (hw1 : 1 ≤ cw) (hw2 : cw ≤ 20) :
  Calls Try.prog 7 #[.int .i64 r, .int .i64 cw, v] w fun e w' => e = .returned (.bool true) ∧ Fr [] w w' := by
  obtain ⟨i0, hi, hz0, hz1, hz2⟩ := info_parts infoE
  obtain ⟨hlen, a, c, rfl, hcc⟩ := id h
  have HH := Lib.hid hh
  have HC := Lib.hid hcc
  have HR := Lib.hid h
  clear hcc hlen hh
  go_enter Try.func7, Try.ntmps7
  go_wp2_with fail
  refine (heavy22 l _ w HR.out hl).mono ?_
  rintro e w1 ⟨rfl, rfl⟩
  rw [HH.out]
  clear h HR
  go_wp2_with fail
  refine (feedNew r cw _ (by omega) (by omega) (by omega)).mono ?_
  rintro e w1 ⟨p, F, rfl, h1, hge, hf1⟩
  have hj : W22 w1 p F r cw [] 0 0 (.slice none 0 0) (.slice none 0 0) [] 0 0 w.heap.size :=
    ⟨h1, Sl.nil _ _ _, Sl.nil _ _ _, fun b _ => by simp [Value.ownBlock], fun b _ => by simp [Value.ownBlock], fun b _ => by simp [Value.ownBlock], hge, fun b hb => by simp [Value.ownBlock] at hb, fun b hb => by simp [Value.ownBlock] at hb⟩
  clear h1 hge
  go_wp2_with fail
  go_loopw [9, 10, 11] (fun uI uO i wr => ∃ (k : Nat) (E O : List (Int × ByteArray)) (n lost nI nO : Nat), k ≤ l.length ∧ k ≤ 250 ∧ i = .int .i64 k ∧ nI ≤ k ∧ Aside (nO ≤ nI ∧ nI = O.length + E.length ∧ nO = O.length) ∧ n ≤ k ∧ lost ≤ k ∧ W22 wr p F r cw E n lost uI uO O nI nO w.heap.size ∧ Fr [] w wr) (fun _ _ i _ => 250 - (intOf i).toNat)
  case atStart => exact ⟨0, [], [], 0, 0, 0, 0, Nat.zero_le _, by omega, rfl, by omega, ⟨by omega, by simp, by simp⟩, by omega, by omega, hj, hf1⟩
  case round =>
    clear hj hf1
    obtain ⟨k, E, O, n, lost, nI, nO, hk, hk2, rfl, hnI, hO, hn, hlost, hj, hF⟩ := hrel
    obtain ⟨aI, cI, rfl⟩ := hj.2.1.form
    obtain ⟨aO, cO, rfl⟩ := hj.2.2.1.form
    have hB := hF.size
    by_cases hlt : k < l.length ∧ k < 250
    · obtain ⟨hl1, hl2⟩ := hlt
      rcases HC.out with hz | ⟨b, o, rfl, hcell⟩
      · omega
      have x0 := hcell (k * 3 + 0) (.int .i64 l[k].k) (by rw [flat_get (s := 3) (fun _ => rfl) l k hl1 0 (by omega)]; rfl)
      have x1 := hcell (k * 3 + 1) (.int .i64 l[k].n) (by rw [flat_get (s := 3) (fun _ => rfl) l k hl1 1 (by omega)]; rfl)
      have x2 := hcell (k * 3 + 2) (.string l[k].key) (by rw [flat_get (s := 3) (fun _ => rfl) l k hl1 2 (by omega)]; rfl)
      rw [← Nat.add_assoc] at x0 x1 x2
      rw [Nat.add_zero] at x0
      have hbw : b < w.heap.size := World.block_lt_of_cell? _ _ x0
      have y0 := cell_fr hF x0 (by simp)
      have y1 := cell_fr hF x1 (by simp)
      have y2 := cell_fr hF x2 (by simp)
      obtain ⟨kd, hkd⟩ : ∃ z, l[k].k = z := ⟨_, rfl⟩
      obtain ⟨nn, hnn⟩ : ∃ z, l[k].n = z := ⟨_, rfl⟩
      obtain ⟨key, hkey⟩ : ∃ z, l[k].key = z := ⟨_, rfl⟩
      rw [hkd] at y0
      rw [hnn] at y1
      rw [hkey] at y2
      clear hcell x0 x1 x2 hkd hnn hkey
      have hbF : b ∉ F := fun h => by have := hj.2.2.2.2.2.2.1 b h; omega
      have hbI : b ∉ (Value.slice aI nI cI).ownBlock.toList := fun h => by have := hj.2.2.2.2.2.2.2.1 b h; omega
      by_cases hk1 : kd = 1
      · subst hk1
        go_wp2_with fail
        refine (read hj.1 (by omega) (by omega) key).mono ?_
        rintro e w3 ⟨rfl, ⟨n3, hn3, h3⟩, hf3⟩
        have y0' := y0
        have z2 := cell_fr hf3 y2 hbF
        have z0 := cell_fr hf3 y0 hbF
        by_cases hrd : nR E < r
        · simp only [readB, readE, readL, hrd, if_true, decide_true] at h3 ⊢
          clear y0 y1 y2 hrd
          go_wp2_with (at_builtin; refine wpList_app rfl _ _ _ _ rfl Try.underlying54 hi hz0 hz1 hz2 rfl (.slice aI nI cI) _ nI 1 _ [.int .i64 1, .string key] rfl rfl ?hsl (oneE (O ++ E)) ?src ?c3 ?c4 _ rfl ?_)
          case hsl => exact (hj.2.1.fr hf3 hj.2.2.2.1.symm).fr ((Fr.refl [] _).alloc _) (fun b _ => by simp)
          case src => exact Src.built Try.underlying54 _ [.int .i64 1, .string key] _ _ (by simp) rfl (by simp [Value.oneCell'])
          case c3 => unfold maxLen; omega
          case c4 => omega
          intro b' cp w4 hs4 hf4 hat
          obtain ⟨hj4, hF4⟩ := hj.took (e := (1, key)) hB h3 hf3 hs4 (((Fr.refl _ w3).alloc _).same hf4) hat (by simp)
          have hF5 : Fr [] w w4 := hF.fresh hF4 (fun g hg => by rcases List.mem_append.1 hg with h | h; exact hj.2.2.2.2.2.2.1 g h; exact hj.2.2.2.2.2.2.2.1 g h)
          have k0 := cell_fr hF4 y0' (by intro h; rcases List.mem_append.1 h with h | h; exact hbF h; exact hbI h)
          clear hj hF h3 hf3 hs4 hf4 hat hF4 y0' z0 z2
          go_wp2_with fail
          refine ⟨⟨k + 1, E ++ [(1, key)], O, n3, lost, nI + 1, nO, by omega, by omega, by go_num, by omega, ⟨by have := hO.out; omega, by have := hO.out; simp; omega, hO.out.2.2⟩, by omega, by omega, hj4, hF5⟩, by simp [intOf]; omega⟩
        · simp only [readB, readE, readL, hrd, if_false, decide_false] at h3 ⊢
          have hj4 := hj.feed h3 hf3
          have hF5 : Fr [] w w3 := hF.fresh hf3 hj.2.2.2.2.2.2.1
          clear hj hF h3 hf3 y0 y1 y2 hrd
          go_wp2_with fail
          refine ⟨⟨k + 1, E, O, n3, lost + 1, nI, nO, by omega, by omega, by go_num, by omega, hO, by omega, by omega, hj4, hF5⟩, by simp [intOf]; omega⟩
      by_cases hk2 : kd = 2
      · subst hk2
        go_wp2_with fail
        go_region_held3 (fun w' => w'.cell? ⟨b, o + k * 3 + 2, none⟩ = some (.string key) ∧ w'.cell? ⟨b, o + k * 3 + 1, none⟩ = some (.int .i64 nn)) (first | go_keep | exact ⟨cell_fr (((Fr.refl F _).drew).same hf3) y2 hbF, cell_fr (((Fr.refl F _).drew).same hf3) y1 hbF⟩)
            (first
              | (go_at_call 37; refine (write (hj.1.fr ((Fr.refl [] _).drew) (fun b _ => by simp)) (by omega) nn key).mono ?_; rintro e w3 ⟨rfl, ⟨n3, hn3, h3⟩, hf3⟩))
        replace hf3 := ((Fr.refl F _).drew).same hf3
        have y0' := y0
        have z2 := cell_fr hf3 y2 hbF
        have z1 := cell_fr hf3 y1 hbF
        by_cases hwr : (nn = 2 ∨ nn = 3) ∧ nW E < cw
        · simp only [writeB, writeE, if_pos hwr, decide_eq_true hwr] at h3 ⊢
          clear y0 y1 y2 hwr
          have hs3 := hj.2.1.fr hf3 hj.2.2.2.1.symm
          go_wp2_with fail
          go_region_held3 (fun w' => w'.cell? ⟨b, o + k * 3 + 2, none⟩ = some (.string key) ∧ w'.cell? ⟨b, o + k * 3 + 1, none⟩ = some (.int .i64 nn)) (first | go_keep | exact ⟨cell_fr ((((Fr.refl _ _).drew).alloc _).same hf4) z2 hbI, cell_fr ((((Fr.refl _ _).drew).alloc _).same hf4) z1 hbI⟩)
            (first
              | (refine step_app rfl _ _ _ _ rfl Try.underlying54 hi hz0 hz1 hz2 rfl (.slice aI nI cI) _ nI 1 _ [.int .i64 nn, .string key] rfl rfl (by exact hs3.fr (((Fr.refl [] _).drew).alloc _) (fun b _ => by simp)) (oneE (O ++ E))
                  (by exact Src.built Try.underlying54 w3.drew [.int .i64 nn, .string key] _ _ rfl rfl (by simp [Value.oneCell'])) (by unfold maxLen; omega) (by omega) _ rfl ?_; intro b' cp w4 hs4 hf4 hat))
          obtain ⟨hj4, hF4⟩ := hj.took (e := (nn, key)) hB h3 hf3 hs4 ((((Fr.refl _ _).drew).alloc _).same hf4) hat (by simp)
          have hF5 : Fr [] w w4 := hF.fresh hF4 (fun g hg => by rcases List.mem_append.1 hg with h | h; exact hj.2.2.2.2.2.2.1 g h; exact hj.2.2.2.2.2.2.2.1 g h)
          have k0 := cell_fr hF4 y0' (by intro h; rcases List.mem_append.1 h with h | h; exact hbF h; exact hbI h)
          clear hj hF h3 hf3 hs4 hs3 hf4 hat hF4 y0' z1 z2
          go_wp2_with fail
          refine ⟨⟨k + 1, E ++ [(nn, key)], O, n3, lost, nI + 1, nO, by omega, by omega, by go_num, by omega, ⟨by have := hO.out; omega, by have := hO.out; simp; omega, hO.out.2.2⟩, by omega, by omega, hj4, hF5⟩, by simp [intOf]; omega⟩
        · simp only [writeB, writeE, if_neg hwr, decide_eq_false hwr] at h3 ⊢
          have hj4 := hj.feed h3 hf3
          have hF5 : Fr [] w w3 := hF.fresh hf3 hj.2.2.2.2.2.2.1
          clear hj hF h3 hf3 y0 y1 y2 hwr
          go_wp2_with fail
          refine ⟨⟨k + 1, E, O, n3, lost, nI, nO, by omega, by omega, by go_num, by omega, hO, by omega, by omega, hj4, hF5⟩, by simp [intOf]; omega⟩
      by_cases hk3 : kd = 3
      · subst hk3
        go_wp2_with fail
        refine (drain hj.1 (by have := hO.out; omega)).mono ?_
        rintro e w3 ⟨v3, rfl, hv3, h3, hf3⟩
        obtain ⟨a3, c3, rfl⟩ := (Sl.ofOwn hv3).form
        have hlen : nO + E.length ≤ 250 := by have := hO.out; omega
        clear y0 y1 y2
        go_wp2_with (at_builtin; refine wpList_app rfl _ _ _ _ rfl Try.underlying54 hi hz0 hz1 hz2 rfl (.slice aO nO cO) _ nO E.length _ (encEs E) rfl rfl ?hsl (oneE O) ?src ?c3 ?c4 _ rfl ?_)
        case hsl => exact hj.2.2.1.fr hf3 hj.2.2.2.2.1.symm
        case src => exact (Sl.ofOwn hv3).src Try.underlying54 (oneE E)
        case c3 => unfold maxLen; omega
        case c4 => omega
        intro b' cp w4 hs4 hf4 hat
        obtain ⟨hj4, hF4⟩ := hj.out hB h3 hf3 hs4 hf4 hat (Nat.le_refl _)
        have hF5 : Fr [] w w4 := hF.fresh hF4 (fun g hg => by rcases List.mem_append.1 hg with h | h; exact hj.2.2.2.2.2.2.1 g h; exact hj.2.2.2.2.2.2.2.2 g h)
        clear hj hF h3 hf3 hs4 hf4 hat hF4 hv3
        go_wp2_with fail
        refine ⟨⟨k + 1, [], O ++ E, n, lost, nI, nO + E.length, by omega, by omega, by go_num, by omega, ⟨by have := hO.out; omega, by have := hO.out; simp; omega, by have := hO.out; simp; omega⟩, by omega, by omega, hj4, hF5⟩, by simp [intOf]; omega⟩
      · have n1 : (kd == 1) = false := by simpa using hk1
        have n2 : (kd == 2) = false := by simpa using hk2
        have n3 : (kd == 3) = false := by simpa using hk3
        go_wp2_with fail
        refine ⟨⟨k + 1, E, O, n, lost, nI, nO, by omega, by omega, by go_num, by omega, hO, by omega, by omega, hj, hF⟩, by simp [intOf]; omega⟩
    · have hge : l.length ≤ k ∨ (k < l.length ∧ 250 ≤ k) := by omega
      have hlen : nO + E.length ≤ 250 := by have := hO.out; omega
      have eI : nI = nO + E.length := by have := hO.out; omega
      have eL : nO + E.length = (O ++ E).length := by have := hO.out; simp; omega
      have EI := Lib.hid eI
      have EL := Lib.hid eL
      clear eI eL
      rcases hge with hge | ⟨hge0, hge⟩
      all_goals
        go_wp2_with fail
        refine (drain hj.1 (by have := hO.out; omega)).mono ?_
        rintro e w3 ⟨v3, rfl, hv3, h3, hf3⟩
        obtain ⟨a3, c3, rfl⟩ := (Sl.ofOwn hv3).form
        go_wp2_with (at_builtin; refine wpList_app rfl _ _ _ _ rfl Try.underlying54 hi hz0 hz1 hz2 rfl (.slice aO nO cO) _ nO E.length _ (encEs E) rfl rfl ?hsl (oneE O) ?src ?c3 ?c4 _ rfl ?_)
        case hsl => exact hj.2.2.1.fr hf3 hj.2.2.2.2.1.symm
        case src => exact (Sl.ofOwn hv3).src Try.underlying54 (oneE E)
        case c3 => unfold maxLen; omega
        case c4 => omega
        intro b' cp w4 hs4 hf4 hat
        obtain ⟨hj4, hF4⟩ := hj.out hB h3 hf3 hs4 hf4 hat (Nat.le_refl _)
        have hF5 : Fr [] w w4 := hF.fresh hF4 (fun g hg => by rcases List.mem_append.1 hg with h | h; exact hj.2.2.2.2.2.2.1 g h; exact hj.2.2.2.2.2.2.2.2 g h)
        clear hj hF h3 hf3 hs4 hf4 hat hF4 hv3
        have s1 := hj4.2.2.1
        have s2 := hj4.2.1
        rw [EI.out, List.append_nil] at s2
        go_wp2_with fail
        rw [EI.out]
        rw [EL.out] at s1 s2 ⊢
        refine (events22 _ _ (O ++ E) _ s1 s2 (by rw [← EL.out]; omega)).mono ?_
        rintro e w5 ⟨rfl, hf5⟩
        clear s1 s2
        go_wp2_with fail
        refine (known22 _).mono ?_
        rintro e w6 ⟨rfl, hf6⟩
        go_wp2
        go_ret
        exact ⟨rfl, (hF5.same hf5).same hf6⟩
end Go.Proofs.Ytapfkpkomdmibaa
