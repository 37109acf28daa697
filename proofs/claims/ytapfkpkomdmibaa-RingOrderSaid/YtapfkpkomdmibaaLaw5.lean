/- The walks over hoardlaw5: numbers, known. -/
import Derived.Test.YtapfkpkomdmibaaRef5
set_option linter.unusedVariables false
set_option linter.unusedSimpArgs false
namespace Go.Proofs.Ytapfkpkomdmibaa
open Go.RowKit
attribute [local go_sem ↓] Go.wp_at_zero Go.wp_at_succ

theorem numbers5 (v1 v2 : Value) (L : List Int) (w : World) (h1 : Sl w 3 1 v1 L.length (L.map (Value.int .i64))) (h2 : Sl w 3 1 v2 L.length (L.map (Value.int .i64))) (hl : L.length ≤ 4096) :
  Calls Try.prog 24 #[v1, v2] w fun e w' => e = .returned (.bool true) ∧ Fr [] w w' := by
  obtain ⟨a1, c1, rfl⟩ := h1.form
  obtain ⟨a2, c2, rfl⟩ := h2.form
  go_enter Try.func24, Try.ntmps24
  go_wp2
  go_loopw [5] (fun i wr => ∃ k : Nat, k ≤ L.length ∧ i = .int .i64 k ∧ Fr [] w wr) (fun i _ => L.length - (intOf i).toNat)
  case atStart => exact ⟨0, Nat.zero_le _, rfl, Fr.refl _ _⟩
  case round =>
    obtain ⟨k, hk, rfl, hfr⟩ := hrel
    by_cases hlt : k < L.length
    · obtain ⟨g1, o1, d1, hv1, _⟩ := h1.pos (by omega)
      obtain ⟨g2, o2, d2, hv2, _⟩ := h2.pos (by omega)
      simp at hv1 hv2
      obtain ⟨rfl, rfl⟩ := hv1
      obtain ⟨rfl, rfl⟩ := hv2
      have x1 : w.cell? ⟨g1, o1 + k, none⟩ = some (.int .i64 L[k]) := h1.cell (by simp [hlt])
      have x2 : w.cell? ⟨g2, o2 + k, none⟩ = some (.int .i64 L[k]) := h2.cell (by simp [hlt])
      have y1 := cell_fr hfr x1 (by simp)
      have y2 := cell_fr hfr x2 (by simp)
      obtain ⟨x, hx⟩ : ∃ x, L[k] = x := ⟨_, rfl⟩
      rw [hx] at y1 y2
      clear x1 x2 hx
      go_wp2_with fail
      go_quiet (fail)
      go_wp2
      refine ⟨⟨k + 1, by omega, by go_num, hfr.drewN _⟩, by simp [intOf]; omega⟩
    · go_wp2
      go_ret
      exact ⟨rfl, hfr⟩

set_option maxHeartbeats 400000 in
theorem known5 (w : World) : Calls Try.prog 28 #[] w fun e w' => e = .returned (.bool true) ∧ Fr [] w w' := by
  obtain ⟨i0, hi, hz0, hz1, hz2⟩ := info_parts infoI
  have e0 : clRoom 2 = 2 := rfl
  have e1 : pushB 2 ([] : List Int) = true := rfl
  have e2 : pushB 2 ([1] : List Int) = true := rfl
  have e3 : pushB 2 ([1, 2] : List Int) = false := rfl
  have e4 : pushB 2 ([2] : List Int) = true := rfl
  have l1 : pushL 2 ([] : List Int) 1 = [1] := rfl
  have l2 : pushL 2 ([1] : List Int) 2 = [1, 2] := rfl
  have l3 : pushL 2 ([1, 2] : List Int) 3 = [1, 2] := rfl
  have l4 : pushL 2 ([2] : List Int) 4 = [2, 4] := rfl
  have p1 : popL ([1, 2] : List Int) = [2] := rfl
  have p2 : popB ([1, 2] : List Int) = true := rfl
  have p3 : popV 0 ([1, 2] : List Int) = 1 := rfl
  go_enter Try.func28, Try.ntmps28
  go_wp2_with fail
  refine (newI 2 _).mono ?_
  rintro e w1 ⟨rfl, hr, hf⟩
  rw [e0] at hr
  have hge : Ge w.heap.size [w.heap.size + 1, w.heap.size] := by intro b hb; simp at hb; omega
  go_wp2_with fail
  refine (pushI _ _ _ _ _ _ hr).mono ?_
  rintro e w2 ⟨rfl, hr2, hf2⟩
  rw [l1] at hr2
  rw [e1]
  go_wp2_with fail
  refine (pushI _ _ _ _ _ _ hr2).mono ?_
  rintro e w3 ⟨rfl, hr3, hf3⟩
  rw [l2] at hr3
  rw [e2]
  go_wp2_with fail
  refine (pushI _ _ _ _ _ _ hr3).mono ?_
  rintro e w4 ⟨rfl, hr4, hf4⟩
  rw [l3] at hr4
  rw [e3]
  go_wp2_with fail
  refine (popI _ _ _ _ _ hr4).mono ?_
  rintro e w5 ⟨rfl, hr5, hf5⟩
  rw [p1] at hr5
  rw [p2, p3]
  go_wp2_with fail
  refine (pushI _ _ _ _ _ _ hr5).mono ?_
  rintro e w6 ⟨rfl, hr6, hf6⟩
  rw [l4] at hr6
  rw [e4]
  go_wp2_with fail
  refine (allI _ _ _ _ _ hr6).mono ?_
  rintro e w7 ⟨v, rfl, hv, hf7⟩
  obtain ⟨a, c, rfl⟩ := (Sl.ofOwn hv).form
  have hF : Fr [] w w7 := (((((hf.fresh hf2 hge).fresh hf3 hge).fresh hf4 hge).fresh hf5 hge).fresh hf6 hge).fresh hf7 (by intro b hb; simp at hb)
  clear hr hr2 hr3 hr4 hr5 hr6 hf hf2 hf3 hf4 hf5 hf6 hf7 hge
  go_wp2_with fail
  have s1 := (Sl.ofOwn hv).fr ((Fr.refl [] _).alloc (.cells #[.int .i64 2, .int .i64 4] 3)) (fun b _ => by simp)
  have s2 := Sl.built (size := 1) (e := 3) w7 #[.int .i64 2, .int .i64 4] 2 rfl (by decide)
  refine (numbers5 _ _ [2, 4] _ s1 s2 (by decide)).mono ?_
  rintro e w8 ⟨rfl, hf8⟩
  have hF2 := (hF.alloc (.cells #[.int .i64 2, .int .i64 4] 3)).same hf8
  clear s1 s2 hv hF hf8
  go_wp2
  go_ret
  exact ⟨rfl, hF2⟩

def J5 (wr : World) (p x : Nat) (F G : List Nat) (cap : Nat) (L : List Int) (B : Nat) : Prop :=
  RingI wr p F cap L ∧ Ref5 wr x G cap L ∧ Dis F G ∧ Ge B F ∧ Ge B G
theorem J5.bound {wr : World} {p x : Nat} {F G : List Nat} {cap : Nat} {L : List Int} {B : Nat} (h : J5 wr p x F G cap L B) : L.length ≤ 4096 := by
  obtain ⟨⟨a, f, l, _, _, h1, h2, h3, _⟩, _⟩ := h
  have := h3.1
  omega

theorem J5.step {w w3 w4 : World} {p x : Nat} {F G G' : List Nat} {cap : Nat} {L L' : List Int} {B : Nat} (h : J5 w p x F G cap L B) (hB : B ≤ w.heap.size) (hr : RingI w3 p F cap L') (hf : Fr F w w3)
    (hx : Ref5 w4 x G' cap L') (hs : Sub G' G w3) (hf4 : Fr G w3 w4) : J5 w4 p x F G' cap L' B := by
  obtain ⟨h1, h2, h3, h4, h5⟩ := h
  exact ⟨hr.fr hf4 h3, hx, (h3.symm.sub hs hr.lt).symm, h4, hs.ge h5 (Nat.le_trans hB hf.size)⟩
theorem J5.fr {w w' : World} {p x : Nat} {F G : List Nat} {cap : Nat} {L : List Int} {B : Nat} (h : J5 w p x F G cap L B) (hf : Fr [] w w') : J5 w' p x F G cap L B := by
  obtain ⟨h1, h2, h3, h4, h5⟩ := h
  exact ⟨h1.fr hf (fun b _ => by simp), h2.fr hf (fun b _ => by simp), h3, h4, h5⟩

set_option maxRecDepth 100000 in
set_option maxHeartbeats 1000000 in
theorem ringPlays (room : Int) (a : Option Addr) (n c : Nat) (zs : List Int) (w : World) (hcell : ∀ k, k < n → ∃ b o, a = some ⟨b, o, none⟩ ∧ b < w.heap.size ∧ w.cell? ⟨b, o + k, none⟩ = some (.int .i64 (zs.getD k 0))) :
  Calls Try.prog 4 #[.int .i64 room, .slice a n c] w fun e w' => e = .returned (.bool true) ∧ Fr [] w w' := by
  go_enter Try.func4, Try.ntmps4
  go_wp2_with fail
  refine (newI room _).mono ?_
  rintro e w1 ⟨rfl, hr, hf⟩
  have hge : Ge w.heap.size [w.heap.size + 1, w.heap.size] := by intro b hb; simp at hb; omega
  go_wp2_with fail
  refine (new5 room _).mono ?_
  rintro e w2 ⟨rfl, hx, hf2⟩
  have hj : J5 w2 (w.heap.size + 1) w1.heap.size [w.heap.size + 1, w.heap.size] [w1.heap.size] (clRoom room) [] w.heap.size :=
    ⟨hr.fr hf2 (fun b _ => by simp), hx, (Dis.new (w := w1) (by intro b hb; simp at hb; omega) hr.lt).symm, hge, by intro b hb; have := hf.size; simp at hb; omega⟩
  have hF : Fr [] w w2 := hf.same hf2
  obtain ⟨p, hp⟩ : ∃ p, w.heap.size + 1 = p := ⟨_, rfl⟩
  obtain ⟨x, hxx⟩ : ∃ x, w1.heap.size = x := ⟨_, rfl⟩
  rw [hp, hxx] at hj
  rw [hp, hxx]
  clear hr hf hge hx hf2 hp hxx
  go_wp2_with fail
  go_loopw [7] (fun i wr => ∃ (k : Nat) (L : List Int) (F G : List Nat), k ≤ n ∧ k ≤ 200 ∧ i = .int .i64 k ∧ J5 wr p x F G (clRoom room) L w.heap.size ∧ Fr [] w wr) (fun i _ => 200 - (intOf i).toNat)
  case atStart => exact ⟨0, [], _, _, Nat.zero_le _, by omega, rfl, hj, hF⟩
  case round =>
    obtain ⟨k, L, F, G, hk, hk2, rfl, hj, hF⟩ := hrel
    by_cases hlt : k < n ∧ k < 200
    · obtain ⟨hl1, hl2⟩ := hlt
      obtain ⟨b, o, rfl, hb, hc⟩ := hcell k hl1
      have hc2 := cell_fr hF hc (by simp)
      obtain ⟨y, hy⟩ : ∃ y, zs.getD k 0 = y := ⟨_, rfl⟩
      rw [hy] at hc2 hc
      have HC := Lib.hid hcell
      clear hcell hy
      have hB := hF.size
      have hbF : b ∉ F := fun h => by have := hj.2.2.2.1 b h; omega
      have hbG : b ∉ G := fun h => by have := hj.2.2.2.2 b h; omega
      have hstep : ∀ w3 w4 L' G', RingI w3 p F (clRoom room) L' → Fr F wr w3 → Ref5 w4 x G' (clRoom room) L' → Sub G' G w3 → Fr G w3 w4 → J5 w4 p x F G' (clRoom room) L' w.heap.size ∧ Fr [] w w4 :=
        fun w3 w4 L' G' a1 a2 a3 a4 a5 => ⟨hj.step hB a1 a2 a3 a4 a5, (hF.fresh a2 hj.2.2.2.1).fresh a5 hj.2.2.2.2⟩
      have HS := Lib.hid hstep
      obtain ⟨hr, hx, hd, hgF, hgG⟩ := hj
      clear hstep
      go_wp2_with fail
      · refine (popI _ _ _ _ _ hr).mono ?_
        rintro e w3 ⟨rfl, hr3, hf3⟩
        go_wp2_with fail
        refine (pop5 _ _ _ _ _ (hx.fr hf3 hd.symm)).mono ?_
        rintro e w4 ⟨rfl, G', hx4, hs4, hf4⟩
        obtain ⟨hj4, hF4⟩ := HS.out _ _ _ _ hr3 hf3 hx4 hs4 hf4
        clear hr hx hd hgF hgG hr3 hf3 hx4 hs4 hf4 HS hF hc2
        have hc2 := cell_fr hF4 hc (by simp)
        obtain ⟨M, hM⟩ : ∃ M, popL L = M := ⟨_, rfl⟩
        rw [hM] at hj4
        clear hM
        go_wp2_with fail
        obtain ⟨z, hz⟩ : ∃ z, bits BinOp.and IntKind.i64 y 7 = z := ⟨_, rfl⟩
        rw [hz]
        have HZ := Lib.hid hz
        clear hz
        obtain ⟨hr, hx, hd, hgF, hgG⟩ := hj4
        refine (atI _ _ _ _ z _ hr).mono ?_
        rintro e w5 ⟨rfl, hr5, hf5⟩
        have hc5 := cell_fr (hF4.same hf5) hc (by simp)
        have hx5 := hx.fr hf5 (fun b _ => by simp)
        clear hc2
        go_wp2_with fail
        rw [HZ.out]
        refine (at5 _ _ _ _ z _ hx5).mono ?_
        rintro e w6 ⟨rfl, rfl⟩
        have hF5 := hF4.same hf5
        clear hF4 hf5 hr hx
        obtain ⟨a2, c2, hG, hne, hcap, hlen, hs, hxx⟩ := id hx5
        have x0 := cell_of_block hxx 0
        have x1 := cell_of_block hxx 1
        simp at x0 x1
        have HG := Lib.hid hG
        clear hxx hG
        go_wp2_with fail
        go_region_held3 (fun w' => w'.cell? ⟨x, 0, none⟩ = some (.slice a2 M.length c2) ∧ w'.cell? ⟨x, 1, none⟩ = some (.int .i64 (clRoom room))) (first | go_keep | exact ⟨cell_fr (((Fr.refl [] w5).drew).same hf6) x0 (by simp), cell_fr (((Fr.refl [] w5).drew).same hf6) x1 (by simp)⟩ | exact ⟨cell_fr ((((Fr.refl [] w5).drew).same hf6).same hf7) x0 (by simp), cell_fr ((((Fr.refl [] w5).drew).same hf6).same hf7) x1 (by simp)⟩)
          (first
            | (go_at_call 25; refine (allI p _ F M _ (by exact hr5.fr ((Fr.refl [] _).drew) (fun b _ => by simp))).mono ?_; rintro e w6 ⟨v6, rfl, hv6, hf6⟩)
            | (go_at_call 24; refine (numbers5 _ _ M _ (by exact Sl.ofOwn hv6) (by exact hs.fr (((Fr.refl [] _).drew).same hf6) (fun b _ => by simp)) (by omega)).mono ?_; rintro e w7 ⟨rfl, hf7⟩)
            | (go_at_call 26; refine (lenI p _ F M _ (by exact hr5.fr ((((Fr.refl [] _).drew).same hf6).same hf7) (fun b _ => by simp))).mono ?_; rintro e w8 ⟨rfl, rfl⟩)
            | (go_at_call 27; refine (roomI p _ F M _ (by exact hr5.fr ((((Fr.refl [] _).drew).same hf6).same hf7) (fun b _ => by simp))).mono ?_; rintro e w8 ⟨rfl, rfl⟩))
        have hf8 := (((Fr.refl [] w5).drew).same hf6).same hf7
        have hj8 : J5 w7 p x F _ (clRoom room) M w.heap.size := ⟨hr5.fr hf8 (fun b _ => by simp), hx5.fr hf8 (fun b _ => by simp), hd, hgF, hgG⟩
        have hF8 := hF5.same hf8
        clear hr5 hx5 hf6 hf7 hf8 hF5 hs hv6
        go_wp2_with fail
        refine ⟨⟨k + 1, M, F, _, by omega, by omega, by go_num, hj8, hF8⟩, by simp [intOf]; omega⟩
      · go_region_held3 (fun w' => w'.cell? ⟨b, o + k, none⟩ = some (.int .i64 y)) (first | go_keep | exact cell_fr hf3 (by assumption) hbF | exact cell_fr hf4 (by assumption) hbG)
          (first
            | (go_at_call 20; refine (pushI p _ F L y _ (by exact hr.fr ((Fr.refl [] _).drew) (fun b _ => by simp))).mono ?_; rintro e w3 ⟨rfl, hr3, hf3⟩)
            | (go_at_call 21; refine (push5 x _ G L y _ (by exact hx.fr (((Fr.refl F _).drew).same hf3) hd.symm)).mono ?_; rintro e w4 ⟨rfl, G', hx4, hs4, hf4⟩))
        obtain ⟨hj4, hF4⟩ := HS.out _ _ _ _ hr3 (((Fr.refl F _).drew).same hf3) hx4 hs4 hf4
        clear hr hx hd hgF hgG hr3 hf3 hx4 hs4 hf4 HS hF hc2
        have hc2 := cell_fr hF4 hc (by simp)
        obtain ⟨M, hM⟩ : ∃ M, pushL (clRoom room) L y = M := ⟨_, rfl⟩
        rw [hM] at hj4
        clear hM
        go_wp2_with fail
        obtain ⟨z, hz⟩ : ∃ z, bits BinOp.and IntKind.i64 y 7 = z := ⟨_, rfl⟩
        rw [hz]
        have HZ := Lib.hid hz
        clear hz
        obtain ⟨hr, hx, hd, hgF, hgG⟩ := hj4
        refine (atI _ _ _ _ z _ hr).mono ?_
        rintro e w5 ⟨rfl, hr5, hf5⟩
        have hc5 := cell_fr (hF4.same hf5) hc (by simp)
        have hx5 := hx.fr hf5 (fun b _ => by simp)
        clear hc2
        go_wp2_with fail
        rw [HZ.out]
        refine (at5 _ _ _ _ z _ hx5).mono ?_
        rintro e w6 ⟨rfl, rfl⟩
        have hF5 := hF4.same hf5
        clear hF4 hf5 hr hx
        obtain ⟨a2, c2, hG, hne, hcap, hlen, hs, hxx⟩ := id hx5
        have x0 := cell_of_block hxx 0
        have x1 := cell_of_block hxx 1
        simp at x0 x1
        have HG := Lib.hid hG
        clear hxx hG
        go_wp2_with fail
        go_region_held3 (fun w' => w'.cell? ⟨x, 0, none⟩ = some (.slice a2 M.length c2) ∧ w'.cell? ⟨x, 1, none⟩ = some (.int .i64 (clRoom room))) (first | go_keep | exact ⟨cell_fr (((Fr.refl [] w5).drew).same hf6) x0 (by simp), cell_fr (((Fr.refl [] w5).drew).same hf6) x1 (by simp)⟩ | exact ⟨cell_fr ((((Fr.refl [] w5).drew).same hf6).same hf7) x0 (by simp), cell_fr ((((Fr.refl [] w5).drew).same hf6).same hf7) x1 (by simp)⟩)
          (first
            | (go_at_call 25; refine (allI p _ F M _ (by exact hr5.fr ((Fr.refl [] _).drew) (fun b _ => by simp))).mono ?_; rintro e w6 ⟨v6, rfl, hv6, hf6⟩)
            | (go_at_call 24; refine (numbers5 _ _ M _ (by exact Sl.ofOwn hv6) (by exact hs.fr (((Fr.refl [] _).drew).same hf6) (fun b _ => by simp)) (by omega)).mono ?_; rintro e w7 ⟨rfl, hf7⟩)
            | (go_at_call 26; refine (lenI p _ F M _ (by exact hr5.fr ((((Fr.refl [] _).drew).same hf6).same hf7) (fun b _ => by simp))).mono ?_; rintro e w8 ⟨rfl, rfl⟩)
            | (go_at_call 27; refine (roomI p _ F M _ (by exact hr5.fr ((((Fr.refl [] _).drew).same hf6).same hf7) (fun b _ => by simp))).mono ?_; rintro e w8 ⟨rfl, rfl⟩))
        have hf8 := (((Fr.refl [] w5).drew).same hf6).same hf7
        have hj8 : J5 w7 p x F _ (clRoom room) M w.heap.size := ⟨hr5.fr hf8 (fun b _ => by simp), hx5.fr hf8 (fun b _ => by simp), hd, hgF, hgG⟩
        have hF8 := hF5.same hf8
        clear hr5 hx5 hf6 hf7 hf8 hF5 hs hv6
        go_wp2_with fail
        refine ⟨⟨k + 1, M, F, _, by omega, by omega, by go_num, hj8, hF8⟩, by simp [intOf]; omega⟩
    · obtain ⟨hr, hx, hd, hgF, hgG⟩ := hj
      obtain ⟨a2, c2, hG, hne, hcap, hlen, hs, hxx⟩ := id hx
      have x1 := cell_of_block hxx 1
      simp at x1
      clear hxx hG hcell hs hne
      have hge : n ≤ k ∨ (k < n ∧ 200 ≤ k) := by omega
      have fin : ∀ w7 : World, Fr [] wr.drew w7 → Fr [] w w7 := fun _ h => (hF.drew).same h
      have FIN := Lib.hid fin
      clear fin
      rcases hge with hge | ⟨hge0, hge⟩
      all_goals
        go_wp2_with fail
        go_region_held3 (fun w' => w'.cell? ⟨x, 1, none⟩ = some (.int .i64 (clRoom room))) (first | go_keep | exact cell_fr (((Fr.refl [] wr).drew).same hf7) x1 (by simp))
          (first
            | (go_at_call 27; refine (roomI p _ F L _ (by exact hr.fr ((Fr.refl [] _).drew) (fun b _ => by simp))).mono ?_; rintro e w8 ⟨rfl, rfl⟩)
            | (go_at_call 28; refine (known5 _).mono ?_; rintro e w7 ⟨rfl, hf7⟩))
        go_wp2
        go_ret
        exact ⟨rfl, FIN.out _ hf7⟩
end Go.Proofs.Ytapfkpkomdmibaa
